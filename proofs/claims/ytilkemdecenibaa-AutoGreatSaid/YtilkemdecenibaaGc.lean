/-
  slices.Repeat of one sound.
-/
import Derived.Test.YtilkemdecenibaaMap
import Derived.Test.YtilkemdecenibaaMk
import Derived.Laws.CopyOwn
import Derived.BigRegion
namespace Go.Proofs.Ytilkemdecenibaa
open Go.RowKit
set_option maxHeartbeats 2000000 in
theorem mul64_any (K : Int) (w : World) (h : 0 ≤ K ∧ K ≤ 33) :
    Calls Try.prog 115 #[.int .u64 1, .int .u64 K] w fun e w' => e = .returned (.tuple #[.int .u64 0, .int .u64 K]) ∧ w' = w := by
  have h : K = 0 ∨ K = 1 ∨ K = 2 ∨ K = 3 ∨ K = 4 ∨ K = 5 ∨ K = 6 ∨ K = 7 ∨ K = 8 ∨ K = 9 ∨ K = 10 ∨ K = 11 ∨ K = 12 ∨ K = 13 ∨ K = 14 ∨ K = 15 ∨ K = 16 ∨ K = 17 ∨ K = 18 ∨ K = 19 ∨ K = 20 ∨ K = 21 ∨ K = 22 ∨ K = 23 ∨ K = 24 ∨ K = 25 ∨ K = 26 ∨ K = 27 ∨ K = 28 ∨ K = 29 ∨ K = 30 ∨ K = 31 ∨ K = 32 ∨ K = 33 := by omega
  rcases h with rfl | rfl | rfl | rfl | rfl | rfl | rfl | rfl | rfl | rfl | rfl | rfl | rfl | rfl | rfl | rfl | rfl | rfl | rfl | rfl | rfl | rfl | rfl | rfl | rfl | rfl | rfl | rfl | rfl | rfl | rfl | rfl | rfl | rfl
  all_goals
    go_enter Try.func115, Try.ntmps115
    go_wp2_with fail
    go_ret2
    exact ⟨rfl, rfl⟩
theorem mul_any (K : Int) (w : World) (h : 0 ≤ K ∧ K ≤ 33) :
    Calls Try.prog 82 #[.int .u64 1, .int .u64 K] w fun e w' => e = .returned (.tuple #[.int .u64 0, .int .u64 K]) ∧ w' = w := by
  have hm := mul64_any K w h
  replace h := Lib.hid h
  go_enter Try.func82, Try.ntmps82
  go_wp2_with fail
  refine hm.mono ?_
  rintro e w1 ⟨rfl, rfl⟩
  go_wp2_with fail
  go_ret2
  exact ⟨rfl, rfl⟩
theorem run_copy_rowK {P : Program} (k : Nat) (w : World) (dT sT ty elem : TypeId) (g o dLen dCap : Nat) (a : Addr) (sLen sCap : Nat) (cur : Array Value) (t : TypeId) (cs : List Value)
    (hu : P.underlying dT = some (.slice elem)) (hs : (P.info? elem).map (·.size) = some k)
    (hg : w.heap[g]? = some (.cells cur t (0, 0))) (hn : Nat.min sLen dLen * k = cs.length)
    (hsrc : ∀ j v, cs[j]? = some v → w.cell? (a.add j) = some v) (hfit : o + cs.length ≤ cur.size) (h1 : ∀ v ∈ cs, v.oneCell' = true) :
    (Builtin.copy_ #[dT, sT] ty #[.slice (some ⟨g, o, none⟩) dLen dCap, .slice (some a) sLen sCap]).run P w =
      .ok (goInt (Nat.min sLen dLen)) (w.setRow g (cur.toList.take o ++ cs ++ cur.toList.drop (o + cs.length)).toArray) := by
  have hl := run_loadCells_list (P := P) w a cs hsrc
  have hst := run_storeCells_at P g o t cs 0 cur w hg (by simpa using hfit) h1
  cases hq : P.info? elem with
  | none => simp [hq] at hs
  | some i =>
    have hi : i.size = k := by simpa [hq] using hs
    simp [Builtin.copy_, run_underlying hu, Builtin.lenOf, Builtin.firstCells, sizeOf, typeInfo, hq, hi, hn, hl, hst]
theorem wpList_copy_k {P : Program} {w : World} {ops : Array Oper} {rest : List Oper} {o : Oper} {a : Act} {Q : Exit → Act → World → Prop} (k : Nat) (hgd : o.guard = none) (d s : Operand) (dT sT : TypeId)
    (ho : o.op = .call { callee := .builtin .copy, args := #[d, s], argTypes := #[dT, sT] }) (elem : TypeId) (hu : P.underlying dT = some (.slice elem)) (hsz : (P.info? elem).map (·.size) = some k)
    (g off dLen dCap : Nat) (ad : Addr) (sLen sCap : Nat) (hd : a.eval d = .slice (some ⟨g, off, none⟩) dLen dCap) (hs : a.eval s = .slice (some ad) sLen sCap)
    (cur : Array Value) (t : TypeId) (hg : w.heap[g]? = some (.cells cur t (0, 0))) (cs : List Value) (hn : Nat.min sLen dLen * k = cs.length)
    (hsrc : ∀ j v, cs[j]? = some v → w.cell? (ad.add j) = some v) (hfit : off + cs.length ≤ cur.size) (h1 : ∀ v ∈ cs, v.oneCell' = true)
    (h : wpList P ops Q rest (a.put o.dst (goInt (Nat.min sLen dLen))) (w.setRow g (cur.toList.take off ++ cs ++ cur.toList.drop (off + cs.length)).toArray)) : wpList P ops Q (o :: rest) a w := by
  refine wpList_plain hgd fun K hK => ?_
  have hrun := run_copy_rowK (P := P) k w dT sT o.type elem g off dLen dCap ad sLen sCap cur t cs hu hsz hg hn hsrc hfit h1
  unfold Oper.wp
  rw [List.append_assoc] at h
  simp [execOp, ho, resolve, invoke, builtin, hd, hs, hrun, Result.andThen]
  exact hK _ _ h
theorem flatMap_len {α : Type} {k : Nat} {enc : α → List Value} (hk : ∀ x, (enc x).length = k) : ∀ xs : List α, (xs.flatMap enc).length = xs.length * k
  | [] => by simp
  | x :: xs => by rw [List.flatMap_cons, List.length_append, hk, flatMap_len hk xs, List.length_cons, Nat.succ_mul]; omega
def zS0 : Snd := ⟨0#32, 0#32⟩
theorem zrep : ∀ k : Nat, (List.replicate k zS0).flatMap Snd.enc = List.replicate (k * 2) (.int .u32 0)
  | 0 => rfl
  | k + 1 => by
    rw [List.replicate_succ, List.flatMap_cons, zrep k, Nat.succ_mul, Nat.add_comm, ← List.replicate_append_replicate]; rfl
/-- A row of k sounds, of which q are laid. -/
def gapS (s : Snd) (k q : Nat) : List Value := (List.replicate q s ++ List.replicate (k - q) zS0).flatMap Snd.enc
theorem repS_len (s : Snd) (q : Nat) : ((List.replicate q s).flatMap Snd.enc).length = q * 2 := by
  rw [flatMap_len Snd.len, List.length_replicate]
theorem gapS_len {s : Snd} {k q : Nat} (h : q ≤ k) : (gapS s k q).length = k * 2 := by
  unfold gapS; rw [flatMap_len Snd.len]; simp; omega
theorem gapS_splice {s : Snd} {k q m : Nat} (h : q + m ≤ k) : splice (gapS s k q) (q * 2) ((List.replicate m s).flatMap Snd.enc) = gapS s k (q + m) := by
  unfold splice gapS
  have e : k - q = m + (k - (q + m)) := by omega
  rw [repS_len, List.flatMap_append, List.take_left' (repS_len s q), ← List.drop_drop, List.drop_left' (repS_len s q), e, ← List.replicate_append_replicate (n := m), List.flatMap_append, List.drop_left' (repS_len _ m), ← List.replicate_append_replicate (n := q), List.flatMap_append, List.flatMap_append, List.append_assoc]
theorem gapS_cell {w : World} {G k q : Nat} {s : Snd} (h : w.heap[G]? = some (.cells (gapS s k q).toArray 24 (0, 0))) (m : Nat) (hm : m ≤ q) : ∀ j v, ((List.replicate m s).flatMap Snd.enc)[j]? = some v → w.cell? ⟨G, j, none⟩ = some v := by
  intro j v hj
  simp only [World.cell?]
  rw [h]
  have hj2 : j < m * 2 := by
    have := (List.getElem?_eq_some_iff.1 hj).1
    rwa [repS_len] at this
  have : (gapS s k q)[j]? = some v := by
    unfold gapS
    obtain ⟨r, rfl⟩ : ∃ r, q = m + r := ⟨q - m, by omega⟩
    rw [← List.replicate_append_replicate, List.append_assoc, List.flatMap_append, List.getElem?_append_left (by rw [repS_len]; exact hj2)]
    exact hj
  simpa using this
theorem size_snd : (Try.prog.info? 24).map (·.size) = some 2 := by kernel_rfl
theorem own_gapS {B G k : Nat} {s : Snd} {w : World} (hB : B ≤ G) (hk : k ≤ 60000) (h : w.heap[G]? = some (.cells (gapS s k k).toArray 24 (0, 0))) : OwnS B 24 w (.slice (some ⟨G, 0, none⟩) k k) (List.replicate k s) := by
  have hf : (List.replicate k s).flatMap Snd.enc = gapS s k k := by unfold gapS; simp
  have hl : (gapS s k k).length = k * 2 := gapS_len (Nat.le_refl _)
  refine ⟨by rw [hf, hl]; simp, .inr ⟨G, k, _, by simp, hB, h, by simp, by unfold maxLen; omega, ?_, ?_⟩⟩
  · simp [hl]
  · rw [hf]; simp only [List.length_replicate]; exact List.take_of_length_le (by rw [hl]; simp)
theorem mades_eq (k : Nat) (s : Snd) : (madeCells (Value.agg #[.int .u32 0, .int .u32 0]).cells (k * 2)) = (gapS s k 0).toArray := by
  unfold gapS
  rw [List.replicate_zero, List.nil_append, Nat.sub_zero, zrep, ← Array.toList_inj]
  simp only [madeCells, Array.toList_map, Array.toList_range]
  rw [List.map_congr_left (g := fun _ => Value.int IntKind.u32 0)]
  · simp [List.map_const']
  · intro i _
    rcases Nat.mod_two_eq_zero_or_one i with h | h <;> (show #[Value.int IntKind.u32 0, Value.int IntKind.u32 0][i % 2]! = _; rw [h]; rfl)
theorem mk_rd (w : World) {k : Nat} (hk : k ≤ 60000) : RdS (w.alloc (.cells (madeCells (Value.agg #[.int .u32 0, .int .u32 0]).cells (k * 2)) 24)) (some ⟨w.heap.size, 0, none⟩) k k (List.replicate k zS0) := by
  refine OwnK.rdc Snd.len (own_gapS (B := w.heap.size) (Nat.le_refl _) hk ?_)
  have h : gapS zS0 k k = gapS zS0 k 0 := by unfold gapS; simp
  rw [h, heap_alloc_new]
  exact congrArg (fun z => some (Obj.cells z 24 (0, 0))) (mades_eq k zS0)
theorem add_none' (b o j : Nat) : (⟨b, o, none⟩ : Addr).add j = ⟨b, o + j, none⟩ := by
  unfold Addr.add
  split
  · rename_i h; subst h; rfl
  · rfl
theorem encS_one (m : Nat) (s : Snd) : ∀ v ∈ (List.replicate m s).flatMap Snd.enc, v.oneCell' = true := by
  intro v hv
  obtain ⟨x, _, hx⟩ := List.mem_flatMap.1 hv
  exact Snd.one x v hx
/-- The walk stands still at a copy. -/
structure Stop (p : Prop) : Prop where
  h : p
theorem stop_copy {P : Program} {w : World} {ops : Array Oper} {rest : List Oper} {o : Oper} {a : Act} {Q : Exit → Act → World → Prop} (d s : Operand) (dT sT : TypeId)
    (_ : o.op = .call { callee := .builtin .copy, args := #[d, s], argTypes := #[dT, sT] }) (h : Stop (wpList P ops Q (o :: rest) a w)) : wpList P ops Q (o :: rest) a w := h.h
set_option maxHeartbeats 1000000 in
set_option maxRecDepth 20000 in
theorem rep_any (gx k : Nat) (s : Snd) (w : World) (hr : RdS w (some ⟨gx, 0, none⟩) 1 1 [s]) (h5 : k ≤ 33) :
    Calls Try.prog 52 #[.slice (some ⟨gx, 0, none⟩) 1 1, .int .i64 k] w fun e w' => ∃ v, e = .returned v ∧ OwnS w.heap.size 24 w' v (List.replicate k s) ∧ Ext w w' := by
  have hmul := fun W => mul_any (k : Int) W ⟨by omega, by omega⟩
  have hk0 : decide ((k : Int) < 0) = false := by simp
  have hk9 : decide ((9223372036854775807 : Int) < (k : Int)) = false := by simp; omega
  have hmk := fun W => run_mk (k := 2) (P := Try.prog) 28 Try.underlying28 info_snd k (by omega) (by decide) W
  obtain ⟨bx, ox, xx, heq, hxx, hbx, hcx, hcx2⟩ := hr.snd (i := 0) (by decide)
  cases heq
  have hx1 : xx = s := by have := hxx.out; simp at this; exact this.symm
  subst hx1
  have hmade := mades_eq k xx
  go_enter Try.func52, Try.ntmps52
  go_wp2_with fail
  refine (hmul _).mono ?_
  rintro e w1 ⟨rfl, rfl⟩
  clear hmul
  rename World => w
  go_wp2_with (with_reducible refine stop_copy _ _ _ _ rfl ?_)
  constructor
  obtain ⟨q0, hq0⟩ : ∃ q0, q0 = Nat.min 1 k := ⟨_, rfl⟩
  have hq1 : q0 ≤ 1 ∧ q0 ≤ k ∧ (1 ≤ k → 1 ≤ q0) := by rw [hq0, show Nat.min 1 k = if 1 ≤ k then 1 else k from Nat.min_def]; split <;> omega
  have hG1 : (w.alloc (Obj.cells (madeCells #[Value.int IntKind.u32 0, Value.int IntKind.u32 0] (k * 2)) 24)).heap[w.heap.size]? = some (.cells (gapS xx k 0).toArray 24 (0, 0)) := by
    have := heap_alloc_new w (Obj.cells (madeCells #[Value.int IntKind.u32 0, Value.int IntKind.u32 0] (k * 2)) 24)
    rw [this]; exact congrArg (fun z => some (Obj.cells z 24 (0, 0))) hmade
  have hb1 := (Ext.alloc1 w (Obj.cells (madeCells #[Value.int IntKind.u32 0, Value.int IntKind.u32 0] (k * 2)) 24)).bel
  have hs0 : ∀ j v, ((List.replicate q0 xx).flatMap Snd.enc)[j]? = some v → (w.alloc (Obj.cells (madeCells #[Value.int IntKind.u32 0, Value.int IntKind.u32 0] (k * 2)) 24)).cell? ((⟨gx, 0, none⟩ : Addr).add j) = some v := fun j v hj => by
    have : q0 = 0 ∨ q0 = 1 := by omega
    rcases this with h | h
    · rw [h] at hj; simp at hj
    · rw [h] at hj
      rw [add_none', Nat.zero_add]
      match j with
      | 0 => cases hj; exact (Ext.alloc1 w _).cellv hcx
      | 1 => cases hj; exact (Ext.alloc1 w _).cellv hcx2
      | j + 2 => simp [Snd.enc] at hj
  refine wpList_copy_k 2 rfl _ _ 28 28 rfl 24 Try.underlying28 size_snd w.heap.size 0 k k ⟨gx, 0, none⟩ 1 1 rfl rfl (gapS xx k 0).toArray 24 hG1 ((List.replicate q0 xx).flatMap Snd.enc) (by rw [repS_len, ← hq0]) hs0 (by rw [repS_len]; simp [gapS_len]; omega) (encS_one q0 xx) ?_
  generalize hW2 : World.setRow _ w.heap.size _ = w2
  have hsp := gapS_splice (s := xx) (k := k) (q := 0) (m := q0) (by omega)
  rw [Nat.zero_add, Nat.zero_mul] at hsp
  have hG2 : w2.heap[w.heap.size]? = some (.cells (gapS xx k q0).toArray 24 (0, 0)) := by
    rw [← hW2, setRow_heap _ _ _ _ 24 _ hG1, ← hsp]
    simp [splice]
  have hb2 : Below w.heap.size w w2 := by
    rw [← hW2]
    exact below_setRow hb1 (Nat.le_refl _) _
  rw [← hq0]
  replace hsp := Lib.hid hsp
  replace hW2 := Lib.hid hW2
  replace hG2 := Lib.hid hG2
  clear hmk hmade hsp hcx hcx2 hxx hr hbx hG1 hb1 hs0 hW2
  replace hq0 := Lib.hid hq0
  generalize hG : w.heap.size = G at *
  replace hG := Lib.hid hG
  go_wp2_with fail
  go_loopw [8] (fun nv wr => ∃ q : Nat, (1 ≤ k → 1 ≤ q) ∧ q ≤ k ∧ nv = .int .i64 q ∧ Hid (wr.heap[G]? = some (.cells (gapS xx k q).toArray 24 (0, 0))) ∧ Below G w wr) (fun nv _ => k - (intOf nv).toNat)
  case atStart => exact ⟨q0, hq1.2.2, hq1.2.1, rfl, hG2, hb2⟩
  case round =>
    obtain ⟨q, hq1, hqk, rfl, hGq, hbq⟩ := hrel
    by_cases hlt : q < k
    · have hki : (q : Int) < (k : Int) := by omega
      have hne : (k : Int) ≠ (q : Int) := by omega
      have hne2 : k ≠ q := by omega
      have hki2 : (q : Int) ≤ (k : Int) := by omega
      obtain ⟨m, hm⟩ : ∃ m, m = Nat.min q (k - q) := ⟨_, rfl⟩
      have hm1 : m ≤ k - q := by rw [hm]; exact Nat.min_le_right _ _
      have hmq : m ≤ q := by rw [hm]; exact Nat.min_le_left _ _
      have hm0 : 1 ≤ m := by rw [hm, show Nat.min q (k - q) = if q ≤ k - q then q else k - q from Nat.min_def]; split <;> omega
      have hsp := gapS_splice (s := xx) (k := k) (q := q) (m := m) (by omega)
      have hsrc : ∀ j v, ((List.replicate m xx).flatMap Snd.enc)[j]? = some v → wr.cell? ((⟨G, 0, none⟩ : Addr).add j) = some v := fun j v hj => by
        rw [add_none', Nat.zero_add]
        exact gapS_cell hGq.out m hmq j v hj
      have hcp := run_copy_rowK (P := Try.prog) 2 wr.drew 28 28 3 24 G (q * 2) (k - q) (k - q) ⟨G, 0, none⟩ q k (gapS xx k q).toArray 24 ((List.replicate m xx).flatMap Snd.enc) Try.underlying28 size_snd hGq.out (by rw [repS_len, ← hm]) hsrc (by rw [repS_len]; simp [gapS_len hqk]; omega) (encS_one m xx)
      rw [← hm] at hcp
      generalize hW4 : wr.drew.setRow G _ = w4 at hcp
      have hG4 : w4.heap[G]? = some (.cells (gapS xx k (q + m)).toArray 24 (0, 0)) := by
        rw [← hW4, setRow_heap wr.drew G _ _ 24 _ hGq.out, ← hsp]
        simp [splice]
      have hb4 : Below G w w4 := by
        rw [← hW4]
        exact below_setRow (Below.drew hbq) (Nat.le_refl _) _
      replace hsp := Lib.hid hsp
      replace hW4 := Lib.hid hW4
      replace hG4 := Lib.hid hG4
      replace hm := Lib.hid hm
      have hqm : q + m ≤ k := by omega
      clear hsrc
      go_wp2_with fail
      go_region
      go_wp2_with fail
      (first | exact ⟨⟨q + m, by omega, hqm, by go_num, hG4, hb4⟩, (by simp [intOf]; omega)⟩ | (go_roundw; case rel => exact ⟨q + m, by omega, hqm, by go_num, hG4, hb4⟩; case measure => exact (by simp [intOf]; omega)))
    · obtain rfl : q = k := by omega
      have hown := own_gapS (B := w.heap.size) (G := G) (k := q) (w := wr) (by rw [hG.out]; exact Nat.le_refl _) (by omega) hGq.out
      replace hown := Lib.hid hown
      go_wp2_with fail
      go_ret
      exact ⟨_, rfl, hown.out, ⟨by rw [hG.out]; exact hbq⟩⟩
end Go.Proofs.Ytilkemdecenibaa
