/-
  A region that draws its order: floating loads (they hold while S stands), floating operations that ask nothing of memory, and all others in one order. What is asked of S behind an operation goes by all operations ahead of it, not by its neighbours alone.
  The sounds that a law puts in: law.put.
-/
import Derived.Test.YtadncjpknckaaaaGreatDoorA04
import Derived.Test.YtadncjpknckaaaaGreatDoorA14
namespace Go.Proofs.YtadncjpknckaaaaGreatDoor
open Go.RowKit
section
variable {P : Program} {ops : Array Oper} {Q : Exit → Act → World → Prop} {md : Region.Mode} {S : World → Prop} {I : List Nat}
/-- Is i ahead of j in every order? -/
def ancB (md : Region.Mode) (ops : Array Oper) : Nat → Nat → Nat → Bool
  | 0, _, _ => false
  | f + 1, j, i => match ops[j]? with
    | some o => o.after.any fun e => Region.binds md e && (e.on == i || ancB md ops f e.on i)
    | none => false
def needA (md : Region.Mode) (ops : Array Oper) (I : List Nat) (j : Nat) : Bool := I.any fun i => !ancB md ops ops.size j i
/-- What is ahead of what is done is done. -/
def Shut (md : Region.Mode) (ops : Array Oper) (listed : Array Bool) : Prop := ∀ (j : Nat) (o : Oper), ops[j]? = some o → listed.getD j true = true → ∀ e ∈ o.after, Region.binds md e = true → listed.getD e.on true = true
def shutB (md : Region.Mode) (ops : Array Oper) (listed : Array Bool) : Bool := (List.range ops.size).all fun j => match ops[j]? with
  | some o => !listed.getD j true || o.after.all fun e => !Region.binds md e || listed.getD e.on true
  | none => true
theorem shut_of {listed : Array Bool} (h : shutB md ops listed = true) : Shut md ops listed := by
  intro j o ho hl e he hb
  have hj : j < ops.size := (Array.getElem?_eq_some_iff.1 ho).1
  have h1 := List.all_eq_true.1 h j (List.mem_range.2 hj)
  simp only [ho, hl, Bool.not_true, Bool.false_or] at h1
  have h2 := (Array.all_eq_true_iff_forall_mem.1 h1) e he
  simpa [hb] using h2
theorem getD_set_mono {listed : Array Bool} {i j : Nat} (h : listed.getD j true = true) : (listed.setIfInBounds i true).getD j true = true := by
  by_cases hij : i = j
  · subst hij
    rw [Array.getD_eq_getD_getElem?, Array.getElem?_setIfInBounds]
    simp only [if_true]
    split <;> rfl
  · rw [getD_set_ne true hij]; exact h
theorem ready_listed {listed : Array Bool} {j : Nat} {o : Oper} (hj : j ∈ Region.ready md ops listed) (ho : ops[j]? = some o) : ∀ e ∈ o.after, Region.binds md e = true → listed.getD e.on true = true := by
  obtain ⟨_, oj, hoj, hall⟩ := mem_ready.1 hj
  rw [ho] at hoj; cases hoj
  intro e he hb
  have := hall e he hb
  rcases Nat.lt_or_ge e.on listed.size with h' | h'
  · simp [h'] at this ⊢; exact this
  · simp [Array.getElem?_eq_none h'] at this ⊢
theorem Shut.set {listed : Array Bool} (h : Shut md ops listed) {j : Nat} (hj : j ∈ Region.ready md ops listed) : Shut md ops (listed.setIfInBounds j true) := by
  intro k o ho hl e he hb
  by_cases hjk : j = k
  · subst hjk
    exact getD_set_mono (ready_listed hj ho e he hb)
  · rw [getD_set_ne true hjk] at hl
    exact getD_set_mono (h k o ho hl e he hb)
theorem anc_listed {listed : Array Bool} (h : Shut md ops listed) {i : Nat} : ∀ (f : Nat) (j : Nat) (o : Oper), ops[j]? = some o → (∀ e ∈ o.after, Region.binds md e = true → listed.getD e.on true = true) → ancB md ops f j i = true → listed.getD i true = true
  | 0, _, _, _, _, h => by simp [ancB] at h
  | f + 1, j, o, ho, hl, ha => by
    unfold ancB at ha
    simp only [ho] at ha
    obtain ⟨e, he, h1⟩ := Array.any_eq_true'.1 ha
    rw [Bool.and_eq_true, Bool.or_eq_true, beq_iff_eq] at h1
    obtain ⟨hb, h1⟩ := h1
    rcases h1 with h1 | h1
    · rw [← h1]; exact hl e he hb
    · have hle := hl e he hb
      cases ho2 : ops[e.on]? with
      | none =>
        cases f with
        | zero => simp [ancB] at h1
        | succ f => unfold ancB at h1; simp [ho2] at h1
      | some o2 => exact anc_listed h f e.on o2 ho2 (h e.on o2 ho2 hle) h1
theorem needA_of {listed : Array Bool} (h : Shut md ops listed) {i j : Nat} {o : Oper} (hI : i ∈ I) (hj : j ∈ Region.ready md ops listed) (ho : ops[j]? = some o) (hi : listed.getD i true = false) : needA md ops I j = true := by
  refine List.any_eq_true.2 ⟨i, hI, ?_⟩
  cases ha : ancB md ops ops.size j i
  · rfl
  · have := anc_listed h _ j o ho (ready_listed hj ho) ha
    rw [hi] at this; cases this
def wpH (P : Program) (md : Region.Mode) (ops : Array Oper) (Q : Exit → Act → World → Prop) (S : World → Prop) (I : List Nat) : Nat → Array Bool → Act → World → Prop
  | 0, listed, a, w => Region.ready md ops listed = [] ∧ Q .normal a w
  | fuel + 1, listed, a, w => (Region.ready md ops listed = [] → Q .normal a w) ∧
      ∀ j ∈ Region.ready md ops listed, wpOp P ops Q j (fun a' w' => (needA md ops I j = true → S w') ∧ wpH P md ops Q S I fuel (listed.setIfInBounds j true) a' w') a w
theorem wpAny_of_wpH : ∀ (fuel : Nat) (listed : Array Bool) (a : Act) (w : World), wpH P md ops Q S I fuel listed a w → wpAny P md ops Q fuel listed a w
  | 0, _, _, _, h => h
  | fuel + 1, _, _, _, h => ⟨h.1, fun i hi => wpOp_mono (fun a' w' h' => wpAny_of_wpH fuel _ a' w' h'.2) (h.2 i hi)⟩
theorem unlisted {listed : Array Bool} {i : Nat} (h : i ∈ Region.ready md ops listed) : listed.getD i true = false := by
  have h0 := (mem_ready.1 h).1
  rcases Nat.lt_or_ge i listed.size with h' | h'
  · simp [h'] at h0 ⊢; exact h0
  · simp [Array.getElem?_eq_none h'] at h0
theorem wpH_first {i : Nat} {oi : Oper} {v : Value} {S' : World → Prop} (hI : (i ∈ I ∧ ∀ w, S w → S' w) ∨ (needA md ops I i = false ∧ ∀ w, S' w)) (hi : ops[i]? = some oi) (hsel : ∀ (j : Nat) (o : Oper) cs b, ops[j]? = some o → o.op ≠ .select cs b)
    (hQ : ∀ c a w, Q (.panic c) (a.put oi.dst v) w → Q (.panic c) a w) :
    ∀ (fuel : Nat) (listed : Array Bool) (a : Act) (w : World), Shut md ops listed →
      (∀ j oj, ops[j]? = some oj → j ≠ i → listed.getD j true = false → (∀ e ∈ oj.after, Region.binds md e = true → e.on ≠ i) → oi.apart ops oj = true) →
      i ∈ Region.ready md ops listed → YieldsIf P ops S' oi v a → (i ∈ I → S w) →
      wpH P md ops Q S I fuel (listed.setIfInBounds i true) (a.put oi.dst v) w → wpH P md ops Q S I (fuel + 1) listed a w := by
  intro fuel
  have hown : ∀ w, (i ∈ I → S w) → S' w ∧ (needA md ops I i = true → S w) := fun w hw => by
    rcases hI with ⟨h1, h2⟩ | ⟨h1, h2⟩
    · exact ⟨h2 w (hw h1), fun _ => hw h1⟩
    · exact ⟨h2 w, fun h => by rw [h1] at h; cases h⟩
  induction fuel with
  | zero =>
    intro listed a w _ _ hr hy hS H
    refine ⟨fun h => (by rw [h] at hr; cases hr), fun j hj => ?_⟩
    by_cases hji : j = i
    · subst hji; exact hy.wpOp hi (hown w hS).1 ⟨(hown w hS).2, H⟩
    · have := ready_mono hj hji
      rw [H.1] at this
      cases this
  | succ fuel ih =>
    intro listed a w hsh hfree hr hy hS H
    refine ⟨fun h => (by rw [h] at hr; cases hr), fun j hj => ?_⟩
    by_cases hji : j = i
    · subst hji; exact hy.wpOp hi (hown w hS).1 ⟨(hown w hS).2, H⟩
    · have h1 := H.2 j (ready_mono hj hji)
      obtain ⟨hjun, oj, hoj, hall⟩ := mem_ready.1 hj
      have hnot : ∀ e ∈ oj.after, Region.binds md e = true → e.on ≠ i := fun e he hb heq => by
        have h1 := hall e he hb
        have h0 := (mem_ready.1 hr).1
        rw [heq] at h1
        rcases Nat.lt_or_ge i listed.size with h' | h'
        · simp [h'] at h0 h1; rw [h0] at h1; cases h1
        · simp [Array.getElem?_eq_none h'] at h1
      have h2 := wpOp_putIf hoj (hfree j oj hoj hji hjun hnot) (fun cs b => hsel i oi cs b hi) (fun cs b => hsel j oj cs b hoj) hQ hy h1
      have hfree' : ∀ k ok, ops[k]? = some ok → k ≠ i → (listed.setIfInBounds j true).getD k true = false →
          (∀ e ∈ ok.after, Region.binds md e = true → e.on ≠ i) → oi.apart ops ok = true := fun k ok hk hki hun hno => by
        refine hfree k ok hk hki ?_ hno
        by_cases hjk : j = k
        · subst hjk; exact hjun
        · rw [getD_set_ne true hjk] at hun; exact hun
      refine wpOp_mono (fun a' w' h3 => ⟨h3.2.1, ih (listed.setIfInBounds j true) a' w' (hsh.set hj) hfree' (ready_mono hr (Ne.symm hji)) h3.1 (fun hiI => h3.2.1 (needA_of hsh hiI hj hoj (unlisted hr))) ?_⟩) h2
      rw [Array.setIfInBounds_comm _ _ hji]
      exact h3.2.2
/-- A load is taken first. -/
theorem wpH_take {i : Nat} {oi : Oper} {v : Value} {fuel : Nat} {listed : Array Bool} {a : Act} {w : World} (hi : ops[i]? = some oi) (hI : I.contains i = true) (hsh : shutB md ops listed = true)
    (hs : Region.noSelect ops = true) (hf : Region.free md ops listed i = true) (hr : (Region.ready md ops listed).contains i = true)
    (hQ : ∀ c a w, Q (.panic c) (a.put oi.dst v) w → Q (.panic c) a w) (hy : YieldsIf P ops S oi v a) (hS : S w)
    (h : wpH P md ops Q S I fuel (listed.setIfInBounds i true) (a.put oi.dst v) w) : wpH P md ops Q S I (fuel + 1) listed a w :=
  wpH_first (S' := S) (.inl ⟨by simpa using hI, fun _ h => h⟩) hi (Region.noSelect_spec hs) hQ fuel listed a w (shut_of hsh) (Region.free_spec hi hf) (by simpa using hr) hy (fun _ => hS) h
/-- What asks nothing of memory is taken first. -/
theorem wpH_pure {i : Nat} {oi : Oper} {v : Value} {fuel : Nat} {listed : Array Bool} {a : Act} {w : World} (hi : ops[i]? = some oi) (hI : I.contains i = false) (hn : needA md ops I i = false) (hsh : shutB md ops listed = true)
    (hs : Region.noSelect ops = true) (hf : Region.free md ops listed i = true) (hr : (Region.ready md ops listed).contains i = true)
    (hQ : ∀ c a w, Q (.panic c) (a.put oi.dst v) w → Q (.panic c) a w) (hy : YieldsIf P ops (fun _ => True) oi v a)
    (h : wpH P md ops Q S I fuel (listed.setIfInBounds i true) (a.put oi.dst v) w) : wpH P md ops Q S I (fuel + 1) listed a w :=
  wpH_first (S' := fun _ => True) (.inr ⟨hn, fun _ => trivial⟩) hi (Region.noSelect_spec hs) hQ fuel listed a w (shut_of hsh) (Region.free_spec hi hf) (by simpa using hr) hy (fun h => by
    have : I.contains i = true := by simpa using h
    rw [hI] at this; cases this) h
/-- The only one that may come up. -/
theorem wpH_step {k : Nat} {o : Oper} {fuel : Nat} {listed : Array Bool} {a : Act} {w : World} (ho : ops[k]? = some o) (hr : Region.ready md ops listed = [k]) (hwa : Region.wanted o (yielded ops a.tmps) = true)
    (h : ∀ K : Act → World → Prop, (∀ a w, (needA md ops I k = true → S w) → wpH P md ops Q S I fuel (listed.setIfInBounds k true) a w → K a w) → o.wp P a w K Q) : wpH P md ops Q S I (fuel + 1) listed a w := by
  refine ⟨fun h1 => (by rw [hr] at h1; cases h1), fun j hj => ?_⟩
  rw [hr] at hj
  obtain rfl : j = k := by simpa using hj
  unfold wpOp
  simp only [ho]
  rw [if_pos hwa]
  exact .inl (h _ fun a w h1 h2 => ⟨h1, h2⟩)
/-- An operation that its guard keeps from coming up. -/
theorem wpH_skip {k : Nat} {o : Oper} {fuel : Nat} {listed : Array Bool} {a : Act} {w : World} (ho : ops[k]? = some o) (hr : Region.ready md ops listed = [k]) (hwa : Region.wanted o (yielded ops a.tmps) = false) (hS : needA md ops I k = true → S w)
    (h : wpH P md ops Q S I fuel (listed.setIfInBounds k true) (a.put o.dst undef) w) : wpH P md ops Q S I (fuel + 1) listed a w := by
  refine ⟨fun h1 => (by rw [hr] at h1; cases h1), fun j hj => ?_⟩
  rw [hr] at hj
  obtain rfl : j = k := by simpa using hj
  unfold wpOp
  simp only [ho]
  rw [if_neg (by rw [hwa]; simp)]
  exact ⟨hS, h⟩
theorem wpH_last {listed : Array Bool} {a : Act} {w : World} (hr : Region.ready md ops listed = []) (h : Q .normal a w) : wpH P md ops Q S I 0 listed a w := ⟨hr, h⟩
theorem needA_no {k : Nat} {A : Prop} (h : needA md ops I k = false) : needA md ops I k = true → A := fun h2 => by rw [h] at h2; cases h2
theorem wp_region_H {id : Nat} {a : Act} {w : World} (S : World → Prop) (I : List Nat) (hm : P.follows .mixedOrders = true)
    (h : wpH P .any ops Q S I ops.size (Array.replicate ops.size false) a w.drew) : (Code.region id ops true).wp P Q a w :=
  wp_region_any hm (wpAny_of_wpH _ _ _ _ h)
end
end Go.Proofs.YtadncjpknckaaaaGreatDoor
namespace Go.Proofs.YtadncjpknckaaaaGreatDoor
open Go.RowKit
abbrev lawV (L : HL) : Value := .agg #[.string L.name, .int .i64 L.left.kind, .int .u32 L.left.is.p.toNat, .int .u32 L.left.is.m.toNat, .bool L.left.neg, .int .i64 L.left.mn, .int .i64 L.left.mx, .slice L.left.a L.left.n L.left.cap, .int .i64 L.right.kind, .int .u32 L.right.is.p.toNat, .int .u32 L.right.is.m.toNat, .bool L.right.neg, .int .i64 L.right.mn, .int .i64 L.right.mx, .slice L.right.a L.right.n L.right.cap, .slice L.ia L.ifs.length L.icap, .slice L.oa L.outs.length L.ocap, .int .i64 L.mode]
structure RdLw (w : World) (L : HL) : Prop where
  left : RdPt w L.left
  right : RdPt w L.right
  ifs : RdS w L.ia L.ifs.length L.icap L.ifs
  outs : RdK 6 Ou.enc w L.oa L.outs.length L.ocap L.outs
theorem RdLw.ext {w w' : World} {L : HL} (h : RdLw w L) (hx : Ext w w') : RdLw w' L := ⟨h.left.ext hx, h.right.ext hx, h.ifs.ext hx, h.outs.ext hx⟩
/-- A law in a block of its own. -/
def LawB (w : World) (B : Nat) (L : HL) : Prop := w.heap[B]? = some (.cells #[.string L.name, .int .i64 L.left.kind, .int .u32 L.left.is.p.toNat, .int .u32 L.left.is.m.toNat, .bool L.left.neg, .int .i64 L.left.mn, .int .i64 L.left.mx, .slice L.left.a L.left.n L.left.cap, .int .i64 L.right.kind, .int .u32 L.right.is.p.toNat, .int .u32 L.right.is.m.toNat, .bool L.right.neg, .int .i64 L.right.mn, .int .i64 L.right.mx, .slice L.right.a L.right.n L.right.cap, .slice L.ia L.ifs.length L.icap, .slice L.oa L.outs.length L.ocap, .int .i64 L.mode] 58 (0, 0))
theorem LawB.ext {w w' : World} {B : Nat} {L : HL} (h : LawB w B L) (hx : Ext w w') : LawB w' B L := (Below.block hx.bel B (Array.getElem?_eq_some_iff.1 h).1).trans h
theorem LawB.lt {w : World} {B : Nat} {L : HL} (h : LawB w B L) : B < w.heap.size := (Array.getElem?_eq_some_iff.1 h).1
theorem LawB.new (w : World) (L : HL) : LawB (w.alloc (.cells #[.string L.name, .int .i64 L.left.kind, .int .u32 L.left.is.p.toNat, .int .u32 L.left.is.m.toNat, .bool L.left.neg, .int .i64 L.left.mn, .int .i64 L.left.mx, .slice L.left.a L.left.n L.left.cap, .int .i64 L.right.kind, .int .u32 L.right.is.p.toNat, .int .u32 L.right.is.m.toNat, .bool L.right.neg, .int .i64 L.right.mn, .int .i64 L.right.mx, .slice L.right.a L.right.n L.right.cap, .slice L.ia L.ifs.length L.icap, .slice L.oa L.outs.length L.ocap, .int .i64 L.mode] 58)) w.heap.size L := World.alloc_heap_new w _
theorem LawB.grown {w w' : World} {b : Nat} {L : HL} (h : LawB w b L) {row : Option Nat} (hg : w.grownBy w' row) (hr : row ≠ some b) : LawB w' b L :=
  (hg.block b h.lt (fun e => hr e.symm)).trans h
theorem LawB.c {w : World} {B : Nat} {L : HL} (h : LawB w B L) : w.cell? ⟨B, 0, none⟩ = some (.string L.name) ∧ w.cell? ⟨B, 15, none⟩ = some (.slice L.ia L.ifs.length L.icap) ∧ w.cell? ⟨B, 16, none⟩ = some (.slice L.oa L.outs.length L.ocap) ∧ w.cell? ⟨B, 17, none⟩ = some (.int .i64 L.mode) := by
  unfold LawB at h
  refine ⟨?_, ?_, ?_, ?_⟩ <;> simp [World.cell?, h]
theorem LawB.cl {w : World} {B : Nat} {L : HL} (h : LawB w B L) : w.cell? ⟨B, 1, none⟩ = some (.int .i64 L.left.kind) ∧ w.cell? ⟨B, 2, none⟩ = some (.int .u32 L.left.is.p.toNat) ∧ w.cell? ⟨B, 3, none⟩ = some (.int .u32 L.left.is.m.toNat) ∧ w.cell? ⟨B, 4, none⟩ = some (.bool L.left.neg) ∧ w.cell? ⟨B, 5, none⟩ = some (.int .i64 L.left.mn) ∧ w.cell? ⟨B, 6, none⟩ = some (.int .i64 L.left.mx) ∧ w.cell? ⟨B, 7, none⟩ = some (.slice L.left.a L.left.n L.left.cap) := by
  unfold LawB at h
  refine ⟨?_, ?_, ?_, ?_, ?_, ?_, ?_⟩ <;> simp [World.cell?, h]
theorem LawB.cr {w : World} {B : Nat} {L : HL} (h : LawB w B L) : w.cell? ⟨B, 8, none⟩ = some (.int .i64 L.right.kind) ∧ w.cell? ⟨B, 9, none⟩ = some (.int .u32 L.right.is.p.toNat) ∧ w.cell? ⟨B, 10, none⟩ = some (.int .u32 L.right.is.m.toNat) ∧ w.cell? ⟨B, 11, none⟩ = some (.bool L.right.neg) ∧ w.cell? ⟨B, 12, none⟩ = some (.int .i64 L.right.mn) ∧ w.cell? ⟨B, 13, none⟩ = some (.int .i64 L.right.mx) ∧ w.cell? ⟨B, 14, none⟩ = some (.slice L.right.a L.right.n L.right.cap) := by
  unfold LawB at h
  refine ⟨?_, ?_, ?_, ?_, ?_, ?_, ?_⟩ <;> simp [World.cell?, h]
/-- What a law puts in fits sounds of some number. -/
def OutOk (n : Nat) (x : Ou) : Prop := x.fr < n ∧ (x.tk ≠ 0#32 → 0 ≤ x.ix ∧ x.ix < n)
/-- A word of the call's own. -/
def RetW (ws : List Snd) (w : World) (e : Ending) (w' : World) : Prop := ∃ (a : Option Addr) (m cap : Nat), e = .returned (.slice a m cap) ∧ Hid (m = ws.length) ∧ OwnS w.heap.size 52 w' (.slice a m cap) ws ∧ Ext w w'
theorem putM_snoc (l : List Ou) (x : Ou) (cs : List Snd) : putM (l ++ [x]) cs = putM l cs ++ [put1 cs x] := by simp [putM]
theorem putM_len (l : List Ou) (cs : List Snd) : (putM l cs).length = l.length := by simp [putM]
set_option maxHeartbeats 2000000 in
set_option maxRecDepth 20000 in
theorem put_any (L : HL) (a : Option Addr) (n cap : Nat) (cs : List Snd) (w : World) (hL : RdLw w L) (hcs : RdS w a n cap cs) (hok : ∀ x ∈ L.outs, OutOk n x) (h40 : L.outs.length ≤ 40) :
    Calls Tryz.prog 68 #[lawV L, .slice a n cap] w (RetW (putM L.outs cs) w) := by
  have hB := LawB.new w L
  have hxB : Ext w (w.alloc (.cells #[.string L.name, .int .i64 L.left.kind, .int .u32 L.left.is.p.toNat, .int .u32 L.left.is.m.toNat, .bool L.left.neg, .int .i64 L.left.mn, .int .i64 L.left.mx, .slice L.left.a L.left.n L.left.cap, .int .i64 L.right.kind, .int .u32 L.right.is.p.toNat, .int .u32 L.right.is.m.toNat, .bool L.right.neg, .int .i64 L.right.mn, .int .i64 L.right.mx, .slice L.right.a L.right.n L.right.cap, .slice L.ia L.ifs.length L.icap, .slice L.oa L.outs.length L.ocap, .int .i64 L.mode] 58)) := Ext.alloc1 _ _
  have hou := hL.outs
  have hmax : L.outs.length ≤ 9223372036854775807 := by omega
  go_enter Tryz.func68, Tryz.ntmps68
  refine seq_stop fun K hK => ?_
  go_wp2_with fail
  refine hK.out _ _ ?_
  clear hK
  generalize (w.alloc (.cells #[.string L.name, .int .i64 L.left.kind, .int .u32 L.left.is.p.toNat, .int .u32 L.left.is.m.toNat, .bool L.left.neg, .int .i64 L.left.mn, .int .i64 L.left.mx, .slice L.left.a L.left.n L.left.cap, .int .i64 L.right.kind, .int .u32 L.right.is.p.toNat, .int .u32 L.right.is.m.toNat, .bool L.right.neg, .int .i64 L.right.mn, .int .i64 L.right.mx, .slice L.right.a L.right.n L.right.cap, .slice L.ia L.ifs.length L.icap, .slice L.oa L.outs.length L.ocap, .int .i64 L.mode] 58)) = w1 at *
  obtain ⟨b2, hb2⟩ : ∃ b, b = w.heap.size := ⟨_, rfl⟩
  rw [← hb2] at hB ⊢
  replace hb2 := Lib.hid hb2
  obtain ⟨d0, d1, d2, d3⟩ := hB.c
  clear d0 d1 d3
  go_wp2_with fail
  go_loopw [5, 12] (fun ov iv wr => ∃ i : Nat, i ≤ L.outs.length ∧ iv = .int .i64 i ∧ Ext w1 wr ∧ OwnS w1.heap.size 52 wr ov (putM (L.outs.take i) cs)) (fun _ iv _ => L.outs.length - (intOf iv).toNat)
  case atStart => exact ⟨0, Nat.zero_le _, rfl, Ext.refl _, OwnK.nil _ _ _⟩
  case round =>
    obtain ⟨i, hi, rfl, hx, hown⟩ := hrel
    by_cases hlt : i < L.outs.length
    · have hki : (i : Int) < (L.outs.length : Int) := by omega
      obtain ⟨bo, off, ⟨fr, cl, st, tk, ix⟩, ho, hxi, hbl, hcell⟩ := (hou.ext (hxB.trans hx)).get hlt
      have c0 : wr.cell? ⟨bo, off + i * 6, none⟩ = some (.int .i64 fr) := hcell 0 _ rfl
      have c1 : wr.cell? ⟨bo, off + i * 6 + 1, none⟩ = some (.int .u32 cl.toNat) := hcell 1 _ rfl
      have c2 : wr.cell? ⟨bo, off + i * 6 + 2, none⟩ = some (.int .u32 st.p.toNat) := hcell 2 _ rfl
      have c3 : wr.cell? ⟨bo, off + i * 6 + 3, none⟩ = some (.int .u32 st.m.toNat) := hcell 3 _ rfl
      have c4 : wr.cell? ⟨bo, off + i * 6 + 4, none⟩ = some (.int .u32 tk.toNat) := hcell 4 _ rfl
      have c5 : wr.cell? ⟨bo, off + i * 6 + 5, none⟩ = some (.int .i64 ix) := hcell 5 _ rfl
      obtain ⟨k1, k2⟩ := hok _ (List.mem_of_getElem? hxi.out)
      change fr < n at k1
      change tk ≠ 0#32 → 0 ≤ ix ∧ ix < n at k2
      have hsu : putM (L.outs.take (i + 1)) cs = putM (L.outs.take i) cs ++ [put1 cs ⟨fr, cl, st, tk, ix⟩] := by rw [List.take_add_one, hxi.out, Option.toList_some, putM_snoc]
      have hln : (putM (L.outs.take i) cs).length ≤ 40 := by rw [putM_len, List.length_take]; omega
      rw [ho]
      replace hsu := Lib.hid hsu
      replace k2 := Lib.hid k2
      replace hln := Lib.hid hln
      have hA : Ext wr ((wr.alloc (.cells #[.int .i64 fr, .int .u32 cl.toNat, .int .u32 st.p.toNat, .int .u32 st.m.toNat, .int .u32 tk.toNat, .int .i64 ix] 122)).alloc (.cells #[.int .u32 0, .int .u32 0] 52)) := (by repeat (first | exact Ext.refl _ | refine Ext.drew ?_ | refine Ext.drewN ?_ _ | refine Ext.alloc ?_ _))
      have g7 : ((wr.alloc (.cells #[.int .i64 fr, .int .u32 cl.toNat, .int .u32 st.p.toNat, .int .u32 st.m.toNat, .int .u32 tk.toNat, .int .i64 ix] 122)).alloc (.cells #[.int .u32 0, .int .u32 0] 52)).heap[wr.heap.size]? = some (.cells #[.int .i64 fr, .int .u32 cl.toNat, .int .u32 st.p.toNat, .int .u32 st.m.toNat, .int .u32 tk.toNat, .int .i64 ix] 122 (0, 0)) := (Below.heap_alloc _ _ _ (by simp)).trans (World.alloc_heap_new wr _)
      have g8 : SndB ((wr.alloc (.cells #[.int .i64 fr, .int .u32 cl.toNat, .int .u32 st.p.toNat, .int .u32 st.m.toNat, .int .u32 tk.toNat, .int .i64 ix] 122)).alloc (.cells #[.int .u32 0, .int .u32 0] 52)) (wr.heap.size + 1) z0S := by
        have := SndB.zero (wr.alloc (.cells #[.int .i64 fr, .int .u32 cl.toNat, .int .u32 st.p.toNat, .int .u32 st.m.toNat, .int .u32 tk.toNat, .int .i64 ix] 122))
        rwa [World.size_alloc] at this
      clear hcell
      rcases Int.lt_or_le fr 0 with hneg | hpos
      · have hP : put1 cs ⟨fr, cl, st, tk, ix⟩ = if tk = 0#32 then changeM z0S cl st else takeM (changeM z0S cl st) (cs.getD ix.toNat z0S) tk := by unfold put1; simp only [if_neg (show ¬ 0 ≤ fr by omega)]
        rw [hP] at hsu
        have hneg' : ¬ 0 ≤ fr := by omega
        replace hP := Lib.hid hP
        replace hneg := Lib.hid hneg
        go_wp2_with fail
        refine (change_any z0S cl st _).mono ?_
        rintro e w5 ⟨rfl, hx5⟩
        have g7' : w5.heap[wr.heap.size]? = some (.cells #[.int .i64 fr, .int .u32 cl.toNat, .int .u32 st.p.toNat, .int .u32 st.m.toNat, .int .u32 tk.toNat, .int .i64 ix] 122 (0, 0)) := (Below.block hx5.bel _ (Array.getElem?_eq_some_iff.1 g7).1).trans g7
        have g8' := g8.ext hx5
        have hX := hA.trans hx5
        clear g7 g8 hA hx5 c0 c1 c2 c3 c4 c5
        obtain ⟨b7, e7⟩ : ∃ b, b = wr.heap.size := ⟨_, rfl⟩
        obtain ⟨b8, e8⟩ : ∃ b, b = wr.heap.size + 1 := ⟨_, rfl⟩
        have n78 : b7 ≠ b8 := by omega
        have n87 : b8 ≠ b7 := by omega
        have l8 : wr.heap.size ≤ b8 := by omega
        rw [← e8] at g8' ⊢
        rw [← e7] at g7' ⊢
        have e7h := Lib.hid e7
        have e8h := Lib.hid e8
        clear e7 e8
        obtain ⟨s1, hs1⟩ : ∃ s1, s1 = changeM z0S cl st := ⟨_, rfl⟩
        rw [← hs1] at hsu ⊢
        replace hs1 := Lib.hid hs1
        obtain ⟨z0, z1⟩ := g8'.cells
        obtain ⟨y0, y1⟩ := g8'.frz
        have m3 : w5.cell? ⟨b7, 4, none⟩ = some (.int .u32 tk.toNat) := by simp [World.cell?, g7']
        have m4 : w5.cell? ⟨b7, 5, none⟩ = some (.int .i64 ix) := by simp [World.cell?, g7']
        have t8 := g8'.set s1
        have hXs := ext_set (ext_set hX l8 0 (.int .u32 s1.p.toNat)) l8 1 (.int .u32 s1.m.toNat)
        have gg : w5.grownBy ((w5.setCell ⟨b8, 0, none⟩ (.int .u32 s1.p.toNat)).setCell ⟨b8, 1, none⟩ (.int .u32 s1.m.toNat)) (some b8) := gb_trans (grownBy_set _ _ _ _) (grownBy_set _ _ _ _)
        have q3 := gb_cell gg m3 (fun e => by cases e; exact n78 rfl)
        have q4 := gb_cell gg m4 (fun e => by cases e; exact n78 rfl)
        clear gg
        have hB6 : w1.heap.size ≤ ((w5.setCell ⟨b8, 0, none⟩ (.int .u32 s1.p.toNat)).setCell ⟨b8, 1, none⟩ (.int .u32 s1.m.toNat)).heap.size := (hx.trans hXs).le
        have hvb : u5.ownBlock ≠ some b8 := fun e => by have := (own_lt hown e).2; omega
        have oS := own_setOff (i := 1) (u := .int .u32 s1.m.toNat) (own_setOff (i := 0) (u := .int .u32 s1.p.toNat) (hown.kept hX) hvb) hvb
        have hxW := hx.trans hXs
        have hsz6 : ((w5.setCell ⟨b8, 0, none⟩ (.int .u32 s1.p.toNat)).setCell ⟨b8, 1, none⟩ (.int .u32 s1.m.toNat)).heap.size = w5.heap.size := by simp
        replace hsz6 := Lib.hid hsz6
        have l81 : w1.heap.size ≤ b8 := by have := hx.le; omega
        replace hvb := Lib.hid hvb
        replace l81 := Lib.hid l81
        replace t8 := Lib.hid t8
        replace hXs := Lib.hid hXs
        replace q3 := Lib.hid q3
        replace q4 := Lib.hid q4
        clear hX hown m4
        rcases Decidable.em (tk = 0#32) with htk | htk
        · have hz1 : ((tk.toNat : Int) == 0) = true := by rw [u32_beq0]; simpa using htk
          have hz3 : ((tk.toNat : Int) != 0) = false := by simp only [bne, hz1, Bool.not_true]
          have hsu2 : putM (L.outs.take (i + 1)) cs = putM (L.outs.take i) cs ++ [s1] := by rw [hsu.out, if_pos htk]
          replace hsu2 := Lib.hid hsu2
          replace htk := Lib.hid htk
          clear hsu t8 q3 q4 hXs
          go_wp2_with (at_builtin; refine wp_appA w1.heap.size _ s1 #[.int .u32 s1.p.toNat, .int .u32 s1.m.toNat] rfl rfl _ _ 40 rfl 52 Tryz.underlying40 info_snd rfl (by decide) Snd.len Snd.one u5 (putM (L.outs.take i) cs) rfl oS hB6 (by rw [hsz6.out]; rfl) (by have := hln.out; omega) (by decide) ?_; intro v7 w7 o7 g7 r7)
          have x7 := hxW.grown g7 fun r e => (own_lt oS e).1
          rw [← hsu2.out] at o7
          (first | exact ⟨⟨i + 1, hlt, by go_num, x7, o7⟩, (by simp [intOf]; omega)⟩ | (go_roundw; case rel => exact ⟨i + 1, hlt, by go_num, x7, o7⟩; case measure => exact (by simp [intOf]; omega)))
        have hz1 : ((tk.toNat : Int) == 0) = false := by rw [u32_beq0]; simpa using htk
        have hz2 : ¬ (tk.toNat : Int) = 0 := fun e => htk ((u32_zero _).1 e)
        have hz3 : ((tk.toNat : Int) != 0) = true := by simp only [bne, hz1, Bool.not_false]
        obtain ⟨k3, k4⟩ := k2.out htk
        obtain ⟨jx, rfl⟩ : ∃ jx : Nat, ix = (jx : Int) := ⟨ix.toNat, by omega⟩
        have hjn : jx < n := by omega
        have hjn' : (jx : Int) < (n : Int) := by omega
        obtain ⟨bc, offc, s2, hac, hs2, _, p0, p1⟩ := (hcs.ext (hxB.trans hxW)).snd hjn
        cases hac
        have hgd : cs.getD ((jx : Int)).toNat z0S = s2 := by rw [Int.toNat_natCast, List.getD_eq_getElem?_getD, hs2.out]; rfl
        have hsu2 : putM (L.outs.take (i + 1)) cs = putM (L.outs.take i) cs ++ [takeM s1 s2 tk] := by rw [hsu.out, if_neg htk, hgd]
        replace hsu2 := Lib.hid hsu2
        replace htk := Lib.hid htk
        replace k3 := Lib.hid k3
        replace k4 := Lib.hid k4
        clear hsu k2 hgd
        go_wp2_with fail
        generalize hW6 : (w5.setCell ⟨b8, 0, none⟩ (.int .u32 s1.p.toNat)).setCell ⟨b8, 1, none⟩ (.int .u32 s1.m.toNat) = w6 at *
        clear hW6 g7' g8' y0 y1 z0 z1 m3
        obtain ⟨z0, z1⟩ := t8.out.cells
        have hmx : Tryz.prog.follows .mixedOrders = true := by kernel_rfl
        refine wp_region_H (fun W' : World => Ext w6 W') [0, 1, 2, 3, 4, 5, 6, 7] hmx ?_
        show wpH _ _ _ _ _ _ 13 _ _ _
        have hS0 : (fun W' : World => Ext w6 W') w6.drew := (Ext.refl _).drew
        refine wpH_take (i := 0) (v := (sndV s1)) rfl (by kernel_rfl) (by kernel_rfl) (by kernel_rfl) (by kernel_rfl) (by kernel_rfl) (fun _ _ _ h => h) (.inl ⟨rfl, fun W' hW' => ?_⟩) hS0 ?_
        · (have z0 := Ext.cellv hW' z0; have z1 := Ext.cellv hW' z1)
          go_simp
        refine wpH_take (i := 1) (v := (.slice (some ⟨bc, offc, none⟩) n cap)) rfl (by kernel_rfl) (by kernel_rfl) (by kernel_rfl) (by kernel_rfl) (by kernel_rfl) (fun _ _ _ h => h) (.inl ⟨rfl, fun W' hW' => ?_⟩) hS0 ?_
        · go_simp
        refine wpH_take (i := 2) (v := (.pointer (some ⟨b7, 5, none⟩))) rfl (by kernel_rfl) (by kernel_rfl) (by kernel_rfl) (by kernel_rfl) (by kernel_rfl) (fun _ _ _ h => h) (.inl ⟨rfl, fun W' hW' => ?_⟩) hS0 ?_
        · go_simp
        refine wpH_take (i := 3) (v := (.int .i64 (jx : Int))) rfl (by kernel_rfl) (by kernel_rfl) (by kernel_rfl) (by kernel_rfl) (by kernel_rfl) (fun _ _ _ h => h) (.inl ⟨rfl, fun W' hW' => ?_⟩) hS0 ?_
        · (have q4 := Ext.cellv hW' q4.out)
          go_simp
        refine wpH_take (i := 4) (v := (.pointer (some ⟨bc, offc + jx * 2, none⟩))) rfl (by kernel_rfl) (by kernel_rfl) (by kernel_rfl) (by kernel_rfl) (by kernel_rfl) (fun _ _ _ h => h) (.inl ⟨rfl, fun W' hW' => ?_⟩) hS0 ?_
        · go_simp
        refine wpH_take (i := 5) (v := (sndV s2)) rfl (by kernel_rfl) (by kernel_rfl) (by kernel_rfl) (by kernel_rfl) (by kernel_rfl) (fun _ _ _ h => h) (.inl ⟨rfl, fun W' hW' => ?_⟩) hS0 ?_
        · (have p0 := Ext.cellv hW' p0; have p1 := Ext.cellv hW' p1)
          go_simp
        refine wpH_take (i := 6) (v := (.pointer (some ⟨b7, 4, none⟩))) rfl (by kernel_rfl) (by kernel_rfl) (by kernel_rfl) (by kernel_rfl) (by kernel_rfl) (fun _ _ _ h => h) (.inl ⟨rfl, fun W' hW' => ?_⟩) hS0 ?_
        · go_simp
        refine wpH_take (i := 7) (v := (.int .u32 tk.toNat)) rfl (by kernel_rfl) (by kernel_rfl) (by kernel_rfl) (by kernel_rfl) (by kernel_rfl) (fun _ _ _ h => h) (.inl ⟨rfl, fun W' hW' => ?_⟩) hS0 ?_
        · (have q3 := Ext.cellv hW' q3.out)
          go_simp
        refine wpH_step (k := 8) rfl (by kernel_rfl) rfl fun K hK => ?_
        go_simp
        refine (take_any s1 s2 tk _).mono ?_
        rintro e wq ⟨rfl, hxq0⟩
        have hxq : Ext w6 wq := hS0.trans hxq0
        refine hK _ _ (needA_no (by kernel_rfl)) ?_
        clear hK K hxq0 hS0 p0 p1 z0 z1
        refine wpH_step (k := 9) rfl (by kernel_rfl) rfl fun K hK => ?_
        go_simp
        refine hK _ _ (needA_no (by kernel_rfl)) ?_
        clear hK K
        have t9 := t8.out.ext hxq
        have xq := hxW.trans hxq
        have oq := oS.kept hxq
        obtain ⟨s3, hs3⟩ : ∃ s3, s3 = takeM s1 s2 tk := ⟨_, rfl⟩
        rw [← hs3] at hsu2 ⊢
        replace hs3 := Lib.hid hs3
        obtain ⟨z0, z1⟩ := t9.cells
        obtain ⟨y0, y1⟩ := t9.frz
        have oT := own_setOff (i := 1) (u := .int .u32 s3.m.toNat) (own_setOff (i := 0) (u := .int .u32 s3.p.toNat) oq hvb.out) hvb.out
        have xT := ext_set (ext_set xq l81.out 0 (.int .u32 s3.p.toNat)) l81.out 1 (.int .u32 s3.m.toNat)
        have hB7 := xT.le
        have hsz7 : ((wq.setCell ⟨b8, 0, none⟩ (.int .u32 s3.p.toNat)).setCell ⟨b8, 1, none⟩ (.int .u32 s3.m.toNat)).heap.size = wq.heap.size := by simp
        replace hsz7 := Lib.hid hsz7
        clear t8 t9 q3 q4 oS oq hxq xq hxW hXs
        refine wpH_pure (i := 10) (v := (sndV s3)) rfl (by kernel_rfl) (by kernel_rfl) (by kernel_rfl) (by kernel_rfl) (by kernel_rfl) (by kernel_rfl) (fun _ _ _ h => h) (.inl ⟨rfl, fun W' _ => ?_⟩) ?_
        · go_simp
        refine wpH_pure (i := 11) (v := (.int .i64 (takeE s1 s2 tk))) rfl (by kernel_rfl) (by kernel_rfl) (by kernel_rfl) (by kernel_rfl) (by kernel_rfl) (by kernel_rfl) (fun _ _ _ h => h) (.inl ⟨rfl, fun W' _ => ?_⟩) ?_
        · go_simp
        refine wpH_step (k := 12) rfl (by kernel_rfl) rfl fun K hK => ?_
        go_simp
        refine hK _ _ (needA_no (by kernel_rfl)) ?_
        refine wpH_last (by kernel_rfl) ?_
        clear hK K
        go_wp2_with (at_builtin; refine wp_appA w1.heap.size _ s3 #[.int .u32 s3.p.toNat, .int .u32 s3.m.toNat] rfl rfl _ _ 40 rfl 52 Tryz.underlying40 info_snd rfl (by decide) Snd.len Snd.one u5 (putM (L.outs.take i) cs) rfl oT hB7 (by rw [hsz7.out]; rfl) (by have := hln.out; omega) (by decide) ?_; intro v7 w7 o7 g7 r7)
        have x7 := xT.grown g7 fun r e => (own_lt oT e).1
        rw [← hsu2.out] at o7
        (first | exact ⟨⟨i + 1, hlt, by go_num, x7, o7⟩, (by simp [intOf]; omega)⟩ | (go_roundw; case rel => exact ⟨i + 1, hlt, by go_num, x7, o7⟩; case measure => exact (by simp [intOf]; omega)))
      · obtain ⟨j, rfl⟩ : ∃ j : Nat, fr = (j : Int) := ⟨fr.toNat, by omega⟩
        have hjn : j < n := by omega
        have hjn' : (j : Int) < (n : Int) := by omega
        obtain ⟨bc, offc, s0, rfl, hs0, hbcl, p0, p1⟩ := (hcs.ext (hxB.trans hx)).snd hjn
        have hgd : cs.getD ((j : Int)).toNat z0S = s0 := by rw [Int.toNat_natCast, List.getD_eq_getElem?_getD, hs0.out]; rfl
        have hP : put1 cs ⟨(j : Int), cl, st, tk, ix⟩ = if tk = 0#32 then changeM s0 cl st else takeM (changeM s0 cl st) (cs.getD ix.toNat z0S) tk := by
          unfold put1; simp only [if_pos hpos]; rw [hgd]
        rw [hP] at hsu
        replace hP := Lib.hid hP
        replace hgd := Lib.hid hgd
        replace hs0 := Lib.hid hs0
        clear hP hgd hs0
        have nb1 : bc ≠ wr.heap.size := Nat.ne_of_lt hbcl
        have nb2 : bc ≠ wr.heap.size + 1 := by omega
        go_wp2_with fail
        clear hA g7 g8 p0 p1
        have hA : Ext wr ((wr.alloc (.cells #[.int .i64 (j : Int), .int .u32 cl.toNat, .int .u32 st.p.toNat, .int .u32 st.m.toNat, .int .u32 tk.toNat, .int .i64 ix] 122)).alloc (.cells #[.int .u32 s0.p.toNat, .int .u32 s0.m.toNat] 52)) := (by repeat (first | exact Ext.refl _ | refine Ext.drew ?_ | refine Ext.drewN ?_ _ | refine Ext.alloc ?_ _))
        have g7 : ((wr.alloc (.cells #[.int .i64 (j : Int), .int .u32 cl.toNat, .int .u32 st.p.toNat, .int .u32 st.m.toNat, .int .u32 tk.toNat, .int .i64 ix] 122)).alloc (.cells #[.int .u32 s0.p.toNat, .int .u32 s0.m.toNat] 52)).heap[wr.heap.size]? = some (.cells #[.int .i64 (j : Int), .int .u32 cl.toNat, .int .u32 st.p.toNat, .int .u32 st.m.toNat, .int .u32 tk.toNat, .int .i64 ix] 122 (0, 0)) := (Below.heap_alloc _ _ _ (by simp)).trans (World.alloc_heap_new wr _)
        have g8 : SndB ((wr.alloc (.cells #[.int .i64 (j : Int), .int .u32 cl.toNat, .int .u32 st.p.toNat, .int .u32 st.m.toNat, .int .u32 tk.toNat, .int .i64 ix] 122)).alloc (.cells #[.int .u32 s0.p.toNat, .int .u32 s0.m.toNat] 52)) (wr.heap.size + 1) s0 := by
          have := SndB.new (wr.alloc (.cells #[.int .i64 (j : Int), .int .u32 cl.toNat, .int .u32 st.p.toNat, .int .u32 st.m.toNat, .int .u32 tk.toNat, .int .i64 ix] 122)) s0
          rwa [World.size_alloc] at this
        refine (change_any s0 cl st _).mono ?_
        rintro e w5 ⟨rfl, hx5⟩
        have g7' : w5.heap[wr.heap.size]? = some (.cells #[.int .i64 (j : Int), .int .u32 cl.toNat, .int .u32 st.p.toNat, .int .u32 st.m.toNat, .int .u32 tk.toNat, .int .i64 ix] 122 (0, 0)) := (Below.block hx5.bel _ (Array.getElem?_eq_some_iff.1 g7).1).trans g7
        have g8' := g8.ext hx5
        have hX := hA.trans hx5
        clear g7 g8 hA hx5 c0 c1 c2 c3 c4 c5
        obtain ⟨b7, e7⟩ : ∃ b, b = wr.heap.size := ⟨_, rfl⟩
        obtain ⟨b8, e8⟩ : ∃ b, b = wr.heap.size + 1 := ⟨_, rfl⟩
        have n78 : b7 ≠ b8 := by omega
        have n87 : b8 ≠ b7 := by omega
        have l8 : wr.heap.size ≤ b8 := by omega
        rw [← e8] at g8' ⊢
        rw [← e7] at g7' ⊢
        have e7h := Lib.hid e7
        have e8h := Lib.hid e8
        clear e7 e8
        obtain ⟨s1, hs1⟩ : ∃ s1, s1 = changeM s0 cl st := ⟨_, rfl⟩
        rw [← hs1] at hsu ⊢
        replace hs1 := Lib.hid hs1
        obtain ⟨z0, z1⟩ := g8'.cells
        obtain ⟨y0, y1⟩ := g8'.frz
        have m3 : w5.cell? ⟨b7, 4, none⟩ = some (.int .u32 tk.toNat) := by simp [World.cell?, g7']
        have m4 : w5.cell? ⟨b7, 5, none⟩ = some (.int .i64 ix) := by simp [World.cell?, g7']
        have t8 := g8'.set s1
        have hXs := ext_set (ext_set hX l8 0 (.int .u32 s1.p.toNat)) l8 1 (.int .u32 s1.m.toNat)
        have gg : w5.grownBy ((w5.setCell ⟨b8, 0, none⟩ (.int .u32 s1.p.toNat)).setCell ⟨b8, 1, none⟩ (.int .u32 s1.m.toNat)) (some b8) := gb_trans (grownBy_set _ _ _ _) (grownBy_set _ _ _ _)
        have q3 := gb_cell gg m3 (fun e => by cases e; exact n78 rfl)
        have q4 := gb_cell gg m4 (fun e => by cases e; exact n78 rfl)
        clear gg
        have hB6 : w1.heap.size ≤ ((w5.setCell ⟨b8, 0, none⟩ (.int .u32 s1.p.toNat)).setCell ⟨b8, 1, none⟩ (.int .u32 s1.m.toNat)).heap.size := (hx.trans hXs).le
        have hvb : u5.ownBlock ≠ some b8 := fun e => by have := (own_lt hown e).2; omega
        have oS := own_setOff (i := 1) (u := .int .u32 s1.m.toNat) (own_setOff (i := 0) (u := .int .u32 s1.p.toNat) (hown.kept hX) hvb) hvb
        have hxW := hx.trans hXs
        have hsz6 : ((w5.setCell ⟨b8, 0, none⟩ (.int .u32 s1.p.toNat)).setCell ⟨b8, 1, none⟩ (.int .u32 s1.m.toNat)).heap.size = w5.heap.size := by simp
        replace hsz6 := Lib.hid hsz6
        have l81 : w1.heap.size ≤ b8 := by have := hx.le; omega
        replace hvb := Lib.hid hvb
        replace l81 := Lib.hid l81
        replace t8 := Lib.hid t8
        replace hXs := Lib.hid hXs
        replace q3 := Lib.hid q3
        replace q4 := Lib.hid q4
        clear hX hown m4
        rcases Decidable.em (tk = 0#32) with htk | htk
        · have hz1 : ((tk.toNat : Int) == 0) = true := by rw [u32_beq0]; simpa using htk
          have hz3 : ((tk.toNat : Int) != 0) = false := by simp only [bne, hz1, Bool.not_true]
          have hsu2 : putM (L.outs.take (i + 1)) cs = putM (L.outs.take i) cs ++ [s1] := by rw [hsu.out, if_pos htk]
          replace hsu2 := Lib.hid hsu2
          replace htk := Lib.hid htk
          clear hsu t8 q3 q4 hXs
          go_wp2_with (at_builtin; refine wp_appA w1.heap.size _ s1 #[.int .u32 s1.p.toNat, .int .u32 s1.m.toNat] rfl rfl _ _ 40 rfl 52 Tryz.underlying40 info_snd rfl (by decide) Snd.len Snd.one u5 (putM (L.outs.take i) cs) rfl oS hB6 (by rw [hsz6.out]; rfl) (by have := hln.out; omega) (by decide) ?_; intro v7 w7 o7 g7 r7)
          have x7 := hxW.grown g7 fun r e => (own_lt oS e).1
          rw [← hsu2.out] at o7
          (first | exact ⟨⟨i + 1, hlt, by go_num, x7, o7⟩, (by simp [intOf]; omega)⟩ | (go_roundw; case rel => exact ⟨i + 1, hlt, by go_num, x7, o7⟩; case measure => exact (by simp [intOf]; omega)))
        have hz1 : ((tk.toNat : Int) == 0) = false := by rw [u32_beq0]; simpa using htk
        have hz2 : ¬ (tk.toNat : Int) = 0 := fun e => htk ((u32_zero _).1 e)
        have hz3 : ((tk.toNat : Int) != 0) = true := by simp only [bne, hz1, Bool.not_false]
        obtain ⟨k3, k4⟩ := k2.out htk
        obtain ⟨jx, rfl⟩ : ∃ jx : Nat, ix = (jx : Int) := ⟨ix.toNat, by omega⟩
        have hjn : jx < n := by omega
        have hjn' : (jx : Int) < (n : Int) := by omega
        obtain ⟨bc, offc, s2, hac, hs2, _, p0, p1⟩ := (hcs.ext (hxB.trans hxW)).snd hjn
        cases hac
        have hgd : cs.getD ((jx : Int)).toNat z0S = s2 := by rw [Int.toNat_natCast, List.getD_eq_getElem?_getD, hs2.out]; rfl
        have hsu2 : putM (L.outs.take (i + 1)) cs = putM (L.outs.take i) cs ++ [takeM s1 s2 tk] := by rw [hsu.out, if_neg htk, hgd]
        replace hsu2 := Lib.hid hsu2
        replace htk := Lib.hid htk
        replace k3 := Lib.hid k3
        replace k4 := Lib.hid k4
        clear hsu k2 hgd
        go_wp2_with fail
        generalize hW6 : (w5.setCell ⟨b8, 0, none⟩ (.int .u32 s1.p.toNat)).setCell ⟨b8, 1, none⟩ (.int .u32 s1.m.toNat) = w6 at *
        clear hW6 g7' g8' y0 y1 z0 z1 m3
        obtain ⟨z0, z1⟩ := t8.out.cells
        have hmx : Tryz.prog.follows .mixedOrders = true := by kernel_rfl
        refine wp_region_H (fun W' : World => Ext w6 W') [0, 1, 2, 3, 4, 5, 6, 7] hmx ?_
        show wpH _ _ _ _ _ _ 13 _ _ _
        have hS0 : (fun W' : World => Ext w6 W') w6.drew := (Ext.refl _).drew
        refine wpH_take (i := 0) (v := (sndV s1)) rfl (by kernel_rfl) (by kernel_rfl) (by kernel_rfl) (by kernel_rfl) (by kernel_rfl) (fun _ _ _ h => h) (.inl ⟨rfl, fun W' hW' => ?_⟩) hS0 ?_
        · (have z0 := Ext.cellv hW' z0; have z1 := Ext.cellv hW' z1)
          go_simp
        refine wpH_take (i := 1) (v := (.slice (some ⟨bc, offc, none⟩) n cap)) rfl (by kernel_rfl) (by kernel_rfl) (by kernel_rfl) (by kernel_rfl) (by kernel_rfl) (fun _ _ _ h => h) (.inl ⟨rfl, fun W' hW' => ?_⟩) hS0 ?_
        · go_simp
        refine wpH_take (i := 2) (v := (.pointer (some ⟨b7, 5, none⟩))) rfl (by kernel_rfl) (by kernel_rfl) (by kernel_rfl) (by kernel_rfl) (by kernel_rfl) (fun _ _ _ h => h) (.inl ⟨rfl, fun W' hW' => ?_⟩) hS0 ?_
        · go_simp
        refine wpH_take (i := 3) (v := (.int .i64 (jx : Int))) rfl (by kernel_rfl) (by kernel_rfl) (by kernel_rfl) (by kernel_rfl) (by kernel_rfl) (fun _ _ _ h => h) (.inl ⟨rfl, fun W' hW' => ?_⟩) hS0 ?_
        · (have q4 := Ext.cellv hW' q4.out)
          go_simp
        refine wpH_take (i := 4) (v := (.pointer (some ⟨bc, offc + jx * 2, none⟩))) rfl (by kernel_rfl) (by kernel_rfl) (by kernel_rfl) (by kernel_rfl) (by kernel_rfl) (fun _ _ _ h => h) (.inl ⟨rfl, fun W' hW' => ?_⟩) hS0 ?_
        · go_simp
        refine wpH_take (i := 5) (v := (sndV s2)) rfl (by kernel_rfl) (by kernel_rfl) (by kernel_rfl) (by kernel_rfl) (by kernel_rfl) (fun _ _ _ h => h) (.inl ⟨rfl, fun W' hW' => ?_⟩) hS0 ?_
        · (have p0 := Ext.cellv hW' p0; have p1 := Ext.cellv hW' p1)
          go_simp
        refine wpH_take (i := 6) (v := (.pointer (some ⟨b7, 4, none⟩))) rfl (by kernel_rfl) (by kernel_rfl) (by kernel_rfl) (by kernel_rfl) (by kernel_rfl) (fun _ _ _ h => h) (.inl ⟨rfl, fun W' hW' => ?_⟩) hS0 ?_
        · go_simp
        refine wpH_take (i := 7) (v := (.int .u32 tk.toNat)) rfl (by kernel_rfl) (by kernel_rfl) (by kernel_rfl) (by kernel_rfl) (by kernel_rfl) (fun _ _ _ h => h) (.inl ⟨rfl, fun W' hW' => ?_⟩) hS0 ?_
        · (have q3 := Ext.cellv hW' q3.out)
          go_simp
        refine wpH_step (k := 8) rfl (by kernel_rfl) rfl fun K hK => ?_
        go_simp
        refine (take_any s1 s2 tk _).mono ?_
        rintro e wq ⟨rfl, hxq0⟩
        have hxq : Ext w6 wq := hS0.trans hxq0
        refine hK _ _ (needA_no (by kernel_rfl)) ?_
        clear hK K hxq0 hS0 p0 p1 z0 z1
        refine wpH_step (k := 9) rfl (by kernel_rfl) rfl fun K hK => ?_
        go_simp
        refine hK _ _ (needA_no (by kernel_rfl)) ?_
        clear hK K
        have t9 := t8.out.ext hxq
        have xq := hxW.trans hxq
        have oq := oS.kept hxq
        obtain ⟨s3, hs3⟩ : ∃ s3, s3 = takeM s1 s2 tk := ⟨_, rfl⟩
        rw [← hs3] at hsu2 ⊢
        replace hs3 := Lib.hid hs3
        obtain ⟨z0, z1⟩ := t9.cells
        obtain ⟨y0, y1⟩ := t9.frz
        have oT := own_setOff (i := 1) (u := .int .u32 s3.m.toNat) (own_setOff (i := 0) (u := .int .u32 s3.p.toNat) oq hvb.out) hvb.out
        have xT := ext_set (ext_set xq l81.out 0 (.int .u32 s3.p.toNat)) l81.out 1 (.int .u32 s3.m.toNat)
        have hB7 := xT.le
        have hsz7 : ((wq.setCell ⟨b8, 0, none⟩ (.int .u32 s3.p.toNat)).setCell ⟨b8, 1, none⟩ (.int .u32 s3.m.toNat)).heap.size = wq.heap.size := by simp
        replace hsz7 := Lib.hid hsz7
        clear t8 t9 q3 q4 oS oq hxq xq hxW hXs
        refine wpH_pure (i := 10) (v := (sndV s3)) rfl (by kernel_rfl) (by kernel_rfl) (by kernel_rfl) (by kernel_rfl) (by kernel_rfl) (by kernel_rfl) (fun _ _ _ h => h) (.inl ⟨rfl, fun W' _ => ?_⟩) ?_
        · go_simp
        refine wpH_pure (i := 11) (v := (.int .i64 (takeE s1 s2 tk))) rfl (by kernel_rfl) (by kernel_rfl) (by kernel_rfl) (by kernel_rfl) (by kernel_rfl) (by kernel_rfl) (fun _ _ _ h => h) (.inl ⟨rfl, fun W' _ => ?_⟩) ?_
        · go_simp
        refine wpH_step (k := 12) rfl (by kernel_rfl) rfl fun K hK => ?_
        go_simp
        refine hK _ _ (needA_no (by kernel_rfl)) ?_
        refine wpH_last (by kernel_rfl) ?_
        clear hK K
        go_wp2_with (at_builtin; refine wp_appA w1.heap.size _ s3 #[.int .u32 s3.p.toNat, .int .u32 s3.m.toNat] rfl rfl _ _ 40 rfl 52 Tryz.underlying40 info_snd rfl (by decide) Snd.len Snd.one u5 (putM (L.outs.take i) cs) rfl oT hB7 (by rw [hsz7.out]; rfl) (by have := hln.out; omega) (by decide) ?_; intro v7 w7 o7 g7 r7)
        have x7 := xT.grown g7 fun r e => (own_lt oT e).1
        rw [← hsu2.out] at o7
        (first | exact ⟨⟨i + 1, hlt, by go_num, x7, o7⟩, (by simp [intOf]; omega)⟩ | (go_roundw; case rel => exact ⟨i + 1, hlt, by go_num, x7, o7⟩; case measure => exact (by simp [intOf]; omega)))
    · obtain rfl : i = L.outs.length := by omega
      rw [List.take_length] at hown
      obtain ⟨a3, n3, c3, hn3, rfl, _⟩ := OwnK.rdn Snd.len hown
      replace hn3 := Lib.hid hn3
      go_wp2_with fail
      go_ret
      exact ⟨a3, n3, c3, rfl, hn3, hown.base hxB.le, hxB.trans hx⟩
end Go.Proofs.YtadncjpknckaaaaGreatDoor
