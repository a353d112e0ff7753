/-
  small and Light: some answer; if a history is light, its lists are short.
  become: what a word becomes at a node, law by law.
-/
import Derived.Test.YtadncjpknckaaaaGreatDoorA28
import Derived.Test.YtadncjpknckaaaaGreatDoorA32
import Derived.Test.YtadncjpknckaaaaGreatDoorA35
import Derived.Test.YtadncjpknckaaaaGreatDoorA37
namespace Go.Proofs.YtadncjpknckaaaaGreatDoor
open Go.RowKit Go.Shelf Go.Maps
attribute [local go_sem] Oper.semAt_some
def RetSome (w : World) (e : Ending) (w' : World) : Prop := (∃ b : Bool, e = .returned (.bool b)) ∧ Ext w w'
set_option maxHeartbeats 4000000 in
set_option maxRecDepth 20000 in
theorem small_any (L : HL) (w : World) (hL : RdLw w L) : Calls Tryz.prog 10 #[lawV L] w (RetSome w) := by
  have hB := LawB.new w L
  have hX := Ext.alloc1 w (.cells #[.string L.name, .int .i64 L.left.kind, .int .u32 L.left.is.p.toNat, .int .u32 L.left.is.m.toNat, .bool L.left.neg, .int .i64 L.left.mn, .int .i64 L.left.mx, .slice L.left.a L.left.n L.left.cap, .int .i64 L.right.kind, .int .u32 L.right.is.p.toNat, .int .u32 L.right.is.m.toNat, .bool L.right.neg, .int .i64 L.right.mn, .int .i64 L.right.mx, .slice L.right.a L.right.n L.right.cap, .slice L.ia L.ifs.length L.icap, .slice L.oa L.outs.length L.ocap, .int .i64 L.mode] 58)
  go_enter Tryz.func10, Tryz.ntmps10
  go_wp2_with fail
  generalize (w.alloc (.cells #[.string L.name, .int .i64 L.left.kind, .int .u32 L.left.is.p.toNat, .int .u32 L.left.is.m.toNat, .bool L.left.neg, .int .i64 L.left.mn, .int .i64 L.left.mx, .slice L.left.a L.left.n L.left.cap, .int .i64 L.right.kind, .int .u32 L.right.is.p.toNat, .int .u32 L.right.is.m.toNat, .bool L.right.neg, .int .i64 L.right.mn, .int .i64 L.right.mx, .slice L.right.a L.right.n L.right.cap, .slice L.ia L.ifs.length L.icap, .slice L.oa L.outs.length L.ocap, .int .i64 L.mode] 58)) = w1 at *
  have hmx : Tryz.prog.follows .mixedOrders = true := by kernel_rfl
  refine wp_region_H (fun W' : World => LawB W' w.heap.size L) [0, 1, 3, 4] hmx ?_
  show wpH _ _ _ _ _ _ 21 _ _ _
  have hS0 : (fun W' : World => LawB W' w.heap.size L) w1.drew := hB
  have hx0 : Ext w w1.drew := hX.drew
  generalize w1.drew = wd at *
  refine wpH_take (i := 0) (v := (.pointer (some ⟨w.heap.size, 1, none⟩))) rfl (by kernel_rfl) (by kernel_rfl) (by kernel_rfl) (by kernel_rfl) (by kernel_rfl) (fun _ _ _ h => h) (.inl ⟨rfl, fun W' hW' => ?_⟩) hS0 ?_
  · go_simp
  refine wpH_take (i := 1) (v := (patV L.left)) rfl (by kernel_rfl) (by kernel_rfl) (by kernel_rfl) (by kernel_rfl) (by kernel_rfl) (fun _ _ _ h => h) (.inl ⟨rfl, fun W' hW' => ?_⟩) hS0 ?_
  · obtain ⟨q0, q1, q2, q3, q4, q5, q6⟩ := LawB.cl hW'
    go_simp
  refine wpH_take (i := 3) (v := (.pointer (some ⟨w.heap.size, 8, none⟩))) rfl (by kernel_rfl) (by kernel_rfl) (by kernel_rfl) (by kernel_rfl) (by kernel_rfl) (fun _ _ _ h => h) (.inl ⟨rfl, fun W' hW' => ?_⟩) hS0 ?_
  · go_simp
  refine wpH_take (i := 4) (v := (patV L.right)) rfl (by kernel_rfl) (by kernel_rfl) (by kernel_rfl) (by kernel_rfl) (by kernel_rfl) (fun _ _ _ h => h) (.inl ⟨rfl, fun W' hW' => ?_⟩) hS0 ?_
  · obtain ⟨q0, q1, q2, q3, q4, q5, q6⟩ := LawB.cr hW'
    go_simp
  refine wpH_step (k := 2) rfl (by kernel_rfl) rfl fun K hK => ?_
  go_simp
  refine (size_any L.left _ (hL.left.ext hx0)).mono ?_
  rintro e w2 ⟨r1, rfl, hr1, hx2⟩
  replace hS0 : (fun W' : World => LawB W' w.heap.size L) w2 := LawB.ext hS0 hx2
  replace hx0 := hx0.trans hx2
  refine hK _ _ (fun _ => hS0) ?_
  clear hK K hx2
  refine wpH_step (k := 5) rfl (by kernel_rfl) rfl fun K hK => ?_
  go_simp
  refine (size_any L.right _ (hL.right.ext hx0)).mono ?_
  rintro e w3 ⟨r2, rfl, hr2, hx3⟩
  replace hS0 : (fun W' : World => LawB W' w.heap.size L) w3 := LawB.ext hS0 hx3
  replace hx0 := hx0.trans hx3
  refine hK _ _ (fun _ => hS0) ?_
  clear hK K hx3
  obtain ⟨s, hs⟩ : ∃ s, r1 + r2 = s := ⟨_, rfl⟩
  have hs2 : (r1 : Int) + (r2 : Int) = (s : Int) := by omega
  have hs3 : s ≤ 82 := by omega
  have hw : IntKind.i64.wrap (s : Int) = (s : Int) := by rw [IntKind.wrap_i64]; omega
  refine wpH_step (k := 6) rfl (by kernel_rfl) rfl fun K hK => ?_
  go_simp
  refine hK _ _ (fun _ => hS0) ?_
  clear hK K
  obtain ⟨l0, l15, l16, l17⟩ := LawB.c hS0
  by_cases h30 : s ≤ 30
  · have h30' : (s : Int) ≤ 30 := by omega
    refine wpH_step (k := 7) rfl (by kernel_rfl) rfl fun K hK => ?_
    go_simp
    refine hK _ _ (fun _ => hS0) ?_
    clear hK K
    refine wpH_step (k := 8) rfl (by kernel_rfl) rfl fun K hK => ?_
    go_simp
    refine hK _ _ (fun _ => hS0) ?_
    clear hK K
    refine wpH_step (k := 9) rfl (by kernel_rfl) rfl fun K hK => ?_
    go_simp
    refine hK _ _ (fun _ => hS0) ?_
    clear hK K
    refine wpH_step (k := 10) rfl (by kernel_rfl) rfl fun K hK => ?_
    go_simp
    refine hK _ _ (fun _ => hS0) ?_
    clear hK K
    refine wpH_step (k := 11) rfl (by kernel_rfl) rfl fun K hK => ?_
    go_simp
    refine hK _ _ (fun _ => hS0) ?_
    clear hK K
    by_cases h10 : L.ifs.length ≤ 10
    · have h10' : (L.ifs.length : Int) ≤ 10 := by omega
      refine wpH_step (k := 12) rfl (by kernel_rfl) rfl fun K hK => ?_
      go_simp
      refine hK _ _ (fun _ => hS0) ?_
      clear hK K
      refine wpH_step (k := 13) rfl (by kernel_rfl) rfl fun K hK => ?_
      go_simp
      refine hK _ _ (fun _ => hS0) ?_
      clear hK K
      refine wpH_step (k := 14) rfl (by kernel_rfl) rfl fun K hK => ?_
      go_simp
      refine hK _ _ (fun _ => hS0) ?_
      clear hK K
      refine wpH_step (k := 15) rfl (by kernel_rfl) rfl fun K hK => ?_
      go_simp
      refine hK _ _ (fun _ => hS0) ?_
      clear hK K
      refine wpH_step (k := 16) rfl (by kernel_rfl) rfl fun K hK => ?_
      go_simp
      refine hK _ _ (fun _ => hS0) ?_
      clear hK K
      refine wpH_step (k := 17) rfl (by kernel_rfl) rfl fun K hK => ?_
      go_simp
      refine hK _ _ (fun _ => hS0) ?_
      clear hK K
      refine wpH_step (k := 18) rfl (by kernel_rfl) rfl fun K hK => ?_
      go_simp
      refine hK _ _ (fun _ => hS0) ?_
      clear hK K
      refine wpH_step (k := 19) rfl (by kernel_rfl) rfl fun K hK => ?_
      go_simp
      refine hK _ _ (fun _ => hS0) ?_
      clear hK K
      refine wpH_step (k := 20) rfl (by kernel_rfl) rfl fun K hK => ?_
      go_simp
      refine hK _ _ (fun _ => hS0) ?_
      clear hK K
      refine wpH_last (by kernel_rfl) ?_
      go_wp2_with fail
      go_ret
      exact ⟨⟨_, rfl⟩, hx0⟩
    · have h10' : ¬ (L.ifs.length : Int) ≤ 10 := by omega
      refine wpH_step (k := 12) rfl (by kernel_rfl) rfl fun K hK => ?_
      go_simp
      refine hK _ _ (fun _ => hS0) ?_
      clear hK K
      refine wpH_step (k := 13) rfl (by kernel_rfl) rfl fun K hK => ?_
      go_simp
      refine hK _ _ (fun _ => hS0) ?_
      clear hK K
      refine wpH_step (k := 14) rfl (by kernel_rfl) rfl fun K hK => ?_
      go_simp
      refine hK _ _ (fun _ => hS0) ?_
      clear hK K
      refine wpH_skip (k := 15) rfl (by kernel_rfl) (by kernel_rfl) (fun _ => hS0) ?_
      refine wpH_skip (k := 16) rfl (by kernel_rfl) (by kernel_rfl) (fun _ => hS0) ?_
      refine wpH_skip (k := 17) rfl (by kernel_rfl) (by kernel_rfl) (fun _ => hS0) ?_
      refine wpH_skip (k := 18) rfl (by kernel_rfl) (by kernel_rfl) (fun _ => hS0) ?_
      refine wpH_step (k := 19) rfl (by kernel_rfl) rfl fun K hK => ?_
      go_simp
      refine hK _ _ (fun _ => hS0) ?_
      clear hK K
      refine wpH_step (k := 20) rfl (by kernel_rfl) rfl fun K hK => ?_
      go_simp
      refine hK _ _ (fun _ => hS0) ?_
      clear hK K
      refine wpH_last (by kernel_rfl) ?_
      go_wp2_with fail
      go_ret
      exact ⟨⟨_, rfl⟩, hx0⟩
  · have h30' : ¬ (s : Int) ≤ 30 := by omega
    refine wpH_step (k := 7) rfl (by kernel_rfl) rfl fun K hK => ?_
    go_simp
    refine hK _ _ (fun _ => hS0) ?_
    clear hK K
    refine wpH_step (k := 8) rfl (by kernel_rfl) rfl fun K hK => ?_
    go_simp
    refine hK _ _ (fun _ => hS0) ?_
    clear hK K
    refine wpH_skip (k := 9) rfl (by kernel_rfl) (by kernel_rfl) (fun _ => hS0) ?_
    refine wpH_skip (k := 10) rfl (by kernel_rfl) (by kernel_rfl) (fun _ => hS0) ?_
    refine wpH_skip (k := 11) rfl (by kernel_rfl) (by kernel_rfl) (fun _ => hS0) ?_
    refine wpH_skip (k := 12) rfl (by kernel_rfl) (by kernel_rfl) (fun _ => hS0) ?_
    refine wpH_step (k := 13) rfl (by kernel_rfl) rfl fun K hK => ?_
    go_simp
    refine hK _ _ (fun _ => hS0) ?_
    clear hK K
    refine wpH_step (k := 14) rfl (by kernel_rfl) rfl fun K hK => ?_
    go_simp
    refine hK _ _ (fun _ => hS0) ?_
    clear hK K
    refine wpH_skip (k := 15) rfl (by kernel_rfl) (by kernel_rfl) (fun _ => hS0) ?_
    refine wpH_skip (k := 16) rfl (by kernel_rfl) (by kernel_rfl) (fun _ => hS0) ?_
    refine wpH_skip (k := 17) rfl (by kernel_rfl) (by kernel_rfl) (fun _ => hS0) ?_
    refine wpH_skip (k := 18) rfl (by kernel_rfl) (by kernel_rfl) (fun _ => hS0) ?_
    refine wpH_step (k := 19) rfl (by kernel_rfl) rfl fun K hK => ?_
    go_simp
    refine hK _ _ (fun _ => hS0) ?_
    clear hK K
    refine wpH_step (k := 20) rfl (by kernel_rfl) rfl fun K hK => ?_
    go_simp
    refine hK _ _ (fun _ => hS0) ?_
    clear hK K
    refine wpH_last (by kernel_rfl) ?_
    go_wp2_with fail
    go_ret
    exact ⟨⟨_, rfl⟩, hx0⟩
/-- What light says of a history. -/
def lightP (h : HH) : Prop := h.tn ≤ 8 ∧ h.pn ≤ 8 ∧ ∀ p ∈ h.ps, p.n ≤ 4
def RetLi (h : HH) (w : World) (e : Ending) (w' : World) : Prop := (∃ b : Bool, e = .returned (.bool b) ∧ Hid (b = true → lightP h)) ∧ Ext w w'
set_option maxHeartbeats 4000000 in
set_option maxRecDepth 20000 in
theorem light_any (h : HH) (w : World) (hr : RdH w h) : Calls Tryz.prog 4 #[h.v] w (RetLi h w) := by
  obtain ⟨ta, tn, tc, ts, la, ln, lc, ls, pa, pn, pc, ps⟩ := h
  obtain ⟨ht, hl, hp⟩ := hr
  simp only at ht hl hp
  have hxw := Ext.alloc1 w (.cells #[.slice ta tn tc, .slice la ln lc, .slice pa pn pc] 26)
  have hB0 : (w.alloc (.cells #[.slice ta tn tc, .slice la ln lc, .slice pa pn pc] 26)).heap[w.heap.size]? = some (.cells #[.slice ta tn tc, .slice la ln lc, .slice pa pn pc] 26 (0, 0)) := World.alloc_heap_new w _
  have hpl := hp.rd.len
  by_cases h8 : tn ≤ 8 ∧ ln ≤ 6 ∧ pn ≤ 8
  · obtain ⟨h1, h2, h3⟩ := h8
    have g1 : ¬ (8 : Int) < (tn : Int) := by omega
    have g2 : ¬ (6 : Int) < (ln : Int) := by omega
    have g3 : ¬ (8 : Int) < (pn : Int) := by omega
    go_enter Tryz.func4, Tryz.ntmps4
    go_wp2_with fail
    generalize w.alloc (.cells #[.slice ta tn tc, .slice la ln lc, .slice pa pn pc] 26) = w1 at *
    go_loopw [3] (fun i wr => ∃ k : Nat, k ≤ ln ∧ i = .int .i64 k ∧ Ext w1 wr) (fun i _ => ln - (intOf i).toNat)
    case atStart => exact ⟨0, Nat.zero_le _, rfl, Ext.refl _⟩
    case round =>
      obtain ⟨k, hk, rfl, hx⟩ := hrel
      have hb := blk_kept hB0 hx
      have c1 : wr.cell? ⟨w.heap.size, 1, none⟩ = some (.slice la ln lc) := by simp [World.cell?, hb]
      by_cases hlt : k < ln
      · obtain ⟨b, off, L, rfl, hs, hbL, hrow, hL⟩ := (hl.ext (hxw.trans hx)).at hlt
        go_wp2_with (refine load_law L rfl _ rfl b _ rfl hrow ?_)
        refine (small_any L _ hL).mono ?_
        rintro e w2 ⟨⟨b2, rfl⟩, hx2⟩
        clear c1 hb
        have hxx := hx.trans hx2
        cases b2
        · go_wp2_with fail
          go_ret
          exact ⟨⟨false, rfl, Lib.hid fun h => by cases h⟩, hxw.trans hxx⟩
        · go_wp2_with fail
          (first | exact ⟨⟨k + 1, by omega, by go_num, hxx⟩, (by simp [intOf]; omega)⟩ | (go_roundw; case rel => exact ⟨k + 1, by omega, by go_num, hxx⟩; case measure => exact (by simp [intOf]; omega)))
      · clear hb
        go_wp2_with fail
        generalize wr = wk at *
        go_loopw [4] (fun i wr => ∃ k : Nat, k ≤ pn ∧ i = .int .i64 k ∧ Ext w1 wr ∧ Hid (∀ (i : Nat) (p : Pl), i < k → ps[i]? = some p → p.n ≤ 4)) (fun i _ => pn - (intOf i).toNat)
        case atStart => exact ⟨0, Nat.zero_le _, rfl, hx, Lib.hid fun i p hi => absurd hi (Nat.not_lt_zero _)⟩
        case round =>
          obtain ⟨j, hj, rfl, hxj, hall⟩ := hrel
          have hb := blk_kept hB0 hxj
          have c2 : wr.cell? ⟨w.heap.size, 2, none⟩ = some (.slice pa pn pc) := by simp [World.cell?, hb]
          by_cases hlj : j < pn
          · obtain ⟨bp, offp, p, rfl, hps, hbp, cp, hpx⟩ := (hp.ext (hxw.trans hxj)).pl hlj
            by_cases h4 : p.n ≤ 4
            · have h4' : ¬ (4 : Int) < (p.n : Int) := by omega
              have hnew : Hid (∀ (i : Nat) (q : Pl), i < j + 1 → ps[i]? = some q → q.n ≤ 4) := Lib.hid fun i q hi hq => by
                rcases Nat.lt_or_ge i j with h | h
                · exact hall.out i q h hq
                · obtain rfl : i = j := by omega
                  rw [hps.out] at hq; cases hq; exact h4
              go_wp2_with fail
              (first | exact ⟨⟨j + 1, by omega, by go_num, hxj, hnew⟩, (by simp [intOf]; omega)⟩ | (go_roundw; case rel => exact ⟨j + 1, by omega, by go_num, hxj, hnew⟩; case measure => exact (by simp [intOf]; omega)))
            · have h4' : (4 : Int) < (p.n : Int) := by omega
              go_wp2_with fail
              go_ret
              exact ⟨⟨false, rfl, Lib.hid fun h => by cases h⟩, hxw.trans hxj⟩
          · have hP : Hid (∀ p ∈ ps, p.n ≤ 4) := Lib.hid fun p hpm => by
              obtain ⟨i, hi⟩ := List.mem_iff_getElem?.1 hpm
              have := (List.getElem?_eq_some_iff.1 hi).1
              exact hall.out i p (by omega) hi
            go_wp2_with fail
            go_ret
            exact ⟨⟨true, rfl, Lib.hid fun _ => ⟨h1, h3, hP.out⟩⟩, hxw.trans hxj⟩
  · have h8' : ¬ ((tn : Int) ≤ 8 ∧ (ln : Int) ≤ 6 ∧ (pn : Int) ≤ 8) := fun h => h8 ⟨by omega, by omega, by omega⟩
    by_cases g1 : 8 < tn
    · have g1' : (8 : Int) < (tn : Int) := by omega
      go_enter Tryz.func4, Tryz.ntmps4
      go_wp2_with fail
      go_ret
      exact ⟨⟨false, rfl, Lib.hid fun h => by cases h⟩, hxw⟩
    · have g1' : ¬ (8 : Int) < (tn : Int) := by omega
      by_cases g2 : 6 < ln
      · have g2' : (6 : Int) < (ln : Int) := by omega
        go_enter Tryz.func4, Tryz.ntmps4
        go_wp2_with fail
        go_ret
        exact ⟨⟨false, rfl, Lib.hid fun h => by cases h⟩, hxw⟩
      · have g2' : ¬ (6 : Int) < (ln : Int) := by omega
        have g3' : (8 : Int) < (pn : Int) := by omega
        go_enter Tryz.func4, Tryz.ntmps4
        go_wp2_with fail
        go_ret
        exact ⟨⟨false, rfl, Lib.hid fun h => by cases h⟩, hxw⟩
end Go.Proofs.YtadncjpknckaaaaGreatDoor
namespace Go.Proofs.YtadncjpknckaaaaGreatDoor
open Go.RowKit Go.Shelf Go.Maps
attribute [local go_sem] Oper.semAt_some
theorem derM_append (A B : List HL) (ws : List Snd) : derM (A ++ B) ws = (derM A ws).bind (derM B) := by
  induction A generalizing ws with
  | nil => rfl
  | cons L A ih =>
    rw [List.cons_append, derM_cons, derM_cons]
    cases applyM L ws with
    | none => rfl
    | some x => exact ih x
theorem derM_one (A : List HL) (L : HL) {ws cur : List Snd} (h : derM A ws = some cur) : derM (A ++ [L]) ws = applyM L cur := by
  rw [derM_append, h, Option.bind_some, derM_cons]
  cases applyM L cur <;> rfl
theorem derM_pre {A B : List HL} (h : A <+: B) {ws : List Snd} (hn : derM A ws = none) : derM B ws = none := by
  obtain ⟨t, rfl⟩ := h
  rw [derM_append, hn]; rfl
theorem atTo_pre (ls : List HL) (xs : List Int) (j : Nat) : atTo ls xs j <+: (xs.filterMap fun x => ls[x.toNat]?) := by
  unfold atTo
  conv => rhs; rw [← List.take_append_drop j xs, List.filterMap_append]
  exact List.prefix_append _ _
theorem line_pre {ls : List HL} {ps : List Pl} {us : List Int} {i u : Nat} {p : Pl} (hu : us[i]? = some (u : Int)) (hp : ps[u]? = some p) (j : Nat) : (lineTo ls ps (us.take i) ++ atTo ls p.xs j) <+: lineTo ls ps us := by
  have h1 : lineTo ls ps (us.take (i + 1)) <+: lineTo ls ps us := by
    unfold lineTo
    conv => rhs; rw [← List.take_append_drop (i + 1) us, List.flatMap_append]
    exact List.prefix_append _ _
  rw [lineTo_succ hu] at h1
  have h2 : atTo ls p.xs j <+: lawsAt ls ps (u : Int) := by
    unfold lawsAt
    rw [Int.toNat_natCast, hp]
    exact atTo_pre _ _ _
  exact ((List.prefix_append_right_inj _).2 h2).trans h1
def RetBe (r : Option (List Snd)) (w : World) (e : Ending) (w' : World) : Prop := ∃ (a : Option Addr) (n c : Nat) (ok : Bool), e = .returned (.tuple #[.slice a n c, .bool ok]) ∧ Ext w w' ∧ Hid (ok = r.isSome) ∧ Hid (∀ out, r = some out → RdS w' a n c out)
set_option maxHeartbeats 4000000 in
set_option maxRecDepth 20000 in
theorem become_any (h : HH) (a0 : Option Addr) (n0 c0 : Nat) (ws : List Snd) (v : Nat) (w : World) (hr : RdH w h) (hH : histB h = true) (hsm : ∀ p ∈ h.ps, p.n ≤ 4) (hv : v < h.tn) (hws : RdS w a0 n0 c0 ws) (hT : Tab64 w) :
    Calls Tryz.prog 8 #[h.v, .slice a0 n0 c0, .int .i64 (v : Int)] w (RetBe (derM (lineL h.ls h.ps h.ts v) ws) w) := by
  simp only [histB, Bool.and_eq_true, decide_eq_true_eq] at hH
  obtain ⟨htb, hok, hpn, hlb⟩ := hH
  have hin := fun p hp x hx => @listsB_in h hlb p hp x hx
  clear hlb
  obtain ⟨ta, tn, tc, ts, la, ln, lc, ls, pa, pn, pc, ps⟩ := h
  obtain ⟨ht, hl, hp⟩ := hr
  simp only at htb hok hpn hin hsm ht hl hp hv
  subst hpn
  have hxw := Ext.alloc1 w (.cells #[.slice ta pn tc, .slice la ln lc, .slice pa pn pc] 26)
  have hB0 : (w.alloc (.cells #[.slice ta pn tc, .slice la ln lc, .slice pa pn pc] 26)).heap[w.heap.size]? = some (.cells #[.slice ta pn tc, .slice la ln lc, .slice pa pn pc] 26 (0, 0)) := World.alloc_heap_new w _
  have hpt := path_any ts ta pn tc v _ (ht.ext hxw) htb hv
  have hdn := fun i u => @down_lt ts htb v (by have := ht.rd.len; omega) i u
  have hln : ln ≤ 64 := by
    unfold lawsOkB at hok
    rw [Bool.and_eq_true, decide_eq_true_eq] at hok
    have := hl.rd.len; omega
  have hpn63 : pn ≤ 63 := by have := (treeB_len htb).2; have := ht.rd.len; omega
  go_enter Tryz.func8, Tryz.ntmps8
  go_wp2_with fail
  generalize w.alloc (.cells #[.slice ta pn tc, .slice la ln lc, .slice pa pn pc] 26) = w1 at *
  refine hpt.mono ?_
  rintro e w2 ⟨aw, nw, cw, rfl, hnw, how, hx2⟩
  have hnw64 : nw ≤ 64 := by
    have h1 := hnw.out
    unfold downL pathL at h1
    rw [List.length_reverse, List.length_map] at h1
    have h2 := pathF_len ts (v + 1) (v : Int)
    omega
  have hrw := OwnK.rdc I64.len how
  have hx02 := hxw.trans hx2
  have hB2 := blk_kept hB0 hx2
  obtain ⟨us, hus⟩ : ∃ us, downL ts v = us := ⟨_, rfl⟩
  have hline : lineL ls ps ts v = lineTo ls ps us := by unfold lineL; rw [hus]
  rw [hline]
  rw [hus] at hrw hdn hnw
  replace hdn := Lib.hid hdn
  replace hline := Lib.hid hline
  replace hus := Lib.hid hus
  have hnw1 : 1 ≤ nw := by
    have h1 := hnw.out
    rw [← hus.out] at h1
    unfold downL pathL pathF at h1
    rw [if_neg (by omega)] at h1
    simp at h1
    omega
  obtain ⟨bu, offu, rfl, _, _⟩ := hrw.pos (by omega)
  clear how hpt hB0
  go_wp2_with fail
  go_loopw [1, 10] (fun wv i X => ∃ (i' : Nat) (a : Option Addr) (n c : Nat) (cur : List Snd), i' ≤ nw ∧ i = .int .i64 i' ∧ wv = .slice a n c ∧ Ext w2 X ∧ RdS X a n c cur ∧ Hid (derM (lineTo ls ps (us.take i')) ws = some cur)) (fun _ i _ => nw - (intOf i).toNat)
  case atStart => exact ⟨0, a0, n0, c0, ws, Nat.zero_le _, rfl, rfl, Ext.refl _, hws.ext hx02, Lib.hid rfl⟩
  case round =>
    obtain ⟨i, a, n, c, cur, hi, rfl, rfl, hx, hrc, hcur⟩ := hrel
    by_cases hli : i < nw
    · obtain ⟨bu', offu', u, hau, hui, hbu, cu⟩ := (hrw.ext hx).i64 hli
      cases hau
      obtain ⟨m, rfl, hm⟩ := hdn.out i u hui.out
      have hmn : m < pn := by have := ht.rd.len; omega
      obtain ⟨bp, offp, p, rfl, hps, hbp, cp, hpx⟩ := (hp.ext (hx02.trans hx)).pl hmn
      have hbw := blk_kept hB2 hx
      have h2 : wr.cell? ⟨w.heap.size, 2, none⟩ = some (.slice (some ⟨bp, offp, none⟩) pn pc) := by simp [World.cell?, hbw]
      have hmi : (m : Int) < (pn : Int) := by omega
      have hm0 : ¬ (m : Int) < 0 := by omega
      have hmg : ¬ pn ≤ m := by omega
      have hpn := hpx.len
      have hls := lineTo_succ (ls := ls) (ps := ps) hui.out
      have hp4 := hsm p (List.mem_of_getElem? hps.out)
      replace hls := Lib.hid hls
      replace hpn := Lib.hid hpn
      clear hbw
      have hui2 := hui.out
      replace hui2 := Lib.hid hui2
      go_wp2_with fail
      go_quiet (fail)
      go_wp2_with fail
      go_quiet (fail)
      go_wp2_with fail
      clear h2 cu cp
      go_loopw [1, 12] (fun wv j X => ∃ (j' : Nat) (a : Option Addr) (n c : Nat) (cur : List Snd), j' ≤ p.n ∧ j = .int .i64 j' ∧ wv = .slice a n c ∧ Ext w2 X ∧ RdS X a n c cur ∧ Hid (derM (lineTo ls ps (us.take i) ++ atTo ls p.xs j') ws = some cur)) (fun _ j _ => p.n - (intOf j).toNat)
      case atStart => exact ⟨0, a, n, c, cur, Nat.zero_le _, rfl, rfl, (by repeat (first | exact Ext.refl _ | assumption | refine Ext.drew ?_ | refine Ext.drewN ?_ _ | refine Ext.alloc ?_ _ | refine Ext.trans ?_ (by assumption))), hrc.ext (by repeat (first | exact Ext.refl _ | assumption | refine Ext.drew ?_ | refine Ext.drewN ?_ _ | refine Ext.alloc ?_ _ | refine Ext.trans ?_ (by assumption))), Lib.hid (by simpa [atTo] using hcur.out)⟩
      case round =>
        clear hrc hcur
        obtain ⟨j, a, n, c, cur, hj, rfl, rfl, hxj, hrc, hcur⟩ := hrel
        by_cases hlj : j < p.n
        · obtain ⟨bx, offx, x, hxa, hxs, hbx, cx⟩ := ((hp.rows p (List.mem_of_getElem? hps.out)).ext (hx02.trans hxj)).i64 hlj
          obtain ⟨hx0, hx1⟩ := hin p (List.mem_of_getElem? hps.out) x (List.mem_of_getElem? hxs.out)
          obtain ⟨q, rfl⟩ := Int.eq_ofNat_of_zero_le hx0
          have hqn : q < ln := by omega
          obtain ⟨bl, offl, rfl, hbl, hcl⟩ := hl.rd.pos (by omega)
          obtain ⟨L, hLq⟩ : ∃ L, ls[q]? = some L := ⟨_, List.getElem?_eq_getElem (by have := hl.rd.len; omega)⟩
          have hrow : ∀ W, Ext w2 W → W.rangeAt bl (offl + q * 18) L.enc := fun W hW j v hv => (hx02.trans hW).cellv (hcl q L hLq j v hv)
          have hRL : RdLw w L := hl.laws L (List.mem_of_getElem? hLq)
          have hat := atTo_succ (ls := ls) hxs.out (L := L) (by rw [Int.toNat_natCast]; exact hLq)
          have hbw := blk_kept hB2 hxj
          have h1 : wr.cell? ⟨w.heap.size, 1, none⟩ = some (.slice (some ⟨bl, offl, none⟩) ln lc) := by simp [World.cell?, hbw]
          have hstep := derM_one _ L hcur.out
          rw [List.append_assoc, ← hat] at hstep
          have hpre := line_pre (ls := ls) hui.out hps.out (j + 1)
          have hq1 : ¬ (q : Int) < 0 := by omega
          have hq2 : ¬ (ln : Int) ≤ (q : Int) := by omega
          clear hcl hbw hat
          replace hstep := Lib.hid hstep
          replace hLq := Lib.hid hLq
          go_wp2_with fail
          go_quiet (fail)
          go_wp2_with fail
          have hmx : Tryz.prog.follows .mixedOrders = true := by kernel_rfl
          generalize hwn : wr.drewN _ = wn
          have hxn : Ext wr wn := by rw [← hwn]; exact (Ext.refl _).drewN _
          clear hwn
          refine wp_region_H (fun W' : World => Ext wn W') [0, 1, 2, 3, 4, 5, 6, 7, 8, 10, 11, 12] hmx ?_
          show wpH _ _ _ _ _ _ 15 _ _ _
          have hS0 : (fun W' : World => Ext wn W') wn.drew := (Ext.refl _).drew
          refine wpH_take (i := 0) (v := (.pointer (some ⟨w.heap.size, 1, none⟩))) rfl (by kernel_rfl) (by kernel_rfl) (by kernel_rfl) (by kernel_rfl) (by kernel_rfl) (fun _ _ _ h => h) (.inl ⟨rfl, fun W' hW' => ?_⟩) hS0 ?_
          · go_simp
          refine wpH_take (i := 1) (v := (.slice (some ⟨bl, offl, none⟩) ln lc)) rfl (by kernel_rfl) (by kernel_rfl) (by kernel_rfl) (by kernel_rfl) (by kernel_rfl) (fun _ _ _ h => h) (.inl ⟨rfl, fun W' hW' => ?_⟩) hS0 ?_
          · have u := Ext.cellv hW' (hxn.cellv h1)
            go_simp
          refine wpH_take (i := 2) (v := (.slice p.a p.n p.cap)) rfl (by kernel_rfl) (by kernel_rfl) (by kernel_rfl) (by kernel_rfl) (by kernel_rfl) (fun _ _ _ h => h) (.inl ⟨rfl, fun W' hW' => ?_⟩) hS0 ?_
          · go_simp
          refine wpH_take (i := 3) (v := (.int .i64 (j : Int))) rfl (by kernel_rfl) (by kernel_rfl) (by kernel_rfl) (by kernel_rfl) (by kernel_rfl) (fun _ _ _ h => h) (.inl ⟨rfl, fun W' hW' => ?_⟩) hS0 ?_
          · go_simp
          rw [hxa]
          refine wpH_take (i := 4) (v := (.pointer (some ⟨bx, offx + j, none⟩))) rfl (by kernel_rfl) (by kernel_rfl) (by kernel_rfl) (by kernel_rfl) (by kernel_rfl) (fun _ _ _ h => h) (.inl ⟨rfl, fun W' hW' => ?_⟩) hS0 ?_
          · go_simp
          refine wpH_take (i := 5) (v := (.int .i64 (q : Int))) rfl (by kernel_rfl) (by kernel_rfl) (by kernel_rfl) (by kernel_rfl) (by kernel_rfl) (fun _ _ _ h => h) (.inl ⟨rfl, fun W' hW' => ?_⟩) hS0 ?_
          · have u := Ext.cellv hW' (hxn.cellv cx)
            go_simp
          refine wpH_take (i := 6) (v := (.pointer (some ⟨bl, offl + q * 18, none⟩))) rfl (by kernel_rfl) (by kernel_rfl) (by kernel_rfl) (by kernel_rfl) (by kernel_rfl) (fun _ _ _ h => h) (.inl ⟨rfl, fun W' hW' => ?_⟩) hS0 ?_
          · go_simp
          refine wpH_take (i := 7) (v := lawV L) rfl (by kernel_rfl) (by kernel_rfl) (by kernel_rfl) (by kernel_rfl) (by kernel_rfl) (fun _ _ _ h => h) (yields_law L bl (offl + q * 18) (fun W' hW' => hrow W' (hxj.trans (hxn.trans hW'))) _ rfl (by go_simp) rfl) hS0 ?_
          refine wpH_take (i := 8) (v := (.slice a n c)) rfl (by kernel_rfl) (by kernel_rfl) (by kernel_rfl) (by kernel_rfl) (by kernel_rfl) (fun _ _ _ h => h) (.inl ⟨rfl, fun W' hW' => ?_⟩) hS0 ?_
          · go_simp
          have hxd : Ext w2 wn.drew := hxj.trans (hxn.trans hS0)
          refine wpH_step (k := 9) rfl (by kernel_rfl) rfl fun K hK => ?_
          go_simp
          refine (apply_any L a n c cur _ (hRL.ext (hx02.trans hxd)) (hrc.ext (hxn.trans hS0)) (hT.ext (hx02.trans hxd))).mono ?_
          rintro e X2 ⟨a2, n2, c2, err, rfl, hx2, herr, hout⟩
          have hxX : Ext wn X2 := Ext.trans hS0 hx2
          have hx2X : Ext w2 X2 := hxd.trans hx2
          replace hS0 : (fun W' : World => Ext wn W') X2 := hxX
          refine hK _ _ (fun _ => hS0) ?_
          clear hK K hx2
          refine wpH_take (i := 10) (v := (.tuple #[.slice a2 n2 c2, .int .i64 err])) rfl (by kernel_rfl) (by kernel_rfl) (by kernel_rfl) (by kernel_rfl) (by kernel_rfl) (fun _ _ _ h => h) (.inl ⟨rfl, fun W' hW' => ?_⟩) hS0 ?_
          · go_simp
          refine wpH_take (i := 11) (v := (.slice a2 n2 c2)) rfl (by kernel_rfl) (by kernel_rfl) (by kernel_rfl) (by kernel_rfl) (by kernel_rfl) (fun _ _ _ h => h) (.inl ⟨rfl, fun W' hW' => ?_⟩) hS0 ?_
          · go_simp
          refine wpH_take (i := 12) (v := (.int .i64 err)) rfl (by kernel_rfl) (by kernel_rfl) (by kernel_rfl) (by kernel_rfl) (by kernel_rfl) (fun _ _ _ h => h) (.inl ⟨rfl, fun W' hW' => ?_⟩) hS0 ?_
          · go_simp
          refine wpH_step (k := 13) rfl (by kernel_rfl) rfl fun K hK => ?_
          go_simp
          refine hK _ _ (fun _ => hS0) ?_
          clear hK K
          refine wpH_step (k := 14) rfl (by kernel_rfl) rfl fun K hK => ?_
          go_simp
          refine hK _ _ (needA_no (by kernel_rfl)) ?_
          clear hK K
          refine wpH_last (by kernel_rfl) ?_
          clear hS0 h1 cx
          by_cases he : err = 0
          · subst he
            obtain ⟨nxt, hnxt⟩ := Option.isSome_iff_exists.1 (herr.out.1 rfl)
            have hr2 := OwnK.rdc Snd.len (hout.out nxt hnxt)
            have hcn : Hid (derM (lineTo ls ps (us.take i) ++ atTo ls p.xs (j + 1)) ws = some nxt) := Lib.hid (by rw [hstep.out, hnxt])
            clear herr hout
            go_wp2_with fail
            rw [← hxa]
            refine ⟨?_, (by simp [intOf]; omega)⟩
            repeat apply Exists.intro
            exact ⟨⟨j + 1, a2, n2, c2, nxt, by omega, by go_num, rfl, hx2X, hr2, hcn⟩, rfl⟩
          · have hno : derM (lineTo ls ps us) ws = none := derM_pre hpre (by
              rw [hstep.out]
              cases hz : applyM L cur with
              | none => rfl
              | some x => exact absurd (herr.out.2 (by rw [hz]; rfl)) he)
            have he1 : Hid (¬ err = 0) := Lib.hid he
            replace hno := Lib.hid hno
            clear herr hout
            go_wp2_with fail
            go_ret2
            exact ⟨none, 0, 0, false, rfl, hx02.trans hx2X, Lib.hid (by rw [hline.out, hno.out]; rfl), Lib.hid fun out ho => by rw [hline.out, hno.out] at ho; cases ho⟩
        · have hjn : j = p.n := by omega
          subst hjn
          have hcn : Hid (derM (lineTo ls ps (us.take (i + 1))) ws = some cur) := Lib.hid (by
            rw [hls.out, ← atTo_all hps.out hpn.out]; exact hcur.out)
          go_wp2_with fail
          (first | exact ⟨⟨i + 1, a, n, c, cur, by omega, by go_num, rfl, hxj, hrc, hcn⟩, (by simp [intOf]; omega)⟩ | (go_roundw; case rel => exact ⟨i + 1, a, n, c, cur, by omega, by go_num, rfl, hxj, hrc, hcn⟩; case measure => exact (by simp [intOf]; omega)))
    · have hin' : i = nw := by omega
      subst hin'
      rw [List.take_of_length_le (by rw [hnw.out]; exact Nat.le_refl _)] at hcur
      go_wp2_with fail
      go_ret2
      exact ⟨a, n, c, true, rfl, hx02.trans hx, Lib.hid (by rw [hline.out, hcur.out]; rfl), Lib.hid fun out ho => by rw [hline.out, hcur.out] at ho; cases ho; exact hrc⟩
end Go.Proofs.YtadncjpknckaaaaGreatDoor
