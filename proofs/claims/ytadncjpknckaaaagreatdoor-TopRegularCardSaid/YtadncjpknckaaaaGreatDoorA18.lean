/-
  law.check, law.replace, law.around.
-/
import Derived.Test.YtadncjpknckaaaaGreatDoorA17
namespace Go.Proofs.YtadncjpknckaaaaGreatDoor
open Go.RowKit
theorem exec_load_row {P : Program} {o : Oper} {a : Act} {w : World} (ty : TypeId) (x : Operand) (ho : o.op = .load ty x)
    (g : Nat) (hx : a.eval x = .pointer (some ⟨g, 0, none⟩)) (t : TypeId) (cs : Array Value) (fr : Nat × Nat) (d : TypeDesc) (hg : w.heap[g]? = some (.cells cs t fr))
    (hu : P.underlying ty = some d) (hd : (match d with | .struct _ | .array _ _ => true | _ => false) = true) (hi : (P.info? ty).map (·.size) = some cs.size) : (execOp a.eval o).run P w = .ok (.value (.agg cs)) w := by
  unfold execOp
  simp only [ho, hx, Instr.loadAt, Instr.sureAddr, Sem.run_bind, Sem.run_pure, Result.andThen_ok, run_loadVar_row w g t ty cs fr d hg hu hd hi]
theorem checkS_word {ws : List Snd} : checkS ws = 0 ↔ wordOk ws = true := by
  unfold checkS wordOk
  by_cases h : 32 < ws.length
  · rw [if_pos h]; simp; omega
  · rw [if_neg h]
    cases ha : ws.all Snd.ok <;> simp <;> omega
theorem RdK.from {α : Type} {c : Nat} {enc : α → List Value} {w : World} {a : Option Addr} {n cap : Nat} {xs : List α} (h : RdK c enc w a n cap xs) {k : Nat} (h1 : k ≤ n) : RdK c enc w (subA c a cap k) (n - k) (cap - k) (xs.drop k) := by
  have := h.sub (l := k) (m := n) h1 (Nat.le_refl _)
  rwa [List.take_of_length_le (by rw [h.len]; exact Nat.le_refl _)] at this
theorem RdWs.made {w : World} {vs : List Value} {ws : List (List Snd)} {e : TypeId} (hl : vs.length = ws.length) (hm : vs.length ≤ maxLen) (hr : ∀ (i : Nat) (v : Value) (x : List Snd), vs[i]? = some v → ws[i]? = some x → WS w v x) {n : Nat} (hn : n = ws.length) :
    RdWs (w.alloc (.cells vs.toArray e)) (some ⟨w.heap.size, 0, none⟩) n n ws :=
  RdV.lit (by simp) (fun j u hu => by
    have := cell_new_list w vs e j u hu
    unfold Addr.add at this; split at this
    · rename_i h0; subst h0; exact this
    · simpa using this) hl hm (fun i v x h1 h2 => (hr i v x h1 h2).ext (Ext.alloc1 _ _)) hn
theorem RdWs.made3 {w : World} {v0 v1 v2 : Value} {x0 x1 x2 : List Snd} (e : TypeId) (h0 : WS w v0 x0) (h1 : WS w v1 x1) (h2 : WS w v2 x2) : RdWs (w.alloc (.cells #[v0, v1, v2] e)) (some ⟨w.heap.size, 0, none⟩) 3 3 [x0, x1, x2] := by
  refine RdWs.made (vs := [v0, v1, v2]) rfl (by unfold maxLen; simp) (fun i v x hv hx => ?_) rfl
  match i, hv, hx with
  | 0, hv, hx => simp at hv hx; subst hv; subst hx; exact h0
  | 1, hv, hx => simp at hv hx; subst hv; subst hx; exact h1
  | 2, hv, hx => simp at hv hx; subst hv; subst hx; exact h2
/-- The error of a law and a word. -/
def bothE (L : HL) (ws : List Snd) : Int := if lawE L = 0 then checkS ws else 17
set_option maxHeartbeats 1000000 in
set_option maxRecDepth 20000 in
theorem lwcheck_any (L : HL) (a : Option Addr) (n cap : Nat) (ws : List Snd) (w : World) (hL : RdLw w L) (hws : RdS w a n cap ws) :
    Calls Tryz.prog 49 #[lawV L, .slice a n cap] w fun e w' => e = .returned (.int .i64 (bothE L ws)) ∧ Ext w w' := by
  have hB := LawB.new w L
  have hX : Ext w (w.alloc (.cells #[.string L.name, .int .i64 L.left.kind, .int .u32 L.left.is.p.toNat, .int .u32 L.left.is.m.toNat, .bool L.left.neg, .int .i64 L.left.mn, .int .i64 L.left.mx, .slice L.left.a L.left.n L.left.cap, .int .i64 L.right.kind, .int .u32 L.right.is.p.toNat, .int .u32 L.right.is.m.toNat, .bool L.right.neg, .int .i64 L.right.mn, .int .i64 L.right.mx, .slice L.right.a L.right.n L.right.cap, .slice L.ia L.ifs.length L.icap, .slice L.oa L.outs.length L.ocap, .int .i64 L.mode] 58)) := Ext.alloc1 _ _
  go_enter Tryz.func49, Tryz.ntmps49
  refine seq_stop fun K hK => ?_
  go_wp2_with fail
  refine hK.out _ _ ?_
  clear hK
  generalize (w.alloc (.cells #[.string L.name, .int .i64 L.left.kind, .int .u32 L.left.is.p.toNat, .int .u32 L.left.is.m.toNat, .bool L.left.neg, .int .i64 L.left.mn, .int .i64 L.left.mx, .slice L.left.a L.left.n L.left.cap, .int .i64 L.right.kind, .int .u32 L.right.is.p.toNat, .int .u32 L.right.is.m.toNat, .bool L.right.neg, .int .i64 L.right.mn, .int .i64 L.right.mx, .slice L.right.a L.right.n L.right.cap, .slice L.ia L.ifs.length L.icap, .slice L.oa L.outs.length L.ocap, .int .i64 L.mode] 58)) = w1 at *
  generalize w.heap.size = b1 at *
  go_wp2_with (refine wpList_load_row rfl 58 _ rfl b1 rfl 58 _ (0, 0) _ hB Tryz.underlying58 rfl (by kernel_rfl) ?_)
  cases h : lawOkB L
  · have h17 : lawE L = 17 := by unfold lawE; rw [h]; rfl
    have hb : bothE L ws = 17 := by unfold bothE; rw [h17]; rfl
    replace hb := Lib.hid hb
    refine (cint (lcheck_any L w1 (hL.ext hX)) h17).mono ?_
    rintro e w2 ⟨rfl, hx2⟩
    replace h17 := Lib.hid h17
    go_wp2_with fail
    go_ret
    exact ⟨by rw [hb.out]; rfl, hX.trans hx2⟩
  · have h17 : lawE L = 0 := by unfold lawE; rw [h]; rfl
    have hb : bothE L ws = checkS ws := by unfold bothE; rw [h17]; rfl
    replace hb := Lib.hid hb
    refine (cint (lcheck_any L w1 (hL.ext hX)) h17).mono ?_
    rintro e w2 ⟨rfl, hx2⟩
    replace h17 := Lib.hid h17
    go_wp2_with fail
    refine (wcheck_any a n cap ws w2 (hws.ext (hX.trans hx2))).mono ?_
    rintro e w3 ⟨rfl, hx3⟩
    go_wp2_with fail
    go_ret
    exact ⟨by rw [hb.out]; rfl, (hX.trans hx2).trans hx3⟩
set_option maxHeartbeats 2000000 in
set_option maxRecDepth 20000 in
theorem replace_any (L : HL) (a : Option Addr) (n cap : Nat) (ws : List Snd) (i : Nat) (w : World) (hL : RdLw w L) (hws : RdS w a n cap ws) (hi : i + L.ifs.length ≤ n) (hn : n ≤ 4000) (hok : ∀ x ∈ L.outs, OutOk L.ifs.length x) (h40 : L.outs.length ≤ 40) :
    Calls Tryz.prog 70 #[lawV L, .slice a n cap, .int .i64 (i : Int)] w (RetS (replM L ws i) w) := by
  have hl := hws.len
  have hle := hws.le
  have hB := LawB.new w L
  have hX : Ext w (w.alloc (.cells #[.string L.name, .int .i64 L.left.kind, .int .u32 L.left.is.p.toNat, .int .u32 L.left.is.m.toNat, .bool L.left.neg, .int .i64 L.left.mn, .int .i64 L.left.mx, .slice L.left.a L.left.n L.left.cap, .int .i64 L.right.kind, .int .u32 L.right.is.p.toNat, .int .u32 L.right.is.m.toNat, .bool L.right.neg, .int .i64 L.right.mn, .int .i64 L.right.mx, .slice L.right.a L.right.n L.right.cap, .slice L.ia L.ifs.length L.icap, .slice L.oa L.outs.length L.ocap, .int .i64 L.mode] 58)) := Ext.alloc1 _ _
  obtain ⟨j, hj⟩ : ∃ j, j = i + L.ifs.length := ⟨_, rfl⟩
  have hjn : j ≤ n := by omega
  have hij : i ≤ j := by omega
  have hji : j - i = L.ifs.length := by omega
  have hsum : (i : Int) + (L.ifs.length : Int) = (j : Int) := by omega
  have s1 := fun W => run_sub_h (P := Tryz.prog) elem_snds size_snds a n cap i (by omega) W
  have s2 := fun W => run_sub_lh (P := Tryz.prog) elem_snds size_snds a n cap i j hij (by omega) W
  have s3 := fun W => run_sub_l (P := Tryz.prog) elem_snds size_snds a n cap j hjn W
  have e1 := fun W (h : Ext w W) => rdk_pre (hws.ext h) (m := i) (by omega)
  have e2 := fun W (h : Ext w W) => (hws.ext h).sub (l := i) (m := j) hij hjn
  have e3 := fun W (h : Ext w W) => (hws.ext h).from (k := j) hjn
  rw [subA_zero] at s1
  rw [hji] at s2 e2
  have hrep : [ws.take i, putM L.outs ((ws.take j).drop i), ws.drop j].flatten = replM L ws i := by
    unfold replM
    rw [List.flatten_cons, List.flatten_cons, List.flatten_cons, List.flatten_nil, List.append_nil, List.drop_take, hji, hj]
  have hmax : n ≤ 9223372036854775807 := by omega
  have hflen : (replM L ws i).length ≤ 60000 := by
    unfold replM
    rw [List.length_append, List.length_append, putM_len, List.length_take, List.length_drop]; omega
  replace hrep := Lib.hid hrep
  replace hl := Lib.hid hl
  replace hji := Lib.hid hji
  replace hj := Lib.hid hj
  replace hi := Lib.hid hi
  go_enter Tryz.func70, Tryz.ntmps70
  refine seq_stop fun K hK => ?_
  go_wp2_with fail
  refine hK.out _ _ ?_
  clear hK
  generalize (w.alloc (.cells #[.string L.name, .int .i64 L.left.kind, .int .u32 L.left.is.p.toNat, .int .u32 L.left.is.m.toNat, .bool L.left.neg, .int .i64 L.left.mn, .int .i64 L.left.mx, .slice L.left.a L.left.n L.left.cap, .int .i64 L.right.kind, .int .u32 L.right.is.p.toNat, .int .u32 L.right.is.m.toNat, .bool L.right.neg, .int .i64 L.right.mn, .int .i64 L.right.mx, .slice L.right.a L.right.n L.right.cap, .slice L.ia L.ifs.length L.icap, .slice L.oa L.outs.length L.ocap, .int .i64 L.mode] 58)) = w1 at *
  generalize w.heap.size = b1 at *
  obtain ⟨d0, d1, d2, d3⟩ := hB.c
  clear d0 d2 d3
  go_wp2_with fail
  clear d1
  have hmx : Tryz.prog.follows .mixedOrders = true := by kernel_rfl
  refine wp_region_H (fun W' : World => Ext w1 W') [0, 1, 2, 3, 4, 5, 6, 7, 9, 10, 11] hmx ?_
  show wpH _ _ _ _ _ _ 15 _ _ _
  have hS0 : (fun W' : World => Ext w1 W') w1.drew := (Ext.refl _).drew
  have t1 := Lib.hid s1
  have t2 := Lib.hid s2
  have t3 := Lib.hid s3
  clear s1 s2 s3
  refine wpH_take (i := 0) (v := (.slice a n cap)) rfl (by kernel_rfl) (by kernel_rfl) (by kernel_rfl) (by kernel_rfl) (by kernel_rfl) (fun _ _ _ h => h) (.inl ⟨rfl, fun W' hW' => ?_⟩) hS0 ?_
  · go_simp
  refine wpH_take (i := 1) (v := (.int .i64 (i : Int))) rfl (by kernel_rfl) (by kernel_rfl) (by kernel_rfl) (by kernel_rfl) (by kernel_rfl) (fun _ _ _ h => h) (.inl ⟨rfl, fun W' hW' => ?_⟩) hS0 ?_
  · go_simp
  refine wpH_take (i := 2) (v := (.slice a i cap)) rfl (by kernel_rfl) (by kernel_rfl) (by kernel_rfl) (by kernel_rfl) (by kernel_rfl) (fun _ _ _ h => h) (.inl ⟨rfl, fun W' hW' => ?_⟩) hS0 ?_
  · have u := t1.out W'
    go_simp
  refine wpH_take (i := 3) (v := lawV L) rfl (by kernel_rfl) (by kernel_rfl) (by kernel_rfl) (by kernel_rfl) (by kernel_rfl) (fun _ _ _ h => h) (.inl ⟨rfl, fun W' hW' => exec_load_row 58 _ rfl b1 rfl 58 _ (0, 0) _ (LawB.ext hB hW') Tryz.underlying58 rfl (by kernel_rfl)⟩) hS0 ?_
  refine wpH_take (i := 4) (v := (.slice a n cap)) rfl (by kernel_rfl) (by kernel_rfl) (by kernel_rfl) (by kernel_rfl) (by kernel_rfl) (fun _ _ _ h => h) (.inl ⟨rfl, fun W' hW' => ?_⟩) hS0 ?_
  · go_simp
  refine wpH_take (i := 5) (v := (.int .i64 (i : Int))) rfl (by kernel_rfl) (by kernel_rfl) (by kernel_rfl) (by kernel_rfl) (by kernel_rfl) (fun _ _ _ h => h) (.inl ⟨rfl, fun W' hW' => ?_⟩) hS0 ?_
  · go_simp
  refine wpH_take (i := 6) (v := (.int .i64 (j : Int))) rfl (by kernel_rfl) (by kernel_rfl) (by kernel_rfl) (by kernel_rfl) (by kernel_rfl) (fun _ _ _ h => h) (.inl ⟨rfl, fun W' hW' => ?_⟩) hS0 ?_
  · go_simp
  refine wpH_take (i := 7) (v := (.slice (subA 2 a cap i) L.ifs.length (cap - i))) rfl (by kernel_rfl) (by kernel_rfl) (by kernel_rfl) (by kernel_rfl) (by kernel_rfl) (fun _ _ _ h => h) (.inl ⟨rfl, fun W' hW' => ?_⟩) hS0 ?_
  · have u := t2.out W'
    go_simp
  refine wpH_take (i := 9) (v := (.slice a n cap)) rfl (by kernel_rfl) (by kernel_rfl) (by kernel_rfl) (by kernel_rfl) (by kernel_rfl) (fun _ _ _ h => h) (.inl ⟨rfl, fun W' hW' => ?_⟩) hS0 ?_
  · go_simp
  refine wpH_take (i := 10) (v := (.int .i64 (j : Int))) rfl (by kernel_rfl) (by kernel_rfl) (by kernel_rfl) (by kernel_rfl) (by kernel_rfl) (fun _ _ _ h => h) (.inl ⟨rfl, fun W' hW' => ?_⟩) hS0 ?_
  · go_simp
  refine wpH_take (i := 11) (v := (.slice (subA 2 a cap j) (n - j) (cap - j))) rfl (by kernel_rfl) (by kernel_rfl) (by kernel_rfl) (by kernel_rfl) (by kernel_rfl) (fun _ _ _ h => h) (.inl ⟨rfl, fun W' hW' => ?_⟩) hS0 ?_
  · have u := t3.out W'
    go_simp
  refine wpH_step (k := 8) rfl (by kernel_rfl) rfl fun K hK => ?_
  go_simp
  refine (put_any L _ _ _ ((ws.take j).drop i) _ (hL.ext (hX.trans hS0)) (e2 _ (hX.trans hS0)) hok h40).mono ?_
  rintro e w2 ⟨a2, m2, c2, rfl, hm2, ho2, hx2⟩
  have hS2 : (fun W' : World => Ext w1 W') w2 := hS0.trans hx2
  refine hK _ _ (fun _ => hS2) ?_
  clear hK K hS0
  have hX2 := hX.trans hS2
  obtain ⟨a2', m2', c2', hm2', hv2, hr2⟩ := OwnK.rdn Snd.len ho2
  cases hv2
  have g1 := e1 w2 hX2
  have g3 := e3 w2 hX2
  have hmade := RdWs.made3 (w := w2) 40 ⟨_, _, _, rfl, g1⟩ ⟨_, _, _, rfl, hr2⟩ ⟨_, _, _, rfl, g3⟩
  clear e1 e2 e3 t1 t2 t3 hm2' ho2
  refine wpH_step (k := 12) rfl (by kernel_rfl) rfl fun K hK => ?_
  go_simp
  refine hK _ _ (needA_no (by kernel_rfl)) ?_
  clear hK K
  refine wpH_step (k := 13) rfl (by kernel_rfl) rfl fun K hK => ?_
  go_simp
  refine (concat_any _ 3 3 [ws.take i, putM L.outs ((ws.take j).drop i), ws.drop j] _ hmade (by decide) (by rw [hrep.out]; exact hflen)).mono ?_
  rintro e w3 ⟨v3, rfl, ho3, hx3⟩
  rw [hrep.out] at ho3
  refine hK _ _ (needA_no (by kernel_rfl)) ?_
  clear hK K
  refine wpH_step (k := 14) rfl (by kernel_rfl) rfl fun K hK => ?_
  go_simp
  refine hK _ _ (needA_no (by kernel_rfl)) ?_
  clear hK K
  refine wpH_last (by kernel_rfl) ?_
  have hX3 := (hX2.trans (Ext.alloc1 _ _)).trans hx3
  go_wp2_with fail
  go_ret
  exact ⟨v3, rfl, ho3.base ((hX2.trans (Ext.alloc1 _ _)).le), hX3⟩
/-! ### around -/
theorem around_any (L : HL) (a : Option Addr) (n cap : Nat) (w : World) : Calls Tryz.prog 80 #[lawV L, .slice a n cap] w fun e w' =>
    e = .returned (.func (.func 96) #[] #[.pointer (some ⟨w.heap.size, 0, none⟩), .pointer (some ⟨w.heap.size + 1, 0, none⟩)]) ∧ w' = (w.alloc (.cells #[.string L.name, .int .i64 L.left.kind, .int .u32 L.left.is.p.toNat, .int .u32 L.left.is.m.toNat, .bool L.left.neg, .int .i64 L.left.mn, .int .i64 L.left.mx, .slice L.left.a L.left.n L.left.cap, .int .i64 L.right.kind, .int .u32 L.right.is.p.toNat, .int .u32 L.right.is.m.toNat, .bool L.right.neg, .int .i64 L.right.mn, .int .i64 L.right.mx, .slice L.right.a L.right.n L.right.cap, .slice L.ia L.ifs.length L.icap, .slice L.oa L.outs.length L.ocap, .int .i64 L.mode] 58)).alloc (.cells #[.slice a n cap] 40) := by
  go_enter Tryz.func80, Tryz.ntmps80
  go_wp2_with fail
  go_ret
  exact ⟨rfl, rfl⟩
set_option maxHeartbeats 2000000 in
set_option maxRecDepth 20000 in
theorem around1_any (L : HL) (a : Option Addr) (n cap : Nat) (ws : List Snd) (i bl bw : Nat) (w : World) (hL : RdLw w L) (hok : lawOkB L = true) (hws : RdS w a n cap ws) (hT : Tab64 w) (hB : LawB w bl L) (hW : w.cell? ⟨bw, 0, none⟩ = some (.slice a n cap)) (hi : i + L.ifs.length ≤ n) :
    Calls Tryz.prog 96 #[.int .i64 (i : Int), .pointer (some ⟨bl, 0, none⟩), .pointer (some ⟨bw, 0, none⟩)] w fun e w' => e = .returned (.bool (fitM L ws i)) ∧ Ext w w' := by
  obtain ⟨kl, kr, k4, k6, _, _, _, _⟩ := lawOk_parts hok
  obtain ⟨l0, l1, l2, l3, l4, l5, l6⟩ := hB.cl
  have hmax : n ≤ 9223372036854775807 := by have := hws.le; have := hws.most; unfold maxLen at this; omega
  obtain ⟨R, hR⟩ : ∃ R, R = fitM L ws i := ⟨_, rfl⟩
  rw [← hR]
  replace hR := Lib.hid hR
  go_enter Tryz.func96, Tryz.ntmps96
  go_wp2_with fail
  refine (begins_any L.left kl a n cap ws i (by omega) w hL.left hws hT).mono ?_
  rintro e w1 ⟨a1, m1, c1, err, rfl, hm1, hx1⟩
  clear l0 l1 l2 l3 l4 l5 l6
  rcases Nat.eq_zero_or_pos m1 with hz | hz
  · have hF : R = false := by
      have := hm1.out
      rw [hR.out]; unfold fitM
      subst hz
      cases hwk : wordOk ws
      · rfl
      · rw [hwk, Bool.true_and] at this
        have h0 : begM L.left ws i = false := by rw [← this]; rfl
        rw [h0]; rfl
    subst hz
    replace hF := Lib.hid hF
    go_wp2_with fail
    go_ret
    exact ⟨by rw [hF.out]; rfl, hx1⟩
  · have hz1 : ((m1 : Int) == 0) = false := by simp; omega
    have hz2 : ¬ (m1 : Int) = 0 := by omega
    have hb := hm1.out
    rw [decide_eq_true hz] at hb
    have hb1 : wordOk ws = true := (Bool.and_eq_true_iff.1 hb.symm).1
    have hb2 : begM L.left ws i = true := (Bool.and_eq_true_iff.1 hb.symm).2
    have hF : R = endM L.right ws (i + L.ifs.length) := by rw [hR.out]; unfold fitM; rw [hb1, hb2]; rfl
    replace hF := Lib.hid hF
    replace hb1 := Lib.hid hb1
    replace hb2 := Lib.hid hb2
    replace hz := Lib.hid hz
    clear hb
    obtain ⟨l0, l1, l2, l3, l4, l5, l6⟩ := (hB.ext hx1).cr
    obtain ⟨d0, d1, d2, d3⟩ := (hB.ext hx1).c
    have hW1 := hx1.cellv hW
    clear d0 d2 d3 hm1
    obtain ⟨j, hj⟩ : ∃ j, j = i + L.ifs.length := ⟨_, rfl⟩
    have hsum : (i : Int) + (L.ifs.length : Int) = (j : Int) := by omega
    rw [← hj] at hF hi
    replace hj := Lib.hid hj
    go_wp2_with fail
    refine (ends_any L.right kr a n cap ws j hi w1 (hL.right.ext hx1) (hws.ext hx1) (hT.ext hx1)).mono ?_
    rintro e w2 ⟨a2, m2, c2, err2, rfl, hm2, hx2⟩
    have hF2 : (decide (0 < m2)) = R := by rw [hm2.out, hb1.out, hF.out]; rfl
    have hX := hx1.trans hx2
    clear l0 l1 l2 l3 l4 l5 l6 hm2 hW1 d1
    replace hF2 := Lib.hid hF2
    go_wp2_with fail
    go_ret
    refine ⟨?_, hX⟩
    rw [← hF2.out]
    show Ending.returned (Value.bool _) = _
    congr 2
end Go.Proofs.YtadncjpknckaaaaGreatDoor
