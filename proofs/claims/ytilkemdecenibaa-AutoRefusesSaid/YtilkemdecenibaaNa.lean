/-
  Not; plus, counts: plain and the walks.
  counts: plain and the walk; Count.
-/
import Derived.Test.YtilkemdecenibaaV9
namespace Go.Proofs.Ytilkemdecenibaa
open Go.RowKit Go.Maps
/-! ### Not -/
def notM (A : Au) : Au := ⟨A.snd, A.next, A.fin.map fun b => !b⟩
set_option maxHeartbeats 2000000 in
theorem not_any (A : Au) (hm0 : A.madeB = true) (hfl : A.fin.length = A.next.length) (h5 : A.next.length ≤ 5000) (w : World) (b : Nat) (h : AuAt w b A) : Calls Try.prog 40 #[.pointer (some ⟨b, 0, none⟩)] w (RetAu (notM A) w) := by
  have hm := made_any A w b h
  rw [hm0] at hm
  obtain ⟨sa, sc, na, nc, fa, fc, hbox, hS, hX, hF⟩ := h
  obtain ⟨N, hN⟩ : ∃ N, A.next.length = N := ⟨_, rfl⟩
  rw [hfl, hN] at hbox hF
  rw [hN] at hX h5
  obtain ⟨n, hn⟩ : ∃ n, A.snd.length = n := ⟨_, rfl⟩
  rw [hn] at hbox hS
  have q0 : w.cell? ⟨b, 0, none⟩ = some (.slice sa n sc) := by simp [World.cell?, hbox]
  have q1 : w.cell? ⟨b, 1, none⟩ = some (.slice na N nc) := by simp [World.cell?, hbox]
  have q2 : w.cell? ⟨b, 2, none⟩ = some (.slice fa N fc) := by simp [World.cell?, hbox]
  have hl := Lib.hid hF.len
  replace hN := Lib.hid hN
  replace hn := Lib.hid hn
  replace hfl := Lib.hid hfl
  clear hbox
  go_enter Try.func40, Try.ntmps40
  go_wp2_with fail
  refine hm.mono ?_
  rintro e w1 ⟨rfl, hx1⟩
  have k0 := hx1.cellv q0
  have k1 := hx1.cellv q1
  have k2 := hx1.cellv q2
  have hbl := cell_lt k0
  go_wp2_with fail
  go_region
  obtain ⟨w2, hw2⟩ : ∃ X, X = (w1.alloc (.cells #[.slice sa n sc, .slice na N nc, .slice none 0 0] 68)).drew := ⟨_, rfl⟩
  have hx2 : Ext w1 w2 := by rw [hw2]; exact (Ext.alloc1 _ _).drew
  have hb2 : w2.heap[w1.heap.size]? = some (.cells #[.slice sa n sc, .slice na N nc, .slice none 0 0] 68 (0, 0)) := by rw [hw2]; exact World.alloc_heap_new w1 _
  rw [← hw2]
  have hxw := hx1.trans hx2
  have hBw : w.heap.size ≤ w1.heap.size := hx1.le
  have g2 := hxw.cellv q2
  clear k0 k1 k2 hx1 hx2 hbl
  replace hw2 := Lib.hid hw2
  generalize w1.heap.size = Bo at *
  go_wp2_with fail
  go_loopw [24] (fun iv wr => ∃ (i : Nat) (fv : Value), i ≤ N ∧ iv = .int .i64 i ∧ wr.heap[Bo]? = some (.cells #[.slice sa n sc, .slice na N nc, fv] 68 (0, 0)) ∧ OwnK 1 BE.enc w.heap.size 4 wr fv ((A.fin.take i).map fun b => !b) ∧ Ext w wr) (fun iv _ => N - (intOf iv).toNat)
  case atStart => exact ⟨0, _, Nat.zero_le _, rfl, hb2, OwnK.nil _ _ _, hxw⟩
  case round =>
    clear hb2 hxw g2
    obtain ⟨i, fv, hi, rfl, hb, ho, hx⟩ := hrel
    by_cases hlt : i < N
    · obtain ⟨fb, fo, bv, rfl, hbi, hfb, hfc⟩ := (hF.ext hx).get hlt
      have hf0 := hfc 0 _ rfl
      rw [Nat.mul_one, Nat.add_zero] at hf0
      have hsu : (A.fin.take (i + 1)).map (fun b => !b) = (A.fin.take i).map (fun b => !b) ++ [!bv] := by rw [take_succ_at hbi.out, List.map_append]; rfl
      have hol : ((A.fin.take i).map fun b => !b).length = i := by rw [List.length_map, List.length_take, hl.out]; omega
      obtain ⟨fva, fvn, fvc, hfvn, rfl, _⟩ := OwnK.rdn BE.len ho
      have c2 : wr.cell? ⟨Bo, 2, none⟩ = some (.slice fva fvn fvc) := by simp [World.cell?, hb]
      have hBl := cell_lt c2
      clear hfc
      replace hfvn := Lib.hid hfvn
      replace hsu := Lib.hid hsu
      replace hol := Lib.hid hol
      replace hbi := Lib.hid hbi.out
      go_wp2_with (at_builtin; refine wp_app1 w _ (!bv) rfl _ _ 66 rfl 4 Try.underlying66 info_bl rfl (by decide) _ _ rfl ho hx rfl (BE.len _) (BE.one _) (by rw [hol.out]; omega) (by rw [hol.out]; unfold maxLen; omega) ?_; intro v5 w10 o5 x5 hgA; obtain ⟨a5, n5, c5, hn5, rfl, _⟩ := OwnK.rdn BE.len o5; replace hn5 := Lib.hid hn5; have hb10 := blk_otherT (blk_kept hb (Ext.alloc1 _ _)) (ho.kept (Ext.alloc1 _ _)) hgA (by decide); have d2 : w10.cell? ⟨Bo, 2, none⟩ = some (.slice fva fvn fvc) := (by simp [World.cell?, hb10]); have df := frozen_of_row w10 Bo 2 _ _ hb10)
      have hset := heap_setCell_same w10 Bo 2 _ _ (.slice a5 n5 c5) hb10
      rw [← hsu.out] at o5
      (first | exact ⟨⟨i + 1, .slice a5 n5 c5, hlt, by go_num, by rw [hset]; rfl, own_offT o5 hb10 (by decide), ext_set x5 hBw 2 _⟩, (by simp [intOf]; omega)⟩ | (go_roundw; case rel => exact ⟨i + 1, .slice a5 n5 c5, hlt, by go_num, by rw [hset]; rfl, own_offT o5 hb10 (by decide), ext_set x5 hBw 2 _⟩; case measure => exact (by simp [intOf]; omega)))
    · obtain rfl : i = N := by omega
      rw [List.take_of_length_le (by rw [hl.out]; exact Nat.le_refl _)] at ho
      have hA1 : AuAt wr Bo (notM A) := by
        obtain ⟨fva, fvn, fvc, hfvn, rfl, hrd⟩ := OwnK.rdn BE.len ho
        refine ⟨sa, sc, na, nc, fva, fvc, ?_, ?_, ?_, ?_⟩
        · show _ = some (Obj.cells #[.slice sa A.snd.length sc, .slice na A.next.length nc, .slice fva (A.fin.map fun b => !b).length fvc] _ _)
          rw [hn.out, hN.out, ← hfvn]; exact hb
        · show RdS _ _ A.snd.length _ _
          rw [hn.out]; exact hS.ext hx
        · show RdK 8 RE.enc _ _ A.next.length _ _
          rw [hN.out]; exact hX.ext hx
        · show RdK 1 BE.enc _ _ (A.fin.map fun b => !b).length _ _
          rw [← hfvn]; exact hrd
      replace hA1 := Lib.hid hA1
      go_wp2_with fail
      go_ret
      exact ⟨Bo, rfl, hA1.out, hx⟩
theorem not_nil (A : Au) (hm0 : A.madeB = false) (w : World) (b : Nat) (h : AuAt w b A) : Calls Try.prog 40 #[.pointer (some ⟨b, 0, none⟩)] w fun e w' => e = .returned (.pointer none) ∧ Ext w w' := by
  have hm := made_any A w b h
  rw [hm0] at hm
  go_enter Try.func40, Try.ntmps40
  go_wp2_with fail
  refine hm.mono ?_
  rintro e w1 ⟨rfl, hx1⟩
  go_wp2_with fail
  go_ret
  exact ⟨rfl, hx1⟩
theorem not_none (w : World) : Calls Try.prog 40 #[.pointer none] w fun e w' => e = .returned (.pointer none) ∧ Ext w w' := by
  go_enter Try.func40, Try.ntmps40
  go_wp2_with fail
  refine (made_nil w).mono ?_
  rintro e w1 ⟨rfl, hx1⟩
  go_wp2_with fail
  go_ret
  exact ⟨rfl, hx1⟩
/-! ### plus -/
def plusM (x y : Nat) : Nat := if x = 9223372036854775808 ∨ y = 9223372036854775808 then 9223372036854775808 else min (x + y) 9223372036854775808
theorem plusM_le (x y : Nat) : plusM x y ≤ 9223372036854775808 := by unfold plusM; split <;> omega
theorem plus_any (x y : Nat) (hx : x ≤ 9223372036854775808) (hy : y ≤ 9223372036854775808) (w : World) : Calls Try.prog 93 #[.int .u64 (x : Int), .int .u64 (y : Int)] w fun e w' => e = .returned (.int .u64 ((plusM x y : Nat) : Int)) ∧ Ext w w' := by
  obtain ⟨R, hR⟩ : ∃ R, R = plusM x y := ⟨_, rfl⟩
  rw [← hR]
  unfold plusM at hR
  by_cases h1 : x = 9223372036854775808
  · rw [if_pos (.inl h1)] at hR
    subst h1 hR
    go_enter Try.func93, Try.ntmps93
    go_wp2_with fail
    go_ret
    exact ⟨rfl, Ext.refl _⟩
  · have d1 : ((x : Int) == 9223372036854775808) = false := by simp; omega
    by_cases h2 : y = 9223372036854775808
    · rw [if_pos (.inr h2)] at hR
      subst h2 hR
      replace h1 := Lib.hid h1
      go_enter Try.func93, Try.ntmps93
      go_wp2_with fail
      go_ret
      exact ⟨rfl, Ext.refl _⟩
    · have d2 : ((y : Int) == 9223372036854775808) = false := by simp; omega
      rw [if_neg (by rintro (h | h) <;> contradiction)] at hR
      have hw : IntKind.u64.wrap ((x : Int) + (y : Int)) = (x : Int) + (y : Int) := by rw [IntKind.wrap_u64]; omega
      have hmin : min ((x : Int) + (y : Int)) 9223372036854775808 = (R : Int) := by rw [hR]; omega
      replace h1 := Lib.hid h1
      replace h2 := Lib.hid h2
      replace hR := Lib.hid hR
      replace hmin := Lib.hid hmin
      go_enter Try.func93, Try.ntmps93
      go_wp2_with fail
      all_goals
        go_ret
        exact ⟨ret_int (by rw [← hmin.out]; omega), Ext.refl _⟩
end Go.Proofs.Ytilkemdecenibaa
namespace Go.Proofs.Ytilkemdecenibaa
open Go.RowKit Go.Maps
def cntAcc (p : List Nat) (r : List Nat) : Nat → Nat
  | 0 => 0
  | k + 1 => plusM (cntAcc p r k) (p.getD (r.getD k 0) 0)
def cntRow (A : Au) : Nat → List Nat
  | 0 => A.fin.map fun b => if b then 1 else 0
  | i + 1 => A.next.map fun r => cntAcc (cntRow A i) r A.snd.length
theorem cntAcc_le (p r : List Nat) : ∀ k, cntAcc p r k ≤ 9223372036854775808
  | 0 => Nat.zero_le _
  | _ + 1 => plusM_le _ _
theorem cntRow_len (A : Au) (h : A.fin.length = A.next.length) : ∀ i, (cntRow A i).length = A.next.length
  | 0 => by simp [cntRow, h]
  | i + 1 => by simp [cntRow]
theorem cntRow_le (A : Au) : ∀ i, ∀ x ∈ cntRow A i, x ≤ 9223372036854775808
  | 0 => fun x h => by
    obtain ⟨b, _, rfl⟩ := List.mem_map.1 (show x ∈ A.fin.map (fun b => if b then 1 else 0) from h)
    split <;> omega
  | i + 1 => fun x h => by
    obtain ⟨r, _, rfl⟩ := List.mem_map.1 (show x ∈ A.next.map (fun r => cntAcc (cntRow A i) r A.snd.length) from h)
    exact cntAcc_le _ _ _
def UE.enc (x : Nat) : List Value := [.int .u64 (x : Int)]
theorem UE.len (x : Nat) : (UE.enc x).length = 1 := rfl
theorem UE.one (x : Nat) : ∀ u ∈ UE.enc x, u.oneCell' = true := by intro u hu; simp [UE.enc] at hu; subst hu; rfl
/-- A header. -/
structure SH where
  a : Option Addr
  n : Nat
  cap : Nat
def SH.enc (h : SH) : List Value := [.slice h.a h.n h.cap]
theorem SH.len (h : SH) : (SH.enc h).length = 1 := rfl
theorem SH.one (h : SH) : ∀ u ∈ SH.enc h, u.oneCell' = true := by intro u hu; simp [SH.enc] at hu; subst hu; rfl
def SH.v (h : SH) : Value := .slice h.a h.n h.cap
theorem info_u64 : (Try.prog.info? 61).map (fun i => (i.zero, i.size, i.bytes)) = some (some (.int .u64 0), 1, 8) := by kernel_rfl
theorem info_u64s : (Try.prog.info? 103).map (fun i => (i.zero, i.size, i.bytes)) = some (some (.slice none 0 0), 1, 24) := by kernel_rfl
/-- Rows of numbers that are being made. -/
structure CtI (B : Nat) (w : World) (Bo m : Nat) (hd : List SH) (rs : List (List Nat)) : Prop where
  own : OwnK 1 SH.enc B 103 w (.slice (some ⟨Bo, 0, none⟩) m m) hd
  len : rs.length = m
  rows : ∀ (i : Nat) (h : SH) (x : List Nat), hd[i]? = some h → rs[i]? = some x → OwnK 1 UE.enc B 61 w h.v x
  apart : ∀ (i j : Nat) (h k : SH) (g : Nat), hd[i]? = some h → hd[j]? = some k → i ≠ j → h.v.ownBlock = some g → k.v.ownBlock ≠ some g
section
variable {B Bo m : Nat} {w w' : World} {hd : List SH} {rs : List (List Nat)}
theorem CtI.kept (h : CtI B w Bo m hd rs) (hx : Ext w w') : CtI B w' Bo m hd rs := ⟨h.own.kept hx, h.len, fun i y x h1 h2 => (h.rows i y x h1 h2).kept hx, h.apart⟩
theorem CtI.hlen (h : CtI B w Bo m hd rs) : hd.length = m := (own_ge h.own).2.2.1
theorem CtI.at (h : CtI B w Bo m hd rs) {i : Nat} {y : SH} (hi : hd[i]? = some y) : w.cell? ⟨Bo, i, none⟩ = some (.slice y.a y.n y.cap) := by
  have := own_at SH.len h.own hi (j := 0) rfl
  rwa [Nat.mul_one, Nat.add_zero] at this
/-- A new row is laid at its place. -/
theorem CtI.lay (h : CtI B w Bo m hd rs) {G N i : Nat} (hG : ∀ (j : Nat) (k : SH), hd[j]? = some k → k.v.ownBlock ≠ some G) {xs : List Nat} (ho : OwnK 1 UE.enc B 61 w (.slice (some ⟨G, 0, none⟩) N N) xs) (hi : i < m) :
    CtI B (w.setCell ⟨Bo, i, none⟩ (.slice (some ⟨G, 0, none⟩) N N)) Bo m (hd.set i ⟨some ⟨G, 0, none⟩, N, N⟩) (rs.set i xs) := by
  have hl := h.hlen
  obtain ⟨cur, hb⟩ := own_type h.own (g := Bo) rfl
  refine ⟨own_set1 SH.len h.own (y := ⟨some ⟨G, 0, none⟩, N, N⟩) hi rfl, by rw [List.length_set]; exact h.len, fun j y x h1 h2 => ?_, fun j k y z g h1 h2 h3 h4 => ?_⟩
  · rw [List.getElem?_set] at h1 h2
    by_cases e : i = j
    · subst e
      rw [if_pos rfl, if_pos (by omega)] at h1
      rw [if_pos rfl, if_pos (by rw [h.len]; exact hi)] at h2
      cases h1; cases h2
      exact own_offT ho hb (by decide)
    · rw [if_neg e] at h1 h2
      exact own_offT (h.rows j y x h1 h2) hb (by decide)
  · rw [List.getElem?_set] at h1 h2
    by_cases e1 : i = j
    · subst e1
      rw [if_pos rfl, if_pos (by omega)] at h1
      rw [if_neg h3] at h2
      cases h1; cases h4
      exact hG k z h2
    · rw [if_neg e1] at h1
      by_cases e2 : i = k
      · subst e2
        rw [if_pos rfl, if_pos (by omega)] at h2
        cases h2
        intro e; cases e
        exact hG j y h1 h4
      · rw [if_neg e2] at h2
        exact h.apart j k y z g h1 h2 h3 h4
/-- A number is written into a row. -/
theorem CtI.put (h : CtI B w Bo m hd rs) {G N c i s : Nat} {xs : List Nat} (hi : hd[i]? = some ⟨some ⟨G, 0, none⟩, N, c⟩) (hx : rs[i]? = some xs) (hs : s < N) (v : Nat) :
    CtI B (w.setCell ⟨G, s, none⟩ (.int .u64 (v : Int))) Bo m hd (rs.set i (xs.set s v)) := by
  have ho := h.rows i _ _ hi hx
  obtain ⟨cur, hb⟩ := own_type ho (g := G) rfl
  refine ⟨own_offT h.own hb (by decide), by rw [List.length_set]; exact h.len, fun j y x h1 h2 => ?_, h.apart⟩
  rw [List.getElem?_set] at h2
  by_cases e : i = j
  · subst e
    rw [if_pos rfl, if_pos (List.getElem?_eq_some_iff.1 hx).1] at h2
    rw [hi] at h1
    cases h1; cases h2
    exact own_set1 UE.len ho (y := v) hs rfl
  · rw [if_neg e] at h2
    exact own_setOff (h.rows j y x h1 h2) (h.apart i j _ y G hi h1 e rfl)
theorem CtI.row (h : CtI B w Bo m hd rs) {i : Nat} {y : SH} {x : List Nat} (h1 : hd[i]? = some y) (h2 : rs[i]? = some x) : RdK 1 UE.enc w y.a y.n y.cap x := OwnK.rdc UE.len (h.rows i y x h1 h2)
end
def cntsTo (A : Au) (m i : Nat) : List (List Nat) := (List.range i).map (cntRow A) ++ List.replicate (m - i) []
theorem cntsTo_set (A : Au) {m i : Nat} (hi : i < m) : (cntsTo A m i).set i (cntRow A i) = cntsTo A m (i + 1) := by
  unfold cntsTo
  rw [List.set_append_right _ _ (by simp), List.length_map, List.length_range, Nat.sub_self, show m - i = (m - (i + 1)) + 1 by omega, List.replicate_succ, List.set_cons_zero, List.range_succ, List.map_append]
  simp
theorem cntsTo_at (A : Au) {m i j : Nat} (hj : j < i) : (cntsTo A m i)[j]? = some (cntRow A j) := by
  unfold cntsTo
  rw [List.getElem?_append_left (by simpa using hj), List.getElem?_map, List.getElem?_range hj]; rfl
theorem cntsTo_len (A : Au) {m i : Nat} (hi : i ≤ m) : (cntsTo A m i).length = m := by unfold cntsTo; simp; omega
/-- What counts hands back. -/
def RetCt (A : Au) (m : Nat) (w : World) (e : Ending) (w' : World) : Prop := ∃ Bo hd, e = .returned (.slice (some ⟨Bo, 0, none⟩) m m) ∧ CtI w.heap.size w' Bo m hd (cntsTo A m m) ∧ Ext w w'
theorem set_same {α : Type} {l : List α} {i : Nat} {x : α} (h : l[i]? = some x) : l.set i x = l := by
  apply List.ext_getElem?
  intro q
  rw [List.getElem?_set]
  split
  · rename_i e; subst e; rw [if_pos (List.getElem?_eq_some_iff.1 h).1, h]
  · rfl
set_option maxHeartbeats 4000000 in
set_option maxRecDepth 20000 in
theorem counts_any (A : Au) (hok : A.okB = true) (N : Nat) (hN : A.next.length = N) (hN0 : 0 < N) (hN5 : N ≤ 5000) (w : World) (Ba : Nat) (hA : AuAt w Ba A) (z : Nat) (hz : z ≤ 32) :
    Calls Try.prog 62 #[.pointer (some ⟨Ba, 0, none⟩), .int .i64 (z : Int)] w (RetCt A (z + 1) w) := by
  obtain ⟨hs8, hfl, hrow⟩ := Au.ok_at hok
  obtain ⟨sa, sc, na, nc, fa, fc, hbox, hS, hX, hF⟩ := hA
  have hcl := cntRow_len A hfl
  rw [hfl] at hbox hF
  rw [hN] at hbox hX hF hrow hcl
  obtain ⟨n, hn⟩ : ∃ n, A.snd.length = n := ⟨_, rfl⟩
  rw [hn] at hbox hS hrow hs8
  have q0 : w.cell? ⟨Ba, 0, none⟩ = some (.slice sa n sc) := by simp [World.cell?, hbox]
  have q1 : w.cell? ⟨Ba, 1, none⟩ = some (.slice na N nc) := by simp [World.cell?, hbox]
  have q2 : w.cell? ⟨Ba, 2, none⟩ = some (.slice fa N fc) := by simp [World.cell?, hbox]
  obtain ⟨m, hm⟩ : ∃ m, m = z + 1 := ⟨_, rfl⟩
  have hmi : ((z : Int) + 1) = (m : Int) := by omega
  rw [← hm]
  have hm33 : m ≤ 33 := by omega
  have hmk : ∀ W : World, (Instr.makeSlice 104 (.int .i64 (m : Int)) (.int .i64 (m : Int))).run Try.prog W = .ok (.slice (some ⟨W.heap.size, 0, none⟩) m m) (W.alloc (.cells (madeCells #[.slice none 0 0] (m * 1)) 103)) := fun W => run_mk (P := Try.prog) 104 Try.underlying104 info_u64s m (by omega) (by decide) W
  have hmk2 : ∀ W : World, (Instr.makeSlice 103 (.int .i64 (N : Int)) (.int .i64 (N : Int))).run Try.prog W = .ok (.slice (some ⟨W.heap.size, 0, none⟩) N N) (W.alloc (.cells (madeCells #[.int .u64 0] (N * 1)) 61)) := fun W => run_mk (P := Try.prog) 103 Try.underlying103 info_u64 N (by omega) (by decide) W
  have hx0 : Ext w (w.alloc (.cells (madeCells #[.slice none 0 0] (m * 1)) 103)) := Ext.alloc1 _ _
  have hC0 : CtI w.heap.size (w.alloc (.cells (madeCells #[.slice none 0 0] (m * 1)) 103)) w.heap.size m (List.replicate m ⟨none, 0, 0⟩) (cntsTo A m 0) :=
    ⟨made_own SH.len (by decide) w 103 #[.slice none 0 0] ⟨none, 0, 0⟩ rfl m (by omega), cntsTo_len A (Nat.zero_le _), fun i h x h1 h2 => by
      have e1 := (List.mem_replicate.1 (List.mem_of_getElem? h1)).2
      have e2 := (List.mem_replicate.1 (List.mem_of_getElem? (show (List.replicate (m - 0) [])[i]? = some x by simpa [cntsTo] using h2))).2
      subst e1 e2; exact OwnK.nil _ _ _, fun i j h k g h1 h2 h3 h4 => by
      have e1 := (List.mem_replicate.1 (List.mem_of_getElem? h1)).2
      subst e1; cases h4⟩
  rw [Nat.mul_one] at hx0 hC0
  have hxb := hX.pos hN0
  obtain ⟨xb, xo, rfl, _, _⟩ := hxb
  obtain ⟨fb, fo, rfl, _, _⟩ := hF.pos hN0
  replace hm := Lib.hid hm
  replace hN := Lib.hid hN
  replace hn := Lib.hid hn
  replace hfl := Lib.hid hfl
  replace hcl := Lib.hid hcl
  replace hrow := Lib.hid hrow
  replace hok := Lib.hid hok
  have hX' := Lib.hid hX
  have hF' := Lib.hid hF
  clear hbox hX hF
  go_enter Try.func62, Try.ntmps62
  go_wp2_with fail
  generalize (w.alloc (.cells (madeCells #[.slice none 0 0] m) 103)) = w1 at *
  obtain ⟨Bo, hBo⟩ : ∃ B, B = w.heap.size := ⟨_, rfl⟩
  replace hC0 : CtI w.heap.size w1 Bo m (List.replicate m ⟨none, 0, 0⟩) (cntsTo A m 0) := by rw [hBo]; exact hC0
  rw [← hBo]
  have hBw : w.heap.size ≤ Bo := by omega
  replace hBo := Lib.hid hBo
  go_loopw [15] (fun iv wr => ∃ (i : Nat) (hd : List SH), i ≤ m ∧ iv = .int .i64 i ∧ CtI w.heap.size wr Bo m hd (cntsTo A m i) ∧ Ext w wr) (fun iv _ => m - (intOf iv).toNat)
  case atStart => exact ⟨0, _, Nat.zero_le _, rfl, hC0, hx0⟩
  case round =>
    clear hC0 hx0
    obtain ⟨i, hd, hi, rfl, hC, hx⟩ := hrel
    by_cases hlt : i < m
    · have k1 := hx.cellv q1
      have hBl := cell_lt k1
      have hBo2 := (own_ge hC.own).2.1
      have hx1 : Ext wr (wr.alloc (.cells (madeCells #[.int .u64 0] (N * 1)) 61)) := Ext.alloc1 _ _
      have ho1 := made_own UE.len (by decide) wr 61 #[.int .u64 0] 0 rfl N (by omega)
      rw [Nat.mul_one] at hx1 ho1
      have hC1 := hC.kept hx1
      have hlay := hC1.lay (G := wr.heap.size) (N := N) (i := i) (fun j k hj e => by
        obtain ⟨x, hx⟩ : ∃ x, (cntsTo A m i)[j]? = some x := ⟨_, List.getElem?_eq_getElem (by rw [hC.len, ← hC.hlen]; exact (List.getElem?_eq_some_iff.1 hj).1)⟩
        have := (own_lt (hC.rows j k x hj hx) e).2; omega) (ho1.base hx.le) hlt
      have hxl := ext_set (hx.trans hx1) hBw i (.slice (some ⟨wr.heap.size, 0, none⟩) N N)
      obtain ⟨yh, hyh⟩ : ∃ y, hd[i]? = some y := ⟨_, List.getElem?_eq_getElem (by rw [hC.hlen]; exact hlt)⟩
      have cB := hC1.at hyh
      have cF := own_free hC1.own i
      have hGw : w.heap.size ≤ wr.heap.size := hx.le
      have hhd : (hd.set i ⟨some ⟨wr.heap.size, 0, none⟩, N, N⟩)[i]? = some ⟨some ⟨wr.heap.size, 0, none⟩, N, N⟩ := List.getElem?_set_self (by rw [hC.hlen]; exact hlt)
      have hprev : ∀ j, j < i → (hd.set i ⟨some ⟨wr.heap.size, 0, none⟩, N, N⟩)[j]? = hd[j]? := fun j hj => by rw [List.getElem?_set_ne (by omega)]
      have hdl := hC.hlen
      have hBaBo : Ba ≠ Bo := Nat.ne_of_lt (Nat.lt_of_lt_of_le (cell_lt q1) hBw)
      replace hyh := Lib.hid hyh
      have hwe : (wr.alloc (.cells (madeCells #[.int .u64 0] N) 61)).setCell ⟨Bo, i, none⟩ (.slice (some ⟨wr.heap.size, 0, none⟩) N N) = (wr.setCell ⟨Bo, i, none⟩ (.slice (some ⟨wr.heap.size, 0, none⟩) N N)).alloc (.cells (madeCells #[.int .u64 0] N) 61) := by first | rfl | go_simp
      replace hwe := Lib.hid hwe
      go_wp2_with fail
      rw [← hwe.out]
      obtain ⟨w3, hw3⟩ : ∃ X, X = (wr.alloc (.cells (madeCells #[.int .u64 0] N) 61)).setCell ⟨Bo, i, none⟩ (.slice (some ⟨wr.heap.size, 0, none⟩) N N) := ⟨_, rfl⟩
      rw [← hw3] at hlay hxl ⊢
      replace hw3 := Lib.hid hw3
      obtain ⟨G, hG⟩ : ∃ G, G = wr.heap.size := ⟨_, rfl⟩
      rw [← hG] at hlay hGw hhd hprev ⊢
      replace hG := Lib.hid hG
      have hGl3 : G < w3.heap.size := by rw [hw3.out]; simp [hG.out]
      clear hwe hC hx hx1 ho1 hC1 k1 hBl hBo2 cB cF hyh
      obtain ⟨hd1, hhd1⟩ : ∃ x, x = hd.set i ⟨some ⟨G, 0, none⟩, N, N⟩ := ⟨_, rfl⟩
      rw [← hhd1] at hlay hhd hprev
      replace hhd1 := Lib.hid hhd1
      obtain ⟨CR, hCR⟩ : ∃ f : Nat → List Nat, f = cntRow A := ⟨_, rfl⟩
      have hCl : ∀ j, (CR j).length = N := fun j => by rw [hCR]; exact hcl.out j
      have hCset : (cntsTo A m i).set i (CR i) = cntsTo A m (i + 1) := by rw [hCR]; exact cntsTo_set A hlt
      have hCat : ∀ j, j < i → (cntsTo A m i)[j]? = some (CR j) := fun j hj => by rw [hCR]; exact cntsTo_at A hj
      have hCle : ∀ j, ∀ x ∈ CR j, x ≤ 9223372036854775808 := fun j => by rw [hCR]; exact cntRow_le A j
      have hC0z : CR 0 = A.fin.map (fun b => if b then 1 else 0) := by rw [hCR]; rfl
      have hCsu : ∀ j, CR (j + 1) = A.next.map (fun r => cntAcc (CR j) r n) := fun j => by rw [hCR, ← hn.out]; rfl
      have hrl : (cntsTo A m i).length = m := cntsTo_len A hi
      replace hCR := Lib.hid hCR
      replace hCl := Lib.hid hCl
      replace hCset := Lib.hid hCset
      replace hCat := Lib.hid hCat
      replace hCle := Lib.hid hCle
      replace hC0z := Lib.hid hC0z
      replace hCsu := Lib.hid hCsu
      replace hrl := Lib.hid hrl
      replace hhd := Lib.hid hhd
      replace hprev := Lib.hid hprev
      have hz0 : (cntsTo A m i).set i (List.replicate N 0) = (cntsTo A m i).set i ((CR i).take 0 ++ List.replicate (N - 0) 0) := by simp
      rw [hz0] at hlay
      generalize cntsTo A m i = CT at *
      clear hz0
      go_loopw [32] (fun sv wr => ∃ s : Nat, s ≤ N ∧ sv = .int .i64 s ∧ CtI w.heap.size wr Bo m hd1 (CT.set i ((CR i).take s ++ List.replicate (N - s) 0)) ∧ Ext w wr) (fun sv _ => N - (intOf sv).toNat)
      case atStart => exact ⟨0, Nat.zero_le _, rfl, hlay, hxl⟩
      case round =>
        clear hlay hxl
        obtain ⟨s, hs, rfl, hC, hx⟩ := hrel
        by_cases hls : s < N
        · obtain ⟨_, _, r, e, hri, hb, r0, r1, r2, r3, r4, r5, r6, r7⟩ := row_at (hX'.out.ext hx) hls
          cases e
          have hxa : Ext wr (wr.alloc (.cells (rowCells r) 101)) := Ext.alloc1 _ _
          have hrb := RowB.new wr r
          have hC1 := hC.kept hxa
          have hx1 := hx.trans hxa
          have k0 := hx1.cellv q0
          have k2 := hx1.cellv q2
          have hBb := cell_lt (hx.cellv q0)
          have hGr := hC1.row hhd.out (List.getElem?_set_self (by rw [hrl.out]; exact hlt))
          have hown := hC1.rows i _ _ hhd.out (List.getElem?_set_self (by rw [hrl.out]; exact hlt))
          change OwnK 1 UE.enc w.heap.size 61 _ (.slice (some ⟨G, 0, none⟩) N N) _ at hown
          have hat := hC1.at hhd.out
          have hfr := own_free hown s
          obtain ⟨y0, hy0⟩ : ∃ y, ((CR i).take s ++ List.replicate (N - s) 0)[s]? = some y := ⟨_, List.getElem?_eq_getElem (by have := (own_ge hown).2.2.1; omega)⟩
          have hcs := own_at UE.len hown hy0 (j := 0) rfl
          rw [Nat.mul_one, Nat.add_zero] at hcs
          replace hy0 := Lib.hid hy0
          have hBb2 := (own_ge hC.own).2.1
          by_cases hiz : i = 0
          · subst hiz
            obtain ⟨_, _, fv, e, hfi, _, hfc⟩ := (hF'.out.ext hx1).get hls
            cases e
            have hf0 := hfc 0 _ rfl
            rw [Nat.mul_one, Nat.add_zero] at hf0
            clear hfc
            have hcv : (CR 0)[s]? = some (if fv then 1 else 0) := by rw [hC0z.out, List.getElem?_map, hfi.out]; rfl
            cases fv with
            | true =>
              have hst := hC1.put hhd.out (List.getElem?_set_self (by rw [hrl.out]; exact hlt)) hls 1
              rw [List.set_set, pad_set (CR 0) (hCl.out 0) (show (CR 0)[s]? = some 1 from hcv)] at hst
              have hxs := ext_set hx1 hGw s (.int .u64 1)
              replace hcv := Lib.hid hcv
              replace hst := Lib.hid hst
              go_wp2_with fail
              (first | exact ⟨⟨s + 1, hls, by go_num, hst.out, hxs⟩, (by simp [intOf]; omega)⟩ | (go_roundw; case rel => exact ⟨s + 1, hls, by go_num, hst.out, hxs⟩; case measure => exact (by simp [intOf]; omega)))
            | false =>
              rw [pad_same (CR 0) (hCl.out 0) (show (CR 0)[s]? = some 0 from hcv)] at hC1
              replace hcv := Lib.hid hcv
              go_wp2_with fail
              (first | exact ⟨⟨s + 1, hls, by go_num, hC1, hx1⟩, (by simp [intOf]; omega)⟩ | (go_roundw; case rel => exact ⟨s + 1, hls, by go_num, hC1, hx1⟩; case measure => exact (by simp [intOf]; omega)))
          · obtain ⟨ip, hip⟩ : ∃ ip, i = ip + 1 := ⟨i - 1, by omega⟩
            have hi0 : ((i : Int) == 0) = false := by simp; omega
            have hwi : IntKind.i64.wrap ((i : Int) - 1) = (ip : Int) := by rw [IntWalk.i64_in _ (by omega)]; omega
            have hipi : ip < i := by omega
            rw [hip] at hC1 hown
            have hcv : (CR (ip + 1))[s]? = some (cntAcc (CR ip) r n) := by rw [hCsu.out, List.getElem?_map, hri.out]; rfl
            obtain ⟨LB, hLB⟩ : ∃ l, l = (CR (ip + 1)).take s ++ List.replicate (N - s) 0 := ⟨_, rfl⟩
            have hLs : LB.set s (cntAcc (CR ip) r n) = (CR (ip + 1)).take (s + 1) ++ List.replicate (N - (s + 1)) 0 := by rw [hLB]; exact pad_set (CR (ip + 1)) (hCl.out _) hcv
            have hL0 : LB = LB.set s (cntAcc (CR ip) r 0) := by
              have : LB[s]? = some 0 := by
                rw [hLB, List.getElem?_append_right (by rw [List.length_take, hCl.out]; omega), List.length_take, hCl.out, show s - min s N = 0 by omega, show N - s = (N - (s + 1)) + 1 by omega, List.replicate_succ]; rfl
              exact (set_same this).symm
            have hLl : LB.length = N := by rw [hLB, List.length_append, List.length_take, hCl.out, List.length_replicate]; omega
            rw [← hLB, hL0] at hC1
            obtain ⟨yp, hyp⟩ : ∃ y, hd1[ip]? = some y := ⟨_, List.getElem?_eq_getElem (by rw [hC1.hlen]; omega)⟩
            have hCp := hCat.out ip hipi
            rw [← hip] at hC1 hLs hLB
            replace hip := Lib.hid hip
            replace hiz := Lib.hid hiz
            replace hcv := Lib.hid hcv
            replace hLB := Lib.hid hLB
            replace hLs := Lib.hid hLs
            replace hL0 := Lib.hid hL0
            replace hLl := Lib.hid hLl
            replace hyp := Lib.hid hyp
            replace hCp := Lib.hid hCp
            replace hri := Lib.hid hri.out
            have hGl := Lib.hid (own_lt (hC.rows i _ _ hhd.out (List.getElem?_set_self (by rw [hrl.out]; exact hlt))) (g := G) rfl).2
            clear hC hown hat hfr hcs hy0 hGr k2
            go_wp2_with fail
            change CtI _ (wr.alloc (.cells (rowCells r) 101)) _ _ _ _ at hC1
            generalize wr.alloc (.cells (rowCells r) 101) = w6 at *
            have hBG : wr.heap.size ≠ G := by have := hGl.out; omega
            generalize wr.heap.size = Bt at *
            clear r0 r1 r2 r3 r4 r5 r6 r7 hx hxa k0 hBb hBb2
            generalize wr = wold at *
            go_loopw [56] (fun kv wr => ∃ k : Nat, k ≤ n ∧ kv = .int .i64 k ∧ CtI w.heap.size wr Bo m hd1 (CT.set i (LB.set s (cntAcc (CR ip) r k))) ∧ RowB wr Bt r ∧ Ext w wr) (fun kv _ => n - (intOf kv).toNat)
            case atStart => exact ⟨0, Nat.zero_le _, rfl, hC1, hrb, hx1⟩
            case round =>
              clear hC1 hrb hx1
              obtain ⟨k, hk, rfl, hC, hrb, hx⟩ := hrel
              by_cases hlk : k < n
              · have hto := hrow.out s r hri.out k hlk
                obtain ⟨tv, htv⟩ : ∃ tv, tv = r.getD k 0 := ⟨_, rfl⟩
                have c1 := hrb.at (i := k) (by omega)
                rw [← htv] at c1 hto
                have hil := hrl.out
                have hrow1 : (CT.set i (LB.set s (cntAcc (CR ip) r k)))[i]? = some (LB.set s (cntAcc (CR ip) r k)) := List.getElem?_set_self (by omega)
                have hrow0 : (CT.set i (LB.set s (cntAcc (CR ip) r k)))[ip]? = some (CR ip) := by rw [List.getElem?_set_ne (by have := hip.out; omega)]; exact hCp.out
                have hat := hC.at hhd.out
                change wr.cell? _ = some (.slice (some ⟨G, 0, none⟩) N N) at hat
                have hown := hC.rows _ _ _ hhd.out hrow1
                change OwnK 1 UE.enc w.heap.size 61 wr (.slice (some ⟨G, 0, none⟩) N N) _ at hown
                have hcs := own_at UE.len hown (i := s) (y := cntAcc (CR ip) r k) (List.getElem?_set_self (by rw [hLl.out]; exact hls)) (j := 0) rfl
                rw [Nat.mul_one, Nat.add_zero] at hcs
                have hatp := hC.at hyp.out
                have hrdp := hC.row hyp.out hrow0
                have hyn : yp.n = N := by rw [← hrdp.len]; exact hCl.out ip
                obtain ⟨ya, yn, yc⟩ := yp
                change yn = N at hyn
                subst hyn
                change wr.cell? _ = some (.slice ya yn yc) at hatp
                change RdK 1 UE.enc wr ya yn yc (CR ip) at hrdp
                obtain ⟨pb, po, pv, rfl, hpv, hpb, hpc⟩ := hrdp.get hto
                have hpc0 := hpc 0 _ rfl
                rw [Nat.mul_one, Nat.add_zero] at hpc0
                clear hpc hrdp
                have hacc : cntAcc (CR ip) r (k + 1) = plusM (cntAcc (CR ip) r k) pv := by
                  show plusM _ ((CR ip).getD (r.getD k 0) 0) = _
                  rw [← htv, List.getD_eq_getElem?_getD, hpv.out]; rfl
                have hple := hCle.out ip pv (List.mem_of_getElem? hpv.out)
                have hale := cntAcc_le (CR ip) r k
                obtain ⟨ac, hac⟩ : ∃ x, x = cntAcc (CR ip) r k := ⟨_, rfl⟩
                rw [← hac] at hcs hacc hale hrow1 hown hC
                have hplus := fun W => plus_any ac pv hale hple W
                rw [← hacc] at hplus
                obtain ⟨an, han⟩ : ∃ x, x = cntAcc (CR ip) r (k + 1) := ⟨_, rfl⟩
                rw [← han] at hplus
                have hfr := own_free hown s
                have hown' := Lib.hid hown
                have hC' := Lib.hid hC
                replace htv := Lib.hid htv
                replace hac := Lib.hid hac
                replace han := Lib.hid han
                replace hacc := Lib.hid hacc
                replace hpv := Lib.hid hpv
                replace hrow0 := Lib.hid hrow0
                replace hrow1 := Lib.hid hrow1
                clear hown hC hil hfr
                have e0 := fun X : ExtOf wr => X.cell hat
                have e1 := fun X : ExtOf wr => X.cell hcs
                have e2 := fun X : ExtOf wr => X.cell hatp
                have e3 := fun X : ExtOf wr => X.cell c1
                have e4 := fun X : ExtOf wr => X.cell hpc0
                go_wp2_with fail
                (refine wp_region_qxt 24 (by kernel_rfl) (by kernel_rfl) ?_
                 simp only [List.take_succ_cons, List.take_zero, List.drop_succ_cons, List.drop_zero]
                 repeat (go_big_quiet_step ((go_at_call 93; exact calls_ext (hplus _))))
                 refine wpQuiet_nil ?_
                 intro wq hw'
                 have hxq := ext_of_ex hw'
                 clear hw')
                have hcq := hxq.cellv hcs
                have hfq := own_free (hown'.out.kept hxq) s
                go_wp2_with fail
                have hput := (hC'.out.kept hxq).put hhd.out hrow1.out hls an
                rw [List.set_set, List.set_set, han.out] at hput
                have hrb2 : RowB (wq.setCell ⟨G, s, none⟩ (.int .u64 ((cntAcc (CR ip) r (k + 1) : Nat) : Int))) Bt r := (heap_setCell_other wq ⟨G, s, none⟩ Bt _ hBG).trans (hrb.ext hxq)
                rw [← han.out] at hrb2
                rw [← han.out] at hput
                have hput2 : CtI w.heap.size (wq.setCell ⟨G, s, none⟩ (.int .u64 (an : Int))) Bo m hd1 (CT.set i (LB.set s (cntAcc (CR ip) r (k + 1)))) := by rw [← han.out]; exact hput
                (first | exact ⟨⟨k + 1, hlk, by go_num, hput2, hrb2, ext_set (hx.trans hxq) hGw s _⟩, (by simp [intOf]; omega)⟩ | (go_roundw; case rel => exact ⟨k + 1, hlk, by go_num, hput2, hrb2, ext_set (hx.trans hxq) hGw s _⟩; case measure => exact (by simp [intOf]; omega)))
              · obtain rfl : k = n := by omega
                rw [hLs.out] at hC
                go_wp2_with fail
                (first | exact ⟨⟨s + 1, hls, by go_num, hC, hx⟩, (by simp [intOf]; omega)⟩ | (go_roundw; case rel => exact ⟨s + 1, hls, by go_num, hC, hx⟩; case measure => exact (by simp [intOf]; omega)))
        · obtain rfl : s = N := by omega
          rw [List.take_of_length_le (by rw [hCl.out]; exact Nat.le_refl _), Nat.sub_self, List.replicate_zero, List.append_nil, hCset.out] at hC
          go_wp2_with fail
          (first | exact ⟨⟨i + 1, hd1, hlt, by go_num, hC, hx⟩, (by simp [intOf]; omega)⟩ | (go_roundw; case rel => exact ⟨i + 1, hd1, hlt, by go_num, hC, hx⟩; case measure => exact (by simp [intOf]; omega)))
    · obtain rfl : i = m := by omega
      go_wp2_with fail
      go_ret
      exact ⟨Bo, hd, rfl, hC, hx⟩
/-! ### Count -/
def cntM (A : Au) (z : Nat) : Nat := (cntRow A z).getD 0 0
set_option maxHeartbeats 2000000 in
theorem count_any (A : Au) (hok : A.okB = true) (N : Nat) (hN : A.next.length = N) (hN0 : 0 < N) (hN5 : N ≤ 5000) (w : World) (Ba : Nat) (hA : AuAt w Ba A) (z : Nat) (hz : z ≤ 32) :
    Calls Try.prog 23 #[.pointer (some ⟨Ba, 0, none⟩), .int .i64 (z : Int)] w fun e w' => e = .returned (.tuple #[.int .i64 (if cntM A z = 9223372036854775808 then 0 else (cntM A z : Nat) : Nat), .int .i64 (if cntM A z = 9223372036854775808 then 7 else 0 : Nat)]) ∧ Ext w w' := by
  have hm := made_any A w Ba hA
  rw [show A.madeB = true by unfold Au.madeB; simp [hN, hN0]] at hm
  have hct := fun W (hW : Ext w W) => counts_any A hok N hN hN0 hN5 W Ba (hA.ext hW) z hz
  have hfl := (Au.ok_at hok).2.1
  have hcl := cntRow_len A hfl z
  rw [hN] at hcl
  have hle := cntRow_le A z
  obtain ⟨c, hc⟩ : ∃ c, (cntRow A z)[0]? = some c := ⟨_, List.getElem?_eq_getElem (by omega)⟩
  have hcM : cntM A z = c := by unfold cntM; rw [List.getD_eq_getElem?_getD, hc]; rfl
  have hc63 := hle c (List.mem_of_getElem? hc)
  rw [hcM]
  obtain ⟨R1, hR1⟩ : ∃ r : Nat, r = if c = 9223372036854775808 then 0 else c := ⟨_, rfl⟩
  obtain ⟨R2, hR2⟩ : ∃ r : Nat, r = if c = 9223372036854775808 then 7 else 0 := ⟨_, rfl⟩
  rw [← hR1, ← hR2]
  replace hR1 := Lib.hid hR1
  replace hR2 := Lib.hid hR2
  have d0 : decide ((z : Int) < 0) = false := by simp
  have d32 : decide ((32 : Int) < (z : Int)) = false := by simp; omega
  replace hN := Lib.hid hN
  replace hfl := Lib.hid hfl
  replace hcl := Lib.hid hcl
  replace hle := Lib.hid hle
  replace hcM := Lib.hid hcM
  replace hok := Lib.hid hok
  replace hc := Lib.hid hc
  go_enter Try.func23, Try.ntmps23
  go_wp2_with fail
  refine hm.mono ?_
  rintro e w1 ⟨rfl, hx1⟩
  have hct1 := hct w1 hx1
  clear hct hm
  go_wp2_with fail
  refine hct1.mono ?_
  rintro e w2 ⟨Bo, hd, rfl, hC, hx2⟩
  have hxw := hx1.trans hx2
  have hat := cntsTo_at A (m := z + 1) (Nat.lt_succ_self z)
  obtain ⟨y, hy⟩ : ∃ y, hd[z]? = some y := ⟨_, List.getElem?_eq_getElem (by rw [hC.hlen]; omega)⟩
  have cB := hC.at hy
  have hrd := hC.row hy hat
  have hyn : y.n = N := by rw [← hrd.len]; exact hcl.out
  obtain ⟨ya, yn, yc⟩ := y
  change yn = N at hyn
  subst hyn
  change w2.cell? _ = some (.slice ya yn yc) at cB
  change RdK 1 UE.enc w2 ya yn yc _ at hrd
  obtain ⟨pb, po, pv, rfl, hpv, hpb, hpc⟩ := hrd.get hN0
  obtain rfl : pv = c := by have := hpv.out; rw [hc.out] at this; exact (Option.some.inj this).symm
  have hpc0 := hpc 0 _ rfl
  simp only [Nat.zero_mul, Nat.add_zero] at hpc0
  have hzl : (z : Int) < (z : Int) + 1 := by omega
  replace hy := Lib.hid hy
  replace hat := Lib.hid hat
  replace hpv := Lib.hid hpv.out
  clear hct1 hC hrd hpc
  by_cases ho : pv = 9223372036854775808
  · subst ho
    go_wp2_with fail
    go_ret2
    exact ⟨by rw [hR1.out, hR2.out]; rfl, hxw⟩
  · have e1 : Hid (R1 = pv) := Lib.hid (by rw [hR1.out, if_neg ho])
    have e2 : Hid (R2 = 0) := Lib.hid (by rw [hR2.out, if_neg ho])
    have dn : ((pv : Int) == 9223372036854775808) = false := by simp; omega
    have hlt : pv < 9223372036854775808 := by omega
    have hwr : IntKind.i64.wrap (pv : Int) = (pv : Int) := IntWalk.i64_in _ (by omega)
    replace ho := Lib.hid ho
    go_wp2_with fail
    go_ret2
    exact ⟨by rw [e1.out, e2.out]; rfl, hxw⟩
theorem count_range (A : Au) (hm0 : A.madeB = true) (w : World) (Ba : Nat) (hA : AuAt w Ba A) (z : Int) (hz : z < 0 ∨ 32 < z) :
    Calls Try.prog 23 #[.pointer (some ⟨Ba, 0, none⟩), .int .i64 z] w fun e w' => e = .returned (.tuple #[.int .i64 0, .int .i64 3]) ∧ Ext w w' := by
  have hm := made_any A w Ba hA
  rw [hm0] at hm
  by_cases h0 : z < 0
  · have d0 : decide (z < 0) = true := by simpa using h0
    go_enter Try.func23, Try.ntmps23
    go_wp2_with fail
    refine hm.mono ?_
    rintro e w1 ⟨rfl, hx1⟩
    go_wp2_with fail
    go_ret2
    exact ⟨rfl, hx1⟩
  · have d0 : decide (z < 0) = false := by simpa using h0
    have d32 : decide (32 < z) = true := by simp; omega
    go_enter Try.func23, Try.ntmps23
    go_wp2_with fail
    refine hm.mono ?_
    rintro e w1 ⟨rfl, hx1⟩
    go_wp2_with fail
    go_ret2
    exact ⟨rfl, hx1⟩
theorem count_unmade (A : Au) (hm0 : A.madeB = false) (w : World) (Ba : Nat) (hA : AuAt w Ba A) (z : Int) :
    Calls Try.prog 23 #[.pointer (some ⟨Ba, 0, none⟩), .int .i64 z] w fun e w' => e = .returned (.tuple #[.int .i64 0, .int .i64 1]) ∧ Ext w w' := by
  have hm := made_any A w Ba hA
  rw [hm0] at hm
  go_enter Try.func23, Try.ntmps23
  go_wp2_with fail
  refine hm.mono ?_
  rintro e w1 ⟨rfl, hx1⟩
  go_wp2_with fail
  go_ret2
  exact ⟨rfl, hx1⟩
theorem count_nil (w : World) (z : Int) :
    Calls Try.prog 23 #[.pointer none, .int .i64 z] w fun e w' => e = .returned (.tuple #[.int .i64 0, .int .i64 1]) ∧ Ext w w' := by
  go_enter Try.func23, Try.ntmps23
  go_wp2_with fail
  refine (made_nil w).mono ?_
  rintro e w1 ⟨rfl, hx1⟩
  go_wp2_with fail
  go_ret2
  exact ⟨rfl, hx1⟩
end Go.Proofs.Ytilkemdecenibaa
