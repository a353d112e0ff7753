/-
  Shortest of the program and of the reference.
-/
import Derived.Test.YtbnbfdbliokcaaaDoorJl
import Derived.Laws.EntriesVeiled
namespace Go.Proofs.YtbnbfdbliokcaaaDoor
open Go.RowKit
/-! ### Plain -/
def othersL (xs : List Snd) (c : Snd) : List (BitVec 32) := (xs.map fun s => missB s c).filter fun x => decide (x ≠ 0#32)
theorem othersL_snoc (xs : List Snd) (c s : Snd) : othersL (xs ++ [s]) c = if missB s c = 0#32 then othersL xs c else othersL xs c ++ [missB s c] := by
  unfold othersL
  rw [List.map_append, List.filter_append]
  by_cases h : missB s c = 0#32 <;> simp [h]
theorem othersL_len (xs : List Snd) (c : Snd) : (othersL xs c).length ≤ xs.length := by
  unfold othersL; have := List.length_filter_le (fun x => decide (x ≠ 0#32)) (xs.map fun s => missB s c); simpa using this
theorem isB_closE {xs ys : List Snd} (h : isB xs ys = true) : closE xs ys = 0 := by
  unfold isB at h; rw [Bool.and_eq_true] at h; exact of_decide_eq_true h.1
theorem isB_mem {xs ys : List Snd} (h : isB xs ys = true) {s : Snd} (hs : s ∈ xs) : s ∈ ys ↔ satB s (comS ys) = true := by
  refine ⟨fun h => sat_com h, fun hsat => ?_⟩
  have h0 := isB_closE h
  unfold isB at h
  rw [Bool.and_eq_true, (cl_good h0).2] at h
  obtain ⟨i, hi⟩ := List.getElem?_of_mem hs
  have h2 := List.all_eq_true.1 h.2 i (mem_memL.2 ⟨i, s, rfl, hi, hsat⟩)
  unfold inAt at h2
  rw [show ((i : Int)).toNat = i by omega, hi] at h2
  exact of_decide_eq_true h2
theorem others_lack {xs ys : List Snd} (h : isB xs ys = true) : othersL xs (comS ys) = lackL xs ys (comS ys) := by
  unfold othersL lackL
  rw [List.filter_map]
  congr 1
  refine List.filter_congr fun s hs => ?_
  simp only [Function.comp, decide_eq_decide, ne_eq]
  rw [missB_zero, isB_mem h hs]
theorem others_bits {xs : List Snd} {c : Snd} (hok : ∀ x ∈ xs, x.ok = true) (hc : c.ok = true) : ∀ x ∈ othersL xs c, x ≠ 0#32 ∧ ∃ i, i < 24 ∧ x.getLsbD i = true := by
  intro x hx
  obtain ⟨h1, h2⟩ := List.mem_filter.1 hx
  obtain ⟨s, hs, rfl⟩ := List.mem_map.1 h1
  have hne : missB s c ≠ 0#32 := of_decide_eq_true h2
  refine ⟨hne, ?_⟩
  apply Classical.byContradiction
  intro hn
  apply hne
  refine BitVec.eq_of_getLsbD_eq fun i hi => ?_
  rw [BitVec.getLsbD_zero]
  cases hb : (missB s c).getLsbD i
  · rfl
  · have := hb
    rw [missB_bit (hok s hs) hc hi] at this
    exact absurd ⟨i, (of_decide_eq_true this).1, hb⟩ hn
def shH (xs ys : List Snd) : BitVec 32 := leastHit (lackL xs ys (comS ys))
def shC (xs ys : List Snd) : Snd := if isB xs ys then ⟨(comS ys).p &&& shH xs ys, (comS ys).m &&& shH xs ys⟩ else ⟨0#32, 0#32⟩
theorem shC_not {xs ys : List Snd} (h : isB xs ys = false) : shC xs ys = ⟨0#32, 0#32⟩ := by unfold shC; rw [h]; rfl
theorem shC_is {xs ys : List Snd} (h : isB xs ys = true) {H : BitVec 32} (hH : leastHit (lackL xs ys (comS ys)) = H) : shC xs ys = ⟨(comS ys).p &&& H, (comS ys).m &&& H⟩ := by
  unfold shC shH; rw [h, if_pos rfl, hH]
theorem miss_val (s c : Snd) : bits .or .u32 ((c.p.toNat &&& (4294967295 - s.p.toNat) : Nat) : Int) ((c.m.toNat &&& (4294967295 - s.m.toNat) : Nat) : Int) = ((missB s c).toNat : Int) := by
  rw [andn_nat, andn_nat, or_nat]; rfl
theorem u32_bne0 (x : BitVec 32) : ((x.toNat : Int) != 0) = !decide (x = 0#32) := by
  rw [bne, u32_beq0]; rfl
theorem func_box (w : World) : (w.alloc (.cells #[FnV w.heap.size] 75)).cell? ⟨w.heap.size, 0, none⟩ = some (FnV w.heap.size) := by
  have h : (w.alloc (.cells #[FnV w.heap.size] 75)).heap[w.heap.size]? = some (.cells #[FnV w.heap.size] 75 (0, 0)) := World.alloc_heap_new w _
  simp only [World.cell?]
  rw [h]; rfl
def RetSh (xs ys : List Snd) (w : World) (e : Ending) (w' : World) : Prop := e = .returned (.tuple #[sndV (shC xs ys), .bool (isB xs ys), .int .i64 (closE xs ys)]) ∧ Ext w w'
/-! ### The program -/
set_option maxHeartbeats 2000000 in
set_option maxRecDepth 20000 in
theorem shortest_any (a : Option Addr) (n cap : Nat) (xs : List Snd) (b : Option Addr) (m cap2 : Nat) (ys : List Snd) (w : World) (hr : RdS w a n cap xs) (hs : RdS w b m cap2 ys) :
    Calls Tryd.prog 19 #[.slice a n cap, .slice b m cap2] w (RetSh xs ys w) := by
  have hl := hr.len
  have q0 := SndB.zero w
  have hxB : Ext w (w.alloc (.cells #[.int .u32 0, .int .u32 0] 27)) := (by repeat (first | exact Ext.refl _ | refine Ext.drew ?_ | refine Ext.drewN ?_ _ | refine Ext.alloc ?_ _))
  have his := fun W (h1 : RdS W a n cap xs) (h2 : RdS W b m cap2 ys) => is_any a n cap xs b m cap2 ys W h1 h2
  unfold RetIs at his
  cases hB : isB xs ys
  · have hC := shC_not hB
    rw [hB] at his
    unfold RetSh
    rw [hC, hB]
    generalize closE xs ys = E at *
    replace hB := Lib.hid hB
    replace hC := Lib.hid hC
    replace hl := Lib.hid hl
    go_enter Tryd.func19, Tryd.ntmps19
    go_wp2_with fail
    generalize (w.alloc (.cells #[.int .u32 0, .int .u32 0] 27)) = wB at *
    refine (his _ (hr.ext hxB) (hs.ext hxB)).mono ?_
    rintro e w1 ⟨rfl, hx1⟩
    clear his
    have hx := hxB.trans hx1
    have q0 := q0.ext hx1
    obtain ⟨c0, c1⟩ := q0.cells
    obtain ⟨f0, f1⟩ := q0.frz
    have hfin := q0.set0
    have hx' := SndB.setx0 (B := w.heap.size) hx (Nat.le_refl _)
    go_wp2_with fail
    exact bodyPost_ret (ret_snd_t2 rfl _ _ w.heap.size _ rfl hfin) rfl ⟨rfl, hx'⟩
  · have hE := isB_closE hB
    obtain ⟨hck, hne, hin⟩ := closE_zero hE
    obtain ⟨hn, hok, _⟩ := chkI_zero hck
    rw [hl] at hn
    obtain ⟨g1, g2⟩ := cl_good hE
    have hCok : (comS ys).ok = true := comS_ok hne fun x hx => hok x (hin x hx)
    have hsh := fun H => shC_is hB (H := H)
    rw [← others_lack hB] at hsh
    have hcl := fun W (h1 : RdS W a n cap xs) (h2 : RdS W b m cap2 ys) => closure_any a n cap xs b m cap2 ys W h1 h2
    unfold RetC at hcl
    rw [g1, hE] at hcl
    rw [hB, hE] at his
    unfold RetSh
    rw [hB, hE]
    generalize comS ys = C at *
    clear g1 g2 hck hne hin
    replace hsh := Lib.hid hsh
    replace hE := Lib.hid hE
    replace hB := Lib.hid hB
    replace hl := Lib.hid hl
    replace hok := Lib.hid hok
    go_enter Tryd.func19, Tryd.ntmps19
    go_wp2_with fail
    generalize (w.alloc (.cells #[.int .u32 0, .int .u32 0] 27)) = wB at *
    refine (his _ (hr.ext hxB) (hs.ext hxB)).mono ?_
    rintro e w1 ⟨rfl, hx1⟩
    clear his
    have hx := hxB.trans hx1
    have q0 := q0.ext hx1
    clear hx1
    go_wp2_with fail
    refine (hcl _ (hr.ext hx) (hs.ext hx)).mono ?_
    rintro e w2 ⟨v2, rfl, hown2, hx2⟩
    clear hcl hown2
    have hx := hx.trans hx2
    have q0 := q0.ext hx2
    clear hx2
    have l0 := q0.lt
    go_wp2_with fail
    have q1 := SndB.new w2 C
    have q0 := q0.ext (Ext.alloc1 _ (.cells #[.int .u32 C.p.toNat, .int .u32 C.m.toNat] 27))
    have hx := hx.alloc (.cells #[.int .u32 C.p.toNat, .int .u32 C.m.toNat] 27)
    have hBne : w2.heap.size ≠ w.heap.size := by omega
    have hBge : w.heap.size < w2.heap.size := by omega
    generalize w2.heap.size = B at *
    generalize (w2.alloc (.cells #[.int .u32 C.p.toNat, .int .u32 C.m.toNat] 27)) = w3 at *
    go_loopw [12, 39] (fun ov i wr => ∃ k : Nat, k ≤ n ∧ i = .int .i64 k ∧ Ext w3 wr ∧ OwnU w3.heap.size 25 wr ov (othersL (xs.take k) C)) (fun _ i _ => n - (intOf i).toNat)
    case atStart => exact ⟨0, Nat.zero_le _, rfl, Ext.refl _, OwnK.nil _ _ _⟩
    case round =>
      obtain ⟨k, hk, rfl, hxr, hown⟩ := hrel
      have hxw := hx.trans hxr
      have q0r := q0.ext hxr
      have q1r := q1.ext hxr
      have l0 := q0r.lt
      have l1 := q1r.lt
      by_cases hlt : k < n
      · have hki : (k : Int) < (n : Int) := by omega
        obtain ⟨b1, off, s, rfl, hsk, hb, p0, p1⟩ := (hr.ext hxw).snd hlt
        obtain ⟨c0, c1⟩ := q1r.cells
        have hsu := othersL_snoc (xs.take k) C s
        rw [← take_succ_at hsk.out] at hsu
        have hlen := othersL_len (xs.take k) C
        have htl : (xs.take k).length ≤ k := by rw [List.length_take]; omega
        have hlen2 : (othersL (xs.take k) C).length ≤ 60000 := by omega
        have hmv := miss_val s C
        have hmz := u32_bne0 (missB s C)
        replace hsk := Lib.hid hsk.out
        clear hlen htl
        generalize missB s C = M at *
        generalize othersL (xs.take k) C = L at *
        by_cases hz : M = 0#32
        · have hd : decide (M = 0#32) = true := by simpa using hz
          rw [if_pos hz] at hsu
          rw [← hsu] at hown
          rw [hd, Bool.not_true] at hmz
          replace hz := Lib.hid hz
          replace hsu := Lib.hid hsu
          clear hd
          go_wp2_with fail
          (first | exact ⟨⟨k + 1, by omega, by go_num, hxr.alloc _, hown.kept (Ext.alloc1 _ _)⟩, (by simp [intOf]; omega)⟩ | (go_roundw; case rel => exact ⟨k + 1, by omega, by go_num, hxr.alloc _, hown.kept (Ext.alloc1 _ _)⟩; case measure => exact (by simp [intOf]; omega)))
        · have hd : decide (M = 0#32) = false := by simpa using hz
          rw [if_neg hz] at hsu
          rw [hd, Bool.not_false] at hmz
          replace hz := Lib.hid hz
          replace hsu := Lib.hid hsu
          clear hd
          go_wp2_with (at_builtin; refine wp_app1 w3 (wr.alloc (.cells #[.int .u32 s.p.toNat, .int .u32 s.m.toNat] 27)) M rfl _ _ 74 rfl 25 Tryd.underlying74 info_u32 rfl (by decide) _ _ rfl (hown.kept (Ext.alloc1 _ _)) (hxr.alloc _) (by first | rfl | (rw [World.size_alloc]; rfl)) (U32.len _) (U32.one _) (by omega) (by unfold maxLen; omega) ?_; intro v5 w5 o5 x5 _)
          (first | exact ⟨⟨k + 1, by omega, by go_num, x5, by rw [hsu.out]; exact o5⟩, (by simp [intOf]; omega)⟩ | (go_roundw; case rel => exact ⟨k + 1, by omega, by go_num, x5, by rw [hsu.out]; exact o5⟩; case measure => exact (by simp [intOf]; omega)))
      · have hkn : k = n := by omega
        have hful : xs.take k = xs := List.take_of_length_le (by rw [hl.out]; omega)
        rw [hful] at hown
        have hlen := othersL_len xs C
        rw [hl.out] at hlen
        have hbits := others_bits hok.out hCok
        obtain ⟨a4, n4, c4, hn4, rfl, hr4⟩ := OwnK.rdn U32.len hown
        have hn4' : n4 ≤ 60000 := by omega
        have h24 := hit_24 fun x hx => (hbits x hx).2
        have hnz := fun x hx => (hbits x hx).1
        generalize othersL xs C = L at *
        clear hown hlen hbits hful
        replace hn4 := Lib.hid hn4
        replace h24 := Lib.hid h24
        replace hnz := Lib.hid hnz
        replace hkn := Lib.hid hkn
        have hmf := run_mkf
        have hbox := (func_box wr)
        have hxs : Ext wr (wr.alloc (.cells #[FnV wr.heap.size] 75)) := Ext.alloc1 _ _
        unfold FnV at hxs
        unfold FnV at hbox
        go_wp2_with fail
        generalize (wr.alloc (.cells #[.func (.func 55) #[] #[.pointer (some ⟨wr.heap.size, 0, none⟩)]] 75)) = w6 at *
        generalize hBs : wr.heap.size = Bs at *
        replace hBs := Lib.hid hBs
        have hx6 := hxw.trans hxs
        have q06 := q0r.ext hxs
        have q16 := q1r.ext hxs
        have hr6 := hr4.ext hxs
        clear q0r q1r l0 l1 hxw hxs q0 q1
        go_loopw [17] (fun i wr => ∃ j : Nat, j ≤ 24 ∧ i = .int .i64 j ∧ Hid (hitFrom L 25 = hitFrom L (25 - j)) ∧ Hid (∀ m', m' < j → hit 24 m' L = none) ∧ Ext w6 wr) (fun i _ => 25 - (intOf i).toNat)
        case atStart => exact ⟨0, Nat.zero_le _, rfl, Lib.hid rfl, Lib.hid (fun m' h => absurd h (Nat.not_lt_zero _)), Ext.refl _⟩
        case round =>
          obtain ⟨j, hj, rfl, hfr, hlow, hxj⟩ := hrel
          have hbj := hxj.cellv hbox
          have hcall := search_any Bs 24 0 j a4 n4 c4 L _ (by omega) hn4' hnz.out hlow.out (by omega) (hr6.ext hxj) hbj
          unfold SrR at hcall
          have q0 := q06.ext hxj
          have q1 := q16.ext hxj
          cases hres : hit 24 j L with
          | none =>
            rw [hres] at hcall
            have hj24 : j < 24 := by
              rcases Nat.lt_or_ge j 24 with h | h
              · exact h
              · have e : j = 24 := by omega
                rw [e] at hres
                exact absurd hres h24.out
            have hfr2 : Hid (hitFrom L 25 = hitFrom L (25 - (j + 1))) := Lib.hid (by rw [hfr.out]; exact hitFrom_step hj hres)
            have hlow2 : Hid (∀ m', m' < j + 1 → hit 24 m' L = none) := Lib.hid (fun m' h => by
              by_cases e : m' = j
              · rw [e]; exact hres
              · exact hlow.out m' (by omega))
            replace hres := Lib.hid hres
            go_wp2_with fail
            refine hcall.mono ?_
            rintro e w7 ⟨rfl, hx7⟩
            clear hcall
            go_wp2_with fail
            (first | exact ⟨⟨j + 1, by omega, by go_num, hfr2, hlow2, hxj.trans hx7⟩, (by simp [intOf]; omega)⟩ | (go_roundw; case rel => exact ⟨j + 1, by omega, by go_num, hfr2, hlow2, hxj.trans hx7⟩; case measure => exact (by simp [intOf]; omega)))
          | some s =>
            rw [hres] at hcall
            have hH : Hid (shC xs ys = ⟨C.p &&& s, C.m &&& s⟩) := Lib.hid (hsh.out s (by unfold leastHit; rw [hfr.out, hitFrom_found hj hres]; rfl))
            replace hres := Lib.hid hres
            go_wp2_with fail
            refine hcall.mono ?_
            rintro e w7 ⟨rfl, hx7⟩
            clear hcall hbj
            have hx := (hx6.trans hxj).trans hx7
            have q0 := q0.ext hx7
            have q1 := q1.ext hx7
            obtain ⟨c0, c1⟩ := q0.cells
            obtain ⟨c2, c3⟩ := q1.cells
            obtain ⟨f0, f1⟩ := q0.frz
            have hfin := q0.set ⟨C.p &&& s, C.m &&& s⟩
            have hx' := SndB.setx (B := w.heap.size) hx (Nat.le_refl _) ⟨C.p &&& s, C.m &&& s⟩
            simp only [BitVec.toNat_and] at hfin hx'
            clear q0 q1 q06 q16
            go_wp2_with fail
            exact bodyPost_ret (ret_snd_t2 rfl _ _ w.heap.size _ rfl hfin) rfl ⟨by rw [hH.out]; rfl, hx'⟩
/-! ### The reference -/
theorem chR_none (m : Nat) (L : List (BitVec 32)) : chR 24 m L 0#32 = hit 24 m L := by
  unfold chR
  have : openL L 0#32 = L := List.filter_eq_self.2 fun x _ => by simp
  rw [this]
  cases hit 24 m L <;> simp
set_option maxHeartbeats 2000000 in
set_option maxRecDepth 20000 in
theorem rshortest_any (a : Option Addr) (n cap : Nat) (xs : List Snd) (b : Option Addr) (m cap2 : Nat) (ys : List Snd) (w : World) (hr : RdS w a n cap xs) (hs : RdS w b m cap2 ys) :
    Calls Tryd.prog 20 #[.slice a n cap, .slice b m cap2] w (RetSh xs ys w) := by
  have hl := hr.len
  have q0 := SndB.zero w
  have hxB : Ext w (w.alloc (.cells #[.int .u32 0, .int .u32 0] 27)) := (by repeat (first | exact Ext.refl _ | refine Ext.drew ?_ | refine Ext.drewN ?_ _ | refine Ext.alloc ?_ _))
  have his := fun W (h1 : RdS W a n cap xs) (h2 : RdS W b m cap2 ys) => ris_any a n cap xs b m cap2 ys W h1 h2
  unfold RetIs at his
  cases hB : isB xs ys
  · have hC := shC_not hB
    rw [hB] at his
    unfold RetSh
    rw [hC, hB]
    generalize closE xs ys = E at *
    replace hB := Lib.hid hB
    replace hC := Lib.hid hC
    replace hl := Lib.hid hl
    by_cases hE : E = 0
    · subst hE
      go_enter Tryd.func20, Tryd.ntmps20
      go_wp2_with fail
      generalize (w.alloc (.cells #[.int .u32 0, .int .u32 0] 27)) = wB at *
      (refine (his _ (hr.ext hxB) (hs.ext hxB)).mono ?_
       rintro e w1 ⟨rfl, hx1⟩
       clear his
       have hx := hxB.trans hx1
       have q0 := q0.ext hx1
       obtain ⟨c0, c1⟩ := q0.cells
       obtain ⟨f0, f1⟩ := q0.frz
       have hfin := q0.set0
       have hx' := SndB.setx0 (B := w.heap.size) hx (Nat.le_refl _)
       go_wp2_with fail
       exact bodyPost_ret (ret_snd_t2 rfl _ _ w.heap.size _ rfl hfin) rfl ⟨rfl, hx'⟩)
    · have hd : (E != 0) = true := by simpa using hE
      replace hE := Lib.hid hE
      go_enter Tryd.func20, Tryd.ntmps20
      go_wp2_with fail
      generalize (w.alloc (.cells #[.int .u32 0, .int .u32 0] 27)) = wB at *
      (refine (his _ (hr.ext hxB) (hs.ext hxB)).mono ?_
       rintro e w1 ⟨rfl, hx1⟩
       clear his
       have hx := hxB.trans hx1
       have q0 := q0.ext hx1
       obtain ⟨c0, c1⟩ := q0.cells
       obtain ⟨f0, f1⟩ := q0.frz
       have hfin := q0.set0
       have hx' := SndB.setx0 (B := w.heap.size) hx (Nat.le_refl _)
       go_wp2_with fail
       exact bodyPost_ret (ret_snd_t2 rfl _ _ w.heap.size _ rfl hfin) rfl ⟨rfl, hx'⟩)
  · have hE := isB_closE hB
    obtain ⟨hck, hne, hin⟩ := closE_zero hE
    obtain ⟨hn, hok, _⟩ := chkI_zero hck
    rw [hl] at hn
    have hmp : 0 < m := by
      rcases Nat.eq_zero_or_pos m with h | h
      · exact absurd (List.eq_nil_of_length_eq_zero (by rw [hs.len]; exact h)) hne
      · exact h
    have hCok : (comS ys).ok = true := comS_ok hne fun x hx => hok x (hin x hx)
    have hsh := fun H => shC_is hB (H := H)
    have hol := others_lack hB
    rw [hB, hE] at his
    unfold RetSh
    rw [hB, hE]
    have hcom := fun W (h : RdS W b m cap2 ys) => rcommon_any b m cap2 ys W h hmp fun x hx => hok x (hin x hx)
    have hlk := fun W (h1 : RdS W a n cap xs) (h2 : RdS W b m cap2 ys) => lacks_any a n cap xs b m cap2 ys (comS ys) W h1 h2 (by omega) hok hCok
    unfold RetU at hlk
    have hbits := others_bits (xs := xs) hok hCok
    rw [hol] at hbits
    have h24 := hit_24 fun x hx => (hbits x hx).2
    generalize lackL xs ys (comS ys) = L at *
    generalize comS ys = C at *
    clear hck hne hin hol hbits
    replace hsh := Lib.hid hsh
    replace hE := Lib.hid hE
    replace hB := Lib.hid hB
    replace hl := Lib.hid hl
    replace hok := Lib.hid hok
    replace h24 := Lib.hid h24
    go_enter Tryd.func20, Tryd.ntmps20
    go_wp2_with fail
    generalize (w.alloc (.cells #[.int .u32 0, .int .u32 0] 27)) = wB at *
    refine (his _ (hr.ext hxB) (hs.ext hxB)).mono ?_
    rintro e w1 ⟨rfl, hx1⟩
    clear his
    have hx := hxB.trans hx1
    have q0 := q0.ext hx1
    clear hx1
    go_wp2_with fail
    refine (hcom _ (hs.ext hx)).mono ?_
    rintro e w2 ⟨rfl, hx2⟩
    clear hcom
    have hx := hx.trans hx2
    have q0 := q0.ext hx2
    clear hx2
    have l0 := q0.lt
    go_wp2_with fail
    have q1 := SndB.new w2 C
    have q0 := q0.ext (Ext.alloc1 _ (.cells #[.int .u32 C.p.toNat, .int .u32 C.m.toNat] 27))
    have hx := hx.alloc (.cells #[.int .u32 C.p.toNat, .int .u32 C.m.toNat] 27)
    have hBne : w2.heap.size ≠ w.heap.size := by omega
    have hBge : w.heap.size < w2.heap.size := by omega
    generalize w2.heap.size = B at *
    generalize (w2.alloc (.cells #[.int .u32 C.p.toNat, .int .u32 C.m.toNat] 27)) = w3 at *
    refine (hlk _ (hr.ext hx) (hs.ext hx)).mono ?_
    rintro e w4 ⟨v4, rfl, hown, hx4⟩
    clear hlk
    have hx := hx.trans hx4
    have q0 := q0.ext hx4
    have q1 := q1.ext hx4
    clear hx4
    obtain ⟨a4, n4, c4, hn4, rfl, hr4⟩ := OwnK.rdn U32.len hown
    clear hown
    replace hn4 := Lib.hid hn4
    go_wp2_with fail
    go_loopw [11] (fun i wr => ∃ j : Nat, j ≤ 24 ∧ i = .int .i64 j ∧ Hid (hitFrom L 25 = hitFrom L (25 - j)) ∧ Ext w4 wr) (fun i _ => 25 - (intOf i).toNat)
    case atStart => exact ⟨0, Nat.zero_le _, rfl, Lib.hid rfl, Ext.refl _⟩
    case round =>
      obtain ⟨j, hj, rfl, hfr, hxj⟩ := hrel
      have hji : (j : Int) ≤ 24 := by omega
      have hcall := choose_any 24 0 j 0#32 a4 n4 c4 L _ (by omega) (by omega) (hr4.ext hxj)
      rw [chR_none] at hcall
      unfold SrR at hcall
      have q0 := q0.ext hxj
      have q1 := q1.ext hxj
      cases hres : hit 24 j L with
      | none =>
        rw [hres] at hcall
        have hj24 : j < 24 := by
          rcases Nat.lt_or_ge j 24 with h | h
          · exact h
          · have e : j = 24 := by omega
            rw [e] at hres
            exact absurd hres h24.out
        have hfr2 : Hid (hitFrom L 25 = hitFrom L (25 - (j + 1))) := Lib.hid (by rw [hfr.out]; exact hitFrom_step hj hres)
        replace hres := Lib.hid hres
        go_wp2_with fail
        refine hcall.mono ?_
        rintro e w7 ⟨rfl, hx7⟩
        clear hcall
        go_wp2_with fail
        (first | exact ⟨⟨j + 1, by omega, by go_num, hfr2, hxj.trans hx7⟩, (by simp [intOf]; omega)⟩ | (go_roundw; case rel => exact ⟨j + 1, by omega, by go_num, hfr2, hxj.trans hx7⟩; case measure => exact (by simp [intOf]; omega)))
      | some s =>
        rw [hres] at hcall
        have hH : Hid (shC xs ys = ⟨C.p &&& s, C.m &&& s⟩) := Lib.hid (hsh.out s (by unfold leastHit; rw [hfr.out, hitFrom_found hj hres]; rfl))
        replace hres := Lib.hid hres
        go_wp2_with fail
        refine hcall.mono ?_
        rintro e w7 ⟨rfl, hx7⟩
        clear hcall
        have hx := (hx.trans hxj).trans hx7
        have q0 := q0.ext hx7
        have q1 := q1.ext hx7
        obtain ⟨c0, c1⟩ := q0.cells
        obtain ⟨c2, c3⟩ := q1.cells
        obtain ⟨f0, f1⟩ := q0.frz
        have hfin := q0.set ⟨C.p &&& s, C.m &&& s⟩
        have hx' := SndB.setx (B := w.heap.size) hx (Nat.le_refl _) ⟨C.p &&& s, C.m &&& s⟩
        simp only [BitVec.toNat_and] at hfin hx'
        clear q0 q1
        go_wp2_with fail
        exact bodyPost_ret (ret_snd_t2 rfl _ _ w.heap.size _ rfl hfin) rfl ⟨by rw [hH.out]; rfl, hx'⟩
end Go.Proofs.YtbnbfdbliokcaaaDoor
