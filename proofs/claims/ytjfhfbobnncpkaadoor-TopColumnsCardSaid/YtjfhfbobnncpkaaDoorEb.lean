/-
  Are columns an alignment of words? What the question is, and multi.aligned.
  Check of an alignment, of the program (multi.Check) and of the reference (Is, check, Check).
-/
import Derived.Test.YtjfhfbobnncpkaaDoorEa
import Derived.Test.YtjfhfbobnncpkaaDoorOw
namespace Go.Proofs.YtjfhfbobnncpkaaDoor
open Go.RowKit
/-! ### The question -/
/-- How many entries in place k are sounds. -/
def cntG (cols : List (List Int)) (k : Nat) : Nat := (cols.filter fun c => decide (c.getD k (-1) ≠ -1)).length
theorem cntG_succ {cols : List (List Int)} {j : Nat} {c : List Int} (h : cols[j]? = some c) (k : Nat) : cntG (cols.take (j + 1)) k = cntG (cols.take j) k + if c.getD k (-1) = -1 then 0 else 1 := by
  unfold cntG
  rw [take_succ_at h, List.filter_append, List.length_append]
  by_cases e : c.getD k (-1) = -1
  · rw [if_pos e, List.filter_cons_of_neg (by simpa using e)]; rfl
  · rw [if_neg e, List.filter_cons_of_pos (by simpa using e)]; rfl
theorem cntG_le (cols : List (List Int)) (k j : Nat) : cntG (cols.take j) k ≤ j := by
  unfold cntG; exact Nat.le_trans (List.length_filter_le _ _) (by rw [List.length_take]; omega)
theorem cntG_mono {cols : List (List Int)} (k : Nat) {i j : Nat} (h : i ≤ j) : cntG (cols.take i) k ≤ cntG (cols.take j) k := by
  unfold cntG
  exact List.Sublist.length_le (List.Sublist.filter _ (List.take_sublist_take_left h))
/-- A column fits behind those that stand. -/
def ColOk (m : Nat) (pre : List (List Int)) (c : List Int) : Prop := c.length = m ∧ (∃ k, k < m ∧ c.getD k (-1) ≠ -1) ∧ ∀ k, k < m → c.getD k (-1) = -1 ∨ c.getD k (-1) = (cntG pre k : Int)
def AlP (ns : List Nat) (cols : List (List Int)) : Prop := (∀ i c, cols[i]? = some c → ColOk ns.length (cols.take i) c) ∧ ∀ k n, ns[k]? = some n → cntG cols k = n
open Classical in
noncomputable def alB (ns : List Nat) (cols : List (List Int)) : Bool := decide (AlP ns cols)
open Classical in
theorem alB_true {ns : List Nat} {cols : List (List Int)} (h : AlP ns cols) : alB ns cols = true := by unfold alB; exact decide_eq_true h
open Classical in
theorem alB_false {ns : List Nat} {cols : List (List Int)} (h : ¬ AlP ns cols) : alB ns cols = false := by unfold alB; exact decide_eq_false h
open Classical in
theorem alB_iff {ns : List Nat} {cols : List (List Int)} : alB ns cols = true ↔ AlP ns cols := by
  unfold alB; exact decide_eq_true_iff
theorem not_al {ns : List Nat} {cols : List (List Int)} {j : Nat} {c : List Int} (h : cols[j]? = some c) (hn : ¬ ColOk ns.length (cols.take j) c) : alB ns cols = false := alB_false fun ⟨h1, _⟩ => hn (h1 j c h)
/-! ### Own rows of numbers -/
theorem flat_i64' (hs : List Int) : hs.flatMap I64.enc = hs.map (fun x => Value.int .i64 x) := by induction hs <;> simp [I64.enc, *]
theorem OwnI.set' {B g n cap : Nat} {e : TypeId} {w : World} {xs : List Int} (h : OwnI B e w (.slice (some ⟨g, 0, none⟩) n cap) xs) (i : Nat) (y : Int) : OwnI B e (w.setCell ⟨g, i, none⟩ (.int .i64 y)) (.slice (some ⟨g, 0, none⟩) n cap) (xs.set i y) := by
  have hl := (OwnK.ge h).2.2.1
  subst hl
  have h1 := (World.ownsRow.stored h i (.int .i64 y)).1
  unfold OwnI OwnK
  rw [List.length_set]
  rw [flat_i64'] at h1 ⊢
  rw [List.map_set]; exact h1
theorem info_int1 : (Tryd.prog.info? 3).map (fun i => (i.zero, i.size, i.bytes)) = some (some (.int .i64 0), 1, 8) := by kernel_rfl
/-! ### slices.EqualFunc -/
theorem al1_any (y : HS) (x : Int) (w : World) : Calls Tryd.prog 56 #[.slice y.a y.n y.cap, .int .i64 x] w fun e w' => e = .returned (.bool ((y.n : Int) == x)) ∧ Ext w w' := by
  go_enter Tryd.func56, Tryd.ntmps56
  go_wp2_with fail
  go_ret
  exact ⟨rfl, Ext.refl _⟩
/-- Are the words as long as it is written? -/
def EqFRet (l : List HS) (nx : List Int) (w : World) (e : Ending) (w' : World) : Prop := ∃ r : Bool, e = .returned (.bool r) ∧ (r = true ↔ ∀ (k : Nat) (y : HS), l[k]? = some y → nx[k]? = some (y.n : Int)) ∧ Ext w w'
set_option maxHeartbeats 1000000 in
theorem eqF_any (a : Option Addr) (n cap : Nat) (l : List HS) (b : Option Addr) (cap2 : Nat) (nx : List Int) (w : World) (hr : RdW w a n cap l) (hs : RdI w b n cap2 nx) :
    Calls Tryd.prog 55 #[.slice a n cap, .slice b n cap2, .func (.func 56) #[] #[]] w (EqFRet l nx w) := by
  have hl := hr.rd.len
  have hmax : n ≤ 9223372036854775807 := by have := hr.rd.le; have := hr.rd.most; unfold maxLen at this; omega
  replace hl := Lib.hid hl
  go_enter Tryd.func55, Tryd.ntmps55
  go_wp2_with fail
  go_loopw [17] (fun i wr => ∃ k : Nat, k ≤ n ∧ i = .int .i64 k ∧ Hid (∀ (i : Nat) (y : HS), i < k → l[i]? = some y → nx[i]? = some (y.n : Int)) ∧ Ext w wr) (fun i _ => n - (intOf i).toNat)
  case atStart => exact ⟨0, Nat.zero_le _, rfl, Lib.hid (fun i x hi => absurd hi (Nat.not_lt_zero _)), Ext.refl _⟩
  case round =>
    obtain ⟨k, hk, rfl, hall, hx⟩ := hrel
    by_cases hlt : k < n
    · have hki : (k : Int) < (n : Int) := by omega
      obtain ⟨b1, o1, y, rfl, hy, hb1, hc0, hcy⟩ := (hr.ext hx).at hlt
      obtain ⟨b2, o2, x, rfl, hxx, hb2, hc1⟩ := (hs.ext hx).i64 hlt
      have hcall := al1_any y x wr
      by_cases h0 : (y.n : Int) = x
      · have hd : ((y.n : Int) == x) = true := by simpa using h0
        have hnew : Hid (∀ (i : Nat) (z : HS), i < k + 1 → l[i]? = some z → nx[i]? = some (z.n : Int)) := Lib.hid fun i z hi hz => by
          by_cases e : i = k
          · subst e; rw [hy.out] at hz; cases hz; rw [hxx.out, h0]
          · exact hall.out i z (by omega) hz
        rw [hd] at hcall
        replace h0 := Lib.hid h0
        go_wp2_with fail
        refine hcall.mono ?_
        rintro e w1 ⟨rfl, hx1⟩
        clear hcall
        go_wp2_with fail
        (first | exact ⟨⟨k + 1, by omega, by go_num, hnew, hx.trans hx1⟩, (by simp [intOf]; omega)⟩ | (go_roundw; case rel => exact ⟨k + 1, by omega, by go_num, hnew, hx.trans hx1⟩; case measure => exact (by simp [intOf]; omega)))
      · have hd : ((y.n : Int) == x) = false := by simpa using h0
        have hno : Hid (¬ ∀ (i : Nat) (z : HS), l[i]? = some z → nx[i]? = some (z.n : Int)) := Lib.hid fun h => by
          have := h k y hy.out
          rw [hxx.out] at this
          exact h0 (Option.some.inj this).symm
        rw [hd] at hcall
        replace h0 := Lib.hid h0
        go_wp2_with fail
        refine hcall.mono ?_
        rintro e w1 ⟨rfl, hx1⟩
        clear hcall
        go_wp2_with fail
        go_ret
        exact ⟨false, rfl, ⟨fun h => (by cases h), fun h => absurd h hno.out⟩, hx.trans hx1⟩
    · have hyes : Hid (∀ (i : Nat) (z : HS), l[i]? = some z → nx[i]? = some (z.n : Int)) := Lib.hid fun i z hz => hall.out i z (by have := (List.getElem?_eq_some_iff.1 hz).1; have := hl.out; omega) hz
      go_wp2_with fail
      go_ret
      exact ⟨true, rfl, ⟨fun _ => hyes.out, fun _ => rfl⟩, hx⟩
/-! ### multi.aligned -/
/-- What the counts are while a column is read. -/
def NxAt (C : List (List Int)) (n j q : Nat) (nx : List Int) : Prop := ∀ k, k < n → nx[k]? = some ((if k < q then cntG (C.take (j + 1)) k else cntG (C.take j) k : Nat) : Int)
set_option maxHeartbeats 4000000 in
set_option maxRecDepth 20000 in
theorem aligned_any (a : Option Addr) (n cap : Nat) (l : List HS) (b : Option Addr) (m cap2 : Nat) (cs : List HI) (w : World) (hr : RdW w a n cap l) (hs : RdN2 w b m cap2 cs) (hn : n ≤ 8) :
    Calls Tryd.prog 46 #[.slice a n cap, .slice b m cap2] w fun e w' => e = .returned (.bool (alB (l.map HS.n) (cs.map HI.x))) ∧ Ext w w' := by
  have hl := hr.rd.len
  have hl2 := hs.rd.len
  have hmost : m ≤ 9223372036854775807 := by have := hs.rd.le; have := hs.rd.most; unfold maxLen at this; omega
  have hmk := fun W => run_mk (P := Tryd.prog) 28 Tryd.underlying28 info_int1 n (by omega) (by decide) W
  have hown0 : OwnI w.heap.size 3 (w.alloc (.cells (madeCells #[.int .i64 0] (n * 1)) 3)) (.slice (some ⟨w.heap.size, 0, none⟩) n n) (List.replicate n 0) := made_own I64.len (by decide) w 3 #[.int .i64 0] 0 rfl n (by omega)
  have hx0 : Ext w (w.alloc (.cells (madeCells #[.int .i64 0] (n * 1)) 3)) := Ext.alloc1 _ _
  rw [Nat.mul_one] at hown0 hx0
  simp only [Nat.mul_one] at hmk
  obtain ⟨C, hC⟩ : ∃ C, C = cs.map HI.x := ⟨_, rfl⟩
  obtain ⟨R, hR⟩ : ∃ R, R = alB (l.map HS.n) C := ⟨_, rfl⟩
  rw [← hC, ← hR]
  have hCat : ∀ {j : Nat} {y : HI}, cs[j]? = some y → C[j]? = some y.x := fun h => by rw [hC, List.getElem?_map, h]; rfl
  have hnl : (l.map HS.n).length = n := by rw [List.length_map, hl]
  have hbad : ∀ {j : Nat} {c : List Int}, C[j]? = some c → ¬ ColOk n (C.take j) c → R = false := fun h1 h2 => by rw [hR]; exact not_al h1 (by rw [hnl]; exact h2)
  replace hl := Lib.hid hl
  replace hl2 := Lib.hid hl2
  replace hC := Lib.hid hC
  replace hR := Lib.hid hR
  replace hnl := Lib.hid hnl
  have hGe : w.heap.size ≤ w.heap.size := Nat.le_refl _
  go_enter Tryd.func46, Tryd.ntmps46
  go_wp2_with fail
  try (rw [hmk w]; go_wp2_with fail)
  generalize (w.alloc (.cells (madeCells #[.int .i64 0] n) 3)) = wB at *
  clear hmk
  go_loopw [16] (fun i wr => ∃ (j : Nat) (nx : List Int), j ≤ m ∧ i = .int .i64 j ∧ OwnI w.heap.size 3 wr (.slice (some ⟨w.heap.size, 0, none⟩) n n) nx ∧ Hid (NxAt C n j 0 nx) ∧ Hid (∀ (i : Nat) (c : List Int), i < j → C[i]? = some c → ColOk n (C.take i) c) ∧ Ext w wr) (fun i _ => m - (intOf i).toNat)
  case atStart => exact ⟨0, _, Nat.zero_le _, rfl, hown0, Lib.hid (fun k hk => by rw [List.getElem?_replicate, if_pos hk]; simp [cntG]), Lib.hid (fun i c hi => absurd hi (Nat.not_lt_zero _)), hx0⟩
  case round =>
    obtain ⟨j, nx, hj, rfl, hown, hnx, hall, hx⟩ := hrel
    by_cases hlt : j < m
    · have hji : (j : Int) < (m : Int) := by omega
      obtain ⟨b1, o1, ⟨ya, yn, yc, yx⟩, rfl, hy, hb1, hc0, hcy⟩ := (hs.ext hx).at hlt
      simp only at hc0 hcy
      have hcj := hCat hy.out
      simp only at hcj
      have hyl := hcy.len
      have hymax : yn ≤ 9223372036854775807 := by have := hcy.le; have := hcy.most; unfold maxLen at this; omega
      by_cases hyn : yn = n
      · have hdn : ((yn : Int) != (n : Int)) = false := by simp; omega
        subst hyn
        replace hcj := Lib.hid hcj
        replace hyl := Lib.hid hyl
        obtain ⟨wo, rfl⟩ : ∃ wo : World, wo = wr := ⟨_, rfl⟩
        go_wp2_with fail
        go_loopw [8, 27] (fun em q wr => ∃ (q' : Nat) (nx : List Int) (emp : Bool), q' ≤ yn ∧ q = .int .i64 q' ∧ em = .bool emp ∧ OwnI w.heap.size 3 wr (.slice (some ⟨w.heap.size, 0, none⟩) yn yn) nx ∧ Hid (NxAt C yn j q' nx) ∧ Hid (emp = true ↔ ∀ k, k < q' → yx.getD k (-1) = -1) ∧ Hid (∀ k, k < q' → yx.getD k (-1) = -1 ∨ yx.getD k (-1) = (cntG (C.take j) k : Int)) ∧ Ext w wr) (fun _ q _ => yn - (intOf q).toNat)
        case atStart => exact ⟨0, nx, true, Nat.zero_le _, rfl, rfl, hown, hnx, Lib.hid ⟨fun _ k hk => absurd hk (Nat.not_lt_zero _), fun _ => rfl⟩, Lib.hid (fun k hk => absurd hk (Nat.not_lt_zero _)), hx⟩
        case round =>
          obtain ⟨q, nx, emp, hq, rfl, rfl, hown, hnx, hemp, hok, hx⟩ := hrel
          by_cases hqn : q < yn
          · have hqi : (q : Int) < (yn : Int) := by omega
            have hcy2 : RdI wr ya yn yc yx := (hs.ok _ (List.mem_of_getElem? hy.out)).ext hx
            obtain ⟨b2, o2, x, rfl, hxx, hb2, p0⟩ := hcy2.i64 hqn
            obtain ⟨_, _, z, he, hz, _, p1⟩ := (OwnK.rdc I64.len hown).i64 hqn
            cases he
            have hzv := hnx.out q hqn
            rw [if_neg (Nat.lt_irrefl _), hz.out] at hzv
            have hzv : z = (cntG (C.take j) q : Int) := Option.some.inj hzv
            have hxg : yx.getD q (-1) = x := by rw [List.getD_eq_getElem?_getD, hxx.out]; rfl
            have hsu := cntG_succ hcj.out q
            rw [hxg] at hsu
            have hfz := OwnK.free hown q
            simp only [Nat.zero_add] at p1
            by_cases h1 : x = -1
            · have d1 : (x == -1) = true := by simpa using h1
              rw [if_pos h1] at hsu
              have hnx2 : Hid (NxAt C yn j (q + 1) nx) := Lib.hid fun k hk => by
                by_cases e : k = q
                · subst e; rw [if_pos (by omega), hsu, Nat.add_zero, hz.out, hzv]
                · have := hnx.out k hk
                  rw [this]
                  by_cases e2 : k < q
                  · rw [if_pos e2, if_pos (show k < q + 1 by omega)]
                  · rw [if_neg e2, if_neg (show ¬ k < q + 1 by omega)]
              have hemp2 : Hid (emp = true ↔ ∀ k, k < q + 1 → yx.getD k (-1) = -1) := Lib.hid ⟨fun h k hk => by
                by_cases e : k = q
                · rw [e, hxg, h1]
                · exact hemp.out.1 h k (by omega), fun h => hemp.out.2 fun k hk => h k (by omega)⟩
              have hok2 : Hid (∀ k, k < q + 1 → yx.getD k (-1) = -1 ∨ yx.getD k (-1) = (cntG (C.take j) k : Int)) := Lib.hid fun k hk => by
                by_cases e : k = q
                · rw [e, hxg]; exact .inl h1
                · exact hok.out k (by omega)
              replace h1 := Lib.hid h1
              replace hsu := Lib.hid hsu
              replace hzv := Lib.hid hzv
              replace hxg := Lib.hid hxg
              go_wp2_with fail
              (first | exact ⟨⟨q + 1, nx, emp, by omega, by go_num, rfl, hown, hnx2, hemp2, hok2, hx⟩, (by simp [intOf]; omega)⟩ | (go_roundw; case rel => exact ⟨q + 1, nx, emp, by omega, by go_num, rfl, hown, hnx2, hemp2, hok2, hx⟩; case measure => exact (by simp [intOf]; omega)))
            · have d1 : (x == -1) = false := by simpa using h1
              rw [if_neg h1] at hsu
              by_cases h2 : x = z
              · have d2 : (x == z) = true := by simpa using h2
                have hle := cntG_le C q j
                have hwz : IntKind.i64.wrap (z + 1) = z + 1 := IntWalk.i64_in _ (by omega)
                have hown2 := OwnI.set' hown q (z + 1)
                have hx2 : Ext w (wr.setCell ⟨w.heap.size, q, none⟩ (.int .i64 (z + 1))) := hx.setCell (p := ⟨w.heap.size, q, none⟩) hGe _
                have hnl2 : nx.length = yn := (OwnK.ge hown).2.2.1
                have hnx2 : Hid (NxAt C yn j (q + 1) (nx.set q (z + 1))) := Lib.hid fun k hk => by
                  rw [List.getElem?_set]
                  by_cases e : k = q
                  · subst e
                    rw [if_pos rfl, if_pos (by omega), if_pos (by omega), hsu, hzv]; rfl
                  · rw [if_neg (Ne.symm e), hnx.out k hk]
                    by_cases e2 : k < q
                    · rw [if_pos e2, if_pos (show k < q + 1 by omega)]
                    · rw [if_neg e2, if_neg (show ¬ k < q + 1 by omega)]
                have hemp2 : Hid (false = true ↔ ∀ k, k < q + 1 → yx.getD k (-1) = -1) := Lib.hid ⟨fun h => (by cases h), fun h => absurd (hxg.symm.trans (h q (by omega))) h1⟩
                have hok2 : Hid (∀ k, k < q + 1 → yx.getD k (-1) = -1 ∨ yx.getD k (-1) = (cntG (C.take j) k : Int)) := Lib.hid fun k hk => by
                  by_cases e : k = q
                  · rw [e, hxg, h2]; exact .inr hzv
                  · exact hok.out k (by omega)
                replace h1 := Lib.hid h1
                replace h2 := Lib.hid h2
                replace hsu := Lib.hid hsu
                replace hzv := Lib.hid hzv
                replace hxg := Lib.hid hxg
                replace hnl2 := Lib.hid hnl2
                go_wp2_with fail
                (first | exact ⟨⟨q + 1, _, false, by omega, by go_num, rfl, hown2, hnx2, hemp2, hok2, hx2⟩, (by simp [intOf]; omega)⟩ | (go_roundw; case rel => exact ⟨q + 1, _, false, by omega, by go_num, rfl, hown2, hnx2, hemp2, hok2, hx2⟩; case measure => exact (by simp [intOf]; omega)))
              · have d2 : (x == z) = false := by simpa using h2
                have hno : R = false := hbad hcj.out fun ⟨_, _, h5⟩ => by
                  have := h5 q hqn
                  rw [hxg, ← hzv] at this
                  rcases this with h | h
                  · exact h1 h
                  · exact h2 h
                replace hno := Lib.hid hno
                replace h1 := Lib.hid h1
                replace h2 := Lib.hid h2
                replace hsu := Lib.hid hsu
                replace hzv := Lib.hid hzv
                replace hxg := Lib.hid hxg
                go_wp2_with fail
                go_ret
                exact ⟨ret_bool hno.out.symm, hx⟩
          · obtain rfl : q = yn := by omega
            have hnx2 : Hid (NxAt C q (j + 1) 0 nx) := Lib.hid fun k hk => by
              have := hnx.out k hk
              rw [if_pos hk] at this
              rw [this, if_neg (Nat.not_lt_zero _)]
            cases emp
            · have hc : ColOk q (C.take j) yx := ⟨hyl.out, Decidable.byContradiction fun hn => (by
                have : false = true := hemp.out.2 fun k hk => Decidable.byContradiction fun h => hn ⟨k, hk, h⟩
                cases this), hok.out⟩
              have hall2 : Hid (∀ (i : Nat) (c : List Int), i < j + 1 → C[i]? = some c → ColOk q (C.take i) c) := Lib.hid fun i c hi hc2 => by
                by_cases e : i = j
                · subst e; rw [hcj.out] at hc2; cases hc2; exact hc
                · exact hall.out i c (by omega) hc2
              replace hc := Lib.hid hc
              go_wp2_with fail
              (first | exact ⟨⟨j + 1, nx, by omega, by go_num, hown, hnx2, hall2, hx⟩, (by simp [intOf]; omega)⟩ | (go_roundw; case rel => exact ⟨j + 1, nx, by omega, by go_num, hown, hnx2, hall2, hx⟩; case measure => exact (by simp [intOf]; omega)))
            · have hno : R = false := hbad hcj.out fun ⟨_, ⟨k, hk, h5⟩, _⟩ => h5 (hemp.out.1 rfl k hk)
              replace hno := Lib.hid hno
              go_wp2_with fail
              go_ret
              exact ⟨ret_bool hno.out.symm, hx⟩
      · have hdn : ((yn : Int) != (n : Int)) = true := by simp; omega
        have hno : R = false := hbad hcj fun ⟨h5, _⟩ => hyn (hyl.symm.trans h5)
        replace hno := Lib.hid hno
        replace hyn := Lib.hid hyn
        replace hyl := Lib.hid hyl
        replace hcj := Lib.hid hcj
        go_wp2_with fail
        go_ret
        exact ⟨ret_bool hno.out.symm, hx⟩
    · obtain rfl : j = m := by omega
      have heq := eqF_any a n cap l (some ⟨w.heap.size, 0, none⟩) n nx wr (hr.ext hx) (OwnK.rdc I64.len hown)
      have hfull : C.take j = C := List.take_of_length_le (by rw [hC.out, List.length_map, hl2.out]; exact Nat.le_refl _)
      have hRr : ∀ r : Bool, (r = true ↔ ∀ (k : Nat) (y : HS), l[k]? = some y → nx[k]? = some (y.n : Int)) → R = r := fun r hr2 => by
        have hkn : ∀ (k : Nat) (y : HS), l[k]? = some y → nx[k]? = some (cntG C k : Int) := fun k y hy => by
          have h1 := hnx.out k (by have := (List.getElem?_eq_some_iff.1 hy).1; have := hl.out; omega)
          rw [if_neg (Nat.not_lt_zero _), hfull] at h1; exact h1
        rw [hR.out, Bool.eq_iff_iff, alB_iff, hr2]
        constructor
        · rintro ⟨_, h5⟩ k y hy
          rw [hkn k y hy, h5 k y.n (by rw [List.getElem?_map, hy]; rfl)]
        · intro h5
          refine ⟨fun i c hi => ?_, fun k v hv => ?_⟩
          · rw [hnl.out]; exact hall.out i c (by have := (List.getElem?_eq_some_iff.1 hi).1; rw [hC.out, List.length_map, hl2.out] at this; exact this) hi
          · rw [List.getElem?_map] at hv
            cases hy : l[k]? with
            | none => rw [hy] at hv; cases hv
            | some y =>
              rw [hy] at hv
              have hv : y.n = v := Option.some.inj hv
              have h6 := h5 k y hy
              rw [hkn k y hy] at h6
              have := Option.some.inj h6
              omega
      replace hRr := Lib.hid hRr
      clear hfull
      go_wp2_with fail
      refine heq.mono ?_
      rintro e w1 ⟨r, rfl, hr2, hx1⟩
      have hfin := hRr.out r hr2
      subst hfin
      clear heq
      go_wp2_with fail
      go_ret
      exact ⟨rfl, hx.trans hx1⟩
end Go.Proofs.YtjfhfbobnncpkaaDoor
namespace Go.Proofs.YtjfhfbobnncpkaaDoor
open Go.RowKit
/-! ### The reference's Is -/
/-- A column has a sound, and as many entries as there are words. -/
def HalfC (n : Nat) (c : List Int) : Prop := c.length = n ∧ ∃ k, k < n ∧ c.getD k (-1) ≠ -1
/-- Place k is in order up to column i. -/
def PlcOk (C : List (List Int)) (i k : Nat) : Prop := ∀ (i' : Nat) (c : List Int), i' < i → C[i']? = some c → c.getD k (-1) = -1 ∨ c.getD k (-1) = (cntG (C.take i') k : Int)
theorem al_of {ns : List Nat} {C : List (List Int)} (h1 : ∀ (i : Nat) (c : List Int), C[i]? = some c → HalfC ns.length c) (h2 : ∀ k, k < ns.length → PlcOk C C.length k) (h3 : ∀ (k v : Nat), ns[k]? = some v → cntG C k = v) : AlP ns C :=
  ⟨fun i c hi => ⟨(h1 i c hi).1, (h1 i c hi).2, fun k hk => h2 k hk i c (List.getElem?_eq_some_iff.1 hi).1 hi⟩, h3⟩
/-! ### Check -/
noncomputable def chkM (l : List HS) (cs : List HI) : Int := if wordsE l ≠ 0 then wordsE l else if alB (l.map HS.n) (cs.map HI.x) = true then 0 else 8
theorem wordsE_len {l : List HS} (h : wordsE l = 0) : l.length ≤ 8 ∧ firstE l = 0 := by
  unfold wordsE at h
  split at h
  · cases h
  · rename_i h1; exact ⟨by omega, h⟩
theorem mcheck_any (a : Option Addr) (n cap : Nat) (l : List HS) (b : Option Addr) (m cap2 : Nat) (cs : List HI) (w : World) (hr : RdW w a n cap l) (hs : RdN2 w b m cap2 cs) :
    Calls Tryd.prog 33 #[.slice a n cap, .slice b m cap2] w fun e w' => e = .returned (.int .i64 (chkM l cs)) ∧ Ext w w' := by
  have hw := words_any a n cap l w hr
  by_cases h0 : wordsE l = 0
  · have hb0 : (wordsE l != 0) = false := by simpa using h0
    have hn : n ≤ 8 := by rw [← hr.rd.len]; exact (wordsE_len h0).1
    have ha := fun W (z : Ext w W) => aligned_any a n cap l b m cap2 cs W (hr.ext z) (hs.ext z) hn
    have hE : chkM l cs = if alB (l.map HS.n) (cs.map HI.x) = true then 0 else 8 := by unfold chkM; rw [if_neg (by simpa using h0)]
    rw [hE]
    clear hE
    generalize wordsE l = E at *
    replace h0 := Lib.hid h0
    generalize alB (l.map HS.n) (cs.map HI.x) = B at *
    cases B
    · go_enter Tryd.func33, Tryd.ntmps33
      go_wp2_with fail
      refine hw.mono ?_
      rintro e w1 ⟨rfl, hx1⟩
      have ha1 := ha _ hx1
      clear hw ha
      go_wp2_with fail
      refine ha1.mono ?_
      rintro e w2 ⟨rfl, hx2⟩
      clear ha1
      go_wp2_with fail
      go_ret
      exact ⟨rfl, hx1.trans hx2⟩
    · go_enter Tryd.func33, Tryd.ntmps33
      go_wp2_with fail
      refine hw.mono ?_
      rintro e w1 ⟨rfl, hx1⟩
      have ha1 := ha _ hx1
      clear hw ha
      go_wp2_with fail
      refine ha1.mono ?_
      rintro e w2 ⟨rfl, hx2⟩
      clear ha1
      go_wp2_with fail
      go_ret
      exact ⟨rfl, hx1.trans hx2⟩
  · have hb0 : (wordsE l != 0) = true := by simpa using h0
    have hE : chkM l cs = wordsE l := by unfold chkM; rw [if_pos h0]
    rw [hE]
    clear hE
    generalize wordsE l = E at *
    replace h0 := Lib.hid h0
    go_enter Tryd.func33, Tryd.ntmps33
    go_wp2_with fail
    refine hw.mono ?_
    rintro e w1 ⟨rfl, hx1⟩
    clear hw
    go_wp2_with fail
    go_ret
    exact ⟨rfl, hx1⟩
end Go.Proofs.YtjfhfbobnncpkaaDoor
