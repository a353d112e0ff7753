/-
  corr.Regular.
-/
import Derived.Test.YtkdancoffmhjhaaKm
import Derived.Test.YtkdancoffmhjhaaBg
namespace Go.Proofs.Ytkdancoffmhjhaa
open Go.RowKit Go.Shelf
attribute [local go_sem] Oper.semAt_some
/-- At least so often. -/
def regB (k : Int) (y : HCo) : Bool := decide (k ≤ y.cnt)
def RegRet (E : Int) (L : List (List Cl × Int)) (w : World) (e : Ending) (w' : World) : Prop :=
  (E ≠ 0 ∧ e = .returned (.tuple #[.slice none 0 0, .int .i64 E]) ∧ Ext w w') ∨ (E = 0 ∧ ∃ v hs, e = .returned (.tuple #[v, .int .i64 0]) ∧ OwnL w.heap.size w' v hs ∧ hs.map kp = L ∧ Ext w w')
def RegI (B O B0 : Nat) (lv : Value) (k : Int) (w0 : World) (pre : List HCo) (W : World) : Prop :=
  ∃ v hs, OwnLC B W v hs ∧ Boxed W O 24 v ∧ Boxed W B0 3 (.int .i64 k) ∧ (Boxed W (O + 1) 24 lv ∧ Boxed W (O + 1 + 1) 100 (.slice (some ⟨O + 1, 0, none⟩) 1 1)) ∧ Hid (hs.map kp = (pre.filter (regB k)).map kp) ∧ Hid (hs.length ≤ pre.length) ∧ Ext w0 W
theorem RegI.beside {B O B0 : Nat} {lv : Value} {k : Int} {w0 : World} {pre : List HCo} {X Y : World} {row : Option Nat} (h : RegI B O B0 lv k w0 pre X) (hg : X.grownBy Y row) (hr : ∀ r, row = some r → (r < B0 ∨ O + 3 ≤ r ∨ B0 < r ∧ r < O) ∧ w0.heap.size ≤ r ∧ ∃ o : Obj, X.heap[r]? = some o ∧ o.isCells = false) : RegI B O B0 lv k w0 pre Y := by
  obtain ⟨v, hs, h1, h2, h3, ⟨h6, h7⟩, h4, h5, h9⟩ := h
  have nc : ∀ {b : Nat} {t : TypeId} {u : Value}, Boxed X b t u → some b ≠ row := fun {b t u} hb e => by
    obtain ⟨_, _, o, ho, hc⟩ := hr b e.symm
    unfold Boxed at hb
    rw [hb] at ho; cases ho; cases hc
  exact ⟨v, hs, h1.beside hg (fun r e => (hr r e).2.2), h2.kept hg (nc h2), h3.kept hg (nc h3), ⟨h6.kept hg (nc h6), h7.kept hg (nc h7)⟩, h4, h5, h9.grown hg fun k e => (hr _ e).2.1⟩
theorem rdhl_one {w : World} {a : Option Addr} {m cap : Nat} {l : List HCo} (hr : RdH w a m cap l) : RdHL (w.alloc (.cells #[.slice a m cap] 24)) (some ⟨w.heap.size, 0, none⟩) 1 1 [⟨a, m, cap, l⟩] :=
  ⟨OwnK.rdc (k := 1) (enc := HL.enc) (fun _ => rfl) (lit_own (k := 1) (enc := HL.enc) (fun _ => rfl) w 24 [⟨a, m, cap, l⟩] #[.slice a m cap] rfl (n := 1) rfl (by omega)), fun y hy => by
    simp at hy; subst hy; exact hr.ext (Ext.alloc1 _ _)⟩
set_option maxHeartbeats 400000 in
set_option maxRecDepth 20000 in
theorem regular_any (a : Option Addr) (n cap : Nat) (l : List HCo) (k : Int) (w : World) (hr : RdH w a n cap l) :
    Calls Try.prog 29 #[.slice a n cap, .int .i64 k] w (RegRet (chkE [l]) ((l.filter (regB k)).map kp) w) := by
  have h1 : 1 ≤ 9 := by omega
  have hrb := hr.ext (Ext.alloc1 w (.cells #[.int .i64 k] 3))
  have hck := ccheck_any _ 1 1 [l] _ (rdl_one hrb)
  rw [World.size_alloc] at hck
  refine (callsIn_wide (n := 9)).1 ?_
  refine callsIn_of_wp_marks Try.func29 rfl trivial ?_ rfl
  simp only [Try.ntmps29, List.size_toArray, List.length_cons, List.length_nil, Nat.reduceAdd, Nat.reduceSub, Array.replicate_succ, Array.replicate_zero, List.push_toArray, List.append_toArray, List.nil_append, List.cons_append]
  by_cases h0 : chkE [l] = 0
  · obtain ⟨g1, g2⟩ := chkE_all h0
    have hfl : [l].flatten = l := by simp
    rw [hfl] at g2
    obtain ⟨hn1, hw1⟩ := g1 l (by simp)
    replace hck := cint hck h0
    replace h0 := Lib.hid h0
    replace hn1 := Lib.hid hn1
    replace hw1 := Lib.hid hw1
    clear g1 g2 hfl
    gi_wp2
    refine ⟨trivial, ?_⟩
    gi_at_call 48
    refine (callsIn_wide.2 hck).mono ?_
    rintro e w1 ⟨rfl, hx1⟩
    have bB : Boxed (w.alloc (.cells #[.int .i64 k] 3)) w.heap.size 3 (.int .i64 k) := Boxed.new _ _ _
    have bB1 : Hid (Boxed w1 w.heap.size 3 (.int .i64 k)) := Lib.hid (Boxed.more (Boxed.alloc bB _) hx1)
    have hxw1 : Ext w w1 := Ext.trans (by repeat (first | exact Ext.refl _ | assumption | refine Ext.drew ?_ | refine Ext.drewN ?_ _ | refine Ext.alloc ?_ _ | refine Ext.trans ?_ (by assumption))) hx1
    clear bB hck hrb
    have hr1 := hr.ext hxw1
    have hrl := rdhl_one (hr1.ext (Ext.alloc1 w1 (.cells #[.slice none 0 0] 24)))
    rw [World.size_alloc] at hrl
    have bO2 : Boxed ((w1.alloc (.cells #[.slice none 0 0] 24)).alloc (.cells #[.slice a n cap] 24)) w1.heap.size 24 (.slice none 0 0) := Boxed.alloc (Boxed.new _ _ _) _
    have bB2 : Boxed ((w1.alloc (.cells #[.slice none 0 0] 24)).alloc (.cells #[.slice a n cap] 24)) w.heap.size 3 (.int .i64 k) := Boxed.alloc (Boxed.alloc bB1.out _) _
    have bL2 : Boxed ((w1.alloc (.cells #[.slice none 0 0] 24)).alloc (.cells #[.slice a n cap] 24)) (w1.heap.size + 1) 24 (.slice a n cap) := by have := Boxed.new (w1.alloc (.cells #[.slice none 0 0] 24)) 24 (.slice a n cap); rwa [World.size_alloc] at this
    have hx2 : Ext w ((w1.alloc (.cells #[.slice none 0 0] 24)).alloc (.cells #[.slice a n cap] 24)) := (hxw1.alloc _).alloc _
    have hz2 : ((w1.alloc (.cells #[.slice none 0 0] 24)).alloc (.cells #[.slice a n cap] 24)).heap.size = w1.heap.size + 1 + 1 := by simp
    gi_wp2
    generalize ((w1.alloc (.cells #[.slice none 0 0] 24)).alloc (.cells #[.slice a n cap] 24)) = w2 at *
    refine ⟨trivial, ?_⟩
    gi_at_call 50
    refine (all_in _ _ _ _ _).mono ?_
    rintro e w3 ⟨rfl, hw3⟩
    have hb3 : w3.cell? ⟨w1.heap.size + 1 + 1, 0, none⟩ = some (.slice (some ⟨w1.heap.size + 1, 0, none⟩) 1 1) := by rw [hw3, ← hz2]; exact Boxed.cell (Boxed.new _ _ _)
    have hx23 : Ext w2 w3 := by rw [hw3]; exact Ext.alloc1 _ _
    have hz3 : w3.heap.size = w1.heap.size + 3 := by rw [hw3]; simp; omega
    have bX3 : Boxed w3 (w1.heap.size + 1 + 1) 100 (.slice (some ⟨w1.heap.size + 1, 0, none⟩) 1 1) := by rw [hw3, ← hz2]; exact Boxed.new _ _ _
    have hfl : flatH [⟨a, n, cap, l⟩] = l := by simp [flatH]
    have hx3 : Ext w w3 := hx2.trans hx23
    have hI0 : RegI w.heap.size w1.heap.size w.heap.size (.slice a n cap) k w [] w3 := ⟨_, [], ⟨OwnK.nil _ _ _, fun y hy => by cases hy⟩, Boxed.more bO2 hx23, Boxed.more bB2 hx23, ⟨Boxed.more bL2 hx23, bX3⟩, Lib.hid rfl, Lib.hid (Nat.le_refl _), hx3⟩
    have hlw := hxw1.le
    have hBO : w.heap.size < w1.heap.size := bB1.out.lt
    rw [hz2]
    clear hw3 hb3 hrl bO2 bB2 hx2 hx23 hr1 bL2 bX3
    replace hz3 := Lib.hid hz3
    replace hz2 := Lib.hid hz2
    gi_wp2
    refine wpIn_range_own2 rfl h1 (gf := 79) (lb := #[.pointer (some ⟨w1.heap.size + 1 + 1, 0, none⟩)]) rfl trivial (enters_of Try.func79 (by kernel_rfl) rfl) (encs := encH) (fun _ => rfl) (fun _ => False) (fun r hr => hr.elim) l
      (RegI w.heap.size w1.heap.size w.heap.size (.slice a n cap) k w)
      (fun s X Y row hs hg hr => hs.beside hg fun r e => by
        rcases hr r e with h | ⟨h2, h3⟩
        · exact h.elim
        · have := hz3.out; exact ⟨by omega, by omega, h3⟩)
      hI0 (fun _ _ _ => False) (fun _ _ _ _ _ hs _ _ => hs)
      (fun lp J Jx W hB hJ0 hJ hJx hI hY => by
        have := all1_in 8 lp (w1.heap.size + 1 + 1) (by omega) (some ⟨w1.heap.size + 1, 0, none⟩) 1 1 [⟨a, n, cap, l⟩] J Jx (fun s X Y hs hg => hJ s X Y none hs hg (fun r e => by cases e))
          (fun s X hs => by
            obtain ⟨v, hs', _, _, _, ⟨h6, h7⟩, _, _, h9⟩ := hI s X hs
            refine ⟨h7.cell, ⟨⟨rfl, Nat.le_refl _, by simp [maxLen], (fun h => by cases h), fun _ => ⟨w1.heap.size + 1, 0, rfl, h6.lt, fun i x hx j u hu => ?_⟩⟩, fun h hm => ?_⟩⟩
            · cases i with
              | zero =>
                simp at hx; subst hx
                cases j with
                | zero => simp [HL.enc] at hu; subst hu; simpa using h6.cell
                | succ j => simp [HL.enc] at hu
              | succ i => simp at hx
            · simp at hm; subst hm; exact hr.ext h9)
          (fun pre y X hp hpre => (hY pre y X hp (by rw [hfl] at hpre; exact hpre)).mono (fun e Y h => h.elim (fun h => .inl ⟨h.1, h.2.1⟩) (fun h => .inr h))) W hJ0
        rw [hfl] at this
        simpa using this)
      (fun y a' W => ∃ Bx, w3.heap.size ≤ Bx ∧ W.heap[Bx]? = some (.cells #[.slice y.a y.n y.cap, .int .i64 y.cnt] 49) ∧ (∃ v : Value, W.heap[w1.heap.size]? = some (.cells #[v] 24 (0, 0)) ∧ v.ownBlock ≠ some Bx) ∧ a' = { tmps := #[.slice a n cap, .int .i64 k, undef, .pointer (some ⟨w.heap.size, 0, none⟩), .slice none 0 0, .int .i64 0, .int .i64 0, .pointer (some ⟨w1.heap.size, 0, none⟩), .pointer (some ⟨Bx, 0, none⟩), .slice a n cap, .slice (some ⟨w.heap.size + 1, 0, none⟩) 1 1, .int .i64 0, .int .i64 0, .bool false, undef, .slice a n cap, .slice (some ⟨w1.heap.size + 1, 0, none⟩) 1 1, .func (.func 79) #[] #[.pointer (some ⟨w1.heap.size + 1 + 1, 0, none⟩)], coV y, undef, undef, undef, undef, undef, undef, undef, undef, undef, undef, undef, undef, undef, undef], defers := [] })
      (fun x a' s X Y row hs hg hr => by
        obtain ⟨Bx, h1, h2, ⟨v, h4, h5⟩, h3⟩ := hs
        refine ⟨Bx, h1, (hg.block Bx (Array.getElem?_eq_some_iff.1 h2).1 (fun e => ?_)).trans h2, ⟨v, (hg.block _ (Array.getElem?_eq_some_iff.1 h4).1 (fun e => ?_)).trans h4, h5⟩, h3⟩
        · rcases hr Bx e.symm with h | ⟨_, o, ho, hc⟩
          · exact h
          · rw [h2] at ho; cases ho; cases hc
        · rcases hr _ e.symm with h | ⟨_, o, ho, hc⟩
          · exact h
          · rw [h4] at ho; cases ho; cases hc)
      ?assign ?body ?done ?stop
    case assign =>
      rintro lp pre y W K hS hK
      obtain ⟨v, hs, q1, q2, q3, ⟨q6, q7⟩, q4, q5, q9⟩ := id hS
      have hle : w3.heap.size ≤ W.heap.size := by have := q7.lt; have := hz3.out; omega
      replace hle := Lib.hid hle
      have hnb : v.ownBlock ≠ some W.heap.size := fun e => OwnK.own_lt q1.own (Nat.le_refl _) e.symm
      replace hnb := Lib.hid (And.intro q2.lt (And.intro q2 hnb))
      clear q1 q2 q3 q4 q5 q6 q7 q9
      gi_wp2
      exact hK _ _ ((KeepsOthers.alloc _ _).from _) (fun r h => h.elim) (hS.beside (World.grownBy_alloc _ _ none) (fun r e => by cases e)) ⟨W.heap.size, hle.out, World.alloc_heap_new W _, ⟨v, (Below.heap_alloc W _ _ hnb.out.1).trans hnb.out.2.1, hnb.out.2.2⟩, rfl⟩
    case body =>
      rintro lp pre y a' W ⟨v, hs, q1, q2, q3, ⟨q6, q7⟩, q4, q5, q9⟩ ⟨Bx, hBx, hbx, ⟨v', hv'1, hv'2⟩, rfl⟩ hpre
      obtain rfl : v = v' := by
        have := q2.symm.trans hv'1
        simpa using this
      clear hv'1
      replace hv'2 := Lib.hid hv'2
      have c0 : W.cell? ⟨Bx, 0, none⟩ = some (.slice y.a y.n y.cap) := by simp [World.cell?, hbx]
      have c1 : W.cell? ⟨Bx, 1, none⟩ = some (.int .i64 y.cnt) := by simp [World.cell?, hbx]
      have cO := q2.cell
      have cB := q3.cell
      cases hb : regB k y
      · have hd : decide (k ≤ y.cnt) = false := hb
        have fin := Lib.hid (⟨v, hs, q1, q2, q3, ⟨q6, q7⟩, Lib.hid (by rw [List.filter_append, List.filter_cons_of_neg (by rw [hb]; simp)]; simpa using q4.out), Lib.hid (by rw [List.length_append]; have := q5.out; omega), q9⟩ : RegI w.heap.size w1.heap.size w.heap.size (.slice a n cap) k w (pre ++ [y]) W)
        clear q1 q2 q3 q6 q7
        gi_wp2
        exact ⟨KeepsFrom.refl _ _, fun r h => h.elim, fin.out⟩
      · have hd : decide (k ≤ y.cnt) = true := hb
        obtain ⟨ao, no, co, hno, rfl, hro⟩ := OwnK.rdn HCo.len q1.own
        have hyl : y ∈ l := hpre.subset (by simp)
        have hyr := (hr.ok y hyl).ext q9
        have hyn := hw1.out y hyl
        have hbl : no ≤ 4096 := by have := q5.out; have h2 := hpre.length_le; rw [List.length_append] at h2; have := hn1.out; omega
        have hS0 : (fun w' : World => w'.cell? ⟨w1.heap.size, 0, none⟩ = some (.slice ao no co) ∧ w'.cell? ⟨Bx, 0, none⟩ = some (.slice y.a y.n y.cap) ∧ w'.cell? ⟨Bx, 1, none⟩ = some (.int .i64 y.cnt)) W.drew := ⟨cO, c0, c1⟩
        have q2' := Lib.hid q2
        have q3' := Lib.hid q3
        have q67 := Lib.hid (And.intro q6 q7)
        replace hno := Lib.hid hno
        replace hbl := Lib.hid hbl
        replace hb := Lib.hid hb
        clear q2 q3 q6 q7 hro
        gi_wp2
        refine wpIn_region_F (fun w' : World => w'.cell? ⟨w1.heap.size, 0, none⟩ = some (.slice ao no co) ∧ w'.cell? ⟨Bx, 0, none⟩ = some (.slice y.a y.n y.cap) ∧ w'.cell? ⟨Bx, 1, none⟩ = some (.int .i64 y.cnt)) [0, 1, 2, 4, 5] (by kernel_rfl) (by kernel_rfl) (by rintro ⟨_, _, h⟩; exact h) ?_
        show wpF _ _ _ _ _ _ 10 _ _ _
        refine wpF_take (i := 0) (v := .slice ao no co) rfl (by kernel_rfl) (by kernel_rfl) (by kernel_rfl) (by kernel_rfl) (fun _ _ _ h => h) (.inl ⟨rfl, fun W' hW' => ?_⟩) hS0 ?_
        · obtain ⟨s1, s2, s3⟩ := hW'
          go_simp
        refine wpF_take (i := 1) (v := .pointer (some ⟨Bx, 0, none⟩)) rfl (by kernel_rfl) (by kernel_rfl) (by kernel_rfl) (by kernel_rfl) (fun _ _ _ h => h) (.inl ⟨rfl, fun W' hW' => ?_⟩) hS0 ?_
        · obtain ⟨s1, s2, s3⟩ := hW'
          go_simp
        refine wpF_take (i := 2) (v := .slice y.a y.n y.cap) rfl (by kernel_rfl) (by kernel_rfl) (by kernel_rfl) (by kernel_rfl) (fun _ _ _ h => h) (.inl ⟨rfl, fun W' hW' => ?_⟩) hS0 ?_
        · obtain ⟨s1, s2, s3⟩ := hW'
          go_simp
        refine wpF_take (i := 4) (v := .pointer (some ⟨Bx, 1, none⟩)) rfl (by kernel_rfl) (by kernel_rfl) (by kernel_rfl) (by kernel_rfl) (fun _ _ _ h => h) (.inl ⟨rfl, fun W' hW' => ?_⟩) hS0 ?_
        · obtain ⟨s1, s2, s3⟩ := hW'
          go_simp
        refine wpF_take (i := 5) (v := .int .i64 y.cnt) rfl (by kernel_rfl) (by kernel_rfl) (by kernel_rfl) (by kernel_rfl) (fun _ _ _ h => h) (.inl ⟨rfl, fun W' hW' => ?_⟩) hS0 ?_
        · obtain ⟨s1, s2, s3⟩ := hW'
          go_simp
        refine wpF_step (k := 3) rfl (by kernel_rfl) rfl fun K3 hK3 => ?_
        go_simp
        refine (cloneC_any y.a y.n y.cap y.x W.drew (hyr.ext ((Ext.refl _).drew)) (by omega)).mono ?_
        rintro e w4 ⟨v4, rfl, ho4, hx4⟩
        obtain ⟨a4, n4, c4, hn4, rfl, hr4⟩ := OwnK.rdn Cl.len ho4
        replace hn4 := Lib.hid hn4
        have hS4 : Ext W w4 := ((Ext.refl _).drew).trans hx4
        have hsA := Ext.alloc1 w4 (.cells #[.slice a4 n4 c4, .int .i64 y.cnt] 49)
        have hA : Ext W (w4.alloc (.cells #[.slice a4 n4 c4, .int .i64 y.cnt] 49)) := hS4.trans hsA
        have hoA := q1.own.kept hS4
        have hb4 := OwnK.blk' (hoA.kept hsA)
        have bO4 := Boxed.more q2'.out hA
        have x4 := (Below.block hA.bel Bx (Array.getElem?_eq_some_iff.1 hbx).1).trans hbx
        refine hK3 _ _ ⟨hS4.cellv cO, hS4.cellv c0, hS4.cellv c1⟩ ?_
        refine wpF_step (k := 6) rfl (by kernel_rfl) rfl fun K6 hK6 => ?_
        go_simp
        refine hK6 _ _ ⟨hS4.cellv cO, hS4.cellv c0, hS4.cellv c1⟩ ?_
        refine wpF_step (k := 7) rfl (by kernel_rfl) rfl fun K7 hK7 => ?_
        go_simp
        refine hK7 _ _ ⟨hA.cellv cO, hA.cellv c0, hA.cellv c1⟩ ?_
        refine wpF_step (k := 8) rfl (by kernel_rfl) rfl fun K8 hK8 => ?_
        refine step_of_list (ops := #[]) rfl (by rintro ⟨_, _, h⟩; exact h) ?_
        refine wp_app1 w w4 (⟨a4, n4, c4, y.cnt, y.x⟩ : HCo) rfl _ _ 24 rfl 49 Try.underlying24 info_corr rfl (by decide) _ _ rfl hoA (q9.trans hS4) rfl rfl (HCo.one _) (by rw [← hno.out]; have := hbl.out; omega) (by rw [← hno.out]; have := hbl.out; unfold maxLen; omega) ?_
        intro v6 w6 ho6 hx6 hg6
        have bO6 : Boxed w6 w1.heap.size 24 (.slice ao no co) := Boxed.kept bO4 hg6 (fun e => by obtain ⟨cu, fr, hcu⟩ := hb4 _ e.symm; exact Boxed.ne bO4 hcu (by decide) rfl)
        have x6 := (hg6.block Bx (Array.getElem?_eq_some_iff.1 x4).1 (fun e => hv'2.out e.symm)).trans x4
        have cO6 := bO6.cell
        have fO6 := bO6.frozen
        refine hK8 _ _ ⟨cO6, by simp [World.cell?, x6], by simp [World.cell?, x6]⟩ ?_
        obtain ⟨g, cp, hv6⟩ := OwnK.hdr ho6 (by simp)
        rw [show (hs ++ [(⟨a4, n4, c4, y.cnt, y.x⟩ : HCo)]).length = hs.length + 1 by simp] at hv6
        subst hv6
        have gO := grownBy_setCell' w6 w1.heap.size (.slice (some ⟨g, 0, none⟩) (hs.length + 1) cp)
        have bOr : ∀ r, some w1.heap.size = some r → ∃ cur fr, w6.heap[r]? = some (.cells cur 24 fr) := fun r e => by cases e; exact ⟨_, _, bO6⟩
        have oF : OwnLC w.heap.size (w6.setCell ⟨w1.heap.size, 0, none⟩ (.slice (some ⟨g, 0, none⟩) (hs.length + 1) cp)) (.slice (some ⟨g, 0, none⟩) (hs.length + 1) cp) (hs ++ [⟨a4, n4, c4, y.cnt, y.x⟩]) := ⟨ho6.other gO bOr (by decide), fun u hu => by
          rcases List.mem_append.1 hu with h | h
          · exact ((((q1.ok u h).kept hS4).kept hsA).other hg6 hb4 (by decide)).other gO bOr (by decide)
          · rw [List.mem_singleton.1 h]; exact (((OwnK.base ho4 (by have := q9.le; simpa using this)).kept hsA).other hg6 hb4 (by decide)).other gO bOr (by decide)⟩
        have bF : Boxed (w6.setCell ⟨w1.heap.size, 0, none⟩ (.slice (some ⟨g, 0, none⟩) (hs.length + 1) cp)) w1.heap.size 24 (.slice (some ⟨g, 0, none⟩) (hs.length + 1) cp) := Boxed.set _ bO6
        have kb : ∀ {b : Nat} {t : TypeId} {u : Value}, Boxed W b t u → t ≠ 49 → b ≠ w1.heap.size → Boxed (w6.setCell ⟨w1.heap.size, 0, none⟩ (.slice (some ⟨g, 0, none⟩) (hs.length + 1) cp)) b t u := fun {b t u} hbx ht hne =>
          Boxed.kept (Boxed.kept (Boxed.more hbx hA) hg6 (fun e => by obtain ⟨cu, fr, hcu⟩ := hb4 _ e.symm; exact Boxed.ne (Boxed.more hbx hA) hcu ht rfl)) gO (fun e => hne (Option.some.inj e))
        have b1 := kb q3'.out (by decide) (by omega)
        have b2 := kb q67.out.1 (by decide) (by omega)
        have b3 := kb q67.out.2 (by decide) (by omega)
        have mF : (hs ++ [(⟨a4, n4, c4, y.cnt, y.x⟩ : HCo)]).map kp = ((pre ++ [y]).filter (regB k)).map kp := by
          rw [List.map_append, List.filter_append, List.filter_cons_of_pos hb.out, List.filter_nil, List.map_append, q4.out]; rfl
        have xF : Ext w (w6.setCell ⟨w1.heap.size, 0, none⟩ (.slice (some ⟨g, 0, none⟩) (hs.length + 1) cp)) := hx6.grown gO fun k e => by cases e; exact hlw
        have kF : KeepsFrom w3.heap.size W (w6.setCell ⟨w1.heap.size, 0, none⟩ (.slice (some ⟨g, 0, none⟩) (hs.length + 1) cp)) := ((keepF hS4).trans ((KeepsOthers.alloc _ _).from _)).trans (((KeepsOthers.of_grownBy hg6 (fun j o e ho => by obtain ⟨cu, fr, hcu⟩ := hb4 _ e; have := hcu.symm.trans ho; cases this; rfl)).trans (KeepsOthers.setCell _ _ _)).from _)
        have fin := Lib.hid (And.intro kF (⟨_, _, oF, bF, b1, ⟨b2, b3⟩, Lib.hid mF, Lib.hid (by rw [List.length_append, List.length_append]; have := q5.out; simp; omega), xF⟩ : RegI w.heap.size w1.heap.size w.heap.size (.slice a n cap) k w (pre ++ [y]) (w6.setCell ⟨w1.heap.size, 0, none⟩ (.slice (some ⟨g, 0, none⟩) (hs.length + 1) cp))))
        clear gO bOr oF bF kb b1 b2 b3 mF xF kF
        refine wpF_last (k := 9) rfl (by kernel_rfl) (by kernel_rfl) (by kernel_rfl) rfl fun K9 hK9 => ?_
        go_simp
        refine hK9 _ _ ?_
        exact ⟨fin.out.1, fun r h => h.elim, fin.out.2⟩
    case done =>
      rintro D W hD ⟨v, hs, q1, q2, q3, ⟨q6, q7⟩, q4, q5, q9⟩ hK
      have cO := q2.cell
      obtain ⟨ao, no, co, hno, rfl, hro⟩ := OwnK.rdn HCo.len q1.own
      clear hro hno q3 q6 q7
      gi_wp2
      refine ⟨by simp, .inl ⟨_, _, rfl, run_takeDeferred hK, ?_⟩⟩
      refine ⟨_, results_tmp2 rfl _ _ _, ?_⟩
      exact .inr ⟨h0.out, _, hs, rfl, (q1.beside (grownBy_putObj' _ _ _) (fun r e => by cases e; exact ⟨_, hK, rfl⟩)).to, q4.out, q9.grown (grownBy_putObj' _ _ _) fun k e => by cases e; have := hz3.out; omega⟩
    case stop =>
      rintro D c pre W _ h _
      exact h.elim
  · generalize hE : chkE [l] = er at *
    have hd : (er != 0) = true := by simpa using h0
    replace h0 := Lib.hid h0
    clear hE
    gi_wp2
    refine ⟨trivial, ?_⟩
    gi_at_call 48
    refine (callsIn_wide.2 hck).mono ?_
    rintro e w1 ⟨rfl, hx1⟩
    gi_wp2
    exact ⟨_, results_tmp2 rfl _ _ _, .inl ⟨h0.out, rfl, Ext.trans (by repeat (first | exact Ext.refl _ | assumption | refine Ext.drew ?_ | refine Ext.drewN ?_ _ | refine Ext.alloc ?_ _ | refine Ext.trans ?_ (by assumption))) hx1⟩⟩
end Go.Proofs.Ytkdancoffmhjhaa
