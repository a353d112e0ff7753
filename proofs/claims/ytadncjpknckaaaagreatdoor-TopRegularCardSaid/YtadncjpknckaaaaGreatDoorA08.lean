/-
  pats.Check at patterns in order.
-/
import Derived.Test.YtadncjpknckaaaaGreatDoorA07
namespace Go.Proofs.YtadncjpknckaaaaGreatDoor
open Go.RowKit Go.Shelf
mutual
def HP.cnt : HP → Nat
  | .mk _ _ _ _ _ _ _ _ l => 1 + HP.cntL l
def HP.cntL : List HP → Nat
  | [] => 0
  | x :: l => HP.cnt x + HP.cntL l
end
mutual
def HP.allB : HP → Bool
  | .mk kd is ng mn mx a n cap l => HP.okB (.mk kd is ng mn mx a n cap l) && HP.allBL l
def HP.allBL : List HP → Bool
  | [] => true
  | x :: l => HP.allB x && HP.allBL l
end
theorem HP.cntL_app : ∀ (l m : List HP), HP.cntL (l ++ m) = HP.cntL l + HP.cntL m
  | [], m => by simp [HP.cntL]
  | x :: l, m => by simp only [List.cons_append, HP.cntL]; rw [HP.cntL_app l m]; omega
theorem HP.cntL_rev : ∀ (l : List HP), HP.cntL l.reverse = HP.cntL l
  | [] => rfl
  | x :: l => by rw [List.reverse_cons, HP.cntL_app, HP.cntL_rev l]; simp only [HP.cntL]; omega
theorem HP.cnt_pos (h : HP) : h.cnt = 1 + HP.cntL h.l := by cases h; simp only [HP.cnt]; rfl
theorem HP.cntL_len : ∀ (l : List HP), l.length ≤ HP.cntL l
  | [] => Nat.zero_le _
  | x :: l => by have := HP.cntL_len l; simp only [HP.cntL, List.length_cons]; rw [HP.cnt_pos]; omega
theorem HP.allBL_mem {x : HP} : ∀ {l : List HP}, HP.allBL l = true → x ∈ l → HP.allB x = true
  | y :: l, h, hx => by
    simp only [HP.allBL, Bool.and_eq_true] at h
    rcases List.mem_cons.1 hx with rfl | hx
    · exact h.1
    · exact HP.allBL_mem h.2 hx
theorem HP.allB_at {h : HP} (hn : h.allB = true) : h.okB = true ∧ ∀ x ∈ h.l, x.allB = true := by
  cases h
  simp only [HP.allB, Bool.and_eq_true] at hn
  exact ⟨hn.1, fun x hx => HP.allBL_mem hn.2 hx⟩
theorem OwnK.beside {α : Type} {k : Nat} {enc : α → List Value} {B : Nat} {e : TypeId} {w w' : World} {v : Value} {xs : List α} {row : Option Nat} (h : OwnK k enc B e w v xs) (hg : w.grownBy w' row) (hr : ∀ r, row = some r → ∃ o : Obj, w.heap[r]? = some o ∧ o.isCells = false) : OwnK k enc B e w' v xs := by
  obtain ⟨h1, h2⟩ := h
  refine ⟨h1, ?_⟩
  rcases h2 with h2 | ⟨g', cap', cur, hv, hB, hh, r⟩
  · exact .inl h2
  · refine .inr ⟨g', cap', cur, hv, hB, (hg.block g' (Array.getElem?_eq_some_iff.1 hh).1 fun e1 => ?_).trans hh, r⟩
    obtain ⟨o, ho, hc⟩ := hr g' e1.symm
    rw [hh] at ho; cases ho; cases hc
theorem Boxed.more {w w' : World} {B : Nat} {t : TypeId} {v : Value} (h : Boxed w B t v) (hx : Ext w w') : Boxed w' B t v := (Below.block hx.bel B h.lt).trans h
theorem Boxed.beside {w w' : World} {B : Nat} {t : TypeId} {v : Value} {row : Option Nat} (h : Boxed w B t v) (hg : w.grownBy w' row) (hr : ∀ r, row = some r → ∃ o : Obj, w.heap[r]? = some o ∧ o.isCells = false) : Boxed w' B t v :=
  h.kept hg fun e => by
    obtain ⟨o, ho, hc⟩ := hr B e.symm
    rw [show w.heap[B]? = _ from h] at ho; cases ho; cases hc
theorem nodefer {l : List Oper} (h : (l.all fun o => match o.op with | .defer _ => false | _ => true) = true) : ∀ (i : Nat) (o : Oper), l.toArray[i]? = some o → ∀ c, o.op ≠ .defer c := fun i o ho c hc => by
  have hmem : o ∈ l := List.mem_of_getElem? (by simpa using ho)
  have := List.all_eq_true.1 h o hmem
  rw [hc] at this; cases this
/-- A pattern is stored, cell by cell. -/
def setHP (w : World) (T i : Nat) (y : HP) : World :=
  ((((((w.setCell ⟨T, i, none⟩ (.int .i64 y.kind)).setCell ⟨T, i + 1, none⟩ (.int .u32 y.is.p.toNat)).setCell ⟨T, i + 2, none⟩ (.int .u32 y.is.m.toNat)).setCell ⟨T, i + 3, none⟩ (.bool y.neg)).setCell ⟨T, i + 4, none⟩ (.int .i64 y.mn)).setCell ⟨T, i + 5, none⟩ (.int .i64 y.mx)).setCell ⟨T, i + 6, none⟩ (.slice y.a y.n y.cap)
theorem own_setHP {B e T n cap : Nat} {w : World} {xs : List HP} (h : OwnK 7 HP.enc B e w (.slice (some ⟨T, 0, none⟩) n cap) xs) {i : Nat} {x : HP} (hi : xs[i]? = some x) (y : HP) :
    OwnK 7 HP.enc B e (setHP w T (i * 7) y) (.slice (some ⟨T, 0, none⟩) n cap) (xs.set i y) := by
  have hlt := (List.getElem?_eq_some_iff.1 hi).1
  have g : ∀ z : HP, (xs.set i z)[i]? = some z := fun z => by rw [List.getElem?_set_self hlt]
  obtain ⟨k, s, b, m1, m2, a, c, d, l⟩ := x
  have h0 := own_store HP.len h (i := i) (j := 0) (x := (.mk k s b m1 m2 a c d l)) (y := (.mk y.kind s b m1 m2 a c d l)) (u := .int .i64 y.kind) hi (by decide) rfl
  have h1 := own_store HP.len h0 (i := i) (j := 1) (x := (.mk y.kind s b m1 m2 a c d l)) (y := (.mk y.kind ⟨y.is.p, s.m⟩ b m1 m2 a c d l)) (u := .int .u32 y.is.p.toNat) (by first | exact g _ | (simp only [List.set_set]; exact g _)) (by decide) rfl
  have h2 := own_store HP.len h1 (i := i) (j := 2) (x := (.mk y.kind ⟨y.is.p, s.m⟩ b m1 m2 a c d l)) (y := (.mk y.kind y.is b m1 m2 a c d l)) (u := .int .u32 y.is.m.toNat) (by first | exact g _ | (simp only [List.set_set]; exact g _)) (by decide) rfl
  have h3 := own_store HP.len h2 (i := i) (j := 3) (x := (.mk y.kind y.is b m1 m2 a c d l)) (y := (.mk y.kind y.is y.neg m1 m2 a c d l)) (u := .bool y.neg) (by first | exact g _ | (simp only [List.set_set]; exact g _)) (by decide) rfl
  have h4 := own_store HP.len h3 (i := i) (j := 4) (x := (.mk y.kind y.is y.neg m1 m2 a c d l)) (y := (.mk y.kind y.is y.neg y.mn m2 a c d l)) (u := .int .i64 y.mn) (by first | exact g _ | (simp only [List.set_set]; exact g _)) (by decide) rfl
  have h5 := own_store HP.len h4 (i := i) (j := 5) (x := (.mk y.kind y.is y.neg y.mn m2 a c d l)) (y := (.mk y.kind y.is y.neg y.mn y.mx a c d l)) (u := .int .i64 y.mx) (by first | exact g _ | (simp only [List.set_set]; exact g _)) (by decide) rfl
  have h6 := own_store HP.len h5 (i := i) (j := 6) (x := (.mk y.kind y.is y.neg y.mn y.mx a c d l)) (y := y) (u := .slice y.a y.n y.cap) (by first | exact g _ | (simp only [List.set_set]; exact g _)) (by decide) rfl
  simp only [List.set_set, Nat.add_zero] at h6
  exact h6
theorem setHP_grown (w : World) (T i : Nat) (y : HP) : w.grownBy (setHP w T i y) (some T) :=
  gb_trans (gb_trans (gb_trans (gb_trans (gb_trans (gb_trans (grownBy_set _ T _ _) (grownBy_set _ T _ _)) (grownBy_set _ T _ _)) (grownBy_set _ T _ _)) (grownBy_set _ T _ _)) (grownBy_set _ T _ _)) (grownBy_set _ T _ _)
theorem keeps_cells {B : Nat} {w w' : World} {T : Nat} (hg : w.grownBy w' (some T)) (hT : ∃ cur e fr, w.heap[T]? = some (.cells cur e fr)) : KeepsFrom B w w' :=
  ⟨hg.size, fun k o _ hk ho => by
    refine (hg.block k (Array.getElem?_eq_some_iff.1 hk).1 fun e => ?_).trans hk
    obtain ⟨cur, e2, fr, hT⟩ := hT
    rw [Option.some.inj e, hT] at hk
    cases hk; cases ho⟩
/-- What stands while children are pushed. -/
def PushI (w : World) (O Bb : Nat) (x : HP) (Ds : List Nat) (td : List HP) (pre : List (Nat × HP)) (X : World) : Prop :=
  (∃ v, Boxed X O 53 v ∧ OwnK 7 HP.enc w.heap.size 55 X v (td ++ pre.map (·.2))) ∧ Boxed X Bb 53 (.slice x.a x.n x.cap) ∧ Ext w X ∧ ∀ D ∈ Ds, w.heap.size ≤ D ∧ X.heap[D]? = some (.deferred (some []))
theorem PushI.beside {w : World} {O Bb : Nat} {x : HP} {Ds : List Nat} {td : List HP} {pre : List (Nat × HP)} {X Y : World} {row : Option Nat} (h : PushI w O Bb x Ds td pre X) (hg : X.grownBy Y row) (hr : ∀ r, row = some r → w.heap.size ≤ r ∧ (∃ o : Obj, X.heap[r]? = some o ∧ o.isCells = false) ∧ r ∉ Ds) : PushI w O Bb x Ds td pre Y := by
  obtain ⟨⟨v, h1, h2⟩, h3, h4, h5⟩ := h
  refine ⟨⟨v, Boxed.beside h1 hg fun r e => (hr r e).2.1, OwnK.beside h2 hg fun r e => (hr r e).2.1⟩, Boxed.beside h3 hg fun r e => (hr r e).2.1, h4.grown hg fun r e => (hr r e).1, fun D hD => ⟨(h5 D hD).1, ?_⟩⟩
  exact (hg.block D (Array.getElem?_eq_some_iff.1 (h5 D hD).2).1 fun e => (hr D e.symm).2.2 hD).trans (h5 D hD).2
theorem PushI.more {w : World} {O Bb : Nat} {x : HP} {Ds : List Nat} {td : List HP} {pre : List (Nat × HP)} {X Y : World} (h : PushI w O Bb x Ds td pre X) (hx : Ext X Y) : PushI w O Bb x Ds td pre Y :=
  h.beside (gb_ext hx none) fun r e => by cases e
/-- What stands behind the append. -/
theorem push_facts {w : World} {O Bb : Nat} {x : HP} {Ds : List Nat} {td : List HP} {pre : List (Nat × HP)} {X : World} (hS : PushI w O Bb x Ds td pre X) {a3 : Option Addr} {n3 c3 : Nat} (hv3 : X.cell? ⟨O, 0, none⟩ = some (.slice a3 n3 c3))
    {XL : World} (hXL : Ext X XL) {v6 : Value} {w6 : World} (o6 : OwnK 7 HP.enc w.heap.size 55 w6 v6 ((td ++ pre.map (·.2)) ++ [zP])) (g6 : XL.grownBy w6 (Value.slice a3 n3 c3).ownBlock) (hn3 : n3 = (td ++ pre.map (·.2)).length) :
    ∃ T6 c6, v6 = .slice (some ⟨T6, 0, none⟩) (n3 + 1) c6 ∧ w6.cell? ⟨T6, n3 * 7, none⟩ = some (.int .i64 0) ∧ w6.cell? ⟨T6, n3 * 7 + 1, none⟩ = some (.int .u32 0) ∧ w6.cell? ⟨T6, n3 * 7 + 2, none⟩ = some (.int .u32 0) ∧ w6.cell? ⟨T6, n3 * 7 + 3, none⟩ = some (.bool false) ∧ w6.cell? ⟨T6, n3 * 7 + 4, none⟩ = some (.int .i64 0) ∧ w6.cell? ⟨T6, n3 * 7 + 5, none⟩ = some (.int .i64 0) ∧ w6.cell? ⟨T6, n3 * 7 + 6, none⟩ = some (.slice none 0 0) ∧
      (∀ i, w6.frozen? ⟨T6, i, none⟩ = false) ∧ w6.cell? ⟨O, 0, none⟩ = some (.slice a3 n3 c3) ∧ w6.frozen? ⟨O, 0, none⟩ = false ∧ T6 ≠ O ∧ O ≠ T6 := by
  obtain ⟨⟨v, b3, o3⟩, s3, x3, mk3⟩ := hS
  obtain rfl : v = .slice a3 n3 c3 := by
    have := (Boxed.cell b3).symm.trans hv3
    simpa using this
  have oL := o3.kept hXL
  have b6 : Boxed w6 O 53 (.slice a3 n3 c3) := blk_otherT (Boxed.more b3 hXL) oL g6 (by decide)
  obtain ⟨a6, m6, c6, hm6, rfl, _⟩ := OwnK.rdn HP.len o6
  obtain ⟨T6, rfl⟩ := own_some o6 (by simp)
  obtain rfl : m6 = n3 + 1 := by rw [hm6, List.length_append, ← hn3]; rfl
  have hlast : ((td ++ pre.map (·.2)) ++ [zP])[n3]? = some zP := by subst hn3; simp
  have hTO : T6 ≠ O := fun e => by
    obtain ⟨cur, hc⟩ := own_type o6 (g := T6) rfl
    subst e
    have := b6.symm.trans hc; cases this
  have z0 := own_at HP.len o6 hlast (j := 0) rfl
  rw [Nat.add_zero] at z0
  exact ⟨T6, c6, rfl, z0, own_at HP.len o6 hlast (j := 1) rfl, own_at HP.len o6 hlast (j := 2) rfl, own_at HP.len o6 hlast (j := 3) rfl, own_at HP.len o6 hlast (j := 4) rfl, own_at HP.len o6 hlast (j := 5) rfl, own_at HP.len o6 hlast (j := 6) rfl, fun i => own_free o6 i, Boxed.cell b6, Boxed.frozen b6, hTO, fun e => hTO e.symm⟩
/-- A child has been pushed: in either order of the stores. -/
theorem push_end {w : World} {O Bb B : Nat} {x : HP} {Ds : List Nat} {td : List HP} {pre : List (Nat × HP)} {y : Nat × HP} {X w6 : World} {T6 M c6 : Nat} (hO : w.heap.size ≤ O) (hS : PushI w O Bb x Ds td pre X) {v3 : Value} (hv3 : X.cell? ⟨O, 0, none⟩ = some v3) (hOB : O ≠ Bb)
    (o6 : OwnK 7 HP.enc w.heap.size 55 w6 (.slice (some ⟨T6, 0, none⟩) (M + 1) c6) ((td ++ pre.map (·.2)) ++ [zP])) (hM : M = (td ++ pre.map (·.2)).length) {XL : World} (hXL : Ext X XL) (g6 : XL.grownBy w6 v3.ownBlock) (W' : World)
    (hW : W' = (setHP w6 T6 (M * 7) y.2).setCell ⟨O, 0, none⟩ (.slice (some ⟨T6, 0, none⟩) (M + 1) c6) ∨ W' = setHP (w6.setCell ⟨O, 0, none⟩ (.slice (some ⟨T6, 0, none⟩) (M + 1) c6)) T6 (M * 7) y.2) :
    KeepsFrom B X W' ∧ Same (fun _ => False) X W' ∧ PushI w O Bb x Ds td (pre ++ [y]) W' := by
  obtain ⟨⟨v, b3, o3⟩, s3, x3, mk3⟩ := hS
  obtain rfl : v = v3 := by
    have := (Boxed.cell b3).symm.trans hv3
    simpa using this
  have oL := o3.kept hXL
  have bL := Boxed.more b3 hXL
  have sL := Boxed.more s3 hXL
  have b6 : Boxed w6 O 53 v := blk_otherT bL oL g6 (by decide)
  have s6 : Boxed w6 Bb 53 (.slice x.a x.n x.cap) := blk_otherT sL oL g6 (by decide)
  have hlast : ((td ++ pre.map (·.2)) ++ [zP])[M]? = some zP := by subst hM; simp
  have hset : ((td ++ pre.map (·.2)) ++ [zP]).set M y.2 = td ++ (pre ++ [y]).map (·.2) := by
    subst hM
    rw [List.map_append, ← List.append_assoc]
    rw [List.set_append_right _ _ (Nat.le_refl _)]
    simp
  have x6 : Ext w w6 := (x3.trans hXL).grown g6 fun j hj => (own_lt oL hj).1
  have m6 : ∀ D ∈ Ds, w.heap.size ≤ D ∧ w6.heap[D]? = some (.deferred (some [])) := fun D hD => by
    have h1 := (Below.block hXL.bel D (Array.getElem?_eq_some_iff.1 (mk3 D hD).2).1).trans (mk3 D hD).2
    refine ⟨(mk3 D hD).1, (g6.block D (Array.getElem?_eq_some_iff.1 h1).1 fun e => ?_).trans h1⟩
    obtain ⟨cur, hc⟩ := own_type oL e.symm
    rw [h1] at hc; cases hc
  have k6 : KeepsFrom B X w6 := (⟨hXL.le, fun k _ _ hk _ => (Below.block hXL.bel k (Array.getElem?_eq_some_iff.1 hk).1).trans hk⟩ : KeepsFrom B X XL).trans
    ⟨g6.size, fun k o _ hk ho => (g6.block k (Array.getElem?_eq_some_iff.1 hk).1 fun e => by
      obtain ⟨cur, hc⟩ := own_type oL e.symm
      rw [hk] at hc; cases hc; cases ho).trans hk⟩
  obtain ⟨curT, hT⟩ := own_type o6 (g := T6) rfl
  have hTO : T6 ≠ O := fun e => by subst e; have := b6.symm.trans hT; cases this
  have hTB : T6 ≠ Bb := fun e => by subst e; have := s6.symm.trans hT; cases this
  have hTl := (own_ge o6).1
  rcases hW with rfl | rfl
  · have g7 := setHP_grown w6 T6 (M * 7) y.2
    have o7 := own_setHP o6 hlast y.2
    rw [hset] at o7
    have b7 : Boxed (setHP w6 T6 (M * 7) y.2) O 53 v := Boxed.kept b6 g7 (fun e => hTO (Option.some.inj e).symm)
    have s7 : Boxed (setHP w6 T6 (M * 7) y.2) Bb 53 (.slice x.a x.n x.cap) := Boxed.kept s6 g7 (fun e => hTB (Option.some.inj e).symm)
    have g8 := grownBy_set (setHP w6 T6 (M * 7) y.2) O 0 (.slice (some ⟨T6, 0, none⟩) (M + 1) c6)
    refine ⟨(k6.trans (keeps_cells g7 ⟨_, _, _, hT⟩)).trans (keeps_cells g8 ⟨_, _, _, b7⟩), fun _ h => h.elim, ⟨_, Boxed.set _ b7, own_offT o7 b7 (by decide)⟩, Boxed.kept s7 g8 (fun e => hOB (Option.some.inj e).symm), (x6.grown g7 fun j e => by cases e; exact hTl).grown g8 fun j e => by cases e; exact hO, fun D hD => ⟨(m6 D hD).1, ?_⟩⟩
    have h1 := (g7.block D (Array.getElem?_eq_some_iff.1 (m6 D hD).2).1 fun e => by have h2 := (m6 D hD).2; rw [Option.some.inj e, hT] at h2; cases h2).trans (m6 D hD).2
    exact (g8.block D (Array.getElem?_eq_some_iff.1 h1).1 fun e => by rw [Option.some.inj e] at h1; have := b7.symm.trans h1; cases this).trans h1
  · have g7 := grownBy_set w6 O 0 (.slice (some ⟨T6, 0, none⟩) (M + 1) c6)
    have b7 : Boxed (w6.setCell ⟨O, 0, none⟩ (.slice (some ⟨T6, 0, none⟩) (M + 1) c6)) O 53 (.slice (some ⟨T6, 0, none⟩) (M + 1) c6) := Boxed.set _ b6
    have s7 : Boxed (w6.setCell ⟨O, 0, none⟩ (.slice (some ⟨T6, 0, none⟩) (M + 1) c6)) Bb 53 (.slice x.a x.n x.cap) := Boxed.kept s6 g7 (fun e => hOB (Option.some.inj e).symm)
    have o7 := own_offT o6 b6 (i := 0) (u := .slice (some ⟨T6, 0, none⟩) (M + 1) c6) (by decide)
    obtain ⟨cur7, hT7⟩ := own_type o7 (g := T6) rfl
    have o8 := own_setHP o7 hlast y.2
    rw [hset] at o8
    have g8 := setHP_grown (w6.setCell ⟨O, 0, none⟩ (.slice (some ⟨T6, 0, none⟩) (M + 1) c6)) T6 (M * 7) y.2
    refine ⟨(k6.trans (keeps_cells g7 ⟨_, _, _, b6⟩)).trans (keeps_cells g8 ⟨_, _, _, hT7⟩), fun _ h => h.elim, ⟨_, Boxed.kept b7 g8 (fun e => hTO (Option.some.inj e).symm), o8⟩, Boxed.kept s7 g8 (fun e => hTB (Option.some.inj e).symm), (x6.grown g7 fun j e => by cases e; exact hO).grown g8 fun j e => by cases e; exact hTl, fun D hD => ⟨(m6 D hD).1, ?_⟩⟩
    have h1 := (g7.block D (Array.getElem?_eq_some_iff.1 (m6 D hD).2).1 fun e => by have h2 := (m6 D hD).2; rw [Option.some.inj e] at h2; have := b6.symm.trans h2; cases this).trans (m6 D hD).2
    exact (g8.block D (Array.getElem?_eq_some_iff.1 h1).1 fun e => by rw [Option.some.inj e, hT7] at h1; cases h1).trans h1
/-- What the body of the loop is told of its frame. -/
def PushA (wB : Nat) (tm : Array Value) (y : Nat × HP) (a' : Act) (W : World) : Prop :=
  ∃ Bx, wB ≤ Bx ∧ W.heap[Bx]? = some (.cells #[.int .i64 y.2.kind, .int .u32 y.2.is.p.toNat, .int .u32 y.2.is.m.toNat, .bool y.2.neg, .int .i64 y.2.mn, .int .i64 y.2.mx, .slice y.2.a y.2.n y.2.cap] 55) ∧ a' = { tmps := ((tm.setIfInBounds 44 (.int .i64 (y.1 : Int))).setIfInBounds 45 (patV y.2)).setIfInBounds 9 (.pointer (some ⟨Bx, 0, none⟩)), defers := [] }
theorem info_pat : (Tryz.prog.info? 55).map (fun i => (i.zero, i.size, i.bytes)) = some (some (.agg #[.int .i64 0, .int .u32 0, .int .u32 0, .bool false, .int .i64 0, .int .i64 0, .slice none 0 0]), 7, 64) := by kernel_rfl
/-- What stands while a pattern is checked. -/
structure ChkI (w : World) (O k : Nat) (Ds : List Nat) (td : List HP) (W : World) : Prop where
  box : ∃ v, Boxed W O 53 v ∧ OwnK 7 HP.enc w.heap.size 55 W v td
  ext : Ext w W
  low : w.heap.size ≤ O
  cnt : k + HP.cntL td ≤ 40
  ok : ∀ x ∈ td, RdPt w x ∧ x.allB = true
  nod : Ds.Nodup
  marks : ∀ D ∈ Ds, w.heap.size ≤ D ∧ W.heap[D]? = some (.deferred (some []))
def ChkF (a0 a1 a3 a10 a11 : Value) (k : Nat) (Ds : List Nat) (a : Act) : Prop := ∃ u5 u6 u7 u12 u13 u14 u15 u16 u17 u18 u19 u20 u21 u22 u23 u24 u25 u26 u27 u28 u29 u30 u31 u32 u33 u34 u35 u36 u37 u38 u39 u40 u41 u42 u43 : Value, a = { tmps := #[a0, a1, .int .i64 0, a3, .int .i64 (k : Int), u5, u6, u7, undef, undef, a10, a11, u12, u13, u14, u15, u16, u17, u18, u19, u20, u21, u22, u23, u24, u25, u26, u27, u28, u29, u30, u31, u32, u33, u34, u35, u36, u37, u38, u39, u40, u41, u42, u43, undef, undef, undef, undef, undef, undef, undef, undef], defers := Ds.map markD }
def ChkJ (w : World) (O : Nat) (a0 a1 a3 a10 a11 : Value) (a : Act) (W : World) : Prop := ∃ k Ds td, ChkF a0 a1 a3 a10 a11 k Ds a ∧ ChkI w O k Ds td W
def ChkMu (a : Act) : Nat := (41 - intOf (a.tmps.getD 4 undef)).toNat
attribute [local go_sem] Oper.semAt_some
set_option maxHeartbeats 40000000 in
set_option maxRecDepth 20000 in
theorem check_any (h : HP) (hok : h.allB = true) (hsz : h.cnt ≤ 40) (w : World) (hr : RdPt w h) :
    Calls Tryz.prog 56 #[patV h] w fun e w' => e = .returned (.int .i64 0) ∧ Ext w w' := by
  have h1 : 1 ≤ 9 := by omega
  have hrl := hr.rd.len
  refine (callsIn_wide (n := 9)).1 ?_
  refine callsIn_of_wp_marks Tryz.func56 rfl trivial ?_ rfl
  simp only [Tryz.ntmps56, List.size_toArray, List.length_cons, List.length_nil, Nat.reduceAdd, Nat.reduceSub, Array.replicate_succ, Array.replicate_zero, List.push_toArray, List.append_toArray, List.nil_append, List.cons_append]
  gi_wp2
  have hlit := lit_own HP.len (w.alloc (.cells #[.int .i64 h.kind, .int .u32 h.is.p.toNat, .int .u32 h.is.m.toNat, .bool h.neg, .int .i64 h.mn, .int .i64 h.mx, .slice h.a h.n h.cap] 55)) 55 [h] #[.int .i64 h.kind, .int .u32 h.is.p.toNat, .int .u32 h.is.m.toNat, .bool h.neg, .int .i64 h.mn, .int .i64 h.mx, .slice h.a h.n h.cap] rfl (n := 1) rfl (by decide)
  rw [World.size_alloc] at hlit
  have hbx := Boxed.new ((w.alloc (.cells #[.int .i64 h.kind, .int .u32 h.is.p.toNat, .int .u32 h.is.m.toNat, .bool h.neg, .int .i64 h.mn, .int .i64 h.mx, .slice h.a h.n h.cap] 55)).alloc (.cells #[.int .i64 h.kind, .int .u32 h.is.p.toNat, .int .u32 h.is.m.toNat, .bool h.neg, .int .i64 h.mn, .int .i64 h.mx, .slice h.a h.n h.cap] 55)) 53 (.slice (some ⟨w.heap.size + 1, 0, none⟩) 1 1)
  have hxA : Ext w (((w.alloc (.cells #[.int .i64 h.kind, .int .u32 h.is.p.toNat, .int .u32 h.is.m.toNat, .bool h.neg, .int .i64 h.mn, .int .i64 h.mx, .slice h.a h.n h.cap] 55)).alloc (.cells #[.int .i64 h.kind, .int .u32 h.is.p.toNat, .int .u32 h.is.m.toNat, .bool h.neg, .int .i64 h.mn, .int .i64 h.mx, .slice h.a h.n h.cap] 55)).alloc (.cells #[.slice (some ⟨w.heap.size + 1, 0, none⟩) 1 1] 53)) := (by repeat (first | exact Ext.refl _ | assumption | refine Ext.drew ?_ | refine Ext.drewN ?_ _ | refine Ext.alloc ?_ _ | refine Ext.trans ?_ (by assumption)))
  have hI0 : ChkI w (w.heap.size + 1 + 1) 0 [] [h] (((w.alloc (.cells #[.int .i64 h.kind, .int .u32 h.is.p.toNat, .int .u32 h.is.m.toNat, .bool h.neg, .int .i64 h.mn, .int .i64 h.mx, .slice h.a h.n h.cap] 55)).alloc (.cells #[.int .i64 h.kind, .int .u32 h.is.p.toNat, .int .u32 h.is.m.toNat, .bool h.neg, .int .i64 h.mn, .int .i64 h.mx, .slice h.a h.n h.cap] 55)).alloc (.cells #[.slice (some ⟨w.heap.size + 1, 0, none⟩) 1 1] 53)) :=
    ⟨⟨_, by simpa using hbx, (hlit.base (by omega)).kept (Ext.alloc1 _ _)⟩, hxA, by omega, by simp only [HP.cntL]; omega, fun x hx => by rw [List.mem_singleton.1 hx]; exact ⟨hr, hok⟩, List.nodup_nil, fun D hD => by cases hD⟩
  clear hlit hbx hxA
  obtain ⟨O, hO⟩ : ∃ O, O = w.heap.size + 1 + 1 := ⟨_, rfl⟩
  rw [← hO] at hI0 ⊢
  replace hO := Lib.hid hO
  obtain ⟨a0, ha0⟩ : ∃ a0, a0 = patV h := ⟨_, rfl⟩
  rw [← ha0]
  replace ha0 := Lib.hid ha0
  refine wpIn_loop (ChkJ w O a0 (.pointer (some ⟨w.heap.size, 0, none⟩)) (.pointer (some ⟨O, 0, none⟩)) (.agg #[.int .i64 h.kind, .int .u32 h.is.p.toNat, .int .u32 h.is.m.toNat, .bool h.neg, .int .i64 h.mn, .int .i64 h.mx, .slice h.a h.n h.cap]) (.slice (some ⟨w.heap.size + 1, 0, none⟩) 1 1)) (fun a _ => ChkMu a) ⟨0, [], [h], ⟨undef, undef, undef, undef, undef, undef, undef, undef, undef, undef, undef, undef, undef, undef, undef, undef, undef, undef, undef, undef, undef, undef, undef, undef, undef, undef, undef, undef, undef, undef, undef, undef, undef, undef, undef, rfl⟩, hI0⟩ ?_
  clear hI0
  generalize (Value.agg #[.int .i64 h.kind, .int .u32 h.is.p.toNat, .int .u32 h.is.m.toNat, .bool h.neg, .int .i64 h.mn, .int .i64 h.mx, .slice h.a h.n h.cap]) = a10
  generalize (Value.slice (some ⟨w.heap.size + 1, 0, none⟩) 1 1) = a11
  generalize (Value.pointer (some ⟨w.heap.size, 0, none⟩)) = a1
  rintro a W ⟨k, Ds, td, ⟨u5, u6, u7, u12, u13, u14, u15, u16, u17, u18, u19, u20, u21, u22, u23, u24, u25, u26, u27, u28, u29, u30, u31, u32, u33, u34, u35, u36, u37, u38, u39, u40, u41, u42, u43, rfl⟩, hI⟩
  obtain ⟨⟨v, hbx, hown⟩, hx, hlow, hcnt, htd, hnod, hmk⟩ := id hI
  obtain ⟨ta, tn, tc, htn, rfl, _⟩ := OwnK.rdn HP.len hown
  have hbc := hbx.cell
  rcases List.eq_nil_or_concat td with rfl | ⟨td', x, rfl⟩
  · simp at htn
    subst htn
    gi_wp2
    refine leaves_marks Ds W hnod hmk hx fun w' hx' => ?_
    refine ⟨_, results_tmp rfl _ _ _, ?_⟩
    exact ⟨rfl, hx'⟩
  · simp only [List.concat_eq_append] at hown htn hcnt htd hI
    obtain ⟨L, hL⟩ : ∃ L, L = td'.length := ⟨_, rfl⟩
    rw [List.length_append, List.length_singleton, ← hL] at htn
    subst htn
    obtain ⟨T, rfl⟩ := own_some hown (by simp)
    have hat : (td' ++ [x])[L]? = some x := by simp [hL]
    have c0 := own_at HP.len hown hat (j := 0) rfl
    rw [Nat.add_zero] at c0
    have c1 := own_at HP.len hown hat (j := 1) rfl
    have c2 := own_at HP.len hown hat (j := 2) rfl
    have c3 := own_at HP.len hown hat (j := 3) rfl
    have c4 := own_at HP.len hown hat (j := 4) rfl
    have c5 := own_at HP.len hown hat (j := 5) rfl
    have c6 := own_at HP.len hown hat (j := 6) rfl
    obtain ⟨hrx, hxok⟩ := htd x (by simp)
    rw [HP.cntL_app] at hcnt
    simp only [HP.cntL] at hcnt
    rw [HP.cnt_pos] at hcnt
    have hcl := HP.cntL_len td'
    have hcl2 := HP.cntL_len x.l
    have hxn := hrx.rd.len
    have hk40 : k ≤ 39 := by omega
    have dk : ((k : Int) == 40) = false := by simp; omega
    have hL40 : L ≤ 39 := by omega
    have hn40 : x.n ≤ 39 := by omega
    have hwL : wrap64 (L : Int) = (L : Int) := by unfold wrap64; omega
    have hLc := (own_ge hown).2.2.2.1
    have hTl := (own_ge hown).2.1
    have hOl := hbx.lt
    have hfO := hbx.frozen
    have hTO : T ≠ O := fun e => by
      obtain ⟨cur, h1⟩ := own_type hown (g := T) rfl
      rw [e] at h1
      have := hbx.symm.trans h1; cases this
    have hOT : O ≠ T := fun e => hTO e.symm
    replace hat := Lib.hid hat
    replace hL := Lib.hid hL
    replace hxn := Lib.hid hxn
    replace hcnt := Lib.hid hcnt
    replace hcl := Lib.hid hcl
    replace hcl2 := Lib.hid hcl2
    have hI2 : ChkI w O (k + 1 + HP.cntL x.l) Ds td' ((W.setCell ⟨O, 0, none⟩ (.slice (some ⟨T, 0, none⟩) L tc)).alloc (.cells #[.int .i64 x.kind, .int .u32 x.is.p.toNat, .int .u32 x.is.m.toNat, .bool x.neg, .int .i64 x.mn, .int .i64 x.mx, .slice x.a x.n x.cap] 55)) := by
      have ht2 := own_take HP.len hown (m := L) (by omega)
      rw [hL.out, List.take_left' rfl, ← hL.out] at ht2
      refine ⟨⟨_, (Boxed.set _ hbx).alloc _, (own_offT ht2 hbx (by decide)).kept (Ext.alloc1 _ _)⟩, (ext_set hx hlow _ _).alloc _, hlow, ?_, fun y hy => htd y (by simp [hy]), hnod, fun D hD => ⟨(hmk D hD).1, ?_⟩⟩
      · have := hcnt.out; omega
      · have hDO : D ≠ O := fun e => by
          have := (hmk D hD).2; rw [e] at this
          have h2 := hbx.symm.trans this; cases h2
        refine (Below.heap_alloc _ _ _ ?_).trans ?_
        · have := (Array.getElem?_eq_some_iff.1 (hmk D hD).2).1; simpa using this
        · rw [heap_setCell_other W ⟨O, 0, none⟩ D _ hDO]; exact (hmk D hD).2
    have hbk : ((W.setCell ⟨O, 0, none⟩ (.slice (some ⟨T, 0, none⟩) L tc)).alloc (.cells #[.int .i64 x.kind, .int .u32 x.is.p.toNat, .int .u32 x.is.m.toNat, .bool x.neg, .int .i64 x.mn, .int .i64 x.mx, .slice x.a x.n x.cap] 55)).cell? ⟨W.heap.size, 6, none⟩ = some (.slice x.a x.n x.cap) := by go_simp
    replace hmk := Lib.hid hmk
    replace htd := Lib.hid htd
    replace hnod := Lib.hid hnod
    gi_wp2
    refine ⟨trivial, ?_⟩
    gi_at_call 72
    refine (callsIn_wide.2 (allowed_any x (HP.allB_at hxok).1 _ hxn.out)).mono ?_
    rintro e w1 ⟨rfl, hx1⟩
    have hOw1 : O < w1.heap.size := by have := hx1.le; simp at this; omega
    generalize (W.setCell ⟨O, 0, none⟩ (.slice (some ⟨T, 0, none⟩) L tc)).alloc (.cells #[.int .i64 x.kind, .int .u32 x.is.p.toNat, .int .u32 x.is.m.toNat, .bool x.neg, .int .i64 x.mn, .int .i64 x.mx, .slice x.a x.n x.cap] 55) = W2 at *
    replace hbk := hx1.cellv hbk
    have hxc := hrx.rd.le
    gi_wp2
    refine ⟨trivial, ?_⟩
    gi_at_call 73
    refine (backward_in _ x.a x.n x.cap w1).mono ?_
    rintro e w2 ⟨rfl, rfl⟩
    obtain ⟨⟨v2, b2, o2⟩, x2, _, cnt2, ok2, nod2, mk2⟩ := hI2
    have hxB := hx1.trans (Ext.alloc1 w1 (.cells #[.slice x.a x.n x.cap] 53))
    have hP0 : PushI w O w1.heap.size x Ds td' [] (w1.alloc (.cells #[.slice x.a x.n x.cap] 53)) :=
      ⟨⟨v2, Boxed.more b2 hxB, by rw [List.map_nil, List.append_nil]; exact o2.kept hxB⟩, Boxed.new _ _ _, x2.trans hxB, fun D hD => ⟨(mk2 D hD).1, (Below.block hxB.bel D (Array.getElem?_eq_some_iff.1 (mk2 D hD).2).1).trans (mk2 D hD).2⟩⟩
    have hDB : ∀ D ∈ Ds, D < (w1.alloc (.cells #[.slice x.a x.n x.cap] 53)).heap.size := fun D hD => (Array.getElem?_eq_some_iff.1 (hP0.2.2.2 D hD).2).1
    have hwB := hP0.2.2.1.le
    have hBb : w1.heap.size < (w1.alloc (.cells #[.slice x.a x.n x.cap] 53)).heap.size := by simp
    have hwBs : (w1.alloc (.cells #[.slice x.a x.n x.cap] 53)).heap.size = w1.heap.size + 1 := by simp
    gi_wp2
    obtain ⟨Bb, hBbe⟩ : ∃ Bb, Bb = w1.heap.size := ⟨_, rfl⟩
    rw [← hBbe] at hP0 hBb hwBs hOw1 ⊢
    have hOB : O ≠ Bb := by omega
    generalize w1.alloc (.cells #[.slice x.a x.n x.cap] 53) = wB at *
    clear mk2 b2 o2 hxB hx1 hbk hbc hfO hown hbx hI hx
    replace hDB := Lib.hid hDB
    replace hBbe := Lib.hid hBbe
    replace hP0 := Lib.hid hP0
    replace cnt2 := Lib.hid cnt2
    replace ok2 := Lib.hid ok2
    replace nod2 := Lib.hid nod2
    refine wpIn_range_ownA rfl h1 (gf := 93) (lb := #[.pointer (some ⟨Bb, 0, none⟩)]) rfl trivial (enters_of Tryz.func93 (by kernel_rfl) rfl) (encs := encP) (fun _ => rfl) (fun _ => False) (fun r hr => hr.elim) (backP x.l)
      (PushI w O Bb x Ds td') (fun s X Y row hs hg hr => hs.beside hg fun r e => by
        rcases hr r e with h | ⟨h2, h3⟩
        · exact h.elim
        · exact ⟨by omega, h3, fun hD => by have := hDB.out r hD; omega⟩)
      hP0.out (fun _ _ _ => False) (fun _ _ _ _ _ hs _ _ => hs)
      (fun lp J Jx W hB hJ0 hJ hJx hI hY => backward1_in (9 - 1) lp Bb (by decide) w x hrx J Jx (fun s X hs => by obtain ⟨_, h3, h4, _⟩ := hI s X hs; exact ⟨Boxed.cell h3, h4⟩)
        (fun pre y X hp hpre => (hY pre y X hp hpre).mono (fun e Y h => h.elim (fun h => .inl ⟨h.1, h.2.1⟩) (fun h => .inr h))) W hJ0)
      (PushA wB.heap.size)
      (fun y a' s X Y row hs hg hr => by
        obtain ⟨Bx, h1, h2, h3⟩ := hs
        refine ⟨Bx, h1, (hg.block Bx (Array.getElem?_eq_some_iff.1 h2).1 (fun e => ?_)).trans h2, h3⟩
        rcases hr Bx e.symm with h | ⟨_, o, ho, hc⟩
        · exact h
        · rw [h2] at ho; cases ho; cases hc)
      ?assign ?body ?done ?stop
    case assign =>
      rintro lp pre y X K hS hK
      have hle := hS.2.2.1.le
      have hle0 : wB.heap.size ≤ X.heap.size := by have := Boxed.lt hS.2.1; omega
      gi_wp2
      refine hK _ _ ((KeepsOthers.alloc _ _).from _) (fun r h => h.elim) (hS.more (Ext.alloc1 _ _)) ⟨X.heap.size, hle0, World.alloc_heap_new X _, ?_⟩
      simp only [List.setIfInBounds_toArray, List.set_cons_succ, List.set_cons_zero]
    case body =>
      rintro lp pre y a' X hS ⟨Bx, hBx, hbx, rfl⟩ hpre
      obtain ⟨⟨v3, b3, o3⟩, s3, x3, mk3⟩ := id hS
      obtain ⟨a3, n3, c3, hn3, rfl, _⟩ := OwnK.rdn HP.len o3
      replace hn3 := Lib.hid hn3
      have hn31 : (n3 : Int) < (n3 : Int) + 1 := by omega
      have e0 := Boxed.cell b3
      have f0 := Boxed.frozen b3
      have q0 : X.cell? ⟨Bx, 0, none⟩ = some (.int .i64 y.2.kind) := by simp [World.cell?, hbx]
      have q1 : X.cell? ⟨Bx, 1, none⟩ = some (.int .u32 y.2.is.p.toNat) := by simp [World.cell?, hbx]
      have q2 : X.cell? ⟨Bx, 2, none⟩ = some (.int .u32 y.2.is.m.toNat) := by simp [World.cell?, hbx]
      have q3 : X.cell? ⟨Bx, 3, none⟩ = some (.bool y.2.neg) := by simp [World.cell?, hbx]
      have q4 : X.cell? ⟨Bx, 4, none⟩ = some (.int .i64 y.2.mn) := by simp [World.cell?, hbx]
      have q5 : X.cell? ⟨Bx, 5, none⟩ = some (.int .i64 y.2.mx) := by simp [World.cell?, hbx]
      have q6 : X.cell? ⟨Bx, 6, none⟩ = some (.slice y.2.a y.2.n y.2.cap) := by simp [World.cell?, hbx]
      simp only [List.setIfInBounds_toArray, List.set_cons_succ, List.set_cons_zero]
      have oL := (o3.kept (Ext.refl X).drew).kept (Ext.alloc1 X.drew (.cells #[.int .i64 0, .int .u32 0, .int .u32 0, .bool false, .int .i64 0, .int .i64 0, .slice none 0 0] 55))
      have hlit := OwnK.rdc HP.len (lit_own HP.len X.drew 55 [zP] #[.int .i64 0, .int .u32 0, .int .u32 0, .bool false, .int .i64 0, .int .i64 0, .slice none 0 0] rfl (n := 1) rfl (by decide))
      have hXL := ((Ext.refl X).drew).alloc (.cells #[.int .i64 0, .int .u32 0, .int .u32 0, .bool false, .int .i64 0, .int .i64 0, .slice none 0 0] 55)
      have hprl := hpre.length_le
      rw [backP_len, List.length_append, List.length_singleton, hxn.out] at hprl
      have hML : (td' ++ pre.map (·.2)).length ≤ 80 := by rw [List.length_append, List.length_map, ← hL.out]; omega
      have hxl := x3.le
      have hOl2 := b3.lt
      have hBxl := (Array.getElem?_eq_some_iff.1 hbx).1
      replace hS := Lib.hid hS
      clear mk3 s3 hpre
      gi_wp2
      refine wpIn_region_any (by kernel_rfl) (any_bridge (nodefer (by kernel_rfl)) (by rintro ⟨_, _, h⟩; exact h) _ _ _ _ ?_)
      · change wpAny _ _ _ _ _ _ _ (World.drew _)
        refine wpAny_ready (rs := [0, 1, 3]) (by kernel_rfl) (by simp) ?_
        refine AllReady.cons rfl (fun K hK => ?_) ?_
        · go_simp
          refine hK _ _ ?_
          clear hK K
          refine wpAny_ready (rs := [1, 2, 3]) (by kernel_rfl) (by simp) ?_
          refine AllReady.cons rfl (fun K hK => ?_) ?_
          · go_simp
            refine hK _ _ ?_
            clear hK K
            refine wpAny_ready (rs := [2, 3]) (by kernel_rfl) (by simp) ?_
            refine AllReady.cons rfl (fun K hK => ?_) ?_
            · go_simp
              refine hK _ _ ?_
              clear hK K
              refine wpAny_ready (rs := [3]) (by kernel_rfl) (by simp) ?_
              refine AllReady.cons rfl (fun K hK => ?_) ?_
              · go_simp
                refine hK _ _ ?_
                clear hK K
                refine wpAny_ready (rs := [4]) (by kernel_rfl) (by simp) ?_
                refine AllReady.cons rfl (fun K hK => ?_) ?_
                · (refine step_app1 w.heap.size _ zP rfl _ _ 53 rfl 55 Tryz.underlying53 info_pat rfl (by decide) HP.len HP.one (.slice a3 n3 c3) (td' ++ pre.map (·.2)) rfl oL ⟨X.heap.size, 0, none⟩ rfl hlit (by omega) (by decide) (by simp; omega) ?_; intro v6 w6 o6 g6 n6; obtain ⟨T6, c6, rfl, z0, z1, z2, z3, z4, z5, z6, zf, p0, pf, hTO6, hOT6⟩ := push_facts hS.out e0 hXL o6 g6 hn3.out; go_simp)
                  refine hK _ _ ?_
                  clear hK K
                  refine wpAny_ready (rs := [5, 7]) (by kernel_rfl) (by simp) ?_
                  refine AllReady.cons rfl (fun K hK => ?_) ?_
                  · go_simp
                    refine hK _ _ ?_
                    clear hK K
                    refine wpAny_ready (rs := [6, 7]) (by kernel_rfl) (by simp) ?_
                    refine AllReady.cons rfl (fun K hK => ?_) ?_
                    · go_simp
                      refine hK _ _ ?_
                      clear hK K
                      refine wpAny_ready (rs := [7]) (by kernel_rfl) (by simp) ?_
                      refine AllReady.cons rfl (fun K hK => ?_) ?_
                      · go_simp
                        refine hK _ _ ?_
                        clear hK K
                        refine wpAny_done (by kernel_rfl) ?_ _
                        have hE := push_end (y := y) (B := wB.heap.size) hlow hS.out e0 hOB o6 hn3.out hXL g6 ((setHP w6 T6 (n3 * 7) y.2).setCell ⟨O, 0, none⟩ (.slice (some ⟨T6, 0, none⟩) (n3 + 1) c6)) (.inl rfl)
                        simp only [setHP] at hE
                        exact hE
                      exact AllReady.nil
                    refine AllReady.cons rfl (fun K hK => ?_) ?_
                    · go_simp
                      refine hK _ _ ?_
                      clear hK K
                      refine wpAny_ready (rs := [6]) (by kernel_rfl) (by simp) ?_
                      refine AllReady.cons rfl (fun K hK => ?_) ?_
                      · go_simp
                        refine hK _ _ ?_
                        clear hK K
                        refine wpAny_done (by kernel_rfl) ?_ _
                        have hE := push_end (y := y) (B := wB.heap.size) hlow hS.out e0 hOB o6 hn3.out hXL g6 (setHP (w6.setCell ⟨O, 0, none⟩ (.slice (some ⟨T6, 0, none⟩) (n3 + 1) c6)) T6 (n3 * 7) y.2) (.inr rfl)
                        simp only [setHP] at hE
                        exact hE
                      exact AllReady.nil
                    exact AllReady.nil
                  refine AllReady.cons rfl (fun K hK => ?_) ?_
                  · go_simp
                    refine hK _ _ ?_
                    clear hK K
                    refine wpAny_ready (rs := [5]) (by kernel_rfl) (by simp) ?_
                    refine AllReady.cons rfl (fun K hK => ?_) ?_
                    · go_simp
                      refine hK _ _ ?_
                      clear hK K
                      refine wpAny_ready (rs := [6]) (by kernel_rfl) (by simp) ?_
                      refine AllReady.cons rfl (fun K hK => ?_) ?_
                      · go_simp
                        refine hK _ _ ?_
                        clear hK K
                        refine wpAny_done (by kernel_rfl) ?_ _
                        have hE := push_end (y := y) (B := wB.heap.size) hlow hS.out e0 hOB o6 hn3.out hXL g6 (setHP (w6.setCell ⟨O, 0, none⟩ (.slice (some ⟨T6, 0, none⟩) (n3 + 1) c6)) T6 (n3 * 7) y.2) (.inr rfl)
                        simp only [setHP] at hE
                        exact hE
                      exact AllReady.nil
                    exact AllReady.nil
                  exact AllReady.nil
                exact AllReady.nil
              exact AllReady.nil
            refine AllReady.cons rfl (fun K hK => ?_) ?_
            · go_simp
              refine hK _ _ ?_
              clear hK K
              refine wpAny_ready (rs := [2]) (by kernel_rfl) (by simp) ?_
              refine AllReady.cons rfl (fun K hK => ?_) ?_
              · go_simp
                refine hK _ _ ?_
                clear hK K
                refine wpAny_ready (rs := [4]) (by kernel_rfl) (by simp) ?_
                refine AllReady.cons rfl (fun K hK => ?_) ?_
                · (refine step_app1 w.heap.size _ zP rfl _ _ 53 rfl 55 Tryz.underlying53 info_pat rfl (by decide) HP.len HP.one (.slice a3 n3 c3) (td' ++ pre.map (·.2)) rfl oL ⟨X.heap.size, 0, none⟩ rfl hlit (by omega) (by decide) (by simp; omega) ?_; intro v6 w6 o6 g6 n6; obtain ⟨T6, c6, rfl, z0, z1, z2, z3, z4, z5, z6, zf, p0, pf, hTO6, hOT6⟩ := push_facts hS.out e0 hXL o6 g6 hn3.out; go_simp)
                  refine hK _ _ ?_
                  clear hK K
                  refine wpAny_ready (rs := [5, 7]) (by kernel_rfl) (by simp) ?_
                  refine AllReady.cons rfl (fun K hK => ?_) ?_
                  · go_simp
                    refine hK _ _ ?_
                    clear hK K
                    refine wpAny_ready (rs := [6, 7]) (by kernel_rfl) (by simp) ?_
                    refine AllReady.cons rfl (fun K hK => ?_) ?_
                    · go_simp
                      refine hK _ _ ?_
                      clear hK K
                      refine wpAny_ready (rs := [7]) (by kernel_rfl) (by simp) ?_
                      refine AllReady.cons rfl (fun K hK => ?_) ?_
                      · go_simp
                        refine hK _ _ ?_
                        clear hK K
                        refine wpAny_done (by kernel_rfl) ?_ _
                        have hE := push_end (y := y) (B := wB.heap.size) hlow hS.out e0 hOB o6 hn3.out hXL g6 ((setHP w6 T6 (n3 * 7) y.2).setCell ⟨O, 0, none⟩ (.slice (some ⟨T6, 0, none⟩) (n3 + 1) c6)) (.inl rfl)
                        simp only [setHP] at hE
                        exact hE
                      exact AllReady.nil
                    refine AllReady.cons rfl (fun K hK => ?_) ?_
                    · go_simp
                      refine hK _ _ ?_
                      clear hK K
                      refine wpAny_ready (rs := [6]) (by kernel_rfl) (by simp) ?_
                      refine AllReady.cons rfl (fun K hK => ?_) ?_
                      · go_simp
                        refine hK _ _ ?_
                        clear hK K
                        refine wpAny_done (by kernel_rfl) ?_ _
                        have hE := push_end (y := y) (B := wB.heap.size) hlow hS.out e0 hOB o6 hn3.out hXL g6 (setHP (w6.setCell ⟨O, 0, none⟩ (.slice (some ⟨T6, 0, none⟩) (n3 + 1) c6)) T6 (n3 * 7) y.2) (.inr rfl)
                        simp only [setHP] at hE
                        exact hE
                      exact AllReady.nil
                    exact AllReady.nil
                  refine AllReady.cons rfl (fun K hK => ?_) ?_
                  · go_simp
                    refine hK _ _ ?_
                    clear hK K
                    refine wpAny_ready (rs := [5]) (by kernel_rfl) (by simp) ?_
                    refine AllReady.cons rfl (fun K hK => ?_) ?_
                    · go_simp
                      refine hK _ _ ?_
                      clear hK K
                      refine wpAny_ready (rs := [6]) (by kernel_rfl) (by simp) ?_
                      refine AllReady.cons rfl (fun K hK => ?_) ?_
                      · go_simp
                        refine hK _ _ ?_
                        clear hK K
                        refine wpAny_done (by kernel_rfl) ?_ _
                        have hE := push_end (y := y) (B := wB.heap.size) hlow hS.out e0 hOB o6 hn3.out hXL g6 (setHP (w6.setCell ⟨O, 0, none⟩ (.slice (some ⟨T6, 0, none⟩) (n3 + 1) c6)) T6 (n3 * 7) y.2) (.inr rfl)
                        simp only [setHP] at hE
                        exact hE
                      exact AllReady.nil
                    exact AllReady.nil
                  exact AllReady.nil
                exact AllReady.nil
              exact AllReady.nil
            exact AllReady.nil
          refine AllReady.cons rfl (fun K hK => ?_) ?_
          · go_simp
            refine hK _ _ ?_
            clear hK K
            refine wpAny_ready (rs := [1, 3]) (by kernel_rfl) (by simp) ?_
            refine AllReady.cons rfl (fun K hK => ?_) ?_
            · go_simp
              refine hK _ _ ?_
              clear hK K
              refine wpAny_ready (rs := [3]) (by kernel_rfl) (by simp) ?_
              refine AllReady.cons rfl (fun K hK => ?_) ?_
              · go_simp
                refine hK _ _ ?_
                clear hK K
                refine wpAny_ready (rs := [4]) (by kernel_rfl) (by simp) ?_
                refine AllReady.cons rfl (fun K hK => ?_) ?_
                · (refine step_app1 w.heap.size _ zP rfl _ _ 53 rfl 55 Tryz.underlying53 info_pat rfl (by decide) HP.len HP.one (.slice a3 n3 c3) (td' ++ pre.map (·.2)) rfl oL ⟨X.heap.size, 0, none⟩ rfl hlit (by omega) (by decide) (by simp; omega) ?_; intro v6 w6 o6 g6 n6; obtain ⟨T6, c6, rfl, z0, z1, z2, z3, z4, z5, z6, zf, p0, pf, hTO6, hOT6⟩ := push_facts hS.out e0 hXL o6 g6 hn3.out; go_simp)
                  refine hK _ _ ?_
                  clear hK K
                  refine wpAny_ready (rs := [5, 7]) (by kernel_rfl) (by simp) ?_
                  refine AllReady.cons rfl (fun K hK => ?_) ?_
                  · go_simp
                    refine hK _ _ ?_
                    clear hK K
                    refine wpAny_ready (rs := [6, 7]) (by kernel_rfl) (by simp) ?_
                    refine AllReady.cons rfl (fun K hK => ?_) ?_
                    · go_simp
                      refine hK _ _ ?_
                      clear hK K
                      refine wpAny_ready (rs := [7]) (by kernel_rfl) (by simp) ?_
                      refine AllReady.cons rfl (fun K hK => ?_) ?_
                      · go_simp
                        refine hK _ _ ?_
                        clear hK K
                        refine wpAny_done (by kernel_rfl) ?_ _
                        have hE := push_end (y := y) (B := wB.heap.size) hlow hS.out e0 hOB o6 hn3.out hXL g6 ((setHP w6 T6 (n3 * 7) y.2).setCell ⟨O, 0, none⟩ (.slice (some ⟨T6, 0, none⟩) (n3 + 1) c6)) (.inl rfl)
                        simp only [setHP] at hE
                        exact hE
                      exact AllReady.nil
                    refine AllReady.cons rfl (fun K hK => ?_) ?_
                    · go_simp
                      refine hK _ _ ?_
                      clear hK K
                      refine wpAny_ready (rs := [6]) (by kernel_rfl) (by simp) ?_
                      refine AllReady.cons rfl (fun K hK => ?_) ?_
                      · go_simp
                        refine hK _ _ ?_
                        clear hK K
                        refine wpAny_done (by kernel_rfl) ?_ _
                        have hE := push_end (y := y) (B := wB.heap.size) hlow hS.out e0 hOB o6 hn3.out hXL g6 (setHP (w6.setCell ⟨O, 0, none⟩ (.slice (some ⟨T6, 0, none⟩) (n3 + 1) c6)) T6 (n3 * 7) y.2) (.inr rfl)
                        simp only [setHP] at hE
                        exact hE
                      exact AllReady.nil
                    exact AllReady.nil
                  refine AllReady.cons rfl (fun K hK => ?_) ?_
                  · go_simp
                    refine hK _ _ ?_
                    clear hK K
                    refine wpAny_ready (rs := [5]) (by kernel_rfl) (by simp) ?_
                    refine AllReady.cons rfl (fun K hK => ?_) ?_
                    · go_simp
                      refine hK _ _ ?_
                      clear hK K
                      refine wpAny_ready (rs := [6]) (by kernel_rfl) (by simp) ?_
                      refine AllReady.cons rfl (fun K hK => ?_) ?_
                      · go_simp
                        refine hK _ _ ?_
                        clear hK K
                        refine wpAny_done (by kernel_rfl) ?_ _
                        have hE := push_end (y := y) (B := wB.heap.size) hlow hS.out e0 hOB o6 hn3.out hXL g6 (setHP (w6.setCell ⟨O, 0, none⟩ (.slice (some ⟨T6, 0, none⟩) (n3 + 1) c6)) T6 (n3 * 7) y.2) (.inr rfl)
                        simp only [setHP] at hE
                        exact hE
                      exact AllReady.nil
                    exact AllReady.nil
                  exact AllReady.nil
                exact AllReady.nil
              exact AllReady.nil
            refine AllReady.cons rfl (fun K hK => ?_) ?_
            · go_simp
              refine hK _ _ ?_
              clear hK K
              refine wpAny_ready (rs := [1]) (by kernel_rfl) (by simp) ?_
              refine AllReady.cons rfl (fun K hK => ?_) ?_
              · go_simp
                refine hK _ _ ?_
                clear hK K
                refine wpAny_ready (rs := [4]) (by kernel_rfl) (by simp) ?_
                refine AllReady.cons rfl (fun K hK => ?_) ?_
                · (refine step_app1 w.heap.size _ zP rfl _ _ 53 rfl 55 Tryz.underlying53 info_pat rfl (by decide) HP.len HP.one (.slice a3 n3 c3) (td' ++ pre.map (·.2)) rfl oL ⟨X.heap.size, 0, none⟩ rfl hlit (by omega) (by decide) (by simp; omega) ?_; intro v6 w6 o6 g6 n6; obtain ⟨T6, c6, rfl, z0, z1, z2, z3, z4, z5, z6, zf, p0, pf, hTO6, hOT6⟩ := push_facts hS.out e0 hXL o6 g6 hn3.out; go_simp)
                  refine hK _ _ ?_
                  clear hK K
                  refine wpAny_ready (rs := [5, 7]) (by kernel_rfl) (by simp) ?_
                  refine AllReady.cons rfl (fun K hK => ?_) ?_
                  · go_simp
                    refine hK _ _ ?_
                    clear hK K
                    refine wpAny_ready (rs := [6, 7]) (by kernel_rfl) (by simp) ?_
                    refine AllReady.cons rfl (fun K hK => ?_) ?_
                    · go_simp
                      refine hK _ _ ?_
                      clear hK K
                      refine wpAny_ready (rs := [7]) (by kernel_rfl) (by simp) ?_
                      refine AllReady.cons rfl (fun K hK => ?_) ?_
                      · go_simp
                        refine hK _ _ ?_
                        clear hK K
                        refine wpAny_done (by kernel_rfl) ?_ _
                        have hE := push_end (y := y) (B := wB.heap.size) hlow hS.out e0 hOB o6 hn3.out hXL g6 ((setHP w6 T6 (n3 * 7) y.2).setCell ⟨O, 0, none⟩ (.slice (some ⟨T6, 0, none⟩) (n3 + 1) c6)) (.inl rfl)
                        simp only [setHP] at hE
                        exact hE
                      exact AllReady.nil
                    refine AllReady.cons rfl (fun K hK => ?_) ?_
                    · go_simp
                      refine hK _ _ ?_
                      clear hK K
                      refine wpAny_ready (rs := [6]) (by kernel_rfl) (by simp) ?_
                      refine AllReady.cons rfl (fun K hK => ?_) ?_
                      · go_simp
                        refine hK _ _ ?_
                        clear hK K
                        refine wpAny_done (by kernel_rfl) ?_ _
                        have hE := push_end (y := y) (B := wB.heap.size) hlow hS.out e0 hOB o6 hn3.out hXL g6 (setHP (w6.setCell ⟨O, 0, none⟩ (.slice (some ⟨T6, 0, none⟩) (n3 + 1) c6)) T6 (n3 * 7) y.2) (.inr rfl)
                        simp only [setHP] at hE
                        exact hE
                      exact AllReady.nil
                    exact AllReady.nil
                  refine AllReady.cons rfl (fun K hK => ?_) ?_
                  · go_simp
                    refine hK _ _ ?_
                    clear hK K
                    refine wpAny_ready (rs := [5]) (by kernel_rfl) (by simp) ?_
                    refine AllReady.cons rfl (fun K hK => ?_) ?_
                    · go_simp
                      refine hK _ _ ?_
                      clear hK K
                      refine wpAny_ready (rs := [6]) (by kernel_rfl) (by simp) ?_
                      refine AllReady.cons rfl (fun K hK => ?_) ?_
                      · go_simp
                        refine hK _ _ ?_
                        clear hK K
                        refine wpAny_done (by kernel_rfl) ?_ _
                        have hE := push_end (y := y) (B := wB.heap.size) hlow hS.out e0 hOB o6 hn3.out hXL g6 (setHP (w6.setCell ⟨O, 0, none⟩ (.slice (some ⟨T6, 0, none⟩) (n3 + 1) c6)) T6 (n3 * 7) y.2) (.inr rfl)
                        simp only [setHP] at hE
                        exact hE
                      exact AllReady.nil
                    exact AllReady.nil
                  exact AllReady.nil
                exact AllReady.nil
              exact AllReady.nil
            exact AllReady.nil
          refine AllReady.cons rfl (fun K hK => ?_) ?_
          · go_simp
            refine hK _ _ ?_
            clear hK K
            refine wpAny_ready (rs := [1, 2]) (by kernel_rfl) (by simp) ?_
            refine AllReady.cons rfl (fun K hK => ?_) ?_
            · go_simp
              refine hK _ _ ?_
              clear hK K
              refine wpAny_ready (rs := [2]) (by kernel_rfl) (by simp) ?_
              refine AllReady.cons rfl (fun K hK => ?_) ?_
              · go_simp
                refine hK _ _ ?_
                clear hK K
                refine wpAny_ready (rs := [4]) (by kernel_rfl) (by simp) ?_
                refine AllReady.cons rfl (fun K hK => ?_) ?_
                · (refine step_app1 w.heap.size _ zP rfl _ _ 53 rfl 55 Tryz.underlying53 info_pat rfl (by decide) HP.len HP.one (.slice a3 n3 c3) (td' ++ pre.map (·.2)) rfl oL ⟨X.heap.size, 0, none⟩ rfl hlit (by omega) (by decide) (by simp; omega) ?_; intro v6 w6 o6 g6 n6; obtain ⟨T6, c6, rfl, z0, z1, z2, z3, z4, z5, z6, zf, p0, pf, hTO6, hOT6⟩ := push_facts hS.out e0 hXL o6 g6 hn3.out; go_simp)
                  refine hK _ _ ?_
                  clear hK K
                  refine wpAny_ready (rs := [5, 7]) (by kernel_rfl) (by simp) ?_
                  refine AllReady.cons rfl (fun K hK => ?_) ?_
                  · go_simp
                    refine hK _ _ ?_
                    clear hK K
                    refine wpAny_ready (rs := [6, 7]) (by kernel_rfl) (by simp) ?_
                    refine AllReady.cons rfl (fun K hK => ?_) ?_
                    · go_simp
                      refine hK _ _ ?_
                      clear hK K
                      refine wpAny_ready (rs := [7]) (by kernel_rfl) (by simp) ?_
                      refine AllReady.cons rfl (fun K hK => ?_) ?_
                      · go_simp
                        refine hK _ _ ?_
                        clear hK K
                        refine wpAny_done (by kernel_rfl) ?_ _
                        have hE := push_end (y := y) (B := wB.heap.size) hlow hS.out e0 hOB o6 hn3.out hXL g6 ((setHP w6 T6 (n3 * 7) y.2).setCell ⟨O, 0, none⟩ (.slice (some ⟨T6, 0, none⟩) (n3 + 1) c6)) (.inl rfl)
                        simp only [setHP] at hE
                        exact hE
                      exact AllReady.nil
                    refine AllReady.cons rfl (fun K hK => ?_) ?_
                    · go_simp
                      refine hK _ _ ?_
                      clear hK K
                      refine wpAny_ready (rs := [6]) (by kernel_rfl) (by simp) ?_
                      refine AllReady.cons rfl (fun K hK => ?_) ?_
                      · go_simp
                        refine hK _ _ ?_
                        clear hK K
                        refine wpAny_done (by kernel_rfl) ?_ _
                        have hE := push_end (y := y) (B := wB.heap.size) hlow hS.out e0 hOB o6 hn3.out hXL g6 (setHP (w6.setCell ⟨O, 0, none⟩ (.slice (some ⟨T6, 0, none⟩) (n3 + 1) c6)) T6 (n3 * 7) y.2) (.inr rfl)
                        simp only [setHP] at hE
                        exact hE
                      exact AllReady.nil
                    exact AllReady.nil
                  refine AllReady.cons rfl (fun K hK => ?_) ?_
                  · go_simp
                    refine hK _ _ ?_
                    clear hK K
                    refine wpAny_ready (rs := [5]) (by kernel_rfl) (by simp) ?_
                    refine AllReady.cons rfl (fun K hK => ?_) ?_
                    · go_simp
                      refine hK _ _ ?_
                      clear hK K
                      refine wpAny_ready (rs := [6]) (by kernel_rfl) (by simp) ?_
                      refine AllReady.cons rfl (fun K hK => ?_) ?_
                      · go_simp
                        refine hK _ _ ?_
                        clear hK K
                        refine wpAny_done (by kernel_rfl) ?_ _
                        have hE := push_end (y := y) (B := wB.heap.size) hlow hS.out e0 hOB o6 hn3.out hXL g6 (setHP (w6.setCell ⟨O, 0, none⟩ (.slice (some ⟨T6, 0, none⟩) (n3 + 1) c6)) T6 (n3 * 7) y.2) (.inr rfl)
                        simp only [setHP] at hE
                        exact hE
                      exact AllReady.nil
                    exact AllReady.nil
                  exact AllReady.nil
                exact AllReady.nil
              exact AllReady.nil
            refine AllReady.cons rfl (fun K hK => ?_) ?_
            · go_simp
              refine hK _ _ ?_
              clear hK K
              refine wpAny_ready (rs := [1]) (by kernel_rfl) (by simp) ?_
              refine AllReady.cons rfl (fun K hK => ?_) ?_
              · go_simp
                refine hK _ _ ?_
                clear hK K
                refine wpAny_ready (rs := [4]) (by kernel_rfl) (by simp) ?_
                refine AllReady.cons rfl (fun K hK => ?_) ?_
                · (refine step_app1 w.heap.size _ zP rfl _ _ 53 rfl 55 Tryz.underlying53 info_pat rfl (by decide) HP.len HP.one (.slice a3 n3 c3) (td' ++ pre.map (·.2)) rfl oL ⟨X.heap.size, 0, none⟩ rfl hlit (by omega) (by decide) (by simp; omega) ?_; intro v6 w6 o6 g6 n6; obtain ⟨T6, c6, rfl, z0, z1, z2, z3, z4, z5, z6, zf, p0, pf, hTO6, hOT6⟩ := push_facts hS.out e0 hXL o6 g6 hn3.out; go_simp)
                  refine hK _ _ ?_
                  clear hK K
                  refine wpAny_ready (rs := [5, 7]) (by kernel_rfl) (by simp) ?_
                  refine AllReady.cons rfl (fun K hK => ?_) ?_
                  · go_simp
                    refine hK _ _ ?_
                    clear hK K
                    refine wpAny_ready (rs := [6, 7]) (by kernel_rfl) (by simp) ?_
                    refine AllReady.cons rfl (fun K hK => ?_) ?_
                    · go_simp
                      refine hK _ _ ?_
                      clear hK K
                      refine wpAny_ready (rs := [7]) (by kernel_rfl) (by simp) ?_
                      refine AllReady.cons rfl (fun K hK => ?_) ?_
                      · go_simp
                        refine hK _ _ ?_
                        clear hK K
                        refine wpAny_done (by kernel_rfl) ?_ _
                        have hE := push_end (y := y) (B := wB.heap.size) hlow hS.out e0 hOB o6 hn3.out hXL g6 ((setHP w6 T6 (n3 * 7) y.2).setCell ⟨O, 0, none⟩ (.slice (some ⟨T6, 0, none⟩) (n3 + 1) c6)) (.inl rfl)
                        simp only [setHP] at hE
                        exact hE
                      exact AllReady.nil
                    refine AllReady.cons rfl (fun K hK => ?_) ?_
                    · go_simp
                      refine hK _ _ ?_
                      clear hK K
                      refine wpAny_ready (rs := [6]) (by kernel_rfl) (by simp) ?_
                      refine AllReady.cons rfl (fun K hK => ?_) ?_
                      · go_simp
                        refine hK _ _ ?_
                        clear hK K
                        refine wpAny_done (by kernel_rfl) ?_ _
                        have hE := push_end (y := y) (B := wB.heap.size) hlow hS.out e0 hOB o6 hn3.out hXL g6 (setHP (w6.setCell ⟨O, 0, none⟩ (.slice (some ⟨T6, 0, none⟩) (n3 + 1) c6)) T6 (n3 * 7) y.2) (.inr rfl)
                        simp only [setHP] at hE
                        exact hE
                      exact AllReady.nil
                    exact AllReady.nil
                  refine AllReady.cons rfl (fun K hK => ?_) ?_
                  · go_simp
                    refine hK _ _ ?_
                    clear hK K
                    refine wpAny_ready (rs := [5]) (by kernel_rfl) (by simp) ?_
                    refine AllReady.cons rfl (fun K hK => ?_) ?_
                    · go_simp
                      refine hK _ _ ?_
                      clear hK K
                      refine wpAny_ready (rs := [6]) (by kernel_rfl) (by simp) ?_
                      refine AllReady.cons rfl (fun K hK => ?_) ?_
                      · go_simp
                        refine hK _ _ ?_
                        clear hK K
                        refine wpAny_done (by kernel_rfl) ?_ _
                        have hE := push_end (y := y) (B := wB.heap.size) hlow hS.out e0 hOB o6 hn3.out hXL g6 (setHP (w6.setCell ⟨O, 0, none⟩ (.slice (some ⟨T6, 0, none⟩) (n3 + 1) c6)) T6 (n3 * 7) y.2) (.inr rfl)
                        simp only [setHP] at hE
                        exact hE
                      exact AllReady.nil
                    exact AllReady.nil
                  exact AllReady.nil
                exact AllReady.nil
              exact AllReady.nil
            exact AllReady.nil
          exact AllReady.nil
        refine AllReady.cons rfl (fun K hK => ?_) ?_
        · go_simp
          refine hK _ _ ?_
          clear hK K
          refine wpAny_ready (rs := [0, 3]) (by kernel_rfl) (by simp) ?_
          refine AllReady.cons rfl (fun K hK => ?_) ?_
          · go_simp
            refine hK _ _ ?_
            clear hK K
            refine wpAny_ready (rs := [2, 3]) (by kernel_rfl) (by simp) ?_
            refine AllReady.cons rfl (fun K hK => ?_) ?_
            · go_simp
              refine hK _ _ ?_
              clear hK K
              refine wpAny_ready (rs := [3]) (by kernel_rfl) (by simp) ?_
              refine AllReady.cons rfl (fun K hK => ?_) ?_
              · go_simp
                refine hK _ _ ?_
                clear hK K
                refine wpAny_ready (rs := [4]) (by kernel_rfl) (by simp) ?_
                refine AllReady.cons rfl (fun K hK => ?_) ?_
                · (refine step_app1 w.heap.size _ zP rfl _ _ 53 rfl 55 Tryz.underlying53 info_pat rfl (by decide) HP.len HP.one (.slice a3 n3 c3) (td' ++ pre.map (·.2)) rfl oL ⟨X.heap.size, 0, none⟩ rfl hlit (by omega) (by decide) (by simp; omega) ?_; intro v6 w6 o6 g6 n6; obtain ⟨T6, c6, rfl, z0, z1, z2, z3, z4, z5, z6, zf, p0, pf, hTO6, hOT6⟩ := push_facts hS.out e0 hXL o6 g6 hn3.out; go_simp)
                  refine hK _ _ ?_
                  clear hK K
                  refine wpAny_ready (rs := [5, 7]) (by kernel_rfl) (by simp) ?_
                  refine AllReady.cons rfl (fun K hK => ?_) ?_
                  · go_simp
                    refine hK _ _ ?_
                    clear hK K
                    refine wpAny_ready (rs := [6, 7]) (by kernel_rfl) (by simp) ?_
                    refine AllReady.cons rfl (fun K hK => ?_) ?_
                    · go_simp
                      refine hK _ _ ?_
                      clear hK K
                      refine wpAny_ready (rs := [7]) (by kernel_rfl) (by simp) ?_
                      refine AllReady.cons rfl (fun K hK => ?_) ?_
                      · go_simp
                        refine hK _ _ ?_
                        clear hK K
                        refine wpAny_done (by kernel_rfl) ?_ _
                        have hE := push_end (y := y) (B := wB.heap.size) hlow hS.out e0 hOB o6 hn3.out hXL g6 ((setHP w6 T6 (n3 * 7) y.2).setCell ⟨O, 0, none⟩ (.slice (some ⟨T6, 0, none⟩) (n3 + 1) c6)) (.inl rfl)
                        simp only [setHP] at hE
                        exact hE
                      exact AllReady.nil
                    refine AllReady.cons rfl (fun K hK => ?_) ?_
                    · go_simp
                      refine hK _ _ ?_
                      clear hK K
                      refine wpAny_ready (rs := [6]) (by kernel_rfl) (by simp) ?_
                      refine AllReady.cons rfl (fun K hK => ?_) ?_
                      · go_simp
                        refine hK _ _ ?_
                        clear hK K
                        refine wpAny_done (by kernel_rfl) ?_ _
                        have hE := push_end (y := y) (B := wB.heap.size) hlow hS.out e0 hOB o6 hn3.out hXL g6 (setHP (w6.setCell ⟨O, 0, none⟩ (.slice (some ⟨T6, 0, none⟩) (n3 + 1) c6)) T6 (n3 * 7) y.2) (.inr rfl)
                        simp only [setHP] at hE
                        exact hE
                      exact AllReady.nil
                    exact AllReady.nil
                  refine AllReady.cons rfl (fun K hK => ?_) ?_
                  · go_simp
                    refine hK _ _ ?_
                    clear hK K
                    refine wpAny_ready (rs := [5]) (by kernel_rfl) (by simp) ?_
                    refine AllReady.cons rfl (fun K hK => ?_) ?_
                    · go_simp
                      refine hK _ _ ?_
                      clear hK K
                      refine wpAny_ready (rs := [6]) (by kernel_rfl) (by simp) ?_
                      refine AllReady.cons rfl (fun K hK => ?_) ?_
                      · go_simp
                        refine hK _ _ ?_
                        clear hK K
                        refine wpAny_done (by kernel_rfl) ?_ _
                        have hE := push_end (y := y) (B := wB.heap.size) hlow hS.out e0 hOB o6 hn3.out hXL g6 (setHP (w6.setCell ⟨O, 0, none⟩ (.slice (some ⟨T6, 0, none⟩) (n3 + 1) c6)) T6 (n3 * 7) y.2) (.inr rfl)
                        simp only [setHP] at hE
                        exact hE
                      exact AllReady.nil
                    exact AllReady.nil
                  exact AllReady.nil
                exact AllReady.nil
              exact AllReady.nil
            refine AllReady.cons rfl (fun K hK => ?_) ?_
            · go_simp
              refine hK _ _ ?_
              clear hK K
              refine wpAny_ready (rs := [2]) (by kernel_rfl) (by simp) ?_
              refine AllReady.cons rfl (fun K hK => ?_) ?_
              · go_simp
                refine hK _ _ ?_
                clear hK K
                refine wpAny_ready (rs := [4]) (by kernel_rfl) (by simp) ?_
                refine AllReady.cons rfl (fun K hK => ?_) ?_
                · (refine step_app1 w.heap.size _ zP rfl _ _ 53 rfl 55 Tryz.underlying53 info_pat rfl (by decide) HP.len HP.one (.slice a3 n3 c3) (td' ++ pre.map (·.2)) rfl oL ⟨X.heap.size, 0, none⟩ rfl hlit (by omega) (by decide) (by simp; omega) ?_; intro v6 w6 o6 g6 n6; obtain ⟨T6, c6, rfl, z0, z1, z2, z3, z4, z5, z6, zf, p0, pf, hTO6, hOT6⟩ := push_facts hS.out e0 hXL o6 g6 hn3.out; go_simp)
                  refine hK _ _ ?_
                  clear hK K
                  refine wpAny_ready (rs := [5, 7]) (by kernel_rfl) (by simp) ?_
                  refine AllReady.cons rfl (fun K hK => ?_) ?_
                  · go_simp
                    refine hK _ _ ?_
                    clear hK K
                    refine wpAny_ready (rs := [6, 7]) (by kernel_rfl) (by simp) ?_
                    refine AllReady.cons rfl (fun K hK => ?_) ?_
                    · go_simp
                      refine hK _ _ ?_
                      clear hK K
                      refine wpAny_ready (rs := [7]) (by kernel_rfl) (by simp) ?_
                      refine AllReady.cons rfl (fun K hK => ?_) ?_
                      · go_simp
                        refine hK _ _ ?_
                        clear hK K
                        refine wpAny_done (by kernel_rfl) ?_ _
                        have hE := push_end (y := y) (B := wB.heap.size) hlow hS.out e0 hOB o6 hn3.out hXL g6 ((setHP w6 T6 (n3 * 7) y.2).setCell ⟨O, 0, none⟩ (.slice (some ⟨T6, 0, none⟩) (n3 + 1) c6)) (.inl rfl)
                        simp only [setHP] at hE
                        exact hE
                      exact AllReady.nil
                    refine AllReady.cons rfl (fun K hK => ?_) ?_
                    · go_simp
                      refine hK _ _ ?_
                      clear hK K
                      refine wpAny_ready (rs := [6]) (by kernel_rfl) (by simp) ?_
                      refine AllReady.cons rfl (fun K hK => ?_) ?_
                      · go_simp
                        refine hK _ _ ?_
                        clear hK K
                        refine wpAny_done (by kernel_rfl) ?_ _
                        have hE := push_end (y := y) (B := wB.heap.size) hlow hS.out e0 hOB o6 hn3.out hXL g6 (setHP (w6.setCell ⟨O, 0, none⟩ (.slice (some ⟨T6, 0, none⟩) (n3 + 1) c6)) T6 (n3 * 7) y.2) (.inr rfl)
                        simp only [setHP] at hE
                        exact hE
                      exact AllReady.nil
                    exact AllReady.nil
                  refine AllReady.cons rfl (fun K hK => ?_) ?_
                  · go_simp
                    refine hK _ _ ?_
                    clear hK K
                    refine wpAny_ready (rs := [5]) (by kernel_rfl) (by simp) ?_
                    refine AllReady.cons rfl (fun K hK => ?_) ?_
                    · go_simp
                      refine hK _ _ ?_
                      clear hK K
                      refine wpAny_ready (rs := [6]) (by kernel_rfl) (by simp) ?_
                      refine AllReady.cons rfl (fun K hK => ?_) ?_
                      · go_simp
                        refine hK _ _ ?_
                        clear hK K
                        refine wpAny_done (by kernel_rfl) ?_ _
                        have hE := push_end (y := y) (B := wB.heap.size) hlow hS.out e0 hOB o6 hn3.out hXL g6 (setHP (w6.setCell ⟨O, 0, none⟩ (.slice (some ⟨T6, 0, none⟩) (n3 + 1) c6)) T6 (n3 * 7) y.2) (.inr rfl)
                        simp only [setHP] at hE
                        exact hE
                      exact AllReady.nil
                    exact AllReady.nil
                  exact AllReady.nil
                exact AllReady.nil
              exact AllReady.nil
            exact AllReady.nil
          refine AllReady.cons rfl (fun K hK => ?_) ?_
          · go_simp
            refine hK _ _ ?_
            clear hK K
            refine wpAny_ready (rs := [0]) (by kernel_rfl) (by simp) ?_
            refine AllReady.cons rfl (fun K hK => ?_) ?_
            · go_simp
              refine hK _ _ ?_
              clear hK K
              refine wpAny_ready (rs := [2]) (by kernel_rfl) (by simp) ?_
              refine AllReady.cons rfl (fun K hK => ?_) ?_
              · go_simp
                refine hK _ _ ?_
                clear hK K
                refine wpAny_ready (rs := [4]) (by kernel_rfl) (by simp) ?_
                refine AllReady.cons rfl (fun K hK => ?_) ?_
                · (refine step_app1 w.heap.size _ zP rfl _ _ 53 rfl 55 Tryz.underlying53 info_pat rfl (by decide) HP.len HP.one (.slice a3 n3 c3) (td' ++ pre.map (·.2)) rfl oL ⟨X.heap.size, 0, none⟩ rfl hlit (by omega) (by decide) (by simp; omega) ?_; intro v6 w6 o6 g6 n6; obtain ⟨T6, c6, rfl, z0, z1, z2, z3, z4, z5, z6, zf, p0, pf, hTO6, hOT6⟩ := push_facts hS.out e0 hXL o6 g6 hn3.out; go_simp)
                  refine hK _ _ ?_
                  clear hK K
                  refine wpAny_ready (rs := [5, 7]) (by kernel_rfl) (by simp) ?_
                  refine AllReady.cons rfl (fun K hK => ?_) ?_
                  · go_simp
                    refine hK _ _ ?_
                    clear hK K
                    refine wpAny_ready (rs := [6, 7]) (by kernel_rfl) (by simp) ?_
                    refine AllReady.cons rfl (fun K hK => ?_) ?_
                    · go_simp
                      refine hK _ _ ?_
                      clear hK K
                      refine wpAny_ready (rs := [7]) (by kernel_rfl) (by simp) ?_
                      refine AllReady.cons rfl (fun K hK => ?_) ?_
                      · go_simp
                        refine hK _ _ ?_
                        clear hK K
                        refine wpAny_done (by kernel_rfl) ?_ _
                        have hE := push_end (y := y) (B := wB.heap.size) hlow hS.out e0 hOB o6 hn3.out hXL g6 ((setHP w6 T6 (n3 * 7) y.2).setCell ⟨O, 0, none⟩ (.slice (some ⟨T6, 0, none⟩) (n3 + 1) c6)) (.inl rfl)
                        simp only [setHP] at hE
                        exact hE
                      exact AllReady.nil
                    refine AllReady.cons rfl (fun K hK => ?_) ?_
                    · go_simp
                      refine hK _ _ ?_
                      clear hK K
                      refine wpAny_ready (rs := [6]) (by kernel_rfl) (by simp) ?_
                      refine AllReady.cons rfl (fun K hK => ?_) ?_
                      · go_simp
                        refine hK _ _ ?_
                        clear hK K
                        refine wpAny_done (by kernel_rfl) ?_ _
                        have hE := push_end (y := y) (B := wB.heap.size) hlow hS.out e0 hOB o6 hn3.out hXL g6 (setHP (w6.setCell ⟨O, 0, none⟩ (.slice (some ⟨T6, 0, none⟩) (n3 + 1) c6)) T6 (n3 * 7) y.2) (.inr rfl)
                        simp only [setHP] at hE
                        exact hE
                      exact AllReady.nil
                    exact AllReady.nil
                  refine AllReady.cons rfl (fun K hK => ?_) ?_
                  · go_simp
                    refine hK _ _ ?_
                    clear hK K
                    refine wpAny_ready (rs := [5]) (by kernel_rfl) (by simp) ?_
                    refine AllReady.cons rfl (fun K hK => ?_) ?_
                    · go_simp
                      refine hK _ _ ?_
                      clear hK K
                      refine wpAny_ready (rs := [6]) (by kernel_rfl) (by simp) ?_
                      refine AllReady.cons rfl (fun K hK => ?_) ?_
                      · go_simp
                        refine hK _ _ ?_
                        clear hK K
                        refine wpAny_done (by kernel_rfl) ?_ _
                        have hE := push_end (y := y) (B := wB.heap.size) hlow hS.out e0 hOB o6 hn3.out hXL g6 (setHP (w6.setCell ⟨O, 0, none⟩ (.slice (some ⟨T6, 0, none⟩) (n3 + 1) c6)) T6 (n3 * 7) y.2) (.inr rfl)
                        simp only [setHP] at hE
                        exact hE
                      exact AllReady.nil
                    exact AllReady.nil
                  exact AllReady.nil
                exact AllReady.nil
              exact AllReady.nil
            exact AllReady.nil
          exact AllReady.nil
        refine AllReady.cons rfl (fun K hK => ?_) ?_
        · go_simp
          refine hK _ _ ?_
          clear hK K
          refine wpAny_ready (rs := [0, 1]) (by kernel_rfl) (by simp) ?_
          refine AllReady.cons rfl (fun K hK => ?_) ?_
          · go_simp
            refine hK _ _ ?_
            clear hK K
            refine wpAny_ready (rs := [1, 2]) (by kernel_rfl) (by simp) ?_
            refine AllReady.cons rfl (fun K hK => ?_) ?_
            · go_simp
              refine hK _ _ ?_
              clear hK K
              refine wpAny_ready (rs := [2]) (by kernel_rfl) (by simp) ?_
              refine AllReady.cons rfl (fun K hK => ?_) ?_
              · go_simp
                refine hK _ _ ?_
                clear hK K
                refine wpAny_ready (rs := [4]) (by kernel_rfl) (by simp) ?_
                refine AllReady.cons rfl (fun K hK => ?_) ?_
                · (refine step_app1 w.heap.size _ zP rfl _ _ 53 rfl 55 Tryz.underlying53 info_pat rfl (by decide) HP.len HP.one (.slice a3 n3 c3) (td' ++ pre.map (·.2)) rfl oL ⟨X.heap.size, 0, none⟩ rfl hlit (by omega) (by decide) (by simp; omega) ?_; intro v6 w6 o6 g6 n6; obtain ⟨T6, c6, rfl, z0, z1, z2, z3, z4, z5, z6, zf, p0, pf, hTO6, hOT6⟩ := push_facts hS.out e0 hXL o6 g6 hn3.out; go_simp)
                  refine hK _ _ ?_
                  clear hK K
                  refine wpAny_ready (rs := [5, 7]) (by kernel_rfl) (by simp) ?_
                  refine AllReady.cons rfl (fun K hK => ?_) ?_
                  · go_simp
                    refine hK _ _ ?_
                    clear hK K
                    refine wpAny_ready (rs := [6, 7]) (by kernel_rfl) (by simp) ?_
                    refine AllReady.cons rfl (fun K hK => ?_) ?_
                    · go_simp
                      refine hK _ _ ?_
                      clear hK K
                      refine wpAny_ready (rs := [7]) (by kernel_rfl) (by simp) ?_
                      refine AllReady.cons rfl (fun K hK => ?_) ?_
                      · go_simp
                        refine hK _ _ ?_
                        clear hK K
                        refine wpAny_done (by kernel_rfl) ?_ _
                        have hE := push_end (y := y) (B := wB.heap.size) hlow hS.out e0 hOB o6 hn3.out hXL g6 ((setHP w6 T6 (n3 * 7) y.2).setCell ⟨O, 0, none⟩ (.slice (some ⟨T6, 0, none⟩) (n3 + 1) c6)) (.inl rfl)
                        simp only [setHP] at hE
                        exact hE
                      exact AllReady.nil
                    refine AllReady.cons rfl (fun K hK => ?_) ?_
                    · go_simp
                      refine hK _ _ ?_
                      clear hK K
                      refine wpAny_ready (rs := [6]) (by kernel_rfl) (by simp) ?_
                      refine AllReady.cons rfl (fun K hK => ?_) ?_
                      · go_simp
                        refine hK _ _ ?_
                        clear hK K
                        refine wpAny_done (by kernel_rfl) ?_ _
                        have hE := push_end (y := y) (B := wB.heap.size) hlow hS.out e0 hOB o6 hn3.out hXL g6 (setHP (w6.setCell ⟨O, 0, none⟩ (.slice (some ⟨T6, 0, none⟩) (n3 + 1) c6)) T6 (n3 * 7) y.2) (.inr rfl)
                        simp only [setHP] at hE
                        exact hE
                      exact AllReady.nil
                    exact AllReady.nil
                  refine AllReady.cons rfl (fun K hK => ?_) ?_
                  · go_simp
                    refine hK _ _ ?_
                    clear hK K
                    refine wpAny_ready (rs := [5]) (by kernel_rfl) (by simp) ?_
                    refine AllReady.cons rfl (fun K hK => ?_) ?_
                    · go_simp
                      refine hK _ _ ?_
                      clear hK K
                      refine wpAny_ready (rs := [6]) (by kernel_rfl) (by simp) ?_
                      refine AllReady.cons rfl (fun K hK => ?_) ?_
                      · go_simp
                        refine hK _ _ ?_
                        clear hK K
                        refine wpAny_done (by kernel_rfl) ?_ _
                        have hE := push_end (y := y) (B := wB.heap.size) hlow hS.out e0 hOB o6 hn3.out hXL g6 (setHP (w6.setCell ⟨O, 0, none⟩ (.slice (some ⟨T6, 0, none⟩) (n3 + 1) c6)) T6 (n3 * 7) y.2) (.inr rfl)
                        simp only [setHP] at hE
                        exact hE
                      exact AllReady.nil
                    exact AllReady.nil
                  exact AllReady.nil
                exact AllReady.nil
              exact AllReady.nil
            refine AllReady.cons rfl (fun K hK => ?_) ?_
            · go_simp
              refine hK _ _ ?_
              clear hK K
              refine wpAny_ready (rs := [1]) (by kernel_rfl) (by simp) ?_
              refine AllReady.cons rfl (fun K hK => ?_) ?_
              · go_simp
                refine hK _ _ ?_
                clear hK K
                refine wpAny_ready (rs := [4]) (by kernel_rfl) (by simp) ?_
                refine AllReady.cons rfl (fun K hK => ?_) ?_
                · (refine step_app1 w.heap.size _ zP rfl _ _ 53 rfl 55 Tryz.underlying53 info_pat rfl (by decide) HP.len HP.one (.slice a3 n3 c3) (td' ++ pre.map (·.2)) rfl oL ⟨X.heap.size, 0, none⟩ rfl hlit (by omega) (by decide) (by simp; omega) ?_; intro v6 w6 o6 g6 n6; obtain ⟨T6, c6, rfl, z0, z1, z2, z3, z4, z5, z6, zf, p0, pf, hTO6, hOT6⟩ := push_facts hS.out e0 hXL o6 g6 hn3.out; go_simp)
                  refine hK _ _ ?_
                  clear hK K
                  refine wpAny_ready (rs := [5, 7]) (by kernel_rfl) (by simp) ?_
                  refine AllReady.cons rfl (fun K hK => ?_) ?_
                  · go_simp
                    refine hK _ _ ?_
                    clear hK K
                    refine wpAny_ready (rs := [6, 7]) (by kernel_rfl) (by simp) ?_
                    refine AllReady.cons rfl (fun K hK => ?_) ?_
                    · go_simp
                      refine hK _ _ ?_
                      clear hK K
                      refine wpAny_ready (rs := [7]) (by kernel_rfl) (by simp) ?_
                      refine AllReady.cons rfl (fun K hK => ?_) ?_
                      · go_simp
                        refine hK _ _ ?_
                        clear hK K
                        refine wpAny_done (by kernel_rfl) ?_ _
                        have hE := push_end (y := y) (B := wB.heap.size) hlow hS.out e0 hOB o6 hn3.out hXL g6 ((setHP w6 T6 (n3 * 7) y.2).setCell ⟨O, 0, none⟩ (.slice (some ⟨T6, 0, none⟩) (n3 + 1) c6)) (.inl rfl)
                        simp only [setHP] at hE
                        exact hE
                      exact AllReady.nil
                    refine AllReady.cons rfl (fun K hK => ?_) ?_
                    · go_simp
                      refine hK _ _ ?_
                      clear hK K
                      refine wpAny_ready (rs := [6]) (by kernel_rfl) (by simp) ?_
                      refine AllReady.cons rfl (fun K hK => ?_) ?_
                      · go_simp
                        refine hK _ _ ?_
                        clear hK K
                        refine wpAny_done (by kernel_rfl) ?_ _
                        have hE := push_end (y := y) (B := wB.heap.size) hlow hS.out e0 hOB o6 hn3.out hXL g6 (setHP (w6.setCell ⟨O, 0, none⟩ (.slice (some ⟨T6, 0, none⟩) (n3 + 1) c6)) T6 (n3 * 7) y.2) (.inr rfl)
                        simp only [setHP] at hE
                        exact hE
                      exact AllReady.nil
                    exact AllReady.nil
                  refine AllReady.cons rfl (fun K hK => ?_) ?_
                  · go_simp
                    refine hK _ _ ?_
                    clear hK K
                    refine wpAny_ready (rs := [5]) (by kernel_rfl) (by simp) ?_
                    refine AllReady.cons rfl (fun K hK => ?_) ?_
                    · go_simp
                      refine hK _ _ ?_
                      clear hK K
                      refine wpAny_ready (rs := [6]) (by kernel_rfl) (by simp) ?_
                      refine AllReady.cons rfl (fun K hK => ?_) ?_
                      · go_simp
                        refine hK _ _ ?_
                        clear hK K
                        refine wpAny_done (by kernel_rfl) ?_ _
                        have hE := push_end (y := y) (B := wB.heap.size) hlow hS.out e0 hOB o6 hn3.out hXL g6 (setHP (w6.setCell ⟨O, 0, none⟩ (.slice (some ⟨T6, 0, none⟩) (n3 + 1) c6)) T6 (n3 * 7) y.2) (.inr rfl)
                        simp only [setHP] at hE
                        exact hE
                      exact AllReady.nil
                    exact AllReady.nil
                  exact AllReady.nil
                exact AllReady.nil
              exact AllReady.nil
            exact AllReady.nil
          refine AllReady.cons rfl (fun K hK => ?_) ?_
          · go_simp
            refine hK _ _ ?_
            clear hK K
            refine wpAny_ready (rs := [0]) (by kernel_rfl) (by simp) ?_
            refine AllReady.cons rfl (fun K hK => ?_) ?_
            · go_simp
              refine hK _ _ ?_
              clear hK K
              refine wpAny_ready (rs := [2]) (by kernel_rfl) (by simp) ?_
              refine AllReady.cons rfl (fun K hK => ?_) ?_
              · go_simp
                refine hK _ _ ?_
                clear hK K
                refine wpAny_ready (rs := [4]) (by kernel_rfl) (by simp) ?_
                refine AllReady.cons rfl (fun K hK => ?_) ?_
                · (refine step_app1 w.heap.size _ zP rfl _ _ 53 rfl 55 Tryz.underlying53 info_pat rfl (by decide) HP.len HP.one (.slice a3 n3 c3) (td' ++ pre.map (·.2)) rfl oL ⟨X.heap.size, 0, none⟩ rfl hlit (by omega) (by decide) (by simp; omega) ?_; intro v6 w6 o6 g6 n6; obtain ⟨T6, c6, rfl, z0, z1, z2, z3, z4, z5, z6, zf, p0, pf, hTO6, hOT6⟩ := push_facts hS.out e0 hXL o6 g6 hn3.out; go_simp)
                  refine hK _ _ ?_
                  clear hK K
                  refine wpAny_ready (rs := [5, 7]) (by kernel_rfl) (by simp) ?_
                  refine AllReady.cons rfl (fun K hK => ?_) ?_
                  · go_simp
                    refine hK _ _ ?_
                    clear hK K
                    refine wpAny_ready (rs := [6, 7]) (by kernel_rfl) (by simp) ?_
                    refine AllReady.cons rfl (fun K hK => ?_) ?_
                    · go_simp
                      refine hK _ _ ?_
                      clear hK K
                      refine wpAny_ready (rs := [7]) (by kernel_rfl) (by simp) ?_
                      refine AllReady.cons rfl (fun K hK => ?_) ?_
                      · go_simp
                        refine hK _ _ ?_
                        clear hK K
                        refine wpAny_done (by kernel_rfl) ?_ _
                        have hE := push_end (y := y) (B := wB.heap.size) hlow hS.out e0 hOB o6 hn3.out hXL g6 ((setHP w6 T6 (n3 * 7) y.2).setCell ⟨O, 0, none⟩ (.slice (some ⟨T6, 0, none⟩) (n3 + 1) c6)) (.inl rfl)
                        simp only [setHP] at hE
                        exact hE
                      exact AllReady.nil
                    refine AllReady.cons rfl (fun K hK => ?_) ?_
                    · go_simp
                      refine hK _ _ ?_
                      clear hK K
                      refine wpAny_ready (rs := [6]) (by kernel_rfl) (by simp) ?_
                      refine AllReady.cons rfl (fun K hK => ?_) ?_
                      · go_simp
                        refine hK _ _ ?_
                        clear hK K
                        refine wpAny_done (by kernel_rfl) ?_ _
                        have hE := push_end (y := y) (B := wB.heap.size) hlow hS.out e0 hOB o6 hn3.out hXL g6 (setHP (w6.setCell ⟨O, 0, none⟩ (.slice (some ⟨T6, 0, none⟩) (n3 + 1) c6)) T6 (n3 * 7) y.2) (.inr rfl)
                        simp only [setHP] at hE
                        exact hE
                      exact AllReady.nil
                    exact AllReady.nil
                  refine AllReady.cons rfl (fun K hK => ?_) ?_
                  · go_simp
                    refine hK _ _ ?_
                    clear hK K
                    refine wpAny_ready (rs := [5]) (by kernel_rfl) (by simp) ?_
                    refine AllReady.cons rfl (fun K hK => ?_) ?_
                    · go_simp
                      refine hK _ _ ?_
                      clear hK K
                      refine wpAny_ready (rs := [6]) (by kernel_rfl) (by simp) ?_
                      refine AllReady.cons rfl (fun K hK => ?_) ?_
                      · go_simp
                        refine hK _ _ ?_
                        clear hK K
                        refine wpAny_done (by kernel_rfl) ?_ _
                        have hE := push_end (y := y) (B := wB.heap.size) hlow hS.out e0 hOB o6 hn3.out hXL g6 (setHP (w6.setCell ⟨O, 0, none⟩ (.slice (some ⟨T6, 0, none⟩) (n3 + 1) c6)) T6 (n3 * 7) y.2) (.inr rfl)
                        simp only [setHP] at hE
                        exact hE
                      exact AllReady.nil
                    exact AllReady.nil
                  exact AllReady.nil
                exact AllReady.nil
              exact AllReady.nil
            exact AllReady.nil
          exact AllReady.nil
        exact AllReady.nil
    case done =>
      rintro D X hD ⟨⟨v3, b3, o3⟩, s3, x3, mk3⟩ hK
      rw [backP_snd] at o3
      gi_wp2
      refine ⟨⟨k + 1, D :: Ds, td' ++ x.l.reverse, ⟨_, _, _, _, _, _, _, _, _, _, _, _, _, _, _, _, _, _, _, _, _, _, _, _, _, _, _, _, _, _, _, _, _, _, _, rfl⟩, ⟨⟨_, b3, o3⟩, x3, hlow, ?_, fun y hy => ?_, ?_, fun E hE => ?_⟩⟩, ?_⟩
      · rw [HP.cntL_app, HP.cntL_rev]; have := cnt2.out; omega
      · rcases List.mem_append.1 hy with h | h
        · exact ok2.out y h
        · exact ⟨hrx.sub (List.mem_reverse.1 h), (HP.allB_at hxok).2 y (List.mem_reverse.1 h)⟩
      · exact List.nodup_cons.2 ⟨fun h => by have := hDB.out D h; omega, nod2.out⟩
      · rcases List.mem_cons.1 hE with rfl | h
        · exact ⟨by omega, hK⟩
        · exact mk3 E h
      · show (41 - intOf (Value.int .i64 ((k : Int) + 1))).toNat < (41 - intOf (Value.int .i64 (k : Int))).toNat
        simp only [intOf]; omega
    case stop =>
      rintro D c pre W _ h _
      exact h.elim
end Go.Proofs.YtadncjpknckaaaaGreatDoor
