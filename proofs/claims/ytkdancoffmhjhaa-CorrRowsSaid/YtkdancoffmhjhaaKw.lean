/-
  slices.SortStableFunc at correspondences by count, of fewer than 20 elements.
-/
import Derived.Test.YtkdancoffmhjhaaKv
namespace Go.Proofs.Ytkdancoffmhjhaa
open Go.RowKit Go.Shelf Go.Sort Go.Lib
section
variable {α : Type} [Inhabited α]
/-- The comparison's answers: those of T wherever R holds from left to right. -/
theorem insInner_eq (lt T : α → α → Bool) (R : α → α → Prop) (hT : ∀ x y, R x y → T y x = lt y x) (a : Nat) :
    ∀ (j : Nat) (d : Array α), j < d.size → (∀ p, a ≤ p → p < j → R d[p]! d[j]!) → insInner lt a j d = insInner T a j d
  | 0, d, _, _ => rfl
  | j + 1, d, hj, hR => by
    have g := swp_get d hj (show j < d.size by omega)
    unfold insInner
    by_cases ha : j + 1 > a
    · rw [hT _ _ (hR j (by omega) (by omega))]
      rw [insInner_eq lt T R hT a j (swp d (j + 1) j) (by rw [swp_size]; omega) (fun p hp1 hp2 => by
        rw [g, g, if_neg (by omega), if_neg (by omega), if_pos rfl]
        exact hR p hp1 (by omega))]
    · simp [ha]
theorem insInner_perm (lt : α → α → Bool) (a b : Nat) : ∀ (j : Nat) (d : Array α), j < b → b ≤ d.size → PermIn a b d (insInner lt a j d)
  | 0, d, _, _ => permIn_refl d a b
  | j + 1, d, hj, hb => by
    unfold insInner
    split
    · rename_i hc
      simp only [Bool.and_eq_true, decide_eq_true_eq] at hc
      exact permIn_trans _ _ _ a b (swp_permIn d a b (j + 1) j (by omega) hj (by omega) (by omega) hb) (insInner_perm lt a b j _ (by omega) (by rw [swp_size]; exact hb))
    · exact permIn_refl d a b
theorem insOuter_eq (lt T : α → α → Bool) (R : α → α → Prop) (hT : ∀ x y, R x y → T y x = lt y x) (a b : Nat) :
    ∀ (n i : Nat) (d : Array α), b - i = n → a < i → b ≤ d.size → (∀ p q, a ≤ p → p < q → i ≤ q → q < b → R d[p]! d[q]!) → insOuter lt a b i d = insOuter T a b i d
  | 0, i, d, hn, _, _, _ => by rw [insOuter, if_neg (by omega), insOuter, if_neg (by omega)]
  | n + 1, i, d, hn, hai, hb, hR => by
    have hlt : i < b := by omega
    rw [insOuter, if_pos hlt]
    conv => rhs; rw [insOuter, if_pos hlt]
    have he := insInner_eq lt T R hT a i d (by omega) (fun p h1 h2 => hR p i h1 h2 (Nat.le_refl _) hlt)
    have hp := insInner_perm T a (i + 1) i d (by omega) (by omega)
    rw [he]
    refine insOuter_eq lt T R hT a b n (i + 1) _ (by omega) (by omega) (by rw [hp.1]; exact hb) fun p q h1 h2 h3 h4 => ?_
    rw [hp.2.1 q (.inr h3)]
    by_cases hpi : i + 1 ≤ p
    · rw [hp.2.1 p (.inr hpi)]; exact hR p q h1 h2 (by omega) h4
    · exact permIn_all d _ a (i + 1) (fun x => R x d[q]!) (by omega) hp (fun p' r1 r2 => hR p' q r1 (by omega) (by omega) h4) p h1 (by omega)
theorem insertionSort_eq (lt T : α → α → Bool) (R : α → α → Prop) (hT : ∀ x y, R x y → T y x = lt y x) (d : Array α) (a b : Nat) (hb : b ≤ d.size) (hR : ∀ p q, a ≤ p → p < q → q < b → R d[p]! d[q]!) :
    insertionSort lt d a b = insertionSort T d a b := insOuter_eq lt T R hT a b _ (a + 1) d rfl (by omega) hb fun p q h1 h2 _ h4 => hR p q h1 h2 h4
end
section
variable {α : Type} {k : Nat} {enc : α → List Value} [Inhabited α]
theorem insKO_any {ρ : Ren} (L : SlLaysF0.n20 Try.prog ρ) (hk : ∀ x, (enc x).length = k) (h1 : ∀ x, ∀ v ∈ enc x, v.oneCell' = true) (aE : ∀ w, (isAgg (ρ.t 24)).run Try.prog w = .ok true w) (zE : ∀ w, (Go.sizeOf (ρ.t 24)).run Try.prog w = .ok k w)
    (cf : α → α → Int) (gf : Nat) (cb : Array Value) (eg : ∀ args w, (callFunc gf args).run Try.prog w = .ok (.enter gf args) w) {w w0 : World} {e g n cap : Nat} {hs : List α}
    (hcmp : ∀ (W : World) (x y : α), Ext w W → Off g w0 W → Calls Try.prog gf (#[.agg (enc x).toArray, .agg (enc y).toArray] ++ cb) W fun en w' => en = .returned (.int .i64 (cf x y)) ∧ ExtD W w')
    (hx : Ext w w0) (hown : OwnK k enc w.heap.size e w0 (.slice (some ⟨g, 0, none⟩) n cap) hs) (hn : n ≤ 60000000) (a b : Nat) (hab : a ≤ b) (hb : b ≤ n) :
    Calls Try.prog (ρ.f 20) #[.slice (some ⟨g, 0, none⟩) n cap, .int .i64 a, .int .i64 b, .func (.func gf) #[] cb] w0 fun en w' => en = .returned (.tuple #[]) ∧ Ext w w' ∧ Off g w0 w' ∧
      OwnK k enc w.heap.size e w' (.slice (some ⟨g, 0, none⟩) n cap) (insertionSort (ltOf cf) hs.toArray a b).toList ∧ (insertionSort (ltOf cf) hs.toArray a b).size = n := by
  obtain ⟨hB, hgs, hlen, _, _⟩ := OwnK.ge hown
  obtain ⟨d, rfl⟩ : ∃ d : Array α, d.toList = hs := ⟨hs.toArray, rfl⟩
  have hsz : d.size = n := by simpa using hlen
  have hc := AnyQ.insertionSortCmpFunc L k aE zE enc hk h1 cf gf cb g 0 cap a b d w0 eg
    (fun m os dk _ x y => (hcmp _ x y (extD_sortWorldK hx hB 0 m dk os) (off_sortWorldK w0 g 0 m dk os)).mono fun en w' ⟨he, h⟩ => ⟨he, h.to_grow⟩)
    (OwnK.holds hk hown) hgs hab (by omega) (by omega)
  rw [hsz] at hc
  have hp : (insertionSort (ltOf cf) d a b).size = n := by
    rw [← hsz]
    have : ∀ (m i : Nat) (d : Array α), b - i = m → (insOuter (ltOf cf) a b i d).size = d.size := by
      intro m
      induction m with
      | zero => intro i d hm; rw [insOuter, if_neg (by omega)]
      | succ m ih =>
        intro i d hm
        rw [insOuter, if_pos (by omega), ih _ _ (by omega)]
        have : ∀ (j : Nat) (d : Array α), (insInner (ltOf cf) a j d).size = d.size := by
          intro j
          induction j with
          | zero => intro d; rfl
          | succ j ih => intro d; unfold insInner; split; · rw [ih, swp_size]
                         · rfl
        exact this i d
    exact this _ _ d rfl
  refine Calls.mono hc ?_
  rintro en w' ⟨rfl, m, os, rfl⟩
  refine ⟨rfl, extD_sortWorldK hx hB _ _ _ _, off_sortWorldK _ _ _ _ _ _, ?_, hp⟩
  exact own_sortedK hk hown _ hp
end
instance : Inhabited HCo := ⟨⟨none, 0, 0, 0, []⟩⟩
/-- By count, the greatest first. -/
def cntC (x y : HCo) : Int := cmpI y.cnt x.cnt
theorem refl1_any (x y : HCo) (w : World) : Calls Try.prog 54 #[coV x, coV y] w fun e w' => e = .returned (.int .i64 (cntC x y)) ∧ ExtD w w' := by
  go_enter Try.func54, Try.ntmps54
  go_wp2_with fail
  refine (cmpInt_any _ _ _).mono ?_
  rintro e w1 ⟨rfl, rfl⟩
  go_wp2_with fail
  go_ret
  exact ⟨rfl, (by repeat (first | exact ExtD.refl _ | assumption | refine ExtD.drew ?_ | refine ExtD.drewN ?_ _ | refine ExtD.alloc ?_ _ | refine ExtD.trans ?_ (by assumption)))⟩
/-- The greatest count first; of equal counts, the lesser cells. -/
def cmpT (p q : List Cl × Int) : Int := if cmpI q.2 p.2 = 0 then cmpCs p.1 q.1 else cmpI q.2 p.2
theorem cmpI_tot' : Tot (fun x y => cmpI y x) where
  anti x y := cmpI_tot.anti y x
  tri x y := cmpI_tot.tri y x
  zero h := (cmpI_tot.zero h).symm
  trans h1 h2 := cmpI_tot.trans h2 h1
theorem cmpT_tot : Tot cmpT := Tot.then (α := List Cl × Int) cmpI_tot' cmpCs_tot (fun p => p.2) (fun p => p.1) fun _ _ h1 h2 => Prod.ext h2 h1
theorem cmpT_cnt (x y : HCo) (h : cmpCs x.x y.x < 0) : ltOf (fun x y : HCo => cmpT (kp x) (kp y)) y x = ltOf cntC y x := by
  have := cmpCs_tot.anti x.x y.x
  refine decide_eq_decide.2 ?_
  show (if cmpI x.cnt y.cnt = 0 then cmpCs y.x x.x else cmpI x.cnt y.cnt) < 0 ↔ cmpI x.cnt y.cnt < 0
  by_cases e : cmpI x.cnt y.cnt = 0
  · rw [if_pos e, e]; omega
  · rw [if_neg e]
/-- What a stable sort by count leaves. -/
def StabRet (w w0 : World) (g n cap : Nat) (hs : List HCo) (en : Ending) (w' : World) : Prop :=
  en = .returned (.tuple #[]) ∧ Ext w w' ∧ Off g w0 w' ∧ ∃ ts : List HCo, ts.Perm hs ∧ ts.Pairwise (fun x y => ¬ cmpT (kp y) (kp x) < 0) ∧ OwnLC w.heap.size w' (.slice (some ⟨g, 0, none⟩) n cap) ts
theorem OwnLC.ne {w w0 : World} {g n cap : Nat} {hs : List HCo} (h : OwnLC w.heap.size w0 (.slice (some ⟨g, 0, none⟩) n cap) hs) : ∀ y ∈ hs, (Value.slice y.a y.n y.cap).ownBlock ≠ some g := fun y hy e1 => by
  obtain ⟨c1, h1⟩ := OwnK.blk (h.ok y hy) e1
  obtain ⟨c2, h2⟩ := OwnK.blk h.own (g := g) rfl
  rw [h1] at h2
  cases h2
theorem OwnLC.perm {w w0 w' : World} {g n cap : Nat} {hs ts : List HCo} (h : OwnLC w.heap.size w0 (.slice (some ⟨g, 0, none⟩) n cap) hs) (ho : Off g w0 w') (hp : ts.Perm hs) (hn : OwnK 2 HCo.enc w.heap.size 49 w' (.slice (some ⟨g, 0, none⟩) n cap) ts) : OwnLC w.heap.size w' (.slice (some ⟨g, 0, none⟩) n cap) ts :=
  ⟨hn, fun y hy => (h.ok y (hp.mem_iff.1 hy)).off ho (h.ne y (hp.mem_iff.1 hy))⟩
theorem ins_any {w w0 : World} {g n cap : Nat} {hs : List HCo} (hx : Ext w w0) (hown : OwnLC w.heap.size w0 (.slice (some ⟨g, 0, none⟩) n cap) hs) (hn : n ≤ 60000000) (a b : Nat) (hab : a ≤ b) (hb : b ≤ n) :
    Calls Try.prog 94 #[.slice (some ⟨g, 0, none⟩) n cap, .int .i64 a, .int .i64 b, .func (.func 54) #[] #[]] w0 fun en w' => en = .returned (.tuple #[]) ∧ Ext w w' ∧ Off g w0 w' ∧
      OwnK 2 HCo.enc w.heap.size 49 w' (.slice (some ⟨g, 0, none⟩) n cap) (insertionSort (ltOf cntC) hs.toArray a b).toList ∧ (insertionSort (ltOf cntC) hs.toArray a b).size = n :=
  insKO_any (k := 2) (enc := HCo.enc) { Try.sortC with } HCo.len HCo.one isAgg_corr sizeOf_corr cntC 54 #[] (enters_of Try.func54 (by kernel_rfl) rfl)
    (fun W x y _ _ => refl1_any x y W) hx hown.own hn a b hab hb
/-- The whole row sorted by insertion. -/
theorem ins_whole (hs : List HCo) (hR : hs.Pairwise (fun x y => cmpCs x.x y.x < 0)) :
    (insertionSort (ltOf cntC) hs.toArray 0 hs.length).toList.Perm hs ∧ (insertionSort (ltOf cntC) hs.toArray 0 hs.length).toList.Pairwise (fun x y => ¬ cmpT (kp y) (kp x) < 0) := by
  have he := insertionSort_eq (ltOf cntC) (ltOf (fun x y : HCo => cmpT (kp x) (kp y))) (fun x y => cmpCs x.x y.x < 0) cmpT_cnt hs.toArray 0 hs.length (by simp) (fun p q _ hpq hq => by
    rw [getElem!_pos hs.toArray p (by simp; omega), getElem!_pos hs.toArray q (by simpa using hq)]
    simpa using List.pairwise_iff_getElem.1 hR p q (by omega) hq hpq)
  rw [he]
  obtain ⟨hp, hso⟩ := insertionSort_holds (lt := ltOf (fun x y : HCo => cmpT (kp x) (kp y))) (swo_pre cmpT_tot kp) hs.toArray 0 hs.length (Nat.zero_le _) (by simp)
  generalize insertionSort (ltOf (fun x y : HCo => cmpT (kp x) (kp y))) hs.toArray 0 hs.length = d' at *
  have hsz : d'.size = hs.length := by rw [hp.1]; simp
  refine ⟨?_, ?_⟩
  · have := hp.2.2
    rw [← hsz, Array.extract_size] at this
    rw [hsz] at this
    have e2 : hs.toArray.extract 0 hs.length = hs.toArray := by
      simp
    rw [e2] at this
    exact this
  · rw [List.pairwise_iff_getElem]
    intro i j hi hj hij
    have h1 := hso i j (Nat.zero_le _) hij (by simp at hj; omega)
    simp at hi hj
    rw [getElem!_pos d' i hi, getElem!_pos d' j hj] at h1
    have h2 := of_decide_eq_false h1
    simpa using h2
theorem stab_small {w w0 : World} {g n cap : Nat} {hs : List HCo} (hx : Ext w w0) (hown : OwnLC w.heap.size w0 (.slice (some ⟨g, 0, none⟩) n cap) hs) (hR : hs.Pairwise (fun x y => cmpCs x.x y.x < 0)) (hn : n < 20) :
    Calls Try.prog 82 #[.slice (some ⟨g, 0, none⟩) n cap, .int .i64 n, .func (.func 54) #[] #[]] w0 (StabRet w w0 g n cap hs) := by
  have hl : hs.length = n := by have := (OwnK.ge hown.own).2.2.1; omega
  have hi := ins_any hx hown (by omega) 0 n (Nat.zero_le _) (Nat.le_refl _)
  have hw := ins_whole hs hR
  rw [hl] at hw
  have hd1 : decide ((20 : Int) ≤ (n : Int)) = false := by simp; omega
  have hd2 : decide ((20 : Int) < (n : Int)) = false := by simp; omega
  have hn1 : (n : Int) < 20 := by omega
  replace hl := Lib.hid hl
  replace hw := Lib.hid hw
  unfold StabRet
  generalize insertionSort (ltOf cntC) hs.toArray 0 n = d' at *
  go_enter Try.func82, Try.ntmps82
  go_wp2_with fail
  refine wp_loop_rounds 1 ?_
  rw [rounds_succ]
  go_wp2_with fail
  refine hi.mono ?_
  rintro e w1 ⟨rfl, hx1, ho1, hk1, hs1⟩
  go_wp2_with fail
  refine wp_loop_rounds 1 ?_
  rw [rounds_succ]
  go_wp2_with fail
  go_end0
  exact ⟨rfl, hx1, ho1, _, hw.out.1, hw.out.2, hown.perm ho1 hw.out.1 hk1⟩
/-- SortStableFunc by count at lists of at most N. -/
def StabC (N : Nat) : Prop := ∀ {w w0 : World} {g n cap : Nat} {hs : List HCo}, Ext w w0 → OwnLC w.heap.size w0 (.slice (some ⟨g, 0, none⟩) n cap) hs → hs.Pairwise (fun x y => cmpCs x.x y.x < 0) → n ≤ N →
  Calls Try.prog 53 #[.slice (some ⟨g, 0, none⟩) n cap, .func (.func 54) #[] #[]] w0 (StabRet w w0 g n cap hs)
theorem stab_19 : StabC 19 := by
  intro w w0 g n cap hs hx hown hR hn
  have h := stab_small hx hown hR (by omega)
  unfold StabRet at *
  go_enter Try.func53, Try.ntmps53
  go_wp2_with fail
  refine h.mono ?_
  rintro e w1 ⟨rfl, h2⟩
  replace h2 := Lib.hid h2
  go_wp2_with fail
  go_end0
  exact ⟨rfl, h2.out⟩
theorem stab_none (p : Option Addr) (cap : Nat) (fv : Value) (w : World) :
    Calls Try.prog 53 #[.slice p 0 cap, fv] w fun e w' => e = .returned (.tuple #[]) ∧ w' = w := by
  have h2 : ∀ W, Calls Try.prog 94 #[.slice p 0 cap, .int .i64 0, .int .i64 0, fv] W fun e w' => e = .returned (.tuple #[]) ∧ w' = W := by
    intro W
    go_enter Try.func94, Try.ntmps94
    go_wp2_with fail
    refine wp_loop_rounds 1 ?_
    rw [rounds_succ]
    go_wp2_with fail
    go_end0
    exact ⟨rfl, rfl⟩
  have h1 : ∀ W, Calls Try.prog 82 #[.slice p 0 cap, .int .i64 0, fv] W fun e w' => e = .returned (.tuple #[]) ∧ w' = W := by
    intro W
    go_enter Try.func82, Try.ntmps82
    go_wp2_with fail
    refine wp_loop_rounds 1 ?_
    rw [rounds_succ]
    go_wp2_with fail
    refine (h2 _).mono ?_
    rintro e w1 ⟨rfl, rfl⟩
    go_wp2_with fail
    refine wp_loop_rounds 1 ?_
    rw [rounds_succ]
    go_wp2_with fail
    go_end0
    exact ⟨rfl, rfl⟩
  go_enter Try.func53, Try.ntmps53
  go_wp2_with fail
  refine (h1 _).mono ?_
  rintro e w1 ⟨rfl, rfl⟩
  go_wp2_with fail
  go_end0
  exact ⟨rfl, rfl⟩
end Go.Proofs.Ytkdancoffmhjhaa
