/-
  Runs of a fixed length, each sorted, merged into runs of twice the length. Plain Lean: no program.
  slices.SortStableFunc at correspondences by count.
  The law CorrReflexes: the walk.
-/
import Derived.Test.YtkdancoffmhjhaaZb3
import Derived.Test.YtkdancoffmhjhaaZd
import Derived.Test.YtkdancoffmhjhaaLm
namespace Go.Proofs.Ytkdancoffmhjhaa
open Go.Sort
/-- Earlier ones lie before later ones, across the ends of runs. -/
def OrdB (bs n : Nat) (d : Array HCo) : Prop := ∀ t p q, p < t * bs → t * bs ≤ q → q < n → cmpCs d[p]!.x d[q]!.x < 0
/-- The runs that end before A (and the last one up to A) are sorted. -/
def SrtB (bs A : Nat) (d : Array HCo) : Prop := ∀ t p q, t * bs ≤ p → p < q → q < (t + 1) * bs → q < A → TT d[q]! d[p]! = false
/-- A phase: e has been turned into dk up to A. -/
structure Ph (bs A n : Nat) (e dk : Array HCo) : Prop where
  sz : dk.size = n
  per : PermIn 0 n e dk
  srt : SrtB bs A dk
  el : ∀ t, A ≤ t → dk[t]! = e[t]!
  ord : OrdB bs n dk
theorem Ph.start {bs n : Nat} {e : Array HCo} (hs : e.size = n) (ho : OrdB bs n e) : Ph bs 0 n e e := ⟨hs, permIn_refl _ _ _, fun _ _ _ _ _ _ h => by omega, fun _ _ => rfl, ho⟩
theorem Ph.step {bs A B n : Nat} {e dk d' : Array HCo} (h : Ph bs A n e dk) {t : Nat} (hA : A = t * bs) (hAB : A ≤ B) (hB : B ≤ A + bs) (hBn : B ≤ n) (hp : PermIn A B dk d') (hs : SortedIn TT A B d') : Ph bs B n e d' := by
  have h1 : (t + 1) * bs = A + bs := by rw [Nat.succ_mul, hA]
  have hz := h.sz
  refine ⟨hp.1.trans h.sz, permIn_trans _ _ _ 0 n h.per (permIn_mono dk d' A B 0 n (Nat.zero_le _) hBn (by omega) hp), fun u p q r1 r2 r3 r4 => ?_, fun u hu => (hp.2.1 u (.inr hu)).trans (h.el u (by omega)), fun u p q r1 r2 r3 => ?_⟩
  · by_cases hq : q < A
    · rw [hp.2.1 q (.inl hq), hp.2.1 p (.inl (by omega))]; exact h.srt u p q r1 r2 r3 hq
    · have hu : t ≤ u := by
        refine Decidable.byContradiction fun hn => ?_
        have := Nat.mul_le_mul_right bs (show u + 1 ≤ t by omega)
        omega
      have := Nat.mul_le_mul_right bs hu
      exact hs p q (by omega) r2 r4
  · -- across the end of a run
    have hin : ∀ v, A ≤ v → v < B → (v < u * bs ↔ A + bs ≤ u * bs) := fun v v1 v2 => by
      constructor
      · intro hv
        have : t + 1 ≤ u := by
          refine Decidable.byContradiction fun hn => ?_
          have := Nat.mul_le_mul_right bs (show u ≤ t by omega)
          omega
        have := Nat.mul_le_mul_right bs this
        omega
      · intro hv; omega
    by_cases hpA : A ≤ p ∧ p < B
    · have hu := (hin p hpA.1 hpA.2).1 r1
      rw [hp.2.1 q (.inr (by omega))]
      exact permIn_all dk d' A B (fun x => cmpCs x.x dk[q]!.x < 0) (by omega) hp (fun v v1 v2 => h.ord u v q (by omega) r2 r3) p hpA.1 hpA.2
    · rw [hp.2.1 p (by omega)]
      by_cases hqA : A ≤ q ∧ q < B
      · have hu : u * bs ≤ A := by
          refine Decidable.byContradiction fun hn => ?_
          have h2 : ¬ A + bs ≤ u * bs := fun h3 => by omega
          have : u ≤ t := by
            refine Decidable.byContradiction fun hn2 => ?_
            have := Nat.mul_le_mul_right bs (show t + 1 ≤ u by omega)
            omega
          have := Nat.mul_le_mul_right bs this
          omega
        exact permIn_all dk d' A B (fun x => cmpCs dk[p]!.x x.x < 0) (by omega) hp (fun v v1 v2 => h.ord u p v r1 (by omega) (by omega)) q hqA.1 hqA.2
      · rw [hp.2.1 q (by omega)]; exact h.ord u p q r1 r2 r3
theorem OrdB.twice {bs n : Nat} {d : Array HCo} (h : OrdB bs n d) : OrdB (2 * bs) n d := fun t p q h1 h2 h3 => by
  have e : t * (2 * bs) = (2 * t) * bs := by rw [← Nat.mul_assoc, Nat.mul_comm t 2]
  rw [e] at h1 h2
  exact h (2 * t) p q h1 h2 h3
/-- Two runs of e, as a merge wants them. -/
theorem Ph.two {bs A n : Nat} {e0 e dk : Array HCo} (he : Ph bs n n e0 e) (h : Ph (2 * bs) A n e dk) {t B : Nat} (hA : A = t * (2 * bs)) (hB : B ≤ A + 2 * bs) (hBn : B ≤ n) :
    A + bs ≤ B → SortedIn TT A (A + bs) dk ∧ SortedIn TT (A + bs) B dk ∧ Agr dk A (A + bs) B := by
  intro hab
  have e1 : A = (2 * t) * bs := by rw [hA, ← Nat.mul_assoc, Nat.mul_comm t 2]
  have e2 : A + bs = (2 * t + 1) * bs := by rw [Nat.succ_mul, ← e1]
  have e3 : A + 2 * bs = (2 * t + 1 + 1) * bs := by have h5 : (2 * t + 1 + 1) * bs = (2 * t + 1) * bs + bs := Nat.succ_mul _ _; omega
  refine ⟨fun p q h1 h2 h3 => ?_, fun p q h1 h2 h3 => ?_, fun p q h1 h2 h3 h4 => ?_⟩
  · rw [h.el p h1, h.el q (by omega)]
    exact he.srt (2 * t) p q (by omega) h2 (by omega) (by omega)
  · rw [h.el p (by omega), h.el q (by omega)]
    exact he.srt (2 * t + 1) p q (by omega) h2 (by omega) (by omega)
  · rw [h.el p h1, h.el q (by omega)]
    exact cmpT_cnt _ _ (he.ord (2 * t + 1) p q (by omega) (by omega) (by omega))
theorem Ph.one {bs A n : Nat} {e0 e dk : Array HCo} (he : Ph bs n n e0 e) (h : Ph (2 * bs) A n e dk) {t : Nat} (hA : A = t * (2 * bs)) (hn : n ≤ A + bs) : SortedIn TT A n dk := by
  have e1 : A = (2 * t) * bs := by rw [hA, ← Nat.mul_assoc, Nat.mul_comm t 2]
  have e2 : A + bs = (2 * t + 1) * bs := by rw [Nat.succ_mul, ← e1]
  intro p q h1 h2 h3
  rw [h.el p h1, h.el q (by omega)]
  exact he.srt (2 * t) p q (by omega) h2 (by omega) h3
/-- A run of e, as it lies before it is sorted by insertion. -/
theorem Ph.ins {A n B : Nat} {e dk : Array HCo} (h : Ph 20 A n e dk) (hR : ∀ p q, p < q → q < n → cmpCs e[p]!.x e[q]!.x < 0) (hB : B ≤ n) (hAB : A ≤ B) :
    PermIn A B dk (insertionSort (ltOf cntC) dk A B) ∧ SortedIn TT A B (insertionSort (ltOf cntC) dk A B) := by
  have hz := h.sz
  have he := insertionSort_eq (ltOf cntC) TT (fun x y => cmpCs x.x y.x < 0) cmpT_cnt dk A B (by omega) (fun p q h1 h2 h3 => by
    rw [h.el p h1, h.el q (by omega)]; exact hR p q h2 (by omega))
  rw [he]
  exact insertionSort_holds (lt := TT) swo_TT dk A B hAB (by omega)
end Go.Proofs.Ytkdancoffmhjhaa
namespace Go.Proofs.Ytkdancoffmhjhaa
open Go.RowKit Go.Shelf Go.Sort
theorem Off.trans {g : Nat} {a b c : World} (h : Off g a b) (k : Off g b c) : Off g a c := ⟨Nat.le_trans h.le k.le, fun i hi hne => (k.block i (Nat.lt_of_lt_of_le hi h.le) hne).trans (h.block i hi hne)⟩
theorem insW_any {w w0 W : World} {g n cap : Nat} {d : Array HCo} (h : SW w w0 g n cap d W) (hn : n ≤ 60000000) (a b : Nat) (hab : a ≤ b) (hb : b ≤ n) :
    Calls Try.prog 94 #[.slice (some ⟨g, 0, none⟩) n cap, .int .i64 a, .int .i64 b, .func (.func 54) #[] #[]] W fun en w' => en = .returned (.tuple #[]) ∧ SW w w0 g n cap (insertionSort (ltOf cntC) d a b) w' := by
  have := insKO_any (k := 2) (enc := HCo.enc) { Try.sortC with } HCo.len HCo.one isAgg_corr sizeOf_corr cntC 54 #[] (enters_of Try.func54 (by kernel_rfl) rfl)
    (fun W x y _ _ => refl1_any x y W) h.ext h.own hn a b hab hb
  refine Calls.mono this ?_
  rintro en w' ⟨rfl, r1, r2, r3, _⟩
  exact ⟨rfl, by simpa using r3, r1, h.off.trans r2⟩
set_option maxHeartbeats 1000000 in
set_option maxRecDepth 20000 in
theorem stable_any {w w0 : World} {g n cap : Nat} {hs : List HCo} (hx : Ext w w0) (hown : OwnLC w.heap.size w0 (.slice (some ⟨g, 0, none⟩) n cap) hs) (hR : hs.Pairwise (fun x y => cmpCs x.x y.x < 0)) (hn : n ≤ 60000000) :
    Calls Try.prog 82 #[.slice (some ⟨g, 0, none⟩) n cap, .int .i64 n, .func (.func 54) #[] #[]] w0 (StabRet w w0 g n cap hs) := by
  have hl : hs.length = n := by have := (OwnK.ge hown.own).2.2.1; omega
  obtain ⟨d, rfl⟩ : ∃ d : Array HCo, d.toList = hs := ⟨hs.toArray, rfl⟩
  have hds : d.size = n := by simpa using hl
  have h0 : SW w w0 g n cap d w0 := ⟨hown.own, hx, Off.refl _ _⟩
  have hRd : ∀ p q, p < q → q < n → cmpCs d[p]!.x d[q]!.x < 0 := fun p q h1 h2 => by
    have := List.pairwise_iff_getElem.1 hR p q (by simp; omega) (by simp; omega) h1
    rw [getElem!_pos d p (by omega), getElem!_pos d q (by omega)]
    simpa using this
  have hO : OrdB 20 n d := fun t p q h1 h2 h3 => hRd p q (by omega) h3
  have hend : ∀ (bs : Nat) (e0 e : Array HCo) (W : World), n ≤ bs → Ph bs n n e0 e → PermIn 0 n d e → SW w w0 g n cap e W → Ext w W ∧ Off g w0 W ∧ ∃ ts : List HCo, ts.Perm d.toList ∧ ts.Pairwise (fun x y => ¬ cmpT (kp y) (kp x) < 0) ∧ OwnLC w.heap.size W (.slice (some ⟨g, 0, none⟩) n cap) ts := by
    intro bs e0 e W hbs hph hper hs
    have hes := hs.ge.2.2
    have hp : e.toList.Perm d.toList := by
      have := hper.2.2
      rw [← hes, Array.extract_size] at this
      rw [hes, ← hds, Array.extract_size] at this
      exact this
    refine ⟨hs.ext, hs.off, e.toList, hp, ?_, hown.perm hs.off hp hs.own⟩
    rw [List.pairwise_iff_getElem]
    intro i j hi hj hij
    simp at hi hj
    have h1 := hph.srt 0 i j (by omega) hij (by omega) (by omega)
    rw [getElem!_pos e i hi, getElem!_pos e j hj] at h1
    have h2 := of_decide_eq_false h1
    simpa using h2
  unfold StabRet
  replace hend := Lib.hid hend
  replace hRd := Lib.hid hRd
  replace hl := Lib.hid hl
  replace hds := Lib.hid hds
  clear hR
  go_enter Try.func82, Try.ntmps82
  go_wp2_with fail
  go_loopw [7, 8] (fun u v wr => ∃ (t A : Nat) (dk : Array HCo), Hid (A = t * 20) ∧ A ≤ n ∧ u = .int .i64 A ∧ v = .int .i64 ((A : Int) + 20) ∧ Hid (Ph 20 A n d dk) ∧ SW w w0 g n cap dk wr) (fun u _ _ => n - (intOf u).toNat)
  case atStart => exact ⟨0, 0, d, Lib.hid rfl, Nat.zero_le _, rfl, rfl, Lib.hid (Ph.start hds.out hO), h0⟩
  case round =>
    obtain ⟨t, A, dk, hA, hAn, rfl, rfl, hph, hs⟩ := hrel
    by_cases hlt : A + 20 ≤ n
    · have d1 : decide ((A : Int) + 20 ≤ (n : Int)) = true := by simp; omega
      obtain ⟨B, hB⟩ : ∃ B, B = A + 20 := ⟨_, rfl⟩
      have eB : (A : Int) + 20 = (B : Int) := by omega
      have hwB : IntKind.i64.wrap ((B : Int) + 20) = (B : Int) + 20 := IntWalk.i64_in _ (by omega)
      have hin := insW_any hs hn A B (by omega) (by omega)
      obtain ⟨r1, r2⟩ := hph.out.ins (B := B) hRd.out (by omega) (by omega)
      have hph2 := hph.out.step hA.out (show A ≤ B by omega) (by omega) (by omega) r1 r2
      have hA2 : Hid (B = (t + 1) * 20) := Lib.hid (by rw [Nat.succ_mul, ← hA.out]; omega)
      have hBb : A < B ∧ B ≤ n := by omega
      rw [eB] at d1
      rw [eB]
      replace hB := Lib.hid hB
      replace hph2 := Lib.hid hph2
      clear r1 r2 hlt
      go_wp2_with fail
      refine hin.mono ?_
      rintro e w2 ⟨rfl, hs2⟩
      go_wp2_with fail
      (first | exact ⟨⟨t + 1, B, _, hA2, by omega, rfl, by go_num, hph2, hs2⟩, (by simp [intOf]; omega)⟩ | (go_roundw; case rel => exact ⟨t + 1, B, _, hA2, by omega, rfl, by go_num, hph2, hs2⟩; case measure => exact (by simp [intOf]; omega)))
    · have d1 : decide ((A : Int) + 20 ≤ (n : Int)) = false := by simp; omega
      have hin := insW_any hs hn A n hAn (Nat.le_refl _)
      obtain ⟨r1, r2⟩ := hph.out.ins (B := n) hRd.out (Nat.le_refl _) hAn
      have hph2 := hph.out.step hA.out hAn (by omega) (Nat.le_refl _) r1 r2
      replace hph2 := Lib.hid hph2
      replace hlt := Lib.hid hlt
      clear r1 r2
      go_wp2_with fail
      refine hin.mono ?_
      rintro e w2 ⟨rfl, hs2⟩
      generalize insertionSort (ltOf cntC) dk A n = d2 at *
      go_wp2_with fail
      go_loopw [6, 7, 8, 9] (fun u _ _ _ wr => ∃ (bs : Nat) (e0 e : Array HCo), 20 ≤ bs ∧ bs ≤ 120000000 ∧ u = .int .i64 bs ∧ Hid (Ph bs n n e0 e) ∧ Hid (PermIn 0 n d e) ∧ SW w w0 g n cap e wr) (fun u _ _ _ _ => n - (intOf u).toNat)
      case atStart => exact ⟨20, d, d2, Nat.le_refl _, by omega, rfl, hph2, Lib.hid hph2.out.per, hs2⟩
      case round =>
        obtain ⟨bs, e0, e, hb20, hbm, rfl, hpe, hpd, hse⟩ := hrel
        by_cases hbn : bs < n
        · have db : decide ((bs : Int) < (n : Int)) = true := by simp; omega
          obtain ⟨B2, hB2⟩ : ∃ B2, B2 = 2 * bs := ⟨_, rfl⟩
          have eB2 : (2 : Int) * (bs : Int) = (B2 : Int) := by omega
          have eB3 : (bs : Int) * 2 = (B2 : Int) := by omega
          have hwB2 : IntKind.i64.wrap (B2 : Int) = (B2 : Int) := IntWalk.i64_in _ (by omega)
          have hes := hse.ge.2.2
          have hBb : bs < B2 ∧ B2 ≤ 120000000 := by omega
          replace hB2 := Lib.hid hB2
          go_wp2_with fail
          go_loopw [7, 8] (fun u v wr => ∃ (t A : Nat) (dk : Array HCo), Hid (A = t * (2 * bs)) ∧ A ≤ n ∧ u = .int .i64 A ∧ v = .int .i64 ((A : Int) + (B2 : Int)) ∧ Hid (Ph (2 * bs) A n e dk) ∧ SW w w0 g n cap dk wr) (fun u _ _ => n - (intOf u).toNat)
          case atStart => exact ⟨0, 0, e, Lib.hid (by simp), Nat.zero_le _, rfl, by simp, Lib.hid (Ph.start hes hpe.out.ord.twice), hse⟩
          case round =>
            obtain ⟨t, A, dk, hA, hAn, rfl, rfl, hph, hs⟩ := hrel
            obtain ⟨Bb, hBB⟩ : ∃ Bb, Bb = A + B2 := ⟨_, rfl⟩
            have eBB : (A : Int) + (B2 : Int) = (Bb : Int) := by omega
            obtain ⟨M, hM⟩ : ∃ M, M = A + bs := ⟨_, rfl⟩
            have eM : (A : Int) + (bs : Int) = (M : Int) := by omega
            have hwM : IntKind.i64.wrap (M : Int) = M := IntWalk.i64_in _ (by omega)
            have hwBB : IntKind.i64.wrap ((Bb : Int) + (B2 : Int)) = (Bb : Int) + (B2 : Int) := IntWalk.i64_in _ (by omega)
            have hzB := hB2.out
            rw [eBB]
            by_cases hlt : Bb ≤ n
            · have d1 : decide ((Bb : Int) ≤ (n : Int)) = true := by simp; omega
              obtain ⟨r1, r2, r3⟩ := Ph.two hpe.out hph.out hA.out (B := Bb) (by omega) hlt (by omega)
              rw [← hM] at r1 r2 r3
              have hmg := symM_any hn n hs A M Bb (by omega) (by omega) (by omega) hlt r1 r2 r3
              have hA2 : Hid (Bb = (t + 1) * (2 * bs)) := Lib.hid (by rw [Nat.succ_mul, ← hA.out]; omega)
              have hst : ∀ d', PermIn A Bb dk d' → SortedIn TT A Bb d' → Ph (2 * bs) Bb n e d' := fun d' u1 u2 => hph.out.step hA.out (by omega) (by omega) hlt u1 u2
              have hAB : A < Bb := by omega
              replace hBB := Lib.hid hBB
              replace hM := Lib.hid hM
              replace hst := Lib.hid hst
              unfold MrgRet at hmg
              clear r1 r2 r3 hzB
              go_wp2_with fail
              refine hmg.mono ?_
              rintro e' w3 ⟨rfl, d3, u1, u2, hs3⟩
              have hph3 := Lib.hid (hst.out d3 u1 u2)
              clear u1 u2 hmg
              go_wp2_with fail
              (first | exact ⟨⟨t + 1, Bb, _, hA2, hlt, rfl, by go_num, hph3, hs3⟩, (by simp [intOf]; omega)⟩ | (go_roundw; case rel => exact ⟨t + 1, Bb, _, hA2, hlt, rfl, by go_num, hph3, hs3⟩; case measure => exact (by simp [intOf]; omega)))
            · have d1 : decide ((Bb : Int) ≤ (n : Int)) = false := by simp; omega
              have hpd2 : PermIn 0 n d dk := permIn_trans _ _ _ 0 n hpd.out hph.out.per
              by_cases hMn : M < n
              · have dM : decide ((M : Int) < (n : Int)) = true := by simp; omega
                obtain ⟨r1, r2, r3⟩ := Ph.two hpe.out hph.out hA.out (B := n) (by omega) (Nat.le_refl _) (by omega)
                rw [← hM] at r1 r2 r3
                have hmg := symM_any hn n hs A M n (by omega) (by omega) hMn (Nat.le_refl _) r1 r2 r3
                have hst : ∀ d', PermIn A n dk d' → SortedIn TT A n d' → Ph B2 n n e d' := fun d' u1 u2 => by
                  rw [hzB]; exact hph.out.step hA.out hAn (by omega) (Nat.le_refl _) u1 u2
                have hpd3 : ∀ d', PermIn A n dk d' → PermIn 0 n d d' := fun d' u1 => permIn_trans _ _ _ 0 n hpd2 (permIn_mono dk d' A n 0 n (Nat.zero_le _) (Nat.le_refl _) (by have := hs.ge.2.2; omega) u1)
                replace hBB := Lib.hid hBB
                replace hM := Lib.hid hM
                replace hst := Lib.hid hst
                replace hpd3 := Lib.hid hpd3
                replace hpd2 := Lib.hid hpd2
                replace hlt := Lib.hid hlt
                unfold MrgRet at hmg
                clear r1 r2 r3 hzB
                go_wp2_with fail
                refine hmg.mono ?_
                rintro e' w3 ⟨rfl, d3, u1, u2, hs3⟩
                have hph3 := Lib.hid (hst.out d3 u1 u2)
                have hpd4 := Lib.hid (hpd3.out d3 u1)
                clear u1 u2 hmg
                go_wp2_with fail
                (first | exact ⟨⟨B2, e, d3, by omega, by omega, rfl, hph3, hpd4, hs3⟩, (by simp [intOf]; omega)⟩ | (go_roundw; case rel => exact ⟨B2, e, d3, by omega, by omega, rfl, hph3, hpd4, hs3⟩; case measure => exact (by simp [intOf]; omega)))
              · have dM : decide ((M : Int) < (n : Int)) = false := by simp; omega
                have hone := Ph.one hpe.out hph.out hA.out (by omega)
                have hph3 : Ph B2 n n e dk := by
                  rw [hzB]; exact hph.out.step hA.out hAn (by omega) (Nat.le_refl _) (permIn_refl _ _ _) hone
                replace hBB := Lib.hid hBB
                replace hM := Lib.hid hM
                replace hlt := Lib.hid hlt
                replace hMn := Lib.hid hMn
                replace hph3 := Lib.hid hph3
                replace hpd2 := Lib.hid hpd2
                clear hone hzB
                go_wp2_with fail
                (first | exact ⟨⟨B2, e, dk, by omega, by omega, rfl, hph3, hpd2, hs⟩, (by simp [intOf]; omega)⟩ | (go_roundw; case rel => exact ⟨B2, e, dk, by omega, by omega, rfl, hph3, hpd2, hs⟩; case measure => exact (by simp [intOf]; omega)))
        · have db : decide ((bs : Int) < (n : Int)) = false := by simp; omega
          obtain ⟨r1, r2, r3⟩ := hend.out bs e0 e wr (by omega) hpe.out hpd.out hse
          replace r3 := Lib.hid r3
          replace hbn := Lib.hid hbn
          go_wp2_with fail
          go_end0
          exact ⟨rfl, r1, r2, r3.out⟩
theorem stab_all : StabC 60000000 := by
  intro w w0 g n cap hs hx hown hR hn
  have h := stable_any hx hown hR hn
  unfold StabRet at *
  go_enter Try.func53, Try.ntmps53
  go_wp2_with fail
  refine h.mono ?_
  rintro e w1 ⟨rfl, h2⟩
  replace h2 := Lib.hid h2
  go_wp2_with fail
  go_end0
  exact ⟨rfl, h2.out⟩
end Go.Proofs.Ytkdancoffmhjhaa
namespace Go.Proofs.Ytkdancoffmhjhaa
open Go.RowKit Go.Shelf
open Classical in
/-- The list by count, if it can be put so. -/
noncomputable def byCnt (L : List (List Cl × Int)) : List (List Cl × Int) := if h : ∃ A, ByCnt L A then h.choose else []
theorem byCnt_is {L A : List (List Cl × Int)} (h : ByCnt L A) : A = byCnt L := by
  unfold byCnt
  rw [dif_pos ⟨A, h⟩]
  exact byCnt_uniq h (Exists.choose_spec (⟨A, h⟩ : ∃ A, ByCnt L A))
/-- What the chosen ones add up to. -/
def facS (l : List HCo) (f t : Int) (x : Cl) : List (List Cl × Int) := sumL ((facL f.toNat t.toNat x l).map kp)
def reflE (l : List HCo) (f t : Int) (x : Cl) : Int := if askE l f t x x = 0 then sumE (facS l f t x) else askE l f t x x
noncomputable def reflL (l : List HCo) (f t : Int) (x : Cl) : List (List Cl × Int) := if askE l f t x x = 0 then (if sumE (facS l f t x) = 0 then byCnt (facS l f t x) else []) else []
theorem refl_v {l : List HCo} {f t : Int} {x : Cl} {w : World} {e : Ending} {w' : World} (h : ReflRet l f t x w e w') : ListRet (reflL l f t x) (reflE l f t x) w e w' := by
  rcases h with ⟨h0, rfl, hx⟩ | ⟨h0, L, hL, v, hs, rfl, ho, h1, h2, hx⟩
  · refine ⟨none, 0, 0, [], ?_, rdh_none _, ?_, hx⟩
    · unfold reflE; rw [if_neg h0]
    · unfold reflL; rw [if_neg h0]; rfl
  · have hL2 : L = facS l f t x := sumK_is hL
    subst hL2
    obtain ⟨a, n, cap, hn, rfl, hr⟩ := OwnK.rdn HCo.len ho.own
    refine ⟨a, n, cap, hs, ?_, ⟨hr, ho.ok⟩, ?_, hx⟩
    · unfold reflE; rw [if_pos h0]
    · unfold reflL; rw [if_pos h0]
      by_cases h7 : sumE (facS l f t x) = 0
      · rw [if_pos h7]; exact byCnt_is (h1 h7)
      · rw [if_neg h7, h2 h7]; rfl
theorem reflexes_any (a : Option Addr) (n cap : Nat) (l : List HCo) (f t : Int) (x : Cl) (w : World) (hr : RdH w a n cap l) :
    Calls Try.prog 24 #[.slice a n cap, .int .i64 f, .int .i64 t, clV x] w (ReflRet l f t x w) :=
  reflexes_of stab_all a n cap l f t x w hr fun h0 => by
    have := ((chkE_all (askE_zero h0).1).1 l (by simp)).1
    omega
set_option maxHeartbeats 1000000 in
theorem corrReflexes_any (a : Option Addr) (n cap : Nat) (l : List HCo) (f t : Int) (x : Cl) (w : World) (hr : RdH w a n cap l) :
    Calls Try.prog 5 #[.slice a n cap, .agg #[.int .i64 f, .int .i64 t], clV x] w fun e w' => e = .returned (.bool true) ∧ Ext w w' := by
  have hm1 := hr.max
  have hA := fun W (z : Ext w W) => (reflexes_any a n cap l f t x W (hr.ext z)).mono (fun _ _ h => refl_v h)
  have hB := fun W (z : Ext w W) => (rreflexes_any a n cap l f t x W (hr.ext z)).mono (fun _ _ h => refl_v h)
  unfold ListRet at hA hB
  generalize reflL l f t x = L at *
  generalize reflE l f t x = E at *
  have hw0 : (E == E) = true := by simp
  by_cases h1 : n ≤ 60 ∨ 4096 < n ∧ n ≤ 5000
  · have d1 : decide (n ≤ 60 ∨ 4096 < n ∧ n ≤ 5000) = true := decide_eq_true h1
    replace h1 := Lib.hid h1
    replace d1 := Lib.hid d1
    have q0 : ((w.alloc (.cells #[.int .i64 f, .int .i64 t] 34)).alloc (.cells #[.int .i64 x.kind, .int .u32 x.s.p.toNat, .int .u32 x.s.m.toNat] 39)).cell? ⟨w.heap.size, 0, none⟩ = some (.int .i64 f) := by go_simp
    have q1 : ((w.alloc (.cells #[.int .i64 f, .int .i64 t] 34)).alloc (.cells #[.int .i64 x.kind, .int .u32 x.s.p.toNat, .int .u32 x.s.m.toNat] 39)).cell? ⟨w.heap.size, 1, none⟩ = some (.int .i64 t) := by go_simp
    have q2 : ((w.alloc (.cells #[.int .i64 f, .int .i64 t] 34)).alloc (.cells #[.int .i64 x.kind, .int .u32 x.s.p.toNat, .int .u32 x.s.m.toNat] 39)).cell? ⟨w.heap.size + 1, 0, none⟩ = some (.int .i64 x.kind) := by go_simp
    have q3 : ((w.alloc (.cells #[.int .i64 f, .int .i64 t] 34)).alloc (.cells #[.int .i64 x.kind, .int .u32 x.s.p.toNat, .int .u32 x.s.m.toNat] 39)).cell? ⟨w.heap.size + 1, 1, none⟩ = some (.int .u32 x.s.p.toNat) := by go_simp
    have q4 : ((w.alloc (.cells #[.int .i64 f, .int .i64 t] 34)).alloc (.cells #[.int .i64 x.kind, .int .u32 x.s.p.toNat, .int .u32 x.s.m.toNat] 39)).cell? ⟨w.heap.size + 1, 2, none⟩ = some (.int .u32 x.s.m.toNat) := by go_simp
    have hxB : Ext w ((w.alloc (.cells #[.int .i64 f, .int .i64 t] 34)).alloc (.cells #[.int .i64 x.kind, .int .u32 x.s.p.toNat, .int .u32 x.s.m.toNat] 39)) := (by repeat (first | exact Ext.refl _ | refine Ext.drew ?_ | refine Ext.drewN ?_ _ | refine Ext.alloc ?_ _))
    go_enter Try.func5, Try.ntmps5
    go_wp2_with fail
    generalize ((w.alloc (.cells #[.int .i64 f, .int .i64 t] 34)).alloc (.cells #[.int .i64 x.kind, .int .u32 x.s.p.toNat, .int .u32 x.s.m.toNat] 39)) = wB at *
    refine (few_any _ n _ _ (by assumption)).mono ?_
    rintro e wf ⟨rfl, hwf⟩
    subst wf
    rw [d1.out]
    go_wp2_with fail
    have hA1 := hA _ hxB
    refine hA1.mono ?_
    rintro e w1 ⟨a1, n1, c1, hs1, rfl, hr1, hk1, hx1⟩
    have s0 := hx1.cellv q0
    have s1 := hx1.cellv q1
    have s2 := hx1.cellv q2
    have s3 := hx1.cellv q3
    have s4 := hx1.cellv q4
    have hl0 := cell_lt s0
    have hl1 := cell_lt s2
    simp only at hl0 hl1
    have hB1 := hB _ (hxB.trans hx1)
    clear q0 q1 q2 q3 q4 hA hB hA1
    go_wp2_with fail
    refine hB1.mono ?_
    rintro e w2 ⟨a2, n2, c2, hs2, rfl, hr2, hk2, hx2⟩
    have hsame := same_any a1 n1 c1 hs1 a2 n2 c2 hs2 w2 (hr1.ext hx2) hr2
    rw [hk1, hk2, decide_eq_true rfl] at hsame
    have hxw2 := (hxB.trans hx1).trans hx2
    clear s0 s1 s2 s3 s4 hB1 hk1 hk2
    go_wp2_with fail
    refine hsame.mono ?_
    rintro e w3 ⟨rfl, hx3⟩
    go_wp2_with fail
    refine (works_any _).mono ?_
    rintro e wz ⟨rfl, hxz⟩
    go_wp2_with fail
    go_ret
    exact ⟨rfl, (by repeat (first | exact Ext.refl _ | assumption | refine Ext.drew ?_ | refine Ext.drewN ?_ _ | refine Ext.alloc ?_ _ | refine Ext.trans ?_ (by assumption)))⟩
  · have d1 : decide (n ≤ 60 ∨ 4096 < n ∧ n ≤ 5000) = false := decide_eq_false h1
    replace h1 := Lib.hid h1
    replace d1 := Lib.hid d1
    go_enter Try.func5, Try.ntmps5
    go_wp2_with fail
    refine (few_any _ n _ _ (by assumption)).mono ?_
    rintro e wf ⟨rfl, hwf⟩
    subst wf
    rw [d1.out]
    go_wp2_with fail
    refine (works_any _).mono ?_
    rintro e wz ⟨rfl, hxz⟩
    go_wp2_with fail
    go_ret
    exact ⟨rfl, (by repeat (first | exact Ext.refl _ | assumption | refine Ext.drew ?_ | refine Ext.drewN ?_ _ | refine Ext.alloc ?_ _ | refine Ext.trans ?_ (by assumption)))⟩
end Go.Proofs.Ytkdancoffmhjhaa
