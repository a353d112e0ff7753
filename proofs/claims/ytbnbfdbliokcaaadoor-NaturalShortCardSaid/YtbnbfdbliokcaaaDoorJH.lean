/-
  NaturalShort: the shortest condition, plain.
  NaturalShort, walked.
-/
import Derived.Test.YtbnbfdbliokcaaaDoorJD
namespace Go.Proofs.YtbnbfdbliokcaaaDoor
open Go.RowKit
theorem nodup_len {α : Type} [DecidableEq α] : ∀ {l m : List α}, l.Nodup → (∀ a ∈ l, a ∈ m) → l.length ≤ m.length
  | [], _, _, _ => Nat.zero_le _
  | x :: l, m, hn, h => by
    have hx := h x (List.mem_cons_self ..)
    obtain ⟨h1, h2⟩ := List.nodup_cons.1 hn
    have := nodup_len (l := l) (m := m.erase x) h2 fun a ha => (List.mem_erase_of_ne (fun e : a = x => h1 (e ▸ ha))).2 (h a (List.mem_cons_of_mem _ ha))
    rw [List.length_erase_of_mem hx] at this
    have hp : 0 < m.length := List.length_pos_of_mem hx
    simp only [List.length_cons]
    omega
theorem partB_sub (xs : List Snd) (B : BitVec 32) : ∀ k, k ≤ xs.length → (partB xs B k).Sublist (xs.take k)
  | 0, _ => by simp [partB]
  | k + 1, hk => by
    have hx : xs[k]? = some (xs[k]'(by omega)) := List.getElem?_eq_getElem (by omega)
    have ih := partB_sub xs B k (by omega)
    rw [partB_succ hx, take_succ_at hx]
    split
    · exact List.Sublist.append ih (List.Sublist.refl _)
    · exact ih.trans (List.sublist_append_left _ _)
theorem partB_nodup {xs : List Snd} (B : BitVec 32) (h : xs.Nodup) : (partB xs B xs.length).Nodup := by
  have h1 := partB_sub xs B xs.length (Nat.le_refl _)
  rw [List.take_length] at h1
  exact List.Pairwise.sublist h1 h
theorem memN_len (xs : List Snd) (c : Snd) : ∀ k, k ≤ xs.length → (memN xs c k).length = ((xs.take k).filter fun s => satB s c).length
  | 0, _ => by simp [memN]
  | k + 1, hk => by
    have hx : xs[k]? = some (xs[k]'(by omega)) := List.getElem?_eq_getElem (by omega)
    have ih := memN_len xs c k (by omega)
    rw [memN_succ hx, take_succ_at hx, List.filter_append, List.length_append, ← ih]
    split
    · rename_i h
      rw [List.length_append]; simp [h]
    · rename_i h
      simp [h]
theorem memL_len (xs : List Snd) (c : Snd) : (memL xs c).length = (clsS xs c).length := by
  rw [memL_N, List.length_map, memN_len xs c _ (Nat.le_refl _), List.take_length]; rfl
theorem isB_iff {xs X : List Snd} (hE : closE xs X = 0) : isB xs X = true ↔ ∀ s ∈ clsS xs (comS X), s ∈ X := by
  constructor
  · intro h s hs
    obtain ⟨h1, h2⟩ := mem_cls.1 hs
    exact (isB_mem h h1).2 h2
  · intro h
    unfold isB
    rw [hE, (cl_good hE).2, memL_N]
    simp only [decide_true, Bool.true_and, List.all_map]
    rw [List.all_eq_true]
    intro i hi
    have h1 := memN_lt xs (comS X) _ i hi
    show inAt xs _ (Int.ofNat i) = true
    unfold inAt
    have h2 : (Int.ofNat i).toNat = i := rfl
    rw [h2, List.getElem?_eq_getElem h1]
    simp only [decide_eq_true_eq]
    apply h
    have h3 : xs[i] ∈ (memN xs (comS X) xs.length).filterMap (fun i => xs[i]?) := List.mem_filterMap.2 ⟨i, hi, List.getElem?_eq_getElem h1⟩
    rwa [memN_cls] at h3
theorem isB_len {xs X : List Snd} (hE : closE xs X = 0) (hn : xs.Nodup) (hX : X.Nodup) (hs : ∀ x ∈ X, x ∈ xs) : isB xs X = decide ((memL xs (comS X)).length = X.length) := by
  rw [memL_len, Bool.eq_iff_iff, isB_iff hE, decide_eq_true_eq]
  have hsub := sub_cls hs
  have hC : (clsS xs (comS X)).Nodup := List.Pairwise.sublist List.filter_sublist hn
  constructor
  · intro h
    have h1 := nodup_len hX hsub
    have h2 := nodup_len hC h
    omega
  · intro h s hs
    apply Classical.byContradiction
    intro hns
    have h1 := nodup_len (l := s :: X) (m := clsS xs (comS X)) (List.nodup_cons.2 ⟨hns, hX⟩) (fun a ha => by
      rcases List.mem_cons.1 ha with rfl | h2
      · exact hs
      · exact hsub a h2)
    simp only [List.length_cons] at h1
    omega
/-! ### The least set of features -/
theorem hitFrom_least {l : List (BitVec 32)} {s : BitVec 32} : ∀ {k}, k ≤ 25 → hitFrom l k = some s → ∃ m, 25 - k ≤ m ∧ m ≤ 24 ∧ hit 24 m l = some s ∧ ∀ m', 25 - k ≤ m' → m' < m → hit 24 m' l = none
  | 0, _, h => by cases h
  | k + 1, hk, h => by
    unfold hitFrom at h
    split at h
    · rename_i s' h1
      cases h
      exact ⟨24 - k, by omega, by omega, h1, fun m' h2 h3 => absurd h3 (by omega)⟩
    · rename_i h1
      obtain ⟨m, h2, h3, h4, h5⟩ := hitFrom_least (k := k) (by omega) h
      refine ⟨m, by omega, h3, h4, fun m' h6 h7 => ?_⟩
      by_cases e : m' = 24 - k
      · rw [e]; exact h1
      · exact h5 m' (by omega) h7
theorem hitFrom_ne {l : List (BitVec 32)} (h : hit 24 24 l ≠ none) : ∀ k, 0 < k → hitFrom l k ≠ none
  | 0, hk => absurd hk (by omega)
  | k + 1, _ => by
    unfold hitFrom
    split
    · simp
    · rename_i h1
      by_cases e : k = 0
      · subst e; exact absurd h1 h
      · exact hitFrom_ne h k (by omega)
/-- What is found has one of each set, and none of fewer features has. -/
theorem least_spec {l : List (BitVec 32)} (h : ∀ x ∈ l, ∃ i, i < 24 ∧ x.getLsbD i = true) :
    (∀ x ∈ l, x &&& leastHit l ≠ 0#32) ∧ (∀ i, (leastHit l).getLsbD i = true → i < 24) ∧ ∀ T : BitVec 32, (∀ x ∈ l, x &&& T ≠ 0#32) → (∀ i, T.getLsbD i = true → i < 24) → cntB (leastHit l) ≤ cntB T := by
  have h1 := hitFrom_ne (hit_24 h) 25 (by omega)
  cases h2 : hitFrom l 25 with
  | none => exact absurd h2 h1
  | some s =>
    have hs : leastHit l = s := by unfold leastHit; rw [h2]; rfl
    rw [hs]
    obtain ⟨m, _, _, h5, h6⟩ := hitFrom_least (Nat.le_refl _) h2
    obtain ⟨h7, h8⟩ := hit_sound 24 m l s (Nat.le_refl _) h5
    refine ⟨h7, fun i hi => (h8 i hi).2, fun T hT hT2 => ?_⟩
    have h9 := hit_cnt 24 m l s (Nat.le_refl _) h5
    apply Classical.byContradiction
    intro hc
    have := hit_complete 24 l T (Nat.le_refl _) hT (fun i hi => ⟨by omega, hT2 i hi⟩)
    exact this (h6 (cntB T) (by omega) (by omega))
/-! ### The shortest condition -/
theorem shC_bits {xs X : List Snd} (h : isB xs X = true) (i : Nat) : ((shC xs X).p.getLsbD i = ((comS X).p.getLsbD i && (shH xs X).getLsbD i)) ∧ ((shC xs X).m.getLsbD i = ((comS X).m.getLsbD i && (shH xs X).getLsbD i)) := by
  unfold shC
  rw [if_pos h]
  exact ⟨BitVec.getLsbD_and, BitVec.getLsbD_and⟩
theorem ok_sub {s t : Snd} (hs : s.ok = true) (h1 : ∀ i, t.p.getLsbD i = true → s.p.getLsbD i = true) (h2 : ∀ i, t.m.getLsbD i = true → s.m.getLsbD i = true) : t.ok = true := by
  rw [ok_iff_feats]
  intro i hi
  have h3 := ok_bits hs hi
  unfold featOk
  have a1 := h1 i
  have a2 := h2 i
  cases tp : t.p.getLsbD i <;> cases tm : t.m.getLsbD i
  · simp
  · have := h3.2 (.inr (a2 tm)); simp [this]
  · have := h3.2 (.inl (a1 tp)); simp [this]
  · exact absurd ⟨a1 tp, a2 tm⟩ h3.1
structure ShP (xs X : List Snd) : Prop where
  ok : (shC xs X).ok = true
  mem : memL xs (shC xs X) = memL xs (comS X)
  sat : satB (comS X) (shC xs X) = true
  put : ∀ f, f < 24 → getS (shC xs X) f ≠ 0 → (memL xs (comS X)).length < (memL xs (putS (shC xs X) f 0)).length
theorem memL_congr {xs : List Snd} {c d : Snd} (h : ∀ s ∈ xs, satB s c = satB s d) : memL xs c = memL xs d := by
  unfold memL
  exact memTo_congr (fun i s hs => h s (List.mem_of_getElem? hs)) _
theorem put0_bits {s : Snd} {f : Nat} (hf : f < 24) (i : Nat) (hi : i < 32) : ((putS s f 0).p.getLsbD i = (s.p.getLsbD i && !decide (i = f))) ∧ ((putS s f 0).m.getLsbD i = (s.m.getLsbD i && !decide (i = f))) := by
  have := putS_bits s f 0 (by omega) i hi
  rw [this.1, this.2]
  by_cases e : i = f <;> simp [e]
theorem sh_props {xs X : List Snd} (hn : xs.Nodup) (hok : ∀ x ∈ xs, x.ok = true) (hne : X ≠ []) (hX : ∀ x ∈ X, x ∈ xs) (h : isB xs X = true) : ShP xs X := by
  have hC : (comS X).ok = true := comS_ok hne fun x hx => hok x (hX x hx)
  have hb := shC_bits h
  have hok2 : (shC xs X).ok = true := ok_sub hC (fun i hi => by rw [(hb i).1, Bool.and_eq_true] at hi; exact hi.1) (fun i hi => by rw [(hb i).2, Bool.and_eq_true] at hi; exact hi.1)
  have hL : ∀ x ∈ lackL xs X (comS X), ∃ i, i < 24 ∧ x.getLsbD i = true := fun x hx => by
    rw [← others_lack h] at hx
    exact (others_bits hok hC x hx).2
  obtain ⟨hh1, hh2, hh3⟩ := least_spec hL
  have hHe : leastHit (lackL xs X (comS X)) = shH xs X := rfl
  rw [hHe] at hh1 hh2 hh3
  have hsat : ∀ s ∈ xs, satB s (shC xs X) = satB s (comS X) := fun s hs => by
    rw [Bool.eq_iff_iff]
    constructor
    · intro h1
      apply Classical.byContradiction
      intro h2
      have hnX : s ∉ X := fun e => h2 ((isB_mem h hs).1 e)
      have hl : missB s (comS X) ∈ lackL xs X (comS X) := List.mem_map.2 ⟨s, List.mem_filter.2 ⟨hs, decide_eq_true hnX⟩, rfl⟩
      obtain ⟨i, hi, e1, e2⟩ := and_ne_zero.1 (hh1 _ hl)
      rw [sat_bits] at h1
      unfold missB at e1
      simp only [BitVec.getLsbD_or, BitVec.getLsbD_and, BitVec.getLsbD_not, hi, decide_true, Bool.true_and, Bool.or_eq_true, Bool.and_eq_true, Bool.not_eq_true'] at e1
      rcases e1 with ⟨e3, e4⟩ | ⟨e3, e4⟩
      · have := h1.1 i (by rw [(hb i).1, e3, e2]; rfl)
        rw [this] at e4; cases e4
      · have := h1.2 i (by rw [(hb i).2, e3, e2]; rfl)
        rw [this] at e4; cases e4
    · intro h1
      rw [sat_bits] at h1 ⊢
      exact ⟨fun i hi => h1.1 i (by rw [(hb i).1, Bool.and_eq_true] at hi; exact hi.1), fun i hi => h1.2 i (by rw [(hb i).2, Bool.and_eq_true] at hi; exact hi.1)⟩
  refine ⟨hok2, memL_congr hsat, ?_, fun f hf hg => ?_⟩
  · rw [sat_bits]
    exact ⟨fun i hi => by rw [(hb i).1, Bool.and_eq_true] at hi; exact hi.1, fun i hi => by rw [(hb i).2, Bool.and_eq_true] at hi; exact hi.1⟩
  · -- a set without f does not have one of each
    have hHf : (shH xs X).getLsbD f = true := by
      unfold getS at hg
      rw [(hb f).1, (hb f).2] at hg
      cases e : (shH xs X).getLsbD f with
      | true => rfl
      | false => rw [e] at hg; simp at hg
    have hcnt : cntB (shH xs X &&& ~~~bt f) < cntB (shH xs X) := by
      have := cntB_split (shH xs X) f (by omega) hHf
      omega
    have hnot : ¬ ∀ x ∈ lackL xs X (comS X), x &&& (shH xs X &&& ~~~bt f) ≠ 0#32 := fun hall => by
      have := hh3 _ hall fun i hi => by rw [BitVec.getLsbD_and, Bool.and_eq_true] at hi; exact hh2 i hi.1
      omega
    obtain ⟨x, hx, hz⟩ : ∃ x ∈ lackL xs X (comS X), x &&& (shH xs X &&& ~~~bt f) = 0#32 := by
      apply Classical.byContradiction
      intro hne2
      exact hnot fun x hx e => hne2 ⟨x, hx, e⟩
    obtain ⟨s, hs, rfl⟩ := List.mem_map.1 hx
    obtain ⟨hsx, hsX⟩ := List.mem_filter.1 hs
    have hsX : s ∉ X := of_decide_eq_true hsX
    have hmz : ∀ i, i < 32 → (missB s (comS X)).getLsbD i = true → (shH xs X).getLsbD i = true → i = f := fun i hi e1 e2 => by
      apply Classical.byContradiction
      intro hne2
      have : missB s (comS X) &&& (shH xs X &&& ~~~bt f) ≠ 0#32 := and_ne_zero.2 ⟨i, hi, e1, by rw [BitVec.getLsbD_and, e2, BitVec.getLsbD_not, bt_bit _ _ hi (by omega)]; simp [hi, hne2]⟩
      exact this hz
    have hsatT : satB s (putS (shC xs X) f 0) = true := by
      rw [sat_bits]
      constructor
      · intro i hi
        have hi32 := BitVec.lt_of_getLsbD hi
        rw [(put0_bits hf i hi32).1, (hb i).1, Bool.and_eq_true, Bool.and_eq_true] at hi
        obtain ⟨⟨e1, e2⟩, e3⟩ := hi
        apply Classical.byContradiction
        intro hnp
        have hmm : (missB s (comS X)).getLsbD i = true := by
          have hnp' : s.p.getLsbD i = false := by simpa using hnp
          unfold missB
          simp only [BitVec.getLsbD_or, BitVec.getLsbD_and, BitVec.getLsbD_not, e1, hnp', hi32, decide_true, Bool.not_false, Bool.and_true, Bool.true_or]
        have := hmz i hi32 hmm e2
        subst this
        simp at e3
      · intro i hi
        have hi32 := BitVec.lt_of_getLsbD hi
        rw [(put0_bits hf i hi32).2, (hb i).2, Bool.and_eq_true, Bool.and_eq_true] at hi
        obtain ⟨⟨e1, e2⟩, e3⟩ := hi
        apply Classical.byContradiction
        intro hnp
        have hmm : (missB s (comS X)).getLsbD i = true := by
          have hnp' : s.m.getLsbD i = false := by simpa using hnp
          unfold missB
          simp only [BitVec.getLsbD_or, BitVec.getLsbD_and, BitVec.getLsbD_not, e1, hnp', hi32, decide_true, Bool.not_false, Bool.and_true, Bool.or_true]
        have := hmz i hi32 hmm e2
        subst this
        simp at e3
    have hsub : ∀ t ∈ clsS xs (comS X), t ∈ clsS xs (putS (shC xs X) f 0) := fun t ht => by
      obtain ⟨h1, h2⟩ := mem_cls.1 ht
      rw [← hsat t h1, sat_bits] at h2
      refine mem_cls.2 ⟨h1, sat_bits.2 ⟨fun i hi => ?_, fun i hi => ?_⟩⟩
      · have hi32 := BitVec.lt_of_getLsbD hi
        rw [(put0_bits hf i hi32).1, Bool.and_eq_true] at hi
        exact h2.1 i hi.1
      · have hi32 := BitVec.lt_of_getLsbD hi
        rw [(put0_bits hf i hi32).2, Bool.and_eq_true] at hi
        exact h2.2 i hi.1
    have hsC : s ∉ clsS xs (comS X) := fun e => hsX ((isB_mem h hsx).2 (mem_cls.1 e).2)
    have hCn : (clsS xs (comS X)).Nodup := List.Pairwise.sublist List.filter_sublist hn
    have := nodup_len (l := s :: clsS xs (comS X)) (m := clsS xs (putS (shC xs X) f 0)) (List.nodup_cons.2 ⟨hsC, hCn⟩) (fun a ha => by
      rcases List.mem_cons.1 ha with rfl | h2
      · exact mem_cls.2 ⟨hsx, hsatT⟩
      · exact hsub a h2)
    simp only [List.length_cons] at this
    rw [memL_len, memL_len]
    omega
end Go.Proofs.YtbnbfdbliokcaaaDoor
namespace Go.Proofs.YtbnbfdbliokcaaaDoor
open Go.RowKit
set_option maxHeartbeats 4000000 in
set_option maxRecDepth 20000 in
theorem naturalShort_any (a : Option Addr) (n cap : Nat) (ps : List P8) (B : BitVec 32) (w : World) (hr0 : RdK 2 P8.enc w a n cap ps) (hT : TabOk w) (hT2 : Tab64 w) :
    Calls Tryd.prog 11 #[.slice a n cap, .int .u32 B.toNat] w fun e w' => e = .returned (.bool true) ∧ Ext w w' := by
  go_enter Tryd.func11, Tryd.ntmps11
  go_wp2_with fail
  refine (different_any a n cap ps w hr0).mono ?_
  rintro e w1 ⟨v1, xs, rfl, hown1, hD, _, hx⟩
  obtain ⟨a1, n1, c1, hn1, rfl, hr⟩ := OwnK.rdn Snd.len hown1
  have hl := hr.len
  have hn : n1 ≤ 24 := by rw [hn1]; exact hD.len
  have hck : chkI 256 xs = 0 := hD.chk (by have := hD.len; omega)
  replace hD := Lib.hid hD
  replace hn1 := Lib.hid hn1
  replace hl := Lib.hid hl
  replace hck := Lib.hid hck
  clear hown1
  by_cases h0 : n1 = 0
  · subst h0
    go_wp2_with fail
    refine (works_any _ (hT.ext hx) (hT2.ext hx)).mono ?_
    rintro e wz ⟨rfl, hxz⟩
    go_wp2_with fail
    go_ret
    exact ⟨rfl, (hx).trans hxz⟩
  · have h0d : ((n1 : Int) == 0) = false := by rw [Bool.eq_false_iff]; intro h; have := beq_iff_eq.1 h; omega
    have hxne : xs ≠ [] := fun e => h0 (by rw [hn1.out, e]; rfl)
    have hXs := partB_mem (xs := xs) (B := B) (k := n1) (by rw [hl.out]; exact Nat.le_refl _)
    have hXne : partB xs B n1 ≠ [] := by have := partB_ne (B := B) hxne; rwa [hl.out] at this
    have hXnd : (partB xs B n1).Nodup := by have := partB_nodup B hD.out.nodup; rwa [hl.out] at this
    have hpX := fun W (h : RdS W a1 n1 c1 xs) => part_any a1 n1 c1 xs B W h hn
    generalize partB xs B n1 = X at *
    have hXE := closE_of hck.out hXne hXs
    have hXc := (cl_good hXE).1
    have hXl := (cl_good hXE).2
    have hCok : (comS X).ok = true := comS_ok hXne fun x hx => hD.out.ok x (hXs x hx)
    have hclX := fun W aX nX cX (h : RdS W a1 n1 c1 xs) (h2 : RdS W aX nX cX X) => closure_any a1 n1 c1 xs aX nX cX X W h h2
    have hisX := fun W aX nX cX (h : RdS W a1 n1 c1 xs) (h2 : RdS W aX nX cX X) => is_any a1 n1 c1 xs aX nX cX X W h h2
    have hshX := fun W aX nX cX (h : RdS W a1 n1 c1 xs) (h2 : RdS W aX nX cX X) => shortest_any a1 n1 c1 xs aX nX cX X W h h2
    unfold RetC at hclX
    unfold RetIs at hisX
    unfold RetSh at hshX
    rw [hXc, hXl, hXE] at hclX
    rw [hXE] at hisX hshX
    have hisl := isB_len hXE hD.out.nodup hXnd hXs
    have hP := sh_props hD.out.nodup hD.out.ok hXne hXs
    have hN := shC_not (xs := xs) (ys := X)
    have hslS := fun c W (h : RdS W a1 n1 c1 xs) => select_any a1 n1 c1 xs c W h
    unfold RetSl at hslS
    have hselE : ∀ c : Snd, c.ok = true → selE xs c = 0 := fun c h => by unfold selE; rw [if_pos hck.out, if_pos h]
    have hselL : ∀ c : Snd, c.ok = true → selL xs c = memL xs c := fun c h => by unfold selL; rw [if_pos (hselE c h)]
    have hMlen : (memL xs (comS X)).length ≤ 24 := by have := memTo_len xs (comS X) xs.length; unfold memL; rw [hl.out] at *; omega
    clear hXE hXc hXl hXne hXs hxne hXnd
    replace hselE := Lib.hid hselE
    replace hselL := Lib.hid hselL
    replace hP := Lib.hid hP
    replace hN := Lib.hid hN
    replace hisl := Lib.hid hisl
    generalize isB xs X = Q at *
    generalize hSg : shC xs X = S at *
    replace hSg := Lib.hid hSg
    generalize hML : memL xs (comS X) = ML at *
    generalize hCg : comS X = C at *
    replace hML := Lib.hid hML
    replace hCg := Lib.hid hCg
    go_wp2_with fail
    refine (hpX _ hr).mono ?_
    rintro e w2 ⟨v2, rfl, hown2, hx2⟩
    obtain ⟨aX, nX, cX, hnX, rfl, hX⟩ := OwnK.rdn Snd.len hown2
    have hx := hx.trans hx2
    have hr := hr.ext hx2
    replace hnX := Lib.hid hnX
    clear hx2 hown2
    go_wp2_with fail
    refine (hclX _ _ _ _ hr hX).mono ?_
    rintro e w3 ⟨v3, rfl, hown3, hx3⟩
    obtain ⟨aM, nM, cM, hnM, rfl, hM⟩ := OwnK.rdn I64.len hown3
    replace hnM := Lib.hid hnM
    have hxA := hx3.trans (Ext.alloc1 w3 (.cells #[.int .u32 C.p.toNat, .int .u32 C.m.toNat] 27))
    have hM := hM.ext (Ext.alloc1 w3 (.cells #[.int .u32 C.p.toNat, .int .u32 C.m.toNat] 27))
    have qC := SndB.new w3 C
    have hx := hx.trans hxA
    have hr := hr.ext hxA
    have hX := hX.ext hxA
    clear hown3 hxA hx3
    go_wp2_with fail
    generalize w3.heap.size = gC at *
    generalize (w3.alloc (.cells #[.int .u32 C.p.toNat, .int .u32 C.m.toNat] 27)) = wA at *
    refine (hisX _ _ _ _ hr hX).mono ?_
    rintro e w4 ⟨rfl, hx4⟩
    have hx := hx.trans hx4
    have hr := hr.ext hx4
    have hX := hX.ext hx4
    have hM := hM.ext hx4
    have qC := qC.ext hx4
    clear hx4
    go_wp2_with fail
    refine (hshX _ _ _ _ hr hX).mono ?_
    rintro e w5 ⟨rfl, hx5⟩
    have hxA := hx5.trans (Ext.alloc1 w5 (.cells #[.int .u32 S.p.toNat, .int .u32 S.m.toNat] 27))
    have qS := SndB.new w5 S
    have hx := hx.trans hxA
    have hr := hr.ext hxA
    have hM := hM.ext hxA
    have qC := qC.ext hxA
    clear hxA hx5 hX hpX hclX hisX hshX
    have hd2 : ((nM : Int) == (nX : Int)) = Q := by
      have h1 := hisl.out
      rw [← hnM.out, ← hnX.out] at h1
      have h2 : ((nM : Int) == (nX : Int)) = decide (nM = nX) := by
        rw [Bool.eq_iff_iff, beq_iff_eq, decide_eq_true_eq]; omega
      rw [h2, ← h1]
    cases Q
    · have hS0 := hN.out rfl
      subst hS0
      go_wp2_with fail
      refine (works_any _ (hT.ext hx) (hT2.ext hx)).mono ?_
      rintro e wz ⟨rfl, hxz⟩
      go_wp2_with fail
      go_ret
      exact ⟨rfl, (hx).trans hxz⟩
    · obtain ⟨p1, p2, p3, p4⟩ := hP.out rfl
      rw [hSg.out] at p1 p2 p3 p4
      rw [hCg.out] at p3
      rw [hCg.out, hML.out] at p2 p4
      have hslL := fun W (h : RdS W a1 n1 c1 xs) => hslS S W h
      rw [hselE.out S p1, hselL.out S p1, p2] at hslL
      replace p2 := Lib.hid p2
      replace p4 := Lib.hid p4
      go_wp2_with fail
      generalize w5.heap.size = gS at *
      generalize (w5.alloc (.cells #[.int .u32 S.p.toNat, .int .u32 S.m.toNat] 27)) = wB at *
      refine (hslL _ hr).mono ?_
      rintro e w6 ⟨v6, rfl, hown6, hx6⟩
      obtain ⟨aN, nN, cN, hnN, rfl, hNr⟩ := OwnK.rdn I64.len hown6
      replace hnN := Lib.hid hnN
      have hx := hx.trans hx6
      have hr := hr.ext hx6
      have hM := hM.ext hx6
      have qC := qC.ext hx6
      have qS := qS.ext hx6
      clear hx6 hown6 hslL
      have heq := lequal_any aN nN cN ML aM nM cM ML _ hNr hM
      rw [decide_eq_true rfl] at heq
      go_wp2_with fail
      refine heq.mono ?_
      rintro e w7 ⟨rfl, hx7⟩
      have hx := hx.trans hx7
      have hr := hr.ext hx7
      have qC := qC.ext hx7
      have qS := qS.ext hx7
      clear hx7 heq hNr hM
      obtain ⟨k0, k1⟩ := qC.cells
      obtain ⟨m0, m1⟩ := qS.cells
      have hst := fun W => sat_any C S W hCok p1
      rw [p3] at hst
      go_wp2_with fail
      refine (hst _).mono ?_
      rintro e w8 ⟨rfl, hx8⟩
      have hx := hx.trans hx8
      have hr := hr.ext hx8
      have qS := qS.ext hx8
      clear hx8 hst k0 k1 m0 m1 qC
      go_wp2_with fail
      go_loopw [17, 18, 19, 20, 21] (fun iv _ _ _ _ wr => ∃ f : Nat, f ≤ 24 ∧ iv = .int .i64 f ∧ Ext w8 wr) (fun iv _ _ _ _ _ => 24 - (intOf iv).toNat)
      case atStart => exact ⟨0, Nat.zero_le _, rfl, Ext.refl _⟩
      case round =>
        obtain ⟨f, hf, rfl, hxr⟩ := hrel
        have hxf := hx.trans hxr
        obtain ⟨m0, m1⟩ := (qS.ext hxr).cells
        by_cases hlt : f < 24
        · have hki : (f : Int) < 24 := by omega
          have hgt := fget_any S f p1 hlt wr
          by_cases hz : getS S f = 0
          · rw [hz] at hgt
            replace hz := Lib.hid hz
            go_wp2_with fail
            refine hgt.mono ?_
            rintro e w9 ⟨rfl, hx9⟩
            have hx9 := hxr.trans hx9
            clear hgt m0 m1
            go_wp2_with fail
            (first | exact ⟨⟨f + 1, hlt, by go_num, hx9⟩, (by simp [intOf]; omega)⟩ | (go_roundw; case rel => exact ⟨f + 1, hlt, by go_num, hx9⟩; case measure => exact (by simp [intOf]; omega)))
          · have hzb : (getS S f == 0) = false := by simpa using hz
            have hmore := p4.out f hlt hz
            have hTok : (putS S f 0).ok = true := putS_ok p1 hlt
            have hwt := fun W => fwith_any S f 0 W p1 hlt (.inl rfl)
            have hslT := fun W (h : RdS W a1 n1 c1 xs) => hslS (putS S f 0) W h
            rw [hselE.out _ hTok, hselL.out _ hTok] at hslT
            have hTlen : (memL xs (putS S f 0)).length ≤ 24 := by have := memTo_len xs (putS S f 0) xs.length; unfold memL; rw [hl.out] at *; omega
            generalize putS S f 0 = T at *
            generalize memL xs T = MT at *
            generalize getS S f = gv at *
            replace hz := Lib.hid hz
            go_wp2_with fail
            refine hgt.mono ?_
            rintro e w9 ⟨rfl, hx9⟩
            have hx9 := hxr.trans hx9
            obtain ⟨m0, m1⟩ := (qS.ext hx9).cells
            clear hgt
            go_wp2_with fail
            refine (hwt _).mono ?_
            rintro e wV ⟨rfl, hxV⟩
            have hxV := (hx9.trans hxV).trans (Ext.alloc1 wV (.cells #[.int .u32 T.p.toNat, .int .u32 T.m.toNat] 27))
            obtain ⟨k0, k1⟩ := (SndB.new wV T).cells
            have hrV := hr.ext hxV
            clear hwt hx9
            go_wp2_with fail
            refine (hslT _ hrV).mono ?_
            rintro e wU ⟨vU, rfl, hownU, hxU⟩
            obtain ⟨aT, nT, cT, hnT, rfl, hTr⟩ := OwnK.rdn I64.len hownU
            have hxU := hxV.trans hxU
            have hTM : (nM : Int) < (nT : Int) := by have := hnM.out; omega
            have hTM2 : nM < nT := by omega
            have hTM3 : decide (nT ≤ nM) = false := by simp; omega
            have hTM4 : decide ((nT : Int) ≤ (nM : Int)) = false := by simp; omega
            replace hnT := Lib.hid hnT
            clear hslT hxV hownU
            go_wp2_with fail
            (first | exact ⟨⟨f + 1, hlt, by go_num, hxU⟩, (by simp [intOf]; omega)⟩ | (go_roundw; case rel => exact ⟨f + 1, hlt, by go_num, hxU⟩; case measure => exact (by simp [intOf]; omega)))
        · have hfn := Lib.hid (show f = 24 by omega)
          go_wp2_with fail
          refine (works_any _ (hT.ext hxf) (hT2.ext hxf)).mono ?_
          rintro e wz ⟨rfl, hxz⟩
          go_wp2_with fail
          go_ret
          exact ⟨rfl, (hxf).trans hxz⟩
end Go.Proofs.YtbnbfdbliokcaaaDoor
