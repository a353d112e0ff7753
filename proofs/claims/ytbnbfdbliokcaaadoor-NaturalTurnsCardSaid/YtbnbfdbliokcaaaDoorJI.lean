/-
  NaturalTurns: the order of the inventory, plain.
  NaturalTurns, walked.
-/
import Derived.Test.YtbnbfdbliokcaaaDoorJ9
import Derived.Test.YtbnbfdbliokcaaaDoorJD
namespace Go.Proofs.YtbnbfdbliokcaaaDoor
open Go.RowKit
/-! ### Different entries -/
theorem dif_count {α : Type} [DecidableEq α] {xs : List α} : ∀ {k : Nat} {M : List α}, k ≤ xs.length → M.Nodup → (∀ a, a ∈ M ↔ a ∈ xs.take k) → dif xs k = M.length
  | 0, M, _, _, h => by
    cases M with
    | nil => rfl
    | cons a l => have := (h a).1 (List.mem_cons_self ..); simp at this
  | k + 1, M, hk, hn, h => by
    have hx : xs[k]? = some (xs[k]'(by omega)) := List.getElem?_eq_getElem (by omega)
    rw [dif_succ hx]
    have ht := take_succ_at hx
    by_cases hm : xs[k]'(by omega) ∈ xs.take k
    · rw [if_pos hm]
      refine dif_count (by omega) hn fun a => ?_
      rw [h a, ht, List.mem_append, List.mem_singleton]
      exact ⟨fun h => h.elim id fun e => e ▸ hm, fun h => .inl h⟩
    · rw [if_neg hm]
      have hin : xs[k]'(by omega) ∈ M := by rw [h, ht]; exact List.mem_append_right _ (List.mem_singleton.2 rfl)
      have ih := dif_count (xs := xs) (k := k) (M := M.erase (xs[k]'(by omega))) (by omega) (hn.erase _) fun a => by
        rw [hn.mem_erase_iff, h a, ht, List.mem_append, List.mem_singleton]
        exact ⟨fun ⟨h1, h2⟩ => h2.elim id fun e => absurd e h1, fun h1 => ⟨fun e => hm (e ▸ h1), .inl h1⟩⟩
      rw [ih, List.length_erase_of_mem hin]
      have := List.length_pos_of_mem hin
      omega
theorem exists_dedup {α : Type} [DecidableEq α] : ∀ l : List α, ∃ M : List α, M.Nodup ∧ ∀ a, a ∈ M ↔ a ∈ l
  | [] => ⟨[], List.nodup_nil, fun _ => Iff.rfl⟩
  | x :: l => by
    obtain ⟨M, h1, h2⟩ := exists_dedup l
    by_cases h : x ∈ M
    · refine ⟨M, h1, fun a => ?_⟩
      rw [h2 a, List.mem_cons]
      exact ⟨.inr, fun h3 => h3.elim (fun e => e ▸ (h2 x).1 h) id⟩
    · refine ⟨x :: M, List.nodup_cons.2 ⟨h, h1⟩, fun a => ?_⟩
      rw [List.mem_cons, List.mem_cons, h2 a]
theorem dif_turn {α β : Type} [DecidableEq α] [DecidableEq β] {f : α → β} {A : List α} {B : List β} (hinj : ∀ x y, f x = f y → x = y) (h : ∀ b, b ∈ B ↔ ∃ a ∈ A, f a = b) : dif A A.length = dif B B.length := by
  obtain ⟨M, h1, h2⟩ := exists_dedup A
  have e1 : dif A A.length = M.length := dif_count (Nat.le_refl _) h1 fun a => by rw [List.take_length]; exact h2 a
  have hn : (M.map f).Nodup := by
    refine List.Pairwise.map f (fun x y hne e => hne (hinj x y e)) h1
  have e2 : dif B B.length = (M.map f).length := dif_count (Nat.le_refl _) hn fun b => by
    rw [List.take_length, h b, List.mem_map]
    exact ⟨fun ⟨a, h3, h4⟩ => ⟨a, (h2 a).1 h3, h4⟩, fun ⟨a, h3, h4⟩ => ⟨a, (h2 a).2 h3, h4⟩⟩
  rw [e1, e2, List.length_map]
theorem dif_pos {α : Type} [DecidableEq α] {l : List α} (h : l ≠ []) : 1 ≤ dif l l.length := by
  obtain ⟨M, h1, h2⟩ := exists_dedup l
  rw [dif_count (Nat.le_refl _) h1 fun a => by rw [List.take_length]; exact h2 a]
  cases l with
  | nil => exact absurd rfl h
  | cons a l => exact List.length_pos_of_mem ((h2 a).2 (List.mem_cons_self ..))
/-! ### Classes -/
theorem comS_same {X Y : List Snd} (hX : X ≠ []) (h : ∀ s, s ∈ X ↔ s ∈ Y) : comS X = comS Y := by
  have hY : Y ≠ [] := fun e => by
    cases X with
    | nil => exact hX rfl
    | cons x l => have := (h x).1 (List.mem_cons_self ..); rw [e] at this; cases this
  refine snd_ext (fun i _ => ?_) (fun i _ => ?_)
  · rw [Bool.eq_iff_iff, comS_p hX, comS_p hY]
    exact ⟨fun k s hs => k s ((h s).2 hs), fun k s hs => k s ((h s).1 hs)⟩
  · rw [Bool.eq_iff_iff, comS_m hX, comS_m hY]
    exact ⟨fun k s hs => k s ((h s).2 hs), fun k s hs => k s ((h s).1 hs)⟩
theorem bits_of (q : Nat → Bool) : ∀ n, ∃ p, p < 2 ^ n ∧ ∀ i, i < n → p.testBit i = q i
  | 0 => ⟨0, by decide, fun i h => absurd h (by omega)⟩
  | n + 1 => by
    obtain ⟨p, h1, h2⟩ := bits_of q n
    cases hq : q n with
    | false =>
      refine ⟨p, by rw [Nat.pow_succ]; omega, fun i hi => ?_⟩
      by_cases e : i = n
      · subst e; rw [hq]; exact Nat.testBit_lt_two_pow h1
      · exact h2 i (by omega)
    | true =>
      refine ⟨2 ^ n + p, by rw [Nat.pow_succ]; omega, fun i hi => ?_⟩
      by_cases e : i = n
      · subst e
        rw [hq, Nat.testBit_two_pow_add_eq, Nat.testBit_lt_two_pow h1]; rfl
      · rw [Nat.testBit_two_pow_add_gt (by omega)]; exact h2 i (by omega)
theorem mem_clsL {xs : List Snd} {l : List Int} : l ∈ clsL xs ↔ ∃ Y : List Snd, Y ≠ [] ∧ (∀ y ∈ Y, y ∈ xs) ∧ l = memL xs (comS Y) := by
  constructor
  · intro h
    obtain ⟨q, hq, rfl⟩ := List.mem_map.1 h
    rw [List.mem_range] at hq
    refine ⟨partS xs (q + 1), fun e => ?_, fun y hy => ?_, rfl⟩
    · have hz : ∀ i, i < xs.length → (q + 1).testBit i = false := fun i hi => by
        cases hb : (q + 1).testBit i with
        | false => rfl
        | true =>
          have : xs[i] ∈ partS xs (q + 1) := mem_partS.2 ⟨i, List.getElem?_eq_getElem hi, hb⟩
          rw [e] at this; cases this
      have : q + 1 = 0 := by
        apply Nat.eq_of_testBit_eq
        intro i
        rw [Nat.zero_testBit]
        rcases Nat.lt_or_ge i xs.length with h1 | h1
        · exact hz i h1
        · exact Nat.testBit_lt_two_pow (Nat.lt_of_lt_of_le (show q + 1 < 2 ^ xs.length by omega) (Nat.pow_le_pow_right (by decide) h1))
      omega
    · obtain ⟨i, h1, _⟩ := mem_partS.1 hy
      exact List.mem_of_getElem? h1
  · rintro ⟨Y, hne, hY, rfl⟩
    obtain ⟨p, hp, hb⟩ := bits_of (fun i => match xs[i]? with | some s => decide (s ∈ Y) | none => false) xs.length
    have hm : ∀ s, s ∈ Y ↔ s ∈ partS xs p := fun s => by
      rw [mem_partS]
      constructor
      · intro hs
        obtain ⟨i, hi⟩ := List.getElem?_of_mem (hY s hs)
        refine ⟨i, hi, ?_⟩
        rw [hb i (List.getElem?_eq_some_iff.1 hi).1, hi]
        exact decide_eq_true hs
      · rintro ⟨i, hi, h2⟩
        rw [hb i (List.getElem?_eq_some_iff.1 hi).1, hi] at h2
        exact of_decide_eq_true h2
    have hp0 : p ≠ 0 := fun e => by
      subst e
      cases Y with
      | nil => exact hne rfl
      | cons y l =>
        obtain ⟨i, _, h2⟩ := mem_partS.1 ((hm y).1 (List.mem_cons_self ..))
        rw [Nat.zero_testBit] at h2; cases h2
    refine List.mem_map.2 ⟨p - 1, List.mem_range.2 (by omega), ?_⟩
    rw [show p - 1 + 1 = p by omega]
    unfold condP
    rw [comS_same hne hm]
/-! ### Members of the turned inventory -/
def satAt (xs : List Snd) (c : Snd) (i : Nat) : Bool := match xs[i]? with
  | some s => satB s c
  | none => false
theorem memN_range (xs : List Snd) (c : Snd) : ∀ k, memN xs c k = (List.range k).filter (satAt xs c)
  | 0 => rfl
  | k + 1 => by
    rw [List.range_succ, List.filter_append, ← memN_range xs c k]
    simp only [memN]
    unfold satAt
    cases hx : xs[k]? with
    | none => simp [hx]
    | some s => cases hs : satB s c <;> simp [hx, hs]
def turnI (n : Nat) (l : List Int) : List Int := (l.map fun i => (n : Int) - 1 - i).reverse
theorem turnI_inj (n : Nat) (x y : List Int) (h : turnI n x = turnI n y) : x = y := by
  have h1 : ∀ l, turnI n (turnI n l) = l := fun l => by
    unfold turnI
    rw [List.map_reverse, List.reverse_reverse, List.map_map]
    have : ((fun i => (n : Int) - 1 - i) ∘ fun i => (n : Int) - 1 - i) = id := by funext i; simp only [Function.comp, id]; omega
    rw [this, List.map_id]
  rw [← h1 x, h, h1]
theorem range_rev (n : Nat) : (List.range n).reverse = (List.range n).map fun i => n - 1 - i := by
  apply List.ext_getElem
  · simp
  · intro i h1 h2
    simp at h1 h2
    simp
theorem memL_turn (xs : List Snd) (c : Snd) : memL xs.reverse c = turnI xs.length (memL xs c) := by
  rw [memL_N, memL_N, memN_range, memN_range, List.length_reverse]
  unfold turnI
  rw [List.map_map, ← List.map_reverse, ← List.filter_reverse, range_rev, List.filter_map, List.map_map]
  have hf : (List.range xs.length).filter (satAt xs.reverse c) = (List.range xs.length).filter (satAt xs c ∘ fun i => xs.length - 1 - i) := by
    refine List.filter_congr fun i hi => ?_
    rw [List.mem_range] at hi
    simp only [Function.comp, satAt]
    rw [List.getElem?_reverse hi]
  rw [hf]
  refine List.map_congr_left fun i hi => ?_
  have hi := List.mem_range.1 (List.mem_filter.1 hi).1
  simp only [Function.comp]
  have : (Int.ofNat (xs.length - 1 - i) : Int) = ((xs.length - 1 - i : Nat) : Int) := rfl
  rw [this]
  show (i : Int) = _
  omega
theorem countN_turn (xs : List Snd) : countN xs.reverse = countN xs := by
  unfold countN
  have h := dif_turn (f := turnI xs.length) (A := clsL xs) (B := clsL xs.reverse) (turnI_inj _) fun b => by
    rw [mem_clsL]
    constructor
    · rintro ⟨Y, h1, h2, rfl⟩
      exact ⟨memL xs (comS Y), mem_clsL.2 ⟨Y, h1, fun y hy => List.mem_reverse.1 (h2 y hy), rfl⟩, (memL_turn xs _).symm⟩
    · rintro ⟨a, h3, rfl⟩
      obtain ⟨Y, h1, h2, rfl⟩ := mem_clsL.1 h3
      exact ⟨Y, h1, fun y hy => List.mem_reverse.2 (h2 y hy), (memL_turn xs _).symm⟩
  rw [clsL_len, clsL_len, List.length_reverse] at h
  rw [List.length_reverse]
  exact h.symm
theorem countN_le (xs : List Snd) : countN xs ≤ 2 ^ xs.length - 1 := dif_le _ _
theorem countN_pos {xs : List Snd} (h : xs ≠ []) : 1 ≤ countN xs := by
  have hl : 0 < xs.length := List.length_pos_iff.2 h
  have h2 : 2 ≤ 2 ^ xs.length := by
    have : 2 ^ 1 ≤ 2 ^ xs.length := Nat.pow_le_pow_right (by decide) hl
    simpa using this
  have := dif_pos (l := clsL xs) (fun e => by have := clsL_len xs; rw [e] at this; simp at this; omega)
  rw [clsL_len] at this
  exact this
theorem chkI_turn (m : Nat) (xs : List Snd) : chkI m xs.reverse = chkI m xs := by
  unfold chkI
  have h1 : xs.reverse.all Snd.ok = xs.all Snd.ok := by rw [Bool.eq_iff_iff, List.all_eq_true, List.all_eq_true]; simp
  have h2 : decide xs.reverse.Nodup = decide xs.Nodup := by
    rw [decide_eq_decide]
    unfold List.Nodup
    rw [List.pairwise_reverse]
    constructor <;> exact fun h => h.imp fun e => Ne.symm e
  rw [List.length_reverse, h1, h2]
theorem cntV_turn (xs : List Snd) : cntV xs.reverse = cntV xs := by unfold cntV; rw [chkI_turn, countN_turn]
/-! ### Needed features -/
theorem needTo_bit {xs : List Snd} {L : List (Nat × Nat)} {b : Nat} : ∀ {k}, (needTo xs L k).getLsbD b = true ↔ ∃ j x, j < k ∧ L[j]? = some x ∧ (needF xs x).getLsbD b = true
  | 0 => by simp [needTo]
  | k + 1 => by
    simp only [needTo, BitVec.getLsbD_or, Bool.or_eq_true, needTo_bit]
    constructor
    · rintro (⟨j, x, h1, h2, h3⟩ | h)
      · exact ⟨j, x, by omega, h2, h3⟩
      · cases hx : L[k]? with
        | none => rw [hx] at h; simp at h
        | some x => rw [hx] at h; exact ⟨k, x, by omega, hx, h⟩
    · rintro ⟨j, x, h1, h2, h3⟩
      by_cases e : j = k
      · subst e; right; rw [h2]; exact h3
      · exact .inl ⟨j, x, by omega, h2, h3⟩
theorem needB_bit {xs : List Snd} (hc : chkI 256 xs = 0) {b : Nat} : (needB xs).getLsbD b = true ↔ ∃ s ∈ xs, ∃ t ∈ xs, cntB (diffS s t) = 1 ∧ (diffS s t).getLsbD b = true := by
  unfold needB
  rw [needTo_bit]
  constructor
  · rintro ⟨j, x, _, h2, h3⟩
    obtain ⟨s, t, _, _, e1, e2, _, _, h4⟩ := prL_at h2
    have h5 : needF xs x = diffS s t := by unfold needF; rw [e1, e2]
    exact ⟨s, List.mem_of_getElem? e1, t, List.mem_of_getElem? e2, h4, by rw [← h5]; exact h3⟩
  · rintro ⟨s, hs, t, ht, h4, h5⟩
    have hpr : prL xs = pairL xs := by unfold prL; rw [if_pos hc]
    obtain ⟨i, hi⟩ := List.getElem?_of_mem hs
    obtain ⟨j, hj⟩ := List.getElem?_of_mem ht
    have hil := (List.getElem?_eq_some_iff.1 hi).1
    have hjl := (List.getElem?_eq_some_iff.1 hj).1
    have key : ∀ {i j : Nat} {s t : Snd}, xs[i]? = some s → xs[j]? = some t → i < j → cntB (diffS s t) = 1 → (diffS s t).getLsbD b = true → ∃ k x, k < (prL xs).length ∧ (prL xs)[k]? = some x ∧ (needF xs x).getLsbD b = true := fun {i j s t} hi hj hlt h4 h5 => by
      have hjl := (List.getElem?_eq_some_iff.1 hj).1
      have hm : (i, j) ∈ prL xs := by
        rw [hpr]
        exact mem_pairTo.2 ⟨by simp only; omega, hlt, hjl, by rw [adjB_at hi hj]; exact decide_eq_true h4⟩
      obtain ⟨k, hk⟩ := List.getElem?_of_mem hm
      refine ⟨k, (i, j), (List.getElem?_eq_some_iff.1 hk).1, hk, ?_⟩
      unfold needF
      simp only [hi, hj]
      exact h5
    rcases Nat.lt_trichotomy i j with h | h | h
    · exact key hi hj h h4 h5
    · subst h
      rw [hi] at hj
      cases hj
      have : diffS s s = 0#32 := diffS_zero.2 rfl
      rw [this] at h4
      exact absurd h4 (by decide)
    · exact key hj hi h (by rw [diffS_comm]; exact h4) (by rw [diffS_comm]; exact h5)
theorem needB_turn {xs : List Snd} (hc : chkI 256 xs = 0) : needB xs.reverse = needB xs := by
  apply BitVec.eq_of_getLsbD_eq
  intro i _
  rw [Bool.eq_iff_iff, needB_bit (by rw [chkI_turn]; exact hc), needB_bit hc]
  simp only [List.mem_reverse]
/-! ### Gaps -/
theorem gapP_turn {xs : List Snd} {g : Snd} : GapP xs.reverse g ↔ GapP xs g := by unfold GapP; simp only [List.mem_reverse]
theorem srtG_turn {xs L L' : List Snd} (h : SrtG xs L) (h' : SrtG xs.reverse L') : L' = L := by
  refine SrtG.uniq (xs := xs) ⟨h'.1, fun g => (h'.2 g).trans gapP_turn⟩ h
theorem gapP_ok {xs : List Snd} (hok : ∀ x ∈ xs, x.ok = true) {g : Snd} (h : GapP xs g) : g.ok = true := by
  obtain ⟨_, x, _, y, _, f, hf, s, hs, _, rfl⟩ := h
  exact putS_ok (hok s hs) (aloneF_lt hf)
end Go.Proofs.YtbnbfdbliokcaaaDoor
namespace Go.Proofs.YtbnbfdbliokcaaaDoor
open Go.RowKit
theorem RdK.to8 {α : Type} {c : Nat} {enc : α → List Value} {w : World} {a : Option Addr} {n cap : Nat} {xs : List α} (h : RdK c enc w a n cap xs) {k : Nat} (h1 : k ≤ n) : RdK c enc w a k cap (xs.take k) := by
  have := h.sub (l := 0) (m := k) (Nat.zero_le _) h1
  rw [subA_zero] at this
  simpa using this
theorem drop_rev {xs : List Snd} {k : Nat} {s : Snd} (h : xs[k]? = some s) : (xs.drop k).reverse = (xs.drop (k + 1)).reverse ++ [s] := by
  obtain ⟨h1, h2⟩ := List.getElem?_eq_some_iff.1 h
  rw [List.drop_eq_getElem_cons h1, List.reverse_cons, h2]
theorem shl_le {n c : Nat} (_ : n ≤ 8) (h : c ≤ 2 ^ n - 1) : (c : Int) ≤ (2 : Int) ^ n - 1 := by
  have h0 : 1 ≤ 2 ^ n := Nat.one_le_two_pow
  have h2 : ((2 ^ n : Nat) : Int) = (2 : Int) ^ n := by simp
  rw [← h2]; omega
theorem shl_wrap {n : Nat} (hn : n ≤ 8) : wrap64 ((2 : Int) ^ n) = (2 : Int) ^ n ∧ wrap64 ((2 : Int) ^ n - 1) = (2 : Int) ^ n - 1 := by
  have h0 : 1 ≤ 2 ^ n := Nat.one_le_two_pow
  have h1 : 2 ^ n ≤ 2 ^ 8 := Nat.pow_le_pow_right (by decide) hn
  have h2 : ((2 ^ n : Nat) : Int) = (2 : Int) ^ n := by simp
  rw [← h2]
  unfold wrap64
  omega
set_option maxHeartbeats 400000 in
set_option maxRecDepth 20000 in
theorem naturalTurns_any (a : Option Addr) (n cap : Nat) (ps : List P8) (w : World) (hr0 : RdK 2 P8.enc w a n cap ps) (hT : TabOk w) (hT2 : Tab64 w) :
    Calls Tryd.prog 7 #[.slice a n cap] w fun e w' => e = .returned (.bool true) ∧ Ext w w' := by
  have hmax : n ≤ 9223372036854775807 := by have := hr0.le; have := hr0.most; unfold maxLen at this; omega
  have hle := hr0.le
  go_enter Tryd.func7, Tryd.ntmps7
  by_cases h8 : 8 < n
  · have h8i : (8 : Int) < (n : Int) := by omega
    have hn8 : 8 ≤ 8 := Nat.le_refl _
    have hr0 := hr0.to8 (k := 8) (by omega)
    go_wp2_with fail
    refine (different_any a _ cap _ _ hr0).mono ?_
    rintro e w1 ⟨v1, xs, rfl, hown1, hD, hl8, hx⟩
    obtain ⟨a1, n1, c1, hn1, rfl, hr⟩ := OwnK.rdn Snd.len hown1
    have hl := hr.len
    have hn : n1 ≤ 8 := by rw [hn1]; exact Nat.le_trans hl8 hn8
    have hck : chkI 256 xs = 0 := hD.chk (by have := hD.len; omega)
    have hck12 : chkI 12 xs = 0 := hD.chk (by rw [← hn1]; omega)
    have hok := hD.ok
    replace hD := Lib.hid hD
    replace hn1 := Lib.hid hn1
    replace hl := Lib.hid hl
    replace hck := Lib.hid hck
    replace hck12 := Lib.hid hck12
    replace hok := Lib.hid hok
    replace hl8 := Lib.hid hl8
    clear hown1 hr0 hn8
    go_wp2_with fail
    go_loopw [4, 5] (fun ov iv wr => ∃ (k : Nat) (z : Int), k ≤ n1 ∧ iv = .int .i64 z ∧ z = (k : Int) - 1 ∧ Ext w1 wr ∧ OwnS w1.heap.size 27 wr ov (xs.drop k).reverse) (fun _ iv _ => (intOf iv + 1).toNat)
    case atStart => exact ⟨n1, (n1 : Int) - 1, Nat.le_refl _, by first | rfl | go_num, rfl, Ext.refl _, by rw [List.drop_of_length_le (by rw [hl.out]; exact Nat.le_refl _)]; exact OwnK.nil _ _ _⟩
    case round =>
      obtain ⟨k, z, hk, rfl, hz, hxr, hown⟩ := hrel
      rcases Nat.eq_zero_or_pos k with h0 | h0
      · subst h0
        obtain rfl : z = -1 := by omega
        clear hz
        rw [List.drop_zero] at hown
        obtain ⟨aB, nB, cB, hnB, rfl, hB⟩ := OwnK.rdn Snd.len hown
        replace hnB := Lib.hid hnB
        have hx := hx.trans hxr
        have hr := hr.ext hxr
        have hcnA := fun W (h : RdS W a1 n1 c1 xs) (h2 : Tab64 W) => count_any a1 n1 c1 xs W h h2
        have hcnB := fun W (h : RdS W aB nB cB xs.reverse) (h2 : Tab64 W) => count_any aB nB cB xs.reverse W h h2
        have hndA := fun W (h : RdS W a1 n1 c1 xs) => needed_any a1 n1 c1 xs W h
        have hndB := fun W (h : RdS W aB nB cB xs.reverse) => needed_any aB nB cB xs.reverse W h
        have hgpA := fun W (h : RdS W a1 n1 c1 xs) (h2 : TabOk W) => gaps_any a1 n1 c1 xs W h h2
        have hgpB := fun W (h : RdS W aB nB cB xs.reverse) (h2 : TabOk W) => gaps_any aB nB cB xs.reverse W h h2
        unfold RetCn at hcnA hcnB
        unfold RetN at hndA hndB
        unfold RetG at hgpA hgpB
        rw [cntV_turn, chkI_turn, hck12.out] at hcnB
        rw [hck12.out] at hcnA
        rw [needB_turn hck.out, chkI_turn, hck.out] at hndB
        rw [hck.out] at hndA hgpA
        rw [chkI_turn, hck.out] at hgpB
        have hcV : cntV xs = (countN xs : Int) := by unfold cntV; rw [if_pos hck12.out]
        have hcle := countN_le xs
        have hcge := countN_pos (xs := xs)
        rw [hcV] at hcnA hcnB
        rw [hl.out] at hcle
        have hc1 : n1 = 0 ∨ 1 ≤ countN xs := by
          by_cases e : n1 = 0
          · exact .inl e
          · exact .inr (hcge fun h => e (by rw [hn1.out, h]; rfl))
        have hcz : n1 = 0 → countN xs = 0 := fun e => by subst e; simpa using hcle
        generalize countN xs = CN at *
        generalize needB xs = NB at *
        have hcle := shl_le hn hcle
        replace hc1 := Lib.hid hc1
        replace hcz := Lib.hid hcz
        clear hcge hxr hown hcV
        go_wp2_with fail
        refine (hcnA _ hr (hT2.ext hx)).mono ?_
        rintro e w2 ⟨rfl, hx2⟩
        have hx := hx.trans hx2
        have hr := hr.ext hx2
        have hB := hB.ext hx2
        clear hx2
        go_wp2_with fail
        refine (hcnB _ hB (hT2.ext hx)).mono ?_
        rintro e w3 ⟨rfl, hx3⟩
        have hx := hx.trans hx3
        have hr := hr.ext hx3
        have hB := hB.ext hx3
        clear hx3
        go_wp2_with fail
        refine (hndA _ hr).mono ?_
        rintro e w4 ⟨rfl, hx4⟩
        have hx := hx.trans hx4
        have hr := hr.ext hx4
        have hB := hB.ext hx4
        clear hx4
        go_wp2_with fail
        refine (hndB _ hB).mono ?_
        rintro e w5 ⟨rfl, hx5⟩
        have hx := hx.trans hx5
        have hr := hr.ext hx5
        have hB := hB.ext hx5
        clear hx5
        go_wp2_with fail
        refine (hgpA _ hr (hT.ext hx)).mono ?_
        rintro e w6 ⟨v6, U, rfl, hown6, hU, _, hx6⟩
        have hU := hU (by trivial)
        obtain ⟨aU, nU, cU, hnU, rfl, hUr⟩ := OwnK.rdn Snd.len hown6
        replace hnU := Lib.hid hnU
        have hx := hx.trans hx6
        have hr := hr.ext hx6
        have hB := hB.ext hx6
        clear hx6 hown6
        go_wp2_with fail
        refine (hgpB _ hB (hT.ext hx)).mono ?_
        rintro e w7 ⟨v7, V, rfl, hown7, hV, _, hx7⟩
        have hV := srtG_turn hU (hV (by trivial))
        subst hV
        obtain ⟨aV, nV, cV, hnV, rfl, hVr⟩ := OwnK.rdn Snd.len hown7
        replace hnV := Lib.hid hnV
        have hx := hx.trans hx7
        have hr := hr.ext hx7
        have hUr := hUr.ext hx7
        clear hx7 hown7 hB hcnA hcnB hndA hndB hgpA hgpB
        have hUo : Hid (∀ g ∈ V, g.ok = true ∧ g ∉ xs) := Lib.hid fun g hg => ⟨gapP_ok hok.out ((hU.2 g).1 hg), ((hU.2 g).1 hg).1⟩
        have hUs := Lib.hid hU.1
        clear hU
        have heq := lsame_any aU nU cU V aV nV cV V _ hUr hVr
        rw [decide_eq_true rfl] at heq
        have hd1 : ((CN : Int) != (CN : Int)) = false := by simp
        have hd2 : ((NB.toNat : Int) != (NB.toNat : Int)) = false := by simp
        go_wp2_with fail
        refine heq.mono ?_
        rintro e w8 ⟨rfl, hx8⟩
        have hx := hx.trans hx8
        have hr := hr.ext hx8
        have hUr := hUr.ext hx8
        clear hx8 heq hVr hd1 hd2
        go_wp2_with fail
        have hUm : nU ≤ 9223372036854775807 := by have := hUr.le; have := hUr.most; unfold maxLen at this; omega
        go_loopw [18, 19] (fun iv _ wr => ∃ i : Nat, i ≤ nU ∧ iv = .int .i64 i ∧ Ext w8 wr) (fun iv _ _ => nU - (intOf iv).toNat)
        case atStart => exact ⟨0, Nat.zero_le _, rfl, Ext.refl _⟩
        case round =>
          obtain ⟨i, hi, rfl, hxr⟩ := hrel
          by_cases hlt : i < nU
          · have hki : (i : Int) < (nU : Int) := by omega
            obtain ⟨b, off, g, rfl, hg, hb, c0, c1⟩ := (hUr.ext hxr).snd hlt
            have hgm := List.mem_of_getElem? hg.out
            have hgo := (hUo.out g hgm).1
            have hgn := Lib.hid (hUo.out g hgm).2
            have hvl := fun W => fvalid_any g W
            rw [hgo] at hvl
            obtain ⟨wo, rfl⟩ : ∃ wo : World, wo = wr := ⟨_, rfl⟩
            have r0 := fun z : ExtOf wo => z.cell c0
            have r1 := fun z : ExtOf wo => z.cell c1
            replace hgm := Lib.hid hgm
            cases i with
            | zero =>
              have hki0 : (0 : Int) < (nU : Int) := by omega
              rw [Nat.zero_mul, Nat.add_zero] at c0 c1 r0 r1
              clear hki
              go_wp2_with fail
              (refine wp_region_qx (by kernel_rfl) (by kernel_rfl) ?_
               repeat (go_big_quiet_step ((go_at_call 33; exact calls_ext (hvl _))))
               refine wpQuiet_nil ?_
               intro wq hw'
               have hxq := ext_of_ex hw'
               clear hw')
              clear r0 r1 hvl
              have hxr := hxr.trans hxq
              have c0 := hxq.cellv c0
              have c1 := hxq.cellv c1
              clear hxq
              go_wp2_with fail
              go_loopw [19] (fun jv wr => ∃ j : Nat, j ≤ n1 ∧ jv = .int .i64 j ∧ Ext wq wr) (fun jv _ => n1 - (intOf jv).toNat)
              case atStart => exact ⟨0, Nat.zero_le _, rfl, Ext.refl _⟩
              case round =>
                obtain ⟨j, hj, rfl, hxj⟩ := hrel
                by_cases hlj : j < n1
                · have hkj : (j : Int) < (n1 : Int) := by omega
                  obtain ⟨b3, off3, s, rfl, hs, hb3, e0, e1⟩ := ((hr.ext hxr).ext hxj).snd hlj
                  have hne : s ≠ g := fun e => hgn.out (by rw [← e]; exact List.mem_of_getElem? hs.out)
                  have hq : ∀ W : World, (binOp .eql 27 (.agg #[.int .u32 s.p.toNat, .int .u32 s.m.toNat]) (.agg #[.int .u32 g.p.toNat, .int .u32 g.m.toNat])).run Tryd.prog W = .ok (.bool false) W := fun W => by
                    have h := eql_snd s g W
                    rw [decide_eq_false hne] at h; exact h
                  have c0 := hxj.cellv c0
                  have c1 := hxj.cellv c1
                  replace hs := Lib.hid hs.out
                  replace hne := Lib.hid hne
                  obtain ⟨wo2, rfl⟩ : ∃ wo2 : World, wo2 = wr := ⟨_, rfl⟩
                  have r0 := fun z : ExtOf wo2 => z.cell c0
                  have r1 := fun z : ExtOf wo2 => z.cell c1
                  have r2 := fun z : ExtOf wo2 => z.cell e0
                  have r3 := fun z : ExtOf wo2 => z.cell e1
                  go_wp2_with fail
                  (refine wp_region_qx (by kernel_rfl) (by kernel_rfl) ?_
                   repeat (go_big_quiet_step (fail))
                   refine wpQuiet_nil ?_
                   intro wq hw'
                   have hxq := ext_of_ex hw'
                   clear hw')
                  clear r0 r1 r2 r3 hq
                  go_wp2_with fail
                  (first | exact ⟨⟨j + 1, hlj, by go_num, hxj.trans hxq⟩, (by simp [intOf]; omega)⟩ | (go_roundw; case rel => exact ⟨j + 1, hlj, by go_num, hxj.trans hxq⟩; case measure => exact (by simp [intOf]; omega)))
                · have hjn := Lib.hid (show j = n1 by omega)
                  have hxr := hxr.trans hxj
                  go_wp2_with fail
                  (first | exact ⟨⟨0 + 1, hlt, by go_num, hxr⟩, (by simp [intOf]; omega)⟩ | (go_roundw; case rel => exact ⟨0 + 1, hlt, by go_num, hxr⟩; case measure => exact (by simp [intOf]; omega)))
            | succ i1 =>
              obtain ⟨b2, off2, g1, heq2, hg1, hb2, d0, d1⟩ := (hUr.ext hxr).snd (i := i1) (by omega)
              cases heq2
              have hcm : cmpS g1 g < 0 := by
                obtain ⟨l1, e1⟩ := List.getElem?_eq_some_iff.1 hg1.out
                obtain ⟨l2, e2⟩ := List.getElem?_eq_some_iff.1 hg.out
                have := List.pairwise_iff_getElem.1 hUs.out i1 (i1 + 1) l1 l2 (by omega)
                rw [e1, e2] at this; exact this
              have hor := fun W => order_any g1 g W
              generalize cmpS g1 g = cm at *
              have hcm2 : decide (0 ≤ cm) = false := by simp; omega
              have r2 := fun z : ExtOf wo => z.cell d0
              have r3 := fun z : ExtOf wo => z.cell d1
              have hki1 : (i1 : Int) < (nU : Int) := by omega
              have hki2 : (i1 : Int) + 1 < (nU : Int) := by omega
              have hk10 : (0 : Int) < (i1 : Int) + 1 := by omega
              replace hg1 := Lib.hid hg1.out
              clear hki
              go_wp2_with fail
              (refine wp_region_qx (by kernel_rfl) (by kernel_rfl) ?_
               repeat (go_big_quiet_step ((first | (go_at_call 33; exact calls_ext (hvl _)) | (go_at_call 34; exact calls_ext (hor _)))))
               refine wpQuiet_nil ?_
               intro wq hw'
               have hxq := ext_of_ex hw'
               clear hw')
              clear r2 r3 hor
              clear r0 r1 hvl
              have hxr := hxr.trans hxq
              have c0 := hxq.cellv c0
              have c1 := hxq.cellv c1
              clear hxq
              go_wp2_with fail
              go_loopw [19] (fun jv wr => ∃ j : Nat, j ≤ n1 ∧ jv = .int .i64 j ∧ Ext wq wr) (fun jv _ => n1 - (intOf jv).toNat)
              case atStart => exact ⟨0, Nat.zero_le _, rfl, Ext.refl _⟩
              case round =>
                obtain ⟨j, hj, rfl, hxj⟩ := hrel
                by_cases hlj : j < n1
                · have hkj : (j : Int) < (n1 : Int) := by omega
                  obtain ⟨b3, off3, s, rfl, hs, hb3, e0, e1⟩ := ((hr.ext hxr).ext hxj).snd hlj
                  have hne : s ≠ g := fun e => hgn.out (by rw [← e]; exact List.mem_of_getElem? hs.out)
                  have hq : ∀ W : World, (binOp .eql 27 (.agg #[.int .u32 s.p.toNat, .int .u32 s.m.toNat]) (.agg #[.int .u32 g.p.toNat, .int .u32 g.m.toNat])).run Tryd.prog W = .ok (.bool false) W := fun W => by
                    have h := eql_snd s g W
                    rw [decide_eq_false hne] at h; exact h
                  have c0 := hxj.cellv c0
                  have c1 := hxj.cellv c1
                  replace hs := Lib.hid hs.out
                  replace hne := Lib.hid hne
                  obtain ⟨wo2, rfl⟩ : ∃ wo2 : World, wo2 = wr := ⟨_, rfl⟩
                  have r0 := fun z : ExtOf wo2 => z.cell c0
                  have r1 := fun z : ExtOf wo2 => z.cell c1
                  have r2 := fun z : ExtOf wo2 => z.cell e0
                  have r3 := fun z : ExtOf wo2 => z.cell e1
                  go_wp2_with fail
                  (refine wp_region_qx (by kernel_rfl) (by kernel_rfl) ?_
                   repeat (go_big_quiet_step (fail))
                   refine wpQuiet_nil ?_
                   intro wq hw'
                   have hxq := ext_of_ex hw'
                   clear hw')
                  clear r0 r1 r2 r3 hq
                  go_wp2_with fail
                  (first | exact ⟨⟨j + 1, hlj, by go_num, hxj.trans hxq⟩, (by simp [intOf]; omega)⟩ | (go_roundw; case rel => exact ⟨j + 1, hlj, by go_num, hxj.trans hxq⟩; case measure => exact (by simp [intOf]; omega)))
                · have hjn := Lib.hid (show j = n1 by omega)
                  have hxr := hxr.trans hxj
                  go_wp2_with fail
                  (first | exact ⟨⟨i1 + 1 + 1, hlt, by go_num, hxr⟩, (by simp [intOf]; omega)⟩ | (go_roundw; case rel => exact ⟨i1 + 1 + 1, hlt, by go_num, hxr⟩; case measure => exact (by simp [intOf]; omega)))
          · have hin := Lib.hid (show i = nU by omega)
            have hxf := hx.trans hxr
            obtain ⟨hsh1, hsh2⟩ := shl_wrap hn
            by_cases hn0 : n1 = 0
            · subst hn0
              obtain rfl : CN = 0 := hcz.out rfl
              go_wp2_with fail
              refine (works_any _ (hT.ext hxf) (hT2.ext hxf)).mono ?_
              rintro e wz ⟨rfl, hxz⟩
              go_wp2_with fail
              go_ret
              exact ⟨rfl, (hxf).trans hxz⟩
            · have hn1i : (1 : Int) ≤ (n1 : Int) := by omega
              have hcn1 : (1 : Int) ≤ (CN : Int) := by rcases hc1.out with h | h <;> omega
              have hmin : min (n1 : Int) 1 = 1 := by omega
              replace hn0 := Lib.hid hn0
              go_wp2_with fail
              refine (works_any _ (hT.ext hxf) (hT2.ext hxf)).mono ?_
              rintro e wz ⟨rfl, hxz⟩
              go_wp2_with fail
              go_ret
              exact ⟨rfl, (hxf).trans hxz⟩
      · obtain ⟨k1, rfl⟩ : ∃ k1, k = k1 + 1 := ⟨k - 1, by omega⟩
        obtain rfl : z = (k1 : Int) := by omega
        clear hz h0
        have hk1 : k1 < n1 := by omega
        have hki : (k1 : Int) < (n1 : Int) := by omega
        obtain ⟨b, off, s, rfl, hs, hb, c0, c1⟩ := (hr.ext hxr).snd hk1
        have hdr := Lib.hid (drop_rev hs.out)
        have hlenb : (xs.drop (k1 + 1)).reverse.length ≤ 8 := by rw [List.length_reverse, List.length_drop, hl.out]; omega
        replace hs := Lib.hid hs.out
        generalize (xs.drop (k1 + 1)).reverse = T at *
        go_wp2_with (at_builtin; refine wp_app1 w1 wr s rfl _ _ 22 rfl 27 Tryd.underlying22 info_snd rfl (by decide) _ _ rfl hown hxr (by first | rfl | (rw [World.size_alloc]; rfl)) (Snd.len _) (Snd.one _) (by omega) (by unfold maxLen; omega) ?_; intro v5 w10 o5 x5 hgA)
        exact ⟨⟨k1, (k1 : Int) - 1, by omega, by go_num, rfl, x5, by rw [hdr.out]; exact o5⟩, (by simp [intOf] <;> omega)⟩
  · have hn8 : n ≤ 8 := by omega
    go_wp2_with fail
    refine (different_any a _ cap _ _ hr0).mono ?_
    rintro e w1 ⟨v1, xs, rfl, hown1, hD, hl8, hx⟩
    obtain ⟨a1, n1, c1, hn1, rfl, hr⟩ := OwnK.rdn Snd.len hown1
    have hl := hr.len
    have hn : n1 ≤ 8 := by rw [hn1]; exact Nat.le_trans hl8 hn8
    have hck : chkI 256 xs = 0 := hD.chk (by have := hD.len; omega)
    have hck12 : chkI 12 xs = 0 := hD.chk (by rw [← hn1]; omega)
    have hok := hD.ok
    replace hD := Lib.hid hD
    replace hn1 := Lib.hid hn1
    replace hl := Lib.hid hl
    replace hck := Lib.hid hck
    replace hck12 := Lib.hid hck12
    replace hok := Lib.hid hok
    replace hl8 := Lib.hid hl8
    clear hown1 hr0 hn8
    go_wp2_with fail
    go_loopw [4, 5] (fun ov iv wr => ∃ (k : Nat) (z : Int), k ≤ n1 ∧ iv = .int .i64 z ∧ z = (k : Int) - 1 ∧ Ext w1 wr ∧ OwnS w1.heap.size 27 wr ov (xs.drop k).reverse) (fun _ iv _ => (intOf iv + 1).toNat)
    case atStart => exact ⟨n1, (n1 : Int) - 1, Nat.le_refl _, by first | rfl | go_num, rfl, Ext.refl _, by rw [List.drop_of_length_le (by rw [hl.out]; exact Nat.le_refl _)]; exact OwnK.nil _ _ _⟩
    case round =>
      obtain ⟨k, z, hk, rfl, hz, hxr, hown⟩ := hrel
      rcases Nat.eq_zero_or_pos k with h0 | h0
      · subst h0
        obtain rfl : z = -1 := by omega
        clear hz
        rw [List.drop_zero] at hown
        obtain ⟨aB, nB, cB, hnB, rfl, hB⟩ := OwnK.rdn Snd.len hown
        replace hnB := Lib.hid hnB
        have hx := hx.trans hxr
        have hr := hr.ext hxr
        have hcnA := fun W (h : RdS W a1 n1 c1 xs) (h2 : Tab64 W) => count_any a1 n1 c1 xs W h h2
        have hcnB := fun W (h : RdS W aB nB cB xs.reverse) (h2 : Tab64 W) => count_any aB nB cB xs.reverse W h h2
        have hndA := fun W (h : RdS W a1 n1 c1 xs) => needed_any a1 n1 c1 xs W h
        have hndB := fun W (h : RdS W aB nB cB xs.reverse) => needed_any aB nB cB xs.reverse W h
        have hgpA := fun W (h : RdS W a1 n1 c1 xs) (h2 : TabOk W) => gaps_any a1 n1 c1 xs W h h2
        have hgpB := fun W (h : RdS W aB nB cB xs.reverse) (h2 : TabOk W) => gaps_any aB nB cB xs.reverse W h h2
        unfold RetCn at hcnA hcnB
        unfold RetN at hndA hndB
        unfold RetG at hgpA hgpB
        rw [cntV_turn, chkI_turn, hck12.out] at hcnB
        rw [hck12.out] at hcnA
        rw [needB_turn hck.out, chkI_turn, hck.out] at hndB
        rw [hck.out] at hndA hgpA
        rw [chkI_turn, hck.out] at hgpB
        have hcV : cntV xs = (countN xs : Int) := by unfold cntV; rw [if_pos hck12.out]
        have hcle := countN_le xs
        have hcge := countN_pos (xs := xs)
        rw [hcV] at hcnA hcnB
        rw [hl.out] at hcle
        have hc1 : n1 = 0 ∨ 1 ≤ countN xs := by
          by_cases e : n1 = 0
          · exact .inl e
          · exact .inr (hcge fun h => e (by rw [hn1.out, h]; rfl))
        have hcz : n1 = 0 → countN xs = 0 := fun e => by subst e; simpa using hcle
        generalize countN xs = CN at *
        generalize needB xs = NB at *
        have hcle := shl_le hn hcle
        replace hc1 := Lib.hid hc1
        replace hcz := Lib.hid hcz
        clear hcge hxr hown hcV
        go_wp2_with fail
        refine (hcnA _ hr (hT2.ext hx)).mono ?_
        rintro e w2 ⟨rfl, hx2⟩
        have hx := hx.trans hx2
        have hr := hr.ext hx2
        have hB := hB.ext hx2
        clear hx2
        go_wp2_with fail
        refine (hcnB _ hB (hT2.ext hx)).mono ?_
        rintro e w3 ⟨rfl, hx3⟩
        have hx := hx.trans hx3
        have hr := hr.ext hx3
        have hB := hB.ext hx3
        clear hx3
        go_wp2_with fail
        refine (hndA _ hr).mono ?_
        rintro e w4 ⟨rfl, hx4⟩
        have hx := hx.trans hx4
        have hr := hr.ext hx4
        have hB := hB.ext hx4
        clear hx4
        go_wp2_with fail
        refine (hndB _ hB).mono ?_
        rintro e w5 ⟨rfl, hx5⟩
        have hx := hx.trans hx5
        have hr := hr.ext hx5
        have hB := hB.ext hx5
        clear hx5
        go_wp2_with fail
        refine (hgpA _ hr (hT.ext hx)).mono ?_
        rintro e w6 ⟨v6, U, rfl, hown6, hU, _, hx6⟩
        have hU := hU (by trivial)
        obtain ⟨aU, nU, cU, hnU, rfl, hUr⟩ := OwnK.rdn Snd.len hown6
        replace hnU := Lib.hid hnU
        have hx := hx.trans hx6
        have hr := hr.ext hx6
        have hB := hB.ext hx6
        clear hx6 hown6
        go_wp2_with fail
        refine (hgpB _ hB (hT.ext hx)).mono ?_
        rintro e w7 ⟨v7, V, rfl, hown7, hV, _, hx7⟩
        have hV := srtG_turn hU (hV (by trivial))
        subst hV
        obtain ⟨aV, nV, cV, hnV, rfl, hVr⟩ := OwnK.rdn Snd.len hown7
        replace hnV := Lib.hid hnV
        have hx := hx.trans hx7
        have hr := hr.ext hx7
        have hUr := hUr.ext hx7
        clear hx7 hown7 hB hcnA hcnB hndA hndB hgpA hgpB
        have hUo : Hid (∀ g ∈ V, g.ok = true ∧ g ∉ xs) := Lib.hid fun g hg => ⟨gapP_ok hok.out ((hU.2 g).1 hg), ((hU.2 g).1 hg).1⟩
        have hUs := Lib.hid hU.1
        clear hU
        have heq := lsame_any aU nU cU V aV nV cV V _ hUr hVr
        rw [decide_eq_true rfl] at heq
        have hd1 : ((CN : Int) != (CN : Int)) = false := by simp
        have hd2 : ((NB.toNat : Int) != (NB.toNat : Int)) = false := by simp
        go_wp2_with fail
        refine heq.mono ?_
        rintro e w8 ⟨rfl, hx8⟩
        have hx := hx.trans hx8
        have hr := hr.ext hx8
        have hUr := hUr.ext hx8
        clear hx8 heq hVr hd1 hd2
        go_wp2_with fail
        have hUm : nU ≤ 9223372036854775807 := by have := hUr.le; have := hUr.most; unfold maxLen at this; omega
        go_loopw [18, 19] (fun iv _ wr => ∃ i : Nat, i ≤ nU ∧ iv = .int .i64 i ∧ Ext w8 wr) (fun iv _ _ => nU - (intOf iv).toNat)
        case atStart => exact ⟨0, Nat.zero_le _, rfl, Ext.refl _⟩
        case round =>
          obtain ⟨i, hi, rfl, hxr⟩ := hrel
          by_cases hlt : i < nU
          · have hki : (i : Int) < (nU : Int) := by omega
            obtain ⟨b, off, g, rfl, hg, hb, c0, c1⟩ := (hUr.ext hxr).snd hlt
            have hgm := List.mem_of_getElem? hg.out
            have hgo := (hUo.out g hgm).1
            have hgn := Lib.hid (hUo.out g hgm).2
            have hvl := fun W => fvalid_any g W
            rw [hgo] at hvl
            obtain ⟨wo, rfl⟩ : ∃ wo : World, wo = wr := ⟨_, rfl⟩
            have r0 := fun z : ExtOf wo => z.cell c0
            have r1 := fun z : ExtOf wo => z.cell c1
            replace hgm := Lib.hid hgm
            cases i with
            | zero =>
              have hki0 : (0 : Int) < (nU : Int) := by omega
              rw [Nat.zero_mul, Nat.add_zero] at c0 c1 r0 r1
              clear hki
              go_wp2_with fail
              (refine wp_region_qx (by kernel_rfl) (by kernel_rfl) ?_
               repeat (go_big_quiet_step ((go_at_call 33; exact calls_ext (hvl _))))
               refine wpQuiet_nil ?_
               intro wq hw'
               have hxq := ext_of_ex hw'
               clear hw')
              clear r0 r1 hvl
              have hxr := hxr.trans hxq
              have c0 := hxq.cellv c0
              have c1 := hxq.cellv c1
              clear hxq
              go_wp2_with fail
              go_loopw [19] (fun jv wr => ∃ j : Nat, j ≤ n1 ∧ jv = .int .i64 j ∧ Ext wq wr) (fun jv _ => n1 - (intOf jv).toNat)
              case atStart => exact ⟨0, Nat.zero_le _, rfl, Ext.refl _⟩
              case round =>
                obtain ⟨j, hj, rfl, hxj⟩ := hrel
                by_cases hlj : j < n1
                · have hkj : (j : Int) < (n1 : Int) := by omega
                  obtain ⟨b3, off3, s, rfl, hs, hb3, e0, e1⟩ := ((hr.ext hxr).ext hxj).snd hlj
                  have hne : s ≠ g := fun e => hgn.out (by rw [← e]; exact List.mem_of_getElem? hs.out)
                  have hq : ∀ W : World, (binOp .eql 27 (.agg #[.int .u32 s.p.toNat, .int .u32 s.m.toNat]) (.agg #[.int .u32 g.p.toNat, .int .u32 g.m.toNat])).run Tryd.prog W = .ok (.bool false) W := fun W => by
                    have h := eql_snd s g W
                    rw [decide_eq_false hne] at h; exact h
                  have c0 := hxj.cellv c0
                  have c1 := hxj.cellv c1
                  replace hs := Lib.hid hs.out
                  replace hne := Lib.hid hne
                  obtain ⟨wo2, rfl⟩ : ∃ wo2 : World, wo2 = wr := ⟨_, rfl⟩
                  have r0 := fun z : ExtOf wo2 => z.cell c0
                  have r1 := fun z : ExtOf wo2 => z.cell c1
                  have r2 := fun z : ExtOf wo2 => z.cell e0
                  have r3 := fun z : ExtOf wo2 => z.cell e1
                  go_wp2_with fail
                  (refine wp_region_qx (by kernel_rfl) (by kernel_rfl) ?_
                   repeat (go_big_quiet_step (fail))
                   refine wpQuiet_nil ?_
                   intro wq hw'
                   have hxq := ext_of_ex hw'
                   clear hw')
                  clear r0 r1 r2 r3 hq
                  go_wp2_with fail
                  (first | exact ⟨⟨j + 1, hlj, by go_num, hxj.trans hxq⟩, (by simp [intOf]; omega)⟩ | (go_roundw; case rel => exact ⟨j + 1, hlj, by go_num, hxj.trans hxq⟩; case measure => exact (by simp [intOf]; omega)))
                · have hjn := Lib.hid (show j = n1 by omega)
                  have hxr := hxr.trans hxj
                  go_wp2_with fail
                  (first | exact ⟨⟨0 + 1, hlt, by go_num, hxr⟩, (by simp [intOf]; omega)⟩ | (go_roundw; case rel => exact ⟨0 + 1, hlt, by go_num, hxr⟩; case measure => exact (by simp [intOf]; omega)))
            | succ i1 =>
              obtain ⟨b2, off2, g1, heq2, hg1, hb2, d0, d1⟩ := (hUr.ext hxr).snd (i := i1) (by omega)
              cases heq2
              have hcm : cmpS g1 g < 0 := by
                obtain ⟨l1, e1⟩ := List.getElem?_eq_some_iff.1 hg1.out
                obtain ⟨l2, e2⟩ := List.getElem?_eq_some_iff.1 hg.out
                have := List.pairwise_iff_getElem.1 hUs.out i1 (i1 + 1) l1 l2 (by omega)
                rw [e1, e2] at this; exact this
              have hor := fun W => order_any g1 g W
              generalize cmpS g1 g = cm at *
              have hcm2 : decide (0 ≤ cm) = false := by simp; omega
              have r2 := fun z : ExtOf wo => z.cell d0
              have r3 := fun z : ExtOf wo => z.cell d1
              have hki1 : (i1 : Int) < (nU : Int) := by omega
              have hki2 : (i1 : Int) + 1 < (nU : Int) := by omega
              have hk10 : (0 : Int) < (i1 : Int) + 1 := by omega
              replace hg1 := Lib.hid hg1.out
              clear hki
              go_wp2_with fail
              (refine wp_region_qx (by kernel_rfl) (by kernel_rfl) ?_
               repeat (go_big_quiet_step ((first | (go_at_call 33; exact calls_ext (hvl _)) | (go_at_call 34; exact calls_ext (hor _)))))
               refine wpQuiet_nil ?_
               intro wq hw'
               have hxq := ext_of_ex hw'
               clear hw')
              clear r2 r3 hor
              clear r0 r1 hvl
              have hxr := hxr.trans hxq
              have c0 := hxq.cellv c0
              have c1 := hxq.cellv c1
              clear hxq
              go_wp2_with fail
              go_loopw [19] (fun jv wr => ∃ j : Nat, j ≤ n1 ∧ jv = .int .i64 j ∧ Ext wq wr) (fun jv _ => n1 - (intOf jv).toNat)
              case atStart => exact ⟨0, Nat.zero_le _, rfl, Ext.refl _⟩
              case round =>
                obtain ⟨j, hj, rfl, hxj⟩ := hrel
                by_cases hlj : j < n1
                · have hkj : (j : Int) < (n1 : Int) := by omega
                  obtain ⟨b3, off3, s, rfl, hs, hb3, e0, e1⟩ := ((hr.ext hxr).ext hxj).snd hlj
                  have hne : s ≠ g := fun e => hgn.out (by rw [← e]; exact List.mem_of_getElem? hs.out)
                  have hq : ∀ W : World, (binOp .eql 27 (.agg #[.int .u32 s.p.toNat, .int .u32 s.m.toNat]) (.agg #[.int .u32 g.p.toNat, .int .u32 g.m.toNat])).run Tryd.prog W = .ok (.bool false) W := fun W => by
                    have h := eql_snd s g W
                    rw [decide_eq_false hne] at h; exact h
                  have c0 := hxj.cellv c0
                  have c1 := hxj.cellv c1
                  replace hs := Lib.hid hs.out
                  replace hne := Lib.hid hne
                  obtain ⟨wo2, rfl⟩ : ∃ wo2 : World, wo2 = wr := ⟨_, rfl⟩
                  have r0 := fun z : ExtOf wo2 => z.cell c0
                  have r1 := fun z : ExtOf wo2 => z.cell c1
                  have r2 := fun z : ExtOf wo2 => z.cell e0
                  have r3 := fun z : ExtOf wo2 => z.cell e1
                  go_wp2_with fail
                  (refine wp_region_qx (by kernel_rfl) (by kernel_rfl) ?_
                   repeat (go_big_quiet_step (fail))
                   refine wpQuiet_nil ?_
                   intro wq hw'
                   have hxq := ext_of_ex hw'
                   clear hw')
                  clear r0 r1 r2 r3 hq
                  go_wp2_with fail
                  (first | exact ⟨⟨j + 1, hlj, by go_num, hxj.trans hxq⟩, (by simp [intOf]; omega)⟩ | (go_roundw; case rel => exact ⟨j + 1, hlj, by go_num, hxj.trans hxq⟩; case measure => exact (by simp [intOf]; omega)))
                · have hjn := Lib.hid (show j = n1 by omega)
                  have hxr := hxr.trans hxj
                  go_wp2_with fail
                  (first | exact ⟨⟨i1 + 1 + 1, hlt, by go_num, hxr⟩, (by simp [intOf]; omega)⟩ | (go_roundw; case rel => exact ⟨i1 + 1 + 1, hlt, by go_num, hxr⟩; case measure => exact (by simp [intOf]; omega)))
          · have hin := Lib.hid (show i = nU by omega)
            have hxf := hx.trans hxr
            obtain ⟨hsh1, hsh2⟩ := shl_wrap hn
            by_cases hn0 : n1 = 0
            · subst hn0
              obtain rfl : CN = 0 := hcz.out rfl
              go_wp2_with fail
              refine (works_any _ (hT.ext hxf) (hT2.ext hxf)).mono ?_
              rintro e wz ⟨rfl, hxz⟩
              go_wp2_with fail
              go_ret
              exact ⟨rfl, (hxf).trans hxz⟩
            · have hn1i : (1 : Int) ≤ (n1 : Int) := by omega
              have hcn1 : (1 : Int) ≤ (CN : Int) := by rcases hc1.out with h | h <;> omega
              have hmin : min (n1 : Int) 1 = 1 := by omega
              replace hn0 := Lib.hid hn0
              go_wp2_with fail
              refine (works_any _ (hT.ext hxf) (hT2.ext hxf)).mono ?_
              rintro e wz ⟨rfl, hxz⟩
              go_wp2_with fail
              go_ret
              exact ⟨rfl, (hxf).trans hxz⟩
      · obtain ⟨k1, rfl⟩ : ∃ k1, k = k1 + 1 := ⟨k - 1, by omega⟩
        obtain rfl : z = (k1 : Int) := by omega
        clear hz h0
        have hk1 : k1 < n1 := by omega
        have hki : (k1 : Int) < (n1 : Int) := by omega
        obtain ⟨b, off, s, rfl, hs, hb, c0, c1⟩ := (hr.ext hxr).snd hk1
        have hdr := Lib.hid (drop_rev hs.out)
        have hlenb : (xs.drop (k1 + 1)).reverse.length ≤ 8 := by rw [List.length_reverse, List.length_drop, hl.out]; omega
        replace hs := Lib.hid hs.out
        generalize (xs.drop (k1 + 1)).reverse = T at *
        go_wp2_with (at_builtin; refine wp_app1 w1 wr s rfl _ _ 22 rfl 27 Tryd.underlying22 info_snd rfl (by decide) _ _ rfl hown hxr (by first | rfl | (rw [World.size_alloc]; rfl)) (Snd.len _) (Snd.one _) (by omega) (by unfold maxLen; omega) ?_; intro v5 w10 o5 x5 hgA)
        exact ⟨⟨k1, (k1 : Int) - 1, by omega, by go_num, rfl, x5, by rw [hdr.out]; exact o5⟩, (by simp [intOf] <;> omega)⟩
end Go.Proofs.YtbnbfdbliokcaaaDoor
