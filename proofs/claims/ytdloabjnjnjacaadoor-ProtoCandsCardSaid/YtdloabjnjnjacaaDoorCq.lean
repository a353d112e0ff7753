/-
  slices.Compact at a list of sounds that the call owns.
-/
import Derived.Test.YtdloabjnjnjacaaDoorSo
import Derived.Lib.SliceRun
namespace Go.Proofs.YtdloabjnjnjacaaDoor
open Go.RowKit
/-! ### Rows of the call's own, elements of k cells -/
section
variable {α : Type} {k : Nat} {enc : α → List Value} {B e g n cap : Nat} {w : World} {xs : List α}
theorem OwnK.atk (hk : ∀ x, (enc x).length = k) (h : OwnK k enc B e w (.slice (some ⟨g, 0, none⟩) n cap) xs) {i : Nat} {y : α} (hi : xs[i]? = some y) {j : Nat} {u : Value} (hu : (enc y)[j]? = some u) : w.cell? ⟨g, i * k + j, none⟩ = some u := by
  obtain ⟨h1, h2⟩ := h
  rcases h2 with ⟨h3, _⟩ | ⟨g', cap', cur, h3, _, hh, _, _, _, ht⟩
  · cases h3
  · simp only [Value.slice.injEq, Option.some.injEq, Addr.mk.injEq, and_true] at h3
    obtain ⟨rfl, _, _⟩ := h3
    have hf := flatMap_at hk xs i y hi j _ hu
    rw [← ht, List.getElem?_take] at hf
    split at hf
    · simp only [World.cell?, hh]; simpa using hf
    · cases hf
theorem OwnK.free (h : OwnK k enc B e w (.slice (some ⟨g, 0, none⟩) n cap) xs) (i : Nat) : w.frozen? ⟨g, i, none⟩ = false := by
  obtain ⟨h1, h2⟩ := h
  rcases h2 with ⟨h3, _⟩ | ⟨g', cap', cur, h3, _, hh, _, _, _, ht⟩
  · cases h3
  · simp only [Value.slice.injEq, Option.some.injEq, Addr.mk.injEq, and_true] at h3
    obtain ⟨rfl, _, _⟩ := h3
    exact frozen_of_row w g i cur e hh
theorem OwnK.ge (h : OwnK k enc B e w (.slice (some ⟨g, 0, none⟩) n cap) xs) : B ≤ g ∧ g < w.heap.size ∧ xs.length = n ∧ n ≤ cap ∧ cap ≤ maxLen := by
  have h0 := World.ownsRow.lt h g rfl
  obtain ⟨h1, h2⟩ := h
  rcases h2 with ⟨h3, _⟩ | ⟨g', cap', cur, h3, _, hh, h4, h5, _, ht⟩
  · cases h3
  · simp only [Value.slice.injEq, Option.some.injEq, Addr.mk.injEq, and_true] at h3
    obtain ⟨_, h6, h7⟩ := h3
    exact ⟨h0.1, h0.2, h6.symm, by omega, by omega⟩
theorem OwnK.takeK (hk : ∀ x, (enc x).length = k) (h : OwnK k enc B e w (.slice (some ⟨g, 0, none⟩) n cap) xs) {m : Nat} (hm : m ≤ n) : OwnK k enc B e w (.slice (some ⟨g, 0, none⟩) m cap) (xs.take m) := by
  have hl := (OwnK.ge h).2.2.1
  obtain ⟨h1, h2⟩ := h
  rcases h2 with ⟨h3, _⟩ | ⟨g', cap', cur, h3, hg, hh, h4, h5, h6, ht⟩
  · cases h3
  · simp only [Value.slice.injEq, Option.some.injEq, Addr.mk.injEq, and_true] at h3
    obtain ⟨rfl, h7, rfl⟩ := h3
    have hlt : (xs.take m).length = m := by simp; omega
    refine ⟨length_flatMap_enc hk _, .inr ⟨g, cap, cur, by rw [hlt], hg, hh, by omega, h5, h6, ?_⟩⟩
    rw [flatMap_take hk, ← ht, List.take_take, hlt]
    congr 1
    have := Nat.mul_le_mul_right k hm
    rw [h7] at this; omega
/-- Cells behind the row are written: the row stays. -/
theorem OwnK.behind (hk : ∀ x, (enc x).length = k) : ∀ (vs : List Value) (o : Nat) (w : World), OwnK k enc B e w (.slice (some ⟨g, 0, none⟩) n cap) xs → n * k ≤ o → OwnK k enc B e (w.setCells g o vs) (.slice (some ⟨g, 0, none⟩) n cap) xs
  | [], _, _, h, _ => h
  | v :: vs, o, w, h, ho => by
    have hl := (OwnK.ge h).2.2.1
    refine OwnK.behind hk vs (o + 1) _ ?_ (by omega)
    subst hl
    have h1 := (World.ownsRow.stored h o v).1
    rw [List.set_eq_of_length_le (by rw [length_flatMap_enc hk]; exact ho)] at h1
    exact h1
theorem flat_set (hk : ∀ x, (enc x).length = k) : ∀ (xs : List α) (i : Nat) (y : α), i < xs.length → (xs.set i y).flatMap enc = (xs.flatMap enc).take (i * k) ++ enc y ++ (xs.flatMap enc).drop (i * k + k)
  | [], _, _, h => absurd h (Nat.not_lt_zero _)
  | x :: xs, 0, y, _ => by
    simp only [List.set_cons_zero, List.flatMap_cons, Nat.zero_mul, List.take_zero, List.nil_append, Nat.zero_add]
    rw [List.drop_append_of_le_length (by rw [hk]; exact Nat.le_refl _), List.drop_of_length_le (by rw [hk]; exact Nat.le_refl _)]; rfl
  | x :: xs, i + 1, y, h => by
    have ih := flat_set hk xs i y (by simpa using h)
    simp only [List.set_cons_succ, List.flatMap_cons]
    rw [ih, Nat.add_mul, Nat.one_mul, List.take_append, hk, List.take_of_length_le (l := enc x) (by rw [hk]; omega), show i * k + k - k = i * k by omega, List.drop_append, hk, List.drop_of_length_le (l := enc x) (by rw [hk]; omega), show i * k + k + k - k = i * k + k by omega]
    simp
end
section
variable {B e g n cap : Nat} {w : World} {xs : List Snd}
theorem OwnS.at (h : OwnS B e w (.slice (some ⟨g, 0, none⟩) n cap) xs) {i : Nat} {y : Snd} (hi : xs[i]? = some y) : w.cell? ⟨g, i * 2, none⟩ = some (.int .u32 y.p.toNat) ∧ w.cell? ⟨g, i * 2 + 1, none⟩ = some (.int .u32 y.m.toNat) :=
  ⟨OwnK.atk Snd.len h hi (j := 0) rfl, OwnK.atk Snd.len h hi (j := 1) rfl⟩
theorem set_two {β : Type} (l : List β) (j : Nat) (a b : β) (h : j + 1 < l.length) : (l.set j a).set (j + 1) b = l.take j ++ [a, b] ++ l.drop (j + 2) := by
  apply List.ext_getElem?
  intro i
  rw [List.getElem?_set, List.getElem?_set, List.append_assoc, List.getElem?_append, List.getElem?_append]
  simp only [List.length_set, List.length_take, List.length_cons, List.length_nil, List.getElem?_take, List.getElem?_drop]
  by_cases h1 : i < j
  · rw [if_neg (by omega), if_neg (by omega), if_pos (by omega), if_pos h1]
  · by_cases h2 : i = j
    · subst h2
      rw [if_neg (by omega), if_pos rfl, if_pos (by omega), if_neg (by omega), if_pos (by omega)]
      simp [show min i l.length = i by omega]
    · by_cases h3 : i = j + 1
      · subst h3
        rw [if_pos rfl, if_pos h, if_neg (by omega), if_pos (by omega)]
        simp [show min j l.length = j by omega]
      · rw [if_neg (by omega), if_neg (by omega), if_neg (by omega), if_neg (by omega)]
        congr 1; omega
theorem OwnS.set (h : OwnS B e w (.slice (some ⟨g, 0, none⟩) n cap) xs) {i : Nat} (hi : i < n) (y : Snd) :
    OwnS B e ((w.setCell ⟨g, i * 2, none⟩ (.int .u32 y.p.toNat)).setCell ⟨g, i * 2 + 1, none⟩ (.int .u32 y.m.toNat)) (.slice (some ⟨g, 0, none⟩) n cap) (xs.set i y) := by
  have hl := (OwnK.ge h).2.2.1
  subst hl
  have h1 := (World.ownsRow.stored h (i * 2) (.int .u32 y.p.toNat)).1
  have h2 := (World.ownsRow.stored h1 (i * 2 + 1) (.int .u32 y.m.toNat)).1
  rw [set_two _ _ _ _ (by rw [length_flatMap_enc Snd.len]; omega)] at h2
  unfold OwnS OwnK
  rw [List.length_set, flat_set Snd.len xs i y hi]
  exact h2
end
/-! ### Neighbours that are alike struck -/
def keepS (p : Snd) : List Snd → List Snd
  | [] => []
  | y :: t => if y = p then keepS y t else y :: keepS y t
def compS : List Snd → List Snd
  | [] => []
  | y :: t => y :: keepS y t
section
variable {hs cur : List Snd} {k i : Nat} {y p : Snd} {L : List Snd}
theorem drop_at' {α : Type} {l : List α} {k : Nat} {y : α} (h : l[k]? = some y) : l.drop k = y :: l.drop (k + 1) := by
  obtain ⟨h1, h2⟩ := List.getElem?_eq_some_iff.1 h
  rw [List.drop_eq_getElem_cons h1, h2]
theorem compS_one (h : hs[0]? = some p) : compS hs = hs.take 1 ++ keepS p (hs.drop 1) := by
  cases hs with
  | nil => simp at h
  | cons a t => simp at h; subst h; simp [compS]
theorem keepS_ne (h : L = cur.take k ++ keepS p (hs.drop i)) (hi : hs[i]? = some y) (hk : k < cur.length) (hn : y ≠ p) : L = (cur.set k y).take (k + 1) ++ keepS y (hs.drop (i + 1)) := by
  have h1 : (cur.set k y).take (k + 1) = cur.take k ++ [y] := by
    rw [List.take_add_one, List.getElem?_set_self hk, List.take_set_of_le (Nat.le_refl k)]; rfl
  rw [h, drop_at' hi, keepS, if_neg hn, h1, List.append_assoc]; rfl
theorem keepS_ne_same (h : L = hs.take k ++ keepS p (hs.drop k)) (hi : hs[k]? = some y) (hn : y ≠ p) : L = hs.take (k + 1) ++ keepS y (hs.drop (k + 1)) := by
  rw [h, drop_at' hi, keepS, if_neg hn, take_succ_at hi, List.append_assoc]; rfl
theorem keepS_eq (h : L = cur.take k ++ keepS p (hs.drop i)) (hi : hs[i]? = some y) (hn : y = p) : L = cur.take k ++ keepS y (hs.drop (i + 1)) := by
  rw [h, drop_at' hi, keepS, if_pos hn]
theorem keepS_end (h : L = cur.take k ++ keepS p (hs.drop i)) (hi : hs.length ≤ i) : L = cur.take k := by
  rw [h, List.drop_of_length_le hi, keepS, List.append_nil]
theorem drop_at_eq {α : Type} {cur hs : List α} {k i : Nat} (h : cur.drop k = hs.drop k) (hk : k ≤ i) : cur[i]? = hs[i]? := by
  have := congrArg (fun l => l[i - k]?) h
  simpa [show k + (i - k) = i by omega] using this
theorem drop_succ' {α : Type} {cur hs : List α} {i j : Nat} (h : cur.drop i = hs.drop i) (hj : j = i + 1) : cur.drop j = hs.drop j := by
  subst hj
  have := congrArg (List.drop 1) h
  simpa using this
theorem drop_set' {α : Type} {cur hs : List α} {y : α} {k i j : Nat} (h : cur.drop i = hs.drop i) (hk : k ≤ i) (hj : j = i + 1) : (cur.set k y).drop j = hs.drop j := by
  subst hj
  rw [List.drop_set_of_lt (by omega)]
  exact drop_succ' h rfl
end
/-! ### clear -/
theorem zero_snd (w : World) : (zeroValue 38).run Tryd.prog w = .ok (.agg #[.int .u32 0, .int .u32 0]) w := by kernel_rfl
theorem clear_snd (ty : TypeId) (w : World) (b o n c : Nat) (hn : 0 < n) (hc : ∀ j, j < n * 2 → (w.cell? ⟨b, o + j, none⟩).isSome = true) (hf : ∀ j, j < n * 2 → w.frozen? ⟨b, o + j, none⟩ = false) :
    ∃ vs, (Builtin.clear_ #[22] ty #[.slice (some ⟨b, o, none⟩) n c]).run Tryd.prog w = .ok (.tuple #[]) (w.setCells b o vs) := by
  refine ⟨(Builtin.zeroCells (Value.agg #[.int .u32 0, .int .u32 0]).cells n).toList, ?_⟩
  have hsz : (Value.agg #[.int .u32 0, .int .u32 0]).cells = #[.int .u32 0, .int .u32 0] := by kernel_rfl
  have hl : (Builtin.zeroCells (Value.agg #[.int .u32 0, .int .u32 0]).cells n).toList.length = n * 2 := by rw [hsz]; simp [Builtin.zeroCells]
  have hst := run_storeCells_cells (P := Tryd.prog) b o (Builtin.zeroCells (Value.agg #[.int .u32 0, .int .u32 0]).cells n).toList 0 w (by rw [hl]; simpa using hc) (by rw [hl]; simpa using hf) (by
    rw [hsz]
    intro v hv
    simp only [Builtin.zeroCells, Array.toList_map, List.mem_map] at hv
    obtain ⟨i, _, rfl⟩ := hv
    rcases Nat.mod_two_eq_zero_or_one i with h | h
    · simp [h]; rfl
    · simp [h]; rfl)
  simp only [Nat.add_zero] at hst
  obtain ⟨m, rfl⟩ : ∃ m, n = m + 1 := ⟨n - 1, by omega⟩
  simp [Builtin.clear_, run_underlying Tryd.underlying22, hst]
theorem ext_setCells {w0 : World} {g : Nat} : ∀ (vs : List Value) (o : Nat) (w : World), Ext w0 w → w0.heap.size ≤ g → Ext w0 (w.setCells g o vs)
  | [], _, _, h, _ => h
  | _ :: vs, o, _, h, hg => ext_setCells vs (o + 1) _ (Ext.setCell (p := ⟨g, o, none⟩) h hg _) hg
theorem elem_snds : Tryd.prog.underlying 22 = some (.slice (Tryd.prog.elem 22)) := by kernel_rfl
theorem size_snds (w : World) : (sizeOf (Tryd.prog.elem 22)).run Tryd.prog w = .ok 2 w := by kernel_rfl
theorem subA_two {g cap k : Nat} (h : cap ≠ k) : subA 2 (some ⟨g, 0, none⟩) cap k = some ⟨g, k * 2, none⟩ := by
  unfold subA; rw [if_neg h]; simp [Addr.add]; omega
set_option maxHeartbeats 2000000 in
theorem compactS_any {w w0 : World} {g n cap : Nat} {hs : List Snd} (hx : Ext w w0) (hown : OwnS w.heap.size 38 w0 (.slice (some ⟨g, 0, none⟩) n cap) hs) (hn : n ≤ 60000000) :
    Calls Tryd.prog 70 #[.slice (some ⟨g, 0, none⟩) n cap] w0 fun e w' => ∃ m, e = .returned (.slice (some ⟨g, 0, none⟩) m cap) ∧
      OwnS w.heap.size 38 w' (.slice (some ⟨g, 0, none⟩) m cap) (compS hs) ∧ Ext w w' := by
  obtain ⟨hB, hgs, hlen, hnc, hcm⟩ := OwnK.ge hown
  have heq := eql_snd
  have hne := neq_snd
  by_cases h2 : n < 2
  · have hd : decide ((n : Int) < 2) = true := by simp; omega
    have hc : compS hs = hs := by
      match hs, hlen with
      | [], _ => rfl
      | [h], _ => rfl
      | _ :: _ :: _, hl => simp at hl; omega
    go_enter Tryd.func70, Tryd.ntmps70
    go_wp2_with fail
    go_ret
    exact ⟨n, rfl, by rw [hc]; exact hown, hx⟩
  · have hd : decide ((n : Int) < 2) = false := by simp; omega
    obtain ⟨p0, hp0⟩ : ∃ p, hs[0]? = some p := ⟨hs[0]'(by omega), List.getElem?_eq_getElem _⟩
    go_enter Tryd.func70, Tryd.ntmps70
    go_wp2_with fail
    clear hd
    go_loopw [3] (fun i wr => ∃ k : Nat, 1 ≤ k ∧ k ≤ n ∧ i = .int .i64 k ∧ Ext w wr ∧ OwnS w.heap.size 38 wr (.slice (some ⟨g, 0, none⟩) n cap) hs ∧ ∃ p, Hid (hs[k - 1]? = some p) ∧ Hid (compS hs = hs.take k ++ keepS p (hs.drop k))) (fun i _ => n - (intOf i).toNat)
    case atStart => exact ⟨1, Nat.le_refl _, by omega, rfl, hx, hown, p0, Lib.hid hp0, Lib.hid (compS_one hp0)⟩
    case round =>
      obtain ⟨k, hk1, hk, rfl, hx1, hown1, p, hp, hall⟩ := hrel
      by_cases hlt : k < n
      · obtain ⟨y, hy⟩ : ∃ y, Hid (hs[k]? = some y) := ⟨hs[k]'(by omega), Lib.hid (List.getElem?_eq_getElem _)⟩
        obtain ⟨c0, c1⟩ := OwnS.at hown1 hy.out
        obtain ⟨d0, d1⟩ := OwnS.at hown1 hp.out
        have hw1 : IntKind.i64.wrap ((k : Int) - 1) = (k : Int) - 1 := IntWalk.i64_in _ (by omega)
        have ha1 : ((k : Int) - 1).toNat = k - 1 := by omega
        have ha2 : (0 : Int) ≤ (k : Int) - 1 := by omega
        have ha3 : (k : Int) - 1 < (n : Int) := by omega
        have ha4 : (k : Int) < (n : Int) := by omega
        have r0 := fun x : ExtOf wr => x.cell c0
        have r1 := fun x : ExtOf wr => x.cell c1
        have r2 := fun x : ExtOf wr => x.cell d0
        have r3 := fun x : ExtOf wr => x.cell d1
        by_cases hyp : y = p
        · have hb : decide (y = p) = true := by simpa using hyp
          replace hyp := Lib.hid hyp
          go_wp2_with fail
          (refine wp_region_qx (by kernel_rfl) (by kernel_rfl) ?_
           repeat (go_big_quiet_step (fail))
           refine wpQuiet_nil ?_
           intro wq hw'
           have hxq := ext_of_ex hw'
           clear hw')
          have hown2 := OwnK.kept hown1 hxq
          have hsl := fun w => run_sub_l (P := Tryd.prog) elem_snds size_snds (some ⟨g, 0, Option.none⟩) n cap k hk w
          rw [subA_two (show cap ≠ k by omega)] at hsl
          clear r0 r1 r2 r3 c0 c1 d0 d1 hw1 ha1 hb
          go_wp2_with fail
          go_loopw [3, 5] (fun i j wr => ∃ (k1 k2 : Nat) (cur : List Snd) (p : Snd), 1 ≤ k2 ∧ k + k2 ≤ n ∧ k1 + 1 ≤ k + k2 ∧ i = .int .i64 k1 ∧ j = .int .i64 k2 ∧ Ext w wr ∧ OwnS w.heap.size 38 wr (.slice (some ⟨g, 0, none⟩) n cap) cur ∧ Hid (hs[k + (k2 - 1)]? = some p) ∧
            Hid (cur.drop (k + (k2 - 1)) = hs.drop (k + (k2 - 1))) ∧ Hid (compS hs = cur.take k1 ++ keepS p (hs.drop (k + k2)))) (fun _ j _ => n - (intOf j).toNat)
          case atStart => exact ⟨k, 1, hs, y, Nat.le_refl _, by omega, by omega, rfl, rfl, hx1.trans hxq, hown2, hy, Lib.hid rfl, Lib.hid (keepS_eq hall.out hy.out hyp.out)⟩
          case round =>
            obtain ⟨k1, k2, cur, p2, hk2, hkn, hk1k, rfl, rfl, hx3, hown3, hp2, hdr, hall3⟩ := hrel
            by_cases hlt2 : k + k2 < n
            · have hd2 : decide (k2 < n - k) = true := by simp; omega
              obtain ⟨y2, hy2⟩ : ∃ y, Hid (hs[k + k2]? = some y) := ⟨hs[k + k2]'(by omega), Lib.hid (List.getElem?_eq_getElem _)⟩
              obtain ⟨c0, c1⟩ := OwnS.at hown3 ((drop_at_eq hdr.out (show k + (k2 - 1) ≤ k + k2 by omega)).trans hy2.out)
              obtain ⟨d0, d1⟩ := OwnS.at hown3 ((drop_at_eq hdr.out (Nat.le_refl _)).trans hp2.out)
              rw [Nat.add_mul] at c0 c1 d0 d1
              have hw1 : IntKind.i64.wrap ((k2 : Int) - 1) = (k2 : Int) - 1 := IntWalk.i64_in _ (by omega)
              have ha1 : ((k2 : Int) - 1).toNat = k2 - 1 := by omega
              have ha2 : (0 : Int) ≤ (k2 : Int) - 1 := by omega
              have ha3 : (k2 : Int) - 1 < ((n - k : Nat) : Int) := by omega
              have ha4 : (k2 : Int) < ((n - k : Nat) : Int) := by omega
              have r0 := fun x : ExtOf wr => x.cell c0
              have r1 := fun x : ExtOf wr => x.cell c1
              have r2 := fun x : ExtOf wr => x.cell d0
              have r3 := fun x : ExtOf wr => x.cell d1
              have hl3 := (OwnK.ge hown3).2.2.1
              replace hl3 := Lib.hid hl3
              by_cases hyp2 : y2 = p2
              · have hb : decide (y2 = p2) = true := by simpa using hyp2
                replace hyp2 := Lib.hid hyp2
                go_wp2_with fail
                (refine wp_region_qx (by kernel_rfl) (by kernel_rfl) ?_
                 repeat (go_big_quiet_step (fail))
                 refine wpQuiet_nil ?_
                 intro wq hw'
                 have hxq := ext_of_ex hw'
                 clear hw')
                have hown4 := OwnK.kept hown3 hxq
                go_wp2_with fail
                (first | exact ⟨⟨k1, k2 + 1, cur, y2, by omega, by omega, by omega, rfl, by go_num, hx3.trans hxq, hown4, Lib.hid hy2.out, Lib.hid (drop_succ' hdr.out (by omega)), Lib.hid (keepS_eq hall3.out hy2.out hyp2.out)⟩, (by simp [intOf]; omega)⟩ | (go_roundw; case rel => exact ⟨k1, k2 + 1, cur, y2, by omega, by omega, by omega, rfl, by go_num, hx3.trans hxq, hown4, Lib.hid hy2.out, Lib.hid (drop_succ' hdr.out (by omega)), Lib.hid (keepS_eq hall3.out hy2.out hyp2.out)⟩; case measure => exact (by simp [intOf]; omega)))
              · have hb : decide (y2 = p2) = false := by simpa using hyp2
                replace hyp2 := Lib.hid hyp2
                go_wp2_with fail
                (refine wp_region_qx (by kernel_rfl) (by kernel_rfl) ?_
                 repeat (go_big_quiet_step (fail))
                 refine wpQuiet_nil ?_
                 intro wq hw'
                 have hxq := ext_of_ex hw'
                 clear hw')
                have hown4 := OwnK.kept hown3 hxq
                obtain ⟨q, hq⟩ : ∃ q, Hid (cur[k1]? = some q) := ⟨cur[k1]'(by rw [hl3.out]; omega), Lib.hid (List.getElem?_eq_getElem _)⟩
                obtain ⟨e0, e1⟩ := OwnS.at hown4 hq.out
                have e2 := hxq.cellv c0
                have e3 := hxq.cellv c1
                have hf0 := OwnK.free hown4 (k1 * 2)
                have hf1 := OwnK.free (OwnS.set hown4 (show k1 < n by omega) y2) (k1 * 2 + 1)
                have hf2 : ∀ v, (wq.setCell ⟨g, k1 * 2, none⟩ v).frozen? ⟨g, k1 * 2 + 1, none⟩ = false := fun v => by
                  have := (World.ownsRow.stored (by have h := hown4; unfold OwnS OwnK at h; rw [hl3.out] at h; exact h) (k1 * 2) v).1
                  exact World.ownsRow.frozenAt this _
                have hown5 := OwnS.set hown4 (show k1 < n by omega) y2
                clear r0 r1 r2 r3 c0 c1 d0 d1 hw1 ha1 hf1
                go_wp2_with fail
                (first | exact ⟨⟨k1 + 1, k2 + 1, cur.set k1 y2, y2, by omega, by omega, by omega, by go_num, by go_num, Ext.setCell (p := ⟨g, k1 * 2 + 1, none⟩) (Ext.setCell (p := ⟨g, k1 * 2, none⟩) (hx3.trans hxq) hB _) hB _, hown5, Lib.hid hy2.out, Lib.hid (drop_set' hdr.out (by omega) (by omega)), Lib.hid (keepS_ne hall3.out hy2.out (by rw [hl3.out]; omega) hyp2.out)⟩, (by simp [intOf]; omega)⟩ | (go_roundw; case rel => exact ⟨k1 + 1, k2 + 1, cur.set k1 y2, y2, by omega, by omega, by omega, by go_num, by go_num, Ext.setCell (p := ⟨g, k1 * 2 + 1, none⟩) (Ext.setCell (p := ⟨g, k1 * 2, none⟩) (hx3.trans hxq) hB _) hB _, hown5, Lib.hid hy2.out, Lib.hid (drop_set' hdr.out (by omega) (by omega)), Lib.hid (keepS_ne hall3.out hy2.out (by rw [hl3.out]; omega) hyp2.out)⟩; case measure => exact (by simp [intOf]; omega)))
            · have hd2 : decide (k2 < n - k) = false := by simp; omega
              have hend := Lib.hid (keepS_end hall3.out (by omega))
              have hk1n : k1 < n := by omega
              have hl3 := (OwnK.ge hown3).2.2.1
              have hsl1 := fun w => run_sub_l (P := Tryd.prog) elem_snds size_snds (some ⟨g, 0, Option.none⟩) n cap k1 (by omega) w
              rw [subA_two (show cap ≠ k1 by omega)] at hsl1
              have hsl2 := fun w => run_sub_h (P := Tryd.prog) elem_snds size_snds (some ⟨g, 0, Option.none⟩) n cap k1 (by omega) w
              rw [subA_zero] at hsl2
              obtain ⟨vs, hcl⟩ := clear_snd 0 wr g (k1 * 2) (n - k1) (cap - k1) (by omega) (fun j hj => by
                have hq : cur[k1 + j / 2]? = some (cur[k1 + j / 2]'(by omega)) := List.getElem?_eq_getElem _
                have hc := OwnS.at hown3 hq
                rw [Nat.add_mul] at hc
                rcases Nat.mod_two_eq_zero_or_one j with h | h
                · rw [show k1 * 2 + j = k1 * 2 + j / 2 * 2 by omega, hc.1]; rfl
                · rw [show k1 * 2 + j = k1 * 2 + j / 2 * 2 + 1 by omega, hc.2]; rfl) (fun j _ => OwnK.free hown3 _)
              have hown4 := OwnK.behind Snd.len vs (k1 * 2) wr (OwnK.takeK Snd.len hown3 (Nat.le_of_lt hk1n)) (Nat.le_refl _)
              have hx4 := ext_setCells vs (k1 * 2) _ hx3 hB
              replace hl3 := Lib.hid hl3
              go_wp2_with fail
              go_ret
              exact ⟨k1, rfl, by rw [hend.out]; exact hown4, hx4⟩
        · have hb : decide (y = p) = false := by simpa using hyp
          replace hyp := Lib.hid hyp
          go_wp2_with fail
          (refine wp_region_qx (by kernel_rfl) (by kernel_rfl) ?_
           repeat (go_big_quiet_step (fail))
           refine wpQuiet_nil ?_
           intro wq hw'
           have hxq := ext_of_ex hw'
           clear hw')
          have hown2 := OwnK.kept hown1 hxq
          go_wp2_with fail
          (first | exact ⟨⟨k + 1, by omega, by omega, by go_num, hx1.trans hxq, hown2, y, Lib.hid hy.out, Lib.hid (keepS_ne_same hall.out hy.out hyp.out)⟩, (by simp [intOf]; omega)⟩ | (go_roundw; case rel => exact ⟨k + 1, by omega, by omega, by go_num, hx1.trans hxq, hown2, y, Lib.hid hy.out, Lib.hid (keepS_ne_same hall.out hy.out hyp.out)⟩; case measure => exact (by simp [intOf]; omega)))
      · have hfin : compS hs = hs := by
          have := keepS_end hall.out (by omega)
          rwa [List.take_of_length_le (by omega)] at this
        replace hfin := Lib.hid hfin
        go_wp2_with fail
        go_ret
        exact ⟨n, rfl, by rw [hfin.out]; exact hown1, hx1⟩
end Go.Proofs.YtdloabjnjnjacaaDoor
