/-
  slices.CompactFunc with word.Equal at a list of words that the call owns, by the headers.
-/
import Derived.Test.YtphfnmmdfnfnaaaNon
namespace Go.Proofs.Ytphfnmmdfnfnaaa
open Go.RowKit
section
variable {hs cur : List WH} {k i : Nat} {y p : WH} {L : List WH}
theorem compactH_one (h : hs[0]? = some p) : compactH hs = hs.take 1 ++ keepH p.x (hs.drop 1) := by
  cases hs with
  | nil => simp at h
  | cons a t => simp at h; subst h; simp [compactH]
theorem keepH_ne (h : L = cur.take k ++ keepH p.x (hs.drop i)) (hi : hs[i]? = some y) (hk : k < cur.length) (hn : y.x ≠ p.x) : L = (cur.set k y).take (k + 1) ++ keepH y.x (hs.drop (i + 1)) := by
  have h1 : (cur.set k y).take (k + 1) = cur.take k ++ [y] := by
    rw [List.take_add_one, List.getElem?_set_self hk, List.take_set_of_le (Nat.le_refl k)]; rfl
  rw [h, drop_at hi, keepH, if_neg hn, h1, List.append_assoc]; rfl
theorem keepH_ne_same (h : L = hs.take k ++ keepH p.x (hs.drop k)) (hi : hs[k]? = some y) (hn : y.x ≠ p.x) : L = hs.take (k + 1) ++ keepH y.x (hs.drop (k + 1)) := by
  rw [h, drop_at hi, keepH, if_neg hn, ← take_snoc_at hi, List.append_assoc]; rfl
theorem keepH_eq (h : L = cur.take k ++ keepH p.x (hs.drop i)) (hi : hs[i]? = some y) (hn : y.x = p.x) : L = cur.take k ++ keepH y.x (hs.drop (i + 1)) := by
  rw [h, drop_at hi, keepH, if_pos hn]
theorem keepH_end (h : L = cur.take k ++ keepH p.x (hs.drop i)) (hi : hs.length ≤ i) : L = cur.take k := by
  rw [h, List.drop_of_length_le hi, keepH, List.append_nil]
theorem drop_at_eq (h : cur.drop k = hs.drop k) (hk : k ≤ i) : cur[i]? = hs[i]? := by
  have := congrArg (fun l => l[i - k]?) h
  simpa [show k + (i - k) = i by omega] using this
theorem drop_succ' {j : Nat} (h : cur.drop i = hs.drop i) (hj : j = i + 1) : cur.drop j = hs.drop j := by
  subst hj
  have := congrArg (List.drop 1) h
  simpa using this
theorem drop_set' {j : Nat} (h : cur.drop i = hs.drop i) (hk : k ≤ i) (hj : j = i + 1) : (cur.set k y).drop j = hs.drop j := by
  subst hj
  rw [List.drop_set_of_lt (by omega)]
  exact drop_succ' h rfl
end
theorem elem_word : Try.prog.underlying 32 = some (.slice (Try.prog.elem 32)) := by kernel_rfl
theorem size_word (w : World) : (sizeOf (Try.prog.elem 32)).run Try.prog w = .ok 1 w := by kernel_rfl
theorem subA_one {g cap k : Nat} (h : cap ≠ k) : subA 1 (some ⟨g, 0, none⟩) cap k = some ⟨g, k, none⟩ := by
  unfold subA; rw [if_neg h, Nat.mul_one]; simp [Addr.add]; omega
theorem zero_word (w : World) : (zeroValue 22).run Try.prog w = .ok (.slice none 0 0) w := by kernel_rfl
set_option maxHeartbeats 2000000 in
theorem compactH_any {w w0 : World} {g n cap : Nat} {hs : List WH} (hx : Ext w w0) (hown : OwnH w.heap.size 22 w0 (.slice (some ⟨g, 0, none⟩) n cap) hs) (hok : ∀ h ∈ hs, h.ok w) (hn : n ≤ 60000) :
    Calls Try.prog 54 #[.slice (some ⟨g, 0, none⟩) n cap, .func (.func 21) #[] #[]] w0 fun e w' => ∃ m, e = .returned (.slice (some ⟨g, 0, none⟩) m cap) ∧
      OwnH w.heap.size 22 w' (.slice (some ⟨g, 0, none⟩) m cap) (compactH hs) ∧ Ext w w' := by
  obtain ⟨hB, hgs, hlen, hnc, hcm⟩ := OwnH.ge hown
  by_cases h2 : n < 2
  · have hd : decide ((n : Int) < 2) = true := by simp; omega
    have hc : compactH hs = hs := by
      match hs, hlen with
      | [], _ => rfl
      | [h], _ => rfl
      | _ :: _ :: _, hl => simp at hl; omega
    go_enter Try.func54, Try.ntmps54
    go_wp2_with fail
    go_ret
    exact ⟨n, rfl, by rw [hc]; exact hown, hx⟩
  · have hd : decide ((n : Int) < 2) = false := by simp; omega
    obtain ⟨p0, hp0⟩ : ∃ p, hs[0]? = some p := ⟨hs[0]'(by omega), List.getElem?_eq_getElem _⟩
    go_enter Try.func54, Try.ntmps54
    go_wp2_with fail
    clear hd
    go_loopw [5] (fun i wr => ∃ k : Nat, 1 ≤ k ∧ k ≤ n ∧ i = .int .i64 k ∧ Ext w wr ∧ OwnH w.heap.size 22 wr (.slice (some ⟨g, 0, none⟩) n cap) hs ∧ ∃ p, hs[k - 1]? = some p ∧ Hid (compactH hs = hs.take k ++ keepH p.x (hs.drop k))) (fun i _ => n - (intOf i).toNat)
    case atStart => exact ⟨1, Nat.le_refl _, by omega, rfl, hx, hown, p0, hp0, compactH_one hp0⟩
    case round =>
      obtain ⟨k, hk1, hk, rfl, hx1, hown1, p, hp, hall⟩ := hrel
      by_cases hlt : k < n
      · obtain ⟨y, hy⟩ : ∃ y, hs[k]? = some y := ⟨hs[k]'(by omega), List.getElem?_eq_getElem _⟩
        have hc1 := OwnH.at hown1 hp
        have hc0 := OwnH.at hown1 hy
        have hw1 : IntKind.i64.wrap ((k : Int) - 1) = (k : Int) - 1 := IntWalk.i64_in _ (by omega)
        have ha1 : ((k : Int) - 1).toNat = k - 1 := by omega
        have hry := (hok y (List.mem_of_getElem? hy)).ext hx1
        have hrp := (hok p (List.mem_of_getElem? hp)).ext hx1
        have hcc0 := fun x : ExtOf _ => x.cell hc0
        have hcc1 := fun x : ExtOf _ => x.cell hc1
        by_cases hyp : y.x = p.x
        · have hb : decide (y.x = p.x) = true := by simpa using hyp
          have Hyp := Lib.hid hyp; clear hyp
          go_wp2_with fail
          (refine wp_region_qx (by kernel_rfl) (by kernel_rfl) ?_
           repeat (go_big_quiet_step ((go_at_call 21; exact calls_ext (cbool (wequal_any _ _ _ _ _ _ _ _ _ (hry.ext (ExtOf.h _)) (hrp.ext (ExtOf.h _))) hb))))
           refine wpQuiet_nil ?_
           intro wq hw'
           have hxq := ext_of_ex hw'
           clear hw')
          have hown2 := OwnK.kept hown1 hxq
          have hsl := fun w => run_sub_l (P := Try.prog) elem_word size_word (some ⟨g, 0, Option.none⟩) n cap k hk w
          rw [subA_one (show cap ≠ k by omega)] at hsl
          clear hcc0 hcc1 hc0 hc1 hw1 ha1 hb hrp hry
          go_wp2_with fail
          go_loopw [5, 7] (fun i j wr => ∃ (k1 k2 : Nat) (cur : List WH) (p : WH), 1 ≤ k2 ∧ k + k2 ≤ n ∧ k1 + 1 ≤ k + k2 ∧ i = .int .i64 k1 ∧ j = .int .i64 k2 ∧ Ext w wr ∧ OwnH w.heap.size 22 wr (.slice (some ⟨g, 0, none⟩) n cap) cur ∧ hs[k + (k2 - 1)]? = some p ∧
            cur.drop (k + (k2 - 1)) = hs.drop (k + (k2 - 1)) ∧ Hid (compactH hs = cur.take k1 ++ keepH p.x (hs.drop (k + k2)))) (fun _ j _ => n - (intOf j).toNat)
          case atStart => exact ⟨k, 1, hs, y, Nat.le_refl _, by omega, by omega, rfl, rfl, hx1.trans hxq, hown2, hy, rfl, keepH_eq hall hy Hyp.out⟩
          case round =>
            obtain ⟨k1, k2, cur, p2, hk2, hkn, hk1k, rfl, rfl, hx3, hown3, hp2, hdr, hall3⟩ := hrel
            by_cases hlt2 : k + k2 < n
            · have hd2 : decide (k2 < n - k) = true := by simp; omega
              obtain ⟨y2, hy2⟩ : ∃ y, hs[k + k2]? = some y := ⟨hs[k + k2]'(by omega), List.getElem?_eq_getElem _⟩
              have hc1 := OwnH.at hown3 ((drop_at_eq hdr (Nat.le_refl _)).trans hp2)
              have hc0 := OwnH.at hown3 ((drop_at_eq hdr (by omega)).trans hy2)
              have hw1 : IntKind.i64.wrap ((k2 : Int) - 1) = (k2 : Int) - 1 := IntWalk.i64_in _ (by omega)
              have ha1 : ((k2 : Int) - 1).toNat = k2 - 1 := by omega
              have hry := (hok y2 (List.mem_of_getElem? hy2)).ext hx3
              have hrp := (hok p2 (List.mem_of_getElem? hp2)).ext hx3
              have hcc0 := fun x : ExtOf _ => x.cell hc0
              have hcc1 := fun x : ExtOf _ => x.cell hc1
              by_cases hyp2 : y2.x = p2.x
              · have hb : decide (y2.x = p2.x) = true := by simpa using hyp2
                have Hyp2 := Lib.hid hyp2; clear hyp2
                go_wp2_with fail
                (refine wp_region_qx (by kernel_rfl) (by kernel_rfl) ?_
                 repeat (go_big_quiet_step ((go_at_call 21; exact calls_ext (cbool (wequal_any _ _ _ _ _ _ _ _ _ (hry.ext (ExtOf.h _)) (hrp.ext (ExtOf.h _))) hb))))
                 refine wpQuiet_nil ?_
                 intro wq hw'
                 have hxq := ext_of_ex hw'
                 clear hw')
                have hown4 := OwnK.kept hown3 hxq
                go_wp2_with fail
                (first | exact ⟨⟨k1, k2 + 1, cur, y2, by omega, by omega, by omega, rfl, by go_num, (by repeat (first | exact Ext.refl _ | assumption | refine Ext.drew ?_ | refine Ext.drewN ?_ _ | refine Ext.alloc ?_ _ | refine Ext.trans ?_ (by assumption))), hown4, hy2, drop_succ' hdr (by omega), keepH_eq hall3 hy2 Hyp2.out⟩, (by simp [intOf]; omega)⟩ | (go_roundw; case rel => exact ⟨k1, k2 + 1, cur, y2, by omega, by omega, by omega, rfl, by go_num, (by repeat (first | exact Ext.refl _ | assumption | refine Ext.drew ?_ | refine Ext.drewN ?_ _ | refine Ext.alloc ?_ _ | refine Ext.trans ?_ (by assumption))), hown4, hy2, drop_succ' hdr (by omega), keepH_eq hall3 hy2 Hyp2.out⟩; case measure => exact (by simp [intOf]; omega)))
              · have hb : decide (y2.x = p2.x) = false := by simpa using hyp2
                have Hyp2 := Lib.hid hyp2; clear hyp2
                go_wp2_with fail
                (refine wp_region_qx (by kernel_rfl) (by kernel_rfl) ?_
                 repeat (go_big_quiet_step ((go_at_call 21; exact calls_ext (cbool (wequal_any _ _ _ _ _ _ _ _ _ (hry.ext (ExtOf.h _)) (hrp.ext (ExtOf.h _))) hb))))
                 refine wpQuiet_nil ?_
                 intro wq hw'
                 have hxq := ext_of_ex hw'
                 clear hw')
                have hown4 := OwnK.kept hown3 hxq
                obtain ⟨q, hq⟩ : ∃ q, cur[k1]? = some q := ⟨cur[k1]'(by have := (OwnH.ge hown3).2.2.1; omega), List.getElem?_eq_getElem _⟩
                have hcq := OwnH.at hown4 hq
                have hc5 := OwnH.at hown4 ((drop_at_eq hdr (by omega)).trans hy2)
                have hf := OwnH.free hown4 k1
                have hown5 := OwnH.set hown4 k1 y2
                go_wp2_with fail
                (first | exact ⟨⟨k1 + 1, k2 + 1, cur.set k1 y2, y2, by omega, by omega, by omega, by go_num, by go_num, Ext.setCell (p := ⟨g, k1, none⟩) (hx3.trans hxq) hB _, hown5, hy2, drop_set' hdr (by omega) (by omega), keepH_ne hall3 hy2 (by have := (OwnH.ge hown3).2.2.1; omega) Hyp2.out⟩, (by simp [intOf]; omega)⟩ | (go_roundw; case rel => exact ⟨k1 + 1, k2 + 1, cur.set k1 y2, y2, by omega, by omega, by omega, by go_num, by go_num, Ext.setCell (p := ⟨g, k1, none⟩) (hx3.trans hxq) hB _, hown5, hy2, drop_set' hdr (by omega) (by omega), keepH_ne hall3 hy2 (by have := (OwnH.ge hown3).2.2.1; omega) Hyp2.out⟩; case measure => exact (by simp [intOf]; omega)))
            · have hd2 : decide (k2 < n - k) = false := by simp; omega
              have hend := Lib.hid (keepH_end hall3 (by omega))
              have hk1n : k1 < n := by omega
              have hl3 := (OwnH.ge hown3).2.2.1
              have hsl1 := fun w => run_sub_l (P := Try.prog) elem_word size_word (some ⟨g, 0, Option.none⟩) n cap k1 (by omega) w
              rw [subA_one (show cap ≠ k1 by omega)] at hsl1
              have hsl2 := fun w => run_sub_h (P := Try.prog) elem_word size_word (some ⟨g, 0, Option.none⟩) n cap k1 (by omega) w
              rw [subA_zero] at hsl2
              have hcl := fun ty => Lib.run_clear_slice (P := Try.prog) wr 32 22 ty (.slice Option.none 0 0) Try.underlying32 zero_word rfl rfl g k1 (n - k1) (cap - k1) (by omega) (fun j hj => by
                have hq : cur[k1 + j]? = some (cur[k1 + j]'(by omega)) := List.getElem?_eq_getElem _
                rw [OwnH.at hown3 hq]; rfl) (fun j _ => OwnH.free hown3 _)
              obtain ⟨hs', hown4, htk⟩ := OwnH.sets (List.replicate (n - k1) ⟨Option.none, 0, 0, []⟩) k1 _ _ hown3 (by simp; omega)
              rw [List.map_replicate] at hown4
              have hx4 := ext_setCells (List.replicate (n - k1) (Value.slice Option.none 0 0)) k1 _ hx3 hB
              go_wp2_with fail
              go_ret
              refine ⟨k1, rfl, ?_, hx4⟩
              have := OwnH.take hown4 (k := k1) (by omega)
              rw [htk, ← hend.out] at this
              exact this
        · have hb : decide (y.x = p.x) = false := by simpa using hyp
          have Hyp := Lib.hid hyp; clear hyp
          go_wp2_with fail
          (refine wp_region_qx (by kernel_rfl) (by kernel_rfl) ?_
           repeat (go_big_quiet_step ((go_at_call 21; exact calls_ext (cbool (wequal_any _ _ _ _ _ _ _ _ _ (hry.ext (ExtOf.h _)) (hrp.ext (ExtOf.h _))) hb))))
           refine wpQuiet_nil ?_
           intro wq hw'
           have hxq := ext_of_ex hw'
           clear hw')
          have hown2 := OwnK.kept hown1 hxq
          go_wp2_with fail
          (first | exact ⟨⟨k + 1, by omega, by omega, by go_num, (by repeat (first | exact Ext.refl _ | assumption | refine Ext.drew ?_ | refine Ext.drewN ?_ _ | refine Ext.alloc ?_ _ | refine Ext.trans ?_ (by assumption))), hown2, y, hy, keepH_ne_same hall hy Hyp.out⟩, (by simp [intOf]; omega)⟩ | (go_roundw; case rel => exact ⟨k + 1, by omega, by omega, by go_num, (by repeat (first | exact Ext.refl _ | assumption | refine Ext.drew ?_ | refine Ext.drewN ?_ _ | refine Ext.alloc ?_ _ | refine Ext.trans ?_ (by assumption))), hown2, y, hy, keepH_ne_same hall hy Hyp.out⟩; case measure => exact (by simp [intOf]; omega)))
      · have hfin : compactH hs = hs := by
          have := keepH_end hall (by omega)
          rwa [List.take_of_length_le (by omega)] at this
        go_wp2_with fail
        go_ret
        exact ⟨n, rfl, by rw [hfin]; exact hown1, hx1⟩
end Go.Proofs.Ytphfnmmdfnfnaaa
