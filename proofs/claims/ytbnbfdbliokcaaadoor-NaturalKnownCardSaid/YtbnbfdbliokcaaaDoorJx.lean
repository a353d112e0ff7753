/-
  slices.Compact and slices.SortFunc at sounds; strictly sorted lists (cut from Cq, Cp, Ss).
-/
import Derived.Test.YtbnbfdbliokcaaaDoorJw
import Derived.Test.YtbnbfdbliokcaaaDoorSortS
import Derived.Lib.SliceRun
namespace Go.Proofs.YtbnbfdbliokcaaaDoor
open Go.RowKit
/-! ### Neighbours that are alike struck -/
def keepS (p : Snd) : List Snd → List Snd
  | [] => []
  | y :: t => if y = p then keepS y t else y :: keepS y t
def compS : List Snd → List Snd
  | [] => []
  | y :: t => y :: keepS y t
section
variable {hs cur : List Snd} {k i : Nat} {y p : Snd} {L : List Snd}
theorem drop_at' {α : Type} {l : List α} {k : Nat} {y : α} (h : l[k]? = some y) : l.drop k = y :: l.drop (k + 1) := by
  obtain ⟨h1, h2⟩ := List.getElem?_eq_some_iff.1 h
  rw [List.drop_eq_getElem_cons h1, h2]
theorem compS_one (h : hs[0]? = some p) : compS hs = hs.take 1 ++ keepS p (hs.drop 1) := by
  cases hs with
  | nil => simp at h
  | cons a t => simp at h; subst h; simp [compS]
theorem keepS_ne (h : L = cur.take k ++ keepS p (hs.drop i)) (hi : hs[i]? = some y) (hk : k < cur.length) (hn : y ≠ p) : L = (cur.set k y).take (k + 1) ++ keepS y (hs.drop (i + 1)) := by
  have h1 : (cur.set k y).take (k + 1) = cur.take k ++ [y] := by
    rw [List.take_add_one, List.getElem?_set_self hk, List.take_set_of_le (Nat.le_refl k)]; rfl
  rw [h, drop_at' hi, keepS, if_neg hn, h1, List.append_assoc]; rfl
theorem keepS_ne_same (h : L = hs.take k ++ keepS p (hs.drop k)) (hi : hs[k]? = some y) (hn : y ≠ p) : L = hs.take (k + 1) ++ keepS y (hs.drop (k + 1)) := by
  rw [h, drop_at' hi, keepS, if_neg hn, take_succ_at hi, List.append_assoc]; rfl
theorem keepS_eq (h : L = cur.take k ++ keepS p (hs.drop i)) (hi : hs[i]? = some y) (hn : y = p) : L = cur.take k ++ keepS y (hs.drop (i + 1)) := by
  rw [h, drop_at' hi, keepS, if_pos hn]
theorem keepS_end (h : L = cur.take k ++ keepS p (hs.drop i)) (hi : hs.length ≤ i) : L = cur.take k := by
  rw [h, List.drop_of_length_le hi, keepS, List.append_nil]
theorem drop_at_eq {α : Type} {cur hs : List α} {k i : Nat} (h : cur.drop k = hs.drop k) (hk : k ≤ i) : cur[i]? = hs[i]? := by
  have := congrArg (fun l => l[i - k]?) h
  simpa [show k + (i - k) = i by omega] using this
theorem drop_succ' {α : Type} {cur hs : List α} {i j : Nat} (h : cur.drop i = hs.drop i) (hj : j = i + 1) : cur.drop j = hs.drop j := by
  subst hj
  have := congrArg (List.drop 1) h
  simpa using this
theorem drop_set' {α : Type} {cur hs : List α} {y : α} {k i j : Nat} (h : cur.drop i = hs.drop i) (hk : k ≤ i) (hj : j = i + 1) : (cur.set k y).drop j = hs.drop j := by
  subst hj
  rw [List.drop_set_of_lt (by omega)]
  exact drop_succ' h rfl
end
/-! ### clear -/
theorem zero_snd (w : World) : (zeroValue 27).run Tryd.prog w = .ok (.agg #[.int .u32 0, .int .u32 0]) w := by kernel_rfl
theorem clear_snd (ty : TypeId) (w : World) (b o n c : Nat) (hn : 0 < n) (hc : ∀ j, j < n * 2 → (w.cell? ⟨b, o + j, none⟩).isSome = true) (hf : ∀ j, j < n * 2 → w.frozen? ⟨b, o + j, none⟩ = false) :
    ∃ vs, (Builtin.clear_ #[22] ty #[.slice (some ⟨b, o, none⟩) n c]).run Tryd.prog w = .ok (.tuple #[]) (w.setCells b o vs) := by
  refine ⟨(Builtin.zeroCells (Value.agg #[.int .u32 0, .int .u32 0]).cells n).toList, ?_⟩
  have hsz : (Value.agg #[.int .u32 0, .int .u32 0]).cells = #[.int .u32 0, .int .u32 0] := by kernel_rfl
  have hl : (Builtin.zeroCells (Value.agg #[.int .u32 0, .int .u32 0]).cells n).toList.length = n * 2 := by rw [hsz]; simp [Builtin.zeroCells]
  have hst := run_storeCells_cells (P := Tryd.prog) b o (Builtin.zeroCells (Value.agg #[.int .u32 0, .int .u32 0]).cells n).toList 0 w (by rw [hl]; simpa using hc) (by rw [hl]; simpa using hf) (by
    rw [hsz]
    intro v hv
    simp only [Builtin.zeroCells, Array.toList_map, List.mem_map] at hv
    obtain ⟨i, _, rfl⟩ := hv
    rcases Nat.mod_two_eq_zero_or_one i with h | h
    · simp [h]; rfl
    · simp [h]; rfl)
  simp only [Nat.add_zero] at hst
  obtain ⟨m, rfl⟩ : ∃ m, n = m + 1 := ⟨n - 1, by omega⟩
  simp [Builtin.clear_, run_underlying Tryd.underlying22, hst]
theorem ext_setCells {w0 : World} {g : Nat} : ∀ (vs : List Value) (o : Nat) (w : World), Ext w0 w → w0.heap.size ≤ g → Ext w0 (w.setCells g o vs)
  | [], _, _, h, _ => h
  | _ :: vs, o, _, h, hg => ext_setCells vs (o + 1) _ (Ext.setCell (p := ⟨g, o, none⟩) h hg _) hg
theorem elem_snds : Tryd.prog.underlying 22 = some (.slice (Tryd.prog.elem 22)) := by kernel_rfl
theorem size_snds (w : World) : (sizeOf (Tryd.prog.elem 22)).run Tryd.prog w = .ok 2 w := by kernel_rfl
theorem subA_two {g cap k : Nat} (h : cap ≠ k) : subA 2 (some ⟨g, 0, none⟩) cap k = some ⟨g, k * 2, none⟩ := by
  unfold subA; rw [if_neg h]; simp [Addr.add]; omega
set_option maxHeartbeats 2000000 in
theorem compactS_any {w w0 : World} {g n cap : Nat} {hs : List Snd} (hx : Ext w w0) (hown : OwnS w.heap.size 27 w0 (.slice (some ⟨g, 0, none⟩) n cap) hs) (hn : n ≤ 60000000) :
    Calls Tryd.prog 63 #[.slice (some ⟨g, 0, none⟩) n cap] w0 fun e w' => ∃ m, e = .returned (.slice (some ⟨g, 0, none⟩) m cap) ∧
      OwnS w.heap.size 27 w' (.slice (some ⟨g, 0, none⟩) m cap) (compS hs) ∧ Ext w w' := by
  obtain ⟨hB, hgs, hlen, hnc, hcm⟩ := OwnK.ge hown
  have heq := eql_snd
  have hne := neq_snd
  by_cases h2 : n < 2
  · have hd : decide ((n : Int) < 2) = true := by simp; omega
    have hc : compS hs = hs := by
      match hs, hlen with
      | [], _ => rfl
      | [h], _ => rfl
      | _ :: _ :: _, hl => simp at hl; omega
    go_enter Tryd.func63, Tryd.ntmps63
    go_wp2_with fail
    go_ret
    exact ⟨n, rfl, by rw [hc]; exact hown, hx⟩
  · have hd : decide ((n : Int) < 2) = false := by simp; omega
    obtain ⟨p0, hp0⟩ : ∃ p, hs[0]? = some p := ⟨hs[0]'(by omega), List.getElem?_eq_getElem _⟩
    go_enter Tryd.func63, Tryd.ntmps63
    go_wp2_with fail
    clear hd
    go_loopw [3] (fun i wr => ∃ k : Nat, 1 ≤ k ∧ k ≤ n ∧ i = .int .i64 k ∧ Ext w wr ∧ OwnS w.heap.size 27 wr (.slice (some ⟨g, 0, none⟩) n cap) hs ∧ ∃ p, Hid (hs[k - 1]? = some p) ∧ Hid (compS hs = hs.take k ++ keepS p (hs.drop k))) (fun i _ => n - (intOf i).toNat)
    case atStart => exact ⟨1, Nat.le_refl _, by omega, rfl, hx, hown, p0, Lib.hid hp0, Lib.hid (compS_one hp0)⟩
    case round =>
      obtain ⟨k, hk1, hk, rfl, hx1, hown1, p, hp, hall⟩ := hrel
      by_cases hlt : k < n
      · obtain ⟨y, hy⟩ : ∃ y, Hid (hs[k]? = some y) := ⟨hs[k]'(by omega), Lib.hid (List.getElem?_eq_getElem _)⟩
        obtain ⟨c0, c1⟩ := OwnS.at hown1 hy.out
        obtain ⟨d0, d1⟩ := OwnS.at hown1 hp.out
        have hw1 : IntKind.i64.wrap ((k : Int) - 1) = (k : Int) - 1 := IntWalk.i64_in _ (by omega)
        have ha1 : ((k : Int) - 1).toNat = k - 1 := by omega
        have ha2 : (0 : Int) ≤ (k : Int) - 1 := by omega
        have ha3 : (k : Int) - 1 < (n : Int) := by omega
        have ha4 : (k : Int) < (n : Int) := by omega
        have r0 := fun x : ExtOf wr => x.cell c0
        have r1 := fun x : ExtOf wr => x.cell c1
        have r2 := fun x : ExtOf wr => x.cell d0
        have r3 := fun x : ExtOf wr => x.cell d1
        by_cases hyp : y = p
        · have hb : decide (y = p) = true := by simpa using hyp
          replace hyp := Lib.hid hyp
          go_wp2_with fail
          (refine wp_region_qx (by kernel_rfl) (by kernel_rfl) ?_
           repeat (go_big_quiet_step (fail))
           refine wpQuiet_nil ?_
           intro wq hw'
           have hxq := ext_of_ex hw'
           clear hw')
          have hown2 := OwnK.kept hown1 hxq
          have hsl := fun w => run_sub_l (P := Tryd.prog) elem_snds size_snds (some ⟨g, 0, Option.none⟩) n cap k hk w
          rw [subA_two (show cap ≠ k by omega)] at hsl
          clear r0 r1 r2 r3 c0 c1 d0 d1 hw1 ha1 hb
          go_wp2_with fail
          go_loopw [3, 5] (fun i j wr => ∃ (k1 k2 : Nat) (cur : List Snd) (p : Snd), 1 ≤ k2 ∧ k + k2 ≤ n ∧ k1 + 1 ≤ k + k2 ∧ i = .int .i64 k1 ∧ j = .int .i64 k2 ∧ Ext w wr ∧ OwnS w.heap.size 27 wr (.slice (some ⟨g, 0, none⟩) n cap) cur ∧ Hid (hs[k + (k2 - 1)]? = some p) ∧
            Hid (cur.drop (k + (k2 - 1)) = hs.drop (k + (k2 - 1))) ∧ Hid (compS hs = cur.take k1 ++ keepS p (hs.drop (k + k2)))) (fun _ j _ => n - (intOf j).toNat)
          case atStart => exact ⟨k, 1, hs, y, Nat.le_refl _, by omega, by omega, rfl, rfl, hx1.trans hxq, hown2, hy, Lib.hid rfl, Lib.hid (keepS_eq hall.out hy.out hyp.out)⟩
          case round =>
            obtain ⟨k1, k2, cur, p2, hk2, hkn, hk1k, rfl, rfl, hx3, hown3, hp2, hdr, hall3⟩ := hrel
            by_cases hlt2 : k + k2 < n
            · have hd2 : decide (k2 < n - k) = true := by simp; omega
              obtain ⟨y2, hy2⟩ : ∃ y, Hid (hs[k + k2]? = some y) := ⟨hs[k + k2]'(by omega), Lib.hid (List.getElem?_eq_getElem _)⟩
              obtain ⟨c0, c1⟩ := OwnS.at hown3 ((drop_at_eq hdr.out (show k + (k2 - 1) ≤ k + k2 by omega)).trans hy2.out)
              obtain ⟨d0, d1⟩ := OwnS.at hown3 ((drop_at_eq hdr.out (Nat.le_refl _)).trans hp2.out)
              rw [Nat.add_mul] at c0 c1 d0 d1
              have hw1 : IntKind.i64.wrap ((k2 : Int) - 1) = (k2 : Int) - 1 := IntWalk.i64_in _ (by omega)
              have ha1 : ((k2 : Int) - 1).toNat = k2 - 1 := by omega
              have ha2 : (0 : Int) ≤ (k2 : Int) - 1 := by omega
              have ha3 : (k2 : Int) - 1 < ((n - k : Nat) : Int) := by omega
              have ha4 : (k2 : Int) < ((n - k : Nat) : Int) := by omega
              have r0 := fun x : ExtOf wr => x.cell c0
              have r1 := fun x : ExtOf wr => x.cell c1
              have r2 := fun x : ExtOf wr => x.cell d0
              have r3 := fun x : ExtOf wr => x.cell d1
              have hl3 := (OwnK.ge hown3).2.2.1
              replace hl3 := Lib.hid hl3
              by_cases hyp2 : y2 = p2
              · have hb : decide (y2 = p2) = true := by simpa using hyp2
                replace hyp2 := Lib.hid hyp2
                go_wp2_with fail
                (refine wp_region_qx (by kernel_rfl) (by kernel_rfl) ?_
                 repeat (go_big_quiet_step (fail))
                 refine wpQuiet_nil ?_
                 intro wq hw'
                 have hxq := ext_of_ex hw'
                 clear hw')
                have hown4 := OwnK.kept hown3 hxq
                go_wp2_with fail
                (first | exact ⟨⟨k1, k2 + 1, cur, y2, by omega, by omega, by omega, rfl, by go_num, hx3.trans hxq, hown4, Lib.hid hy2.out, Lib.hid (drop_succ' hdr.out (by omega)), Lib.hid (keepS_eq hall3.out hy2.out hyp2.out)⟩, (by simp [intOf]; omega)⟩ | (go_roundw; case rel => exact ⟨k1, k2 + 1, cur, y2, by omega, by omega, by omega, rfl, by go_num, hx3.trans hxq, hown4, Lib.hid hy2.out, Lib.hid (drop_succ' hdr.out (by omega)), Lib.hid (keepS_eq hall3.out hy2.out hyp2.out)⟩; case measure => exact (by simp [intOf]; omega)))
              · have hb : decide (y2 = p2) = false := by simpa using hyp2
                replace hyp2 := Lib.hid hyp2
                go_wp2_with fail
                (refine wp_region_qx (by kernel_rfl) (by kernel_rfl) ?_
                 repeat (go_big_quiet_step (fail))
                 refine wpQuiet_nil ?_
                 intro wq hw'
                 have hxq := ext_of_ex hw'
                 clear hw')
                have hown4 := OwnK.kept hown3 hxq
                obtain ⟨q, hq⟩ : ∃ q, Hid (cur[k1]? = some q) := ⟨cur[k1]'(by rw [hl3.out]; omega), Lib.hid (List.getElem?_eq_getElem _)⟩
                obtain ⟨e0, e1⟩ := OwnS.at hown4 hq.out
                have e2 := hxq.cellv c0
                have e3 := hxq.cellv c1
                have hf0 := OwnK.free hown4 (k1 * 2)
                have hf1 := OwnK.free (OwnS.set hown4 (show k1 < n by omega) y2) (k1 * 2 + 1)
                have hf2 : ∀ v, (wq.setCell ⟨g, k1 * 2, none⟩ v).frozen? ⟨g, k1 * 2 + 1, none⟩ = false := fun v => by
                  have := (World.ownsRow.stored (by have h := hown4; unfold OwnS OwnK at h; rw [hl3.out] at h; exact h) (k1 * 2) v).1
                  exact World.ownsRow.frozenAt this _
                have hown5 := OwnS.set hown4 (show k1 < n by omega) y2
                clear r0 r1 r2 r3 c0 c1 d0 d1 hw1 ha1 hf1
                go_wp2_with fail
                (first | exact ⟨⟨k1 + 1, k2 + 1, cur.set k1 y2, y2, by omega, by omega, by omega, by go_num, by go_num, Ext.setCell (p := ⟨g, k1 * 2 + 1, none⟩) (Ext.setCell (p := ⟨g, k1 * 2, none⟩) (hx3.trans hxq) hB _) hB _, hown5, Lib.hid hy2.out, Lib.hid (drop_set' hdr.out (by omega) (by omega)), Lib.hid (keepS_ne hall3.out hy2.out (by rw [hl3.out]; omega) hyp2.out)⟩, (by simp [intOf]; omega)⟩ | (go_roundw; case rel => exact ⟨k1 + 1, k2 + 1, cur.set k1 y2, y2, by omega, by omega, by omega, by go_num, by go_num, Ext.setCell (p := ⟨g, k1 * 2 + 1, none⟩) (Ext.setCell (p := ⟨g, k1 * 2, none⟩) (hx3.trans hxq) hB _) hB _, hown5, Lib.hid hy2.out, Lib.hid (drop_set' hdr.out (by omega) (by omega)), Lib.hid (keepS_ne hall3.out hy2.out (by rw [hl3.out]; omega) hyp2.out)⟩; case measure => exact (by simp [intOf]; omega)))
            · have hd2 : decide (k2 < n - k) = false := by simp; omega
              have hend := Lib.hid (keepS_end hall3.out (by omega))
              have hk1n : k1 < n := by omega
              have hl3 := (OwnK.ge hown3).2.2.1
              have hsl1 := fun w => run_sub_l (P := Tryd.prog) elem_snds size_snds (some ⟨g, 0, Option.none⟩) n cap k1 (by omega) w
              rw [subA_two (show cap ≠ k1 by omega)] at hsl1
              have hsl2 := fun w => run_sub_h (P := Tryd.prog) elem_snds size_snds (some ⟨g, 0, Option.none⟩) n cap k1 (by omega) w
              rw [subA_zero] at hsl2
              obtain ⟨vs, hcl⟩ := clear_snd 0 wr g (k1 * 2) (n - k1) (cap - k1) (by omega) (fun j hj => by
                have hq : cur[k1 + j / 2]? = some (cur[k1 + j / 2]'(by omega)) := List.getElem?_eq_getElem _
                have hc := OwnS.at hown3 hq
                rw [Nat.add_mul] at hc
                rcases Nat.mod_two_eq_zero_or_one j with h | h
                · rw [show k1 * 2 + j = k1 * 2 + j / 2 * 2 by omega, hc.1]; rfl
                · rw [show k1 * 2 + j = k1 * 2 + j / 2 * 2 + 1 by omega, hc.2]; rfl) (fun j _ => OwnK.free hown3 _)
              have hown4 := OwnK.behind Snd.len vs (k1 * 2) wr (OwnK.takeK Snd.len hown3 (Nat.le_of_lt hk1n)) (Nat.le_refl _)
              have hx4 := ext_setCells vs (k1 * 2) _ hx3 hB
              replace hl3 := Lib.hid hl3
              go_wp2_with fail
              go_ret
              exact ⟨k1, rfl, by rw [hend.out]; exact hown4, hx4⟩
        · have hb : decide (y = p) = false := by simpa using hyp
          replace hyp := Lib.hid hyp
          go_wp2_with fail
          (refine wp_region_qx (by kernel_rfl) (by kernel_rfl) ?_
           repeat (go_big_quiet_step (fail))
           refine wpQuiet_nil ?_
           intro wq hw'
           have hxq := ext_of_ex hw'
           clear hw')
          have hown2 := OwnK.kept hown1 hxq
          go_wp2_with fail
          (first | exact ⟨⟨k + 1, by omega, by omega, by go_num, hx1.trans hxq, hown2, y, Lib.hid hy.out, Lib.hid (keepS_ne_same hall.out hy.out hyp.out)⟩, (by simp [intOf]; omega)⟩ | (go_roundw; case rel => exact ⟨k + 1, by omega, by omega, by go_num, hx1.trans hxq, hown2, y, Lib.hid hy.out, Lib.hid (keepS_ne_same hall.out hy.out hyp.out)⟩; case measure => exact (by simp [intOf]; omega)))
      · have hfin : compS hs = hs := by
          have := keepS_end hall.out (by omega)
          rwa [List.take_of_length_le (by omega)] at this
        replace hfin := Lib.hid hfin
        go_wp2_with fail
        go_ret
        exact ⟨n, rfl, by rw [hfin.out]; exact hown1, hx1⟩
end Go.Proofs.YtbnbfdbliokcaaaDoor
namespace Go.Proofs.YtbnbfdbliokcaaaDoor
open Go.RowKit
section
variable {α : Type} {cf : α → α → Int}
/-- Strictly sorted, with the members of xs. -/
def SrtOf (cf : α → α → Int) (L xs : List α) : Prop := L.Pairwise (fun x y => cf x y < 0) ∧ ∀ s, s ∈ L ↔ s ∈ xs
theorem SrtOf.nil : SrtOf cf ([] : List α) [] := ⟨List.Pairwise.nil, fun _ => Iff.rfl⟩
theorem strict_uniq (T : Tot cf) : ∀ {L L' : List α}, L.Pairwise (fun x y => cf x y < 0) → L'.Pairwise (fun x y => cf x y < 0) → (∀ s, s ∈ L ↔ s ∈ L') → L = L'
  | [], [], _, _, _ => rfl
  | [], b :: L', _, _, h => by have := (h b).2 (List.mem_cons_self ..); cases this
  | a :: L, [], _, _, h => by have := (h a).1 (List.mem_cons_self ..); cases this
  | a :: L, b :: L', h1, h2, h => by
    obtain ⟨ha, hL⟩ := List.pairwise_cons.1 h1
    obtain ⟨hb, hL'⟩ := List.pairwise_cons.1 h2
    have hab : a = b := by
      rcases List.mem_cons.1 ((h a).1 (List.mem_cons_self ..)) with e | e
      · exact e
      · rcases List.mem_cons.1 ((h b).2 (List.mem_cons_self ..)) with e2 | e2
        · exact e2.symm
        · have h3 := hb a e
          have h4 := ha b e2
          have := T.anti a b; omega
    subst hab
    congr 1
    refine strict_uniq T hL hL' fun s => ?_
    constructor
    · intro hs
      rcases List.mem_cons.1 ((h s).1 (List.mem_cons_of_mem _ hs)) with e | e
      · subst e; have := ha s hs; have := T.self s; omega
      · exact e
    · intro hs
      rcases List.mem_cons.1 ((h s).2 (List.mem_cons_of_mem _ hs)) with e | e
      · subst e; have := hb s hs; have := T.self s; omega
      · exact e
theorem SrtOf.uniq (T : Tot cf) {L L' xs : List α} (h : SrtOf cf L xs) (h' : SrtOf cf L' xs) : L = L' := strict_uniq T h.1 h'.1 fun s => (h.2 s).trans (h'.2 s).symm
theorem SrtOf.congr {L xs ys : List α} (h : SrtOf cf L xs) (he : ∀ s, s ∈ xs ↔ s ∈ ys) : SrtOf cf L ys := ⟨h.1, fun s => (h.2 s).trans (he s)⟩
/-- One element more, at its place. -/
theorem SrtOf.ins (T : Tot cf) {L xs : List α} {s : α} (h : SrtOf cf L xs) {j k : Nat} (h1 : ∀ i x, i < j → L[i]? = some x → cf x s < 0) (h2 : ∀ x, L[j]? = some x → 0 ≤ cf x s)
    (h3 : (k = j ∧ ∀ x, L[j]? = some x → x ≠ s) ∨ (k = j + 1 ∧ L[j]? = some s)) : SrtOf cf (L.take j ++ [s] ++ L.drop k) (xs ++ [s]) := by
  obtain ⟨hp, hm⟩ := h
  have hdrop : ∀ y ∈ L.drop k, cf s y < 0 := fun y hy => by
    obtain ⟨i, hi⟩ := List.getElem?_of_mem hy
    rw [List.getElem?_drop] at hi
    have hlt := (List.getElem?_eq_some_iff.1 hi).1
    have hge : ∀ x, L[j]? = some x → cf s x ≤ 0 := fun x hx => by
      have a := h2 x hx
      have b := T.anti x s
      rcases T.tri x s with c | c | c <;> omega
    rcases h3 with ⟨rfl, hne⟩ | ⟨rfl, he⟩
    · by_cases h0 : i = 0
      · subst h0
        rw [Nat.add_zero] at hi
        have a := hge y hi
        have b : cf s y ≠ 0 := fun e => hne y hi (T.zero e).symm
        omega
      · have hj : L[k]? = some (L[k]'(by omega)) := List.getElem?_eq_getElem (by omega)
        have a := hge _ hj
        have b := List.pairwise_iff_getElem.1 hp k (k + i) (by omega) hlt (by omega)
        obtain ⟨_, e⟩ := List.getElem?_eq_some_iff.1 hi
        rw [e] at b
        exact T.le_lt a b
    · obtain ⟨hjl, he2⟩ := List.getElem?_eq_some_iff.1 he
      have b := List.pairwise_iff_getElem.1 hp j (j + 1 + i) hjl hlt (by omega)
      obtain ⟨_, e⟩ := List.getElem?_eq_some_iff.1 hi
      rw [e, he2] at b
      exact b
  have htake : ∀ y ∈ L.take j, cf y s < 0 := fun y hy => by
    obtain ⟨i, hi⟩ := List.getElem?_of_mem hy
    rw [List.getElem?_take] at hi
    split at hi
    · exact h1 i y ‹_› hi
    · cases hi
  refine ⟨?_, fun z => ?_⟩
  · rw [List.append_assoc, List.pairwise_append]
    refine ⟨hp.sublist (List.take_sublist _ _), ?_, fun a ha b hb => ?_⟩
    · exact List.pairwise_cons.2 ⟨fun y hy => hdrop y hy, hp.sublist (List.drop_sublist _ _)⟩
    · rcases List.mem_cons.1 hb with e | e
      · rw [e]; exact htake a ha
      · exact T.trans (htake a ha) (hdrop b e)
  · rw [List.mem_append, List.mem_append, List.mem_append, List.mem_singleton, ← hm z]
    constructor
    · rintro ((h | h) | h)
      · exact .inl (List.mem_of_mem_take h)
      · exact .inr h
      · exact .inl (List.mem_of_mem_drop h)
    · rintro (h | h)
      · obtain ⟨i, hi⟩ := List.getElem?_of_mem h
        by_cases e : i < j
        · exact .inl (.inl (List.mem_of_getElem? (i := i) (by rw [List.getElem?_take_of_lt e]; exact hi)))
        · by_cases e2 : k ≤ i
          · refine .inr (List.mem_of_getElem? (i := i - k) ?_)
            rw [List.getElem?_drop, show k + (i - k) = i by omega]; exact hi
          · rcases h3 with ⟨rfl, _⟩ | ⟨rfl, he⟩
            · omega
            · obtain rfl : i = j := by omega
              rw [he] at hi
              exact .inl (.inr (Option.some.inj hi).symm)
      · exact .inl (.inr h)
end
/-! ### Neighbours that are alike struck out of a sorted list -/
theorem keepS_mem : ∀ {ts : List Snd} {p z : Snd}, z ∈ keepS p ts → z ∈ ts
  | [], _, _, h => by cases h
  | y :: ts, p, z, h => by
    rw [keepS] at h
    split at h
    · exact List.mem_cons_of_mem _ (keepS_mem h)
    · rcases List.mem_cons.1 h with e | e
      · rw [e]; exact List.mem_cons_self ..
      · exact List.mem_cons_of_mem _ (keepS_mem e)
theorem keepS_has : ∀ {ts : List Snd} {p z : Snd}, z ∈ ts → z = p ∨ z ∈ keepS p ts
  | [], _, _, h => by cases h
  | y :: ts, p, z, h => by
    rw [keepS]
    by_cases e : y = p
    · rw [if_pos e]
      subst e
      rcases List.mem_cons.1 h with e2 | e2
      · exact .inl e2
      · exact keepS_has e2
    · rw [if_neg e]
      rcases List.mem_cons.1 h with e2 | e2
      · rw [e2]; exact .inr (List.mem_cons_self ..)
      · rcases keepS_has (p := y) e2 with e3 | e3
        · rw [e3]; exact .inr (List.mem_cons_self ..)
        · exact .inr (List.mem_cons_of_mem _ e3)
theorem keepS_sorted : ∀ {ts : List Snd} {p : Snd}, (∀ y ∈ ts, cmpS p y ≤ 0) → ts.Pairwise (fun x y => cmpS x y ≤ 0) → (∀ y ∈ keepS p ts, cmpS p y < 0) ∧ (keepS p ts).Pairwise (fun x y => cmpS x y < 0)
  | [], _, _, _ => ⟨fun _ h => (by cases h), List.Pairwise.nil⟩
  | y :: ts, p, h1, h2 => by
    obtain ⟨h3, h4⟩ := List.pairwise_cons.1 h2
    have hp := h1 y (List.mem_cons_self ..)
    rw [keepS]
    by_cases e : y = p
    · rw [if_pos e]
      subst e
      exact keepS_sorted (fun z hz => h3 z hz) h4
    · rw [if_neg e]
      obtain ⟨h5, h6⟩ := keepS_sorted (p := y) (fun z hz => h3 z hz) h4
      have hlt : cmpS p y < 0 := by
        have : cmpS p y ≠ 0 := fun hh => e (cmpS_tot.zero hh).symm
        omega
      refine ⟨fun z hz => ?_, List.pairwise_cons.2 ⟨h5, h6⟩⟩
      rcases List.mem_cons.1 hz with e2 | e2
      · rw [e2]; exact hlt
      · exact cmpS_tot.trans hlt (h5 z e2)
theorem comp_srt {ts xs : List Snd} (hp : ts.Perm xs) (hs : ts.Pairwise (fun x y => ¬ cmpS y x < 0)) : SrtOf cmpS (compS ts) xs := by
  have hs' : ts.Pairwise (fun x y => cmpS x y ≤ 0) := hs.imp fun {x y} h => by
    have := cmpS_tot.anti x y; omega
  cases ts with
  | nil =>
    refine ⟨List.Pairwise.nil, fun s => ?_⟩
    exact hp.mem_iff
  | cons y ts =>
    obtain ⟨h3, h4⟩ := List.pairwise_cons.1 hs'
    obtain ⟨h5, h6⟩ := keepS_sorted (p := y) (fun z hz => h3 z hz) h4
    refine ⟨List.pairwise_cons.2 ⟨h5, h6⟩, fun s => ?_⟩
    rw [← hp.mem_iff]
    show s ∈ y :: keepS y ts ↔ _
    constructor
    · intro h
      rcases List.mem_cons.1 h with e | e
      · rw [e]; exact List.mem_cons_self ..
      · exact List.mem_cons_of_mem _ (keepS_mem e)
    · intro h
      rcases List.mem_cons.1 h with e | e
      · rw [e]; exact List.mem_cons_self ..
      · rcases keepS_has (p := y) e with e2 | e2
        · rw [e2]; exact List.mem_cons_self ..
        · exact List.mem_cons_of_mem _ e2
/-! ### The sounds of correspondences -/
end Go.Proofs.YtbnbfdbliokcaaaDoor
namespace Go.Proofs.YtbnbfdbliokcaaaDoor
open Go.RowKit Go.Shelf Go.Sort Go.Lib
instance : Inhabited Snd := ⟨⟨0, 0⟩⟩
theorem isAgg_snd (w : World) : (isAgg (Tryd.sortS_ren.t 24)).run Tryd.prog w = .ok true w := by kernel_rfl
theorem sizeOf_snd (w : World) : (Go.sizeOf (Tryd.sortS_ren.t 24)).run Tryd.prog w = .ok 2 w := by kernel_rfl
theorem sortS_any {w w0 : World} {e g n cap : Nat} {hs : List Snd} (hx : Ext w w0) (hown : OwnS w.heap.size e w0 (.slice (some ⟨g, 0, none⟩) n cap) hs) (hn : n ≤ 60000000) :
    Calls Tryd.prog 62 #[.slice (some ⟨g, 0, none⟩) n cap, .func (.func 34) #[] #[]] w0 fun en w' => en = .returned (.tuple #[]) ∧ Ext w w' ∧
      ∃ ts : List Snd, ts.Perm hs ∧ ts.Pairwise (fun x y => ¬ cmpS y x < 0) ∧ OwnS w.heap.size e w' (.slice (some ⟨g, 0, none⟩) n cap) ts :=
  sortK_any (k := 2) (enc := Snd.enc) Tryd.sortS Snd.len Snd.one isAgg_snd sizeOf_snd cmpS (swo_tot cmpS_tot) 34 #[] (enters_of Tryd.func34 (by kernel_rfl) rfl)
    (fun W x y _ => order_anyD x y W) hx hown hn
theorem sortS_none (p : Option Addr) (cap : Nat) (fv : Value) (w : World) :
    Calls Tryd.prog 62 #[.slice p 0 cap, fv] w fun e w' => e = .returned (.tuple #[]) ∧ w' = w := AnyF.slices_SortFunc_none Tryd.sortS p cap fv w
end Go.Proofs.YtbnbfdbliokcaaaDoor
