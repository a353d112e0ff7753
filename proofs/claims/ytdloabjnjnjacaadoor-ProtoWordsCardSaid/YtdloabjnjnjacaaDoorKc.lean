/-
  ref23: table.
-/
import Derived.Test.YtdloabjnjnjacaaDoorKa
import Derived.Test.YtdloabjnjnjacaaDoorSp
namespace Go.Proofs.YtdloabjnjnjacaaDoor
open Go.RowKit
/-! ### Plain: the sum up to a node -/
section
variable {ts : List Nd} {ms : List (List Int)} {st : List Int}
def paccS (ts : List Nd) (ms : List (List Int)) (st : List Int) (v s w : Nat) : Int := ((kids (parF ts) v (List.range' (v + 1) (w - (v + 1)))).map fun u => under (rowM ms s) (tabS ts ms st u)).foldl op (if okS (leafL ts) st v s then 0 else -1)
theorem pacc_zero (v s : Nat) : paccS ts ms st v s (v + 1) = if okS (leafL ts) st v s then 0 else -1 := by
  unfold paccS; rw [Nat.sub_self]; rfl
theorem pacc_succ {v s w : Nat} (h : v < w) : paccS ts ms st v s (w + 1) = if parF ts w = (v : Int) then op (paccS ts ms st v s w) (under (rowM ms s) (tabS ts ms st w)) else paccS ts ms st v s w := by
  unfold paccS kids
  have e : w + 1 - (v + 1) = (w - (v + 1)) + 1 := by omega
  rw [e, List.range'_concat, List.filter_append, List.map_append, List.foldl_append]
  have e2 : v + 1 + 1 * (w - (v + 1)) = w := by omega
  rw [e2]
  by_cases hp : parF ts w = (v : Int)
  · have hd : decide (parF ts w = (v : Int)) = true := by simpa using hp
    rw [if_pos hp, List.filter_cons, if_pos hd]; rfl
  · have hd : ¬ decide (parF ts w = (v : Int)) = true := by simpa using hp
    rw [if_neg hp, List.filter_cons, if_neg hd]; rfl
theorem pacc_ge (v s w : Nat) : -1 ≤ paccS ts ms st v s w := foldl_op_ge _ _ (by split <;> omega)
theorem pacc_neg {v s w : Nat} (h : v < w) (h0 : paccS ts ms st v s w < 0) : ∀ d, paccS ts ms st v s (w + d) = -1
  | 0 => by have := pacc_ge (ts := ts) (ms := ms) (st := st) v s w; rw [Nat.add_zero]; omega
  | d + 1 => by
    rw [show w + (d + 1) = (w + d) + 1 by omega, pacc_succ (by omega), pacc_neg h h0 d]
    split
    · exact op_neg (.inl (by omega))
    · rfl
theorem pacc_end {v s : Nat} (hv : v < ts.length) (hs : s < ms.length) : (tabS ts ms st v)[s]? = some (paccS ts ms st v s ts.length) := by
  have h := acc_row (par := parF ts) (m := rowM ms) (ok := okS (leafL ts) st) hv hs
  have h' : (tabS ts ms st v)[s]? = some (acc ts.length (parF ts) (rowM ms) (okS (leafL ts) st) (tabS ts ms st) (ts.length - 1 - v) v s) := h
  rw [h']
  unfold acc paccS
  rw [show ts.length - (ts.length - 1 - v) = v + 1 by omega, show ts.length - 1 - v = ts.length - (v + 1) by omega]
theorem tab_bd (ht : treeB ts = true) (hm : smB ms = true) {u : Nat} (hu : u < ts.length) : (tabS ts ms st u).length = ms.length ∧ ∀ y ∈ tabS ts ms st u, -1 ≤ y ∧ y ≤ 67645734912 := by
  have hl : (tabS ts ms st u).length = ms.length := tabl_len hu
  refine ⟨hl, fun y hy => ?_⟩
  obtain ⟨b, hb⟩ := List.getElem?_of_mem hy
  have hbl := (List.getElem?_eq_some_iff.1 hb).1
  rw [hl] at hbl
  have h := acc_row (par := parF ts) (m := rowM ms) (ok := okS (leafL ts) st) hu hbl
  have h' : (tabS ts ms st u)[b]? = some (accS ts ms st (ts.length - 1 - u) u b) := h
  rw [hb] at h'
  rw [Option.some.inj h']
  exact accS_bd ht hm (by omega) hu hbl
theorem under_tab (ht : treeB ts = true) (hm : smB ms = true) {s u : Nat} (hs : s < ms.length) (hu : u < ts.length) :
    (bstF (fun b => op (ent ms s b) ((tabS ts ms st u).getD b (-1))) ms.length).1 = under (rowM ms s) (tabS ts ms st u) ∧ -1 ≤ under (rowM ms s) (tabS ts ms st u) ∧ under (rowM ms s) (tabS ts ms st u) ≤ 68719476736 := by
  have e : (bstF (fun b => op (ent ms s b) ((tabS ts ms st u).getD b (-1))) ms.length).1 = under (rowM ms s) (tabS ts ms st u) := by
    rw [← bst_under (st := st) ht hm hu hs]
    refine congrArg Prod.fst (bstF_congr ms.length fun b hb => ?_)
    show op _ ((tabS ts ms st u).getD b (-1)) = op _ _
    congr 1
    exact tabl_getD hu hb
  refine ⟨e, ?_, ?_⟩
  · rw [← e]; exact bstF_ge _
  · rw [← e]
    refine bstF_bd (by decide) _ fun b hb => ?_
    have h2 := (tab_bd (st := st) ht hm hu).2
    have hl := (tab_bd (st := st) ht hm hu).1
    have hx : (tabS ts ms st u).getD b (-1) ≤ 67645734912 := by
      rw [List.getD_eq_getElem?_getD, List.getElem?_eq_getElem (by omega)]; exact (h2 _ (List.getElem_mem _)).2
    obtain ⟨_, _, _, _, _, h5⟩ := smB_ent hm hs hb
    show op _ _ ≤ _
    unfold op; split <;> omega
theorem pacc_bd (ht : treeB ts = true) (hm : smB ms = true) {v s : Nat} (hs : s < ms.length) : ∀ d, v + 1 + d ≤ ts.length → paccS ts ms st v s (v + 1 + d) ≤ 68719476736 * d
  | 0, _ => by rw [Nat.add_zero, pacc_zero]; split <;> omega
  | d + 1, h => by
    have ih := pacc_bd ht hm (v := v) (s := s) hs d (by omega)
    have hu := (under_tab (st := st) ht hm (s := s) (u := v + 1 + d) hs (by omega)).2
    rw [show v + 1 + (d + 1) = (v + 1 + d) + 1 by omega, pacc_succ (by omega)]
    split
    · unfold op; split <;> omega
    · omega
end
/-! ### Rows in memory -/
theorem Fam.congr {B eo ei : Nat} {w : World} {G n : Nat} {hd : Nat → Value} {xs xs' : Nat → List Int} (h : Fam B eo ei w G n hd xs) (he : ∀ v, v < n → xs v = xs' v) : Fam B eo ei w G n hd xs' :=
  ⟨h.base, h.blk, h.head, fun v hv => by rw [← he v hv]; exact h.own v hv, h.apart⟩
theorem Fam.rd {B eo ei : Nat} {w : World} {G n : Nat} {hd : Nat → Value} {xs : Nat → List Int} (h : Fam B eo ei w G n hd xs) (hn : n ≤ maxLen) : RdM w (some ⟨G, 0, none⟩) n n ((List.range n).map xs) := by
  refine ⟨by simp, Nat.le_refl _, hn, (fun h => by cases h), fun _ => ⟨G, 0, rfl, h.lt, fun i x hi => ?_⟩⟩
  have hlt : i < n := by have := (List.getElem?_eq_some_iff.1 hi).1; simpa using this
  have hx : x = xs i := by
    rw [List.getElem?_map, List.getElem?_range hlt] at hi
    exact (Option.some.inj hi).symm
  subst hx
  obtain ⟨a, m, c, hm, hv, hr⟩ := OwnK.rdn I64.len (h.own i hlt)
  refine ⟨hd i, by rw [Nat.zero_add]; exact h.head i hlt, a, m, c, hv, ?_⟩
  exact hr
theorem wp_appI {P : Program} {ops : Array Oper} {rest : List Oper} {o : Oper} {a : Act} {w : World} {Q : Exit → Act → World → Prop} (w00 : World) (y : Int) (hgd : o.guard = none) (s x : Operand) (t : TypeId)
    (ho : o.op = .call { callee := .builtin .append, args := #[s, x], argTypes := #[t, t] }) (e : TypeId) (ht : P.underlying t = some (.slice e))
    (hinf : (P.info? e).map (fun i => (i.zero, i.size, i.bytes)) = some (some (.int .i64 0), 1, 8))
    (v : Value) (xs : List Int) (hs : a.eval s = v) (hown : OwnI w00.heap.size e w v xs) (hx0 : Ext w00 w) (ad : Addr) (hx : a.eval x = .slice (some ad) 1 1) (hrd : RdI w (some ad) 1 1 [y]) (hN : xs.length ≤ 60000)
    (h : ∀ v' w', OwnI w00.heap.size e w' v' (xs ++ [y]) → Ext w00 w' → w.grownBy w' v.ownBlock → (v'.ownBlock = v.ownBlock ∨ v'.ownBlock = some w.heap.size) → wpList P ops Q rest (a.put o.dst v') w') :
    wpList P ops Q (o :: rest) a w := by
  refine wpList_plain hgd fun K hK => ?_
  have := step_appI (P := P) (ops := ops) (o := o) (a := a) (Q := Q) (E := False) (K := K) w00 w y hgd s x t ho e ht hinf v xs hs hown hx0 ad hx hrd hN (fun v' w' h1 h2 h3 h4 => hK _ _ (h v' w' h1 h2 h3 h4))
  have hw : Region.wanted o (yielded ops a.tmps) = true := by simp [Region.wanted, hgd]
  rw [if_pos hw] at this
  exact this
def tabRows (ts : List Nd) (ms : List (List Int)) (st : List Int) : List (List Int) := (List.range ts.length).map (tabS ts ms st)
theorem if3 {α : Type} {p q : Prop} [Decidable p] [Decidable q] {x y z : α} (h : ¬ p) : (if p then x else if q then y else z) = if q then y else z := if_neg h
set_option maxHeartbeats 4000000 in
set_option maxRecDepth 20000 in
theorem table_any (a : Option Addr) (n cap : Nat) (ts : List Nd) (am : Option Addr) (k capm : Nat) (ms : List (List Int)) (ast : Option Addr) (l caps : Nat) (st : List Int) (w : World)
    (hr : RdN w a n cap ts) (hm : RdM w am k capm ms) (hs : RdI w ast l caps st) (h0 : chkS ts ms st = 0) :
    Calls Tryd.prog 82 #[.slice a n cap, .slice am k capm, .slice ast l caps] w fun e w' => ∃ G, e = .returned (.slice (some ⟨G, 0, none⟩) n n) ∧ RdM w' (some ⟨G, 0, none⟩) n n (tabRows ts ms st) ∧ Ext w w' := by
  obtain ⟨ht, hmb, hstl, _⟩ := chkS_zero h0
  have hnl := hr.rd.len
  have hkl := RdV.len hm
  have hn1 : 1 ≤ n := by rw [← hnl]; exact (tree_len ht).1
  have hn63 : n ≤ 63 := by rw [← hnl]; exact (tree_len ht).2
  have hk12 : k ≤ 12 := by rw [← hkl]; exact (smB_of hmb).2.1
  have hmk := fun W => mk_rows64 n (by omega) W
  have hmay := fun u s W (hx : Ext w W) => may_any a n cap ts ast l caps st u s W (hr.ext hx) (hs.ext hx) ht hstl
  have hTl : ∀ u, u < n → (tabS ts ms st u).length = k := fun u hu => by rw [(tab_bd (st := st) ht hmb (show u < ts.length by omega)).1, hkl]
  have hund := fun s ac capc u W (hx : Ext w W) (hs : s < k) (hu : u < n) (hy : RdI W ac k capc (tabS ts ms st u)) => cint (under_any am k capm ms s ac capc (tabS ts ms st u) W (hm.ext hx) hmb hs hy (fun y hy => by have := (tab_bd (st := st) ht hmb (show u < ts.length by omega)).2 y hy; omega)) (show _ = under (rowM ms s) (tabS ts ms st u) by have := (under_tab (st := st) ht hmb (s := s) (u := u) (by omega) (by omega)).1; rw [hkl] at this; exact this)
  have hU : ∀ s u, s < k → u < n → -1 ≤ under (rowM ms s) (tabS ts ms st u) ∧ under (rowM ms s) (tabS ts ms st u) ≤ 68719476736 := fun s u hs hu => (under_tab (st := st) ht hmb (s := s) (u := u) (by omega) (by omega)).2
  have hP0 := pacc_zero (ts := ts) (ms := ms) (st := st)
  have hPs : ∀ v s u, v < u → paccS ts ms st v s (u + 1) = if parF ts u = (v : Int) then op (paccS ts ms st v s u) (under (rowM ms s) (tabS ts ms st u)) else paccS ts ms st v s u := fun v s u h => pacc_succ h
  have hPn : ∀ v s, v < n → s < k → (tabS ts ms st v)[s]? = some (paccS ts ms st v s n) := fun v s hv hs => by have := pacc_end (ts := ts) (ms := ms) (st := st) (v := v) (s := s) (by omega) (by omega); rw [hnl] at this; exact this
  have hPneg : ∀ v s u, v < u → u ≤ n → paccS ts ms st v s u < 0 → paccS ts ms st v s u = -1 ∧ paccS ts ms st v s n = -1 := fun v s u h1 h2 h3 => by
    have e1 := pacc_neg h1 h3 0
    have e2 := pacc_neg h1 h3 (n - u)
    rw [show u + (n - u) = n by omega] at e2
    exact ⟨e1, e2⟩
  have hPb : ∀ v s u, v < u → u ≤ n → s < k → -1 ≤ paccS ts ms st v s u ∧ paccS ts ms st v s u ≤ 68719476736 * 63 := fun v s u h1 h2 h3 => by
    refine ⟨pacc_ge _ _ _, ?_⟩
    have := pacc_bd (st := st) ht hmb (v := v) (s := s) (by omega) (u - (v + 1)) (by omega)
    rw [show v + 1 + (u - (v + 1)) = u by omega] at this
    omega
  have hpF : ∀ (u : Nat) (x : Nd), ts[u]? = some x → parF ts u = x.par := fun u x h => parF_at h
  have hrows : tabRows ts ms st = (List.range n).map (tabS ts ms st) := by unfold tabRows; rw [hnl]
  rw [hrows]
  generalize hUf : (fun s u => under (rowM ms s) (tabS ts ms st u)) = U
  have hUe : ∀ s u, under (rowM ms s) (tabS ts ms st u) = U s u := fun s u => by rw [← hUf]
  simp only [hUe] at hund hU hPs
  clear hUe hUf hrows
  generalize tabS ts ms st = T at *
  generalize paccS ts ms st = P at *
  generalize leafL ts = L at *
  replace hTl := Lib.hid hTl
  replace hP0 := Lib.hid hP0
  replace hPs := Lib.hid hPs
  replace hPn := Lib.hid hPn
  replace hPneg := Lib.hid hPneg
  replace hPb := Lib.hid hPb
  replace hpF := Lib.hid hpF
  replace hU := Lib.hid hU
  replace hstl := Lib.hid hstl
  replace hnl := Lib.hid hnl
  replace hkl := Lib.hid hkl
  clear h0 ht hmb
  go_enter Tryd.func82, Tryd.ntmps82
  go_wp2_with fail
  have hF0 := Fam.start (eo := 23) (ei := 2) w (Nat.le_refl _) (zHdrs n) n (fun r hr => zHdrs_at _ _ hr)
  have hF1 : Fam w.heap.size 23 2 (w.alloc (.cells (zHdrs n) 23)) w.heap.size n (fun _ => .slice none 0 0) (fun u => if n ≤ u then T u else []) := hF0.congr fun v hv => by rw [if_neg (by omega)]
  have hx1 : Ext w (w.alloc (.cells (zHdrs n) 23)) := (by repeat (first | exact Ext.refl _ | assumption | refine Ext.drew ?_ | refine Ext.drewN ?_ _ | refine Ext.alloc ?_ _ | refine Ext.trans ?_ (by assumption)))
  clear hF0
  go_loopw [8] (fun i wr => ∃ (v1 : Nat) (hd : Nat → Value), v1 ≤ n ∧ i = .int .i64 ((v1 : Int) - 1) ∧ Ext w wr ∧ Fam w.heap.size 23 2 wr w.heap.size n hd (fun u => if v1 ≤ u then T u else [])) (fun i _ => (intOf i + 1).toNat)
  case atStart => exact ⟨n, _, Nat.le_refl _, rfl, hx1, hF1⟩
  case round =>
    obtain ⟨v1, hd, hv1, rfl, hx, hF⟩ := hrel
    by_cases hv0 : v1 = 0
    · subst hv0
      have hF2 := (hF.congr (xs' := T) (fun v hv => by rw [if_pos (Nat.zero_le _)])).rd (by unfold maxLen; omega)
      go_wp2_with fail
      go_ret
      exact ⟨_, rfl, hF2, hx⟩
    · obtain ⟨v, rfl⟩ : ∃ v, v1 = v + 1 := ⟨v1 - 1, by omega⟩
      have hvn : v < n := by omega
      rw [show ((v + 1 : Nat) : Int) - 1 = (v : Int) by omega]
      have hF3 := hF.congr (xs' := fun u => if u = v then (T v).take 0 else if v < u then T u else []) (fun u hu => by
        show (if v + 1 ≤ u then _ else _) = _
        by_cases e : u = v
        · rw [if_neg (by omega), if_pos e]; simp
        · rw [if_neg e]; by_cases e2 : v < u
          · rw [if_pos e2, if_pos (by omega)]
          · rw [if_neg e2, if_neg (by omega)])
      replace hv0 := Lib.hid hv0
      clear hF
      go_wp2_with fail
      go_loopw [9] (fun i wr => ∃ (s : Nat) (hd : Nat → Value), s ≤ k ∧ i = .int .i64 s ∧ Ext w wr ∧ Fam w.heap.size 23 2 wr w.heap.size n hd (fun u => if u = v then (T v).take s else if v < u then T u else [])) (fun i _ => k - (intOf i).toNat)
      case atStart => exact ⟨0, hd, Nat.zero_le _, rfl, hx, hF3⟩
      case round =>
        clear hF3 hx hd
        obtain ⟨s, hd, hsk, rfl, hx, hF⟩ := hrel
        by_cases hlt : s < k
        · have hP0v := hP0.out v s
          cases hok : okS L st v s
          all_goals
            rw [hok] at hP0v
            simp only [if_true, Bool.false_eq_true, if_false] at hP0v
            replace hP0v := Lib.hid hP0v
            go_wp2_with fail
            refine (cbool (hmay v s _ hx) hok).mono ?_
            rintro e w3 ⟨rfl, hx3⟩
            have hFm := hF.ext hx3
            have hxm := hx.trans hx3
            clear hok
            go_wp2_with fail
            go_loopw [10, 11] (fun sv i wr => ∃ u : Nat, v < u ∧ u ≤ n ∧ i = .int .i64 u ∧ sv = .int .i64 (P v s u) ∧ Ext w3 wr) (fun _ i _ => n - (intOf i).toNat)
            case atStart => exact ⟨v + 1, by omega, by omega, by go_num, by rw [hP0v.out], Ext.refl _⟩
            case round =>
              obtain ⟨u, hu1, hun, rfl, rfl, hxq⟩ := hrel
              by_cases hltu : u < n
              · have hdn : decide (u < n) = true := by simpa using hltu
                by_cases hneg : P v s u < 0
                · obtain ⟨e1, e2⟩ := hPneg.out v s u hu1 (by omega) hneg
                  have hPe := hPn.out v s hvn hlt
                  rw [e2] at hPe
                  rw [e1]
                  clear e1 e2 hneg
                  have hFq := hFm.ext hxq
                  have hwq := hxm.trans hxq
                  have hgv := hFq.head v hvn
                  have hGl := hFq.lt
                  have hopv := hFq.own v hvn
                  simp only [if_true] at hopv
                  have hln : ((T v).take s).length ≤ 60000 := by rw [List.length_take]; omega
                  have hFa := hFq.ext (Ext.alloc1 wr (.cells #[.int .i64 (-1)] 2))
                  have happ : ∀ (v5 : Value) (w5 : World), OwnI w.heap.size 2 w5 v5 ((T v).take s ++ [-1]) → (wr.alloc (.cells #[.int .i64 (-1)] 2)).grownBy w5 (hd v).ownBlock → (v5.ownBlock = (hd v).ownBlock ∨ v5.ownBlock = some (wr.alloc (.cells #[.int .i64 (-1)] 2)).heap.size) → w5.cell? ⟨w.heap.size, v, none⟩ = some (hd v) ∧ w5.frozen? ⟨w.heap.size, v, none⟩ = false ∧
                      Fam w.heap.size 23 2 (w5.setCell ⟨w.heap.size, v, none⟩ v5) w.heap.size n (fun u => if u = v then v5 else hd u) (fun u => if u = v then (T v).take (s + 1) else if v < u then T u else []) := fun v5 w5 o5 g5 n5 => by
                    obtain ⟨q1, q2, q3⟩ := hFa.app hvn (v' := v5) (x := -1) (by decide) (by rw [if_pos rfl]; exact o5) g5 (fun g hg => by
                      rcases n5 with n5 | n5
                      · exact .inl (by rw [← n5]; exact hg)
                      · exact .inr (by rw [n5] at hg; cases hg; exact Nat.le_refl _))
                    refine ⟨q2, q3, q1.congr fun u _ => ?_⟩
                    by_cases e : u = v
                    · rw [if_pos e, if_pos e, if_pos rfl, take_succ_at hPe]
                    · simp only [if_neg e]
                  replace happ := Lib.hid happ
                  clear hFa hFq hFm hxm hx hF hx3 hxq hPe
                  go_wp2_with (at_builtin; refine wp_appI w (-1) rfl _ _ 23 rfl 2 Tryd.underlying23 info_i64 (hd v) ((T v).take s) rfl (hopv.kept (Ext.alloc1 _ _)) (hwq.alloc _) _ rfl (one_rd wr _ _) hln ?_; intro v5 w5 o5 x5 g5 n5; obtain ⟨a5, m5, c5, hm5, rfl, _⟩ := OwnK.rdn I64.len o5; replace hm5 := Lib.hid hm5; obtain ⟨s1, s2, s3⟩ := happ.out _ w5 o5 g5 n5)
                  have x6 := x5.setCell (p := ⟨w.heap.size, v, none⟩) (Nat.le_refl _) (.slice a5 m5 c5)
                  (exact ⟨⟨s + 1, _, by omega, by go_num, x6, s3⟩, by first | (simp [intOf]; done) | (simp [intOf]; omega)⟩)
                · obtain ⟨b, off, x, rfl, hx0, hb, hcp, _, _⟩ := (hr.ext (hxm.trans hxq)).nd hltu
                  have hd0 : decide (0 ≤ P v s u) = true := by simp; omega
                  have hsu := hPs.out v s u hu1
                  rw [hpF.out u x hx0.out] at hsu
                  have hPb1 := hPb.out v s u hu1 (by omega) hlt
                  have hPb2 := hPb.out v s (u + 1) (by omega) (by omega) hlt
                  by_cases hpx : x.par = (v : Int)
                  · have hd1 : (x.par != (v : Int)) = false := by simpa using hpx
                    rw [if_pos hpx] at hsu
                    have hFq := hFm.ext hxq
                    have hgu := hFq.head u hltu
                    have hou := hFq.own u hltu
                    rw [if_neg (by omega), if_pos hu1] at hou
                    obtain ⟨au, mu, cu, hmu, hvu, hru⟩ := OwnK.rdn I64.len hou
                    rw [hTl.out u hltu] at hmu
                    obtain rfl : k = mu := hmu.symm
                    rw [hvu] at hgu
                    have hGl := hFq.lt
                    have hcall := fun W (hx : Ext wr W) => hund s au cu u W ((hxm.trans hxq).trans hx) hlt hltu (hru.ext hx)
                    obtain ⟨hU1, hU2⟩ := hU.out s u hlt hltu
                    generalize P v s u = y at *
                    generalize U s u = z at *
                    replace hpx := Lib.hid hpx
                    clear hvu hou hFq
                    go_wp2_with fail
                    refine (hcall _ (by repeat (first | exact Ext.refl _ | assumption | refine Ext.drew ?_ | refine Ext.drewN ?_ _ | refine Ext.alloc ?_ _ | refine Ext.trans ?_ (by assumption)))).mono ?_
                    rintro e w4 ⟨rfl, hx4⟩
                    by_cases hz : z < 0
                    · have hd2 : decide (z < 0) = true := by simpa using hz
                      rw [op_neg (.inr hz)] at hsu
                      replace hsu := Lib.hid hsu
                      go_wp2_with fail
                      (exact ⟨⟨u + 1, by omega, by omega, by go_num, by rw [hsu.out], hxq.trans hx4⟩, by first | (simp [intOf]; done) | (simp [intOf]; omega)⟩)
                    · have hd2 : decide (z < 0) = false := by simpa using hz
                      rw [op_pos (by omega) (by omega)] at hsu
                      replace hsu := Lib.hid hsu
                      have hwr : IntKind.i64.wrap (y + z) = y + z := IntWalk.i64_in _ (by omega)
                      go_wp2_with fail
                      (exact ⟨⟨u + 1, by omega, by omega, by go_num, by rw [hsu.out], hxq.trans hx4⟩, by first | (simp [intOf]; done) | (simp [intOf]; omega)⟩)
                  · have hd1 : (x.par != (v : Int)) = true := by simpa using hpx
                    rw [if_neg hpx] at hsu
                    replace hsu := Lib.hid hsu
                    replace hpx := Lib.hid hpx
                    go_wp2_with fail
                    (exact ⟨⟨u + 1, by omega, by omega, by go_num, by rw [hsu.out], hxq⟩, by first | (simp [intOf]; done) | (simp [intOf]; omega)⟩)
              · have hun2 : u = n := by omega
                have hdn : decide (u < n) = false := by simpa using hltu
                have hPe := hPn.out v s hvn hlt
                rw [← hun2] at hPe
                replace hun2 := Lib.hid hun2
                generalize P v s u = y at hPe ⊢
                have hFq := hFm.ext hxq
                have hwq := hxm.trans hxq
                have hgv := hFq.head v hvn
                have hGl := hFq.lt
                have hopv := hFq.own v hvn
                simp only [if_true] at hopv
                have hln : ((T v).take s).length ≤ 60000 := by rw [List.length_take]; omega
                have hFa := hFq.ext (Ext.alloc1 wr (.cells #[.int .i64 (y)] 2))
                have happ : ∀ (v5 : Value) (w5 : World), OwnI w.heap.size 2 w5 v5 ((T v).take s ++ [y]) → (wr.alloc (.cells #[.int .i64 (y)] 2)).grownBy w5 (hd v).ownBlock → (v5.ownBlock = (hd v).ownBlock ∨ v5.ownBlock = some (wr.alloc (.cells #[.int .i64 (y)] 2)).heap.size) → w5.cell? ⟨w.heap.size, v, none⟩ = some (hd v) ∧ w5.frozen? ⟨w.heap.size, v, none⟩ = false ∧
                    Fam w.heap.size 23 2 (w5.setCell ⟨w.heap.size, v, none⟩ v5) w.heap.size n (fun u => if u = v then v5 else hd u) (fun u => if u = v then (T v).take (s + 1) else if v < u then T u else []) := fun v5 w5 o5 g5 n5 => by
                  obtain ⟨q1, q2, q3⟩ := hFa.app hvn (v' := v5) (x := y) (by decide) (by rw [if_pos rfl]; exact o5) g5 (fun g hg => by
                    rcases n5 with n5 | n5
                    · exact .inl (by rw [← n5]; exact hg)
                    · exact .inr (by rw [n5] at hg; cases hg; exact Nat.le_refl _))
                  refine ⟨q2, q3, q1.congr fun u _ => ?_⟩
                  by_cases e : u = v
                  · rw [if_pos e, if_pos e, if_pos rfl, take_succ_at hPe]
                  · simp only [if_neg e]
                replace happ := Lib.hid happ
                clear hFa hFq hFm hxm hx hF hx3 hxq hPe
                go_wp2_with (at_builtin; refine wp_appI w (y) rfl _ _ 23 rfl 2 Tryd.underlying23 info_i64 (hd v) ((T v).take s) rfl (hopv.kept (Ext.alloc1 _ _)) (hwq.alloc _) _ rfl (one_rd wr _ _) hln ?_; intro v5 w5 o5 x5 g5 n5; obtain ⟨a5, m5, c5, hm5, rfl, _⟩ := OwnK.rdn I64.len o5; replace hm5 := Lib.hid hm5; obtain ⟨s1, s2, s3⟩ := happ.out _ w5 o5 g5 n5)
                have x6 := x5.setCell (p := ⟨w.heap.size, v, none⟩) (Nat.le_refl _) (.slice a5 m5 c5)
                (exact ⟨⟨s + 1, _, by omega, by go_num, x6, s3⟩, by first | (simp [intOf]; done) | (simp [intOf]; omega)⟩)
        · have hsk2 : s = k := by omega
          have hF4 := hF.congr (xs' := fun u => if v ≤ u then T u else []) (fun u hu => by
            show (if u = v then _ else if v < u then _ else _) = _
            by_cases e : u = v
            · subst e
              rw [if_pos rfl, if_pos (Nat.le_refl _), List.take_of_length_le (by rw [hTl.out u hvn]; omega)]
            · rw [if_neg e]
              by_cases e2 : v < u
              · rw [if_pos e2, if_pos (by omega)]
              · rw [if_neg e2, if_neg (by omega)])
          replace hsk2 := Lib.hid hsk2
          go_wp2_with fail
          (exact ⟨⟨v, hd, by omega, by go_num, hx, hF4⟩, by first | (simp [intOf]; done) | (simp [intOf]; omega)⟩)
end Go.Proofs.YtdloabjnjnjacaaDoor
