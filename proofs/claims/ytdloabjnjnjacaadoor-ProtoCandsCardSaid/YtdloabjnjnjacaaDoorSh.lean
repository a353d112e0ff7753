/-
  sankoff.solved, for a task that is in order.
-/
import Derived.Test.YtdloabjnjnjacaaDoorSf
import Derived.Test.YtdloabjnjnjacaaDoorBr
import Derived.Test.YtdloabjnjnjacaaDoorSp
namespace Go.Proofs.YtdloabjnjnjacaaDoor
open Go.RowKit Go.Shelf
theorem leafL_at {ts : List Nd} {i : Nat} {v : Int} (h : (leafL ts)[i]? = some v) : ∃ u : Nat, v = (u : Int) ∧ u < ts.length := by
  have hm := List.mem_of_getElem? h
  unfold leafL leafTo at hm
  obtain ⟨u, hu, rfl⟩ := List.mem_map.1 hm
  exact ⟨u, rfl, List.mem_range.1 (List.mem_filter.1 hu).1⟩
theorem okS_succ {L st : List Int} {i u s : Nat} {v t : Int} (h1 : L[i]? = some v) (h2 : st[i]? = some t) :
    okS (L.take (i + 1)) (st.take (i + 1)) u s = (okS (L.take i) (st.take i) u s && (!decide (v = (u : Int)) || (decide (t = -1) || decide (t = (s : Int))))) := by
  have l1 := (List.getElem?_eq_some_iff.1 h1).1
  have l2 := (List.getElem?_eq_some_iff.1 h2).1
  unfold okS
  rw [take_succ_at h1, take_succ_at h2, List.zip_append (by simp; omega)]
  simp [List.all_append]
def initF (L st : List Int) (i u s : Nat) : Int := if okS (L.take i) (st.take i) u s = true then 0 else -1
theorem initF_same {L st : List Int} {i u s : Nat} {v t : Int} (h1 : L[i]? = some v) (h2 : st[i]? = some t) (h : ¬ v = (u : Int) ∨ t = -1 ∨ t = (s : Int)) : initF L st (i + 1) u s = initF L st i u s := by
  have : (!decide (v = (u : Int)) || (decide (t = -1) || decide (t = (s : Int)))) = true := by
    rcases h with h | h | h <;> simp [h]
  unfold initF; rw [okS_succ h1 h2, this, Bool.and_true]
theorem initF_bad {L st : List Int} {i u s : Nat} {v t : Int} (h1 : L[i]? = some v) (h2 : st[i]? = some t) (h3 : v = (u : Int)) (h4 : t ≠ -1) (h5 : t ≠ (s : Int)) : initF L st (i + 1) u s = -1 := by
  have : (!decide (v = (u : Int)) || (decide (t = -1) || decide (t = (s : Int)))) = false := by simp [h3, h4, h5]
  unfold initF; rw [okS_succ h1 h2, this, Bool.and_false]; rfl
theorem OwnK.rd' {α : Type} {k : Nat} {enc : α → List Value} (hk : ∀ x, (enc x).length = k) {B : Nat} {e : TypeId} {w : World} {a : Option Addr} {n cap : Nat} {xs : List α} (h : OwnK k enc B e w (.slice a n cap) xs) : RdK k enc w a n cap xs := by
  obtain ⟨a', n', c', hn, hv, hr⟩ := OwnK.rdn hk h
  cases hv; exact hr
theorem heap_other {w : World} {g j : Nat} (i : Nat) (v : Value) (h : j ≠ g) : (w.setCell ⟨g, i, none⟩ v).heap[j]? = w.heap[j]? := by
  show (w.heap.modify g _)[j]? = _
  rw [Array.getElem?_modify, if_neg (Ne.symm h)]
theorem grown_set (W : World) (g i : Nat) (v : Value) : W.grownBy (W.setCell ⟨g, i, none⟩ v) (some g) := ⟨rfl, rfl, rfl, by simp, fun k hk hn => by
  have : k ≠ g := fun e => hn (by rw [e])
  show (W.heap.modify g _)[k]? = _
  rw [Array.getElem?_modify, if_neg (Ne.symm this)]⟩
theorem wpIn_range_own3 {F : Fence} {n : Nat} {P : Program} {w : World} {α : Type} {g : Operand} {ps : Array Tmp} {assign body : Code} {Q : Exit → Act → World → Prop} {a : Act}
    (hro : F.round = none) (h1 : 1 ≤ n) {gf : Nat} {lb : Array Value} (hg : a.eval g = .func (.func gf) #[] lb) (hFg : F.fn gf) (eg : ∀ args w, (callFunc gf args).run P w = .ok (.enter gf args) w)
    {encs : α → Array Value} (hps : ∀ x, (encs x).size = ps.size) (own : Nat → Prop) (hlow : ∀ r, own r → r < w.heap.size) (xs : List α)
    (I : List α → World → Prop) (hI : AbideOwn w.heap.size own I) (h0 : I [] w) (Ix : Code → List α → World → Prop) (hIx : ∀ c, AbideOwn w.heap.size own (Ix c))
    (hiter : ∀ (l : Nat) (J Jx : List α → World → Prop) (W : World), Below w.heap.size w W → J [] W → (∀ s X Y row, J s X → X.grownBy Y row → (∀ r, row = some r → own r) → J s Y) → (∀ s X Y row, Jx s X → X.grownBy Y row → (∀ r, row = some r → own r) → Jx s Y) → (∀ s X, J s X → I s X) →
      (∀ pre x X, J pre X → (pre ++ [x]) <+: xs → YieldAt F (n - 1 - 1) P l (encs x) X fun e Y => (e = .returned (.bool true) ∧ J (pre ++ [x]) Y ∧ Same own X Y) ∨ (e = .returned (.bool false) ∧ Jx (pre ++ [x]) Y)) →
      CallsIn F (n - 1) P gf (#[.func (.yield l) #[] #[]] ++ lb) W fun e W' => (∃ v, e = .returned v) ∧ (J xs W' ∨ ∃ pre, Jx pre W'))
    (st : α → Array Value → Array Value)
    (hassign : ∀ (l : Nat) (x : α) (W : World) (K : Act → World → Prop), K { tmps := st x a.tmps, defers := [] } W →
      assign.wpIn (F.inRound l) (n - 1 - 1) P (Exit.then K (fun _ _ _ => False)) { tmps := (ps.zip (encs x)).foldl (fun t (p, v) => t.setIfInBounds p v) a.tmps, defers := [] } W)
    (hbody : ∀ (l : Nat) (pre : List α) (x : α) (W : World), I pre W → (pre ++ [x]) <+: xs → body.wpIn (F.inRound l) (n - 1 - 1) P (roundEnd2 w.heap.size own I Ix (pre ++ [x]) W) { tmps := st x a.tmps, defers := [] } W)
    (hdone : ∀ (D : Nat) (W : World), w.heap.size ≤ D → I xs W → W.heap[D]? = some (.deferred (some [])) → Q .normal { a with defers := { target := .collected D, args := #[] } :: a.defers } W)
    (hstop : ∀ (D : Nat) (c : Code) (pre : List α) (W : World), w.heap.size ≤ D → Ix c pre W → W.heap[D]? = some (.deferred (some [])) → c.wpIn F n P Q { a with defers := { target := .collected D, args := #[] } :: a.defers } W) :
    (Code.rangeFunc g ps assign body).wpIn F n P Q a w :=
  wpIn_range_own2 hro h1 hg hFg eg hps own hlow xs I hI h0 Ix hIx hiter (fun x a' _ => a' = { tmps := st x a.tmps, defers := [] }) (fun _ _ _ _ _ _ h _ _ => h)
    (fun l pre x W K hi hK => hassign l x W K (hK _ _ (KeepsFrom.refl _ _) (Same.refl _ _) hi rfl)) (fun l pre x a' W hi ha hp => by subst ha; exact hbody l pre x W hi hp) hdone hstop
theorem keeps_ext {B : Nat} {W W' : World} (h : Ext W W') : KeepsFrom B W W' := ⟨h.le, fun k _ _ hk _ => (Below.block h.bel k (Array.getElem?_eq_some_iff.1 hk).1).trans hk⟩
attribute [local go_sem] Oper.semAt_some
def zRows (n : Nat) : Array Value := madeCells (Value.agg #[.int .i64 0, .int .i64 0, .int .i64 0, .int .i64 0, .int .i64 0, .int .i64 0, .int .i64 0, .int .i64 0, .int .i64 0, .int .i64 0, .int .i64 0, .int .i64 0]).cells (n * 12)
theorem info_row12 : (Tryd.prog.info? 120).map (fun i => (i.zero, i.size, i.bytes)) = some (some (.agg #[.int .i64 0, .int .i64 0, .int .i64 0, .int .i64 0, .int .i64 0, .int .i64 0, .int .i64 0, .int .i64 0, .int .i64 0, .int .i64 0, .int .i64 0, .int .i64 0]), 12, 96) := by kernel_rfl
theorem zRows_at (n j : Nat) (h : j < n * 12) : (zRows n)[j]? = some (.int .i64 0) := by
  have h12 : j % 12 < 12 := Nat.mod_lt _ (by omega)
  have hz : (Value.agg #[.int .i64 0, .int .i64 0, .int .i64 0, .int .i64 0, .int .i64 0, .int .i64 0, .int .i64 0, .int .i64 0, .int .i64 0, .int .i64 0, .int .i64 0, .int .i64 0]).cells = Array.replicate 12 (.int .i64 0) := by kernel_rfl
  unfold zRows; rw [hz]
  simp [madeCells, h, h12]
theorem mk_rows12 (n : Nat) (hn : n ≤ 60000) (w : World) : (Instr.makeSlice 112 (.int .i64 (n : Int)) (.int .i64 (n : Int))).run Tryd.prog w = .ok (.slice (some ⟨w.heap.size, 0, none⟩) n n) (w.alloc (.cells (zRows n) 120)) :=
  run_mk 112 Tryd.underlying112 info_row12 n hn (by omega) w
set_option maxHeartbeats 20000000 in
set_option maxRecDepth 100000 in
theorem solved_ok (a : Option Addr) (n cap : Nat) (ts : List Nd) (am : Option Addr) (k capm : Nat) (ms : List (List Int)) (ast : Option Addr) (l caps : Nat) (st : List Int) (w : World)
    (hr : RdN w a n cap ts) (hm : RdM w am k capm ms) (hs : RdI w ast l caps st) (h0 : chkS ts ms st = 0) :
    Calls Tryd.prog 107 #[.slice a n cap, .slice am k capm, .slice ast l caps] w fun e w' => (∃ g, e = .returned (.tuple #[prV a n cap am k capm g, .int .i64 0]) ∧ w.heap.size ≤ g ∧ RdT w' g n k (accS ts ms st (n - 1))) ∧ Ext w w' := by
  have hcc := fun W (hx : Ext w W) => cint (scheck_any a n cap ts am k capm ms ast l caps st W (hr.ext hx) (hm.ext hx) (hs.ext hx)) h0
  have h1 : 1 ≤ 9 := by omega
  obtain ⟨ht, hmb, hstl, hsta⟩ := chkS_zero h0
  have hnl := hr.rd.len
  have hkl := RdV.len hm
  have hll := hs.len
  obtain ⟨hn1, hn63⟩ := tree_len ht
  obtain ⟨hk1, hk12, _⟩ := smB_of hmb
  rw [hnl] at hn1 hn63
  rw [hkl] at hk1 hk12
  have hcall : ∀ W, Ext w W → Calls Tryd.prog 25 #[.slice a n cap] W (RetIE (leafL ts) 0 W) := fun W hx => by
    have := tleaves_any a n cap ts W (hr.ext hx)
    rwa [leavesR_ok ht, treeE_zero ht] at this
  have hn60 : n ≤ 60000 := by omega
  have hmk := fun W => mk_rows12 n hn60 W
  refine (callsIn_wide (n := 9)).1 ?_
  refine callsIn_of_wp_marks Tryd.func107 rfl trivial ?_ rfl
  simp only [Tryd.ntmps107, List.size_toArray, List.length_cons, List.length_nil, Nat.reduceAdd, Nat.reduceSub, Array.replicate_succ, Array.replicate_zero, List.push_toArray, List.append_toArray, List.nil_append, List.cons_append]
  gi_wp2
  refine ⟨trivial, ?_⟩
  gi_at_call 131
  refine (callsIn_wide.2 (hcc _ (by repeat (first | exact Ext.refl _ | assumption | refine Ext.drew ?_ | refine Ext.drewN ?_ _ | refine Ext.alloc ?_ _ | refine Ext.trans ?_ (by assumption))))).mono ?_
  rintro e w1 ⟨rfl, hx1⟩
  have hmx : Tryd.prog.follows .mixedOrders = true := by kernel_rfl
  have b3 : Boxed w1 w.heap.size 32 (.slice a n cap) := (Below.block hx1.bel _ (by simp; try omega)).trans ((Below.heap_alloc _ _ _ (by simp; try omega)).trans ((Below.heap_alloc _ _ _ (by simp)).trans (World.alloc_heap_new w _)))
  have b4 : Boxed w1 (w.heap.size + 1) 27 (.slice am k capm) := (Below.block hx1.bel _ (by simp; try omega)).trans ((Below.heap_alloc _ _ _ (by simp)).trans (by have := World.alloc_heap_new (w.alloc (.cells #[.slice a n cap] 32)) (.cells #[.slice am k capm] 27); rwa [World.size_alloc] at this))
  have b6 : w1.heap[w.heap.size + 1 + 1]? = some (.cells #[.slice none 0 0, .slice none 0 0, .slice none 0 0] 114 (0, 0)) := (Below.block hx1.bel _ (by simp)).trans (by
    have := World.alloc_heap_new ((w.alloc (.cells #[.slice a n cap] 32)).alloc (.cells #[.slice am k capm] 27)) (.cells #[.slice none 0 0, .slice none 0 0, .slice none 0 0] 114)
    rwa [World.size_alloc, World.size_alloc] at this)
  have hz1 : w.heap.size + 3 ≤ w1.heap.size := by have := (Array.getElem?_eq_some_iff.1 b6).1; omega
  have hxw1 : Ext w w1 := (by repeat (first | exact Ext.refl _ | assumption | refine Ext.drew ?_ | refine Ext.drewN ?_ _ | refine Ext.alloc ?_ _ | refine Ext.trans ?_ (by assumption)))
  clear hx1
  replace hcc := Lib.hid hcc
  have c3 := b3.cell
  have c4 := b4.cell
  have l3 := b3.lt
  have l4 := b4.lt
  gi_wp2
  gi_region
  all_goals gi_wp2
  · have fG : ((w1.alloc (.cells (zRows n) 120)).alloc (.cells #[.slice a n cap, .slice am k capm, .slice (some ⟨w1.heap.size, 0, none⟩) n n] 114)).drew.heap[w1.heap.size]? = some (.cells (zRows n) 120 (0, 0)) := (Below.heap_alloc _ _ _ (by simp)).trans (World.alloc_heap_new w1 _)
    have fP : BoxP ((w1.alloc (.cells (zRows n) 120)).alloc (.cells #[.slice a n cap, .slice am k capm, .slice (some ⟨w1.heap.size, 0, none⟩) n n] 114)).drew (w1.heap.size + 1) a n cap am k capm w1.heap.size := by
      have := World.alloc_heap_new (w1.alloc (.cells (zRows n) 120)) (.cells #[.slice a n cap, .slice am k capm, .slice (some ⟨w1.heap.size, 0, none⟩) n n] 114)
      rwa [World.size_alloc] at this
    have fx : Ext w1 ((w1.alloc (.cells (zRows n) 120)).alloc (.cells #[.slice a n cap, .slice am k capm, .slice (some ⟨w1.heap.size, 0, none⟩) n n] 114)).drew := (by repeat (first | exact Ext.refl _ | assumption | refine Ext.drew ?_ | refine Ext.drewN ?_ _ | refine Ext.alloc ?_ _ | refine Ext.trans ?_ (by assumption)))
    generalize ((w1.alloc (.cells (zRows n) 120)).alloc (.cells #[.slice a n cap, .slice am k capm, .slice (some ⟨w1.heap.size, 0, none⟩) n n] 114)).drew = wz at *
    obtain ⟨BP, hBP⟩ : ∃ x, x = w1.heap.size + 1 := ⟨_, rfl⟩
    rw [← hBP] at fP ⊢
    obtain ⟨G, hG⟩ : ∃ x, x = w1.heap.size := ⟨_, rfl⟩
    rw [← hG] at fP fG ⊢
    have hG1 : w1.heap.size ≤ G := by omega
    have hB1 : w1.heap.size ≤ BP := by omega
    have hGB : G ≠ BP := by omega
    clear hBP hG
    have hSV0 : SV w1 BP G a n cap am k capm (fun _ _ => 0) wz := ⟨fx, fP, ⟨_, fG, fun v s hv hs => zRows_at _ _ (by omega)⟩⟩
    clear fx fP fG
    refine ⟨trivial, ?_⟩
    gi_at_call 25
    refine (callsIn_wide.2 (hcall _ (hxw1.trans hSV0.ext))).mono ?_
    rintro e w5 ⟨lv, rfl, hown, hx5⟩
    have hSV1 := hSV0.more hx5
    obtain ⟨al, nl, cl, hnl2, rfl, hrl⟩ := OwnK.rdn I64.len hown
    have hnl3 : nl ≤ 63 := by rw [hnl2]; have := leafTo_len ts ts.length; unfold leafL; omega
    have hlnl : l = nl := by rw [hnl2]; omega
    have hGz : G < wz.heap.size := hSV0.tab.lt
    clear hSV0 hrl
    obtain ⟨L, hL⟩ : ∃ L, L = leafL ts := ⟨_, rfl⟩
    have hLat : ∀ (i : Nat) (v : Int), L[i]? = some v → ∃ u : Nat, v = (u : Int) ∧ u < n := fun i v h => by rw [hL] at h; rw [← hnl]; exact leafL_at h
    have hfin0 : ∀ u s, initF L st nl u s = accS ts ms st 0 u s := fun u s => by
      rw [accS_zero]; unfold initF
      rw [List.take_of_length_le (by rw [hL]; omega), List.take_of_length_le (by rw [hll]; omega), hL]
    rw [← hL] at hown hnl2
    clear hL hcall
    have hs1 := hs.ext hxw1
    replace hnl := Lib.hid hnl
    replace hkl := Lib.hid hkl
    replace hll := Lib.hid hll
    replace hnl2 := Lib.hid hnl2
    replace hlnl := Lib.hid hlnl
    replace hstl := Lib.hid hstl
    replace hfin0 := Lib.hid hfin0
    have c3' := hSV1.ext.cellv c3
    gi_wp2
    gi_loopw [41] (fun i wr => ∃ j : Nat, j ≤ nl ∧ i = .int .i64 j ∧ SV w1 BP G a n cap am k capm (initF L st j) wr ∧ OwnI wz.heap.size 3 wr (.slice al nl cl) L) (fun i _ => nl - (intOf i).toNat)
    case atStart => exact ⟨0, Nat.zero_le _, rfl, hSV1.congr (fun u s _ _ => by simp [initF, okS]), hown⟩
    case round =>
      obtain ⟨j, hj, rfl, hSV, hO⟩ := hrel
      by_cases hlt : j < nl
      · obtain ⟨b5, off5, v, rfl, hv, hb5, hc5⟩ := (OwnK.rd' I64.len hO).i64 hlt
        obtain ⟨u, rfl, hu⟩ := hLat _ _ hv.out
        obtain ⟨bt, offt, t, rfl, htt, hbt, hct1⟩ := hs1.i64 (show j < l by rw [hlnl.out]; exact hlt)
        have hm4 := hSV.ext.cellv c4
        have hjl : j < l := by rw [hlnl.out]; exact hlt
        gi_wp2
        gi_loopw [48] (fun i wr => ∃ s : Nat, s ≤ k ∧ i = .int .i64 s ∧ SV w1 BP G a n cap am k capm (fun u x => if x < s then initF L st (j + 1) u x else initF L st j u x) wr ∧ OwnI wz.heap.size 3 wr (.slice (some ⟨b5, off5, none⟩) nl cl) L) (fun i _ => k - (intOf i).toNat)
        case atStart => exact ⟨0, Nat.zero_le _, rfl, hSV.congr (fun u s _ _ => by simp), hO⟩
        case round =>
          obtain ⟨s, hsk, rfl, hSV2, hO2⟩ := hrel
          by_cases hlts : s < k
          · have hct := hSV2.ext.cellv hct1
            have hs12 : s < 12 := by omega
            by_cases ht1 : t = -1
            · have hd1 : (t != -1) = false := by simpa using ht1
              have hnew := hSV2.congr (f' := fun u x => if x < s + 1 then initF L st (j + 1) u x else initF L st j u x) (fun u' x hu' hx' => by
                show (if x < s then _ else _) = (if x < s + 1 then _ else _)
                by_cases e : x = s
                · rw [if_neg (by omega), if_pos (by omega)]; exact (initF_same hv.out htt.out (.inr (.inl ht1))).symm
                · by_cases e2 : x < s
                  · rw [if_pos e2, if_pos (by omega)]
                  · rw [if_neg e2, if_neg (by omega)])
              replace ht1 := Lib.hid ht1
              gi_wp2
              (first | exact ⟨⟨s + 1, by omega, by go_num, hnew, hO2⟩, (by simp [intOf]; omega)⟩ | (go_roundw; case rel => exact ⟨s + 1, by omega, by go_num, hnew, hO2⟩; case measure => exact (by simp [intOf]; omega)))
            · have hd1 : (t != -1) = true := by simpa using ht1
              by_cases ht2 : t = (s : Int)
              · have hd2 : (t != (s : Int)) = false := by simpa using ht2
                have hnew := hSV2.congr (f' := fun u x => if x < s + 1 then initF L st (j + 1) u x else initF L st j u x) (fun u' x hu' hx' => by
                  show (if x < s then _ else _) = (if x < s + 1 then _ else _)
                  by_cases e : x = s
                  · rw [if_neg (by omega), if_pos (by omega)]; exact (initF_same hv.out htt.out (.inr (.inr (by rw [ht2, e])))).symm
                  · by_cases e2 : x < s
                    · rw [if_pos e2, if_pos (by omega)]
                    · rw [if_neg e2, if_neg (by omega)])
                replace ht2 := Lib.hid ht2
                gi_wp2
                (first | exact ⟨⟨s + 1, by omega, by go_num, hnew, hO2⟩, (by simp [intOf]; omega)⟩ | (go_roundw; case rel => exact ⟨s + 1, by omega, by go_num, hnew, hO2⟩; case measure => exact (by simp [intOf]; omega)))
              · have hd2 : (t != (s : Int)) = true := by simpa using ht2
                have hnew := (hSV2.set hG1 hGB hu hlts hk12 (-1)).congr (f' := fun u x => if x < s + 1 then initF L st (j + 1) u x else initF L st j u x) (fun u' x hu' hx' => by
                  show (if u' = u ∧ x = s then _ else (if x < s then _ else _)) = (if x < s + 1 then _ else _)
                  by_cases e : x = s
                  · rw [if_pos (show x < s + 1 by omega)]
                    by_cases eu : u' = u
                    · rw [if_pos ⟨eu, e⟩]; exact (initF_bad hv.out htt.out (by rw [eu]) ht1 (by rw [e]; exact ht2)).symm
                    · rw [if_neg (fun h => eu h.1), if_neg (by omega)]; exact (initF_same hv.out htt.out (.inl (by omega))).symm
                  · rw [if_neg (fun h => e h.2)]
                    by_cases e2 : x < s
                    · rw [if_pos e2, if_pos (by omega)]
                    · rw [if_neg e2, if_neg (by omega)])
                have hO3 := OwnK.other hO2 (grown_set wr G (u * 12 + s) (.int .i64 (-1))) (fun g e => by cases e; obtain ⟨cur, hb, _⟩ := hSV2.tab; exact ⟨cur, _, hb⟩) (show 3 ≠ 120 by decide)
                obtain ⟨_, _, hbx2, hbx3⟩ := hSV2.box.at
                have hcG := hSV2.tab.rd.cell u s hu hlts
                have hfG := hSV2.tab.free (u * 12 + s)
                gi_wp2
                (first | exact ⟨⟨s + 1, by omega, by go_num, hnew, hO3⟩, (by simp [intOf]; omega)⟩ | (go_roundw; case rel => exact ⟨s + 1, by omega, by go_num, hnew, hO3⟩; case measure => exact (by simp [intOf]; omega)))
          · have hnew := hSV2.congr (f' := initF L st (j + 1)) (fun u' x hu' hx' => by
              show (if x < s then _ else _) = _
              rw [if_pos (by omega)])
            gi_wp2
            (first | exact ⟨⟨j + 1, by omega, by go_num, hnew, hO2⟩, (by simp [intOf]; omega)⟩ | (go_roundw; case rel => exact ⟨j + 1, by omega, by go_num, hnew, hO2⟩; case measure => exact (by simp [intOf]; omega)))
      · have hjn : j = nl := by omega
        rw [hjn] at hSV
        have hSV6 := hSV.congr (f' := accS ts ms st 0) (fun u s _ _ => hfin0.out u s)
        have hm3 := hSV6.ext.cellv c3
        clear hSV hO
        gi_wp2
        refine ⟨trivial, ?_⟩
        gi_at_call 132
        refine (backwards_in _ _ _ _ _).mono ?_
        rintro e w6 ⟨rfl, hw6⟩
        have bX : Boxed w6 wr.heap.size 32 (.slice a n cap) := by rw [hw6]; exact Boxed.new _ _ _
        have hSV7 := hSV6.more (show Ext wr w6 by rw [hw6]; exact Ext.alloc1 _ _)
        have hz6 : w6.heap.size = wr.heap.size + 1 := by rw [hw6]; simp
        have hGw : G < wr.heap.size := hSV6.tab.lt
        have hBw : BP < wr.heap.size := hSV6.box.at.2.2.2
        have h1w := hSV6.ext.le
        clear hw6 hSV6 hm3
        gi_wp2
        generalize wr.heap.size = Bx at *
        replace hz6 := Lib.hid hz6
        refine wpIn_range_own3 rfl h1 (gf := 141) (lb := #[.pointer (some ⟨Bx, 0, none⟩)]) rfl trivial (enters_of Tryd.func141 (by kernel_rfl) rfl)
          (encs := encV) (fun _ => rfl) (fun _ => False) (fun r hr => hr.elim) (backL n)
          (fun pre W => (pre.length + 1 ≤ n ∧ SV w1 BP G a n cap am k capm (accS ts ms st pre.length) W) ∧ Boxed W Bx 32 (.slice a n cap))
          (fun s X Y row hs hg hr => by
            have h6 := hz6.out
            have hro : ∀ r, row = some r → w6.heap.size ≤ r := fun r e => by
              rcases hr r e with h | h
              · exact h.elim
              · exact h.1
            exact ⟨⟨hs.1.1, hs.1.2.grown hg (fun r e => by have := hro r e; omega)⟩, hs.2.kept hg (fun e => by have := hro _ e.symm; omega)⟩)
          ⟨⟨by simpa using hn1, hSV7⟩, bX⟩
          (fun c _ W => c = .exit 4 ∧ SV w1 BP G a n cap am k capm (accS ts ms st (n - 1)) W)
          (fun c s X Y row hs hg hr => by
            have h6 := hz6.out
            have hro : ∀ r, row = some r → w6.heap.size ≤ r := fun r e => by
              rcases hr r e with h | h
              · exact h.elim
              · exact h.1
            exact ⟨hs.1, hs.2.grown hg (fun r e => by have := hro r e; omega)⟩)
          (fun lp J Jx W hB hJ0 hJ hJx hI hY => back1_in 8 lp Bx (by omega) a n cap hn63 J Jx (fun s X hs => (hI s X hs).2.cell)
            (fun pre y X hp hpre => (hY pre y X hp hpre).mono (fun e Y h => h.elim (fun h => .inl ⟨h.1, h.2.1⟩) (fun h => .inr h))) W hJ0)
          (fun v t => (t.setIfInBounds 74 (.int .i64 v)).setIfInBounds 15 (.int .i64 v)) ?assign ?body ?done ?stop
        case assign =>
          intro lp x W K hK
          gi_wp2
          exact hK
        case body =>
          rintro lp pre v W ⟨⟨hpl, hSV8⟩, hX⟩ hpre
          obtain ⟨hlt8, hv8⟩ := backL_pre hpre
          have hvn : v < n := by omega
          have hlen2 : (pre ++ [v]).length = n - v := by rw [List.length_append, List.length_singleton]; omega
          have hj8 : pre.length = n - 1 - v := by omega
          rw [hj8] at hSV8
          by_cases hv0 : v = 0
          · have hd0 : ((v : Int) == 0) = true := by simp; omega
            have hfin8 : SV w1 BP G a n cap am k capm (accS ts ms st (n - 1)) W := by rw [hv0] at hSV8; exact hSV8
            replace hv0 := Lib.hid hv0
            replace hv8 := Lib.hid hv8
            replace hj8 := Lib.hid hj8
            replace hlen2 := Lib.hid hlen2
            clear hSV8
            gi_wp2
            exact ⟨KeepsFrom.refl _ _, rfl, hfin8⟩
          · have hd0 : ((v : Int) == 0) = false := by simp; omega
            obtain ⟨bn, offn, x, rfl, hxx, hbn, hcn0, hcn1, _⟩ := (hr.ext (hxw1.trans hSV8.ext)).nd hvn
            have hpB := tree_par ht (v := v) (by rw [hnl.out]; exact hvn)
            have hpF := parF_at hxx.out
            rw [hpF] at hpB
            unfold parB at hpB
            rw [if_neg hv0, Bool.and_eq_true, decide_eq_true_eq, decide_eq_true_eq] at hpB
            obtain ⟨p, hp⟩ : ∃ p : Nat, x.par = (p : Int) := ⟨x.par.toNat, by omega⟩
            rw [hp] at hpB hpF hcn0
            have hpv : p < v := by omega
            have hm3 := hSV8.ext.cellv c3
            have hm4 := hSV8.ext.cellv c4
            clear hpB hcn1
            replace hlen2 := Lib.hid hlen2
            replace hj8 := Lib.hid hj8
            replace hv8 := Lib.hid hv8
            replace hpF := Lib.hid hpF
            replace hp := Lib.hid hp
            gi_wp2
            gi_loopw [84] (fun i wq => ∃ s : Nat, s ≤ k ∧ i = .int .i64 s ∧ SV w1 BP G (some ⟨bn, offn, none⟩) n cap am k capm (fun u x => if u = p ∧ x < s then accS ts ms st (n - v) u x else accS ts ms st (n - 1 - v) u x) wq ∧ Boxed wq Bx 32 (.slice (some ⟨bn, offn, none⟩) n cap) ∧ KeepsFrom w6.heap.size W wq) (fun i _ => k - (intOf i).toNat)
            case atStart => exact ⟨0, Nat.zero_le _, rfl, hSV8.congr (fun u s _ _ => by show _ = (if u = p ∧ s < 0 then _ else _); rw [if_neg (by omega)]), hX, KeepsFrom.refl _ _⟩
            case round =>
              obtain ⟨s, hsk, rfl, hSVs, hXs, hKs⟩ := hrel
              by_cases hlts : s < k
              · have hs12 : s < 12 := by omega
                have hFok : CostOk n k (fun u x => if u = p ∧ x < s then accS ts ms st (n - v) u x else accS ts ms st (n - 1 - v) u x) := fun u x hu hx => by
                  show -1 ≤ (if u = p ∧ x < s then _ else _) ∧ (if u = p ∧ x < s then _ else _) ≤ _
                  split
                  · have := accS_bd (st := st) ht hmb (j := n - v) (u := u) (s := x) (by rw [hnl.out]; omega) (by rw [hnl.out]; omega) (by rw [hkl.out]; omega); omega
                  · have := accS_bd (st := st) ht hmb (j := n - 1 - v) (u := u) (s := x) (by rw [hnl.out]; omega) (by rw [hnl.out]; omega) (by rw [hkl.out]; omega); omega
                have hq := least_any (some ⟨bn, offn, none⟩) n cap am k capm G ms _ v s wr (hm.ext (hxw1.trans hSVs.ext)) hmb hSVs.tab.rd hFok hvn hlts
                have hcong : bstF (fun b => op (ent ms s b) (if v = p ∧ b < s then accS ts ms st (n - v) v b else accS ts ms st (n - 1 - v) v b)) k = bstF (fun b => op (ent ms s b) (accS ts ms st (n - 1 - v) v b)) k := bstF_congr k fun b hb => by rw [if_neg (by omega)]
                replace hq := hq.mono (R' := fun e w' => e = .returned (.tuple #[.int .i64 (bstF (fun b => op (ent ms s b) (accS ts ms st (n - 1 - v) v b)) k).1, .int .i64 (bstF (fun b => op (ent ms s b) (accS ts ms st (n - 1 - v) v b)) k).2]) ∧ Ext wr w') (fun e w' h => ⟨by rw [← hcong]; exact h.1, h.2⟩)
                have hsuc := accS_succ (st := st) ht hmb (v := v) (u := p) (s := s) (by rw [hnl.out]; exact hvn) (by rw [hkl.out]; exact hlts)
                rw [if_pos hpF.out, hnl.out, hkl.out] at hsuc
                have hge := bstF_ge (c := fun b => op (ent ms s b) (accS ts ms st (n - 1 - v) v b)) k
                have hbd := accS_bd (st := st) ht hmb (j := n - v) (u := p) (s := s) (by rw [hnl.out]; omega) (by rw [hnl.out]; omega) (by rw [hkl.out]; omega)
                have hbd0 := accS_bd (st := st) ht hmb (j := n - 1 - v) (u := p) (s := s) (by rw [hnl.out]; omega) (by rw [hnl.out]; omega) (by rw [hkl.out]; omega)
                clear hFok hcong
                have hstep : ∀ z, z = accS ts ms st (n - v) p s → ∀ u' x, (if u' = p ∧ x = s then z else (if u' = p ∧ x < s then accS ts ms st (n - v) u' x else accS ts ms st (n - 1 - v) u' x)) = (if u' = p ∧ x < s + 1 then accS ts ms st (n - v) u' x else accS ts ms st (n - 1 - v) u' x) := fun z hz u' x => by
                  by_cases eu : u' = p
                  · by_cases ex : x = s
                    · rw [if_pos ⟨eu, ex⟩, if_pos ⟨eu, by omega⟩, hz, eu, ex]
                    · by_cases e2 : x < s
                      · rw [if_neg (fun h => ex h.2), if_pos ⟨eu, e2⟩, if_pos ⟨eu, by omega⟩]
                      · rw [if_neg (fun h => ex h.2), if_neg (fun h => e2 h.2), if_neg (by omega)]
                  · rw [if_neg (fun h => eu h.1), if_neg (fun h => eu h.1), if_neg (fun h => eu h.1)]
                generalize hq1 : (bstF (fun b => op (ent ms s b) (accS ts ms st (n - 1 - v) v b)) k).1 = q1 at *
                generalize (bstF (fun b => op (ent ms s b) (accS ts ms st (n - 1 - v) v b)) k).2 = q2 at *
                clear hq1
                obtain ⟨hbx0, hbx1, hbx2, hbx3⟩ := hSVs.box.at
                gi_wp2
                refine ⟨trivial, ?_⟩
                gi_at_call 88
                refine (callsIn_wide.2 hq).mono ?_
                rintro e w8 ⟨rfl, hx8⟩
                have hSVt := hSVs.more hx8
                have hXt := Boxed.ext hXs hx8
                have hKt := hKs.trans (keeps_ext (B := w6.heap.size) hx8)
                clear hSVs hXs hKs hbx0 hbx1 hbx2 hbx3 hq
                obtain ⟨hbx0, hbx1, hbx2, hbx3⟩ := hSVt.box.at
                have hcG := hSVt.tab.rd.cell p s (by omega) hlts
                rw [if_neg (by omega)] at hcG
                have hfG := hSVt.tab.free (p * 12 + s)
                have hGl := hSVt.tab.lt
                generalize accS ts ms st (n - 1 - v) p s = y at hsuc hcG hbd0
                have hm3 := hSVt.ext.cellv c3
                have hm4 := hSVt.ext.cellv c4
                have hX6 : ∀ z : Value, Boxed (w8.setCell ⟨G, p * 12 + s, none⟩ z) Bx 32 (.slice (some ⟨bn, offn, none⟩) n cap) := fun z => hXt.kept (grown_set w8 G (p * 12 + s) z) (fun e => by have := Option.some.inj e; omega)
                have hK6 : ∀ z : Value, KeepsFrom w6.heap.size W (w8.setCell ⟨G, p * 12 + s, none⟩ z) := fun z => hKt.trans (KeepsFrom.of_grownBy (grown_set w8 G (p * 12 + s) z) (fun j e => by cases e; have := hz6.out; omega))
                by_cases hc1 : q1 = -1
                · have hd1 : (q1 == -1) = true := by simpa using hc1
                  have hz : accS ts ms st (n - v) p s = -1 := by rw [hsuc]; exact op_neg (.inr (by omega))
                  have hnew := Lib.hid ((hSVt.set hG1 hGB (show p < n by omega) hlts hk12 (-1)).congr (f' := fun u x => if u = p ∧ x < s + 1 then accS ts ms st (n - v) u x else accS ts ms st (n - 1 - v) u x) (fun u' x _ _ => hstep (-1) hz.symm u' x))
                  have hX7 := Lib.hid (hX6 (.int .i64 (-1)))
                  have hK7 := Lib.hid (hK6 (.int .i64 (-1)))
                  replace hc1 := Lib.hid hc1
                  clear hz hsuc hstep hX6 hK6 hbd hbd0
                  gi_wp2
                  (first | exact ⟨⟨s + 1, by omega, by go_num, hnew.out, hX7.out, hK7.out⟩, (by simp [intOf]; omega)⟩ | (go_roundw; case rel => exact ⟨s + 1, by omega, by go_num, hnew.out, hX7.out, hK7.out⟩; case measure => exact (by simp [intOf]; omega)))
                · have hd1 : (q1 == -1) = false := by simpa using hc1
                  by_cases hc2 : y = -1
                  · have hd2 : (y == -1) = true := by simpa using hc2
                    have hz : accS ts ms st (n - v) p s = -1 := by rw [hsuc]; exact op_neg (.inl (by omega))
                    have hnew := Lib.hid ((hSVt.set hG1 hGB (show p < n by omega) hlts hk12 (-1)).congr (f' := fun u x => if u = p ∧ x < s + 1 then accS ts ms st (n - v) u x else accS ts ms st (n - 1 - v) u x) (fun u' x _ _ => hstep (-1) hz.symm u' x))
                    have hX7 := Lib.hid (hX6 (.int .i64 (-1)))
                    have hK7 := Lib.hid (hK6 (.int .i64 (-1)))
                    replace hc2 := Lib.hid hc2
                    clear hz hsuc hstep hX6 hK6 hbd hbd0
                    gi_wp2
                    (first | exact ⟨⟨s + 1, by omega, by go_num, hnew.out, hX7.out, hK7.out⟩, (by simp [intOf]; omega)⟩ | (go_roundw; case rel => exact ⟨s + 1, by omega, by go_num, hnew.out, hX7.out, hK7.out⟩; case measure => exact (by simp [intOf]; omega)))
                  · have hd2 : (y == -1) = false := by simpa using hc2
                    have hz : accS ts ms st (n - v) p s = y + q1 := by rw [hsuc]; exact op_pos (by omega) (by omega)
                    rw [hz] at hbd
                    have hwr : IntKind.i64.wrap (y + q1) = y + q1 := IntWalk.i64_in _ (by omega)
                    have hp1 := fun x : ExtOf w8 => x.cell hbx2
                    have hp2 := fun x : ExtOf w8 => x.cell hcG
                    clear hX6 hK6 hbd hbd0 hs1 hfin0 hLat hcc b6 hpre hX hsuc
                    gi_wp2
                    refine wpIn_region_qxt 11 (by kernel_rfl) (by kernel_rfl) (by kernel_rfl) (by rintro ⟨_, _, h⟩; exact h) ?_
                    simp only [List.take_succ_cons, List.take_zero, List.drop_succ_cons, List.drop_zero]
                    repeat (go_big_quiet_step (fail))
                    refine wpQuiet_nil ?_
                    intro wq hw'
                    have hxq := ext_of_ex hw'
                    clear hw' hp1 hp2
                    have hSVq := hSVt.more hxq
                    have hnew := Lib.hid ((hSVq.set hG1 hGB (show p < n by omega) hlts hk12 (y + q1)).congr (f' := fun u x => if u = p ∧ x < s + 1 then accS ts ms st (n - v) u x else accS ts ms st (n - 1 - v) u x) (fun u' x _ _ => hstep (y + q1) hz.symm u' x))
                    have hX7 : Hid (Boxed (wq.setCell ⟨G, p * 12 + s, none⟩ (.int .i64 (y + q1))) Bx 32 (.slice (some ⟨bn, offn, none⟩) n cap)) := (Boxed.ext hXt hxq).kept (grown_set wq G (p * 12 + s) _) (fun e => by have := Option.some.inj e; omega)
                    have hK7 : Hid (KeepsFrom w6.heap.size W (wq.setCell ⟨G, p * 12 + s, none⟩ (.int .i64 (y + q1)))) := (hKt.trans (keeps_ext (B := w6.heap.size) hxq)).trans (KeepsFrom.of_grownBy (grown_set wq G (p * 12 + s) _) (fun j e => by cases e; have := hz6.out; omega))
                    have hcq := hxq.cellv hcG
                    have hfq := (hxq.frozen (p * 12 + s) (cell_lt hcG)).trans hfG
                    clear hz hstep hSVq hSVt hXt hKt
                    go_wp2_with fail
                    gi_wp2
                    (first | exact ⟨⟨s + 1, by omega, by go_num, hnew.out, hX7.out, hK7.out⟩, (by simp [intOf]; omega)⟩ | (go_roundw; case rel => exact ⟨s + 1, by omega, by go_num, hnew.out, hX7.out, hK7.out⟩; case measure => exact (by simp [intOf]; omega)))
              · have hnew := hSVs.congr (f' := accS ts ms st (n - v)) (fun u' x hu' hx' => by
                  show (if u' = p ∧ x < s then _ else _) = _
                  by_cases eu : u' = p
                  · rw [if_pos ⟨eu, by omega⟩]
                  · rw [if_neg (fun h => eu h.1)]
                    have := accS_succ (st := st) ht hmb (v := v) (u := u') (s := x) (by rw [hnl.out]; exact hvn) (by rw [hkl.out]; omega)
                    rw [if_neg (fun h => eu (by rw [hpF.out] at h; omega)), hnl.out] at this
                    exact this.symm)
                gi_wp2
                exact ⟨hKs, fun r h => h.elim, ⟨by rw [hlen2.out]; omega, by rw [hlen2.out]; exact hnew⟩, hXs⟩
        case done =>
          rintro D W hD ⟨⟨hpl, _⟩, _⟩ hK
          rw [backL_len] at hpl; omega
        case stop =>
          rintro D c pre W hD ⟨rfl, hSV9⟩ hK
          obtain ⟨hbx0, hbx1, hbx2, hbx3⟩ := hSV9.box.at
          have hb6 := (Below.block hSV9.ext.bel (w.heap.size + 1 + 1) (by omega)).trans b6
          obtain ⟨hf0, hf1, hf2⟩ := frz3 hb6
          have hg0 : W.cell? ⟨w.heap.size + 1 + 1, 0, none⟩ = some (.slice none 0 0) := by simp only [World.cell?]; rw [hb6]; rfl
          have hg1 : W.cell? ⟨w.heap.size + 1 + 1, 1, none⟩ = some (.slice none 0 0) := by simp only [World.cell?]; rw [hb6]; rfl
          have hg2 : W.cell? ⟨w.heap.size + 1 + 1, 2, none⟩ = some (.slice none 0 0) := by simp only [World.cell?]; rw [hb6]; rfl
          gi_wp2
          have hGne : G ≠ w.heap.size + 1 + 1 := by omega
          have hDne : D ≠ w.heap.size + 1 + 1 := by have := hz6.out; omega
          have hDG : G ≠ D := by have := hz6.out; omega
          have hwD : w.heap.size ≤ D := by have := hz6.out; omega
          have h3 : ∀ (j : Nat) (z0 z1 z2 : Value), j ≠ w.heap.size + 1 + 1 → (((W.setCell ⟨w.heap.size + 1 + 1, 0, none⟩ z0).setCell ⟨w.heap.size + 1 + 1, 1, none⟩ z1).setCell ⟨w.heap.size + 1 + 1, 2, none⟩ z2).heap[j]? = W.heap[j]? := fun j z0 z1 z2 hj => by
            rw [heap_other _ _ hj, heap_other _ _ hj, heap_other _ _ hj]
          refine ⟨by simp, .inl ⟨_, _, rfl, run_takeDeferred ((h3 D _ _ _ hDne).trans hK), ?_⟩⟩
          refine ⟨_, res_cell rfl _ _ (w.heap.size + 1 + 1) _ _ (0, 0) _ rfl ((World.putObj_heap_other (Ne.symm hDne)).trans (heap_set (heap_set (heap_set hb6 _) _) _)) Tryd.underlying114 rfl (by kernel_rfl), ?_⟩
          refine ⟨⟨G, rfl, by omega, (hSV9.tab.same ((World.putObj_heap_other hDG).trans (h3 G _ _ _ hGne))).rd⟩, ?_⟩
          exact ⟨((((hxw1.trans hSV9.ext).setCell (p := ⟨w.heap.size + 1 + 1, 0, none⟩) (by simp; omega) _).setCell (p := ⟨w.heap.size + 1 + 1, 1, none⟩) (by simp; omega) _).setCell (p := ⟨w.heap.size + 1 + 1, 2, none⟩) (by simp; omega) _).bel.trans (belowK_b (w := w) (Nat.le_refl _) _ D _ _ hwD ((h3 D _ _ _ hDne).trans hK) rfl rfl)⟩
  · have fP : BoxP ((w1.alloc (.cells #[.slice a n cap, .slice am k capm, .slice (some ⟨w1.heap.size + 1, 0, none⟩) n n] 114)).alloc (.cells (zRows n) 120)).drew w1.heap.size a n cap am k capm (w1.heap.size + 1) := (Below.heap_alloc _ _ _ (by simp)).trans (World.alloc_heap_new w1 _)
    have fG : ((w1.alloc (.cells #[.slice a n cap, .slice am k capm, .slice (some ⟨w1.heap.size + 1, 0, none⟩) n n] 114)).alloc (.cells (zRows n) 120)).drew.heap[w1.heap.size + 1]? = some (.cells (zRows n) 120 (0, 0)) := by
      have := World.alloc_heap_new (w1.alloc (.cells #[.slice a n cap, .slice am k capm, .slice (some ⟨w1.heap.size + 1, 0, none⟩) n n] 114)) (.cells (zRows n) 120)
      rwa [World.size_alloc] at this
    have fx : Ext w1 ((w1.alloc (.cells #[.slice a n cap, .slice am k capm, .slice (some ⟨w1.heap.size + 1, 0, none⟩) n n] 114)).alloc (.cells (zRows n) 120)).drew := (by repeat (first | exact Ext.refl _ | assumption | refine Ext.drew ?_ | refine Ext.drewN ?_ _ | refine Ext.alloc ?_ _ | refine Ext.trans ?_ (by assumption)))
    generalize ((w1.alloc (.cells #[.slice a n cap, .slice am k capm, .slice (some ⟨w1.heap.size + 1, 0, none⟩) n n] 114)).alloc (.cells (zRows n) 120)).drew = wz at *
    obtain ⟨G, hG⟩ : ∃ x, x = w1.heap.size + 1 := ⟨_, rfl⟩
    rw [← hG] at fP fG ⊢
    obtain ⟨BP, hBP⟩ : ∃ x, x = w1.heap.size := ⟨_, rfl⟩
    rw [← hBP] at fP ⊢
    have hG1 : w1.heap.size ≤ G := by omega
    have hB1 : w1.heap.size ≤ BP := by omega
    have hGB : G ≠ BP := by omega
    clear hBP hG
    have hSV0 : SV w1 BP G a n cap am k capm (fun _ _ => 0) wz := ⟨fx, fP, ⟨_, fG, fun v s hv hs => zRows_at _ _ (by omega)⟩⟩
    clear fx fP fG
    refine ⟨trivial, ?_⟩
    gi_at_call 25
    refine (callsIn_wide.2 (hcall _ (hxw1.trans hSV0.ext))).mono ?_
    rintro e w5 ⟨lv, rfl, hown, hx5⟩
    have hSV1 := hSV0.more hx5
    obtain ⟨al, nl, cl, hnl2, rfl, hrl⟩ := OwnK.rdn I64.len hown
    have hnl3 : nl ≤ 63 := by rw [hnl2]; have := leafTo_len ts ts.length; unfold leafL; omega
    have hlnl : l = nl := by rw [hnl2]; omega
    have hGz : G < wz.heap.size := hSV0.tab.lt
    clear hSV0 hrl
    obtain ⟨L, hL⟩ : ∃ L, L = leafL ts := ⟨_, rfl⟩
    have hLat : ∀ (i : Nat) (v : Int), L[i]? = some v → ∃ u : Nat, v = (u : Int) ∧ u < n := fun i v h => by rw [hL] at h; rw [← hnl]; exact leafL_at h
    have hfin0 : ∀ u s, initF L st nl u s = accS ts ms st 0 u s := fun u s => by
      rw [accS_zero]; unfold initF
      rw [List.take_of_length_le (by rw [hL]; omega), List.take_of_length_le (by rw [hll]; omega), hL]
    rw [← hL] at hown hnl2
    clear hL hcall
    have hs1 := hs.ext hxw1
    replace hnl := Lib.hid hnl
    replace hkl := Lib.hid hkl
    replace hll := Lib.hid hll
    replace hnl2 := Lib.hid hnl2
    replace hlnl := Lib.hid hlnl
    replace hstl := Lib.hid hstl
    replace hfin0 := Lib.hid hfin0
    have c3' := hSV1.ext.cellv c3
    gi_wp2
    gi_loopw [41] (fun i wr => ∃ j : Nat, j ≤ nl ∧ i = .int .i64 j ∧ SV w1 BP G a n cap am k capm (initF L st j) wr ∧ OwnI wz.heap.size 3 wr (.slice al nl cl) L) (fun i _ => nl - (intOf i).toNat)
    case atStart => exact ⟨0, Nat.zero_le _, rfl, hSV1.congr (fun u s _ _ => by simp [initF, okS]), hown⟩
    case round =>
      obtain ⟨j, hj, rfl, hSV, hO⟩ := hrel
      by_cases hlt : j < nl
      · obtain ⟨b5, off5, v, rfl, hv, hb5, hc5⟩ := (OwnK.rd' I64.len hO).i64 hlt
        obtain ⟨u, rfl, hu⟩ := hLat _ _ hv.out
        obtain ⟨bt, offt, t, rfl, htt, hbt, hct1⟩ := hs1.i64 (show j < l by rw [hlnl.out]; exact hlt)
        have hm4 := hSV.ext.cellv c4
        have hjl : j < l := by rw [hlnl.out]; exact hlt
        gi_wp2
        gi_loopw [48] (fun i wr => ∃ s : Nat, s ≤ k ∧ i = .int .i64 s ∧ SV w1 BP G a n cap am k capm (fun u x => if x < s then initF L st (j + 1) u x else initF L st j u x) wr ∧ OwnI wz.heap.size 3 wr (.slice (some ⟨b5, off5, none⟩) nl cl) L) (fun i _ => k - (intOf i).toNat)
        case atStart => exact ⟨0, Nat.zero_le _, rfl, hSV.congr (fun u s _ _ => by simp), hO⟩
        case round =>
          obtain ⟨s, hsk, rfl, hSV2, hO2⟩ := hrel
          by_cases hlts : s < k
          · have hct := hSV2.ext.cellv hct1
            have hs12 : s < 12 := by omega
            by_cases ht1 : t = -1
            · have hd1 : (t != -1) = false := by simpa using ht1
              have hnew := hSV2.congr (f' := fun u x => if x < s + 1 then initF L st (j + 1) u x else initF L st j u x) (fun u' x hu' hx' => by
                show (if x < s then _ else _) = (if x < s + 1 then _ else _)
                by_cases e : x = s
                · rw [if_neg (by omega), if_pos (by omega)]; exact (initF_same hv.out htt.out (.inr (.inl ht1))).symm
                · by_cases e2 : x < s
                  · rw [if_pos e2, if_pos (by omega)]
                  · rw [if_neg e2, if_neg (by omega)])
              replace ht1 := Lib.hid ht1
              gi_wp2
              (first | exact ⟨⟨s + 1, by omega, by go_num, hnew, hO2⟩, (by simp [intOf]; omega)⟩ | (go_roundw; case rel => exact ⟨s + 1, by omega, by go_num, hnew, hO2⟩; case measure => exact (by simp [intOf]; omega)))
            · have hd1 : (t != -1) = true := by simpa using ht1
              by_cases ht2 : t = (s : Int)
              · have hd2 : (t != (s : Int)) = false := by simpa using ht2
                have hnew := hSV2.congr (f' := fun u x => if x < s + 1 then initF L st (j + 1) u x else initF L st j u x) (fun u' x hu' hx' => by
                  show (if x < s then _ else _) = (if x < s + 1 then _ else _)
                  by_cases e : x = s
                  · rw [if_neg (by omega), if_pos (by omega)]; exact (initF_same hv.out htt.out (.inr (.inr (by rw [ht2, e])))).symm
                  · by_cases e2 : x < s
                    · rw [if_pos e2, if_pos (by omega)]
                    · rw [if_neg e2, if_neg (by omega)])
                replace ht2 := Lib.hid ht2
                gi_wp2
                (first | exact ⟨⟨s + 1, by omega, by go_num, hnew, hO2⟩, (by simp [intOf]; omega)⟩ | (go_roundw; case rel => exact ⟨s + 1, by omega, by go_num, hnew, hO2⟩; case measure => exact (by simp [intOf]; omega)))
              · have hd2 : (t != (s : Int)) = true := by simpa using ht2
                have hnew := (hSV2.set hG1 hGB hu hlts hk12 (-1)).congr (f' := fun u x => if x < s + 1 then initF L st (j + 1) u x else initF L st j u x) (fun u' x hu' hx' => by
                  show (if u' = u ∧ x = s then _ else (if x < s then _ else _)) = (if x < s + 1 then _ else _)
                  by_cases e : x = s
                  · rw [if_pos (show x < s + 1 by omega)]
                    by_cases eu : u' = u
                    · rw [if_pos ⟨eu, e⟩]; exact (initF_bad hv.out htt.out (by rw [eu]) ht1 (by rw [e]; exact ht2)).symm
                    · rw [if_neg (fun h => eu h.1), if_neg (by omega)]; exact (initF_same hv.out htt.out (.inl (by omega))).symm
                  · rw [if_neg (fun h => e h.2)]
                    by_cases e2 : x < s
                    · rw [if_pos e2, if_pos (by omega)]
                    · rw [if_neg e2, if_neg (by omega)])
                have hO3 := OwnK.other hO2 (grown_set wr G (u * 12 + s) (.int .i64 (-1))) (fun g e => by cases e; obtain ⟨cur, hb, _⟩ := hSV2.tab; exact ⟨cur, _, hb⟩) (show 3 ≠ 120 by decide)
                obtain ⟨_, _, hbx2, hbx3⟩ := hSV2.box.at
                have hcG := hSV2.tab.rd.cell u s hu hlts
                have hfG := hSV2.tab.free (u * 12 + s)
                gi_wp2
                (first | exact ⟨⟨s + 1, by omega, by go_num, hnew, hO3⟩, (by simp [intOf]; omega)⟩ | (go_roundw; case rel => exact ⟨s + 1, by omega, by go_num, hnew, hO3⟩; case measure => exact (by simp [intOf]; omega)))
          · have hnew := hSV2.congr (f' := initF L st (j + 1)) (fun u' x hu' hx' => by
              show (if x < s then _ else _) = _
              rw [if_pos (by omega)])
            gi_wp2
            (first | exact ⟨⟨j + 1, by omega, by go_num, hnew, hO2⟩, (by simp [intOf]; omega)⟩ | (go_roundw; case rel => exact ⟨j + 1, by omega, by go_num, hnew, hO2⟩; case measure => exact (by simp [intOf]; omega)))
      · have hjn : j = nl := by omega
        rw [hjn] at hSV
        have hSV6 := hSV.congr (f' := accS ts ms st 0) (fun u s _ _ => hfin0.out u s)
        have hm3 := hSV6.ext.cellv c3
        clear hSV hO
        gi_wp2
        refine ⟨trivial, ?_⟩
        gi_at_call 132
        refine (backwards_in _ _ _ _ _).mono ?_
        rintro e w6 ⟨rfl, hw6⟩
        have bX : Boxed w6 wr.heap.size 32 (.slice a n cap) := by rw [hw6]; exact Boxed.new _ _ _
        have hSV7 := hSV6.more (show Ext wr w6 by rw [hw6]; exact Ext.alloc1 _ _)
        have hz6 : w6.heap.size = wr.heap.size + 1 := by rw [hw6]; simp
        have hGw : G < wr.heap.size := hSV6.tab.lt
        have hBw : BP < wr.heap.size := hSV6.box.at.2.2.2
        have h1w := hSV6.ext.le
        clear hw6 hSV6 hm3
        gi_wp2
        generalize wr.heap.size = Bx at *
        replace hz6 := Lib.hid hz6
        refine wpIn_range_own3 rfl h1 (gf := 141) (lb := #[.pointer (some ⟨Bx, 0, none⟩)]) rfl trivial (enters_of Tryd.func141 (by kernel_rfl) rfl)
          (encs := encV) (fun _ => rfl) (fun _ => False) (fun r hr => hr.elim) (backL n)
          (fun pre W => (pre.length + 1 ≤ n ∧ SV w1 BP G a n cap am k capm (accS ts ms st pre.length) W) ∧ Boxed W Bx 32 (.slice a n cap))
          (fun s X Y row hs hg hr => by
            have h6 := hz6.out
            have hro : ∀ r, row = some r → w6.heap.size ≤ r := fun r e => by
              rcases hr r e with h | h
              · exact h.elim
              · exact h.1
            exact ⟨⟨hs.1.1, hs.1.2.grown hg (fun r e => by have := hro r e; omega)⟩, hs.2.kept hg (fun e => by have := hro _ e.symm; omega)⟩)
          ⟨⟨by simpa using hn1, hSV7⟩, bX⟩
          (fun c _ W => c = .exit 4 ∧ SV w1 BP G a n cap am k capm (accS ts ms st (n - 1)) W)
          (fun c s X Y row hs hg hr => by
            have h6 := hz6.out
            have hro : ∀ r, row = some r → w6.heap.size ≤ r := fun r e => by
              rcases hr r e with h | h
              · exact h.elim
              · exact h.1
            exact ⟨hs.1, hs.2.grown hg (fun r e => by have := hro r e; omega)⟩)
          (fun lp J Jx W hB hJ0 hJ hJx hI hY => back1_in 8 lp Bx (by omega) a n cap hn63 J Jx (fun s X hs => (hI s X hs).2.cell)
            (fun pre y X hp hpre => (hY pre y X hp hpre).mono (fun e Y h => h.elim (fun h => .inl ⟨h.1, h.2.1⟩) (fun h => .inr h))) W hJ0)
          (fun v t => (t.setIfInBounds 74 (.int .i64 v)).setIfInBounds 15 (.int .i64 v)) ?assign ?body ?done ?stop
        case assign =>
          intro lp x W K hK
          gi_wp2
          exact hK
        case body =>
          rintro lp pre v W ⟨⟨hpl, hSV8⟩, hX⟩ hpre
          obtain ⟨hlt8, hv8⟩ := backL_pre hpre
          have hvn : v < n := by omega
          have hlen2 : (pre ++ [v]).length = n - v := by rw [List.length_append, List.length_singleton]; omega
          have hj8 : pre.length = n - 1 - v := by omega
          rw [hj8] at hSV8
          by_cases hv0 : v = 0
          · have hd0 : ((v : Int) == 0) = true := by simp; omega
            have hfin8 : SV w1 BP G a n cap am k capm (accS ts ms st (n - 1)) W := by rw [hv0] at hSV8; exact hSV8
            replace hv0 := Lib.hid hv0
            replace hv8 := Lib.hid hv8
            replace hj8 := Lib.hid hj8
            replace hlen2 := Lib.hid hlen2
            clear hSV8
            gi_wp2
            exact ⟨KeepsFrom.refl _ _, rfl, hfin8⟩
          · have hd0 : ((v : Int) == 0) = false := by simp; omega
            obtain ⟨bn, offn, x, rfl, hxx, hbn, hcn0, hcn1, _⟩ := (hr.ext (hxw1.trans hSV8.ext)).nd hvn
            have hpB := tree_par ht (v := v) (by rw [hnl.out]; exact hvn)
            have hpF := parF_at hxx.out
            rw [hpF] at hpB
            unfold parB at hpB
            rw [if_neg hv0, Bool.and_eq_true, decide_eq_true_eq, decide_eq_true_eq] at hpB
            obtain ⟨p, hp⟩ : ∃ p : Nat, x.par = (p : Int) := ⟨x.par.toNat, by omega⟩
            rw [hp] at hpB hpF hcn0
            have hpv : p < v := by omega
            have hm3 := hSV8.ext.cellv c3
            have hm4 := hSV8.ext.cellv c4
            clear hpB hcn1
            replace hlen2 := Lib.hid hlen2
            replace hj8 := Lib.hid hj8
            replace hv8 := Lib.hid hv8
            replace hpF := Lib.hid hpF
            replace hp := Lib.hid hp
            gi_wp2
            gi_loopw [84] (fun i wq => ∃ s : Nat, s ≤ k ∧ i = .int .i64 s ∧ SV w1 BP G (some ⟨bn, offn, none⟩) n cap am k capm (fun u x => if u = p ∧ x < s then accS ts ms st (n - v) u x else accS ts ms st (n - 1 - v) u x) wq ∧ Boxed wq Bx 32 (.slice (some ⟨bn, offn, none⟩) n cap) ∧ KeepsFrom w6.heap.size W wq) (fun i _ => k - (intOf i).toNat)
            case atStart => exact ⟨0, Nat.zero_le _, rfl, hSV8.congr (fun u s _ _ => by show _ = (if u = p ∧ s < 0 then _ else _); rw [if_neg (by omega)]), hX, KeepsFrom.refl _ _⟩
            case round =>
              obtain ⟨s, hsk, rfl, hSVs, hXs, hKs⟩ := hrel
              by_cases hlts : s < k
              · have hs12 : s < 12 := by omega
                have hFok : CostOk n k (fun u x => if u = p ∧ x < s then accS ts ms st (n - v) u x else accS ts ms st (n - 1 - v) u x) := fun u x hu hx => by
                  show -1 ≤ (if u = p ∧ x < s then _ else _) ∧ (if u = p ∧ x < s then _ else _) ≤ _
                  split
                  · have := accS_bd (st := st) ht hmb (j := n - v) (u := u) (s := x) (by rw [hnl.out]; omega) (by rw [hnl.out]; omega) (by rw [hkl.out]; omega); omega
                  · have := accS_bd (st := st) ht hmb (j := n - 1 - v) (u := u) (s := x) (by rw [hnl.out]; omega) (by rw [hnl.out]; omega) (by rw [hkl.out]; omega); omega
                have hq := least_any (some ⟨bn, offn, none⟩) n cap am k capm G ms _ v s wr (hm.ext (hxw1.trans hSVs.ext)) hmb hSVs.tab.rd hFok hvn hlts
                have hcong : bstF (fun b => op (ent ms s b) (if v = p ∧ b < s then accS ts ms st (n - v) v b else accS ts ms st (n - 1 - v) v b)) k = bstF (fun b => op (ent ms s b) (accS ts ms st (n - 1 - v) v b)) k := bstF_congr k fun b hb => by rw [if_neg (by omega)]
                replace hq := hq.mono (R' := fun e w' => e = .returned (.tuple #[.int .i64 (bstF (fun b => op (ent ms s b) (accS ts ms st (n - 1 - v) v b)) k).1, .int .i64 (bstF (fun b => op (ent ms s b) (accS ts ms st (n - 1 - v) v b)) k).2]) ∧ Ext wr w') (fun e w' h => ⟨by rw [← hcong]; exact h.1, h.2⟩)
                have hsuc := accS_succ (st := st) ht hmb (v := v) (u := p) (s := s) (by rw [hnl.out]; exact hvn) (by rw [hkl.out]; exact hlts)
                rw [if_pos hpF.out, hnl.out, hkl.out] at hsuc
                have hge := bstF_ge (c := fun b => op (ent ms s b) (accS ts ms st (n - 1 - v) v b)) k
                have hbd := accS_bd (st := st) ht hmb (j := n - v) (u := p) (s := s) (by rw [hnl.out]; omega) (by rw [hnl.out]; omega) (by rw [hkl.out]; omega)
                have hbd0 := accS_bd (st := st) ht hmb (j := n - 1 - v) (u := p) (s := s) (by rw [hnl.out]; omega) (by rw [hnl.out]; omega) (by rw [hkl.out]; omega)
                clear hFok hcong
                have hstep : ∀ z, z = accS ts ms st (n - v) p s → ∀ u' x, (if u' = p ∧ x = s then z else (if u' = p ∧ x < s then accS ts ms st (n - v) u' x else accS ts ms st (n - 1 - v) u' x)) = (if u' = p ∧ x < s + 1 then accS ts ms st (n - v) u' x else accS ts ms st (n - 1 - v) u' x) := fun z hz u' x => by
                  by_cases eu : u' = p
                  · by_cases ex : x = s
                    · rw [if_pos ⟨eu, ex⟩, if_pos ⟨eu, by omega⟩, hz, eu, ex]
                    · by_cases e2 : x < s
                      · rw [if_neg (fun h => ex h.2), if_pos ⟨eu, e2⟩, if_pos ⟨eu, by omega⟩]
                      · rw [if_neg (fun h => ex h.2), if_neg (fun h => e2 h.2), if_neg (by omega)]
                  · rw [if_neg (fun h => eu h.1), if_neg (fun h => eu h.1), if_neg (fun h => eu h.1)]
                generalize hq1 : (bstF (fun b => op (ent ms s b) (accS ts ms st (n - 1 - v) v b)) k).1 = q1 at *
                generalize (bstF (fun b => op (ent ms s b) (accS ts ms st (n - 1 - v) v b)) k).2 = q2 at *
                clear hq1
                obtain ⟨hbx0, hbx1, hbx2, hbx3⟩ := hSVs.box.at
                gi_wp2
                refine ⟨trivial, ?_⟩
                gi_at_call 88
                refine (callsIn_wide.2 hq).mono ?_
                rintro e w8 ⟨rfl, hx8⟩
                have hSVt := hSVs.more hx8
                have hXt := Boxed.ext hXs hx8
                have hKt := hKs.trans (keeps_ext (B := w6.heap.size) hx8)
                clear hSVs hXs hKs hbx0 hbx1 hbx2 hbx3 hq
                obtain ⟨hbx0, hbx1, hbx2, hbx3⟩ := hSVt.box.at
                have hcG := hSVt.tab.rd.cell p s (by omega) hlts
                rw [if_neg (by omega)] at hcG
                have hfG := hSVt.tab.free (p * 12 + s)
                have hGl := hSVt.tab.lt
                generalize accS ts ms st (n - 1 - v) p s = y at hsuc hcG hbd0
                have hm3 := hSVt.ext.cellv c3
                have hm4 := hSVt.ext.cellv c4
                have hX6 : ∀ z : Value, Boxed (w8.setCell ⟨G, p * 12 + s, none⟩ z) Bx 32 (.slice (some ⟨bn, offn, none⟩) n cap) := fun z => hXt.kept (grown_set w8 G (p * 12 + s) z) (fun e => by have := Option.some.inj e; omega)
                have hK6 : ∀ z : Value, KeepsFrom w6.heap.size W (w8.setCell ⟨G, p * 12 + s, none⟩ z) := fun z => hKt.trans (KeepsFrom.of_grownBy (grown_set w8 G (p * 12 + s) z) (fun j e => by cases e; have := hz6.out; omega))
                by_cases hc1 : q1 = -1
                · have hd1 : (q1 == -1) = true := by simpa using hc1
                  have hz : accS ts ms st (n - v) p s = -1 := by rw [hsuc]; exact op_neg (.inr (by omega))
                  have hnew := Lib.hid ((hSVt.set hG1 hGB (show p < n by omega) hlts hk12 (-1)).congr (f' := fun u x => if u = p ∧ x < s + 1 then accS ts ms st (n - v) u x else accS ts ms st (n - 1 - v) u x) (fun u' x _ _ => hstep (-1) hz.symm u' x))
                  have hX7 := Lib.hid (hX6 (.int .i64 (-1)))
                  have hK7 := Lib.hid (hK6 (.int .i64 (-1)))
                  replace hc1 := Lib.hid hc1
                  clear hz hsuc hstep hX6 hK6 hbd hbd0
                  gi_wp2
                  (first | exact ⟨⟨s + 1, by omega, by go_num, hnew.out, hX7.out, hK7.out⟩, (by simp [intOf]; omega)⟩ | (go_roundw; case rel => exact ⟨s + 1, by omega, by go_num, hnew.out, hX7.out, hK7.out⟩; case measure => exact (by simp [intOf]; omega)))
                · have hd1 : (q1 == -1) = false := by simpa using hc1
                  by_cases hc2 : y = -1
                  · have hd2 : (y == -1) = true := by simpa using hc2
                    have hz : accS ts ms st (n - v) p s = -1 := by rw [hsuc]; exact op_neg (.inl (by omega))
                    have hnew := Lib.hid ((hSVt.set hG1 hGB (show p < n by omega) hlts hk12 (-1)).congr (f' := fun u x => if u = p ∧ x < s + 1 then accS ts ms st (n - v) u x else accS ts ms st (n - 1 - v) u x) (fun u' x _ _ => hstep (-1) hz.symm u' x))
                    have hX7 := Lib.hid (hX6 (.int .i64 (-1)))
                    have hK7 := Lib.hid (hK6 (.int .i64 (-1)))
                    replace hc2 := Lib.hid hc2
                    clear hz hsuc hstep hX6 hK6 hbd hbd0
                    gi_wp2
                    (first | exact ⟨⟨s + 1, by omega, by go_num, hnew.out, hX7.out, hK7.out⟩, (by simp [intOf]; omega)⟩ | (go_roundw; case rel => exact ⟨s + 1, by omega, by go_num, hnew.out, hX7.out, hK7.out⟩; case measure => exact (by simp [intOf]; omega)))
                  · have hd2 : (y == -1) = false := by simpa using hc2
                    have hz : accS ts ms st (n - v) p s = y + q1 := by rw [hsuc]; exact op_pos (by omega) (by omega)
                    rw [hz] at hbd
                    have hwr : IntKind.i64.wrap (y + q1) = y + q1 := IntWalk.i64_in _ (by omega)
                    have hp1 := fun x : ExtOf w8 => x.cell hbx2
                    have hp2 := fun x : ExtOf w8 => x.cell hcG
                    clear hX6 hK6 hbd hbd0 hs1 hfin0 hLat hcc b6 hpre hX hsuc
                    gi_wp2
                    refine wpIn_region_qxt 11 (by kernel_rfl) (by kernel_rfl) (by kernel_rfl) (by rintro ⟨_, _, h⟩; exact h) ?_
                    simp only [List.take_succ_cons, List.take_zero, List.drop_succ_cons, List.drop_zero]
                    repeat (go_big_quiet_step (fail))
                    refine wpQuiet_nil ?_
                    intro wq hw'
                    have hxq := ext_of_ex hw'
                    clear hw' hp1 hp2
                    have hSVq := hSVt.more hxq
                    have hnew := Lib.hid ((hSVq.set hG1 hGB (show p < n by omega) hlts hk12 (y + q1)).congr (f' := fun u x => if u = p ∧ x < s + 1 then accS ts ms st (n - v) u x else accS ts ms st (n - 1 - v) u x) (fun u' x _ _ => hstep (y + q1) hz.symm u' x))
                    have hX7 : Hid (Boxed (wq.setCell ⟨G, p * 12 + s, none⟩ (.int .i64 (y + q1))) Bx 32 (.slice (some ⟨bn, offn, none⟩) n cap)) := (Boxed.ext hXt hxq).kept (grown_set wq G (p * 12 + s) _) (fun e => by have := Option.some.inj e; omega)
                    have hK7 : Hid (KeepsFrom w6.heap.size W (wq.setCell ⟨G, p * 12 + s, none⟩ (.int .i64 (y + q1)))) := (hKt.trans (keeps_ext (B := w6.heap.size) hxq)).trans (KeepsFrom.of_grownBy (grown_set wq G (p * 12 + s) _) (fun j e => by cases e; have := hz6.out; omega))
                    have hcq := hxq.cellv hcG
                    have hfq := (hxq.frozen (p * 12 + s) (cell_lt hcG)).trans hfG
                    clear hz hstep hSVq hSVt hXt hKt
                    go_wp2_with fail
                    gi_wp2
                    (first | exact ⟨⟨s + 1, by omega, by go_num, hnew.out, hX7.out, hK7.out⟩, (by simp [intOf]; omega)⟩ | (go_roundw; case rel => exact ⟨s + 1, by omega, by go_num, hnew.out, hX7.out, hK7.out⟩; case measure => exact (by simp [intOf]; omega)))
              · have hnew := hSVs.congr (f' := accS ts ms st (n - v)) (fun u' x hu' hx' => by
                  show (if u' = p ∧ x < s then _ else _) = _
                  by_cases eu : u' = p
                  · rw [if_pos ⟨eu, by omega⟩]
                  · rw [if_neg (fun h => eu h.1)]
                    have := accS_succ (st := st) ht hmb (v := v) (u := u') (s := x) (by rw [hnl.out]; exact hvn) (by rw [hkl.out]; omega)
                    rw [if_neg (fun h => eu (by rw [hpF.out] at h; omega)), hnl.out] at this
                    exact this.symm)
                gi_wp2
                exact ⟨hKs, fun r h => h.elim, ⟨by rw [hlen2.out]; omega, by rw [hlen2.out]; exact hnew⟩, hXs⟩
        case done =>
          rintro D W hD ⟨⟨hpl, _⟩, _⟩ hK
          rw [backL_len] at hpl; omega
        case stop =>
          rintro D c pre W hD ⟨rfl, hSV9⟩ hK
          obtain ⟨hbx0, hbx1, hbx2, hbx3⟩ := hSV9.box.at
          have hb6 := (Below.block hSV9.ext.bel (w.heap.size + 1 + 1) (by omega)).trans b6
          obtain ⟨hf0, hf1, hf2⟩ := frz3 hb6
          have hg0 : W.cell? ⟨w.heap.size + 1 + 1, 0, none⟩ = some (.slice none 0 0) := by simp only [World.cell?]; rw [hb6]; rfl
          have hg1 : W.cell? ⟨w.heap.size + 1 + 1, 1, none⟩ = some (.slice none 0 0) := by simp only [World.cell?]; rw [hb6]; rfl
          have hg2 : W.cell? ⟨w.heap.size + 1 + 1, 2, none⟩ = some (.slice none 0 0) := by simp only [World.cell?]; rw [hb6]; rfl
          gi_wp2
          have hGne : G ≠ w.heap.size + 1 + 1 := by omega
          have hDne : D ≠ w.heap.size + 1 + 1 := by have := hz6.out; omega
          have hDG : G ≠ D := by have := hz6.out; omega
          have hwD : w.heap.size ≤ D := by have := hz6.out; omega
          have h3 : ∀ (j : Nat) (z0 z1 z2 : Value), j ≠ w.heap.size + 1 + 1 → (((W.setCell ⟨w.heap.size + 1 + 1, 0, none⟩ z0).setCell ⟨w.heap.size + 1 + 1, 1, none⟩ z1).setCell ⟨w.heap.size + 1 + 1, 2, none⟩ z2).heap[j]? = W.heap[j]? := fun j z0 z1 z2 hj => by
            rw [heap_other _ _ hj, heap_other _ _ hj, heap_other _ _ hj]
          refine ⟨by simp, .inl ⟨_, _, rfl, run_takeDeferred ((h3 D _ _ _ hDne).trans hK), ?_⟩⟩
          refine ⟨_, res_cell rfl _ _ (w.heap.size + 1 + 1) _ _ (0, 0) _ rfl ((World.putObj_heap_other (Ne.symm hDne)).trans (heap_set (heap_set (heap_set hb6 _) _) _)) Tryd.underlying114 rfl (by kernel_rfl), ?_⟩
          refine ⟨⟨G, rfl, by omega, (hSV9.tab.same ((World.putObj_heap_other hDG).trans (h3 G _ _ _ hGne))).rd⟩, ?_⟩
          exact ⟨((((hxw1.trans hSV9.ext).setCell (p := ⟨w.heap.size + 1 + 1, 0, none⟩) (by simp; omega) _).setCell (p := ⟨w.heap.size + 1 + 1, 1, none⟩) (by simp; omega) _).setCell (p := ⟨w.heap.size + 1 + 1, 2, none⟩) (by simp; omega) _).bel.trans (belowK_b (w := w) (Nat.le_refl _) _ D _ _ hwD ((h3 D _ _ _ hDne).trans hK) rfl rfl)⟩
end Go.Proofs.YtdloabjnjnjacaaDoor
