/-
  corr.Only: its iterator.
-/
import Derived.Test.YtkdancoffmhjhaaKz4
import Derived.Test.YtkdancoffmhjhaaKt
import Derived.Test.YtkdancoffmhjhaaKq
namespace Go.Proofs.Ytkdancoffmhjhaa
open Go.RowKit Go.Shelf
theorem oper_bridge_wide {n : Nat} {P : Program} {Q : Exit → Act → World → Prop} {o : Oper} {a : Act} {w : World} {K K' : Act → World → Prop} (hK : ∀ a w, K a w → K' a w) (h : o.wp P a w K Q) : o.wpIn Fence.wide n P a w K' Q := by
  refine ⟨fun f _ => trivial, ?_⟩
  rw [show Fence.wide.round = none from rfl, Oper.semAt_none]
  unfold Oper.wp at h
  generalize (execOp a.eval o).run P w = r at *
  cases r with
  | ok x w' =>
    cases x with
    | value v => exact hK _ _ h
    | skip => exact hK _ _ h
    | «defer» d => exact hK _ _ h
    | enter f args =>
      refine ⟨(fun he => by cases he), ?_⟩
      refine CallsIn.mono (callsIn_wide.2 h) ?_
      intro e w'' he
      cases e with
      | returned v => exact hK _ _ he
      | panicked ch => exact he
      | outgrown => exact he
    | row row args =>
      refine ⟨(fun he => by cases he), fun c cs _ => ?_⟩
      obtain ⟨v, w'', hr, hs⟩ := h c cs
      exact ⟨v, w'', hK _ _ hr, stepsIn_wide.2 hs⟩
    | _ => exact h.elim
  | halt x w' =>
    cases x with
    | panic v => exact h
    | _ => exact h.elim
theorem list_bridge_wide {n : Nat} {P : Program} {ops : Array Oper} {Q : Exit → Act → World → Prop} (hLO : ¬ LetsOut Q) : ∀ (l : List Oper) (a : Act) (w : World),
    wpList P ops Q l a w → wpListIn Fence.wide n P ops Q l a w
  | [], _, _, h => h
  | o :: rest, a, w, h => by
    unfold wpList at h
    unfold wpListIn
    split
    · rename_i hw
      rw [if_pos hw] at h
      rcases h with h | h
      · exact oper_bridge_wide (fun a w => list_bridge_wide hLO rest a w) h
      · exact absurd h.2 hLO
    · rename_i hw
      rw [if_neg hw] at h
      exact ⟨fun _ _ => trivial, list_bridge_wide hLO rest _ _ h⟩
/-! ### What is known -/
def knwB (c : Cl) : Bool := decide (¬ c.kind = 0)
theorem only11_any (c : Cl) (w : World) : Calls Try.prog 61 #[clV c] w fun e w' => e = .returned (.bool (knwB c)) ∧ Ext w w' := by
  have hb : knwB c = (c.kind != 0) := by unfold knwB; rw [Bool.eq_iff_iff]; simp
  rw [hb]
  clear hb
  go_enter Try.func61, Try.ntmps61
  go_wp2_with fail
  go_ret
  exact ⟨rfl, (by repeat (first | exact Ext.refl _ | assumption | refine Ext.drew ?_ | refine Ext.drewN ?_ _ | refine Ext.alloc ?_ _ | refine Ext.trans ?_ (by assumption)))⟩
theorem indexK_any (a : Option Addr) (n cap : Nat) (xs : List Cl) (w : World) (hr : RdC w a n cap xs) :
    Calls Try.prog 85 #[.slice a n cap, .func (.func 61) #[] #[]] w fun e w' => ∃ r : Int, e = .returned (.int .i64 r) ∧ decide (0 ≤ r) = xs.any knwB ∧ Ext w w' := by
  have hl := hr.len
  have hmax : n ≤ 9223372036854775807 := by have := hr.le; have := hr.most; unfold maxLen at this; omega
  replace hl := Lib.hid hl
  go_enter Try.func85, Try.ntmps85
  go_wp2_with fail
  go_loopw [8] (fun i wr => ∃ k : Nat, k ≤ n ∧ i = .int .i64 k ∧ Ext w wr ∧ Hid (∀ (i : Nat) (y : _), i < k → xs[i]? = some y → (!(knwB) y) = true)) (fun i _ => n - (intOf i).toNat)
  case atStart => exact ⟨0, Nat.zero_le _, rfl, Ext.refl _, fun i x hi => absurd hi (Nat.not_lt_zero _)⟩
  case round =>
    obtain ⟨k, hk, rfl, hx, hall⟩ := hrel
    by_cases hlt : k < n
    · obtain ⟨b, off, y, rfl, hs, hb, hc0, hc1, hc2⟩ := (hr.ext hx).cl hlt
      cases hp : (knwB) y
      · have hnew := Lib.hid (all_succ (p := fun y => !(knwB) y) hall.out hs.out (by show (!(knwB) y) = true; rw [hp]; rfl))
        go_wp2_with fail
        refine (cbool (only11_any y _) hp).mono ?_
        rintro e w1 ⟨rfl, hx1⟩
        clear hp
        go_wp2_with fail
        (first | exact ⟨⟨k + 1, by omega, by go_num, hx.trans hx1, hnew⟩, (by simp [intOf]; omega)⟩ | (go_roundw; case rel => exact ⟨k + 1, by omega, by go_num, hx.trans hx1, hnew⟩; case measure => exact (by simp [intOf]; omega)))
      · have hany := Lib.hid (any_of_at (p := knwB) hs.out hp)
        go_wp2_with fail
        refine (cbool (only11_any y _) hp).mono ?_
        rintro e w1 ⟨rfl, hx1⟩
        clear hp
        go_wp2_with fail
        go_ret
        exact ⟨(k : Int), rfl, by rw [hany.out]; simp, hx.trans hx1⟩
    · go_wp2_with fail
      go_ret
      exact ⟨-1, rfl, by rw [any_none (p := knwB) hl.out (fun i y hi => hall.out i y (by omega))]; simp, hx⟩
theorem containsK_any (a : Option Addr) (n cap : Nat) (xs : List Cl) (w : World) (hr : RdC w a n cap xs) :
    Calls Try.prog 60 #[.slice a n cap, .func (.func 61) #[] #[]] w fun e w' => e = .returned (.bool (xs.any knwB)) ∧ Ext w w' := by
  go_enter Try.func60, Try.ntmps60
  go_wp2_with fail
  refine (indexK_any a n cap xs _ hr).mono ?_
  rintro e w1 ⟨r, rfl, hd, hx1⟩
  replace hd := Lib.hid hd
  go_wp2_with fail
  go_ret
  exact ⟨ret_bool hd.out, hx1⟩
/-! ### What is handed out -/
def onlyC (ks : List Int) (y : HCo) : List Cl := ks.map fun k => y.x.getD k.toNat nulC
def onlyL (ks : List Int) (l : List HCo) : List (List Cl × Int) := (l.map fun y => (onlyC ks y, y.cnt)).filter fun p => p.1.any knwB
theorem onlyC_succ {ks : List Int} {y : HCo} {q : Nat} {k : Int} (h : ks[q]? = some k) : onlyC (ks.take (q + 1)) y = onlyC (ks.take q) y ++ [y.x.getD k.toNat nulC] := by
  unfold onlyC; rw [take_succ_at h, List.map_append]; rfl
theorem onlyL_succ {ks : List Int} {l : List HCo} {j : Nat} {y : HCo} (h : l[j]? = some y) : onlyL ks (l.take (j + 1)) = onlyL ks (l.take j) ++ if (onlyC ks y).any knwB = true then [(onlyC ks y, y.cnt)] else [] := by
  unfold onlyL
  rw [take_succ_at h, List.map_append, List.filter_append]
  by_cases hp : (onlyC ks y).any knwB = true
  · rw [if_pos hp, List.map_cons, List.filter_cons, if_pos hp]; rfl
  · rw [if_neg hp, List.map_cons, List.filter_cons, if_neg hp]; rfl
theorem onlyL_pre {ks : List Int} {l : List HCo} (j : Nat) : onlyL ks (l.take j) <+: onlyL ks l := by
  refine ⟨onlyL ks (l.drop j), ?_⟩
  unfold onlyL
  rw [← List.filter_append, ← List.map_append, List.take_append_drop]
/-- What stands while they are handed out. -/
structure OnlW (B : Nat) (a : Option Addr) (m cap : Nat) (hs : List HCo) (ak : Option Addr) (nk ck : Nat) (ks : List Int) (w : World) : Prop where
  bl : w.cell? ⟨B, 0, none⟩ = some (.slice a m cap)
  bk : w.cell? ⟨B + 1, 0, none⟩ = some (.slice ak nk ck)
  rd : RdH w a m cap hs
  rk : RdI w ak nk ck ks
theorem OnlW.ext {B : Nat} {a : Option Addr} {m cap : Nat} {hs : List HCo} {ak : Option Addr} {nk ck : Nat} {ks : List Int} {w w' : World} (h : OnlW B a m cap hs ak nk ck ks w) (hx : Ext w w') : OnlW B a m cap hs ak nk ck ks w' :=
  ⟨hx.cellv h.bl, hx.cellv h.bk, h.rd.ext hx, h.rk.ext hx⟩
set_option maxHeartbeats 1000000 in
set_option maxRecDepth 20000 in
theorem only1_in (n l B : Nat) (hn : 1 ≤ n) (a : Option Addr) (m cap : Nat) (hs : List HCo) (ak : Option Addr) (nk ck : Nat) (ks : List Int) (J Jx : List HCo → World → Prop) (hJ : ∀ s X Y, J s X → X.grownBy Y none → J s Y) (hnk : nk ≤ 60000)
    (hv : ∀ y ∈ hs, ∀ k ∈ ks, 0 ≤ k ∧ k < (y.n : Int))
    (hrd : ∀ s X, J s X → OnlW B a m cap hs ak nk ck ks X)
    (hY : ∀ pre y X, J pre X → ((pre ++ [y]).map kp <+: onlyL ks hs) → RdC X y.a y.n y.cap y.x → YieldAt Fence.wide (n - 1) Try.prog l (encH y) X fun e Y => (e = .returned (.bool true) ∧ J (pre ++ [y]) Y) ∨ (e = .returned (.bool false) ∧ Jx (pre ++ [y]) Y))
    (W : World) (h0 : J [] W) :
    CallsIn Fence.wide n Try.prog 59 #[.func (.yield l) #[] #[], .pointer (some ⟨B, 0, none⟩), .pointer (some ⟨B + 1, 0, none⟩)] W fun e W' => (∃ v, e = .returned v) ∧ ((∃ ys, ys.map kp = onlyL ks hs ∧ J ys W') ∨ ∃ pre, Jx pre W') := by
  have hro : Fence.wide.round = none := rfl
  obtain ⟨hbox, _, hr0, hk0⟩ := hrd _ _ h0
  have hl := hr0.rd.len
  have hkl := hk0.len
  have hmax : m ≤ 9223372036854775807 := by have := hr0.rd.le; have := hr0.rd.most; unfold maxLen at this; omega
  clear hr0 hk0
  replace hl := Lib.hid hl
  replace hkl := Lib.hid hkl
  refine callsIn_of_wp Try.func59 rfl trivial ?_ hro
  simp only [Try.ntmps59, List.size_toArray, List.length_cons, List.length_nil, Nat.reduceAdd, Nat.reduceSub, Array.replicate_succ, Array.replicate_zero, List.push_toArray, List.append_toArray, List.nil_append, List.cons_append]
  gi_wp2
  gi_loopw [12] (fun i wr => ∃ k : Nat, k ≤ m ∧ i = .int .i64 k ∧ ∃ pre, Hid (pre.map kp = onlyL ks (hs.take k)) ∧ J pre wr) (fun i _ => m - (intOf i).toNat)
  case atStart => exact ⟨0, Nat.zero_le _, rfl, [], Lib.hid rfl, h0⟩
  clear hbox
  case round =>
    obtain ⟨k, hk, rfl, pre, hpre, hJ1⟩ := hrel
    obtain ⟨s0, s1, s2, s3⟩ := hrd _ _ hJ1
    have g1 := cell_lt s1
    simp only at g1
    by_cases hlt : k < m
    · obtain ⟨b, off, ⟨ya, yn, yc, ycnt, yx⟩, rfl, hy, hb, hc0, hc1, hcy⟩ := s2.at hlt
      have hvy := hv _ (List.mem_of_getElem? hy.out)
      have hsu := onlyL_succ (ks := ks) hy.out
      have hp1 := onlyL_pre (ks := ks) (l := hs) (k + 1)
      rw [hsu] at hp1
      simp only at hc0 hc1 hcy hvy hp1 hsu
      have hoc : ∀ L, onlyC L ⟨ya, yn, yc, ycnt, yx⟩ = L.map fun k => yx.getD k.toNat nulC := fun _ => rfl
      rw [hoc] at hp1 hsu
      obtain ⟨oC, hoC⟩ : ∃ oC : List Int → List Cl, oC = fun L => L.map fun k => yx.getD k.toNat nulC := ⟨_, rfl⟩
      have hoK : ∀ L, (L.map fun k => yx.getD k.toNat nulC) = oC L := fun L => by rw [hoC]
      have hoS : ∀ (q : Nat) (k : Int), ks[q]? = some k → oC (ks.take (q + 1)) = oC (ks.take q) ++ [yx.getD k.toNat nulC] := fun q k h => by rw [hoC]; exact onlyC_succ (y := ⟨ya, yn, yc, ycnt, yx⟩) h
      have hoN : ∀ L, (oC L).length = L.length := fun L => by rw [hoC, List.length_map]
      rw [hoK] at hp1 hsu
      clear hoc hoK
      replace hoC := Lib.hid hoC
      replace hoS := Lib.hid hoS
      replace hoN := Lib.hid hoN
      obtain ⟨wz, hwz⟩ : ∃ wz, wz = wr.alloc (.cells #[.slice ya yn yc, .int .i64 ycnt] 49) := ⟨_, rfl⟩
      have hxz : Ext wr wz := by rw [hwz]; exact Ext.alloc1 _ _
      have c0 : wz.cell? ⟨wr.heap.size, 0, none⟩ = some (.slice ya yn yc) := by rw [hwz]; go_simp
      have c1 : wz.cell? ⟨wr.heap.size, 1, none⟩ = some (.int .i64 ycnt) := by rw [hwz]; go_simp
      have s1z := hxz.cellv s1
      replace hsu := Lib.hid hsu
      replace hp1 := Lib.hid hp1
      gi_wp2
      rw [← hwz]
      gi_loopw [6, 18] (fun v i wi => ∃ (q : Nat), q ≤ nk ∧ i = .int .i64 q ∧ OwnK 3 Cl.enc wz.heap.size 39 wi v (oC (ks.take q)) ∧ Ext wz wi) (fun _ i _ => nk - (intOf i).toNat)
      case atStart => exact ⟨0, Nat.zero_le _, rfl, by rw [show oC (ks.take 0) = [] from List.eq_nil_of_length_eq_zero (by rw [hoN.out]; rfl)]; exact OwnK.nil _ _ _, Ext.refl _⟩
      case round =>
        obtain ⟨q, hq, rfl, hown, hxi⟩ := hrel
        have t0 := hxi.cellv c0
        have t1 := hxi.cellv c1
        have hcl : Hid ((oC (ks.take q)).length = q) := Lib.hid (by rw [hoN.out, List.length_take, hkl.out]; omega)
        by_cases hqlt : q < nk
        · obtain ⟨bk, ok, kv, rfl, hkq, hbk, k0⟩ := ((s3.ext hxz).ext hxi).i64 hqlt
          obtain ⟨hk1, hk2⟩ := hvy kv (List.mem_of_getElem? hkq.out)
          obtain ⟨kn, rfl⟩ : ∃ kn : Nat, kv = kn := ⟨kv.toNat, by omega⟩
          obtain ⟨bc, oc, c, rfl, hcq, hbc, p0, p1, p2⟩ := ((hcy.ext hxz).ext hxi).cl (i := kn) (by omega)
          have hsq := hoS.out _ _ hkq.out
          rw [Int.toNat_natCast, List.getD_eq_getElem?_getD, hcq.out] at hsq
          replace hsq := Lib.hid hsq
          have hqi : (q : Int) < (nk : Int) := by omega
          gi_wp2_with (refine list_bridge_wide (by rintro ⟨_, _, h⟩; obtain ⟨⟨_, h⟩, _⟩ := h; cases h) _ _ _ ?_; at_builtin; refine wp_app1 wz wr c rfl _ _ 29 rfl 39 Try.underlying29 info_cl rfl (by decide) _ _ rfl hown hxi rfl rfl (Cl.one _) (by rw [hcl.out]; omega) (by rw [hcl.out]; unfold maxLen; omega) ?_; intro v1 w1 ho1 hx1 _)
          go_wp2_with fail
          gi_wp2
          rw [show oC (ks.take q) ++ [c] = oC (ks.take (q + 1)) from hsq.out.symm] at ho1
          (first | exact ⟨⟨q + 1, by omega, by go_num, ho1, hx1⟩, (by simp [intOf]; omega)⟩ | (go_roundw; case rel => exact ⟨q + 1, by omega, by go_num, ho1, hx1⟩; case measure => exact (by simp [intOf]; omega)))
        · obtain rfl : q = nk := by omega
          rw [List.take_of_length_le (by rw [hkl.out]; exact Nat.le_refl _)] at hown
          obtain ⟨a3, n3, c3, hn3, rfl, hr3⟩ := OwnK.rdn Cl.len hown
          have hck := containsK_any a3 n3 c3 (oC ks) wr hr3
          replace hn3 := Lib.hid hn3
          have hxr : Ext _ _ := hxz.trans hxi
          cases hkb : (oC ks).any knwB
          · replace hck := cbool hck hkb
            have hnew := hsu.out
            rw [if_neg (by rw [hkb]; simp), List.append_nil] at hnew
            replace hkb := Lib.hid hkb
            gi_wp2
            refine ⟨trivial, ?_⟩
            gi_at_call 60
            refine (callsIn_wide.2 hck).mono ?_
            rintro e w2 ⟨rfl, hx2⟩
            have hJ2 : J pre w2 := hJ _ _ _ hJ1 (hxr.trans hx2).grow
            rw [← hnew] at hpre
            gi_wp2
            refine ⟨(fun f hf => by cases hf), ?_⟩
            gi_wp2
            (first | exact ⟨⟨k + 1, by omega, by go_num, pre, hpre, hJ2⟩, (by simp [intOf]; omega)⟩ | (go_roundw; case rel => exact ⟨k + 1, by omega, by go_num, pre, hpre, hJ2⟩; case measure => exact (by simp [intOf]; omega)))
          · replace hck := cbool hck hkb
            have hnew := hsu.out
            rw [if_pos hkb] at hnew
            have hp2 := hp1.out
            rw [if_pos hkb] at hp2
            replace hkb := Lib.hid hkb
            gi_wp2
            refine ⟨trivial, ?_⟩
            gi_at_call 60
            refine (callsIn_wide.2 hck).mono ?_
            rintro e w2 ⟨rfl, hx2⟩
            have hJ2 : J pre w2 := hJ _ _ _ hJ1 (hxr.trans hx2).grow
            have u1 := hx2.cellv t1
            have hpk : (pre ++ [(⟨a3, n3, c3, ycnt, oC ks⟩ : HCo)]).map kp = onlyL ks (hs.take (k + 1)) := by rw [hnew, List.map_append, hpre.out]; rfl
            have hpk2 : (pre ++ [(⟨a3, n3, c3, ycnt, oC ks⟩ : HCo)]).map kp <+: onlyL ks hs := by rw [List.map_append, hpre.out]; exact hp2
            obtain ⟨fy, tmps, assign, body, hyl, hR⟩ := hY _ (⟨a3, n3, c3, ycnt, oC ks⟩ : HCo) w2 hJ2 hpk2 (hr3.ext hx2)
            replace hpk := Lib.hid hpk
            replace hnew := Lib.hid hnew
            gi_wp2
            refine hR.mono ?_
            rintro e W3 (⟨rfl, hJ4⟩ | ⟨rfl, hJx4⟩)
            · gi_wp2
              (first | exact ⟨⟨k + 1, by omega, by go_num, _, hpk, hJ4⟩, (by simp [intOf]; omega)⟩ | (go_roundw; case rel => exact ⟨k + 1, by omega, by go_num, _, hpk, hJ4⟩; case measure => exact (by simp [intOf]; omega)))
            · gi_wp2
              refine bodyPost_ret (results_none rfl _ _ _) rfl ?_
              exact ⟨⟨_, rfl⟩, .inr ⟨_, hJx4⟩⟩
    · have hkm : k = m := by omega
      have hfin : onlyL ks (hs.take k) = onlyL ks hs := by rw [List.take_of_length_le (by rw [hl.out]; omega)]
      rw [hfin] at hpre
      gi_wp2
      go_end0
      exact ⟨⟨_, rfl⟩, .inl ⟨pre, hpre.out, hJ1⟩⟩
end Go.Proofs.Ytkdancoffmhjhaa
