/-
  The statement WordSorts: the walk.
-/
import Derived.Test.YtphfnmmdfnfnaaaWr
import Derived.Test.YtphfnmmdfnfnaaaWz
import Derived.Test.YtphfnmmdfnfnaaaWt
namespace Go.Proofs.Ytphfnmmdfnfnaaa
open Go.RowKit
/-- Two cells of a row of sounds written: a word of the call's own stays one, with other sounds perhaps. -/
theorem OwnS.setAny {B n cap g i : Nat} {w : World} {a : Option Addr} {xs : List Snd} (s : Snd) (h : OwnS B 39 w (.slice a n cap) xs) :
    ∃ xs', OwnS B 39 ((w.setCell ⟨g, i * 2, none⟩ (.int .u32 s.p.toNat)).setCell ⟨g, i * 2 + 1, none⟩ (.int .u32 s.m.toNat)) (.slice a n cap) xs' := by
  have h' := h
  obtain ⟨h1, h2⟩ := h
  rcases h2 with h2 | ⟨g', cap', cur, h3, hB, hh, r⟩
  · exact ⟨xs, h1, .inl h2⟩
  · simp only [Value.slice.injEq] at h3
    obtain ⟨rfl, rfl, rfl⟩ := h3
    by_cases e : g' = g
    · subst e
      exact ⟨_, OwnS.set h' i s⟩
    · exact ⟨xs, h1, .inr ⟨g', cap, cur, rfl, hB, by rw [Below.heap_setCell _ _ _ _ e, Below.heap_setCell _ _ _ _ e]; exact hh, r⟩⟩
theorem OwnH.offS {B B' g i n c : Nat} {w : World} {v : Value} {s : Snd} {hs : List WH} {xs : List Snd} (hH : OwnH B 22 w v hs) (hS : OwnS B' 39 w (.slice (some ⟨g, 0, none⟩) n c) xs) :
    OwnH B 22 ((w.setCell ⟨g, i * 2, none⟩ (.int .u32 s.p.toNat)).setCell ⟨g, i * 2 + 1, none⟩ (.int .u32 s.m.toNat)) v hs := by
  obtain ⟨h1, h2⟩ := hH
  refine ⟨h1, ?_⟩
  rcases h2 with h2 | ⟨g', cap', cur, h3, hB, hh, r⟩
  · exact .inl h2
  · have hne : g' ≠ g := by
      rintro rfl
      rcases hS.2 with ⟨h7, _⟩ | ⟨g2, cap2, cur2, h7, _, hh2, _⟩
      · cases h7
      · simp only [Value.slice.injEq, Option.some.injEq, Addr.mk.injEq, and_true] at h7
        obtain ⟨rfl, _, _⟩ := h7
        rw [hh] at hh2
        simp at hh2
    exact .inr ⟨g', cap', cur, h3, hB, by rw [Below.heap_setCell _ _ _ _ hne, Below.heap_setCell _ _ _ _ hne]; exact hh, r⟩
/-- The row of a list that the call has made, its words its own whatever they hold. -/
def OwnAny (B : Nat) (w : World) (v : Value) (hs : List WH) : Prop := OwnH B 22 w v hs ∧ ∀ h ∈ hs, ∃ x, OwnS B 39 w h.v x
theorem OwnAny.set {B g i n c : Nat} {w : World} {v : Value} {hs : List WH} {xs : List Snd} (s : Snd) (h : OwnAny B w v hs) (hS : OwnS B 39 w (.slice (some ⟨g, 0, none⟩) n c) xs) :
    OwnAny B ((w.setCell ⟨g, i * 2, none⟩ (.int .u32 s.p.toNat)).setCell ⟨g, i * 2 + 1, none⟩ (.int .u32 s.m.toNat)) v hs :=
  ⟨OwnH.offS h.1 hS, fun y hy => let ⟨_, hx⟩ := h.2 y hy; OwnS.setAny s hx⟩
theorem OwnAny.at {B m cv i : Nat} {w : World} {av : Option Addr} {hs : List WH} {y : WH} (h : OwnAny B w (.slice av m cv) hs) (hi : hs[i]? = some y) :
    ∃ g, av = some ⟨g, 0, none⟩ ∧ w.cell? ⟨g, i, none⟩ = some (.slice y.a y.n y.cap) := by
  obtain ⟨h1, _⟩ := h
  have h1' := h1
  rcases h1.2 with ⟨h4, h5⟩ | ⟨g, cap, cur, h4, _⟩
  · have := List.eq_nil_of_length_eq_zero h5
    subst this; simp at hi
  · simp only [Value.slice.injEq] at h4
    obtain ⟨rfl, _, _⟩ := h4
    exact ⟨g, rfl, OwnH.at h1' hi⟩
theorem OwnS.form {B e n cap : Nat} {w : World} {a : Option Addr} {xs : List Snd} (h : OwnS B e w (.slice a n cap) xs) : xs.length = n ∧ (0 < n → ∃ g, a = some ⟨g, 0, none⟩) := by
  obtain ⟨h1, h2⟩ := h
  rcases h2 with ⟨h3, h4⟩ | ⟨g, cap', cur, h3, _⟩
  · simp only [Value.slice.injEq] at h3
    exact ⟨by omega, fun hn => by omega⟩
  · simp only [Value.slice.injEq] at h3
    exact ⟨by omega, fun _ => ⟨g, h3.1⟩⟩
theorem OwnAny.kept {B : Nat} {w w' : World} {v : Value} {hs : List WH} (h : OwnAny B w v hs) (hx : Ext w w') : OwnAny B w' v hs :=
  ⟨OwnK.kept h.1 hx, fun y hy => let ⟨x, hx'⟩ := h.2 y hy; ⟨x, OwnK.kept hx' hx⟩⟩
theorem RdWs.nilW (w : World) : RdWs w none 0 0 [] := ⟨rfl, Nat.le_refl _, Nat.zero_le _, fun _ => rfl, fun h => absurd h (Nat.lt_irrefl _)⟩
set_option maxHeartbeats 4000000 in
theorem wordSorts_any (a0 : Option Addr) (n0 c0 : Nat) (ws : List (List Snd)) (w : World) (h0 : RdWs w a0 n0 c0 ws) :
    Calls Try.prog 5 #[.slice a0 n0 c0] w fun e w' => e = .returned (.bool true) ∧ Ext w w' := by
  by_cases l0 : n0 ≤ 300
  · have e0 : decide ((300 : Int) < n0) = false := by simp; omega
    have hwl := h0.len
    go_enter Try.func5, Try.ntmps5
    go_wp2_with fail
    go_loopw [3, 4] (fun v i wr => ∃ k : Nat, k ≤ n0 ∧ i = .int .i64 k ∧ Ext w wr ∧ OwnWs w.heap.size wr v (ws.take k)) (fun _ i _ => n0 - (intOf i).toNat)
    case atStart => exact ⟨0, Nat.zero_le _, rfl, Ext.refl _, OwnWs.nil _ _⟩
    case round =>
      obtain ⟨k, hk, rfl, hx, hown⟩ := hrel
      by_cases hlt : k < n0
      · obtain ⟨b, off, v, x, ha, hs, hb, hcx, a1, n1, cap1, rfl, hr1⟩ := (RdWs.ext h0 hx).at hlt
        cases ha
        by_cases hl : n1 ≤ 100
        · have hd : decide ((100 : Int) < n1) = false := by simp; omega
          go_wp2_with fail
          refine (copy_any _ _ _ x _ hr1 (by omega)).mono ?_
          rintro e w5 ⟨v5, rfl, ho5, hx5⟩
          obtain ⟨a5, n5, c5, hn5, rfl, r5⟩ := OwnK.rdn Snd.len ho5
          replace hn5 := Lib.hid hn5
          go_wp2_with (at_builtin; refine wp_appW w w5 a5 n5 c5 x rfl _ _ rfl _ (ws.take k) rfl (hown.kept hx5) (hx.trans hx5) (OwnK.base ho5 hx.le) rfl (by simp; omega) ?_; intro v6 w6 ho6 hx6)
          (first | exact ⟨⟨k + 1, by omega, by go_num, hx6, by rw [take_snoc_at hs] at ho6; exact ho6⟩, (by simp [intOf]; omega)⟩ | (go_roundw; case rel => exact ⟨k + 1, by omega, by go_num, hx6, by rw [take_snoc_at hs] at ho6; exact ho6⟩; case measure => exact (by simp [intOf]; omega)))
        · have hd : decide ((100 : Int) < n1) = true := by simp; omega
          go_wp2_with fail
          refine (works_any _).mono ?_
          rintro e wz ⟨rfl, _⟩
          go_wp2_with fail
          go_ret
          exact ⟨rfl, (by repeat (first | exact Ext.refl _ | assumption | refine Ext.drew ?_ | refine Ext.drewN ?_ _ | refine Ext.alloc ?_ _ | refine Ext.trans ?_ (by assumption)))⟩
      · have hown' := hown
        rw [List.take_of_length_le (by omega)] at hown'
        obtain ⟨aw, nw, cw, hnw, hv, rw'⟩ := OwnWs.rdn hown'
        replace hnw := Lib.hid hnw
        subst hv
        clear hown hown'
        obtain ⟨wS, hwS⟩ : ∃ x, x = wr := ⟨wr, rfl⟩
        subst hwS
        go_wp2_with fail
        refine (wsort_any _ _ _ ws _ (RdWs.ext h0 hx)).mono ?_
        rintro e w1 ⟨hx1, h⟩
        rcases h with ⟨hb, rfl⟩ | ⟨hb, hcw, rfl⟩ | ⟨hb, hcw, vx, L, rfl, hs, ho⟩
        · go_wp2_with fail
          refine (rsort_any _ _ _ ws _ (RdWs.ext h0 (hx.trans hx1))).mono ?_
          rintro e w2 ⟨hx2, h⟩
          rcases h with ⟨hb', rfl⟩ | ⟨hb', hcw', rfl⟩ | ⟨hb', hcw', vy, L', rfl, hs', ho'⟩
          · go_wp2_with fail
            refine (cbool (wsame_any _ _ _ _ _ _ [] [] _ (RdWs.nilW _) (RdWs.nilW _)) (decide_eq_true rfl)).mono ?_
            rintro e w1 ⟨rfl, _⟩
            go_wp2_with fail
            refine wp_loop_rounds 1 ?_
            rw [rounds_succ]
            go_wp2_with fail
            refine (cbool (wsame_any _ _ _ _ _ _ ws ws _ (RdWs.ext h0 (by repeat (first | exact Ext.refl _ | assumption | refine Ext.drew ?_ | refine Ext.drewN ?_ _ | refine Ext.alloc ?_ _ | refine Ext.trans ?_ (by assumption)))) (RdWs.ext rw' (by repeat (first | exact Ext.refl _ | assumption | refine Ext.drew ?_ | refine Ext.drewN ?_ _ | refine Ext.alloc ?_ _ | refine Ext.trans ?_ (by assumption))))) (decide_eq_true rfl)).mono ?_
            rintro e w1 ⟨rfl, _⟩
            go_wp2_with fail
            refine (works_any _).mono ?_
            rintro e wz ⟨rfl, _⟩
            go_wp2_with fail
            go_ret
            exact ⟨rfl, (by repeat (first | exact Ext.refl _ | assumption | refine Ext.drew ?_ | refine Ext.drewN ?_ _ | refine Ext.alloc ?_ _ | refine Ext.trans ?_ (by assumption)))⟩
          · omega
          · omega
        · go_wp2_with fail
          refine (rsort_any _ _ _ ws _ (RdWs.ext h0 (hx.trans hx1))).mono ?_
          rintro e w2 ⟨hx2, h⟩
          rcases h with ⟨hb', rfl⟩ | ⟨hb', hcw', rfl⟩ | ⟨hb', hcw', vy, L', rfl, hs', ho'⟩
          · omega
          · replace hcw := Lib.hid hcw
            clear hcw'
            go_wp2_with fail
            refine (cbool (wsame_any _ _ _ _ _ _ [] [] _ (RdWs.nilW _) (RdWs.nilW _)) (decide_eq_true rfl)).mono ?_
            rintro e w1 ⟨rfl, _⟩
            go_wp2_with fail
            refine wp_loop_rounds 1 ?_
            rw [rounds_succ]
            go_wp2_with fail
            refine (cbool (wsame_any _ _ _ _ _ _ ws ws _ (RdWs.ext h0 (by repeat (first | exact Ext.refl _ | assumption | refine Ext.drew ?_ | refine Ext.drewN ?_ _ | refine Ext.alloc ?_ _ | refine Ext.trans ?_ (by assumption)))) (RdWs.ext rw' (by repeat (first | exact Ext.refl _ | assumption | refine Ext.drew ?_ | refine Ext.drewN ?_ _ | refine Ext.alloc ?_ _ | refine Ext.trans ?_ (by assumption))))) (decide_eq_true rfl)).mono ?_
            rintro e w1 ⟨rfl, _⟩
            go_wp2_with fail
            refine (works_any _).mono ?_
            rintro e wz ⟨rfl, _⟩
            go_wp2_with fail
            go_ret
            exact ⟨rfl, (by repeat (first | exact Ext.refl _ | assumption | refine Ext.drew ?_ | refine Ext.drewN ?_ _ | refine Ext.alloc ?_ _ | refine Ext.trans ?_ (by assumption)))⟩
          · exact absurd hcw' hcw
        · go_wp2_with fail
          refine (rsort_any _ _ _ ws _ (RdWs.ext h0 (hx.trans hx1))).mono ?_
          rintro e w2 ⟨hx2, h⟩
          rcases h with ⟨hb', rfl⟩ | ⟨hb', hcw', rfl⟩ | ⟨hb', hcw', vy, L', rfl, hs', ho'⟩
          · omega
          · exact absurd hcw hcw'
          · have hLL := SortedOf.uniq hs hs'
            subst hLL
            replace hcw := Lib.hid hcw
            clear hcw' hs'
            obtain ⟨ax, mx, cx, hmx, rfl, rx⟩ := OwnWs.rdn ho
            obtain ⟨ay, my, cy, hmy, rfl, ry⟩ := OwnWs.rdn ho'
            obtain ⟨hh, ho1, ho2, ho3⟩ := ho
            have hhl : hh.length = mx := by rw [hmx, ← ho2]; simp
            have hany : OwnAny wS.heap.size w1 (.slice ax mx cx) hh := ⟨ho1, fun y hy => ⟨_, ho3 y hy⟩⟩
            have hml : mx ≤ 60000 := by have := nodup_len hs.1 (fun x hx => (hs.2 x).1 hx); omega
            replace hmx := Lib.hid hmx
            replace hmy := Lib.hid hmy
            clear ho1 ho2 ho3 ho' hs
            go_wp2_with fail
            refine (cbool (wsame_any _ _ _ _ _ _ L L _ (RdWs.ext rx hx2) ry) (decide_eq_true rfl)).mono ?_
            rintro e w3 ⟨rfl, hx3⟩
            have hany3 := hany.kept (hx2.trans hx3)
            have hxS := hx1.trans (hx2.trans hx3)
            clear hany rx ry
            go_wp2_with fail
            go_loopw [9] (fun i wr => ∃ k : Nat, k ≤ mx ∧ i = .int .i64 k ∧ Ext wS wr ∧ OwnAny wS.heap.size wr (.slice ax mx cx) hh) (fun i _ => mx - (intOf i).toNat)
            case atStart => exact ⟨0, Nat.zero_le _, rfl, hxS, hany3⟩
            case round =>
              obtain ⟨k2, hk2, rfl, hx4, hany4⟩ := hrel
              by_cases hlt2 : k2 < mx
              · obtain ⟨⟨ya, yn, yc, yx⟩, hy⟩ : ∃ y, hh[k2]? = some y := ⟨hh[k2]'(by omega), List.getElem?_eq_getElem _⟩
                go_wp2_with fail
                go_loopw [10] (fun i wr => ∃ q : Nat, q ≤ yn ∧ i = .int .i64 q ∧ Ext wS wr ∧ OwnAny wS.heap.size wr (.slice ax mx cx) hh) (fun i _ => yn - (intOf i).toNat)
                case atStart => exact ⟨0, Nat.zero_le _, rfl, hx4, hany4⟩
                case round =>
                  obtain ⟨q, hq, rfl, hx5, hany5⟩ := hrel
                  obtain ⟨g, hax, hcy⟩ := OwnAny.at hany5 hy
                  cases hax
                  by_cases hlt3 : q < yn
                  · obtain ⟨x', hx'⟩ := hany5.2 _ (List.mem_of_getElem? hy)
                    have hx' : OwnS wS.heap.size 39 wr (.slice ya yn yc) x' := hx'
                    obtain ⟨hxl, hxg⟩ := OwnS.form hx'
                    obtain ⟨g2, hg2⟩ := hxg (by omega)
                    subst hg2
                    have hmax : yn ≤ 9223372036854775807 := by have := (OwnS.ge hx').2.2.2; unfold maxLen at this; omega
                    obtain ⟨s, hsx⟩ : ∃ s, x'[q]? = some s := ⟨x'[q]'(by omega), List.getElem?_eq_getElem _⟩
                    obtain ⟨ha0, ha1⟩ := OwnS.at hx' hsx
                    have hf0 := fun i => OwnS.free hx' i
                    have hgB := (OwnS.ge hx').1
                    have hany6 := hany5.set (i := q) ⟨1, 1⟩ hx'
                    simp only at hcy
                    go_wp2_with fail
                    (first | exact ⟨⟨q + 1, by omega, by go_num, (hx5.setCell (p := ⟨g2, _, none⟩) hgB _).setCell (p := ⟨g2, _, none⟩) hgB _, hany6⟩, (by simp [intOf]; omega)⟩ | (go_roundw; case rel => exact ⟨q + 1, by omega, by go_num, (hx5.setCell (p := ⟨g2, _, none⟩) hgB _).setCell (p := ⟨g2, _, none⟩) hgB _, hany6⟩; case measure => exact (by simp [intOf]; omega)))
                  · simp only at hcy
                    go_wp2_with fail
                    (first | exact ⟨⟨k2 + 1, by omega, by go_num, hx5, hany5⟩, (by simp [intOf]; omega)⟩ | (go_roundw; case rel => exact ⟨k2 + 1, by omega, by go_num, hx5, hany5⟩; case measure => exact (by simp [intOf]; omega)))
              · go_wp2_with fail
                refine (cbool (wsame_any _ _ _ _ _ _ ws ws _ (RdWs.ext h0 (by repeat (first | exact Ext.refl _ | assumption | refine Ext.drew ?_ | refine Ext.drewN ?_ _ | refine Ext.alloc ?_ _ | refine Ext.trans ?_ (by assumption)))) (RdWs.ext rw' (by repeat (first | exact Ext.refl _ | assumption | refine Ext.drew ?_ | refine Ext.drewN ?_ _ | refine Ext.alloc ?_ _ | refine Ext.trans ?_ (by assumption))))) (decide_eq_true rfl)).mono ?_
                rintro e w1 ⟨rfl, _⟩
                go_wp2_with fail
                refine (works_any _).mono ?_
                rintro e wz ⟨rfl, _⟩
                go_wp2_with fail
                go_ret
                exact ⟨rfl, (by repeat (first | exact Ext.refl _ | assumption | refine Ext.drew ?_ | refine Ext.drewN ?_ _ | refine Ext.alloc ?_ _ | refine Ext.trans ?_ (by assumption)))⟩
  · have e0 : decide ((300 : Int) < n0) = true := by simp; omega
    go_enter Try.func5, Try.ntmps5
    go_wp2_with fail
    refine (works_any _).mono ?_
    rintro e wz ⟨rfl, _⟩
    go_wp2_with fail
    go_ret
    exact ⟨rfl, (by repeat (first | exact Ext.refl _ | assumption | refine Ext.drew ?_ | refine Ext.drewN ?_ _ | refine Ext.alloc ?_ _ | refine Ext.trans ?_ (by assumption)))⟩
end Go.Proofs.Ytphfnmmdfnfnaaa
