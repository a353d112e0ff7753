/-
  word.Sort: the walk.
-/
import Derived.Test.YtphfnmmdfnfnaaaWo
namespace Go.Proofs.Ytphfnmmdfnfnaaa
open Go.RowKit
theorem OwnS.off {B e g i m cap : Nat} {w : World} {v u : Value} {x : List Snd} {cur : List WH} (h : OwnS B 39 w v x) (hg : OwnH B e w (.slice (some ⟨g, 0, none⟩) m cap) cur) (he : e ≠ 39) : OwnS B 39 (w.setCell ⟨g, i, none⟩ u) v x := by
  obtain ⟨h1, h2⟩ := h
  refine ⟨h1, ?_⟩
  rcases h2 with h2 | ⟨g', cap', cur', h3, hB, hh, h4, h5, h6, ht⟩
  · exact .inl h2
  · refine .inr ⟨g', cap', cur', h3, hB, ?_, h4, h5, h6, ht⟩
    rcases hg.2 with ⟨h7, _⟩ | ⟨g2, cap2, cur2, h7, _, hh2, _⟩
    · cases h7
    · simp only [Value.slice.injEq, Option.some.injEq, Addr.mk.injEq, and_true] at h7
      obtain ⟨rfl, _, rfl⟩ := h7
      have hne : g ≠ g' := by
        rintro rfl
        rw [hh] at hh2
        simp only [Option.some.injEq, Obj.cells.injEq] at hh2
        exact he hh2.2.1.symm
      rw [Sort.setCell_eq]
      simp only [Sort.mapBlock, Array.getElem?_modify, hne, if_false]
      exact hh
theorem checkWs_all : ∀ {ws : List (List Snd)}, checkWs ws = 0 → ∀ x ∈ ws, x.length ≤ 32
  | y :: ys, h, x, hx => by
    rw [checkWs] at h; split at h
    · rename_i h0
      rcases List.mem_cons.1 hx with rfl | e
      · unfold checkS at h0; split at h0
        · cases h0
        · omega
      · exact checkWs_all h x e
    · contradiction
theorem sortV_any {w w0 : World} {e : Nat} {v : Value} {hs : List WH} (hx : Ext w w0) (hown : OwnH w.heap.size e w0 v hs) (hok : ∀ h ∈ hs, h.ok w) (hn : hs.length ≤ 60000) :
    Calls Try.prog 53 #[v, .func (.func 22) #[] #[]] w0 fun en w' => en = .returned (.tuple #[]) ∧ Ext w w' ∧
      ∃ ts : List WH, ts.Perm hs ∧ ts.Pairwise (fun x y => cmpW x.x y.x ≤ 0) ∧ OwnH w.heap.size e w' v ts := by
  have hown' := hown
  rcases hown.2 with ⟨rfl, h0⟩ | ⟨g, cap, cur, rfl, hB, hh, h4, h5, h6, ht⟩
  · have : hs = [] := List.eq_nil_of_length_eq_zero h0
    subst this
    refine (sortW_none _ _ _ _).mono ?_
    rintro en w' ⟨rfl, rfl⟩
    exact ⟨rfl, hx, [], List.Perm.refl _, List.Pairwise.nil, hown'⟩
  · exact sortW_any hx hown' hok hn
theorem compactH_nil (w : World) (f : Value) : Calls Try.prog 54 #[.slice none 0 0, f] w fun e w' => e = .returned (.slice none 0 0) ∧ w' = w := by
  go_enter Try.func54, Try.ntmps54
  go_wp2_with fail
  go_ret
  exact ⟨rfl, rfl⟩
theorem compactV_any {w w0 : World} {v : Value} {hs : List WH} (hx : Ext w w0) (hown : OwnH w.heap.size 22 w0 v hs) (hok : ∀ h ∈ hs, h.ok w) (hn : hs.length ≤ 60000) :
    Calls Try.prog 54 #[v, .func (.func 21) #[] #[]] w0 fun e w' => ∃ v', e = .returned v' ∧
      OwnH w.heap.size 22 w' v' (compactH hs) ∧ Ext w w' := by
  have hown' := hown
  rcases hown.2 with ⟨rfl, h0⟩ | ⟨g, cap, cur, rfl, hB, hh, h4, h5, h6, ht⟩
  · have : hs = [] := List.eq_nil_of_length_eq_zero h0
    subst this
    refine (compactH_nil _ _).mono ?_
    rintro en w' ⟨rfl, rfl⟩
    exact ⟨_, rfl, hown', hx⟩
  · refine (compactH_any hx hown' hok hn).mono ?_
    rintro e w' ⟨m, rfl, h1, h2⟩
    exact ⟨_, rfl, h1, h2⟩
/-- A list of words that the call has made: its row and each word its own. -/
def OwnWs (B : Nat) (w : World) (v : Value) (L : List (List Snd)) : Prop := ∃ hs : List WH, OwnH B 22 w v hs ∧ hs.map WH.x = L ∧ ∀ h ∈ hs, OwnS B 39 w h.v h.x
theorem compactH_len (l : List WH) : (compactH l).length ≤ l.length := by
  have h : ∀ (l : List WH) (p : List Snd), (keepH p l).length ≤ l.length := by
    intro l
    induction l with
    | nil => intro p; simp [keepH]
    | cons a t ih => intro p; rw [keepH]; split <;> have := ih a.x <;> simp <;> omega
  cases l with
  | nil => simp [compactH]
  | cons a t => have := h t a.x; simp [compactH]; omega
theorem map_set_same {cur cs : List WH} {k : Nat} {y z : WH} (h : cur.map WH.x = cs.map WH.x) (hy : cs[k]? = some y) (hz : z.x = y.x := by rfl) : (cur.set k z).map WH.x = cs.map WH.x := by
  rw [List.map_set, h, hz]
  apply List.ext_getElem?; intro j
  rw [List.getElem?_set]
  by_cases e : k = j
  · subst e
    obtain ⟨hlt, he⟩ := List.getElem?_eq_some_iff.1 hy
    simp [hlt, he]
  · rw [if_neg e]
theorem own_set {B g m cap k : Nat} {w : World} {cur : List WH} {z : WH} (hz : OwnS B 39 w z.v z.x) (hg : OwnH B 22 w (.slice (some ⟨g, 0, none⟩) m cap) cur)
    (hd : ∀ j h, j < k → cur[j]? = some h → OwnS B 39 w h.v h.x) {j : Nat} {h : WH} (hj : j < k + 1) (hjh : (cur.set k z)[j]? = some h) : OwnS B 39 (w.setCell ⟨g, k, none⟩ (.slice z.a z.n z.cap)) h.v h.x := by
  rw [List.getElem?_set] at hjh
  split at hjh
  · split at hjh
    · cases hjh; exact OwnS.off hz hg (by decide)
    · cases hjh
  · exact OwnS.off (hd j h (by omega) hjh) hg (by decide)
set_option maxHeartbeats 1000000 in
theorem wsort_any (a : Option Addr) (n cap : Nat) (ws : List (List Snd)) (w : World) (hr : RdWs w a n cap ws) :
    Calls Try.prog 29 #[.slice a n cap] w fun e w' => Ext w w' ∧
      ((256 < n ∧ e = .returned (.tuple #[.slice none 0 0, .int .i64 12])) ∨ (n ≤ 256 ∧ checkWs ws ≠ 0 ∧ e = .returned (.tuple #[.slice none 0 0, .int .i64 (checkWs ws)])) ∨
       (n ≤ 256 ∧ checkWs ws = 0 ∧ ∃ v L, e = .returned (.tuple #[v, .int .i64 0]) ∧ SortedOf ws L ∧ OwnWs w.heap.size w' v L)) := by
  by_cases hbig : 256 < n
  · have hd : decide ((256 : Int) < n) = true := by simp; omega
    go_enter Try.func29, Try.ntmps29
    go_wp2_with fail
    go_ret2
    exact ⟨Ext.refl _, .inl ⟨hbig, rfl⟩⟩
  have hd : decide ((256 : Int) < n) = false := by simp; omega
  by_cases hc : checkWs ws = 0
  · have hcd : (checkWs ws != 0) = false := by simp [hc]
    obtain ⟨hs, hrk, hok, hxs⟩ := RdWs.hdrs hr
    have hl32 : ∀ h ∈ hs, h.x.length ≤ 32 := fun h hh => checkWs_all hc h.x (by rw [← hxs]; exact List.mem_map_of_mem hh)
    have hlen := hrk.len
    have Hc := Lib.hid hc; clear hc
    go_enter Try.func29, Try.ntmps29
    go_wp2_with (go_at_call 51; refine (checks_any _ _ _ ws _ hr).mono ?_; rintro e w1 ⟨rfl, hx1⟩)
    refine (cloneH_any _ _ _ hs _ (hrk.ext hx1) (by omega)).mono ?_
    rintro e w2 ⟨v, rfl, hown0, hx2⟩
    have hown := OwnK.base hown0 hx1.le
    have hx2' := hx1.trans hx2
    clear hown0 hx2
    go_wp2_with (go_at_call 53; refine (sortV_any hx2' hown hok (by omega)).mono ?_; rintro e w3 ⟨rfl, hx3, ts, hperm, hpw, hown3⟩)
    have hsub : ∀ h ∈ compactH ts, h ∈ hs := fun h hh => hperm.mem_iff.1 (compactH_sub ts h hh)
    have hsl : (compactH ts).length ≤ 60000 := by
      have h1 : (compactH ts).length ≤ ts.length := compactH_len ts
      have := hperm.length_eq; omega
    refine (compactV_any hx3 hown3 (fun h hh => hok h (hperm.mem_iff.1 hh)) (by rw [hperm.length_eq]; omega)).mono ?_
    rintro e w4 ⟨v', rfl, hown4, hx4⟩
    have hsort := compactH_sorted hxs hperm hpw
    have hokc : ∀ h ∈ compactH ts, h.ok w := fun h hh => hok h (hsub h hh)
    have hl32c : ∀ h ∈ compactH ts, h.x.length ≤ 32 := fun h hh => hl32 h (hsub h hh)
    clear hown hx2' hx3 hown3 hx1 hd hcd hlen hrk hr
    generalize compactH ts = cs at *
    clear hperm hpw hl32 hok hsub hxs
    have hown4' := hown4
    rcases hown4'.2 with ⟨rfl, h0⟩ | ⟨g, cap', cur, rfl, hB, hh, h4, h5, h6, ht⟩
    · have : cs = [] := List.eq_nil_of_length_eq_zero h0
      subst this
      go_wp2_with fail
      refine wp_loop_rounds 1 ?_
      rw [rounds_succ]
      go_wp2_with fail
      go_ret2
      exact ⟨hx4, .inr (.inr ⟨by omega, Hc.out, _, _, rfl, hsort, [], hown4, rfl, by simp⟩)⟩
    · clear hh h6 ht cur hown4'
      obtain ⟨m, hm⟩ : ∃ m, m = cs.length := ⟨_, rfl⟩
      rw [← hm] at hown4 h4 hsl
      rw [← hm]
      go_wp2_with fail
      go_loopw [24] (fun i wr => ∃ (k : Nat) (cur : List WH), k ≤ m ∧ i = .int .i64 k ∧ Ext w wr ∧ OwnH w.heap.size 22 wr (.slice (some ⟨g, 0, none⟩) m cap') cur ∧ cur.map WH.x = cs.map WH.x ∧
        cur.drop k = cs.drop k ∧ (∀ j h, j < k → cur[j]? = some h → OwnS w.heap.size 39 wr h.v h.x)) (fun i _ => m - (intOf i).toNat)
      case atStart => exact ⟨0, cs, Nat.zero_le _, rfl, hx4, hown4, rfl, rfl, fun j h hj => absurd hj (Nat.not_lt_zero _)⟩
      case round =>
        obtain ⟨k, cur, hk, rfl, hx5, hown5, hmap, hdr, hdone⟩ := hrel
        have hcl := (OwnH.ge hown5).2.2.1
        by_cases hlt : k < m
        · obtain ⟨y, hy⟩ : ∃ y, cs[k]? = some y := ⟨cs[k]'(by omega), List.getElem?_eq_getElem _⟩
          have hy' := (drop_at_eq hdr (Nat.le_refl _)).trans hy
          have hc0 := OwnH.at hown5 hy'
          have hym := List.mem_of_getElem? hy
          have hry := (hokc y hym).ext hx5
          have hyl : y.n ≤ 60000 := by have := hry.len; have := hl32c y hym; omega
          go_wp2_with fail
          refine (clone_any y.a y.n y.cap y.x _ hry hyl).mono ?_
          rintro e w6 ⟨v6, rfl, hown6, hx6⟩
          obtain ⟨a6, c6, rfl, hr6⟩ := OwnK.rd Snd.len hown6
          have hown7 := OwnK.kept hown5 hx6
          have hc7 := OwnH.at hown7 hy'
          have hf7 := OwnH.free hown7 k
          have hown8 := OwnH.set hown7 k ⟨a6, y.x.length, c6, y.x⟩
          go_wp2_with fail
          (first | exact ⟨⟨k + 1, cur.set k ⟨a6, y.x.length, c6, y.x⟩, by omega, by go_num, Ext.setCell (p := ⟨g, k, none⟩) (hx5.trans hx6) hB _, hown8, map_set_same hmap hy, drop_set' hdr (Nat.le_refl _) rfl, fun j h hj hjh => own_set (OwnK.base hown6 hx5.le) hown7 (fun j h hj hjh => OwnK.kept (hdone j h hj hjh) hx6) hj hjh⟩, (by simp [intOf]; omega)⟩ | (go_roundw; case rel => exact ⟨k + 1, cur.set k ⟨a6, y.x.length, c6, y.x⟩, by omega, by go_num, Ext.setCell (p := ⟨g, k, none⟩) (hx5.trans hx6) hB _, hown8, map_set_same hmap hy, drop_set' hdr (Nat.le_refl _) rfl, fun j h hj hjh => own_set (OwnK.base hown6 hx5.le) hown7 (fun j h hj hjh => OwnK.kept (hdone j h hj hjh) hx6) hj hjh⟩; case measure => exact (by simp [intOf]; omega)))
        · have hkm : k = m := by omega
          go_wp2_with fail
          go_ret2
          subst hm
          refine ⟨hx5, .inr (.inr ⟨by omega, Hc.out, .slice (some ⟨g, 0, Option.none⟩) cs.length cap', cs.map WH.x, rfl, hsort, cur, hown5, hmap, fun h hh => ?_⟩)⟩
          obtain ⟨j, hj⟩ := List.mem_iff_getElem?.1 hh
          exact hdone j h (by have := (List.getElem?_eq_some_iff.1 hj).1; omega) hj
  · have hcd : (checkWs ws != 0) = true := by simpa using hc
    have Hc := Lib.hid hc; clear hc
    go_enter Try.func29, Try.ntmps29
    go_wp2_with (go_at_call 51; refine (checks_any _ _ _ ws _ hr).mono ?_; rintro e w1 ⟨rfl, hx1⟩)
    go_ret2
    exact ⟨hx1, .inr (.inl ⟨by omega, Hc.out, rfl⟩)⟩
end Go.Proofs.Ytphfnmmdfnfnaaa
