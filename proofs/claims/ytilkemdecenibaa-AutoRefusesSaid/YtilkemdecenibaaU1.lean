/-
  Patterns that can be read; Satisfies; how wide a pattern is.
-/
import Derived.Test.YtilkemdecenibaaFv
import Derived.Test.YtilkemdecenibaaOs
import Derived.IntWalk
namespace Go.Proofs.Ytilkemdecenibaa
open Go.RowKit
/-! ### Satisfies -/
theorem andn_nat (x y : BitVec 32) : x.toNat &&& (4294967295 - y.toNat) = (x &&& ~~~y).toNat := by
  rw [BitVec.toNat_and, BitVec.toNat_not]
theorem andn_zero (x y : BitVec 32) : (((x.toNat &&& (4294967295 - y.toNat) : Nat) : Int) == 0) = (x &&& ~~~y == 0#32) := by
  rw [andn_nat, Bool.eq_iff_iff, beq_iff_eq, beq_iff_eq]
  constructor
  · intro h; exact BitVec.eq_of_toNat_eq (by simpa using h)
  · intro h; rw [h]; rfl
abbrev sndV (s : Snd) : Value := .agg #[.int .u32 s.p.toNat, .int .u32 s.m.toNat]
/-- Has the sound all values of the condition? -/
def satB (s c : Snd) : Bool := (c.p &&& ~~~s.p == 0#32) && (c.m &&& ~~~s.m == 0#32)
theorem sat_any (s c : Snd) (w : World) (hs : s.ok = true) (hc : c.ok = true) :
    Calls Try.prog 109 #[sndV s, sndV c] w fun e w' => e = .returned (.bool (satB s c)) ∧ Ext w w' := by
  have eP := andn_zero c.p s.p
  have eM := andn_zero c.m s.m
  unfold satB
  cases hp : (c.p &&& ~~~s.p == 0#32)
  · rw [hp] at eP
    replace hp := Lib.hid hp
    replace eM := Lib.hid eM
    go_enter Try.func109, Try.ntmps109
    go_wp2_with fail
    refine (cbool (fvalid_any s _) hs).mono ?_
    rintro e w1 ⟨rfl, hx1⟩
    have hcl1 := fun b o (h : b < _) => Ext.cell hx1 (b := b) o h
    go_wp2_with fail
    refine (cbool (fvalid_any c _) hc).mono ?_
    rintro e w1 ⟨rfl, hx2⟩
    replace hx1 := Ext.trans hx1 (Ext.trans (by repeat (first | exact Ext.refl _ | refine Ext.drew ?_ | refine Ext.drewN ?_ _ | refine Ext.alloc ?_ _)) hx2)
    replace hcl1 := fun b o (h : b < _) => Ext.cell hx1 (b := b) o h
    clear hx2
    go_wp2_with fail
    go_ret
    exact ⟨rfl, (by repeat (first | exact Ext.refl _ | assumption | refine Ext.drew ?_ | refine Ext.drewN ?_ _ | refine Ext.alloc ?_ _ | refine Ext.trans ?_ (by assumption)))⟩
  · rw [hp] at eP
    replace hp := Lib.hid hp
    generalize (c.m &&& ~~~s.m == 0#32) = B at *
    go_enter Try.func109, Try.ntmps109
    go_wp2_with fail
    refine (cbool (fvalid_any s _) hs).mono ?_
    rintro e w1 ⟨rfl, hx1⟩
    have hcl1 := fun b o (h : b < _) => Ext.cell hx1 (b := b) o h
    go_wp2_with fail
    refine (cbool (fvalid_any c _) hc).mono ?_
    rintro e w1 ⟨rfl, hx2⟩
    replace hx1 := Ext.trans hx1 (Ext.trans (by repeat (first | exact Ext.refl _ | refine Ext.drew ?_ | refine Ext.drewN ?_ _ | refine Ext.alloc ?_ _)) hx2)
    replace hcl1 := fun b o (h : b < _) => Ext.cell hx1 (b := b) o h
    clear hx2
    go_wp2_with fail
    go_ret
    exact ⟨by first | rfl | (rw [eM]; rfl) | simp [eM], (by repeat (first | exact Ext.refl _ | assumption | refine Ext.drew ?_ | refine Ext.drewN ?_ _ | refine Ext.alloc ?_ _ | refine Ext.trans ?_ (by assumption)))⟩
/-! ### Patterns -/
/-- A pattern, with the header of its list. -/
inductive HP where
  | mk (kind : Int) (is : Snd) (neg : Bool) (mn mx : Int) (a : Option Addr) (n cap : Nat) (l : List HP)
namespace HP
def kind : HP → Int | .mk k _ _ _ _ _ _ _ _ => k
def is : HP → Snd | .mk _ s _ _ _ _ _ _ _ => s
def neg : HP → Bool | .mk _ _ b _ _ _ _ _ _ => b
def mn : HP → Int | .mk _ _ _ m _ _ _ _ _ => m
def mx : HP → Int | .mk _ _ _ _ m _ _ _ _ => m
def a : HP → Option Addr | .mk _ _ _ _ _ a _ _ _ => a
def n : HP → Nat | .mk _ _ _ _ _ _ n _ _ => n
def cap : HP → Nat | .mk _ _ _ _ _ _ _ c _ => c
def l : HP → List HP | .mk _ _ _ _ _ _ _ _ l => l
def enc (h : HP) : List Value := [.int .i64 h.kind, .int .u32 h.is.p.toNat, .int .u32 h.is.m.toNat, .bool h.neg, .int .i64 h.mn, .int .i64 h.mx, .slice h.a h.n h.cap]
theorem len (h : HP) : (enc h).length = 7 := rfl
theorem one (h : HP) : ∀ u ∈ enc h, u.oneCell' = true := by
  intro u hu
  simp only [enc, List.mem_cons, List.not_mem_nil, or_false] at hu
  rcases hu with rfl | rfl | rfl | rfl | rfl | rfl | rfl <;> rfl
mutual
def sz : HP → Nat
  | .mk _ _ _ _ _ _ _ _ l => 1 + szL l
def szL : List HP → Nat
  | [] => 0
  | x :: l => sz x + szL l
end
theorem szL_mem {x : HP} : ∀ {l : List HP}, x ∈ l → sz x ≤ szL l
  | y :: l, h => by
    simp only [szL]
    rcases List.mem_cons.1 h with rfl | h
    · omega
    · have := szL_mem h; omega
theorem sz_mem {h x : HP} (hx : x ∈ h.l) : sz x < sz h := by
  cases h with
  | mk k s b m1 m2 a n c l =>
    have := szL_mem (show x ∈ l from hx)
    simp only [sz]; omega
end HP
abbrev patV (h : HP) : Value := .agg #[.int .i64 h.kind, .int .u32 h.is.p.toNat, .int .u32 h.is.m.toNat, .bool h.neg, .int .i64 h.mn, .int .i64 h.mx, .slice h.a h.n h.cap]
mutual
def RdPt (w : World) : HP → Prop
  | .mk _ _ _ _ _ a n cap l => RdK 7 HP.enc w a n cap l ∧ RdPts w l
def RdPts (w : World) : List HP → Prop
  | [] => True
  | x :: l => RdPt w x ∧ RdPts w l
end
theorem rdPts_mem {w : World} {x : HP} : ∀ {l : List HP}, RdPts w l → x ∈ l → RdPt w x
  | y :: l, h, hx => by
    simp only [RdPts] at h
    rcases List.mem_cons.1 hx with rfl | hx
    · exact h.1
    · exact rdPts_mem h.2 hx
theorem RdPt.rd {w : World} {h : HP} (hr : RdPt w h) : RdK 7 HP.enc w h.a h.n h.cap h.l := by
  cases h; simp only [RdPt] at hr; exact hr.1
theorem RdPt.sub {w : World} {h x : HP} (hr : RdPt w h) (hx : x ∈ h.l) : RdPt w x := by
  cases h; simp only [RdPt] at hr; exact rdPts_mem hr.2 hx
theorem RdPt.mk' {w : World} {h : HP} (h1 : RdK 7 HP.enc w h.a h.n h.cap h.l) (h2 : ∀ x ∈ h.l, RdPt w x) : RdPt w h := by
  cases h with
  | mk k s b m1 m2 a n c l =>
    simp only [RdPt]
    refine ⟨h1, ?_⟩
    have : ∀ l' : List HP, (∀ x ∈ l', RdPt w x) → RdPts w l' := fun l' => by
      induction l' with
      | nil => intro _; simp only [RdPts]
      | cons y l' ih => intro h; simp only [RdPts]; exact ⟨h y List.mem_cons_self, ih fun x hx => h x (List.mem_cons_of_mem _ hx)⟩
    exact this l h2
theorem RdPt.ext {w w' : World} : ∀ {h : HP}, RdPt w h → Ext w w' → RdPt w' h := fun {h} hr hx => by
  have key : ∀ (m : Nat) (h : HP), HP.sz h ≤ m → RdPt w h → RdPt w' h := fun m => by
    induction m with
    | zero => intro h hm; cases h; simp only [HP.sz] at hm; omega
    | succ m ih =>
      intro h hm hr
      exact RdPt.mk' (hr.rd.ext hx) fun x hx' => ih x (by have := HP.sz_mem hx'; omega) (hr.sub hx')
  exact key _ h (Nat.le_refl _) hr
theorem RdPt.at {w : World} {h : HP} (hr : RdPt w h) {i : Nat} (hi : i < h.n) :
    ∃ b off x, h.a = some ⟨b, off, none⟩ ∧ Hid (h.l[i]? = some x) ∧ b < w.heap.size ∧ RdPt w x ∧
      w.cell? ⟨b, off + i * 7, none⟩ = some (.int .i64 x.kind) ∧ w.cell? ⟨b, off + i * 7 + 1, none⟩ = some (.int .u32 x.is.p.toNat) ∧ w.cell? ⟨b, off + i * 7 + 2, none⟩ = some (.int .u32 x.is.m.toNat) ∧
      w.cell? ⟨b, off + i * 7 + 3, none⟩ = some (.bool x.neg) ∧ w.cell? ⟨b, off + i * 7 + 4, none⟩ = some (.int .i64 x.mn) ∧ w.cell? ⟨b, off + i * 7 + 5, none⟩ = some (.int .i64 x.mx) ∧ w.cell? ⟨b, off + i * 7 + 6, none⟩ = some (.slice x.a x.n x.cap) := by
  obtain ⟨b, off, x, ha, hx, hb, hc⟩ := hr.rd.get hi
  exact ⟨b, off, x, ha, hx, hb, hr.sub (List.mem_of_getElem? hx.out), by simpa using hc 0 _ rfl, hc 1 _ rfl, hc 2 _ rfl, hc 3 _ rfl, hc 4 _ rfl, hc 5 _ rfl, hc 6 _ rfl⟩
mutual
/-- Each node's numbers are small. -/
def HP.numB : HP → Bool
  | .mk kd _ _ mn mx _ _ _ l => decide (0 ≤ mn) && decide (mn ≤ 32) && decide (-1 ≤ mx) && decide (mx ≤ 32) && HP.numBL l && (decide (kd ≠ 5) || !l.isEmpty)
def HP.numBL : List HP → Bool
  | [] => true
  | x :: l => HP.numB x && HP.numBL l
end
theorem HP.numBL_mem {x : HP} : ∀ {l : List HP}, HP.numBL l = true → x ∈ l → HP.numB x = true
  | y :: l, h, hx => by
    simp only [HP.numBL, Bool.and_eq_true] at h
    rcases List.mem_cons.1 hx with rfl | hx
    · exact h.1
    · exact HP.numBL_mem h.2 hx
theorem HP.numB_rep {h : HP} (hn : h.numB = true) (hk : h.kind = 5) : h.l ≠ [] := by
  cases h with
  | mk k s b m1 m2 a n c l =>
    simp only [HP.numB, Bool.and_eq_true, Bool.or_eq_true, decide_eq_true_eq] at hn
    change k = 5 at hk
    change l ≠ []
    intro e
    subst e
    rcases hn.2 with h | h
    · exact h hk
    · cases h
theorem HP.numB_at {h : HP} (hn : h.numB = true) : (0 ≤ h.mn ∧ h.mn ≤ 32 ∧ -1 ≤ h.mx ∧ h.mx ≤ 32) ∧ ∀ x ∈ h.l, x.numB = true := by
  cases h with
  | mk k s b m1 m2 a n c l =>
    simp only [HP.numB, Bool.and_eq_true, decide_eq_true_eq] at hn
    exact ⟨⟨hn.1.1.1.1.1, hn.1.1.1.1.2, hn.1.1.1.2, hn.1.1.2⟩, fun x hx => HP.numBL_mem hn.1.2 hx⟩
/-! ### The width -/
mutual
def wid : HP → Nat
  | .mk kind _ _ mn mx _ _ _ l => if kind = 5 then min (widL l (if kind = 1 then 1 else 0) * (max (max 1 mn) mx).toNat) 11 else widL l (if kind = 1 then 1 else 0)
def widL : List HP → Nat → Nat
  | [], k => k
  | x :: l, k => widL l (min (k + wid x) 11)
end
theorem widL_snoc : ∀ (l : List HP) (x : HP) (k : Nat), widL (l ++ [x]) k = min (widL l k + wid x) 11
  | [], x, k => by simp [widL]
  | y :: l, x, k => by simp only [List.cons_append, widL]; exact widL_snoc l x _
theorem widL_succ {l : List HP} {i : Nat} {x : HP} (h : l[i]? = some x) (k : Nat) : widL (l.take (i + 1)) k = min (widL (l.take i) k + wid x) 11 := by
  rw [take_succ_at h, widL_snoc]
theorem widL_le : ∀ (l : List HP) (k : Nat), k ≤ 11 → widL l k ≤ 11
  | [], k, h => by simpa [widL] using h
  | x :: l, k, h => by simp only [widL]; exact widL_le l _ (by omega)
theorem wid_le (h : HP) : wid h ≤ 11 := by
  cases h with
  | mk k s b m1 m2 a n c l =>
    simp only [wid]
    split
    · exact Nat.min_le_right _ _
    · exact widL_le _ _ (by split <;> omega)
set_option maxHeartbeats 1000000 in
theorem width_any : ∀ (m : Nat) (h : HP) (w : World), HP.sz h ≤ m → RdPt w h → h.numB = true →
    Calls Try.prog 106 #[patV h] w fun e w' => e = .returned (.int .i64 (wid h : Int)) ∧ Ext w w' := by
  intro m
  induction m with
  | zero => intro h w hm; cases h; simp only [HP.sz] at hm; omega
  | succ m ih =>
    intro h w hm hr hnb
    obtain ⟨⟨n1, n2, n3, n4⟩, hsub⟩ := HP.numB_at hnb
    have hl := hr.rd.len
    have hle := hr.rd.le
    have hmost := hr.rd.most
    unfold maxLen at hmost
    obtain ⟨kd, is, neg, mn, mx, a, n, cap, l⟩ := h
    change 0 ≤ mn at n1; change mn ≤ 32 at n2; change -1 ≤ mx at n3; change mx ≤ 32 at n4
    change l.length = n at hl
    change n ≤ cap at hle
    change cap ≤ _ at hmost
    change ∀ x ∈ l, _ at hsub
    have hmax : n ≤ 9223372036854775807 := by omega
    have hxB : Ext w (w.alloc (.cells #[.int .i64 kd, .int .u32 is.p.toNat, .int .u32 is.m.toNat, .bool neg, .int .i64 mn, .int .i64 mx, .slice a n cap] 27)) := (by repeat (first | exact Ext.refl _ | refine Ext.drew ?_ | refine Ext.drewN ?_ _ | refine Ext.alloc ?_ _))
    have q0 : (w.alloc (.cells #[.int .i64 kd, .int .u32 is.p.toNat, .int .u32 is.m.toNat, .bool neg, .int .i64 mn, .int .i64 mx, .slice a n cap] 27)).cell? ⟨w.heap.size, 0, none⟩ = some (.int .i64 kd) := by go_simp
    have q4 : (w.alloc (.cells #[.int .i64 kd, .int .u32 is.p.toNat, .int .u32 is.m.toNat, .bool neg, .int .i64 mn, .int .i64 mx, .slice a n cap] 27)).cell? ⟨w.heap.size, 4, none⟩ = some (.int .i64 mn) := by go_simp
    have q5 : (w.alloc (.cells #[.int .i64 kd, .int .u32 is.p.toNat, .int .u32 is.m.toNat, .bool neg, .int .i64 mn, .int .i64 mx, .slice a n cap] 27)).cell? ⟨w.heap.size, 5, none⟩ = some (.int .i64 mx) := by go_simp
    show Calls Try.prog 106 #[.agg #[.int .i64 kd, .int .u32 is.p.toNat, .int .u32 is.m.toNat, .bool neg, .int .i64 mn, .int .i64 mx, .slice a n cap]] w _
    have hw1 : wid (.mk kd is neg mn mx a n cap l) = if kd = 5 then min (widL l (if kd = 1 then 1 else 0) * (max (max 1 mn) mx).toNat) 11 else widL l (if kd = 1 then 1 else 0) := by simp only [wid]
    generalize wid (.mk kd is neg mn mx a n cap l) = R at *
    replace hl := Lib.hid hl
    replace hsub := Lib.hid hsub
    replace hnb := Lib.hid hnb
    by_cases hk1 : kd = 1
    · rw [if_neg (by omega), if_pos hk1] at hw1
      have d1 : (kd == 1) = true := by simpa using hk1
      have d5 : (kd == 5) = false := by simp; omega
      replace hk1 := Lib.hid hk1
      go_enter Try.func106, Try.ntmps106
      go_wp2_with fail
      go_loopw [3, 12] (fun nv iv wr => ∃ i : Nat, i ≤ n ∧ iv = .int .i64 i ∧ nv = .int .i64 ((widL (l.take i) 1 : Nat) : Int) ∧ Ext (w.alloc (.cells #[.int .i64 kd, .int .u32 is.p.toNat, .int .u32 is.m.toNat, .bool neg, .int .i64 mn, .int .i64 mx, .slice a n cap] 27)) wr) (fun _ iv _ => n - (intOf iv).toNat)
      case atStart => exact ⟨0, Nat.zero_le _, rfl, by simp [widL], Ext.refl _⟩
      case round =>
        obtain ⟨i, hi, rfl, rfl, hx⟩ := hrel
        by_cases hlt : i < n
        · obtain ⟨b, off, x, ha, hxi, hb, hrx, c0, c1, c2, c3, c4, c5, c6⟩ := (hr.ext (hxB.trans hx)).at (i := i) hlt
          change a = some _ at ha
          subst ha
          have hxi : Hid (l[i]? = some x) := hxi
          have hxm := List.mem_of_getElem? hxi.out
          have hrec := ih x (wr.alloc (.cells #[.int .i64 x.kind, .int .u32 x.is.p.toNat, .int .u32 x.is.m.toNat, .bool x.neg, .int .i64 x.mn, .int .i64 x.mx, .slice x.a x.n x.cap] 27)) (by have := HP.sz_mem (h := .mk kd is neg mn mx (some ⟨b, off, none⟩) n cap l) hxm; omega) (hrx.ext (Ext.alloc1 _ _)) (hsub.out x hxm)
          have hsu := widL_succ hxi.out 1
          have hw11 := wid_le x
          have hwl := widL_le (l.take i) 1 (by decide)
          obtain ⟨A, hA⟩ : ∃ A, A = widL (l.take i) 1 := ⟨_, rfl⟩
          rw [← hA] at hsu hwl ⊢
          generalize wid x = Wx at *
          have hki : (i : Int) < (n : Int) := by omega
          replace hxi := Lib.hid hxi.out
          replace hA := Lib.hid hA
          have hmin : min ((A : Int) + (Wx : Int)) 11 = ((widL (l.take (i + 1)) 1 : Nat) : Int) := by rw [hsu]; omega
          replace hsu := Lib.hid hsu
          replace hmin := Lib.hid hmin
          go_wp2_with fail
          refine hrec.mono ?_
          rintro e w2 ⟨rfl, hx2⟩
          clear hrec
          go_wp2_with fail
          refine ⟨⟨i + 1, hlt, by go_num, by rw [hsu.out]; congr 1; split <;> omega, (hx.alloc _).trans hx2⟩, ?_⟩
          simp only [intOf]
          omega
        · obtain rfl : i = n := by omega
          have hxw := hxB.trans hx
          have k0 := hx.cellv q0
          have k4 := hx.cellv q4
          have k5 := hx.cellv q5
          have hwl := widL_le (l.take i) 1 (by decide)
          rw [List.take_of_length_le (by rw [hl.out]; exact Nat.le_refl _)] at hwl ⊢
          obtain ⟨A, hA⟩ : ∃ A, A = widL l 1 := ⟨_, rfl⟩
          rw [← hA] at hwl hw1 ⊢
          replace hA := Lib.hid hA
          subst hw1
          go_wp2_with fail
          go_ret
          exact ⟨rfl, hxw⟩
    · rw [if_neg hk1] at hw1
      have d1 : (kd == 1) = false := by simpa using hk1
      replace hk1 := Lib.hid hk1
      by_cases hk5 : kd = 5
      · rw [if_pos hk5] at hw1
        have d5 : (kd == 5) = true := by simpa using hk5
        replace hk5 := Lib.hid hk5
        go_enter Try.func106, Try.ntmps106
        go_wp2_with fail
        go_loopw [3, 12] (fun nv iv wr => ∃ i : Nat, i ≤ n ∧ iv = .int .i64 i ∧ nv = .int .i64 ((widL (l.take i) 0 : Nat) : Int) ∧ Ext (w.alloc (.cells #[.int .i64 kd, .int .u32 is.p.toNat, .int .u32 is.m.toNat, .bool neg, .int .i64 mn, .int .i64 mx, .slice a n cap] 27)) wr) (fun _ iv _ => n - (intOf iv).toNat)
        case atStart => exact ⟨0, Nat.zero_le _, rfl, by simp [widL], Ext.refl _⟩
        case round =>
          obtain ⟨i, hi, rfl, rfl, hx⟩ := hrel
          by_cases hlt : i < n
          · obtain ⟨b, off, x, ha, hxi, hb, hrx, c0, c1, c2, c3, c4, c5, c6⟩ := (hr.ext (hxB.trans hx)).at (i := i) hlt
            change a = some _ at ha
            subst ha
            have hxi : Hid (l[i]? = some x) := hxi
            have hxm := List.mem_of_getElem? hxi.out
            have hrec := ih x (wr.alloc (.cells #[.int .i64 x.kind, .int .u32 x.is.p.toNat, .int .u32 x.is.m.toNat, .bool x.neg, .int .i64 x.mn, .int .i64 x.mx, .slice x.a x.n x.cap] 27)) (by have := HP.sz_mem (h := .mk kd is neg mn mx (some ⟨b, off, none⟩) n cap l) hxm; omega) (hrx.ext (Ext.alloc1 _ _)) (hsub.out x hxm)
            have hsu := widL_succ hxi.out 0
            have hw11 := wid_le x
            have hwl := widL_le (l.take i) 0 (by decide)
            obtain ⟨A, hA⟩ : ∃ A, A = widL (l.take i) 0 := ⟨_, rfl⟩
            rw [← hA] at hsu hwl ⊢
            generalize wid x = Wx at *
            have hki : (i : Int) < (n : Int) := by omega
            replace hxi := Lib.hid hxi.out
            replace hA := Lib.hid hA
            have hmin : min ((A : Int) + (Wx : Int)) 11 = ((widL (l.take (i + 1)) 0 : Nat) : Int) := by rw [hsu]; omega
            replace hsu := Lib.hid hsu
            replace hmin := Lib.hid hmin
            go_wp2_with fail
            refine hrec.mono ?_
            rintro e w2 ⟨rfl, hx2⟩
            clear hrec
            go_wp2_with fail
            refine ⟨⟨i + 1, hlt, by go_num, by rw [hsu.out]; congr 1; split <;> omega, (hx.alloc _).trans hx2⟩, ?_⟩
            simp only [intOf]
            omega
          · obtain rfl : i = n := by omega
            have hxw := hxB.trans hx
            have k0 := hx.cellv q0
            have k4 := hx.cellv q4
            have k5 := hx.cellv q5
            have hwl := widL_le (l.take i) 0 (by decide)
            rw [List.take_of_length_le (by rw [hl.out]; exact Nat.le_refl _)] at hwl ⊢
            obtain ⟨A, hA⟩ : ∃ A, A = widL l 0 := ⟨_, rfl⟩
            rw [← hA] at hwl hw1 ⊢
            replace hA := Lib.hid hA
            have hR1 : mn ≤ 1 → mx ≤ 1 → (R : Int) = min (A : Int) 11 := fun h1 h2 => by
              rw [hw1, show (max (max 1 mn) mx).toNat = 1 by omega, Nat.mul_one]; omega
            have hR2 : 1 ≤ mn → mx ≤ mn → (R : Int) = min ((A : Int) * mn) 11 := fun h1 h2 => by
              obtain ⟨u, rfl⟩ : ∃ u : Nat, mn = u := ⟨mn.toNat, by omega⟩
              rw [hw1, show (max (max 1 (u : Int)) mx).toNat = u by omega, ← Int.natCast_mul]; omega
            have hR3 : 1 ≤ mx → mn ≤ mx → (R : Int) = min ((A : Int) * mx) 11 := fun h1 h2 => by
              obtain ⟨u, rfl⟩ : ∃ u : Nat, mx = u := ⟨mx.toNat, by omega⟩
              rw [hw1, show (max (max 1 mn) (u : Int)).toNat = u by omega, ← Int.natCast_mul]; omega
            replace hw1 := Lib.hid hw1
            have hp1 : 0 ≤ (A : Int) * mn := Int.mul_nonneg (by omega) n1
            have hp2 : (A : Int) * mn ≤ 352 := Int.le_trans (Int.mul_le_mul_of_nonneg_left n2 (by omega)) (by omega)
            have hp3 : (A : Int) * mx ≤ 352 := Int.le_trans (Int.mul_le_mul_of_nonneg_left n4 (by omega)) (by omega)
            have hp4 : -11 ≤ (A : Int) * mx := Int.le_trans (show (-11 : Int) ≤ (A : Int) * (-1) by omega) (Int.mul_le_mul_of_nonneg_left n3 (by omega))
            have hz1 : wrap64 (A : Int) = (A : Int) := by unfold wrap64; omega
            have hz2 : wrap64 ((A : Int) * mn) = (A : Int) * mn := by unfold wrap64; omega
            have hz3 : wrap64 ((A : Int) * mx) = (A : Int) * mx := by unfold wrap64; omega
            have hA0 : (0 : Int) ≤ (A : Int) := by omega
            have hA11 : (A : Int) ≤ 11 := by omega
            by_cases g1 : mx ≤ 1
            · by_cases g2 : mn ≤ 1
              · have hR := hR1 g2 g1
                clear hR1 hR2 hR3 hz2 hz3 hp1 hp2 hp3 hp4 hw1
                have hv : (A : Int) = (R : Int) := by rw [hR]; omega
                replace hv := Lib.hid hv
                clear hR
                go_wp2_with fail
                go_ret
                exact ⟨ret_int (a := (A : Int)) hv.out, hxw⟩
              · have hR := hR2 (by omega) (by omega)
                have g3 : mx < mn := by omega
                have g4 : ¬ mn < mx := by omega
                have g5 : 1 < mn := by omega
                clear hR1 hR2 hR3 hz1 hz3 hp3 hp4 hw1
                by_cases hc : 11 < (A : Int) * mn
                · have hv : (11 : Int) = (R : Int) := by rw [hR]; omega
                  replace hv := Lib.hid hv
                  clear hR
                  go_wp2_with fail
                  go_ret
                  exact ⟨ret_int (a := 11) hv.out, hxw⟩
                · have hv : (A : Int) * mn = (R : Int) := by rw [hR]; omega
                  replace hv := Lib.hid hv
                  clear hR
                  have hc' : (A : Int) * mn ≤ 11 := by omega
                  go_wp2_with fail
                  go_ret
                  exact ⟨ret_int (a := (A : Int) * mn) hv.out, hxw⟩
            · by_cases g2 : mn ≤ 1
              · have hR := hR3 (by omega) (by omega)
                have g5 : 1 < mx := by omega
                clear hR1 hR2 hR3 hz1 hz2 hp1 hp2 hw1
                by_cases hc : 11 < (A : Int) * mx
                · have hv : (11 : Int) = (R : Int) := by rw [hR]; omega
                  replace hv := Lib.hid hv
                  clear hR
                  go_wp2_with fail
                  go_ret
                  exact ⟨ret_int (a := 11) hv.out, hxw⟩
                · have hv : (A : Int) * mx = (R : Int) := by rw [hR]; omega
                  replace hv := Lib.hid hv
                  clear hR
                  have hc' : (A : Int) * mx ≤ 11 := by omega
                  go_wp2_with fail
                  go_ret
                  exact ⟨ret_int (a := (A : Int) * mx) hv.out, hxw⟩
              · have g5 : 1 < mn := by omega
                by_cases g6 : mn < mx
                · have hR := hR3 (by omega) (by omega)
                  clear hR1 hR2 hR3 hz1 hz2 hp1 hp2 hw1
                  by_cases hc : 11 < (A : Int) * mx
                  · have hv : (11 : Int) = (R : Int) := by rw [hR]; omega
                    replace hv := Lib.hid hv
                    clear hR
                    go_wp2_with fail
                    go_ret
                    exact ⟨ret_int (a := 11) hv.out, hxw⟩
                  · have hv : (A : Int) * mx = (R : Int) := by rw [hR]; omega
                    replace hv := Lib.hid hv
                    clear hR
                    have hc' : (A : Int) * mx ≤ 11 := by omega
                    go_wp2_with fail
                    go_ret
                    exact ⟨ret_int (a := (A : Int) * mx) hv.out, hxw⟩
                · have hR := hR2 (by omega) (by omega)
                  clear hR1 hR2 hR3 hz1 hz3 hp3 hp4 hw1
                  by_cases hc : 11 < (A : Int) * mn
                  · have hv : (11 : Int) = (R : Int) := by rw [hR]; omega
                    replace hv := Lib.hid hv
                    clear hR
                    go_wp2_with fail
                    go_ret
                    exact ⟨ret_int (a := 11) hv.out, hxw⟩
                  · have hv : (A : Int) * mn = (R : Int) := by rw [hR]; omega
                    replace hv := Lib.hid hv
                    clear hR
                    have hc' : (A : Int) * mn ≤ 11 := by omega
                    go_wp2_with fail
                    go_ret
                    exact ⟨ret_int (a := (A : Int) * mn) hv.out, hxw⟩
      · rw [if_neg hk5] at hw1
        have d5 : (kd == 5) = false := by simpa using hk5
        replace hk5 := Lib.hid hk5
        go_enter Try.func106, Try.ntmps106
        go_wp2_with fail
        go_loopw [3, 12] (fun nv iv wr => ∃ i : Nat, i ≤ n ∧ iv = .int .i64 i ∧ nv = .int .i64 ((widL (l.take i) 0 : Nat) : Int) ∧ Ext (w.alloc (.cells #[.int .i64 kd, .int .u32 is.p.toNat, .int .u32 is.m.toNat, .bool neg, .int .i64 mn, .int .i64 mx, .slice a n cap] 27)) wr) (fun _ iv _ => n - (intOf iv).toNat)
        case atStart => exact ⟨0, Nat.zero_le _, rfl, by simp [widL], Ext.refl _⟩
        case round =>
          obtain ⟨i, hi, rfl, rfl, hx⟩ := hrel
          by_cases hlt : i < n
          · obtain ⟨b, off, x, ha, hxi, hb, hrx, c0, c1, c2, c3, c4, c5, c6⟩ := (hr.ext (hxB.trans hx)).at (i := i) hlt
            change a = some _ at ha
            subst ha
            have hxi : Hid (l[i]? = some x) := hxi
            have hxm := List.mem_of_getElem? hxi.out
            have hrec := ih x (wr.alloc (.cells #[.int .i64 x.kind, .int .u32 x.is.p.toNat, .int .u32 x.is.m.toNat, .bool x.neg, .int .i64 x.mn, .int .i64 x.mx, .slice x.a x.n x.cap] 27)) (by have := HP.sz_mem (h := .mk kd is neg mn mx (some ⟨b, off, none⟩) n cap l) hxm; omega) (hrx.ext (Ext.alloc1 _ _)) (hsub.out x hxm)
            have hsu := widL_succ hxi.out 0
            have hw11 := wid_le x
            have hwl := widL_le (l.take i) 0 (by decide)
            obtain ⟨A, hA⟩ : ∃ A, A = widL (l.take i) 0 := ⟨_, rfl⟩
            rw [← hA] at hsu hwl ⊢
            generalize wid x = Wx at *
            have hki : (i : Int) < (n : Int) := by omega
            replace hxi := Lib.hid hxi.out
            replace hA := Lib.hid hA
            have hmin : min ((A : Int) + (Wx : Int)) 11 = ((widL (l.take (i + 1)) 0 : Nat) : Int) := by rw [hsu]; omega
            replace hsu := Lib.hid hsu
            replace hmin := Lib.hid hmin
            go_wp2_with fail
            refine hrec.mono ?_
            rintro e w2 ⟨rfl, hx2⟩
            clear hrec
            go_wp2_with fail
            refine ⟨⟨i + 1, hlt, by go_num, by rw [hsu.out]; congr 1; split <;> omega, (hx.alloc _).trans hx2⟩, ?_⟩
            simp only [intOf]
            omega
          · obtain rfl : i = n := by omega
            have hxw := hxB.trans hx
            have k0 := hx.cellv q0
            have k4 := hx.cellv q4
            have k5 := hx.cellv q5
            have hwl := widL_le (l.take i) 0 (by decide)
            rw [List.take_of_length_le (by rw [hl.out]; exact Nat.le_refl _)] at hwl ⊢
            obtain ⟨A, hA⟩ : ∃ A, A = widL l 0 := ⟨_, rfl⟩
            rw [← hA] at hwl hw1 ⊢
            replace hA := Lib.hid hA
            subst hw1
            go_wp2_with fail
            go_ret
            exact ⟨rfl, hxw⟩
end Go.Proofs.Ytilkemdecenibaa
