/-
  corr.key.
-/
import Derived.Test.YtjfhfbobnncpkaaDoorKr
import Derived.Test.YtjfhfbobnncpkaaDoorOh
import Derived.Laws.IdiomStrings
import Derived.Laws.BytesArg
namespace Go.Proofs.YtjfhfbobnncpkaaDoor
open Go.RowKit
def By.enc (b : UInt8) : List Value := [.int .u8 (b.toNat : Int)]
theorem By.len (b : UInt8) : (By.enc b).length = 1 := rfl
theorem By.one (b : UInt8) : ∀ u ∈ By.enc b, u.oneCell' = true := by intro u hu; simp [By.enc] at hu; subst hu; rfl
theorem info_u8 : (Tryd.prog.info? 5).map (fun i => (i.zero, i.size, i.bytes)) = some (some (.int .u8 0), 1, 1) := by kernel_rfl
theorem keyCs_succ {x : List Cl} {j : Nat} {c : Cl} (h : x[j]? = some c) : keyCs (x.take (j + 1)) = keyCs (x.take j) ++ keyC c := by
  unfold keyCs; rw [take_succ_at h, List.flatMap_append]; simp
theorem keyCs_len : ∀ x : List Cl, (keyCs x).length = 9 * x.length
  | [] => rfl
  | c :: x => by
    have := keyCs_len x
    unfold keyCs at this ⊢
    rw [List.flatMap_cons, List.length_append, this, List.length_cons]
    have : (keyC c).length = 9 := rfl
    omega
/-- The four bytes, as they lie. -/
theorem by4_enc (x : BitVec 32) : (by4 x).flatMap By.enc = [.int .u8 ((x.toNat : Int) % 256), .int .u8 ((x.toNat : Int) / 256 % 256), .int .u8 ((x.toNat : Int) / 65536 % 256), .int .u8 ((x.toNat : Int) / 16777216 % 256)] := by
  simp [by4, By.enc]
theorem by4_enc' (x : BitVec 32) : (#[.int .u8 ((x.toNat : Int) % 256), .int .u8 ((x.toNat : Int) / 256 % 256), .int .u8 ((x.toNat : Int) / 65536 % 256), .int .u8 ((x.toNat : Int) / 16777216)] : Array Value).toList = (by4 x).flatMap By.enc := by
  have := x.isLt
  have h : (x.toNat : Int) / 16777216 % 256 = (x.toNat : Int) / 16777216 := by omega
  rw [by4_enc, h]
theorem OwnK.ne {α : Type} {k : Nat} {enc : α → List Value} {B : Nat} {e e' : TypeId} {w : World} {v : Value} {xs : List α} (h : OwnK k enc B e w v xs) {b : Nat} {cur : Array Value} {fr : Nat × Nat} (hb : w.heap[b]? = some (.cells cur e' fr)) (hne : e ≠ e') : some b ≠ v.ownBlock := fun e1 => by
  obtain ⟨c2, h2⟩ := OwnK.blk h e1.symm
  rw [hb] at h2
  cases h2
  exact hne rfl
theorem OwnK.own_lt {α : Type} {k : Nat} {enc : α → List Value} {B : Nat} {e : TypeId} {w : World} {v : Value} {xs : List α} (h : OwnK k enc B e w v xs) {j : Nat} (hj : w.heap.size ≤ j) : some j ≠ v.ownBlock := fun e => by
  obtain ⟨cur, hc⟩ := OwnK.blk h e.symm
  have := (Array.getElem?_eq_some_iff.1 hc).1
  omega
theorem By.map : ∀ l : List UInt8, l.flatMap By.enc = l.map (fun b => Value.int .u8 (b.toNat : Int))
  | [] => rfl
  | b :: l => by rw [List.flatMap_cons, By.map l]; rfl
theorem conv_by {P : Program} (w : World) (src dst e : TypeId) (ad : Option Addr) (m c : Nat) (l : List UInt8) (hs : P.underlying src = some (.slice e)) (he : P.underlying e = some (.int .u8)) (hd : P.underlying dst = some .string)
    (h : RdK 1 By.enc w ad m c l) : (convert src dst (.slice ad m c)).run P w = .ok (.string ⟨l.toArray⟩) w := by
  cases ad with
  | none =>
    have hc := h.isnil rfl
    have hn : m = 0 := by have := h.le; omega
    subst hn
    have hl : l = [] := List.eq_nil_of_length_eq_zero h.len
    subst hl
    exact run_convert_bytes_nil w src e hs he 0 c dst hd
  | some ad =>
    obtain rfl := h.len
    refine run_convert_bytes_back w src dst e ad c l hs he hd fun j hj => ?_
    refine h.cells By.len (by decide) j _ ?_
    rw [By.map, List.getElem?_map, List.getElem?_eq_getElem hj]
    rfl
theorem two_cells {w : World} {B : Nat} {x y : Value} {e : TypeId} {fr : Nat × Nat} (h : w.heap[B]? = some (.cells #[x, y] e fr)) : w.cell? ⟨B, 0, none⟩ = some x ∧ w.cell? ⟨B, 1, none⟩ = some y := by
  constructor <;> (simp only [World.cell?, h]; rfl)
theorem three_cells {w : World} {B : Nat} {x y z : Value} {e : TypeId} {fr : Nat × Nat} (h : w.heap[B]? = some (.cells #[x, y, z] e fr)) : w.cell? ⟨B, 0, none⟩ = some x ∧ w.cell? ⟨B, 1, none⟩ = some y ∧ w.cell? ⟨B, 2, none⟩ = some z := by
  refine ⟨?_, ?_, ?_⟩ <;> (simp only [World.cell?, h]; rfl)
set_option maxHeartbeats 4000000 in
set_option maxRecDepth 20000 in
theorem key_any (a : Option Addr) (n cap : Nat) (x : List Cl) (w : World) (hr : RdC w a n cap x) (hn : n ≤ 4096) (hk : ∀ c ∈ x, 0 ≤ c.kind ∧ c.kind < 256) :
    Calls Tryd.prog 35 #[.slice a n cap] w fun e w' => e = .returned (.string ⟨(keyCs x).toArray⟩) ∧ Ext w w' := by
  have hl := hr.len
  have hkl := fun j => keyCs_len (x.take j)
  replace hl := Lib.hid hl
  replace hk := Lib.hid hk
  replace hkl := Lib.hid hkl
  go_enter Tryd.func35, Tryd.ntmps35
  go_wp2_with fail
  go_loopw [3, 5, 7, 10, 28] (fun v _ _ i _ wr => ∃ (j : Nat) (bs : List UInt8), j ≤ n ∧ i = .int .i64 j ∧ OwnK 1 By.enc w.heap.size 5 wr v bs ∧ Hid (bs = keyCs (x.take j)) ∧ Ext w wr) (fun _ _ _ i _ _ => n - (intOf i).toNat)
  case atStart => exact ⟨0, [], Nat.zero_le _, rfl, OwnK.nil _ _ _, Lib.hid rfl, Ext.refl _⟩
  case round =>
    obtain ⟨j, bs, hj, rfl, hown, hbs, hx⟩ := hrel
    by_cases hlt : j < n
    · obtain ⟨b, off, ⟨ck, cs⟩, rfl, hc, hb, p0, p1, p2⟩ := (hr.ext hx).cl hlt
      have hji : (j : Int) < (n : Int) := by omega
      obtain ⟨hc1, hc2⟩ := hk.out _ (List.mem_of_getElem? hc.out)
      have hsu := Lib.hid (keyCs_succ hc.out)
      simp only at hc1 hc2 p0 p1 p2
      have hbl : bs.length ≤ 9 * n := by
        rw [hbs.out, hkl.out, List.length_take]; omega
      obtain ⟨kb, hkb⟩ : ∃ kb, kb = UInt8.ofNat ck.toNat := ⟨_, rfl⟩
      obtain rfl : ck = (kb.toNat : Int) := by
        have h : ((UInt8.ofNat ck.toNat).toNat : Int) = ((ck.toNat : Nat) : Int) % 256 := by simp
        rw [hkb, h]; omega
      replace hkb := Lib.hid hkb
      go_wp2_with (at_builtin; refine wp_app1 w (wr.alloc (.cells #[.int .i64 (kb.toNat : Int), .int .u32 cs.p.toNat, .int .u32 cs.m.toNat] 50)) kb rfl _ _ 107 rfl 5 Tryd.underlying107 info_u8 rfl (by decide) _ _ rfl (hown.kept (Ext.alloc1 _ _)) (hx.alloc _) (by first | rfl | (rw [World.size_alloc]; rfl)) rfl (By.one _) (by omega) (by unfold maxLen; omega) ?_; intro v1 w1 ho1 hx1 hg1; have hbx := (hg1.block wr.heap.size (by simp; omega) (OwnK.own_lt hown (Nat.le_refl _))).trans ((Below.heap_alloc _ _ _ (by simp)).trans (World.alloc_heap_new wr (.cells #[.int .i64 (kb.toNat : Int), .int .u32 cs.p.toNat, .int .u32 cs.m.toNat] 50))); obtain ⟨y0, y1, y2⟩ := three_cells hbx; have hbl1 : wr.heap.size < w1.heap.size := cell_lt y0)
      have hA := World.alloc_heap_new w1 (.cells #[.int .u32 cs.p.toNat, .int .u32 cs.m.toNat] 46)
      have hxA : Ext w (w1.alloc (.cells #[.int .u32 cs.p.toNat, .int .u32 cs.m.toNat] 46)) := hx1.alloc _
      have hoA := ho1.kept (Ext.alloc1 w1 (.cells #[.int .u32 cs.p.toNat, .int .u32 cs.m.toNat] 46))
      generalize (w1.alloc (.cells #[.int .u32 cs.p.toNat, .int .u32 cs.m.toNat] 46)) = wA at *
      generalize w1.heap.size = Ba at *
      clear hg1 hbx y0 y1 y2 hbl1 hown ho1 hx1 p0 p1 p2
      go_loopw [3, 7, 28] (fun v _ i wr => ∃ (q : Nat) (zs : List UInt8), q ≤ 2 ∧ i = .int .i64 q ∧ OwnK 1 By.enc w.heap.size 5 wr v zs ∧ Hid (zs = bs ++ kb :: ([cs.p, cs.m].take q).flatMap by4) ∧ wr.heap[Ba]? = some (.cells #[.int .u32 cs.p.toNat, .int .u32 cs.m.toNat] 46 (0, 0)) ∧ Ext w wr) (fun _ _ i _ => 2 - (intOf i).toNat)
      case atStart => exact ⟨0, _, Nat.zero_le _, rfl, hoA, Lib.hid rfl, hA, hxA⟩
      clear hoA hA hxA
      case round =>
        obtain ⟨q, zs, hq, rfl, hown, hzs, hA, hxi⟩ := hrel
        obtain ⟨y0, y1⟩ := two_cells hA
        have hzl : zs.length ≤ 9 * n + 9 := by
          rw [hzs.out]
          have : ∀ l : List (BitVec 32), (l.flatMap by4).length = 4 * l.length := by
            intro l; induction l with
            | nil => rfl
            | cons a l ih => rw [List.flatMap_cons, List.length_append, ih]; simp [by4]; omega
          simp [this]; omega
        have hBa : Ba < wr.heap.size := cell_lt y0
        by_cases hq0 : q = 0
        · subst hq0
          go_wp2_with (at_builtin; refine wp_appN w (wr.alloc (.cells #[.int .u8 ((cs.p.toNat : Int) % 256), .int .u8 ((cs.p.toNat : Int) / 256 % 256), .int .u8 ((cs.p.toNat : Int) / 65536 % 256), .int .u8 ((cs.p.toNat : Int) / 16777216)] 5)) (by4 cs.p) rfl _ _ 107 rfl 5 Tryd.underlying107 info_u8 rfl (by decide) _ _ rfl (hown.kept (Ext.alloc1 _ _)) (hxi.alloc _) (some ⟨wr.heap.size, 0, none⟩) 4 4 rfl (OwnK.rdc By.len (lit_own By.len wr 5 (by4 cs.p) #[.int .u8 ((cs.p.toNat : Int) % 256), .int .u8 ((cs.p.toNat : Int) / 256 % 256), .int .u8 ((cs.p.toNat : Int) / 65536 % 256), .int .u8 ((cs.p.toNat : Int) / 16777216)] (by4_enc' cs.p) rfl (by decide))) By.len By.one (by omega) (by unfold maxLen; omega) ?_; intro v2 w2 ho2 hx2 hg2; have hA2 := (hg2.block Ba (by simp; omega) (OwnK.ne hown hA (by decide))).trans ((Below.heap_alloc _ _ _ hBa).trans hA))
          go_roundw
          case rel => exact ⟨1, zs ++ by4 cs.p, by omega, rfl, ho2, by rw [hzs.out]; exact Lib.hid (by simp), hA2, hx2⟩
          case measure => exact (by simp [intOf])
        · by_cases hq1 : q = 1
          · subst hq1
            go_wp2_with (at_builtin; refine wp_appN w (wr.alloc (.cells #[.int .u8 ((cs.m.toNat : Int) % 256), .int .u8 ((cs.m.toNat : Int) / 256 % 256), .int .u8 ((cs.m.toNat : Int) / 65536 % 256), .int .u8 ((cs.m.toNat : Int) / 16777216)] 5)) (by4 cs.m) rfl _ _ 107 rfl 5 Tryd.underlying107 info_u8 rfl (by decide) _ _ rfl (hown.kept (Ext.alloc1 _ _)) (hxi.alloc _) (some ⟨wr.heap.size, 0, none⟩) 4 4 rfl (OwnK.rdc By.len (lit_own By.len wr 5 (by4 cs.m) #[.int .u8 ((cs.m.toNat : Int) % 256), .int .u8 ((cs.m.toNat : Int) / 256 % 256), .int .u8 ((cs.m.toNat : Int) / 65536 % 256), .int .u8 ((cs.m.toNat : Int) / 16777216)] (by4_enc' cs.m) rfl (by decide))) By.len By.one (by omega) (by unfold maxLen; omega) ?_; intro v2 w2 ho2 hx2 hg2; have hA2 := (hg2.block Ba (by simp; omega) (OwnK.ne hown hA (by decide))).trans ((Below.heap_alloc _ _ _ hBa).trans hA))
            go_roundw
            case rel => exact ⟨2, zs ++ by4 cs.m, by omega, rfl, ho2, by rw [hzs.out]; exact Lib.hid (by simp), hA2, hx2⟩
            case measure => exact (by simp [intOf])
          · obtain rfl : q = 2 := by omega
            go_wp2_with fail
            refine ⟨⟨j + 1, _, by omega, by simp, hown, Lib.hid ?_, hxi⟩, (by simp [intOf]; omega)⟩
            rw [hzs.out, hsu.out, hbs.out]
            simp [keyC]
    · obtain rfl : j = n := by omega
      have hjn : ¬ (j : Int) < (j : Int) := by omega
      rw [List.take_of_length_le (by rw [hl.out]; omega)] at hbs
      obtain rfl := hbs.out
      obtain ⟨ad, m, c, hm, rfl, hrd⟩ := OwnK.rdn By.len hown
      have hcv := conv_by (P := Tryd.prog) wr 107 9 5 ad m c (keyCs x) Tryd.underlying107 Tryd.underlying5 Tryd.underlying9 hrd
      replace hm := Lib.hid hm
      go_wp2_with fail
      go_ret
      exact ⟨rfl, hx⟩
end Go.Proofs.YtjfhfbobnncpkaaDoor
