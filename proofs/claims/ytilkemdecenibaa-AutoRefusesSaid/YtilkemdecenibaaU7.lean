/-
  spread: the walk.
-/
import Derived.Test.YtilkemdecenibaaU5
import Derived.Deep.LoopGhost
namespace Go.Proofs.Ytilkemdecenibaa
open Go.RowKit
theorem netOk_at {m : Nat} {g : Net} (h : netOkB m g = true) {x : Nat} {r : List Lk} (hr : g[x]? = some r) : ∀ l ∈ r, l.1 < m := fun l hl => by
  have h1 := List.all_eq_true.1 h r (List.mem_of_getElem? hr)
  simpa using List.all_eq_true.1 h1 l hl
theorem spreadL_nil (g : Net) (bg en : Bool) (k : Nat) (bs : List Bool) : spreadL g bg en k ([], bs) = bs := by cases k <;> rfl
theorem spreadL_snoc (g : Net) (bg en : Bool) (k x : Nat) (td : List Nat) (bs : List Bool) : spreadL g bg en (k + 1) (td ++ [x], bs) = spreadL g bg en k (pushL bg en (g.getD x []) (td, bs)) := by
  simp [spreadL]
/-- A link, cell by cell. -/
theorem lk_at {w : World} {a : Option Addr} {n cap i : Nat} {r : List Lk} (h : RdK 8 Lk.enc w a n cap r) (hi : i < n) : ∃ (b off to : Nat) (q : HP), a = some ⟨b, off, none⟩ ∧ Hid (r[i]? = some (to, q)) ∧ b < w.heap.size ∧
    w.cell? ⟨b, off + i * 8, none⟩ = some (.int .i64 to) ∧ w.cell? ⟨b, off + i * 8 + 1, none⟩ = some (.int .i64 q.kind) ∧ w.cell? ⟨b, off + i * 8 + 2, none⟩ = some (.int .u32 q.is.p.toNat) ∧ w.cell? ⟨b, off + i * 8 + 3, none⟩ = some (.int .u32 q.is.m.toNat) ∧ w.cell? ⟨b, off + i * 8 + 4, none⟩ = some (.bool q.neg) ∧ w.cell? ⟨b, off + i * 8 + 5, none⟩ = some (.int .i64 q.mn) ∧ w.cell? ⟨b, off + i * 8 + 6, none⟩ = some (.int .i64 q.mx) ∧ w.cell? ⟨b, off + i * 8 + 7, none⟩ = some (.slice q.a q.n q.cap) := by
  obtain ⟨b, off, ⟨to, q⟩, ha, hx, hb, hc⟩ := h.get hi
  refine ⟨b, off, to, q, ha, hx, hb, ?_, ?_, ?_, ?_, ?_, ?_, ?_, ?_⟩
  · have := hc 0 _ rfl; simpa using this
  · exact hc 1 _ rfl
  · exact hc 2 _ rfl
  · exact hc 3 _ rfl
  · exact hc 4 _ rfl
  · exact hc 5 _ rfl
  · exact hc 6 _ rfl
  · exact hc 7 _ rfl
theorem own_some {α : Type} {k : Nat} {enc : α → List Value} {B e n cap : Nat} {w : World} {a : Option Addr} {xs : List α} (h : OwnK k enc B e w (.slice a n cap) xs) (hne : xs ≠ []) : ∃ T, a = some ⟨T, 0, none⟩ := by
  obtain ⟨h1, h2⟩ := h
  rcases h2 with ⟨h3, h4⟩ | ⟨g', cap', cur, h3, _⟩
  · exact absurd (List.length_eq_zero_iff.1 h4) hne
  · cases h3; exact ⟨_, rfl⟩
theorem pushL_next {bg en : Bool} {r : List Lk} {j to : Nat} {q : HP} {s s2 : List Nat × List Bool} (h : pushL bg en (r.take j) s = s2) (hr : r[j]? = some (to, q)) : pushL bg en (r.take (j + 1)) s = if openB q bg en && !(s2.2.getD to true) then (s2.1 ++ [to], s2.2.set to true) else s2 := by
  rw [take_succ_at hr, pushL_app, h]; rfl
set_option maxHeartbeats 4000000 in
set_option maxRecDepth 20000 in
theorem spread_any (w0 w : World) (hx : Ext w0 w) (a : Option Addr) (n cap : Nat) (g : Net) (hg : RdNet w0 a n cap g) (m S capS : Nat) (hok : netOkB m g = true) (hgm : m ≤ n) (hm5 : m ≤ 5000) (bs : List Bool)
    (hown : OwnK 1 BB.enc w0.heap.size 5 w (.slice (some ⟨S, 0, none⟩) m capS) bs) (bg en : Bool) :
    Calls Try.prog 69 #[.slice a n cap, (.slice (some ⟨S, 0, none⟩) m capS), .bool bg, .bool en] w fun e w' => e = .returned (.tuple #[]) ∧ OwnK 1 BB.enc w0.heap.size 5 w' (.slice (some ⟨S, 0, none⟩) m capS) (spreadM g bs bg en) ∧ Ext w0 w' := by
  obtain ⟨R, hR⟩ : ∃ R, R = spreadM g bs bg en := ⟨_, rfl⟩
  rw [← hR]
  unfold spreadM at hR
  replace hR := Lib.hid hR
  have hbl : Hid (bs.length = m) := Lib.hid (own_ge hown).2.2.1
  have hok' := Lib.hid hok
  clear hok
  go_enter Try.func69, Try.ntmps69
  go_wp2_with fail
  go_loopw [8, 18] (fun tv iv wr => ∃ i : Nat, i ≤ m ∧ iv = .int .i64 i ∧ OwnK 1 NN.enc w0.heap.size 3 wr tv (onesTo bs i) ∧ OwnK 1 BB.enc w0.heap.size 5 wr (.slice (some ⟨S, 0, none⟩) m capS) bs ∧ Ext w0 wr) (fun _ iv _ => m - (intOf iv).toNat)
  case atStart => exact ⟨0, Nat.zero_le _, rfl, OwnK.nil _ _ _, hown, hx⟩
  case round =>
    clear hown hx
    obtain ⟨i, hi, rfl, ht, ho, hxr⟩ := hrel
    by_cases hlt : i < m
    · have hlb : i < bs.length := by rw [hbl.out]; exact hlt
      obtain ⟨bv, hbv⟩ : ∃ bv, bs[i] = bv := ⟨_, rfl⟩
      have hbi : bs[i]? = some bv := by rw [List.getElem?_eq_getElem hlb, hbv]
      clear hbv hlb
      have hc := own_at BB.len ho hbi (j := 0) rfl
      rw [Nat.mul_one, Nat.add_zero] at hc
      have hsuc := onesTo_succ bs i
      rw [List.getD_eq_getElem?_getD, hbi] at hsuc
      have hol : (onesTo bs i).length ≤ i := by unfold onesTo; exact Nat.le_trans (List.length_filter_le _ _) (by simp)
      cases bv with
      | true =>
        simp only [Option.getD_some, if_true] at hc hsuc
        replace hsuc := Lib.hid hsuc
        clear hbi
        go_wp2_with (at_builtin; refine wp_app1 w0 wr i rfl _ _ 102 rfl 3 Try.underlying102 info_int2 rfl (by decide) _ _ rfl ht hxr rfl (NN.len _) (NN.one _) (by omega) (by unfold maxLen; omega) ?_; intro v5 w10 o5 x5 hgA; have o6 := own_otherT (ho.kept (Ext.alloc1 _ _)) (ht.kept (Ext.alloc1 _ _)) hgA (by decide))
        (first | exact ⟨⟨i + 1, hlt, by go_num, by rw [hsuc.out]; exact o5, o6, x5⟩, (by simp [intOf]; omega)⟩ | (go_roundw; case rel => exact ⟨i + 1, hlt, by go_num, by rw [hsuc.out]; exact o5, o6, x5⟩; case measure => exact (by simp [intOf]; omega)))
      | false =>
        simp at hc hsuc
        replace hsuc := Lib.hid hsuc
        clear hbi
        go_wp2_with fail
        (first | exact ⟨⟨i + 1, hlt, by go_num, by rw [hsuc.out]; exact ht, ho, hxr⟩, (by simp [intOf]; omega)⟩ | (go_roundw; case rel => exact ⟨i + 1, hlt, by go_num, by rw [hsuc.out]; exact ht, ho, hxr⟩; case measure => exact (by simp [intOf]; omega)))
    · obtain rfl : i = m := by omega
      have hfu : PushOk i (onesTo bs i, bs) bs.length := ⟨hbl.out, fun x hx => onesTo_lt hx, by
        have := onesTo_zeros bs i (by rw [hbl.out]; exact Nat.le_refl _)
        rw [← hbl.out, List.take_length] at this
        simp only; rw [← hbl.out]; omega⟩
      have hR1 : Hid (spreadL g bg en bs.length (onesTo bs i, bs) = R) := Lib.hid (by rw [hR.out, hbl.out])
      go_wp2_with fail
      go_loopg [8] bs.length (fun gk tv wr => ∃ (td : List Nat) (cs : List Bool), OwnK 1 NN.enc w0.heap.size 3 wr tv td ∧ OwnK 1 BB.enc w0.heap.size 5 wr (.slice (some ⟨S, 0, none⟩) i capS) cs ∧ Ext w0 wr ∧ PushOk i (td, cs) gk ∧ gk ≤ i ∧ Hid (spreadL g bg en gk (td, cs) = R))
      case atStart => exact ⟨_, _, ht, ho, hxr, hfu, by rw [hbl.out]; exact Nat.le_refl _, hR1⟩
      case round =>
        clear ht ho hxr hfu hR1 hR hbl
        obtain ⟨td, cs, ht, ho, hxr, hfu, hgk, hR⟩ := hrel
        obtain ⟨ta, tn, tc, htn, rfl, _⟩ := OwnK.rdn NN.len ht
        rcases List.eq_nil_or_concat td with rfl | ⟨td', x, rfl⟩
        · have hR0 := hR.out
          rw [spreadL_nil] at hR0
          subst hR0
          simp at htn
          subst htn
          go_wp2_with fail
          go_end0
          exact ⟨rfl, ho, hxr⟩
        · simp only [List.concat_eq_append] at ht htn hfu hR
          obtain ⟨k, rfl⟩ : ∃ k, gk = k + 1 := ⟨gk - 1, by have := hfu.2.2; simp at this; omega⟩
          obtain ⟨f1, f2, f3⟩ := hfu
          have hxi : x < i := f2 x (by simp)
          have hpk : PushOk i (td', cs) k := ⟨f1, fun z hz => f2 z (by simp [hz]), by simp at f3 ⊢; omega⟩
          have hbl : bs.length = bs.length := rfl
          clear hbl f1 f2 f3
          obtain ⟨T, rfl⟩ := own_some ht (by simp)
          obtain ⟨L, hL⟩ : ∃ L, L = td'.length := ⟨_, rfl⟩
          have hcx := own_at NN.len ht (i := L) (y := x) (by simp [hL]) (j := 0) rfl
          rw [Nat.mul_one, Nat.add_zero] at hcx
          rw [List.length_append, List.length_singleton, ← hL] at htn
          subst htn
          have hL5 : L ≤ 5000 := by have := hpk.2.2; simp only at this; omega
          have hwL : wrap64 (L : Int) = (L : Int) := by unfold wrap64; omega
          have ht' := own_take NN.len ht (m := L) (by omega)
          rw [hL, List.take_left' rfl, ← hL] at ht'
          have hLc := (own_ge ht).2.2.2.1
          clear ht
          obtain ⟨gb, go, ⟨ya, yn, yc, yx⟩, rfl, hcy, hy, hgx⟩ := hg.at (i := x) (by omega)
          change w0.cell? _ = some (.slice ya yn yc) at hcy
          change RdK 8 Lk.enc w0 ya yn yc yx at hy
          change Hid (g[x]? = some yx) at hgx
          replace hcy := hxr.cellv hcy
          have hgd : g.getD x [] = yx := by rw [List.getD_eq_getElem?_getD, hgx.out]; rfl
          have hoky := Lib.hid (netOk_at hok'.out hgx.out)
          replace hR := Lib.hid (by have := hR.out; rw [spreadL_snoc, hgd] at this; exact this)
          have hyle := hy.le
          have hymost := hy.most
          have hylen := Lib.hid hy.len
          unfold maxLen at hymost
          replace hL := Lib.hid hL
          replace hgx := Lib.hid hgx.out
          replace hgd := Lib.hid hgd
          go_wp2_with fail
          go_loopw [8, 48] (fun tv2 iv wr => ∃ (j : Nat) (td2 : List Nat) (cs2 : List Bool), j ≤ yn ∧ iv = .int .i64 j ∧ OwnK 1 NN.enc w0.heap.size 3 wr tv2 td2 ∧ OwnK 1 BB.enc w0.heap.size 5 wr (.slice (some ⟨S, 0, none⟩) i capS) cs2 ∧ Ext w0 wr ∧ Hid (pushL bg en (yx.take j) (td', cs) = (td2, cs2)) ∧ PushOk i (td2, cs2) k) (fun _ iv _ => yn - (intOf iv).toNat)
          case atStart => exact ⟨0, _, _, Nat.zero_le _, rfl, ht', ho, hxr, Lib.hid rfl, hpk⟩
          case round =>
            clear ht' ho hxr hcy hpk hcx
            obtain ⟨j, td2, cs2, hj, rfl, ht2, ho2, hxq, hpl0, hpk⟩ := hrel
            by_cases hlt2 : j < yn
            · obtain ⟨b, off, to, q, rfl, hrj, hb, c0, c1, c2, c3, c4, c5, c6, c7⟩ := lk_at (hy.ext hxq) hlt2
              have hpl := Lib.hid (pushL_next hpl0.out hrj.out)
              have htoi := hoky.out _ (List.mem_of_getElem? hrj.out)
              simp only at htoi
              have hst := Lib.hid (pushOk_step (bg := bg) (en := en) (l := (to, q)) hpk htoi)
              have hcl : cs2.length = i := (own_ge ho2).2.2.1
              have hSl := (own_ge ho2).2.1
              have hSne : S ≠ wr.heap.size := by omega
              have htdl : td2.length ≤ 5000 := by have := hpk.2.2; simp only at this; omega
              obtain ⟨bv, hbv⟩ : ∃ bv, cs2[to]? = some bv := ⟨_, List.getElem?_eq_getElem (by omega)⟩
              have hgv : cs2.getD to true = bv := by rw [List.getD_eq_getElem?_getD, hbv]; rfl
              have hcs := own_at BB.len ho2 hbv (j := 0) rfl
              rw [Nat.mul_one, Nat.add_zero] at hcs
              have hjn : (j : Int) < (yn : Int) := by omega
              replace hcl := Lib.hid hcl
              replace hbv := Lib.hid hbv
              obtain ⟨kd, hkd⟩ : ∃ kd, q.kind = kd := ⟨_, rfl⟩
              rw [hkd] at c1
              have fin : ∀ ob : Bool, openB q bg en = ob → Hid (pushL bg en (yx.take (j + 1)) (td', cs) = if ob && !bv then (td2 ++ [to], cs2.set to true) else (td2, cs2)) := fun ob ho => Lib.hid (by rw [hpl.out]; simp only [ho, hgv])
              by_cases k0 : kd = 0
              · have hO := fin true (by simp [openB, hkd, k0])
                clear fin
                subst k0
                replace hkd := Lib.hid hkd
                (cases bv with
                 | true => (have hk2 := hst.out
                            rw [← hpl.out, hO.out] at hk2
                            rw [if_neg (by simp)] at hk2
                            have hO2 : Hid (_ = (td2, cs2)) := Lib.hid (by have := hO.out; simpa only [Bool.false_and, Bool.and_false, Bool.not_true, if_false, Bool.false_eq_true] using this)
                            clear hpl hst hO
                            go_wp2_with fail
                            (first | exact ⟨⟨j + 1, td2, cs2, hlt2, by go_num, ht2.kept (Ext.alloc1 _ _), ho2.kept (Ext.alloc1 _ _), hxq.alloc _, hO2, hk2⟩, (by simp [intOf]; omega)⟩ | (go_roundw; case rel => exact ⟨j + 1, td2, cs2, hlt2, by go_num, ht2.kept (Ext.alloc1 _ _), ho2.kept (Ext.alloc1 _ _), hxq.alloc _, hO2, hk2⟩; case measure => exact (by simp [intOf]; omega))))
                 | false =>
                 have hk2 := hst.out
                 rw [← hpl.out, hO.out] at hk2
                 simp only [Bool.true_and, Bool.not_false, if_true] at hk2
                 have hO2 : Hid (_ = (td2 ++ [to], cs2.set to true)) := Lib.hid (by have := hO.out; simpa only [Bool.true_and, Bool.not_false, if_true] using this)
                 clear hpl hst hO
                 have hfW := own_free ho2 to
                 have hSne2 : wr.heap.size ≠ S := fun e => hSne e.symm
                 have hoB := (own_set1 BB.len ho2 (i := to) (y := true) (u := .int .u8 1) htoi rfl).kept (Ext.alloc1 _ (.cells #[.int .i64 to, .int .i64 0, .int .u32 q.is.p.toNat, .int .u32 q.is.m.toNat, .bool q.neg, .int .i64 q.mn, .int .i64 q.mx, .slice q.a q.n q.cap] 161))
                 have htB : OwnK 1 NN.enc w0.heap.size 3 ((wr.setCell ⟨S, to, none⟩ (.int .u8 1)).alloc (.cells #[.int .i64 to, .int .i64 0, .int .u32 q.is.p.toNat, .int .u32 q.is.m.toNat, .bool q.neg, .int .i64 q.mn, .int .i64 q.mx, .slice q.a q.n q.cap] 161)) _ td2 := ((byte_cell ho2).elim fun _ hb => own_offT ht2 hb (by decide)).kept (Ext.alloc1 _ _)
                 have hxB : Ext w0 ((wr.setCell ⟨S, to, none⟩ (.int .u8 1)).alloc (.cells #[.int .i64 to, .int .i64 0, .int .u32 q.is.p.toNat, .int .u32 q.is.m.toNat, .bool q.neg, .int .i64 q.mn, .int .i64 q.mx, .slice q.a q.n q.cap] 161)) := (ext_set hxq (own_ge ho2).1 _ _).alloc _
                 go_wp2_with (at_builtin; refine wp_app1 w0 _ to rfl _ _ 102 rfl 3 Try.underlying102 info_int2 rfl (by decide) _ _ rfl htB hxB (by first | rfl | (rw [World.size_alloc, World.size_setCell]; rfl)) (NN.len _) (NN.one _) (by omega) (by unfold maxLen; omega) ?_; intro v5 w10 o5 x5 hgA; have o6 := own_otherT (hoB.kept (Ext.alloc1 _ _)) (htB.kept (Ext.alloc1 _ _)) hgA (by decide))
                 (first | exact ⟨⟨j + 1, _, _, hlt2, by go_num, o5, o6, x5, hO2, hk2⟩, (by simp [intOf]; omega)⟩ | (go_roundw; case rel => exact ⟨j + 1, _, _, hlt2, by go_num, o5, o6, x5, hO2, hk2⟩; case measure => exact (by simp [intOf]; omega))))
              · have d0 : (kd == 0) = false := by simpa using k0
                by_cases k2 : kd = 2
                · cases bg with
                  | true =>
                    have hO := fin true (by simp [openB, hkd, k2])
                    clear fin k0
                    subst k2
                    replace hkd := Lib.hid hkd
                    (cases bv with
                     | true => (have hk2 := hst.out
                                rw [← hpl.out, hO.out] at hk2
                                rw [if_neg (by simp)] at hk2
                                have hO2 : Hid (_ = (td2, cs2)) := Lib.hid (by have := hO.out; simpa only [Bool.false_and, Bool.and_false, Bool.not_true, if_false, Bool.false_eq_true] using this)
                                clear hpl hst hO
                                go_wp2_with fail
                                (first | exact ⟨⟨j + 1, td2, cs2, hlt2, by go_num, ht2.kept (Ext.alloc1 _ _), ho2.kept (Ext.alloc1 _ _), hxq.alloc _, hO2, hk2⟩, (by simp [intOf]; omega)⟩ | (go_roundw; case rel => exact ⟨j + 1, td2, cs2, hlt2, by go_num, ht2.kept (Ext.alloc1 _ _), ho2.kept (Ext.alloc1 _ _), hxq.alloc _, hO2, hk2⟩; case measure => exact (by simp [intOf]; omega))))
                     | false =>
                     have hk2 := hst.out
                     rw [← hpl.out, hO.out] at hk2
                     simp only [Bool.true_and, Bool.not_false, if_true] at hk2
                     have hO2 : Hid (_ = (td2 ++ [to], cs2.set to true)) := Lib.hid (by have := hO.out; simpa only [Bool.true_and, Bool.not_false, if_true] using this)
                     clear hpl hst hO
                     have hfW := own_free ho2 to
                     have hSne2 : wr.heap.size ≠ S := fun e => hSne e.symm
                     have hoB := (own_set1 BB.len ho2 (i := to) (y := true) (u := .int .u8 1) htoi rfl).kept (Ext.alloc1 _ (.cells #[.int .i64 to, .int .i64 2, .int .u32 q.is.p.toNat, .int .u32 q.is.m.toNat, .bool q.neg, .int .i64 q.mn, .int .i64 q.mx, .slice q.a q.n q.cap] 161))
                     have htB : OwnK 1 NN.enc w0.heap.size 3 ((wr.setCell ⟨S, to, none⟩ (.int .u8 1)).alloc (.cells #[.int .i64 to, .int .i64 2, .int .u32 q.is.p.toNat, .int .u32 q.is.m.toNat, .bool q.neg, .int .i64 q.mn, .int .i64 q.mx, .slice q.a q.n q.cap] 161)) _ td2 := ((byte_cell ho2).elim fun _ hb => own_offT ht2 hb (by decide)).kept (Ext.alloc1 _ _)
                     have hxB : Ext w0 ((wr.setCell ⟨S, to, none⟩ (.int .u8 1)).alloc (.cells #[.int .i64 to, .int .i64 2, .int .u32 q.is.p.toNat, .int .u32 q.is.m.toNat, .bool q.neg, .int .i64 q.mn, .int .i64 q.mx, .slice q.a q.n q.cap] 161)) := (ext_set hxq (own_ge ho2).1 _ _).alloc _
                     go_wp2_with (at_builtin; refine wp_app1 w0 _ to rfl _ _ 102 rfl 3 Try.underlying102 info_int2 rfl (by decide) _ _ rfl htB hxB (by first | rfl | (rw [World.size_alloc, World.size_setCell]; rfl)) (NN.len _) (NN.one _) (by omega) (by unfold maxLen; omega) ?_; intro v5 w10 o5 x5 hgA; have o6 := own_otherT (hoB.kept (Ext.alloc1 _ _)) (htB.kept (Ext.alloc1 _ _)) hgA (by decide))
                     (first | exact ⟨⟨j + 1, _, _, hlt2, by go_num, o5, o6, x5, hO2, hk2⟩, (by simp [intOf]; omega)⟩ | (go_roundw; case rel => exact ⟨j + 1, _, _, hlt2, by go_num, o5, o6, x5, hO2, hk2⟩; case measure => exact (by simp [intOf]; omega))))
                  | false =>
                    have hO := fin false (by simp [openB, hkd, k2])
                    clear fin k0
                    subst k2
                    replace hkd := Lib.hid hkd
                    (have hk2 := hst.out
                     rw [← hpl.out, hO.out] at hk2
                     rw [if_neg (by simp)] at hk2
                     have hO2 : Hid (_ = (td2, cs2)) := Lib.hid (by have := hO.out; simpa only [Bool.false_and, Bool.and_false, Bool.not_true, if_false, Bool.false_eq_true] using this)
                     clear hpl hst hO
                     go_wp2_with fail
                     (first | exact ⟨⟨j + 1, td2, cs2, hlt2, by go_num, ht2.kept (Ext.alloc1 _ _), ho2.kept (Ext.alloc1 _ _), hxq.alloc _, hO2, hk2⟩, (by simp [intOf]; omega)⟩ | (go_roundw; case rel => exact ⟨j + 1, td2, cs2, hlt2, by go_num, ht2.kept (Ext.alloc1 _ _), ho2.kept (Ext.alloc1 _ _), hxq.alloc _, hO2, hk2⟩; case measure => exact (by simp [intOf]; omega))))
                · have d2 : (kd == 2) = false := by simpa using k2
                  by_cases k6 : kd = 6
                  · cases en with
                    | true =>
                      have hO := fin true (by simp [openB, hkd, k6])
                      clear fin k0 k2
                      subst k6
                      replace hkd := Lib.hid hkd
                      (cases bv with
                       | true => (have hk2 := hst.out
                                  rw [← hpl.out, hO.out] at hk2
                                  rw [if_neg (by simp)] at hk2
                                  have hO2 : Hid (_ = (td2, cs2)) := Lib.hid (by have := hO.out; simpa only [Bool.false_and, Bool.and_false, Bool.not_true, if_false, Bool.false_eq_true] using this)
                                  clear hpl hst hO
                                  go_wp2_with fail
                                  (first | exact ⟨⟨j + 1, td2, cs2, hlt2, by go_num, ht2.kept (Ext.alloc1 _ _), ho2.kept (Ext.alloc1 _ _), hxq.alloc _, hO2, hk2⟩, (by simp [intOf]; omega)⟩ | (go_roundw; case rel => exact ⟨j + 1, td2, cs2, hlt2, by go_num, ht2.kept (Ext.alloc1 _ _), ho2.kept (Ext.alloc1 _ _), hxq.alloc _, hO2, hk2⟩; case measure => exact (by simp [intOf]; omega))))
                       | false =>
                       have hk2 := hst.out
                       rw [← hpl.out, hO.out] at hk2
                       simp only [Bool.true_and, Bool.not_false, if_true] at hk2
                       have hO2 : Hid (_ = (td2 ++ [to], cs2.set to true)) := Lib.hid (by have := hO.out; simpa only [Bool.true_and, Bool.not_false, if_true] using this)
                       clear hpl hst hO
                       have hfW := own_free ho2 to
                       have hSne2 : wr.heap.size ≠ S := fun e => hSne e.symm
                       have hoB := (own_set1 BB.len ho2 (i := to) (y := true) (u := .int .u8 1) htoi rfl).kept (Ext.alloc1 _ (.cells #[.int .i64 to, .int .i64 6, .int .u32 q.is.p.toNat, .int .u32 q.is.m.toNat, .bool q.neg, .int .i64 q.mn, .int .i64 q.mx, .slice q.a q.n q.cap] 161))
                       have htB : OwnK 1 NN.enc w0.heap.size 3 ((wr.setCell ⟨S, to, none⟩ (.int .u8 1)).alloc (.cells #[.int .i64 to, .int .i64 6, .int .u32 q.is.p.toNat, .int .u32 q.is.m.toNat, .bool q.neg, .int .i64 q.mn, .int .i64 q.mx, .slice q.a q.n q.cap] 161)) _ td2 := ((byte_cell ho2).elim fun _ hb => own_offT ht2 hb (by decide)).kept (Ext.alloc1 _ _)
                       have hxB : Ext w0 ((wr.setCell ⟨S, to, none⟩ (.int .u8 1)).alloc (.cells #[.int .i64 to, .int .i64 6, .int .u32 q.is.p.toNat, .int .u32 q.is.m.toNat, .bool q.neg, .int .i64 q.mn, .int .i64 q.mx, .slice q.a q.n q.cap] 161)) := (ext_set hxq (own_ge ho2).1 _ _).alloc _
                       go_wp2_with (at_builtin; refine wp_app1 w0 _ to rfl _ _ 102 rfl 3 Try.underlying102 info_int2 rfl (by decide) _ _ rfl htB hxB (by first | rfl | (rw [World.size_alloc, World.size_setCell]; rfl)) (NN.len _) (NN.one _) (by omega) (by unfold maxLen; omega) ?_; intro v5 w10 o5 x5 hgA; have o6 := own_otherT (hoB.kept (Ext.alloc1 _ _)) (htB.kept (Ext.alloc1 _ _)) hgA (by decide))
                       (first | exact ⟨⟨j + 1, _, _, hlt2, by go_num, o5, o6, x5, hO2, hk2⟩, (by simp [intOf]; omega)⟩ | (go_roundw; case rel => exact ⟨j + 1, _, _, hlt2, by go_num, o5, o6, x5, hO2, hk2⟩; case measure => exact (by simp [intOf]; omega))))
                    | false =>
                      have hO := fin false (by simp [openB, hkd, k6])
                      clear fin k0 k2
                      subst k6
                      replace hkd := Lib.hid hkd
                      (have hk2 := hst.out
                       rw [← hpl.out, hO.out] at hk2
                       rw [if_neg (by simp)] at hk2
                       have hO2 : Hid (_ = (td2, cs2)) := Lib.hid (by have := hO.out; simpa only [Bool.false_and, Bool.and_false, Bool.not_true, if_false, Bool.false_eq_true] using this)
                       clear hpl hst hO
                       go_wp2_with fail
                       (first | exact ⟨⟨j + 1, td2, cs2, hlt2, by go_num, ht2.kept (Ext.alloc1 _ _), ho2.kept (Ext.alloc1 _ _), hxq.alloc _, hO2, hk2⟩, (by simp [intOf]; omega)⟩ | (go_roundw; case rel => exact ⟨j + 1, td2, cs2, hlt2, by go_num, ht2.kept (Ext.alloc1 _ _), ho2.kept (Ext.alloc1 _ _), hxq.alloc _, hO2, hk2⟩; case measure => exact (by simp [intOf]; omega))))
                  · have d6 : (kd == 6) = false := by simpa using k6
                    have hO := fin false (by simp [openB, hkd, d0, d2, d6])
                    clear fin
                    replace hkd := Lib.hid hkd
                    replace k0 := Lib.hid k0
                    replace k2 := Lib.hid k2
                    replace k6 := Lib.hid k6
                    (have hk2 := hst.out
                     rw [← hpl.out, hO.out] at hk2
                     rw [if_neg (by simp)] at hk2
                     have hO2 : Hid (_ = (td2, cs2)) := Lib.hid (by have := hO.out; simpa only [Bool.false_and, Bool.and_false, Bool.not_true, if_false, Bool.false_eq_true] using this)
                     clear hpl hst hO
                     go_wp2_with fail
                     (first | exact ⟨⟨j + 1, td2, cs2, hlt2, by go_num, ht2.kept (Ext.alloc1 _ _), ho2.kept (Ext.alloc1 _ _), hxq.alloc _, hO2, hk2⟩, (by simp [intOf]; omega)⟩ | (go_roundw; case rel => exact ⟨j + 1, td2, cs2, hlt2, by go_num, ht2.kept (Ext.alloc1 _ _), ho2.kept (Ext.alloc1 _ _), hxq.alloc _, hO2, hk2⟩; case measure => exact (by simp [intOf]; omega))))
            · obtain rfl : j = yn := by omega
              have hR2 : Hid (spreadL g bg en k (td2, cs2) = R) := Lib.hid (by rw [← hpl0.out, ← hR.out, ← hylen.out, List.take_length])
              clear hpl0 hR
              go_wp2_with fail
              go_roundg k
              case measure => omega
              case rel => exact ⟨td2, cs2, ht2, ho2, hxq, hpk, by omega, hR2⟩
end Go.Proofs.Ytilkemdecenibaa
