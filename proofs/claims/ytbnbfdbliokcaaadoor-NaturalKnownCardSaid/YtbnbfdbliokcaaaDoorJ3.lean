/-
  ablautref05.Gaps, walked.
-/
import Derived.Test.YtbnbfdbliokcaaaDoorJ2
namespace Go.Proofs.YtbnbfdbliokcaaaDoor
open Go.RowKit
def accTo (xs : List Snd) (F : Snd → List Snd) : Nat → List Snd
  | 0 => []
  | k + 1 => accTo xs F k ++ match xs[k]? with
    | some s => F s
    | none => []
theorem accTo_succ {xs : List Snd} {F : Snd → List Snd} {k : Nat} {s : Snd} (h : xs[k]? = some s) : accTo xs F (k + 1) = accTo xs F k ++ F s := by simp only [accTo, h]
theorem mem_accTo {xs : List Snd} {F : Snd → List Snd} {g : Snd} : ∀ {k}, k ≤ xs.length → (g ∈ accTo xs F k ↔ ∃ i s, i < k ∧ xs[i]? = some s ∧ g ∈ F s)
  | 0, _ => by simp [accTo]
  | k + 1, hk => by
    have hx : xs[k]? = some (xs[k]'(by omega)) := List.getElem?_eq_getElem (by omega)
    rw [accTo_succ hx, List.mem_append, mem_accTo (by omega)]
    constructor
    · rintro (⟨i, s, h1, h2⟩ | h)
      · exact ⟨i, s, by omega, h2⟩
      · exact ⟨k, _, by omega, hx, h⟩
    · rintro ⟨i, s, h1, h2, h3⟩
      by_cases e : i = k
      · subst e; rw [hx] at h2; cases h2; exact .inr h3
      · exact .inl ⟨i, s, by omega, h2, h3⟩
theorem mem_acc {xs : List Snd} {F : Snd → List Snd} {g : Snd} : g ∈ accTo xs F xs.length ↔ ∃ s ∈ xs, g ∈ F s := by
  rw [mem_accTo (Nat.le_refl _)]
  constructor
  · rintro ⟨i, s, _, h2, h3⟩; exact ⟨s, List.mem_of_getElem? h2, h3⟩
  · rintro ⟨s, h1, h2⟩
    obtain ⟨i, hi⟩ := List.getElem?_of_mem h1
    exact ⟨i, s, (List.getElem?_eq_some_iff.1 hi).1, hi, h2⟩
theorem accTo_nil (xs : List Snd) {F : Snd → List Snd} (h : ∀ s, F s = []) : ∀ k, accTo xs F k = []
  | 0 => rfl
  | k + 1 => by
    simp only [accTo, accTo_nil xs h k, List.nil_append]
    split
    · exact h _
    · rfl
def gapR (xs : List Snd) (x y s : Snd) : List Snd := match aloneF x y with
  | some f => if getS s f = getS x f ∧ putS s f (getS y f) ∉ xs then [putS s f (getS y f)] else []
  | none => []
theorem gapR_some {xs : List Snd} {x y : Snd} {f : Nat} (h : aloneF x y = some f) (s : Snd) : gapR xs x y s = if getS s f = getS x f ∧ putS s f (getS y f) ∉ xs then [putS s f (getS y f)] else [] := by unfold gapR; rw [h]
theorem gapR_none {xs : List Snd} {x y : Snd} (h : aloneF x y = none) (s : Snd) : gapR xs x y s = [] := by unfold gapR; rw [h]
def gap2 (xs : List Snd) (x y : Snd) : List Snd := accTo xs (gapR xs x y) xs.length
def gap1 (xs : List Snd) (x : Snd) : List Snd := accTo xs (gap2 xs x) xs.length
theorem gap_acc {xs : List Snd} {g : Snd} : g ∈ accTo xs (gap1 xs) xs.length ↔ GapP xs g := by
  rw [mem_acc]
  constructor
  · rintro ⟨x, hx, h1⟩
    obtain ⟨y, hy, h2⟩ := mem_acc.1 h1
    obtain ⟨s, hs, h3⟩ := mem_acc.1 h2
    cases hf : aloneF x y with
    | none => rw [gapR_none hf] at h3; cases h3
    | some f =>
      rw [gapR_some hf] at h3
      split at h3
      · rename_i hc
        rw [List.mem_singleton] at h3
        exact ⟨by rw [h3]; exact hc.2, x, hx, y, hy, f, hf, s, hs, hc.1, h3⟩
      · cases h3
  · rintro ⟨hg, x, hx, y, hy, f, hf, s, hs, h1, h2⟩
    refine ⟨x, hx, mem_acc.2 ⟨y, hy, mem_acc.2 ⟨s, hs, ?_⟩⟩⟩
    rw [gapR_some hf, if_pos ⟨h1, by rw [← h2]; exact hg⟩, h2]
    exact List.mem_cons_self ..
theorem aloneF_lt {x y : Snd} {f : Nat} (h : aloneF x y = some f) : f < 24 := (aloneTo_some h).1
set_option maxHeartbeats 4000000 in
set_option maxRecDepth 20000 in
theorem rgaps_any (a : Option Addr) (n cap : Nat) (xs : List Snd) (w : World) (hr : RdS w a n cap xs) :
    Calls Tryd.prog 28 #[.slice a n cap] w (RetG xs w) := by
  have hl := hr.len
  have hck := rcheck_any 256 a n cap xs w hr
  by_cases hc : chkI 256 xs = 0
  · obtain ⟨hn, hok, _⟩ := chkI_zero hc
    rw [hl] at hn
    have hfin : ∀ O, SrtOf cmpS O (accTo xs (gap1 xs) n) → SrtG xs O := fun O h => ⟨h.1, fun g => (h.2 g).trans (by rw [← hl]; exact gap_acc)⟩
    have hg1 : ∀ x, gap1 xs x = accTo xs (gap2 xs x) n := fun x => by unfold gap1; rw [hl]
    have hg2 : ∀ x y, gap2 xs x y = accTo xs (gapR xs x y) n := fun x y => by unfold gap2; rw [hl]
    rw [hc] at hck
    replace hc := Lib.hid hc
    replace hok := Lib.hid hok
    replace hl := Lib.hid hl
    replace hfin := Lib.hid hfin
    replace hg1 := Lib.hid hg1
    replace hg2 := Lib.hid hg2
    go_enter Tryd.func28, Tryd.ntmps28
    go_wp2_with fail
    refine hck.mono ?_
    rintro e w1 ⟨rfl, hx1⟩
    clear hck
    go_wp2_with fail
    go_loopw [5, 6] (fun ov i wr => ∃ (k : Nat) (O : List Snd), k ≤ n ∧ i = .int .i64 k ∧ Ext w wr ∧ OwnS w.heap.size 27 wr ov O ∧ Hid (SrtOf cmpS O (accTo xs (gap1 xs) k)) ∧ O.length ≤ 65536 * k) (fun _ i _ => n - (intOf i).toNat)
    case atStart => exact ⟨0, [], Nat.zero_le _, rfl, hx1, OwnK.nil _ _ _, Lib.hid SrtOf.nil, by simp⟩
    case round =>
      clear hx1
      obtain ⟨i, O, hi, rfl, hx, hown, hO, hOl⟩ := hrel
      by_cases hlt : i < n
      · have hki : (i : Int) < (n : Int) := by omega
        obtain ⟨x, hxi⟩ : ∃ x, xs[i]? = some x := ⟨_, List.getElem?_eq_getElem (by rw [hl.out]; exact hlt)⟩
        have hso := hok.out x (List.mem_of_getElem? hxi)
        have hsu := accTo_succ (F := gap1 xs) hxi
        rw [hg1.out x] at hsu
        replace hsu := Lib.hid hsu
        generalize accTo xs (gap1 xs) i = A at *
        replace hxi := Lib.hid hxi
        obtain ⟨wo, rfl⟩ : ∃ wo : World, wo = wr := ⟨_, rfl⟩
        go_wp2_with fail
        go_loopw [5, 7] (fun ov jv wr => ∃ (j : Nat) (O : List Snd), j ≤ n ∧ jv = .int .i64 j ∧ Ext w wr ∧ OwnS w.heap.size 27 wr ov O ∧ Hid (SrtOf cmpS O (A ++ accTo xs (gap2 xs x) j)) ∧ O.length ≤ 65536 * i + 256 * j) (fun _ jv _ => n - (intOf jv).toNat)
        case atStart => exact ⟨0, O, Nat.zero_le _, rfl, hx, hown, Lib.hid (by simpa [accTo] using hO.out), by omega⟩
        case round =>
          clear hown hx hO hOl O
          obtain ⟨j, O, hj, rfl, hx, hown, hO, hOl⟩ := hrel
          by_cases hlj : j < n
          · have hji : (j : Int) < (n : Int) := by omega
            obtain ⟨b, off, x2, rfl, hx2, hb, c0, c1⟩ := (hr.ext hx).snd hlt
            have e1 : x2 = x := by have h3 := hx2.out; rw [hxi.out] at h3; exact (Option.some.inj h3).symm
            subst e1
            obtain ⟨b2, off2, y, heq, hyj, hb2, p0, p1⟩ := (hr.ext hx).snd hlj
            cases heq
            have hso2 := hok.out y (List.mem_of_getElem? hyj.out)
            have hsj := accTo_succ (F := gap2 xs x2) hyj.out
            rw [hg2.out x2 y] at hsj
            replace hsj : Hid (A ++ accTo xs (gap2 xs x2) (j + 1) = A ++ accTo xs (gap2 xs x2) j ++ accTo xs (gapR xs x2 y) n) := Lib.hid (by rw [hsj, List.append_assoc])
            generalize A ++ accTo xs (gap2 xs x2) j = B at *
            have r0 := fun z : ExtOf wr => z.cell c0
            have r1 := fun z : ExtOf wr => z.cell c1
            have r2 := fun z : ExtOf wr => z.cell p0
            have r3 := fun z : ExtOf wr => z.cell p1
            have hdf := fun W => alone_any x2 y W hso hso2
            unfold AlR at hdf
            replace hx2 := Lib.hid hx2.out
            replace hyj := Lib.hid hyj.out
            cases hf : aloneF x2 y with
            | none =>
              rw [hf] at hdf
              simp only [Option.getD_none, Option.isSome_none] at hdf
              rw [accTo_nil xs (gapR_none hf), List.append_nil] at hsj
              replace hf := Lib.hid hf
              go_wp2_with fail
              (refine wp_region_qx (by kernel_rfl) (by kernel_rfl) ?_
               repeat (go_big_quiet_step ((go_at_call 60; exact calls_ext (hdf _))))
               refine wpQuiet_nil ?_
               intro wq hw'
               have hxq := ext_of_ex hw'
               clear hw')
              clear r0 r1 r2 r3 hdf
              go_wp2_with fail
              (first | exact ⟨⟨j + 1, O, hlj, by go_num, hx.trans hxq, hown.kept hxq, by rw [hsj.out]; exact hO, by omega⟩, (by simp [intOf]; omega)⟩ | (go_roundw; case rel => exact ⟨j + 1, O, hlj, by go_num, hx.trans hxq, hown.kept hxq, by rw [hsj.out]; exact hO, by omega⟩; case measure => exact (by simp [intOf]; omega)))
            | some f =>
              rw [hf] at hdf
              simp only [Option.getD_some, Option.isSome_some] at hdf
              have hf24 := aloneF_lt hf
              have hgR := fun s => gapR_some (xs := xs) hf s
              replace hgR := Lib.hid hgR
              replace hf := Lib.hid hf
              go_wp2_with fail
              (refine wp_region_qx (by kernel_rfl) (by kernel_rfl) ?_
               repeat (go_big_quiet_step ((go_at_call 60; exact calls_ext (hdf _))))
               refine wpQuiet_nil ?_
               intro wq hw'
               have hxq := ext_of_ex hw'
               clear hw')
              clear r0 r1 r2 r3 hdf c0 c1 p0 p1
              have hx := hx.trans hxq
              have hown := hown.kept hxq
              clear hxq
              rename World => wz
              go_wp2_with fail
              go_loopw [5, 10] (fun ov kv wr => ∃ (k : Nat) (O : List Snd), k ≤ n ∧ kv = .int .i64 k ∧ Ext w wr ∧ OwnS w.heap.size 27 wr ov O ∧ Hid (SrtOf cmpS O (B ++ accTo xs (gapR xs x2 y) k)) ∧ O.length ≤ 65536 * i + 256 * j + k) (fun _ kv _ => n - (intOf kv).toNat)
              case atStart => exact ⟨0, O, Nat.zero_le _, rfl, hx, hown, Lib.hid (by simpa [accTo] using hO.out), by omega⟩
              case round =>
                clear hown hx hO hOl
                obtain ⟨k, O, hk, rfl, hx, hown, hO, hOl⟩ := hrel
                by_cases hlk : k < n
                · have hki3 : (k : Int) < (n : Int) := by omega
                  obtain ⟨b3, off3, x3, heq, hx3, hb3, c0, c1⟩ := (hr.ext hx).snd hlt
                  cases heq
                  have e1 : x3 = x2 := by have h3 := hx3.out; rw [hxi.out] at h3; exact (Option.some.inj h3).symm
                  subst e1
                  obtain ⟨b4, off4, y4, heq, hy4, hb4, p0, p1⟩ := (hr.ext hx).snd hlj
                  cases heq
                  have e2 : y4 = y := by have h3 := hy4.out; rw [hyj.out] at h3; exact (Option.some.inj h3).symm
                  subst e2
                  obtain ⟨b5, off5, s, heq, hs, hb5, s0, s1⟩ := (hr.ext hx).snd hlk
                  cases heq
                  have hss := hok.out s (List.mem_of_getElem? hs.out)
                  have hsk := accTo_succ (F := gapR xs x3 y4) hs.out
                  rw [hgR.out s] at hsk
                  have hga := fun W => getV_any x3 f hso hf24 W
                  have hgb := fun W => getV_any y4 f hso2 hf24 W
                  have hgc := fun W => getV_any s f hss hf24 W
                  have hpr := getS_range y4 f
                  have hwi := fun W => rwith_any s f (getS y4 f) W hss hf24 hpr
                  replace hs := Lib.hid hs.out
                  replace hx3 := Lib.hid hx3.out
                  replace hy4 := Lib.hid hy4.out
                  replace hsk := Lib.hid hsk
                  generalize hge : putS s f (getS y4 f) = g at *
                  generalize getS x3 f = ga at *
                  generalize getS y4 f = gb at *
                  generalize getS s f = gc at *
                  replace hge := Lib.hid hge
                  have r0 := fun z : ExtOf wr => z.cell c0
                  have r1 := fun z : ExtOf wr => z.cell c1
                  have r2 := fun z : ExtOf wr => z.cell s0
                  have r3 := fun z : ExtOf wr => z.cell s1
                  go_wp2_with fail
                  (refine wp_region_qx (by kernel_rfl) (by kernel_rfl) ?_
                   repeat (go_big_quiet_step ((first | (go_at_call_of 64 s; exact calls_ext (hgc _)) | (go_at_call_of 64 x3; exact calls_ext (hga _)))))
                   refine wpQuiet_nil ?_
                   intro wq hw'
                   have hxq := ext_of_ex hw'
                   clear hw')
                  clear r0 r1 r2 r3 hgc hga
                  have hx := hx.trans hxq
                  have hown := hown.kept hxq
                  have p0 := hxq.cellv p0
                  have p1 := hxq.cellv p1
                  have s0 := hxq.cellv s0
                  have s1 := hxq.cellv s1
                  clear hxq
                  rename World => wy
                  by_cases hgq : gc = ga
                  · subst hgq
                    have hEq : Ext wy wy.drew := (Ext.refl _).drew
                    go_wp2_with fail
                    go_region_held3 (fun w' => Ext wy w' ∧ w'.cell? ⟨b, off + j * 2, none⟩ = some (.int .u32 y4.p.toNat) ∧ w'.cell? ⟨b, off + j * 2 + 1, none⟩ = some (.int .u32 y4.m.toNat) ∧ w'.cell? ⟨b, off + k * 2, none⟩ = some (.int .u32 s.p.toNat) ∧ w'.cell? ⟨b, off + k * 2 + 1, none⟩ = some (.int .u32 s.m.toNat))
                      ((go_split_ands; refine (fun (h : Ext wy _) => And.intro h (And.intro (h.cellv p0) (And.intro (h.cellv p1) (And.intro (h.cellv s0) (h.cellv s1))))) ?_; first | exact (Ext.refl _).drew | exact hEq | exact hEq.alloc _ | exact SndB.setx hEq hCle g))
                      (first
                        | (go_at_call 64; refine (hgb _).mono ?_; rintro e wa ⟨rfl, hxa⟩; replace hEq : Ext wy wa := (by first | exact hEq.trans hxa | exact (hEq.alloc _).trans hxa))
                        | (go_at_call 65; refine (hwi _).mono ?_; rintro e wb ⟨rfl, hxb⟩; have hEa := hEq; replace hEq : Ext wy wb := (by first | exact hEa.trans hxb | exact (hEa.alloc _).trans hxb); first | (have q2 : SndB wb wy.heap.size ⟨0#32, 0#32⟩ := ((SndB.zero wy.drew).ext hxa).ext hxb; have hCle : wy.heap.size ≤ wy.heap.size := Nat.le_refl _; obtain ⟨c2, c3⟩ := q2.cells; obtain ⟨f0, f1⟩ := q2.frz) | (have q2 : SndB wb wa.heap.size ⟨0#32, 0#32⟩ := (SndB.zero wa).ext hxb; have hCle : wy.heap.size ≤ wa.heap.size := hEa.le; obtain ⟨c2, c3⟩ := q2.cells; obtain ⟨f0, f1⟩ := q2.frz) | (have hCle : wy.heap.size ≤ wb.heap.size := hEq.le; have q2 : True := trivial)))
                    all_goals
                      first
                      | (have q1 := SndB.set (B := wy.heap.size) q2 g; have hE3 := SndB.setx (B := wy.heap.size) hEq hCle g; generalize ((wb.setCell ⟨wy.heap.size, 0, none⟩ (.int .u32 g.p.toNat)).setCell ⟨wy.heap.size, 1, none⟩ (.int .u32 g.m.toNat)) = wC at *; generalize wy.heap.size = C at *)
                      | (have q1 := SndB.set (B := wa.heap.size) q2 g; have hE3 := SndB.setx (B := wa.heap.size) hEq hCle g; generalize ((wb.setCell ⟨wa.heap.size, 0, none⟩ (.int .u32 g.p.toNat)).setCell ⟨wa.heap.size, 1, none⟩ (.int .u32 g.m.toNat)) = wC at *; generalize wa.heap.size = C at *)
                      | (have q1 := SndB.new wb g; have hE3 : Ext wy (wb.alloc (.cells #[.int .u32 g.p.toNat, .int .u32 g.m.toNat] 27)) := hEq.alloc _; generalize (wb.alloc (.cells #[.int .u32 g.p.toNat, .int .u32 g.m.toNat] 27)) = wC at *; generalize wb.heap.size = C at *)
                    all_goals
                      have hx := hx.trans hE3
                      have hown := hown.kept hE3
                      clear hE3 hEq hgb hwi p0 p1 s0 s1 hCle q2
                      obtain ⟨c0, c1⟩ := q1.cells
                      have hcn := rhas_any (some ⟨b, off, none⟩) n cap xs g _ (hr.ext hx)
                      by_cases hin : g ∈ xs
                      · rw [decide_eq_true hin] at hcn
                        rw [if_neg (fun h => h.2 hin), List.append_nil] at hsk
                        have hsk2 : B ++ accTo xs (gapR xs x3 y4) (k + 1) = B ++ accTo xs (gapR xs x3 y4) k := by rw [hsk.out]
                        go_wp2_with fail
                        refine hcn.mono ?_
                        rintro e w9 ⟨rfl, hx9⟩
                        go_wp2_with fail
                        (first | exact ⟨⟨k + 1, O, hlk, by go_num, hx.trans hx9, hown.kept hx9, by rw [hsk2]; exact hO, by omega⟩, (by simp [intOf]; omega)⟩ | (go_roundw; case rel => exact ⟨k + 1, O, hlk, by go_num, hx.trans hx9, hown.kept hx9, by rw [hsk2]; exact hO, by omega⟩; case measure => exact (by simp [intOf]; omega)))
                      · rw [decide_eq_false hin] at hcn
                        rw [if_pos ⟨by simp, hin⟩] at hsk
                        have hO2 : SrtOf cmpS (addS O g) (B ++ accTo xs (gapR xs x3 y4) (k + 1)) := by rw [hsk.out, ← List.append_assoc]; exact addS_srt hO.out
                        have hOl2 := addS_len O g
                        obtain ⟨a5, _, cap5, rfl, rfl, _⟩ := OwnK.rdn Snd.len hown
                        go_wp2_with fail
                        refine hcn.mono ?_
                        rintro e w9 ⟨rfl, hx9⟩
                        have hx := hx.trans hx9
                        have hown := hown.kept hx9
                        obtain ⟨c0, c1⟩ := (q1.ext hx9).cells
                        obtain ⟨a6, n6, cap6, _, heq, hrd⟩ := OwnK.rdn Snd.len hown
                        injection heq with e1 e2 e3
                        subst e1 e2 e3
                        have had := radd_any a5 O.length cap5 O g w9 hrd (by omega)
                        clear hx9 hcn q1
                        go_wp2_with fail
                        refine had.mono ?_
                        rintro e w10 ⟨v5, rfl, hor, hx10⟩
                        have hown' : OwnS w.heap.size 27 w10 v5 (addS O g) := by
                          rcases hor with h | ⟨h1, h2⟩
                          · exact OwnK.base h hx.le
                          · rw [h1, h2]; exact hown.kept hx10
                        clear hor had
                        go_wp2_with fail
                        (first | exact ⟨⟨k + 1, addS O g, hlk, by go_num, hx.trans hx10, hown', Lib.hid hO2, by omega⟩, (by simp [intOf]; omega)⟩ | (go_roundw; case rel => exact ⟨k + 1, addS O g, hlk, by go_num, hx.trans hx10, hown', Lib.hid hO2, by omega⟩; case measure => exact (by simp [intOf]; omega)))
                  · rw [if_neg (fun h => hgq h.1), List.append_nil] at hsk
                    have hsk2 : B ++ accTo xs (gapR xs x3 y4) (k + 1) = B ++ accTo xs (gapR xs x3 y4) k := by rw [hsk.out]
                    go_wp2_with fail
                    (first | exact ⟨⟨k + 1, O, hlk, by go_num, hx, hown, by rw [hsk2]; exact hO, by omega⟩, (by simp [intOf]; omega)⟩ | (go_roundw; case rel => exact ⟨k + 1, O, hlk, by go_num, hx, hown, by rw [hsk2]; exact hO, by omega⟩; case measure => exact (by simp [intOf]; omega)))
                · have hjn : k = n := by omega
                  rw [hjn, ← hsj.out] at hO
                  have hOl2 : O.length ≤ 65536 * i + 256 * (j + 1) := by omega
                  replace hjn := Lib.hid hjn
                  go_wp2_with fail
                  (first | exact ⟨⟨j + 1, O, hlj, by go_num, hx, hown, hO, hOl2⟩, (by simp [intOf]; omega)⟩ | (go_roundw; case rel => exact ⟨j + 1, O, hlj, by go_num, hx, hown, hO, hOl2⟩; case measure => exact (by simp [intOf]; omega)))
          · have hjn : j = n := by omega
            rw [hjn, ← hsu.out] at hO
            have hOl2 : O.length ≤ 65536 * (i + 1) := by omega
            replace hjn := Lib.hid hjn
            go_wp2_with fail
            (first | exact ⟨⟨i + 1, O, hlt, by go_num, hx, hown, hO, hOl2⟩, (by simp [intOf]; omega)⟩ | (go_roundw; case rel => exact ⟨i + 1, O, hlt, by go_num, hx, hown, hO, hOl2⟩; case measure => exact (by simp [intOf]; omega)))
      · have hkn : i = n := by omega
        rw [hkn] at hO
        have hfin := hfin.out O hO.out
        replace hkn := Lib.hid hkn
        go_wp2_with fail
        go_ret2
        exact ⟨_, O, by rw [hc.out]; rfl, hown, fun _ => hfin, fun h => absurd hc.out h, hx⟩
  · obtain ⟨E, hE⟩ : ∃ E, chkI 256 xs = E := ⟨_, rfl⟩
    rw [hE] at hck hc
    have hd : (E != 0) = true := by simpa using hc
    replace hE := Lib.hid hE
    go_enter Tryd.func28, Tryd.ntmps28
    go_wp2_with fail
    refine hck.mono ?_
    rintro e w1 ⟨rfl, hx1⟩
    clear hck
    go_wp2_with fail
    go_ret2
    exact ⟨_, [], by rw [hE.out]; rfl, OwnK.nil _ _ _, fun h => absurd (hE.out ▸ h) hc, fun _ => rfl, hx1⟩
end Go.Proofs.YtbnbfdbliokcaaaDoor
