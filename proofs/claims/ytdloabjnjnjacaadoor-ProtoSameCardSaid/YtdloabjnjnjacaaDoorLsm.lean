/-
  The law ProtoSame: the walk.
-/
import Derived.Test.YtdloabjnjnjacaaDoorLs
import Derived.Test.YtdloabjnjnjacaaDoorAt
import Derived.Test.YtdloabjnjnjacaaDoorSt
import Derived.Test.YtdloabjnjnjacaaDoorOc
namespace Go.Proofs.YtdloabjnjnjacaaDoor
open Go.RowKit Go.Shelf

set_option maxHeartbeats 8000000 in
set_option maxRecDepth 100000 in
theorem protoSame_any (a : Option Addr) (n cap : Nat) (ts : List Nd) (ac : Option Addr) (nc cc : Nat) (cs : List Snd) (aw : Option Addr) (nw cw : Nat) (ws : List Int) (g : Int) (ab : Option Addr) (nb cb : Nat) (kb : List Bool) (z : Int) (w : World)
    (hr : RdN w a n cap ts) (hc : RdS w ac nc cc cs) (hw : RdI w aw nw cw ws) (hkb : RdK 1 BoE.enc w ab nb cb kb) (hz : (Lit.int .u8 z).wf = true) (hT : TabOk w) :
    Calls Tryd.prog 6 #[caseV a n cap ac nc cc aw nw cw g, .slice ab nb cb, .int .u8 z] w fun e w' => e = .returned (.bool true) ∧ Ext w w' := by
  obtain ⟨zn, hzn, rfl⟩ := u8_of hz
  have hs := fun W => small_any a n cap ac nc cc aw nw cw g W (len_int hr.rd) (len_int hc) (len_int hw)
  obtain ⟨s, hsm⟩ : ∃ s, s = smallB n nc nw := ⟨_, rfl⟩
  rw [← hsm] at hs
  cases s
  · clear hsm
    go_enter Tryd.func6, Tryd.ntmps6
    go_wp2_with fail
    refine (hs _).mono ?_
    rintro e w1 ⟨rfl, hx1⟩
    have hb0 := (hx1).cellv (cell_new_list w [.slice a n cap, .slice ac nc cc, .slice aw nw cw, .int .i64 g] 34 0 _ rfl)
    have hb1 := (hx1).cellv (cell_new_list w [.slice a n cap, .slice ac nc cc, .slice aw nw cw, .int .i64 g] 34 1 _ rfl)
    have hb2 := (hx1).cellv (cell_new_list w [.slice a n cap, .slice ac nc cc, .slice aw nw cw, .int .i64 g] 34 2 _ rfl)
    have hb3 := (hx1).cellv (cell_new_list w [.slice a n cap, .slice ac nc cc, .slice aw nw cw, .int .i64 g] 34 3 _ rfl)
    have hlt : w.heap.size < w1.heap.size := by have := hx1.le; simp at this; omega
    have hxw1 : Ext w w1 := (by repeat (first | exact Ext.refl _ | assumption | refine Ext.drew ?_ | refine Ext.drewN ?_ _ | refine Ext.alloc ?_ _ | refine Ext.trans ?_ (by assumption)))
    clear hs hx1
    go_wp2_with fail
    refine (works_any _ (hT.ext (by repeat (first | exact Ext.refl _ | assumption | refine Ext.drew ?_ | refine Ext.drewN ?_ _ | refine Ext.alloc ?_ _ | refine Ext.trans ?_ (by assumption))))).mono ?_
    rintro e wz ⟨rfl, hxz⟩
    go_wp2_with fail
    go_ret
    exact ⟨rfl, (by repeat (first | exact Ext.refl _ | assumption | refine Ext.drew ?_ | refine Ext.drewN ?_ _ | refine Ext.alloc ?_ _ | refine Ext.trans ?_ (by assumption)))⟩
  have hsz : nc < 20 ∧ n ≤ 8 := by
    unfold smallB at hsm
    simp at hsm; omega
  obtain ⟨hnc, hn8⟩ := hsz
  clear hsm
  by_cases hnz : nc = 0
  · have hd1 : ((nc : Int) == 0) = true := by simp; omega
    replace hnz := Lib.hid hnz
    go_enter Tryd.func6, Tryd.ntmps6
    go_wp2_with fail
    refine (hs _).mono ?_
    rintro e w1 ⟨rfl, hx1⟩
    have hb0 := (hx1).cellv (cell_new_list w [.slice a n cap, .slice ac nc cc, .slice aw nw cw, .int .i64 g] 34 0 _ rfl)
    have hb1 := (hx1).cellv (cell_new_list w [.slice a n cap, .slice ac nc cc, .slice aw nw cw, .int .i64 g] 34 1 _ rfl)
    have hb2 := (hx1).cellv (cell_new_list w [.slice a n cap, .slice ac nc cc, .slice aw nw cw, .int .i64 g] 34 2 _ rfl)
    have hb3 := (hx1).cellv (cell_new_list w [.slice a n cap, .slice ac nc cc, .slice aw nw cw, .int .i64 g] 34 3 _ rfl)
    have hlt : w.heap.size < w1.heap.size := by have := hx1.le; simp at this; omega
    have hxw1 : Ext w w1 := (by repeat (first | exact Ext.refl _ | assumption | refine Ext.drew ?_ | refine Ext.drewN ?_ _ | refine Ext.alloc ?_ _ | refine Ext.trans ?_ (by assumption)))
    clear hs hx1
    go_wp2_with fail
    refine (works_any _ (hT.ext (by repeat (first | exact Ext.refl _ | assumption | refine Ext.drew ?_ | refine Ext.drewN ?_ _ | refine Ext.alloc ?_ _ | refine Ext.trans ?_ (by assumption))))).mono ?_
    rintro e wz ⟨rfl, hxz⟩
    go_wp2_with fail
    go_ret
    exact ⟨rfl, (by repeat (first | exact Ext.refl _ | assumption | refine Ext.drew ?_ | refine Ext.drewN ?_ _ | refine Ext.alloc ?_ _ | refine Ext.trans ?_ (by assumption)))⟩
  have hd1 : ((nc : Int) == 0) = false := by simp; omega
  replace hnz := Lib.hid hnz
  have hcsl := hc.len
  have hrl := hr.rd.len
  have hl1 := len_int hkb
  have hlv := fun W (z : Ext w W) => tleaves_any a n cap ts W (hr.ext z)
  unfold RetIE at hlv
  have hp := fun W (z : Ext w W) (ax : Option Addr) (l cx : Nat) (x : List Cl) (hx : RdC W ax l cx x) => pcellX_any a n cap ts ax l cx x ac nc cc cs aw nw cw ws g W (hr.ext z) hx (hc.ext z) (hw.ext z) (hT.ext z)
  unfold CellRet at hp
  have hti := fun W (z : Ext w W) (ax : Option Addr) (l cx : Nat) (x : List Cl) (hx : RdC W ax l cx x) => pties_any a n cap ts ax l cx x ac nc cc cs aw nw cw ws g W (hr.ext z) hx (hc.ext z) (hw.ext z) (hT.ext z)
  unfold RetCE at hti
  have hmat := fun W (z : Ext w W) => matrix_any ac nc cc cs aw nw cw ws g W (hc.ext z) (hw.ext z) (hT.ext z)
  unfold MatRet at hmat
  by_cases htt : treeB ts = true
  · have hR : leavesR ts = leafL ts := by unfold leavesR; rw [if_pos htt]
    rw [hR, treeE_zero htt] at hlv
    have hll : (leafL ts).length ≤ n := by rw [← hrl]; exact leafTo_len ts _
    obtain ⟨LL, hLL⟩ : ∃ LL, LL = leafL ts := ⟨_, rfl⟩
    rw [← hLL] at hlv hll
    replace hLL := Lib.hid hLL
    replace hll := Lib.hid hll
    replace hcsl := Lib.hid hcsl
    replace hrl := Lib.hid hrl
    replace htt := Lib.hid htt
    clear hR
    have hw1 : IntKind.i64.wrap ((nc : Int) + 1) = nc + 1 := IntWalk.i64_in _ (by omega)
    obtain ⟨kk, hkk⟩ : ∃ kk, kk = zn % (nc + 1) := ⟨_, rfl⟩
    have hkl : kk < nc + 1 := by rw [hkk]; exact Nat.mod_lt _ (by omega)
    have hmod : (zn : Int).tmod ((nc : Int) + 1) = kk := by rw [hkk]; rfl
    have hmod2 : (zn : Int) % ((nc : Int) + 1) = kk := by rw [hkk]; rfl
    replace hkk := Lib.hid hkk
    go_enter Tryd.func6, Tryd.ntmps6
    go_wp2_with fail
    refine (hs _).mono ?_
    rintro e w1 ⟨rfl, hx1⟩
    have hb0 := (hx1).cellv (cell_new_list w [.slice a n cap, .slice ac nc cc, .slice aw nw cw, .int .i64 g] 34 0 _ rfl)
    have hb1 := (hx1).cellv (cell_new_list w [.slice a n cap, .slice ac nc cc, .slice aw nw cw, .int .i64 g] 34 1 _ rfl)
    have hb2 := (hx1).cellv (cell_new_list w [.slice a n cap, .slice ac nc cc, .slice aw nw cw, .int .i64 g] 34 2 _ rfl)
    have hb3 := (hx1).cellv (cell_new_list w [.slice a n cap, .slice ac nc cc, .slice aw nw cw, .int .i64 g] 34 3 _ rfl)
    have hlt : w.heap.size < w1.heap.size := by have := hx1.le; simp at this; omega
    have hxw1 : Ext w w1 := (by repeat (first | exact Ext.refl _ | assumption | refine Ext.drew ?_ | refine Ext.drewN ?_ _ | refine Ext.alloc ?_ _ | refine Ext.trans ?_ (by assumption)))
    clear hs hx1
    go_wp2_with fail
    refine (hlv _ hxw1).mono ?_
    rintro e w2 ⟨v1, rfl, ho1, hx2⟩
    obtain ⟨a3, m3, j3, e3, rfl, hr3⟩ := OwnK.rdn I64.len ho1
    have hm3 : m3 ≤ 8 := by have := hll.out; omega
    replace e3 := Lib.hid e3
    have hc0 := (hx2).cellv hb0
    have hc1 := (hx2).cellv hb1
    have hc2 := (hx2).cellv hb2
    have hc3 := (hx2).cellv hb3
    have hcl : w.heap.size < _ := cell_lt hc0
    clear hb0 hb1 hb2 hb3
    have hxw2 := hxw1.trans hx2
    clear hlv hxw1 hx2 ho1
    go_wp2_with fail
    refine (lgap_any _).mono ?_
    rintro e w3 ⟨rfl, hx3⟩
    have hb0 := (hx3).cellv hc0
    have hb1 := (hx3).cellv hc1
    have hb2 := (hx3).cellv hc2
    have hb3 := (hx3).cellv hc3
    have hbl : w.heap.size < _ := cell_lt hb0
    clear hc0 hc1 hc2 hc3
    have hxw3 := hxw2.trans hx3
    clear hmod hmod2 hw1 hxw2 hx3
    by_cases hkn : kk < nc
    · have hd7 : decide (kk < nc) = true := by simpa using hkn
      have hkni : (kk : Int) < (nc : Int) := by omega
      obtain ⟨bc, oc, sk, rfl, hsk, hbc, qq0, qq1⟩ := hc.snd hkn
      have q0 := hxw3.cellv qq0
      have q1 := hxw3.cellv qq1
      have hbc3 : bc < w3.heap.size := cell_lt q0
      clear qq0 qq1
      go_wp2_with fail
      have hblk : CellB (w3.alloc (.cells #[.int .i64 2, .int .u32 sk.p.toNat, .int .u32 sk.m.toNat] 40)) w3.heap.size ⟨2, sk⟩ := World.alloc_heap_new w3 _
      have hxB : Ext w3 (w3.alloc (.cells #[.int .i64 2, .int .u32 sk.p.toNat, .int .u32 sk.m.toNat] 40)) := Ext.alloc1 _ _
      generalize (w3.alloc (.cells #[.int .i64 2, .int .u32 sk.p.toNat, .int .u32 sk.m.toNat] 40)) = wB at *
      obtain ⟨one, hone⟩ : ∃ one : Cl, one = ⟨2, sk⟩ := ⟨_, rfl⟩
      have hko : knownC one = true := by rw [hone]; rfl
      rw [← hone] at hblk
      clear hone hsk q0 q1 hd7 hkni hbc3 hbc
      generalize w3.heap.size = q1 at *
      have hc0 := (hxB).cellv hb0
      have hc1 := (hxB).cellv hb1
      have hc2 := (hxB).cellv hb2
      have hc3 := (hxB).cellv hb3
      have hcl : w.heap.size < _ := cell_lt hc0
      clear hb0 hb1 hb2 hb3
      have hxwB := hxw3.trans hxB
      obtain ⟨g0, g1, g2⟩ := cells3 hblk
      have hlq : q1 < wB.heap.size := cell_lt g0
      have hmk := mk_cells m3 (by omega)
      replace hko := Lib.hid hko
      clear hxw3 hxB hblk
      go_wp2_with fail
      rw [hmk wB]
      go_wp2_with fail
      have hrow : RowC (wB.alloc (.cells (madeCells #[.int .i64 0, .int .u32 0, .int .u32 0] (m3 * 3)) 40)) wB.heap.size m3 (List.replicate m3 zerC) := RowC.start wB m3
      have hx34 : Ext wB (wB.alloc (.cells (madeCells #[.int .i64 0, .int .u32 0, .int .u32 0] (m3 * 3)) 40)) := Ext.alloc1 _ _
      obtain ⟨G, hG⟩ : ∃ G, G = wB.heap.size := ⟨_, rfl⟩
      rw [← hG] at hrow ⊢
      have hGle : wB.heap.size ≤ G := by omega
      have hGw : w.heap.size < G := by omega
      have hGq : q1 < G := by omega
      replace hG := Lib.hid hG
      generalize (wB.alloc (.cells (madeCells #[.int .i64 0, .int .u32 0, .int .u32 0] (m3 * 3)) 40)) = w4 at *
      go_loopw [11, 13] (fun s i wr => ∃ (j : Nat) (tb : Bool) (xs : List Cl), j ≤ m3 ∧ i = .int .i64 j ∧ s = .bool tb ∧ RowC wr G m3 xs ∧ Hid ((∀ c ∈ xs, c = one ∨ c = zerC) ∧ tb = xs.any knownC) ∧ Ext wB wr) (fun _ i _ => m3 - (intOf i).toNat)
      case atStart => exact ⟨0, false, _, Nat.zero_le _, rfl, rfl, hrow, Lib.hid ⟨fun c hc => .inr (List.eq_of_mem_replicate hc), by symm; rw [List.any_eq_false]; intro c hc; rw [List.eq_of_mem_replicate hc]; simp [knownC, zerC]⟩, hx34⟩
      clear hrow hx34
      case round =>
        obtain ⟨j, tb, xs, hj, rfl, rfl, hrowj, hxs, hxr⟩ := hrel
        by_cases hlt : j < m3
        · have hjm : (j : Int) < (m3 : Int) := by omega
          by_cases hnb : nb ≤ j
          · have hd8 : decide (nb ≤ j) = true := by simpa using hnb
            obtain ⟨cOld, _, s0, s1, s2⟩ := hrowj.cells hlt
            obtain ⟨z0, zz1, z2⟩ := hrowj.frz
            have hGlt := hrowj.lt
            have lg0 := hxr.cellv g0
            have lg1 := hxr.cellv g1
            have lg2 := hxr.cellv g2
            have hset := hrowj.set hlt one
            have hxs2 : Hid ((∀ c ∈ xs.set j one, c = one ∨ c = zerC) ∧ true = (xs.set j one).any knownC) := Lib.hid ⟨fun c hc => by
              rcases List.mem_or_eq_of_mem_set hc with h1 | h1
              · exact hxs.out.1 c h1
              · exact .inl h1, by symm; exact List.any_eq_true.2 ⟨one, List.mem_of_getElem? (List.getElem?_set_self (by rw [hrowj.len]; exact hlt)), hko.out⟩⟩
            have hxset := ((hxr.setCell (p := ⟨G, j * 3, none⟩) hGle (.int .i64 one.kind)).setCell (p := ⟨G, j * 3 + 1, none⟩) hGle (.int .u32 one.s.p.toNat)).setCell (p := ⟨G, j * 3 + 2, none⟩) hGle (.int .u32 one.s.m.toNat)
            go_wp2_with fail
            (first | exact ⟨⟨j + 1, true, _, by omega, by go_num, rfl, hset, hxs2, hxset⟩, (by simp [intOf]; omega)⟩ | (go_roundw; case rel => exact ⟨j + 1, true, _, by omega, by go_num, rfl, hset, hxs2, hxset⟩; case measure => exact (by simp [intOf]; omega)))
          · have hd8 : decide (nb ≤ j) = false := by simpa using hnb
            have hjb : (j : Int) < (nb : Int) := by omega
            obtain ⟨b4, o4, pv, rfl, hpv, hb4, hcl4⟩ := (hkb.ext (hxwB.trans hxr)).get (show j < nb by omega)
            have p0 : wr.cell? ⟨b4, o4 + j, none⟩ = some (.bool pv) := by simpa using hcl4 0 _ rfl
            clear hcl4
            cases pv
            · go_wp2_with fail
              (first | exact ⟨⟨j + 1, tb, xs, by omega, by go_num, rfl, hrowj, hxs, hxr⟩, (by simp [intOf]; omega)⟩ | (go_roundw; case rel => exact ⟨j + 1, tb, xs, by omega, by go_num, rfl, hrowj, hxs, hxr⟩; case measure => exact (by simp [intOf]; omega)))
            · obtain ⟨cOld, _, s0, s1, s2⟩ := hrowj.cells hlt
              obtain ⟨z0, zz1, z2⟩ := hrowj.frz
              have hGlt := hrowj.lt
              have lg0 := hxr.cellv g0
              have lg1 := hxr.cellv g1
              have lg2 := hxr.cellv g2
              have hset := hrowj.set hlt one
              have hxs2 : Hid ((∀ c ∈ xs.set j one, c = one ∨ c = zerC) ∧ true = (xs.set j one).any knownC) := Lib.hid ⟨fun c hc => by
                rcases List.mem_or_eq_of_mem_set hc with h1 | h1
                · exact hxs.out.1 c h1
                · exact .inl h1, by symm; exact List.any_eq_true.2 ⟨one, List.mem_of_getElem? (List.getElem?_set_self (by rw [hrowj.len]; exact hlt)), hko.out⟩⟩
              have hxset := ((hxr.setCell (p := ⟨G, j * 3, none⟩) hGle (.int .i64 one.kind)).setCell (p := ⟨G, j * 3 + 1, none⟩) hGle (.int .u32 one.s.p.toNat)).setCell (p := ⟨G, j * 3 + 2, none⟩) hGle (.int .u32 one.s.m.toNat)
              go_wp2_with fail
              (first | exact ⟨⟨j + 1, true, _, by omega, by go_num, rfl, hset, hxs2, hxset⟩, (by simp [intOf]; omega)⟩ | (go_roundw; case rel => exact ⟨j + 1, true, _, by omega, by go_num, rfl, hset, hxs2, hxset⟩; case measure => exact (by simp [intOf]; omega)))
        · obtain rfl : m3 = j := by omega
          have hb0 := (hxr).cellv hc0
          have hb1 := (hxr).cellv hc1
          have hb2 := (hxr).cellv hc2
          have hb3 := (hxr).cellv hc3
          have hbl : w.heap.size < _ := cell_lt hb0
          have hxwr := hxwB.trans hxr
          have hrd := hrowj.rd (by unfold maxLen; omega)
          have hcall := hp _ hxwr (some ⟨G, 0, Option.none⟩) m3 m3 xs hrd
          by_cases hE : tieE ts cs ws g xs = 0
          · have htt : begE ts cs ws g = 0 ∧ onE ts cs xs = 0 := by
              unfold tieE at hE
              by_cases h1 : begE ts cs ws g = 0
              · rw [if_neg (by simp [h1])] at hE; exact ⟨h1, hE⟩
              · rw [if_pos h1] at hE; exact absurd hE h1
            obtain ⟨hB, hO⟩ := htt
            cases tb
            · have hk : knownB xs = false := hxs.out.2.symm
              have hX : cellX ts cs ws g xs = (zerC, 0) := by unfold cellX bestX; rw [if_pos hB, if_neg (by simp [hk])]
              rw [hX, hE] at hcall
              simp only at hcall
              obtain ⟨c1, hc1⟩ : ∃ c, c = zerC := ⟨_, rfl⟩
              have hdc : decide (c1 = zerC) = true := by simp [hc1]
              have hez : ∀ W, (binOp .eql 40 (clV c1) (.agg #[.int .i64 0, .int .u32 0, .int .u32 0])).run Tryd.prog W = .ok (.bool (decide (c1 = zerC))) W := fun W => eql_cl c1 zerC W
              rw [← hc1] at hcall
              replace hc1 := Lib.hid hc1
              clear hp hti hmat g0 g1 g2 hX hB hO hk hE
              go_wp2_with fail
              refine hcall.mono ?_
              rintro e w5 ⟨rfl, hx5⟩
              have hxw5 := hxwr.trans hx5
              clear hcall
              go_wp2_with fail
              refine (works_any _ (hT.ext (by repeat (first | exact Ext.refl _ | assumption | refine Ext.drew ?_ | refine Ext.drewN ?_ _ | refine Ext.alloc ?_ _ | refine Ext.trans ?_ (by assumption))))).mono ?_
              rintro e wz ⟨rfl, hxz⟩
              go_wp2_with fail
              go_ret
              exact ⟨rfl, (by repeat (first | exact Ext.refl _ | assumption | refine Ext.drew ?_ | refine Ext.drewN ?_ _ | refine Ext.alloc ?_ _ | refine Ext.trans ?_ (by assumption)))⟩
            · have hk : knownB xs = true := hxs.out.2.symm
              have hcond : ∀ c ∈ xs, knownC c = true → c = one := fun c hc hkc => by
                rcases hxs.out.1 c hc with h | h
                · exact h
                · rw [h] at hkc; cases hkc
              obtain ⟨_, hz0, hmem⟩ := same_zero hB hO hk hcond
              have hsone := same_one hB hO hk hcond
              have hm0 := (begE_zero hB).2
              have hML := fun (i : Nat) (r : List Int) (h : (matL cs ws g)[i]? = some r) => matL_at h
              have ht := fun W (z : Ext w W) (hx : RdC W (some ⟨G, 0, Option.none⟩) m3 m3 xs) => hti W z (some ⟨G, 0, Option.none⟩) m3 m3 xs hx
              rw [hE, hz0] at hcall
              rw [hE] at ht
              simp only [hcsl.out] at hmat hML hsone
              obtain ⟨N, hN⟩ : ∃ N, N = nc + 1 := ⟨_, rfl⟩
              simp only [← hN] at hmat hML hsone
              generalize (cellX ts cs ws g xs).1 = c1 at *
              generalize tieL ts cs ws g xs = TL at *
              generalize matL cs ws g = ML at *
              generalize costM cs ws g = D at *
              generalize matE cs ws g = mE at *
              subst hm0
              have lg0 := hxr.cellv g0
              have lg1 := hxr.cellv g1
              have lg2 := hxr.cellv g2
              replace hsone := Lib.hid hsone
              replace hML := Lib.hid hML
              replace hmem := Lib.hid hmem
              clear hp hti g0 g1 g2 hB hO hk hE hcond hz0 hxs hGle hGw hGq hxr hrowj
              go_wp2_with fail
              refine hcall.mono ?_
              rintro e w5 ⟨rfl, hx5⟩
              have hc0 := (hx5).cellv hb0
              have hc1 := (hx5).cellv hb1
              have hc2 := (hx5).cellv hb2
              have hc3 := (hx5).cellv hb3
              have hcl : w.heap.size < _ := cell_lt hc0
              clear hb0 hb1 hb2 hb3
              have mg0 := hx5.cellv lg0
              have mg1 := hx5.cellv lg1
              have mg2 := hx5.cellv lg2
              have hrd5 := hrd.ext hx5
              have hxw5 := hxwr.trans hx5
              clear hcall lg0 lg1 lg2 hrd hxwr hx5
              go_wp2_with fail
              have hblk5 := World.alloc_heap_new w5 (.cells #[.int .i64 c1.kind, .int .u32 c1.s.p.toNat, .int .u32 c1.s.m.toNat] 40)
              have hxa : Ext w5 (w5.alloc (.cells #[.int .i64 c1.kind, .int .u32 c1.s.p.toNat, .int .u32 c1.s.m.toNat] 40)) := Ext.alloc1 _ _
              generalize (w5.alloc (.cells #[.int .i64 c1.kind, .int .u32 c1.s.p.toNat, .int .u32 c1.s.m.toNat] 40)) = wa at *
              generalize w5.heap.size = q5 at *
              have hb0 := (hxa).cellv hc0
              have hb1 := (hxa).cellv hc1
              have hb2 := (hxa).cellv hc2
              have hb3 := (hxa).cellv hc3
              have hbl : w.heap.size < _ := cell_lt hb0
              clear hc0 hc1 hc2 hc3
              obtain ⟨f0, f1, f2⟩ := cells3 hblk5
              have ng0 := hxa.cellv mg0
              have ng1 := hxa.cellv mg1
              have ng2 := hxa.cellv mg2
              have hrd6 := hrd5.ext hxa
              have hxwa := hxw5.trans hxa
              clear mg0 mg1 mg2 hrd5 hxw5 hxa hblk5
              refine (ht _ hxwa hrd6).mono ?_
              rintro e w7 ⟨v2, rfl, ho2, hx7⟩
              obtain ⟨a2, m2, j2, e2, rfl, hr2⟩ := OwnK.rdn Cl.len ho2
              replace e2 := Lib.hid e2
              have hm2 := len_int hr2
              have hc0 := (hx7).cellv hb0
              have hc1 := (hx7).cellv hb1
              have hc2 := (hx7).cellv hb2
              have hc3 := (hx7).cellv hb3
              have hcl : w.heap.size < _ := cell_lt hc0
              clear hb0 hb1 hb2 hb3
              have og0 := hx7.cellv ng0
              have og1 := hx7.cellv ng1
              have og2 := hx7.cellv ng2
              have k0 := hx7.cellv f0
              have k1 := hx7.cellv f1
              have k2 := hx7.cellv f2
              have hxw7 := hxwa.trans hx7
              have hec := eql_cl
              clear ht ng0 ng1 ng2 f0 f1 f2 hrd6 hxwa hx7 ho2
              go_wp2_with fail
              go_loopw [19, 20] (fun t k wr => ∃ (q : Nat) (tb : Bool), q ≤ m2 ∧ k = .int .i64 q ∧ t = .bool tb ∧ Hid (tb = decide (one ∈ TL.take q)) ∧ Ext w7 wr) (fun _ k _ => m2 - (intOf k).toNat)
              case atStart => exact ⟨0, false, Nat.zero_le _, rfl, rfl, Lib.hid (by simp), Ext.refl _⟩
              case round =>
                obtain ⟨q, tb, hq, rfl, rfl, htq, hxi⟩ := hrel
                have hxw := hxw7.trans hxi
                by_cases hqm : q < m2
                · obtain ⟨b3, o3, d, rfl, hdd, hbb3, p0, p1, p2⟩ := (hr2.ext hxi).cl hqm
                  have hqmi : (q : Int) < (m2 : Int) := by omega
                  have r0 := fun z : ExtOf wr => z.cell (hxi.cellv og0)
                  have r1 := fun z : ExtOf wr => z.cell (hxi.cellv og1)
                  have r2 := fun z : ExtOf wr => z.cell (hxi.cellv og2)
                  have r3 := fun z : ExtOf wr => z.cell p0
                  have r4 := fun z : ExtOf wr => z.cell p1
                  have r5 := fun z : ExtOf wr => z.cell p2
                  have hts := Lib.hid (take_succ_at hdd.out)
                  cases tb
                  · have htq' : Hid (decide (d = one) = decide (one ∈ TL.take (q + 1))) := Lib.hid (by
                      have := htq.out
                      rw [hts.out, Bool.eq_iff_iff, decide_eq_true_eq, decide_eq_true_eq, List.mem_append, List.mem_singleton]
                      have h0 : ¬ one ∈ TL.take q := of_decide_eq_false this.symm
                      simp only [h0, false_or]
                      exact eq_comm)
                    go_wp2_with fail
                    (refine wp_region_qx (by kernel_rfl) (by kernel_rfl) ?_
                     repeat (go_big_quiet_step (fail))
                     refine wpQuiet_nil ?_
                     intro wq hw'
                     have hxq := ext_of_ex hw'
                     clear hw')
                    go_wp2_with fail
                    (first | exact ⟨⟨q + 1, _, by omega, by go_num, rfl, htq', hxi.trans hxq⟩, (by simp [intOf]; omega)⟩ | (go_roundw; case rel => exact ⟨q + 1, _, by omega, by go_num, rfl, htq', hxi.trans hxq⟩; case measure => exact (by simp [intOf]; omega)))
                  · have htq' : Hid (true = decide (one ∈ TL.take (q + 1))) := Lib.hid (by
                      have := htq.out
                      have h0 : one ∈ TL.take q := of_decide_eq_true this.symm
                      rw [hts.out]; symm
                      exact decide_eq_true (List.mem_append_left _ h0))
                    go_wp2_with fail
                    (refine wp_region_qx (by kernel_rfl) (by kernel_rfl) ?_
                     repeat (go_big_quiet_step (fail))
                     refine wpQuiet_nil ?_
                     intro wq hw'
                     have hxq := ext_of_ex hw'
                     clear hw')
                    go_wp2_with fail
                    (first | exact ⟨⟨q + 1, _, by omega, by go_num, rfl, htq', hxi.trans hxq⟩, (by simp [intOf]; omega)⟩ | (go_roundw; case rel => exact ⟨q + 1, _, by omega, by go_num, rfl, htq', hxi.trans hxq⟩; case measure => exact (by simp [intOf]; omega)))
                · obtain rfl : m2 = q := by omega
                  obtain rfl : true = tb := by
                    have := htq.out
                    rw [List.take_of_length_le (by rw [← e2.out]; exact Nat.le_refl _)] at this
                    rw [this]; exact (decide_eq_true hmem.out).symm
                  have hb0 := (hxi).cellv hc0
                  have hb1 := (hxi).cellv hc1
                  have hb2 := (hxi).cellv hc2
                  have hb3 := (hxi).cellv hc3
                  have hbl : w.heap.size < _ := cell_lt hb0
                  have ng0 := hxi.cellv og0
                  have ng1 := hxi.cellv og1
                  have ng2 := hxi.cellv og2
                  have f0 := hxi.cellv k0
                  have f1 := hxi.cellv k1
                  have f2 := hxi.cellv k2
                  have hmt := hmat _ hxw
                  clear hmat htq hmem
                  go_wp2_with fail
                  refine hmt.mono ?_
                  rintro e w8 ⟨hx8, ⟨hne, _⟩ | ⟨_, am, capm, rfl, hmm⟩⟩
                  · exact absurd rfl hne
                  have hc0 := (hx8).cellv hb0
                  have hc1 := (hx8).cellv hb1
                  have hc2 := (hx8).cellv hb2
                  have hc3 := (hx8).cellv hb3
                  have hcl : w.heap.size < _ := cell_lt hc0
                  clear hb0 hb1 hb2 hb3
                  have pg0 := hx8.cellv ng0
                  have pg1 := hx8.cellv ng1
                  have pg2 := hx8.cellv ng2
                  have j0 := hx8.cellv f0
                  have j1 := hx8.cellv f1
                  have j2 := hx8.cellv f2
                  have hxw8 := hxw.trans hx8
                  have hwN : IntKind.i64.wrap ((nc : Int) + 1) = (N : Int) := by rw [hN]; exact IntWalk.i64_in _ (by omega)
                  have hdN : ((N : Int) != (nc : Int) + 1) = false := by simp; omega
                  have hNl : N ≤ 20 := by omega
                  have hcN : (nc : Int) + 1 = (N : Int) := by omega
                  clear hmt hx8 hxi ng0 ng1 ng2 f0 f1 f2 og0 og1 og2 k0 k1 k2 hxw hqm hq
                  replace hN := Lib.hid hN
                  go_wp2_with fail
                  go_loopw [23, 24, 25] (fun f i _ wr => ∃ (p : Nat) (fb : Bool), p ≤ N ∧ i = .int .i64 p ∧ f = .bool fb ∧ Hid (fb = true ∨ ∀ a b, a < p → b < N → a ≠ b → D a b ≠ 0) ∧ Ext w8 wr) (fun _ i _ _ => N - (intOf i).toNat)
                  case atStart => exact ⟨0, false, Nat.zero_le _, rfl, rfl, Lib.hid (.inr fun a b h => absurd h (Nat.not_lt_zero _)), Ext.refl _⟩
                  clear hwN hdN hcN
                  case round =>
                    obtain ⟨p, fb, hp, rfl, rfl, hfb, hxi⟩ := hrel
                    by_cases hpN : p < N
                    · obtain ⟨bm, offm, _, r, rfl, hr1, hbm, hcm, ar, nr, cr, rfl, hrr⟩ := RdV.at (RdM.ext hmm hxi) hpN
                      obtain ⟨l1, l2⟩ := hML.out p r hr1.out
                      obtain rfl : N = nr := by rw [← hrr.len]; exact l1.symm
                      have hpNi : (p : Int) < (N : Int) := by omega
                      replace l1 := Lib.hid l1
                      replace l2 := Lib.hid l2
                      go_wp2_with fail
                      obtain ⟨wo, rfl⟩ : ∃ wo : World, wo = wr := ⟨_, rfl⟩
                      go_loopw [23, 25] (fun f k wr => ∃ (q : Nat) (fc : Bool), q ≤ N ∧ k = .int .i64 q ∧ f = .bool fc ∧ Hid (fc = true ∨ ((∀ a b, a < p → b < N → a ≠ b → D a b ≠ 0) ∧ ∀ b, b < q → p ≠ b → D p b ≠ 0)) ∧ Ext wo wr) (fun _ k _ => N - (intOf k).toNat)
                      case atStart => exact ⟨0, fb, Nat.zero_le _, rfl, rfl, Lib.hid (hfb.out.elim .inl fun h => .inr ⟨h, fun b hb => absurd hb (Nat.not_lt_zero _)⟩), Ext.refl _⟩
                      case round =>
                        obtain ⟨q, fc, hq, rfl, rfl, hfc, hxj⟩ := hrel
                        by_cases hqN : q < N
                        · have hqNi : (q : Int) < (N : Int) := by omega
                          have hcm2 := hxj.cellv hcm
                          obtain ⟨br, offr, y, rfl, hy, hbr, hcr⟩ := (hrr.ext hxj).i64 hqN
                          have hy2 := Lib.hid (l2.out q y hy.out)
                          cases fc
                          · have hnf := Lib.hid (hfc.out.resolve_left (by decide))
                            by_cases hpq : p = q
                            · have hd11 : ((p : Int) != (q : Int)) = false := by simp; omega
                              have hd12 : (p != q) = false := by simpa using hpq
                              have hfc2 : Hid (false = true ∨ ((∀ a b, a < p → b < N → a ≠ b → D a b ≠ 0) ∧ ∀ b, b < q + 1 → p ≠ b → D p b ≠ 0)) := Lib.hid (.inr ⟨hnf.out.1, fun b hb hpb => hnf.out.2 b (by omega) hpb⟩)
                              replace hpq := Lib.hid hpq
                              go_wp2_with fail
                              (first | exact ⟨⟨q + 1, false, by omega, by go_num, rfl, hfc2, hxj⟩, (by simp [intOf]; omega)⟩ | (go_roundw; case rel => exact ⟨q + 1, false, by omega, by go_num, rfl, hfc2, hxj⟩; case measure => exact (by simp [intOf]; omega)))
                            · have hd11 : ((p : Int) != (q : Int)) = true := by simp; omega
                              have hd12 : (p != q) = true := by simpa using hpq
                              by_cases hy0 : y = 0
                              · have hd13 : (y == 0) = true := by simpa using hy0
                                have hfc2 : Hid (true = true ∨ ((∀ a b, a < p → b < N → a ≠ b → D a b ≠ 0) ∧ ∀ b, b < q + 1 → p ≠ b → D p b ≠ 0)) := Lib.hid (.inl rfl)
                                replace hy0 := Lib.hid hy0
                                replace hpq := Lib.hid hpq
                                go_wp2_with fail
                                (first | exact ⟨⟨q + 1, true, by omega, by go_num, rfl, hfc2, hxj⟩, (by simp [intOf]; omega)⟩ | (go_roundw; case rel => exact ⟨q + 1, true, by omega, by go_num, rfl, hfc2, hxj⟩; case measure => exact (by simp [intOf]; omega)))
                              · have hd13 : (y == 0) = false := by simpa using hy0
                                have hfc2 : Hid (false = true ∨ ((∀ a b, a < p → b < N → a ≠ b → D a b ≠ 0) ∧ ∀ b, b < q + 1 → p ≠ b → D p b ≠ 0)) := Lib.hid (.inr ⟨hnf.out.1, fun b hb hpb => by
                                  by_cases e : b = q
                                  · subst e; rw [← hy2.out]; exact hy0
                                  · exact hnf.out.2 b (by omega) hpb⟩)
                                replace hy0 := Lib.hid hy0
                                replace hpq := Lib.hid hpq
                                go_wp2_with fail
                                (first | exact ⟨⟨q + 1, false, by omega, by go_num, rfl, hfc2, hxj⟩, (by simp [intOf]; omega)⟩ | (go_roundw; case rel => exact ⟨q + 1, false, by omega, by go_num, rfl, hfc2, hxj⟩; case measure => exact (by simp [intOf]; omega)))
                          · have hfc2 : Hid (true = true ∨ ((∀ a b, a < p → b < N → a ≠ b → D a b ≠ 0) ∧ ∀ b, b < q + 1 → p ≠ b → D p b ≠ 0)) := Lib.hid (.inl rfl)
                            go_wp2_with fail
                            (first | exact ⟨⟨q + 1, true, by omega, by go_num, rfl, hfc2, hxj⟩, (by simp [intOf]; omega)⟩ | (go_roundw; case rel => exact ⟨q + 1, true, by omega, by go_num, rfl, hfc2, hxj⟩; case measure => exact (by simp [intOf]; omega)))
                        · obtain rfl : N = q := by omega
                          have hfb2 : Hid (fc = true ∨ ∀ a b, a < p + 1 → b < N → a ≠ b → D a b ≠ 0) := Lib.hid (hfc.out.elim .inl fun h => .inr fun a b ha hb hab => by
                            by_cases e : a = p
                            · subst e; exact h.2 b hb hab
                            · exact h.1 a b (by omega) hb hab)
                          go_wp2_with fail
                          (first | exact ⟨⟨p + 1, fc, by omega, by go_num, rfl, hfb2, hxi.trans hxj⟩, (by simp [intOf]; omega)⟩ | (go_roundw; case rel => exact ⟨p + 1, fc, by omega, by go_num, rfl, hfb2, hxi.trans hxj⟩; case measure => exact (by simp [intOf]; omega)))
                    · obtain rfl : N = p := by omega
                      have hxw9 := hxw8.trans hxi
                      have i0 := hxi.cellv pg0
                      have i1 := hxi.cellv pg1
                      have i2 := hxi.cellv pg2
                      have h0 := hxi.cellv j0
                      have h1 := hxi.cellv j1
                      have h2 := hxi.cellv j2
                      cases fb
                      · obtain ⟨s1, s2⟩ := hsone.out (hfb.out.resolve_left (by decide))
                        obtain rfl : m2 = 1 := by rw [e2.out, s1]; rfl
                        have hd14 : decide (c1 = one) = true := by simpa using s2
                        replace s1 := Lib.hid s1
                        replace s2 := Lib.hid s2
                        go_wp2_with fail
                        refine (works_any _ (hT.ext hxw9)).mono ?_
                        rintro e wz ⟨rfl, hxz⟩
                        go_wp2_with fail
                        go_ret
                        exact ⟨rfl, hxw9.trans hxz⟩
                      · go_wp2_with fail
                        refine (works_any _ (hT.ext hxw9)).mono ?_
                        rintro e wz ⟨rfl, hxz⟩
                        go_wp2_with fail
                        go_ret
                        exact ⟨rfl, hxw9.trans hxz⟩
          · generalize hte : tieE ts cs ws g xs = te at *
            have hd9 : (te != 0) = true := by simp [hE]
            generalize cellX ts cs ws g xs = cl at *
            obtain ⟨c1, y1⟩ := cl
            simp only at hcall
            replace hE := Lib.hid hE
            clear hte hp hti hmat g0 g1 g2
            go_wp2_with fail
            refine hcall.mono ?_
            rintro e w5 ⟨rfl, hx5⟩
            have hxw5 := hxwr.trans hx5
            clear hcall
            go_wp2_with fail
            refine (works_any _ (hT.ext (by repeat (first | exact Ext.refl _ | assumption | refine Ext.drew ?_ | refine Ext.drewN ?_ _ | refine Ext.alloc ?_ _ | refine Ext.trans ?_ (by assumption))))).mono ?_
            rintro e wz ⟨rfl, hxz⟩
            go_wp2_with fail
            go_ret
            exact ⟨rfl, (by repeat (first | exact Ext.refl _ | assumption | refine Ext.drew ?_ | refine Ext.drewN ?_ _ | refine Ext.alloc ?_ _ | refine Ext.trans ?_ (by assumption)))⟩
    · have hd7 : decide (kk < nc) = false := by simpa using hkn
      go_wp2_with fail
      have hblk : CellB (w3.alloc (.cells #[.int .i64 gapC.kind, .int .u32 gapC.s.p.toNat, .int .u32 gapC.s.m.toNat] 40)) w3.heap.size gapC := World.alloc_heap_new w3 _
      have hxB : Ext w3 (w3.alloc (.cells #[.int .i64 gapC.kind, .int .u32 gapC.s.p.toNat, .int .u32 gapC.s.m.toNat] 40)) := Ext.alloc1 _ _
      generalize (w3.alloc (.cells #[.int .i64 gapC.kind, .int .u32 gapC.s.p.toNat, .int .u32 gapC.s.m.toNat] 40)) = wB at *
      obtain ⟨one, hone⟩ : ∃ one : Cl, one = gapC := ⟨_, rfl⟩
      have hko : knownC one = true := by rw [hone]; rfl
      rw [← hone] at hblk
      clear hone hd7
      generalize w3.heap.size = q1 at *
      have hc0 := (hxB).cellv hb0
      have hc1 := (hxB).cellv hb1
      have hc2 := (hxB).cellv hb2
      have hc3 := (hxB).cellv hb3
      have hcl : w.heap.size < _ := cell_lt hc0
      clear hb0 hb1 hb2 hb3
      have hxwB := hxw3.trans hxB
      obtain ⟨g0, g1, g2⟩ := cells3 hblk
      have hlq : q1 < wB.heap.size := cell_lt g0
      have hmk := mk_cells m3 (by omega)
      replace hko := Lib.hid hko
      clear hxw3 hxB hblk
      go_wp2_with fail
      rw [hmk wB]
      go_wp2_with fail
      have hrow : RowC (wB.alloc (.cells (madeCells #[.int .i64 0, .int .u32 0, .int .u32 0] (m3 * 3)) 40)) wB.heap.size m3 (List.replicate m3 zerC) := RowC.start wB m3
      have hx34 : Ext wB (wB.alloc (.cells (madeCells #[.int .i64 0, .int .u32 0, .int .u32 0] (m3 * 3)) 40)) := Ext.alloc1 _ _
      obtain ⟨G, hG⟩ : ∃ G, G = wB.heap.size := ⟨_, rfl⟩
      rw [← hG] at hrow ⊢
      have hGle : wB.heap.size ≤ G := by omega
      have hGw : w.heap.size < G := by omega
      have hGq : q1 < G := by omega
      replace hG := Lib.hid hG
      generalize (wB.alloc (.cells (madeCells #[.int .i64 0, .int .u32 0, .int .u32 0] (m3 * 3)) 40)) = w4 at *
      go_loopw [11, 13] (fun s i wr => ∃ (j : Nat) (tb : Bool) (xs : List Cl), j ≤ m3 ∧ i = .int .i64 j ∧ s = .bool tb ∧ RowC wr G m3 xs ∧ Hid ((∀ c ∈ xs, c = one ∨ c = zerC) ∧ tb = xs.any knownC) ∧ Ext wB wr) (fun _ i _ => m3 - (intOf i).toNat)
      case atStart => exact ⟨0, false, _, Nat.zero_le _, rfl, rfl, hrow, Lib.hid ⟨fun c hc => .inr (List.eq_of_mem_replicate hc), by symm; rw [List.any_eq_false]; intro c hc; rw [List.eq_of_mem_replicate hc]; simp [knownC, zerC]⟩, hx34⟩
      clear hrow hx34
      case round =>
        obtain ⟨j, tb, xs, hj, rfl, rfl, hrowj, hxs, hxr⟩ := hrel
        by_cases hlt : j < m3
        · have hjm : (j : Int) < (m3 : Int) := by omega
          by_cases hnb : nb ≤ j
          · have hd8 : decide (nb ≤ j) = true := by simpa using hnb
            obtain ⟨cOld, _, s0, s1, s2⟩ := hrowj.cells hlt
            obtain ⟨z0, zz1, z2⟩ := hrowj.frz
            have hGlt := hrowj.lt
            have lg0 := hxr.cellv g0
            have lg1 := hxr.cellv g1
            have lg2 := hxr.cellv g2
            have hset := hrowj.set hlt one
            have hxs2 : Hid ((∀ c ∈ xs.set j one, c = one ∨ c = zerC) ∧ true = (xs.set j one).any knownC) := Lib.hid ⟨fun c hc => by
              rcases List.mem_or_eq_of_mem_set hc with h1 | h1
              · exact hxs.out.1 c h1
              · exact .inl h1, by symm; exact List.any_eq_true.2 ⟨one, List.mem_of_getElem? (List.getElem?_set_self (by rw [hrowj.len]; exact hlt)), hko.out⟩⟩
            have hxset := ((hxr.setCell (p := ⟨G, j * 3, none⟩) hGle (.int .i64 one.kind)).setCell (p := ⟨G, j * 3 + 1, none⟩) hGle (.int .u32 one.s.p.toNat)).setCell (p := ⟨G, j * 3 + 2, none⟩) hGle (.int .u32 one.s.m.toNat)
            go_wp2_with fail
            (first | exact ⟨⟨j + 1, true, _, by omega, by go_num, rfl, hset, hxs2, hxset⟩, (by simp [intOf]; omega)⟩ | (go_roundw; case rel => exact ⟨j + 1, true, _, by omega, by go_num, rfl, hset, hxs2, hxset⟩; case measure => exact (by simp [intOf]; omega)))
          · have hd8 : decide (nb ≤ j) = false := by simpa using hnb
            have hjb : (j : Int) < (nb : Int) := by omega
            obtain ⟨b4, o4, pv, rfl, hpv, hb4, hcl4⟩ := (hkb.ext (hxwB.trans hxr)).get (show j < nb by omega)
            have p0 : wr.cell? ⟨b4, o4 + j, none⟩ = some (.bool pv) := by simpa using hcl4 0 _ rfl
            clear hcl4
            cases pv
            · go_wp2_with fail
              (first | exact ⟨⟨j + 1, tb, xs, by omega, by go_num, rfl, hrowj, hxs, hxr⟩, (by simp [intOf]; omega)⟩ | (go_roundw; case rel => exact ⟨j + 1, tb, xs, by omega, by go_num, rfl, hrowj, hxs, hxr⟩; case measure => exact (by simp [intOf]; omega)))
            · obtain ⟨cOld, _, s0, s1, s2⟩ := hrowj.cells hlt
              obtain ⟨z0, zz1, z2⟩ := hrowj.frz
              have hGlt := hrowj.lt
              have lg0 := hxr.cellv g0
              have lg1 := hxr.cellv g1
              have lg2 := hxr.cellv g2
              have hset := hrowj.set hlt one
              have hxs2 : Hid ((∀ c ∈ xs.set j one, c = one ∨ c = zerC) ∧ true = (xs.set j one).any knownC) := Lib.hid ⟨fun c hc => by
                rcases List.mem_or_eq_of_mem_set hc with h1 | h1
                · exact hxs.out.1 c h1
                · exact .inl h1, by symm; exact List.any_eq_true.2 ⟨one, List.mem_of_getElem? (List.getElem?_set_self (by rw [hrowj.len]; exact hlt)), hko.out⟩⟩
              have hxset := ((hxr.setCell (p := ⟨G, j * 3, none⟩) hGle (.int .i64 one.kind)).setCell (p := ⟨G, j * 3 + 1, none⟩) hGle (.int .u32 one.s.p.toNat)).setCell (p := ⟨G, j * 3 + 2, none⟩) hGle (.int .u32 one.s.m.toNat)
              go_wp2_with fail
              (first | exact ⟨⟨j + 1, true, _, by omega, by go_num, rfl, hset, hxs2, hxset⟩, (by simp [intOf]; omega)⟩ | (go_roundw; case rel => exact ⟨j + 1, true, _, by omega, by go_num, rfl, hset, hxs2, hxset⟩; case measure => exact (by simp [intOf]; omega)))
        · obtain rfl : m3 = j := by omega
          have hb0 := (hxr).cellv hc0
          have hb1 := (hxr).cellv hc1
          have hb2 := (hxr).cellv hc2
          have hb3 := (hxr).cellv hc3
          have hbl : w.heap.size < _ := cell_lt hb0
          have hxwr := hxwB.trans hxr
          have hrd := hrowj.rd (by unfold maxLen; omega)
          have hcall := hp _ hxwr (some ⟨G, 0, Option.none⟩) m3 m3 xs hrd
          by_cases hE : tieE ts cs ws g xs = 0
          · have htt : begE ts cs ws g = 0 ∧ onE ts cs xs = 0 := by
              unfold tieE at hE
              by_cases h1 : begE ts cs ws g = 0
              · rw [if_neg (by simp [h1])] at hE; exact ⟨h1, hE⟩
              · rw [if_pos h1] at hE; exact absurd hE h1
            obtain ⟨hB, hO⟩ := htt
            cases tb
            · have hk : knownB xs = false := hxs.out.2.symm
              have hX : cellX ts cs ws g xs = (zerC, 0) := by unfold cellX bestX; rw [if_pos hB, if_neg (by simp [hk])]
              rw [hX, hE] at hcall
              simp only at hcall
              obtain ⟨c1, hc1⟩ : ∃ c, c = zerC := ⟨_, rfl⟩
              have hdc : decide (c1 = zerC) = true := by simp [hc1]
              have hez : ∀ W, (binOp .eql 40 (clV c1) (.agg #[.int .i64 0, .int .u32 0, .int .u32 0])).run Tryd.prog W = .ok (.bool (decide (c1 = zerC))) W := fun W => eql_cl c1 zerC W
              rw [← hc1] at hcall
              replace hc1 := Lib.hid hc1
              clear hp hti hmat g0 g1 g2 hX hB hO hk hE
              go_wp2_with fail
              refine hcall.mono ?_
              rintro e w5 ⟨rfl, hx5⟩
              have hxw5 := hxwr.trans hx5
              clear hcall
              go_wp2_with fail
              refine (works_any _ (hT.ext (by repeat (first | exact Ext.refl _ | assumption | refine Ext.drew ?_ | refine Ext.drewN ?_ _ | refine Ext.alloc ?_ _ | refine Ext.trans ?_ (by assumption))))).mono ?_
              rintro e wz ⟨rfl, hxz⟩
              go_wp2_with fail
              go_ret
              exact ⟨rfl, (by repeat (first | exact Ext.refl _ | assumption | refine Ext.drew ?_ | refine Ext.drewN ?_ _ | refine Ext.alloc ?_ _ | refine Ext.trans ?_ (by assumption)))⟩
            · have hk : knownB xs = true := hxs.out.2.symm
              have hcond : ∀ c ∈ xs, knownC c = true → c = one := fun c hc hkc => by
                rcases hxs.out.1 c hc with h | h
                · exact h
                · rw [h] at hkc; cases hkc
              obtain ⟨_, hz0, hmem⟩ := same_zero hB hO hk hcond
              have hsone := same_one hB hO hk hcond
              have hm0 := (begE_zero hB).2
              have hML := fun (i : Nat) (r : List Int) (h : (matL cs ws g)[i]? = some r) => matL_at h
              have ht := fun W (z : Ext w W) (hx : RdC W (some ⟨G, 0, Option.none⟩) m3 m3 xs) => hti W z (some ⟨G, 0, Option.none⟩) m3 m3 xs hx
              rw [hE, hz0] at hcall
              rw [hE] at ht
              simp only [hcsl.out] at hmat hML hsone
              obtain ⟨N, hN⟩ : ∃ N, N = nc + 1 := ⟨_, rfl⟩
              simp only [← hN] at hmat hML hsone
              generalize (cellX ts cs ws g xs).1 = c1 at *
              generalize tieL ts cs ws g xs = TL at *
              generalize matL cs ws g = ML at *
              generalize costM cs ws g = D at *
              generalize matE cs ws g = mE at *
              subst hm0
              have lg0 := hxr.cellv g0
              have lg1 := hxr.cellv g1
              have lg2 := hxr.cellv g2
              replace hsone := Lib.hid hsone
              replace hML := Lib.hid hML
              replace hmem := Lib.hid hmem
              clear hp hti g0 g1 g2 hB hO hk hE hcond hz0 hxs hGle hGw hGq hxr hrowj
              go_wp2_with fail
              refine hcall.mono ?_
              rintro e w5 ⟨rfl, hx5⟩
              have hc0 := (hx5).cellv hb0
              have hc1 := (hx5).cellv hb1
              have hc2 := (hx5).cellv hb2
              have hc3 := (hx5).cellv hb3
              have hcl : w.heap.size < _ := cell_lt hc0
              clear hb0 hb1 hb2 hb3
              have mg0 := hx5.cellv lg0
              have mg1 := hx5.cellv lg1
              have mg2 := hx5.cellv lg2
              have hrd5 := hrd.ext hx5
              have hxw5 := hxwr.trans hx5
              clear hcall lg0 lg1 lg2 hrd hxwr hx5
              go_wp2_with fail
              have hblk5 := World.alloc_heap_new w5 (.cells #[.int .i64 c1.kind, .int .u32 c1.s.p.toNat, .int .u32 c1.s.m.toNat] 40)
              have hxa : Ext w5 (w5.alloc (.cells #[.int .i64 c1.kind, .int .u32 c1.s.p.toNat, .int .u32 c1.s.m.toNat] 40)) := Ext.alloc1 _ _
              generalize (w5.alloc (.cells #[.int .i64 c1.kind, .int .u32 c1.s.p.toNat, .int .u32 c1.s.m.toNat] 40)) = wa at *
              generalize w5.heap.size = q5 at *
              have hb0 := (hxa).cellv hc0
              have hb1 := (hxa).cellv hc1
              have hb2 := (hxa).cellv hc2
              have hb3 := (hxa).cellv hc3
              have hbl : w.heap.size < _ := cell_lt hb0
              clear hc0 hc1 hc2 hc3
              obtain ⟨f0, f1, f2⟩ := cells3 hblk5
              have ng0 := hxa.cellv mg0
              have ng1 := hxa.cellv mg1
              have ng2 := hxa.cellv mg2
              have hrd6 := hrd5.ext hxa
              have hxwa := hxw5.trans hxa
              clear mg0 mg1 mg2 hrd5 hxw5 hxa hblk5
              refine (ht _ hxwa hrd6).mono ?_
              rintro e w7 ⟨v2, rfl, ho2, hx7⟩
              obtain ⟨a2, m2, j2, e2, rfl, hr2⟩ := OwnK.rdn Cl.len ho2
              replace e2 := Lib.hid e2
              have hm2 := len_int hr2
              have hc0 := (hx7).cellv hb0
              have hc1 := (hx7).cellv hb1
              have hc2 := (hx7).cellv hb2
              have hc3 := (hx7).cellv hb3
              have hcl : w.heap.size < _ := cell_lt hc0
              clear hb0 hb1 hb2 hb3
              have og0 := hx7.cellv ng0
              have og1 := hx7.cellv ng1
              have og2 := hx7.cellv ng2
              have k0 := hx7.cellv f0
              have k1 := hx7.cellv f1
              have k2 := hx7.cellv f2
              have hxw7 := hxwa.trans hx7
              have hec := eql_cl
              clear ht ng0 ng1 ng2 f0 f1 f2 hrd6 hxwa hx7 ho2
              go_wp2_with fail
              go_loopw [19, 20] (fun t k wr => ∃ (q : Nat) (tb : Bool), q ≤ m2 ∧ k = .int .i64 q ∧ t = .bool tb ∧ Hid (tb = decide (one ∈ TL.take q)) ∧ Ext w7 wr) (fun _ k _ => m2 - (intOf k).toNat)
              case atStart => exact ⟨0, false, Nat.zero_le _, rfl, rfl, Lib.hid (by simp), Ext.refl _⟩
              case round =>
                obtain ⟨q, tb, hq, rfl, rfl, htq, hxi⟩ := hrel
                have hxw := hxw7.trans hxi
                by_cases hqm : q < m2
                · obtain ⟨b3, o3, d, rfl, hdd, hbb3, p0, p1, p2⟩ := (hr2.ext hxi).cl hqm
                  have hqmi : (q : Int) < (m2 : Int) := by omega
                  have r0 := fun z : ExtOf wr => z.cell (hxi.cellv og0)
                  have r1 := fun z : ExtOf wr => z.cell (hxi.cellv og1)
                  have r2 := fun z : ExtOf wr => z.cell (hxi.cellv og2)
                  have r3 := fun z : ExtOf wr => z.cell p0
                  have r4 := fun z : ExtOf wr => z.cell p1
                  have r5 := fun z : ExtOf wr => z.cell p2
                  have hts := Lib.hid (take_succ_at hdd.out)
                  cases tb
                  · have htq' : Hid (decide (d = one) = decide (one ∈ TL.take (q + 1))) := Lib.hid (by
                      have := htq.out
                      rw [hts.out, Bool.eq_iff_iff, decide_eq_true_eq, decide_eq_true_eq, List.mem_append, List.mem_singleton]
                      have h0 : ¬ one ∈ TL.take q := of_decide_eq_false this.symm
                      simp only [h0, false_or]
                      exact eq_comm)
                    go_wp2_with fail
                    (refine wp_region_qx (by kernel_rfl) (by kernel_rfl) ?_
                     repeat (go_big_quiet_step (fail))
                     refine wpQuiet_nil ?_
                     intro wq hw'
                     have hxq := ext_of_ex hw'
                     clear hw')
                    go_wp2_with fail
                    (first | exact ⟨⟨q + 1, _, by omega, by go_num, rfl, htq', hxi.trans hxq⟩, (by simp [intOf]; omega)⟩ | (go_roundw; case rel => exact ⟨q + 1, _, by omega, by go_num, rfl, htq', hxi.trans hxq⟩; case measure => exact (by simp [intOf]; omega)))
                  · have htq' : Hid (true = decide (one ∈ TL.take (q + 1))) := Lib.hid (by
                      have := htq.out
                      have h0 : one ∈ TL.take q := of_decide_eq_true this.symm
                      rw [hts.out]; symm
                      exact decide_eq_true (List.mem_append_left _ h0))
                    go_wp2_with fail
                    (refine wp_region_qx (by kernel_rfl) (by kernel_rfl) ?_
                     repeat (go_big_quiet_step (fail))
                     refine wpQuiet_nil ?_
                     intro wq hw'
                     have hxq := ext_of_ex hw'
                     clear hw')
                    go_wp2_with fail
                    (first | exact ⟨⟨q + 1, _, by omega, by go_num, rfl, htq', hxi.trans hxq⟩, (by simp [intOf]; omega)⟩ | (go_roundw; case rel => exact ⟨q + 1, _, by omega, by go_num, rfl, htq', hxi.trans hxq⟩; case measure => exact (by simp [intOf]; omega)))
                · obtain rfl : m2 = q := by omega
                  obtain rfl : true = tb := by
                    have := htq.out
                    rw [List.take_of_length_le (by rw [← e2.out]; exact Nat.le_refl _)] at this
                    rw [this]; exact (decide_eq_true hmem.out).symm
                  have hb0 := (hxi).cellv hc0
                  have hb1 := (hxi).cellv hc1
                  have hb2 := (hxi).cellv hc2
                  have hb3 := (hxi).cellv hc3
                  have hbl : w.heap.size < _ := cell_lt hb0
                  have ng0 := hxi.cellv og0
                  have ng1 := hxi.cellv og1
                  have ng2 := hxi.cellv og2
                  have f0 := hxi.cellv k0
                  have f1 := hxi.cellv k1
                  have f2 := hxi.cellv k2
                  have hmt := hmat _ hxw
                  clear hmat htq hmem
                  go_wp2_with fail
                  refine hmt.mono ?_
                  rintro e w8 ⟨hx8, ⟨hne, _⟩ | ⟨_, am, capm, rfl, hmm⟩⟩
                  · exact absurd rfl hne
                  have hc0 := (hx8).cellv hb0
                  have hc1 := (hx8).cellv hb1
                  have hc2 := (hx8).cellv hb2
                  have hc3 := (hx8).cellv hb3
                  have hcl : w.heap.size < _ := cell_lt hc0
                  clear hb0 hb1 hb2 hb3
                  have pg0 := hx8.cellv ng0
                  have pg1 := hx8.cellv ng1
                  have pg2 := hx8.cellv ng2
                  have j0 := hx8.cellv f0
                  have j1 := hx8.cellv f1
                  have j2 := hx8.cellv f2
                  have hxw8 := hxw.trans hx8
                  have hwN : IntKind.i64.wrap ((nc : Int) + 1) = (N : Int) := by rw [hN]; exact IntWalk.i64_in _ (by omega)
                  have hdN : ((N : Int) != (nc : Int) + 1) = false := by simp; omega
                  have hNl : N ≤ 20 := by omega
                  have hcN : (nc : Int) + 1 = (N : Int) := by omega
                  clear hmt hx8 hxi ng0 ng1 ng2 f0 f1 f2 og0 og1 og2 k0 k1 k2 hxw hqm hq
                  replace hN := Lib.hid hN
                  go_wp2_with fail
                  go_loopw [23, 24, 25] (fun f i _ wr => ∃ (p : Nat) (fb : Bool), p ≤ N ∧ i = .int .i64 p ∧ f = .bool fb ∧ Hid (fb = true ∨ ∀ a b, a < p → b < N → a ≠ b → D a b ≠ 0) ∧ Ext w8 wr) (fun _ i _ _ => N - (intOf i).toNat)
                  case atStart => exact ⟨0, false, Nat.zero_le _, rfl, rfl, Lib.hid (.inr fun a b h => absurd h (Nat.not_lt_zero _)), Ext.refl _⟩
                  clear hwN hdN hcN
                  case round =>
                    obtain ⟨p, fb, hp, rfl, rfl, hfb, hxi⟩ := hrel
                    by_cases hpN : p < N
                    · obtain ⟨bm, offm, _, r, rfl, hr1, hbm, hcm, ar, nr, cr, rfl, hrr⟩ := RdV.at (RdM.ext hmm hxi) hpN
                      obtain ⟨l1, l2⟩ := hML.out p r hr1.out
                      obtain rfl : N = nr := by rw [← hrr.len]; exact l1.symm
                      have hpNi : (p : Int) < (N : Int) := by omega
                      replace l1 := Lib.hid l1
                      replace l2 := Lib.hid l2
                      go_wp2_with fail
                      obtain ⟨wo, rfl⟩ : ∃ wo : World, wo = wr := ⟨_, rfl⟩
                      go_loopw [23, 25] (fun f k wr => ∃ (q : Nat) (fc : Bool), q ≤ N ∧ k = .int .i64 q ∧ f = .bool fc ∧ Hid (fc = true ∨ ((∀ a b, a < p → b < N → a ≠ b → D a b ≠ 0) ∧ ∀ b, b < q → p ≠ b → D p b ≠ 0)) ∧ Ext wo wr) (fun _ k _ => N - (intOf k).toNat)
                      case atStart => exact ⟨0, fb, Nat.zero_le _, rfl, rfl, Lib.hid (hfb.out.elim .inl fun h => .inr ⟨h, fun b hb => absurd hb (Nat.not_lt_zero _)⟩), Ext.refl _⟩
                      case round =>
                        obtain ⟨q, fc, hq, rfl, rfl, hfc, hxj⟩ := hrel
                        by_cases hqN : q < N
                        · have hqNi : (q : Int) < (N : Int) := by omega
                          have hcm2 := hxj.cellv hcm
                          obtain ⟨br, offr, y, rfl, hy, hbr, hcr⟩ := (hrr.ext hxj).i64 hqN
                          have hy2 := Lib.hid (l2.out q y hy.out)
                          cases fc
                          · have hnf := Lib.hid (hfc.out.resolve_left (by decide))
                            by_cases hpq : p = q
                            · have hd11 : ((p : Int) != (q : Int)) = false := by simp; omega
                              have hd12 : (p != q) = false := by simpa using hpq
                              have hfc2 : Hid (false = true ∨ ((∀ a b, a < p → b < N → a ≠ b → D a b ≠ 0) ∧ ∀ b, b < q + 1 → p ≠ b → D p b ≠ 0)) := Lib.hid (.inr ⟨hnf.out.1, fun b hb hpb => hnf.out.2 b (by omega) hpb⟩)
                              replace hpq := Lib.hid hpq
                              go_wp2_with fail
                              (first | exact ⟨⟨q + 1, false, by omega, by go_num, rfl, hfc2, hxj⟩, (by simp [intOf]; omega)⟩ | (go_roundw; case rel => exact ⟨q + 1, false, by omega, by go_num, rfl, hfc2, hxj⟩; case measure => exact (by simp [intOf]; omega)))
                            · have hd11 : ((p : Int) != (q : Int)) = true := by simp; omega
                              have hd12 : (p != q) = true := by simpa using hpq
                              by_cases hy0 : y = 0
                              · have hd13 : (y == 0) = true := by simpa using hy0
                                have hfc2 : Hid (true = true ∨ ((∀ a b, a < p → b < N → a ≠ b → D a b ≠ 0) ∧ ∀ b, b < q + 1 → p ≠ b → D p b ≠ 0)) := Lib.hid (.inl rfl)
                                replace hy0 := Lib.hid hy0
                                replace hpq := Lib.hid hpq
                                go_wp2_with fail
                                (first | exact ⟨⟨q + 1, true, by omega, by go_num, rfl, hfc2, hxj⟩, (by simp [intOf]; omega)⟩ | (go_roundw; case rel => exact ⟨q + 1, true, by omega, by go_num, rfl, hfc2, hxj⟩; case measure => exact (by simp [intOf]; omega)))
                              · have hd13 : (y == 0) = false := by simpa using hy0
                                have hfc2 : Hid (false = true ∨ ((∀ a b, a < p → b < N → a ≠ b → D a b ≠ 0) ∧ ∀ b, b < q + 1 → p ≠ b → D p b ≠ 0)) := Lib.hid (.inr ⟨hnf.out.1, fun b hb hpb => by
                                  by_cases e : b = q
                                  · subst e; rw [← hy2.out]; exact hy0
                                  · exact hnf.out.2 b (by omega) hpb⟩)
                                replace hy0 := Lib.hid hy0
                                replace hpq := Lib.hid hpq
                                go_wp2_with fail
                                (first | exact ⟨⟨q + 1, false, by omega, by go_num, rfl, hfc2, hxj⟩, (by simp [intOf]; omega)⟩ | (go_roundw; case rel => exact ⟨q + 1, false, by omega, by go_num, rfl, hfc2, hxj⟩; case measure => exact (by simp [intOf]; omega)))
                          · have hfc2 : Hid (true = true ∨ ((∀ a b, a < p → b < N → a ≠ b → D a b ≠ 0) ∧ ∀ b, b < q + 1 → p ≠ b → D p b ≠ 0)) := Lib.hid (.inl rfl)
                            go_wp2_with fail
                            (first | exact ⟨⟨q + 1, true, by omega, by go_num, rfl, hfc2, hxj⟩, (by simp [intOf]; omega)⟩ | (go_roundw; case rel => exact ⟨q + 1, true, by omega, by go_num, rfl, hfc2, hxj⟩; case measure => exact (by simp [intOf]; omega)))
                        · obtain rfl : N = q := by omega
                          have hfb2 : Hid (fc = true ∨ ∀ a b, a < p + 1 → b < N → a ≠ b → D a b ≠ 0) := Lib.hid (hfc.out.elim .inl fun h => .inr fun a b ha hb hab => by
                            by_cases e : a = p
                            · subst e; exact h.2 b hb hab
                            · exact h.1 a b (by omega) hb hab)
                          go_wp2_with fail
                          (first | exact ⟨⟨p + 1, fc, by omega, by go_num, rfl, hfb2, hxi.trans hxj⟩, (by simp [intOf]; omega)⟩ | (go_roundw; case rel => exact ⟨p + 1, fc, by omega, by go_num, rfl, hfb2, hxi.trans hxj⟩; case measure => exact (by simp [intOf]; omega)))
                    · obtain rfl : N = p := by omega
                      have hxw9 := hxw8.trans hxi
                      have i0 := hxi.cellv pg0
                      have i1 := hxi.cellv pg1
                      have i2 := hxi.cellv pg2
                      have h0 := hxi.cellv j0
                      have h1 := hxi.cellv j1
                      have h2 := hxi.cellv j2
                      cases fb
                      · obtain ⟨s1, s2⟩ := hsone.out (hfb.out.resolve_left (by decide))
                        obtain rfl : m2 = 1 := by rw [e2.out, s1]; rfl
                        have hd14 : decide (c1 = one) = true := by simpa using s2
                        replace s1 := Lib.hid s1
                        replace s2 := Lib.hid s2
                        go_wp2_with fail
                        refine (works_any _ (hT.ext hxw9)).mono ?_
                        rintro e wz ⟨rfl, hxz⟩
                        go_wp2_with fail
                        go_ret
                        exact ⟨rfl, hxw9.trans hxz⟩
                      · go_wp2_with fail
                        refine (works_any _ (hT.ext hxw9)).mono ?_
                        rintro e wz ⟨rfl, hxz⟩
                        go_wp2_with fail
                        go_ret
                        exact ⟨rfl, hxw9.trans hxz⟩
          · generalize hte : tieE ts cs ws g xs = te at *
            have hd9 : (te != 0) = true := by simp [hE]
            generalize cellX ts cs ws g xs = cl at *
            obtain ⟨c1, y1⟩ := cl
            simp only at hcall
            replace hE := Lib.hid hE
            clear hte hp hti hmat g0 g1 g2
            go_wp2_with fail
            refine hcall.mono ?_
            rintro e w5 ⟨rfl, hx5⟩
            have hxw5 := hxwr.trans hx5
            clear hcall
            go_wp2_with fail
            refine (works_any _ (hT.ext (by repeat (first | exact Ext.refl _ | assumption | refine Ext.drew ?_ | refine Ext.drewN ?_ _ | refine Ext.alloc ?_ _ | refine Ext.trans ?_ (by assumption))))).mono ?_
            rintro e wz ⟨rfl, hxz⟩
            go_wp2_with fail
            go_ret
            exact ⟨rfl, (by repeat (first | exact Ext.refl _ | assumption | refine Ext.drew ?_ | refine Ext.drewN ?_ _ | refine Ext.alloc ?_ _ | refine Ext.trans ?_ (by assumption)))⟩
  · have htf : treeB ts = false := by simpa using htt
    rw [treeE_not htf] at hlv
    generalize leavesR ts = LL at *
    clear hp hti hmat
    replace hcsl := Lib.hid hcsl
    replace hrl := Lib.hid hrl
    clear htf
    go_enter Tryd.func6, Tryd.ntmps6
    go_wp2_with fail
    refine (hs _).mono ?_
    rintro e w1 ⟨rfl, hx1⟩
    have hb0 := (hx1).cellv (cell_new_list w [.slice a n cap, .slice ac nc cc, .slice aw nw cw, .int .i64 g] 34 0 _ rfl)
    have hb1 := (hx1).cellv (cell_new_list w [.slice a n cap, .slice ac nc cc, .slice aw nw cw, .int .i64 g] 34 1 _ rfl)
    have hb2 := (hx1).cellv (cell_new_list w [.slice a n cap, .slice ac nc cc, .slice aw nw cw, .int .i64 g] 34 2 _ rfl)
    have hb3 := (hx1).cellv (cell_new_list w [.slice a n cap, .slice ac nc cc, .slice aw nw cw, .int .i64 g] 34 3 _ rfl)
    have hlt : w.heap.size < w1.heap.size := by have := hx1.le; simp at this; omega
    have hxw1 : Ext w w1 := (by repeat (first | exact Ext.refl _ | assumption | refine Ext.drew ?_ | refine Ext.drewN ?_ _ | refine Ext.alloc ?_ _ | refine Ext.trans ?_ (by assumption)))
    clear hs hx1
    go_wp2_with fail
    refine (hlv _ hxw1).mono ?_
    rintro e w2 ⟨v1, rfl, ho1, hx2⟩
    clear hlv ho1
    go_wp2_with fail
    refine (works_any _ (hT.ext (by repeat (first | exact Ext.refl _ | assumption | refine Ext.drew ?_ | refine Ext.drewN ?_ _ | refine Ext.alloc ?_ _ | refine Ext.trans ?_ (by assumption))))).mono ?_
    rintro e wz ⟨rfl, hxz⟩
    go_wp2_with fail
    go_ret
    exact ⟨rfl, (by repeat (first | exact Ext.refl _ | assumption | refine Ext.drew ?_ | refine Ext.drewN ?_ _ | refine Ext.alloc ?_ _ | refine Ext.trans ?_ (by assumption)))⟩
end Go.Proofs.YtdloabjnjnjacaaDoor
