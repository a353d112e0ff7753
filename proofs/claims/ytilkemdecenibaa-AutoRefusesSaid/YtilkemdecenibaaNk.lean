/-
  from: the walk.
-/
import Derived.Test.YtilkemdecenibaaNh
import Derived.Test.YtilkemdecenibaaBf
namespace Go.Proofs.Ytilkemdecenibaa
open Go.RowKit Go.Maps Go.Shelf
theorem wrap64_small (x : Int) (h1 : -1 ≤ x) (h2 : x ≤ 100000) : wrap64 x = x := by unfold wrap64; omega
theorem yieldAt_wide {m m' : Nat} {P : Program} {l : Nat} {args : Array Value} {W : World} {R : Ending → World → Prop} (h : YieldAt Fence.wide m P l args W R) : YieldAt Fence.wide m' P l args W R := by
  obtain ⟨fn, tmps, assign, body, h1, h2, h3⟩ := h
  exact ⟨fn, tmps, assign, body, h1, h2, fun c cs _ => h3 c cs (room_wide _)⟩
theorem words_take (A : Au) (ord : List Nat) (n s : Nat) (u : List Snd) {j k : Nat} (hj : ord[j]? = some k) :
    (ord.take (j + 1)).flatMap (fun k => if (cntRow A n).getD ((A.next.getD s []).getD k 0) 0 = 0 then [] else wordsFrom A ord n ((A.next.getD s []).getD k 0) (u ++ [A.snd.getD k ⟨0#32, 0#32⟩])) =
    (ord.take j).flatMap (fun k => if (cntRow A n).getD ((A.next.getD s []).getD k 0) 0 = 0 then [] else wordsFrom A ord n ((A.next.getD s []).getD k 0) (u ++ [A.snd.getD k ⟨0#32, 0#32⟩])) ++
      (if (cntRow A n).getD ((A.next.getD s []).getD k 0) 0 = 0 then [] else wordsFrom A ord n ((A.next.getD s []).getD k 0) (u ++ [A.snd.getD k ⟨0#32, 0#32⟩])) := by
  rw [take_succ_at hj, List.flatMap_append]; simp
set_option maxHeartbeats 4000000 in
set_option maxRecDepth 20000 in
theorem from_any (T : World → Nat → Prop) (L : List (List Snd)) (A : Au) (hAok : A.okB = true) (N : Nat) (hN : A.next.length = N) (nS : Nat) (hnS : A.snd.length = nS) (ord : List Nat) (hord : ∀ k ∈ ord, k < nS) (J Jx : List (List Snd) → World → Prop) (l m : Nat) (B : Nat) (W1 : World) (S : Nat → Prop) (ba : Nat)
    (hS : ∀ r, S r → ∃ cs e fr, W1.heap[r]? = some (.cells cs e fr)) (hTl : ∀ X r, T X r → r < X.heap.size) (By Bw Bd Bp Bc Bf Go Gc : Nat) (hd : List SH)
    (sBy : S By) (cBy : W1.cell? ⟨By, 0, none⟩ = some (.func (.yield l) #[] #[])) (sBd : S Bd) (cBd : W1.cell? ⟨Bd, 0, none⟩ = some (.slice (some ⟨Go, 0, none⟩) nS nS)) (sGo : S Go) (rGo : RdK 1 NN.enc W1 (some ⟨Go, 0, none⟩) nS nS ord)
    (sBc : S Bc) (cBc : W1.cell? ⟨Bc, 0, none⟩ = some (.slice (some ⟨Gc, 0, none⟩) 33 33)) (sGc : S Gc) (B1 : Nat) (hC : CtI B1 W1 Gc 33 hd (cntsTo A 33 33)) (sR : ∀ (i : Nat) (h : SH) (g : Nat), hd[i]? = some h → h.v.ownBlock = some g → S g)
    (sBf : S Bf) (cBf : W1.cell? ⟨Bf, 0, none⟩ = some (.func (.func 99) #[] #[.pointer (some ⟨By, 0, none⟩), .pointer (some ⟨Bw, 0, none⟩), .pointer (some ⟨Bd, 0, none⟩), .pointer (some ⟨Bp, 0, none⟩), .pointer (some ⟨Bc, 0, none⟩), .pointer (some ⟨Bf, 0, none⟩)])) (hSw : ¬ S Bw) (hBw : B ≤ Bw)
    (hJA : ∀ s X, J s X → X.cell? ⟨Bp, 0, none⟩ = some (.pointer (some ⟨ba, 0, none⟩)) ∧ AuAt X ba A ∧ B ≤ X.heap.size) (hJg : AbideT T B J)
    (hY : ∀ pre x v X, J pre X → v.size = 1 → NxW L pre x v X → YieldAt Fence.wide m Try.prog l v X fun e Y => (e = .returned (.bool true) ∧ J (pre ++ [x]) Y ∧ KeepT T X Y) ∨ (e = .returned (.bool false) ∧ Jx (pre ++ [x]) Y)) :
    ∀ (n : Nat), n ≤ 32 → ∀ (q s : Nat) (u : List Snd) (pre : List (List Snd)) (X : World), s < N → u.length + n ≤ 32 → J pre X → Stt T S W1 X → WB T S W1 B Bw X u → (pre ++ wordsFrom A ord n s u) <+: L →
      CallsIn Fence.wide (q + 1) Try.prog 99 #[.int .i64 (s : Int), .int .i64 (n : Int), .pointer (some ⟨By, 0, none⟩), .pointer (some ⟨Bw, 0, none⟩), .pointer (some ⟨Bd, 0, none⟩), .pointer (some ⟨Bp, 0, none⟩), .pointer (some ⟨Bc, 0, none⟩), .pointer (some ⟨Bf, 0, none⟩)] X
        fun e Y => (e = .returned (.bool true) ∧ J (pre ++ wordsFrom A ord n s u) Y ∧ Stt T S W1 Y ∧ WB T S W1 B Bw Y u) ∨ ∃ p, e = .returned (.bool false) ∧ Jx p Y := by
  obtain ⟨hs8, hfl, hrow⟩ := Au.ok_at hAok
  have hCl := cntRow_len A hfl
  rw [hN] at hCl
  intro n
  induction n with
  | zero =>
    intro _ q s u pre X hsN hlen hJ hs hw hpre
    obtain ⟨hle, v, hb, ho, nT, nS2⟩ := hw.ex.elim (fun v h => (⟨hw.le, v, h⟩ : W1.heap.size ≤ X.heap.size ∧ ∃ v, Boxed X Bw 28 v ∧ OwnK 2 Snd.enc B 24 X v u ∧ ¬ T X Bw ∧ ∀ g, v.ownBlock = some g → ¬ T X g ∧ ¬ S g))
    obtain ⟨va, vn, vc, hvn, rfl, hrd⟩ := OwnK.rdn Snd.len ho
    have c1 := hs.cell sBy cBy
    have c2 := Boxed.cell hb
    change (pre ++ [u]) <+: L at hpre
    have hyl := yieldAt_wide (m' := q) (hY pre u #[.slice va vn vc] X hJ rfl ⟨hpre, va, vn, vc, rfl, hrd⟩)
    obtain ⟨fn, tmps, assign, body, hyl, hR⟩ := hyl
    have hro : Fence.wide.round = none := rfl
    have hs' := Lib.hid hs
    have hw' := Lib.hid hw
    replace hvn := Lib.hid hvn
    clear hs hw hb ho hJ hpre hrd
    refine callsIn_of_wp Try.func99 rfl trivial ?_ hro
    simp only [Try.ntmps99, List.size_toArray, List.length_cons, List.length_nil, Nat.reduceAdd, Nat.reduceSub, Array.replicate_succ, Array.replicate_zero, List.push_toArray, List.append_toArray, List.nil_append, List.cons_append]
    gi_wp2
    refine hR.mono ?_
    rintro e W3 (⟨rfl, hJ4, hk4⟩ | ⟨rfl, hJx4⟩)
    · gi_wp2
      go_ret
      exact .inl ⟨rfl, hJ4, hs'.out.keep hS hk4, hw'.out.keep hk4⟩
    · gi_wp2
      go_ret
      exact .inr ⟨_, rfl, hJx4⟩
  | succ n ih =>
    intro hn32 q s u pre X hsN hlen hJ hs hw hpre
    obtain ⟨z, hz⟩ : ∃ z, z = n + 1 := ⟨_, rfl⟩
    have z0 : ((z : Int) == 0) = false := by simp; omega
    have zw : (z : Int) - 1 = (n : Int) := by omega
    rw [← hz]
    obtain ⟨Wd, hWd⟩ : ∃ f : Nat → List (List Snd), f = fun j => (ord.take j).flatMap (fun k => if (cntRow A n).getD ((A.next.getD s []).getD k 0) 0 = 0 then [] else wordsFrom A ord n ((A.next.getD s []).getD k 0) (u ++ [A.snd.getD k ⟨0#32, 0#32⟩])) := ⟨_, rfl⟩
    have hol : ord.length = nS := rGo.len
    have hWe : wordsFrom A ord (n + 1) s u = Wd nS := by rw [hWd]; simp only; rw [List.take_of_length_le (by rw [hol]; exact Nat.le_refl _)]; rfl
    have hWs : ∀ j k, ord[j]? = some k → Wd (j + 1) = Wd j ++ (if (cntRow A n).getD ((A.next.getD s []).getD k 0) 0 = 0 then [] else wordsFrom A ord n ((A.next.getD s []).getD k 0) (u ++ [A.snd.getD k ⟨0#32, 0#32⟩])) := fun j k h => by rw [hWd]; exact words_take A ord n s u h
    have hW0 : Wd 0 = [] := by rw [hWd]; rfl
    have hWp : ∀ j, (pre ++ Wd j) <+: L := fun j => by
      rw [hWe] at hpre
      refine List.IsPrefix.trans ?_ hpre
      rw [hWd]
      simp only
      refine (List.prefix_append_right_inj _).2 ?_
      rcases Nat.lt_or_ge j nS with h | h
      · have h1 : ord.take j <+: ord.take nS := by rw [List.take_of_length_le (l := ord) (i := nS) (by omega)]; exact List.take_prefix _ _
        obtain ⟨t, ht⟩ := h1
        rw [← ht, List.flatMap_append]; exact List.prefix_append _ _
      · rw [List.take_of_length_le (by omega), List.take_of_length_le (by omega)]; exact List.prefix_refl _
    rw [hz, hWe]
    rw [← hz]
    have cBd' := hs.cell sBd cBd
    obtain ⟨yC, hyC⟩ : ∃ y, hd[n]? = some y := ⟨_, List.getElem?_eq_getElem (by rw [hC.hlen]; omega)⟩
    have hrC := hC.rows n yC _ hyC (cntsTo_at A (by omega))
    have cGc := hC.at hyC
    have hrCd := hC.row hyC (cntsTo_at A (i := 33) (by omega))
    have hyn : yC.n = N := by rw [← hrCd.len]; exact hCl n
    obtain ⟨ya, yn, yc⟩ := yC
    change yn = N at hyn
    subst hyn
    change RdK 1 UE.enc W1 ya yn yc (cntRow A n) at hrCd
    obtain ⟨gR, rfl⟩ := own_some (a := ya) hrC (fun e => by have h1 := hCl n; rw [e] at h1; simp at h1; omega)
    have sgR := sR n _ gR hyC rfl
    change W1.cell? _ = some (.slice (some ⟨gR, 0, none⟩) yn yc) at cGc
    have hro : Fence.wide.round = none := rfl
    have hJ0 : J (pre ++ Wd 0) X := by rw [hW0, List.append_nil]; exact hJ
    have hord' := Lib.hid hord
    have ih' := Lib.hid (ih (by omega))
    replace hz := Lib.hid hz
    replace hol := Lib.hid hol
    replace hWe := Lib.hid hWe
    replace hWs := Lib.hid hWs
    replace hW0 := Lib.hid hW0
    replace hWp := Lib.hid hWp
    replace hWd := Lib.hid hWd
    replace hyC := Lib.hid hyC
    replace hrow := Lib.hid hrow
    replace hCl := Lib.hid hCl
    replace hN := Lib.hid hN
    replace hnS := Lib.hid hnS
    replace hfl := Lib.hid hfl
    replace hAok := Lib.hid hAok
    replace hpre := Lib.hid hpre
    replace hlen := Lib.hid hlen
    have hJA' := Lib.hid hJA
    have hS' := Lib.hid hS
    have hTl' := Lib.hid hTl
    have hJg' := Lib.hid hJg
    have hC' := Lib.hid hC
    have sR' := Lib.hid sR
    have rGo' := Lib.hid rGo
    have hrCd' := Lib.hid hrCd
    clear ih hJ hrC hord hY hJA hS hTl hJg hC sR rGo hrCd
    refine callsIn_of_wp Try.func99 rfl trivial ?_ hro
    simp only [Try.ntmps99, List.size_toArray, List.length_cons, List.length_nil, Nat.reduceAdd, Nat.reduceSub, Array.replicate_succ, Array.replicate_zero, List.push_toArray, List.append_toArray, List.nil_append, List.cons_append]
    gi_wp2
    gi_loopw [21] (fun iv wr => ∃ j : Nat, j ≤ nS ∧ iv = .int .i64 j ∧ J (pre ++ Wd j) wr ∧ Stt T S W1 wr ∧ WB T S W1 B Bw wr u) (fun iv _ => nS - (intOf iv).toNat)
    case atStart => exact ⟨0, Nat.zero_le _, rfl, hJ0, hs, hw⟩
    case round =>
      clear hJ0 hs hw cBd'
      replace z0 := Lib.hid z0
      obtain ⟨j, hj, rfl, hJ, hs, hw⟩ := hrel
      by_cases hlt : j < nS
      · obtain ⟨_, _, k, e, hk, _, hkc⟩ := (hs.rdk rGo'.out sGo).get hlt
        cases e
        have ck := hkc 0 _ rfl
        simp only [Nat.zero_add, Nat.mul_one, Nat.add_zero] at ck
        have hkn := hord'.out k (List.mem_of_getElem? hk.out)
        have hk8 : k < 8 := by have := hnS.out; omega
        have hj8 : (j : Int) < 8 := by have := hnS.out; omega
        have hsuc := hWs.out j k hk.out
        obtain ⟨cBp, hAu, _⟩ := hJA'.out _ _ hJ
        obtain ⟨sa, sc, na, nc, fa, fc, hbox, hSn, hX, hF⟩ := hAu
        rw [hnS.out] at hbox hSn
        rw [hN.out] at hbox hX
        have a0 : wr.cell? ⟨ba, 0, none⟩ = some (.slice sa nS sc) := by simp [World.cell?, hbox]
        have a1 : wr.cell? ⟨ba, 1, none⟩ = some (.slice na yn nc) := by simp [World.cell?, hbox]
        obtain ⟨xb, xo, r, rfl, hr, _, hrc⟩ := hX.get hsN
        have crk := hrc k _ (RE.at r (by have := hnS.out; omega))
        obtain ⟨to, hto⟩ : ∃ t, t = r.getD k 0 := ⟨_, rfl⟩
        have htoN := hrow.out s r hr.out k (by rw [hnS.out]; exact hkn)
        rw [← hto, hN.out] at htoN
        rw [← hto] at crk
        have hgd : A.next.getD s [] = r := by rw [List.getD_eq_getElem?_getD, hr.out]; rfl
        rw [hgd, ← hto] at hsuc
        have cBc' := hs.cell sBc cBc
        have cGc' := hs.cell sGc cGc
        obtain ⟨_, _, cv, e, hcv, _, hcc⟩ := (hs.rdk hrCd'.out sgR).get htoN
        cases e
        have ccv := hcc 0 _ rfl
        simp only [Nat.zero_add, Nat.mul_one, Nat.add_zero] at ccv
        have hgc : (cntRow A n).getD to 0 = cv := by rw [List.getD_eq_getElem?_getD, hcv.out]; rfl
        rw [hgc] at hsuc
        have hn33 : (n : Int) < 33 := by omega
        clear hrc hkc hcc hbox hX hF
        replace hto := Lib.hid hto
        replace hgd := Lib.hid hgd
        replace hgc := Lib.hid hgc
        replace hr := Lib.hid hr.out
        replace hcv := Lib.hid hcv.out
        replace hk := Lib.hid hk.out
        by_cases hc0 : cv = 0
        · rw [if_pos hc0, List.append_nil] at hsuc
          rw [hc0] at ccv
          change wr.cell? _ = some (.int .u64 0) at ccv
          replace hc0 := Lib.hid hc0
          replace hsuc := Lib.hid hsuc
          gi_wp2
          exact ⟨⟨j + 1, hlt, by go_num, by rw [hsuc.out]; exact hJ, hs, hw⟩, (by simp [intOf]; omega)⟩
        · rw [if_neg hc0] at hsuc
          have hcv0 : 0 < cv := by omega
          have hcp2 : decide (0 < cv) = true := decide_eq_true hcv0
          replace hsuc := Lib.hid hsuc
          replace hc0 := Lib.hid hc0
          gi_wp2
          obtain ⟨hle, v, hb, ho, nT, nS2⟩ := hw.ex.elim (fun v h => (⟨hw.le, v, h⟩ : W1.heap.size ≤ wr.heap.size ∧ ∃ v, Boxed wr Bw 28 v ∧ OwnK 2 Snd.enc B 24 wr v u ∧ ¬ T wr Bw ∧ ∀ g, v.ownBlock = some g → ¬ T wr g ∧ ¬ S g))
          obtain ⟨va, vn, vc, hvn, rfl, _⟩ := OwnK.rdn Snd.len ho
          have cBw := Boxed.cell hb
          obtain ⟨sb, so, x, rfl, hx, _, x0, x1⟩ := hSn.snd hkn
          have hul : u.length ≤ 32 := by have := hlen.out; omega
          have hlk2 := OwnK.rdc Snd.len (lit_own Snd.len wr 24 [x] #[.int .u32 x.p.toNat, .int .u32 x.m.toNat] rfl (n := 1) rfl (by decide))
          have hxl2 : Ext wr (wr.alloc (.cells #[.int .u32 x.p.toNat, .int .u32 x.m.toNat] 24)).drew := (Ext.alloc1 _ _).drew
          have hlk3 := hlk2.ext ((Ext.refl _).drew)
          have happ := fun (v5 : Value) (w5 : World) (o5 : OwnK 2 Snd.enc B 24 w5 v5 (u ++ [x])) g5 n5 => fs_push hJg'.out hS'.out hSw hBw hTl'.out hJ hs hle hb ho nT nS2 hxl2 o5 g5 n5
          replace happ := Lib.hid happ
          have hnx := Lib.hid (ho.kept hxl2)
          have hbB := (hJA'.out _ _ hJ).2.2
          have hbB2 : B ≤ (wr.alloc (.cells #[.int .u32 x.p.toNat, .int .u32 x.m.toNat] 24)).drew.heap.size := Nat.le_trans hbB hxl2.le
          replace hvn := Lib.hid hvn
          replace hx := Lib.hid hx.out
          have hgx : Hid (A.snd.getD k ⟨0#32, 0#32⟩ = x) := Lib.hid (by rw [List.getD_eq_getElem?_getD, hx.out]; rfl)
          clear hJ hs hw hb ho nT nS2
          refine wpIn_wide.2 ?_
          have hS0 : (fun W' : World => W'.cell? ⟨Bw, 0, none⟩ = some (.slice va vn vc) ∧ W'.cell? ⟨Bp, 0, none⟩ = some (.pointer (some ⟨ba, 0, none⟩))) wr.drew := ⟨cBw, cBp⟩
          refine wp_region_F (fun W' : World => W'.cell? ⟨Bw, 0, none⟩ = some (.slice va vn vc) ∧ W'.cell? ⟨Bp, 0, none⟩ = some (.pointer (some ⟨ba, 0, none⟩))) [0, 1, 5] (by kernel_rfl) ?_
          show wpF _ _ _ _ _ _ 11 _ _ _
          refine wpF_take (i := 0) (v := .slice va vn vc) rfl (by kernel_rfl) (by kernel_rfl) (by kernel_rfl) (by kernel_rfl) (fun _ _ _ h => h) (.inl ⟨rfl, fun W' hW' => ?_⟩) hS0 ?_
          · obtain ⟨u1, u2⟩ := hW'
            go_simp
          refine wpF_take (i := 1) (v := .pointer (some ⟨ba, 0, none⟩)) rfl (by kernel_rfl) (by kernel_rfl) (by kernel_rfl) (by kernel_rfl) (fun _ _ _ h => h) (.inl ⟨rfl, fun W' hW' => ?_⟩) hS0 ?_
          · obtain ⟨u1, u2⟩ := hW'
            go_simp
          refine wpF_take (i := 5) (v := .int .i64 (k : Int)) rfl (by kernel_rfl) (by kernel_rfl) (by kernel_rfl) (by kernel_rfl) (fun _ _ _ h => h) (.inl ⟨rfl, fun W' hW' => ?_⟩) hS0 ?_
          · obtain ⟨u1, u2⟩ := hW'
            go_simp
          refine wpF_step (k := 2) rfl (by kernel_rfl) rfl fun K2 hK2 => ?_
          go_simp
          refine hK2 _ _ hS0 ?_
          refine wpF_step (k := 3) rfl (by kernel_rfl) rfl fun K3 hK3 => ?_
          go_simp
          refine hK3 _ _ hS0 ?_
          refine wpF_step (k := 4) rfl (by kernel_rfl) rfl fun K4 hK4 => ?_
          go_simp
          refine hK4 _ _ hS0 ?_
          refine wpF_step (k := 6) rfl (by kernel_rfl) rfl fun K6 hK6 => ?_
          go_simp
          refine hK6 _ _ hS0 ?_
          refine wpF_step (k := 7) rfl (by kernel_rfl) rfl fun K7 hK7 => ?_
          go_simp
          refine hK7 _ _ hS0 ?_
          refine wpF_step (k := 8) rfl (by kernel_rfl) rfl fun K8 hK8 => ?_
          go_simp
          refine hK8 _ _ ⟨hxl2.cellv cBw, hxl2.cellv cBp⟩ ?_
          refine wpF_step (k := 9) rfl (by kernel_rfl) rfl fun K9 hK9 => ?_
          refine op_app1 B _ x rfl _ _ 28 rfl 24 Try.underlying28 info_snd rfl (by decide) Snd.len Snd.one (.slice va vn vc) u rfl hnx.out ⟨wr.heap.size, 0, none⟩ rfl hlk3 (by omega) (by decide) hbB2 ?_
          intro v5 w5 o5 g5 n5
          obtain ⟨a5, m5, c5, hm5, rfl, _⟩ := OwnK.rdn Snd.len o5
          obtain ⟨h51, h52, h53, h54, h55, h56⟩ := happ.out _ w5 o5 g5 n5
          replace hm5 := Lib.hid hm5
          refine hK9 _ _ ⟨h51, (hJA'.out _ _ h53).1⟩ ?_
          refine wpF_last (k := 10) rfl (by kernel_rfl) (by kernel_rfl) (by kernel_rfl) rfl fun K10 hK10 => ?_
          go_simp
          refine hK10 _ _ ?_
          generalize w5.setCell ⟨Bw, 0, none⟩ (.slice a5 m5 c5) = w6 at *
          have cBf6 := h55.cell sBf cBf
          have hpre2 : (pre ++ Wd j) ++ wordsFrom A ord n to (u ++ [x]) <+: L := by have := hWp.out (j + 1); rw [hsuc.out, hgx.out, ← List.append_assoc] at this; exact this
          have hJ2e : Hid ((pre ++ Wd j) ++ wordsFrom A ord n to (u ++ [x]) = pre ++ Wd (j + 1)) := Lib.hid (by rw [hsuc.out, hgx.out, List.append_assoc])
          have hrec := callsIn_wide.1 (ih'.out q to (u ++ [x]) (pre ++ Wd j) w6 htoN (by have := hlen.out; simp; omega) h54 h55 h56 hpre2)
          clear h51 h52 h53 h54 h55 h56 o5 g5 n5 hpre2
          gi_wp2
          refine ⟨trivial, ?_⟩
          gi_at_call 99
          refine (callsIn_wide.2 hrec).mono ?_
          clear hrec
          rintro e W7 (⟨rfl, hJ7, hs7, hw7⟩ | ⟨p, rfl, hJx7⟩)
          · rw [hJ2e.out] at hJ7
            obtain ⟨hle7, v7, hb7, ho7, nT7, nS7⟩ := hw7.ex.elim (fun v h => (⟨hw7.le, v, h⟩ : W1.heap.size ≤ W7.heap.size ∧ ∃ v, Boxed W7 Bw 28 v ∧ OwnK 2 Snd.enc B 24 W7 v (u ++ [x]) ∧ ¬ T W7 Bw ∧ ∀ g, v.ownBlock = some g → ¬ T W7 g ∧ ¬ S g))
            obtain ⟨a7, m7, c7, hm7, rfl, hr7⟩ := OwnK.rdn Snd.len ho7
            obtain ⟨g7, rfl⟩ := own_some ho7 (by simp)
            have hpop := fs_pop hJg'.out hS'.out hSw hBw hJ7 hs7 hle7 hb7 ho7 nT7 (nS7 g7 rfl)
            obtain ⟨p1, p2, p3⟩ := hpop
            have cB7 := Boxed.cell hb7
            have cF7 := Boxed.frozen hb7
            have hmu : (m7 : Int) - 1 = (u.length : Int) := by rw [hm7]; simp
            have hcap7 := hr7.le
            have hmost7 := hr7.most
            unfold maxLen at hmost7
            have hm7u : m7 = u.length + 1 := by rw [hm7]; simp
            obtain ⟨ul, hul2⟩ : ∃ k, k = u.length := ⟨_, rfl⟩
            rw [← hul2] at hmu hm7u p1 p2 p3
            replace hm7 := Lib.hid hm7
            replace hul2 := Lib.hid hul2
            clear hr7 ho7 hb7 hs7 hw7 hJ7
            gi_wp2
            exact ⟨⟨j + 1, hlt, by go_num, p1, p2, p3⟩, (by simp [intOf]; omega)⟩
          · gi_wp2
            go_ret
            exact .inr ⟨p, rfl, hJx7⟩
      · obtain rfl : j = nS := by omega
        gi_wp2
        go_ret
        exact .inl ⟨rfl, hJ, hs, hw⟩
end Go.Proofs.Ytilkemdecenibaa
