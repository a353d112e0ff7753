/-
  law.hits: the places of a word that are hit; law.hit.
-/
import Derived.Test.YtadncjpknckaaaaGreatDoorA19
namespace Go.Proofs.YtadncjpknckaaaaGreatDoor
open Go.RowKit Go.Shelf
attribute [local go_sem] Oper.semAt_some
def satF (s c : Snd) : Bool := s.ok && (c.ok && satB s c)
theorem sat_full (s c : Snd) (w : World) : Calls Tryz.prog 81 #[sndV s, sndV c] w fun e w' => e = .returned (.bool (satF s c)) ∧ Ext w w' := by
  cases hs : s.ok
  · have hb : satF s c = false := by unfold satF; rw [hs]; rfl
    rw [hb]
    replace hb := Lib.hid hb
    go_enter Tryz.func81, Tryz.ntmps81
    go_wp2_with fail
    refine (cbool (fvalid_any s _) hs).mono ?_
    rintro e w1 ⟨rfl, hx1⟩
    go_wp2_with fail
    go_ret
    exact ⟨rfl, (by repeat (first | exact Ext.refl _ | assumption | refine Ext.drew ?_ | refine Ext.drewN ?_ _ | refine Ext.alloc ?_ _ | refine Ext.trans ?_ (by assumption)))⟩
  · cases hc : c.ok
    · have hb : satF s c = false := by unfold satF; rw [hs, hc]; rfl
      rw [hb]
      replace hb := Lib.hid hb
      go_enter Tryz.func81, Tryz.ntmps81
      go_wp2_with fail
      refine (cbool (fvalid_any s _) hs).mono ?_
      rintro e w1 ⟨rfl, hx1⟩
      have hcl1 := fun b o (h : b < _) => Ext.cell hx1 (b := b) o h
      go_wp2_with fail
      refine (cbool (fvalid_any c _) hc).mono ?_
      rintro e w1 ⟨rfl, hx2⟩
      replace hx1 := Ext.trans hx1 (Ext.trans (by repeat (first | exact Ext.refl _ | refine Ext.drew ?_ | refine Ext.drewN ?_ _ | refine Ext.alloc ?_ _)) hx2)
      replace hcl1 := fun b o (h : b < _) => Ext.cell hx1 (b := b) o h
      clear hx2
      go_wp2_with fail
      go_ret
      exact ⟨rfl, (by repeat (first | exact Ext.refl _ | assumption | refine Ext.drew ?_ | refine Ext.drewN ?_ _ | refine Ext.alloc ?_ _ | refine Ext.trans ?_ (by assumption)))⟩
    · have hb : satF s c = satB s c := by unfold satF; rw [hs, hc]; rfl
      rw [hb]
      exact sat_any s c w hs hc
theorem hits_any (L : HL) (a : Option Addr) (n cap : Nat) (i : Nat) (w : World) : Calls Tryz.prog 66 #[lawV L, .slice a n cap, .int .i64 (i : Int)] w fun e w' =>
    e = .returned (.func (.func 79) #[] #[.pointer (some ⟨w.heap.size, 0, none⟩), .pointer (some ⟨w.heap.size + 1, 0, none⟩), .pointer (some ⟨w.heap.size + 1 + 1, 0, none⟩)]) ∧ w' = ((w.alloc (.cells #[.string L.name, .int .i64 L.left.kind, .int .u32 L.left.is.p.toNat, .int .u32 L.left.is.m.toNat, .bool L.left.neg, .int .i64 L.left.mn, .int .i64 L.left.mx, .slice L.left.a L.left.n L.left.cap, .int .i64 L.right.kind, .int .u32 L.right.is.p.toNat, .int .u32 L.right.is.m.toNat, .bool L.right.neg, .int .i64 L.right.mn, .int .i64 L.right.mx, .slice L.right.a L.right.n L.right.cap, .slice L.ia L.ifs.length L.icap, .slice L.oa L.outs.length L.ocap, .int .i64 L.mode] 58)).alloc (.cells #[.slice a n cap] 40)).alloc (.cells #[.int .i64 (i : Int)] 3) := by
  go_enter Tryz.func66, Tryz.ntmps66
  go_wp2_with fail
  go_ret
  exact ⟨rfl, rfl⟩
abbrev lawO (L : HL) : Obj := .cells #[.string L.name, .int .i64 L.left.kind, .int .u32 L.left.is.p.toNat, .int .u32 L.left.is.m.toNat, .bool L.left.neg, .int .i64 L.left.mn, .int .i64 L.left.mx, .slice L.left.a L.left.n L.left.cap, .int .i64 L.right.kind, .int .u32 L.right.is.p.toNat, .int .u32 L.right.is.m.toNat, .bool L.right.neg, .int .i64 L.right.mn, .int .i64 L.right.mx, .slice L.right.a L.right.n L.right.cap, .slice L.ia L.ifs.length L.icap, .slice L.oa L.outs.length L.ocap, .int .i64 L.mode] 58 (0, 0)
abbrev wordO (a : Option Addr) (n cap : Nat) : Obj := .cells #[.slice a n cap] 40 (0, 0)
abbrev intO (i : Nat) : Obj := .cells #[.int .i64 (i : Int)] 3 (0, 0)
def hitsTo (L : HL) (ws : List Snd) (b k : Nat) : List Nat := (List.range k).filter fun a => decide (b ≤ a) && hitB' L ws a
theorem hitsTo_succ (L : HL) (ws : List Snd) (b k : Nat) : hitsTo L ws b (k + 1) = hitsTo L ws b k ++ if b ≤ k ∧ hitB' L ws k = true then [k] else [] := by
  unfold hitsTo
  rw [List.range_succ, List.filter_append]
  congr 1
  by_cases h : b ≤ k ∧ hitB' L ws k = true
  · rw [if_pos h, List.filter_cons, if_pos (by simp [h.1, h.2])]; rfl
  · rw [if_neg h, List.filter_cons, if_neg (by simpa using h)]; rfl
theorem hitsTo_low (L : HL) (ws : List Snd) (b : Nat) : hitsTo L ws b b = [] := by
  unfold hitsTo
  rw [List.filter_eq_nil_iff]
  intro a ha
  have := List.mem_range.1 ha
  simp; omega
theorem hitsTo_pre (L : HL) (ws : List Snd) (b k m : Nat) : hitsTo L ws b k <+: hitsTo L ws b (k + m) := by
  induction m with
  | zero => exact List.prefix_refl _
  | succ m ih => rw [← Nat.add_assoc, hitsTo_succ]; exact ih.trans (List.prefix_append _ _)
theorem hitsTo_end (L : HL) (ws : List Snd) (b k : Nat) (hk : ws.length < k + L.ifs.length) (hkw : k ≤ ws.length + 1) : hitsTo L ws b k = hitsM L ws b := by
  have key : ∀ m, hitsTo L ws b (k + m) = hitsTo L ws b k := fun m => by
    induction m with
    | zero => rfl
    | succ m ih =>
      have : hitB' L ws (k + m) = false := by unfold hitB'; rw [decide_eq_false (by omega)]; rfl
      rw [← Nat.add_assoc, hitsTo_succ, ih, this]; simp
  have := key (ws.length + 1 - k)
  rw [show k + (ws.length + 1 - k) = ws.length + 1 by omega] at this
  rw [← this]; rfl
theorem idx_snds {a : Option Addr} {b off n cap j : Nat} (ha : a = some ⟨b, off, none⟩) (hj : j < n) (W : World) : (Instr.indexAt 40 (.slice a n cap) (.int .i64 (j : Int))).run Tryz.prog W = .ok (.pointer (some ⟨b, off + j * 2, none⟩)) W := by
  subst ha
  rw [run_indexAt_slice (h := elem_snds), if_pos ⟨by omega, by omega⟩, size_snds]
  simp only [Result.andThen_ok, Addr.add, Int.toNat_natCast]
  split
  · rename_i h; rw [h, Nat.add_zero]
  · rfl
structure HitsI (T : World → Nat → Prop) (L : HL) (a : Option Addr) (nw cap b bl bw bf bl2 bw2 : Nat) (X : World) : Prop where
  kl : Held T X bl (lawO L)
  kw : Held T X bw (wordO a nw cap)
  kf : Held T X bf (intO b)
  kl2 : Held T X bl2 (lawO L)
  kw2 : Held T X bw2 (wordO a nw cap)
theorem HitsI.ext {T : World → Nat → Prop} {L : HL} {a : Option Addr} {nw cap b bl bw bf bl2 bw2 : Nat} {X Y : World} (h : HitsI T L a nw cap b bl bw bf bl2 bw2 X) (hx : Ext X Y) (hT : ∀ r, T Y r ↔ T X r) : HitsI T L a nw cap b bl bw bf bl2 bw2 Y :=
  ⟨h.kl.ext hx hT, h.kw.ext hx hT, h.kf.ext hx hT, h.kl2.ext hx hT, h.kw2.ext hx hT⟩
theorem HitsI.keep {T : World → Nat → Prop} {L : HL} {a : Option Addr} {nw cap b bl bw bf bl2 bw2 : Nat} {X Y : World} (h : HitsI T L a nw cap b bl bw bf bl2 bw2 X) (hk : KeepT T X Y) : HitsI T L a nw cap b bl bw bf bl2 bw2 Y :=
  ⟨h.kl.keep hk, h.kw.keep hk, h.kf.keep hk, h.kl2.keep hk, h.kw2.keep hk⟩
theorem Held.word {T : World → Nat → Prop} {X : World} {bw : Nat} {a : Option Addr} {nw cap : Nat} (h : Held T X bw (wordO a nw cap)) : X.cell? ⟨bw, 0, none⟩ = some (.slice a nw cap) := by simp [World.cell?, h.at']
theorem Held.int {T : World → Nat → Prop} {X : World} {bf b : Nat} (h : Held T X bf (intO b)) : X.cell? ⟨bf, 0, none⟩ = some (.int .i64 (b : Int)) := by simp [World.cell?, h.at']
theorem Held.law {T : World → Nat → Prop} {X : World} {bl : Nat} {L : HL} (h : Held T X bl (lawO L)) : LawB X bl L := h.at'
set_option maxHeartbeats 4000000 in
set_option maxRecDepth 20000 in
theorem hits1_T (L : HL) (a : Option Addr) (nw cap : Nat) (ws : List Snd) (b : Nat) (hok : lawOkB L = true) (w0 : World) (hL : RdLw w0 L) (hws : RdS w0 a nw cap ws) (hT0 : Tab64 w0) (hn4 : nw ≤ 4000) (hb : b ≤ nw + 1) (T : World → Nat → Prop) (J Jx : List Nat → World → Prop) (hJT : NewT T J) (hJ0 : ∀ s X, J s X → Ext w0 X) (hTl : ∀ s X r, J s X → T X r → r < X.heap.size) (n l bl bw bf : Nat) (hn : 1 ≤ n)
    (hY : ∀ pre x X, J pre X → (pre ++ [x]) <+: hitsM L ws b → YieldAt Fence.wide (n - 1) Tryz.prog l (encF x) X fun e Y => (e = .returned (.bool true) ∧ J (pre ++ [x]) Y ∧ KeepT T X Y) ∨ (e = .returned (.bool false) ∧ Jx (pre ++ [x]) Y))
    (W : World) (h0 : J [] W) (kl : Held T W bl (lawO L)) (kw : Held T W bw (wordO a nw cap)) (kf : Held T W bf (intO b)) :
    CallsIn Fence.wide n Tryz.prog 79 #[.func (.yield l) #[] #[], .pointer (some ⟨bl, 0, none⟩), .pointer (some ⟨bw, 0, none⟩), .pointer (some ⟨bf, 0, none⟩)] W fun e W' => (∃ v, e = .returned v) ∧ (J (hitsM L ws b) W' ∨ ∃ pre, Jx pre W') := by
  have hro : Fence.wide.round = none := rfl
  refine callsIn_of_wp Tryz.func79 rfl trivial ?_ hro
  simp only [Tryz.ntmps79, List.size_toArray, List.length_cons, List.length_nil, Nat.reduceAdd, Nat.reduceSub, Array.replicate_succ, Array.replicate_zero, List.push_toArray, List.append_toArray, List.nil_append, List.cons_append]
  have c2 : W.cell? ⟨bw, 0, none⟩ = some (.slice a nw cap) := by simp [World.cell?, kw.at']
  have c3 : W.cell? ⟨bf, 0, none⟩ = some (.int .i64 (b : Int)) := by simp [World.cell?, kf.at']
  have hlb := kl.at'
  refine wpIn_scope_straight ?_
  gi_wp2_with (refine listIn_of rfl (fun c h => by cases h) fun K hK => ?_; refine wp_load_row 58 _ rfl bl rfl 58 _ (0, 0) _ hlb Tryz.underlying58 rfl (by kernel_rfl) ?_; refine hK _ _ ?_)
  refine ⟨trivial, ?_⟩
  gi_at_call 80
  refine (callsIn_wide.2 (around_any L a nw cap W)).mono ?_
  rintro e W1 ⟨rfl, hW1⟩
  have hx1 : Ext W W1 := by rw [hW1]; exact (by repeat (first | exact Ext.refl _ | refine Ext.drew ?_ | refine Ext.drewN ?_ _ | refine Ext.alloc ?_ _))
  have hz1 : W1.heap.size = W.heap.size + 1 + 1 := by rw [hW1]; simp
  obtain ⟨hJ1, hT1⟩ := hJT _ _ _ h0 hx1
  have hnew : ∀ r, W.heap.size ≤ r → ¬ T W1 r := fun r hr h => by have := hTl _ _ r h0 ((hT1 r).1 h); omega
  have hI1 : HitsI T L a nw cap b bl bw bf W.heap.size (W.heap.size + 1) W1 :=
    ⟨kl.ext hx1 hT1, kw.ext hx1 hT1, kf.ext hx1 hT1, ⟨by rw [hW1]; exact (LawB.new W L).ext (Ext.alloc1 _ _), rfl, hnew _ (Nat.le_refl _)⟩, ⟨by rw [hW1]; have := World.alloc_heap_new (W.alloc (.cells #[.string L.name, .int .i64 L.left.kind, .int .u32 L.left.is.p.toNat, .int .u32 L.left.is.m.toNat, .bool L.left.neg, .int .i64 L.left.mn, .int .i64 L.left.mx, .slice L.left.a L.left.n L.left.cap, .int .i64 L.right.kind, .int .u32 L.right.is.p.toNat, .int .u32 L.right.is.m.toNat, .bool L.right.neg, .int .i64 L.right.mn, .int .i64 L.right.mx, .slice L.right.a L.right.n L.right.cap, .slice L.ia L.ifs.length L.icap, .slice L.oa L.outs.length L.ocap, .int .i64 L.mode] 58)) (.cells #[.slice a nw cap] 40); rwa [World.size_alloc] at this, rfl, hnew _ (Nat.le_succ _)⟩⟩
  clear hW1 hnew hT1 hx1 hz1 c2 c3 hlb kl kw kf
  have hJs := hJ1
  generalize W.heap.size = bl2 at *
  have c3 := hI1.kf.int
  gi_wp2
  refine wpIn_label ?_
  gi_wp2
  have hkk : L.ifs.length ≤ 4 := (lawOk_parts hok).2.2.1
  have hl := hws.len
  have hxn : ∀ k, k ≤ nw + 1 → hitsTo L ws b k <+: hitsM L ws b := fun k hk => by
    have := hitsTo_pre L ws b k (nw + 1 - k)
    rw [show k + (nw + 1 - k) = nw + 1 by omega, ← hl] at this
    exact this
  generalize hbl2 : bl2 + 1 = bw2 at *
  replace hl := Lib.hid hl
  clear c3 hJ1 h0 hbl2
  have hJ1 : J (hitsTo L ws b b) W1 := by rw [hitsTo_low]; exact hJs
  gi_loopw [6] (fun av wr => ∃ k : Nat, b ≤ k ∧ k ≤ nw + 1 ∧ av = .int .i64 k ∧ J (hitsTo L ws b k) wr ∧ HitsI T L a nw cap b bl bw bf bl2 bw2 wr) (fun av _ => nw + 1 - (intOf av).toNat)
  case atStart => exact ⟨b, Nat.le_refl _, hb, rfl, hJ1, hI1⟩
  case round =>
    obtain ⟨k, hbk, hkw, rfl, hJk, hIk⟩ := hrel
    have c1 := hIk.kl.law.c.2.1
    have c2 := hIk.kw.word
    by_cases hlt : k + L.ifs.length ≤ nw
    · have hlt' : (k : Int) + (L.ifs.length : Int) ≤ (nw : Int) := by omega
      have hsu := hitsTo_succ L ws b k
      have hxk := hJ0 _ _ hJk
      replace hsu := Lib.hid hsu
      have hcond : Hid (condM L ws k = (List.range L.ifs.length).all fun j => satF (ws.getD (k + j) z0S) (L.ifs.getD j z0S)) := Lib.hid rfl
      gi_wp2
      generalize wr = wk at *
      gi_loopw [26] (fun jv wr => ∃ j : Nat, j ≤ L.ifs.length ∧ jv = .int .i64 j ∧ Ext wk wr ∧ Hid (∀ i, i < j → satF (ws.getD (k + i) z0S) (L.ifs.getD i z0S) = true)) (fun jv _ => L.ifs.length - (intOf jv).toNat)
      case atStart => exact ⟨0, Nat.zero_le _, rfl, Ext.refl _, Lib.hid fun i hi => absurd hi (Nat.not_lt_zero _)⟩
      case round =>
        obtain ⟨j, hj, rfl, hxj, hall⟩ := hrel
        obtain ⟨hJj, hTj⟩ := hJT _ _ _ hJk hxj
        have hIj := hIk.ext hxj hTj
        have hxr := hJ0 _ _ hJj
        by_cases hjl : j < L.ifs.length
        · have hjl' : (j : Int) < (L.ifs.length : Int) := by omega
          obtain ⟨bc, offc, c, hca, hcj, hbc, p0, p1⟩ := (hL.ifs.ext hxr).snd hjl
          obtain ⟨m, hm⟩ : ∃ m, m = k + j := ⟨_, rfl⟩
          have hsum : (k : Int) + (j : Int) = (m : Int) := by omega
          have hmn : m < nw := by omega
          obtain ⟨bo, offo, s, hao, hsk, hbo, s0, s1⟩ := (hws.ext hxr).snd hmn
          have hkj : (m : Int) < (nw : Int) := by omega
          have hsat : satF (ws.getD (k + j) z0S) (L.ifs.getD j z0S) = satF s c := by
            rw [← hm, List.getD_eq_getElem?_getD, List.getD_eq_getElem?_getD, hsk.out, hcj.out]; rfl
          replace hm := Lib.hid hm
          have hA := Ext.alloc1 wr (.cells #[.int .u32 c.p.toNat, .int .u32 c.m.toNat] 52)
          have g8 := SndB.new wr c
          have cw := hA.cellv hIj.kw.word
          replace s0 := hA.cellv s0
          replace s1 := hA.cellv s1
          replace hsat := Lib.hid hsat
          have hix := idx_snds (cap := L.icap) hca hjl
          replace hca := Lib.hid hca
          replace hao := Lib.hid hao
          gi_wp2
          clear p0 p1 hix
          generalize wr.alloc (.cells #[.int .u32 c.p.toNat, .int .u32 c.m.toNat] 52) = w8 at *
          generalize wr.heap.size = b8 at *
          obtain ⟨z0, z1⟩ := g8.cells
          have hmx : Tryz.prog.follows .mixedOrders = true := by kernel_rfl
          refine region_only ?_
          refine wpIn_region_HW (fun W' : World => Ext w8 W') [0, 1, 2, 3, 4, 5, 6] hmx (by kernel_rfl) (by rintro ⟨_, _, h⟩; exact h) ?_
          show wpH _ _ _ _ _ _ 9 _ _ _
          have hS0 : (fun W' : World => Ext w8 W') w8.drew := (Ext.refl _).drew
          refine wpH_take (i := 0) (v := (.slice a nw cap)) rfl (by kernel_rfl) (by kernel_rfl) (by kernel_rfl) (by kernel_rfl) (by kernel_rfl) (fun _ _ _ h => h) (.inl ⟨rfl, fun W' hW' => ?_⟩) hS0 ?_
          · have u := Ext.cellv hW' cw
            go_simp
          refine wpH_take (i := 1) (v := (.int .i64 (k : Int))) rfl (by kernel_rfl) (by kernel_rfl) (by kernel_rfl) (by kernel_rfl) (by kernel_rfl) (fun _ _ _ h => h) (.inl ⟨rfl, fun W' hW' => ?_⟩) hS0 ?_
          · go_simp
          refine wpH_take (i := 2) (v := (.int .i64 (j : Int))) rfl (by kernel_rfl) (by kernel_rfl) (by kernel_rfl) (by kernel_rfl) (by kernel_rfl) (fun _ _ _ h => h) (.inl ⟨rfl, fun W' hW' => ?_⟩) hS0 ?_
          · go_simp
          refine wpH_take (i := 3) (v := (.int .i64 (m : Int))) rfl (by kernel_rfl) (by kernel_rfl) (by kernel_rfl) (by kernel_rfl) (by kernel_rfl) (fun _ _ _ h => h) (.inl ⟨rfl, fun W' hW' => ?_⟩) hS0 ?_
          · have hw : IntKind.i64.wrap (m : Int) = (m : Int) := by rw [IntKind.wrap_i64]; omega
            go_simp
          refine wpH_take (i := 4) (v := (.pointer (some ⟨bo, offo + m * 2, none⟩))) rfl (by kernel_rfl) (by kernel_rfl) (by kernel_rfl) (by kernel_rfl) (by kernel_rfl) (fun _ _ _ h => h) (.inl ⟨rfl, fun W' hW' => ?_⟩) hS0 ?_
          · have u := idx_snds (cap := cap) hao.out hmn W'
            go_simp
          refine wpH_take (i := 5) (v := (sndV s)) rfl (by kernel_rfl) (by kernel_rfl) (by kernel_rfl) (by kernel_rfl) (by kernel_rfl) (fun _ _ _ h => h) (.inl ⟨rfl, fun W' hW' => ?_⟩) hS0 ?_
          · (have u := Ext.cellv hW' s0; have v := Ext.cellv hW' s1)
            go_simp
          refine wpH_take (i := 6) (v := (sndV c)) rfl (by kernel_rfl) (by kernel_rfl) (by kernel_rfl) (by kernel_rfl) (by kernel_rfl) (fun _ _ _ h => h) (.inl ⟨rfl, fun W' hW' => ?_⟩) hS0 ?_
          · (have u := Ext.cellv hW' z0; have v := Ext.cellv hW' z1)
            go_simp
          refine wpH_step (k := 7) rfl (by kernel_rfl) rfl fun K hK => ?_
          go_simp
          have hxj8 := hxj.trans hA
          cases hsf : satF s c
          · have hno : condM L ws k = false := by
              rw [hcond.out, List.all_eq_false]
              exact ⟨j, List.mem_range.2 hjl, by rw [hsat.out, hsf]; simp⟩
            have hnh : hitB' L ws k = false := by unfold hitB'; rw [hno]; simp
            have hsu2 : hitsTo L ws b (k + 1) = hitsTo L ws b k := by rw [hsu.out, hnh]; simp
            replace hsu2 := Lib.hid hsu2
            replace hno := Lib.hid hno
            replace hnh := Lib.hid hnh
            refine (cbool (sat_full s c _) hsf).mono ?_
            rintro e w9 ⟨rfl, hx9⟩
            replace hsf := Lib.hid hsf
            have hxf := hxj8.trans (hS0.trans hx9)
            refine hK _ _ (needA_no (by kernel_rfl)) ?_
            clear hK K hS0 hx9 s0 s1 z0 z1 cw g8
            refine wpH_step (k := 8) rfl (by kernel_rfl) rfl fun K hK => ?_
            go_simp
            refine hK _ _ (needA_no (by kernel_rfl)) ?_
            clear hK K
            refine wpH_last (by kernel_rfl) ?_
            obtain ⟨hJf, hTf⟩ := hJT _ _ _ hJk hxf
            have hIf := hIk.ext hxf hTf
            rw [← hsu2.out] at hJf
            gi_wp2
            (first | exact ⟨⟨k + 1, Nat.le_succ_of_le hbk, by omega, by go_num, hJf, hIf⟩, (by simp [intOf]; omega)⟩ | (go_roundw; case rel => exact ⟨k + 1, Nat.le_succ_of_le hbk, by omega, by go_num, hJf, hIf⟩; case measure => exact (by simp [intOf]; omega)))
          · have hall2 : Hid (∀ i, i < j + 1 → satF (ws.getD (k + i) z0S) (L.ifs.getD i z0S) = true) := Lib.hid fun i hi => by
              rcases Nat.lt_or_ge i j with h | h
              · exact hall.out i h
              · obtain rfl : i = j := by omega
                rw [hsat.out, hsf]
            refine (cbool (sat_full s c _) hsf).mono ?_
            rintro e w9 ⟨rfl, hx9⟩
            replace hsf := Lib.hid hsf
            have hxf := hxj8.trans (hS0.trans hx9)
            refine hK _ _ (needA_no (by kernel_rfl)) ?_
            clear hK K hS0 hx9 s0 s1 z0 z1 cw g8
            refine wpH_step (k := 8) rfl (by kernel_rfl) rfl fun K hK => ?_
            go_simp
            refine hK _ _ (needA_no (by kernel_rfl)) ?_
            clear hK K
            refine wpH_last (by kernel_rfl) ?_
            gi_wp2
            (first | exact ⟨⟨j + 1, hjl, by go_num, hxf, hall2⟩, (by simp [intOf]; omega)⟩ | (go_roundw; case rel => exact ⟨j + 1, hjl, by go_num, hxf, hall2⟩; case measure => exact (by simp [intOf]; omega)))
        · obtain rfl : j = L.ifs.length := by omega
          have hcM : condM L ws k = true := by
            rw [hcond.out, List.all_eq_true]
            exact fun i hi => hall.out i (List.mem_range.1 hi)
          have hhit : hitB' L ws k = fitM L ws k := by
            unfold hitB'
            rw [hcM, hl.out, decide_eq_true hlt]; rfl
          have hfit := fun W hx => around1_any L a nw cap ws k bl2 bw2 W (hL.ext hx) hok (hws.ext hx) (hT0.ext hx)
          replace hcM := Lib.hid hcM
          gi_wp2
          refine ⟨trivial, ?_⟩
          cases hf : fitM L ws k
          · have hsu2 : hitsTo L ws b (k + 1) = hitsTo L ws b k := by rw [hsu.out, hhit, hf]; simp
            replace hsu2 := Lib.hid hsu2
            replace hhit := Lib.hid hhit
            refine (callsIn_wide.2 (cbool (hfit wr hxr hIj.kl2.law hIj.kw2.word hlt) hf)).mono ?_
            rintro e w9 ⟨rfl, hx9⟩
            replace hf := Lib.hid hf
            have hxf := hxj.trans hx9
            obtain ⟨hJf, hTf⟩ := hJT _ _ _ hJk hxf
            have hIf := hIk.ext hxf hTf
            rw [← hsu2.out] at hJf
            clear hfit hJj hIj
            gi_wp2
            refine ⟨fun _ h => (by cases h), ?_⟩
            gi_wp2
            (first | exact ⟨⟨k + 1, Nat.le_succ_of_le hbk, by omega, by go_num, hJf, hIf⟩, (by simp [intOf]; omega)⟩ | (go_roundw; case rel => exact ⟨k + 1, Nat.le_succ_of_le hbk, by omega, by go_num, hJf, hIf⟩; case measure => exact (by simp [intOf]; omega)))
          · have hsu2 : hitsTo L ws b (k + 1) = hitsTo L ws b k ++ [k] := by rw [hsu.out, hhit, hf]; simp [hbk]
            have hpre := hxn (k + 1) (by omega)
            rw [hsu2] at hpre
            replace hhit := Lib.hid hhit
            refine (callsIn_wide.2 (cbool (hfit wr hxr hIj.kl2.law hIj.kw2.word hlt) hf)).mono ?_
            rintro e w9 ⟨rfl, hx9⟩
            replace hf := Lib.hid hf
            have hxf := hxj.trans hx9
            obtain ⟨hJf, hTf⟩ := hJT _ _ _ hJk hxf
            have hIf := hIk.ext hxf hTf
            obtain ⟨fn, tmps, assign, body, hyl, hR⟩ := hY _ k w9 hJf hpre
            clear hfit hJj hIj
            replace hsu2 := Lib.hid hsu2
            gi_wp2
            refine hR.mono ?_
            rintro e W3 (⟨rfl, hJ3, hk3⟩ | ⟨rfl, hJx3⟩)
            rotate_left
            · gi_wp2
              rw [show ∀ (Q : Exit → Act → World → Prop) (a : Act) (w : World), Exit.noGoto Q Exit.ret a w = Q Exit.ret a w from fun _ _ _ => rfl]
              refine bodyPost_ret (results_none rfl _ _ _) rfl ?_
              exact ⟨⟨_, rfl⟩, .inr ⟨_, hJx3⟩⟩
            have hI3 := hIf.keep hk3
            rw [← hsu2.out] at hJ3
            gi_wp2
            (first | exact ⟨⟨k + 1, Nat.le_succ_of_le hbk, by omega, by go_num, hJ3, hI3⟩, (by simp [intOf]; omega)⟩ | (go_roundw; case rel => exact ⟨k + 1, Nat.le_succ_of_le hbk, by omega, by go_num, hJ3, hI3⟩; case measure => exact (by simp [intOf]; omega)))
    · have hlt' : ¬ (k : Int) + (L.ifs.length : Int) ≤ (nw : Int) := by omega
      have hend := hitsTo_end L ws b k (by rw [hl.out]; omega) (by rw [hl.out]; exact hkw)
      rw [hend] at hJk
      gi_wp2
      go_end0
      exact ⟨⟨_, rfl⟩, .inl hJk⟩
end Go.Proofs.YtadncjpknckaaaaGreatDoor
