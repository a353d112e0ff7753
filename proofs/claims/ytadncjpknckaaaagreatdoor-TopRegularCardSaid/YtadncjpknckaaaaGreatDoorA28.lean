/-
  derive.rescue, attempt, Derive.
  ablauttop.small: how great a pattern is (some number; no more is asked).
-/
import Derived.Test.YtadncjpknckaaaaGreatDoorA27
import Derived.Recover
namespace Go.Proofs.YtadncjpknckaaaaGreatDoor
open Go.RowKit Go.Shelf
attribute [local go_sem] Oper.semAt_some
@[local go_sem] theorem assert_failure (W : World) (v : Value) : (Instr.typeAssert (.iface 147 v) 20 147 true).run Tryz.prog W = .ok (.tuple #[v, .bool true]) W := by kernel_rfl
set_option maxHeartbeats 1000000 in
set_option maxRecDepth 20000 in
theorem rescue_panicking (b : Nat) (x err : Int) (older : List PanicEntry) (w : World) (hc : Boxed w b 32 (.int .i64 x)) :
    CallsD Tryz.prog 63 #[.pointer (some ⟨b, 0, none⟩)] (.panicking ({ v := .iface 147 (.int .i64 err), recovered := false } :: older)) w fun e u' w' =>
      e = .returned (.tuple #[]) ∧ u' = .panicking ({ v := .iface 147 (.int .i64 err), recovered := true } :: older) ∧ w' = w.setCell ⟨b, 0, none⟩ (.int .i64 err) := by
  have c0 := hc.cell
  have f0 := hc.frozen
  refine callsD_of_wpS Tryz.func63 rfl fun c₀ cs hu => ?_
  apply wpS_seq
  apply wpS_region
  simp [wpOpsS, go_sem, recoverD, hu, Tryz.ntmps63, Exit.thenS, Array.replicate_succ]
  refine wpS_of_wp ?_
  go_wp2
  exact ⟨rfl, _, rfl, _, results_none rfl _ _ _, rfl, rfl, rfl⟩
set_option maxHeartbeats 1000000 in
set_option maxRecDepth 20000 in
theorem rescue_idle (b : Nat) (w : World) :
    CallsD Tryz.prog 63 #[.pointer (some ⟨b, 0, none⟩)] .returning w fun e u' w' => e = .returned (.tuple #[]) ∧ u' = .returning ∧ w' = w := by
  refine callsD_of_wpS Tryz.func63 rfl fun c₀ cs hu => ?_
  apply wpS_seq
  apply wpS_region
  simp [wpOpsS, go_sem, recoverD, hu, Tryz.ntmps63, Exit.thenS, Array.replicate_succ]
  refine wpS_of_wp ?_
  go_wp2
  refine ⟨rfl, .returning, ?_, _, results_none rfl _ _ _, rfl, rfl, rfl⟩
  cases c₀
  simp only at hu
  subst hu
  rfl
/-- What an attempt leaves: the word, or an error. -/
def AttL (Ls : List HL) (ws : List Snd) (w00 : World) (be bo : Nat) (w' : World) : Prop := Ext w00 w' ∧ ∃ (a : Option Addr) (n c : Nat) (err : Int), Boxed w' be 32 (.int .i64 err) ∧ Boxed w' bo 40 (.slice a n c) ∧ Hid (err = 0 ↔ (derM Ls ws).isSome = true) ∧ Hid (∀ x, derM Ls ws = some x → OwnS w00.heap.size 52 w' (.slice a n c) x)
set_option maxHeartbeats 1000000 in
set_option maxRecDepth 20000 in
theorem attempt1_any (Ls : List HL) (a : Option Addr) (n cap : Nat) (aw : Option Addr) (nw cw : Nat) (ws : List Snd) (w00 w : World) (hx : Ext w00 w) (hLs : RdLws w a n cap Ls) (hws : RdS w aw nw cw ws) (hT : Tab64 w) (hn : nw ≤ 60000) (be bl bw bo : Nat)
    (he : Boxed w be 32 (.int .i64 0)) (hl : Boxed w bl 23 (.slice a n cap)) (hw : Boxed w bw 40 (.slice aw nw cw)) (ho : Boxed w bo 40 (.slice none 0 0)) (hb : w00.heap.size ≤ be ∧ w00.heap.size ≤ bo ∧ be ≠ bo) :
    Calls Tryz.prog 62 #[.pointer (some ⟨be, 0, none⟩), .pointer (some ⟨bl, 0, none⟩), .pointer (some ⟨bw, 0, none⟩), .pointer (some ⟨bo, 0, none⟩)] w fun e w' => e = .returned (.tuple #[]) ∧ AttL Ls ws w00 be bo w' := by
  have cl := hl.cell
  have cw0 := hw.cell
  refine calls_of_wp_defers Tryz.func62 rfl ?_
  simp only [Tryz.ntmps62, List.size_toArray, List.length_cons, List.length_nil, Nat.reduceAdd, Nat.reduceSub, Array.replicate_succ, Array.replicate_zero, List.push_toArray, List.append_toArray, List.nil_append, List.cons_append]
  go_wp2_with fail
  refine (outcome_any Ls a n cap aw nw cw ws w hLs hws hT hn).mono ?_
  rintro e w1 ⟨hx1, (⟨a2, n2, c2, x, rfl, hd, hown⟩ | ⟨ch, rfl, hd, err, rfl, hne⟩)⟩
  · have ho1 := boxed_more ho hx1
    have he1 := boxed_more he hx1
    have d1 := ho1.cell
    have f1 := ho1.frozen
    go_wp2_with fail
    refine leaves_cons (f := 63) (args := #[.pointer (some ⟨be, 0, none⟩)]) (by simp) (by simp [go_sem]) ?_
    refine (rescue_idle be _).mono ?_
    rintro e u' w2 ⟨rfl, rfl, rfl⟩
    refine ⟨_, results_none rfl _ _ _, rfl, ?_⟩
    refine ⟨(hx.trans hx1).setCell (by simpa using hb.2.1) _, a2, n2, c2, 0, he1.other hb.2.2 _, ho1.set _, Lib.hid ⟨fun _ => by rw [hd.out]; rfl, fun _ => rfl⟩, Lib.hid fun y hy => ?_⟩
    rw [hd.out] at hy; cases hy
    exact own_setOff (hown.base hx.le) fun e => by
      have := (own_lt hown e).1
      have := ho.lt
      omega
  · go_wp2_with fail
    have he1 := boxed_more he hx1
    refine leaves_cons (f := 63) (args := #[.pointer (some ⟨be, 0, none⟩)]) (by simp) (by simp [go_sem]) ?_
    refine (rescue_panicking be 0 err [] w1 he1).mono ?_
    rintro e u' w2 ⟨rfl, rfl, rfl⟩
    refine ⟨_, results_none rfl _ _ _, rfl, ?_⟩
    exact ⟨(hx.trans hx1).setCell (by simpa using hb.1) _, none, 0, 0, err, he1.set _, (boxed_more ho hx1).other (fun e => hb.2.2 e.symm) _, Lib.hid ⟨fun h => absurd h hne, fun h => by rw [hd.out] at h; cases h⟩, Lib.hid fun y hy => by rw [hd.out] at hy; cases hy⟩
def RetAtt (r : Option (List Snd)) (w : World) (e : Ending) (w' : World) : Prop := ∃ (a : Option Addr) (n c : Nat), e = .returned (.tuple #[.slice a n c, .bool r.isSome]) ∧ Ext w w' ∧ Hid (∀ x, r = some x → OwnS w.heap.size 52 w' (.slice a n c) x)
theorem results_word_t {fn : Func} {p q : Tmp} (h : fn.results = #[.cell p 40, .tmp q]) (tmps : Array Value) (w : World) (g : Nat) (v : Value) (hp : tmps.getD p undef = .pointer (some ⟨g, 0, none⟩)) (hc : w.cell? ⟨g, 0, none⟩ = some v) : (results fn tmps).run Tryz.prog w = .ok (.tuple #[v, tmps.getD q undef]) w := by
  have hp' : tmps[p]?.getD undef = .pointer (some ⟨g, 0, none⟩) := by simpa using hp
  simp [results, h, hp', asAddr, loadVar, go_sem, hc]
set_option maxHeartbeats 1000000 in
set_option maxRecDepth 20000 in
theorem attempt_any (Ls : List HL) (a : Option Addr) (n cap : Nat) (aw : Option Addr) (nw cw : Nat) (ws : List Snd) (w : World) (hLs : RdLws w a n cap Ls) (hws : RdS w aw nw cw ws) (hT : Tab64 w) (hn : nw ≤ 60000) :
    Calls Tryz.prog 45 #[.slice a n cap, .slice aw nw cw] w (RetAtt (derM Ls ws) w) := by
  have hmf : ∀ (fn : Fn) (first cap : Array Value) (w : World), (Instr.makeFunc fn first cap).run Tryz.prog w = .ok (.func fn first cap) w := fun _ _ _ _ => rfl
  go_enter Tryz.func45, Tryz.ntmps45
  go_wp2_with fail
  have hX : Ext w ((((w.alloc (.cells #[.slice a n cap] 23)).alloc (.cells #[.slice aw nw cw] 40)).alloc (.cells #[.slice none 0 0] 40)).alloc (.cells #[.int .i64 0] 32)) := (by repeat (first | exact Ext.refl _ | refine Ext.drew ?_ | refine Ext.drewN ?_ _ | refine Ext.alloc ?_ _))
  have y2 : Boxed ((((w.alloc (.cells #[.slice a n cap] 23)).alloc (.cells #[.slice aw nw cw] 40)).alloc (.cells #[.slice none 0 0] 40)).alloc (.cells #[.int .i64 0] 32)) w.heap.size 23 (.slice a n cap) := (Below.block ((((Ext.refl (w.alloc (.cells #[.slice a n cap] 23))).alloc (.cells #[.slice aw nw cw] 40)).alloc (.cells #[.slice none 0 0] 40)).alloc (.cells #[.int .i64 0] 32)).bel _ (by simp)).trans (World.alloc_heap_new _ _)
  have y3 : Boxed ((((w.alloc (.cells #[.slice a n cap] 23)).alloc (.cells #[.slice aw nw cw] 40)).alloc (.cells #[.slice none 0 0] 40)).alloc (.cells #[.int .i64 0] 32)) (w.heap.size + 1) 40 (.slice aw nw cw) := (Below.block (((Ext.refl ((w.alloc (.cells #[.slice a n cap] 23)).alloc (.cells #[.slice aw nw cw] 40))).alloc (.cells #[.slice none 0 0] 40)).alloc (.cells #[.int .i64 0] 32)).bel _ (by simp)).trans (by
    have := World.alloc_heap_new (w.alloc (.cells #[.slice a n cap] 23)) (.cells #[.slice aw nw cw] 40); rwa [World.size_alloc] at this)
  have y4 : Boxed ((((w.alloc (.cells #[.slice a n cap] 23)).alloc (.cells #[.slice aw nw cw] 40)).alloc (.cells #[.slice none 0 0] 40)).alloc (.cells #[.int .i64 0] 32)) (w.heap.size + 1 + 1) 40 (.slice none 0 0) := (Below.block ((Ext.refl (((w.alloc (.cells #[.slice a n cap] 23)).alloc (.cells #[.slice aw nw cw] 40)).alloc (.cells #[.slice none 0 0] 40))).alloc (.cells #[.int .i64 0] 32)).bel _ (by simp)).trans (by
    have := World.alloc_heap_new ((w.alloc (.cells #[.slice a n cap] 23)).alloc (.cells #[.slice aw nw cw] 40)) (.cells #[.slice none 0 0] 40); rwa [World.size_alloc, World.size_alloc] at this)
  have y6 : Boxed ((((w.alloc (.cells #[.slice a n cap] 23)).alloc (.cells #[.slice aw nw cw] 40)).alloc (.cells #[.slice none 0 0] 40)).alloc (.cells #[.int .i64 0] 32)) (w.heap.size + 1 + 1 + 1) 32 (.int .i64 0) := by
    have := World.alloc_heap_new (((w.alloc (.cells #[.slice a n cap] 23)).alloc (.cells #[.slice aw nw cw] 40)).alloc (.cells #[.slice none 0 0] 40)) (.cells #[.int .i64 0] 32); rwa [World.size_alloc, World.size_alloc, World.size_alloc] at this
  generalize ((((w.alloc (.cells #[.slice a n cap] 23)).alloc (.cells #[.slice aw nw cw] 40)).alloc (.cells #[.slice none 0 0] 40)).alloc (.cells #[.int .i64 0] 32)) = w4 at *
  refine (attempt1_any Ls a n cap aw nw cw ws w w4 hX (hLs.ext hX) (hws.ext hX) (hT.ext hX) hn _ _ _ _ y6 y2 y3 y4 ⟨by omega, by omega, by omega⟩).mono ?_
  rintro e w5 ⟨rfl, hx5, a3, n3, c3, err, he, ho, herr, hres⟩
  have hbe : Hid (w.heap.size + 1 + 1 + 1 ≠ w.heap.size + 1 + 1) := Lib.hid (by omega)
  generalize w.heap.size + 1 + 1 + 1 = be at *
  have hbo : Hid (w.heap.size ≤ w.heap.size + 1 + 1) := Lib.hid (by omega)
  generalize hbo2 : w.heap.size + 1 + 1 = bo at *
  go_wp2_with fail
  have hmx : Tryz.prog.follows .mixedOrders = true := by kernel_rfl
  have xo : Boxed w5.drew bo 40 (.slice a3 n3 c3) := ho
  have xe : Boxed w5.drew be 32 (.int .i64 err) := he
  have hxd : Ext w w5.drew := hx5.drew
  have hre : Hid (∀ x, derM Ls ws = some x → OwnS w.heap.size 52 w5.drew (.slice a3 n3 c3) x) := Lib.hid fun x h => (hres.out x h).kept (Ext.refl w5).drew
  refine wp_region_H (fun W' : World => W'.cell? ⟨bo, 0, none⟩ = some (.slice a3 n3 c3) ∧ W'.cell? ⟨be, 0, none⟩ = some (.int .i64 err)) [0, 1, 2] hmx ?_
  show wpH _ _ _ _ _ _ 5 _ _ _
  clear hres ho he hx5
  generalize w5.drew = wd at *
  have hS0 : (fun W' : World => W'.cell? ⟨bo, 0, none⟩ = some (.slice a3 n3 c3) ∧ W'.cell? ⟨be, 0, none⟩ = some (.int .i64 err)) wd := ⟨xo.cell, xe.cell⟩
  refine wpH_take (i := 0) (v := (.slice a3 n3 c3)) rfl (by kernel_rfl) (by kernel_rfl) (by kernel_rfl) (by kernel_rfl) (by kernel_rfl) (fun _ _ _ h => h) (.inl ⟨rfl, fun W' hW' => ?_⟩) hS0 ?_
  · obtain ⟨u1, u2⟩ := hW'
    go_simp
  refine wpH_take (i := 1) (v := (.int .i64 err)) rfl (by kernel_rfl) (by kernel_rfl) (by kernel_rfl) (by kernel_rfl) (by kernel_rfl) (fun _ _ _ h => h) (.inl ⟨rfl, fun W' hW' => ?_⟩) hS0 ?_
  · obtain ⟨u1, u2⟩ := hW'
    go_simp
  refine wpH_take (i := 2) (v := (.bool (err == 0))) rfl (by kernel_rfl) (by kernel_rfl) (by kernel_rfl) (by kernel_rfl) (by kernel_rfl) (fun _ _ _ h => h) (.inl ⟨rfl, fun W' hW' => ?_⟩) hS0 ?_
  · skip
    go_simp
  have co := xo.cell
  have fo := xo.frozen
  have hne : be ≠ bo := hbe.out
  refine wpH_step (k := 3) rfl (by kernel_rfl) rfl fun K hK => ?_
  go_simp
  refine hK _ _ (fun _ => ⟨(xo.set _).cell, (xe.other hne _).cell⟩) ?_
  clear hK K
  refine wpH_step (k := 4) rfl (by kernel_rfl) rfl fun K hK => ?_
  go_simp
  refine hK _ _ (needA_no (by kernel_rfl)) ?_
  clear hK K
  refine wpH_last (by kernel_rfl) ?_
  have hxs := hxd.setCell (p := ⟨bo, 0, none⟩) hbo.out (.slice a3 n3 c3)
  have xs := xo.set (.slice a3 n3 c3)
  have hr9 : Hid (∀ x, derM Ls ws = some x → OwnS w.heap.size 52 (wd.setCell ⟨bo, 0, none⟩ (.slice a3 n3 c3)) (.slice a3 n3 c3) x) := Lib.hid fun x h => own_setOff (hre.out x h) fun e => by
    obtain ⟨cur, hc⟩ := own_type (hre.out x h) e
    rw [show wd.heap[bo]? = _ from xo] at hc; cases hc
  have hb9 : Hid ((err == 0) = (derM Ls ws).isSome) := Lib.hid (by
    have h := herr.out
    by_cases h0 : err = 0
    · rw [h.1 h0]; simp [h0]
    · cases hd : (derM Ls ws).isSome
      · simp [h0]
      · exact absurd (h.2 hd) h0)
  generalize (wd.setCell ⟨bo, 0, none⟩ (.slice a3 n3 c3)) = we at *
  go_wp2_with fail
  refine bodyPost_ret (results_word_t rfl _ _ bo _ rfl xs.cell) rfl ?_
  exact ⟨_, _, _, by rw [← hb9.out]; rfl, hxs, hr9⟩
/-- Derive: none if laws or word are not in order, or if a law fails. -/
def deriveM (Ls : List HL) (ws : List Snd) : Option (List Snd) := if lawsOkB Ls = true ∧ wordOk ws = true then derM Ls ws else none
set_option maxHeartbeats 1000000 in
set_option maxRecDepth 20000 in
theorem derive_any (Ls : List HL) (a : Option Addr) (n cap : Nat) (aw : Option Addr) (nw cw : Nat) (ws : List Snd) (w : World) (hLs : RdLws w a n cap Ls) (hws : RdS w aw nw cw ws) (hT : Tab64 w) :
    Calls Tryz.prog 27 #[.slice a n cap, .slice aw nw cw] w (RetAp (deriveM Ls ws) w) := by
  have hx0 := Ext.alloc1 w (.cells #[.slice aw nw cw] 40)
  have hck := dchk_any a n cap Ls (some ⟨w.heap.size, 0, none⟩) 1 ws (w.alloc (.cells #[.slice aw nw cw] 40)) (hLs.ext hx0) (RdWs.made (vs := [.slice aw nw cw]) rfl (by unfold maxLen; simp) (fun i v x hv hx => by
    cases i with
    | zero => simp at hv hx; subst hv; subst hx; exact ⟨_, _, _, rfl, hws⟩
    | succ i => simp at hv) rfl)
  by_cases h0 : dchkE Ls ws = 0
  · have hok := dchkE_zero.1 h0
    have hd : deriveM Ls ws = derM Ls ws := by unfold deriveM; rw [if_pos hok]
    rw [hd]
    rw [h0] at hck
    have hn : nw ≤ 60000 := by
      have h1 := hok.2
      unfold wordOk at h1
      rw [Bool.and_eq_true, decide_eq_true_eq] at h1
      have := hws.len; omega
    replace h0 := Lib.hid h0
    replace hd := Lib.hid hd
    go_enter Tryz.func27, Tryz.ntmps27
    go_wp2_with fail
    refine hck.mono ?_
    rintro e w2 ⟨rfl, hx2⟩
    have hX2 := hx0.trans hx2
    clear hck
    go_wp2_with fail
    cases hr : derM Ls ws with
    | none =>
      have hat := attempt_any Ls a n cap aw nw cw ws w2 (hLs.ext hX2) (hws.ext hX2) (hT.ext hX2) hn
      rw [hr] at hat
      replace hr := Lib.hid hr
      refine hat.mono ?_
      rintro e w3 ⟨a3, n3, c3, rfl, hx3, hres⟩
      clear hat
      simp only [Option.isSome_none]
      go_wp2_with fail
      go_ret2
      exact ⟨_, _, _, _, rfl, hX2.trans hx3, Lib.hid ⟨fun h => (by cases h), fun h => (by rw [hr.out] at h; cases h)⟩, Lib.hid fun x h => (by rw [hr.out] at h; cases h)⟩
    | some x =>
      have hat := attempt_any Ls a n cap aw nw cw ws w2 (hLs.ext hX2) (hws.ext hX2) (hT.ext hX2) hn
      rw [hr] at hat
      replace hr := Lib.hid hr
      refine hat.mono ?_
      rintro e w3 ⟨a3, n3, c3, rfl, hx3, hres⟩
      clear hat
      simp only [Option.isSome_some]
      go_wp2_with fail
      go_ret2
      exact ⟨_, _, _, _, rfl, hX2.trans hx3, Lib.hid ⟨fun _ => by rw [hr.out]; rfl, fun _ => rfl⟩, Lib.hid fun y h => (hres.out y (by rw [← hr.out]; exact h)).base hX2.le⟩
  · have hok : ¬ (lawsOkB Ls = true ∧ wordOk ws = true) := fun h => h0 (dchkE_zero.2 h)
    have hd : deriveM Ls ws = none := by unfold deriveM; rw [if_neg hok]
    rw [hd]
    have hne := Lib.hid h0
    replace hok := Lib.hid hok
    replace hd := Lib.hid hd
    go_enter Tryz.func27, Tryz.ntmps27
    go_wp2_with fail
    refine hck.mono ?_
    rintro e w2 ⟨rfl, hx2⟩
    have hX2 := hx0.trans hx2
    clear hck
    go_wp2_with fail
    go_ret2
    exact ⟨_, _, _, _, rfl, hX2, Lib.hid ⟨fun h => absurd h hne.out, fun h => (by cases h)⟩, Lib.hid fun x h => (by cases h)⟩
end Go.Proofs.YtadncjpknckaaaaGreatDoor
namespace Go.Proofs.YtadncjpknckaaaaGreatDoor
open Go.RowKit Go.Shelf
set_option maxHeartbeats 1000000 in
set_option maxRecDepth 20000 in
theorem count_any : ∀ (m : Nat) (h : HP) (before : Nat) (w : World), HP.sz h ≤ m → RdPt w h → before ≤ 40 → Calls Tryz.prog 37 #[patV h, .int .i64 (before : Int)] w fun e w' => ∃ r : Nat, e = .returned (.int .i64 (r : Int)) ∧ r ≤ 41 ∧ Ext w w' := by
  intro m
  induction m with
  | zero => intro h before w hm; cases h; simp only [HP.sz] at hm; omega
  | succ m ih =>
    intro h before w hm hr hb
    have hsz : ∀ x ∈ h.l, HP.sz x ≤ m := fun x hx => by have := HP.sz_mem hx; omega
    have hle := hr.rd.le
    have hmost := hr.rd.most
    unfold maxLen at hmost
    have hat := fun W (hx : Ext w W) (i : Nat) (hi : i < h.n) => (hr.ext hx).at hi
    obtain ⟨kd, is, neg, mn, mx, a, n, cap, l⟩ := h
    change n ≤ cap at hle
    change cap ≤ _ at hmost
    change ∀ x ∈ l, _ at hsz
    have hmax : n ≤ 9223372036854775807 := by omega
    have hxB : Ext w (w.alloc (.cells #[.int .i64 kd, .int .u32 is.p.toNat, .int .u32 is.m.toNat, .bool neg, .int .i64 mn, .int .i64 mx, .slice a n cap] 55)) := (by repeat (first | exact Ext.refl _ | refine Ext.drew ?_ | refine Ext.drewN ?_ _ | refine Ext.alloc ?_ _))
    have q6 : (w.alloc (.cells #[.int .i64 kd, .int .u32 is.p.toNat, .int .u32 is.m.toNat, .bool neg, .int .i64 mn, .int .i64 mx, .slice a n cap] 55)).cell? ⟨w.heap.size, 6, none⟩ = some (.slice a n cap) := by go_simp
    show Calls Tryz.prog 37 #[.agg #[.int .i64 kd, .int .u32 is.p.toNat, .int .u32 is.m.toNat, .bool neg, .int .i64 mn, .int .i64 mx, .slice a n cap], .int .i64 (before : Int)] w _
    obtain ⟨b1, hb1⟩ : ∃ b1, b1 = before + 1 := ⟨_, rfl⟩
    have hb2 : (before : Int) + 1 = (b1 : Int) := by omega
    have hb3 : b1 ≤ 41 := by omega
    replace hb1 := Lib.hid hb1
    replace hsz := Lib.hid hsz
    go_enter Tryz.func37, Tryz.ntmps37
    go_wp2_with fail
    generalize (w.alloc (.cells #[.int .i64 kd, .int .u32 is.p.toNat, .int .u32 is.m.toNat, .bool neg, .int .i64 mn, .int .i64 mx, .slice a n cap] 55)) = w1 at *
    generalize w.heap.size = B at *
    go_loopw [5, 6] (fun nv iv wr => ∃ (c i : Nat), nv = .int .i64 (c : Int) ∧ iv = .int .i64 (i : Int) ∧ c ≤ 41 ∧ i ≤ n ∧ Ext w1 wr) (fun _ iv _ => n - (intOf iv).toNat)
    case atStart => exact ⟨b1, 0, rfl, rfl, hb3, Nat.zero_le _, Ext.refl _⟩
    case round =>
      obtain ⟨c, i, rfl, rfl, hc, hi, hx⟩ := hrel
      have e6 := hx.cellv q6
      by_cases hlt : i < n
      · have hki : (i : Int) < (n : Int) := by omega
        by_cases hc40 : c ≤ 40
        · have hck : (c : Int) ≤ 40 := by omega
          obtain ⟨b, off, x, hb', hxi, hbl, hrx, c0, c1, c2, c3, c4, c5, c6⟩ := hat wr (hxB.trans hx) i hlt
          change a = _ at hb'
          change Hid (l[i]? = some x) at hxi
          subst hb'
          have hxm := List.mem_of_getElem? hxi.out
          clear hat
          go_wp2_with fail
          refine (ih x c _ (hsz.out x hxm) hrx hc40).mono ?_
          rintro e w2 ⟨r, rfl, hr41, hx2⟩
          clear c0 c1 c2 c3 c4 c5 c6
          have hxw := hx.trans hx2
          go_wp2_with fail
          (first | exact ⟨⟨r, i + 1, rfl, by go_num, hr41, by omega, hxw⟩, (by simp [intOf]; omega)⟩ | (go_roundw; case rel => exact ⟨r, i + 1, rfl, by go_num, hr41, by omega, hxw⟩; case measure => exact (by simp [intOf]; omega)))
        · have hck : ¬ (c : Int) ≤ 40 := by omega
          go_wp2_with fail
          go_ret
          exact ⟨c, rfl, hc, hxB.trans hx⟩
      · have hki : ¬ (i : Int) < (n : Int) := by omega
        go_wp2_with fail
        go_ret
        exact ⟨c, rfl, hc, hxB.trans hx⟩
theorem size_any (h : HP) (w : World) (hr : RdPt w h) : Calls Tryz.prog 20 #[patV h] w fun e w' => ∃ r : Nat, e = .returned (.int .i64 (r : Int)) ∧ r ≤ 41 ∧ Ext w w' := by
  have hc := fun w' (hx : Ext w w') => count_any (HP.sz h) h 0 w' (Nat.le_refl _) (hr.ext hx) (by omega)
  obtain ⟨kd, is, neg, mn, mx, a, n, cap, l⟩ := h
  have hxB : Ext w (w.alloc (.cells #[.int .i64 kd, .int .u32 is.p.toNat, .int .u32 is.m.toNat, .bool neg, .int .i64 mn, .int .i64 mx, .slice a n cap] 55)) := (by repeat (first | exact Ext.refl _ | refine Ext.drew ?_ | refine Ext.drewN ?_ _ | refine Ext.alloc ?_ _))
  have hc1 := hc _ hxB
  show Calls Tryz.prog 20 #[.agg #[.int .i64 kd, .int .u32 is.p.toNat, .int .u32 is.m.toNat, .bool neg, .int .i64 mn, .int .i64 mx, .slice a n cap]] w _
  go_enter Tryz.func20, Tryz.ntmps20
  go_wp2_with fail
  refine hc1.mono ?_
  rintro e w2 ⟨r, rfl, hr41, hx2⟩
  go_wp2_with fail
  go_ret
  exact ⟨r, rfl, hr41, hxB.trans hx2⟩
end Go.Proofs.YtadncjpknckaaaaGreatDoor
