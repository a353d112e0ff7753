/-
  multi.Progressive.
-/
import Derived.Test.YtjfhfbobnncpkaaDoorT5
namespace Go.Proofs.YtjfhfbobnncpkaaDoor
open Go.RowKit
theorem subA0 {k : Nat} (a : Option Addr) (cap : Nat) : subA k a cap 0 = a := by
  unfold subA
  split
  · rfl
  · cases a with
    | none => rfl
    | some a => simp [Addr.add]
theorem RdW.toP {w : World} {a : Option Addr} {n cap : Nat} {l : List HS} (h : RdW w a n cap l) {k : Nat} (hk : k ≤ n) : RdW w a k cap (l.take k) := by
  have h1 := h.rd.sub (l := 0) (m := k) (Nat.zero_le _) hk
  rw [subA0] at h1
  exact ⟨by simpa using h1, fun y hy => h.ok y (List.mem_of_mem_take hy)⟩
theorem run_toP {P : Program} {t : TypeId} (ht : P.underlying t = some (.slice (P.elem t))) {k : Nat} (hs : ∀ w, (sizeOf (P.elem t)).run P w = .ok k w) (a : Option Addr) (len cap h : Nat) (h2 : h ≤ cap) (w : World) :
    (Instr.slice t (.slice a len cap) none (some (.int .i64 h)) none).run P w = .ok (.slice a h cap) w := by
  have := run_sub_h ht hs a len cap h h2 w
  rwa [subA0] at this
/-- The boxes of a call of Progressive. -/
structure ProB (w : World) (Bc Bl : Nat) (ac : Option Addr) (nc cc : Nat) (ws : List Int) (g : Int) (aW : Option Addr) (nW cW : Nat) (l : List HS) : Prop where
  p : PriceB w Bc Bl ac nc cc ws g aW nW cW l
  hws : costsB ws g = true
  hwd : wordsE l = 0
theorem ProB.ext {w w' : World} {Bc Bl : Nat} {ac : Option Addr} {nc cc : Nat} {ws : List Int} {g : Int} {aW : Option Addr} {nW cW : Nat} {l : List HS} (h : ProB w Bc Bl ac nc cc ws g aW nW cW l) (hx : Ext w w') : ProB w' Bc Bl ac nc cc ws g aW nW cW l := ⟨h.p.ext hx, h.hws, h.hwd⟩
theorem pro1_any {Bc Bl : Nat} {ac : Option Addr} {nc cc : Nat} {ws : List Int} {g : Int} {aW : Option Addr} {nW cW : Nat} {l : List HS} (w : World) (h : ProB w Bc Bl ac nc cc ws g aW nW cW l) :
    Calls Tryd.prog 17 #[.pointer (some ⟨Bc, 0, none⟩)] w fun e w' => e = .returned (.int .i64 0) ∧ Ext w w' := by
  have hc := costs_any ac nc cc ws g w h.p.rc
  have h0 : costsE ws g = 0 := by unfold costsE; rw [if_pos h.hws]
  rw [h0] at hc
  have c0 := h.p.c0
  have c1 := h.p.c1
  go_enter Tryd.func17, Tryd.ntmps17
  go_wp2_with fail
  refine hc.mono ?_
  rintro e w1 ⟨rfl, hx1⟩
  go_wp2_with fail
  go_ret
  exact ⟨rfl, hx1⟩
theorem pro2_any {Bc Bl : Nat} {ac : Option Addr} {nc cc : Nat} {ws : List Int} {g : Int} {aW : Option Addr} {nW cW : Nat} {l : List HS} (w : World) (h : ProB w Bc Bl ac nc cc ws g aW nW cW l) :
    Calls Tryd.prog 18 #[.pointer (some ⟨Bl, 0, none⟩)] w fun e w' => e = .returned (.int .i64 0) ∧ Ext w w' := by
  have hc := words_any aW nW cW l w h.p.rl
  rw [h.hwd] at hc
  have c0 := h.p.l0
  go_enter Tryd.func18, Tryd.ntmps18
  go_wp2_with fail
  refine hc.mono ?_
  rintro e w1 ⟨rfl, hx1⟩
  go_wp2_with fail
  go_ret
  exact ⟨rfl, hx1⟩
theorem first_any {Bc Bl : Nat} {ac : Option Addr} {nc cc : Nat} {ws : List Int} {g : Int} {aW : Option Addr} {nW cW : Nat} {l : List HS} (w : World) (h : ProB w Bc Bl ac nc cc ws g aW nW cW l) (G : Nat)
    (h0 : w.cell? ⟨G, 0, none⟩ = some (.func (.func 17) #[] #[.pointer (some ⟨Bc, 0, none⟩)])) (h1 : w.cell? ⟨G, 1, none⟩ = some (.func (.func 18) #[] #[.pointer (some ⟨Bl, 0, none⟩)])) :
    Calls Tryd.prog 16 #[.slice (some ⟨G, 0, none⟩) 2 2] w fun e w' => e = .returned (.int .i64 0) ∧ Ext w w' := by
  go_enter Tryd.func16, Tryd.ntmps16
  go_wp2_with fail
  go_loopw [8] (fun iv wr => ∃ k : Nat, k ≤ 2 ∧ iv = .int .i64 k ∧ Ext w wr) (fun iv _ => 2 - (intOf iv).toNat)
  case atStart => exact ⟨0, Nat.zero_le _, rfl, Ext.refl _⟩
  case round =>
    obtain ⟨k, hk, rfl, hx⟩ := hrel
    have c0 := hx.cellv h0
    have c1 := hx.cellv h1
    obtain rfl | rfl | rfl : k = 0 ∨ k = 1 ∨ k = 2 := by omega
    · go_wp2_with fail
      refine (pro1_any _ (h.ext hx)).mono ?_
      rintro e w1 ⟨rfl, hx1⟩
      go_wp2_with fail
      go_roundw
      case rel => exact ⟨1, by omega, rfl, hx.trans hx1⟩
      case measure => simp [intOf]
    · go_wp2_with fail
      refine (pro2_any _ (h.ext hx)).mono ?_
      rintro e w1 ⟨rfl, hx1⟩
      go_wp2_with fail
      go_roundw
      case rel => exact ⟨2, by omega, rfl, hx.trans hx1⟩
      case measure => simp [intOf]
    · go_wp2_with fail
      go_ret
      exact ⟨rfl, hx⟩
theorem wordsE_zero : ∀ {l : List HS}, (∀ y ∈ l, checkS y.x = 0) → firstE l = 0
  | [], _ => rfl
  | y :: l, h => by
    have h1 := firstE_drop (l := y :: l) (i := 0) (y := y) rfl
    simp only [List.drop_zero, List.drop_succ_cons] at h1
    rw [h1, if_neg (by rw [h y List.mem_cons_self]; simp)]
    exact wordsE_zero fun z hz => h z (List.mem_cons_of_mem _ hz)
theorem checkS_all {xs : List Snd} (h : checkS xs = 0) : ∀ s ∈ xs, s.ok = true := by
  unfold checkS at h
  split at h
  · cases h
  · split at h
    · rename_i h2; exact List.all_eq_true.1 h2
    · cases h
def ProRet (w : World) (e : Ending) (w' : World) : Prop := ∃ v hs, e = .returned (.tuple #[v, .int .i64 0]) ∧ OwnHI w.heap.size w' v hs ∧ hs.length ≤ 40 ∧ Ext w w'
theorem pricer_any (w : World) (aW : Option Addr) (nW cW : Nat) (l : List HS) (hr : RdW w aW nW cW l) (ac : Option Addr) (nc cc : Nat) (ws : List Int) (g : Int) (hc : RdI w ac nc cc ws) (hT : TabOk w) :
    Calls Tryd.prog 20 #[.slice aW nW cW, .agg #[.slice ac nc cc, .int .i64 g]] w fun e w' => e = .returned (priceV (w.heap.size + 1) w.heap.size) ∧ PriceB w' (w.heap.size + 1) w.heap.size ac nc cc ws g aW nW cW l ∧ Ext w w' := by
  have hx : Ext w ((w.alloc (.cells #[.slice aW nW cW] 53)).alloc (.cells #[.slice ac nc cc, .int .i64 g] 25)) := (by repeat (first | exact Ext.refl _ | refine Ext.drew ?_ | refine Ext.drewN ?_ _ | refine Ext.alloc ?_ _))
  have q0 : ((w.alloc (.cells #[.slice aW nW cW] 53)).alloc (.cells #[.slice ac nc cc, .int .i64 g] 25)).cell? ⟨w.heap.size, 0, none⟩ = some (.slice aW nW cW) := by go_simp
  have q1 : ((w.alloc (.cells #[.slice aW nW cW] 53)).alloc (.cells #[.slice ac nc cc, .int .i64 g] 25)).cell? ⟨w.heap.size + 1, 0, none⟩ = some (.slice ac nc cc) := by go_simp
  have q2 : ((w.alloc (.cells #[.slice aW nW cW] 53)).alloc (.cells #[.slice ac nc cc, .int .i64 g] 25)).cell? ⟨w.heap.size + 1, 1, none⟩ = some (.int .i64 g) := by go_simp
  have hP : PriceB ((w.alloc (.cells #[.slice aW nW cW] 53)).alloc (.cells #[.slice ac nc cc, .int .i64 g] 25)) (w.heap.size + 1) w.heap.size ac nc cc ws g aW nW cW l := ⟨q1, q2, q0, hc.ext hx, hr.ext hx, hT.ext hx⟩
  go_enter Tryd.func20, Tryd.ntmps20
  go_wp2_with fail
  go_ret
  exact ⟨rfl, hP, hx⟩
set_option maxHeartbeats 2000000 in
set_option maxRecDepth 20000 in
theorem progressive_any (w : World) (aW : Option Addr) (nW cW : Nat) (l : List HS) (hr : RdW w aW nW cW l) (ac : Option Addr) (nc cc : Nat) (ws : List Int) (g : Int) (hc : RdI w ac nc cc ws) (hT : TabOk w) (hS : StepsOk w)
    (hws : costsB ws g = true) (hck : ∀ y ∈ l, checkS y.x = 0) (hn : nW ≤ 5) (h8 : ∀ y ∈ l, y.n ≤ 8) :
    Calls Tryd.prog 10 #[.slice aW nW cW, .agg #[.slice ac nc cc, .int .i64 g]] w (ProRet w) := by
  have hl := hr.rd.len
  have hle := hr.rd.le
  have hx : Ext w ((w.alloc (.cells #[.slice aW nW cW] 53)).alloc (.cells #[.slice ac nc cc, .int .i64 g] 25)) := (by repeat (first | exact Ext.refl _ | refine Ext.drew ?_ | refine Ext.drewN ?_ _ | refine Ext.alloc ?_ _))
  have q0 : ((w.alloc (.cells #[.slice aW nW cW] 53)).alloc (.cells #[.slice ac nc cc, .int .i64 g] 25)).cell? ⟨w.heap.size, 0, none⟩ = some (.slice aW nW cW) := by go_simp
  have q1 : ((w.alloc (.cells #[.slice aW nW cW] 53)).alloc (.cells #[.slice ac nc cc, .int .i64 g] 25)).cell? ⟨w.heap.size + 1, 0, none⟩ = some (.slice ac nc cc) := by go_simp
  have q2 : ((w.alloc (.cells #[.slice aW nW cW] 53)).alloc (.cells #[.slice ac nc cc, .int .i64 g] 25)).cell? ⟨w.heap.size + 1, 1, none⟩ = some (.int .i64 g) := by go_simp
  have hwd : wordsE l = 0 := by unfold wordsE; rw [if_neg (by omega)]; exact wordsE_zero hck
  have hB : ProB ((w.alloc (.cells #[.slice aW nW cW] 53)).alloc (.cells #[.slice ac nc cc, .int .i64 g] 25)) (w.heap.size + 1) w.heap.size ac nc cc ws g aW nW cW l := ⟨⟨q1, q2, q0, hc.ext hx, hr.ext hx, hT.ext hx⟩, hws, hwd⟩
  have hok : ∀ y ∈ l, ∀ s ∈ y.x, s.ok = true := fun y hy => checkS_all (hck y hy)
  replace hok := Lib.hid hok
  replace hck := Lib.hid hck
  replace h8 := Lib.hid h8
  replace hl := Lib.hid hl
  replace hwd := Lib.hid hwd
  go_enter Tryd.func10, Tryd.ntmps10
  go_wp2_with fail
  refine (first_any _ (hB.ext (Ext.alloc1 _ _)) _ (by go_simp) (by go_simp)).mono ?_
  rintro e w1 ⟨rfl, hx1⟩
  have hxa : Ext ((w.alloc (.cells #[.slice aW nW cW] 53)).alloc (.cells #[.slice ac nc cc, .int .i64 g] 25)) w1 := Ext.trans (Ext.alloc1 _ _) hx1
  have hB1 := hB.ext hxa
  have hxw := hx.trans hxa
  have c0 := hB1.p.c0
  have c1 := hB1.p.c1
  have c2 := hB1.p.l0
  have hpr := pricer_any w1 aW nW cW l hB1.p.rl ac nc cc ws g hB1.p.rc hB1.p.tab
  clear q0 q1 q2 hB hx1
  go_wp2_with fail
  refine hpr.mono ?_
  rintro e w2 ⟨rfl, hP2, hx2⟩
  have c3 := hx2.cellv c2
  have hS2 := hS.ext (hxw.trans hx2)
  have hxw2 := hxw.trans hx2
  have hle2 := Ext.le hxw2
  generalize w1.heap.size = Bl at *
  clear c0 c1 c2 hpr hx2 hxw hB1 hxa hx
  go_wp2_with fail
  go_loopw [8, 22] (fun cv kv wr => ∃ (k : Nat) (hs : List HI), kv = .int .i64 k ∧ k ≤ nW ∧ OwnHI w2.heap.size wr cv hs ∧ hs.length ≤ 8 * k ∧ Hid (∀ h ∈ hs, h.x.length = k ∧ ColV (l.map HS.n) h.x) ∧ Ext w2 wr) (fun _ kv _ => nW - (intOf kv).toNat)
  case atStart => exact ⟨0, [], rfl, Nat.zero_le _, OwnHI.nil _ _, Nat.zero_le _, Lib.hid (fun h hh => by cases hh), Ext.refl _⟩
  case round =>
    obtain ⟨k, hs, rfl, hk, hO, hlen, hcols, hx⟩ := hrel
    have c4 := hx.cellv c3
    obtain ⟨b, m, cap2, hm, rfl, hC⟩ := hO.rd
    replace hm := Lib.hid hm
    by_cases hlt : k < nW
    · obtain ⟨y, hy⟩ : ∃ y, l[k]? = some y := ⟨_, List.getElem?_eq_getElem (by rw [hl.out]; exact hlt)⟩
      have hins := insert_any wr (hP2.ext hx) hws hok.out (hS2.ext hx) aW cW k ((hP2.ext hx).rl.toP hlt) (by omega) y hy (by have := h8.out y (List.mem_of_getElem? hy); omega) b m cap2 hs hC (by rw [hm.out]; omega) (fun c hc => (hcols.out c hc).1) (fun c hc => (hcols.out c hc).2)
      have hyn := h8.out y (List.mem_of_getElem? hy)
      have hsub := fun W => run_toP (P := Tryd.prog) (k := 1) (t := 53) Tryd.underlying53 (fun _ => by kernel_rfl) aW nW cW (k + 1) (by omega) W
      push_cast at hsub
      have hki : (k : Int) < (nW : Int) := by omega
      replace hy := Lib.hid hy
      go_wp2_with fail
      refine hins.mono ?_
      rintro e w3 ⟨v3, hs3, rfl, hO3, hl3, hc3, hx3⟩
      have hO4 : OwnHI w2.heap.size w3 v3 hs3 := ⟨OwnK.base hO3.own hx.le, fun h hh => OwnK.base (hO3.ok h hh) hx.le⟩
      replace hc3 := Lib.hid hc3
      clear hins
      go_wp2_with fail
      (first | exact ⟨⟨k + 1, hs3, by go_num, by omega, hO4, by rw [hm.out] at hl3; omega, hc3, hx.trans hx3⟩, (by simp [intOf]; omega)⟩ | (go_roundw; case rel => exact ⟨k + 1, hs3, by go_num, by omega, hO4, by rw [hm.out] at hl3; omega, hc3, hx.trans hx3⟩; case measure => exact (by simp [intOf]; omega)))
    · obtain rfl : k = nW := by omega
      go_wp2_with fail
      go_ret2
      exact ⟨_, hs, rfl, ⟨OwnK.base hO.own hle2, fun h hh => OwnK.base (hO.ok h hh) hle2⟩, by omega, hxw2.trans hx⟩
end Go.Proofs.YtjfhfbobnncpkaaDoor
