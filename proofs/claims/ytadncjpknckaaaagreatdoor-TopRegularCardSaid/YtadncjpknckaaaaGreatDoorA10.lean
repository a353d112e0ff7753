/-
  Parts of patterns: what they match (alt, seq, rep; the call through the interface).
  What a law does to a word, as a mirror of the code.
-/
import Derived.Test.YtadncjpknckaaaaGreatDoorA09
import Derived.Test.YtadncjpknckaaaaGreatDoorA02
namespace Go.Proofs.YtadncjpknckaaaaGreatDoor
open Go.RowKit Go.Maps
namespace CP
def fn : CP → FuncId
  | .snd _ _ => 137
  | .edge _ => 138
  | .alt _ _ _ _ => 139
  | .rep _ _ _ => 141
  | .seq _ _ _ _ => 144
def ty : CP → TypeId
  | .snd _ _ => 194
  | .edge _ => 196
  | .alt _ _ _ _ => 198
  | .rep _ _ _ => 200
  | .seq _ _ _ _ => 201
def recv : CP → Value
  | .snd is ng => .agg #[.int .u32 is.p.toNat, .int .u32 is.m.toNat, .bool ng]
  | .edge en => .agg #[.bool en]
  | .alt a n cap _ => .agg #[.slice a n cap]
  | .rep x mn mx => .agg #[x.v, .int .i64 mn, .int .i64 mx]
  | .seq a n cap _ => .agg #[.slice a n cap]
theorem meth (c : CP) (w : World) : (method 324 c.ty c.recv "ablaut/pats.in").run Tryz.prog w = .ok (c.fn, c.recv) w := by
  cases c <;> kernel_rfl
theorem ent (c : CP) (args : Array Value) (w : World) : (callFunc c.fn args).run Tryz.prog w = .ok (.enter c.fn args) w := by
  cases c
  · exact enters_of Tryz.func137 (by kernel_rfl) rfl args w
  · exact enters_of Tryz.func138 (by kernel_rfl) rfl args w
  · exact enters_of Tryz.func139 (by kernel_rfl) rfl args w
  · exact enters_of Tryz.func141 (by kernel_rfl) rfl args w
  · exact enters_of Tryz.func144 (by kernel_rfl) rfl args w
theorem v_eq (c : CP) : c.v = .iface c.ty c.recv := by cases c <;> rfl
mutual
theorem sem_ok : ∀ (c : CP) {ws : List Snd}, ws.length ≤ 32 → RelOk (c.sem ws)
  | .snd is ng, ws, hn => by simp only [CP.sem]; exact sndM_ok _ _ hn
  | .edge en, ws, hn => by simp only [CP.sem]; exact edgeM_ok (by split <;> omega)
  | .alt _ _ _ l, ws, hn => by simp only [CP.sem]; exact semAlt_ok l hn zeroM_ok
  | .rep x mn mx, ws, hn => by simp only [CP.sem]; exact repM_ok (sem_ok x hn) _ _ hn
  | .seq _ _ _ l, ws, hn => by simp only [CP.sem]; exact semSeq_ok l hn (idM_ok hn)
theorem semAlt_ok : ∀ (l : List CP) {ws : List Snd} {out : Rel}, ws.length ≤ 32 → RelOk out → RelOk (CP.semAlt l ws out)
  | [], _, _, _, h => h
  | q :: l, ws, out, hw, ho => by
    unfold CP.semAlt
    exact semAlt_ok l hw (orM_ok ho (sem_ok q hw))
theorem semSeq_ok : ∀ (l : List CP) {ws : List Snd} {out : Rel}, ws.length ≤ 32 → RelOk out → RelOk (CP.semSeq l ws out)
  | [], _, _, _, h => h
  | q :: l, ws, out, hw, ho => by
    unfold CP.semSeq
    exact semSeq_ok l hw (thenM_ok ho (sem_ok q hw))
end
theorem semAlt_app : ∀ (l m : List CP) (w : List Snd) (out : Rel), CP.semAlt (l ++ m) w out = CP.semAlt m w (CP.semAlt l w out)
  | [], _, _, _ => rfl
  | q :: l, m, w, out => by rw [List.cons_append, CP.semAlt, CP.semAlt, semAlt_app l m]
theorem semSeq_app : ∀ (l m : List CP) (w : List Snd) (out : Rel), CP.semSeq (l ++ m) w out = CP.semSeq m w (CP.semSeq l w out)
  | [], _, _, _ => rfl
  | q :: l, m, w, out => by rw [List.cons_append, CP.semSeq, CP.semSeq, semSeq_app l m]
end CP
set_option maxHeartbeats 1000000 in
set_option maxRecDepth 20000 in
theorem alt_in (ws : List Snd) (a : Option Addr) (n cap : Nat) (hn : n ≤ 32) (B : Nat) (l : List CP) (ih : ∀ c ∈ l, ∀ w : World, RdCP B w c → RdS w a n cap ws → Tab64 w → Calls Tryz.prog c.fn #[c.recv, .slice a n cap] w (RetR (c.sem ws) w))
    (al : Option Addr) (nl cl : Nat) (w : World) (hr : OwnK 1 CP.enc B 180 w (.slice al nl cl) l) (hrc : ∀ c ∈ l, RdCP B w c) (hws : RdS w a n cap ws) (hT : Tab64 w) :
    Calls Tryz.prog 139 #[.agg #[.slice al nl cl], .slice a n cap] w (RetR (CP.semAlt l ws zeroM) w) := by
  have hlw : ws.length ≤ 32 := by rw [hws.len]; exact hn
  obtain ⟨al', nl', cl', hnl, e, hrd⟩ := OwnK.rdn CP.len hr
  cases e
  go_enter Tryz.func139, Tryz.ntmps139
  have hmax : nl ≤ 9223372036854775807 := by have := hrd.le; have := hrd.most; unfold maxLen at this; omega
  refine seq_stop fun K hK => ?_
  replace hnl := Lib.hid hnl
  go_wp2_with fail
  have hb : RelB ((w.alloc (.cells #[.slice al nl cl] 198)).alloc (.cells (relA zeroM) 173)) (w.heap.size + 1) zeroM := by
    have := RelB.new (w.alloc (.cells #[.slice al nl cl] 198)) zeroM
    rwa [World.size_alloc] at this
  have he : ((w.alloc (.cells #[.slice al nl cl] 198)).alloc (.cells (relA zeroM) 173)).cell? ⟨w.heap.size, 0, none⟩ = some (.slice al nl cl) := by go_simp
  have hx : Ext w ((w.alloc (.cells #[.slice al nl cl] 198)).alloc (.cells (relA zeroM) 173)) := (Ext.alloc1 _ _).trans (Ext.alloc1 _ _)
  have hz1 : ((w.alloc (.cells #[.slice al nl cl] 198)).alloc (.cells (relA zeroM) 173)).heap.size = w.heap.size + 1 + 1 := by simp
  have hK' := hK.out { tmps := #[.agg #[.slice al nl cl], .slice a n cap, .pointer (some ⟨w.heap.size, 0, none⟩), undef, .pointer (some ⟨w.heap.size + 1, 0, none⟩), undef, undef, undef, undef, undef, undef, undef, undef, undef, undef, undef, undef, undef, undef, undef, undef], defers := [] } ((w.alloc (.cells #[.slice al nl cl] 198)).alloc (.cells (relA zeroM) 173))
  refine hK' ?_
  clear hK' hK
  generalize (w.alloc (.cells #[.slice al nl cl] 198)).alloc (.cells (relA zeroM) 173) = w1 at *
  obtain ⟨b2, hb2⟩ : ∃ b2, b2 = w.heap.size := ⟨_, rfl⟩
  obtain ⟨b4, hb4⟩ : ∃ b4, b4 = w.heap.size + 1 := ⟨_, rfl⟩
  have l4 : w.heap.size ≤ b4 := by omega
  have l41 : b4 < w1.heap.size := by omega
  rw [← hb4] at hb ⊢
  rw [← hb2] at he ⊢
  clear hb2 hb4 hz1
  go_wp2_with fail
  go_loopw [11] (fun iv wr => ∃ i : Nat, i ≤ nl ∧ iv = .int .i64 i ∧ RelB wr b4 (CP.semAlt (l.take i) ws zeroM) ∧ Ext w wr) (fun iv _ => nl - (intOf iv).toNat)
  case atStart => exact ⟨0, Nat.zero_le _, rfl, hb, hx⟩
  case round =>
    obtain ⟨i, hi, rfl, hbi, hxr⟩ := hrel
    by_cases hlt : i < nl
    · have hki : (i : Int) < (nl : Int) := by omega
      obtain ⟨bo, off, c, rfl, hci, hbl, hcell⟩ := (hrd.ext hxr).get hlt
      have c0 := hcell 0 c.v rfl
      rw [Nat.mul_one, Nat.add_zero, CP.v_eq] at c0
      have hme := c.meth
      have hen := c.ent
      have hcm := List.mem_of_getElem? hci.out
      go_wp2_with fail
      have hsok : RelOk (c.sem ws) := CP.sem_ok c hlw
      refine (ih c hcm wr (RdCP.ext (hrc c hcm) hxr) (hws.ext hxr) (hT.ext hxr)).mono ?_
      rintro e w2 ⟨rfl, hx2⟩
      replace hbi := hbi.ext hx2
      replace hxr := hxr.trans hx2
      clear c0 hcell hme hen hx2
      go_wp2_with (refine wpList_store_row rfl 173 _ _ rfl w2.heap.size (relA (c.sem ws)) rfl rfl 173 (relA zeroM) (RelB.new w2 zeroM) (size_of (hsok).1) (by rw [relA_len (zeroM_ok).1, relA_len (hsok).1]) (relA_one _) ?_)
      rw [World.setRow_alloc_new]
      have hA := Ext.alloc1 w2 (.cells (relA (c.sem ws)) 173)
      have hbA := hbi.ext hA
      have hxA := hxr.trans hA
      have hne : b4 ≠ w2.heap.size := Nat.ne_of_lt hbi.lt
      have hok1 : RelOk (CP.semAlt (l.take i) ws zeroM) := CP.semAlt_ok _ hlw zeroM_ok
      have htk : CP.semAlt (l.take (i + 1)) ws zeroM = orM (CP.semAlt (l.take i) ws zeroM) (c.sem ws) := by
        rw [List.take_add_one, hci.out, Option.toList_some, CP.semAlt_app]; rfl
      replace htk := Lib.hid htk
      refine (or_any _ _ hok1 hsok b4 w2.heap.size _ hbA (RelB.new w2 (c.sem ws)) hne).mono ?_
      rintro e w3 ⟨⟨v3, rfl⟩, hb3, hg3⟩
      have hx3 : Ext w w3 := hxA.grown hg3 fun g e => by cases e; exact l4
      rw [← htk.out] at hb3
      clear hbi hA hbA hxA
      go_wp2_with fail
      (first | exact ⟨⟨i + 1, hlt, by go_num, hb3, hx3⟩, (by simp [intOf]; omega)⟩ | (go_roundw; case rel => exact ⟨i + 1, hlt, by go_num, hb3, hx3⟩; case measure => exact (by simp [intOf]; omega)))
    · obtain rfl : i = nl := by omega
      rw [List.take_of_length_le (by rw [hnl.out]; exact Nat.le_refl _)] at hbi
      have hok1 : RelOk (CP.semAlt l ws zeroM) := CP.semAlt_ok _ hlw zeroM_ok
      have hxf := ext_setRow hxr l4 (relA (CP.semAlt l ws zeroM))
      have hrf := hbi.put (CP.semAlt l ws zeroM)
      go_wp2_with (first | (refine wpList_load_row rfl 173 _ rfl b4 rfl 173 _ (0, 0) _ hbi Tryz.underlying173 rfl (size_of hok1.1) ?_) | (refine wpList_store_row rfl 173 _ _ rfl b4 (relA (CP.semAlt l ws zeroM)) rfl rfl 173 (relA (CP.semAlt l ws zeroM)) hbi (size_of (hok1).1) rfl (relA_one _) ?_))
      refine bodyPost_ret (results_cell_row rfl _ _ b4 173 (relA (CP.semAlt l ws zeroM)) (0, 0) _ rfl hrf Tryz.underlying173 rfl (size_of hok1.1)) rfl ?_
      exact ⟨rfl, hxf⟩
set_option maxHeartbeats 1000000 in
set_option maxRecDepth 20000 in
theorem seq_in (ws : List Snd) (a : Option Addr) (n cap : Nat) (hn : n ≤ 32) (B : Nat) (l : List CP) (ih : ∀ c ∈ l, ∀ w : World, RdCP B w c → RdS w a n cap ws → Tab64 w → Calls Tryz.prog c.fn #[c.recv, .slice a n cap] w (RetR (c.sem ws) w))
    (al : Option Addr) (nl cl : Nat) (w : World) (hr : OwnK 1 CP.enc B 180 w (.slice al nl cl) l) (hrc : ∀ c ∈ l, RdCP B w c) (hws : RdS w a n cap ws) (hT : Tab64 w) :
    Calls Tryz.prog 144 #[.agg #[.slice al nl cl], .slice a n cap] w (RetR (CP.semSeq l ws (idM n)) w) := by
  have hlw : ws.length ≤ 32 := by rw [hws.len]; exact hn
  obtain ⟨al', nl', cl', hnl, e, hrd⟩ := OwnK.rdn CP.len hr
  cases e
  have hmax : nl ≤ 9223372036854775807 := by have := hrd.le; have := hrd.most; unfold maxLen at this; omega
  go_enter Tryz.func144, Tryz.ntmps144
  refine seq_stop fun K hK => ?_
  replace hnl := Lib.hid hnl
  go_wp2_with fail
  have hb : RelB ((w.alloc (.cells #[.slice al nl cl] 201)).alloc (.cells (relA zeroM) 173)) (w.heap.size + 1) zeroM := by
    have := RelB.new (w.alloc (.cells #[.slice al nl cl] 201)) zeroM
    rwa [World.size_alloc] at this
  have he : ((w.alloc (.cells #[.slice al nl cl] 201)).alloc (.cells (relA zeroM) 173)).cell? ⟨w.heap.size, 0, none⟩ = some (.slice al nl cl) := by go_simp
  have hx : Ext w ((w.alloc (.cells #[.slice al nl cl] 201)).alloc (.cells (relA zeroM) 173)) := (Ext.alloc1 _ _).trans (Ext.alloc1 _ _)
  have hz1 : ((w.alloc (.cells #[.slice al nl cl] 201)).alloc (.cells (relA zeroM) 173)).heap.size = w.heap.size + 1 + 1 := by simp
  have hK' := hK.out { tmps := #[.agg #[.slice al nl cl], .slice a n cap, .pointer (some ⟨w.heap.size, 0, none⟩), undef, .pointer (some ⟨w.heap.size + 1, 0, none⟩), undef, undef, undef, undef, undef, undef, undef, undef, undef, undef, undef, undef, undef, undef, undef, undef, undef, undef, undef, undef], defers := [] } ((w.alloc (.cells #[.slice al nl cl] 201)).alloc (.cells (relA zeroM) 173))
  refine hK' ?_
  clear hK' hK
  generalize (w.alloc (.cells #[.slice al nl cl] 201)).alloc (.cells (relA zeroM) 173) = w1 at *
  obtain ⟨b2, hb2⟩ : ∃ b2, b2 = w.heap.size := ⟨_, rfl⟩
  obtain ⟨b4, hb4⟩ : ∃ b4, b4 = w.heap.size + 1 := ⟨_, rfl⟩
  have l4 : w.heap.size ≤ b4 := by omega
  have l41 : b4 < w1.heap.size := by omega
  rw [← hb4] at hb ⊢
  rw [← hb2] at he ⊢
  clear hb2 hb4 hz1
  go_wp2_with fail
  refine (identity_any n hn w1).mono ?_
  rintro e w2 ⟨rfl, hx2⟩
  have hid := idM_ok hn
  have hA := Ext.alloc1 w2 (.cells (relA (idM n)) 173)
  have hb5 := RelB.new w2 (idM n)
  have he3 := hA.cellv (hx2.cellv he)
  have hx3 := hx.trans (hx2.trans hA)
  have hb3 := (hb.ext hx2).ext hA
  have l5 : w.heap.size ≤ w2.heap.size := (hx.trans hx2).le
  have n45 : b4 ≠ w2.heap.size := Nat.ne_of_lt (Nat.lt_of_lt_of_le l41 hx2.le)
  replace hx3 := Lib.hid hx3
  clear hb he hx hx2 hA l41
  go_wp2_with (first | (refine wpList_store_row rfl 173 _ _ rfl w2.heap.size (relA (idM n)) rfl rfl 173 (relA zeroM) (RelB.new w2 zeroM) (size_of hid.1) (by rw [relA_len zeroM_ok.1, relA_len hid.1]) (relA_one _) ?_; rw [World.setRow_alloc_new]; generalize w2.alloc (.cells (relA (idM n)) 173) = w3 at *))
  obtain ⟨b5, hbb⟩ : ∃ b, b = w2.heap.size := ⟨_, rfl⟩
  rw [← hbb] at hb5 l5 n45 ⊢
  clear hbb
  go_loopw [15] (fun iv wr => ∃ i : Nat, i ≤ nl ∧ iv = .int .i64 i ∧ RelB wr b5 (CP.semSeq (l.take i) ws (idM n)) ∧ Ext w wr ∧ RelB wr b4 zeroM) (fun iv _ => nl - (intOf iv).toNat)
  case atStart => exact ⟨0, Nat.zero_le _, rfl, hb5, hx3.out, hb3⟩
  case round =>
    obtain ⟨i, hi, rfl, hbi, hxr, hb4⟩ := hrel
    have hok1 : RelOk (CP.semSeq (l.take i) ws (idM n)) := CP.semSeq_ok _ hlw hid
    by_cases hlt : i < nl
    · have hki : (i : Int) < (nl : Int) := by omega
      obtain ⟨bo, off, c, rfl, hci, hbl, hcell⟩ := (hrd.ext hxr).get hlt
      have c0 := hcell 0 c.v rfl
      rw [Nat.mul_one, Nat.add_zero, CP.v_eq] at c0
      have hme := c.meth
      have hen := c.ent
      have hcm := List.mem_of_getElem? hci.out
      go_wp2_with fail
      have hsok : RelOk (c.sem ws) := CP.sem_ok c hlw
      refine (ih c hcm wr (RdCP.ext (hrc c hcm) hxr) (hws.ext hxr) (hT.ext hxr)).mono ?_
      rintro e w4 ⟨rfl, hx2⟩
      replace hbi := hbi.ext hx2
      replace hxr := hxr.trans hx2
      replace hb4 := hb4.ext hx2
      clear c0 hcell hme hen hx2
      go_wp2_with (refine wpList_store_row rfl 173 _ _ rfl w4.heap.size (relA (c.sem ws)) rfl rfl 173 (relA zeroM) (RelB.new w4 zeroM) (size_of (hsok).1) (by rw [relA_len (zeroM_ok).1, relA_len (hsok).1]) (relA_one _) ?_)
      rw [World.setRow_alloc_new]
      have hA := Ext.alloc1 w4 (.cells (relA (c.sem ws)) 173)
      have hbA := hbi.ext hA
      have hxA := hxr.trans hA
      have hb4A := hb4.ext hA
      have htk : CP.semSeq (l.take (i + 1)) ws (idM n) = thenM (CP.semSeq (l.take i) ws (idM n)) (c.sem ws) := by
        rw [List.take_add_one, hci.out, Option.toList_some, CP.semSeq_app]; rfl
      have hok2 := thenM_ok hok1 hsok
      rw [← htk] at hok2
      replace htk := Lib.hid htk
      refine (then_any _ _ hok1 hsok b5 w4.heap.size _ hbA (RelB.new w4 (c.sem ws)) (hT.ext hxA)).mono ?_
      rintro e w5 ⟨rfl, hx5⟩
      rw [← htk.out]
      have hb5n := (hbA.ext hx5).put (CP.semSeq (l.take (i + 1)) ws (idM n))
      have hb4n := (hb4A.ext hx5).off (Ne.symm n45) (relA (CP.semSeq (l.take (i + 1)) ws (idM n)))
      have hx5n := ext_setRow (hxA.trans hx5) l5 (relA (CP.semSeq (l.take (i + 1)) ws (idM n)))
      have hb5o := hbA.ext hx5
      clear hbi hA hbA hxA hb4 hb4A hx5 hxr
      go_wp2_with (refine wpList_store_row rfl 173 _ _ rfl b5 (relA (CP.semSeq (l.take (i + 1)) ws (idM n))) rfl rfl 173 (relA (CP.semSeq (l.take i) ws (idM n))) hb5o (size_of (hok2).1) (by rw [relA_len (hok1).1, relA_len (hok2).1]) (relA_one _) ?_)
      (first | exact ⟨⟨i + 1, hlt, by go_num, hb5n, hx5n, hb4n⟩, (by simp [intOf]; omega)⟩ | (go_roundw; case rel => exact ⟨i + 1, hlt, by go_num, hb5n, hx5n, hb4n⟩; case measure => exact (by simp [intOf]; omega)))
    · obtain rfl : i = nl := by omega
      rw [List.take_of_length_le (by rw [hnl.out]; exact Nat.le_refl _)] at hbi hok1
      have hxf := ext_setRow hxr l4 (relA (CP.semSeq l ws (idM n)))
      have hrf := hb4.put (CP.semSeq l ws (idM n))
      go_wp2_with (first | (refine wpList_load_row rfl 173 _ rfl b5 rfl 173 _ (0, 0) _ hbi Tryz.underlying173 rfl (size_of hok1.1) ?_) | (refine wpList_store_row rfl 173 _ _ rfl b4 (relA (CP.semSeq l ws (idM n))) rfl rfl 173 (relA zeroM) hb4 (size_of (hok1).1) (by rw [relA_len (zeroM_ok).1, relA_len (hok1).1]) (relA_one _) ?_))
      refine bodyPost_ret (results_cell_row rfl _ _ b4 173 (relA (CP.semSeq l ws (idM n))) (0, 0) _ rfl hrf Tryz.underlying173 rfl (size_of hok1.1)) rfl ?_
      exact ⟨rfl, hxf⟩
set_option maxHeartbeats 2000000 in
set_option maxRecDepth 20000 in
theorem rep_in (ws : List Snd) (a : Option Addr) (n cap : Nat) (hn : n ≤ 32) (B : Nat) (c : CP) (ih : ∀ w : World, RdCP B w c → RdS w a n cap ws → Tab64 w → Calls Tryz.prog c.fn #[c.recv, .slice a n cap] w (RetR (c.sem ws) w))
    (m : Nat) (mx : Int) (hm : m ≤ 32) (hmx : mx = -1 ∨ (m : Int) ≤ mx ∧ mx ≤ 32) (w : World) (hrc : RdCP B w c) (hws : RdS w a n cap ws) (hT : Tab64 w) :
    Calls Tryz.prog 141 #[.agg #[.iface c.ty c.recv, .int .i64 (m : Int), .int .i64 mx], .slice a n cap] w (RetR (repM (c.sem ws) (m : Int) mx n) w) := by
  have hlw : ws.length ≤ 32 := by rw [hws.len]; exact hn
  have k1 : RelOk (c.sem ws) := CP.sem_ok c hlw
  have k2 : RelOk (powM (c.sem ws) m n) := powM_ok k1 _ hn
  have k3 := idM_ok hn
  have k4 : RelOk (orM (c.sem ws) (idM n)) := orM_ok k1 k3
  obtain ⟨ex, hex, hx32⟩ : ∃ ex : Nat, (if mx < 0 then n else (mx - (m : Int)).toNat) = ex ∧ ex ≤ 32 := ⟨_, rfl, by split <;> omega⟩
  have k5 : RelOk (powM (orM (c.sem ws) (idM n)) ex n) := powM_ok k4 _ hn
  have k6 := thenM_ok k2 k5
  have hrm : repM (c.sem ws) (m : Int) mx n = thenM (powM (c.sem ws) m n) (powM (orM (c.sem ws) (idM n)) ex n) := by
    unfold repM; rw [hex]; rfl
  rw [hrm]
  have hme := c.meth
  have hen := c.ent
  replace hrm := Lib.hid hrm
  go_enter Tryz.func141, Tryz.ntmps141
  refine seq_stop fun K hK => ?_
  go_wp2_with fail
  have hb : RelB ((w.alloc (.cells #[.iface c.ty c.recv, .int .i64 (m : Int), .int .i64 mx] 200)).alloc (.cells (relA zeroM) 173)) (w.heap.size + 1) zeroM := by
    have := RelB.new (w.alloc (.cells #[.iface c.ty c.recv, .int .i64 (m : Int), .int .i64 mx] 200)) zeroM
    rwa [World.size_alloc] at this
  have e0 : ((w.alloc (.cells #[.iface c.ty c.recv, .int .i64 (m : Int), .int .i64 mx] 200)).alloc (.cells (relA zeroM) 173)).cell? ⟨w.heap.size, 0, none⟩ = some (.iface c.ty c.recv) := by go_simp
  have e1 : ((w.alloc (.cells #[.iface c.ty c.recv, .int .i64 (m : Int), .int .i64 mx] 200)).alloc (.cells (relA zeroM) 173)).cell? ⟨w.heap.size, 1, none⟩ = some (.int .i64 (m : Int)) := by go_simp
  have e2 : ((w.alloc (.cells #[.iface c.ty c.recv, .int .i64 (m : Int), .int .i64 mx] 200)).alloc (.cells (relA zeroM) 173)).cell? ⟨w.heap.size, 2, none⟩ = some (.int .i64 mx) := by go_simp
  have hx : Ext w ((w.alloc (.cells #[.iface c.ty c.recv, .int .i64 (m : Int), .int .i64 mx] 200)).alloc (.cells (relA zeroM) 173)) := (Ext.alloc1 _ _).trans (Ext.alloc1 _ _)
  have hz1 : ((w.alloc (.cells #[.iface c.ty c.recv, .int .i64 (m : Int), .int .i64 mx] 200)).alloc (.cells (relA zeroM) 173)).heap.size = w.heap.size + 1 + 1 := by simp
  have hK' := hK.out { tmps := #[.agg #[.iface c.ty c.recv, .int .i64 (m : Int), .int .i64 mx], .slice a n cap, .pointer (some ⟨w.heap.size, 0, none⟩), undef, .pointer (some ⟨w.heap.size + 1, 0, none⟩), undef, undef, undef, undef, undef, undef, undef, undef, undef, undef, undef, undef, undef, undef, undef, undef, undef, undef, undef, undef, undef, undef, undef, undef, undef, undef, undef, undef, undef, undef, undef, undef, undef, undef, undef, undef], defers := [] } ((w.alloc (.cells #[.iface c.ty c.recv, .int .i64 (m : Int), .int .i64 mx] 200)).alloc (.cells (relA zeroM) 173))
  refine hK' ?_
  clear hK' hK
  generalize (w.alloc (.cells #[.iface c.ty c.recv, .int .i64 (m : Int), .int .i64 mx] 200)).alloc (.cells (relA zeroM) 173) = w1 at *
  obtain ⟨b2, hb2⟩ : ∃ b2, b2 = w.heap.size := ⟨_, rfl⟩
  obtain ⟨b4, hb4⟩ : ∃ b4, b4 = w.heap.size + 1 := ⟨_, rfl⟩
  have l2 : b2 < w1.heap.size := by omega
  have l4 : w.heap.size ≤ b4 := by omega
  have l41 : b4 < w1.heap.size := by omega
  rw [← hb4] at hb ⊢
  rw [← hb2] at e0 e1 e2 ⊢
  clear hb2 hb4 hz1
  have hlow := hx.le
  replace hlow := Lib.hid hlow
  replace l4 := Lib.hid l4
  go_wp2_with fail
  refine (ih w1 (RdCP.ext hrc hx) (hws.ext hx) (hT.ext hx)).mono ?_
  rintro e w2 ⟨rfl, hx2⟩
  have X3 := hx2.trans (Ext.alloc1 w2 (.cells (relA (c.sem ws)) 173))
  have hb5 := RelB.new w2 (c.sem ws)
  replace hb := hb.ext X3
  replace e1 := X3.cellv e1
  replace e2 := X3.cellv e2
  replace hx := hx.trans X3
  have n45 : b4 < w2.heap.size := Nat.lt_of_lt_of_le l41 hx2.le
  have n25 : b2 < w2.heap.size := Nat.lt_of_lt_of_le l2 hx2.le
  clear e0 hme hen hx2 X3
  replace hx := Lib.hid hx
  go_wp2_with (first | (refine wpList_store_row rfl 173 _ _ rfl (w2).heap.size (relA (c.sem ws)) rfl rfl 173 (relA zeroM) (RelB.new w2 zeroM) (size_of (k1).1) (by rw [relA_len zeroM_ok.1, relA_len (k1).1]) (relA_one _) ?_; rw [World.setRow_alloc_new]; generalize (w2).alloc (.cells (relA (c.sem ws)) 173) = w3 at *) | (refine wpList_load_row rfl 173 _ rfl w2.heap.size rfl 173 _ (0, 0) _ hb5 Tryz.underlying173 rfl (size_of (k1).1) ?_))
  obtain ⟨b5, hbb⟩ : ∃ b, b = w2.heap.size := ⟨_, rfl⟩
  rw [← hbb] at hb5 n45 n25 ⊢
  clear hbb
  refine (power_any _ k1 m n (by omega) hn w3 (hT.ext hx.out)).mono ?_
  rintro e w4 ⟨rfl, hx2⟩
  have n56 : b5 < w4.heap.size := Nat.lt_of_lt_of_le hb5.lt hx2.le
  have n46 : b4 < w4.heap.size := Nat.lt_of_lt_of_le hb.lt hx2.le
  have n26 : b2 < w4.heap.size := Nat.lt_of_lt_of_le (cell_lt e1) hx2.le
  replace hb := hb.ext hx2
  replace hb5 := hb5.ext hx2
  replace e1 := hx2.cellv e1
  replace e2 := hx2.cellv e2
  replace hx := Lib.hid (hx.out.trans hx2)
  clear hx2
  go_wp2_with (first | (refine wpList_store_row rfl 173 _ _ rfl (w4).heap.size (relA (powM (c.sem ws) m n)) rfl rfl 173 (relA zeroM) (RelB.new w4 zeroM) (size_of (k2).1) (by rw [relA_len zeroM_ok.1, relA_len (k2).1]) (relA_one _) ?_; rw [World.setRow_alloc_new]; have hx5 := Ext.alloc1 w4 (.cells (relA (powM (c.sem ws) m n)) 173); have hb6 := RelB.new w4 (powM (c.sem ws) m n); generalize (w4).alloc (.cells (relA (powM (c.sem ws) m n)) 173) = w5 at *) | (refine wpList_load_row rfl 173 _ rfl b5 rfl 173 _ (0, 0) _ (hb5.ext hx5) Tryz.underlying173 rfl (size_of (k1).1) ?_) | (refine wpList_store_row rfl 173 _ _ rfl (w5).heap.size (relA (c.sem ws)) rfl rfl 173 (relA zeroM) (RelB.new w5 zeroM) (size_of (k1).1) (by rw [relA_len zeroM_ok.1, relA_len (k1).1]) (relA_one _) ?_; rw [World.setRow_alloc_new]; have hx6 := Ext.alloc1 w5 (.cells (relA (c.sem ws)) 173); have hb7 := RelB.new w5 (c.sem ws); generalize (w5).alloc (.cells (relA (c.sem ws)) 173) = w6 at *))
  obtain ⟨b6, hbb⟩ : ∃ b, b = w4.heap.size := ⟨_, rfl⟩
  rw [← hbb] at hb6 n46 n26 n56 ⊢
  have n67 : b6 < w5.heap.size := hb6.lt
  have n57 : b5 < w5.heap.size := Nat.lt_trans n56 n67
  have n47 : b4 < w5.heap.size := Nat.lt_trans n46 n67
  have n27 : b2 < w5.heap.size := Nat.lt_trans n26 n67
  clear hbb
  have hx56 := hx5.trans hx6
  replace hb := hb.ext hx56
  replace hb5 := hb5.ext hx56
  replace hb6 := hb6.ext hx6
  replace e1 := hx56.cellv e1
  replace e2 := hx56.cellv e2
  replace hx := Lib.hid (hx.out.trans hx56)
  obtain ⟨b7, hbb⟩ : ∃ b, b = w5.heap.size := ⟨_, rfl⟩
  rw [← hbb] at hb7 n67 n57 n47 n27 ⊢
  clear hbb hx5 hx6 hx56
  refine (identity_any n hn w6).mono ?_
  rintro e w7 ⟨rfl, hx7⟩
  replace hb := hb.ext hx7
  replace hb6 := hb6.ext hx7
  replace hb7 := hb7.ext hx7
  replace e1 := hx7.cellv e1
  replace e2 := hx7.cellv e2
  replace hx := Lib.hid (hx.out.trans hx7)
  clear hx7 hb5
  go_wp2_with (refine wpList_store_row rfl 173 _ _ rfl (w7).heap.size (relA (idM n)) rfl rfl 173 (relA zeroM) (RelB.new w7 zeroM) (size_of (k3).1) (by rw [relA_len zeroM_ok.1, relA_len (k3).1]) (relA_one _) ?_; rw [World.setRow_alloc_new]; have hx8 := Ext.alloc1 w7 (.cells (relA (idM n)) 173); have hb8 := RelB.new w7 (idM n); generalize (w7).alloc (.cells (relA (idM n)) 173) = w8 at *)
  have n78 : b7 ≠ w7.heap.size := Nat.ne_of_lt hb7.lt
  replace hb := hb.ext hx8
  replace hb6 := hb6.ext hx8
  replace hb7 := hb7.ext hx8
  replace e1 := hx8.cellv e1
  replace e2 := hx8.cellv e2
  replace hx := Lib.hid (hx.out.trans hx8)
  clear hx8
  refine (or_any _ _ k1 k3 b7 w7.heap.size _ hb7 hb8 n78).mono ?_
  rintro e w9 ⟨⟨v9, rfl⟩, hb7n, hg9⟩
  replace hb := hb.grown hg9 fun r e => by cases e; omega
  replace hb6 := hb6.grown hg9 fun r e => by cases e; omega
  replace e1 := gb_cell hg9 e1 fun e => by cases e; omega
  replace e2 := gb_cell hg9 e2 fun e => by cases e; omega
  have hl7 : w.heap.size ≤ b7 := Nat.le_trans l4.out (Nat.le_of_lt n47)
  replace hx := Lib.hid (hx.out.grown hg9 fun r e => by cases e; exact hl7)
  clear hg9 hb7 hb8
  have n76 : b7 ≠ b6 := Nat.ne_of_gt n67
  have n74 : b7 ≠ b4 := Nat.ne_of_gt n47
  have n64 : b6 ≠ b4 := Nat.ne_of_gt n46
  have fin : ∀ w10, Ext w9 w10 → Hid (RelB w10 b6 (powM (c.sem ws) m n) ∧ RelB w10 b7 (orM (c.sem ws) (idM n)) ∧ RelB w10 b4 zeroM ∧ Ext w w10) := fun w10 h => Lib.hid ⟨hb6.ext h, hb7n.ext h, hb.ext h, hx.out.trans h⟩
  have hTw := fun W (h : Ext w W) => hT.ext h
  by_cases hneg : mx < 0
  · rw [if_pos hneg] at hex
    subst hex
    go_wp2_with (refine wpList_load_row rfl 173 _ rfl b7 rfl 173 _ (0, 0) _ hb7n Tryz.underlying173 rfl (size_of (k4).1) ?_)
    refine (power_any _ k4 n n (by omega) hn w9 (hTw _ hx.out)).mono ?_
    rintro e w10 ⟨rfl, hx10⟩
    obtain ⟨f6, f7, f4, fx⟩ := (fin w10 hx10).out
    clear fin hb hb6 hb7n hx10 e1 e2
    have g7 := f7.put (powM (orM (c.sem ws) (idM n)) n n)
    have g6 := f6.off n76 (relA (powM (orM (c.sem ws) (idM n)) n n))
    have g4 := f4.off n74 (relA (powM (orM (c.sem ws) (idM n)) n n))
    have gx := ext_setRow fx hl7 (relA (powM (orM (c.sem ws) (idM n)) n n))
    go_wp2_with (refine wpList_store_row rfl 173 _ _ rfl b7 (relA (powM (orM (c.sem ws) (idM n)) n n)) rfl rfl 173 (relA (orM (c.sem ws) (idM n))) f7 (size_of (k5).1) (by rw [relA_len (k4).1, relA_len (k5).1]) (relA_one _) ?_)
    clear f7 f6 f4 fx
    generalize w10.setRow b7 (relA (powM (orM (c.sem ws) (idM n)) n n)) = w11 at *
    refine (then_any _ _ k2 k5 b6 b7 w11 g6 g7 (hTw _ gx)).mono ?_
    rintro e w12 ⟨rfl, hx12⟩
    replace g4 := g4.ext hx12
    replace gx := gx.trans hx12
    clear hx12 g6 g7
    have hxf := ext_setRow gx l4.out (relA (thenM (powM (c.sem ws) m n) (powM (orM (c.sem ws) (idM n)) n n)))
    have hrf := g4.put (thenM (powM (c.sem ws) m n) (powM (orM (c.sem ws) (idM n)) n n))
    go_wp2_with (refine wpList_store_row rfl 173 _ _ rfl b4 (relA (thenM (powM (c.sem ws) m n) (powM (orM (c.sem ws) (idM n)) n n))) rfl rfl 173 (relA zeroM) g4 (size_of (k6).1) (by rw [relA_len (zeroM_ok).1, relA_len (k6).1]) (relA_one _) ?_)
    refine bodyPost_ret (results_cell_row rfl _ _ b4 173 (relA (thenM (powM (c.sem ws) m n) (powM (orM (c.sem ws) (idM n)) n n))) (0, 0) _ rfl hrf Tryz.underlying173 rfl (size_of k6.1)) rfl ?_
    exact ⟨rfl, hxf⟩
  · rw [if_neg hneg] at hex
    have hsub : mx - (m : Int) = (ex : Int) := by omega
    replace hex := Lib.hid hex
    go_wp2_with (refine wpList_load_row rfl 173 _ rfl b7 rfl 173 _ (0, 0) _ hb7n Tryz.underlying173 rfl (size_of (k4).1) ?_)
    refine (power_any _ k4 ex n (by omega) hn w9 (hTw _ hx.out)).mono ?_
    rintro e w10 ⟨rfl, hx10⟩
    obtain ⟨f6, f7, f4, fx⟩ := (fin w10 hx10).out
    clear fin hb hb6 hb7n hx10 e1 e2
    have g7 := f7.put (powM (orM (c.sem ws) (idM n)) ex n)
    have g6 := f6.off n76 (relA (powM (orM (c.sem ws) (idM n)) ex n))
    have g4 := f4.off n74 (relA (powM (orM (c.sem ws) (idM n)) ex n))
    have gx := ext_setRow fx hl7 (relA (powM (orM (c.sem ws) (idM n)) ex n))
    go_wp2_with (refine wpList_store_row rfl 173 _ _ rfl b7 (relA (powM (orM (c.sem ws) (idM n)) ex n)) rfl rfl 173 (relA (orM (c.sem ws) (idM n))) f7 (size_of (k5).1) (by rw [relA_len (k4).1, relA_len (k5).1]) (relA_one _) ?_)
    clear f7 f6 f4 fx
    generalize w10.setRow b7 (relA (powM (orM (c.sem ws) (idM n)) ex n)) = w11 at *
    refine (then_any _ _ k2 k5 b6 b7 w11 g6 g7 (hTw _ gx)).mono ?_
    rintro e w12 ⟨rfl, hx12⟩
    replace g4 := g4.ext hx12
    replace gx := gx.trans hx12
    clear hx12 g6 g7
    have hxf := ext_setRow gx l4.out (relA (thenM (powM (c.sem ws) m n) (powM (orM (c.sem ws) (idM n)) ex n)))
    have hrf := g4.put (thenM (powM (c.sem ws) m n) (powM (orM (c.sem ws) (idM n)) ex n))
    go_wp2_with (refine wpList_store_row rfl 173 _ _ rfl b4 (relA (thenM (powM (c.sem ws) m n) (powM (orM (c.sem ws) (idM n)) ex n))) rfl rfl 173 (relA zeroM) g4 (size_of (k6).1) (by rw [relA_len (zeroM_ok).1, relA_len (k6).1]) (relA_one _) ?_)
    refine bodyPost_ret (results_cell_row rfl _ _ b4 173 (relA (thenM (powM (c.sem ws) m n) (powM (orM (c.sem ws) (idM n)) ex n))) (0, 0) _ rfl hrf Tryz.underlying173 rfl (size_of k6.1)) rfl ?_
    exact ⟨rfl, hxf⟩
/-- The function of a part, called through the interface. -/
theorem in_any (ws : List Snd) (a : Option Addr) (n cap : Nat) (hn : n ≤ 32) (B : Nat) : ∀ (m : Nat) (c : CP) (w : World), CP.sz c ≤ m → c.ok → RdCP B w c → RdS w a n cap ws → Tab64 w → Calls Tryz.prog c.fn #[c.recv, .slice a n cap] w (RetR (c.sem ws) w) := by
  intro m
  induction m with
  | zero => intro c w hm; have := CP.sz_pos c; omega
  | succ m ih =>
    intro c w hm hok hrc hws hT
    have hl := hws.len
    cases c with
    | snd is ng => exact psound_any is ng a n cap ws hn w hws
    | edge en =>
      simp only [CP.sem]
      rw [hl]; exact edge_any en a n cap hn w
    | rep x mn mx =>
      simp only [CP.ok] at hok
      simp only [RdCP] at hrc
      simp only [CP.sz] at hm
      obtain ⟨h1, h2, h3, h4⟩ := hok
      obtain ⟨k, rfl⟩ : ∃ k : Nat, mn = (k : Int) := ⟨mn.toNat, by omega⟩
      have h := rep_in ws a n cap hn B x (fun w h1' h2 h3 => ih x w (by omega) h1 h1' h2 h3) k mx (by omega) h4 w hrc hws hT
      rw [← CP.v_eq] at h
      simp only [CP.sem]
      rw [hl]; exact h
    | alt al nl cl l =>
      simp only [CP.ok] at hok
      simp only [RdCP] at hrc
      simp only [CP.sz] at hm
      exact alt_in ws a n cap hn B l (fun c hc w h1 h2 h3 => ih c w (by have := CP.szL_mem hc; omega) (CP.okL_mem hok hc) h1 h2 h3) al nl cl w hrc.1 (fun c hc => rdCPs_mem hrc.2 hc) hws hT
    | seq al nl cl l =>
      simp only [CP.ok] at hok
      simp only [RdCP] at hrc
      simp only [CP.sz] at hm
      have h := seq_in ws a n cap hn B l (fun c hc w h1 h2 h3 => ih c w (by have := CP.szL_mem hc; omega) (CP.okL_mem hok hc) h1 h2 h3) al nl cl w hrc.1 (fun c hc => rdCPs_mem hrc.2 hc) hws hT
      simp only [CP.sem]
      rw [hl]; exact h
end Go.Proofs.YtadncjpknckaaaaGreatDoor
namespace Go.Proofs.YtadncjpknckaaaaGreatDoor
open Go.RowKit
def z0S : Snd := ⟨0#32, 0#32⟩
/-- A sound that a law puts in. -/
structure Ou where
  fr : Int
  cl : BitVec 32
  st : Snd
  tk : BitVec 32
  ix : Int
def Ou.enc (o : Ou) : List Value := [.int .i64 o.fr, .int .u32 o.cl.toNat, .int .u32 o.st.p.toNat, .int .u32 o.st.m.toNat, .int .u32 o.tk.toNat, .int .i64 o.ix]
theorem Ou.len (o : Ou) : o.enc.length = 6 := rfl
theorem Ou.one (o : Ou) : ∀ u ∈ o.enc, u.oneCell' = true := by
  intro u hu; simp [Ou.enc] at hu; rcases hu with rfl | rfl | rfl | rfl | rfl | rfl <;> rfl
/-- A law as it lies in memory. -/
structure HL where
  name : ByteArray
  left : HP
  right : HP
  ia : Option Addr
  icap : Nat
  ifs : List Snd
  oa : Option Addr
  ocap : Nat
  outs : List Ou
  mode : Int
def HL.enc (L : HL) : List Value := .string L.name :: (L.left.enc ++ (L.right.enc ++ [.slice L.ia L.ifs.length L.icap, .slice L.oa L.outs.length L.ocap, .int .i64 L.mode]))
theorem HL.len (L : HL) : L.enc.length = 18 := by simp [HL.enc, HP.len]
/-! ### Sounds that are put in -/
def hasM (s : Snd) : BitVec 32 := s.p ||| s.m
def mixM (s f : Snd) (set : BitVec 32) : Snd := ⟨(s.p &&& ~~~set) ||| (f.p &&& set), (s.m &&& ~~~set) ||| (f.m &&& set)⟩
def changeM (s : Snd) (cl : BitVec 32) (st : Snd) : Snd := if s.ok && st.ok then (if cl.toNat ≤ 16777215 ∧ cl &&& hasM st = 0#32 then mixM s st (cl ||| hasM st) else z0S) else z0S
def takeM (s f : Snd) (mask : BitVec 32) : Snd := if s.ok && f.ok then (if mask.toNat ≤ 16777215 then mixM s f mask else z0S) else z0S
def put1 (cut : List Snd) (x : Ou) : Snd :=
  let s := changeM (if 0 ≤ x.fr then cut.getD x.fr.toNat z0S else z0S) x.cl x.st
  if x.tk = 0#32 then s else takeM s (cut.getD x.ix.toNat z0S) x.tk
def putM (outs : List Ou) (cut : List Snd) : List Snd := outs.map (put1 cut)
/-! ### Places -/
def wordOk (w : List Snd) : Bool := decide (w.length ≤ 32) && w.all Snd.ok
def begM (p : HP) (w : List Snd) (e : Nat) : Bool := (List.range (w.length + 1)).any fun a => ((inM p w).getD a 0).testBit e
def endM (p : HP) (w : List Snd) (a : Nat) : Bool := (inM p w).getD a 0 != 0
def fitM (L : HL) (w : List Snd) (at_ : Nat) : Bool := wordOk w && (begM L.left w at_ && endM L.right w (at_ + L.ifs.length))
def condM (L : HL) (w : List Snd) (at_ : Nat) : Bool := (List.range L.ifs.length).all fun j => (w.getD (at_ + j) z0S).ok && ((L.ifs.getD j z0S).ok && satB (w.getD (at_ + j) z0S) (L.ifs.getD j z0S))
def hitB' (L : HL) (w : List Snd) (at_ : Nat) : Bool := decide (at_ + L.ifs.length ≤ w.length) && (condM L w at_ && fitM L w at_)
def hitsM (L : HL) (w : List Snd) (b : Nat) : List Nat := (List.range (w.length + 1)).filter fun a => decide (b ≤ a) && hitB' L w a
def replM (L : HL) (w : List Snd) (at_ : Nat) : List Snd := w.take at_ ++ (putM L.outs ((w.drop at_).take L.ifs.length) ++ w.drop (at_ + L.ifs.length))
/-! ### Runs: none if a word grows too long -/
def allGo (L : HL) (w : List Snd) : List Nat → List Snd → Nat → Int → Option (List Snd)
  | [], now, _, _ => some now
  | a :: l, now, next, shift =>
    if a < next then allGo L w l now next shift
    else
      let now' := now.take (a + shift).toNat ++ (putM L.outs ((w.drop a).take L.ifs.length) ++ w.drop (a + L.ifs.length))
      if 32 < now'.length then none else allGo L w l now' (a + max L.ifs.length 1) (shift + L.outs.length - L.ifs.length)
def rightGo (L : HL) : Nat → List Snd → Nat → Option (List Snd)
  | 0, now, _ => some now
  | f + 1, now, a =>
    if now.length < a + L.ifs.length then some now
    else if hitB' L now a then
      (if 32 < (replM L now a).length then none else rightGo L f (replM L now a) (a + L.outs.length + if L.ifs.length = 0 then 1 else 0))
    else rightGo L f now (a + 1)
def leftGo (L : HL) : Nat → List Snd → Int → Option (List Snd)
  | 0, now, _ => some now
  | f + 1, now, a =>
    if a < 0 then some now
    else if hitB' L now a.toNat then
      (if 32 < (replM L now a.toNat).length then none else leftGo L f (replM L now a.toNat) (a - max L.ifs.length 1))
    else leftGo L f now (a - 1)
/-- What a valid law makes of a valid word; none if it grows too long. -/
def runM (L : HL) (w : List Snd) : Option (List Snd) :=
  if L.mode = 1 then allGo L w (hitsM L w 0) w 0 0
  else if L.mode = 2 then rightGo L 70 w 0
  else leftGo L 70 w (w.length - L.ifs.length : Int)
def fitsB (k : Nat) (x : Ou) : Bool :=
  decide (-1 ≤ x.fr) && (decide (x.fr < k) && (x.st.ok && (decide ((x.cl ||| x.tk) &&& ~~~(16777215#32) = 0#32) && (decide (x.cl &&& hasM x.st = 0#32) && (decide (x.tk &&& (hasM x.st ||| x.cl) = 0#32) &&
    (if x.tk = 0#32 then decide (x.ix = 0) else decide (0 ≤ x.ix) && decide (x.ix < k)))))))
end Go.Proofs.YtadncjpknckaaaaGreatDoor
