/-
  The parts of patterns that are leaves: edge, sound.
-/
import Derived.Test.YtadncjpknckaaaaGreatDoorA05
namespace Go.Proofs.YtadncjpknckaaaaGreatDoor
open Go.RowKit Go.Maps
theorem edge_any (en : Bool) (a : Option Addr) (n cap : Nat) (hn : n ≤ 32) (w : World) : Calls Tryz.prog 138 #[.agg #[.bool en], .slice a n cap] w (RetR (edgeM (if en then n else 0)) w) := by
  obtain ⟨m, hm⟩ : ∃ m, m = if en then n else 0 := ⟨_, rfl⟩
  have hm32 : m ≤ 32 := by rw [hm]; split <;> omega
  have hok := edgeM_ok hm32
  rw [← hm]
  have hpw := pow_wrap (i := m) (by omega)
  have hm64 : (m : Int) < 64 := by omega
  have hm33 : (m : Int) < 33 := by omega
  have hm33n : m < 33 := by omega
  cases en
  · obtain rfl : m = 0 := hm
    go_enter Tryz.func138, Tryz.ntmps138
    refine seq_stop fun K hK => ?_
    go_wp2_with fail
    have hb : RelB ((w.alloc (.cells #[.bool false] 196)).alloc (.cells #[.int .u64 0, .int .u64 0, .int .u64 0, .int .u64 0, .int .u64 0, .int .u64 0, .int .u64 0, .int .u64 0, .int .u64 0, .int .u64 0, .int .u64 0, .int .u64 0, .int .u64 0, .int .u64 0, .int .u64 0, .int .u64 0, .int .u64 0, .int .u64 0, .int .u64 0, .int .u64 0, .int .u64 0, .int .u64 0, .int .u64 0, .int .u64 0, .int .u64 0, .int .u64 0, .int .u64 0, .int .u64 0, .int .u64 0, .int .u64 0, .int .u64 0, .int .u64 0, .int .u64 0] 173)) (w.heap.size + 1) zeroM := by
      have := RelB.new (w.alloc (.cells #[.bool false] 196)) zeroM
      rwa [World.size_alloc] at this
    have he : ((w.alloc (.cells #[.bool false] 196)).alloc (.cells #[.int .u64 0, .int .u64 0, .int .u64 0, .int .u64 0, .int .u64 0, .int .u64 0, .int .u64 0, .int .u64 0, .int .u64 0, .int .u64 0, .int .u64 0, .int .u64 0, .int .u64 0, .int .u64 0, .int .u64 0, .int .u64 0, .int .u64 0, .int .u64 0, .int .u64 0, .int .u64 0, .int .u64 0, .int .u64 0, .int .u64 0, .int .u64 0, .int .u64 0, .int .u64 0, .int .u64 0, .int .u64 0, .int .u64 0, .int .u64 0, .int .u64 0, .int .u64 0, .int .u64 0] 173)).cell? ⟨w.heap.size, 0, none⟩ = some (.bool false) := by go_simp
    have hx : Ext w ((w.alloc (.cells #[.bool false] 196)).alloc (.cells #[.int .u64 0, .int .u64 0, .int .u64 0, .int .u64 0, .int .u64 0, .int .u64 0, .int .u64 0, .int .u64 0, .int .u64 0, .int .u64 0, .int .u64 0, .int .u64 0, .int .u64 0, .int .u64 0, .int .u64 0, .int .u64 0, .int .u64 0, .int .u64 0, .int .u64 0, .int .u64 0, .int .u64 0, .int .u64 0, .int .u64 0, .int .u64 0, .int .u64 0, .int .u64 0, .int .u64 0, .int .u64 0, .int .u64 0, .int .u64 0, .int .u64 0, .int .u64 0, .int .u64 0] 173)) := (Ext.alloc1 _ _).trans (Ext.alloc1 _ _)
    generalize (w.alloc (.cells #[.bool false] 196)).alloc (.cells #[.int .u64 0, .int .u64 0, .int .u64 0, .int .u64 0, .int .u64 0, .int .u64 0, .int .u64 0, .int .u64 0, .int .u64 0, .int .u64 0, .int .u64 0, .int .u64 0, .int .u64 0, .int .u64 0, .int .u64 0, .int .u64 0, .int .u64 0, .int .u64 0, .int .u64 0, .int .u64 0, .int .u64 0, .int .u64 0, .int .u64 0, .int .u64 0, .int .u64 0, .int .u64 0, .int .u64 0, .int .u64 0, .int .u64 0, .int .u64 0, .int .u64 0, .int .u64 0, .int .u64 0] 173) = w1 at *
    refine hK.out _ _ ?_
    clear hK
    have hc := hb.cell (rel_at zeroM_ok.1 hm33n)
    have hf := hb.free 0
    have hs := hb.set (i := 0) (by rw [zeroM_ok.1]; exact hm33n) (2 ^ 0)
    have hxs := ext_set hx (b := w.heap.size + 1) (by omega) 0 (.int .u64 ((2 ^ 0 : Nat) : Int))
    replace hs : RelB _ _ (edgeM 0) := hs
    (change RelB (w1.setCell ⟨w.heap.size + 1, 0, none⟩ (.int .u64 1)) _ _ at hs; change Ext w (w1.setCell ⟨w.heap.size + 1, 0, none⟩ (.int .u64 1)) at hxs)
    replace hs := Lib.hid hs
    replace hxs := Lib.hid hxs
    clear hb hx
    go_wp2_with (first | (refine wpList_load_row rfl 173 _ rfl (w.heap.size + 1) rfl 173 _ (0, 0) _ hs.out Tryz.underlying173 rfl (size_of hok.1) ?_) | (refine wpList_store_row rfl 173 _ _ rfl (w.heap.size + 1) (relA (edgeM 0)) rfl rfl 173 (relA (edgeM 0)) hs.out (size_of hok.1) rfl (relA_one _) ?_))
    refine bodyPost_ret (results_cell_row rfl _ _ (w.heap.size + 1) 173 (relA (edgeM 0)) (0, 0) _ rfl (RelB.put hs.out (edgeM 0)) Tryz.underlying173 rfl (size_of hok.1)) rfl ?_
    exact ⟨rfl, ext_setRow hxs.out (by omega) _⟩
  · obtain rfl : m = n := hm
    go_enter Tryz.func138, Tryz.ntmps138
    refine seq_stop fun K hK => ?_
    go_wp2_with fail
    have hb : RelB ((w.alloc (.cells #[.bool true] 196)).alloc (.cells #[.int .u64 0, .int .u64 0, .int .u64 0, .int .u64 0, .int .u64 0, .int .u64 0, .int .u64 0, .int .u64 0, .int .u64 0, .int .u64 0, .int .u64 0, .int .u64 0, .int .u64 0, .int .u64 0, .int .u64 0, .int .u64 0, .int .u64 0, .int .u64 0, .int .u64 0, .int .u64 0, .int .u64 0, .int .u64 0, .int .u64 0, .int .u64 0, .int .u64 0, .int .u64 0, .int .u64 0, .int .u64 0, .int .u64 0, .int .u64 0, .int .u64 0, .int .u64 0, .int .u64 0] 173)) (w.heap.size + 1) zeroM := by
      have := RelB.new (w.alloc (.cells #[.bool true] 196)) zeroM
      rwa [World.size_alloc] at this
    have he : ((w.alloc (.cells #[.bool true] 196)).alloc (.cells #[.int .u64 0, .int .u64 0, .int .u64 0, .int .u64 0, .int .u64 0, .int .u64 0, .int .u64 0, .int .u64 0, .int .u64 0, .int .u64 0, .int .u64 0, .int .u64 0, .int .u64 0, .int .u64 0, .int .u64 0, .int .u64 0, .int .u64 0, .int .u64 0, .int .u64 0, .int .u64 0, .int .u64 0, .int .u64 0, .int .u64 0, .int .u64 0, .int .u64 0, .int .u64 0, .int .u64 0, .int .u64 0, .int .u64 0, .int .u64 0, .int .u64 0, .int .u64 0, .int .u64 0] 173)).cell? ⟨w.heap.size, 0, none⟩ = some (.bool true) := by go_simp
    have hx : Ext w ((w.alloc (.cells #[.bool true] 196)).alloc (.cells #[.int .u64 0, .int .u64 0, .int .u64 0, .int .u64 0, .int .u64 0, .int .u64 0, .int .u64 0, .int .u64 0, .int .u64 0, .int .u64 0, .int .u64 0, .int .u64 0, .int .u64 0, .int .u64 0, .int .u64 0, .int .u64 0, .int .u64 0, .int .u64 0, .int .u64 0, .int .u64 0, .int .u64 0, .int .u64 0, .int .u64 0, .int .u64 0, .int .u64 0, .int .u64 0, .int .u64 0, .int .u64 0, .int .u64 0, .int .u64 0, .int .u64 0, .int .u64 0, .int .u64 0] 173)) := (Ext.alloc1 _ _).trans (Ext.alloc1 _ _)
    generalize (w.alloc (.cells #[.bool true] 196)).alloc (.cells #[.int .u64 0, .int .u64 0, .int .u64 0, .int .u64 0, .int .u64 0, .int .u64 0, .int .u64 0, .int .u64 0, .int .u64 0, .int .u64 0, .int .u64 0, .int .u64 0, .int .u64 0, .int .u64 0, .int .u64 0, .int .u64 0, .int .u64 0, .int .u64 0, .int .u64 0, .int .u64 0, .int .u64 0, .int .u64 0, .int .u64 0, .int .u64 0, .int .u64 0, .int .u64 0, .int .u64 0, .int .u64 0, .int .u64 0, .int .u64 0, .int .u64 0, .int .u64 0, .int .u64 0] 173) = w1 at *
    refine hK.out _ _ ?_
    clear hK
    have hc := hb.cell (rel_at zeroM_ok.1 hm33n)
    have hf := hb.free m
    have hs := hb.set (i := m) (by rw [zeroM_ok.1]; exact hm33n) (2 ^ m)
    have hxs := ext_set hx (b := w.heap.size + 1) (by omega) m (.int .u64 ((2 ^ m : Nat) : Int))
    replace hs : RelB _ _ (edgeM m) := hs
    (obtain ⟨p, hp⟩ : ∃ p, p = 2 ^ m := ⟨_, rfl⟩; rw [← hp] at hs hxs hpw; replace hp := Lib.hid hp)
    replace hs := Lib.hid hs
    replace hxs := Lib.hid hxs
    clear hb hx
    go_wp2_with (first | (refine wpList_load_row rfl 173 _ rfl (w.heap.size + 1) rfl 173 _ (0, 0) _ hs.out Tryz.underlying173 rfl (size_of hok.1) ?_) | (refine wpList_store_row rfl 173 _ _ rfl (w.heap.size + 1) (relA (edgeM m)) rfl rfl 173 (relA (edgeM m)) hs.out (size_of hok.1) rfl (relA_one _) ?_))
    refine bodyPost_ret (results_cell_row rfl _ _ (w.heap.size + 1) 173 (relA (edgeM m)) (0, 0) _ rfl (RelB.put hs.out (edgeM m)) Tryz.underlying173 rfl (size_of hok.1)) rfl ?_
    exact ⟨rfl, ext_setRow hxs.out (by omega) _⟩
/-! ### sound -/
def sndTo (is : Snd) (ng : Bool) (w : List Snd) (k : Nat) : Rel := (List.range 33).map fun a => if a < k then (match w[a]? with
  | some s => if satB s is != ng then 2 ^ (a + 1) else 0
  | none => 0) else 0
theorem sndTo_len (is : Snd) (ng : Bool) (w : List Snd) (k : Nat) : (sndTo is ng w k).length = 33 := by simp [sndTo]
theorem sndTo_at (is : Snd) (ng : Bool) (w : List Snd) (k : Nat) {i : Nat} (hi : i < 33) : (sndTo is ng w k)[i]? = some (if i < k then (match w[i]? with
  | some s => if satB s is != ng then 2 ^ (i + 1) else 0
  | none => 0) else 0) := by
  unfold sndTo; rw [List.getElem?_map, List.getElem?_range hi]; rfl
theorem sndTo_zero (is : Snd) (ng : Bool) (w : List Snd) : sndTo is ng w 0 = zeroM := rel_ext (sndTo_len _ _ _ _) zeroM_ok.1 fun i hi => by
  rw [sndTo_at _ _ _ _ hi, if_neg (by omega)]; unfold zeroM; rw [List.getElem?_replicate, if_pos hi]
theorem sndTo_succ {is : Snd} {ng : Bool} {w : List Snd} {k : Nat} {s : Snd} (_hk : k < 33) (hs : w[k]? = some s) : sndTo is ng w (k + 1) = (sndTo is ng w k).set k (if satB s is != ng then 2 ^ (k + 1) else 0) := rel_ext (sndTo_len _ _ _ _) (by rw [List.length_set, sndTo_len]) fun i hi => by
  rw [sndTo_at _ _ _ _ hi, List.getElem?_set, sndTo_len]
  by_cases hik : k = i
  · subst hik; simp [hi, hs]
  · rw [if_neg hik, sndTo_at _ _ _ _ hi]
    by_cases h : i < k
    · rw [if_pos h, if_pos (by omega)]
    · rw [if_neg h, if_neg (by omega)]
theorem sndTo_all {is : Snd} {ng : Bool} {w : List Snd} {n : Nat} (hn : w.length = n) : sndTo is ng w n = sndM is ng w := rel_ext (sndTo_len _ _ _ _) (by simp [sndM]) fun i hi => by
  rw [sndTo_at _ _ _ _ hi]
  unfold sndM
  rw [List.getElem?_map, List.getElem?_range hi]
  simp only [Option.map_some]
  congr 1
  by_cases h : i < n
  · rw [if_pos h]; cases w[i]? <;> rfl
  · rw [if_neg h, List.getElem?_eq_none (by omega)]
theorem sndTo_skip {is : Snd} {ng : Bool} {xs : List Snd} {k : Nat} {s : Snd} (hk : k < 33) (hs : xs[k]? = some s) (h : (satB s is != ng) = false) : sndTo is ng xs (k + 1) = sndTo is ng xs k := by
  rw [sndTo_succ hk hs, h]
  refine rel_ext (by rw [List.length_set, sndTo_len]) (sndTo_len _ _ _ _) fun i hi => ?_
  rw [List.getElem?_set, sndTo_len]
  by_cases hik : k = i
  · subst hik; rw [if_pos rfl, if_pos hi, sndTo_at _ _ _ _ hi, if_neg (Nat.lt_irrefl _)]; rfl
  · rw [if_neg hik]
theorem sat_fact (s c : Snd) : (bits BinOp.or IntKind.u32 ((c.p.toNat &&& (4294967295 - s.p.toNat) : Nat) : Int) ((c.m.toNat &&& (4294967295 - s.m.toNat) : Nat) : Int) == 0) = satB s c := by
  have h1 : c.p.toNat &&& (4294967295 - s.p.toNat) < 4294967296 := by rw [andn_nat]; exact (c.p &&& ~~~s.p).isLt
  have h2 : c.m.toNat &&& (4294967295 - s.m.toNat) < 4294967296 := by rw [andn_nat]; exact (c.m &&& ~~~s.m).isLt
  have e1 := andn_zero c.p s.p
  have e2 := andn_zero c.m s.m
  unfold satB
  rw [← e1, ← e2, u32_or_nat _ _ h1 h2]
  generalize c.p.toNat &&& (4294967295 - s.p.toNat) = x
  generalize c.m.toNat &&& (4294967295 - s.m.toNat) = y
  rw [Bool.eq_iff_iff, Bool.and_eq_true, beq_iff_eq, beq_iff_eq, beq_iff_eq]
  constructor
  · intro h
    have h : x ||| y = 0 := by omega
    have := Nat.or_eq_zero_iff.1 h
    omega
  · rintro ⟨h, k⟩
    have hx : x = 0 := by omega
    have hy : y = 0 := by omega
    subst hx hy; rfl
set_option maxHeartbeats 1000000 in
theorem psound_any (is : Snd) (ng : Bool) (a : Option Addr) (n cap : Nat) (xs : List Snd) (hn : n ≤ 32) (w : World) (hr : RdS w a n cap xs) : Calls Tryz.prog 137 #[.agg #[.int .u32 is.p.toNat, .int .u32 is.m.toNat, .bool ng], .slice a n cap] w (RetR (sndM is ng xs) w) := by
  have hl := hr.len
  have hok := sndM_ok is ng (w := xs) (by omega)
  have hall := sndTo_all (is := is) (ng := ng) hl
  go_enter Tryz.func137, Tryz.ntmps137
  refine seq_stop fun K hK => ?_
  go_wp2_with fail
  have hb : RelB ((w.alloc (.cells #[.int .u32 is.p.toNat, .int .u32 is.m.toNat, .bool ng] 194)).alloc (.cells #[.int .u64 0, .int .u64 0, .int .u64 0, .int .u64 0, .int .u64 0, .int .u64 0, .int .u64 0, .int .u64 0, .int .u64 0, .int .u64 0, .int .u64 0, .int .u64 0, .int .u64 0, .int .u64 0, .int .u64 0, .int .u64 0, .int .u64 0, .int .u64 0, .int .u64 0, .int .u64 0, .int .u64 0, .int .u64 0, .int .u64 0, .int .u64 0, .int .u64 0, .int .u64 0, .int .u64 0, .int .u64 0, .int .u64 0, .int .u64 0, .int .u64 0, .int .u64 0, .int .u64 0] 173)) (w.heap.size + 1) zeroM := by
    have := RelB.new (w.alloc (.cells #[.int .u32 is.p.toNat, .int .u32 is.m.toNat, .bool ng] 194)) zeroM
    rwa [World.size_alloc] at this
  have e0 : ((w.alloc (.cells #[.int .u32 is.p.toNat, .int .u32 is.m.toNat, .bool ng] 194)).alloc (.cells #[.int .u64 0, .int .u64 0, .int .u64 0, .int .u64 0, .int .u64 0, .int .u64 0, .int .u64 0, .int .u64 0, .int .u64 0, .int .u64 0, .int .u64 0, .int .u64 0, .int .u64 0, .int .u64 0, .int .u64 0, .int .u64 0, .int .u64 0, .int .u64 0, .int .u64 0, .int .u64 0, .int .u64 0, .int .u64 0, .int .u64 0, .int .u64 0, .int .u64 0, .int .u64 0, .int .u64 0, .int .u64 0, .int .u64 0, .int .u64 0, .int .u64 0, .int .u64 0, .int .u64 0] 173)).cell? ⟨w.heap.size, 0, none⟩ = some (.int .u32 is.p.toNat) := by go_simp
  have e1 : ((w.alloc (.cells #[.int .u32 is.p.toNat, .int .u32 is.m.toNat, .bool ng] 194)).alloc (.cells #[.int .u64 0, .int .u64 0, .int .u64 0, .int .u64 0, .int .u64 0, .int .u64 0, .int .u64 0, .int .u64 0, .int .u64 0, .int .u64 0, .int .u64 0, .int .u64 0, .int .u64 0, .int .u64 0, .int .u64 0, .int .u64 0, .int .u64 0, .int .u64 0, .int .u64 0, .int .u64 0, .int .u64 0, .int .u64 0, .int .u64 0, .int .u64 0, .int .u64 0, .int .u64 0, .int .u64 0, .int .u64 0, .int .u64 0, .int .u64 0, .int .u64 0, .int .u64 0, .int .u64 0] 173)).cell? ⟨w.heap.size, 1, none⟩ = some (.int .u32 is.m.toNat) := by go_simp
  have e2 : ((w.alloc (.cells #[.int .u32 is.p.toNat, .int .u32 is.m.toNat, .bool ng] 194)).alloc (.cells #[.int .u64 0, .int .u64 0, .int .u64 0, .int .u64 0, .int .u64 0, .int .u64 0, .int .u64 0, .int .u64 0, .int .u64 0, .int .u64 0, .int .u64 0, .int .u64 0, .int .u64 0, .int .u64 0, .int .u64 0, .int .u64 0, .int .u64 0, .int .u64 0, .int .u64 0, .int .u64 0, .int .u64 0, .int .u64 0, .int .u64 0, .int .u64 0, .int .u64 0, .int .u64 0, .int .u64 0, .int .u64 0, .int .u64 0, .int .u64 0, .int .u64 0, .int .u64 0, .int .u64 0] 173)).cell? ⟨w.heap.size, 2, none⟩ = some (.bool ng) := by go_simp
  have hx : Ext w ((w.alloc (.cells #[.int .u32 is.p.toNat, .int .u32 is.m.toNat, .bool ng] 194)).alloc (.cells #[.int .u64 0, .int .u64 0, .int .u64 0, .int .u64 0, .int .u64 0, .int .u64 0, .int .u64 0, .int .u64 0, .int .u64 0, .int .u64 0, .int .u64 0, .int .u64 0, .int .u64 0, .int .u64 0, .int .u64 0, .int .u64 0, .int .u64 0, .int .u64 0, .int .u64 0, .int .u64 0, .int .u64 0, .int .u64 0, .int .u64 0, .int .u64 0, .int .u64 0, .int .u64 0, .int .u64 0, .int .u64 0, .int .u64 0, .int .u64 0, .int .u64 0, .int .u64 0, .int .u64 0] 173)) := (Ext.alloc1 _ _).trans (Ext.alloc1 _ _)
  generalize (w.alloc (.cells #[.int .u32 is.p.toNat, .int .u32 is.m.toNat, .bool ng] 194)).alloc (.cells #[.int .u64 0, .int .u64 0, .int .u64 0, .int .u64 0, .int .u64 0, .int .u64 0, .int .u64 0, .int .u64 0, .int .u64 0, .int .u64 0, .int .u64 0, .int .u64 0, .int .u64 0, .int .u64 0, .int .u64 0, .int .u64 0, .int .u64 0, .int .u64 0, .int .u64 0, .int .u64 0, .int .u64 0, .int .u64 0, .int .u64 0, .int .u64 0, .int .u64 0, .int .u64 0, .int .u64 0, .int .u64 0, .int .u64 0, .int .u64 0, .int .u64 0, .int .u64 0, .int .u64 0] 173) = w1 at *
  refine hK.out _ _ ?_
  clear hK
  obtain ⟨b2, hb2⟩ : ∃ b2, b2 = w.heap.size := ⟨_, rfl⟩
  obtain ⟨b4, hb4⟩ : ∃ b4, b4 = w.heap.size + 1 := ⟨_, rfl⟩
  have n24 : b2 ≠ b4 := by omega
  have l4 : w.heap.size ≤ b4 := by omega
  rw [← hb4] at hb ⊢
  rw [← hb2] at e0 e1 e2 ⊢
  clear hb2 hb4
  replace hall := Lib.hid hall
  replace hl := Lib.hid hl
  go_wp2_with fail
  go_loopw [9] (fun iv wr => ∃ i : Nat, i ≤ n ∧ iv = .int .i64 i ∧ RelB wr b4 (sndTo is ng xs i) ∧ Ext w wr ∧ wr.cell? ⟨b2, 0, none⟩ = some (.int .u32 is.p.toNat) ∧ wr.cell? ⟨b2, 1, none⟩ = some (.int .u32 is.m.toNat) ∧ wr.cell? ⟨b2, 2, none⟩ = some (.bool ng)) (fun iv _ => n - (intOf iv).toNat)
  case atStart => exact ⟨0, Nat.zero_le _, rfl, by rw [sndTo_zero]; exact hb, hx, e0, e1, e2⟩
  case round =>
    obtain ⟨i, hi, rfl, hbi, hxr, q0, q1, q2⟩ := hrel
    by_cases hlt : i < n
    · have hki : (i : Int) < (n : Int) := by omega
      obtain ⟨b, off, s, rfl, hsx, hbl, c0, c1⟩ := (hr.ext hxr).snd hlt
      have g2 := cell_lt q0
      have g4 := hbi.lt
      have n4 : b4 ≠ wr.heap.size := Nat.ne_of_lt g4
      have n4' : wr.heap.size ≠ b4 := Nat.ne_of_gt g4
      have n2' : wr.heap.size ≠ b2 := Nat.ne_of_gt g2
      have hsat := sat_fact s is
      have ci := hbi.cell (rel_at (sndTo_len is ng xs i) (i := i) (by omega))
      have hfi := hbi.free i
      have hA := Ext.alloc1 wr (.cells #[.int .u32 s.p.toNat, .int .u32 s.m.toNat] 52)
      have hbA := hbi.ext hA
      obtain ⟨sb, hsb⟩ : ∃ sb, sb = satB s is := ⟨_, rfl⟩
      rw [← hsb] at hsat
      have hi33 : i < 33 := by omega
      have hsu := sndTo_succ (is := is) (ng := ng) (w := xs) (k := i) hi33 hsx.out
      have hsk := fun h => sndTo_skip (is := is) (ng := ng) (xs := xs) hi33 hsx.out h
      rw [← hsb] at hsu hsk
      clear hsb
      have hw := pow_wrap (i := i + 1) (by omega)
      obtain ⟨p, hp⟩ : ∃ p, p = 2 ^ (i + 1) := ⟨_, rfl⟩
      rw [← hp] at hw hsu
      replace hp := Lib.hid hp
      have hset := (hbi.set (i := i) (by rw [sndTo_len]; exact hi33) p).ext (Ext.alloc1 _ (.cells #[.int .u32 s.p.toNat, .int .u32 s.m.toNat] 52))
      have hxs := (ext_set hxr l4 i (.int .u64 (p : Int))).alloc (.cells #[.int .u32 s.p.toNat, .int .u32 s.m.toNat] 52)
      have hgs := grownBy_set wr b4 i (.int .u64 (p : Int))
      have hA2 := Ext.alloc1 (wr.setCell ⟨b4, i, none⟩ (.int .u64 (p : Int))) (.cells #[.int .u32 s.p.toNat, .int .u32 s.m.toNat] 52)
      have t0 := hA2.cellv (gb_cell hgs q0 (fun e => by cases e; exact n24 rfl))
      have t1 := hA2.cellv (gb_cell hgs q1 (fun e => by cases e; exact n24 rfl))
      have t2 := hA2.cellv (gb_cell hgs q2 (fun e => by cases e; exact n24 rfl))
      have r0 := hA.cellv q0
      have r1 := hA.cellv q1
      have r2 := hA.cellv q2
      have hxA := hxr.trans hA
      replace hset := Lib.hid hset
      replace hxs := Lib.hid hxs
      replace hxA := Lib.hid hxA
      replace hbA := Lib.hid hbA
      replace t0 := Lib.hid t0
      replace t1 := Lib.hid t1
      replace t2 := Lib.hid t2
      replace r0 := Lib.hid r0
      replace r1 := Lib.hid r1
      replace r2 := Lib.hid r2
      replace hsu := Lib.hid hsu
      replace hsk := Lib.hid hsk
      clear hA hA2 hgs hb hx e0 e1 e2
      have hi64 : (i : Int) < 33 := by omega
      cases sb <;> cases ng
      · have k := hbA.out; rw [← hsk.out rfl] at k
        replace k := Lib.hid k
        go_wp2_with fail
        (first | exact ⟨⟨i + 1, hlt, by go_num, k.out, hxA.out, r0.out, r1.out, r2.out⟩, (by simp [intOf]; omega)⟩ | (go_roundw; case rel => exact ⟨i + 1, hlt, by go_num, k.out, hxA.out, r0.out, r1.out, r2.out⟩; case measure => exact (by simp [intOf]; omega)))
      · have k := hset.out
        have e : sndTo is true xs (i + 1) = (sndTo is true xs i).set i p := hsu.out
        rw [← e] at k
        clear e
        replace k := Lib.hid k
        go_wp2_with fail
        (first | exact ⟨⟨i + 1, hlt, by go_num, k.out, hxs.out, t0.out, t1.out, t2.out⟩, (by simp [intOf]; omega)⟩ | (go_roundw; case rel => exact ⟨i + 1, hlt, by go_num, k.out, hxs.out, t0.out, t1.out, t2.out⟩; case measure => exact (by simp [intOf]; omega)))
      · have k := hset.out
        have e : sndTo is false xs (i + 1) = (sndTo is false xs i).set i p := hsu.out
        rw [← e] at k
        clear e
        replace k := Lib.hid k
        go_wp2_with fail
        (first | exact ⟨⟨i + 1, hlt, by go_num, k.out, hxs.out, t0.out, t1.out, t2.out⟩, (by simp [intOf]; omega)⟩ | (go_roundw; case rel => exact ⟨i + 1, hlt, by go_num, k.out, hxs.out, t0.out, t1.out, t2.out⟩; case measure => exact (by simp [intOf]; omega)))
      · have k := hbA.out; rw [← hsk.out rfl] at k
        replace k := Lib.hid k
        go_wp2_with fail
        (first | exact ⟨⟨i + 1, hlt, by go_num, k.out, hxA.out, r0.out, r1.out, r2.out⟩, (by simp [intOf]; omega)⟩ | (go_roundw; case rel => exact ⟨i + 1, hlt, by go_num, k.out, hxA.out, r0.out, r1.out, r2.out⟩; case measure => exact (by simp [intOf]; omega)))
    · obtain rfl : i = n := by omega
      rw [hall.out] at hbi
      have hxf := ext_setRow hxr l4 (relA (sndM is ng xs))
      have hrf := hbi.put (sndM is ng xs)
      go_wp2_with (first | (refine wpList_load_row rfl 173 _ rfl b4 rfl 173 _ (0, 0) _ hbi Tryz.underlying173 rfl (size_of hok.1) ?_) | (refine wpList_store_row rfl 173 _ _ rfl b4 (relA (sndM is ng xs)) rfl rfl 173 (relA (sndM is ng xs)) hbi (size_of hok.1) rfl (relA_one _) ?_))
      refine bodyPost_ret (results_cell_row rfl _ _ b4 173 (relA (sndM is ng xs)) (0, 0) _ rfl hrf Tryz.underlying173 rfl (size_of hok.1)) rfl ?_
      exact ⟨rfl, hxf⟩
end Go.Proofs.YtadncjpknckaaaaGreatDoor
