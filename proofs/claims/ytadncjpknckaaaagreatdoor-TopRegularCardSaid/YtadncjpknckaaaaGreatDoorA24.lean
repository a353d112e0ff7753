/-
  law.Trace, law.Apply.
-/
import Derived.Test.YtadncjpknckaaaaGreatDoorA23
namespace Go.Proofs.YtadncjpknckaaaaGreatDoor
open Go.RowKit Go.Shelf
attribute [local go_sem] Oper.semAt_some
/-- The places and the words of a run, and an error. -/
def RetTr (L : HL) (ws : List Snd) (w : World) (e : Ending) (w' : World) : Prop := ∃ (p : Value) (a : Option Addr) (n cap : Nat) (err : Int), e = .returned (.tuple #[p, .slice a n cap, .int .i64 err]) ∧ Ext w w' ∧
  Hid (err = 0 ↔ (lawOkB L = true ∧ wordOk ws = true) ∧ (runM L ws).isSome = true) ∧
  Hid (err = 0 → (n = 0 ∧ runM L ws = some ws) ∨ ∃ (hs : List WH) (h : WH) (x : List Snd), n = hs.length + 1 ∧ RdK 1 WH.enc w' a n cap (hs ++ [h]) ∧ runM L ws = some x ∧ OwnS w.heap.size 52 w' h.v x)
section
variable {w : World} {B b8 b9 b4 b5 b6 : Nat} {s : List (List Snd)} {v8 v9 : Value} {ps : List Int} {hs : List WH} {X Y : World}
/-- The stores behind two appends. -/
theorem tr_end (hA : TrI w B b8 b9 b4 b5 b6 s v8 v9 ps hs X) (hb : b4 < B ∧ b5 < B ∧ b6 < B ∧ w.heap.size ≤ B) (hb2 : b8 < B ∧ b9 < B ∧ b8 ≠ b9 ∧ w.heap.size ≤ b8 ∧ w.heap.size ≤ b9 ∧ b4 ≠ b8 ∧ b4 ≠ b9 ∧ b5 ≠ b8 ∧ b5 ≠ b9 ∧ b6 ≠ b8 ∧ b6 ≠ b9) (hG : Grw (fun k => v8.ownBlock = some k ∨ v9.ownBlock = some k) X Y) {v8' v9' : Value} {i : Int} {h : WH} {x : List Snd}
    (o8 : OwnI B 3 Y v8' (ps ++ [i])) (o9 : OwnK 1 WH.enc B 40 Y v9' (hs ++ [h])) (q8 : v8'.ownBlock = v8.ownBlock ∨ ∃ g, v8'.ownBlock = some g ∧ X.heap.size ≤ g) (q9 : v9'.ownBlock = v9.ownBlock ∨ ∃ g, v9'.ownBlock = some g ∧ X.heap.size ≤ g) (ho : OwnS B 52 X h.v x) (hx : x.length ≤ 32) (N : Nat) :
    KeepsFrom N X ((Y.setCell ⟨b8, 0, none⟩ v8').setCell ⟨b9, 0, none⟩ v9') ∧ KeepT (TT b8 b9) X ((Y.setCell ⟨b8, 0, none⟩ v8').setCell ⟨b9, 0, none⟩ v9') ∧ ∃ v8 v9 ps hs, TrI w B b8 b9 b4 b5 b6 (s ++ [x]) v8 v9 ps hs ((Y.setCell ⟨b8, 0, none⟩ v8').setCell ⟨b9, 0, none⟩ v9') := by
  have c8 : ∀ g, v8.ownBlock = some g → B ≤ g ∧ g < X.heap.size ∧ ∃ cur, X.heap[g]? = some (.cells cur 3 (0, 0)) := fun g e => ⟨(own_lt hA.o8 e).1, (own_lt hA.o8 e).2, own_type hA.o8 e⟩
  have c9 : ∀ g, v9.ownBlock = some g → B ≤ g ∧ g < X.heap.size ∧ ∃ cur, X.heap[g]? = some (.cells cur 40 (0, 0)) := fun g e => ⟨(own_lt hA.o9 e).1, (own_lt hA.o9 e).2, own_type hA.o9 e⟩
  have hoff : ∀ b, b < B → ¬ (v8.ownBlock = some b ∨ v9.ownBlock = some b) := fun b hb h => by
    rcases h with h | h
    · have := (c8 b h).1; omega
    · have := (c9 b h).1; omega
  have y8 := hG.boxed hA.x8 (hoff _ hb2.1)
  have y9 := hG.boxed hA.x9 (hoff _ hb2.2.1)
  have g8 := grownBy_set Y b8 0 v8'
  have y9' := y9.other (B' := b8) (fun e => hb2.2.2.1 e.symm) v8'
  have g9 := grownBy_set (Y.setCell ⟨b8, 0, none⟩ v8') b9 0 v9'
  have hE : Grw (fun k => k = b8 ∨ k = b9 ∨ v8.ownBlock = some k ∨ v9.ownBlock = some k) X ((Y.setCell ⟨b8, 0, none⟩ v8').setCell ⟨b9, 0, none⟩ v9') :=
    ((hG.up fun k h => .inr (.inr h)).step g8 fun r e => by cases e; exact .inl (.inl rfl)).step g9 fun r e => by cases e; exact .inl (.inr (.inl rfl))
  have z8 : Boxed ((Y.setCell ⟨b8, 0, none⟩ v8').setCell ⟨b9, 0, none⟩ v9') b8 35 v8' := (y8.set _).other hb2.2.2.1 _
  have z9 : Boxed ((Y.setCell ⟨b8, 0, none⟩ v8').setCell ⟨b9, 0, none⟩ v9') b9 99 v9' := y9'.set _
  have hlow : ∀ k, (k = b8 ∨ k = b9 ∨ v8.ownBlock = some k ∨ v9.ownBlock = some k) → w.heap.size ≤ k := fun k h => by
    rcases h with rfl | rfl | h | h
    · omega
    · omega
    · have := (c8 k h).1; omega
    · have := (c9 k h).1; omega
  have hoff2 : ∀ b, b < B → b ≠ b8 → b ≠ b9 → ¬ (b = b8 ∨ b = b9 ∨ v8.ownBlock = some b ∨ v9.ownBlock = some b) := fun b hb n8 n9 h => by
    rcases h with h | h | h | h
    · exact n8 h
    · exact n9 h
    · have := (c8 b h).1; omega
    · have := (c9 b h).1; omega
  refine ⟨hE.keeps fun k h => ?_, hE.keepT (fun k h => (TT_iff hA.x8 hA.x9 k).2 h) (fun r h => ?_), v8', v9', ps ++ [i], hs ++ [h], z8, z9, ?_, ?_, ?_, ?_, fun s' y e => ?_, fun y hy => ?_, hE.ext hA.ext hlow, hE.boxed hA.r4 (hoff2 _ hb.1 hb2.2.2.2.2.2.1 hb2.2.2.2.2.2.2.1), hE.boxed hA.r5 (hoff2 _ hb.2.1 hb2.2.2.2.2.2.2.2.1 hb2.2.2.2.2.2.2.2.2.1), hE.boxed hA.r6 (hoff2 _ hb.2.2.1 hb2.2.2.2.2.2.2.2.2.2.1 hb2.2.2.2.2.2.2.2.2.2.2)⟩
  · rcases h with rfl | rfl | h | h
    · exact ⟨_, hA.x8, rfl⟩
    · exact ⟨_, hA.x9, rfl⟩
    · obtain ⟨cur, hc⟩ := (c8 k h).2.2; exact ⟨_, hc, rfl⟩
    · obtain ⟨cur, hc⟩ := (c9 k h).2.2; exact ⟨_, hc, rfl⟩
  · rw [TT_iff z8 z9] at h
    rw [TT_iff hA.x8 hA.x9]
    rcases h with h | h | h | h
    · exact .inl (.inl h)
    · exact .inl (.inr (.inl h))
    · rcases q8 with q | ⟨g, q, hg⟩
      · exact .inl (.inr (.inr (.inl (q ▸ h))))
      · rw [q] at h; cases h; exact .inr hg
    · rcases q9 with q | ⟨g, q, hg⟩
      · exact .inl (.inr (.inr (.inr (q ▸ h))))
      · rw [q] at h; cases h; exact .inr hg
  · exact own_setOff (own_setOff o8 fun e => by have := (own_lt o8 e).1; omega) fun e => by have := (own_lt o8 e).1; omega
  · exact own_setOff (own_setOff o9 fun e => by have := (own_lt o9 e).1; omega) fun e => by have := (own_lt o9 e).1; omega
  · rw [List.length_append, List.length_append, hA.l8]; rfl
  · rw [List.length_append, List.length_append, hA.l9]; rfl
  · obtain ⟨rfl, e2⟩ := List.append_inj' e rfl
    cases e2
    refine ⟨hs, h, rfl, hE.own ho fun g e => ?_⟩
    obtain ⟨cur, hc⟩ := own_type ho e
    rintro (rfl | rfl | h2 | h2)
    · rw [show X.heap[g]? = _ from hA.x8] at hc; cases hc
    · rw [show X.heap[g]? = _ from hA.x9] at hc; cases hc
    · obtain ⟨cur2, hc2⟩ := (c8 g h2).2.2; rw [hc] at hc2; cases hc2
    · obtain ⟨cur2, hc2⟩ := (c9 g h2).2.2; rw [hc] at hc2; cases hc2
  · rcases List.mem_append.1 hy with h | h
    · exact hA.short y h
    · rw [List.mem_singleton.1 h]; exact hx
end
theorem size_two {v : Array Value} (h : v.size = 2) : ∃ x y, v = #[x, y] := by
  obtain ⟨l⟩ := v
  match l, h with
  | [x, y], _ => exact ⟨x, y, rfl⟩
theorem results_tr {fn : Func} {p q r : Tmp} (h : fn.results = #[.cell p 35, .cell q 99, .cell r 32]) (tmps : Array Value) (w : World) (g1 g2 g3 : Nat) (v1 v2 v3 : Value) (h1 : tmps.getD p undef = .pointer (some ⟨g1, 0, none⟩)) (h2 : tmps.getD q undef = .pointer (some ⟨g2, 0, none⟩)) (h3 : tmps.getD r undef = .pointer (some ⟨g3, 0, none⟩))
    (c1 : w.cell? ⟨g1, 0, none⟩ = some v1) (c2 : w.cell? ⟨g2, 0, none⟩ = some v2) (c3 : w.cell? ⟨g3, 0, none⟩ = some v3) : (results fn tmps).run Tryz.prog w = .ok (.tuple #[v1, v2, v3]) w := by
  have h1' : tmps[p]?.getD undef = .pointer (some ⟨g1, 0, none⟩) := by simpa using h1
  have h2' : tmps[q]?.getD undef = .pointer (some ⟨g2, 0, none⟩) := by simpa using h2
  have h3' : tmps[r]?.getD undef = .pointer (some ⟨g3, 0, none⟩) := by simpa using h3
  simp [results, h, h1', h2', h3', asAddr, loadVar, go_sem, c1, c2, c3]
theorem bothE_zero {L : HL} {ws : List Snd} : bothE L ws = 0 ↔ lawOkB L = true ∧ wordOk ws = true := by
  unfold bothE
  by_cases h : lawE L = 0
  · rw [if_pos h, checkS_word, lawE_zero.1 h]; simp
  · rw [if_neg h]
    have : lawOkB L ≠ true := fun h2 => h (lawE_zero.2 h2)
    simp [this]
set_option maxHeartbeats 4000000 in
set_option maxRecDepth 20000 in
theorem trace_any (L : HL) (a : Option Addr) (nw cap : Nat) (ws : List Snd) (w : World) (hL : RdLw w L) (hws : RdS w a nw cap ws) (hT : Tab64 w) :
    Calls Tryz.prog 35 #[lawV L, .slice a nw cap] w (RetTr L ws w) := by
  refine (callsIn_wide (n := 9)).1 ?_
  refine callsIn_of_wp_marks Tryz.func35 rfl trivial ?_ rfl
  simp only [Tryz.ntmps35, List.size_toArray, List.length_cons, List.length_nil, Nat.reduceAdd, Nat.reduceSub, Array.replicate_succ, Array.replicate_zero, List.push_toArray, List.append_toArray, List.nil_append, List.cons_append]
  have hX4 : Ext w ((((w.alloc (.cells #[.string L.name, .int .i64 L.left.kind, .int .u32 L.left.is.p.toNat, .int .u32 L.left.is.m.toNat, .bool L.left.neg, .int .i64 L.left.mn, .int .i64 L.left.mx, .slice L.left.a L.left.n L.left.cap, .int .i64 L.right.kind, .int .u32 L.right.is.p.toNat, .int .u32 L.right.is.m.toNat, .bool L.right.neg, .int .i64 L.right.mn, .int .i64 L.right.mx, .slice L.right.a L.right.n L.right.cap, .slice L.ia L.ifs.length L.icap, .slice L.oa L.outs.length L.ocap, .int .i64 L.mode] 58)).alloc (.cells #[.slice none 0 0] 35)).alloc (.cells #[.slice none 0 0] 99)).alloc (.cells #[.int .i64 0] 32)) := (by repeat (first | exact Ext.refl _ | refine Ext.drew ?_ | refine Ext.drewN ?_ _ | refine Ext.alloc ?_ _))
  have hB4 : LawB ((((w.alloc (.cells #[.string L.name, .int .i64 L.left.kind, .int .u32 L.left.is.p.toNat, .int .u32 L.left.is.m.toNat, .bool L.left.neg, .int .i64 L.left.mn, .int .i64 L.left.mx, .slice L.left.a L.left.n L.left.cap, .int .i64 L.right.kind, .int .u32 L.right.is.p.toNat, .int .u32 L.right.is.m.toNat, .bool L.right.neg, .int .i64 L.right.mn, .int .i64 L.right.mx, .slice L.right.a L.right.n L.right.cap, .slice L.ia L.ifs.length L.icap, .slice L.oa L.outs.length L.ocap, .int .i64 L.mode] 58)).alloc (.cells #[.slice none 0 0] 35)).alloc (.cells #[.slice none 0 0] 99)).alloc (.cells #[.int .i64 0] 32)) w.heap.size L := ((((LawB.new w L).ext (Ext.alloc1 _ _)).ext (Ext.alloc1 _ _)).ext (Ext.alloc1 _ _))
  gi_wp2_with (refine listIn_of rfl (fun c h => by cases h) fun K hK => ?_; refine wp_load_row 58 _ rfl w.heap.size rfl 58 _ (0, 0) _ hB4 Tryz.underlying58 rfl (by kernel_rfl) ?_; refine hK _ _ ?_)
  have y4 : Boxed ((((w.alloc (.cells #[.string L.name, .int .i64 L.left.kind, .int .u32 L.left.is.p.toNat, .int .u32 L.left.is.m.toNat, .bool L.left.neg, .int .i64 L.left.mn, .int .i64 L.left.mx, .slice L.left.a L.left.n L.left.cap, .int .i64 L.right.kind, .int .u32 L.right.is.p.toNat, .int .u32 L.right.is.m.toNat, .bool L.right.neg, .int .i64 L.right.mn, .int .i64 L.right.mx, .slice L.right.a L.right.n L.right.cap, .slice L.ia L.ifs.length L.icap, .slice L.oa L.outs.length L.ocap, .int .i64 L.mode] 58)).alloc (.cells #[.slice none 0 0] 35)).alloc (.cells #[.slice none 0 0] 99)).alloc (.cells #[.int .i64 0] 32)) (w.heap.size + 1) 35 (.slice none 0 0) := (Below.block (((Ext.refl ((w.alloc (.cells #[.string L.name, .int .i64 L.left.kind, .int .u32 L.left.is.p.toNat, .int .u32 L.left.is.m.toNat, .bool L.left.neg, .int .i64 L.left.mn, .int .i64 L.left.mx, .slice L.left.a L.left.n L.left.cap, .int .i64 L.right.kind, .int .u32 L.right.is.p.toNat, .int .u32 L.right.is.m.toNat, .bool L.right.neg, .int .i64 L.right.mn, .int .i64 L.right.mx, .slice L.right.a L.right.n L.right.cap, .slice L.ia L.ifs.length L.icap, .slice L.oa L.outs.length L.ocap, .int .i64 L.mode] 58)).alloc (.cells #[.slice none 0 0] 35))).alloc (.cells #[.slice none 0 0] 99)).alloc (.cells #[.int .i64 0] 32)).bel _ (by simp)).trans (by
    have := World.alloc_heap_new (w.alloc (.cells #[.string L.name, .int .i64 L.left.kind, .int .u32 L.left.is.p.toNat, .int .u32 L.left.is.m.toNat, .bool L.left.neg, .int .i64 L.left.mn, .int .i64 L.left.mx, .slice L.left.a L.left.n L.left.cap, .int .i64 L.right.kind, .int .u32 L.right.is.p.toNat, .int .u32 L.right.is.m.toNat, .bool L.right.neg, .int .i64 L.right.mn, .int .i64 L.right.mx, .slice L.right.a L.right.n L.right.cap, .slice L.ia L.ifs.length L.icap, .slice L.oa L.outs.length L.ocap, .int .i64 L.mode] 58)) (.cells #[.slice none 0 0] 35); rwa [World.size_alloc] at this)
  have y5 : Boxed ((((w.alloc (.cells #[.string L.name, .int .i64 L.left.kind, .int .u32 L.left.is.p.toNat, .int .u32 L.left.is.m.toNat, .bool L.left.neg, .int .i64 L.left.mn, .int .i64 L.left.mx, .slice L.left.a L.left.n L.left.cap, .int .i64 L.right.kind, .int .u32 L.right.is.p.toNat, .int .u32 L.right.is.m.toNat, .bool L.right.neg, .int .i64 L.right.mn, .int .i64 L.right.mx, .slice L.right.a L.right.n L.right.cap, .slice L.ia L.ifs.length L.icap, .slice L.oa L.outs.length L.ocap, .int .i64 L.mode] 58)).alloc (.cells #[.slice none 0 0] 35)).alloc (.cells #[.slice none 0 0] 99)).alloc (.cells #[.int .i64 0] 32)) (w.heap.size + 1 + 1) 99 (.slice none 0 0) := (Below.block ((Ext.refl (((w.alloc (.cells #[.string L.name, .int .i64 L.left.kind, .int .u32 L.left.is.p.toNat, .int .u32 L.left.is.m.toNat, .bool L.left.neg, .int .i64 L.left.mn, .int .i64 L.left.mx, .slice L.left.a L.left.n L.left.cap, .int .i64 L.right.kind, .int .u32 L.right.is.p.toNat, .int .u32 L.right.is.m.toNat, .bool L.right.neg, .int .i64 L.right.mn, .int .i64 L.right.mx, .slice L.right.a L.right.n L.right.cap, .slice L.ia L.ifs.length L.icap, .slice L.oa L.outs.length L.ocap, .int .i64 L.mode] 58)).alloc (.cells #[.slice none 0 0] 35)).alloc (.cells #[.slice none 0 0] 99))).alloc (.cells #[.int .i64 0] 32)).bel _ (by simp)).trans (by
    have := World.alloc_heap_new ((w.alloc (.cells #[.string L.name, .int .i64 L.left.kind, .int .u32 L.left.is.p.toNat, .int .u32 L.left.is.m.toNat, .bool L.left.neg, .int .i64 L.left.mn, .int .i64 L.left.mx, .slice L.left.a L.left.n L.left.cap, .int .i64 L.right.kind, .int .u32 L.right.is.p.toNat, .int .u32 L.right.is.m.toNat, .bool L.right.neg, .int .i64 L.right.mn, .int .i64 L.right.mx, .slice L.right.a L.right.n L.right.cap, .slice L.ia L.ifs.length L.icap, .slice L.oa L.outs.length L.ocap, .int .i64 L.mode] 58)).alloc (.cells #[.slice none 0 0] 35)) (.cells #[.slice none 0 0] 99); rwa [World.size_alloc, World.size_alloc] at this)
  have y6 : Boxed ((((w.alloc (.cells #[.string L.name, .int .i64 L.left.kind, .int .u32 L.left.is.p.toNat, .int .u32 L.left.is.m.toNat, .bool L.left.neg, .int .i64 L.left.mn, .int .i64 L.left.mx, .slice L.left.a L.left.n L.left.cap, .int .i64 L.right.kind, .int .u32 L.right.is.p.toNat, .int .u32 L.right.is.m.toNat, .bool L.right.neg, .int .i64 L.right.mn, .int .i64 L.right.mx, .slice L.right.a L.right.n L.right.cap, .slice L.ia L.ifs.length L.icap, .slice L.oa L.outs.length L.ocap, .int .i64 L.mode] 58)).alloc (.cells #[.slice none 0 0] 35)).alloc (.cells #[.slice none 0 0] 99)).alloc (.cells #[.int .i64 0] 32)) (w.heap.size + 1 + 1 + 1) 32 (.int .i64 0) := by
    have := World.alloc_heap_new (((w.alloc (.cells #[.string L.name, .int .i64 L.left.kind, .int .u32 L.left.is.p.toNat, .int .u32 L.left.is.m.toNat, .bool L.left.neg, .int .i64 L.left.mn, .int .i64 L.left.mx, .slice L.left.a L.left.n L.left.cap, .int .i64 L.right.kind, .int .u32 L.right.is.p.toNat, .int .u32 L.right.is.m.toNat, .bool L.right.neg, .int .i64 L.right.mn, .int .i64 L.right.mx, .slice L.right.a L.right.n L.right.cap, .slice L.ia L.ifs.length L.icap, .slice L.oa L.outs.length L.ocap, .int .i64 L.mode] 58)).alloc (.cells #[.slice none 0 0] 35)).alloc (.cells #[.slice none 0 0] 99)) (.cells #[.int .i64 0] 32); rwa [World.size_alloc, World.size_alloc, World.size_alloc] at this
  have hsz : ((((w.alloc (.cells #[.string L.name, .int .i64 L.left.kind, .int .u32 L.left.is.p.toNat, .int .u32 L.left.is.m.toNat, .bool L.left.neg, .int .i64 L.left.mn, .int .i64 L.left.mx, .slice L.left.a L.left.n L.left.cap, .int .i64 L.right.kind, .int .u32 L.right.is.p.toNat, .int .u32 L.right.is.m.toNat, .bool L.right.neg, .int .i64 L.right.mn, .int .i64 L.right.mx, .slice L.right.a L.right.n L.right.cap, .slice L.ia L.ifs.length L.icap, .slice L.oa L.outs.length L.ocap, .int .i64 L.mode] 58)).alloc (.cells #[.slice none 0 0] 35)).alloc (.cells #[.slice none 0 0] 99)).alloc (.cells #[.int .i64 0] 32)).heap.size = w.heap.size + 4 := by simp
  generalize ((((w.alloc (.cells #[.string L.name, .int .i64 L.left.kind, .int .u32 L.left.is.p.toNat, .int .u32 L.left.is.m.toNat, .bool L.left.neg, .int .i64 L.left.mn, .int .i64 L.left.mx, .slice L.left.a L.left.n L.left.cap, .int .i64 L.right.kind, .int .u32 L.right.is.p.toNat, .int .u32 L.right.is.m.toNat, .bool L.right.neg, .int .i64 L.right.mn, .int .i64 L.right.mx, .slice L.right.a L.right.n L.right.cap, .slice L.ia L.ifs.length L.icap, .slice L.oa L.outs.length L.ocap, .int .i64 L.mode] 58)).alloc (.cells #[.slice none 0 0] 35)).alloc (.cells #[.slice none 0 0] 99)).alloc (.cells #[.int .i64 0] 32)) = w4 at *
  refine ⟨trivial, ?_⟩
  gi_at_call 49
  refine (callsIn_wide.2 (lwcheck_any L a nw cap ws w4 (hL.ext hX4) (hws.ext hX4))).mono ?_
  rintro e w5 ⟨rfl, hx5⟩
  have hX5 := hX4.trans hx5
  have z4 := boxed_more y4 hx5
  have z5 := boxed_more y5 hx5
  have z6 := boxed_more y6 hx5
  have hB5 := hB4.ext hx5
  have hsz5 : Hid (w.heap.size + 4 ≤ w5.heap.size) := Lib.hid (by have := hx5.le; omega)
  clear y4 y5 y6 hB4 hX4 hx5 hsz
  have d4 := z4.cell
  have d5 := z5.cell
  have d6 := z6.cell
  have f4 := z4.frozen
  have f5 := z5.frozen
  have f6 := z6.frozen
  by_cases hb : bothE L ws = 0
  · rw [hb]
    obtain ⟨hok, hwok⟩ := bothE_zero.1 hb
    replace hb := Lib.hid hb
    gi_wp2_with (refine listIn_of rfl (fun c h => by cases h) fun K hK => ?_; refine wp_load_row 58 _ rfl w.heap.size rfl 58 _ (0, 0) _ (hB5.ext (by repeat (first | exact Ext.refl _ | refine Ext.drew ?_ | refine Ext.drewN ?_ _ | refine Ext.alloc ?_ _))) Tryz.underlying58 rfl (by kernel_rfl) ?_; refine hK _ _ ?_)
    have hx6 : Ext w5 ((w5.alloc (.cells #[.slice none 0 0] 35)).alloc (.cells #[.slice none 0 0] 99)) := (by repeat (first | exact Ext.refl _ | refine Ext.drew ?_ | refine Ext.drewN ?_ _ | refine Ext.alloc ?_ _))
    have y8 : Boxed ((w5.alloc (.cells #[.slice none 0 0] 35)).alloc (.cells #[.slice none 0 0] 99)) w5.heap.size 35 (.slice none 0 0) := (Below.block (Ext.alloc1 _ _).bel _ (by simp)).trans (World.alloc_heap_new w5 _)
    have y9 : Boxed ((w5.alloc (.cells #[.slice none 0 0] 35)).alloc (.cells #[.slice none 0 0] 99)) (w5.heap.size + 1) 99 (.slice none 0 0) := by
      have := World.alloc_heap_new (w5.alloc (.cells #[.slice none 0 0] 35)) (.cells #[.slice none 0 0] 99); rwa [World.size_alloc] at this
    have hsz6 : ((w5.alloc (.cells #[.slice none 0 0] 35)).alloc (.cells #[.slice none 0 0] 99)).heap.size = w5.heap.size + 2 := by simp
    generalize ((w5.alloc (.cells #[.slice none 0 0] 35)).alloc (.cells #[.slice none 0 0] 99)) = w6 at *
    refine ⟨trivial, ?_⟩
    gi_at_call 50
    refine (callsIn_wide.2 (run_any L a nw cap w6)).mono ?_
    rintro e w7 ⟨bl, bw, bk, bm, rfl, hx7, ⟨ll, kl⟩, ⟨lw, kw⟩, ⟨lk, kk⟩, ⟨lm, km⟩⟩
    have hx57 := hx6.trans hx7
    have hX7 := hX5.trans hx57
    have u4 := boxed_more z4 hx57
    have u5 := boxed_more z5 hx57
    have u6 := boxed_more z6 hx57
    have u8 := boxed_more y8 hx7
    have u9 := boxed_more y9 hx7
    generalize hb8 : w5.heap.size = b8 at *
    generalize hb9 : b8 + 1 = b9 at *
    generalize hb4 : w.heap.size + 1 = b4 at *
    generalize hb5 : b4 + 1 = b5 at *
    generalize hb6 : b5 + 1 = b6 at *
    have hn : Hid (b4 < b9 + 1 ∧ b5 < b9 + 1 ∧ b6 < b9 + 1 ∧ w.heap.size ≤ b9 + 1 ∧ b9 + 1 ≤ w7.heap.size ∧ b9 + 1 ≤ bl ∧ b9 + 1 ≤ bw ∧ b9 + 1 ≤ bk ∧ b9 + 1 ≤ bm ∧ w.heap.size ≤ b8 ∧ w.heap.size ≤ b4 ∧ b4 < b5 ∧ b5 < b6 ∧ b6 < b8 ∧ b8 < b9) := Lib.hid (by
      have h1 := hsz5.out
      have h2 := hx7.le
      omega)
    replace hb8 := Lib.hid hb8
    replace hb9 := Lib.hid hb9
    replace hb4 := Lib.hid hb4
    replace hb5 := Lib.hid hb5
    replace hb6 := Lib.hid hb6
    have hlenw : nw ≤ 32 := by
      have h1 := hws.len
      unfold wordOk at hwok
      rw [Bool.and_eq_true, decide_eq_true_eq] at hwok
      omega
    clear y8 y9 hx6 hx7 hx57 z4 z5 z6 d4 d5 d6 f4 f5 f6 hB5 hX5 hsz5 hsz6 ll lw lk lm
    gi_wp2
    have hI0 : TrI w (b9 + 1) b8 b9 b4 b5 b6 [] (.slice none 0 0) (.slice none 0 0) [] [] w7 :=
      ⟨u8, u9, OwnK.nil _ _ _, OwnK.nil _ _ _, rfl, rfl, fun s' x e => by simp at e, fun x h => by simp at h, hX7, u4, u5, u6⟩
    have hnb : b4 < b9 + 1 ∧ b5 < b9 + 1 ∧ b6 < b9 + 1 ∧ w.heap.size ≤ b9 + 1 := ⟨hn.out.1, hn.out.2.1, hn.out.2.2.1, hn.out.2.2.2.1⟩
    replace hnb := Lib.hid hnb
    refine wpIn_range_T2 (α := List Snd) rfl (by decide : 1 ≤ 9) (gf := 65) (lb := #[.pointer (some ⟨bw, 0, none⟩), .pointer (some ⟨bl, 0, none⟩), .pointer (some ⟨bk, 0, none⟩), .pointer (some ⟨bm, 0, none⟩)]) rfl trivial (enters_of Tryz.func65 (by kernel_rfl) rfl)
      (TT b8 b9) (fun s x v X => s.length ≤ 80 ∧ (32 < x.length → runM L ws = none) ∧ OutW (b9 + 1) x v X) (fun s X => ∃ v8 v9 ps hs, TrI w (b9 + 1) b8 b9 b4 b5 b6 s v8 v9 ps hs X)
      (fun c s X => c = .ret ∧ Ext w X ∧ runM L ws = none ∧ Boxed X b4 35 (.slice none 0 0) ∧ Boxed X b5 99 (.slice none 0 0) ∧ Boxed X b6 32 (.int .i64 11)) (fun s => runM L ws = some (lastW s ws)) notSnd (fun X r o h1 h2 => notCells_notSnd ⟨o, h1, h2⟩)
      (fun s X r hi ht => by
        obtain ⟨v8, v9, ps, hs, hA⟩ := hi
        rcases (TT_iff hA.x8 hA.x9 r).1 ht with rfl | rfl | h | h
        · exact ⟨_, hA.x8, rfl⟩
        · exact ⟨_, hA.x9, rfl⟩
        · obtain ⟨cur, hc⟩ := own_type hA.o8 h; exact ⟨_, hc, rfl⟩
        · obtain ⟨cur, hc⟩ := own_type hA.o9 h; exact ⟨_, hc, rfl⟩)
      (fun s X Y row hs hg hr => by
        obtain ⟨v8, v9, ps, hs, hA⟩ := hs
        obtain ⟨k1, k2⟩ := hA.grown hnb.out hg fun r e => ⟨(hr r e).1, by have := (hr r e).2.1; have := hn.out; omega, (hr r e).2.2⟩
        exact ⟨⟨v8, v9, ps, hs, k1⟩, k2⟩)
      (fun c s X Y row hs hg hr hr2 => by
        obtain ⟨k1, k2, k3, k4, k5, k6⟩ := hs
        have hne : ∀ b t v, Boxed X b t v → some b ≠ row := fun b t v hb e => by
          obtain ⟨o, h1, h2⟩ := hr b e.symm
          rw [show X.heap[b]? = _ from hb] at h1; cases h1; cases h2
        exact ⟨k1, k2.grown hg fun r e => by have := hr2 r e; have := hn.out; omega, k3, k4.kept hg (hne _ _ _ k4), k5.kept hg (hne _ _ _ k5), k6.kept hg (hne _ _ _ k6)⟩)
      (fun s x v X Y row hs hg hr => by
        obtain ⟨k1, k2, i, a', n', c', k3, k4⟩ := hs
        exact ⟨k1, k2, i, a', n', c', k3, own_apart k4 hg fun g e e2 => by
          obtain ⟨cur, hc⟩ := own_type k4 e2
          exact notCells_notSnd (hr g e) _ _ _ hc rfl⟩)
      ⟨_, _, _, _, hI0⟩
      (fun l J Jx W hB hJ0 hJI hJg hJx hY => ?iter)
      (fun v t => (((t.setIfInBounds 21 (v.getD 0 undef)).setIfInBounds 22 (v.getD 1 undef)).setIfInBounds 10 (v.getD 0 undef)).setIfInBounds 11 (v.getD 1 undef)) ?assign ?body ?done ?stop
    case iter =>
      have hxW : Ext w7 W := ⟨hB⟩
      have hnoT : ∀ r, b9 + 1 ≤ r → ¬ TT b8 b9 W r := fun r h1 h2 => by
        have h3 := (TT_iff (boxed_more u8 hxW) (boxed_more u9 hxW) r).1 h2
        have := hn.out
        rcases h3 with h | h | h | h
        · omega
        · omega
        · cases h
        · cases h
      have hne := hn.out
      refine (run1_T L a nw cap ws hok w hL hws hT hlenw (TT b8 b9) W J Jx l bl bw bk bm
        ⟨hJg, hJx, fun s X h => by obtain ⟨_, _, _, _, h⟩ := hJI s X h; exact h.ext, fun s X r h ht => by
          obtain ⟨v8, v9, ps, hs, hA⟩ := hJI s X h
          rcases (TT_iff hA.x8 hA.x9 r).1 ht with rfl | rfl | h | h
          · exact ⟨by omega, hA.x8.lt⟩
          · exact ⟨by omega, hA.x9.lt⟩
          · have := own_lt hA.o8 h; exact ⟨by omega, this.2⟩
          · have := own_lt hA.o9 h; exact ⟨by omega, this.2⟩, fun s X r h ht => by
          obtain ⟨v8, v9, ps, hs, hA⟩ := hJI s X h
          rcases (TT_iff hA.x8 hA.x9 r).1 ht with rfl | rfl | h | h
          · exact ⟨_, hA.x8, rfl⟩
          · exact ⟨_, hA.x9, rfl⟩
          · obtain ⟨cur, hc⟩ := own_type hA.o8 h; exact ⟨_, hc, rfl⟩
          · obtain ⟨cur, hc⟩ := own_type hA.o9 h; exact ⟨_, hc, rfl⟩, fun s x X h => by
          obtain ⟨v8, v9, ps, hs, hA⟩ := hJI _ X h
          exact hA.short x (by simp), fun pre x v X h1 h2 h3 h4 => by
          obtain ⟨i, a', n', c', h5, h6⟩ := h3
          exact YieldAt.wide (hY pre x v X h1 (by rw [h5]; rfl) ⟨h2, h4, i, a', n', c', h5, h6.base (by have := hxW.le; omega)⟩)⟩ hJ0
        ⟨LawB.ext kl hxW, rfl, hnoT _ (by omega)⟩ ⟨(Below.block hxW.bel _ (Array.getElem?_eq_some_iff.1 kw).1).trans kw, rfl, hnoT _ (by omega)⟩ ⟨(Below.block hxW.bel _ (Array.getElem?_eq_some_iff.1 kk).1).trans kk, rfl, hnoT _ (by omega)⟩ ⟨(Below.block hxW.bel _ (Array.getElem?_eq_some_iff.1 km).1).trans km, rfl, hnoT _ (by omega)⟩)
    case assign =>
      intro l v W K' hv hK'
      obtain ⟨x, y, rfl⟩ := size_two hv
      gi_wp2
      exact hK'
    case body =>
      rintro l pre x v X ⟨v8, v9, ps, hs, hA⟩ hv ⟨h80, hlong, i, a', n', c', rfl, ho⟩
      have hne := hn.out
      obtain ⟨_, _, _, hn', hv', _⟩ := OwnK.rdn Snd.len ho
      cases hv'
      have e4 := hA.r4.cell
      have e5 := hA.r5.cell
      have e6 := hA.r6.cell
      have g4 := hA.r4.frozen
      have g5 := hA.r5.frozen
      have g6 := hA.r6.frozen
      by_cases hlt : 32 < n'
      · have hlt' : (32 : Int) < (n' : Int) := by omega
        have hnone : Hid (runM L ws = none) := Lib.hid (hlong (by omega))
        clear hlong
        gi_wp2
        refine ⟨((keepsFrom_set hA.r4 _).trans (keepsFrom_set (hA.r5.other (by omega) _) _)).trans (keepsFrom_set ((hA.r6.other (by omega) _).other (by omega) _) _), rfl, ((hA.ext.setCell (by simp <;> omega) _).setCell (by simp <;> omega) _).setCell (by simp <;> omega) _, hnone.out,
          ((hA.r4.set _).other (by omega) _).other (by omega) _, ((hA.r5.other (by omega) _).set _).other (by omega) _, ((hA.r6.other (by omega) _).other (by omega) _).set _⟩
      · have hlt' : ¬ (32 : Int) < (n' : Int) := by omega
        have hx32 : Hid (x.length ≤ 32) := Lib.hid (by omega)
        clear hlong
        replace hn' := Lib.hid hn'
        gi_wp2
        obtain ⟨a8, n8, c8, hn8, rfl, _⟩ := OwnK.rdn I64.len hA.o8
        obtain ⟨a9, n9, c9, hn9, rfl, _⟩ := OwnK.rdn WH.len hA.o9
        clear hn8 hn9 e4 e5 e6 g4 g5 g6
        have hl8 := hA.l8
        have hl9 := hA.l9
        have hps : ps.length ≤ 60000 := by omega
        have hhs : hs.length ≤ 60000 := by omega
        have hXB : b9 + 1 ≤ X.heap.size := by have := hA.x9.lt; omega
        have hb2 : b8 < b9 + 1 ∧ b9 < b9 + 1 ∧ b8 ≠ b9 ∧ w.heap.size ≤ b8 ∧ w.heap.size ≤ b9 ∧ b4 ≠ b8 ∧ b4 ≠ b9 ∧ b5 ≠ b8 ∧ b5 ≠ b9 ∧ b6 ≠ b8 ∧ b6 ≠ b9 := by omega
        have hoff : ∀ b, b < b9 + 1 → ¬ ((Value.slice a8 n8 c8).ownBlock = some b ∨ (Value.slice a9 n9 c9).ownBlock = some b) := fun b hb h => by
          rcases h with h | h
          · have := (own_lt hA.o8 h).1; omega
          · have := (own_lt hA.o9 h).1; omega
        have hoff8 := hoff b8 (by omega)
        have hoff9 := hoff b9 (by omega)
        clear hoff
        have hSof : ∀ W' : World, Grw (fun k => (Value.slice a8 n8 c8).ownBlock = some k ∨ (Value.slice a9 n9 c9).ownBlock = some k) X W' → W'.cell? ⟨b8, 0, none⟩ = some (.slice a8 n8 c8) ∧ W'.cell? ⟨b9, 0, none⟩ = some (.slice a9 n9 c9) := fun W' h => ⟨(h.boxed hA.x8 hoff8).cell, (h.boxed hA.x9 hoff9).cell⟩
        have hG : Grw (fun k => (Value.slice a8 n8 c8).ownBlock = some k ∨ (Value.slice a9 n9 c9).ownBlock = some k) X X.drew := (Grw.refl _ _).ext' (Ext.refl X).drew
        have o8 := hA.o8.kept (Ext.refl X).drew
        have o9 := hA.o9.kept (Ext.refl X).drew
        have hmx : Tryz.prog.follows .mixedOrders = true := by kernel_rfl
        replace hb2 := Lib.hid hb2
        replace hl8 := Lib.hid hl8
        replace hl9 := Lib.hid hl9
        replace hne := Lib.hid hne
        refine wpIn_region_HR (fun W' : World => W'.cell? ⟨b8, 0, none⟩ = some (.slice a8 n8 c8) ∧ W'.cell? ⟨b9, 0, none⟩ = some (.slice a9 n9 c9)) [0, 1, 4, 5] hmx (by kernel_rfl) (by rintro ⟨_, _, h⟩; exact h) ?_
        show wpH _ _ _ _ _ _ 10 _ _ _
        have hS0 := hSof _ hG
        generalize X.drew = y at *
        refine wpH_take (i := 0) (v := (.slice a8 n8 c8)) rfl (by kernel_rfl) (by kernel_rfl) (by kernel_rfl) (by kernel_rfl) (by kernel_rfl) (fun _ _ _ h => h) (.inl ⟨rfl, fun W' hW' => ?_⟩) hS0 ?_
        · obtain ⟨u1, u2⟩ := hW'
          go_simp
        refine wpH_take (i := 1) (v := (.int .i64 (i : Int))) rfl (by kernel_rfl) (by kernel_rfl) (by kernel_rfl) (by kernel_rfl) (by kernel_rfl) (fun _ _ _ h => h) (.inl ⟨rfl, fun W' hW' => ?_⟩) hS0 ?_
        · go_simp
        refine wpH_take (i := 4) (v := (.slice a9 n9 c9)) rfl (by kernel_rfl) (by kernel_rfl) (by kernel_rfl) (by kernel_rfl) (by kernel_rfl) (fun _ _ _ h => h) (.inl ⟨rfl, fun W' hW' => ?_⟩) hS0 ?_
        · obtain ⟨u1, u2⟩ := hW'
          go_simp
        refine wpH_take (i := 5) (v := (.slice a' n' c')) rfl (by kernel_rfl) (by kernel_rfl) (by kernel_rfl) (by kernel_rfl) (by kernel_rfl) (fun _ _ _ h => h) (.inl ⟨rfl, fun W' hW' => ?_⟩) hS0 ?_
        · go_simp
        clear hS0
        have rd6 : True := trivial
        refine wpH_two (j := 2) (k := 6) rfl rfl (by kernel_rfl) rfl rfl (fun K hK => ?_) (fun K hK => ?_)
        · go_simp
          have hp2 := hG.size
          have rd2 := rd_lit1 (k := 1) (enc := I64.enc) y (i : Int) 3
          have hS2 := hSof _ (hG.ext' (Ext.alloc1 _ (.cells #[.int .i64 (i : Int)] 3)))
          refine hK _ _ (fun _ => hS2) ?_
          clear hK K hS2
          replace hG := hG.ext' (Ext.alloc1 _ (.cells #[.int .i64 (i : Int)] 3))
          replace o8 := o8.kept (Ext.alloc1 _ (.cells #[.int .i64 (i : Int)] 3))
          replace o9 := o9.kept (Ext.alloc1 _ (.cells #[.int .i64 (i : Int)] 3))
          try replace rd6 := rd6.ext (Ext.alloc1 y (.cells #[.int .i64 (i : Int)] 3))
          simp only [I64.enc] at rd2
          generalize y.heap.size = p2 at *
          generalize (y.alloc (.cells #[.int .i64 (i : Int)] 3)) = y at *
          refine wpH_two (j := 3) (k := 6) rfl rfl (by kernel_rfl) rfl rfl (fun K hK => ?_) (fun K hK => ?_)
          · refine op_app1 (P := Tryz.prog) (b9 + 1) y (i : Int) rfl _ _ 35 rfl 3 Tryz.underlying35 info_int2 rfl (by decide) I64.len I64.one (.slice a8 n8 c8) ps rfl o8 _ rfl rd2 (by omega) (by decide) (by have := hG.size; omega) fun v8' y q1 q2 q3 => ?_
            have hsz3 := hG.size
            replace hG := hG.step q2 (fun r e => .inl (.inl e))
            have hq8 : v8'.ownBlock = (Value.slice a8 n8 c8).ownBlock ∨ ∃ g, v8'.ownBlock = some g ∧ X.heap.size ≤ g := q3.imp id fun h => ⟨_, h, hsz3⟩
            replace o9 := own_apart o9 q2 (fun g e e2 => by
              obtain ⟨cur, h1⟩ := own_type o8 e
              obtain ⟨cur2, h2⟩ := own_type o9 e2
              rw [h1] at h2; cases h2)
            try replace rd6 := rd_apart rd6 q2 (fun e => by have := (own_lt hA.o8 e).2; omega)
            replace o8 := q1
            have hS3 := hSof _ hG
            refine hK _ _ (fun _ => hS3) ?_
            clear hK K hS3 q3 q1 q2 hsz3 rd2
            refine wpH_step (k := 6) rfl (by kernel_rfl) rfl fun K hK => ?_
            go_simp
            have hp6 := hG.size
            have rd6 := rd_lit1 (k := 1) (enc := WH.enc) y ⟨a', n', c'⟩ 40
            have hS2 := hSof _ (hG.ext' (Ext.alloc1 _ (.cells #[.slice a' n' c'] 40)))
            refine hK _ _ (fun _ => hS2) ?_
            clear hK K hS2
            replace hG := hG.ext' (Ext.alloc1 _ (.cells #[.slice a' n' c'] 40))
            replace o8 := o8.kept (Ext.alloc1 _ (.cells #[.slice a' n' c'] 40))
            replace o9 := o9.kept (Ext.alloc1 _ (.cells #[.slice a' n' c'] 40))
            try replace rd2 := rd2.ext (Ext.alloc1 y (.cells #[.slice a' n' c'] 40))
            simp only [WH.enc] at rd6
            generalize y.heap.size = p6 at *
            generalize (y.alloc (.cells #[.slice a' n' c'] 40)) = y at *
            refine wpH_step (k := 7) rfl (by kernel_rfl) rfl fun K hK => ?_
            refine op_app1 (P := Tryz.prog) (b9 + 1) y (⟨a', n', c'⟩ : WH) rfl _ _ 99 rfl 40 Tryz.underlying99 info_wh rfl (by decide) WH.len WH.one (.slice a9 n9 c9) hs rfl o9 _ rfl rd6 (by omega) (by decide) (by have := hG.size; omega) fun v9' y q1 q2 q3 => ?_
            have hsz3 := hG.size
            replace hG := hG.step q2 (fun r e => .inl (.inr e))
            have hq9 : v9'.ownBlock = (Value.slice a9 n9 c9).ownBlock ∨ ∃ g, v9'.ownBlock = some g ∧ X.heap.size ≤ g := q3.imp id fun h => ⟨_, h, hsz3⟩
            replace o8 := own_apart o8 q2 (fun g e e2 => by
              obtain ⟨cur, h1⟩ := own_type o9 e
              obtain ⟨cur2, h2⟩ := own_type o8 e2
              rw [h1] at h2; cases h2)
            replace o9 := q1
            refine hK _ _ (needA_no (by kernel_rfl)) ?_
            clear hK K
            clear q3 q1 q2 hsz3 rd6 hSof
            obtain ⟨a8', n8', c8', hz8, rfl, _⟩ := OwnK.rdn I64.len o8
            obtain ⟨a9', n9', c9', hz9, rfl, _⟩ := OwnK.rdn WH.len o9
            clear hz8 hz9
            have k8 := hG.boxed hA.x8 hoff8
            have k9 := hG.boxed hA.x9 hoff9
            have e8 := k8.cell
            have f8 := k8.frozen
            have e9 := k9.cell
            have f9 := k9.frozen
            refine wpH_step (k := 8) rfl (by kernel_rfl) rfl fun K hK => ?_
            go_simp
            refine hK _ _ (needA_no (by kernel_rfl)) ?_
            clear hK K
            have j9 := k9.other (B' := b8) (fun e => hb2.out.2.2.1 e.symm) (.slice a8' n8' c8')
            have e9' := j9.cell
            have f9' := j9.frozen
            refine wpH_step (k := 9) rfl (by kernel_rfl) rfl fun K hK => ?_
            go_simp
            refine hK _ _ (needA_no (by kernel_rfl)) ?_
            clear hK K
            refine wpH_last (by kernel_rfl) ?_
            exact tr_end hA hnb.out hb2.out hG o8 o9 hq8 hq9 ho hx32.out _
          · go_simp
            have hp6 := hG.size
            have rd6 := rd_lit1 (k := 1) (enc := WH.enc) y ⟨a', n', c'⟩ 40
            have hS2 := hSof _ (hG.ext' (Ext.alloc1 _ (.cells #[.slice a' n' c'] 40)))
            refine hK _ _ (fun _ => hS2) ?_
            clear hK K hS2
            replace hG := hG.ext' (Ext.alloc1 _ (.cells #[.slice a' n' c'] 40))
            replace o8 := o8.kept (Ext.alloc1 _ (.cells #[.slice a' n' c'] 40))
            replace o9 := o9.kept (Ext.alloc1 _ (.cells #[.slice a' n' c'] 40))
            try replace rd2 := rd2.ext (Ext.alloc1 y (.cells #[.slice a' n' c'] 40))
            simp only [WH.enc] at rd6
            generalize y.heap.size = p6 at *
            generalize (y.alloc (.cells #[.slice a' n' c'] 40)) = y at *
            refine wpH_step (k := 3) rfl (by kernel_rfl) rfl fun K hK => ?_
            refine op_app1 (P := Tryz.prog) (b9 + 1) y (i : Int) rfl _ _ 35 rfl 3 Tryz.underlying35 info_int2 rfl (by decide) I64.len I64.one (.slice a8 n8 c8) ps rfl o8 _ rfl rd2 (by omega) (by decide) (by have := hG.size; omega) fun v8' y q1 q2 q3 => ?_
            have hsz3 := hG.size
            replace hG := hG.step q2 (fun r e => .inl (.inl e))
            have hq8 : v8'.ownBlock = (Value.slice a8 n8 c8).ownBlock ∨ ∃ g, v8'.ownBlock = some g ∧ X.heap.size ≤ g := q3.imp id fun h => ⟨_, h, hsz3⟩
            replace o9 := own_apart o9 q2 (fun g e e2 => by
              obtain ⟨cur, h1⟩ := own_type o8 e
              obtain ⟨cur2, h2⟩ := own_type o9 e2
              rw [h1] at h2; cases h2)
            try replace rd6 := rd_apart rd6 q2 (fun e => by have := (own_lt hA.o8 e).2; omega)
            replace o8 := q1
            have hS3 := hSof _ hG
            refine hK _ _ (fun _ => hS3) ?_
            clear hK K hS3 q3 q1 q2 hsz3 rd2
            refine wpH_step (k := 7) rfl (by kernel_rfl) rfl fun K hK => ?_
            refine op_app1 (P := Tryz.prog) (b9 + 1) y (⟨a', n', c'⟩ : WH) rfl _ _ 99 rfl 40 Tryz.underlying99 info_wh rfl (by decide) WH.len WH.one (.slice a9 n9 c9) hs rfl o9 _ rfl rd6 (by omega) (by decide) (by have := hG.size; omega) fun v9' y q1 q2 q3 => ?_
            have hsz3 := hG.size
            replace hG := hG.step q2 (fun r e => .inl (.inr e))
            have hq9 : v9'.ownBlock = (Value.slice a9 n9 c9).ownBlock ∨ ∃ g, v9'.ownBlock = some g ∧ X.heap.size ≤ g := q3.imp id fun h => ⟨_, h, hsz3⟩
            replace o8 := own_apart o8 q2 (fun g e e2 => by
              obtain ⟨cur, h1⟩ := own_type o9 e
              obtain ⟨cur2, h2⟩ := own_type o8 e2
              rw [h1] at h2; cases h2)
            replace o9 := q1
            refine hK _ _ (needA_no (by kernel_rfl)) ?_
            clear hK K
            clear q3 q1 q2 hsz3 rd6 hSof
            obtain ⟨a8', n8', c8', hz8, rfl, _⟩ := OwnK.rdn I64.len o8
            obtain ⟨a9', n9', c9', hz9, rfl, _⟩ := OwnK.rdn WH.len o9
            clear hz8 hz9
            have k8 := hG.boxed hA.x8 hoff8
            have k9 := hG.boxed hA.x9 hoff9
            have e8 := k8.cell
            have f8 := k8.frozen
            have e9 := k9.cell
            have f9 := k9.frozen
            refine wpH_step (k := 8) rfl (by kernel_rfl) rfl fun K hK => ?_
            go_simp
            refine hK _ _ (needA_no (by kernel_rfl)) ?_
            clear hK K
            have j9 := k9.other (B' := b8) (fun e => hb2.out.2.2.1 e.symm) (.slice a8' n8' c8')
            have e9' := j9.cell
            have f9' := j9.frozen
            refine wpH_step (k := 9) rfl (by kernel_rfl) rfl fun K hK => ?_
            go_simp
            refine hK _ _ (needA_no (by kernel_rfl)) ?_
            clear hK K
            refine wpH_last (by kernel_rfl) ?_
            exact tr_end hA hnb.out hb2.out hG o8 o9 hq8 hq9 ho hx32.out _
        · have rd2 : True := trivial
          go_simp
          have hp6 := hG.size
          have rd6 := rd_lit1 (k := 1) (enc := WH.enc) y ⟨a', n', c'⟩ 40
          have hS2 := hSof _ (hG.ext' (Ext.alloc1 _ (.cells #[.slice a' n' c'] 40)))
          refine hK _ _ (fun _ => hS2) ?_
          clear hK K hS2
          replace hG := hG.ext' (Ext.alloc1 _ (.cells #[.slice a' n' c'] 40))
          replace o8 := o8.kept (Ext.alloc1 _ (.cells #[.slice a' n' c'] 40))
          replace o9 := o9.kept (Ext.alloc1 _ (.cells #[.slice a' n' c'] 40))
          try replace rd2 := rd2.ext (Ext.alloc1 y (.cells #[.slice a' n' c'] 40))
          simp only [WH.enc] at rd6
          generalize y.heap.size = p6 at *
          generalize (y.alloc (.cells #[.slice a' n' c'] 40)) = y at *
          refine wpH_step (k := 2) rfl (by kernel_rfl) rfl fun K hK => ?_
          go_simp
          have hp2 := hG.size
          have rd2 := rd_lit1 (k := 1) (enc := I64.enc) y (i : Int) 3
          have hS2 := hSof _ (hG.ext' (Ext.alloc1 _ (.cells #[.int .i64 (i : Int)] 3)))
          refine hK _ _ (fun _ => hS2) ?_
          clear hK K hS2
          replace hG := hG.ext' (Ext.alloc1 _ (.cells #[.int .i64 (i : Int)] 3))
          replace o8 := o8.kept (Ext.alloc1 _ (.cells #[.int .i64 (i : Int)] 3))
          replace o9 := o9.kept (Ext.alloc1 _ (.cells #[.int .i64 (i : Int)] 3))
          try replace rd6 := rd6.ext (Ext.alloc1 y (.cells #[.int .i64 (i : Int)] 3))
          simp only [I64.enc] at rd2
          generalize y.heap.size = p2 at *
          generalize (y.alloc (.cells #[.int .i64 (i : Int)] 3)) = y at *
          refine wpH_step (k := 3) rfl (by kernel_rfl) rfl fun K hK => ?_
          refine op_app1 (P := Tryz.prog) (b9 + 1) y (i : Int) rfl _ _ 35 rfl 3 Tryz.underlying35 info_int2 rfl (by decide) I64.len I64.one (.slice a8 n8 c8) ps rfl o8 _ rfl rd2 (by omega) (by decide) (by have := hG.size; omega) fun v8' y q1 q2 q3 => ?_
          have hsz3 := hG.size
          replace hG := hG.step q2 (fun r e => .inl (.inl e))
          have hq8 : v8'.ownBlock = (Value.slice a8 n8 c8).ownBlock ∨ ∃ g, v8'.ownBlock = some g ∧ X.heap.size ≤ g := q3.imp id fun h => ⟨_, h, hsz3⟩
          replace o9 := own_apart o9 q2 (fun g e e2 => by
            obtain ⟨cur, h1⟩ := own_type o8 e
            obtain ⟨cur2, h2⟩ := own_type o9 e2
            rw [h1] at h2; cases h2)
          try replace rd6 := rd_apart rd6 q2 (fun e => by have := (own_lt hA.o8 e).2; omega)
          replace o8 := q1
          have hS3 := hSof _ hG
          refine hK _ _ (fun _ => hS3) ?_
          clear hK K hS3 q3 q1 q2 hsz3 rd2
          refine wpH_step (k := 7) rfl (by kernel_rfl) rfl fun K hK => ?_
          refine op_app1 (P := Tryz.prog) (b9 + 1) y (⟨a', n', c'⟩ : WH) rfl _ _ 99 rfl 40 Tryz.underlying99 info_wh rfl (by decide) WH.len WH.one (.slice a9 n9 c9) hs rfl o9 _ rfl rd6 (by omega) (by decide) (by have := hG.size; omega) fun v9' y q1 q2 q3 => ?_
          have hsz3 := hG.size
          replace hG := hG.step q2 (fun r e => .inl (.inr e))
          have hq9 : v9'.ownBlock = (Value.slice a9 n9 c9).ownBlock ∨ ∃ g, v9'.ownBlock = some g ∧ X.heap.size ≤ g := q3.imp id fun h => ⟨_, h, hsz3⟩
          replace o8 := own_apart o8 q2 (fun g e e2 => by
            obtain ⟨cur, h1⟩ := own_type o9 e
            obtain ⟨cur2, h2⟩ := own_type o8 e2
            rw [h1] at h2; cases h2)
          replace o9 := q1
          refine hK _ _ (needA_no (by kernel_rfl)) ?_
          clear hK K
          clear q3 q1 q2 hsz3 rd6 hSof
          obtain ⟨a8', n8', c8', hz8, rfl, _⟩ := OwnK.rdn I64.len o8
          obtain ⟨a9', n9', c9', hz9, rfl, _⟩ := OwnK.rdn WH.len o9
          clear hz8 hz9
          have k8 := hG.boxed hA.x8 hoff8
          have k9 := hG.boxed hA.x9 hoff9
          have e8 := k8.cell
          have f8 := k8.frozen
          have e9 := k9.cell
          have f9 := k9.frozen
          refine wpH_step (k := 8) rfl (by kernel_rfl) rfl fun K hK => ?_
          go_simp
          refine hK _ _ (needA_no (by kernel_rfl)) ?_
          clear hK K
          have j9 := k9.other (B' := b8) (fun e => hb2.out.2.2.1 e.symm) (.slice a8' n8' c8')
          have e9' := j9.cell
          have f9' := j9.frozen
          refine wpH_step (k := 9) rfl (by kernel_rfl) rfl fun K hK => ?_
          go_simp
          refine hK _ _ (needA_no (by kernel_rfl)) ?_
          clear hK K
          refine wpH_last (by kernel_rfl) ?_
          exact tr_end hA hnb.out hb2.out hG o8 o9 hq8 hq9 ho hx32.out _
    case done =>
      rintro D s W hD hfin ⟨v8, v9, ps, hs, hA⟩ hDX
      have hne := hn.out
      have hres : Hid ((hs = [] ∧ runM L ws = some ws) ∨ ∃ hs' h x, hs = hs' ++ [h] ∧ runM L ws = some x ∧ OwnS (b9 + 1) 52 W h.v x) := Lib.hid (by
        rcases List.eq_nil_or_concat s with rfl | ⟨s', x, rfl⟩
        · exact .inl ⟨List.eq_nil_of_length_eq_zero hA.l9, hfin⟩
        · rw [List.concat_eq_append] at *
          obtain ⟨hs', h, e1, e2⟩ := hA.last s' x rfl
          rw [lastW_snoc] at hfin
          exact .inr ⟨hs', h, x, e1, hfin, e2⟩)
      replace hfin := Lib.hid hfin
      gi_wp2
      obtain ⟨a8, n8, c8, hn8, rfl, _⟩ := OwnK.rdn I64.len hA.o8
      clear hn8
      obtain ⟨a9, n9, c9, hn9, rfl, rd9⟩ := OwnK.rdn WH.len hA.o9
      replace hn9 := Lib.hid hn9
      have hmx : Tryz.prog.follows .mixedOrders = true := by kernel_rfl
      refine region_only ?_
      refine wpIn_region_HW (fun W' : World => W'.cell? ⟨b8, 0, none⟩ = some (.slice a8 n8 c8) ∧ W'.cell? ⟨b9, 0, none⟩ = some (.slice a9 n9 c9)) [0, 1] hmx (by kernel_rfl) (by rintro ⟨_, _, h⟩; exact h) ?_
      show wpH _ _ _ _ _ _ 5 _ _ _
      have x8 : Boxed W.drew b8 35 (.slice a8 n8 c8) := hA.x8
      have x9 : Boxed W.drew b9 99 (.slice a9 n9 c9) := hA.x9
      have k4 : Boxed W.drew b4 35 (.slice none 0 0) := hA.r4
      have k5 : Boxed W.drew b5 99 (.slice none 0 0) := hA.r5
      have k6 : Boxed W.drew b6 32 (.int .i64 0) := hA.r6
      have hxd : Ext w W.drew := hA.ext.drew
      have o9 : OwnK 1 WH.enc (b9 + 1) 40 W.drew (.slice a9 n9 c9) hs := hA.o9.kept (Ext.refl W).drew
      have hr2 : Hid ((hs = [] ∧ runM L ws = some ws) ∨ ∃ hs' h x, hs = hs' ++ [h] ∧ runM L ws = some x ∧ OwnS (b9 + 1) 52 W.drew h.v x) := Lib.hid (hres.out.imp id fun ⟨hs', h, x, e1, e2, e3⟩ => ⟨hs', h, x, e1, e2, e3.kept (Ext.refl W).drew⟩)
      have hDd : W.drew.heap[D]? = some (.deferred (some [])) := hDX
      clear hA hDX hres rd9
      generalize W.drew = wd at *
      have hS0 : (fun W' : World => W'.cell? ⟨b8, 0, none⟩ = some (.slice a8 n8 c8) ∧ W'.cell? ⟨b9, 0, none⟩ = some (.slice a9 n9 c9)) wd := ⟨x8.cell, x9.cell⟩
      refine wpH_take (i := 0) (v := (.slice a8 n8 c8)) rfl (by kernel_rfl) (by kernel_rfl) (by kernel_rfl) (by kernel_rfl) (by kernel_rfl) (fun _ _ _ h => h) (.inl ⟨rfl, fun W' hW' => ?_⟩) hS0 ?_
      · obtain ⟨u1, u2⟩ := hW'
        go_simp
      refine wpH_take (i := 1) (v := (.slice a9 n9 c9)) rfl (by kernel_rfl) (by kernel_rfl) (by kernel_rfl) (by kernel_rfl) (by kernel_rfl) (fun _ _ _ h => h) (.inl ⟨rfl, fun W' hW' => ?_⟩) hS0 ?_
      · obtain ⟨u1, u2⟩ := hW'
        go_simp
      have e4 := k4.cell
      have g4 := k4.frozen
      have e5 := k5.cell
      have g5 := k5.frozen
      have e6 := k6.cell
      have g6 := k6.frozen
      refine wpH_step (k := 2) rfl (by kernel_rfl) rfl fun K hK => ?_
      go_simp
      refine hK _ _ (fun _ => ⟨cellv_set x8.cell (by omega), cellv_set x9.cell (by omega)⟩) ?_
      clear hK K
      refine wpH_step (k := 3) rfl (by kernel_rfl) rfl fun K hK => ?_
      go_simp
      refine hK _ _ (needA_no (by kernel_rfl)) ?_
      clear hK K
      refine wpH_step (k := 4) rfl (by kernel_rfl) rfl fun K hK => ?_
      go_simp
      refine hK _ _ (needA_no (by kernel_rfl)) ?_
      clear hK K
      refine wpH_last (by kernel_rfl) ?_
      have q4 : Boxed (((wd.setCell ⟨b4, 0, none⟩ (.slice a8 n8 c8)).setCell ⟨b5, 0, none⟩ (.slice a9 n9 c9)).setCell ⟨b6, 0, none⟩ (.int .i64 0)) b4 35 (.slice a8 n8 c8) := ((k4.set _).other (by omega) _).other (by omega) _
      have q5 : Boxed (((wd.setCell ⟨b4, 0, none⟩ (.slice a8 n8 c8)).setCell ⟨b5, 0, none⟩ (.slice a9 n9 c9)).setCell ⟨b6, 0, none⟩ (.int .i64 0)) b5 99 (.slice a9 n9 c9) := ((k5.other (by omega) _).set _).other (by omega) _
      have q6 : Boxed (((wd.setCell ⟨b4, 0, none⟩ (.slice a8 n8 c8)).setCell ⟨b5, 0, none⟩ (.slice a9 n9 c9)).setCell ⟨b6, 0, none⟩ (.int .i64 0)) b6 32 (.int .i64 0) := ((k6.other (by omega) _).other (by omega) _).set _
      have qx : Ext w (((wd.setCell ⟨b4, 0, none⟩ (.slice a8 n8 c8)).setCell ⟨b5, 0, none⟩ (.slice a9 n9 c9)).setCell ⟨b6, 0, none⟩ (.int .i64 0)) := ((hxd.setCell (by simp <;> omega) _).setCell (by simp <;> omega) _).setCell (by simp <;> omega) _
      have qo : OwnK 1 WH.enc (b9 + 1) 40 (((wd.setCell ⟨b4, 0, none⟩ (.slice a8 n8 c8)).setCell ⟨b5, 0, none⟩ (.slice a9 n9 c9)).setCell ⟨b6, 0, none⟩ (.int .i64 0)) (.slice a9 n9 c9) hs := own_setOff (own_setOff (own_setOff o9 fun e => by have := (own_lt o9 e).1; omega) fun e => by have := (own_lt o9 e).1; omega) fun e => by have := (own_lt o9 e).1; omega
      have qr : Hid ((hs = [] ∧ runM L ws = some ws) ∨ ∃ hs' h x, hs = hs' ++ [h] ∧ runM L ws = some x ∧ OwnS (b9 + 1) 52 (((wd.setCell ⟨b4, 0, none⟩ (.slice a8 n8 c8)).setCell ⟨b5, 0, none⟩ (.slice a9 n9 c9)).setCell ⟨b6, 0, none⟩ (.int .i64 0)) h.v x) := Lib.hid (hr2.out.imp id fun ⟨hs', h, x, e1, e2, e3⟩ => ⟨hs', h, x, e1, e2, own_setOff (own_setOff (own_setOff e3 fun e => by have := (own_lt e3 e).1; omega) fun e => by have := (own_lt e3 e).1; omega) fun e => by have := (own_lt e3 e).1; omega⟩)
      have hD4 : D ≠ b4 ∧ D ≠ b5 ∧ D ≠ b6 := by omega
      have hDe : (((wd.setCell ⟨b4, 0, none⟩ (.slice a8 n8 c8)).setCell ⟨b5, 0, none⟩ (.slice a9 n9 c9)).setCell ⟨b6, 0, none⟩ (.int .i64 0)).heap[D]? = some (.deferred (some [])) := by
        have h0 := (Array.getElem?_eq_some_iff.1 hDd).1
        have h1 := ((grownBy_set wd b4 0 (.slice a8 n8 c8)).block D h0 fun e => hD4.1 (by cases e; rfl)).trans hDd
        have h2 := ((grownBy_set _ b5 0 (.slice a9 n9 c9)).block D (Array.getElem?_eq_some_iff.1 h1).1 fun e => hD4.2.1 (by cases e; rfl)).trans h1
        exact ((grownBy_set _ b6 0 (.int .i64 0)).block D (Array.getElem?_eq_some_iff.1 h2).1 fun e => hD4.2.2 (by cases e; rfl)).trans h2
      generalize (((wd.setCell ⟨b4, 0, none⟩ (.slice a8 n8 c8)).setCell ⟨b5, 0, none⟩ (.slice a9 n9 c9)).setCell ⟨b6, 0, none⟩ (.int .i64 0)) = we at *
      have hDw : w.heap.size ≤ D := by omega
      clear hxd o9 hr2 hDd e4 g4 e5 g5 e6 g6 k4 k5 k6 x8 x9 hS0
      gi_wp2
      refine leaves_marksS (fun W => Ext w W ∧ Boxed W b4 35 (.slice a8 n8 c8) ∧ Boxed W b5 99 (.slice a9 n9 c9) ∧ Boxed W b6 32 (.int .i64 0) ∧ OwnK 1 WH.enc (b9 + 1) 40 W (.slice a9 n9 c9) hs ∧ Hid ((hs = [] ∧ runM L ws = some ws) ∨ ∃ hs' h x, hs = hs' ++ [h] ∧ runM L ws = some x ∧ OwnS (b9 + 1) 52 W h.v x)) [D] _ (by simp) (fun E hE => by rw [List.mem_singleton.1 hE]; exact hDe) ⟨qx, q4, q5, q6, qo, qr⟩ (fun W E o hs hE hd => ?_) fun w' hs => ?_
      · rw [List.mem_singleton.1 hE] at *
        have hq : ∀ b t v, Boxed W b t v → some b ≠ some D := fun b t v hb e => by
          cases e
          rw [show W.heap[D]? = _ from hb] at hd; cases hd
        exact ⟨hs.1.grown (grownBy_putObj' W D o) fun r e => by cases e; exact hDw, hs.2.1.kept (grownBy_putObj' W D o) (hq _ _ _ hs.2.1), hs.2.2.1.kept (grownBy_putObj' W D o) (hq _ _ _ hs.2.2.1), hs.2.2.2.1.kept (grownBy_putObj' W D o) (hq _ _ _ hs.2.2.2.1),
          own_putObj hs.2.2.2.2.1 hd, Lib.hid (hs.2.2.2.2.2.out.imp id fun ⟨hs', h, x, e1, e2, e3⟩ => ⟨hs', h, x, e1, e2, own_putObj e3 hd⟩)⟩
      · refine ⟨_, results_tr rfl _ _ _ _ _ _ _ _ rfl rfl rfl hs.2.1.cell hs.2.2.1.cell hs.2.2.2.1.cell, ?_⟩
        obtain ⟨_, _, _, hn2, hv2, hrd⟩ := OwnK.rdn WH.len hs.2.2.2.2.1
        cases hv2
        refine ⟨_, _, _, _, _, rfl, hs.1, Lib.hid ⟨fun _ => ⟨⟨hok, hwok⟩, ?_⟩, fun _ => rfl⟩, Lib.hid fun _ => ?_⟩
        · rcases hs.2.2.2.2.2.out with ⟨_, h⟩ | ⟨_, _, _, _, h, _⟩ <;> rw [h] <;> rfl
        · rcases hs.2.2.2.2.2.out with ⟨h1, h2⟩ | ⟨hs', h, x, h1, h2, h3⟩
          · exact .inl ⟨by rw [hn2, h1]; rfl, h2⟩
          · refine .inr ⟨hs', h, x, by rw [hn2, h1, List.length_append]; rfl, by rw [← h1]; exact hrd, h2, h3.base (by omega)⟩
    case stop =>
      rintro D c pre W hD ⟨rfl, hx, hnone, k4, k5, k6⟩ hDX
      have hne := hn.out
      replace hnone := Lib.hid hnone
      have hDw : w.heap.size ≤ D := by omega
      gi_wp2
      refine leaves_marksS (fun W => Ext w W ∧ Boxed W b4 35 (.slice none 0 0) ∧ Boxed W b5 99 (.slice none 0 0) ∧ Boxed W b6 32 (.int .i64 11)) [D] _ (by simp) (fun E hE => by rw [List.mem_singleton.1 hE]; exact hDX) ⟨hx, k4, k5, k6⟩ (fun W E o hs hE hd => ?_) fun w' hs => ?_
      · rw [List.mem_singleton.1 hE] at *
        have hq : ∀ b t v, Boxed W b t v → some b ≠ some D := fun b t v hb e => by
          cases e
          rw [show W.heap[D]? = _ from hb] at hd; cases hd
        exact ⟨hs.1.grown (grownBy_putObj' W D o) fun r e => by cases e; exact hDw, hs.2.1.kept (grownBy_putObj' W D o) (hq _ _ _ hs.2.1), hs.2.2.1.kept (grownBy_putObj' W D o) (hq _ _ _ hs.2.2.1), hs.2.2.2.kept (grownBy_putObj' W D o) (hq _ _ _ hs.2.2.2)⟩
      · refine ⟨_, results_tr rfl _ _ _ _ _ _ _ _ rfl rfl rfl hs.2.1.cell hs.2.2.1.cell hs.2.2.2.cell, ?_⟩
        exact ⟨_, _, _, _, _, rfl, hs.1, Lib.hid ⟨fun h => (by cases h), fun h => (by rw [hnone.out] at h; cases h.2)⟩, Lib.hid fun h => (by cases h)⟩
  · have hfin : Hid (¬ (bothE L ws = 0)) := Lib.hid hb
    gi_wp2
    have q4 : Boxed (((w5.setCell ⟨w.heap.size + 1, 0, none⟩ (.slice none 0 0)).setCell ⟨w.heap.size + 1 + 1, 0, none⟩ (.slice none 0 0)).setCell ⟨w.heap.size + 1 + 1 + 1, 0, none⟩ (.int .i64 (bothE L ws))) (w.heap.size + 1) 35 (.slice none 0 0) := ((z4.set _).other (by omega) _).other (by omega) _
    have q5 : Boxed (((w5.setCell ⟨w.heap.size + 1, 0, none⟩ (.slice none 0 0)).setCell ⟨w.heap.size + 1 + 1, 0, none⟩ (.slice none 0 0)).setCell ⟨w.heap.size + 1 + 1 + 1, 0, none⟩ (.int .i64 (bothE L ws))) (w.heap.size + 1 + 1) 99 (.slice none 0 0) := ((z5.other (by omega) _).set _).other (by omega) _
    have q6 : Boxed (((w5.setCell ⟨w.heap.size + 1, 0, none⟩ (.slice none 0 0)).setCell ⟨w.heap.size + 1 + 1, 0, none⟩ (.slice none 0 0)).setCell ⟨w.heap.size + 1 + 1 + 1, 0, none⟩ (.int .i64 (bothE L ws))) (w.heap.size + 1 + 1 + 1) 32 (.int .i64 (bothE L ws)) := ((z6.other (by omega) _).other (by omega) _).set _
    refine ⟨_, results_tr rfl _ _ _ _ _ _ _ _ rfl rfl rfl q4.cell q5.cell q6.cell, ?_⟩
    exact ⟨_, _, _, _, _, rfl, ((hX5.setCell (by simp) _).setCell (by simp <;> omega) _).setCell (by simp <;> omega) _, Lib.hid ⟨fun h => absurd h hfin.out, fun h => bothE_zero.2 h.1⟩, Lib.hid fun h => absurd h hfin.out⟩
end Go.Proofs.YtadncjpknckaaaaGreatDoor
