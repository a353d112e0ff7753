/-
  The net: places with links; place, join.
-/
import Derived.Test.YtilkemdecenibaaU1
import Derived.Deep.RegionLaw
import Derived.Deep.RegionHeld3
import Derived.Maps.AppendAt
namespace Go.Proofs.Ytilkemdecenibaa
open Go.RowKit
/-! ### append of one element as a step of a region, and where the new row lies -/
theorem step_app1 {α : Type} {k : Nat} {enc : α → List Value} {P : Program} {ops : Array Oper} {o : Oper} {a : Act} {Q : Exit → Act → World → Prop} {E : Prop} {K : Act → World → Prop} (B : Nat) (w : World) (y : α) (hgd : o.guard = none) (s x : Operand) (t : TypeId)
    (ho : o.op = .call { callee := .builtin .append, args := #[s, x], argTypes := #[t, t] }) (e : TypeId) (ht : P.underlying t = some (.slice e)) {z : Value} {bytes : Nat}
    (hinf : (P.info? e).map (fun i => (i.zero, i.size, i.bytes)) = some (some z, k, bytes)) (hzs : z.cells.size = k) (hk0 : 0 < k) (hk : ∀ x, (enc x).length = k) (h1 : ∀ x, ∀ u ∈ enc x, u.oneCell' = true)
    (v : Value) (xs : List α) (hs : a.eval s = v) (hown : OwnK k enc B e w v xs) (ad : Addr) (hx : a.eval x = .slice (some ad) 1 1) (hrd : RdK k enc w (some ad) 1 1 [y]) (hN : xs.length ≤ 60000) (hb : bytes ≤ 1000) (hB : B ≤ w.heap.size)
    (h : ∀ v' w', OwnK k enc B e w' v' (xs ++ [y]) → w.grownBy w' v.ownBlock → (v'.ownBlock = v.ownBlock ∨ v'.ownBlock = some w.heap.size) → K (a.put o.dst v') w') :
    if Region.wanted o (yielded ops a.tmps) = true then Oper.wp P o a w K Q else E := by
  have hw : Region.wanted o (yielded ops a.tmps) = true := by simp [Region.wanted, hgd]
  rw [if_pos hw]
  obtain ⟨i, hi, hz0, hz1, hz2⟩ := info_parts hinf
  have h1' : ∀ u ∈ [y].flatMap enc, u.oneCell' = true := fun u hu => by
    obtain ⟨z, _, hz⟩ := List.mem_flatMap.1 hu
    exact h1 z u hz
  have hbb : (xs.length + 1) * bytes ≤ 60001 * 1000 := Nat.mul_le_mul (by omega) hb
  obtain ⟨v', w', hr, h2, h3, _, h5⟩ := run_append_own_at (P := P) (w := w) B t o.type e i z k bytes ht hi hz0 hz1 hz2 hzs hk0 v xs.length (xs.flatMap enc) hown ad 1 1 ([y].flatMap enc) (by simp [hk]) (hrd.cells hk hk0) h1' (by unfold maxLen; omega) (by omega) hB
  unfold Oper.wp execOp
  simp only [ho, resolve, invoke, builtin, Sem.run_bind, Sem.run_pure, Result.andThen_ok, List.map_toArray, List.map_cons, List.map_nil, hs, hx, hr]
  exact h v' w' (OwnK.of_row h2 (by simp) (by simp)) h3 h5
theorem op_app1 {α : Type} {k : Nat} {enc : α → List Value} {P : Program} {o : Oper} {a : Act} {Q : Exit → Act → World → Prop} {K : Act → World → Prop} (B : Nat) (w : World) (y : α) (hgd : o.guard = none) (s x : Operand) (t : TypeId)
    (ho : o.op = .call { callee := .builtin .append, args := #[s, x], argTypes := #[t, t] }) (e : TypeId) (ht : P.underlying t = some (.slice e)) {z : Value} {bytes : Nat}
    (hinf : (P.info? e).map (fun i => (i.zero, i.size, i.bytes)) = some (some z, k, bytes)) (hzs : z.cells.size = k) (hk0 : 0 < k) (hk : ∀ x, (enc x).length = k) (h1 : ∀ x, ∀ u ∈ enc x, u.oneCell' = true)
    (v : Value) (xs : List α) (hs : a.eval s = v) (hown : OwnK k enc B e w v xs) (ad : Addr) (hx : a.eval x = .slice (some ad) 1 1) (hrd : RdK k enc w (some ad) 1 1 [y]) (hN : xs.length ≤ 60000) (hb : bytes ≤ 1000) (hB : B ≤ w.heap.size)
    (h : ∀ v' w', OwnK k enc B e w' v' (xs ++ [y]) → w.grownBy w' v.ownBlock → (v'.ownBlock = v.ownBlock ∨ v'.ownBlock = some w.heap.size) → K (a.put o.dst v') w') : Oper.wp P o a w K Q := by
  have h2 := step_app1 (P := P) (ops := #[]) (o := o) (a := a) (Q := Q) (E := True) (K := K) B w y hgd s x t ho e ht hinf hzs hk0 hk h1 v xs hs hown ad hx hrd hN hb hB h
  rwa [if_pos (by simp [Region.wanted, hgd])] at h2
/-! ### The net -/
abbrev Lk := Nat × HP
def Lk.enc (x : Lk) : List Value := .int .i64 (x.1 : Int) :: HP.enc x.2
theorem Lk.len (x : Lk) : (Lk.enc x).length = 8 := rfl
theorem Lk.one (x : Lk) : ∀ u ∈ Lk.enc x, u.oneCell' = true := by
  intro u hu
  rcases List.mem_cons.1 hu with rfl | hu
  · rfl
  · exact HP.one _ u hu
/-- A row of links: its header, and the links. -/
structure RW where
  a : Option Addr
  n : Nat
  cap : Nat
  x : List Lk
def RW.enc (h : RW) : List Value := [.slice h.a h.n h.cap]
theorem RW.len (h : RW) : (RW.enc h).length = 1 := rfl
theorem RW.one (h : RW) : ∀ u ∈ RW.enc h, u.oneCell' = true := by intro u hu; simp [RW.enc] at hu; subst hu; rfl
def RW.v (h : RW) : Value := .slice h.a h.n h.cap
abbrev Net := List (List Lk)
theorem info_lk : (Try.prog.info? 161).map (fun i => (i.zero, i.size, i.bytes)) = some (some (.agg #[.int .i64 0, .int .i64 0, .int .u32 0, .int .u32 0, .bool false, .int .i64 0, .int .i64 0, .slice none 0 0]), 8, 72) := by kernel_rfl
theorem info_lks : (Try.prog.info? 159).map (fun i => (i.zero, i.size, i.bytes)) = some (some (.slice none 0 0), 1, 24) := by kernel_rfl
structure NetAt (B Bg : Nat) (w : World) (v : Value) (hs : List RW) : Prop where
  box : w.heap[Bg]? = some (.cells #[v] 115 (0, 0))
  own : OwnK 1 RW.enc B 159 w v hs
  row : ∀ h ∈ hs, OwnK 8 Lk.enc B 161 w h.v h.x
  apart : ∀ (i j : Nat) (h k : RW) (g : Nat), hs[i]? = some h → hs[j]? = some k → i ≠ j → h.v.ownBlock = some g → k.v.ownBlock ≠ some g
theorem NetAt.kept {B Bg : Nat} {w w' : World} {v : Value} {hs : List RW} (h : NetAt B Bg w v hs) (hx : Ext w w') : NetAt B Bg w' v hs :=
  ⟨blk_kept h.box hx, h.own.kept hx, fun y hy => (h.row y hy).kept hx, h.apart⟩
/-- Nothing but nets has turned. -/
structure NetK (w w' : World) : Prop where
  size : w.heap.size ≤ w'.heap.size
  blk : ∀ (b : Nat) (cs : Array Value) (e : Nat) (fr : Nat × Nat), w.heap[b]? = some (.cells cs e fr) → e ≠ 115 → e ≠ 159 → e ≠ 161 → w'.heap[b]? = some (.cells cs e fr)
theorem NetK.refl (w : World) : NetK w w := ⟨Nat.le_refl _, fun _ _ _ _ h _ _ _ => h⟩
theorem NetK.trans {a b c : World} (h : NetK a b) (k : NetK b c) : NetK a c := ⟨Nat.le_trans h.size k.size, fun x cs e fr h1 h2 h3 h4 => k.blk x cs e fr (h.blk x cs e fr h1 h2 h3 h4) h2 h3 h4⟩
theorem NetK.ext {w w' : World} (h : Ext w w') : NetK w w' := ⟨h.le, fun _ _ _ _ h1 _ _ _ => blk_kept h1 h⟩
/-- What stands of a net. -/
def NetI (w0 : World) (Bg : Nat) (w : World) (g : Net) : Prop := Ext w0 w ∧ w0.heap.size ≤ Bg ∧ ∃ v hs, NetAt w0.heap.size Bg w v hs ∧ hs.map RW.x = g
theorem NetI.kept {w0 w w' : World} {Bg : Nat} {g : Net} (h : NetI w0 Bg w g) (hx : Ext w w') : NetI w0 Bg w' g := by
  obtain ⟨h1, h2, v, hs, h3, h4⟩ := h
  exact ⟨h1.trans hx, h2, v, hs, h3.kept hx, h4⟩
theorem NetAt.cell {B Bg : Nat} {w : World} {v : Value} {hs : List RW} (h : NetAt B Bg w v hs) : w.cell? ⟨Bg, 0, none⟩ = some v ∧ w.frozen? ⟨Bg, 0, none⟩ = false ∧ Bg < w.heap.size :=
  ⟨by simp [World.cell?, h.box], frozen_of_row w Bg 0 _ _ h.box, (Array.getElem?_eq_some_iff.1 h.box).1⟩
/-- The net's header after an append: stored. -/
theorem NetAt.push {B Bg : Nat} {w w5 : World} {v v5 : Value} {hs : List RW} (h : NetAt B Bg w v hs) (ho : OwnK 1 RW.enc B 159 w5 v5 (hs ++ [⟨none, 0, 0, []⟩])) (hg : w.grownBy w5 v.ownBlock) :
    NetAt B Bg (w5.setCell ⟨Bg, 0, none⟩ v5) v5 (hs ++ [⟨none, 0, 0, []⟩]) ∧ w5.cell? ⟨Bg, 0, none⟩ = some v ∧ w5.frozen? ⟨Bg, 0, none⟩ = false := by
  have hb5 : w5.heap[Bg]? = some (.cells #[v] 115 (0, 0)) := blk_otherT h.box h.own hg (by decide)
  have hset := heap_setCell_same w5 Bg 0 _ _ v5 hb5
  refine ⟨⟨by rw [hset]; rfl, own_offT ho hb5 (by decide), fun y hy => ?_, fun i j x y g hi hj hij => ?_⟩, by simp [World.cell?, hb5], frozen_of_row w5 Bg 0 _ _ hb5⟩
  · rcases List.mem_append.1 hy with h1 | h1
    · exact own_offT (own_otherT (h.row y h1) h.own hg (by decide)) hb5 (by decide)
    · obtain rfl : y = ⟨none, 0, 0, []⟩ := by simpa using h1
      exact OwnK.nil _ _ _
  · rcases Nat.lt_or_ge i hs.length with h1 | h1
    · rcases Nat.lt_or_ge j hs.length with h2 | h2
      · rw [List.getElem?_append_left h1] at hi
        rw [List.getElem?_append_left h2] at hj
        exact h.apart i j x y g hi hj hij
      · rw [List.getElem?_append_right h2] at hj
        intro _ e
        have : y = ⟨none, 0, 0, []⟩ := by
          cases hq : j - hs.length with
          | zero => rw [hq] at hj; simpa using hj.symm
          | succ q => rw [hq] at hj; simp at hj
        subst this; cases e
    · rw [List.getElem?_append_right h1] at hi
      have : x = ⟨none, 0, 0, []⟩ := by
        cases hq : i - hs.length with
        | zero => rw [hq] at hi; simpa using hi.symm
        | succ q => rw [hq] at hi; simp at hi
      subst this
      intro e; cases e
/-- A row after an append: its header stored. -/
theorem NetAt.app {B Bg G n cap p : Nat} {w w5 : World} {hs : List RW} {hp : RW} (h : NetAt B Bg w (.slice (some ⟨G, 0, none⟩) n cap) hs) (hpi : hs[p]? = some hp) {a5 : Option Addr} {n5 c5 : Nat} {ys : List Lk}
    (ho : OwnK 8 Lk.enc B 161 w5 (.slice a5 n5 c5) ys) (hg : w.grownBy w5 hp.v.ownBlock) (hnew : (Value.slice a5 n5 c5).ownBlock = hp.v.ownBlock ∨ (Value.slice a5 n5 c5).ownBlock = some w.heap.size) :
    NetAt B Bg (w5.setCell ⟨G, p, none⟩ (.slice a5 n5 c5)) (.slice (some ⟨G, 0, none⟩) n cap) (hs.set p ⟨a5, n5, c5, ys⟩) ∧ w5.cell? ⟨G, p, none⟩ = some hp.v ∧ w5.frozen? ⟨G, p, none⟩ = false ∧ w5.cell? ⟨Bg, 0, none⟩ = some (.slice (some ⟨G, 0, none⟩) n cap) := by
  have hpm := List.mem_of_getElem? hpi
  have hop := h.row hp hpm
  have hb5 : w5.heap[Bg]? = some (.cells #[.slice (some ⟨G, 0, none⟩) n cap] 115 (0, 0)) := blk_otherT h.box hop hg (by decide)
  have ho5 : OwnK 1 RW.enc B 159 w5 (.slice (some ⟨G, 0, none⟩) n cap) hs := own_otherT h.own hop hg (by decide)
  have hplt := (List.getElem?_eq_some_iff.1 hpi).1
  have hn := (own_ge h.own).2.2.1
  obtain ⟨cur, hG⟩ := own_type ho5 (g := G) rfl
  have hne : Bg ≠ G := fun e => by rw [e, hG] at hb5; cases hb5
  have hst := own_set1 RW.len ho5 (i := p) (y := ⟨a5, n5, c5, ys⟩) (u := .slice a5 n5 c5) (by omega) rfl
  have hlt : ∀ (j : Nat) (k : RW) (g : Nat), hs[j]? = some k → k.v.ownBlock = some g → g < w.heap.size := fun j k g hj hk => (own_lt (h.row k (List.mem_of_getElem? hj)) hk).2
  refine ⟨⟨?_, hst, fun y hy => ?_, fun i j x y g hi hj hij e => ?_⟩, ?_, own_free ho5 p, by simp [World.cell?, hb5]⟩
  · rw [heap_setCell_other w5 ⟨G, p, none⟩ Bg _ hne]; exact hb5
  · obtain ⟨j, hj⟩ := List.getElem?_of_mem hy
    rw [List.getElem?_set] at hj
    by_cases e : p = j
    · rw [if_pos e, if_pos hplt] at hj
      cases hj; exact own_offT ho hG (by decide)
    · rw [if_neg e] at hj
      have h1 : OwnK 8 Lk.enc B 161 w5 y.v y.x := own_apart (h.row y (List.mem_of_getElem? hj)) hg (fun g hg' e2 => h.apart p j hp y g hpi hj e hg' e2)
      exact own_offT h1 hG (by decide)
  · rw [List.getElem?_set] at hi hj
    by_cases e1 : p = i
    · rw [if_pos e1, if_pos hplt] at hi
      rw [if_neg (by omega)] at hj
      cases hi
      intro e2
      change (Value.slice a5 n5 c5).ownBlock = some g at e
      rcases hnew with h1 | h1
      · rw [h1] at e; exact h.apart p j hp y g hpi hj (by omega) e e2
      · rw [h1] at e; cases e; have := hlt j y _ hj e2; omega
    · rw [if_neg e1] at hi
      by_cases e3 : p = j
      · rw [if_pos e3, if_pos hplt] at hj
        cases hj
        intro e2
        change (Value.slice a5 n5 c5).ownBlock = some g at e2
        rcases hnew with h1 | h1
        · rw [h1] at e2; exact h.apart i p x hp g hi hpi (by omega) e e2
        · rw [h1] at e2; cases e2; have := hlt i x _ hi e; omega
      · rw [if_neg e3] at hj
        exact h.apart i j x y g hi hj hij e
  · have := own_at RW.len ho5 hpi (j := 0) rfl
    rw [Nat.mul_one, Nat.add_zero] at this
    exact this
theorem netK_app {w w5 : World} {B : Nat} {e : Nat} {α : Type} {k : Nat} {enc : α → List Value} {v : Value} {xs : List α} (ho : OwnK k enc B e w v xs) (hg : w.grownBy w5 v.ownBlock) (he : e = 115 ∨ e = 159 ∨ e = 161) : NetK w w5 :=
  ⟨hg.size, fun b cs e' fr h h1 h2 h3 => blk_otherT h ho hg (by intro e2; subst e2; rcases he with rfl | rfl | rfl <;> simp_all)⟩
theorem netK_set {w : World} {b i : Nat} {u : Value} {cs : Array Value} {e : Nat} {fr : Nat × Nat} (hb : w.heap[b]? = some (.cells cs e fr)) (he : e = 115 ∨ e = 159 ∨ e = 161) : NetK w (w.setCell ⟨b, i, none⟩ u) :=
  ⟨by simp, fun b' cs' e' fr' h h1 h2 h3 => by
    rw [heap_setCell_other w ⟨b, i, none⟩ b' u (fun e2 => by
      simp only at e2; subst e2; rw [hb] at h; cases h
      rcases he with rfl | rfl | rfl <;> simp_all)]
    exact h⟩
/-! ### place, join -/
def NetPost (w0 : World) (Bg : Nat) (w : World) (v : Value) (g : Net) (e : Ending) (w' : World) : Prop := e = .returned v ∧ NetI w0 Bg w' g ∧ NetK w w'
set_option maxHeartbeats 1000000 in
theorem place_any (w0 w : World) (Bg : Nat) (g : Net) (hg : NetI w0 Bg w g) (hlen : g.length ≤ 5000) :
    Calls Try.prog 67 #[.pointer (some ⟨Bg, 0, none⟩)] w (NetPost w0 Bg w (.int .i64 (g.length : Int)) (g ++ [[]])) := by
  obtain ⟨hx, hB, v, hs, hN, rfl⟩ := hg
  obtain ⟨q0, q1, q2⟩ := hN.cell
  rw [List.length_map] at hlen
  have hw0 := hx.le
  obtain ⟨a, n, cap, hn, rfl, _⟩ := OwnK.rdn RW.len hN.own
  replace hn := Lib.hid hn
  have hNa := hN.kept (Ext.alloc1 w (.cells #[.slice none 0 0] 159))
  have q0' := (Ext.alloc1 w (.cells #[.slice none 0 0] 159)).cellv q0
  go_enter Try.func67, Try.ntmps67
  go_wp2_with (at_builtin; refine wp_app1 w0 w (⟨none, 0, 0, []⟩ : RW) rfl _ _ 115 rfl 159 Try.underlying115 info_lks rfl (by decide) _ _ rfl hN.own hx rfl (RW.len _) (RW.one _) (by omega) (by unfold maxLen; omega) ?_; intro v5 w10 o5 x5 hgA; obtain ⟨a5, n5, c5, hn5, rfl, _⟩ := OwnK.rdn RW.len o5; obtain ⟨hP, p0, p1⟩ := hNa.push o5 hgA; have hgs := hgA.size; rw [List.length_append, List.length_singleton] at hn5; have hn5b : n5 ≤ 5001 := (by omega); have hn5c : 1 ≤ n5 := (by omega); replace hn5 := Lib.hid hn5)
  have hb10 : w10.heap[Bg]? = some (.cells #[.slice a n cap] 115 (0, 0)) := blk_otherT hNa.box hNa.own hgA (by decide)
  have hK : NetK w (w10.setCell ⟨Bg, 0, none⟩ (.slice a5 n5 c5)) := ((NetK.ext (Ext.alloc1 w _)).trans (netK_app hNa.own hgA (.inr (.inl rfl)))).trans (netK_set hb10 (.inl rfl))
  have hval : ((n5 : Int) - 1) = ((hs.map RW.x).length : Int) := by rw [List.length_map]; have := hn5.out; omega
  go_ret
  exact ⟨ret_int hval, ⟨ext_set x5 hB 0 _, hB, _, _, hP, by simp⟩, hK⟩
def NetJoin (g : Net) (p to : Nat) (by_ : HP) : Net := g.modify p (· ++ [(to, by_)])
theorem netJoin_len (g : Net) (p to : Nat) (q : HP) : (NetJoin g p to q).length = g.length := by unfold NetJoin; simp
set_option maxHeartbeats 2000000 in
theorem join_any (w0 w : World) (Bg : Nat) (g : Net) (hg : NetI w0 Bg w g) (hlen : g.length ≤ 5000) (p to : Nat) (hp : p < g.length) (hrow : ∀ r ∈ g, r.length ≤ 5000) (q : HP) :
    Calls Try.prog 107 #[.pointer (some ⟨Bg, 0, none⟩), .int .i64 p, .int .i64 to, patV q] w fun e w' => e = .returned (.tuple #[]) ∧ NetI w0 Bg w' (NetJoin g p to q) ∧ NetK w w' := by
  obtain ⟨hx, hB, v, hs, hN, rfl⟩ := hg
  rw [List.length_map] at hlen hp
  have hw0 := hx.le
  obtain ⟨a, n, cap, hn, rfl, _⟩ := OwnK.rdn RW.len hN.own
  obtain ⟨r, hr⟩ : ∃ r, hs[p]? = some r := ⟨_, List.getElem?_eq_getElem hp⟩
  have hrl : r.x.length ≤ 5000 := hrow r.x (List.mem_map.2 ⟨r, List.mem_of_getElem? hr, rfl⟩)
  obtain ⟨G, capG, hhd⟩ : ∃ G capG, Value.slice a n cap = .slice (some ⟨G, 0, none⟩) n capG := by
    rcases hN.own.2 with ⟨h1, h2⟩ | ⟨G, c, cur, h1, _⟩
    · omega
    · exact ⟨G, c, by rw [h1, hn]⟩
  cases hhd
  obtain ⟨q0, q1, q2⟩ := hN.cell
  have hGl := (own_ge hN.own).2.1
  have hc0 := own_at RW.len hN.own hr (j := 0) rfl
  rw [Nat.mul_one, Nat.add_zero] at hc0
  have hrv : r.v = .slice r.a r.n r.cap := rfl
  have hx0 : Ext w (w.alloc (.cells #[.int .i64 q.kind, .int .u32 q.is.p.toNat, .int .u32 q.is.m.toNat, .bool q.neg, .int .i64 q.mn, .int .i64 q.mx, .slice q.a q.n q.cap] 27)) := Ext.alloc1 _ _
  have b0 : (w.alloc (.cells #[.int .i64 q.kind, .int .u32 q.is.p.toNat, .int .u32 q.is.m.toNat, .bool q.neg, .int .i64 q.mn, .int .i64 q.mx, .slice q.a q.n q.cap] 27)).cell? ⟨w.heap.size, 0, none⟩ = some (.int .i64 q.kind) := by go_simp
  have b1 : (w.alloc (.cells #[.int .i64 q.kind, .int .u32 q.is.p.toNat, .int .u32 q.is.m.toNat, .bool q.neg, .int .i64 q.mn, .int .i64 q.mx, .slice q.a q.n q.cap] 27)).cell? ⟨w.heap.size, 1, none⟩ = some (.int .u32 q.is.p.toNat) := by go_simp
  have b2 : (w.alloc (.cells #[.int .i64 q.kind, .int .u32 q.is.p.toNat, .int .u32 q.is.m.toNat, .bool q.neg, .int .i64 q.mn, .int .i64 q.mx, .slice q.a q.n q.cap] 27)).cell? ⟨w.heap.size, 2, none⟩ = some (.int .u32 q.is.m.toNat) := by go_simp
  have b3 : (w.alloc (.cells #[.int .i64 q.kind, .int .u32 q.is.p.toNat, .int .u32 q.is.m.toNat, .bool q.neg, .int .i64 q.mn, .int .i64 q.mx, .slice q.a q.n q.cap] 27)).cell? ⟨w.heap.size, 3, none⟩ = some (.bool q.neg) := by go_simp
  have b4 : (w.alloc (.cells #[.int .i64 q.kind, .int .u32 q.is.p.toNat, .int .u32 q.is.m.toNat, .bool q.neg, .int .i64 q.mn, .int .i64 q.mx, .slice q.a q.n q.cap] 27)).cell? ⟨w.heap.size, 4, none⟩ = some (.int .i64 q.mn) := by go_simp
  have b5 : (w.alloc (.cells #[.int .i64 q.kind, .int .u32 q.is.p.toNat, .int .u32 q.is.m.toNat, .bool q.neg, .int .i64 q.mn, .int .i64 q.mx, .slice q.a q.n q.cap] 27)).cell? ⟨w.heap.size, 5, none⟩ = some (.int .i64 q.mx) := by go_simp
  have b6 : (w.alloc (.cells #[.int .i64 q.kind, .int .u32 q.is.p.toNat, .int .u32 q.is.m.toNat, .bool q.neg, .int .i64 q.mn, .int .i64 q.mx, .slice q.a q.n q.cap] 27)).cell? ⟨w.heap.size, 6, none⟩ = some (.slice q.a q.n q.cap) := by go_simp
  have hNz := hN.kept hx0
  have hxz := hx.trans hx0
  have hbz : w.heap.size < (w.alloc (.cells #[.int .i64 q.kind, .int .u32 q.is.p.toNat, .int .u32 q.is.m.toNat, .bool q.neg, .int .i64 q.mn, .int .i64 q.mx, .slice q.a q.n q.cap] 27)).heap.size := by simp
  have hGz := Nat.lt_of_lt_of_le hGl hx0.le
  have hBz := Nat.lt_of_lt_of_le q2 hx0.le
  go_enter Try.func107, Try.ntmps107
  go_wp2_with fail
  have hx0' := hx0
  generalize (w.alloc (.cells #[.int .i64 q.kind, .int .u32 q.is.p.toNat, .int .u32 q.is.m.toNat, .bool q.neg, .int .i64 q.mn, .int .i64 q.mx, .slice q.a q.n q.cap] 27)) = wz at *
  obtain ⟨Bp, hBp⟩ : ∃ x, x = w.heap.size := ⟨_, rfl⟩
  rw [← hBp] at b0 b1 b2 b3 b4 b5 b6 hbz ⊢
  replace hBp := Lib.hid hBp
  obtain ⟨z0, z1, z2⟩ := hNz.cell
  have c0 := own_at RW.len hNz.own hr (j := 0) rfl
  rw [Nat.mul_one, Nat.add_zero] at c0
  have hfr := own_free hNz.own p
  have hop := hNz.row r (List.mem_of_getElem? hr)
  clear q0 q1 hc0 hx hN
  have hGne : G ≠ wz.heap.size := by omega
  have hBgne : Bg ≠ wz.heap.size := by omega
  have hBpne : Bp ≠ wz.heap.size := by omega
  have hlk := OwnK.rdc Lk.len (lit_own Lk.len wz 161 [((to, q) : Lk)] #[.int .i64 to, .int .i64 q.kind, .int .u32 q.is.p.toNat, .int .u32 q.is.m.toNat, .bool q.neg, .int .i64 q.mn, .int .i64 q.mx, .slice q.a q.n q.cap] rfl (n := 1) rfl (by decide))
  have hxl : Ext wz (wz.alloc (.cells #[.int .i64 to, .int .i64 q.kind, .int .u32 q.is.p.toNat, .int .u32 q.is.m.toNat, .bool q.neg, .int .i64 q.mn, .int .i64 q.mx, .slice q.a q.n q.cap] 161)).drew := (Ext.alloc1 _ _).drew
  have hlk2 := hlk.ext ((Ext.refl _).drew)
  have happ : ∀ (v5 : Value) (w5 : World), OwnK 8 Lk.enc w0.heap.size 161 w5 v5 (r.x ++ [(to, q)]) → (wz.alloc (.cells #[.int .i64 to, .int .i64 q.kind, .int .u32 q.is.p.toNat, .int .u32 q.is.m.toNat, .bool q.neg, .int .i64 q.mn, .int .i64 q.mx, .slice q.a q.n q.cap] 161)).drew.grownBy w5 r.v.ownBlock → (v5.ownBlock = r.v.ownBlock ∨ v5.ownBlock = some (wz.alloc (.cells #[.int .i64 to, .int .i64 q.kind, .int .u32 q.is.p.toNat, .int .u32 q.is.m.toNat, .bool q.neg, .int .i64 q.mn, .int .i64 q.mx, .slice q.a q.n q.cap] 161)).drew.heap.size) →
      ∃ a5 n5 c5, v5 = .slice a5 n5 c5 ∧ w5.cell? ⟨Bg, 0, none⟩ = some (.slice (some ⟨G, 0, none⟩) n cap) ∧ w5.cell? ⟨G, p, none⟩ = some (.slice r.a r.n r.cap) ∧ w5.frozen? ⟨G, p, none⟩ = false ∧ NetI w0 Bg (w5.setCell ⟨G, p, none⟩ (.slice a5 n5 c5)) (NetJoin (hs.map RW.x) p to q) ∧ NetK w (w5.setCell ⟨G, p, none⟩ (.slice a5 n5 c5)) := fun v5 w5 o5 g5 n5 => by
    obtain ⟨a5, m5, c5, hm5, rfl, _⟩ := OwnK.rdn Lk.len o5
    obtain ⟨r1, r2, r3, r4⟩ := (hNz.kept hxl).app hr o5 g5 n5
    refine ⟨a5, m5, c5, rfl, r4, r2, r3, ⟨?_, hB, _, _, r1, ?_⟩, ?_⟩
    · refine ext_set (Ext.grown (hxz.trans hxl) g5 fun j hj => (own_lt (hop.kept hxl) hj).1) (own_ge hNz.own).1 p _
    · unfold NetJoin
      rw [List.map_set]
      apply List.ext_getElem?
      intro i
      rw [List.getElem?_set, List.getElem?_modify, List.length_map]
      by_cases e : p = i
      · subst e
        rw [if_pos rfl, if_pos hp, List.getElem?_map, hr]
        simp
      · rw [if_neg e]
        simp [e]
    · obtain ⟨cur, hG⟩ := own_type (own_otherT (hNz.own.kept hxl) (hop.kept hxl) g5 (by decide)) (g := G) rfl
      exact ((NetK.ext (hx0'.trans hxl)).trans (netK_app (hop.kept hxl) g5 (.inr (.inr rfl)))).trans (netK_set hG (.inr (.inl rfl)))
  replace happ := Lib.hid happ
  go_region_law ((refine step_app1 w0.heap.size _ ((to, q) : Lk) rfl _ _ 159 rfl 161 Try.underlying159 info_lk rfl (by decide) Lk.len Lk.one (.slice r.a r.n r.cap) r.x rfl (hop.kept hxl) ⟨wz.heap.size, 0, none⟩ rfl hlk2 (by omega) (by decide) (by have := hxz.le; simp; omega) ?_; intro v5 w5 o5 g5 n5; obtain ⟨a5, m5, c5, rfl, s0, s1, s2, s3, s4⟩ := happ.out _ w5 o5 g5 n5))
  all_goals
    go_wp2_with fail
    go_end0
    exact ⟨rfl, s3, s4⟩
end Go.Proofs.Ytilkemdecenibaa
