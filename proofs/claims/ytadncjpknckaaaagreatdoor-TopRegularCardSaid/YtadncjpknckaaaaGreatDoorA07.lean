/-
  The net: places with links; place, join.
  lay, times: the net of a pattern, plain.
  lay, times: the walks.
  lay: the walk. Sets of places as bytes; spread: plain, and the walk.
  spread: the walk.
  Clone at bytes; after: plain, and the walk. A pattern is allowed: pats.valid, pats.allowed at patterns in order.
  slices.Backward at patterns; a range over an iterator in a loop: its marks.
-/
import Derived.Test.YtadncjpknckaaaaGreatDoorA02
import Derived.Deep.RegionLaw
import Derived.Deep.RegionHeld3
import Derived.Maps.AppendAt
import Derived.Deep.LoopGhost
import Derived.Test.YtadncjpknckaaaaGreatDoorA04
namespace Go.Proofs.YtadncjpknckaaaaGreatDoor
open Go.RowKit
/-! ### append of one element as a step of a region, and where the new row lies -/
theorem step_app1 {α : Type} {k : Nat} {enc : α → List Value} {P : Program} {ops : Array Oper} {o : Oper} {a : Act} {Q : Exit → Act → World → Prop} {E : Prop} {K : Act → World → Prop} (B : Nat) (w : World) (y : α) (hgd : o.guard = none) (s x : Operand) (t : TypeId)
    (ho : o.op = .call { callee := .builtin .append, args := #[s, x], argTypes := #[t, t] }) (e : TypeId) (ht : P.underlying t = some (.slice e)) {z : Value} {bytes : Nat}
    (hinf : (P.info? e).map (fun i => (i.zero, i.size, i.bytes)) = some (some z, k, bytes)) (hzs : z.cells.size = k) (hk0 : 0 < k) (hk : ∀ x, (enc x).length = k) (h1 : ∀ x, ∀ u ∈ enc x, u.oneCell' = true)
    (v : Value) (xs : List α) (hs : a.eval s = v) (hown : OwnK k enc B e w v xs) (ad : Addr) (hx : a.eval x = .slice (some ad) 1 1) (hrd : RdK k enc w (some ad) 1 1 [y]) (hN : xs.length ≤ 60000) (hb : bytes ≤ 1000) (hB : B ≤ w.heap.size)
    (h : ∀ v' w', OwnK k enc B e w' v' (xs ++ [y]) → w.grownBy w' v.ownBlock → (v'.ownBlock = v.ownBlock ∨ v'.ownBlock = some w.heap.size) → K (a.put o.dst v') w') :
    if Region.wanted o (yielded ops a.tmps) = true then Oper.wp P o a w K Q else E := by
  have hw : Region.wanted o (yielded ops a.tmps) = true := by simp [Region.wanted, hgd]
  rw [if_pos hw]
  obtain ⟨i, hi, hz0, hz1, hz2⟩ := info_parts hinf
  have h1' : ∀ u ∈ [y].flatMap enc, u.oneCell' = true := fun u hu => by
    obtain ⟨z, _, hz⟩ := List.mem_flatMap.1 hu
    exact h1 z u hz
  have hbb : (xs.length + 1) * bytes ≤ 60001 * 1000 := Nat.mul_le_mul (by omega) hb
  obtain ⟨v', w', hr, h2, h3, _, h5⟩ := run_append_own_at (P := P) (w := w) B t o.type e i z k bytes ht hi hz0 hz1 hz2 hzs hk0 v xs.length (xs.flatMap enc) hown ad 1 1 ([y].flatMap enc) (by simp [hk]) (hrd.cells hk hk0) h1' (by unfold maxLen; omega) (by omega) hB
  unfold Oper.wp execOp
  simp only [ho, resolve, invoke, builtin, Sem.run_bind, Sem.run_pure, Result.andThen_ok, List.map_toArray, List.map_cons, List.map_nil, hs, hx, hr]
  exact h v' w' (OwnK.of_row h2 (by simp) (by simp)) h3 h5
theorem op_app1 {α : Type} {k : Nat} {enc : α → List Value} {P : Program} {o : Oper} {a : Act} {Q : Exit → Act → World → Prop} {K : Act → World → Prop} (B : Nat) (w : World) (y : α) (hgd : o.guard = none) (s x : Operand) (t : TypeId)
    (ho : o.op = .call { callee := .builtin .append, args := #[s, x], argTypes := #[t, t] }) (e : TypeId) (ht : P.underlying t = some (.slice e)) {z : Value} {bytes : Nat}
    (hinf : (P.info? e).map (fun i => (i.zero, i.size, i.bytes)) = some (some z, k, bytes)) (hzs : z.cells.size = k) (hk0 : 0 < k) (hk : ∀ x, (enc x).length = k) (h1 : ∀ x, ∀ u ∈ enc x, u.oneCell' = true)
    (v : Value) (xs : List α) (hs : a.eval s = v) (hown : OwnK k enc B e w v xs) (ad : Addr) (hx : a.eval x = .slice (some ad) 1 1) (hrd : RdK k enc w (some ad) 1 1 [y]) (hN : xs.length ≤ 60000) (hb : bytes ≤ 1000) (hB : B ≤ w.heap.size)
    (h : ∀ v' w', OwnK k enc B e w' v' (xs ++ [y]) → w.grownBy w' v.ownBlock → (v'.ownBlock = v.ownBlock ∨ v'.ownBlock = some w.heap.size) → K (a.put o.dst v') w') : Oper.wp P o a w K Q := by
  have h2 := step_app1 (P := P) (ops := #[]) (o := o) (a := a) (Q := Q) (E := True) (K := K) B w y hgd s x t ho e ht hinf hzs hk0 hk h1 v xs hs hown ad hx hrd hN hb hB h
  rwa [if_pos (by simp [Region.wanted, hgd])] at h2
/-! ### The net -/
abbrev Lk := Nat × HP
def Lk.enc (x : Lk) : List Value := .int .i64 (x.1 : Int) :: HP.enc x.2
theorem Lk.len (x : Lk) : (Lk.enc x).length = 8 := rfl
theorem Lk.one (x : Lk) : ∀ u ∈ Lk.enc x, u.oneCell' = true := by
  intro u hu
  rcases List.mem_cons.1 hu with rfl | hu
  · rfl
  · exact HP.one _ u hu
/-- A row of links: its header, and the links. -/
structure RW where
  a : Option Addr
  n : Nat
  cap : Nat
  x : List Lk
def RW.enc (h : RW) : List Value := [.slice h.a h.n h.cap]
theorem RW.len (h : RW) : (RW.enc h).length = 1 := rfl
theorem RW.one (h : RW) : ∀ u ∈ RW.enc h, u.oneCell' = true := by intro u hu; simp [RW.enc] at hu; subst hu; rfl
def RW.v (h : RW) : Value := .slice h.a h.n h.cap
abbrev Net := List (List Lk)
/-! ### place, join -/
def NetJoin (g : Net) (p to : Nat) (by_ : HP) : Net := g.modify p (· ++ [(to, by_)])
theorem netJoin_len (g : Net) (p to : Nat) (q : HP) : (NetJoin g p to q).length = g.length := by unfold NetJoin; simp
end Go.Proofs.YtadncjpknckaaaaGreatDoor
namespace Go.Proofs.YtadncjpknckaaaaGreatDoor
open Go.RowKit
def zP : HP := .mk 0 ⟨0#32, 0#32⟩ false 0 0 none 0 0 []
def iterN {α : Type} (f : α → α) : Nat → α → α
  | 0, x => x
  | k + 1, x => f (iterN f k x)
/-- A pattern that is repeated; L lays it once. -/
def timesM (L : Nat → Net → Nat × Net) (wd : Nat) (mn mx : Int) (f : Nat) (g : Net) : Nat × Net :=
  if wd = 0 then (if mn = 0 then (f, g) else L f g)
  else
    let r := iterN (fun s : Nat × Net => L s.1 s.2) mn.toNat (g.length, NetJoin (g ++ [[]]) f g.length zP)
    if mx = -1 then
      let s := L r.2.length (NetJoin (r.2 ++ [[]]) r.1 r.2.length zP)
      (r.2.length, NetJoin s.2 s.1 r.2.length zP)
    else
      (r.2.length, (iterN (fun s : Nat × Net => let u := L s.1 s.2; (u.1, NetJoin u.2 u.1 r.2.length zP)) (mx - mn).toNat (r.1, NetJoin (r.2 ++ [[]]) r.1 r.2.length zP)).2)
mutual
def layM : HP → Nat → Net → Nat × Net
  | .mk kd is ng mn mx a n c l, f, g =>
    if kd = 0 then (f, g)
    else if kd = 3 then laySeq l f g
    else if kd = 4 then (g.length, layAlt l f g.length (g ++ [[]]))
    else if kd = 5 then layRep l mn mx f g
    else (g.length, NetJoin (g ++ [[]]) f g.length (.mk kd is ng mn mx a n c l))
def laySeq : List HP → Nat → Net → Nat × Net
  | [], f, g => (f, g)
  | q :: l, f, g => laySeq l (layM q f g).1 (layM q f g).2
def layAlt : List HP → Nat → Nat → Net → Net
  | [], _, _, g => g
  | q :: l, f, to, g => layAlt l f to (NetJoin (layM q f g).2 (layM q f g).1 to zP)
def layRep : List HP → Int → Int → Nat → Net → Nat × Net
  | [], _, _, f, g => (f, g)
  | q :: _, mn, mx, f, g => timesM (layM q) (wid q) mn mx f g
end
theorem laySeq_app : ∀ (l m : List HP) (f : Nat) (g : Net), laySeq (l ++ m) f g = laySeq m (laySeq l f g).1 (laySeq l f g).2
  | [], m, f, g => by simp [laySeq]
  | q :: l, m, f, g => by simp only [List.cons_append, laySeq]; exact laySeq_app l m _ _
theorem layAlt_app : ∀ (l m : List HP) (f to : Nat) (g : Net), layAlt (l ++ m) f to g = layAlt m f to (layAlt l f to g)
  | [], m, f, to, g => by simp [layAlt]
  | q :: l, m, f, to, g => by simp only [List.cons_append, layAlt]; exact layAlt_app l m _ _ _
/-- How great a net is. -/
def netSz : Net → Nat
  | [] => 0
  | r :: g => 1 + r.length + netSz g
theorem netSz_app : ∀ (g h : Net), netSz (g ++ h) = netSz g + netSz h
  | [], h => by simp [netSz]
  | r :: g, h => by simp only [List.cons_append, netSz, netSz_app g h]; omega
theorem netSz_join : ∀ (g : Net) (p to : Nat) (q : HP), netSz g ≤ netSz (NetJoin g p to q)
  | [], p, to, q => by simp [NetJoin, netSz]
  | r :: g, 0, to, q => by simp [NetJoin, netSz]
  | r :: g, p + 1, to, q => by
    have := netSz_join g p to q
    unfold NetJoin at this ⊢
    simp only [List.modify_succ_cons, netSz]; omega
theorem netSz_len : ∀ (g : Net), g.length ≤ netSz g ∧ ∀ r ∈ g, r.length ≤ netSz g
  | [] => ⟨Nat.le_refl _, fun r h => by cases h⟩
  | r :: g => by
    obtain ⟨h1, h2⟩ := netSz_len g
    refine ⟨by simp only [List.length_cons, netSz]; omega, fun x hx => ?_⟩
    simp only [netSz]
    rcases List.mem_cons.1 hx with rfl | hx
    · omega
    · have := h2 x hx; omega
/-- A net has grown, and the place is one of it. -/
def Grows (f : Nat) (g : Net) (r : Nat × Net) : Prop := netSz g ≤ netSz r.2 ∧ g.length ≤ r.2.length ∧ (f < g.length → r.1 < r.2.length)
theorem Grows.refl (f : Nat) (g : Net) : Grows f g (f, g) := ⟨Nat.le_refl _, Nat.le_refl _, fun h => h⟩
theorem Grows.trans {f : Nat} {g : Net} {r s : Nat × Net} (h : Grows f g r) (k : Grows r.1 r.2 s) : Grows f g s := ⟨Nat.le_trans h.1 k.1, Nat.le_trans h.2.1 k.2.1, fun h1 => k.2.2 (h.2.2 h1)⟩
theorem Grows.join {f : Nat} {g : Net} {r : Nat × Net} (h : Grows f g r) (p to : Nat) (q : HP) : Grows f g (r.1, NetJoin r.2 p to q) := ⟨Nat.le_trans h.1 (netSz_join _ _ _ _), by rw [netJoin_len]; exact h.2.1, fun h1 => by rw [netJoin_len]; exact h.2.2 h1⟩
theorem Grows.place (f : Nat) (g : Net) (p : Nat) (q : HP) : Grows f g (g.length, NetJoin (g ++ [[]]) p g.length q) := ⟨by show netSz g ≤ netSz (NetJoin (g ++ [[]]) p g.length q); have := netSz_join (g ++ [[]]) p g.length q; rw [netSz_app] at this; omega, by rw [netJoin_len]; simp, fun _ => by rw [netJoin_len]; simp⟩
theorem Grows.keep {f : Nat} {g : Net} {r : Nat × Net} (h : Grows f g r) {u : Nat} (hu : u < g.length) : Grows f g (u, r.2) := ⟨h.1, h.2.1, fun _ => Nat.lt_of_lt_of_le hu h.2.1⟩
theorem grows_iter {F : Nat × Net → Nat × Net} (hF : ∀ f g, Grows f g (F (f, g))) (f : Nat) (g : Net) : ∀ k, Grows f g (iterN F k (f, g))
  | 0 => Grows.refl _ _
  | k + 1 => (grows_iter hF f g k).trans (hF _ _)
theorem grows_times {L : Nat → Net → Nat × Net} (hL : ∀ f g, Grows f g (L f g)) (wd : Nat) (mn mx : Int) (f : Nat) (g : Net) : Grows f g (timesM L wd mn mx f g) := by
  unfold timesM
  split
  · split
    · exact Grows.refl _ _
    · exact hL f g
  · have h1 := (Grows.place f g f zP).trans (grows_iter (F := fun s : Nat × Net => L s.1 s.2) (fun f g => hL f g) _ _ mn.toNat)
    obtain ⟨r, hr⟩ : ∃ r, r = iterN (fun s : Nat × Net => L s.1 s.2) mn.toNat (g.length, NetJoin (g ++ [[]]) f g.length zP) := ⟨_, rfl⟩
    rw [← hr] at h1 ⊢
    have h2 := h1.trans (Grows.place r.1 r.2 r.1 zP)
    split
    · have h3 := (h2.trans (hL _ _)).join (L r.2.length (NetJoin (r.2 ++ [[]]) r.1 r.2.length zP)).1 r.2.length zP
      refine ⟨h3.1, h3.2.1, fun _ => ?_⟩
      show r.2.length < (NetJoin _ _ _ _).length
      rw [netJoin_len]
      have := (hL r.2.length (NetJoin (r.2 ++ [[]]) r.1 r.2.length zP)).2.1
      rw [netJoin_len] at this
      simp at this
      omega
    · have hi := grows_iter (F := fun s : Nat × Net => let u := L s.1 s.2; (u.1, NetJoin u.2 u.1 r.2.length zP)) (fun f g => (hL f g).join _ _ _) r.1 (NetJoin (r.2 ++ [[]]) r.1 r.2.length zP) (mx - mn).toNat
      have h4 := hi.2.1
      rw [netJoin_len] at h4
      simp at h4
      refine ⟨Nat.le_trans h2.1 hi.1, Nat.le_trans h2.2.1 hi.2.1, fun _ => ?_⟩
      simp only
      omega
theorem grows_seq : ∀ (l : List HP), (∀ q ∈ l, ∀ f g, Grows f g (layM q f g)) → ∀ f g, Grows f g (laySeq l f g)
  | [], _, f, g => by simp only [laySeq]; exact Grows.refl _ _
  | q :: l, h, f, g => by
    simp only [laySeq]
    exact (h q List.mem_cons_self f g).trans (grows_seq l (fun x hx => h x (List.mem_cons_of_mem _ hx)) _ _)
theorem grows_alt : ∀ (l : List HP), (∀ q ∈ l, ∀ f g, Grows f g (layM q f g)) → ∀ f to g, netSz g ≤ netSz (layAlt l f to g) ∧ g.length ≤ (layAlt l f to g).length
  | [], _, f, to, g => by simp only [layAlt]; exact ⟨Nat.le_refl _, Nat.le_refl _⟩
  | q :: l, h, f, to, g => by
    simp only [layAlt]
    have h1 := (h q List.mem_cons_self f g).join (layM q f g).1 to zP
    have h2 := grows_alt l (fun x hx => h x (List.mem_cons_of_mem _ hx)) f to (NetJoin (layM q f g).2 (layM q f g).1 to zP)
    exact ⟨Nat.le_trans h1.1 h2.1, Nat.le_trans h1.2.1 h2.2⟩
theorem grows_lay : ∀ (m : Nat) (h : HP), HP.sz h ≤ m → ∀ f g, Grows f g (layM h f g) := by
  intro m
  induction m with
  | zero => intro h hm; cases h; simp only [HP.sz] at hm; omega
  | succ m ih =>
    intro h hm f g
    have hsub : ∀ q ∈ h.l, ∀ f g, Grows f g (layM q f g) := fun q hq => ih q (by have := HP.sz_mem hq; omega)
    cases h with
    | mk kd is ng mn mx a n c l =>
      change ∀ q ∈ l, _ at hsub
      simp only [layM]
      split
      · exact Grows.refl _ _
      · split
        · exact grows_seq l hsub f g
        · split
          · have := grows_alt l hsub f g.length (g ++ [[]])
            rw [netSz_app] at this
            simp at this
            exact ⟨by simp only; omega, by simp only; omega, fun _ => by simp only; omega⟩
          · split
            · cases l with
              | nil => simp only [layRep]; exact Grows.refl _ _
              | cons q l => simp only [layRep]; exact grows_times (hsub q List.mem_cons_self) _ _ _ _ _
            · exact Grows.place f g f _
theorem grows_any (h : HP) (f : Nat) (g : Net) : Grows f g (layM h f g) := grows_lay _ h (Nat.le_refl _) f g
end Go.Proofs.YtadncjpknckaaaaGreatDoor
namespace Go.Proofs.YtadncjpknckaaaaGreatDoor
open Go.RowKit
/-- A pattern in a box. -/
def PatB (w : World) (B : Nat) (h : HP) : Prop := w.heap[B]? = some (.cells #[.int .i64 h.kind, .int .u32 h.is.p.toNat, .int .u32 h.is.m.toNat, .bool h.neg, .int .i64 h.mn, .int .i64 h.mx, .slice h.a h.n h.cap] 55 (0, 0))
theorem PatB.new (w : World) (h : HP) : PatB (w.alloc (.cells #[.int .i64 h.kind, .int .u32 h.is.p.toNat, .int .u32 h.is.m.toNat, .bool h.neg, .int .i64 h.mn, .int .i64 h.mx, .slice h.a h.n h.cap] 55)) w.heap.size h := World.alloc_heap_new w _
theorem PatB.ext {w w' : World} {B : Nat} {h : HP} (hb : PatB w B h) (hx : Ext w w') : PatB w' B h := blk_kept hb hx
theorem PatB.cells {w : World} {B : Nat} {h : HP} (hb : PatB w B h) : w.cell? ⟨B, 0, none⟩ = some (.int .i64 h.kind) ∧ w.cell? ⟨B, 1, none⟩ = some (.int .u32 h.is.p.toNat) ∧ w.cell? ⟨B, 2, none⟩ = some (.int .u32 h.is.m.toNat) ∧ w.cell? ⟨B, 3, none⟩ = some (.bool h.neg) ∧ w.cell? ⟨B, 4, none⟩ = some (.int .i64 h.mn) ∧ w.cell? ⟨B, 5, none⟩ = some (.int .i64 h.mx) ∧ w.cell? ⟨B, 6, none⟩ = some (.slice h.a h.n h.cap) ∧ B < w.heap.size := by
  unfold PatB at hb
  simp [World.cell?, hb]
  exact (Array.getElem?_eq_some_iff.1 hb).1
theorem iter_le {F : Nat × Net → Nat × Net} (hF : ∀ f g, Grows f g (F (f, g))) (s : Nat × Net) {i j : Nat} (h : i ≤ j) : netSz (iterN F i s).2 ≤ netSz (iterN F j s).2 := by
  induction j with
  | zero => rw [show i = 0 by omega]; exact Nat.le_refl _
  | succ j ih =>
    rcases Nat.lt_or_ge i (j + 1) with h1 | h1
    · refine Nat.le_trans (ih (by omega)) ?_
      have := (hF (iterN F j s).1 (iterN F j s).2).1
      simpa [iterN] using this
    · rw [show i = j + 1 by omega]; exact Nat.le_refl _
end Go.Proofs.YtadncjpknckaaaaGreatDoor
namespace Go.Proofs.YtadncjpknckaaaaGreatDoor
open Go.RowKit
end Go.Proofs.YtadncjpknckaaaaGreatDoor
namespace Go.Proofs.YtadncjpknckaaaaGreatDoor
open Go.RowKit
/-! ### Bytes that are 0 or 1; places -/
def BB.enc (b : Bool) : List Value := [.int .u8 (if b then 1 else 0)]
theorem BB.len (b : Bool) : (BB.enc b).length = 1 := rfl
theorem BB.one (b : Bool) : ∀ u ∈ BB.enc b, u.oneCell' = true := by intro u hu; simp [BB.enc] at hu; subst hu; rfl
def NN.enc (x : Nat) : List Value := [.int .i64 (x : Int)]
theorem NN.len (x : Nat) : (NN.enc x).length = 1 := rfl
theorem NN.one (x : Nat) : ∀ u ∈ NN.enc x, u.oneCell' = true := by intro u hu; simp [NN.enc] at hu; subst hu; rfl
theorem info_int2 : (Tryz.prog.info? 3).map (fun i => (i.zero, i.size, i.bytes)) = some (some (.int .i64 0), 1, 8) := by kernel_rfl
/-! ### The net, read -/
structure RdNet (w : World) (a : Option Addr) (n cap : Nat) (g : Net) : Prop where
  rd : ∃ hs : List RW, RdK 1 RW.enc w a n cap hs ∧ (∀ h ∈ hs, RdK 8 Lk.enc w h.a h.n h.cap h.x) ∧ hs.map RW.x = g
theorem RdNet.len {w : World} {a : Option Addr} {n cap : Nat} {g : Net} (h : RdNet w a n cap g) : g.length = n := by
  obtain ⟨hs, h1, _, h3⟩ := h.rd
  rw [← h3, List.length_map]; exact h1.len
theorem RdNet.at {w : World} {a : Option Addr} {n cap : Nat} {g : Net} (h : RdNet w a n cap g) {i : Nat} (hi : i < n) :
    ∃ (b off : Nat) (y : RW), a = some ⟨b, off, none⟩ ∧ w.cell? ⟨b, off + i, none⟩ = some (.slice y.a y.n y.cap) ∧ RdK 8 Lk.enc w y.a y.n y.cap y.x ∧ Hid (g[i]? = some y.x) := by
  obtain ⟨hs, h1, h2, h3⟩ := h.rd
  obtain ⟨b, off, x, ha, hx, hb, hc⟩ := h1.get hi
  exact ⟨b, off, x, ha, by have := hc 0 _ rfl; simpa using this, h2 x (List.mem_of_getElem? hx.out), Lib.hid (by rw [← h3, List.getElem?_map, hx.out]; rfl)⟩
theorem RdNet.ext {w w' : World} {a : Option Addr} {n cap : Nat} {g : Net} (h : RdNet w a n cap g) (hx : Ext w w') : RdNet w' a n cap g := by
  obtain ⟨hs, h1, h2, h3⟩ := h.rd
  exact ⟨hs, h1.ext hx, fun y hy => (h2 y hy).ext hx, h3⟩
/-- What is read lies in no row of bytes. -/
theorem rdk_gb {α : Type} {k : Nat} {enc : α → List Value} {w w' : World} {a : Option Addr} {n cap : Nat} {xs : List α} {S : Nat} (h : RdK k enc w a n cap xs) (hg : w.grownBy w' (some S)) (hS : ∀ b off, 0 < n → a = some ⟨b, off, none⟩ → b ≠ S) : RdK k enc w' a n cap xs :=
  ⟨h.len, h.le, h.most, h.isnil, fun hn => let ⟨b, off, ha, hb, hc⟩ := h.pos hn; ⟨b, off, ha, Nat.lt_of_lt_of_le hb hg.size, fun i x hi j u hu => gb_cell hg (hc i x hi j u hu) (fun e => hS b off hn ha (Option.some.inj e).symm)⟩⟩
theorem byte_cell {B : Nat} {w : World} {S n cap : Nat} {bs : List Bool} (h : OwnK 1 BB.enc B 5 w (.slice (some ⟨S, 0, none⟩) n cap) bs) : ∃ cur, w.heap[S]? = some (.cells cur 5 (0, 0)) := own_type h rfl
/-! ### spread, plain -/
def openB (x : HP) (bg en : Bool) : Bool := (x.kind == 0) || ((x.kind == 2) && bg) || ((x.kind == 6) && en)
def pushL (bg en : Bool) : List Lk → List Nat × List Bool → List Nat × List Bool
  | [], s => s
  | l :: ls, s => pushL bg en ls (if openB l.2 bg en && !(s.2.getD l.1 true) then (s.1 ++ [l.1], s.2.set l.1 true) else s)
def spreadL (g : Net) (bg en : Bool) : Nat → List Nat × List Bool → List Bool
  | 0, s => s.2
  | k + 1, s => match s.1.getLast? with
    | none => s.2
    | some x => spreadL g bg en k (pushL bg en (g.getD x []) (s.1.dropLast, s.2))
def onesTo (bs : List Bool) (k : Nat) : List Nat := (List.range k).filter fun i => bs.getD i false
def spreadM (g : Net) (bs : List Bool) (bg en : Bool) : List Bool := spreadL g bg en bs.length (onesTo bs bs.length, bs)
/-- Each link leads to a place of the net. -/
def netOkB (m : Nat) (g : Net) : Bool := g.all fun r => r.all fun l => decide (l.1 < m)
theorem pushL_app (bg en : Bool) : ∀ (l m : List Lk) (s : List Nat × List Bool), pushL bg en (l ++ m) s = pushL bg en m (pushL bg en l s)
  | [], m, s => rfl
  | x :: l, m, s => by simp only [List.cons_append, pushL]; exact pushL_app bg en l m _
def zeros (bs : List Bool) : Nat := (bs.filter fun b => !b).length
theorem zeros_set : ∀ (bs : List Bool) (i : Nat), bs[i]? = some false → zeros (bs.set i true) + 1 = zeros bs
  | [], i, h => by simp at h
  | b :: bs, 0, h => by simp at h; subst h; simp [zeros]
  | b :: bs, i + 1, h => by
    simp at h
    have ih := zeros_set bs i h
    unfold zeros at ih ⊢
    rw [List.set_cons_succ, List.filter_cons, List.filter_cons]
    cases b
    · simp only [Bool.not_false, if_true, List.length_cons]; omega
    · simpa using ih
/-- What stands while links are looked at. -/
def PushOk (m : Nat) (s : List Nat × List Bool) (fuel : Nat) : Prop := s.2.length = m ∧ (∀ x ∈ s.1, x < m) ∧ s.1.length + zeros s.2 ≤ fuel
theorem pushOk_step {bg en : Bool} {m fuel : Nat} {s : List Nat × List Bool} {l : Lk} (h : PushOk m s fuel) (hl : l.1 < m) : PushOk m (if openB l.2 bg en && !(s.2.getD l.1 true) then (s.1 ++ [l.1], s.2.set l.1 true) else s) fuel := by
  split
  · rename_i hc
    obtain ⟨h1, h2, h3⟩ := h
    simp only [Bool.and_eq_true, Bool.not_eq_true'] at hc
    have hlt : l.1 < s.2.length := by omega
    have hg : s.2[l.1]? = some false := by
      have := hc.2
      rw [List.getD_eq_getElem?_getD, List.getElem?_eq_getElem hlt] at this
      rw [List.getElem?_eq_getElem hlt]
      simpa using this
    have hz := zeros_set s.2 l.1 hg
    refine ⟨by simp [h1], fun x hx => ?_, by simp; omega⟩
    rcases List.mem_append.1 hx with h | h
    · exact h2 x h
    · rw [List.mem_singleton.1 h]; exact hl
  · exact h
theorem pushOk_list {bg en : Bool} {m fuel : Nat} : ∀ (ls : List Lk) (s : List Nat × List Bool), PushOk m s fuel → (∀ l ∈ ls, l.1 < m) → PushOk m (pushL bg en ls s) fuel
  | [], s, h, _ => h
  | l :: ls, s, h, hl => by simp only [pushL]; exact pushOk_list ls _ (pushOk_step h (hl l List.mem_cons_self)) (fun x hx => hl x (List.mem_cons_of_mem _ hx))
theorem onesTo_succ (bs : List Bool) (k : Nat) : onesTo bs (k + 1) = onesTo bs k ++ if bs.getD k false then [k] else [] := by
  unfold onesTo
  rw [List.range_succ, List.filter_append]
  congr 1
  cases h : bs.getD k false
  · simp [List.getD_eq_getElem?_getD] at h ⊢; exact h
  · simp [List.getD_eq_getElem?_getD] at h ⊢; exact h
theorem onesTo_zeros : ∀ (bs : List Bool) (k : Nat), k ≤ bs.length → (onesTo bs k).length + zeros (bs.take k) = k
  | bs, 0, _ => by simp [onesTo, zeros]
  | bs, k + 1, h => by
    have ih := onesTo_zeros bs k (by omega)
    have hk : bs[k]? = some bs[k] := List.getElem?_eq_getElem (by omega)
    have hg : bs.getD k false = bs[k] := by rw [List.getD_eq_getElem?_getD, hk]; rfl
    rw [onesTo_succ, take_succ_at hk, hg]
    unfold zeros at ih ⊢
    rw [List.filter_append, List.length_append, List.length_append]
    cases bs[k] <;> simp <;> omega
theorem onesTo_lt {bs : List Bool} {k x : Nat} (h : x ∈ onesTo bs k) : x < k := by
  unfold onesTo at h; have := (List.mem_filter.1 h).1; simpa using this
end Go.Proofs.YtadncjpknckaaaaGreatDoor
namespace Go.Proofs.YtadncjpknckaaaaGreatDoor
open Go.RowKit
theorem netOk_at {m : Nat} {g : Net} (h : netOkB m g = true) {x : Nat} {r : List Lk} (hr : g[x]? = some r) : ∀ l ∈ r, l.1 < m := fun l hl => by
  have h1 := List.all_eq_true.1 h r (List.mem_of_getElem? hr)
  simpa using List.all_eq_true.1 h1 l hl
theorem spreadL_nil (g : Net) (bg en : Bool) (k : Nat) (bs : List Bool) : spreadL g bg en k ([], bs) = bs := by cases k <;> rfl
theorem spreadL_snoc (g : Net) (bg en : Bool) (k x : Nat) (td : List Nat) (bs : List Bool) : spreadL g bg en (k + 1) (td ++ [x], bs) = spreadL g bg en k (pushL bg en (g.getD x []) (td, bs)) := by
  simp [spreadL]
/-- A link, cell by cell. -/
theorem lk_at {w : World} {a : Option Addr} {n cap i : Nat} {r : List Lk} (h : RdK 8 Lk.enc w a n cap r) (hi : i < n) : ∃ (b off to : Nat) (q : HP), a = some ⟨b, off, none⟩ ∧ Hid (r[i]? = some (to, q)) ∧ b < w.heap.size ∧
    w.cell? ⟨b, off + i * 8, none⟩ = some (.int .i64 to) ∧ w.cell? ⟨b, off + i * 8 + 1, none⟩ = some (.int .i64 q.kind) ∧ w.cell? ⟨b, off + i * 8 + 2, none⟩ = some (.int .u32 q.is.p.toNat) ∧ w.cell? ⟨b, off + i * 8 + 3, none⟩ = some (.int .u32 q.is.m.toNat) ∧ w.cell? ⟨b, off + i * 8 + 4, none⟩ = some (.bool q.neg) ∧ w.cell? ⟨b, off + i * 8 + 5, none⟩ = some (.int .i64 q.mn) ∧ w.cell? ⟨b, off + i * 8 + 6, none⟩ = some (.int .i64 q.mx) ∧ w.cell? ⟨b, off + i * 8 + 7, none⟩ = some (.slice q.a q.n q.cap) := by
  obtain ⟨b, off, ⟨to, q⟩, ha, hx, hb, hc⟩ := h.get hi
  refine ⟨b, off, to, q, ha, hx, hb, ?_, ?_, ?_, ?_, ?_, ?_, ?_, ?_⟩
  · have := hc 0 _ rfl; simpa using this
  · exact hc 1 _ rfl
  · exact hc 2 _ rfl
  · exact hc 3 _ rfl
  · exact hc 4 _ rfl
  · exact hc 5 _ rfl
  · exact hc 6 _ rfl
  · exact hc 7 _ rfl
theorem own_some {α : Type} {k : Nat} {enc : α → List Value} {B e n cap : Nat} {w : World} {a : Option Addr} {xs : List α} (h : OwnK k enc B e w (.slice a n cap) xs) (hne : xs ≠ []) : ∃ T, a = some ⟨T, 0, none⟩ := by
  obtain ⟨h1, h2⟩ := h
  rcases h2 with ⟨h3, h4⟩ | ⟨g', cap', cur, h3, _⟩
  · exact absurd (List.length_eq_zero_iff.1 h4) hne
  · cases h3; exact ⟨_, rfl⟩
theorem pushL_next {bg en : Bool} {r : List Lk} {j to : Nat} {q : HP} {s s2 : List Nat × List Bool} (h : pushL bg en (r.take j) s = s2) (hr : r[j]? = some (to, q)) : pushL bg en (r.take (j + 1)) s = if openB q bg en && !(s2.2.getD to true) then (s2.1 ++ [to], s2.2.set to true) else s2 := by
  rw [take_succ_at hr, pushL_app, h]; rfl
end Go.Proofs.YtadncjpknckaaaaGreatDoor
namespace Go.Proofs.YtadncjpknckaaaaGreatDoor
open Go.RowKit
theorem info_u8 : (Tryz.prog.info? 5).map (fun i => (i.zero, i.size, i.bytes)) = some (some (.int .u8 0), 1, 1) := by kernel_rfl
/-- A call of its own that returns a row of bytes. -/
def RetB (xs : List Bool) (w : World) (e : Ending) (w' : World) : Prop := ∃ S cap, e = .returned (.slice (some ⟨S, 0, none⟩) xs.length cap) ∧ OwnK 1 BB.enc w.heap.size 5 w' (.slice (some ⟨S, 0, none⟩) xs.length cap) xs ∧ Ext w w'
/-! ### after, plain -/
def hitB (s : Snd) (q : HP) : Bool := (q.kind == 1) && (satB s q.is != q.neg)
def afterRow (s : Snd) : List Lk → List Bool → List Bool
  | [], out => out
  | l :: ls, out => afterRow s ls (if hitB s l.2 then out.set l.1 true else out)
def afterTo (g : Net) (s : Snd) (bs : List Bool) : Nat → List Bool
  | 0 => List.replicate g.length false
  | k + 1 => if bs.getD k false then afterRow s (g.getD k []) (afterTo g s bs k) else afterTo g s bs k
def afterM (g : Net) (bs : List Bool) (s : Snd) : List Bool := spreadM g (afterTo g s bs bs.length) false false
/-- The sounds of the links are sounds. -/
def netSndB (g : Net) : Bool := g.all fun r => r.all fun l => l.2.is.ok
theorem netSnd_at {g : Net} (h : netSndB g = true) {x : Nat} {r : List Lk} (hr : g[x]? = some r) : ∀ l ∈ r, l.2.is.ok = true := fun l hl => by
  have h1 := List.all_eq_true.1 h r (List.mem_of_getElem? hr)
  simpa using List.all_eq_true.1 h1 l hl
theorem afterRow_len (s : Snd) : ∀ (r : List Lk) (out : List Bool), (afterRow s r out).length = out.length
  | [], out => rfl
  | l :: ls, out => by simp only [afterRow]; rw [afterRow_len s ls]; split <;> simp
theorem afterRow_app (s : Snd) : ∀ (r t : List Lk) (out : List Bool), afterRow s (r ++ t) out = afterRow s t (afterRow s r out)
  | [], t, out => rfl
  | l :: ls, t, out => by simp only [List.cons_append, afterRow]; exact afterRow_app s ls t _
theorem afterTo_len (g : Net) (s : Snd) (bs : List Bool) : ∀ k, (afterTo g s bs k).length = g.length
  | 0 => by simp [afterTo]
  | k + 1 => by simp only [afterTo]; split; · rw [afterRow_len]; exact afterTo_len g s bs k
                · exact afterTo_len g s bs k
theorem afterRow_next {s : Snd} {r : List Lk} {j to : Nat} {q : HP} {o o2 : List Bool} (h : afterRow s (r.take j) o = o2) (hr : r[j]? = some (to, q)) : afterRow s (r.take (j + 1)) o = if hitB s q then o2.set to true else o2 := by
  rw [take_succ_at hr, afterRow_app, h]; rfl
end Go.Proofs.YtadncjpknckaaaaGreatDoor
namespace Go.Proofs.YtadncjpknckaaaaGreatDoor
open Go.RowKit
theorem div24u (x : Nat) : ((x : Int) / 16777216 == 0) = decide (x < 16777216) := by
  rw [Bool.eq_iff_iff]; simp only [beq_iff_eq, decide_eq_true_eq]; omega
theorem patvalid_any (s : Snd) (w : World) :
    Calls Tryz.prog 92 #[.agg #[.int .u32 s.p.toNat, .int .u32 s.m.toNat]] w fun e w' => e = .returned (.bool s.ok) ∧ Ext w w' := by
  go_enter Tryz.func92, Tryz.ntmps92
  go_wp2
  · rename_i h
    go_ret
    exact ⟨ret_bool (by simp only [Snd.ok, h, div24u]; simp), Ext.alloc1 _ _⟩
  · rename_i h
    go_ret
    exact ⟨ret_bool (by simp [Snd.ok, h]), Ext.alloc1 _ _⟩
/-- A node of a pattern is in order. -/
def HP.okB : HP → Bool
  | .mk kd is ng mn mx _ _ _ l =>
    if kd = 1 then is.ok && decide (mn = 0) && decide (mx = 0) && l.isEmpty
    else (is.p == 0#32) && (is.m == 0#32) && (!ng) &&
      if kd = 5 then decide (l.length = 1) && decide (0 ≤ mn) && decide (mn ≤ 32) && (decide (mx = -1) || (decide (mn ≤ mx) && decide (mx ≤ 32)))
      else decide (mn = 0) && decide (mx = 0) && (decide (kd = 3) || decide (kd = 4) || ((decide (kd = 0) || decide (kd = 2) || decide (kd = 6)) && l.isEmpty))
set_option maxHeartbeats 4000000 in
set_option maxRecDepth 20000 in
theorem allowed_any (h : HP) (hok : h.okB = true) (w : World) (hn : h.l.length = h.n) :
    Calls Tryz.prog 72 #[patV h] w fun e w' => e = .returned (.int .i64 0) ∧ Ext w w' := by
  obtain ⟨kd, is, ng, mn, mx, a, n, cap, l⟩ := h
  change l.length = n at hn
  simp only [HP.okB] at hok
  by_cases k1 : kd = 1
  · subst k1
    simp only [if_true, Bool.and_eq_true, decide_eq_true_eq, List.isEmpty_iff] at hok
    obtain ⟨⟨⟨h1, h2⟩, h3⟩, h4⟩ := hok
    subst h2 h3 h4
    simp at hn
    subst hn
    show Calls Tryz.prog 72 #[.agg #[.int .i64 1, .int .u32 is.p.toNat, .int .u32 is.m.toNat, .bool ng, .int .i64 0, .int .i64 0, .slice a 0 cap]] w _
    go_enter Tryz.func72, Tryz.ntmps72
    go_wp2_with fail
    refine (cbool (patvalid_any is _) h1).mono ?_
    rintro e w1 ⟨rfl, hx1⟩
    go_wp2_with fail
    go_ret
    exact ⟨rfl, (by repeat (first | exact Ext.refl _ | assumption | refine Ext.drew ?_ | refine Ext.drewN ?_ _ | refine Ext.alloc ?_ _ | refine Ext.trans ?_ (by assumption)))⟩
  · rw [if_neg k1] at hok
    simp only [Bool.and_eq_true, beq_iff_eq, Bool.not_eq_true'] at hok
    obtain ⟨⟨⟨e1, e2⟩, e3⟩, hok⟩ := hok
    obtain ⟨p, m⟩ := is
    change p = _ at e1
    change m = _ at e2
    subst e1 e2 e3
    by_cases k5 : kd = 5
    · subst k5
      simp only [if_true, Bool.and_eq_true, decide_eq_true_eq, Bool.or_eq_true] at hok
      obtain ⟨⟨⟨h1, h2⟩, h3⟩, h4⟩ := hok
      rw [h1] at hn
      subst hn
      have m1 : decide (mn < 0) = false := by simp; omega
      have m2 : decide (32 < mn) = false := by simp; omega
      show Calls Tryz.prog 72 #[.agg #[.int .i64 5, .int .u32 0, .int .u32 0, .bool false, .int .i64 mn, .int .i64 mx, .slice a 1 cap]] w _
      rcases h4 with h4 | ⟨h5, h6⟩
      · subst h4
        go_enter Tryz.func72, Tryz.ntmps72
        go_wp2_with fail
        refine (cbool (patvalid_any ⟨0#32, 0#32⟩ _) (b := true) rfl).mono ?_
        rintro e w1 ⟨rfl, hx1⟩
        go_wp2_with fail
        go_ret
        exact ⟨rfl, (by repeat (first | exact Ext.refl _ | assumption | refine Ext.drew ?_ | refine Ext.drewN ?_ _ | refine Ext.alloc ?_ _ | refine Ext.trans ?_ (by assumption)))⟩
      · have m3 : decide (mx < mn) = false := by simp; omega
        have m4 : decide (32 < mx) = false := by simp; omega
        have m5 : (mx == -1) = false := by simp; omega
        go_enter Tryz.func72, Tryz.ntmps72
        go_wp2_with fail
        refine (cbool (patvalid_any ⟨0#32, 0#32⟩ _) (b := true) rfl).mono ?_
        rintro e w1 ⟨rfl, hx1⟩
        go_wp2_with fail
        go_ret
        exact ⟨rfl, (by repeat (first | exact Ext.refl _ | assumption | refine Ext.drew ?_ | refine Ext.drewN ?_ _ | refine Ext.alloc ?_ _ | refine Ext.trans ?_ (by assumption)))⟩
    · rw [if_neg k5] at hok
      simp only [Bool.and_eq_true, decide_eq_true_eq, Bool.or_eq_true, List.isEmpty_iff] at hok
      obtain ⟨⟨h1, h2⟩, h3⟩ := hok
      subst h1 h2
      show Calls Tryz.prog 72 #[.agg #[.int .i64 kd, .int .u32 0, .int .u32 0, .bool false, .int .i64 0, .int .i64 0, .slice a n cap]] w _
      rcases h3 with (h3 | h3) | ⟨h3, h4⟩
      · subst h3
        clear k1 k5
        go_enter Tryz.func72, Tryz.ntmps72
        go_wp2_with fail
        refine (cbool (patvalid_any ⟨0#32, 0#32⟩ _) (b := true) rfl).mono ?_
        rintro e w1 ⟨rfl, hx1⟩
        go_wp2_with fail
        go_ret
        exact ⟨rfl, (by repeat (first | exact Ext.refl _ | assumption | refine Ext.drew ?_ | refine Ext.drewN ?_ _ | refine Ext.alloc ?_ _ | refine Ext.trans ?_ (by assumption)))⟩
      · subst h3
        clear k1 k5
        go_enter Tryz.func72, Tryz.ntmps72
        go_wp2_with fail
        refine (cbool (patvalid_any ⟨0#32, 0#32⟩ _) (b := true) rfl).mono ?_
        rintro e w1 ⟨rfl, hx1⟩
        go_wp2_with fail
        go_ret
        exact ⟨rfl, (by repeat (first | exact Ext.refl _ | assumption | refine Ext.drew ?_ | refine Ext.drewN ?_ _ | refine Ext.alloc ?_ _ | refine Ext.trans ?_ (by assumption)))⟩
      · subst h4
        simp at hn
        subst hn
        rcases h3 with (h3 | h3) | h3
        · subst h3
          clear k1 k5
          go_enter Tryz.func72, Tryz.ntmps72
          go_wp2_with fail
          refine (cbool (patvalid_any ⟨0#32, 0#32⟩ _) (b := true) rfl).mono ?_
          rintro e w1 ⟨rfl, hx1⟩
          go_wp2_with fail
          go_ret
          exact ⟨rfl, (by repeat (first | exact Ext.refl _ | assumption | refine Ext.drew ?_ | refine Ext.drewN ?_ _ | refine Ext.alloc ?_ _ | refine Ext.trans ?_ (by assumption)))⟩
        · subst h3
          clear k1 k5
          go_enter Tryz.func72, Tryz.ntmps72
          go_wp2_with fail
          refine (cbool (patvalid_any ⟨0#32, 0#32⟩ _) (b := true) rfl).mono ?_
          rintro e w1 ⟨rfl, hx1⟩
          go_wp2_with fail
          go_ret
          exact ⟨rfl, (by repeat (first | exact Ext.refl _ | assumption | refine Ext.drew ?_ | refine Ext.drewN ?_ _ | refine Ext.alloc ?_ _ | refine Ext.trans ?_ (by assumption)))⟩
        · subst h3
          clear k1 k5
          go_enter Tryz.func72, Tryz.ntmps72
          go_wp2_with fail
          refine (cbool (patvalid_any ⟨0#32, 0#32⟩ _) (b := true) rfl).mono ?_
          rintro e w1 ⟨rfl, hx1⟩
          go_wp2_with fail
          go_ret
          exact ⟨rfl, (by repeat (first | exact Ext.refl _ | assumption | refine Ext.drew ?_ | refine Ext.drewN ?_ _ | refine Ext.alloc ?_ _ | refine Ext.trans ?_ (by assumption)))⟩
end Go.Proofs.YtadncjpknckaaaaGreatDoor
namespace Go.Proofs.YtadncjpknckaaaaGreatDoor
open Go.RowKit Go.Shelf
def backP (l : List HP) : List (Nat × HP) := (List.range l.length).reverse.map fun i => (i, l.getD i zP)
theorem backP_len (l : List HP) : (backP l).length = l.length := by simp [backP]
theorem backP_at {l : List HP} {j : Nat} (h : j < l.length) : (backP l)[j]? = some (l.length - 1 - j, l.getD (l.length - 1 - j) zP) := by
  unfold backP
  rw [List.getElem?_map, List.getElem?_reverse (by simpa using h), List.length_range, List.getElem?_range (by omega)]
  rfl
theorem backP_mem {l : List HP} {y : Nat × HP} (h : y ∈ backP l) : l[y.1]? = some y.2 := by
  unfold backP at h
  obtain ⟨i, hi, rfl⟩ := List.mem_map.1 h
  have hi : i < l.length := by simpa using hi
  show l[i]? = some (l.getD i zP)
  rw [List.getD_eq_getElem?_getD, List.getElem?_eq_getElem hi]; rfl
theorem backP_snd (l : List HP) : (backP l).map (·.2) = l.reverse := by
  apply List.ext_getElem?
  intro j
  rw [List.getElem?_map]
  by_cases h : j < l.length
  · rw [backP_at h, List.getElem?_reverse h]
    show some (l.getD (l.length - 1 - j) zP) = _
    rw [List.getD_eq_getElem?_getD, List.getElem?_eq_getElem (by omega)]; rfl
  · rw [List.getElem?_eq_none (by rw [backP_len]; omega), List.getElem?_eq_none (by simp; omega)]; rfl
abbrev encP (y : Nat × HP) : Array Value := #[.int .i64 y.1, patV y.2]
theorem backward_in (n : Nat) (a : Option Addr) (m cap : Nat) (w : World) :
    CallsIn Fence.wide n Tryz.prog 73 #[.slice a m cap] w fun e w' => e = .returned (.func (.func 93) #[] #[.pointer (some ⟨w.heap.size, 0, none⟩)]) ∧ w' = w.alloc (.cells #[.slice a m cap] 53) := by
  refine callsIn_of_wp Tryz.func73 rfl trivial ?_ rfl
  simp only [Tryz.ntmps73, List.size_toArray, List.length_cons, List.length_nil, Nat.reduceAdd, Nat.reduceSub, Array.replicate_succ, Array.replicate_zero, List.push_toArray, List.append_toArray, List.nil_append, List.cons_append]
  gi_wp2
  go_ret
  exact ⟨rfl, rfl⟩
set_option maxHeartbeats 1000000 in
theorem backward1_in (n l Bx : Nat) (hn : 1 ≤ n) (w0 : World) (h : HP) (hr : RdPt w0 h) (J Jx : List (Nat × HP) → World → Prop)
    (hrd : ∀ s X, J s X → X.cell? ⟨Bx, 0, none⟩ = some (.slice h.a h.n h.cap) ∧ Ext w0 X)
    (hY : ∀ pre y X, J pre X → (pre ++ [y]) <+: backP h.l → YieldAt Fence.wide (n - 1) Tryz.prog l (encP y) X fun e Y => (e = .returned (.bool true) ∧ J (pre ++ [y]) Y) ∨ (e = .returned (.bool false) ∧ Jx (pre ++ [y]) Y))
    (W : World) (h0 : J [] W) :
    CallsIn Fence.wide n Tryz.prog 93 #[.func (.yield l) #[] #[], .pointer (some ⟨Bx, 0, none⟩)] W fun e W' => (∃ v, e = .returned v) ∧ (J (backP h.l) W' ∨ ∃ pre, Jx pre W') := by
  have hro : Fence.wide.round = none := rfl
  have hbox := (hrd _ _ h0).1
  have hle := hr.rd.le
  have hmost := hr.rd.most
  have hl := hr.rd.len
  unfold maxLen at hmost
  have hwm : wrap64 ((h.n : Int) - 1) = (h.n : Int) - 1 := by unfold wrap64; omega
  obtain ⟨kd, is, ng, mn, mx, a, m, cap, xs⟩ := h
  change m ≤ cap at hle
  change cap ≤ _ at hmost
  change xs.length = m at hl
  change wrap64 ((m : Int) - 1) = (m : Int) - 1 at hwm
  change W.cell? _ = some (.slice a m cap) at hbox
  have hlen := Lib.hid (backP_len xs)
  replace hl := Lib.hid hl
  refine callsIn_of_wp Tryz.func93 rfl trivial ?_ hro
  simp only [Tryz.ntmps93, List.size_toArray, List.length_cons, List.length_nil, Nat.reduceAdd, Nat.reduceSub, Array.replicate_succ, Array.replicate_zero, List.push_toArray, List.append_toArray, List.nil_append, List.cons_append]
  gi_wp2
  gi_loopw [3] (fun i wr => ∃ (j : Nat) (z : Int), j ≤ m ∧ i = .int .i64 z ∧ z = (m : Int) - 1 - (j : Int) ∧ J ((backP xs).take j) wr) (fun i _ => (intOf i + 1).toNat)
  case atStart => exact ⟨0, _, Nat.zero_le _, rfl, by omega, h0⟩
  case round =>
    obtain ⟨j, z, hj, rfl, hz, hJ1⟩ := hrel
    obtain ⟨hb1, hx1⟩ := hrd _ _ hJ1
    change wr.cell? _ = some (.slice a m cap) at hb1
    by_cases hlt : j < m
    · obtain ⟨i, hi⟩ : ∃ i, i = m - 1 - j := ⟨_, rfl⟩
      have hzi : z = (i : Int) := by omega
      subst hzi
      obtain ⟨b, off, x, ha, hxi, hb, hrx, c0, c1, c2, c3, c4, c5, c6⟩ := (hr.ext hx1).at (i := i) (by show i < m; omega)
      change a = some _ at ha
      subst ha
      have hxi : Hid (xs[i]? = some x) := hxi
      have hat : (backP xs)[j]? = some (i, x) := by
        have := backP_at (l := xs) (j := j) (by rw [hl.out]; exact hlt)
        rw [hl.out, ← hi, List.getD_eq_getElem?_getD, hxi.out] at this
        exact this
      have hsu := take_succ_at hat
      have hpre : ((backP xs).take j) ++ [(i, x)] <+: backP xs := by rw [← hsu]; exact List.take_prefix _ _
      obtain ⟨fn, tmps, assign, body, hyl, hR⟩ := hY _ (i, x) wr hJ1 hpre
      have him : (i : Int) < (m : Int) := by omega
      have hi0 : (0 : Int) ≤ (i : Int) := by omega
      replace hsu := Lib.hid hsu
      replace hi := Lib.hid hi
      replace hat := Lib.hid hat
      replace hz := Lib.hid hz
      gi_wp2
      refine hR.mono ?_
      rintro e W3 (⟨rfl, hJ4⟩ | ⟨rfl, hJx4⟩)
      · rw [← hsu.out] at hJ4
        have hwi : wrap64 ((i : Int) - 1) = (i : Int) - 1 := by unfold wrap64; omega
        gi_wp2
        refine ⟨⟨j + 1, _, by omega, rfl, by have := hi.out; omega, hJ4⟩, ?_⟩
        simp only [intOf]; omega
      · gi_wp2
        refine bodyPost_ret (results_none rfl _ _ _) rfl ?_
        exact ⟨⟨_, rfl⟩, .inr ⟨_, hJx4⟩⟩
    · have hjm : j = m := by omega
      have hz1 : z = -1 := by omega
      subst hz1
      rw [hjm, List.take_of_length_le (by rw [hlen.out, hl.out]; exact Nat.le_refl _)] at hJ1
      gi_wp2
      go_end0
      exact ⟨⟨_, rfl⟩, .inl hJ1⟩
end Go.Proofs.YtadncjpknckaaaaGreatDoor
