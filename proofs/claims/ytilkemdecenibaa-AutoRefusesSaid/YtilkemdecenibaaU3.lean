/-
  lay, times: the net of a pattern, plain.
-/
import Derived.Test.YtilkemdecenibaaU2
namespace Go.Proofs.Ytilkemdecenibaa
open Go.RowKit
def zP : HP := .mk 0 ⟨0#32, 0#32⟩ false 0 0 none 0 0 []
def iterN {α : Type} (f : α → α) : Nat → α → α
  | 0, x => x
  | k + 1, x => f (iterN f k x)
/-- A pattern that is repeated; L lays it once. -/
def timesM (L : Nat → Net → Nat × Net) (wd : Nat) (mn mx : Int) (f : Nat) (g : Net) : Nat × Net :=
  if wd = 0 then (if mn = 0 then (f, g) else L f g)
  else
    let r := iterN (fun s : Nat × Net => L s.1 s.2) mn.toNat (g.length, NetJoin (g ++ [[]]) f g.length zP)
    if mx = -1 then
      let s := L r.2.length (NetJoin (r.2 ++ [[]]) r.1 r.2.length zP)
      (r.2.length, NetJoin s.2 s.1 r.2.length zP)
    else
      (r.2.length, (iterN (fun s : Nat × Net => let u := L s.1 s.2; (u.1, NetJoin u.2 u.1 r.2.length zP)) (mx - mn).toNat (r.1, NetJoin (r.2 ++ [[]]) r.1 r.2.length zP)).2)
mutual
def layM : HP → Nat → Net → Nat × Net
  | .mk kd is ng mn mx a n c l, f, g =>
    if kd = 0 then (f, g)
    else if kd = 3 then laySeq l f g
    else if kd = 4 then (g.length, layAlt l f g.length (g ++ [[]]))
    else if kd = 5 then layRep l mn mx f g
    else (g.length, NetJoin (g ++ [[]]) f g.length (.mk kd is ng mn mx a n c l))
def laySeq : List HP → Nat → Net → Nat × Net
  | [], f, g => (f, g)
  | q :: l, f, g => laySeq l (layM q f g).1 (layM q f g).2
def layAlt : List HP → Nat → Nat → Net → Net
  | [], _, _, g => g
  | q :: l, f, to, g => layAlt l f to (NetJoin (layM q f g).2 (layM q f g).1 to zP)
def layRep : List HP → Int → Int → Nat → Net → Nat × Net
  | [], _, _, f, g => (f, g)
  | q :: _, mn, mx, f, g => timesM (layM q) (wid q) mn mx f g
end
theorem laySeq_app : ∀ (l m : List HP) (f : Nat) (g : Net), laySeq (l ++ m) f g = laySeq m (laySeq l f g).1 (laySeq l f g).2
  | [], m, f, g => by simp [laySeq]
  | q :: l, m, f, g => by simp only [List.cons_append, laySeq]; exact laySeq_app l m _ _
theorem layAlt_app : ∀ (l m : List HP) (f to : Nat) (g : Net), layAlt (l ++ m) f to g = layAlt m f to (layAlt l f to g)
  | [], m, f, to, g => by simp [layAlt]
  | q :: l, m, f, to, g => by simp only [List.cons_append, layAlt]; exact layAlt_app l m _ _ _
/-- How great a net is. -/
def netSz : Net → Nat
  | [] => 0
  | r :: g => 1 + r.length + netSz g
theorem netSz_app : ∀ (g h : Net), netSz (g ++ h) = netSz g + netSz h
  | [], h => by simp [netSz]
  | r :: g, h => by simp only [List.cons_append, netSz, netSz_app g h]; omega
theorem netSz_join : ∀ (g : Net) (p to : Nat) (q : HP), netSz g ≤ netSz (NetJoin g p to q)
  | [], p, to, q => by simp [NetJoin, netSz]
  | r :: g, 0, to, q => by simp [NetJoin, netSz]
  | r :: g, p + 1, to, q => by
    have := netSz_join g p to q
    unfold NetJoin at this ⊢
    simp only [List.modify_succ_cons, netSz]; omega
theorem netSz_len : ∀ (g : Net), g.length ≤ netSz g ∧ ∀ r ∈ g, r.length ≤ netSz g
  | [] => ⟨Nat.le_refl _, fun r h => by cases h⟩
  | r :: g => by
    obtain ⟨h1, h2⟩ := netSz_len g
    refine ⟨by simp only [List.length_cons, netSz]; omega, fun x hx => ?_⟩
    simp only [netSz]
    rcases List.mem_cons.1 hx with rfl | hx
    · omega
    · have := h2 x hx; omega
/-- A net has grown, and the place is one of it. -/
def Grows (f : Nat) (g : Net) (r : Nat × Net) : Prop := netSz g ≤ netSz r.2 ∧ g.length ≤ r.2.length ∧ (f < g.length → r.1 < r.2.length)
theorem Grows.refl (f : Nat) (g : Net) : Grows f g (f, g) := ⟨Nat.le_refl _, Nat.le_refl _, fun h => h⟩
theorem Grows.trans {f : Nat} {g : Net} {r s : Nat × Net} (h : Grows f g r) (k : Grows r.1 r.2 s) : Grows f g s := ⟨Nat.le_trans h.1 k.1, Nat.le_trans h.2.1 k.2.1, fun h1 => k.2.2 (h.2.2 h1)⟩
theorem Grows.join {f : Nat} {g : Net} {r : Nat × Net} (h : Grows f g r) (p to : Nat) (q : HP) : Grows f g (r.1, NetJoin r.2 p to q) := ⟨Nat.le_trans h.1 (netSz_join _ _ _ _), by rw [netJoin_len]; exact h.2.1, fun h1 => by rw [netJoin_len]; exact h.2.2 h1⟩
theorem Grows.place (f : Nat) (g : Net) (p : Nat) (q : HP) : Grows f g (g.length, NetJoin (g ++ [[]]) p g.length q) := ⟨by show netSz g ≤ netSz (NetJoin (g ++ [[]]) p g.length q); have := netSz_join (g ++ [[]]) p g.length q; rw [netSz_app] at this; omega, by rw [netJoin_len]; simp, fun _ => by rw [netJoin_len]; simp⟩
theorem Grows.keep {f : Nat} {g : Net} {r : Nat × Net} (h : Grows f g r) {u : Nat} (hu : u < g.length) : Grows f g (u, r.2) := ⟨h.1, h.2.1, fun _ => Nat.lt_of_lt_of_le hu h.2.1⟩
theorem grows_iter {F : Nat × Net → Nat × Net} (hF : ∀ f g, Grows f g (F (f, g))) (f : Nat) (g : Net) : ∀ k, Grows f g (iterN F k (f, g))
  | 0 => Grows.refl _ _
  | k + 1 => (grows_iter hF f g k).trans (hF _ _)
theorem grows_times {L : Nat → Net → Nat × Net} (hL : ∀ f g, Grows f g (L f g)) (wd : Nat) (mn mx : Int) (f : Nat) (g : Net) : Grows f g (timesM L wd mn mx f g) := by
  unfold timesM
  split
  · split
    · exact Grows.refl _ _
    · exact hL f g
  · have h1 := (Grows.place f g f zP).trans (grows_iter (F := fun s : Nat × Net => L s.1 s.2) (fun f g => hL f g) _ _ mn.toNat)
    obtain ⟨r, hr⟩ : ∃ r, r = iterN (fun s : Nat × Net => L s.1 s.2) mn.toNat (g.length, NetJoin (g ++ [[]]) f g.length zP) := ⟨_, rfl⟩
    rw [← hr] at h1 ⊢
    have h2 := h1.trans (Grows.place r.1 r.2 r.1 zP)
    split
    · have h3 := (h2.trans (hL _ _)).join (L r.2.length (NetJoin (r.2 ++ [[]]) r.1 r.2.length zP)).1 r.2.length zP
      refine ⟨h3.1, h3.2.1, fun _ => ?_⟩
      show r.2.length < (NetJoin _ _ _ _).length
      rw [netJoin_len]
      have := (hL r.2.length (NetJoin (r.2 ++ [[]]) r.1 r.2.length zP)).2.1
      rw [netJoin_len] at this
      simp at this
      omega
    · have hi := grows_iter (F := fun s : Nat × Net => let u := L s.1 s.2; (u.1, NetJoin u.2 u.1 r.2.length zP)) (fun f g => (hL f g).join _ _ _) r.1 (NetJoin (r.2 ++ [[]]) r.1 r.2.length zP) (mx - mn).toNat
      have h4 := hi.2.1
      rw [netJoin_len] at h4
      simp at h4
      refine ⟨Nat.le_trans h2.1 hi.1, Nat.le_trans h2.2.1 hi.2.1, fun _ => ?_⟩
      simp only
      omega
theorem grows_seq : ∀ (l : List HP), (∀ q ∈ l, ∀ f g, Grows f g (layM q f g)) → ∀ f g, Grows f g (laySeq l f g)
  | [], _, f, g => by simp only [laySeq]; exact Grows.refl _ _
  | q :: l, h, f, g => by
    simp only [laySeq]
    exact (h q List.mem_cons_self f g).trans (grows_seq l (fun x hx => h x (List.mem_cons_of_mem _ hx)) _ _)
theorem grows_alt : ∀ (l : List HP), (∀ q ∈ l, ∀ f g, Grows f g (layM q f g)) → ∀ f to g, netSz g ≤ netSz (layAlt l f to g) ∧ g.length ≤ (layAlt l f to g).length
  | [], _, f, to, g => by simp only [layAlt]; exact ⟨Nat.le_refl _, Nat.le_refl _⟩
  | q :: l, h, f, to, g => by
    simp only [layAlt]
    have h1 := (h q List.mem_cons_self f g).join (layM q f g).1 to zP
    have h2 := grows_alt l (fun x hx => h x (List.mem_cons_of_mem _ hx)) f to (NetJoin (layM q f g).2 (layM q f g).1 to zP)
    exact ⟨Nat.le_trans h1.1 h2.1, Nat.le_trans h1.2.1 h2.2⟩
theorem grows_lay : ∀ (m : Nat) (h : HP), HP.sz h ≤ m → ∀ f g, Grows f g (layM h f g) := by
  intro m
  induction m with
  | zero => intro h hm; cases h; simp only [HP.sz] at hm; omega
  | succ m ih =>
    intro h hm f g
    have hsub : ∀ q ∈ h.l, ∀ f g, Grows f g (layM q f g) := fun q hq => ih q (by have := HP.sz_mem hq; omega)
    cases h with
    | mk kd is ng mn mx a n c l =>
      change ∀ q ∈ l, _ at hsub
      simp only [layM]
      split
      · exact Grows.refl _ _
      · split
        · exact grows_seq l hsub f g
        · split
          · have := grows_alt l hsub f g.length (g ++ [[]])
            rw [netSz_app] at this
            simp at this
            exact ⟨by simp only; omega, by simp only; omega, fun _ => by simp only; omega⟩
          · split
            · cases l with
              | nil => simp only [layRep]; exact Grows.refl _ _
              | cons q l => simp only [layRep]; exact grows_times (hsub q List.mem_cons_self) _ _ _ _ _
            · exact Grows.place f g f _
theorem grows_any (h : HP) (f : Nat) (g : Net) : Grows f g (layM h f g) := grows_lay _ h (Nat.le_refl _) f g
end Go.Proofs.Ytilkemdecenibaa
