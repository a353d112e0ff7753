/-
  The reference's add and sum of correspondences.
-/
import Derived.Test.YtjfhfbobnncpkaaDoorKo
import Derived.Test.YtjfhfbobnncpkaaDoorOw
import Derived.Test.YtjfhfbobnncpkaaDoorOh
namespace Go.Proofs.YtjfhfbobnncpkaaDoor
open Go.RowKit
/-- The cells and the count of a correspondence. -/
def kp (h : HCo) : List Cl × Int := (h.x, h.cnt)
/-- A list of correspondences that the call owns. -/
structure OwnL (B : Nat) (w : World) (v : Value) (hs : List HCo) : Prop where
  own : OwnK 2 HCo.enc B 45 w v hs
  ok : ∀ y ∈ hs, RdC w y.a y.n y.cap y.x
theorem OwnL.kept {B : Nat} {w w' : World} {v : Value} {hs : List HCo} (h : OwnL B w v hs) (hx : Ext w w') : OwnL B w' v hs := ⟨h.own.kept hx, fun y hy => (h.ok y hy).ext hx⟩
theorem OwnL.base {B B' : Nat} {w : World} {v : Value} {hs : List HCo} (h : OwnL B w v hs) (hB : B' ≤ B) : OwnL B' w v hs := ⟨OwnK.base h.own hB, h.ok⟩
theorem OwnL.nil (B : Nat) (w : World) : OwnL B w (.slice none 0 0) [] := ⟨OwnK.nil _ _ _, fun y hy => by cases hy⟩
theorem OwnL.rd {B : Nat} {w : World} {v : Value} {hs : List HCo} (h : OwnL B w v hs) : ∃ a n cap, n = hs.length ∧ v = .slice a n cap ∧ RdH w a n cap hs := by
  obtain ⟨a, n, cap, hn, hv, hr⟩ := OwnK.rdn HCo.len h.own
  exact ⟨a, n, cap, hn, hv, hr, h.ok⟩
section
variable {L : List (List Cl × Int)} {x y : List Cl × Int} {k : Nat}
theorem addK_skip : ∀ {L : List (List Cl × Int)} {k : Nat}, (∀ i z, i < k → L[i]? = some z → cmpCs z.1 x.1 < 0) → k ≤ L.length → addK cmpCs L x = L.take k ++ addK cmpCs (L.drop k) x
  | L, 0, _, _ => by simp
  | [], k + 1, _, h => by simp at h
  | z :: L, k + 1, h1, h2 => by
    rw [addK, if_pos (h1 0 z (by omega) rfl), addK_skip (L := L) (k := k) (fun i z hi hz => h1 (i + 1) z (by omega) (by simpa using hz)) (by simpa using h2)]
    rfl
theorem addK_end (h1 : ∀ i z, i < L.length → L[i]? = some z → cmpCs z.1 x.1 < 0) : addK cmpCs L x = L ++ [x] := by
  rw [addK_skip h1 (Nat.le_refl _), List.take_length, List.drop_length]; rfl
theorem addK_eq (h1 : ∀ i z, i < k → L[i]? = some z → cmpCs z.1 x.1 < 0) (hy : L[k]? = some y) (h2 : cmpCs y.1 x.1 = 0) : addK cmpCs L x = L.take k ++ (x.1, x.2 + y.2) :: L.drop (k + 1) := by
  rw [addK_skip h1 (Nat.le_of_lt (List.getElem?_eq_some_iff.1 hy).1), drop_cons hy, addK, if_neg (by omega), if_pos h2]
theorem addK_gt (h1 : ∀ i z, i < k → L[i]? = some z → cmpCs z.1 x.1 < 0) (hy : L[k]? = some y) (h2 : 0 ≤ cmpCs y.1 x.1) (h3 : cmpCs y.1 x.1 ≠ 0) : addK cmpCs L x = L.take k ++ x :: L.drop k := by
  rw [addK_skip h1 (Nat.le_of_lt (List.getElem?_eq_some_iff.1 hy).1), drop_cons hy, addK, if_neg (by omega), if_neg h3]
end
theorem elem_corrs : Tryd.prog.underlying 37 = some (.slice (Tryd.prog.elem 37)) := by kernel_rfl
theorem size_corrs (w : World) : (sizeOf (Tryd.prog.elem 37)).run Tryd.prog w = .ok 2 w := by kernel_rfl
theorem OwnK.rdv {α : Type} {k : Nat} {enc : α → List Value} (hk : ∀ x, (enc x).length = k) {B : Nat} {e : TypeId} {w : World} {a : Option Addr} {n cap : Nat} {xs : List α} (h : OwnK k enc B e w (.slice a n cap) xs) : RdK k enc w a n cap xs := by
  obtain ⟨a', n', cap', _, hv, hr⟩ := OwnK.rdn hk h
  cases hv; exact hr
theorem OwnK.blk' {α : Type} {k : Nat} {enc : α → List Value} {B : Nat} {e : TypeId} {w : World} {v : Value} {xs : List α} (h : OwnK k enc B e w v xs) : ∀ g, v.ownBlock = some g → ∃ cur fr, w.heap[g]? = some (.cells cur e fr) :=
  fun _ hg => let ⟨cur, hc⟩ := OwnK.blk h hg; ⟨cur, _, hc⟩
theorem map_kp_app {hs : List HCo} {y : HCo} {k j : Nat} : (hs.take k ++ [y] ++ hs.drop j).map kp = (hs.map kp).take k ++ kp y :: (hs.map kp).drop j := by
  rw [List.map_append, List.map_append, List.map_take, List.map_drop, List.append_assoc]; rfl
/-- A list of correspondences handed back. -/
def AddRet (L : List (List Cl × Int)) (w : World) (e : Ending) (w' : World) : Prop := ∃ v hs', e = .returned v ∧ OwnL w.heap.size w' v hs' ∧ hs'.map kp = L ∧ Ext w w'
/-! ### sum -/
theorem cntK_bd {M : Int} (hM : 0 ≤ M) : ∀ {l : List (List Cl × Int)}, (∀ x ∈ l, 0 ≤ x.2 ∧ x.2 ≤ M) → ∀ c, 0 ≤ cntK l c ∧ cntK l c ≤ M * l.length
  | [], _, c => by simp [cntK]
  | x :: l, h, c => by
    have ih := cntK_bd hM (l := l) (fun y hy => h y (List.mem_cons_of_mem _ hy)) c
    have hx := h x (List.mem_cons_self ..)
    have e : cntK (x :: l) c = (if x.1 = c then x.2 else 0) + cntK l c := by
      unfold cntK
      by_cases hc : x.1 = c
      · rw [if_pos hc, List.filter_cons, if_pos (by simpa using hc)]; rfl
      · rw [if_neg hc, List.filter_cons, if_neg (by simpa using hc)]; simp
    rw [e, List.length_cons]
    have : M * ((l.length + 1 : Nat) : Int) = M * l.length + M := by rw [Int.natCast_add, Int.mul_add]; simp
    split <;> omega
theorem SumK.bd {l L : List (List Cl × Int)} (h : SumK cmpCs l L) {M : Int} (hM : 0 ≤ M) (hl : ∀ x ∈ l, 0 ≤ x.2 ∧ x.2 ≤ M) : ∀ x ∈ L, 0 ≤ x.2 ∧ x.2 ≤ M * l.length := fun x hx => by
  have := (h.2.1 x hx).1
  rw [this]; exact cntK_bd hM hl x.1
theorem addK_len : ∀ (L : List (List Cl × Int)) (x : List Cl × Int), (addK cmpCs L x).length ≤ L.length + 1
  | [], x => by simp [addK]
  | y :: L, x => by
    have := addK_len L x
    rw [addK]
    split
    · simp; omega
    · split
      · simp
      · simp
def sumE (L : List (List Cl × Int)) : Int := if L.any (fun x => decide (2147483647 < x.2)) = true then 7 else 0
/-- A sum of correspondences handed back. -/
def SumRet (l : List (List Cl × Int)) (w : World) (e : Ending) (w' : World) : Prop :=
  ∃ L, SumK cmpCs l L ∧ ∃ v hs, e = .returned (.tuple #[v, .int .i64 (sumE L)]) ∧ OwnL w.heap.size w' v hs ∧ hs.map kp = (if sumE L = 0 then L else []) ∧ Ext w w'
theorem sumE_over {hs : List HCo} {i : Nat} {z : HCo} (h : hs[i]? = some z) (hz : 2147483647 < z.cnt) : sumE (hs.map kp) = 7 := by
  unfold sumE
  rw [if_pos]
  exact List.any_eq_true.2 ⟨kp z, List.mem_map.2 ⟨z, List.mem_of_getElem? h, rfl⟩, by show decide (2147483647 < z.cnt) = true; simpa using hz⟩
theorem sumE_ok {hs : List HCo} {n : Nat} (hl : hs.length = n) (h : ∀ (i : Nat) (z : HCo), i < n → hs[i]? = some z → decide (z.cnt ≤ 2147483647) = true) : sumE (hs.map kp) = 0 := by
  unfold sumE
  rw [if_neg]
  rw [Bool.not_eq_true, List.any_eq_false]
  intro x hx
  obtain ⟨z, hz, rfl⟩ := List.mem_map.1 hx
  obtain ⟨i, hi⟩ := List.getElem?_of_mem hz
  have := h i z (by rw [← hl]; exact (List.getElem?_eq_some_iff.1 hi).1) hi
  show ¬ decide (2147483647 < z.cnt) = true
  simp at this ⊢
  omega
end Go.Proofs.YtjfhfbobnncpkaaDoor
