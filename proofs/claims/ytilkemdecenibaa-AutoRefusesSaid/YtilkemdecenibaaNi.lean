/-
  slices.SortFunc at ints, by the sounds that they number.
-/
import Derived.Test.YtilkemdecenibaaSqz
import Derived.Test.YtilkemdecenibaaNa
import Derived.Test.YtilkemdecenibaaSortI
namespace Go.Proofs.Ytilkemdecenibaa
open Go.RowKit Go.Shelf Go.Sort Go.Lib
theorem sortWorld_one {α : Type} [Inhabited α] (enc : α → Value) (w : World) (blk off m : Nat) (dk : Array α) (os : Array Obj) : sortWorld enc w blk off m dk os = sortWorldK (fun x => [enc x]) 1 w blk off m dk os := by
  unfold sortWorld sortWorldK putRowK putRow
  congr 2
  funext c
  unfold putCells
  rw [size_flatK, Nat.mul_one]
  apply Array.ext
  · simp
  · intro i h1 h2
    simp only [Array.getElem_mapIdx, id_eq]
    split
    · rename_i h
      rw [get_flatK _ _ _ _ (by omega)]
      simp [Nat.mod_one]
    · rfl
/-- The sounds' numbers in the order of the sounds. -/
def OrdIs (xs : List Snd) (ord : List Nat) : Prop := ord.Perm (List.range xs.length) ∧ ord.Pairwise fun i j => cmpS (xs.getD i ⟨0#32, 0#32⟩) (xs.getD j ⟨0#32, 0#32⟩) < 0
theorem ord_uniq {xs : List Snd} {ord ts : List Nat} (h : OrdIs xs ord) (hp : ts.Perm (List.range xs.length)) (hs : ts.Pairwise fun i j => ¬ cmpS (xs.getD j ⟨0#32, 0#32⟩) (xs.getD i ⟨0#32, 0#32⟩) < 0) : ts = ord := by
  have hT := swo_tot cmpS_tot
  have hinj : ∀ a ∈ ord, ∀ b ∈ ord, ¬ cmpS (xs.getD a ⟨0#32, 0#32⟩) (xs.getD b ⟨0#32, 0#32⟩) < 0 → ¬ cmpS (xs.getD b ⟨0#32, 0#32⟩) (xs.getD a ⟨0#32, 0#32⟩) < 0 → a = b := by
    intro a ha b hb h1 h2
    obtain ⟨i, hi⟩ := List.getElem?_of_mem ha
    obtain ⟨j, hj⟩ := List.getElem?_of_mem hb
    obtain ⟨hi1, hi2⟩ := List.getElem?_eq_some_iff.1 hi
    obtain ⟨hj1, hj2⟩ := List.getElem?_eq_some_iff.1 hj
    have hpw := List.pairwise_iff_getElem.1 h.2
    rcases Nat.lt_trichotomy i j with h3 | h3 | h3
    · exact absurd (by rw [← hi2, ← hj2]; exact hpw i j hi1 hj1 h3) h1
    · subst h3; rw [← hi2, ← hj2]
    · exact absurd (by rw [← hi2, ← hj2]; exact hpw j i hj1 hi1 h3) h2
  have hpo : ts.Perm ord := hp.trans h.1.symm
  refine hpo.eq_of_pairwise (le := fun i j => ¬ cmpS (xs.getD j ⟨0#32, 0#32⟩) (xs.getD i ⟨0#32, 0#32⟩) < 0) (fun a b ha hb h1 h2 => (hinj a (hpo.mem_iff.1 ha) b hb h2 h1)) hs (h.2.imp fun {a b} hab hba => ?_)
  have := hT.trans (xs.getD a ⟨0#32, 0#32⟩) (xs.getD b ⟨0#32, 0#32⟩) (xs.getD a ⟨0#32, 0#32⟩) (decide_eq_true hab) (decide_eq_true hba)
  have h0 := hT.irrefl (xs.getD a ⟨0#32, 0#32⟩)
  rw [this] at h0; cases h0
abbrev FinI (n : Nat) := {i : Nat // i < n}
def FI.enc {n : Nat} (x : FinI n) : Value := .int .i64 (x.1 : Int)
/-- slices.SortFunc at the numbers of sounds. -/
theorem sortI_any (n : Nat) (hn0 : 0 < n) (hn8 : n ≤ 8) (xs : List Snd) (hl : xs.length = n) (gf : Nat) (cb : Array Value) (eg : ∀ args w, (callFunc gf args).run Try.prog w = .ok (.enter gf args) w) {w w0 : World} {g cap : Nat} {L : List Nat} (hL : ∀ x ∈ L, x < n)
    (hcmp : ∀ (W : World) (x y : FinI n), Ext w W → Off g w0 W → Calls Try.prog gf (#[.int .i64 (x.1 : Int), .int .i64 (y.1 : Int)] ++ cb) W fun en w' => en = .returned (.int .i64 (cmpS (xs.getD x.1 ⟨0#32, 0#32⟩) (xs.getD y.1 ⟨0#32, 0#32⟩))) ∧ ExtD W w')
    (hx : Ext w w0) (hown : OwnK 1 NN.enc w.heap.size 3 w0 (.slice (some ⟨g, 0, none⟩) n cap) L) :
    Calls Try.prog 96 #[.slice (some ⟨g, 0, none⟩) n cap, .func (.func gf) #[] cb] w0 fun en w' => en = .returned (.tuple #[]) ∧ Ext w w' ∧ Off g w0 w' ∧
      ∃ ts : List Nat, ts.Perm L ∧ ts.Pairwise (fun i j => ¬ cmpS (xs.getD j ⟨0#32, 0#32⟩) (xs.getD i ⟨0#32, 0#32⟩) < 0) ∧ OwnK 1 NN.enc w.heap.size 3 w' (.slice (some ⟨g, 0, none⟩) n cap) ts := by
  haveI : Inhabited (FinI n) := ⟨⟨0, hn0⟩⟩
  have hE : ∀ l : List (FinI n), (l.map Subtype.val).flatMap NN.enc = l.flatMap fun x => [FI.enc x] := fun l => by
    induction l with
    | nil => rfl
    | cons x l ih => simp only [List.map_cons, List.flatMap_cons, ih]; rfl
  obtain ⟨d, hd⟩ : ∃ d : Array (FinI n), d.toList.map Subtype.val = L := ⟨(L.attach.map fun x => ⟨x.1, hL x.1 x.2⟩).toArray, by simp⟩
  have hk : ∀ x : FinI n, ((fun x => [FI.enc x]) x).length = 1 := fun x => rfl
  have hown2 : OwnK 1 (fun x : FinI n => [FI.enc x]) w.heap.size 3 w0 (.slice (some ⟨g, 0, none⟩) n cap) d.toList := by
    have h1 := hown
    unfold OwnK at h1 ⊢
    rw [← hd, hE, List.length_map] at h1
    exact h1
  obtain ⟨hB, hgs, hlen, _, _⟩ := OwnK.ge hown2
  have hsz : d.size = n := by simpa using hlen
  have hhold := OwnK.holds hk hown2
  have hh1 : Holds FI.enc w0 g 0 d := fun j hj => by
    have := hhold j (by rw [size_flatK, Nat.mul_one]; exact hj)
    rw [get_flatK _ _ _ _ (by rw [Nat.mul_one]; exact hj)] at this
    simpa [Nat.mod_one] using this
  have hc := Any.slices_SortFunc Try.sortI FI.enc (fun x => rfl) (fun x y : FinI n => cmpS (xs.getD x.1 ⟨0#32, 0#32⟩) (xs.getD y.1 ⟨0#32, 0#32⟩)) (swo_pre cmpS_tot (fun x : FinI n => xs.getD x.1 ⟨0#32, 0#32⟩)) gf cb g 0 cap d w0 eg
    (fun m os dk _ x y => by
      rw [sortWorld_one]
      exact (hcmp _ x y (extD_sortWorldK hx hB 0 m dk os) (off_sortWorldK w0 g 0 m dk os)).mono fun en w' ⟨he, h⟩ => ⟨he, h.to_grow⟩)
    hh1 hgs (by omega)
  rw [hsz] at hc
  refine Calls.mono hc ?_
  rintro en w' ⟨rfl, d', m, os, hp, hso, rfl⟩
  rw [sortWorld_one]
  have hdn : d'.size = n := by rw [hp.1, hsz]
  refine ⟨rfl, extD_sortWorldK hx hB _ _ _ _, off_sortWorldK _ _ _ _ _ _, d'.toList.map Subtype.val, ?_, ?_, ?_⟩
  · have h3 := hp.2.2
    have e1 : d'.extract 0 n = d' := Array.extract_eq_self_of_le (by omega)
    have e2 : d.extract 0 n = d := Array.extract_eq_self_of_le (by omega)
    rw [e1, e2] at h3
    rw [← hd]; exact List.Perm.map _ h3
  · rw [List.pairwise_map, List.pairwise_iff_getElem]
    intro i j hi hj hij
    have h1 := hso i j (Nat.zero_le _) hij (by simp at hj; omega)
    have h2 : ¬ cmpS (xs.getD d'[j]!.1 ⟨0#32, 0#32⟩) (xs.getD d'[i]!.1 ⟨0#32, 0#32⟩) < 0 := of_decide_eq_false h1
    simp at hi hj
    rw [getElem!_pos d' i hi, getElem!_pos d' j hj] at h2
    simpa using h2
  · have h1 := own_sortedK (m := m) (os := os) hk hown2 d' hdn
    unfold OwnK at h1 ⊢
    rw [hE, List.length_map]
    exact h1
end Go.Proofs.Ytilkemdecenibaa
