/-
  A region that draws its order, by what each operation leaves: every operation has a relation to the world of its own, which the others keep; in whatever order, at the end all relations hold.
  A region that draws its order, by relations: operations behind a guard.
-/
import Derived.Test.YtilkemdecenibaaQt
namespace Go.Proofs.Ytilkemdecenibaa
open Go.RowKit
section
variable {P : Program} {ops : Array Oper} {Q : Exit → Act → World → Prop} {md : Region.Mode}
/-- How many operations are not listed yet. -/
def unl (listed : Array Bool) : Nat := (listed.toList.filter fun b => !b).length
theorem unl_set : ∀ (l : List Bool) (i : Nat), l[i]? = some false → ((l.set i true).filter fun b => !b).length + 1 = (l.filter fun b => !b).length
  | [], i, h => by simp at h
  | b :: l, 0, h => by simp at h; subst h; simp
  | b :: l, i + 1, h => by
    simp at h
    have ih := unl_set l i h
    rw [List.set_cons_succ, List.filter_cons, List.filter_cons]
    cases b
    · simp only [Bool.not_false, if_true, List.length_cons]; omega
    · simpa using ih
theorem get_of_getD {listed : Array Bool} {i : Nat} (h : listed.getD i true = false) : listed.toList[i]? = some false := by
  rcases Nat.lt_or_ge i listed.size with h' | h'
  · simp [h'] at h; simp [h', h]
  · simp [Array.getElem?_eq_none h'] at h
theorem wpAny_inv {I : Array Bool → Act → World → Prop}
    (hstep : ∀ listed a w i, I listed a w → i ∈ Region.ready md ops listed → wpOp P ops Q i (I (listed.setIfInBounds i true)) a w)
    (hend : ∀ listed a w, I listed a w → Region.ready md ops listed = [] → Q .normal a w) :
    ∀ (fuel : Nat) (listed : Array Bool) (a : Act) (w : World), unl listed ≤ fuel → I listed a w → wpAny P md ops Q fuel listed a w
  | 0, listed, a, w, hf, hI => by
    have hr : Region.ready md ops listed = [] := by
      refine List.eq_nil_iff_forall_not_mem.2 fun i hi => ?_
      have h1 := get_of_getD (mem_ready.1 hi).1
      have h2 := unl_set _ _ h1
      unfold unl at hf; omega
    exact ⟨hr, hend _ _ _ hI hr⟩
  | fuel + 1, listed, a, w, hf, hI => by
    refine ⟨fun hr => hend _ _ _ hI hr, fun i hi => ?_⟩
    refine wpOp_mono (fun a' w' h' => wpAny_inv hstep hend fuel _ a' w' ?_ h') (hstep listed a w i hI hi)
    have h1 := get_of_getD (mem_ready.1 hi).1
    have h2 := unl_set _ _ h1
    unfold unl at hf ⊢
    rw [Array.toList_setIfInBounds]
    omega
/-! ### The relations -/
/-- The operations that operation i waits for. -/
def depsB (md : Region.Mode) (o : Oper) (j : Nat) : Bool := o.after.any fun e => Region.binds md e && (e.on == j)
/-- The table of a region is in order: waits lead back; what an operation writes is no other's slot, but of one that waits for it. -/
def tauB (md : Region.Mode) (ops : Array Oper) (τ : Nat → Nat) : Bool :=
  (List.range ops.size).all fun i => match ops[i]? with
    | none => true
    | some o => (o.after.all fun e => !Region.binds md e || decide (e.on < i)) &&
      (match o.dst with
       | none => true
       | some t => (List.range ops.size).all fun j => !(τ j == t) || (i == j) || (match ops[j]? with | none => true | some oj => depsB md oj i))
structure SpI (md : Region.Mode) (ops : Array Oper) (τ : Nat → Nat) (R : Nat → Value → World → Prop) (G : World → Prop) (a0 : Act) (listed : Array Bool) (a : Act) (w : World) : Prop where
  sz : listed.size = ops.size
  closed : ∀ j oj, ops[j]? = some oj → listed.getD j false = true → ∀ e ∈ oj.after, Region.binds md e = true → listed.getD e.on false = true
  tsz : a.tmps.size = a0.tmps.size
  dfr : a.defers = a0.defers
  old : ∀ t, (∀ (j : Nat) (o : Oper), ops[j]? = some o → o.dst ≠ some t) → a.tmps.getD t undef = a0.tmps.getD t undef
  rel : ∀ j, j < ops.size → listed.getD j false = true → R j (a.tmps.getD (τ j) undef) w
  g : G w
/-- What one operation does: it goes through, leaves a value that stands to the world as it should, and keeps the others' relations. -/
def OpDoes (P : Program) (Q : Exit → Act → World → Prop) (md : Region.Mode) (ops : Array Oper) (τ : Nat → Nat) (R : Nat → Value → World → Prop) (G : World → Prop) (a0 : Act) (o : Oper) (i : Nat) : Prop :=
  ∀ a w, a.tmps.size = a0.tmps.size → (∀ t, (∀ (j : Nat) (o : Oper), ops[j]? = some o → o.dst ≠ some t) → a.tmps.getD t undef = a0.tmps.getD t undef) → (∀ j, depsB md o j = true → R j (a.tmps.getD (τ j) undef) w) → G w →
    Region.wanted o (yielded ops a.tmps) = true ∧ o.wp P a w (fun a' w' => ∃ v, a' = a.put o.dst v ∧ G w' ∧ R i (a'.tmps.getD (τ i) undef) w' ∧ ∀ j u, j ≠ i → R j u w → R j u w') Q
theorem put_getD_ne {a : Act} {d : Option Tmp} {v : Value} {t : Nat} (h : d ≠ some t) : (a.put d v).tmps.getD t undef = a.tmps.getD t undef := by
  cases d with
  | none => rfl
  | some u =>
    have hne : u ≠ t := fun e => h (by rw [e])
    simp [Act.put, Array.getElem?_setIfInBounds_ne hne]
theorem put_size {a : Act} {d : Option Tmp} {v : Value} : (a.put d v).tmps.size = a.tmps.size := by
  cases d with
  | none => rfl
  | some u => simp [Act.put]
theorem put_defers {a : Act} {d : Option Tmp} {v : Value} : (a.put d v).defers = a.defers := by cases d <;> rfl
theorem getD_set_self {listed : Array Bool} {i : Nat} (h : i < listed.size) : (listed.setIfInBounds i true).getD i false = true := by simp [h]
/-- The text's order of the puts. -/
def putAll : List Oper → (Nat → Value) → Nat → Act → Act
  | [], _, _, a => a
  | o :: l, f, i, a => putAll l f (i + 1) (a.put o.dst (f i))
theorem putAll_size : ∀ (l : List Oper) (f : Nat → Value) (i : Nat) (a : Act), (putAll l f i a).tmps.size = a.tmps.size ∧ (putAll l f i a).defers = a.defers
  | [], _, _, _ => ⟨rfl, rfl⟩
  | o :: l, f, i, a => by
    obtain ⟨h1, h2⟩ := putAll_size l f (i + 1) (a.put o.dst (f i))
    exact ⟨by rw [putAll, h1, put_size], by rw [putAll, h2, put_defers]⟩
theorem putAll_get {t : Nat} {X : Value} : ∀ (l : List Oper) (f : Nat → Value) (i : Nat) (a : Act), t < a.tmps.size → (∀ (j : Nat) (o : Oper), l[j]? = some o → o.dst = some t → f (i + j) = X) → ((∀ (j : Nat) (o : Oper), l[j]? = some o → o.dst ≠ some t) → a.tmps.getD t undef = X) → (putAll l f i a).tmps.getD t undef = X
  | [], f, i, a, _, _, h2 => h2 (fun j o h => by simp at h)
  | o :: l, f, i, a, ht, h1, h2 => by
    rw [putAll]
    refine putAll_get l f (i + 1) _ (by rw [put_size]; exact ht) (fun j o' hj hd => ?_) (fun hno => ?_)
    · have := h1 (j + 1) o' (by simpa using hj) hd
      rwa [show i + 1 + j = i + (j + 1) by omega]
    · by_cases hd : o.dst = some t
      · have := h1 0 o rfl hd
        rw [Nat.add_zero] at this
        rw [hd]
        simp only [Act.put]
        simp [ht, this]
      · rw [put_getD_ne hd]
        refine h2 fun j o' hj => ?_
        cases j with
        | zero => simp at hj; rw [← hj]; exact hd
        | succ j => exact hno j o' (by simpa using hj)
theorem act_eq {a b : Act} (h1 : a.tmps.size = b.tmps.size) (h2 : ∀ t, t < a.tmps.size → a.tmps.getD t undef = b.tmps.getD t undef) (h3 : a.defers = b.defers) : a = b := by
  cases a with
  | mk ta da =>
    cases b with
    | mk tb db =>
      simp only at h1 h3
      subst h3
      congr 1
      refine Array.ext h1 fun i hi1 hi2 => ?_
      have := h2 i hi1
      simpa [hi1, hi2] using this
theorem wp_region_spec {id : Nat} {a0 : Act} {w0 : World} {l : List Oper} (τ : Nat → Nat) (R : Nat → Value → World → Prop) (G : World → Prop) (hm : P.follows .mixedOrders = true) (hτ : tauB .any l.toArray τ = true) (hG : G w0.drew)
    (hdo : ∀ (i : Nat) (o : Oper), l[i]? = some o → OpDoes P Q .any l.toArray τ R G a0 o i)
    (hown : (List.range l.length).all (fun i => match l[i]? with | some o => (match o.dst with | some t => τ i == t | none => true) | none => true) = true)
    (hend : ∀ (f : Nat → Value) w, (∀ i j, i < l.length → τ i = τ j → R i (f j) w) → (∀ (i : Nat) (o : Oper) (t : Tmp), l[i]? = some o → o.dst = some t → R i (f i) w) → G w → Q .normal (putAll l f 0 a0) w) :
    (Code.region id l.toArray true).wp P Q a0 w0 := by
  refine wp_region_any hm ?_
  refine wpAny_inv (I := SpI .any l.toArray τ R G a0) ?_ ?_ _ _ _ _ ?_ ?_
  · intro listed a w i hI hi
    obtain ⟨hun, o, ho, hall⟩ := mem_ready.1 hi
    have hol : l[i]? = some o := by simpa using ho
    have hT := List.all_eq_true.1 hτ i (List.mem_range.2 (Array.getElem?_eq_some_iff.1 ho).1)
    simp only [ho, Bool.and_eq_true] at hT
    obtain ⟨hback, hT⟩ := hT
    have hdeps : ∀ j, depsB .any o j = true → j < l.toArray.size ∧ listed.getD j false = true := fun j hj => by
      unfold depsB at hj
      rw [Array.any_eq_true] at hj
      obtain ⟨k, hk, hj⟩ := hj
      rw [Bool.and_eq_true, beq_iff_eq] at hj
      have h1 := hall _ (Array.getElem_mem hk) hj.1
      rw [hj.2] at h1
      refine ⟨?_, h1⟩
      rcases Nat.lt_or_ge j listed.size with h' | h'
      · rw [← hI.sz]; exact h'
      · simp [Array.getElem?_eq_none h'] at h1
    obtain ⟨hw, hdoes⟩ := hdo i o hol a w hI.tsz hI.old (fun j hj => hI.rel j (hdeps j hj).1 (hdeps j hj).2) hI.g
    unfold wpOp
    simp only [ho]
    rw [if_pos hw]
    refine .inl (Oper.wp_mono ?_ hdoes)
    rintro a' w' ⟨v, rfl, hG', hR', hkeep⟩
    have hisz : i < listed.size := by rw [hI.sz]; exact (Array.getElem?_eq_some_iff.1 ho).1
    refine ⟨by rw [Array.size_setIfInBounds]; exact hI.sz, fun j oj hj hlj e he hb => ?_, by rw [put_size]; exact hI.tsz, by rw [put_defers]; exact hI.dfr, fun t ht => by rw [put_getD_ne (ht i o ho)]; exact hI.old t ht, fun j hj hlj => ?_, hG'⟩
    · by_cases e1 : j = i
      · subst e1
        rw [ho] at hj; cases hj
        exact getD_set_true (hall e he hb)
      · rw [getD_set_ne false (Ne.symm e1)] at hlj
        exact getD_set_true (hI.closed j oj hj hlj e he hb)
    · by_cases e1 : j = i
      · subst e1; exact hR'
      · rw [getD_set_ne false (Ne.symm e1)] at hlj
        have hτne : o.dst ≠ some (τ j) := fun hd => by
          rw [hd] at hT
          simp only at hT
          have := List.all_eq_true.1 hT j (List.mem_range.2 hj)
          have hjo : l.toArray[j]? = some l.toArray[j] := Array.getElem?_eq_getElem hj
          simp only [beq_self_eq_true, Bool.not_true, Bool.false_or, hjo, Bool.or_eq_true, beq_iff_eq] at this
          rcases this with h | h
          · exact e1 h.symm
          · unfold depsB at h
            rw [Array.any_eq_true] at h
            obtain ⟨k, hk, h⟩ := h
            rw [Bool.and_eq_true, beq_iff_eq] at h
            have h1 := hI.closed j _ hjo hlj _ (Array.getElem_mem hk) h.1
            rw [h.2, getD_both hun] at h1
            cases h1
        rw [put_getD_ne hτne]
        exact hkeep j _ e1 (hI.rel j hj hlj)
  · intro listed a w hI hr
    have hall : ∀ n i, i < n → i < l.toArray.size → listed.getD i false = true := by
      intro n
      induction n with
      | zero => intro i hi; omega
      | succ n ih =>
        intro i hi hsz
        cases hli : listed.getD i false
        · exfalso
          have hio : l.toArray[i]? = some l.toArray[i] := Array.getElem?_eq_getElem hsz
          have hT := List.all_eq_true.1 hτ i (List.mem_range.2 hsz)
          simp only [hio, Bool.and_eq_true] at hT
          have hmem : i ∈ Region.ready .any l.toArray listed := mem_ready.2 ⟨getD_in (by rw [hI.sz]; exact hsz) hli, _, hio, fun e he hb => by
            have h1 := hT.1
            rw [Array.all_eq_true] at h1
            obtain ⟨k, hk, rfl⟩ := Array.mem_iff_getElem.1 he
            have h2 := h1 k hk
            rw [hb] at h2
            simp only [Bool.not_true, Bool.false_or, decide_eq_true_eq] at h2
            exact ih _ (by omega) (by omega)⟩
          rw [hr] at hmem; cases hmem
        · rfl
    have hall' : ∀ i, i < l.length → listed.getD i false = true := fun i hi => hall (i + 1) i (by omega) (by simpa using hi)
    have hown' : ∀ (i : Nat) (o : Oper) (t : Tmp), l[i]? = some o → o.dst = some t → τ i = t := fun i o t hi hd => by
      have := List.all_eq_true.1 hown i (List.mem_range.2 (List.getElem?_eq_some_iff.1 hi).1)
      simp only [hi, hd, beq_iff_eq] at this; exact this
    have hfin : a = putAll l (fun i => a.tmps.getD (τ i) undef) 0 a0 := by
      obtain ⟨p1, p2⟩ := putAll_size l (fun i => a.tmps.getD (τ i) undef) 0 a0
      refine act_eq (by rw [p1]; exact hI.tsz) (fun t ht => ?_) (by rw [p2]; exact hI.dfr)
      refine (putAll_get l _ 0 a0 (by rw [← hI.tsz]; exact ht) (fun j o hj hd => ?_) (fun hno => ?_)).symm
      · rw [Nat.zero_add, hown' j o t hj hd]
      · exact (hI.old t (fun j o hj => hno j o (by simpa using hj))).symm
    have hrel := fun i (hi : i < l.length) => hI.rel i (by simpa using hi) (hall' i hi)
    have hres := hend (fun i => a.tmps.getD (τ i) undef) w (fun i j hi e => by show R i (a.tmps.getD (τ j) undef) w; rw [← e]; exact hrel i hi) (fun i o t hi hd => hrel i (List.getElem?_eq_some_iff.1 hi).1) hI.g
    rw [← hfin] at hres; exact hres
  · have : ∀ n : Nat, unl (Array.replicate n false) = n := fun n => by simp [unl]
    rw [this]; exact Nat.le_refl _
  · refine ⟨by simp, fun j oj _ hl => (by rw [getD_replicate_false] at hl; cases hl), rfl, rfl, fun t _ => rfl, fun j _ hl => (by rw [getD_replicate_false] at hl; cases hl), hG⟩
end
/-! ### Relations -/
abbrev Pr := Value → World → Prop
def Stab (p : Pr) : Prop := ∀ v w w', p v w → Ext w w' → p v w'
def relL (L : List Pr) (i : Nat) : Pr := L.getD i fun _ _ => True
def EqV (c : Value) : Pr := fun v _ => v = c
theorem stab_eq (c : Value) : Stab (EqV c) := fun _ _ _ h _ => h
theorem stab_rel {L : List Pr} (h : ∀ p ∈ L, Stab p) (i : Nat) : Stab (relL L i) := by
  unfold relL
  rw [List.getD_eq_getElem?_getD]
  cases hi : L[i]? with
  | none => exact fun _ _ _ h _ => h
  | some p => exact h p (List.mem_of_getElem? hi)
/-! ### Operations of a region, one by one -/
section
variable {P : Program} {ops : Array Oper} {Q : Exit → Act → World → Prop} {md : Region.Mode} {τ : Nat → Nat} {R : Nat → Value → World → Prop} {G : World → Prop} {a0 : Act} {o : Oper} {i : Nat}
def doesAll (P : Program) (Q : Exit → Act → World → Prop) (md : Region.Mode) (ops : Array Oper) (τ : Nat → Nat) (R : Nat → Value → World → Prop) (G : World → Prop) (a0 : Act) : List Oper → Nat → Prop
  | [], _ => True
  | o :: l, i => OpDoes P Q md ops τ R G a0 o i ∧ doesAll P Q md ops τ R G a0 l (i + 1)
theorem does_all : ∀ (l : List Oper) (k : Nat), doesAll P Q md ops τ R G a0 l k → ∀ (i : Nat) (o : Oper), l[i]? = some o → OpDoes P Q md ops τ R G a0 o (k + i)
  | [], _, _, i, o, h => by simp at h
  | x :: l, k, h, 0, o, hi => by simp at hi; subst hi; exact h.1
  | x :: l, k, h, i + 1, o, hi => by
    have := does_all l (k + 1) h.2 i o (by simpa using hi)
    rwa [show k + 1 + i = k + (i + 1) by omega] at this
theorem gd {a : Act} {t : Nat} {v : Value} (h : a.tmps.getD t undef = v) : a.tmps[t]?.getD undef = v := by simpa using h
theorem out_of {l : List Oper} {t : Tmp} (h : (l.all fun o => o.dst != some t) = true) : ∀ (j : Nat) (o : Oper), l.toArray[j]? = some o → o.dst ≠ some t := fun j o hj => by
  have := List.all_eq_true.1 h o (List.mem_of_getElem? (by simpa using hj))
  simpa using this
/-- An operation that only yields a value. -/
theorem does_val {t : Tmp} {N : Nat} (hN : a0.tmps.size = N) (hd : o.dst = some t) (hg : o.guard = none) (hτ : τ i = t) (ht : t < N)
    (h : ∀ (a : Act) (w : World), (∀ t, (∀ (j : Nat) (o : Oper), ops[j]? = some o → o.dst ≠ some t) → a.tmps.getD t undef = a0.tmps.getD t undef) → (∀ j, depsB md o j = true → R j (a.tmps.getD (τ j) undef) w) → G w → ∃ v, (execOp a.eval o).run P w = .ok (.value v) w ∧ R i v w) : OpDoes P Q md ops τ R G a0 o i := by
  intro a w hsz hold hdep hG
  obtain ⟨v, hr, hR⟩ := h a w hold hdep hG
  refine ⟨by simp [Region.wanted, hg], ?_⟩
  unfold Oper.wp
  rw [hr]
  refine ⟨v, rfl, hG, ?_, fun j u _ h => h⟩
  rw [hd, hτ]
  simp [Act.put, hsz, hN, ht, hR]
/-- An operation that calls a function. -/
theorem does_call {t : Tmp} {f : FuncId} {N : Nat} (hN : a0.tmps.size = N) (hd : o.dst = some t) (hg : o.guard = none) (hτ : τ i = t) (ht : t < N) (hmono : ∀ j u w w', R j u w → Ext w w' → R j u w') (hGm : ∀ w w', G w → Ext w w' → G w')
    (h : ∀ (a : Act) (w : World), (∀ t, (∀ (j : Nat) (o : Oper), ops[j]? = some o → o.dst ≠ some t) → a.tmps.getD t undef = a0.tmps.getD t undef) → (∀ j, depsB md o j = true → R j (a.tmps.getD (τ j) undef) w) → G w → ∃ args, (execOp a.eval o).run P w = .ok (.enter f args) w ∧ Calls P f args w fun e w' => (∃ v, e = .returned v ∧ R i v w') ∧ Ext w w') : OpDoes P Q md ops τ R G a0 o i := by
  intro a w hsz hold hdep hG
  obtain ⟨args, hr, hc⟩ := h a w hold hdep hG
  refine ⟨by simp [Region.wanted, hg], ?_⟩
  unfold Oper.wp
  rw [hr, Oper.upon_enter]
  refine hc.mono ?_
  rintro e w' ⟨⟨v, rfl, hR⟩, hx⟩
  refine ⟨v, rfl, hGm _ _ hG hx, ?_, fun j u _ h => hmono _ _ _ _ h hx⟩
  rw [hd, hτ]
  simp [Act.put, hsz, hN, ht, hR]
/-- An operation that makes memory. -/
theorem does_new {t : Tmp} {N : Nat} (hN : a0.tmps.size = N) (hd : o.dst = some t) (hg : o.guard = none) (hτ : τ i = t) (ht : t < N) (hmono : ∀ j u w w', R j u w → Ext w w' → R j u w') (hGm : ∀ w w', G w → Ext w w' → G w')
    (h : ∀ (a : Act) (w : World), (∀ t, (∀ (j : Nat) (o : Oper), ops[j]? = some o → o.dst ≠ some t) → a.tmps.getD t undef = a0.tmps.getD t undef) → (∀ j, depsB md o j = true → R j (a.tmps.getD (τ j) undef) w) → G w → ∃ v w', (execOp a.eval o).run P w = .ok (.value v) w' ∧ R i v w' ∧ Ext w w') : OpDoes P Q md ops τ R G a0 o i := by
  intro a w hsz hold hdep hG
  obtain ⟨v, w', hr, hR, hx⟩ := h a w hold hdep hG
  refine ⟨by simp [Region.wanted, hg], ?_⟩
  unfold Oper.wp
  rw [hr]
  refine ⟨v, rfl, hGm _ _ hG hx, ?_, fun j u _ h => hmono _ _ _ _ h hx⟩
  rw [hd, hτ]
  simp [Act.put, hsz, hN, ht, hR]
end
theorem wp_spec {P : Program} {Q : Exit → Act → World → Prop} {id : Nat} {a0 : Act} {w0 : World} {l : List Oper} (τl : List Nat) (L : List Pr) (hm : P.follows .mixedOrders = true) (hτ : tauB .any l.toArray (fun i => τl.getD i 0) = true)
    (hown : (List.range l.length).all (fun i => match l[i]? with | some o => (match o.dst with | some t => τl.getD i 0 == t | none => true) | none => true) = true)
    (hdo : doesAll P Q .any l.toArray (fun i => τl.getD i 0) (relL L) (Ext w0) a0 l 0)
    (hend : ∀ (f : Nat → Value) w, (∀ i j, i < l.length → τl.getD i 0 = τl.getD j 0 → relL L i (f j) w) → (∀ (i : Nat) (o : Oper) (t : Tmp), l[i]? = some o → o.dst = some t → relL L i (f i) w) → Ext w0 w → Q .normal (putAll l f 0 a0) w) :
    (Code.region id l.toArray true).wp P Q a0 w0 :=
  wp_region_spec (fun i => τl.getD i 0) (relL L) (Ext w0) hm hτ (Ext.refl _).drew (fun i o hi => by
    have := does_all l 0 hdo i o hi
    rwa [Nat.zero_add] at this) hown hend
end Go.Proofs.Ytilkemdecenibaa
namespace Go.Proofs.Ytilkemdecenibaa
open Go.RowKit
theorem wanted_g {ops : Array Oper} {o oj : Oper} {a : Act} {j t : Nat} {b : Bool} (hg : o.guard = some (j, b)) (hj : ops[j]? = some oj) (hd : oj.dst = some t) (hv : a.tmps.getD t undef = .bool b) : Region.wanted o (yielded ops a.tmps) = true := by
  have h1 : a.tmps[t]? = some (.bool b) := by
    cases h : a.tmps[t]? with
    | none => simp [h, undef] at hv
    | some v => simp [h] at hv; rw [hv]
  simp [Region.wanted, hg, yielded, hj, hd, h1]
/-- What a slot holds that one operation alone writes. -/
theorem putAll_at {l : List Oper} {f : Nat → Value} {a : Act} {t : Tmp} (k : Nat) (ht : t < a.tmps.size) (hk : (l[k]?.bind fun o => o.dst) = some t) (hu : ((List.range l.length).all fun j => decide ((l[j]?.bind fun o => o.dst) ≠ some t) || decide (j = k)) = true) : (putAll l f 0 a).tmps.getD t undef = f k := by
  refine putAll_get l f 0 a ht (fun j o hj hd => ?_) (fun hno => ?_)
  · have hlt := (List.getElem?_eq_some_iff.1 hj).1
    have h := List.all_eq_true.1 hu j (List.mem_range.2 hlt)
    simp only [hj, Option.bind_some, hd, ne_eq, not_true, decide_false, Bool.false_or, decide_eq_true_eq] at h
    rw [h, Nat.zero_add]
  · cases hl : l[k]? with
    | none => rw [hl] at hk; cases hk
    | some o => rw [hl] at hk; exact absurd hk (hno k o hl)
section
variable {P : Program} {ops : Array Oper} {Q : Exit → Act → World → Prop} {md : Region.Mode} {τ : Nat → Nat} {R : Nat → Value → World → Prop} {G : World → Prop} {a0 : Act} {o : Oper} {i : Nat}
theorem does_valG {t : Tmp} {N : Nat} (hN : a0.tmps.size = N) (hd : o.dst = some t) (hτ : τ i = t) (ht : t < N)
    (h : ∀ (a : Act) (w : World), (∀ t, (∀ (j : Nat) (o : Oper), ops[j]? = some o → o.dst ≠ some t) → a.tmps.getD t undef = a0.tmps.getD t undef) → (∀ j, depsB md o j = true → R j (a.tmps.getD (τ j) undef) w) → G w → Region.wanted o (yielded ops a.tmps) = true ∧ ∃ v, (execOp a.eval o).run P w = .ok (.value v) w ∧ R i v w) : OpDoes P Q md ops τ R G a0 o i := by
  intro a w hsz hold hdep hG
  obtain ⟨hw, v, hr, hR⟩ := h a w hold hdep hG
  refine ⟨hw, ?_⟩
  unfold Oper.wp
  rw [hr]
  refine ⟨v, rfl, hG, ?_, fun j u _ h => h⟩
  rw [hd, hτ]
  simp [Act.put, hsz, hN, ht, hR]
theorem does_callG {t : Tmp} {f : FuncId} {N : Nat} (hN : a0.tmps.size = N) (hd : o.dst = some t) (hτ : τ i = t) (ht : t < N) (hmono : ∀ j u w w', R j u w → Ext w w' → R j u w') (hGm : ∀ w w', G w → Ext w w' → G w')
    (h : ∀ (a : Act) (w : World), (∀ t, (∀ (j : Nat) (o : Oper), ops[j]? = some o → o.dst ≠ some t) → a.tmps.getD t undef = a0.tmps.getD t undef) → (∀ j, depsB md o j = true → R j (a.tmps.getD (τ j) undef) w) → G w → Region.wanted o (yielded ops a.tmps) = true ∧ ∃ args, (execOp a.eval o).run P w = .ok (.enter f args) w ∧ Calls P f args w fun e w' => (∃ v, e = .returned v ∧ R i v w') ∧ Ext w w') : OpDoes P Q md ops τ R G a0 o i := by
  intro a w hsz hold hdep hG
  obtain ⟨hw, args, hr, hc⟩ := h a w hold hdep hG
  refine ⟨hw, ?_⟩
  unfold Oper.wp
  rw [hr, Oper.upon_enter]
  refine hc.mono ?_
  rintro e w' ⟨⟨v, rfl, hR⟩, hx⟩
  refine ⟨v, rfl, hGm _ _ hG hx, ?_, fun j u _ h => hmono _ _ _ _ h hx⟩
  rw [hd, hτ]
  simp [Act.put, hsz, hN, ht, hR]
theorem does_newG {t : Tmp} {N : Nat} (hN : a0.tmps.size = N) (hd : o.dst = some t) (hτ : τ i = t) (ht : t < N) (hmono : ∀ j u w w', R j u w → Ext w w' → R j u w') (hGm : ∀ w w', G w → Ext w w' → G w')
    (h : ∀ (a : Act) (w : World), (∀ t, (∀ (j : Nat) (o : Oper), ops[j]? = some o → o.dst ≠ some t) → a.tmps.getD t undef = a0.tmps.getD t undef) → (∀ j, depsB md o j = true → R j (a.tmps.getD (τ j) undef) w) → G w → Region.wanted o (yielded ops a.tmps) = true ∧ ∃ v w', (execOp a.eval o).run P w = .ok (.value v) w' ∧ R i v w' ∧ Ext w w') : OpDoes P Q md ops τ R G a0 o i := by
  intro a w hsz hold hdep hG
  obtain ⟨hw, v, w', hr, hR, hx⟩ := h a w hold hdep hG
  refine ⟨hw, ?_⟩
  unfold Oper.wp
  rw [hr]
  refine ⟨v, rfl, hGm _ _ hG hx, ?_, fun j u _ h => hmono _ _ _ _ h hx⟩
  rw [hd, hτ]
  simp [Act.put, hsz, hN, ht, hR]
end
end Go.Proofs.Ytilkemdecenibaa
