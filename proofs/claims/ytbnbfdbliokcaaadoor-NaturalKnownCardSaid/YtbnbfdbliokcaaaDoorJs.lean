/-
  math/bits.TrailingZeros by its table; a list of rows of integers; maps of counts by a store.
-/
import Derived.Test.YtbnbfdbliokcaaaDoorJr
import Derived.Test.YtbnbfdbliokcaaaDoorOh
namespace Go.Proofs.YtbnbfdbliokcaaaDoor
open Go.RowKit Go.Maps
/-! ### TrailingZeros -/
def Tab64 (w : World) : Prop := ∀ j, j < 64 → w.cell? ⟨1, j, none⟩ = some (.int .u8 (Lib.deBruijn64tab.getD j 0 : Nat))
theorem Tab64.ext {w w' : World} (h : Tab64 w) (hx : Ext w w') : Tab64 w' := fun j hj => by rw [hx.cell j (cell_lt (h j hj))]; exact h j hj
theorem ofInt_u64 (x : BitVec 64) : BitVec.ofInt 64 (x.toNat : Int) = x := by
  apply BitVec.eq_of_toNat_eq; rw [BitVec.ofInt_natCast, BitVec.toNat_ofNat]; exact Nat.mod_eq_of_lt x.isLt
theorem wrap_u64 (x : BitVec 64) : IntKind.u64.wrap (x.toNat : Int) = x.toNat := by rw [IntKind.wrap_u64]; have := x.isLt; omega
theorem bits_and_u64 (x y : BitVec 64) : bits .and .u64 (x.toNat : Int) (y.toNat : Int) = ((x &&& y).toNat : Int) := by
  show IntKind.u64.wrap ((BitVec.ofInt 64 (x.toNat : Int) &&& BitVec.ofInt 64 (y.toNat : Int)).toNat : Int) = _
  rw [ofInt_u64, ofInt_u64, wrap_u64]
theorem tz_key64 (x : BitVec 64) {a : Nat} (hx0 : x.toNat ≠ 0) (hlow : x.toNat &&& (18446744073709551616 - x.toNat) = a) :
    IntKind.u64.wrap (bits .and .u64 (x.toNat : Int) (IntKind.u64.wrap (-(x.toNat : Int))) * 285870213051353865) / 288230376151711744 = ((a * 285870213051353865 % 18446744073709551616 / 288230376151711744 : Nat) : Int) := by
  rw [IntKind.wrap_u64, IntKind.wrap_u64]
  have hx := x.isLt
  have e1 : -(x.toNat : Int) % 18446744073709551616 = ((-x).toNat : Int) := by rw [BitVec.toNat_neg]; omega
  have e2 : (x &&& -x).toNat = a := by
    rw [BitVec.toNat_and, BitVec.toNat_neg, ← hlow]; congr 1; omega
  rw [e1, bits_and_u64, e2]
  omega
set_option maxHeartbeats 1000000 in
theorem tz64_core (x k idx : Nat) (w : World) (hx0 : ((x : Int) == 0) = false) (key : IntKind.u64.wrap (bits BinOp.and IntKind.u64 (x : Int) (IntKind.u64.wrap (-(x : Int))) * 285870213051353865) / 288230376151711744 = (idx : Int))
    (hi : idx < 64) (_hk : k < 64) (hcell : w.cell? ⟨1, idx, none⟩ = some (.int .u8 k)) : Calls Tryd.prog 82 #[.int .u64 x] w fun e w' => e = .returned (.int .i64 k) ∧ w' = w := by
  go_enter Tryd.func82, Tryd.ntmps82
  go_wp2_with (simp only [key])
  go_ret
  exact ⟨rfl, rfl⟩
set_option maxRecDepth 20000 in
theorem tz_wide (x : Nat) (hx0 : x ≠ 0) (hx : x < 18446744073709551616) (w : World) (hT : Tab64 w) :
    Calls Tryd.prog 67 #[.int .u64 x] w fun e w' => e = .returned (.int .i64 (Lib.ctz 64 x : Nat)) ∧ w' = w := by
  obtain ⟨hlow, hk⟩ := Lib.lowest_bit 64 x hx0 hx
  obtain ⟨hi, htab⟩ := Lib.deBruijn64_at _ hk
  have hcell := hT _ hi
  rw [htab] at hcell
  have hlow' : x &&& (18446744073709551616 - x) = 2 ^ Lib.ctz 64 x := by simpa using hlow
  have hbv : (BitVec.ofNat 64 x).toNat = x := by rw [BitVec.toNat_ofNat]; exact Nat.mod_eq_of_lt hx
  have hkey := tz_key64 (a := 2 ^ Lib.ctz 64 x) (BitVec.ofNat 64 x) (by rw [hbv]; exact hx0) (by rw [hbv]; exact hlow')
  rw [hbv] at hkey
  have hc := tz64_core x _ _ w (by simpa using hx0) hkey hi hk hcell
  generalize Lib.ctz 64 x = k at *
  go_enter Tryd.func67, Tryd.ntmps67
  go_wp2_with fail
  refine hc.mono ?_
  rintro e w1 ⟨rfl, rfl⟩
  go_wp2_with fail
  go_ret
  exact ⟨rfl, rfl⟩
/-! ### A list of rows of integers -/
/-- A row's header, and the row. -/
structure HD where
  a : Option Addr
  n : Nat
  cap : Nat
  x : List Int
def HD.enc (h : HD) : List Value := [.slice h.a h.n h.cap]
theorem HD.len (h : HD) : h.enc.length = 1 := rfl
theorem HD.one (h : HD) : ∀ u ∈ h.enc, u.oneCell' = true := by intro u hu; simp [HD.enc] at hu; subst hu; rfl
/-- A list of rows, all the call's own (eo: the headers' type, ei: the integers'). -/
def OwnRs (B : Nat) (eo ei : TypeId) (w : World) (v : Value) (L : List (List Int)) : Prop :=
  ∃ hds : List HD, OwnK 1 HD.enc B eo w v hds ∧ (∀ h ∈ hds, OwnI B ei w (.slice h.a h.n h.cap) h.x) ∧ hds.map HD.x = L
theorem OwnRs.nil (B : Nat) (eo ei : TypeId) (w : World) : OwnRs B eo ei w (.slice none 0 0) [] := ⟨[], OwnK.nil _ _ _, fun h hh => (by cases hh), rfl⟩
theorem OwnRs.kept {B : Nat} {eo ei : TypeId} {w w' : World} {v : Value} {L : List (List Int)} (h : OwnRs B eo ei w v L) (hx : Ext w w') : OwnRs B eo ei w' v L :=
  let ⟨hds, h1, h2, h3⟩ := h; ⟨hds, h1.kept hx, fun h hh => (h2 h hh).kept hx, h3⟩
/-- The row at a place. -/
theorem OwnRs.at {B : Nat} {eo ei : TypeId} {w : World} {v : Value} {L : List (List Int)} (h : OwnRs B eo ei w v L) : ∃ a n cap, n = L.length ∧ v = .slice a n cap ∧ n ≤ maxLen ∧ ∀ i, i < n → ∃ b off ar nr cr x, a = some ⟨b, off, none⟩ ∧ Hid (L[i]? = some x) ∧ b < w.heap.size ∧ w.cell? ⟨b, off + i, none⟩ = some (.slice ar nr cr) ∧ RdI w ar nr cr x := by
  obtain ⟨hds, h1, h2, rfl⟩ := h
  obtain ⟨a, n, cap, hn, rfl, hr⟩ := OwnK.rdn HD.len h1
  refine ⟨a, n, cap, by simpa using hn, rfl, Nat.le_trans hr.le hr.most, fun i hi => ?_⟩
  obtain ⟨b, off, x, ha, hx, hb, hc⟩ := hr.get hi
  have hc0 := hc 0 _ rfl
  obtain ⟨ar, nr, cr, hnr, hv, hrd⟩ := OwnK.rdn I64.len (h2 x (List.mem_of_getElem? hx.out))
  refine ⟨b, off, ar, nr, cr, x.x, ha, Lib.hid (by rw [List.getElem?_map, hx.out]; rfl), hb, ?_, hrd⟩
  rw [← hv]; simpa using hc0
/-- append of one more row. -/
theorem wp_appRow {P : Program} {ops : Array Oper} {rest : List Oper} {o : Oper} {a : Act} {Q : Exit → Act → World → Prop} (w00 w0 : World) (ad : Option Addr) (n cap : Nat) (y : List Int) (hgd : o.guard = none) (s x : Operand) (t : TypeId)
    (ho : o.op = .call { callee := .builtin .append, args := #[s, x], argTypes := #[t, t] }) (eo ei : TypeId) (ht : P.underlying t = some (.slice eo))
    (hinf : (P.info? eo).map (fun i => (i.zero, i.size, i.bytes)) = some (some (.slice none 0 0), 1, 24)) (hne : ei ≠ eo)
    (v : Value) (L : List (List Int)) (hs : a.eval s = v) (hown : OwnRs w00.heap.size eo ei w0 v L) (hx0 : Ext w00 w0) (hx : a.eval x = .slice (some ⟨w0.heap.size, 0, none⟩) 1 1)
    (hy : OwnI w00.heap.size ei w0 (.slice ad n cap) y) (hL : L.length ≤ 60000)
    (h : ∀ v' w', OwnRs w00.heap.size eo ei w' v' (L ++ [y]) → Ext w00 w' → wpList P ops Q rest (a.put o.dst v') w') :
    wpList P ops Q (o :: rest) a (w0.alloc (.cells #[.slice ad n cap] eo)) := by
  obtain ⟨hds, h1, h2, rfl⟩ := hown
  have hlen : hds.length ≤ 60000 := by simpa using hL
  refine wp_app1 w00 w0 (⟨ad, n, cap, y⟩ : HD) hgd s x t ho eo ht hinf rfl (by decide) v hds hs h1 hx0 hx rfl (HD.one _) (by omega) (by unfold maxLen; omega) ?_
  intro v' w' ho' hx' hg'
  have hb := fun g (e : v.ownBlock = some g) => OwnK.blk (h1.kept (Ext.alloc1 w0 (.cells (HD.enc ⟨ad, n, cap, y⟩).toArray eo))) e
  refine h v' w' ⟨hds ++ [⟨ad, n, cap, y⟩], ho', fun z hz => ?_, by simp⟩ hx'
  have hz2 : OwnI w00.heap.size ei w0 (.slice z.a z.n z.cap) z.x := by
    rcases List.mem_append.1 hz with hz | hz
    · exact h2 z hz
    · have : z = ⟨ad, n, cap, y⟩ := by simpa using hz
      subst this; exact hy
  exact OwnK.other (hz2.kept (Ext.alloc1 w0 (.cells (HD.enc ⟨ad, n, cap, y⟩).toArray eo))) hg' (fun g e => let ⟨cur, hc⟩ := hb g e; ⟨cur, _, hc⟩) hne
/-! ### Maps of counts, by a store -/
section
variable {P : Program} {k e t : TypeId} {κ : Type} {kl : κ → Lit} {w : World} {b n c : Nat} {f : κ → Option Lit}
theorem MapC.store2 [DecidableEq κ] (h : MapC P k e kl w b n c f) (K : Keyed P k) (ht : P.underlying t = some (.map k e)) (hn : n < maxLen) (hinj : ∀ x y, kl x = kl y → x = y) (hlit : ∀ x, WideAt.IsKeyLit (kl x))
    {key val : Value} {x : κ} {l : Lit} {ps : List MemPlace} (hkey : keyOf P k key = some (kl x)) (hv : plainElem (H := Unit) P e val = some (.lit l, ps)) :
    ∃ w', (Instr.mapUpdate t (.map (some b)) key val).run P w = .ok () w' ∧ MapC P k e kl w' b (n + 1) (if (f x).isSome then c else c + 1) (fun y => if y = x then some l else f y) ∧ w.grownBy w' (some b) := by
  obtain ⟨D, h1, h2, h3, h4⟩ := h
  have hT := h1.tidy K
  obtain ⟨w', hr, ho, hg⟩ := h1.store K ht hn hkey hv
  refine ⟨w', hr, ⟨_, ho, ?_, fun y => ?_, has_put_keys (x := x) h4⟩, World.mapTurned.grown hg⟩
  · rw [size_put hT, (h3 x).1, h2]
  · by_cases e : y = x
    · subst e
      simp only [↓reduceIte]
      exact ⟨by rw [has_put_same hT.isMap (hlit y)]; rfl, fun z => by rw [atKey_put_same hT.isMap (hlit y)]; rfl⟩
    · simp only [if_neg e]
      have hne : kl y ≠ kl x := fun h => e (hinj _ _ h)
      exact ⟨by rw [has_put_other hne]; exact (h3 y).1, fun z => by rw [atKey_put_other hne]; exact (h3 y).2 z⟩
variable {ops : Array Oper} {rest : List Oper} {o : Oper} {a : Act} {Q : Exit → Act → World → Prop}
theorem wp_mapStoreC [DecidableEq κ] (hg : Region.wanted o (yielded ops a.tmps) = true) (m x v : Operand) (t : TypeId) (hop : o.op = Op.mapUpdate t m x v) (k e : TypeId) (K : Keyed P k) (ht : P.underlying t = some (.map k e)) (hinj : ∀ x y, kl x = kl y → x = y) (hlit : ∀ x, WideAt.IsKeyLit (kl x))
    (hm : a.eval m = .map (some b)) (hown : MapC P k e kl w b n c f) (hn : n < maxLen) (key val : Value) (y : κ) (hx : a.eval x = key) (hv : a.eval v = val) (hkey : keyOf P k key = some (kl y)) {l : Lit} {ps : List MemPlace}
    (hval : plainElem (H := Unit) P e val = some (.lit l, ps))
    (hK : ∀ w', MapC P k e kl w' b (n + 1) (if (f y).isSome then c else c + 1) (fun z => if z = y then some l else f z) → w.grownBy w' (some b) → wpList P ops Q rest (a.put o.dst undef) w') : wpList P ops Q (o :: rest) a w := by
  refine BigFrame.wpList_want hg fun K' hK' => ?_
  obtain ⟨w', hrun, r1, r2⟩ := hown.store2 K ht hn hinj hlit hkey hval
  unfold Oper.wp
  simp [execOp, hop, hm, hx, hv, hrun, Result.andThen]
  exact hK' _ _ (hK w' r1 r2)
end
theorem keyed_int : Keyed Tryd.prog 3 := int_keyed Tryd.underlying3
def klI (x : Nat) : Lit := .int .i64 (x : Int)
theorem klI_inj (x y : Nat) (h : klI x = klI y) : x = y := by simp only [klI, Lit.int.injEq, true_and] at h; omega
theorem klI_lit (x : Nat) : WideAt.IsKeyLit (klI x) := isKeyLit_int _ _
theorem keyI (x : Nat) (hx : x ≤ 4294967295) : keyOf Tryd.prog 3 (.int .i64 (x : Int)) = some (klI x) := keyOf_int_mk Tryd.underlying3 (wf_i64 _ (by omega) (by omega))
end Go.Proofs.YtbnbfdbliokcaaaDoor
