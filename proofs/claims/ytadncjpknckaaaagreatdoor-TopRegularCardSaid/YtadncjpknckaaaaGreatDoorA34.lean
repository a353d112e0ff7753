/-
  Maps whose elements are any values; the key of a word (attest.key).
-/
import Derived.Test.YtadncjpknckaaaaGreatDoorA17
import Derived.Test.YtadncjpknckaaaaGreatDoorA02
import Derived.Test.YtadncjpknckaaaaGreatDoorA01
import Derived.Laws.BytesArg
namespace Go.Proofs.YtadncjpknckaaaaGreatDoor
open Go.RowKit Go.Maps
section
variable {P : Program} {k e t : TypeId} {κ : Type} {kl : κ → Lit} {w : World} {b n : Nat} {f : κ → Option Value}
/-- A value as it stands. -/
def heldE (v : Value) : Option (DataW Value × List MemPlace) := some (.held v, [])
/-- Block b is a map of at most n entries; at the key x it has the value f x. -/
def MapV (P : Program) (k : TypeId) (kl : κ → Lit) (w : World) (b n : Nat) (f : κ → Option Value) : Prop :=
  ∃ D : DataW Value, w.ownsMap P k heldE b n D ∧ ∀ x, Maps.has D (kl x) = (f x).isSome ∧ ∀ z, D.atKey (kl x) (.held z) = .held ((f x).getD z)
theorem MapV.made (w : World) (P : Program) (k : TypeId) (kl : κ → Lit) : MapV P k kl (w.alloc (.map #[] 0)) w.heap.size 0 fun _ => none :=
  ⟨.map [], World.ownsMap_made w P k _, fun _ => ⟨rfl, fun _ => rfl⟩⟩
theorem MapV.lt (h : MapV P k kl w b n f) : b < w.heap.size := let ⟨_, h1, _⟩ := h; h1.lt
theorem MapV.agr (h : MapV P k kl w b n f) {w' : World} (hb : w'.heap[b]? = w.heap[b]?) : MapV P k kl w' b n f := by
  obtain ⟨D, ⟨es, clock, h1, h2⟩, h3⟩ := h
  exact ⟨D, ⟨es, clock, hb.trans h1, h2⟩, h3⟩
theorem MapV.kept (h : MapV P k kl w b n f) {w' : World} (hx : Ext w w') : MapV P k kl w' b n f := h.agr (Below.block hx.bel b h.lt)
theorem MapV.notCells (h : MapV P k kl w b n f) : ∃ o, w.heap[b]? = some o ∧ o.isCells = false := by
  obtain ⟨D, ⟨es, clock, h1, h2⟩, h3⟩ := h
  exact ⟨_, h1, rfl⟩
theorem MapV.lookOk (h : MapV P k kl w b n f) (K : Keyed P k) (ht : P.underlying t = some (.map k e)) {z : Value} (hz : (zeroValue e).run P w = .ok z w)
    {key : Value} {x : κ} (hkey : keyOf P k key = some (kl x)) : (Instr.lookup t (.map (some b)) key true).run P w = .ok (.tuple #[(f x).getD z, .bool (f x).isSome]) w := by
  obtain ⟨D, h1, h2⟩ := h
  obtain ⟨v, ps', hr, hv⟩ := h1.look_ok K ht hz (zd := .held z) (zp := []) rfl hkey
  rw [(h2 x).2] at hv
  have hv' : v = (f x).getD z := by
    have h3 := Option.some.inj hv
    have h4 : DataW.held v = DataW.held ((f x).getD z) := (Prod.mk.inj h3).1
    cases h4; rfl
  rw [hr, hv', (h2 x).1]
theorem MapV.look (h : MapV P k kl w b n f) (K : Keyed P k) (ht : P.underlying t = some (.map k e)) {z : Value} (hz : (zeroValue e).run P w = .ok z w)
    {key : Value} {x : κ} (hkey : keyOf P k key = some (kl x)) : (Instr.lookup t (.map (some b)) key false).run P w = .ok ((f x).getD z) w := by
  obtain ⟨D, h1, h2⟩ := h
  obtain ⟨v, ps', hr, hv⟩ := h1.lookup K ht hz (zd := .held z) (zp := []) rfl hkey
  rw [(h2 x).2] at hv
  have hv' : v = (f x).getD z := by
    have h3 := Option.some.inj hv
    have h4 : DataW.held v = DataW.held ((f x).getD z) := (Prod.mk.inj h3).1
    cases h4; rfl
  rw [hr, hv']
theorem MapV.len (h : MapV P k kl w b n f) (ht : P.underlying t = some (.map k e)) (ty : TypeId) : ∃ m : Nat, m ≤ n ∧ (Builtin.len_ #[t] ty #[.map (some b)]).run P w = .ok (.int .i64 m) w := by
  obtain ⟨D, h1, _⟩ := h
  exact ⟨_, h1.size_le, h1.len ht ty⟩
theorem MapV.store [DecidableEq κ] (h : MapV P k kl w b n f) (K : Keyed P k) (ht : P.underlying t = some (.map k e)) (hn : n < maxLen) (hinj : ∀ x y, kl x = kl y → x = y) (hlit : ∀ x, WideAt.IsKeyLit (kl x))
    {key : Value} {x : κ} (hkey : keyOf P k key = some (kl x)) (val : Value) :
    ∃ w', (Instr.mapUpdate t (.map (some b)) key val).run P w = .ok () w' ∧ MapV P k kl w' b (n + 1) (fun y => if y = x then some val else f y) ∧ w.grownBy w' (some b) ∧ w'.drawn = w.drawn := by
  obtain ⟨D, h1, h2⟩ := h
  obtain ⟨w', hr, ho, hg⟩ := h1.store K ht hn hkey (val := val) (d := .held val) (ps := []) rfl
  refine ⟨w', hr, ⟨_, ho, fun y => ?_⟩, World.mapTurned.grown hg, ?_⟩
  · by_cases e : y = x
    · subst e
      simp only [↓reduceIte]
      exact ⟨by rw [has_put_same h1.isMap (hlit y)]; rfl, fun z => by rw [atKey_put_same h1.isMap (hlit y)]; rfl⟩
    · simp only [if_neg e]
      have hne : kl y ≠ kl x := fun h => e (hinj _ _ h)
      exact ⟨by rw [has_put_other hne]; exact (h2 y).1, fun z => by rw [atKey_put_other hne]; exact (h2 y).2 z⟩
  · obtain ⟨es, clock, es', clock', hb, rfl⟩ := hg
    rfl
theorem MapV.mono (h : MapV P k kl w b n f) {n' : Nat} (hn : n ≤ n') : MapV P k kl w b n' f := by
  obtain ⟨D, h1, h2⟩ := h
  exact ⟨D, h1.mono hn, h2⟩
end
section
variable {P : Program} {w : World} {ops : Array Oper} {rest : List Oper} {o : Oper} {a : Act} {Q : Exit → Act → World → Prop} {κ : Type} {kl : κ → Lit}
theorem wpV_look (hg : Region.wanted o (yielded ops a.tmps) = true) (m x : Operand) (t : TypeId) (hop : o.op = Op.lookup t m x false) (k e : TypeId) (K : Keyed P k) (ht : P.underlying t = some (.map k e)) {z : Value} (hz : (zeroValue e).run P w = .ok z w)
    {b n : Nat} {f : κ → Option Value} (hm : a.eval m = .map (some b)) (hown : MapV P k kl w b n f) (key : Value) (y : κ) (hx : a.eval x = key) (hkey : keyOf P k key = some (kl y))
    (v : Value) (hv : (f y).getD z = v) (hK : wpList P ops Q rest (a.put o.dst v) w) : wpList P ops Q (o :: rest) a w := by
  refine BigFrame.wpList_want hg fun K' hK' => ?_
  have hrun := hown.look K ht hz hkey
  rw [hv] at hrun
  unfold Oper.wp
  simp [execOp, hop, hm, hx, hrun, Result.andThen]
  exact hK' _ _ hK
theorem wpV_store [DecidableEq κ] (hg : Region.wanted o (yielded ops a.tmps) = true) (m x v : Operand) (t : TypeId) (hop : o.op = Op.mapUpdate t m x v) (k e : TypeId) (K : Keyed P k) (ht : P.underlying t = some (.map k e)) (hinj : ∀ x y, kl x = kl y → x = y) (hlit : ∀ x, WideAt.IsKeyLit (kl x))
    {b n : Nat} {f : κ → Option Value} (hm : a.eval m = .map (some b)) (hown : MapV P k kl w b n f) (hn : n < maxLen) (key val : Value) (y : κ) (hx : a.eval x = key) (hv : a.eval v = val) (hkey : keyOf P k key = some (kl y))
    (hK : ∀ w', MapV P k kl w' b (n + 1) (fun z => if z = y then some val else f z) → w.grownBy w' (some b) → wpList P ops Q rest (a.put o.dst undef) w') : wpList P ops Q (o :: rest) a w := by
  refine BigFrame.wpList_want hg fun K' hK' => ?_
  obtain ⟨w', hrun, r1, r2, _⟩ := hown.store K ht hn hinj hlit hkey val
  unfold Oper.wp
  simp [execOp, hop, hm, hx, hv, hrun, Result.andThen]
  exact hK' _ _ (hK w' r1 r2)
theorem wpV_len (hg : o.guard = none) (m : Operand) (t : TypeId) (hop : o.op = Op.call { callee := Callee.builtin Builtin.len, args := #[m], argTypes := #[t] })
    (k e : TypeId) (ht : P.underlying t = some (.map k e)) {b n : Nat} {f : κ → Option Value} (hm : a.eval m = .map (some b)) (hown : MapV P k kl w b n f)
    (hK : ∀ c : Nat, c ≤ n → wpList P ops Q rest (a.put o.dst (.int .i64 c)) w) :
    wpList P ops Q (o :: rest) a w := by
  refine wpList_plain hg fun K' hK' => ?_
  obtain ⟨c, hc, hr⟩ := hown.len ht o.type
  unfold Oper.wp
  simp [execOp, hop, resolve, invoke, builtin, hm, hr, Result.andThen]
  exact hK' _ _ (hK c hc)
end
/-! ### The key of a word -/
def U8.enc (x : Int) : List Value := [.int .u8 x]
theorem U8.len (x : Int) : (U8.enc x).length = 1 := rfl
theorem U8.one (x : Int) : ∀ u ∈ U8.enc x, u.oneCell' = true := by intro u hu; simp [U8.enc] at hu; subst hu; rfl
abbrev OwnU := OwnK 1 U8.enc
def b3 (x : BitVec 32) : List Int := [(x.toNat : Int) % 256, (x.toNat : Int) / 256 % 256, (x.toNat : Int) / 65536 % 256]
def keyX (ws : List Snd) : List Int := ws.flatMap fun s => b3 s.p ++ b3 s.m
theorem keyX_len (ws : List Snd) : (keyX ws).length = 6 * ws.length := by
  induction ws with
  | nil => rfl
  | cons s ws ih => simp only [keyX, List.flatMap_cons, List.length_append, List.length_cons] at ih ⊢; rw [ih]; simp [b3]; omega
theorem b3_inj {x y : BitVec 32} (hx : x.toNat < 16777216) (hy : y.toNat < 16777216) (h : b3 x = b3 y) : x = y := by
  simp only [b3, List.cons.injEq, and_true] at h
  exact BitVec.eq_of_toNat_eq (by omega)
theorem ok_small {s : Snd} (h : s.ok = true) : s.p.toNat < 16777216 ∧ s.m.toNat < 16777216 := by
  simp only [Snd.ok, Bool.and_eq_true, decide_eq_true_eq] at h
  exact ⟨Nat.lt_of_le_of_lt Nat.left_le_or h.2, Nat.lt_of_le_of_lt Nat.right_le_or h.2⟩
theorem keyX_inj : ∀ {a b : List Snd}, (∀ s ∈ a, s.ok = true) → (∀ s ∈ b, s.ok = true) → keyX a = keyX b → a = b
  | [], [], _, _, _ => rfl
  | [], y :: b, _, _, h => by have := congrArg List.length h; rw [keyX_len, keyX_len] at this; simp at this
  | x :: a, [], _, _, h => by have := congrArg List.length h; rw [keyX_len, keyX_len] at this; simp at this
  | x :: a, y :: b, ha, hb, h => by
    have h2 : (b3 x.p ++ b3 x.m) ++ keyX a = (b3 y.p ++ b3 y.m) ++ keyX b := h
    obtain ⟨h3, h4⟩ := List.append_inj h2 rfl
    obtain ⟨h5, h6⟩ := List.append_inj h3 rfl
    obtain ⟨x1, x2⟩ := ok_small (ha x (by simp))
    obtain ⟨y1, y2⟩ := ok_small (hb y (by simp))
    have e1 := b3_inj x1 y1 h5
    have e2 := b3_inj x2 y2 h6
    have : x = y := by cases x; cases y; simp_all
    rw [this, keyX_inj (fun s hs => ha s (by simp [hs])) (fun s hs => hb s (by simp [hs])) h4]
theorem b3_byte {x : BitVec 32} {n : Int} (h : n ∈ b3 x) : 0 ≤ n ∧ n < 256 := by
  simp only [b3, List.mem_cons, List.not_mem_nil, or_false] at h
  omega
theorem keyX_byte {ws : List Snd} {n : Int} (h : n ∈ keyX ws) : 0 ≤ n ∧ n < 256 := by
  obtain ⟨s, _, hs⟩ := List.mem_flatMap.1 h
  rcases List.mem_append.1 hs with h | h
  · exact b3_byte h
  · exact b3_byte h
/-- The key as a list of bytes. -/
def keyB (ws : List Snd) : List UInt8 := (keyX ws).map fun n => UInt8.ofNat n.toNat
theorem map_byte_inj : ∀ {a b : List Int}, (∀ n ∈ a, 0 ≤ n ∧ n < 256) → (∀ n ∈ b, 0 ≤ n ∧ n < 256) → (a.map fun n => UInt8.ofNat n.toNat) = (b.map fun n => UInt8.ofNat n.toNat) → a = b
  | [], [], _, _, _ => rfl
  | [], _ :: _, _, _, h => by simp at h
  | _ :: _, [], _, _, h => by simp at h
  | x :: a, y :: b, ha, hb, h => by
    simp only [List.map_cons, List.cons.injEq] at h
    obtain ⟨h1, h2⟩ := h
    have hx := ha x (by simp)
    have hy := hb y (by simp)
    have : x.toNat = y.toNat := by
      have := congrArg UInt8.toNat h1
      simp only [UInt8.toNat_ofNat'] at this
      omega
    rw [show x = y by omega, map_byte_inj (fun n hn => ha n (by simp [hn])) (fun n hn => hb n (by simp [hn])) h2]
theorem keyB_inj {a b : List Snd} (ha : ∀ s ∈ a, s.ok = true) (hb : ∀ s ∈ b, s.ok = true) (h : keyB a = keyB b) : a = b :=
  keyX_inj ha hb (map_byte_inj (fun _ hn => keyX_byte hn) (fun _ hn => keyX_byte hn) h)
def keyStr (ws : List Snd) : ByteArray := strOfNums (keyX ws)
theorem keyStr_data (ws : List Snd) : (keyStr ws).data.toList = keyB ws := rfl
theorem info_byte : (Tryz.prog.info? 5).map (fun i => (i.zero, i.size, i.bytes)) = some (some (.int .u8 0), 1, 1) := by kernel_rfl
theorem keyX_snoc {ws : List Snd} {k : Nat} {s : Snd} (hs : ws[k]? = some s) : keyX (ws.take (k + 1)) = keyX (ws.take k) ++ (b3 s.p ++ b3 s.m) := by
  rw [List.take_add_one, hs]; simp [keyX]
theorem conv_own {B : Nat} {w : World} {v : Value} {xs : List Int} (h : OwnU B 5 w v xs) : (convert 109 9 v).run Tryz.prog w = .ok (.string (strOfNums xs)) w := by
  have h0 := h
  obtain ⟨h1, h2⟩ := h
  rcases h2 with ⟨rfl, h3⟩ | ⟨g, cap, cur, rfl, _⟩
  · obtain ⟨a, n, c, hn, hv, hr⟩ := OwnK.rdn U8.len h0
    cases hv
    have hx : xs = [] := List.eq_nil_of_length_eq_zero hn.symm
    subst hx
    exact run_convert_bytes_nil w 109 5 Tryz.underlying109 Tryz.underlying5 0 0 9 Tryz.underlying9
  · refine run_convert_bytes_arg w 109 5 Tryz.underlying109 Tryz.underlying5 g 0 _ cap xs rfl (fun i hi => ?_) 9 Tryz.underlying9
    have hx : xs[i]? = some xs[i] := List.getElem?_eq_getElem hi
    have := own_at U8.len h0 hx (j := 0) (u := .int .u8 xs[i]) rfl
    rw [List.getD_eq_getElem?_getD, hx]
    simpa using this
theorem idx20 (x y : Int) (w : World) : (Instr.index 110 (.agg #[.int .u32 x, .int .u32 y]) (.int .i64 0)).run Tryz.prog w = .ok (.int .u32 x) w := by kernel_rfl
theorem idx21 (x y : Int) (w : World) : (Instr.index 110 (.agg #[.int .u32 x, .int .u32 y]) (.int .i64 1)).run Tryz.prog w = .ok (.int .u32 y) w := by kernel_rfl
set_option maxHeartbeats 1000000 in
set_option maxRecDepth 20000 in
theorem key_any (a : Option Addr) (n cap : Nat) (ws : List Snd) (w : World) (hr : RdS w a n cap ws) (hn : n ≤ 4000) : Calls Tryz.prog 26 #[.slice a n cap] w fun e w' => e = .returned (.string (keyStr ws)) ∧ Ext w w' := by
  have hl := hr.len
  have hmax : n ≤ 9223372036854775807 := by omega
  replace hl := Lib.hid hl
  go_enter Tryz.func26, Tryz.ntmps26
  go_wp2_with fail
  go_loopw [3, 10] (fun v i wr => ∃ k : Nat, k ≤ n ∧ i = .int .i64 k ∧ Ext w wr ∧ OwnU w.heap.size 5 wr v (keyX (ws.take k))) (fun _ i _ => n - (intOf i).toNat)
  case atStart => exact ⟨0, Nat.zero_le _, rfl, Ext.refl _, OwnK.nil _ _ _⟩
  case round =>
    obtain ⟨k, hk, rfl, hx, hown⟩ := hrel
    by_cases hlt : k < n
    · obtain ⟨b, off, s, rfl, hs, hb, c0, c1⟩ := (hr.ext hx).snd hlt
      have hsn := keyX_snoc hs.out
      replace hsn := Lib.hid hsn
      have hkl := keyX_len (ws.take k)
      have hkk : (ws.take k).length ≤ 4000 := by have := hl.out; rw [List.length_take]; omega
      go_wp2_with fail
      go_loopw [3, 19] (fun v j wi => ∃ m : Nat, m ≤ 2 ∧ j = .int .i64 m ∧ Ext w wi ∧ OwnU w.heap.size 5 wi v (keyX (ws.take k) ++ (if m = 0 then [] else if m = 1 then b3 s.p else b3 s.p ++ b3 s.m))) (fun _ j _ => 2 - (intOf j).toNat)
      case atStart => exact ⟨0, by omega, rfl, hx.alloc _, by simpa using hown.kept (Ext.alloc1 _ _)⟩
      case round =>
        obtain ⟨m, hm, rfl, hxi, howni⟩ := hrel
        rcases (show m = 0 ∨ m = 1 ∨ m = 2 by omega) with rfl | rfl | rfl
        · simp only [if_true] at howni
          have hi := idx20 s.p.toNat s.m.toNat
          have hrd : RdK 1 U8.enc (wr.alloc (.cells #[.int .u8 ((s.p.toNat : Int) % 256), .int .u8 ((s.p.toNat : Int) / 256 % 256), .int .u8 ((s.p.toNat : Int) / 65536 % 256)] 5)) (some ⟨wr.heap.size, 0, none⟩) 3 3 (b3 s.p) := OwnK.rdc U8.len (lit_own U8.len wr 5 (b3 s.p) _ rfl rfl (by omega))
          have hxA : Ext w (wr.alloc (.cells #[.int .u8 ((s.p.toNat : Int) % 256), .int .u8 ((s.p.toNat : Int) / 256 % 256), .int .u8 ((s.p.toNat : Int) / 65536 % 256)] 5)) := hxi.alloc _
          have hoA := howni.kept (Ext.alloc1 wr (.cells #[.int .u8 ((s.p.toNat : Int) % 256), .int .u8 ((s.p.toNat : Int) / 256 % 256), .int .u8 ((s.p.toNat : Int) / 65536 % 256)] 5))
          have hle : (keyX (ws.take k)).length ≤ 24000 := by rw [hkl]; omega
          clear hown hkl
          go_wp2_with (at_builtin; refine wp_appN w _ (b3 s.p) rfl _ _ 109 rfl 5 Tryz.underlying109 info_byte rfl (by decide) _ _ rfl hoA hxA _ _ _ rfl hrd U8.len U8.one (by simp; omega) (by unfold maxLen; simp; omega) ?_; intro v2 w2 o2 x2 _)
          exact ⟨⟨1, by omega, rfl, x2, by simpa using o2⟩, by decide⟩
        · simp only [Nat.one_ne_zero, if_false, if_true] at howni
          have hi1 := idx21 s.p.toNat s.m.toNat
          have hrd : RdK 1 U8.enc (wr.alloc (.cells #[.int .u8 ((s.m.toNat : Int) % 256), .int .u8 ((s.m.toNat : Int) / 256 % 256), .int .u8 ((s.m.toNat : Int) / 65536 % 256)] 5)) (some ⟨wr.heap.size, 0, none⟩) 3 3 (b3 s.m) := OwnK.rdc U8.len (lit_own U8.len wr 5 (b3 s.m) _ rfl rfl (by omega))
          have hxA : Ext w (wr.alloc (.cells #[.int .u8 ((s.m.toNat : Int) % 256), .int .u8 ((s.m.toNat : Int) / 256 % 256), .int .u8 ((s.m.toNat : Int) / 65536 % 256)] 5)) := hxi.alloc _
          have hoA := howni.kept (Ext.alloc1 wr (.cells #[.int .u8 ((s.m.toNat : Int) % 256), .int .u8 ((s.m.toNat : Int) / 256 % 256), .int .u8 ((s.m.toNat : Int) / 65536 % 256)] 5))
          have hle : (keyX (ws.take k)).length ≤ 24000 := by rw [hkl]; omega
          clear hown hkl
          go_wp2_with (at_builtin; refine wp_appN w _ (b3 s.m) rfl _ _ 109 rfl 5 Tryz.underlying109 info_byte rfl (by decide) _ _ rfl hoA hxA _ _ _ rfl hrd U8.len U8.one (by simp [b3]; omega) (by unfold maxLen; simp [b3]; omega) ?_; intro v2 w2 o2 x2 _)
          exact ⟨⟨2, by omega, rfl, x2, by simpa using o2⟩, by decide⟩
        · have ho2 : OwnU w.heap.size 5 wr u3 (keyX (ws.take (k + 1))) := by rw [hsn.out]; simpa using howni
          go_wp2_with fail
          (first | exact ⟨⟨k + 1, by omega, by go_num, hxi, ho2⟩, (by simp [intOf]; omega)⟩ | (go_roundw; case rel => exact ⟨k + 1, by omega, by go_num, hxi, ho2⟩; case measure => exact (by simp [intOf]; omega)))
    · have hws : ws.take k = ws := List.take_of_length_le (by have := hl.out; omega)
      rw [hws] at hown
      have hcv := conv_own hown
      go_wp2_with fail
      go_ret
      exact ⟨rfl, hx⟩
end Go.Proofs.YtadncjpknckaaaaGreatDoor
