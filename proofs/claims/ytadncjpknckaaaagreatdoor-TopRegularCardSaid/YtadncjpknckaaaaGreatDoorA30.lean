/-
  Trees: names; Check of the program and of the reference. Check of a tree: the program's, with a map of the names; the reference's. Check of a tree by the reference.
  Rows of integers that the call itself makes: written cell by cell, and collected in a list of headers.
-/
import Derived.Test.YtadncjpknckaaaaGreatDoorA02
import Derived.Test.YtadncjpknckaaaaGreatDoorA01
namespace Go.Proofs.YtadncjpknckaaaaGreatDoor
open Go.RowKit Go.Maps
/-- A node: its parent, and its name. -/
structure Nd where
  par : Int
  name : ByteArray
def Nd.enc (x : Nd) : List Value := [.int .i64 x.par, .string x.name]
theorem Nd.len (x : Nd) : x.enc.length = 2 := rfl
/-- A tree as it reads; its names are no longer than strings can be. -/
structure RdN (w : World) (a : Option Addr) (n cap : Nat) (ts : List Nd) : Prop where
  rd : RdK 2 Nd.enc w a n cap ts
  names : ∀ x ∈ ts, x.name.size ≤ maxLen
theorem RdN.ext {w w' : World} {a : Option Addr} {n cap : Nat} {ts : List Nd} (h : RdN w a n cap ts) (hx : Ext w w') : RdN w' a n cap ts := ⟨h.rd.ext hx, h.names⟩
theorem RdN.nd {w : World} {a : Option Addr} {n cap : Nat} {ts : List Nd} (h : RdN w a n cap ts) {i : Nat} (hi : i < n) :
    ∃ b off x, a = some ⟨b, off, none⟩ ∧ Hid (ts[i]? = some x) ∧ b < w.heap.size ∧ w.cell? ⟨b, off + i * 2, none⟩ = some (.int .i64 x.par) ∧ w.cell? ⟨b, off + i * 2 + 1, none⟩ = some (.string x.name) ∧ x.name.size ≤ maxLen := by
  obtain ⟨b, off, x, ha, hx, hb, hc⟩ := h.rd.get hi
  exact ⟨b, off, x, ha, hx, hb, by simpa using hc 0 _ rfl, hc 1 _ rfl, h.names x (List.mem_of_getElem? hx.out)⟩
/-! ### Names -/
def letB (c : Int) : Bool := (decide (97 ≤ c) && decide (c ≤ 122)) || (decide (65 ≤ c) && decide (c ≤ 90)) || (decide (48 ≤ c) && decide (c ≤ 57)) || decide (c = 45)
theorem letter_any (c : Int) (w : World) : Calls Tryz.prog 46 #[.int .u8 c] w fun e w' => e = .returned (.bool (letB c)) ∧ w' = w := by
  go_enter Tryz.func46, Tryz.ntmps46
  go_wp2
  all_goals
    go_ret
    exact ⟨ret_bool (by rw [Bool.eq_iff_iff]; first | (simp [letB]; omega) | simp [letB]), rfl⟩
def tnB (s : ByteArray) : Bool := s.data.toList.all (fun c => letB c.toNat) && (decide (0 < s.size) && decide (s.size ≤ 24))
theorem cbool0 {P : Program} {f : FuncId} {args : Array Value} {w : World} {a b : Bool} (h : Calls P f args w fun e w' => e = .returned (.bool a) ∧ w' = w) (hab : a = b) : Calls P f args w fun e w' => e = .returned (.bool b) ∧ w' = w := cbool h hab
theorem named_any (s : ByteArray) (w : World) (hs : s.size ≤ maxLen) : Calls Tryz.prog 29 #[.string s] w fun e w' => e = .returned (.bool (tnB s)) ∧ w' = w := by
  unfold maxLen at hs
  go_enter Tryz.func29, Tryz.ntmps29
  go_wp2_with fail
  go_loop [6] (fun i => ∃ k : Nat, k ≤ s.size ∧ i = .int .i64 k ∧ Hid (∀ j (h : j < s.size), j < k → letB s[j].toNat = true)) (fun i => s.size - (intOf i).toNat)
  case atStart => exact ⟨0, Nat.zero_le _, rfl, fun j h hj => absurd hj (Nat.not_lt_zero _)⟩
  case round =>
    obtain ⟨k, hk, rfl, hall⟩ := hrel
    by_cases hlt : k < s.size
    · cases hl : letB s[k].toNat
      · have hn : tnB s = false := by
          have : s.data.toList.all (fun c => letB c.toNat) = false := by
            rw [List.all_eq_false]; exact ⟨s[k], Array.getElem_mem_toList (xs := s.data) (by exact hlt), by simp [hl]⟩
          simp [tnB, this]
        replace hn := Lib.hid hn
        go_wp2_with fail
        refine (cbool0 (letter_any _ _) hl).mono ?_
        rintro e w1 ⟨rfl, rfl⟩
        go_wp2_with fail
        go_ret
        exact ⟨ret_bool hn.out.symm, rfl⟩
      · have hnew : Hid (∀ j (h : j < s.size), j < k + 1 → letB s[j].toNat = true) := fun j h hj => by
          by_cases e : j = k
          · subst e; exact hl
          · exact hall.out j h (by omega)
        go_wp2_with fail
        refine (cbool0 (letter_any _ _) hl).mono ?_
        rintro e w1 ⟨rfl, rfl⟩
        clear hl
        go_wp2_with fail
        go_round
        case rel => exact ⟨k + 1, by omega, by go_num, hnew⟩
        case measure => exact (by simp [intOf]; omega)
    · have hn : tnB s = (decide (0 < s.size) && decide (s.size ≤ 24)) := by
        have : s.data.toList.all (fun c => letB c.toNat) = true := by
          rw [List.all_eq_true]
          intro c hc
          obtain ⟨j, hj, rfl⟩ := List.getElem_of_mem hc
          have hj2 : j < s.size := by simpa using hj
          exact hall.out j hj2 (by omega)
        simp [tnB, this]
      replace hn := Lib.hid hn
      by_cases h0 : 0 < s.size
      · have hd0 : decide (0 < s.size) = true := by simpa using h0
        go_wp2_with fail
        go_ret
        exact ⟨ret_bool (by rw [hn.out]; first | rfl | (rw [Bool.eq_iff_iff]; simp; omega) | simp [h0]), rfl⟩
      · have hd0 : decide (0 < s.size) = false := by simpa using h0
        go_wp2_with fail
        go_ret
        exact ⟨ret_bool (by rw [hn.out]; first | rfl | (rw [Bool.eq_iff_iff]; simp; omega) | simp [h0]), rfl⟩
end Go.Proofs.YtadncjpknckaaaaGreatDoor
namespace Go.Proofs.YtadncjpknckaaaaGreatDoor
open Go.RowKit Go.Maps
def Nd.key (x : Nd) : List UInt8 := x.name.data.toList
def parB (v : Nat) (p : Int) : Bool := if v = 0 then decide (p = -1) else decide (0 ≤ p) && decide (p < v)
def nodeB (ts : List Nd) (v : Nat) : Bool := match ts[v]? with
  | some x => parB v x.par && (tnB x.name && !decide (x.key ∈ (ts.take v).map Nd.key))
  | none => false
/-- A tree is valid. -/
def treeB (ts : List Nd) : Bool := decide (1 ≤ ts.length) && (decide (ts.length ≤ 63) && (List.range ts.length).all (nodeB ts))
def treeE (ts : List Nd) : Int := if treeB ts = true then 0 else 16
theorem treeE_len {ts : List Nd} (h : ts.length = 0 ∨ 63 < ts.length) : treeE ts = 16 := by
  unfold treeE treeB
  rcases h with h | h
  · simp [h]
  · have : ¬ ts.length ≤ 63 := by omega
    simp [this]
theorem treeE_bad {ts : List Nd} {v : Nat} (hv : v < ts.length) (h : nodeB ts v = false) : treeE ts = 16 := by
  unfold treeE treeB
  have : (List.range ts.length).all (nodeB ts) = false := by
    rw [List.all_eq_false]; exact ⟨v, List.mem_range.2 hv, by simp [h]⟩
  simp [this]
theorem treeE_ok {ts : List Nd} (h1 : 1 ≤ ts.length) (h2 : ts.length ≤ 63) (h : ∀ v, v < ts.length → nodeB ts v = true) : treeE ts = 0 := by
  unfold treeE treeB
  have : (List.range ts.length).all (nodeB ts) = true := by
    rw [List.all_eq_true]; exact fun v hv => h v (List.mem_range.1 hv)
  simp [this, h1, h2]
theorem nodeB_par {ts : List Nd} {v : Nat} {x : Nd} (hx : ts[v]? = some x) (h : parB v x.par = false) : nodeB ts v = false := by simp [nodeB, hx, h]
theorem nodeB_name {ts : List Nd} {v : Nat} {x : Nd} (hx : ts[v]? = some x) (h : tnB x.name = false) : nodeB ts v = false := by simp [nodeB, hx, h]
theorem nodeB_have {ts : List Nd} {v : Nat} {x : Nd} (hx : ts[v]? = some x) (h : x.key ∈ (ts.take v).map Nd.key) : nodeB ts v = false := by
  simp only [nodeB, hx, decide_eq_true h]; simp
theorem nodeB_ok {ts : List Nd} {v : Nat} {x : Nd} (hx : ts[v]? = some x) (h1 : parB v x.par = true) (h2 : tnB x.name = true) (h3 : ¬ x.key ∈ (ts.take v).map Nd.key) : nodeB ts v = true := by
  simp only [nodeB, hx, decide_eq_false h3, h1, h2]; rfl
theorem parB_not {v : Nat} {p : Int} (h : parB v p = false) : (v : Int) ≤ p ∨ p < min ((v : Int) - 1) 0 := by
  unfold parB at h
  by_cases hv : v = 0
  · subst hv; simp at h; omega
  · rw [if_neg hv] at h
    simp at h; omega
theorem parB_yes {v : Nat} {p : Int} (h : parB v p = true) : p < (v : Int) ∧ min ((v : Int) - 1) 0 ≤ p := by
  unfold parB at h
  by_cases hv : v = 0
  · subst hv; simp at h; omega
  · rw [if_neg hv] at h
    simp at h; omega
/-- The names that the first k nodes have. -/
def seenF (ts : List Nd) (k : Nat) (l : List UInt8) : Option Lit := if l ∈ (ts.take k).map Nd.key then some (.bool true) else none
abbrev klB (l : List UInt8) : Lit := .string l
theorem klB_inj (x y : List UInt8) (h : klB x = klB y) : x = y := by simpa [klB] using h
theorem klB_lit (x : List UInt8) : WideAt.IsKeyLit (klB x) := isKeyLit_string x
theorem zeroBool (w : World) : (zeroValue 4).run Tryz.prog w = .ok (.bool false) w := by kernel_rfl
theorem seen_key : Keyed Tryz.prog 9 := string_keyed Tryz.underlying9
theorem treeck_any (a : Option Addr) (n cap : Nat) (ts : List Nd) (w : World) (hr : RdN w a n cap ts) :
    Calls Tryz.prog 15 #[.slice a n cap] w fun e w' => e = .returned (.int .i64 (treeE ts)) ∧ Ext w w' := by
  have hmm := @run_makeMap Tryz.prog
  have hl := hr.rd.len
  by_cases h0 : n = 0
  · subst h0
    replace hl := Lib.hid hl
    go_enter Tryz.func15, Tryz.ntmps15
    go_wp2_with fail
    go_ret
    exact ⟨ret_int (treeE_len (.inl hl.out)).symm, Ext.refl _⟩
  by_cases h63 : 63 < n
  · replace hl := Lib.hid hl
    have hz : ((n : Int) == 0) = false := by simp; omega
    go_enter Tryz.func15, Tryz.ntmps15
    go_wp2_with fail
    go_ret
    exact ⟨ret_int (treeE_len (.inr (by rw [hl.out]; exact h63))).symm, Ext.refl _⟩
  have hz : ((n : Int) == 0) = false := by simp; omega
  replace hl := Lib.hid hl
  go_enter Tryz.func15, Tryz.ntmps15
  go_wp2_with fail
  go_loopw [17] (fun i wr => ∃ k : Nat, k ≤ n ∧ i = .int .i64 k ∧ Ext w wr ∧ MapK Tryz.prog 9 4 klB wr w.heap.size k (seenF ts k) ∧ Hid (∀ j, j < k → nodeB ts j = true)) (fun i _ => n - (intOf i).toNat)
  case atStart => exact ⟨0, Nat.zero_le _, rfl, Ext.alloc1 _ _, MapK.made _ _ _ _ _, fun j h => absurd h (Nat.not_lt_zero _)⟩
  case round =>
    obtain ⟨k, hk, rfl, hx, hm, hall⟩ := hrel
    by_cases hlt : k < n
    · obtain ⟨b, off, x, rfl, hs, hb, hc0, hc1, hsz⟩ := (hr.ext hx).nd hlt
      have hbad : nodeB ts k = false → treeE ts = 16 := fun h => treeE_bad (by rw [hl.out]; exact hlt) h
      replace hbad := Lib.hid hbad
      cases hp : parB k x.par
      · have hpp := parB_not hp
        have her := Lib.hid (hbad.out (nodeB_par hs.out hp))
        clear hp
        go_wp2_with fail
        all_goals first
          | (go_ret; exact ⟨ret_int her.out.symm, (by repeat (first | exact Ext.refl _ | assumption | refine Ext.drew ?_ | refine Ext.drewN ?_ _ | refine Ext.alloc ?_ _ | refine Ext.trans ?_ (by assumption)))⟩)
          | (exfalso; omega)
      · have hpp := parB_yes hp
        cases hn : tnB x.name
        · have her := Lib.hid (hbad.out (nodeB_name hs.out hn))
          clear hp
          go_wp2_with fail
          all_goals first
            | (exfalso; omega)
            | (refine (cbool0 (named_any x.name _ hsz) hn).mono ?_
               rintro e w1 ⟨rfl, rfl⟩
               go_wp2_with fail
               go_ret
               exact ⟨ret_int her.out.symm, (by repeat (first | exact Ext.refl _ | assumption | refine Ext.drew ?_ | refine Ext.drewN ?_ _ | refine Ext.alloc ?_ _ | refine Ext.trans ?_ (by assumption)))⟩)
        · have hkey : keyOf Tryz.prog 9 (.string x.name) = some (klB x.key) := WideMaps.keyOf_string_mk Tryz.underlying9 hsz
          replace hkey := Lib.hid hkey
          have hm1 := hm.kept (Ext.alloc1 wr (.cells #[.int .i64 x.par, .string x.name] 60))
          have hbl := hm.lt
          have hdA : decide ((k : Int) ≤ x.par) = false := by simp; omega
          by_cases hk1 : 1 < k
          · have hdB : decide ((1 : Int) < (k : Int)) = true := by simp; omega
            have hdC : decide (x.par < 0) = false := by simp; omega
            by_cases hin : x.key ∈ (ts.take k).map Nd.key
            · have her := Lib.hid (hbad.out (nodeB_have hs.out hin))
              have hv : ((seenF ts k x.key).getD (.bool false)).value = .bool true := by rw [seenF, if_pos hin]; rfl
              replace hv := Lib.hid hv
              clear hp hin
              clear hpp
              go_wp2_with fail
              refine (cbool0 (named_any x.name _ hsz) hn).mono ?_
              rintro e w1 ⟨rfl, rfl⟩
              go_wp2_with (at_lookup; refine wp_mapLook rfl _ _ 90 rfl 9 4 seen_key Tryz.underlying90 (zeroBool _) (plainElem_bool Tryz.underlying4 false) rfl hm1 _ _ rfl hkey.out _ hv.out ?_)
              go_ret
              exact ⟨ret_int her.out.symm, (by repeat (first | exact Ext.refl _ | assumption | refine Ext.drew ?_ | refine Ext.drewN ?_ _ | refine Ext.alloc ?_ _ | refine Ext.trans ?_ (by assumption)))⟩
            · have hv : ((seenF ts k x.key).getD (.bool false)).value = .bool false := by rw [seenF, if_neg hin]; rfl
              replace hv := Lib.hid hv
              have hnew : Hid (∀ j, j < k + 1 → nodeB ts j = true) := Lib.hid (by
                intro j hj
                by_cases e : j = k
                · subst e; exact nodeB_ok hs.out hp hn hin
                · exact hall.out j (by omega))
              have hf : (fun z => if z = x.key then some (Lit.bool true) else seenF ts k z) = seenF ts (k + 1) := by
                funext z
                unfold seenF
                rw [take_succ_at hs.out, List.map_append]
                by_cases e1 : z = x.key
                · subst e1; simp
                · simp [e1]
              replace hf := Lib.hid hf
              clear hp hin
              clear hpp
              go_wp2_with fail
              refine (cbool0 (named_any x.name _ hsz) hn).mono ?_
              rintro e w1 ⟨rfl, rfl⟩
              go_wp2_with (first
                | (at_lookup; refine wp_mapLook rfl _ _ 90 rfl 9 4 seen_key Tryz.underlying90 (zeroBool _) (plainElem_bool Tryz.underlying4 false) rfl hm1 _ _ rfl hkey.out _ hv.out ?_)
                | (at_mapUpdate; refine wp_mapStore rfl _ _ _ 90 rfl 9 4 seen_key Tryz.underlying90 klB_inj klB_lit rfl hm1 (by unfold maxLen; omega) _ _ _ rfl rfl hkey.out (plainElem_bool Tryz.underlying4 true) ?_; intro w2 hm2 hg2 _))
              rw [hf.out] at hm2
              have hx2 : Ext w w2 := (hx.alloc _).grown hg2 (fun r e => by cases e; exact Nat.le_refl _)
              (first | exact ⟨⟨k + 1, by omega, by go_num, hx2, hm2, hnew⟩, (by simp [intOf]; omega)⟩ | (go_roundw; case rel => exact ⟨k + 1, by omega, by go_num, hx2, hm2, hnew⟩; case measure => exact (by simp [intOf]; omega)))
          · have hdB : decide ((1 : Int) < (k : Int)) = false := by simp; omega
            have hdC : decide (x.par < (k : Int) - 1) = false := by simp; omega
            by_cases hin : x.key ∈ (ts.take k).map Nd.key
            · have her := Lib.hid (hbad.out (nodeB_have hs.out hin))
              have hv : ((seenF ts k x.key).getD (.bool false)).value = .bool true := by rw [seenF, if_pos hin]; rfl
              replace hv := Lib.hid hv
              clear hp hin
              clear hpp
              go_wp2_with fail
              refine (cbool0 (named_any x.name _ hsz) hn).mono ?_
              rintro e w1 ⟨rfl, rfl⟩
              go_wp2_with (at_lookup; refine wp_mapLook rfl _ _ 90 rfl 9 4 seen_key Tryz.underlying90 (zeroBool _) (plainElem_bool Tryz.underlying4 false) rfl hm1 _ _ rfl hkey.out _ hv.out ?_)
              go_ret
              exact ⟨ret_int her.out.symm, (by repeat (first | exact Ext.refl _ | assumption | refine Ext.drew ?_ | refine Ext.drewN ?_ _ | refine Ext.alloc ?_ _ | refine Ext.trans ?_ (by assumption)))⟩
            · have hv : ((seenF ts k x.key).getD (.bool false)).value = .bool false := by rw [seenF, if_neg hin]; rfl
              replace hv := Lib.hid hv
              have hnew : Hid (∀ j, j < k + 1 → nodeB ts j = true) := Lib.hid (by
                intro j hj
                by_cases e : j = k
                · subst e; exact nodeB_ok hs.out hp hn hin
                · exact hall.out j (by omega))
              have hf : (fun z => if z = x.key then some (Lit.bool true) else seenF ts k z) = seenF ts (k + 1) := by
                funext z
                unfold seenF
                rw [take_succ_at hs.out, List.map_append]
                by_cases e1 : z = x.key
                · subst e1; simp
                · simp [e1]
              replace hf := Lib.hid hf
              clear hp hin
              clear hpp
              go_wp2_with fail
              refine (cbool0 (named_any x.name _ hsz) hn).mono ?_
              rintro e w1 ⟨rfl, rfl⟩
              go_wp2_with (first
                | (at_lookup; refine wp_mapLook rfl _ _ 90 rfl 9 4 seen_key Tryz.underlying90 (zeroBool _) (plainElem_bool Tryz.underlying4 false) rfl hm1 _ _ rfl hkey.out _ hv.out ?_)
                | (at_mapUpdate; refine wp_mapStore rfl _ _ _ 90 rfl 9 4 seen_key Tryz.underlying90 klB_inj klB_lit rfl hm1 (by unfold maxLen; omega) _ _ _ rfl rfl hkey.out (plainElem_bool Tryz.underlying4 true) ?_; intro w2 hm2 hg2 _))
              rw [hf.out] at hm2
              have hx2 : Ext w w2 := (hx.alloc _).grown hg2 (fun r e => by cases e; exact Nat.le_refl _)
              (first | exact ⟨⟨k + 1, by omega, by go_num, hx2, hm2, hnew⟩, (by simp [intOf]; omega)⟩ | (go_roundw; case rel => exact ⟨k + 1, by omega, by go_num, hx2, hm2, hnew⟩; case measure => exact (by simp [intOf]; omega)))
    · go_wp2_with fail
      go_ret
      exact ⟨ret_int (treeE_ok (by rw [hl.out]; omega) (by rw [hl.out]; omega) (by rw [hl.out]; intro v hv; exact hall.out v (by omega))).symm, hx⟩
end Go.Proofs.YtadncjpknckaaaaGreatDoor
namespace Go.Proofs.YtadncjpknckaaaaGreatDoor
open Go.RowKit Go.Maps
theorem name_eq (a b : ByteArray) : (a.toList == b.toList) = decide (a.data.toList = b.data.toList) := by
  rw [ByteArray.toList_eq, ByteArray.toList_eq, Bool.eq_iff_iff]; simp
end Go.Proofs.YtadncjpknckaaaaGreatDoor
namespace Go.Proofs.YtadncjpknckaaaaGreatDoor
open Go.RowKit
section
variable {α : Type} {k : Nat} {enc : α → List Value}
theorem OwnK.blk {B : Nat} {e : TypeId} {w : World} {v : Value} {xs : List α} (h : OwnK k enc B e w v xs) {g : Nat} (hg : v.ownBlock = some g) : ∃ cur, w.heap[g]? = some (.cells cur e (0, 0)) := by
  obtain ⟨h1, h2⟩ := h
  rcases h2 with ⟨rfl, _⟩ | ⟨g', cap', cur, rfl, _, hh, _, _, _, ht⟩
  · cases hg
  · have : g' = g := by simpa [Value.ownBlock] using hg
    subst this; exact ⟨cur, hh⟩
theorem OwnK.other {B : Nat} {e e' : TypeId} {w w' : World} {v : Value} {xs : List α} {row : Option Nat} (h : OwnK k enc B e w v xs) (hg : w.grownBy w' row) (hr : ∀ g, row = some g → ∃ cur fr, w.heap[g]? = some (.cells cur e' fr)) (hne : e ≠ e') : OwnK k enc B e w' v xs := by
  have hb := fun g (hg' : v.ownBlock = some g) => OwnK.blk h hg'
  obtain ⟨h1, h2⟩ := h
  refine ⟨h1, ?_⟩
  rcases h2 with h2 | ⟨g', cap', cur, hv, hB, hh, r⟩
  · exact .inl h2
  · refine .inr ⟨g', cap', cur, hv, hB, (hg.block g' (Array.getElem?_eq_some_iff.1 hh).1 fun e1 => ?_).trans hh, r⟩
    obtain ⟨cur', fr, hc⟩ := hr g' e1.symm
    rw [hh] at hc
    cases hc
    exact hne rfl
end
theorem cell_other {w : World} {b o b' o' : Nat} {v : Value} (h : b ≠ b' ∨ o ≠ o') : (w.setCell ⟨b, o, none⟩ v).cell? ⟨b', o', none⟩ = w.cell? ⟨b', o', none⟩ := by
  apply World.cell?_setCell_other
  intro e
  rcases h with h | h
  · exact h (by simpa using congrArg Addr.block e)
  · exact h (by simpa using congrArg Addr.off e)
def zInts (n : Nat) : Array Value := madeCells (Value.int .i64 0).cells (n * 1)
def zHdrs (n : Nat) : Array Value := madeCells (Value.slice none 0 0).cells (n * 1)
theorem zHdrs_at (n j : Nat) (h : j < n) : (zHdrs n)[j]? = some (.slice none 0 0) := by simp [zHdrs, madeCells, Value.cells, h, Nat.mod_one]
section
variable {B e g n cap : Nat} {w : World} {xs : List Int}
theorem OwnI.at (h : OwnI B e w (.slice (some ⟨g, 0, none⟩) n cap) xs) {i : Nat} {y : Int} (hi : xs[i]? = some y) : w.cell? ⟨g, i, none⟩ = some (.int .i64 y) := by
  obtain ⟨h1, h2⟩ := h
  rcases h2 with ⟨h3, _⟩ | ⟨g', cap', cur, h3, _, hh, _, _, _, ht⟩
  · cases h3
  · simp only [Value.slice.injEq, Option.some.injEq, Addr.mk.injEq, and_true] at h3
    obtain ⟨rfl, _, _⟩ := h3
    have hf := flatMap_at I64.len xs i y hi 0 _ rfl
    rw [← ht, List.getElem?_take] at hf
    split at hf
    · simp only [World.cell?, hh]; simpa using hf
    · cases hf
theorem OwnI.free (h : OwnI B e w (.slice (some ⟨g, 0, none⟩) n cap) xs) (i : Nat) : w.frozen? ⟨g, i, none⟩ = false := by
  obtain ⟨h1, h2⟩ := h
  rcases h2 with ⟨h3, _⟩ | ⟨g', cap', cur, h3, _, hh, _, _, _, ht⟩
  · cases h3
  · simp only [Value.slice.injEq, Option.some.injEq, Addr.mk.injEq, and_true] at h3
    obtain ⟨rfl, _, _⟩ := h3
    exact frozen_of_row w g i cur e hh
theorem OwnI.ge (h : OwnI B e w (.slice (some ⟨g, 0, none⟩) n cap) xs) : B ≤ g ∧ g < w.heap.size ∧ xs.length = n ∧ n ≤ cap ∧ cap ≤ maxLen := by
  have h0 := World.ownsRow.lt h g rfl
  obtain ⟨h1, h2⟩ := h
  rcases h2 with ⟨h3, _⟩ | ⟨g', cap', cur, h3, _, hh, h4, h5, _, ht⟩
  · cases h3
  · simp only [Value.slice.injEq, Option.some.injEq, Addr.mk.injEq, and_true] at h3
    obtain ⟨_, h6, h7⟩ := h3
    exact ⟨h0.1, h0.2, h6.symm, by omega, by omega⟩
theorem flat_i64 (hs : List Int) : hs.flatMap I64.enc = hs.map (fun x => Value.int .i64 x) := by induction hs <;> simp [I64.enc, *]
theorem OwnI.set (h : OwnI B e w (.slice (some ⟨g, 0, none⟩) n cap) xs) (i : Nat) (y : Int) : OwnI B e (w.setCell ⟨g, i, none⟩ (.int .i64 y)) (.slice (some ⟨g, 0, none⟩) n cap) (xs.set i y) := by
  have hl := (OwnI.ge h).2.2.1
  subst hl
  have h1 := (World.ownsRow.stored h i (.int .i64 y)).1
  unfold OwnI OwnK
  rw [List.length_set]
  rw [flat_i64] at h1 ⊢
  rw [List.map_set]; exact h1
end
/-- A row's header, and the row. -/
structure HD where
  a : Option Addr
  n : Nat
  cap : Nat
  x : List Int
def HD.enc (h : HD) : List Value := [.slice h.a h.n h.cap]
theorem HD.len (h : HD) : h.enc.length = 1 := rfl
theorem HD.one (h : HD) : ∀ u ∈ h.enc, u.oneCell' = true := by intro u hu; simp [HD.enc] at hu; subst hu; rfl
/-- A list of rows, all the call's own (eo: the headers' type, ei: the integers'). -/
def OwnRs (B : Nat) (eo ei : TypeId) (w : World) (v : Value) (L : List (List Int)) : Prop :=
  ∃ hds : List HD, OwnK 1 HD.enc B eo w v hds ∧ (∀ h ∈ hds, OwnI B ei w (.slice h.a h.n h.cap) h.x) ∧ hds.map HD.x = L
theorem OwnRs.nil (B : Nat) (eo ei : TypeId) (w : World) : OwnRs B eo ei w (.slice none 0 0) [] := ⟨[], OwnK.nil _ _ _, fun h hh => (by cases hh), rfl⟩
theorem OwnRs.kept {B : Nat} {eo ei : TypeId} {w w' : World} {v : Value} {L : List (List Int)} (h : OwnRs B eo ei w v L) (hx : Ext w w') : OwnRs B eo ei w' v L :=
  let ⟨hds, h1, h2, h3⟩ := h; ⟨hds, h1.kept hx, fun h hh => (h2 h hh).kept hx, h3⟩
end Go.Proofs.YtadncjpknckaaaaGreatDoor
