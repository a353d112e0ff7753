/-
  Shortest conditions: apart, search, choose.
-/
import Derived.Test.YtbnbfdbliokcaaaDoorJi
namespace Go.Proofs.YtbnbfdbliokcaaaDoor
open Go.RowKit
/-- A set of features in a cell. -/
def U32.enc (x : BitVec 32) : List Value := [.int .u32 x.toNat]
theorem U32.len (x : BitVec 32) : (U32.enc x).length = 1 := rfl
theorem U32.one (x : BitVec 32) : ∀ u ∈ U32.enc x, u.oneCell' = true := by intro u hu; simp [U32.enc] at hu; subst hu; rfl
abbrev RdU := RdK 1 U32.enc
abbrev OwnU := OwnK 1 U32.enc
theorem RdK.u32 {w : World} {a : Option Addr} {n cap : Nat} {xs : List (BitVec 32)} (h : RdK 1 U32.enc w a n cap xs) {i : Nat} (hi : i < n) :
    ∃ b off x, a = some ⟨b, off, none⟩ ∧ Hid (xs[i]? = some x) ∧ b < w.heap.size ∧ w.cell? ⟨b, off + i, none⟩ = some (.int .u32 (x.toNat : Nat)) := by
  obtain ⟨b, off, x, ha, hx, hb, hc⟩ := h.get hi
  exact ⟨b, off, x, ha, hx, hb, by have := hc 0 _ rfl; simpa using this⟩
theorem info_u32 : (Tryd.prog.info? 25).map (fun i => (i.zero, i.size, i.bytes)) = some (some (.int .u32 0), 1, 4) := by kernel_rfl
theorem and_beq0 (x y : BitVec 32) : (((x.toNat &&& y.toNat : Nat) : Int) == 0) = decide (x &&& y = 0#32) := by
  rw [Bool.eq_iff_iff, beq_iff_eq, decide_eq_true_eq]
  constructor
  · intro h; exact BitVec.eq_of_toNat_eq (by rw [BitVec.toNat_and]; simpa using h)
  · intro h
    have := congrArg BitVec.toNat h
    rw [BitVec.toNat_and] at this
    rw [this]; rfl
theorem apartF_cons (u x : BitVec 32) (l : List (BitVec 32)) : apartF u (x :: l) = if x &&& u = 0#32 then apartF (u ||| x) l + 1 else apartF u l := rfl
theorem drop_at {α : Type} {xs : List α} {k : Nat} {x : α} (h : xs[k]? = some x) : xs.drop k = x :: xs.drop (k + 1) := by
  have hlt := (List.getElem?_eq_some_iff.1 h)
  obtain ⟨h1, h2⟩ := hlt
  rw [List.drop_eq_getElem_cons h1, h2]
set_option maxHeartbeats 1000000 in
theorem apart_any (a : Option Addr) (n cap : Nat) (l : List (BitVec 32)) (w : World) (hr : RdU w a n cap l) :
    Calls Tryd.prog 56 #[.slice a n cap] w fun e w' => e = .returned (.int .i64 (apartF 0#32 l : Nat)) ∧ w' = w := by
  have hl := hr.len
  have hmax : n ≤ 9223372036854775807 := by have := hr.le; have := hr.most; unfold maxLen at this; omega
  replace hl := Lib.hid hl
  go_enter Tryd.func56, Tryd.ntmps56
  go_wp2_with fail
  go_loopw [3, 4, 9] (fun q u i wr => ∃ (k c : Nat) (used : BitVec 32), k ≤ n ∧ i = .int .i64 k ∧ q = .int .i64 c ∧ u = .int .u32 used.toNat ∧ Hid (apartF 0#32 l = c + apartF used (l.drop k)) ∧ c ≤ k ∧ wr = w) (fun _ _ i _ => n - (intOf i).toNat)
  case atStart => exact ⟨0, 0, 0#32, Nat.zero_le _, rfl, rfl, rfl, Lib.hid (by simp), Nat.le_refl _, rfl⟩
  case round =>
    obtain ⟨k, c, used, hk, rfl, rfl, rfl, hap, hck, rfl⟩ := hrel
    by_cases hlt : k < n
    · have hki : (k : Int) < (n : Int) := by omega
      obtain ⟨b, off, x, rfl, hx, hb, p0⟩ := hr.u32 hlt
      have hdr := drop_at hx.out
      have hb0 := and_beq0 x used
      replace hx := Lib.hid hx.out
      have hap := hap.out
      rw [hdr, apartF_cons] at hap
      by_cases hz : x &&& used = 0#32
      · rw [if_pos hz] at hap
        have hd : decide (x &&& used = 0#32) = true := by simpa using hz
        rw [hd] at hb0
        obtain ⟨nu, hnu⟩ : ∃ nu : BitVec 32, nu = used ||| x := ⟨_, rfl⟩
        have hnu2 : Hid (nu.toNat = used.toNat ||| x.toNat) := Lib.hid (by rw [hnu, BitVec.toNat_or])
        rw [← hnu] at hap
        replace hnu := Lib.hid hnu
        have hap2 : Hid (apartF 0#32 l = (c + 1) + apartF nu (l.drop (k + 1))) := Lib.hid (by rw [hap]; omega)
        replace hap := Lib.hid hap
        replace hdr := Lib.hid hdr
        replace hz := Lib.hid hz
        clear hd
        go_wp2_with fail
        (first | exact ⟨⟨k + 1, c + 1, nu, by omega, by go_num, by go_num, by rw [hnu2.out], hap2, by omega, (by first | rfl | trivial)⟩, (by simp [intOf]; omega)⟩ | (go_roundw; case rel => exact ⟨k + 1, c + 1, nu, by omega, by go_num, by go_num, by rw [hnu2.out], hap2, by omega, (by first | rfl | trivial)⟩; case measure => exact (by simp [intOf]; omega)))
      · rw [if_neg hz] at hap
        have hd : decide (x &&& used = 0#32) = false := by simpa using hz
        rw [hd] at hb0
        replace hap := Lib.hid hap
        replace hdr := Lib.hid hdr
        replace hz := Lib.hid hz
        clear hd
        go_wp2_with fail
        (first | exact ⟨⟨k + 1, c, used, by omega, by go_num, rfl, rfl, hap, by omega, (by first | rfl | trivial)⟩, (by simp [intOf]; omega)⟩ | (go_roundw; case rel => exact ⟨k + 1, c, used, by omega, by go_num, rfl, rfl, hap, by omega, (by first | rfl | trivial)⟩; case measure => exact (by simp [intOf]; omega)))
    · have hkn : k = n := by omega
      have hdr : l.drop k = [] := List.drop_of_length_le (by rw [hl.out]; omega)
      have hfin : Hid (apartF 0#32 l = c) := Lib.hid (by rw [hap.out, hdr]; rfl)
      replace hdr := Lib.hid hdr
      go_wp2_with fail
      go_ret
      exact ⟨ret_int (by rw [hfin.out]), rfl⟩
/-! ### search -/
theorem run_mkf (fn : Fn) (first cap : Array Value) (w : World) : (Instr.makeFunc fn first cap).run Tryd.prog w = .ok (.func fn first cap) w := rfl
/-- The function value in its own box. -/
def FnV (Bs : Nat) : Value := .func (.func 55) #[] #[.pointer (some ⟨Bs, 0, none⟩)]
theorem shr_beq0 (x : BitVec 32) (k : Nat) : ((x.toNat : Int) / 2 ^ k == 0) = decide (x >>> k = 0#32) := by
  have e1 : (x.toNat : Int) / 2 ^ k = ((x >>> k).toNat : Int) := by rw [BitVec.toNat_ushiftRight, Nat.shiftRight_eq_div_pow]; norm_cast
  rw [e1, Bool.eq_iff_iff, beq_iff_eq, decide_eq_true_eq]
  exact u32_zero _
def restL (l : List (BitVec 32)) (k : Nat) : List (BitVec 32) := l.filter fun x => !x.getLsbD k
def lostB (l : List (BitVec 32)) (k : Nat) : Bool := l.any fun x => decide (x >>> k = 0#32)
theorem restL_snoc (l : List (BitVec 32)) (x : BitVec 32) (k : Nat) : restL (l ++ [x]) k = if x.getLsbD k then restL l k else restL l k ++ [x] := by
  unfold restL
  rw [List.filter_append]
  cases h : x.getLsbD k <;> simp [h]
theorem lostB_snoc (l : List (BitVec 32)) (x : BitVec 32) (k : Nat) : lostB (l ++ [x]) k = (lostB l k || decide (x >>> k = 0#32)) := by
  unfold lostB; simp
theorem restL_len (l : List (BitVec 32)) (k : Nat) : (restL l k).length ≤ l.length := List.length_filter_le _ _
theorem hit_step {g m : Nat} {l : List (BitVec 32)} : hit (g + 1) (m + 1) l = match hit g m (restL l (23 - g)) with
    | some s => some (s ||| bt (23 - g))
    | none => hit g (m + 1) l := rfl
/-- What stands at the head of a round of search. -/
theorem hit_next {k m : Nat} {l : List (BitVec 32)} (hk : k < 24) (h : hit (24 - (k + 1)) m (restL l k) = none) : hit (24 - k) (m + 1) l = hit (24 - (k + 1)) (m + 1) l := by
  obtain ⟨g, hg⟩ : ∃ g, 24 - k = g + 1 := ⟨24 - (k + 1), by omega⟩
  have hg2 : 24 - (k + 1) = g := by omega
  have hf : 23 - g = k := by omega
  rw [hg2] at h ⊢
  rw [hg, hit_step, hf, h]
theorem hit_here {k m : Nat} {l : List (BitVec 32)} {s : BitVec 32} (hk : k < 24) (h : hit (24 - (k + 1)) m (restL l k) = some s) : hit (24 - k) (m + 1) l = some (s ||| bt k) := by
  obtain ⟨g, hg⟩ : ∃ g, 24 - k = g + 1 := ⟨24 - (k + 1), by omega⟩
  have hg2 : 24 - (k + 1) = g := by omega
  have hf : 23 - g = k := by omega
  rw [hg2] at h
  rw [hg, hit_step, hf, h]
theorem hit_lower {k m : Nat} {l : List (BitVec 32)} (hk : k < 24) (hl : l ≠ []) (h : ∀ m', m' < m + 1 → hit (24 - k) m' l = none) :
    (∀ m', m' < m → hit (24 - (k + 1)) m' (restL l k) = none) ∧ (∀ m', m' < m + 1 → hit (24 - (k + 1)) m' l = none) := by
  obtain ⟨g, hg⟩ : ∃ g, 24 - k = g + 1 := ⟨24 - (k + 1), by omega⟩
  have hg2 : 24 - (k + 1) = g := by omega
  have hf : 23 - g = k := by omega
  rw [hg2]
  rw [hg] at h
  refine ⟨fun m' hm => ?_, fun m' hm => ?_⟩
  · have := (hit_succ_none (h (m' + 1) (by omega))).1
    rw [hf] at this; exact this
  · cases m' with
    | zero => exact hit_cons_zero _ hl
    | succ m' => exact (hit_succ_none (h (m' + 1) hm)).2
def SrR (r : Option (BitVec 32)) (W : World) (e : Ending) (w' : World) : Prop := e = .returned (.tuple #[.int .u32 (r.getD 0#32).toNat, .bool r.isSome]) ∧ Ext W w'
set_option maxHeartbeats 2000000 in
set_option maxRecDepth 20000 in
theorem search_any (Bs : Nat) : ∀ (g f m : Nat) (a : Option Addr) (n cap : Nat) (l : List (BitVec 32)) (W : World), f + g = 24 → n ≤ 60000 → (∀ x ∈ l, x ≠ 0#32) → (∀ m', m' < m → hit g m' l = none) → m ≤ 30 → RdU W a n cap l →
    W.cell? ⟨Bs, 0, none⟩ = some (FnV Bs) →
    Calls Tryd.prog 55 #[.slice a n cap, .int .i64 f, .int .i64 m, .pointer (some ⟨Bs, 0, none⟩)] W (SrR (hit g m l) W) := by
  intro g
  induction g using Nat.strongRecOn with
  | ind g ih =>
  intro f m a n cap l W hfg hn hnz hpre hm hr hbox
  have hl := hr.len
  by_cases h0 : n = 0
  · have hnil : l = [] := List.eq_nil_of_length_eq_zero (by omega)
    have hm0 : m = 0 := by
      rcases Nat.eq_zero_or_pos m with h | h
      · exact h
      · have := hpre 0 h
        rw [hnil, hit_nil_zero] at this; cases this
    have hR : hit g m l = some 0#32 := by rw [hnil, hm0, hit_nil_zero]
    rw [hR]
    unfold SrR
    subst h0
    replace hl := Lib.hid hl
    replace hnil := Lib.hid hnil
    replace hR := Lib.hid hR
    replace hm0 := Lib.hid hm0
    replace hpre := Lib.hid hpre
    clear ih hnz
    go_enter Tryd.func55, Tryd.ntmps55
    go_wp2_with fail
    go_ret2
    exact ⟨rfl, Ext.refl _⟩
  · have hne : l ≠ [] := fun e => by rw [e] at hl; simp at hl; omega
    have hd0 : ((n : Int) == 0) = false := by simpa using h0
    have hap := apart_any a n cap l W hr
    by_cases hgt : m < apartF 0#32 l
    · have hR : hit g m l = none := hit_apart (by omega) hgt
      rw [hR]
      unfold SrR
      have hd1 : decide ((m : Int) < (apartF 0#32 l : Nat)) = true := by simp; omega
      generalize apartF 0#32 l = A at *
      replace hl := Lib.hid hl
      replace hR := Lib.hid hR
      replace hne := Lib.hid hne
      replace hpre := Lib.hid hpre
      replace h0 := Lib.hid h0
      clear ih hnz
      go_enter Tryd.func55, Tryd.ntmps55
      go_wp2_with fail
      refine hap.mono ?_
      rintro e w1 ⟨rfl, rfl⟩
      clear hap
      go_wp2_with fail
      go_ret2
      exact ⟨rfl, Ext.refl _⟩
    · have hm1 : 0 < m := by
        rcases Nat.eq_zero_or_pos m with h | h
        · exfalso
          apply hgt
          cases l with
          | nil => exact absurd rfl hne
          | cons x l => rw [h, apartF_cons, if_pos (by simp)]; omega
        · exact h
      obtain ⟨M, rfl⟩ : ∃ M, m = M + 1 := ⟨m - 1, by omega⟩
      have hd1 : decide (((M + 1 : Nat) : Int) < (apartF 0#32 l : Nat)) = false := by simp; omega
      generalize apartF 0#32 l = A at *
      replace hl := Lib.hid hl
      replace hne := Lib.hid hne
      replace hpre := Lib.hid hpre
      replace h0 := Lib.hid h0
      replace ih := Lib.hid ih
      replace hnz := Lib.hid hnz
      have hgf : g = 24 - f := by omega
      subst hgf
      have hf24 : f ≤ 24 := by omega
      replace hfg := Lib.hid hfg
      generalize hmm : M + 1 = m at *
      replace hmm := Lib.hid hmm
      unfold SrR
      go_enter Tryd.func55, Tryd.ntmps55
      go_wp2_with fail
      refine hap.mono ?_
      rintro e w1 ⟨rfl, rfl⟩
      clear hap
      go_wp2_with fail
      go_loopw [9] (fun i wr => ∃ k : Nat, f ≤ k ∧ k ≤ 24 ∧ i = .int .i64 k ∧ Hid (hit (24 - f) m l = hit (24 - k) m l) ∧ Hid (∀ m', m' < m → hit (24 - k) m' l = none) ∧ Ext w1 wr) (fun i _ => 24 - (intOf i).toNat)
      case atStart => exact ⟨f, Nat.le_refl _, hf24, rfl, Lib.hid rfl, hpre, Ext.refl _⟩
      case round =>
        obtain ⟨k, hfk, hk, rfl, heq, hlow, hx⟩ := hrel
        by_cases hlt : k < 24
        · have hki : (k : Int) < 24 := by omega
          obtain ⟨wo, rfl⟩ : ∃ wo : World, wo = wr := ⟨_, rfl⟩
          go_wp2_with fail
          go_loopw [10, 11, 30] (fun rv lv i wr => ∃ j : Nat, j ≤ n ∧ i = .int .i64 j ∧ OwnU w1.heap.size 25 wr rv (restL (l.take j) k) ∧ lv = .bool (lostB (l.take j) k) ∧ Ext w1 wr) (fun _ _ i _ => n - (intOf i).toNat)
          case atStart => exact ⟨0, Nat.zero_le _, rfl, OwnK.nil _ _ _, rfl, hx⟩
          case round =>
            clear hx
            obtain ⟨j, hj, rfl, hown, rfl, hx⟩ := hrel
            by_cases hlj : j < n
            · have hji : (j : Int) < (n : Int) := by omega
              obtain ⟨b, off, x, rfl, hxj, hb, p0⟩ := (hr.ext hx).u32 hlj
              have hsu := take_succ_at hxj.out
              have hs1 := restL_snoc (l.take j) x k
              have hs2 := lostB_snoc (l.take j) x k
              rw [← hsu] at hs1 hs2
              have hlen := restL_len (l.take j) k
              have htl : (l.take j).length ≤ j := by rw [List.length_take]; omega
              have hsh := shr_beq0 x k
              have hlen2 : (restL (l.take j) k).length ≤ 60000 := by omega
              replace hsu := Lib.hid hsu
              replace hxj := Lib.hid hxj.out
              clear hlen htl
              generalize restL (l.take j) k = rl at *
              generalize lostB (l.take j) k = lo at *
              generalize decide (x >>> k = 0#32) = sh at *
              cases hbit : x.getLsbD k
              · rw [hbit, if_neg (by simp)] at hs1
                have hb1 := shr_nil hbit
                replace hs1 := Lib.hid hs1
                replace hbit := Lib.hid hbit
                cases lo
                · have hs2 : Hid (lostB (l.take (j + 1)) k = sh) := Lib.hid (by rw [hs2]; rfl)
                  go_wp2_with (at_builtin; refine wp_app1 w1 wr x rfl _ _ 74 rfl 25 Tryd.underlying74 info_u32 rfl (by decide) _ _ rfl hown hx rfl (U32.len _) (U32.one _) (by omega) (by unfold maxLen; omega) ?_; intro v2 w2 o2 x2 _)
                  (first | exact ⟨⟨j + 1, by omega, by go_num, by rw [hs1.out]; exact o2, by rw [hs2.out], x2⟩, (by simp [intOf]; omega)⟩ | (go_roundw; case rel => exact ⟨j + 1, by omega, by go_num, by rw [hs1.out]; exact o2, by rw [hs2.out], x2⟩; case measure => exact (by simp [intOf]; omega)))
                · have hs2 : Hid (lostB (l.take (j + 1)) k = true) := Lib.hid (by rw [hs2]; rfl)
                  go_wp2_with (at_builtin; refine wp_app1 w1 wr x rfl _ _ 74 rfl 25 Tryd.underlying74 info_u32 rfl (by decide) _ _ rfl hown hx rfl (U32.len _) (U32.one _) (by omega) (by unfold maxLen; omega) ?_; intro v2 w2 o2 x2 _)
                  (first | exact ⟨⟨j + 1, by omega, by go_num, by rw [hs1.out]; exact o2, by rw [hs2.out], x2⟩, (by simp [intOf]; omega)⟩ | (go_roundw; case rel => exact ⟨j + 1, by omega, by go_num, by rw [hs1.out]; exact o2, by rw [hs2.out], x2⟩; case measure => exact (by simp [intOf]; omega)))
              · rw [hbit, if_pos rfl] at hs1
                have hb1 := shr_one hbit
                replace hs1 := Lib.hid hs1
                replace hbit := Lib.hid hbit
                cases lo
                · have hs2 : Hid (lostB (l.take (j + 1)) k = sh) := Lib.hid (by rw [hs2]; rfl)
                  go_wp2_with fail
                  (first | exact ⟨⟨j + 1, by omega, by go_num, by rw [hs1.out]; exact hown, by rw [hs2.out], hx⟩, (by simp [intOf]; omega)⟩ | (go_roundw; case rel => exact ⟨j + 1, by omega, by go_num, by rw [hs1.out]; exact hown, by rw [hs2.out], hx⟩; case measure => exact (by simp [intOf]; omega)))
                · have hs2 : Hid (lostB (l.take (j + 1)) k = true) := Lib.hid (by rw [hs2]; rfl)
                  go_wp2_with fail
                  (first | exact ⟨⟨j + 1, by omega, by go_num, by rw [hs1.out]; exact hown, by rw [hs2.out], hx⟩, (by simp [intOf]; omega)⟩ | (go_roundw; case rel => exact ⟨j + 1, by omega, by go_num, by rw [hs1.out]; exact hown, by rw [hs2.out], hx⟩; case measure => exact (by simp [intOf]; omega)))
            · have hful : l.take j = l := List.take_of_length_le (by rw [hl.out]; omega)
              rw [hful] at hown ⊢
              replace hful := Lib.hid hful
              have hbw := hx.cellv hbox
              cases hlo : lostB l k
              · have hlen := restL_len l k
                rw [hl.out] at hlen
                obtain ⟨a3, n3, c3, hn3, rfl, hr3⟩ := OwnK.rdn U32.len hown
                obtain ⟨L1, L2⟩ := hit_lower hlt hne.out (m := M) (by rw [hmm.out]; exact hlow.out)
                have hM : IntKind.i64.wrap ((m : Int) - 1) = (M : Int) := by rw [IntWalk.i64_in _ (by have := hmm.out; omega)]; have := hmm.out; omega
                have hk1 : IntKind.i64.wrap ((k : Int) + 1) = ((k + 1 : Nat) : Int) := by rw [IntWalk.i64_in _ (by omega)]; rfl
                have hcall := ih.out (24 - (k + 1)) (by omega) (k + 1) M a3 n3 c3 (restL l k) wr (by omega) (by omega) (fun y hy => hnz.out y (List.mem_filter.1 hy).1) L1 (by have := hmm.out; omega) hr3 hbw
                replace hlo := Lib.hid hlo
                replace L1 := Lib.hid L1
                replace hn3 := Lib.hid hn3
                clear hlen hown
                have hM2 : (m : Int) - 1 = (M : Int) := by have := hmm.out; omega
                cases hres : hit (24 - (k + 1)) M (restL l k) with
                | none =>
                  rw [hres] at hcall
                  have heq2 : Hid (hit (24 - f) m l = hit (24 - (k + 1)) m l) := Lib.hid (by rw [heq.out, ← hmm.out]; exact hit_next hlt hres)
                  replace hres := Lib.hid hres
                  rw [hmm.out] at L2
                  replace L2 := Lib.hid L2
                  unfold SrR at hcall
                  unfold FnV at hbw
                  rw [show ((k + 1 : Nat) : Int) = (k : Int) + 1 from rfl] at hcall
                  go_wp2_with fail
                  refine hcall.mono ?_
                  rintro e w3 ⟨rfl, hx3⟩
                  clear hcall
                  go_wp2_with fail
                  (first | exact ⟨⟨k + 1, by omega, by omega, by go_num, heq2, L2, hx.trans hx3⟩, (by simp [intOf]; omega)⟩ | (go_roundw; case rel => exact ⟨k + 1, by omega, by omega, by go_num, heq2, L2, hx.trans hx3⟩; case measure => exact (by simp [intOf]; omega)))
                | some s =>
                  rw [hres] at hcall
                  have heq2 : Hid (hit (24 - f) m l = some (s ||| bt k)) := Lib.hid (by rw [heq.out, ← hmm.out]; exact hit_here hlt hres)
                  replace hres := Lib.hid hres
                  clear L2
                  unfold SrR at hcall
                  unfold FnV at hbw
                  rw [show ((k + 1 : Nat) : Int) = (k : Int) + 1 from rfl] at hcall
                  have hbt := bt_nat hlt
                  have hor := or_nat s (bt k)
                  have hgo : Hid ((.int .u32 ((((hit (24 - f) m l).getD 0#32).toNat : Nat) : Int) : Value) = .int .u32 ((s ||| bt k).toNat : Nat) ∧ (hit (24 - f) m l).isSome = true) := Lib.hid (by rw [heq2.out]; exact ⟨rfl, rfl⟩)
                  generalize bt k = B at *
                  go_wp2_with fail
                  refine hcall.mono ?_
                  rintro e w3 ⟨rfl, hx3⟩
                  clear hcall
                  go_wp2_with fail
                  go_ret2
                  exact ⟨by rw [hgo.out.1, hgo.out.2]; simp, hx.trans hx3⟩
              · have hR : Hid (hit (24 - f) m l = none) := Lib.hid (by
                  rw [heq.out]
                  unfold lostB at hlo
                  obtain ⟨x, hx, hz⟩ := List.any_eq_true.1 hlo
                  exact hit_lost (by omega) hx fun i hi => shr_zero_bits.1 (of_decide_eq_true hz) i (by omega))
                replace hlo := Lib.hid hlo
                clear hown
                go_wp2_with fail
                go_ret2
                exact ⟨by rw [hR.out]; rfl, hx⟩
        · have hR : Hid (hit (24 - f) m l = none) := Lib.hid (by
            rw [heq.out, show 24 - k = 0 by omega, ← hmm.out, hit_zero])
          go_wp2_with fail
          go_ret2
          exact ⟨by rw [hR.out]; rfl, hx⟩
end Go.Proofs.YtbnbfdbliokcaaaDoor
