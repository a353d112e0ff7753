/-
  history.lists.
-/
import Derived.Test.YtadncjpknckaaaaGreatDoorA32
namespace Go.Proofs.YtadncjpknckaaaaGreatDoor
open Go.RowKit Go.Shelf
/-- How many laws lead from the root to a node. -/
def wayN (ts : List Nd) (ps : List Pl) : Nat → Int → Nat
  | 0, _ => 0
  | f + 1, x => if x < 0 then 0 else ((ps[x.toNat]?).map fun p => p.xs.length).getD 0 + wayN ts ps f (((ts[x.toNat]?).map Nd.par).getD (-1))
theorem wayN_neg {ts : List Nd} {ps : List Pl} {f : Nat} {x : Int} (h : x < 0) : wayN ts ps f x = 0 := by
  cases f with
  | zero => rfl
  | succ f => rw [wayN, if_pos h]
theorem wayN_at {ts : List Nd} {ps : List Pl} {f k : Nat} {y : Nd} {p : Pl} (h : ts[k]? = some y) (hp : ps[k]? = some p) : wayN ts ps (f + 1) (k : Int) = p.xs.length + wayN ts ps f y.par := by
  rw [wayN, if_neg (by omega), Int.toNat_natCast, h, hp]; rfl
/-- The facts that lists tells. -/
def listsP (h : HH) : Prop := (∀ v, v < h.tn → wayN h.ts h.ps (v + 1) (v : Int) ≤ 64) ∧ ∀ p ∈ h.ps, ∀ x ∈ p.xs, 0 ≤ x ∧ x < h.ln
theorem wayN_fuel {ts : List Nd} {ps : List Pl} (ht : treeB ts = true) (hp : ps.length = ts.length) : ∀ (m x f : Nat), x ≤ m → x < f → x < ts.length → wayN ts ps f (x : Int) = wayN ts ps (x + 1) (x : Int)
  | m, x, f + 1, hm, hf, hx => by
    obtain ⟨y, hy⟩ : ∃ y, ts[x]? = some y := ⟨_, List.getElem?_eq_getElem hx⟩
    obtain ⟨p, hp'⟩ : ∃ p, ps[x]? = some p := ⟨_, List.getElem?_eq_getElem (by omega)⟩
    rw [wayN_at hy hp', wayN_at hy hp']
    congr 1
    rcases Nat.eq_zero_or_pos x with h0 | h0
    · subst h0
      rw [treeB_root ht hy, wayN_neg (by omega), wayN_neg (by omega)]
    · obtain ⟨h1, h2⟩ := treeB_par ht hy h0
      obtain ⟨q, hq⟩ := Int.eq_ofNat_of_zero_le h1
      rw [hq]
      cases m with
      | zero => omega
      | succ m => rw [wayN_fuel ht hp m q f (by omega) (by omega) (by omega), wayN_fuel ht hp m q x (by omega) (by omega) (by omega)]
/-- The sum of a node's way by its parent's. -/
theorem wayN_par {ts : List Nd} {ps : List Pl} (ht : treeB ts = true) (hl : ps.length = ts.length) {v q : Nat} {y : Nd} {p : Pl} (hy : ts[v]? = some y) (hp : ps[v]? = some p) (hq : y.par = (q : Int)) (hqv : q < v) : wayN ts ps (v + 1) (v : Int) = p.xs.length + wayN ts ps (q + 1) (q : Int) := by
  have := (List.getElem?_eq_some_iff.1 hy).1
  rw [wayN_at hy hp, hq, wayN_fuel ht hl q q v (Nat.le_refl _) hqv (by omega)]
def inB (n : Nat) (x : Int) : Bool := decide (0 ≤ x) && decide (x < n)
def listsB (h : HH) : Bool := ((List.range h.tn).all fun v => decide (wayN h.ts h.ps (v + 1) (v : Int) ≤ 64)) && h.ps.all fun p => p.xs.all fun x => inB h.ln x
theorem listsB_way {h : HH} (hb : listsB h = true) {v : Nat} (hv : v < h.tn) : wayN h.ts h.ps (v + 1) (v : Int) ≤ 64 := by
  simp only [listsB, Bool.and_eq_true] at hb
  simpa using List.all_eq_true.1 hb.1 v (List.mem_range.2 hv)
theorem listsB_in {h : HH} (hb : listsB h = true) {p : Pl} (hp : p ∈ h.ps) {x : Int} (hx : x ∈ p.xs) : 0 ≤ x ∧ x < h.ln := by
  simp only [listsB, Bool.and_eq_true] at hb
  have := List.all_eq_true.1 (List.all_eq_true.1 hb.2 p hp) x hx
  simpa [inB] using this
theorem zInts_own (w : World) (n : Nat) (hn : n ≤ 60000) : OwnI w.heap.size 3 (w.alloc (.cells (zInts n) 3)) (.slice (some ⟨w.heap.size, 0, none⟩) n n) (List.replicate n 0) :=
  made_own I64.len (by decide) w 3 #[.int .i64 0] 0 rfl n hn
theorem listsB_no1 {h : HH} {v : Nat} (hv : v < h.tn) (hw : ¬ wayN h.ts h.ps (v + 1) (v : Int) ≤ 64) : listsB h = false := by
  rw [Bool.eq_false_iff]
  exact fun hb => hw (listsB_way hb hv)
/-- What the walk knows of the sums behind k nodes. -/
def sumsP (ts : List Nd) (ps : List Pl) (k : Nat) (xs : List Int) : Prop := (∀ i, i < k → xs[i]? = some ((wayN ts ps (i + 1) (i : Int) : Nat) : Int)) ∧ ∀ i, i < k → wayN ts ps (i + 1) (i : Int) ≤ 64
theorem sums_succ {ts : List Nd} {ps : List Pl} {k n W : Nat} {xs : List Int} (h : sumsP ts ps k xs) (hl : xs.length = n) (hk : k < n) (hW : wayN ts ps (k + 1) (k : Int) = W) (hw : W ≤ 64) : sumsP ts ps (k + 1) (xs.set k (W : Int)) := by
  refine ⟨fun i hi => ?_, fun i hi => ?_⟩
  · by_cases e : i = k
    · subst e; rw [List.getElem?_set_self (by omega), hW]
    · rw [List.getElem?_set_ne (Ne.symm e)]; exact h.1 i (by omega)
  · by_cases e : i = k
    · subst e; omega
    · exact h.2 i (by omega)
theorem any_take_succ {α : Type} {f : α → Bool} {l : List α} {k : Nat} {x : α} (h : l[k]? = some x) : (l.take (k + 1)).any f = ((l.take k).any f || f x) := by
  rw [List.take_add_one, h, List.any_append]; simp
set_option maxHeartbeats 2000000 in
set_option maxRecDepth 20000 in
theorem lists_any (h : HH) (w : World) (hr : RdH w h) (hpn : h.pn = h.tn) (htb : treeB h.ts = true) (hln : h.ln ≤ 64) (hsm : ∀ p ∈ h.ps, p.n ≤ 4) : Calls Tryz.prog 39 #[h.v] w (RetEr (listsB h) w) := by
  have hno := fun v => @listsB_no1 h v
  have hyes : ∀ bad : Bool, bad = (h.ps.any fun p => p.xs.any fun x => !inB h.ln x) → (∀ v, v < h.tn → wayN h.ts h.ps (v + 1) (v : Int) ≤ 64) → listsB h = !bad := fun bad hb hw => by
    subst hb
    unfold listsB
    rw [show ((List.range h.tn).all fun v => decide (wayN h.ts h.ps (v + 1) (v : Int) ≤ 64)) = true from by
      rw [List.all_eq_true]; intro v hv; exact decide_eq_true (hw v (List.mem_range.1 hv)), Bool.true_and]
    rw [List.not_any_eq_all_not]
    congr 1; funext p
    rw [List.not_any_eq_all_not]
    congr 1; funext x; simp
  generalize hB : listsB h = B at *
  clear hB
  obtain ⟨ta, tn, tc, ts, la, ln, lc, ls, pa, pn, pc, ps⟩ := h
  obtain ⟨ht, hl, hp⟩ := hr
  simp only at hpn htb hln hsm hno hyes ht hl hp
  subst hpn
  have htl := ht.rd.len
  have hpl := hp.rd.len
  have hpn63 : pn ≤ 63 := by have := (treeB_len htb).2; omega
  have hmk := fun W => mk_ints pn (by omega) W
  have hpar := fun v q y p h1 h2 h3 h4 => @wayN_par ts ps htb (by omega) v q y p h1 h2 h3 h4
  have hroot := fun (v : Nat) (y : Nd) (p : Pl) (hy : ts[v]? = some y) (hp : ps[v]? = some p) (h0 : y.par < 0) => show wayN ts ps (v + 1) (v : Int) = p.xs.length by rw [wayN_at hy hp, wayN_neg h0, Nat.add_zero]
  have hpv := fun (v : Nat) (y : Nd) (hy : ts[v]? = some y) (h0 : ¬ y.par < 0) => show ∃ q : Nat, y.par = (q : Int) ∧ q < v by
    rcases Nat.eq_zero_or_pos v with hz | hz
    · subst hz; have := treeB_root htb hy; omega
    · obtain ⟨h1, h2⟩ := treeB_par htb hy hz
      obtain ⟨q, hq⟩ := Int.eq_ofNat_of_zero_le h1
      exact ⟨q, hq, by omega⟩
  replace hno := Lib.hid hno
  replace hyes := Lib.hid hyes
  replace hpar := Lib.hid hpar
  replace hroot := Lib.hid hroot
  replace hpv := Lib.hid hpv
  replace htl := Lib.hid htl
  replace hpl := Lib.hid hpl
  have hown0 := zInts_own (w.alloc (.cells #[.slice ta pn tc, .slice la ln lc, .slice pa pn pc] 26)) pn (by omega)
  have hB0 : (w.alloc (.cells #[.slice ta pn tc, .slice la ln lc, .slice pa pn pc] 26)).heap[w.heap.size]? = some (.cells #[.slice ta pn tc, .slice la ln lc, .slice pa pn pc] 26) := World.alloc_heap_new w _
  have hzs : (w.alloc (.cells #[.slice ta pn tc, .slice la ln lc, .slice pa pn pc] 26)).heap.size = w.heap.size + 1 := by simp
  rw [hzs] at hown0
  have hxw := Ext.alloc1 w (.cells #[.slice ta pn tc, .slice la ln lc, .slice pa pn pc] 26)
  go_enter Tryz.func39, Tryz.ntmps39
  go_wp2_with fail
  generalize hw1 : w.alloc (.cells #[.slice ta pn tc, .slice la ln lc, .slice pa pn pc] 26) = w1 at *
  replace hw1 := Lib.hid hw1
  replace hzs := Lib.hid hzs
  go_loopw [4, 17] (fun c i wr => ∃ (k : Nat) (bad : Bool) (xs : List Int), k ≤ pn ∧ i = .int .i64 k ∧ c = .bool bad ∧ Ext w1 wr ∧ OwnI (w.heap.size + 1) 3 wr (.slice (some ⟨w.heap.size + 1, 0, none⟩) pn pn) xs ∧ Hid (sumsP ts ps k xs) ∧ Hid (bad = (ps.take k).any fun p => p.xs.any fun x => !inB ln x)) (fun _ i _ => pn - (intOf i).toNat)
  case atStart => exact ⟨0, false, _, Nat.zero_le _, rfl, rfl, Ext.alloc1 _ _, hown0, Lib.hid ⟨fun i hi => absurd hi (Nat.not_lt_zero _), fun i hi => absurd hi (Nat.not_lt_zero _)⟩, Lib.hid rfl⟩
  case round =>
    obtain ⟨k, bad, xs, hk, rfl, rfl, hx, hown, hsum, hbad⟩ := hrel
    by_cases hlt : k < pn
    · obtain ⟨bp, offp, p, rfl, hps, hbp, cp, hpx⟩ := (hp.ext (hxw.trans hx)).pl hlt
      have hpl1 := hpx.len
      have hg := OwnI.ge hown
      have hxk : xs[k]? = some xs[k] := List.getElem?_eq_getElem (by omega)
      have d0 := OwnI.at hown hxk
      have f0 := OwnI.free hown k
      have own1 := OwnI.set hown k (p.n : Int)
      have hx1 := hx.setCell (p := ⟨w.heap.size + 1, k, none⟩) (by have := hzs.out; simp only; omega) (.int .i64 (p.n : Int))
      obtain ⟨bt, offt, y, rfl, hys, hbt, ct0, _, _⟩ := (ht.ext (hxw.trans hx1)).nd hlt
      have c0 : (wr.setCell ⟨w.heap.size + 1, k, none⟩ (.int .i64 (p.n : Int))).cell? ⟨w.heap.size, 0, none⟩ = some (.slice (some ⟨bt, offt, none⟩) pn tc) := by have := blk_kept hB0 hx1; simp only [World.cell?, this]; rfl
      by_cases hneg : y.par < 0
      · have hWW : Hid (wayN ts ps (k + 1) (k : Int) = p.n) := Lib.hid (by rw [hroot.out k y p hys.out hps.out hneg, hpl1])
        have d1 := OwnI.at own1 (i := k) (y := (p.n : Int)) (by rw [List.getElem?_set_self (by omega)])
        have hd0 : ¬ (0 : Int) ≤ y.par := by omega
        by_cases h64 : p.n ≤ 64
        · have hd64 : ¬ ((64 : Int) < (p.n : Int)) := by omega
          have hsn : Hid (sumsP ts ps (k + 1) (xs.set k (p.n : Int))) := Lib.hid (sums_succ hsum.out hg.2.2.1 hlt hWW.out h64)
          go_wp2_with fail
          go_loopw [4, 52] (fun c j wi => ∃ (m : Nat) (b2 : Bool), m ≤ p.n ∧ j = .int .i64 m ∧ c = .bool b2 ∧ Ext w1 wi ∧ OwnI (w.heap.size + 1) 3 wi (.slice (some ⟨w.heap.size + 1, 0, none⟩) pn pn) (xs.set k (p.n : Int)) ∧ Hid (b2 = (bad || (p.xs.take m).any fun x => !inB ln x))) (fun _ j _ => p.n - (intOf j).toNat)
          case atStart => exact ⟨0, bad, Nat.zero_le _, rfl, rfl, hx1, own1, Lib.hid (by simp)⟩
          case round =>
            obtain ⟨m, b2, hm, rfl, rfl, hxm, hownm, hb2⟩ := hrel
            by_cases hltm : m < p.n
            · obtain ⟨bx, offx, x, hxa, hxs, hbx, cx⟩ := ((hp.rows p (List.mem_of_getElem? hps.out)).ext (hxw.trans hxm)).i64 hltm
              have hmm := hsm p (List.mem_of_getElem? hps.out)
              have hxb : (wr.cell? ⟨w.heap.size, 1, none⟩) = some (.slice la ln lc) := by have := blk_kept hB0 hxm; simp only [World.cell?, this]; rfl
              have hsu := any_take_succ (f := fun x => !inB ln x) hxs.out
              have hnb : Hid ((b2 || !inB ln x) = (bad || (p.xs.take (m + 1)).any fun x => !inB ln x)) := Lib.hid (by rw [hb2.out, hsu, Bool.or_assoc])
              have hin : inB ln x = (decide (0 ≤ x) && decide (x < ln)) := rfl
              clear hsu
              cases b2
              · by_cases hx0 : x < 0
                · have hdx : decide (0 ≤ x) = false := by simp; omega
                  rw [hin, hdx, Bool.false_and] at hnb
                  replace hin := Lib.hid hin
                  clear hdx
                  go_wp2_with fail
                  (first | exact ⟨⟨m + 1, true, by omega, by go_num, rfl, hxm, hownm, hnb⟩, (by simp [intOf]; omega)⟩ | (go_roundw; case rel => exact ⟨m + 1, true, by omega, by go_num, rfl, hxm, hownm, hnb⟩; case measure => exact (by simp [intOf]; omega)))
                · have hdx : decide (0 ≤ x) = true := by simp; omega
                  rw [hin, hdx, Bool.true_and] at hnb
                  replace hin := Lib.hid hin
                  clear hdx
                  by_cases hx1 : x < ln
                  · have hx2 : ¬ (ln : Int) ≤ x := by omega
                    rw [decide_eq_true hx1] at hnb
                    go_wp2_with fail
                    (first | exact ⟨⟨m + 1, false, by omega, by go_num, rfl, hxm, hownm, hnb⟩, (by simp [intOf]; omega)⟩ | (go_roundw; case rel => exact ⟨m + 1, false, by omega, by go_num, rfl, hxm, hownm, hnb⟩; case measure => exact (by simp [intOf]; omega)))
                  · have hx2 : (ln : Int) ≤ x := by omega
                    rw [decide_eq_false hx1] at hnb
                    go_wp2_with fail
                    (first | exact ⟨⟨m + 1, true, by omega, by go_num, rfl, hxm, hownm, hnb⟩, (by simp [intOf]; omega)⟩ | (go_roundw; case rel => exact ⟨m + 1, true, by omega, by go_num, rfl, hxm, hownm, hnb⟩; case measure => exact (by simp [intOf]; omega)))
              · rw [Bool.true_or] at hnb
                replace hin := Lib.hid hin
                go_wp2_with fail
                (first | exact ⟨⟨m + 1, true, by omega, by go_num, rfl, hxm, hownm, hnb⟩, (by simp [intOf]; omega)⟩ | (go_roundw; case rel => exact ⟨m + 1, true, by omega, by go_num, rfl, hxm, hownm, hnb⟩; case measure => exact (by simp [intOf]; omega)))
            · have hnb : Hid (b2 = (ps.take (k + 1)).any fun p => p.xs.any fun x => !inB ln x) := Lib.hid (by
                rw [hb2.out, List.take_of_length_le (by omega), any_take_succ hps.out, hbad.out])
              go_wp2_with fail
              (first | exact ⟨⟨k + 1, b2, _, by omega, by go_num, rfl, hxm, hownm, hsn, hnb⟩, (by simp [intOf]; omega)⟩ | (go_roundw; case rel => exact ⟨k + 1, b2, _, by omega, by go_num, rfl, hxm, hownm, hsn, hnb⟩; case measure => exact (by simp [intOf]; omega)))
        · have hd64 : (64 : Int) < (p.n : Int) := by omega
          have hBf : Hid (B = false) := Lib.hid (hno.out k hlt (by rw [hWW.out]; exact h64))
          go_wp2_with fail
          go_ret
          exact ⟨2, rfl, Lib.hid ⟨fun h => (by cases h), fun h => (by rw [hBf.out] at h; cases h)⟩, hxw.trans hx1⟩
      · obtain ⟨q, hyq, hqv⟩ := hpv.out k y hys.out (by omega)
        obtain ⟨N, hN⟩ : ∃ N, wayN ts ps (q + 1) (q : Int) = N := ⟨_, rfl⟩
        obtain ⟨W, hW⟩ : ∃ W, p.n + N = W := ⟨_, rfl⟩
        have hN64 : N ≤ 64 := by rw [← hN]; exact hsum.out.2 q hqv
        have hWW : Hid (wayN ts ps (k + 1) (k : Int) = W) := Lib.hid (by rw [hpar.out k q y p hys.out hps.out hyq hqv, hpl1, hN, hW])
        have d1 := OwnI.at own1 (i := k) (y := (p.n : Int)) (by rw [List.getElem?_set_self (by omega)])
        have dq := OwnI.at own1 (i := q) (y := (N : Int)) (by rw [List.getElem?_set_ne (by omega), hsum.out.1 q hqv, hN])
        have f1 := OwnI.free own1 k
        have own2 := OwnI.set own1 k (W : Int)
        rw [List.set_set] at own2
        have hx2 := hx1.setCell (p := ⟨w.heap.size + 1, k, none⟩) (by have := hzs.out; simp only; omega) (.int .i64 (W : Int))
        have d2 := OwnI.at own2 (i := k) (y := (W : Int)) (by rw [List.getElem?_set_self (by omega)])
        have hqp : q < pn := by omega
        have hp4 := hsm p (List.mem_of_getElem? hps.out)
        have heW : (p.n : Int) + (N : Int) = (W : Int) := by omega
        have hwr : IntKind.i64.wrap (W : Int) = (W : Int) := by rw [IntKind.wrap_i64]; omega
        rw [hyq] at ct0
        have hd0 : (0 : Int) ≤ (q : Int) := by omega
        replace hyq := Lib.hid hyq
        replace hN := Lib.hid hN
        replace hW := Lib.hid hW
        go_wp2_with fail
        go_region_law (fail)
        all_goals
          have hx3 := hx2.drew
          have own3 := OwnK.kept own2 ((Ext.refl _).drew)
          clear d1 dq hx2 own2
          by_cases h64 : W ≤ 64
          · have hd64 : ¬ ((64 : Int) < (W : Int)) := by omega
            have hsn : Hid (sumsP ts ps (k + 1) (xs.set k (W : Int))) := Lib.hid (sums_succ hsum.out hg.2.2.1 hlt hWW.out h64)
            go_wp2_with fail
            go_loopw [4, 52] (fun c j wi => ∃ (m : Nat) (b2 : Bool), m ≤ p.n ∧ j = .int .i64 m ∧ c = .bool b2 ∧ Ext w1 wi ∧ OwnI (w.heap.size + 1) 3 wi (.slice (some ⟨w.heap.size + 1, 0, none⟩) pn pn) (xs.set k (W : Int)) ∧ Hid (b2 = (bad || (p.xs.take m).any fun x => !inB ln x))) (fun _ j _ => p.n - (intOf j).toNat)
            case atStart => exact ⟨0, bad, Nat.zero_le _, rfl, rfl, hx3, own3, Lib.hid (by simp)⟩
            case round =>
              obtain ⟨m, b2, hm, rfl, rfl, hxm, hownm, hb2⟩ := hrel
              by_cases hltm : m < p.n
              · obtain ⟨bx, offx, x, hxa, hxs, hbx, cx⟩ := ((hp.rows p (List.mem_of_getElem? hps.out)).ext (hxw.trans hxm)).i64 hltm
                have hmm := hsm p (List.mem_of_getElem? hps.out)
                have hxb : (wr.cell? ⟨w.heap.size, 1, none⟩) = some (.slice la ln lc) := by have := blk_kept hB0 hxm; simp only [World.cell?, this]; rfl
                have hsu := any_take_succ (f := fun x => !inB ln x) hxs.out
                have hnb : Hid ((b2 || !inB ln x) = (bad || (p.xs.take (m + 1)).any fun x => !inB ln x)) := Lib.hid (by rw [hb2.out, hsu, Bool.or_assoc])
                have hin : inB ln x = (decide (0 ≤ x) && decide (x < ln)) := rfl
                clear hsu
                cases b2
                · by_cases hx0 : x < 0
                  · have hdx : decide (0 ≤ x) = false := by simp; omega
                    rw [hin, hdx, Bool.false_and] at hnb
                    replace hin := Lib.hid hin
                    clear hdx
                    go_wp2_with fail
                    (first | exact ⟨⟨m + 1, true, by omega, by go_num, rfl, hxm, hownm, hnb⟩, (by simp [intOf]; omega)⟩ | (go_roundw; case rel => exact ⟨m + 1, true, by omega, by go_num, rfl, hxm, hownm, hnb⟩; case measure => exact (by simp [intOf]; omega)))
                  · have hdx : decide (0 ≤ x) = true := by simp; omega
                    rw [hin, hdx, Bool.true_and] at hnb
                    replace hin := Lib.hid hin
                    clear hdx
                    by_cases hx1 : x < ln
                    · have hx2 : ¬ (ln : Int) ≤ x := by omega
                      rw [decide_eq_true hx1] at hnb
                      go_wp2_with fail
                      (first | exact ⟨⟨m + 1, false, by omega, by go_num, rfl, hxm, hownm, hnb⟩, (by simp [intOf]; omega)⟩ | (go_roundw; case rel => exact ⟨m + 1, false, by omega, by go_num, rfl, hxm, hownm, hnb⟩; case measure => exact (by simp [intOf]; omega)))
                    · have hx2 : (ln : Int) ≤ x := by omega
                      rw [decide_eq_false hx1] at hnb
                      go_wp2_with fail
                      (first | exact ⟨⟨m + 1, true, by omega, by go_num, rfl, hxm, hownm, hnb⟩, (by simp [intOf]; omega)⟩ | (go_roundw; case rel => exact ⟨m + 1, true, by omega, by go_num, rfl, hxm, hownm, hnb⟩; case measure => exact (by simp [intOf]; omega)))
                · rw [Bool.true_or] at hnb
                  replace hin := Lib.hid hin
                  go_wp2_with fail
                  (first | exact ⟨⟨m + 1, true, by omega, by go_num, rfl, hxm, hownm, hnb⟩, (by simp [intOf]; omega)⟩ | (go_roundw; case rel => exact ⟨m + 1, true, by omega, by go_num, rfl, hxm, hownm, hnb⟩; case measure => exact (by simp [intOf]; omega)))
              · have hnb : Hid (b2 = (ps.take (k + 1)).any fun p => p.xs.any fun x => !inB ln x) := Lib.hid (by
                  rw [hb2.out, List.take_of_length_le (by omega), any_take_succ hps.out, hbad.out])
                go_wp2_with fail
                (first | exact ⟨⟨k + 1, b2, _, by omega, by go_num, rfl, hxm, hownm, hsn, hnb⟩, (by simp [intOf]; omega)⟩ | (go_roundw; case rel => exact ⟨k + 1, b2, _, by omega, by go_num, rfl, hxm, hownm, hsn, hnb⟩; case measure => exact (by simp [intOf]; omega)))
          · have hd64 : (64 : Int) < (W : Int) := by omega
            have hBf : Hid (B = false) := Lib.hid (hno.out k hlt (by rw [hWW.out]; exact h64))
            go_wp2_with fail
            go_ret
            exact ⟨2, rfl, Lib.hid ⟨fun h => (by cases h), fun h => (by rw [hBf.out] at h; cases h)⟩, hxw.trans hx3⟩
    · have hall : ps.take k = ps := List.take_of_length_le (by have := hpl.out; omega)
      have hBe : Hid (B = !bad) := Lib.hid (hyes.out bad (by rw [hbad.out, hall]) fun v hv => hsum.out.2 v (by omega))
      clear hall
      cases bad
      · go_wp2_with fail
        go_ret
        exact ⟨0, rfl, Lib.hid ⟨fun _ => hBe.out, fun _ => rfl⟩, hxw.trans hx⟩
      · go_wp2_with fail
        go_ret
        exact ⟨3, rfl, Lib.hid ⟨fun h => (by cases h), fun h => (by rw [hBe.out] at h; cases h)⟩, hxw.trans hx⟩
end Go.Proofs.YtadncjpknckaaaaGreatDoor
