/-
  Clone at bytes; after: plain, and the walk.
  A pattern is allowed: pats.valid, pats.allowed at patterns in order.
-/
import Derived.Test.YtilkemdecenibaaU7
namespace Go.Proofs.Ytilkemdecenibaa
open Go.RowKit
theorem info_u8 : (Try.prog.info? 5).map (fun i => (i.zero, i.size, i.bytes)) = some (some (.int .u8 0), 1, 1) := by kernel_rfl
/-- A call of its own that returns a row of bytes. -/
def RetB (xs : List Bool) (w : World) (e : Ending) (w' : World) : Prop := ∃ S cap, e = .returned (.slice (some ⟨S, 0, none⟩) xs.length cap) ∧ OwnK 1 BB.enc w.heap.size 5 w' (.slice (some ⟨S, 0, none⟩) xs.length cap) xs ∧ Ext w w'
set_option maxHeartbeats 1000000 in
theorem cloneB_any (a : Option Addr) (n cap : Nat) (xs : List Bool) (w : World) (hr : RdK 1 BB.enc w a n cap xs) (hn : n ≤ 60000) (h1 : 1 ≤ n) :
    Calls Try.prog 71 #[.slice a n cap] w (RetB xs w) := by
  have hl := hr.len
  cases a with
  | none =>
    have hc := hr.isnil rfl
    have h0 : n = 0 := by have := hr.le; omega
    omega
  | some ad =>
    have he := fun w => Lib.run_eql_slice_nil (P := Try.prog) w 81 5 (some ad) n cap 0 0 Try.underlying81
    have h0 : OwnK 1 BB.enc w.heap.size 5 (w.alloc (.cells #[] 5)) (.slice (some ⟨w.heap.size, 0, Option.none⟩) 0 0) [] := OwnK.base (World.ownsRow_lit w #[] 0 (Nat.le_refl _) (Nat.zero_le _) rfl) (Nat.le_refl _)
    replace hl := Lib.hid hl
    go_enter Try.func71, Try.ntmps71
    go_wp2_with (at_builtin; refine wp_appN w _ xs rfl _ _ 81 rfl 5 Try.underlying81 info_u8 rfl (by decide) _ _ rfl h0 (Ext.alloc1 _ _) (some ad) n cap rfl (hr.ext (Ext.alloc1 _ _)) BB.len BB.one (by simp; omega) (by unfold maxLen; simp; omega) ?_; intro v' w1 hown1 hx1 _; obtain ⟨va, vn, vc, hvn, rfl, _⟩ := OwnK.rdn BB.len hown1; obtain ⟨S, rfl⟩ := own_some hown1 (by intro e; have := hl.out; rw [List.nil_append] at e; rw [e] at this; simp at this; omega))

    go_ret
    rw [List.nil_append] at hvn hown1
    subst hvn
    exact ⟨_, _, rfl, hown1, hx1⟩
/-! ### after, plain -/
def hitB (s : Snd) (q : HP) : Bool := (q.kind == 1) && (satB s q.is != q.neg)
def afterRow (s : Snd) : List Lk → List Bool → List Bool
  | [], out => out
  | l :: ls, out => afterRow s ls (if hitB s l.2 then out.set l.1 true else out)
def afterTo (g : Net) (s : Snd) (bs : List Bool) : Nat → List Bool
  | 0 => List.replicate g.length false
  | k + 1 => if bs.getD k false then afterRow s (g.getD k []) (afterTo g s bs k) else afterTo g s bs k
def afterM (g : Net) (bs : List Bool) (s : Snd) : List Bool := spreadM g (afterTo g s bs bs.length) false false
/-- The sounds of the links are sounds. -/
def netSndB (g : Net) : Bool := g.all fun r => r.all fun l => l.2.is.ok
theorem netSnd_at {g : Net} (h : netSndB g = true) {x : Nat} {r : List Lk} (hr : g[x]? = some r) : ∀ l ∈ r, l.2.is.ok = true := fun l hl => by
  have h1 := List.all_eq_true.1 h r (List.mem_of_getElem? hr)
  simpa using List.all_eq_true.1 h1 l hl
theorem afterRow_len (s : Snd) : ∀ (r : List Lk) (out : List Bool), (afterRow s r out).length = out.length
  | [], out => rfl
  | l :: ls, out => by simp only [afterRow]; rw [afterRow_len s ls]; split <;> simp
theorem afterRow_app (s : Snd) : ∀ (r t : List Lk) (out : List Bool), afterRow s (r ++ t) out = afterRow s t (afterRow s r out)
  | [], t, out => rfl
  | l :: ls, t, out => by simp only [List.cons_append, afterRow]; exact afterRow_app s ls t _
theorem afterTo_len (g : Net) (s : Snd) (bs : List Bool) : ∀ k, (afterTo g s bs k).length = g.length
  | 0 => by simp [afterTo]
  | k + 1 => by simp only [afterTo]; split; · rw [afterRow_len]; exact afterTo_len g s bs k
                · exact afterTo_len g s bs k
theorem afterRow_next {s : Snd} {r : List Lk} {j to : Nat} {q : HP} {o o2 : List Bool} (h : afterRow s (r.take j) o = o2) (hr : r[j]? = some (to, q)) : afterRow s (r.take (j + 1)) o = if hitB s q then o2.set to true else o2 := by
  rw [take_succ_at hr, afterRow_app, h]; rfl
set_option maxHeartbeats 4000000 in
set_option maxRecDepth 20000 in
theorem after_any (w : World) (a : Option Addr) (n cap : Nat) (g : Net) (hg : RdNet w a n cap g) (hok : netOkB n g = true) (hsn : netSndB g = true) (hn5 : n ≤ 5000) (sa : Option Addr) (sc : Nat) (bs : List Bool)
    (hs : RdK 1 BB.enc w sa n sc bs) (s : Snd) (hso : s.ok = true) :
    Calls Try.prog 70 #[.slice a n cap, .slice sa n sc, sndV s] w (RetB (afterM g bs s) w) := by
  have hgl := hg.len
  have hbl := hs.len
  obtain ⟨R, hR⟩ : ∃ R, R = afterM g bs s := ⟨_, rfl⟩
  rw [← hR]
  replace hR := Lib.hid hR
  have hmk : ∀ W : World, (Instr.makeSlice 81 (.int .i64 (n : Int)) (.int .i64 (n : Int))).run Try.prog W = .ok (.slice (some ⟨W.heap.size, 0, none⟩) n n) (W.alloc (.cells (madeCells #[.int .u8 0] (n * 1)) 5)) := fun W => run_mk (P := Try.prog) 81 Try.underlying81 info_u8 n (by omega) (by decide) W
  have b0 : (w.alloc (.cells #[.int .u32 s.p.toNat, .int .u32 s.m.toNat] 24)).cell? ⟨w.heap.size, 0, none⟩ = some (.int .u32 s.p.toNat) := by go_simp
  have b1 : (w.alloc (.cells #[.int .u32 s.p.toNat, .int .u32 s.m.toNat] 24)).cell? ⟨w.heap.size, 1, none⟩ = some (.int .u32 s.m.toNat) := by go_simp
  have hxs : Ext w (w.alloc (.cells #[.int .u32 s.p.toNat, .int .u32 s.m.toNat] 24)) := Ext.alloc1 _ _
  have hown0 := made_own BB.len (by decide) (w.alloc (.cells #[.int .u32 s.p.toNat, .int .u32 s.m.toNat] 24)) 5 #[.int .u8 0] false rfl n (by omega)
  have hx0 : Ext (w.alloc (.cells #[.int .u32 s.p.toNat, .int .u32 s.m.toNat] 24)) ((w.alloc (.cells #[.int .u32 s.p.toNat, .int .u32 s.m.toNat] 24)).alloc (.cells (madeCells #[.int .u8 0] (n * 1)) 5)) := Ext.alloc1 _ _
  have hgs := hg.ext hxs
  have hss := hs.ext hxs
  have hgl' := Lib.hid hgl
  have hbl' := Lib.hid hbl
  clear hgl hbl
  have hsmost := hs.most
  have hsle := hs.le
  unfold maxLen at hsmost
  have hok' := Lib.hid hok
  have hsn' := Lib.hid hsn
  clear hok hsn
  go_enter Try.func70, Try.ntmps70
  go_wp2_with fail
  have hz0 : List.replicate n false = afterTo g s bs 0 := by rw [← hgl'.out]; rfl
  rw [hz0, Nat.mul_one] at hown0
  rw [Nat.mul_one] at hx0
  have hsb : (w.alloc (.cells #[.int .u32 s.p.toNat, .int .u32 s.m.toNat] 24)).heap.size = w.heap.size + 1 := by simp
  rw [hsb] at hown0
  obtain ⟨S, hS⟩ : ∃ S, S = w.heap.size + 1 := ⟨_, rfl⟩
  obtain ⟨Bs, hBs⟩ : ∃ Bs, Bs = w.heap.size := ⟨_, rfl⟩
  generalize (w.alloc (.cells #[.int .u32 s.p.toNat, .int .u32 s.m.toNat] 24)).alloc (.cells (madeCells #[.int .u8 0] n) 5) = wm at *
  generalize (w.alloc (.cells #[.int .u32 s.p.toNat, .int .u32 s.m.toNat] 24)) = ws at *
  rw [← hBs] at b0 b1
  rw [← hS] at hown0
  rw [← hS] at hsb
  rw [← hS, ← hBs]
  replace hown0 : OwnK 1 BB.enc ws.heap.size 5 wm (.slice (some ⟨S, 0, none⟩) n n) (afterTo g s bs 0) := by rw [hsb]; exact hown0
  replace hsb := Lib.hid hsb
  replace hz0 := Lib.hid hz0
  replace hS := Lib.hid hS
  replace hBs := Lib.hid hBs
  go_loopw [17] (fun iv wr => ∃ i : Nat, i ≤ n ∧ iv = .int .i64 i ∧ OwnK 1 BB.enc ws.heap.size 5 wr (.slice (some ⟨S, 0, none⟩) n n) (afterTo g s bs i) ∧ Ext ws wr) (fun iv _ => n - (intOf iv).toNat)
  case atStart => exact ⟨0, Nat.zero_le _, rfl, hown0, hx0⟩
  case round =>
    clear hown0 hx0 hmk
    obtain ⟨i, hi, rfl, ho, hxr⟩ := hrel
    by_cases hlt : i < n
    · obtain ⟨sb, so, bv, rfl, hbi, hsbl, hbc⟩ := (hss.ext hxr).get hlt
      have hc := hbc 0 _ rfl
      rw [Nat.mul_one, Nat.add_zero] at hc
      have hgd : bs.getD i false = bv := by rw [List.getD_eq_getElem?_getD, hbi.out]; rfl
      clear hbc
      cases bv with
      | false =>
        have hnx : Hid (afterTo g s bs (i + 1) = afterTo g s bs i) := Lib.hid (by rw [afterTo, hgd]; rfl)
        clear hgd
        go_wp2_with fail
        (first | exact ⟨⟨i + 1, hlt, by go_num, by rw [hnx.out]; exact ho, hxr⟩, (by simp [intOf]; omega)⟩ | (go_roundw; case rel => exact ⟨i + 1, hlt, by go_num, by rw [hnx.out]; exact ho, hxr⟩; case measure => exact (by simp [intOf]; omega)))
      | true =>
        obtain ⟨gb, go, ⟨ya, yn, yc, yx⟩, rfl, hcy, hy, hgx⟩ := hgs.at (i := i) (by omega)
        change ws.cell? _ = some (.slice ya yn yc) at hcy
        change RdK 8 Lk.enc ws ya yn yc yx at hy
        change Hid (g[i]? = some yx) at hgx
        replace hcy := hxr.cellv hcy
        have hnx : Hid (afterTo g s bs (i + 1) = afterRow s yx (afterTo g s bs i)) := Lib.hid (by rw [afterTo, hgd, List.getD_eq_getElem?_getD, hgx.out]; rfl)
        clear hgd
        have hoky := Lib.hid (netOk_at hok'.out hgx.out)
        have hsny := Lib.hid (netSnd_at hsn'.out hgx.out)
        have hyle := hy.le
        have hymost := hy.most
        have hylen := Lib.hid hy.len
        unfold maxLen at hymost
        obtain ⟨A, hA⟩ : ∃ A, A = afterTo g s bs i := ⟨_, rfl⟩
        rw [← hA] at ho hnx
        replace hA := Lib.hid hA
        go_wp2_with fail
        go_loopw [29] (fun iv wr => ∃ (j : Nat) (out : List Bool), j ≤ yn ∧ iv = .int .i64 j ∧ OwnK 1 BB.enc ws.heap.size 5 wr (.slice (some ⟨S, 0, none⟩) n n) out ∧ Ext ws wr ∧ Hid (afterRow s (yx.take j) A = out)) (fun iv _ => yn - (intOf iv).toNat)
        case atStart => exact ⟨0, _, Nat.zero_le _, rfl, ho, hxr, Lib.hid rfl⟩
        case round =>
          clear ho hxr hcy hc
          obtain ⟨j, out, hj, rfl, ho, hxr, hpl⟩ := hrel
          by_cases hlt2 : j < yn
          · obtain ⟨b, off, to, q, rfl, hrj, hb, c0, c1, c2, c3, c4, c5, c6, c7⟩ := lk_at (hy.ext hxr) hlt2
            have hpn := Lib.hid (afterRow_next hpl.out hrj.out)
            have hton := hoky.out _ (List.mem_of_getElem? hrj.out)
            have hqo := hsny.out _ (List.mem_of_getElem? hrj.out)
            simp only at hton hqo
            have hSl := (own_ge ho).2.1
            have hBl := cell_lt (hxr.cellv b0)
            have hjn : (j : Int) < (yn : Int) := by omega
            obtain ⟨kd, hkd⟩ : ∃ kd, q.kind = kd := ⟨_, rfl⟩
            rw [hkd] at c1
            obtain ⟨ng, hng⟩ : ∃ ng, q.neg = ng := ⟨_, rfl⟩
            rw [hng] at c4
            have d0 : (wr.alloc (.cells #[.int .i64 to, .int .i64 kd, .int .u32 q.is.p.toNat, .int .u32 q.is.m.toNat, .bool ng, .int .i64 q.mn, .int .i64 q.mx, .slice q.a q.n q.cap] 161)).cell? ⟨wr.heap.size, 0, none⟩ = some (.int .i64 to) := by go_simp
            have d1 : (wr.alloc (.cells #[.int .i64 to, .int .i64 kd, .int .u32 q.is.p.toNat, .int .u32 q.is.m.toNat, .bool ng, .int .i64 q.mn, .int .i64 q.mx, .slice q.a q.n q.cap] 161)).cell? ⟨wr.heap.size, 1, none⟩ = some (.int .i64 kd) := by go_simp
            have d2 : (wr.alloc (.cells #[.int .i64 to, .int .i64 kd, .int .u32 q.is.p.toNat, .int .u32 q.is.m.toNat, .bool ng, .int .i64 q.mn, .int .i64 q.mx, .slice q.a q.n q.cap] 161)).cell? ⟨wr.heap.size, 2, none⟩ = some (.int .u32 q.is.p.toNat) := by go_simp
            have d3 : (wr.alloc (.cells #[.int .i64 to, .int .i64 kd, .int .u32 q.is.p.toNat, .int .u32 q.is.m.toNat, .bool ng, .int .i64 q.mn, .int .i64 q.mx, .slice q.a q.n q.cap] 161)).cell? ⟨wr.heap.size, 3, none⟩ = some (.int .u32 q.is.m.toNat) := by go_simp
            have d4 : (wr.alloc (.cells #[.int .i64 to, .int .i64 kd, .int .u32 q.is.p.toNat, .int .u32 q.is.m.toNat, .bool ng, .int .i64 q.mn, .int .i64 q.mx, .slice q.a q.n q.cap] 161)).cell? ⟨wr.heap.size, 4, none⟩ = some (.bool ng) := by go_simp
            have a0 := ((hxr.alloc (.cells #[.int .i64 to, .int .i64 kd, .int .u32 q.is.p.toNat, .int .u32 q.is.m.toNat, .bool ng, .int .i64 q.mn, .int .i64 q.mx, .slice q.a q.n q.cap] 161)).cellv b0)
            have a1 := ((hxr.alloc (.cells #[.int .i64 to, .int .i64 kd, .int .u32 q.is.p.toNat, .int .u32 q.is.m.toNat, .bool ng, .int .i64 q.mn, .int .i64 q.mx, .slice q.a q.n q.cap] 161)).cellv b1)
            have e0 := fun X : ExtOf (wr.alloc (.cells #[.int .i64 to, .int .i64 kd, .int .u32 q.is.p.toNat, .int .u32 q.is.m.toNat, .bool ng, .int .i64 q.mn, .int .i64 q.mx, .slice q.a q.n q.cap] 161)) => X.cell d0
            have e1 := fun X : ExtOf (wr.alloc (.cells #[.int .i64 to, .int .i64 kd, .int .u32 q.is.p.toNat, .int .u32 q.is.m.toNat, .bool ng, .int .i64 q.mn, .int .i64 q.mx, .slice q.a q.n q.cap] 161)) => X.cell d1
            have e2 := fun X : ExtOf (wr.alloc (.cells #[.int .i64 to, .int .i64 kd, .int .u32 q.is.p.toNat, .int .u32 q.is.m.toNat, .bool ng, .int .i64 q.mn, .int .i64 q.mx, .slice q.a q.n q.cap] 161)) => X.cell d2
            have e3 := fun X : ExtOf (wr.alloc (.cells #[.int .i64 to, .int .i64 kd, .int .u32 q.is.p.toNat, .int .u32 q.is.m.toNat, .bool ng, .int .i64 q.mn, .int .i64 q.mx, .slice q.a q.n q.cap] 161)) => X.cell d3
            have e4 := fun X : ExtOf (wr.alloc (.cells #[.int .i64 to, .int .i64 kd, .int .u32 q.is.p.toNat, .int .u32 q.is.m.toNat, .bool ng, .int .i64 q.mn, .int .i64 q.mx, .slice q.a q.n q.cap] 161)) => X.cell d4
            have e5 := fun X : ExtOf (wr.alloc (.cells #[.int .i64 to, .int .i64 kd, .int .u32 q.is.p.toNat, .int .u32 q.is.m.toNat, .bool ng, .int .i64 q.mn, .int .i64 q.mx, .slice q.a q.n q.cap] 161)) => X.cell a0
            have e6 := fun X : ExtOf (wr.alloc (.cells #[.int .i64 to, .int .i64 kd, .int .u32 q.is.p.toNat, .int .u32 q.is.m.toNat, .bool ng, .int .i64 q.mn, .int .i64 q.mx, .slice q.a q.n q.cap] 161)) => X.cell a1
            by_cases k1 : kd = 1
            · subst k1
              cases hsb : satB s q.is <;> cases ng
              · have hO : Hid (afterRow s (yx.take (j + 1)) A = out) := Lib.hid (by rw [hpn.out, hitB, hkd, hsb, hng]; rfl)
                replace hkd := Lib.hid hkd
                replace hng := Lib.hid hng
                clear hpn
                go_wp2_with fail
                (refine wp_region_qx (by kernel_rfl) (by kernel_rfl) ?_
                 repeat (go_big_quiet_step ((go_at_call 109; exact calls_ext (cbool (sat_any s q.is _ hso hqo) hsb))))
                 refine wpQuiet_nil ?_
                 intro wq hw'
                 have hxq := ext_of_ex hw'
                 clear hw')
                go_wp2_with fail
                (first | exact ⟨⟨j + 1, _, hlt2, by go_num, (ho.kept (Ext.alloc1 _ _)).kept hxq, (hxr.alloc _).trans hxq, hO⟩, (by simp [intOf]; omega)⟩ | (go_roundw; case rel => exact ⟨j + 1, _, hlt2, by go_num, (ho.kept (Ext.alloc1 _ _)).kept hxq, (hxr.alloc _).trans hxq, hO⟩; case measure => exact (by simp [intOf]; omega)))
              · have hO : Hid (afterRow s (yx.take (j + 1)) A = out.set to true) := Lib.hid (by rw [hpn.out, hitB, hkd, hsb, hng]; rfl)
                replace hkd := Lib.hid hkd
                replace hng := Lib.hid hng
                clear hpn
                go_wp2_with fail
                (refine wp_region_qx (by kernel_rfl) (by kernel_rfl) ?_
                 repeat (go_big_quiet_step ((go_at_call 109; exact calls_ext (cbool (sat_any s q.is _ hso hqo) hsb))))
                 refine wpQuiet_nil ?_
                 intro wq hw'
                 have hxq := ext_of_ex hw'
                 clear hw')
                have ho2 := (ho.kept (Ext.alloc1 _ _)).kept hxq
                have hf2 := own_free ho2 to
                have hol := (own_ge ho2).2.2.1
                obtain ⟨bv2, hbv2⟩ : ∃ bv, out[to]? = some bv := ⟨_, List.getElem?_eq_getElem (by omega)⟩
                have hcs2 := own_at BB.len ho2 hbv2 (j := 0) rfl
                rw [Nat.mul_one, Nat.add_zero] at hcs2
                replace hbv2 := Lib.hid hbv2
                have g0 := hxq.cellv d0
                go_wp2_with fail
                (first | exact ⟨⟨j + 1, _, hlt2, by go_num, own_set1 BB.len ho2 (y := true) hton rfl, ext_set ((hxr.alloc _).trans hxq) (own_ge ho).1 _ _, hO⟩, (by simp [intOf]; omega)⟩ | (go_roundw; case rel => exact ⟨j + 1, _, hlt2, by go_num, own_set1 BB.len ho2 (y := true) hton rfl, ext_set ((hxr.alloc _).trans hxq) (own_ge ho).1 _ _, hO⟩; case measure => exact (by simp [intOf]; omega)))
              · have hO : Hid (afterRow s (yx.take (j + 1)) A = out.set to true) := Lib.hid (by rw [hpn.out, hitB, hkd, hsb, hng]; rfl)
                replace hkd := Lib.hid hkd
                replace hng := Lib.hid hng
                clear hpn
                go_wp2_with fail
                (refine wp_region_qx (by kernel_rfl) (by kernel_rfl) ?_
                 repeat (go_big_quiet_step ((go_at_call 109; exact calls_ext (cbool (sat_any s q.is _ hso hqo) hsb))))
                 refine wpQuiet_nil ?_
                 intro wq hw'
                 have hxq := ext_of_ex hw'
                 clear hw')
                have ho2 := (ho.kept (Ext.alloc1 _ _)).kept hxq
                have hf2 := own_free ho2 to
                have hol := (own_ge ho2).2.2.1
                obtain ⟨bv2, hbv2⟩ : ∃ bv, out[to]? = some bv := ⟨_, List.getElem?_eq_getElem (by omega)⟩
                have hcs2 := own_at BB.len ho2 hbv2 (j := 0) rfl
                rw [Nat.mul_one, Nat.add_zero] at hcs2
                replace hbv2 := Lib.hid hbv2
                have g0 := hxq.cellv d0
                go_wp2_with fail
                (first | exact ⟨⟨j + 1, _, hlt2, by go_num, own_set1 BB.len ho2 (y := true) hton rfl, ext_set ((hxr.alloc _).trans hxq) (own_ge ho).1 _ _, hO⟩, (by simp [intOf]; omega)⟩ | (go_roundw; case rel => exact ⟨j + 1, _, hlt2, by go_num, own_set1 BB.len ho2 (y := true) hton rfl, ext_set ((hxr.alloc _).trans hxq) (own_ge ho).1 _ _, hO⟩; case measure => exact (by simp [intOf]; omega)))
              · have hO : Hid (afterRow s (yx.take (j + 1)) A = out) := Lib.hid (by rw [hpn.out, hitB, hkd, hsb, hng]; rfl)
                replace hkd := Lib.hid hkd
                replace hng := Lib.hid hng
                clear hpn
                go_wp2_with fail
                (refine wp_region_qx (by kernel_rfl) (by kernel_rfl) ?_
                 repeat (go_big_quiet_step ((go_at_call 109; exact calls_ext (cbool (sat_any s q.is _ hso hqo) hsb))))
                 refine wpQuiet_nil ?_
                 intro wq hw'
                 have hxq := ext_of_ex hw'
                 clear hw')
                go_wp2_with fail
                (first | exact ⟨⟨j + 1, _, hlt2, by go_num, (ho.kept (Ext.alloc1 _ _)).kept hxq, (hxr.alloc _).trans hxq, hO⟩, (by simp [intOf]; omega)⟩ | (go_roundw; case rel => exact ⟨j + 1, _, hlt2, by go_num, (ho.kept (Ext.alloc1 _ _)).kept hxq, (hxr.alloc _).trans hxq, hO⟩; case measure => exact (by simp [intOf]; omega)))
            · have dk : (kd == 1) = false := by simpa using k1
              have hO : Hid (afterRow s (yx.take (j + 1)) A = out) := Lib.hid (by rw [hpn.out, hitB, hkd, dk]; rfl)
              replace hkd := Lib.hid hkd
              clear hpn
              go_wp2_with fail
              replace hng := Lib.hid hng
              (refine wp_region_qx (by kernel_rfl) (by kernel_rfl) ?_
               repeat (go_big_quiet_step (fail))
               refine wpQuiet_nil ?_
               intro wq hw'
               have hxq := ext_of_ex hw'
               clear hw')
              go_wp2_with fail
              (first | exact ⟨⟨j + 1, _, hlt2, by go_num, (ho.kept (Ext.alloc1 _ _)).kept hxq, (hxr.alloc _).trans hxq, hO⟩, (by simp [intOf]; omega)⟩ | (go_roundw; case rel => exact ⟨j + 1, _, hlt2, by go_num, (ho.kept (Ext.alloc1 _ _)).kept hxq, (hxr.alloc _).trans hxq, hO⟩; case measure => exact (by simp [intOf]; omega)))
          · obtain rfl : j = yn := by omega
            have hO : Hid (afterTo g s bs (i + 1) = out) := Lib.hid (by rw [hnx.out, ← hpl.out, ← hylen.out, List.take_length])
            clear hpl hnx
            go_wp2_with fail
            (first | exact ⟨⟨i + 1, hlt, by go_num, by rw [hO.out]; exact ho, hxr⟩, (by simp [intOf]; omega)⟩ | (go_roundw; case rel => exact ⟨i + 1, hlt, by go_num, by rw [hO.out]; exact ho, hxr⟩; case measure => exact (by simp [intOf]; omega)))
    · obtain rfl : i = n := by omega
      have hR2 : Hid (R = spreadM g (afterTo g s bs i) false false) := Lib.hid (by rw [hR.out, afterM, hbl'.out])
      have hsp := spread_any ws wr hxr a i cap g hgs i S i hok'.out (Nat.le_refl _) hn5 _ ho false false
      clear hR
      go_wp2_with fail
      refine hsp.mono ?_
      rintro e w3 ⟨rfl, ho3, hx3⟩
      rw [← hR2.out] at ho3
      go_wp2_with fail
      go_ret
      have hle := (own_ge ho3).2.2.1
      subst hle
      exact ⟨_, _, rfl, ho3.base hxs.le, hxs.trans hx3⟩
end Go.Proofs.Ytilkemdecenibaa
namespace Go.Proofs.Ytilkemdecenibaa
open Go.RowKit
theorem div24u (x : Nat) : ((x : Int) / 16777216 == 0) = decide (x < 16777216) := by
  rw [Bool.eq_iff_iff]; simp only [beq_iff_eq, decide_eq_true_eq]; omega
theorem patvalid_any (s : Snd) (w : World) :
    Calls Try.prog 117 #[.agg #[.int .u32 s.p.toNat, .int .u32 s.m.toNat]] w fun e w' => e = .returned (.bool s.ok) ∧ Ext w w' := by
  go_enter Try.func117, Try.ntmps117
  go_wp2
  · rename_i h
    go_ret
    exact ⟨ret_bool (by simp only [Snd.ok, h, div24u]; simp), Ext.alloc1 _ _⟩
  · rename_i h
    go_ret
    exact ⟨ret_bool (by simp [Snd.ok, h]), Ext.alloc1 _ _⟩
/-- A node of a pattern is in order. -/
def HP.okB : HP → Bool
  | .mk kd is ng mn mx _ _ _ l =>
    if kd = 1 then is.ok && decide (mn = 0) && decide (mx = 0) && l.isEmpty
    else (is.p == 0#32) && (is.m == 0#32) && (!ng) &&
      if kd = 5 then decide (l.length = 1) && decide (0 ≤ mn) && decide (mn ≤ 32) && (decide (mx = -1) || (decide (mn ≤ mx) && decide (mx ≤ 32)))
      else decide (mn = 0) && decide (mx = 0) && (decide (kd = 3) || decide (kd = 4) || ((decide (kd = 0) || decide (kd = 2) || decide (kd = 6)) && l.isEmpty))
set_option maxHeartbeats 4000000 in
set_option maxRecDepth 20000 in
theorem allowed_any (h : HP) (hok : h.okB = true) (w : World) (hn : h.l.length = h.n) :
    Calls Try.prog 110 #[patV h] w fun e w' => e = .returned (.int .i64 0) ∧ Ext w w' := by
  obtain ⟨kd, is, ng, mn, mx, a, n, cap, l⟩ := h
  change l.length = n at hn
  simp only [HP.okB] at hok
  by_cases k1 : kd = 1
  · subst k1
    simp only [if_true, Bool.and_eq_true, decide_eq_true_eq, List.isEmpty_iff] at hok
    obtain ⟨⟨⟨h1, h2⟩, h3⟩, h4⟩ := hok
    subst h2 h3 h4
    simp at hn
    subst hn
    show Calls Try.prog 110 #[.agg #[.int .i64 1, .int .u32 is.p.toNat, .int .u32 is.m.toNat, .bool ng, .int .i64 0, .int .i64 0, .slice a 0 cap]] w _
    go_enter Try.func110, Try.ntmps110
    go_wp2_with fail
    refine (cbool (patvalid_any is _) h1).mono ?_
    rintro e w1 ⟨rfl, hx1⟩
    go_wp2_with fail
    go_ret
    exact ⟨rfl, (by repeat (first | exact Ext.refl _ | assumption | refine Ext.drew ?_ | refine Ext.drewN ?_ _ | refine Ext.alloc ?_ _ | refine Ext.trans ?_ (by assumption)))⟩
  · rw [if_neg k1] at hok
    simp only [Bool.and_eq_true, beq_iff_eq, Bool.not_eq_true'] at hok
    obtain ⟨⟨⟨e1, e2⟩, e3⟩, hok⟩ := hok
    obtain ⟨p, m⟩ := is
    change p = _ at e1
    change m = _ at e2
    subst e1 e2 e3
    by_cases k5 : kd = 5
    · subst k5
      simp only [if_true, Bool.and_eq_true, decide_eq_true_eq, Bool.or_eq_true] at hok
      obtain ⟨⟨⟨h1, h2⟩, h3⟩, h4⟩ := hok
      rw [h1] at hn
      subst hn
      have m1 : decide (mn < 0) = false := by simp; omega
      have m2 : decide (32 < mn) = false := by simp; omega
      show Calls Try.prog 110 #[.agg #[.int .i64 5, .int .u32 0, .int .u32 0, .bool false, .int .i64 mn, .int .i64 mx, .slice a 1 cap]] w _
      rcases h4 with h4 | ⟨h5, h6⟩
      · subst h4
        go_enter Try.func110, Try.ntmps110
        go_wp2_with fail
        refine (cbool (patvalid_any ⟨0#32, 0#32⟩ _) (b := true) rfl).mono ?_
        rintro e w1 ⟨rfl, hx1⟩
        go_wp2_with fail
        go_ret
        exact ⟨rfl, (by repeat (first | exact Ext.refl _ | assumption | refine Ext.drew ?_ | refine Ext.drewN ?_ _ | refine Ext.alloc ?_ _ | refine Ext.trans ?_ (by assumption)))⟩
      · have m3 : decide (mx < mn) = false := by simp; omega
        have m4 : decide (32 < mx) = false := by simp; omega
        have m5 : (mx == -1) = false := by simp; omega
        go_enter Try.func110, Try.ntmps110
        go_wp2_with fail
        refine (cbool (patvalid_any ⟨0#32, 0#32⟩ _) (b := true) rfl).mono ?_
        rintro e w1 ⟨rfl, hx1⟩
        go_wp2_with fail
        go_ret
        exact ⟨rfl, (by repeat (first | exact Ext.refl _ | assumption | refine Ext.drew ?_ | refine Ext.drewN ?_ _ | refine Ext.alloc ?_ _ | refine Ext.trans ?_ (by assumption)))⟩
    · rw [if_neg k5] at hok
      simp only [Bool.and_eq_true, decide_eq_true_eq, Bool.or_eq_true, List.isEmpty_iff] at hok
      obtain ⟨⟨h1, h2⟩, h3⟩ := hok
      subst h1 h2
      show Calls Try.prog 110 #[.agg #[.int .i64 kd, .int .u32 0, .int .u32 0, .bool false, .int .i64 0, .int .i64 0, .slice a n cap]] w _
      rcases h3 with (h3 | h3) | ⟨h3, h4⟩
      · subst h3
        clear k1 k5
        go_enter Try.func110, Try.ntmps110
        go_wp2_with fail
        refine (cbool (patvalid_any ⟨0#32, 0#32⟩ _) (b := true) rfl).mono ?_
        rintro e w1 ⟨rfl, hx1⟩
        go_wp2_with fail
        go_ret
        exact ⟨rfl, (by repeat (first | exact Ext.refl _ | assumption | refine Ext.drew ?_ | refine Ext.drewN ?_ _ | refine Ext.alloc ?_ _ | refine Ext.trans ?_ (by assumption)))⟩
      · subst h3
        clear k1 k5
        go_enter Try.func110, Try.ntmps110
        go_wp2_with fail
        refine (cbool (patvalid_any ⟨0#32, 0#32⟩ _) (b := true) rfl).mono ?_
        rintro e w1 ⟨rfl, hx1⟩
        go_wp2_with fail
        go_ret
        exact ⟨rfl, (by repeat (first | exact Ext.refl _ | assumption | refine Ext.drew ?_ | refine Ext.drewN ?_ _ | refine Ext.alloc ?_ _ | refine Ext.trans ?_ (by assumption)))⟩
      · subst h4
        simp at hn
        subst hn
        rcases h3 with (h3 | h3) | h3
        · subst h3
          clear k1 k5
          go_enter Try.func110, Try.ntmps110
          go_wp2_with fail
          refine (cbool (patvalid_any ⟨0#32, 0#32⟩ _) (b := true) rfl).mono ?_
          rintro e w1 ⟨rfl, hx1⟩
          go_wp2_with fail
          go_ret
          exact ⟨rfl, (by repeat (first | exact Ext.refl _ | assumption | refine Ext.drew ?_ | refine Ext.drewN ?_ _ | refine Ext.alloc ?_ _ | refine Ext.trans ?_ (by assumption)))⟩
        · subst h3
          clear k1 k5
          go_enter Try.func110, Try.ntmps110
          go_wp2_with fail
          refine (cbool (patvalid_any ⟨0#32, 0#32⟩ _) (b := true) rfl).mono ?_
          rintro e w1 ⟨rfl, hx1⟩
          go_wp2_with fail
          go_ret
          exact ⟨rfl, (by repeat (first | exact Ext.refl _ | assumption | refine Ext.drew ?_ | refine Ext.drewN ?_ _ | refine Ext.alloc ?_ _ | refine Ext.trans ?_ (by assumption)))⟩
        · subst h3
          clear k1 k5
          go_enter Try.func110, Try.ntmps110
          go_wp2_with fail
          refine (cbool (patvalid_any ⟨0#32, 0#32⟩ _) (b := true) rfl).mono ?_
          rintro e w1 ⟨rfl, hx1⟩
          go_wp2_with fail
          go_ret
          exact ⟨rfl, (by repeat (first | exact Ext.refl _ | assumption | refine Ext.drew ?_ | refine Ext.drewN ?_ _ | refine Ext.alloc ?_ _ | refine Ext.trans ?_ (by assumption)))⟩
end Go.Proofs.Ytilkemdecenibaa
