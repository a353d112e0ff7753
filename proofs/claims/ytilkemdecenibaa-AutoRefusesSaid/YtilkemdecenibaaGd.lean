/-
  Build, by the facts of an automaton; Build that refuses.
-/
import Derived.Test.YtilkemdecenibaaGa
import Derived.Test.YtilkemdecenibaaNg
namespace Go.Proofs.Ytilkemdecenibaa
open Go.RowKit Go.Maps
theorem built_any {h : HP} {xs : List Snd} {A : Au} (hB : Built h xs A) {w : World} {sa : Option Addr} {n sc : Nat} (hP : RdPt w h) (hS : RdS w sa n sc xs) : Calls Try.prog 35 #[patV h, .slice sa n sc] w (RetBu A w) := by
  obtain ⟨o1, o2, o3, g, goal, N, J, A0, p1, p2, p3, p4, p5, p6, p7, p8, p9, p10, rfl⟩ := hB
  exact build_any h o1 o2 sa n sc xs w hP hS o3 g goal p1 p2 p3 p4 p5 N J p6 p7 A0 p8 p9 p10
theorem buildR_any {h : HP} (hok : h.allB = true) (hcnt : h.cnt ≤ 40) {sa : Option Addr} {n sc : Nat} {xs : List Snd} {w : World} (hr : RdPt w h) (hs : RdS w sa n sc xs) {r : Int} (he : refE (wid h) xs = r) (h0 : r ≠ 0) :
    Calls Try.prog 35 #[patV h, .slice sa n sc] w (RetEr r w) := by
  have hxB : Ext w (w.alloc (.cells #[.int .i64 h.kind, .int .u32 h.is.p.toNat, .int .u32 h.is.m.toNat, .bool h.neg, .int .i64 h.mn, .int .i64 h.mx, .slice h.a h.n h.cap] 27)) := Ext.alloc1 _ _
  have href := fun W (hx : Ext w W) => refused_any h hok hcnt sa n sc xs W (hr.ext hx) (hs.ext hx)
  rw [he] at href
  have d0 : (r != 0) = true := by simpa using h0
  have d1 : (r == 0) = false := by simpa using h0
  replace hok := Lib.hid hok
  replace he := Lib.hid he
  replace hcnt := Lib.hid hcnt
  clear hr hs
  go_enter Try.func35, Try.ntmps35
  go_wp2_with fail
  refine (href _ hxB).mono ?_
  rintro e w1 ⟨rfl, hx1⟩
  go_wp2_with fail
  go_ret2
  exact ⟨rfl, hxB.trans hx1⟩
end Go.Proofs.Ytilkemdecenibaa
