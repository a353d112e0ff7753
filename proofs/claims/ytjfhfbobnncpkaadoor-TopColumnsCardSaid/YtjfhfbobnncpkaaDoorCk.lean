/-
  The reference's check of lists of correspondences.
-/
import Derived.Test.YtjfhfbobnncpkaaDoorCa
import Derived.Test.YtjfhfbobnncpkaaDoorApp
namespace Go.Proofs.YtjfhfbobnncpkaaDoor
open Go.RowKit
theorem info_corr : (Tryd.prog.info? 45).map (fun i => (i.zero, i.size, i.bytes)) = some (some (.agg #[.slice none 0 0, .int .i64 0]), 2, 32) := by kernel_rfl
theorem len_int' {k : Nat} {α : Type} {enc : α → List Value} {w : World} {a : Option Addr} {n cap : Nat} {xs : List α} (h : RdK k enc w a n cap xs) : n ≤ 9223372036854775807 := by
  have := h.le; have := h.most; unfold maxLen at this; omega
theorem corB_head {l : List HCo} {y0 : HCo} (h : l[0]? = some y0) : widH l = y0.n := by
  cases l with
  | nil => simp at h
  | cons a t => simp at h; subst h; rfl
theorem manyB_len {l : List HCo} (h : manyB l = false) : l.length ≤ 4096 := by
  unfold manyB at h
  simp at h
  omega
/-- append of a list of correspondences, their cells elsewhere. -/
theorem RdH.app {w : World} {a : Option Addr} {n cap : Nat} {hs : List HCo} (h : RdK 2 HCo.enc w a n cap hs) (ho : ∀ y ∈ hs, RdC w y.a y.n y.cap y.x) : RdH w a n cap hs := ⟨h, ho⟩
end Go.Proofs.YtjfhfbobnncpkaaDoor
