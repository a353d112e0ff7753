/-
  Arguments opened (TopRegular): words, lists of forms, entries, nodes, patterns, laws, a history; the table of bits off the row's condition; the door's own heap.
-/
import Derived.Test.YtadncjpknckaaaaGreatDoorA32
import Derived.Deep.SlicePairs
import Derived.Deep.Slices
import Derived.Deep.Strs
import Derived.Lib.SmallJoins
import Derived.Lib.LaidTab
import Derived.ProofKit
import Derived.ChangeSame
import Derived.Lay
import Derived.LaidMore
import Derived.LaidSub
import Derived.SizedLaws
import Derived.OpenShut
import Derived.Stop.Joined
import Derived.Test.YtadncjpknckaaaaGreatDoorRows
namespace Go.Proofs.YtadncjpknckaaaaGreatDoor
open Go.ChangeShapes Go.WideShapes Go.ChangeAt Go.RowKit
theorem own : ownKnob Tryz.prog.godebug = none := by kernel_rfl
theorem laidOut : laidOutB Tryz.prog = true := by kernel_rfl
theorem addr_of {w : World} {x : Addr} {V : Value} (h : w.cell? (x.add 0) = some V) : ∃ b o, x = ⟨b, o, none⟩ := by
  obtain ⟨b, o, s⟩ := x
  have hs : s = none := by simpa [Addr.add] using World.cell?_spot h
  exact ⟨b, o, by rw [hs]⟩
theorem add_none (b o j : Nat) : (⟨b, o, none⟩ : Addr).add j = ⟨b, o + j, none⟩ := by
  unfold Addr.add
  by_cases hj : j = 0 <;> simp [hj]
theorem u32_of {n : Int} (h : (Lit.int .u32 n).wf = true) : ∃ x : BitVec 32, n = (x.toNat : Int) := by
  have := bounds_u32 h
  exact ⟨BitVec.ofNat 32 n.toNat, by simp; omega⟩
/-- A list is read off its cells. -/
theorem rdk_of {α : Type} [Inhabited α] {k : Nat} {enc : α → List Value} (Q : α → Prop) {w : World} {x : Addr} {n cap : Nat} (hl : n ≤ cap) (hm : cap ≤ maxLen) (hk : ∀ y, ∃ u, (enc y)[0]? = some u)
    (each : ∀ i, i < n → ∃ y : α, (∀ j u, (enc y)[j]? = some u → w.cell? (x.add (i * k + j)) = some u) ∧ Q y) : ∃ xs, RdK k enc w (some x) n cap xs ∧ ∀ y ∈ xs, Q y := by
  obtain ⟨f, hf⟩ := Go.Deep.choose_lt (p := fun i (y : α) => (∀ j u, (enc y)[j]? = some u → w.cell? (x.add (i * k + j)) = some u) ∧ Q y) each
  refine ⟨(List.range n).map f, ⟨by simp, hl, hm, fun h => by simp at h, fun hn => ?_⟩, fun y hy => ?_⟩
  · obtain ⟨u0, hu0⟩ := hk (f 0)
    have h0 := (hf 0 hn).1 0 u0 hu0
    rw [Nat.zero_mul] at h0
    obtain ⟨b, o, rfl⟩ := addr_of h0
    simp only [add_none] at hf h0
    refine ⟨b, o, rfl, cell_lt h0, fun i s hi j u hu => ?_⟩
    have hlt : i < n := by have := (List.getElem?_eq_some_iff.1 hi).1; simpa using this
    have hs : f i = s := by simpa [hlt] using hi
    subst hs
    rw [Nat.add_assoc]
    exact (hf i hlt).1 j u hu
  · obtain ⟨i, hi, rfl⟩ := List.mem_map.1 hy
    exact (hf i (List.mem_range.1 hi)).2
/-- What one element of a slice reads as, told of each reading of less fuel: so a list. -/
theorem open_rows {H : Type} {enc : TypeId × Value → H} {w : World} {α : Type} [Inhabited α] {k : Nat} (en : α → List Value) (Q : α → Prop) {t e : TypeId} (ht : Tryz.prog.underlying t = some (.slice e)) (hc : Tryz.prog.cellsOf e = k) (hk : ∀ y, ∃ u, (en y)[0]? = some u)
    {fuel : Nat} {a : Option Addr} {n cap : Nat} {x : DataW H × List MemPlace} (h : DataW.trod enc Tryz.prog w 0 (fun _ => true) true fuel t [.slice a n cap] = some x)
    (each : ∀ (m : Nat) (cs : List Value) (y : DataW H × List MemPlace), m < fuel → cs.length = k → DataW.trod enc Tryz.prog w 0 (fun _ => true) true m e cs = some y → ∃ z : α, cs = en z ∧ Q z) : ∃ xs, RdK k en w a n cap xs ∧ ∀ z ∈ xs, Q z := by
  subst hc
  rcases DataW.trod_slice ht h with ⟨hcs, _⟩ | ⟨b, len, cap', elems, rest, m, hfu, hcs, _, _, hl, hm, hlen, hall, _⟩
  · simp at hcs
    obtain ⟨rfl, rfl, rfl⟩ := hcs
    exact ⟨[], RdK.nilS w, fun x hx => by simp at hx⟩
  · simp at hcs
    obtain ⟨rfl, rfl, rfl⟩ := hcs
    refine rdk_of Q hl hm hk fun i hi => ?_
    have hi' := hall i hi
    have hlt : i < elems.length := by omega
    rw [List.getElem?_eq_getElem hlt, Option.bind_eq_some_iff] at hi'
    obtain ⟨cs, h1, h2⟩ := hi'
    obtain ⟨_, hcl, hcell⟩ := World.cells?_some h1
    obtain ⟨z, rfl, hz⟩ := each m cs _ (by omega) hcl h2
    refine ⟨z, fun j u hu => ?_, hz⟩
    have hj := (List.getElem?_eq_some_iff.1 hu).1
    have := hcell j (by omega)
    rw [Go.Deep.add_add] at this
    rw [this, hu]
theorem slice_of {H : Type} {enc : TypeId × Value → H} {w : World} {t e : TypeId} (ht : Tryz.prog.underlying t = some (.slice e)) {n : Nat} {v : Value} {y : DataW H × List MemPlace} (h : DataW.trod enc Tryz.prog w 0 (fun _ => true) true n t [v] = some y) :
    ∃ a l c, v = .slice a l c := by
  rcases Go.Deep.open_slice ht h with ⟨hcs, _⟩ | ⟨a, len, cap, m, n', D, Pl, hcs, _⟩ <;> (simp only [List.cons.injEq, and_true] at hcs; exact ⟨_, _, _, hcs⟩)
def Trodn {H : Type} (enc : TypeId × Value → H) (w : World) (n : Nat) (t : TypeId) (cs : List Value) : Prop := ∃ y, DataW.trod enc Tryz.prog w 0 (fun _ => true) true n t cs = some y
/-- A struct's fields, each with its cells. -/
theorem flds {H : Type} {enc : TypeId × Value → H} {w : World} {fs : Array Field} {t : TypeId} {n : Nat} {cs : List Value} (ht : Tryz.prog.underlying t = some (.struct fs)) (h : Trodn enc w n t cs) :
    ∃ m, n = m + 1 ∧ ∀ (i : Nat) (f : Field), fs[i]? = some f → Trodn enc w m f.type ((cs.drop f.offset).take (Tryz.prog.cellsOf f.type)) := by
  obtain ⟨y, h⟩ := h
  obtain ⟨xs, m, hm, _, _, hlen, hf⟩ := DataW.trod_struct ht h
  refine ⟨m, hm, fun i f hi => ?_⟩
  have hlt : i < xs.length := by rw [hlen]; exact (Array.getElem?_eq_some_iff.1 hi).1
  exact ⟨xs[i], by rw [hf i f hi]; exact List.getElem?_eq_getElem hlt⟩
theorem int_of {H : Type} {enc : TypeId × Value → H} {w : World} {k : IntKind} {t : TypeId} {n : Nat} {v : Value} (ht : Tryz.prog.underlying t = some (.int k)) (h : Trodn enc w n t [v]) : ∃ z, v = .int k z ∧ (Lit.int k z).wf = true := by
  obtain ⟨y, h⟩ := h
  obtain ⟨z, e, _, hw⟩ := DataW.trod_int ht h
  simp only [List.cons.injEq, and_true] at e
  exact ⟨z, e, hw⟩
theorem bit_of {H : Type} {enc : TypeId × Value → H} {w : World} {t : TypeId} {n : Nat} {v : Value} (ht : Tryz.prog.underlying t = some (.int .u32)) (h : Trodn enc w n t [v]) : ∃ z : BitVec 32, v = .int .u32 z.toNat := by
  obtain ⟨z, rfl, hw⟩ := int_of ht h
  obtain ⟨b, rfl⟩ := u32_of hw
  exact ⟨b, rfl⟩
theorem bool_of {H : Type} {enc : TypeId × Value → H} {w : World} {t : TypeId} {n : Nat} {v : Value} (ht : Tryz.prog.underlying t = some .bool) (h : Trodn enc w n t [v]) : ∃ z, v = .bool z := by
  obtain ⟨y, h⟩ := h
  obtain ⟨z, e, _⟩ := DataW.trod_bool ht h
  simp only [List.cons.injEq, and_true] at e
  exact ⟨z, e⟩
theorem str_of {H : Type} {enc : TypeId × Value → H} {w : World} {t : TypeId} {n : Nat} {v : Value} (ht : Tryz.prog.underlying t = some .string) (h : Trodn enc w n t [v]) : ∃ z, v = .string z ∧ z.size ≤ maxLen := by
  obtain ⟨y, h⟩ := h
  obtain ⟨z, e, _, hw⟩ := DataW.trod_string ht h
  simp only [List.cons.injEq, and_true] at e
  exact ⟨z, e, hw⟩
theorem sl_of {H : Type} {enc : TypeId × Value → H} {w : World} {t e : TypeId} {n : Nat} {v : Value} (ht : Tryz.prog.underlying t = some (.slice e)) (h : Trodn enc w n t [v]) : ∃ a l c, v = .slice a l c := by
  obtain ⟨y, h⟩ := h
  exact slice_of ht h
theorem lone {α : Type} {l : List α} (h : l.length = 1) : ∃ a, l = [a] := by
  match l, h with
  | [a], _ => exact ⟨a, rfl⟩
theorem ltwo {α : Type} {l : List α} (h : l.length = 2) : ∃ a b, l = [a, b] := by
  match l, h with
  | [a, b], _ => exact ⟨a, b, rfl⟩
theorem lsix {α : Type} {l : List α} (h : l.length = 6) : ∃ a b c d e f, l = [a, b, c, d, e, f] := by
  match l, h with
  | [a, b, c, d, e, f], _ => exact ⟨a, b, c, d, e, f, rfl⟩
theorem lseven {α : Type} {l : List α} (h : l.length = 7) : ∃ a b c d e f g, l = [a, b, c, d, e, f, g] := by
  match l, h with
  | [a, b, c, d, e, f, g], _ => exact ⟨a, b, c, d, e, f, g, rfl⟩
theorem leighteen {α : Type} {l : List α} (h : l.length = 18) : ∃ a b c d e f g h' i j k m n o p q r s, l = [a, b, c, d, e, f, g, h', i, j, k, m, n, o, p, q, r, s] := by
  match l, h with
  | [a, b, c, d, e, f, g, h', i, j, k, m, n, o, p, q, r, s], _ => exact ⟨a, b, c, d, e, f, g, h', i, j, k, m, n, o, p, q, r, s, rfl⟩
theorem c_int : Tryz.prog.cellsOf 3 = 1 := by kernel_rfl
theorem c_bool : Tryz.prog.cellsOf 4 = 1 := by kernel_rfl
theorem c_str : Tryz.prog.cellsOf 9 = 1 := by kernel_rfl
theorem c_u32 : Tryz.prog.cellsOf 50 = 1 := by kernel_rfl
theorem c_snd : Tryz.prog.cellsOf 52 = 2 := by kernel_rfl
theorem c_snds : Tryz.prog.cellsOf 40 = 1 := by kernel_rfl
theorem c_forms : Tryz.prog.cellsOf 27 = 1 := by kernel_rfl
theorem c_pat : Tryz.prog.cellsOf 55 = 7 := by kernel_rfl
theorem c_pats : Tryz.prog.cellsOf 53 = 1 := by kernel_rfl
theorem c_outs : Tryz.prog.cellsOf 56 = 1 := by kernel_rfl
theorem c_out : Tryz.prog.cellsOf 122 = 6 := by kernel_rfl
theorem c_law : Tryz.prog.cellsOf 58 = 18 := by kernel_rfl
theorem c_laws : Tryz.prog.cellsOf 23 = 1 := by kernel_rfl
theorem c_nodes : Tryz.prog.cellsOf 22 = 1 := by kernel_rfl
theorem c_node : Tryz.prog.cellsOf 60 = 2 := by kernel_rfl
theorem c_form : Tryz.prog.cellsOf 42 = 2 := by kernel_rfl
theorem c_entry : Tryz.prog.cellsOf 39 = 2 := by kernel_rfl
theorem c_ints : Tryz.prog.cellsOf 35 = 1 := by kernel_rfl
theorem c_intss : Tryz.prog.cellsOf 24 = 1 := by kernel_rfl
theorem c_hist : Tryz.prog.cellsOf 26 = 3 := by kernel_rfl
theorem snd_of {H : Type} {enc : TypeId × Value → H} {w : World} {n : Nat} {v0 v1 : Value} (h : Trodn enc w n 52 [v0, v1]) : ∃ s : Snd, v0 = .int .u32 s.p.toNat ∧ v1 = .int .u32 s.m.toNat := by
  obtain ⟨m, rfl, hf⟩ := flds Tryz.underlying52 h
  have f0 := hf 0 _ rfl
  have f1 := hf 1 _ rfl
  simp [c_u32] at f0 f1
  obtain ⟨p, rfl⟩ := bit_of Tryz.underlying50 f0
  obtain ⟨q, rfl⟩ := bit_of Tryz.underlying50 f1
  exact ⟨⟨p, q⟩, rfl, rfl⟩
instance : Inhabited Snd := ⟨⟨0, 0⟩⟩
instance : Inhabited HP := ⟨.mk 0 ⟨0, 0⟩ false 0 0 none 0 0 []⟩
instance : Inhabited Ou := ⟨⟨0, 0, ⟨0, 0⟩, 0, 0⟩⟩
instance : Inhabited HL := ⟨⟨ByteArray.empty, default, default, none, 0, [], none, 0, [], 0⟩⟩
instance : Inhabited Nd := ⟨⟨0, ByteArray.empty⟩⟩
instance : Inhabited Fm := ⟨⟨false, none, 0, 0, []⟩⟩
instance : Inhabited En := ⟨⟨ByteArray.empty, none, 0, 0, []⟩⟩
instance : Inhabited Pl := ⟨⟨none, 0, 0, []⟩⟩
theorem open_words {H : Type} {enc : TypeId × Value → H} {w : World} {n : Nat} {a : Option Addr} {l c : Nat} (h : Trodn enc w n 40 [.slice a l c]) : ∃ xs, RdS w a l c xs := by
  obtain ⟨y, h⟩ := h
  obtain ⟨xs, hx, _⟩ := open_rows Snd.enc (fun _ => True) Tryz.underlying40 c_snd (fun _ => ⟨_, rfl⟩) h (fun m cs y _ hl hy => by
    obtain ⟨v0, v1, rfl⟩ := ltwo hl
    obtain ⟨s, rfl, rfl⟩ := snd_of ⟨y, hy⟩
    exact ⟨s, rfl, trivial⟩)
  exact ⟨xs, hx⟩
theorem open_forms {H : Type} {enc : TypeId × Value → H} {w : World} {n : Nat} {a : Option Addr} {l c : Nat} (h : Trodn enc w n 27 [.slice a l c]) : ∃ xs, RdFs w a l c xs := by
  obtain ⟨y, h⟩ := h
  obtain ⟨xs, hx, hq⟩ := open_rows Fm.enc (fun f => RdS w f.a f.n f.cap f.ws) Tryz.underlying27 c_form (fun _ => ⟨_, rfl⟩) h (fun m cs y _ hl hy => by
    obtain ⟨v0, v1, rfl⟩ := ltwo hl
    obtain ⟨m, rfl, hf⟩ := flds Tryz.underlying42 ⟨y, hy⟩
    have f0 := hf 0 _ rfl
    have f1 := hf 1 _ rfl
    simp [c_bool, c_snds] at f0 f1
    obtain ⟨b, rfl⟩ := bool_of Tryz.underlying4 f0
    obtain ⟨a, l, c, rfl⟩ := sl_of Tryz.underlying40 f1
    obtain ⟨xs, hx⟩ := open_words f1
    exact ⟨⟨b, a, l, c, xs⟩, rfl, hx⟩)
  exact ⟨xs, hx, hq⟩
theorem open_entries {H : Type} {enc : TypeId × Value → H} {w : World} {n : Nat} {a : Option Addr} {l c : Nat} (h : Trodn enc w n 28 [.slice a l c]) : ∃ xs, RdEs w a l c xs := by
  obtain ⟨y, h⟩ := h
  obtain ⟨xs, hx, hq⟩ := open_rows En.enc (fun f => RdFs w f.a f.n f.cap f.fs ∧ f.name.size ≤ maxLen) Tryz.underlying28 c_entry (fun _ => ⟨_, rfl⟩) h (fun m cs y _ hl hy => by
    obtain ⟨v0, v1, rfl⟩ := ltwo hl
    obtain ⟨m, rfl, hf⟩ := flds Tryz.underlying39 ⟨y, hy⟩
    have f0 := hf 0 _ rfl
    have f1 := hf 1 _ rfl
    simp [c_str, c_forms] at f0 f1
    obtain ⟨b, rfl, hb⟩ := str_of Tryz.underlying9 f0
    obtain ⟨a, l, c, rfl⟩ := sl_of Tryz.underlying27 f1
    obtain ⟨xs, hx⟩ := open_forms f1
    exact ⟨⟨b, a, l, c, xs⟩, rfl, hx, hb⟩)
  exact ⟨xs, hx, fun x h => (hq x h).1, fun x h => (hq x h).2⟩
theorem open_nodes {H : Type} {enc : TypeId × Value → H} {w : World} {n : Nat} {a : Option Addr} {l c : Nat} (h : Trodn enc w n 22 [.slice a l c]) : ∃ xs, RdN w a l c xs := by
  obtain ⟨y, h⟩ := h
  obtain ⟨xs, hx, hq⟩ := open_rows Nd.enc (fun y => y.name.size ≤ maxLen) Tryz.underlying22 c_node (fun _ => ⟨_, rfl⟩) h (fun m cs y _ hl hy => by
    obtain ⟨v0, v1, rfl⟩ := ltwo hl
    obtain ⟨m, rfl, hf⟩ := flds Tryz.underlying60 ⟨y, hy⟩
    have f0 := hf 0 _ rfl
    have f1 := hf 1 _ rfl
    simp [c_str, c_int] at f0 f1
    obtain ⟨z, rfl, _⟩ := int_of Tryz.underlying3 f0
    obtain ⟨b, rfl, hb⟩ := str_of Tryz.underlying9 f1
    exact ⟨⟨z, b⟩, rfl, hb⟩)
  exact ⟨xs, hx, hq⟩
theorem open_ints1 {H : Type} {enc : TypeId × Value → H} {w : World} {n : Nat} {a : Option Addr} {l c : Nat} (h : Trodn enc w n 35 [.slice a l c]) : ∃ xs, RdI w a l c xs := by
  obtain ⟨y, h⟩ := h
  obtain ⟨xs, hx, _⟩ := open_rows I64.enc (fun _ => True) Tryz.underlying35 c_int (fun _ => ⟨_, rfl⟩) h (fun m cs y _ hl hy => by
    obtain ⟨v0, rfl⟩ := lone hl
    obtain ⟨z, rfl, _⟩ := int_of Tryz.underlying3 ⟨y, hy⟩
    exact ⟨z, rfl, trivial⟩)
  exact ⟨xs, hx⟩
theorem open_pls {H : Type} {enc : TypeId × Value → H} {w : World} {n : Nat} {a : Option Addr} {l c : Nat} (h : Trodn enc w n 24 [.slice a l c]) : ∃ xs, RdPls w a l c xs := by
  obtain ⟨y, h⟩ := h
  obtain ⟨xs, hx, hq⟩ := open_rows Pl.enc (fun p => RdI w p.a p.n p.cap p.xs) Tryz.underlying24 c_ints (fun _ => ⟨_, rfl⟩) h (fun m cs y _ hl hy => by
    obtain ⟨v0, rfl⟩ := lone hl
    obtain ⟨a, l, c, rfl⟩ := sl_of Tryz.underlying35 ⟨y, hy⟩
    obtain ⟨xs, hx⟩ := open_ints1 ⟨y, hy⟩
    exact ⟨⟨a, l, c, xs⟩, rfl, hx⟩)
  exact ⟨xs, hx, hq⟩
theorem open_outs {H : Type} {enc : TypeId × Value → H} {w : World} {n : Nat} {a : Option Addr} {l c : Nat} (h : Trodn enc w n 56 [.slice a l c]) : ∃ xs, RdK 6 Ou.enc w a l c xs := by
  obtain ⟨y, h⟩ := h
  obtain ⟨xs, hx, _⟩ := open_rows Ou.enc (fun _ => True) Tryz.underlying56 c_out (fun _ => ⟨_, rfl⟩) h (fun m cs y _ hl hy => by
    obtain ⟨v0, v1, v2, v3, v4, v5, rfl⟩ := lsix hl
    obtain ⟨m, rfl, hf⟩ := flds Tryz.underlying122 ⟨y, hy⟩
    have f0 := hf 0 _ rfl
    have f1 := hf 1 _ rfl
    have f2 := hf 2 _ rfl
    have f3 := hf 3 _ rfl
    have f4 := hf 4 _ rfl
    simp [c_int, c_u32, c_snd] at f0 f1 f2 f3 f4
    obtain ⟨z, rfl, _⟩ := int_of Tryz.underlying3 f0
    obtain ⟨b1, rfl⟩ := bit_of Tryz.underlying50 f1
    obtain ⟨s, rfl, rfl⟩ := snd_of f2
    obtain ⟨b2, rfl⟩ := bit_of Tryz.underlying50 f3
    obtain ⟨z4, rfl, _⟩ := int_of Tryz.underlying3 f4
    exact ⟨⟨z, b1, s, b2, z4⟩, rfl, trivial⟩)
  exact ⟨xs, hx⟩
/-- A pattern but for its list. -/
theorem pat_of {H : Type} {enc : TypeId × Value → H} {w : World} {n : Nat} {cs : List Value} (hl : cs.length = 7) (h : Trodn enc w n 55 cs) :
    ∃ k s b m1 m2 a l c m, m < n ∧ (∀ L, cs = HP.enc (.mk k s b m1 m2 a l c L)) ∧ Trodn enc w m 53 [.slice a l c] := by
  obtain ⟨v0, v1, v2, v3, v4, v5, v6, rfl⟩ := lseven hl
  obtain ⟨m, rfl, hf⟩ := flds Tryz.underlying55 h
  have f0 := hf 0 _ rfl
  have f1 := hf 1 _ rfl
  have f2 := hf 2 _ rfl
  have f3 := hf 3 _ rfl
  have f4 := hf 4 _ rfl
  have f5 := hf 5 _ rfl
  simp [c_int, c_bool, c_pats, c_snd] at f0 f1 f2 f3 f4 f5
  obtain ⟨z, rfl, _⟩ := int_of Tryz.underlying3 f0
  obtain ⟨s, rfl, rfl⟩ := snd_of f1
  obtain ⟨b, rfl⟩ := bool_of Tryz.underlying4 f2
  obtain ⟨z3, rfl, _⟩ := int_of Tryz.underlying3 f3
  obtain ⟨z4, rfl, _⟩ := int_of Tryz.underlying3 f4
  obtain ⟨a, l, c, rfl⟩ := sl_of Tryz.underlying53 f5
  exact ⟨z, s, b, z3, z4, a, l, c, m, by omega, fun _ => rfl, f5⟩
theorem open_patl {H : Type} {enc : TypeId × Value → H} {w : World} : ∀ (k n : Nat) {a : Option Addr} {l c : Nat}, n ≤ k → Trodn enc w n 53 [.slice a l c] → ∃ xs, RdK 7 HP.enc w a l c xs ∧ ∀ x ∈ xs, RdPt w x := fun k => by
  induction k with
  | zero =>
    intro n a l c hn ⟨y, h⟩
    obtain rfl : n = 0 := by omega
    simp [DataW.trod] at h
  | succ k ih =>
    intro n a l c hn ⟨y, h⟩
    exact open_rows HP.enc (fun x => RdPt w x) Tryz.underlying53 c_pat (fun _ => ⟨_, rfl⟩) h (fun m cs y hm hl hy => by
      obtain ⟨z, s, b, m1, m2, a', l', c', m', hm', he, ht⟩ := pat_of hl ⟨y, hy⟩
      obtain ⟨xs, h1, h2⟩ := ih m' (by omega) ht
      exact ⟨.mk z s b m1 m2 a' l' c' xs, he xs, RdPt.mk' h1 h2⟩)
theorem open_pat {H : Type} {enc : TypeId × Value → H} {w : World} {n : Nat} {cs : List Value} (hl : cs.length = 7) (h : Trodn enc w n 55 cs) : ∃ x : HP, cs = HP.enc x ∧ RdPt w x := by
  obtain ⟨z, s, b, m1, m2, a', l', c', m', hm', he, ht⟩ := pat_of hl h
  obtain ⟨xs, h1, h2⟩ := open_patl m' m' (Nat.le_refl _) ht
  exact ⟨.mk z s b m1 m2 a' l' c' xs, he xs, RdPt.mk' h1 h2⟩
theorem open_laws {H : Type} {enc : TypeId × Value → H} {w : World} {n : Nat} {a : Option Addr} {l c : Nat} (h : Trodn enc w n 23 [.slice a l c]) : ∃ xs, RdLws w a l c xs := by
  obtain ⟨y, h⟩ := h
  obtain ⟨xs, hx, hq⟩ := open_rows HL.enc (fun L => RdLw w L) Tryz.underlying23 c_law (fun _ => ⟨_, rfl⟩) h (fun m cs y _ hl hy => by
    obtain ⟨v0, v1, v2, v3, v4, v5, v6, v7, v8, v9, v10, v11, v12, v13, v14, v15, v16, v17, rfl⟩ := leighteen hl
    obtain ⟨m, rfl, hf⟩ := flds Tryz.underlying58 ⟨y, hy⟩
    have f0 := hf 0 _ rfl
    have f1 := hf 1 _ rfl
    have f2 := hf 2 _ rfl
    have f3 := hf 3 _ rfl
    have f4 := hf 4 _ rfl
    have f5 := hf 5 _ rfl
    simp [c_int, c_str, c_pat, c_snds, c_outs] at f0 f1 f2 f3 f4 f5
    obtain ⟨nm, rfl, _⟩ := str_of Tryz.underlying9 f0
    obtain ⟨L, hL, hL'⟩ := open_pat rfl f1
    obtain ⟨R, hR, hR'⟩ := open_pat rfl f2
    obtain ⟨ai, li, ci, rfl⟩ := sl_of Tryz.underlying40 f3
    obtain ⟨ifs, hi⟩ := open_words f3
    obtain ⟨ao, lo, co, rfl⟩ := sl_of Tryz.underlying56 f4
    obtain ⟨outs, ho⟩ := open_outs f4
    obtain ⟨z, rfl, _⟩ := int_of Tryz.underlying3 f5
    obtain rfl : ifs.length = li := hi.len
    obtain rfl : outs.length = lo := ho.len
    refine ⟨⟨nm, L, R, ai, ci, ifs, ao, co, outs, z⟩, ?_, ⟨hL', hR', hi, ho⟩⟩
    simp only [HL.enc]
    rw [← hL, ← hR]
    rfl)
  exact ⟨xs, hx, hq⟩
set_option maxRecDepth 100000 in
/-- A history that came in by value. -/
theorem open_hist {H : Type} {enc : TypeId × Value → H} {w : World} {r : Reach} {b0 : Nat} {v : Value} {d : DataW H} {p : List MemPlace} (hval : Value.okWide Tryz.prog w r b0 26 v)
    (h : DataW.Trod enc Tryz.prog w 0 (fun _ => true) true 26 v d p) : ∃ x : HH, v = x.v ∧ RdH w x := by
  obtain ⟨vs, rfl, hsz⟩ := okWide_struct Tryz.underlying26 hval
  obtain ⟨v0, v1, v2, rfl⟩ : ∃ v0 v1 v2, vs = #[v0, v1, v2] := by
    obtain ⟨l⟩ := vs
    match l, hsz.trans c_hist with
    | [a, b, c], _ => exact ⟨a, b, c, rfl⟩
  obtain ⟨n, h⟩ := h
  obtain ⟨m, rfl, hf⟩ := flds Tryz.underlying26 (show Trodn enc w n 26 [v0, v1, v2] from ⟨_, by simpa [Value.cells] using h⟩)
  have f0 := hf 0 _ rfl
  have f1 := hf 1 _ rfl
  have f2 := hf 2 _ rfl
  simp [c_nodes, c_laws, c_intss] at f0 f1 f2
  obtain ⟨a0, l0, c0, rfl⟩ := sl_of Tryz.underlying22 f0
  obtain ⟨a1, l1, c1, rfl⟩ := sl_of Tryz.underlying23 f1
  obtain ⟨a2, l2, c2, rfl⟩ := sl_of Tryz.underlying24 f2
  obtain ⟨ts, ht⟩ := open_nodes f0
  obtain ⟨ls, hl⟩ := open_laws f1
  obtain ⟨ps, hp⟩ := open_pls f2
  exact ⟨⟨a0, l0, c0, ts, a1, l1, c1, ls, a2, l2, c2, ps⟩, rfl, ⟨ht, hl, hp⟩⟩
theorem trodn_of {H : Type} {enc : TypeId × Value → H} {w : World} {t : TypeId} {a : Option Addr} {l c : Nat} {d : DataW H} {p : List MemPlace} (h : DataW.Trod enc Tryz.prog w 0 (fun _ => true) true t (.slice a l c) d p) : ∃ n, Trodn enc w n t [.slice a l c] := by
  obtain ⟨n, h⟩ := h
  exact ⟨n, _, by simpa [Value.cells] using h⟩
/-! ### The table, and the door's own heap -/
theorem gTab : Tryz.prog.globalNamed "math/bits.deBruijn64tab" = some 2 := by kernel_rfl
theorem gTabT : (Tryz.prog.globals[2]?).map (·.type) = some 202 := by kernel_rfl
set_option maxRecDepth 100000 in
theorem tabZ : ∀ j, j < 64 → (Lib.deBruijn64tab.map Int.ofNat).getD j 0 = ((Lib.deBruijn64tab.getD j 0 : Nat) : Int) := by decide +kernel
set_option maxRecDepth 100000 in
theorem laidTab_eq : (Rows.laid_math_bits_deBruijn64tab : DataW Unit) = Lib.tabData .u8 (Lib.deBruijn64tab.map Int.ofNat) := by rfl
abbrev laidL : List (String × DataW Unit) := [("math/bits.deBruijn64tab", Rows.laid_math_bits_deBruijn64tab), ("unicode/utf8.acceptRanges", Rows.laid_unicode_utf8_acceptRanges), ("unicode/utf8.first", Rows.laid_unicode_utf8_first)]
theorem tab_ok {W : World} (h : laidMetH Tryz.prog laidL W) : Tab64 W := by
  rw [MakeChecks.laidMetH_plain _ _ _ (by kernel_rfl), laidL, laidTab_eq] at h
  have hT := Lib.tabIs_of_head gTab gTabT Tryz.underlying202 Tryz.underlying5 (by kernel_rfl) (by kernel_rfl) h
  intro j hj
  have := hT.cell gTab j (show j < (List.map Int.ofNat Lib.deBruijn64tab).length from hj)
  rw [this, tabZ j hj]
set_option maxRecDepth 100000 in
theorem door_met (os : Os) (args : Array Value) : laidMetH Tryz.prog laidL ((World.laidAll Tryz.prog os laidL).forCall (fun _ _ => 0) ⟨#[], args, []⟩).memory := by
  rw [MakeChecks.laidMetH_plain _ _ _ (by kernel_rfl)]
  exact laidMet_laidAll _ (by kernel_rfl) (by kernel_rfl)
end Go.Proofs.YtadncjpknckaaaaGreatDoor
