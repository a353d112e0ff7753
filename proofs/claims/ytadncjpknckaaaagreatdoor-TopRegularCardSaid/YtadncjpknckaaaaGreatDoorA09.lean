/-
  Parts of patterns: what pats.compile lays, and how it reads.
-/
import Derived.Test.YtadncjpknckaaaaGreatDoorA06
import Derived.Test.YtadncjpknckaaaaGreatDoorA08
namespace Go.Proofs.YtadncjpknckaaaaGreatDoor
open Go.RowKit Go.Maps
/-- A compiled part, with the headers of its lists. -/
inductive CP where
  | snd (is : Snd) (ng : Bool)
  | edge (en : Bool)
  | alt (a : Option Addr) (n cap : Nat) (l : List CP)
  | rep (x : CP) (mn mx : Int)
  | seq (a : Option Addr) (n cap : Nat) (l : List CP)
namespace CP
def v : CP → Value
  | .snd is ng => .iface 194 (.agg #[.int .u32 is.p.toNat, .int .u32 is.m.toNat, .bool ng])
  | .edge en => .iface 196 (.agg #[.bool en])
  | .alt a n cap _ => .iface 198 (.agg #[.slice a n cap])
  | .rep x mn mx => .iface 200 (.agg #[x.v, .int .i64 mn, .int .i64 mx])
  | .seq a n cap _ => .iface 201 (.agg #[.slice a n cap])
def enc (c : CP) : List Value := [c.v]
theorem len (c : CP) : (enc c).length = 1 := rfl
theorem one (c : CP) : ∀ u ∈ enc c, u.oneCell' = true := by
  intro u hu; simp [enc] at hu; subst hu; cases c <;> rfl
mutual
def sz : CP → Nat
  | .snd _ _ => 1
  | .edge _ => 1
  | .alt _ _ _ l => 1 + szL l
  | .rep x _ _ => 1 + sz x
  | .seq _ _ _ l => 1 + szL l
def szL : List CP → Nat
  | [] => 0
  | x :: l => sz x + szL l
end
theorem szL_mem {x : CP} : ∀ {l : List CP}, x ∈ l → sz x ≤ szL l
  | y :: l, h => by
    simp only [szL]
    rcases List.mem_cons.1 h with rfl | h
    · omega
    · have := szL_mem h; omega
theorem iface (c : CP) : ∃ t x, c.v = .iface t x := by cases c <;> exact ⟨_, _, rfl⟩
theorem sz_pos (c : CP) : 0 < sz c := by cases c <;> simp only [sz] <;> omega
mutual
def sem : CP → List Snd → Rel
  | .snd is ng, w => sndM is ng w
  | .edge en, w => edgeM (if en then w.length else 0)
  | .alt _ _ _ l, w => semAlt l w zeroM
  | .rep x mn mx, w => repM (sem x w) mn mx w.length
  | .seq _ _ _ l, w => semSeq l w (idM w.length)
def semAlt : List CP → List Snd → Rel → Rel
  | [], _, out => out
  | q :: l, w, out => semAlt l w (orM out (sem q w))
def semSeq : List CP → List Snd → Rel → Rel
  | [], _, out => out
  | q :: l, w, out => semSeq l w (thenM out (sem q w))
end
mutual
def ok : CP → Prop
  | .snd _ _ => True
  | .edge _ => True
  | .alt _ _ _ l => okL l
  | .rep x mn mx => ok x ∧ 0 ≤ mn ∧ mn ≤ 32 ∧ (mx = -1 ∨ mn ≤ mx ∧ mx ≤ 32)
  | .seq _ _ _ l => okL l
def okL : List CP → Prop
  | [] => True
  | x :: l => ok x ∧ okL l
end
theorem okL_mem {x : CP} : ∀ {l : List CP}, okL l → x ∈ l → ok x
  | y :: l, h, hx => by
    simp only [okL] at h
    rcases List.mem_cons.1 hx with rfl | hx
    · exact h.1
    · exact okL_mem h.2 hx
theorem okL_of : ∀ {l : List CP}, (∀ x ∈ l, ok x) → okL l
  | [], _ => trivial
  | x :: l, h => by simp only [okL]; exact ⟨h x List.mem_cons_self, okL_of fun y hy => h y (List.mem_cons_of_mem _ hy)⟩
end CP
/-- What lies from a block on is as it was. -/
def AgreeFrom (B : Nat) (w w' : World) : Prop := w.heap.size ≤ w'.heap.size ∧ ∀ b, B ≤ b → b < w.heap.size → w'.heap[b]? = w.heap[b]?
theorem AgreeFrom.ext {w w' : World} (h : Ext w w') (B : Nat) : AgreeFrom B w w' := ⟨h.le, fun _ _ hb => Below.block h.bel _ hb⟩
theorem AgreeFrom.base {B B' : Nat} {w w' : World} (h : AgreeFrom B w w') (hB : B ≤ B') : AgreeFrom B' w w' := ⟨h.1, fun b h1 h2 => h.2 b (Nat.le_trans hB h1) h2⟩
theorem AgreeFrom.grown {B : Nat} {w w' : World} {row : Option Nat} (h : w.grownBy w' row) (hr : ∀ g, row = some g → g < B ∨ w.heap.size ≤ g) : AgreeFrom B w w' :=
  ⟨h.size, fun b h1 h2 => h.block b h2 fun e => by rcases hr b e.symm with h | h <;> omega⟩
theorem OwnK.agree {α : Type} {k : Nat} {enc : α → List Value} {B : Nat} {e : TypeId} {w w' : World} {v : Value} {xs : List α} (h : OwnK k enc B e w v xs) (hx : AgreeFrom B w w') : OwnK k enc B e w' v xs := by
  obtain ⟨h1, h2⟩ := h
  refine ⟨h1, ?_⟩
  rcases h2 with h2 | ⟨g, cap, cur, hv, hg, hh, r⟩
  · exact .inl h2
  · exact .inr ⟨g, cap, cur, hv, hg, (hx.2 g hg (Array.getElem?_eq_some_iff.1 hh).1).trans hh, r⟩
mutual
def RdCP (B : Nat) (w : World) : CP → Prop
  | .snd _ _ => True
  | .edge _ => True
  | .alt a n cap l => OwnK 1 CP.enc B 180 w (.slice a n cap) l ∧ RdCPs B w l
  | .rep x _ _ => RdCP B w x
  | .seq a n cap l => OwnK 1 CP.enc B 180 w (.slice a n cap) l ∧ RdCPs B w l
def RdCPs (B : Nat) (w : World) : List CP → Prop
  | [] => True
  | x :: l => RdCP B w x ∧ RdCPs B w l
end
theorem rdCPs_mem {B : Nat} {w : World} {x : CP} : ∀ {l : List CP}, RdCPs B w l → x ∈ l → RdCP B w x
  | y :: l, h, hx => by
    simp only [RdCPs] at h
    rcases List.mem_cons.1 hx with rfl | hx
    · exact h.1
    · exact rdCPs_mem h.2 hx
theorem rdCPs_of {B : Nat} {w : World} : ∀ {l : List CP}, (∀ x ∈ l, RdCP B w x) → RdCPs B w l
  | [], _ => trivial
  | x :: l, h => by simp only [RdCPs]; exact ⟨h x List.mem_cons_self, rdCPs_of fun y hy => h y (List.mem_cons_of_mem _ hy)⟩
theorem RdCP.map {B B' : Nat} {w w' : World} (hO : ∀ v xs, OwnK 1 CP.enc B 180 w v xs → OwnK 1 CP.enc B' 180 w' v xs) {c : CP} (h : RdCP B w c) : RdCP B' w' c := by
  have key : ∀ (m : Nat) (c : CP), CP.sz c ≤ m → RdCP B w c → RdCP B' w' c := fun m => by
    induction m with
    | zero => intro c hm; have := CP.sz_pos c; omega
    | succ m ih =>
      intro c hm hr
      cases c with
      | snd => simp only [RdCP]
      | edge => simp only [RdCP]
      | rep x mn mx => simp only [RdCP] at hr ⊢; simp only [CP.sz] at hm; exact ih x (by omega) hr
      | alt a n cap l =>
        simp only [RdCP] at hr ⊢; simp only [CP.sz] at hm
        exact ⟨hO _ _ hr.1, rdCPs_of fun x hx' => ih x (by have := CP.szL_mem hx'; omega) (rdCPs_mem hr.2 hx')⟩
      | seq a n cap l =>
        simp only [RdCP] at hr ⊢; simp only [CP.sz] at hm
        exact ⟨hO _ _ hr.1, rdCPs_of fun x hx' => ih x (by have := CP.szL_mem hx'; omega) (rdCPs_mem hr.2 hx')⟩
  exact key _ c (Nat.le_refl _) h
theorem RdCP.agree {B : Nat} {w w' : World} {c : CP} (h : RdCP B w c) (hx : AgreeFrom B w w') : RdCP B w' c := h.map fun _ _ h => h.agree hx
theorem RdCP.ext {B : Nat} {w w' : World} {c : CP} (h : RdCP B w c) (hx : Ext w w') : RdCP B w' c := h.agree (.ext hx B)
theorem RdCP.base {B B' : Nat} {w : World} {c : CP} (h : RdCP B w c) (hB : B' ≤ B) : RdCP B' w c := h.map fun _ _ h => h.base hB
/-- Compiled parts of patterns. -/
structure Comps (B : Nat) (w : World) (hs : List HP) (cs : List CP) : Prop where
  len : cs.length = hs.length
  rd : ∀ c ∈ cs, RdCP B w c
  ok : ∀ c ∈ cs, c.ok
  sem : ∀ (i : Nat) (h : HP) (c : CP), hs[i]? = some h → cs[i]? = some c → ∀ ws, c.sem ws = inM h ws
theorem Comps.nil (B : Nat) (w : World) : Comps B w [] [] := ⟨rfl, fun _ h => by simp at h, fun _ h => by simp at h, fun i h c hi => by simp at hi⟩
theorem Comps.snoc {B : Nat} {w : World} {hs : List HP} {cs : List CP} {h : HP} {c : CP} (hh : Comps B w hs cs) (h1 : RdCP B w c) (h2 : c.ok) (h3 : ∀ ws, c.sem ws = inM h ws) : Comps B w (hs ++ [h]) (cs ++ [c]) := by
  have hl := hh.len
  refine ⟨by simp [hl], fun x hx => ?_, fun x hx => ?_, fun i p q hi hq => ?_⟩
  · rcases List.mem_append.1 hx with hx | hx
    · exact hh.rd x hx
    · obtain rfl := List.mem_singleton.1 hx; exact h1
  · rcases List.mem_append.1 hx with hx | hx
    · exact hh.ok x hx
    · obtain rfl := List.mem_singleton.1 hx; exact h2
  · rcases Nat.lt_or_ge i hs.length with hlt | hge
    · rw [List.getElem?_append_left hlt] at hi
      rw [List.getElem?_append_left (by omega)] at hq
      exact hh.sem i p q hi hq
    · rw [List.getElem?_append_right hge] at hi
      rw [List.getElem?_append_right (by omega), hl] at hq
      cases hk : i - hs.length with
      | zero => rw [hk] at hi hq; simp at hi hq; subst hi; subst hq; exact h3
      | succ k => rw [hk] at hi; simp at hi
theorem comps_tail {B : Nat} {w : World} {p : HP} {hs : List HP} {c : CP} {cs : List CP} (h : Comps B w (p :: hs) (c :: cs)) : Comps B w hs cs :=
  ⟨by have := h.len; simpa using this, fun x hx => h.rd x (List.mem_cons_of_mem _ hx), fun x hx => h.ok x (List.mem_cons_of_mem _ hx), fun i => by have := h.sem (i + 1); simpa using this⟩
theorem comps_seq {B : Nat} {w : World} : ∀ {hs : List HP} {cs : List CP}, Comps B w hs cs → ∀ ws out, CP.semSeq cs ws out = inSeq hs ws out
  | [], [], _, ws, out => rfl
  | [], c :: cs, h, _, _ => by have := h.len; simp at this
  | p :: hs, [], h, _, _ => by have := h.len; simp at this
  | p :: hs, c :: cs, h, ws, out => by
    unfold CP.semSeq inSeq
    rw [h.sem 0 p c rfl rfl ws]
    exact comps_seq (comps_tail h) ws _
theorem comps_alt {B : Nat} {w : World} : ∀ {hs : List HP} {cs : List CP}, Comps B w hs cs → ∀ ws out, CP.semAlt cs ws out = inAlt hs ws out
  | [], [], _, ws, out => rfl
  | [], c :: cs, h, _, _ => by have := h.len; simp at this
  | p :: hs, [], h, _, _ => by have := h.len; simp at this
  | p :: hs, c :: cs, h, ws, out => by
    unfold CP.semAlt inAlt
    rw [h.sem 0 p c rfl rfl ws]
    exact comps_alt (comps_tail h) ws _
/-- They stand, whatever becomes of one block. -/
def CompsX (B : Nat) (w : World) (row : Option Nat) (hs : List HP) (cs : List CP) : Prop := ∀ w', w.grownBy w' row → Comps B w' hs cs
theorem CompsX.now {B : Nat} {w : World} {row : Option Nat} {hs : List HP} {cs : List CP} (h : CompsX B w row hs cs) : Comps B w hs cs := h w (World.grownBy.refl _ _)
theorem CompsX.grown {B : Nat} {w w' : World} {row : Option Nat} {hs : List HP} {cs : List CP} (h : CompsX B w row hs cs) (hg : w.grownBy w' row) : CompsX B w' row hs cs := fun w2 h2 => h w2 (gb_trans hg h2)
theorem CompsX.snoc {B B' : Nat} {w w2 w3 : World} {row row' : Option Nat} {hs : List HP} {cs : List CP} {h : HP} {c : CP} (hh : CompsX B w row hs cs) (hx : Ext w w2) (hB : B ≤ B') (hrow : ∀ g, row = some g → g < B') (h1 : RdCP B' w2 c) (h2 : c.ok) (h3 : ∀ ws, c.sem ws = inM h ws)
    (hg : w2.grownBy w3 row) (hr : row' = row ∨ ∃ g, row' = some g ∧ w2.heap.size ≤ g) : CompsX B w3 row' (hs ++ [h]) (cs ++ [c]) := fun w4 h4 => by
  have h24 : w2.grownBy w4 row := by
    rcases hr with rfl | ⟨g, rfl, hge⟩
    · exact gb_trans hg h4
    · exact gb_forget hg h4 fun g' e => by cases e; exact hge
  exact Comps.snoc (hh w4 (gb_trans (gb_ext hx row) h24)) ((h1.agree (.grown h24 fun g e => .inl (hrow g e))).base hB) h2 h3
/-- append of one element that is written out; where the new row lies. -/
theorem wp_appA {α : Type} {k : Nat} {enc : α → List Value} {P : Program} {ops : Array Oper} {rest : List Oper} {o : Oper} {a : Act} {Q : Exit → Act → World → Prop} (B : Nat) (w0 : World) (y : α) (cs : Array Value) (hcs : (enc y).toArray = cs) (hgd : o.guard = none) (s x : Operand) (t : TypeId)
    (ho : o.op = .call { callee := .builtin .append, args := #[s, x], argTypes := #[t, t] }) (e : TypeId) {z : Value} {bytes : Nat} (ht : P.underlying t = some (.slice e))
    (hinf : (P.info? e).map (fun i => (i.zero, i.size, i.bytes)) = some (some z, k, bytes)) (hzs : z.cells.size = k) (hk0 : 0 < k) (hk : ∀ x, (enc x).length = k) (h1 : ∀ x, ∀ u ∈ enc x, u.oneCell' = true)
    (v : Value) (xs : List α) (hs : a.eval s = v) (hown : OwnK k enc B e w0 v xs) (hB : B ≤ w0.heap.size) (hx : a.eval x = .slice (some ⟨w0.heap.size, 0, none⟩) 1 1) (hN : xs.length ≤ 60000) (hb : bytes ≤ 1000)
    (h : ∀ v' w', OwnK k enc B e w' v' (xs ++ [y]) → w0.grownBy w' v.ownBlock → (v'.ownBlock = v.ownBlock ∨ ∃ g, v'.ownBlock = some g ∧ w0.heap.size ≤ g) → wpList P ops Q rest (a.put o.dst v') w') :
    wpList P ops Q (o :: rest) a (w0.alloc (.cells cs e)) := by
  subst hcs
  refine wpList_plain hgd fun K hK => ?_
  have hrd : RdK k enc (w0.alloc (.cells (enc y).toArray e)) (some ⟨w0.heap.size, 0, none⟩) 1 1 [y] := ⟨rfl, Nat.le_refl _, by unfold maxLen; decide, fun h => by (cases h), fun _ => ⟨_, 0, rfl, by simp, fun i x hi j u hu => by
    cases i with
    | zero =>
      simp at hi; subst hi
      have := cell_new_list w0 (enc y) e j u hu
      unfold Addr.add at this
      split at this
      · rename_i h0; subst h0; simpa using this
      · simpa using this
    | succ i => simp at hi⟩⟩
  refine op_app1 (P := P) B (w0.alloc (.cells (enc y).toArray e)) y hgd s x t ho e ht hinf hzs hk0 hk h1 v xs hs (hown.kept (Ext.alloc1 _ _)) _ hx hrd hN hb (by simp; omega) fun v' w' h2 h3 h4 => ?_
  refine hK _ _ (h v' w' h2 (gb_trans (gb_ext (Ext.alloc1 _ _) _) h3) ?_)
  rcases h4 with h4 | h4
  · exact .inl h4
  · exact .inr ⟨_, h4, by simp⟩
theorem HP.cntL_mem {x : HP} : ∀ {l : List HP}, x ∈ l → HP.cnt x ≤ HP.cntL l
  | y :: l, h => by
    simp only [HP.cntL]
    rcases List.mem_cons.1 h with rfl | h
    · omega
    · have := HP.cntL_mem h; omega
theorem info_part : (Tryz.prog.info? 180).map (fun i => (i.zero, i.size, i.bytes)) = some (some .nilIface, 1, 16) := by kernel_rfl
/-- A pattern is compiled. -/
def RetCP (h : HP) (w : World) (e : Ending) (w' : World) : Prop := ∃ c : CP, e = .returned c.v ∧ RdCP w.heap.size w' c ∧ c.ok ∧ (∀ ws, c.sem ws = inM h ws) ∧ Ext w w'

set_option maxHeartbeats 1000000 in
set_option maxRecDepth 20000 in
theorem compile_any : ∀ (m : Nat) (h : HP) (w : World), HP.sz h ≤ m → RdPt w h → h.allB = true → h.cnt ≤ 40 → Calls Tryz.prog 112 #[patV h] w (RetCP h w) := by
  intro m
  induction m with
  | zero => intro h w hm; cases h; simp only [HP.sz] at hm; omega
  | succ m ih =>
    intro h w hm hr hnb hc40
    obtain ⟨hok, hsub⟩ := HP.allB_at hnb
    rw [HP.cnt_pos] at hc40
    have hcn : ∀ x ∈ h.l, HP.cnt x ≤ 40 := fun x hx => by have := HP.cntL_mem hx; omega
    have h40 := HP.cntL_len h.l
    have hsz : ∀ x ∈ h.l, HP.sz x ≤ m := fun x hx => by have := HP.sz_mem hx; omega
    have hl := hr.rd.len
    have hle := hr.rd.le
    have hmost := hr.rd.most
    unfold maxLen at hmost
    obtain ⟨kd, is, neg, mn, mx, a, n, cap, l⟩ := h
    change l.length = n at hl
    change n ≤ cap at hle
    change cap ≤ _ at hmost
    change ∀ x ∈ l, _ at hsub
    change ∀ x ∈ l, _ at hsz
    change ∀ x ∈ l, _ at hcn
    change 1 + HP.cntL l ≤ 40 at hc40
    change l.length ≤ HP.cntL l at h40
    have hn40 : n ≤ 40 := by omega
    clear hc40 h40
    have hmax : n ≤ 9223372036854775807 := by omega
    have hxB : Ext w (w.alloc (.cells #[.int .i64 kd, .int .u32 is.p.toNat, .int .u32 is.m.toNat, .bool neg, .int .i64 mn, .int .i64 mx, .slice a n cap] 55)) := (by repeat (first | exact Ext.refl _ | refine Ext.drew ?_ | refine Ext.drewN ?_ _ | refine Ext.alloc ?_ _))
    have q0 : (w.alloc (.cells #[.int .i64 kd, .int .u32 is.p.toNat, .int .u32 is.m.toNat, .bool neg, .int .i64 mn, .int .i64 mx, .slice a n cap] 55)).cell? ⟨w.heap.size, 0, none⟩ = some (.int .i64 kd) := by go_simp
    have q1 : (w.alloc (.cells #[.int .i64 kd, .int .u32 is.p.toNat, .int .u32 is.m.toNat, .bool neg, .int .i64 mn, .int .i64 mx, .slice a n cap] 55)).cell? ⟨w.heap.size, 1, none⟩ = some (.int .u32 is.p.toNat) := by go_simp
    have q2 : (w.alloc (.cells #[.int .i64 kd, .int .u32 is.p.toNat, .int .u32 is.m.toNat, .bool neg, .int .i64 mn, .int .i64 mx, .slice a n cap] 55)).cell? ⟨w.heap.size, 2, none⟩ = some (.int .u32 is.m.toNat) := by go_simp
    have q3 : (w.alloc (.cells #[.int .i64 kd, .int .u32 is.p.toNat, .int .u32 is.m.toNat, .bool neg, .int .i64 mn, .int .i64 mx, .slice a n cap] 55)).cell? ⟨w.heap.size, 3, none⟩ = some (.bool neg) := by go_simp
    have q4 : (w.alloc (.cells #[.int .i64 kd, .int .u32 is.p.toNat, .int .u32 is.m.toNat, .bool neg, .int .i64 mn, .int .i64 mx, .slice a n cap] 55)).cell? ⟨w.heap.size, 4, none⟩ = some (.int .i64 mn) := by go_simp
    have q5 : (w.alloc (.cells #[.int .i64 kd, .int .u32 is.p.toNat, .int .u32 is.m.toNat, .bool neg, .int .i64 mn, .int .i64 mx, .slice a n cap] 55)).cell? ⟨w.heap.size, 5, none⟩ = some (.int .i64 mx) := by go_simp
    have q6 : (w.alloc (.cells #[.int .i64 kd, .int .u32 is.p.toNat, .int .u32 is.m.toNat, .bool neg, .int .i64 mn, .int .i64 mx, .slice a n cap] 55)).cell? ⟨w.heap.size, 6, none⟩ = some (.slice a n cap) := by go_simp
    show Calls Tryz.prog 112 #[.agg #[.int .i64 kd, .int .u32 is.p.toNat, .int .u32 is.m.toNat, .bool neg, .int .i64 mn, .int .i64 mx, .slice a n cap]] w _
    replace hl := Lib.hid hl
    replace hsub := Lib.hid hsub
    replace hsz := Lib.hid hsz
    replace hcn := Lib.hid hcn
    replace hnb := Lib.hid hnb
    replace hok := Lib.hid hok
    go_enter Tryz.func112, Tryz.ntmps112
    go_wp2_with fail
    have z1 : (w.alloc (.cells #[.int .i64 kd, .int .u32 is.p.toNat, .int .u32 is.m.toNat, .bool neg, .int .i64 mn, .int .i64 mx, .slice a n cap] 55)).heap.size = w.heap.size + 1 := by simp
    generalize (w.alloc (.cells #[.int .i64 kd, .int .u32 is.p.toNat, .int .u32 is.m.toNat, .bool neg, .int .i64 mn, .int .i64 mx, .slice a n cap] 55)) = w1 at *
    go_loopw [3, 9] (fun ov iv wr => ∃ (i : Nat) (cs : List CP), i ≤ n ∧ iv = .int .i64 i ∧ Ext w1 wr ∧ OwnK 1 CP.enc w1.heap.size 180 wr ov cs ∧ CompsX w.heap.size wr ov.ownBlock (l.take i) cs) (fun _ iv _ => n - (intOf iv).toNat)
    case atStart => exact ⟨0, [], Nat.zero_le _, rfl, Ext.refl _, OwnK.nil _ _ _, fun _ _ => Comps.nil _ _⟩
    case round =>
      obtain ⟨i, cs, hi, rfl, hx, hown, hcs⟩ := hrel
      by_cases hlt : i < n
      · have hki : (i : Int) < (n : Int) := by omega
        obtain ⟨b, off, x, hb, hxi, hbl, hrx, c0, c1, c2, c3, c4, c5, c6⟩ := (hr.ext (hxB.trans hx)).at (i := i) hlt
        change a = _ at hb
        change Hid (l[i]? = some x) at hxi
        subst hb
        have hxm := List.mem_of_getElem? hxi.out
        have htk : l.take (i + 1) = l.take i ++ [x] := by rw [List.take_add_one, hxi.out]; rfl
        have hlc := hcs.now.len
        rw [List.length_take, hl.out, Nat.min_eq_left hi] at hlc
        replace htk := Lib.hid htk
        go_wp2_with fail
        have hA := Ext.alloc1 wr (.cells #[.int .i64 x.kind, .int .u32 x.is.p.toNat, .int .u32 x.is.m.toNat, .bool x.neg, .int .i64 x.mn, .int .i64 x.mx, .slice x.a x.n x.cap] 55)
        refine (ih x _ (hsz.out x hxm) (hrx.ext hA) (hsub.out x hxm) (hcn.out x hxm)).mono ?_
        rintro e w2 ⟨c, rfl, hrc, hoc, hsc, hx2⟩
        obtain ⟨ct, cv, hcv⟩ := c.iface
        have hce : (CP.enc c).toArray = #[.iface ct cv] := by rw [CP.enc, hcv]
        rw [hcv]
        replace hcv := Lib.hid hcv
        have hx12 := hx.trans (hA.trans hx2)
        have ho2 := hown.kept (hA.trans hx2)
        have hc2 := hcs.grown (gb_ext hA _)
        have hrw : ∀ g, u3.ownBlock = some g → g < (wr.alloc (.cells #[.int .i64 x.kind, .int .u32 x.is.p.toNat, .int .u32 x.is.m.toNat, .bool x.neg, .int .i64 x.mn, .int .i64 x.mx, .slice x.a x.n x.cap] 55)).heap.size := fun g hg => by have := (own_lt hown hg).2; have := hA.le; omega
        have hB0 : w.heap.size ≤ (wr.alloc (.cells #[.int .i64 x.kind, .int .u32 x.is.p.toNat, .int .u32 x.is.m.toNat, .bool x.neg, .int .i64 x.mn, .int .i64 x.mx, .slice x.a x.n x.cap] 55)).heap.size := by have := (hxB.trans (hx.trans hA)).le; exact this
        have hsn := fun w3 row' hg hr => CompsX.snoc (w3 := w3) (row' := row') hc2 hx2 hB0 hrw hrc hoc hsc hg hr
        have hB2 := (hx.trans (hA.trans hx2)).le
        replace hsn := Lib.hid hsn
        replace hrw := Lib.hid hrw
        replace hsc := Lib.hid hsc
        replace hoc := Lib.hid hoc
        replace hlc := Lib.hid hlc
        clear hcs hown hx2 hA hc2 hrc
        go_wp2_with (at_builtin; refine wp_appA w1.heap.size w2 c #[.iface ct cv] hce rfl _ _ 192 rfl 180 Tryz.underlying192 info_part rfl (by decide) CP.len CP.one u3 cs rfl ho2 hB2 rfl (by rw [hlc.out]; omega) (by decide) ?_; intro v3 w3 o3 g3 r3)
        have hce3 := hsn.out w3 v3.ownBlock g3 r3
        rw [← htk.out] at hce3
        have x3 : Ext w1 w3 := hx12.grown g3 fun g hg => by have := own_lt ho2 hg; omega
        (first | exact ⟨⟨i + 1, cs ++ [c], hlt, by go_num, x3, o3, hce3⟩, (by simp [intOf]; omega)⟩ | (go_roundw; case rel => exact ⟨i + 1, cs ++ [c], hlt, by go_num, x3, o3, hce3⟩; case measure => exact (by simp [intOf]; omega)))
      · obtain rfl : i = n := by omega
        rw [List.take_of_length_le (by rw [hl.out]; exact Nat.le_refl _)] at hcs
        have hC := hcs.now
        have hC' := fun w' (h : Ext wr w') => hcs w' (gb_ext h _)
        have hok' := hok.out
        simp only [HP.okB] at hok'
        have hxw := hxB.trans hx
        have hbase := hown.base (by omega : w.heap.size ≤ w1.heap.size)
        have z0 := hx.cellv q0
        have z4 := hx.cellv q4
        have z5 := hx.cellv q5
        have zz1 := hx.cellv q1
        have zz2 := hx.cellv q2
        have zz3 := hx.cellv q3
        clear q0 q1 q2 q3 q4 q5 q6
        obtain ⟨a3, n3, c3, hn3, rfl, hrd⟩ := OwnK.rdn CP.len hown
        replace hn3 := Lib.hid hn3
        replace hown := Lib.hid hown
        replace hbase := Lib.hid hbase
        replace hC' := Lib.hid hC'
        by_cases k1 : kd = 1
        · subst k1
          go_wp2_with fail
          go_ret
          refine ⟨.snd is neg, rfl, by simp only [RdCP], by simp only [CP.ok], fun ws => by simp only [CP.sem, inM, if_true], hxw⟩
        rw [if_neg k1] at hok'
        by_cases k2 : kd = 2
        · subst k2
          go_wp2_with fail
          go_ret
          refine ⟨.edge false, rfl, by simp only [RdCP], by simp only [CP.ok], fun ws => by simp [CP.sem, inM], hxw⟩
        by_cases k6 : kd = 6
        · subst k6
          go_wp2_with fail
          go_ret
          refine ⟨.edge true, rfl, by simp only [RdCP], by simp only [CP.ok], fun ws => by simp [CP.sem, inM], hxw⟩
        by_cases k4 : kd = 4
        · subst k4
          go_wp2_with fail
          go_ret
          refine ⟨.alt a3 n3 c3 cs, rfl, by simp only [RdCP]; exact ⟨hbase.out, rdCPs_of hC.rd⟩, by simp only [CP.ok]; exact CP.okL_of hC.ok, fun ws => by simp only [CP.sem]; rw [comps_alt hC]; simp [inM], hxw⟩
        by_cases k5 : kd = 5
        · subst k5
          simp only [if_true, Bool.and_eq_true, decide_eq_true_eq, Bool.or_eq_true] at hok'
          obtain ⟨_, ⟨⟨h51, h52⟩, h53⟩, h54⟩ := hok'
          have hl1 : l.length = 1 := h51
          obtain ⟨x0, rfl⟩ := List.length_eq_one_iff.1 hl1
          obtain ⟨c, rfl⟩ := List.length_eq_one_iff.1 (hC.len.trans hl1)
          have hn1 : n3 = 1 := hn3.out
          subst hn1
          obtain ⟨bo, off, rfl, hbo, hcell⟩ := hrd.pos (by decide)
          have c0 := hcell 0 c rfl 0 c.v rfl
          simp only [Nat.zero_mul, Nat.add_zero] at c0
          obtain ⟨ct, cv, hcv⟩ := c.iface
          have hsc := hC.sem 0 x0 c rfl rfl
          have hoc := hC.ok c (List.mem_singleton.2 rfl)
          have hrc := hC.rd c (List.mem_singleton.2 rfl)
          have hrcX := fun w' h => ((hC'.out w' h).rd c (List.mem_singleton.2 rfl))
          rw [hcv] at c0
          replace hcv := Lib.hid hcv
          replace hsc := Lib.hid hsc
          replace hoc := Lib.hid hoc
          clear hcell hrd
          go_wp2_with fail
          go_region
          go_wp2_with fail
          go_ret
          have e : (CP.rep c mn mx).v = .iface 200 (.agg #[.iface ct cv, .int .i64 mn, .int .i64 mx]) := by simp only [CP.v, hcv.out]
          refine ⟨.rep c mn mx, by rw [e]; rfl, by simp only [RdCP]; exact hrcX _ (Ext.refl _).drew, by simp only [CP.ok]; exact ⟨hoc.out, h52, h53, h54⟩, fun ws => by simp only [CP.sem]; rw [hsc.out]; simp [inM, inHd], hxw.drew⟩
        · have d1 : (kd == 1) = false := by simpa using k1
          have d2 : (kd == 2) = false := by simpa using k2
          have d6 : (kd == 6) = false := by simpa using k6
          have d4 : (kd == 4) = false := by simpa using k4
          have d5 : (kd == 5) = false := by simpa using k5
          have hin : ∀ ws, inM (.mk kd is neg mn mx a i cap l) ws = inSeq l ws (idM ws.length) := fun ws => by simp only [inM, if_neg k1, if_neg k2, if_neg k6, if_neg k4, if_neg k5]
          replace k1 := Lib.hid k1
          replace k2 := Lib.hid k2
          replace k6 := Lib.hid k6
          replace k4 := Lib.hid k4
          replace k5 := Lib.hid k5
          replace hin := Lib.hid hin
          clear hok'
          go_wp2_with fail
          go_ret
          refine ⟨.seq a3 n3 c3 cs, rfl, by simp only [RdCP]; exact ⟨hbase.out, rdCPs_of hC.rd⟩, by simp only [CP.ok]; exact CP.okL_of hC.ok, fun ws => by simp only [CP.sem]; rw [comps_seq hC, hin.out], hxw⟩
end Go.Proofs.YtadncjpknckaaaaGreatDoor
