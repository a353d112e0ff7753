/-
  attest.deriver: the walk.
-/
import Derived.Test.YtadncjpknckaaaaGreatDoorA36
namespace Go.Proofs.YtadncjpknckaaaaGreatDoor
open Go.RowKit Go.Shelf Go.Maps
attribute [local go_sem] Oper.semAt_some
def anyE (v : Value) : List Value := [v]
theorem anyE_len (v : Value) : (anyE v).length = 1 := rfl
/-- What a list of laws makes of the word of a key, in memory. -/
def GoodE (B : Nat) (Ls : List HL) (X : World) (key : List UInt8) (val : Value) : Prop := ∃ (has : Bool) (a : Option Addr) (n c : Nat), val = .agg #[.bool has, .slice a n c] ∧
  ∀ ws, wordOk ws = true → keyB ws = key → (has = (deriveM Ls ws).isSome ∧ ∀ out, deriveM Ls ws = some out → OwnS B 52 X (.slice a n c) out)
/-- What the closure of deriver stands on. -/
structure DerI (w0 : World) (lines : Nat → List HL) (nl b8 b7 K G : Nat) (ms : List Value) (hd : Nat → Value) (N : Nat) (X : World) : Prop where
  ext : Ext w0 X
  k8 : Boxed X b8 84 (.slice (some ⟨K, 0, none⟩) nl nl)
  k7 : Boxed X b7 83 (.slice (some ⟨G, 0, none⟩) nl nl)
  fam : FamK 18 HL.enc w0.heap.size 23 58 X G nl hd lines
  own : OwnK 1 anyE w0.heap.size 85 X (.slice (some ⟨K, 0, none⟩) nl nl) ms
  maps : ∀ v, v < nl → ∃ b n f, ms[v]? = some (.map (some b)) ∧ w0.heap.size ≤ b ∧ n ≤ N ∧ MapV Tryz.prog 9 klB X b n f ∧ ∀ key val, f key = some val → GoodE w0.heap.size (lines v) X key val
  inj : ∀ (u v : Nat) (b : Nat), ms[u]? = some (.map (some b)) → ms[v]? = some (.map (some b)) → u = v
/-- While it is laid: the lines of k leaves are whole, the next one stands at cur. -/
structure DerW (w0 : World) (lines : Nat → List HL) (nl b8 b7 K G : Nat) (k : Nat) (cur : List HL) (ms : List Value) (hd : Nat → Value) (X : World) : Prop where
  ext : Ext w0 X
  k8 : Boxed X b8 84 (.slice (some ⟨K, 0, none⟩) nl nl)
  k7 : Boxed X b7 83 (.slice (some ⟨G, 0, none⟩) nl nl)
  fam : FamK 18 HL.enc w0.heap.size 23 58 X G nl hd (fun v => if v < k then lines v else if v = k then cur else [])
  own : OwnK 1 anyE w0.heap.size 85 X (.slice (some ⟨K, 0, none⟩) nl nl) ms
  maps : ∀ v, v < k → ∃ b, ms[v]? = some (.map (some b)) ∧ w0.heap.size ≤ b ∧ MapV Tryz.prog 9 klB X b 0 fun _ => none
  inj : ∀ (u v : Nat) (b : Nat), ms[u]? = some (.map (some b)) → ms[v]? = some (.map (some b)) → u = v
  rest : ∀ (v b : Nat), ms[v]? = some (.map (some b)) → v < k
theorem mk_lines (n : Nat) (hn : n ≤ 60000) (w : World) : (Instr.makeSlice 83 (.int .i64 (n : Int)) (.int .i64 (n : Int))).run Tryz.prog w = .ok (.slice (some ⟨w.heap.size, 0, none⟩) n n) (w.alloc (.cells (zHdrs n) 23)) :=
  run_mk 83 Tryz.underlying83 info_lawsT n hn (by omega) w
def zMaps (n : Nat) : Array Value := madeCells (Value.map none).cells (n * 1)
theorem mk_maps (n : Nat) (hn : n ≤ 60000) (w : World) : (Instr.makeSlice 84 (.int .i64 (n : Int)) (.int .i64 (n : Int))).run Tryz.prog w = .ok (.slice (some ⟨w.heap.size, 0, none⟩) n n) (w.alloc (.cells (zMaps n) 85)) :=
  run_mk 84 Tryz.underlying84 info_mapT n hn (by omega) w
theorem zMaps_own (w : World) (n : Nat) (hn : n ≤ 60000) : OwnK 1 anyE w.heap.size 85 (w.alloc (.cells (zMaps n) 85)) (.slice (some ⟨w.heap.size, 0, none⟩) n n) (List.replicate n (Value.map none)) :=
  made_own anyE_len (by decide) w 85 #[.map none] (.map none) rfl n hn
theorem own_typed {α : Type} {k : Nat} {enc : α → List Value} {B e : Nat} {w w' : World} {v : Value} {xs : List α} {row : Option Nat} (h : OwnK k enc B e w v xs) (hg : w.grownBy w' row) (hr : ∀ r, row = some r → ∀ cur, w.heap[r]? ≠ some (.cells cur e (0, 0))) : OwnK k enc B e w' v xs :=
  own_apart h hg fun g hg' e1 => by
    obtain ⟨c, h1⟩ := own_type h e1
    exact hr g hg' c h1
theorem boxed_typed {b t : Nat} {v : Value} {w w' : World} {row : Option Nat} (h : Boxed w b t v) (hg : w.grownBy w' row) (hr : ∀ r, row = some r → ∀ cur, w.heap[r]? ≠ some (.cells cur t (0, 0))) : Boxed w' b t v :=
  h.kept hg fun e => hr b e.symm _ h
theorem mapV_typed {P : Program} {k : TypeId} {κ : Type} {kl : κ → Lit} {w w' : World} {b n : Nat} {f : κ → Option Value} {row : Option Nat} (h : MapV P k kl w b n f) (hg : w.grownBy w' row) (hr : ∀ r, row = some r → ∃ o, w.heap[r]? = some o ∧ o.isCells = true) : MapV P k kl w' b n f :=
  h.agr (hg.block b h.lt fun e => by
    obtain ⟨o, h1, h2⟩ := hr b e.symm
    obtain ⟨o', h3, h4⟩ := h.notCells
    rw [h1] at h3; cases h3; rw [h2] at h4; cases h4)
section
variable {w0 X Y : World} {lines : Nat → List HL} {nl b8 b7 K G k : Nat} {cur : List HL} {ms : List Value} {hd : Nat → Value}
theorem DerW.grown (h : DerW w0 lines nl b8 b7 K G k cur ms hd X) {row : Option Nat} (hg : X.grownBy Y row) (hr : ∀ r, row = some r → w0.heap.size ≤ r ∧ ∃ cur e, X.heap[r]? = some (.cells cur e (0, 0)) ∧ e ≠ 84 ∧ e ≠ 83 ∧ e ≠ 85 ∧ e ≠ 23 ∧ e ≠ 58) : DerW w0 lines nl b8 b7 K G k cur ms hd Y := by
  have hty : ∀ r e0, row = some r → (e0 = 84 ∨ e0 = 83 ∨ e0 = 85) → ∀ cur, X.heap[r]? ≠ some (.cells cur e0 (0, 0)) := fun r e0 e1 e2 cur h1 => by
    obtain ⟨_, c, e, h2, n1, n2, n3, n4, n5⟩ := hr r e1
    rw [h1] at h2; cases h2
    rcases e2 with rfl | rfl | rfl
    · exact n1 rfl
    · exact n2 rfl
    · exact n3 rfl
  refine ⟨h.ext.grown hg fun r e => (hr r e).1, boxed_typed h.k8 hg fun r e => hty r _ e (.inl rfl), boxed_typed h.k7 hg fun r e => hty r _ e (.inr (.inl rfl)), h.fam.other hg fun r e cur e0 h1 => ?_, own_typed h.own hg fun r e => hty r _ e (.inr (.inr rfl)), fun v hv => ?_, h.inj, h.rest⟩
  · obtain ⟨_, c, e, h2, n1, n2, n3, n4, n5⟩ := hr r e
    rw [h1] at h2; cases h2
    exact ⟨n4, n5⟩
  · obtain ⟨b, h1, h2, h3⟩ := h.maps v hv
    exact ⟨b, h1, h2, mapV_typed h3 hg fun r e => let ⟨_, c, e0, h4, _⟩ := hr r e; ⟨_, h4, rfl⟩⟩
theorem DerW.ext' (h : DerW w0 lines nl b8 b7 K G k cur ms hd X) (hx : Ext X Y) : DerW w0 lines nl b8 b7 K G k cur ms hd Y := h.grown (gb_ext hx none) fun r e => by cases e
/-- A law is appended to the line under way. -/
theorem DerW.app (h : DerW w0 lines nl b8 b7 K G k cur ms hd X) (hk : k < nl) {X5 : World} {v' : Value} {L : HL} (ho : OwnK 18 HL.enc w0.heap.size 58 X5 v' (cur ++ [L])) (hg : X.grownBy X5 (hd k).ownBlock) (hx5 : Ext w0 X5) (hnew : v'.ownBlock = (hd k).ownBlock ∨ v'.ownBlock = some X.heap.size) :
    DerW w0 lines nl b8 b7 K G k (cur ++ [L]) ms (fun v => if v = k then v' else hd v) (X5.setCell ⟨G, k, none⟩ v') ∧ X5.cell? ⟨G, k, none⟩ = some (hd k) ∧ X5.frozen? ⟨G, k, none⟩ = false ∧ X5.cell? ⟨b7, 0, none⟩ = some (.slice (some ⟨G, 0, none⟩) nl nl) ∧ ∀ B' u xs, OwnI B' 3 X u xs → OwnI B' 3 (X5.setCell ⟨G, k, none⟩ v') u xs := by
  obtain ⟨f1, f2, f3⟩ := h.fam.app hk (v' := v') (x := L) (by decide) (by simpa using ho) hg (fun g e => by
    rcases hnew with h1 | h1
    · exact .inl (h1 ▸ e)
    · rw [h1] at e; cases e; exact .inr (Nat.le_refl _))
  have hLty : ∀ r, (hd k).ownBlock = some r → ∃ c, X.heap[r]? = some (.cells c 58 (0, 0)) := fun r e => own_type (h.fam.own k hk) e
  obtain ⟨cG, hG⟩ := h.fam.blk
  have hG5 : X5.heap[G]? = some (.cells cG 23 (0, 0)) := (hg.block G h.fam.lt fun e => by
    obtain ⟨c, hc⟩ := hLty G e.symm
    rw [hG] at hc; cases hc).trans hG
  have hs : X5.grownBy (X5.setCell ⟨G, k, none⟩ v') (some G) := grownBy_set X5 G k v'
  have t1 : ∀ (e0 : TypeId), e0 ≠ 58 → ∀ r, (hd k).ownBlock = some r → ∀ c, X.heap[r]? ≠ some (.cells c e0 (0, 0)) := fun e0 hne r e c h1 => by
    obtain ⟨c2, h2⟩ := hLty r e
    rw [h1] at h2; cases h2; exact hne rfl
  have t2 : ∀ (e0 : TypeId), e0 ≠ 23 → ∀ r, some G = some r → ∀ c, X5.heap[r]? ≠ some (.cells c e0 (0, 0)) := fun e0 hne r e c h1 => by
    cases e; rw [hG5] at h1; cases h1; exact hne rfl
  refine ⟨⟨hx5.setCell (p := ⟨G, k, none⟩) h.fam.base v', boxed_typed (boxed_typed h.k8 hg (t1 _ (by decide))) hs (t2 _ (by decide)), boxed_typed (boxed_typed h.k7 hg (t1 _ (by decide))) hs (t2 _ (by decide)), ?_, own_typed (own_typed h.own hg (t1 _ (by decide))) hs (t2 _ (by decide)), fun v hv => ?_, h.inj, h.rest⟩, f2, f3, (boxed_typed h.k7 hg (t1 _ (by decide))).cell, fun B' u xs hu => own_typed (own_typed hu hg (t1 _ (by decide))) hs (t2 _ (by decide))⟩
  · have hf : (fun v => if v = k then (fun v => if v < k then lines v else if v = k then cur else []) k ++ [L] else (fun v => if v < k then lines v else if v = k then cur else []) v) = fun v => if v < k then lines v else if v = k then cur ++ [L] else [] := by
      funext v
      by_cases e : v = k
      · subst e; simp
      · simp [e]
    rw [hf] at f1
    exact f1
  · obtain ⟨b, h1, h2, h3⟩ := h.maps v hv
    exact ⟨b, h1, h2, mapV_typed (mapV_typed h3 hg fun r e => let ⟨c, h4⟩ := hLty r e; ⟨_, h4, rfl⟩) hs fun r e => by cases e; exact ⟨_, hG5, rfl⟩⟩
/-- The line is whole: its map is made. -/
theorem DerW.map (h : DerW w0 lines nl b8 b7 K G k cur ms hd X) (hk : k < nl) (hcur : cur = lines k) :
    DerW w0 lines nl b8 b7 K G (k + 1) [] (ms.set k (.map (some X.heap.size))) hd ((X.alloc (.map #[] 0)).setCell ⟨K, k, none⟩ (.map (some X.heap.size))) ∧ (∃ u, (X.alloc (.map #[] 0)).cell? ⟨K, k, none⟩ = some u) ∧ (X.alloc (.map #[] 0)).frozen? ⟨K, k, none⟩ = false := by
  have h1 := h.ext' (Ext.alloc1 X (.map #[] 0))
  have hge := own_ge h1.own
  have hml := hge.2.2.1
  have hmk : ms[k]? = some ms[k] := List.getElem?_eq_getElem (by omega)
  have hc := own_at anyE_len h1.own hmk (j := 0) (u := ms[k]) rfl
  have hK : ∃ c, (X.alloc (.map #[] 0)).heap[K]? = some (.cells c 85 (0, 0)) := own_type h1.own rfl
  obtain ⟨cK, hK⟩ := hK
  have hs := grownBy_set (X.alloc (.map #[] 0)) K k (.map (some X.heap.size))
  have t2 : ∀ (e0 : TypeId), e0 ≠ 85 → ∀ r, some K = some r → ∀ c, (X.alloc (.map #[] 0)).heap[r]? ≠ some (.cells c e0 (0, 0)) := fun e0 hne r e c h2 => by
    cases e; rw [hK] at h2; cases h2; exact hne rfl
  have hlt : ∀ v b, v < nl → ms[v]? = some (.map (some b)) → v < k → b < X.heap.size := fun v b _ h2 h3 => by
    obtain ⟨b', h4, _, h5⟩ := h.maps v h3
    rw [h2] at h4; cases h4; exact h5.lt
  refine ⟨⟨h1.ext.setCell (p := ⟨K, k, none⟩) hge.1 _, boxed_typed h1.k8 hs (t2 _ (by decide)), boxed_typed h1.k7 hs (t2 _ (by decide)), ?_, own_set1 anyE_len h1.own hk rfl, fun v hv => ?_, ?_, ?_⟩, ⟨_, by simpa using hc⟩, own_free h1.own k⟩
  · have hf : (fun v => if v < k then lines v else if v = k then cur else []) = fun v => if v < k + 1 then lines v else if v = k + 1 then [] else ([] : List HL) := by
      funext v
      by_cases e1 : v < k
      · simp [e1, show v < k + 1 by omega]
      · by_cases e2 : v = k
        · subst e2; simp [hcur]
        · simp [e1, e2, show ¬ v < k + 1 by omega]
    have := h1.fam.other hs fun r e c e0 h2 => by
      cases e; rw [hK] at h2; cases h2; exact ⟨by decide, by decide⟩
    rw [hf] at this
    exact this
  · by_cases e : v = k
    · subst e
      refine ⟨X.heap.size, by rw [List.getElem?_set_self (by omega)], h.ext.le, ?_⟩
      exact mapV_typed (MapV.made X Tryz.prog 9 klB) hs fun r e => by cases e; exact ⟨_, hK, rfl⟩
    · obtain ⟨b, h2, h3, h4⟩ := h1.maps v (by omega)
      exact ⟨b, by rw [List.getElem?_set_ne (Ne.symm e)]; exact h2, h3, mapV_typed h4 hs fun r e => by cases e; exact ⟨_, hK, rfl⟩⟩
  · intro u v b e1 e2
    have key : ∀ z, z ≠ k → (ms.set k (.map (some X.heap.size)))[z]? = some (.map (some b)) → b < X.heap.size ∧ ms[z]? = some (.map (some b)) := fun z hz hb => by
      rw [List.getElem?_set_ne (Ne.symm hz)] at hb
      have hzl := (List.getElem?_eq_some_iff.1 hb).1
      exact ⟨hlt z b (by omega) hb (h.rest z b hb), hb⟩
    have same : ∀ z, z = k → (ms.set k (.map (some X.heap.size)))[z]? = some (.map (some b)) → b = X.heap.size := fun z hz hb => by
      rw [hz, List.getElem?_set_self (by omega)] at hb
      cases hb; rfl
    by_cases h2 : u = k
    · by_cases h3 : v = k
      · omega
      · have := same u h2 e1
        have := (key v h3 e2).1
        omega
    · by_cases h3 : v = k
      · have := same v h3 e2
        have := (key u h2 e1).1
        omega
      · exact h.inj u v b (key u h2 e1).2 (key v h3 e2).2
  · intro v b hb
    by_cases h3 : v = k
    · omega
    · rw [List.getElem?_set_ne (Ne.symm h3)] at hb
      have := h.rest v b hb
      omega
end
theorem path_lt {ts : List Nd} (ht : treeB ts = true) : ∀ (f : Nat) (x : Int), x < ts.length → ∀ u ∈ pathF ts f x, u < ts.length
  | 0, _, _, u, hu => by cases hu
  | f + 1, x, hx, u, hu => by
    unfold pathF at hu
    by_cases h : x < 0
    · rw [if_pos h] at hu; cases hu
    · rw [if_neg h] at hu
      rcases List.mem_cons.1 hu with rfl | hu
      · omega
      · obtain ⟨y, hy⟩ : ∃ y, ts[x.toNat]? = some y := ⟨_, List.getElem?_eq_getElem (by omega)⟩
        rw [hy] at hu
        refine path_lt ht f _ ?_ u hu
        show y.par < ts.length
        rcases Nat.eq_zero_or_pos x.toNat with h0 | h0
        · rw [h0] at hy; rw [treeB_root ht hy]; omega
        · have := (treeB_par ht hy h0).2; omega
theorem down_lt {ts : List Nd} (ht : treeB ts = true) {v : Nat} (hv : v < ts.length) {i : Nat} {u : Int} (h : (downL ts v)[i]? = some u) : ∃ m : Nat, u = m ∧ m < ts.length := by
  have hm := List.mem_of_getElem? h
  unfold downL at hm
  obtain ⟨m, h1, rfl⟩ := List.mem_map.1 (List.mem_reverse.1 hm)
  exact ⟨m, rfl, path_lt ht _ _ (by omega) m h1⟩
theorem yields_law {ops : Array Oper} {S : World → Prop} {op : Oper} {a : Act} (L : HL) (b p : Nat) (hS : ∀ w, S w → w.rangeAt b p L.enc) (x : Operand) (ho : op.op = .load 58 x) (hx : a.eval x = .pointer (some ⟨b, p, none⟩)) (hw : Region.wanted op (yielded ops a.tmps) = true) : YieldsIf Tryz.prog ops S op (lawV L) a :=
  yieldsIf_load_mid hw 58 x ho b p hx L.enc _ hS Tryz.underlying58 rfl (by rw [HL.len]; kernel_rfl)
theorem one_law (w : World) (L : HL) : RdK 18 HL.enc (w.alloc (.cells #[.string L.name, .int .i64 L.left.kind, .int .u32 L.left.is.p.toNat, .int .u32 L.left.is.m.toNat, .bool L.left.neg, .int .i64 L.left.mn, .int .i64 L.left.mx, .slice L.left.a L.left.n L.left.cap, .int .i64 L.right.kind, .int .u32 L.right.is.p.toNat, .int .u32 L.right.is.m.toNat, .bool L.right.neg, .int .i64 L.right.mn, .int .i64 L.right.mx, .slice L.right.a L.right.n L.right.cap, .slice L.ia L.ifs.length L.icap, .slice L.oa L.outs.length L.ocap, .int .i64 L.mode] 58)) (some ⟨w.heap.size, 0, none⟩) 1 1 [L] :=
  OwnK.rdc HL.len (lit_own HL.len w 58 [L] #[.string L.name, .int .i64 L.left.kind, .int .u32 L.left.is.p.toNat, .int .u32 L.left.is.m.toNat, .bool L.left.neg, .int .i64 L.left.mn, .int .i64 L.left.mx, .slice L.left.a L.left.n L.left.cap, .int .i64 L.right.kind, .int .u32 L.right.is.p.toNat, .int .u32 L.right.is.m.toNat, .bool L.right.neg, .int .i64 L.right.mn, .int .i64 L.right.mx, .slice L.right.a L.right.n L.right.cap, .slice L.ia L.ifs.length L.icap, .slice L.oa L.outs.length L.ocap, .int .i64 L.mode] rfl rfl (by omega))
theorem HL.one (L : HL) : ∀ u ∈ L.enc, u.oneCell' = true := by
  intro u hu
  have := enc_one L
  rw [Array.all_eq_true'] at this
  exact this u (by simpa [HL.enc, HP.enc] using hu)
set_option maxHeartbeats 4000000 in
set_option maxRecDepth 20000 in
theorem deriver_any (h : HH) (w : World) (hr : RdH w h) (hH : histB h = true) (hsm : ∀ p ∈ h.ps, p.n ≤ 4) (_hT : Tab64 w) : Calls Tryz.prog 13 #[h.v, .int .i64 (-1)] w fun e w' =>
    ∃ w2 b8 b7 K G ms hd, e = .returned (.func (.func 25) #[] #[.pointer (some ⟨b8, 0, none⟩), .pointer (some ⟨b7, 0, none⟩)]) ∧ Ext w w2 ∧ DerI w2 (fun k => lineL h.ls h.ps h.ts (((leafL h.ts)[k]?).getD 0).toNat) (leafL h.ts).length b8 b7 K G ms hd 0 w' := by
  simp only [histB, Bool.and_eq_true, decide_eq_true_eq] at hH
  obtain ⟨htb, hok, hpn, hlb⟩ := hH
  have hway := fun v => @listsB_way h hlb v
  have hin := fun p hp x hx => @listsB_in h hlb p hp x hx
  clear hlb
  obtain ⟨ta, tn, tc, ts, la, ln, lc, ls, pa, pn, pc, ps⟩ := h
  obtain ⟨ht, hl, hp⟩ := hr
  simp only at htb hok hpn hway hin hsm ht hl hp
  subst hpn
  have hxw := Ext.alloc1 w (.cells #[.slice ta pn tc, .slice la ln lc, .slice pa pn pc] 26)
  have hB0 : (w.alloc (.cells #[.slice ta pn tc, .slice la ln lc, .slice pa pn pc] 26)).heap[w.heap.size]? = some (.cells #[.slice ta pn tc, .slice la ln lc, .slice pa pn pc] 26) := World.alloc_heap_new w _
  have hlf := RetIE.rd (tleaves_any ta pn tc ts _ (ht.ext hxw)) (treeE_zero htb)
  rw [show leavesR ts = leafL ts by unfold leavesR; rw [if_pos htb]] at hlf
  have hll : (leafL ts).length ≤ 63 := by
    have := (treeB_len htb).2
    unfold leafL leafTo
    rw [List.length_map]
    have h2 := List.length_filter_le (fun v => decide (kidsTo ts ts.length v = [])) (List.range ts.length)
    rw [List.length_range] at h2
    omega
  go_enter Tryz.func13, Tryz.ntmps13
  go_wp2_with fail
  refine hlf.mono ?_
  rintro e w2 ⟨a5, nl, c5, hnl, rfl, hr5, hx2⟩
  have hnl63 : nl ≤ 63 := by omega
  have hmk1 := fun W => mk_lines nl (by omega) W
  have hmk2 := fun W => mk_maps nl (by omega) W
  clear hlf
  have hlvr : ∀ k, k < nl → ∃ v : Nat, (leafL ts)[k]? = some (v : Int) ∧ v < pn := fun k hk => by
    have hx : (leafL ts)[k]? = some (leafL ts)[k] := List.getElem?_eq_getElem (by omega)
    have hm := List.getElem_mem (l := leafL ts) (n := k) (by omega)
    generalize (leafL ts)[k] = y at *
    unfold leafL leafTo at hm
    obtain ⟨v, hv, rfl⟩ := List.mem_map.1 hm
    have := List.mem_range.1 (List.mem_filter.1 hv).1
    exact ⟨v, hx, by have := ht.rd.len; omega⟩
  obtain ⟨lines, hlines⟩ : ∃ lines : Nat → List HL, lines = fun k => lineL ls ps ts (((leafL ts)[k]?).getD 0).toNat := ⟨_, rfl⟩
  obtain ⟨wA, hwA⟩ : ∃ wA, (((w2.alloc (.cells (zHdrs nl) 23)).alloc (.cells #[.slice (some ⟨w2.heap.size, 0, none⟩) nl nl] 83)).alloc (.cells (zMaps nl) 85)).alloc (.cells #[.slice (some ⟨w2.heap.size + 1 + 1, 0, none⟩) nl nl] 84) = wA := ⟨_, rfl⟩
  have hA : DerW w2 lines nl (w2.heap.size + 1 + 1 + 1) (w2.heap.size + 1) (w2.heap.size + 1 + 1) w2.heap.size 0 [] (List.replicate nl (.map none)) (fun _ => .slice none 0 0) wA := by
    rw [← hwA]
    have e1 := (FamK.start (k := 18) (enc := HL.enc) (ei := 58) w2 (Nat.le_refl _) (zHdrs nl) (eo := 23) nl (fun r hr => zHdrs_at nl r hr))
    have e2 := Boxed.new (w2.alloc (.cells (zHdrs nl) 23)) 83 (.slice (some ⟨w2.heap.size, 0, none⟩) nl nl)
    have e3 := zMaps_own ((w2.alloc (.cells (zHdrs nl) 23)).alloc (.cells #[.slice (some ⟨w2.heap.size, 0, none⟩) nl nl] 83)) nl (by omega)
    have e4 := Boxed.new (((w2.alloc (.cells (zHdrs nl) 23)).alloc (.cells #[.slice (some ⟨w2.heap.size, 0, none⟩) nl nl] 83)).alloc (.cells (zMaps nl) 85)) 84 (.slice (some ⟨w2.heap.size + 1 + 1, 0, none⟩) nl nl)
    simp only [World.size_alloc] at e2 e3 e4
    refine ⟨(by repeat (first | exact Ext.refl _ | refine Ext.drew ?_ | refine Ext.drewN ?_ _ | refine Ext.alloc ?_ _)), e4, boxed_more e2 (by repeat (first | exact Ext.refl _ | refine Ext.drew ?_ | refine Ext.drewN ?_ _ | refine Ext.alloc ?_ _)), ?_, OwnK.base (e3.kept (Ext.alloc1 _ _)) (by omega), fun v hv => absurd hv (Nat.not_lt_zero _), fun u v b h => ?_, fun v b h => ?_⟩
    · have := e1.ext (show Ext (w2.alloc (.cells (zHdrs nl) 23)) ((((w2.alloc (.cells (zHdrs nl) 23)).alloc (.cells #[.slice (some ⟨w2.heap.size, 0, none⟩) nl nl] 83)).alloc (.cells (zMaps nl) 85)).alloc (.cells #[.slice (some ⟨w2.heap.size + 1 + 1, 0, none⟩) nl nl] 84)) from (by repeat (first | exact Ext.refl _ | refine Ext.drew ?_ | refine Ext.drewN ?_ _ | refine Ext.alloc ?_ _)))
      have hf : (fun v => if v < 0 then lines v else if v = 0 then [] else ([] : List HL)) = fun _ => [] := by funext v; simp
      rw [hf]; exact this
    all_goals
      rw [List.getElem?_replicate] at h
      split at h <;> cases h
  replace hnl := Lib.hid hnl
  replace hlines := Lib.hid hlines
  replace hlvr := Lib.hid hlvr
  have hxA := hxw.trans hx2
  have hB2 := blk_kept hB0 hx2
  go_wp2_with fail
  replace hwA := Lib.hid hwA
  clear hB0 hxw hx2
  go_loopw [31] (fun i X => ∃ (k : Nat) (ms : List Value) (hd : Nat → Value), k ≤ nl ∧ i = .int .i64 k ∧ DerW w2 lines nl (w2.heap.size + 1 + 1 + 1) (w2.heap.size + 1) (w2.heap.size + 1 + 1) w2.heap.size k [] ms hd X) (fun i _ => nl - (intOf i).toNat)
  case atStart => exact ⟨0, _, _, Nat.zero_le _, rfl, hA⟩
  case round =>
    obtain ⟨k, ms, hd, hk, rfl, hD⟩ := hrel
    by_cases hlt : k < nl
    · obtain ⟨v, hv, hvn⟩ := hlvr.out k hlt
      obtain ⟨b5, off5, y5, rfl, hs5, hb5, c5'⟩ := (hr5.ext hD.ext).i64 hlt
      have hy5 : y5 = (v : Int) := by have := hs5.out; rw [hv] at this; exact (Option.some.inj this).symm
      subst hy5
      have hbw := blk_kept hB2 hD.ext
      have h0 : wr.cell? ⟨w.heap.size, 0, none⟩ = some (.slice ta pn tc) := by simp [World.cell?, hbw]
      have hxr := hxA.trans hD.ext
      have hpt := path_any ts ta pn tc v wr (ht.ext hxr) htb hvn
      have hlk : lines k = lineL ls ps ts v := by rw [hlines.out]; simp only [hv, Option.getD_some, Int.toNat_natCast]
      have hlen64 : (lineL ls ps ts v).length ≤ 64 := by rw [lineL_len hl.rd.len hin]; exact hway v hvn
      have hdn := fun i u => @down_lt ts htb v (by have := ht.rd.len; omega) i u
      replace hlk := Lib.hid hlk
      replace hv := Lib.hid hv
      go_wp2_with fail
      refine hpt.mono ?_
      rintro e w3 ⟨aw, nw, cw, rfl, hnw, how, hx3⟩
      have hD3 := hD.ext' hx3
      replace how := OwnK.base how hD.ext.le
      have hnw64 : nw ≤ 64 := by
        have h1 := hnw.out
        unfold downL pathL at h1
        rw [List.length_reverse, List.length_map] at h1
        have h2 := pathF_len ts (v + 1) (v : Int)
        have := (treeB_len htb).2
        have := ht.rd.len
        omega
      clear hpt h0 c5' hbw
      replace hdn := Lib.hid hdn
      go_wp2_with fail
      go_loopw [45] (fun i X => ∃ (i' : Nat) (hd : Nat → Value), i' ≤ nw ∧ i = .int .i64 i' ∧ DerW w2 lines nl (w2.heap.size + 1 + 1 + 1) (w2.heap.size + 1) (w2.heap.size + 1 + 1) w2.heap.size k (lineTo ls ps ((downL ts v).take i')) ms hd X ∧ OwnI w2.heap.size 3 X (.slice aw nw cw) (downL ts v)) (fun i _ => nw - (intOf i).toNat)
      case atStart => exact ⟨0, hd, Nat.zero_le _, rfl, hD3, how⟩
      case round =>
        obtain ⟨i, hd, hi, rfl, hD, how⟩ := hrel
        by_cases hli : i < nw
        · obtain ⟨bu, offu, u, hau, hus, hbu, cu⟩ := (OwnK.rdc I64.len how).i64 hli
          obtain ⟨m, hum, hm⟩ := hdn.out i u hus.out
          subst hum
          have hmn : m < pn := by have := ht.rd.len; omega
          obtain ⟨bp, offp, p, rfl, hps, hbp, cp, hpx⟩ := (hp.ext (hxA.trans hD.ext)).pl hmn
          have hbw := blk_kept hB2 hD.ext
          have h2 : wr.cell? ⟨w.heap.size, 2, none⟩ = some (.slice (some ⟨bp, offp, none⟩) pn pc) := by simp [World.cell?, hbw]
          have hp4 := hsm p (List.mem_of_getElem? hps.out)
          have hls := lineTo_succ (ls := ls) (ps := ps) hus.out
          have hpn := hpx.len
          have hle := lineTo_le (ls := ls) (ps := ps) (us := downL ts v) (i + 1)
          replace hls := Lib.hid hls
          replace hpn := Lib.hid hpn
          clear hbw
          have hup := hus.out
          replace hup := Lib.hid hup
          go_wp2_with fail
          clear h2 cu cp
          go_loopw [55] (fun j X => ∃ (j' : Nat) (hd : Nat → Value), j' ≤ p.n ∧ j = .int .i64 j' ∧ DerW w2 lines nl (w2.heap.size + 1 + 1 + 1) (w2.heap.size + 1) (w2.heap.size + 1 + 1) w2.heap.size k (lineTo ls ps ((downL ts v).take i) ++ atTo ls p.xs j') ms hd X ∧ OwnI w2.heap.size 3 X (.slice aw nw cw) (downL ts v)) (fun j _ => p.n - (intOf j).toNat)
          case atStart => exact ⟨0, hd, Nat.zero_le _, rfl, by simpa [atTo] using hD, how⟩
          case round =>
            obtain ⟨j, hd, hj, rfl, hD, how⟩ := hrel
            by_cases hlj : j < p.n
            · obtain ⟨bx, offx, x, hxa, hxs, hbx, cx⟩ := ((hp.rows p (List.mem_of_getElem? hps.out)).ext (hxA.trans hD.ext)).i64 hlj
              obtain ⟨hx0, hx1⟩ := hin p (List.mem_of_getElem? hps.out) x (List.mem_of_getElem? hxs.out)
              obtain ⟨q, rfl⟩ := Int.eq_ofNat_of_zero_le hx0
              have hqn : q < ln := by omega
              obtain ⟨bl, offl, rfl, hbl, hcl⟩ := hl.rd.pos (by omega)
              obtain ⟨L, hLq⟩ : ∃ L, ls[q]? = some L := ⟨_, List.getElem?_eq_getElem (by have := hl.rd.len; omega)⟩
              have hrow : ∀ W, Ext w2 W → W.rangeAt bl (offl + q * 18) L.enc := fun W hW j v hv => (hxA.trans hW).cellv (hcl q L hLq j v hv)
              have hat := atTo_succ (ls := ls) hxs.out (L := L) (by rw [Int.toNat_natCast]; exact hLq)
              have hbw := blk_kept hB2 hD.ext
              have h1 : wr.cell? ⟨w.heap.size, 1, none⟩ = some (.slice (some ⟨bl, offl, none⟩) ln lc) := by simp [World.cell?, hbw]
              have hcur : (lineTo ls ps ((downL ts v).take i) ++ atTo ls p.xs j).length ≤ 64 := by
                have e1 : (atTo ls p.xs j).length ≤ (lawsAt ls ps (m : Int)).length := by
                  rw [← atTo_all hps.out hpn.out]
                  unfold atTo
                  rw [List.take_of_length_le (l := p.xs) (i := p.n) (by have := hpn.out; omega)]
                  conv => rhs; rw [← List.take_append_drop j p.xs, List.filterMap_append, List.length_append]
                  omega
                have e2 : (lineTo ls ps ((downL ts v).take (i + 1))).length = _ := congrArg List.length hls.out
                rw [List.length_append] at e2 ⊢
                unfold lineL at hlen64
                omega
              have hDa := hD.ext' ((Ext.alloc1 wr (.cells #[.string L.name, .int .i64 L.left.kind, .int .u32 L.left.is.p.toNat, .int .u32 L.left.is.m.toNat, .bool L.left.neg, .int .i64 L.left.mn, .int .i64 L.left.mx, .slice L.left.a L.left.n L.left.cap, .int .i64 L.right.kind, .int .u32 L.right.is.p.toNat, .int .u32 L.right.is.m.toNat, .bool L.right.neg, .int .i64 L.right.mn, .int .i64 L.right.mx, .slice L.right.a L.right.n L.right.cap, .slice L.ia L.ifs.length L.icap, .slice L.oa L.outs.length L.ocap, .int .i64 L.mode] 58)).drew)
              have hfa := hDa.fam.own k hlt
              have c7 := hD.k7.cell
              have cG := hD.fam.head k hlt
              have howa := OwnK.kept how ((Ext.alloc1 wr (.cells #[.string L.name, .int .i64 L.left.kind, .int .u32 L.left.is.p.toNat, .int .u32 L.left.is.m.toNat, .bool L.left.neg, .int .i64 L.left.mn, .int .i64 L.left.mx, .slice L.left.a L.left.n L.left.cap, .int .i64 L.right.kind, .int .u32 L.right.is.p.toNat, .int .u32 L.right.is.m.toNat, .bool L.right.neg, .int .i64 L.right.mn, .int .i64 L.right.mx, .slice L.right.a L.right.n L.right.cap, .slice L.ia L.ifs.length L.icap, .slice L.oa L.outs.length L.ocap, .int .i64 L.mode] 58)).drew)
              simp only [Nat.lt_irrefl, if_false, if_true] at hfa
              have happ := fun (w5 : World) v' ho hg hx5 hn => hDa.app hlt (X5 := w5) (v' := v') (L := L) ho hg hx5 hn
              have hlaw1 := (one_law wr L).ext ((Ext.refl _).drew)
              have hxD := hD.ext
              have c7a := hDa.k7.cell
              have cGa := hDa.fam.head k hlt
              have hxDa := hDa.ext
              have hne1 : ¬ ((q : Int) = -1) := by omega
              clear hcl hbw
              replace hLq := Lib.hid hLq
              replace hat := Lib.hid hat
              replace happ := Lib.hid happ
              go_wp2_with fail
              have hmx : Tryz.prog.follows .mixedOrders = true := by kernel_rfl
              refine wp_region_H (fun W' : World => W'.cell? ⟨w2.heap.size + 1, 0, none⟩ = some (.slice (some ⟨w2.heap.size, 0, none⟩) nl nl) ∧ W'.cell? ⟨w2.heap.size, k, none⟩ = some (hd k) ∧ W'.cell? ⟨w.heap.size, 1, none⟩ = some (.slice (some ⟨bl, offl, none⟩) ln lc) ∧ W'.rangeAt bl (offl + q * 18) L.enc) [0, 1, 2, 3, 4, 5, 6, 7, 8, 9, 10] hmx ?_
              show wpH _ _ _ _ _ _ 15 _ _ _
              have hS0 : (fun W' : World => W'.cell? ⟨w2.heap.size + 1, 0, none⟩ = some (.slice (some ⟨w2.heap.size, 0, none⟩) nl nl) ∧ W'.cell? ⟨w2.heap.size, k, none⟩ = some (hd k) ∧ W'.cell? ⟨w.heap.size, 1, none⟩ = some (.slice (some ⟨bl, offl, none⟩) ln lc) ∧ W'.rangeAt bl (offl + q * 18) L.enc) wr.drew := ⟨c7, cG, h1, hrow _ hxD.drew⟩
              refine wpH_take (i := 0) (v := (.slice (some ⟨w2.heap.size, 0, none⟩) nl nl)) rfl (by kernel_rfl) (by kernel_rfl) (by kernel_rfl) (by kernel_rfl) (by kernel_rfl) (fun _ _ _ h => h) (.inl ⟨rfl, fun W' hW' => ?_⟩) hS0 ?_
              · have u := hW'.1
                go_simp
              refine wpH_take (i := 1) (v := (.int .i64 (k : Int))) rfl (by kernel_rfl) (by kernel_rfl) (by kernel_rfl) (by kernel_rfl) (by kernel_rfl) (fun _ _ _ h => h) (.inl ⟨rfl, fun W' hW' => ?_⟩) hS0 ?_
              · go_simp
              refine wpH_take (i := 2) (v := (.slice (some ⟨w2.heap.size, 0, none⟩) nl nl)) rfl (by kernel_rfl) (by kernel_rfl) (by kernel_rfl) (by kernel_rfl) (by kernel_rfl) (fun _ _ _ h => h) (.inl ⟨rfl, fun W' hW' => ?_⟩) hS0 ?_
              · have u := hW'.1
                go_simp
              refine wpH_take (i := 3) (v := (.int .i64 (k : Int))) rfl (by kernel_rfl) (by kernel_rfl) (by kernel_rfl) (by kernel_rfl) (by kernel_rfl) (fun _ _ _ h => h) (.inl ⟨rfl, fun W' hW' => ?_⟩) hS0 ?_
              · go_simp
              refine wpH_take (i := 4) (v := (.pointer (some ⟨w2.heap.size, k, none⟩))) rfl (by kernel_rfl) (by kernel_rfl) (by kernel_rfl) (by kernel_rfl) (by kernel_rfl) (fun _ _ _ h => h) (.inl ⟨rfl, fun W' hW' => ?_⟩) hS0 ?_
              · go_simp
              refine wpH_take (i := 5) (v := (hd k)) rfl (by kernel_rfl) (by kernel_rfl) (by kernel_rfl) (by kernel_rfl) (by kernel_rfl) (fun _ _ _ h => h) (.inl ⟨rfl, fun W' hW' => ?_⟩) hS0 ?_
              · have u := hW'.2.1
                go_simp
              refine wpH_take (i := 6) (v := (.pointer (some ⟨w.heap.size, 1, none⟩))) rfl (by kernel_rfl) (by kernel_rfl) (by kernel_rfl) (by kernel_rfl) (by kernel_rfl) (fun _ _ _ h => h) (.inl ⟨rfl, fun W' hW' => ?_⟩) hS0 ?_
              · go_simp
              refine wpH_take (i := 7) (v := (.slice (some ⟨bl, offl, none⟩) ln lc)) rfl (by kernel_rfl) (by kernel_rfl) (by kernel_rfl) (by kernel_rfl) (by kernel_rfl) (fun _ _ _ h => h) (.inl ⟨rfl, fun W' hW' => ?_⟩) hS0 ?_
              · have u := hW'.2.2.1
                go_simp
              refine wpH_take (i := 8) (v := (.int .i64 (q : Int))) rfl (by kernel_rfl) (by kernel_rfl) (by kernel_rfl) (by kernel_rfl) (by kernel_rfl) (fun _ _ _ h => h) (.inl ⟨rfl, fun W' hW' => ?_⟩) hS0 ?_
              · go_simp
              refine wpH_take (i := 9) (v := (.pointer (some ⟨bl, offl + q * 18, none⟩))) rfl (by kernel_rfl) (by kernel_rfl) (by kernel_rfl) (by kernel_rfl) (by kernel_rfl) (fun _ _ _ h => h) (.inl ⟨rfl, fun W' hW' => ?_⟩) hS0 ?_
              · go_simp
              refine wpH_take (i := 10) (v := lawV L) rfl (by kernel_rfl) (by kernel_rfl) (by kernel_rfl) (by kernel_rfl) (by kernel_rfl) (fun _ _ _ h => h) (yields_law L bl (offl + q * 18) (fun W' hW' => hW'.2.2.2) _ rfl (by go_simp) rfl) hS0 ?_
              refine wpH_step (k := 11) rfl (by kernel_rfl) rfl fun K hK => ?_
              go_simp
              refine hK _ _ (fun _ => ⟨c7a, cGa, (Ext.alloc1 _ _).cellv h1, hrow _ (hxD.trans ((Ext.alloc1 _ _).drew))⟩) ?_
              clear hK K hS0
              refine wpH_step (k := 12) rfl (by kernel_rfl) rfl fun K hK => ?_
              refine oper_appW w2 _ L _ _ 23 rfl 58 Tryz.underlying23 info_lawT rfl (by decide) HL.len (HL.one L) (by decide) _ _ rfl hfa hxDa _ rfl hlaw1 (by omega) ?_
              intro v5 w5 o5 x5 g5 n5
              obtain ⟨a6, m6, c6, hm6, rfl, _⟩ := OwnK.rdn HL.len o5
              replace hm6 := Lib.hid hm6
              obtain ⟨s0, s1, s2, s3, s4⟩ := happ.out w5 (.slice a6 m6 c6) (by rw [List.append_assoc] at o5 ⊢; exact o5) g5 x5 n5
              have hbw5 := blk_kept hB2 x5
              refine hK _ _ (fun _ => ⟨s3, s1, by simp [World.cell?, hbw5], hrow _ x5⟩) ?_
              clear hK K hbw5 o5 g5 n5
              refine wpH_step (k := 13) rfl (by kernel_rfl) rfl fun K hK => ?_
              go_simp
              refine hK _ _ (needA_no (by kernel_rfl)) ?_
              clear hK K
              refine wpH_step (k := 14) rfl (by kernel_rfl) rfl fun K hK => ?_
              go_simp
              refine hK _ _ (needA_no (by kernel_rfl)) ?_
              clear hK K
              refine wpH_last (by kernel_rfl) ?_
              have s6 := s4 _ _ _ howa
              clear s4 s3 s2 s1 howa happ hfa hDa c7 c7a cG cGa hlaw1 how hD
              go_wp2_with fail
              have s7 : DerW w2 lines nl (w2.heap.size + 1 + 1 + 1) (w2.heap.size + 1) (w2.heap.size + 1 + 1) w2.heap.size k (lineTo ls ps ((downL ts v).take i) ++ atTo ls p.xs (j + 1)) ms (fun v => if v = k then Value.slice a6 m6 c6 else hd v) (w5.setCell ⟨w2.heap.size, k, none⟩ (.slice a6 m6 c6)) := by
                rw [hat.out, ← List.append_assoc]; exact s0
              rw [← hxa, ← hau]
              refine ⟨?_, (by simp [intOf]; omega)⟩
              repeat apply Exists.intro
              exact ⟨⟨j + 1, _, by omega, by go_num, s7, s6⟩, rfl⟩
            · have hjn : j = p.n := by omega
              subst hjn
              have hD7 : DerW w2 lines nl (w2.heap.size + 1 + 1 + 1) (w2.heap.size + 1) (w2.heap.size + 1 + 1) w2.heap.size k (lineTo ls ps ((downL ts v).take (i + 1))) ms hd wr := by
                rw [hls.out, ← atTo_all hps.out hpn.out]; exact hD
              go_wp2_with fail
              (first | exact ⟨⟨i + 1, _, by omega, by go_num, hD7, how⟩, (by simp [intOf]; omega)⟩ | (go_roundw; case rel => exact ⟨i + 1, _, by omega, by go_num, hD7, how⟩; case measure => exact (by simp [intOf]; omega)))
        · have hin' : i = nw := by omega
          subst hin'
          have hD7 : DerW w2 lines nl (w2.heap.size + 1 + 1 + 1) (w2.heap.size + 1) (w2.heap.size + 1 + 1) w2.heap.size k (lines k) ms hd wr := by
            rw [hlk.out]
            unfold lineL
            rw [List.take_of_length_le (by have := hnw.out; omega)] at hD
            exact hD
          obtain ⟨m1, ⟨u0, m2⟩, m3⟩ := hD7.map hlt rfl
          have c8 := ((Ext.refl wr).alloc (.map #[] 0)).cellv hD7.k8.cell
          have c8' := hD7.k8.cell
          have hmm := @run_makeMap Tryz.prog
          go_wp2_with fail
          (first | exact ⟨⟨k + 1, _, _, by omega, by go_num, m1⟩, (by simp [intOf]; omega)⟩ | (go_roundw; case rel => exact ⟨k + 1, _, _, by omega, by go_num, m1⟩; case measure => exact (by simp [intOf]; omega)))
    · have hkn : k = nl := by omega
      subst hkn
      go_wp2_with fail
      go_ret
      refine ⟨w2, _, _, w2.heap.size + 1 + 1, w2.heap.size, ms, hd, rfl, hxA, ?_⟩
      rw [← hnl.out, ← hlines.out]
      refine ⟨hD.ext, hD.k8, hD.k7, ⟨hD.fam.base, hD.fam.blk, hD.fam.head, fun v hv => ?_, hD.fam.apart⟩, hD.own, fun v hv => ?_, hD.inj⟩
      · have := hD.fam.own v hv
        simpa [hv] using this
      · obtain ⟨b, h1, h2, h3⟩ := hD.maps v hv
        exact ⟨b, 0, _, h1, h2, Nat.le_refl _, h3, fun key val hh => by cases hh⟩
end Go.Proofs.YtadncjpknckaaaaGreatDoor
