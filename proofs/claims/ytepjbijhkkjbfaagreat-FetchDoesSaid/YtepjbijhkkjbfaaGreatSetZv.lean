import Derived.Test.YtepjbijhkkjbfaaGreatSetZl
import Derived.Test.YtepjbijhkkjbfaaGreatSetZq
set_option linter.unusedVariables false
set_option linter.unusedSimpArgs false
namespace Go.Proofs.YtepjbijhkkjbfaaGreat
open Go.RowKit
variable {Tu : Nat → Prop}
def boA (x : Bool) : Array Value := #[.bool x]
theorem boA_size (x : Bool) : (boA x).size = 1 := by simp [boA]
theorem own_set1 {α : Type} {f : α → Array Value} {W : World} {B t : Nat} {v : Value} {l : List α} (hf : ∀ x, (f x).size = 1) (h : OwnRows f 1 W B t v l) {k : Nat} (hk : k < l.length) (x : α) {u : Value} (hu : (f x).toList = [u]) :
    ∃ g, v.ownBlock = some g ∧ OwnRows f 1 (W.setCell ⟨g, k, none⟩ u) B t v (l.set k x) ∧ W.frozen? ⟨g, k, none⟩ = false ∧ Upd (fun j => j = g) W (W.setCell ⟨g, k, none⟩ u) := by
  obtain ⟨g, cur, hg, hb, hlen, ho⟩ := OwnRows.turn hf (by omega) h hk x; refine ⟨g, hg, ?_, frozen_of_row W g k _ _ hb, (Upd.refl _ _).setCell (p := ⟨g, k, none⟩) _ fun _ => rfl⟩; have e : W.setCell ⟨g, k, none⟩ u = W.setRow g (splice cur (k * 1) (f x).toList).toArray := by
    rw [setCell_eq_setRow W g k cur.toArray t (0, 0) _ hb, hu, splice_set _ _ _ (by omega)]
  rw [e]; exact ho
theorem own_cell1 {α : Type} {f : α → Array Value} {W : World} {B t : Nat} {v : Value} {l : List α} (hf : ∀ x, (f x).size = 1) (h : OwnRows f 1 W B t v l) {k : Nat} (hk : k < l.length) {u : Value} (hu : (f l[k]).toList = [u]) :
    ∃ g c, v = .slice (some ⟨g, 0, none⟩) l.length c ∧ W.cell? ⟨g, k, none⟩ = some u := by
  obtain ⟨g, c, hv, _, _, h1, h2⟩ := OwnRows.get hf h hk; have h3 : (f l[k])[0]? = some u := by rw [← Array.getElem?_toList, hu]; rfl
  have := cell_of_seg h1 0 u (by rw [h2]; exact h3); rw [add_none, Nat.mul_one, Nat.add_zero] at this; exact ⟨g, c, hv, this⟩
theorem row_set {α : Type} (m p : Nat) (f f' : Nat → α) (x : α) (h : ∀ i, f' i = if i = p then x else f i) : (List.range m).map f' = ((List.range m).map f).set p x := by
  apply List.ext_getElem
  · simp
  · intro i h1 h2
    rw [List.getElem_set]; simp only [List.getElem_map, List.getElem_range, h]
    by_cases hi : i = p
    · rw [if_pos hi, if_pos hi.symm]
    · rw [if_neg hi, if_neg (fun e => hi e.symm)]
def rowK (n : Nat) (K : KM) (l : Nat) : List Bool := (List.range (sizeL n l)).map fun p => (K l p).isSome
def rowD (n : Nat) (K : KM) (l : Nat) : List Dig := (List.range (sizeL n l)).map fun p => (K l p).getD dig0
def rowM (n : Nat) (M : BM) : List Bool := (List.range n).map fun p => (M p).isSome
theorem rowK_length (n : Nat) (K : KM) (l : Nat) : (rowK n K l).length = sizeL n l := by simp [rowK]
theorem rowD_length (n : Nat) (K : KM) (l : Nat) : (rowD n K l).length = sizeL n l := by simp [rowD]
theorem rowM_length (n : Nat) (M : BM) : (rowM n M).length = n := by simp [rowM]
theorem rowK_put (n : Nat) (K : KM) (l p : Nat) (d : Dig) : rowK n (putK K l p d) l = (rowK n K l).set p true := row_set _ _ _ _ _ fun i => by
  unfold putK
  by_cases h : i = p <;> simp [h]
theorem rowK_ne (n : Nat) (K : KM) {l l' : Nat} (p : Nat) (d : Dig) (h : l' ≠ l) : rowK n (putK K l p d) l' = rowK n K l' := by
  unfold rowK putK; simp [h]
theorem rowD_put (n : Nat) (K : KM) (l p : Nat) (d : Dig) : rowD n (putK K l p d) l = (rowD n K l).set p d := row_set _ _ _ _ _ fun i => by
  unfold putK
  by_cases h : i = p <;> simp [h]
theorem rowD_ne (n : Nat) (K : KM) {l l' : Nat} (p : Nat) (d : Dig) (h : l' ≠ l) : rowD n (putK K l p d) l' = rowD n K l' := by
  unfold rowD putK; simp [h]
theorem rowM_put (n : Nat) (M : BM) (p : Nat) (R : Bytes) : rowM n (putM M p R) = (rowM n M).set p true := row_set _ _ _ _ _ fun i => by
  unfold putM
  by_cases h : i = p <;> simp [h]
theorem bytesM_put (n : Nat) (M : BM) (p : Nat) (R : Bytes) : bytesM n (putM M p R) = (bytesM n M).set p R := row_set _ _ _ _ _ fun i => by
  unfold putM
  by_cases h : i = p <;> simp [h]
theorem rowK_get {n : Nat} {K : KM} {l p : Nat} (h : p < (rowK n K l).length) : (rowK n K l)[p] = (K l p).isSome := by simp [rowK]
theorem rowD_get {n : Nat} {K : KM} {l p : Nat} (h : p < (rowD n K l).length) : (rowD n K l)[p] = (K l p).getD dig0 := by simp [rowD]
theorem rowM_get {n : Nat} {M : BM} {p : Nat} (h : p < (rowM n M).length) : (rowM n M)[p] = (M p).isSome := by simp [rowM]
structure RX where
  gs : Nat
  cs : Nat
  kv : Value
  kx : List SlC
  dv : Value
  dx : List SlC
  gt : Nat
  ct : Nat
  gy : Nat
  cy : Nat
  hv : Value
  lv : Value
  lx : List SlC
def rfV (c : Nat) (root : Dig) (n m : Nat) (X : RX) : List Value := .pointer (some ⟨c, 0, none⟩) :: (encB root.1 ++ [.slice (some ⟨X.gs, 0, none⟩) m X.cs, X.kv, X.dv, .slice (some ⟨X.gt, 0, none⟩) n X.ct, .slice (some ⟨X.gy, 0, none⟩) n X.cy, X.hv, X.lv])
theorem rfV_get (c : Nat) (root : Dig) (n m : Nat) (X : RX) (k : Nat) : (rfV c root n m X)[33 + k]? = [.slice (some ⟨X.gs, 0, none⟩) m X.cs, X.kv, X.dv, .slice (some ⟨X.gt, 0, none⟩) n X.ct, .slice (some ⟨X.gy, 0, none⟩) n X.cy, X.hv, X.lv][k]? := by
  have hl : (encB root.1).length = 32 := by rw [encB_length, root.2]
  rw [rfV, show 33 + k = (32 + k) + 1 by omega, List.getElem?_cons_succ, List.getElem?_append_right (by omega), hl, Nat.add_sub_cancel_left]
def Spare (Tu S : Nat → Prop) (W : World) (t : TypeId) : Prop := ∀ k cs fr, W.heap[k]? = some (.cells cs t fr) → ¬ Tu k → ¬ S k
theorem Spare.not {S : Nat → Prop} {W : World} {t : TypeId} (h : Spare Tu S W t) {k : Nat} {cs : Array Value} {fr : Nat × Nat} (hk : W.heap[k]? = some (.cells cs t fr)) (hT : ¬ Tu k) : ¬ S k := h k cs fr hk hT
theorem Spare.own {α : Type} {f : α → Array Value} {m B : Nat} {v : Value} {l : List α} {S : Nat → Prop} {W W' : World} {t : TypeId} (h : Spare Tu S W t) (ho : OwnRows f m W B t v l) (hT : ∀ k, v.ownBlock = some k → ¬ Tu k) (hu : Upd S W W') : OwnRows f m W' B t v l :=
  OwnRows.upd ho hu fun k e => by obtain ⟨cur, hc⟩ := own_cells ho e; exact h.not hc (hT k e)
theorem Spare.byt {B : Nat} {v : Value} {R : Bytes} {S : Nat → Prop} {W W' : World} (h : Spare Tu S W 5) (ho : OwnB W B v R) (hT : ∀ k, v.ownBlock = some k → ¬ Tu k) (hu : Upd S W W') : OwnB W' B v R :=
  ho.upd hu fun k e => by obtain ⟨cur, hc⟩ := ho.block e; exact h.not hc (hT k e)
theorem Spare.nil (W : World) (t : TypeId) : Spare Tu (fun _ => False) W t := fun _ _ _ _ _ => id
theorem Spare.sub {S : Nat → Prop} {W : World} (t : TypeId) (h : ∀ k, S k → Tu k) : Spare Tu S W t := fun k _ _ _ hT e => hT (h k e)
theorem Spare.one {W : World} {g : Nat} {cs : Array Value} {t t' : TypeId} {fr : Nat × Nat} (hg : W.heap[g]? = some (.cells cs t fr)) (ht : t ≠ t') : Spare Tu (fun k => k = g) W t' := fun k cs' fr' hk _ e => by
  have e2 : k = g := e; subst e2; rw [hg] at hk; simp only [Option.some.injEq, Obj.cells.injEq] at hk; exact ht hk.2.1
structure RS (Tu : Nat → Prop) (W : World) (g c n : Nat) (root : Dig) (X : RX) : Prop where
  blk : Blk W g 84 (rfV c root n (depthM n) X)
  gT : ¬ Tu g
  szs : OwnRows inA 1 W 0 3 (.slice (some ⟨X.gs, 0, none⟩) (depthM n) X.cs) (sizesM n)
  szT : ¬ Tu X.gs
  kr : OwnRows slA 1 W 0 81 X.kv X.kx
  kT : ∀ k, X.kv.ownBlock = some k → ¬ Tu k
  kl : X.kx.length = depthM n
  dr : OwnRows slA 1 W 0 45 X.dv X.dx
  dT : ∀ k, X.dv.ownBlock = some k → ¬ Tu k
  dl : X.dx.length = depthM n
structure RK (Tu : Nat → Prop) (W : World) (n : Nat) (xs : List SlC) (gt : Nat) (K : KM) : Prop where
  row : ∀ l (h : l < xs.length), OwnRows boA 1 W 0 4 xs[l].v (rowK n K l)
  nT : ∀ l (h : l < xs.length) k, xs[l].v.ownBlock = some k → ¬ Tu k
  ne : ∀ l l' (h : l < xs.length) (h' : l' < xs.length) k, xs[l].v.ownBlock = some k → xs[l'].v.ownBlock = some k → l = l'
  gt : ∀ l (h : l < xs.length), xs[l].v.ownBlock ≠ some gt
structure RD (Tu : Nat → Prop) (W : World) (n : Nat) (xs : List SlC) (K : KM) : Prop where
  row : ∀ l (h : l < xs.length), OwnD W 0 xs[l].v (rowD n K l)
  nT : ∀ l (h : l < xs.length) k, xs[l].v.ownBlock = some k → ¬ Tu k
  ne : ∀ l l' (h : l < xs.length) (h' : l' < xs.length) k, xs[l].v.ownBlock = some k → xs[l'].v.ownBlock = some k → l = l'
structure RM (Tu : Nat → Prop) (W : World) (n gt ct : Nat) (M : BM) : Prop where
  row : OwnRows boA 1 W 0 4 (.slice (some ⟨gt, 0, none⟩) n ct) (rowM n M)
  nT : ¬ Tu gt
structure RL (Tu : Nat → Prop) (W : World) (v : Value) (Rs : List Bytes) (li : List (SlC × Bytes)) : Prop where
  row : OwnRows slA 1 W 0 42 v (li.map (·.1))
  nT : ∀ k, v.ownBlock = some k → ¬ Tu k
  leaf : ∀ p ∈ li, OwnB W 0 p.1.v p.2 ∧ p.2.length < 65536 ∧ ∀ k, p.1.v.ownBlock = some k → ¬ Tu k
  all : li.map (·.2) = Rs
structure RP (Tu : Nat → Prop) (W : World) (v : Value) (xs : List SlC) (P : List (List Dig)) : Prop where
  row : OwnRows slA 1 W 0 45 v xs
  vT : ∀ k, v.ownBlock = some k → ¬ Tu k
  len : xs.length = P.length
  each : ∀ i (h : i < xs.length) (h' : i < P.length), OwnD W 0 xs[i].v P[i]
  nT : ∀ i (h : i < xs.length) k, xs[i].v.ownBlock = some k → ¬ Tu k
def RO (Tu : Nat → Prop) (W : World) (n : Nat) (X : RX) : Option (List Bytes) → Prop
  | none => X.hv = .slice none 0 0 ∧ X.lv = .slice none 0 0
  | some hs => hs.length = n ∧ (∃ li, RL Tu W X.hv hs li) ∧ RP Tu W X.lv X.lx (levelsM shaM (hs.map (leafM shaM))) ∧ X.hv.ownBlock ≠ some X.gy ∧ ∀ i (h : i < X.lx.length) j (h' : j < X.dx.length) k, X.lx[i].v.ownBlock = some k → X.dx[j].v.ownBlock ≠ some k
section
variable {W W' : World} {S : Nat → Prop} {g c n gt ct : Nat} {root : Dig} {X : RX} {xs : List SlC} {K : KM} {M : BM} {v : Value} {Rs : List Bytes} {li : List (SlC × Bytes)} {P : List (List Dig)} {O : Option (List Bytes)}
theorem RS.upd (h : RS Tu W g c n root X) (hu : Upd S W W') (h1 : Spare Tu S W 84) (h2 : Spare Tu S W 3) (h3 : Spare Tu S W 81) (h4 : Spare Tu S W 45) : RS Tu W' g c n root X :=
  ⟨h.blk.upd hu (h1.not h.blk h.gT), h.gT, h2.own h.szs (fun k e => by cases e; exact h.szT) hu, h.szT, h3.own h.kr h.kT hu, h.kT, h.kl, h4.own h.dr h.dT hu, h.dT, h.dl⟩
theorem RK.upd (h : RK Tu W n xs gt K) (hu : Upd S W W') (h1 : Spare Tu S W 4) : RK Tu W' n xs gt K := ⟨fun l hl => h1.own (h.row l hl) (h.nT l hl) hu, h.nT, h.ne, h.gt⟩
theorem RD.upd (h : RD Tu W n xs K) (hu : Upd S W W') (h1 : Spare Tu S W 23) : RD Tu W' n xs K := ⟨fun l hl => h1.own (h.row l hl) (h.nT l hl) hu, h.nT, h.ne⟩
theorem RM.upd (h : RM Tu W n gt ct M) (hu : Upd S W W') (h1 : Spare Tu S W 4) : RM Tu W' n gt ct M := ⟨h1.own h.row (fun k e => by cases e; exact h.nT) hu, h.nT⟩
theorem RL.upd (h : RL Tu W v Rs li) (hu : Upd S W W') (h1 : ∀ k, v.ownBlock = some k → ¬ S k) (h2 : Spare Tu S W 5) : RL Tu W' v Rs li :=
  ⟨OwnRows.upd h.row hu h1, h.nT, fun p hp => ⟨h2.byt (h.leaf p hp).1 (h.leaf p hp).2.2 hu, (h.leaf p hp).2⟩, h.all⟩
theorem RP.upd (h : RP Tu W v xs P) (hu : Upd S W W') (h1 : ∀ k, v.ownBlock = some k → ¬ S k) (h2 : ∀ i (h : i < xs.length) k, xs[i].v.ownBlock = some k → ¬ S k) : RP Tu W' v xs P :=
  ⟨OwnRows.upd h.row hu h1, h.vT, h.len, fun i hi hi' => OwnRows.upd (h.each i hi hi') hu (h2 i hi), h.nT⟩
theorem RO.upd (h : RO Tu W n X O) (hu : Upd S W W') (h1 : ∀ k, X.hv.ownBlock = some k → (∃ cur, W.heap[k]? = some (.cells cur 42 (0, 0))) → ¬ Tu k → k ≠ X.gy → ¬ S k) (h2 : Spare Tu S W 5) (h3 : Spare Tu S W 45)
    (h4 : ∀ k, (∃ cur, W.heap[k]? = some (.cells cur 23 (0, 0))) → ¬ Tu k → (∀ j (h' : j < X.dx.length), X.dx[j].v.ownBlock ≠ some k) → ¬ S k) : RO Tu W' n X O := by
  cases O with
  | none => exact h
  | some hs =>
    obtain ⟨a1, ⟨li, a2⟩, a3, a4, a5⟩ := h; exact ⟨a1, ⟨li, a2.upd hu (fun k e => h1 k e (own_cells a2.row e) (a2.nT k e) (fun e2 => a4 (by rw [← e2]; exact e))) h2⟩, a3.upd hu (fun k e => by obtain ⟨cur, hc⟩ := own_cells a3.row e; exact h3.not hc (a3.vT k e)) (fun i hi k e => h4 k (own_cells (a3.each i hi (by rw [← a3.len]; exact hi)) e) (a3.nT i hi k e) (fun j hj => a5 i hi j hj k e)), a4, a5⟩
end
structure RF4 (Tu : Nat → Prop) (W : World) (g c n : Nat) (root : Dig) (O : Option (List Bytes)) (K1 K2 : KM) (M1 M2 : BM) (X : RX) : Prop where
  st : RS Tu W g c n root X
  k : RK Tu W n X.kx X.gt K1
  d : RD Tu W n X.dx K2
  t : RM Tu W n X.gt X.ct M1
  y : ∃ li, RL Tu W (.slice (some ⟨X.gy, 0, none⟩) n X.cy) (bytesM n M2) li
  o : RO Tu W n X O
  n1 : 1 ≤ n
  n2 : n ≤ 1024
abbrev RFet (Tu : Nat → Prop) (W : World) (g c n : Nat) (root : Dig) (O : Option (List Bytes)) (s : KM × BM) (X : RX) : Prop := RF4 Tu W g c n root O s.1 s.1 s.2 s.2 X
def RW (X : RX) (k : Nat) : Prop := (∃ i, ∃ h : i < X.kx.length, X.kx[i].v.ownBlock = some k) ∨ (∃ i, ∃ h : i < X.dx.length, X.dx[i].v.ownBlock = some k) ∨ k = X.gt ∨ k = X.gy
section
variable {W W' : World} {S : Nat → Prop} {g c n : Nat} {root : Dig} {O : Option (List Bytes)} {K1 K2 : KM} {M1 M2 : BM} {X : RX}
theorem RF4.upd (h : RF4 Tu W g c n root O K1 K2 M1 M2 X) (hu : Upd S W W') (hs : ∀ t, t ≠ 42 → t ≠ 88 → Spare Tu S W t) (h1 : ¬ S X.gy) (h2 : ∀ k, X.hv.ownBlock = some k → ¬ Tu k → ¬ S k) : RF4 Tu W' g c n root O K1 K2 M1 M2 X := by
  obtain ⟨li, hy⟩ := h.y; exact ⟨h.st.upd hu (hs _ (by decide) (by decide)) (hs _ (by decide) (by decide)) (hs _ (by decide) (by decide)) (hs _ (by decide) (by decide)), h.k.upd hu (hs _ (by decide) (by decide)), h.d.upd hu (hs _ (by decide) (by decide)), h.t.upd hu (hs _ (by decide) (by decide)),
    ⟨li, hy.upd hu (fun k e => by cases e; exact h1) (hs _ (by decide) (by decide))⟩,
    h.o.upd hu (fun k e _ hT _ => h2 k e hT) (hs _ (by decide) (by decide)) (hs _ (by decide) (by decide)) (fun k ⟨cur, hc⟩ hT _ => (hs _ (by decide) (by decide)).not hc hT), h.n1, h.n2⟩
theorem RF4.gyT (h : RF4 Tu W g c n root O K1 K2 M1 M2 X) : ¬ Tu X.gy := by obtain ⟨li, hy⟩ := h.y; exact hy.nT _ rfl
theorem RF4.kept (h : RF4 Tu W g c n root O K1 K2 M1 M2 X) (hu : Kept W W') : RF4 Tu W' g c n root O K1 K2 M1 M2 X := h.upd hu (fun t _ _ => Spare.nil W t) id (fun _ _ _ => id)
theorem RF4.foreign (h : RF4 Tu W g c n root O K1 K2 M1 M2 X) (hu : Upd S W W') (hS : ∀ k, S k → Tu k) : RF4 Tu W' g c n root O K1 K2 M1 M2 X := h.upd hu (fun t _ _ => Spare.sub t hS) (fun e => h.gyT (hS _ e)) (fun k _ hT e => hT (hS k e))
theorem RF4.rwT (h : RF4 Tu W g c n root O K1 K2 M1 M2 X) {k : Nat} (hk : RW X k) : ¬ Tu k := by
  rcases hk with ⟨i, hi, e⟩ | ⟨i, hi, e⟩ | rfl | rfl
  · exact h.k.nT i hi k e
  · exact h.d.nT i hi k e
  · exact h.t.nT
  · exact h.gyT
theorem RF4.rw_type (h : RF4 Tu W g c n root O K1 K2 M1 M2 X) {k : Nat} (hk : RW X k) : (∃ cur t, W.heap[k]? = some (.cells cur t (0, 0)) ∧ (t = 4 ∨ t = 23)) ∨ (k = X.gy ∧ ∃ cur, W.heap[k]? = some (.cells cur 42 (0, 0))) := by
  rcases hk with ⟨i, hi, e⟩ | ⟨i, hi, e⟩ | rfl | rfl
  · obtain ⟨cur, hc⟩ := own_cells (h.k.row i hi) e; exact .inl ⟨cur, _, hc, .inl rfl⟩
  · obtain ⟨cur, hc⟩ := own_cells (h.d.row i hi) e; exact .inl ⟨cur, _, hc, .inr rfl⟩
  · obtain ⟨cur, hc⟩ := own_cells h.t.row (k := X.gt) rfl; exact .inl ⟨cur, _, hc, .inl rfl⟩
  · obtain ⟨li, hy⟩ := h.y
    exact .inr ⟨rfl, own_cells hy.row rfl⟩
theorem RF4.cells (h : RF4 Tu W g c n root O K1 K2 M1 M2 X) : W.cell? ⟨g, 0, none⟩ = some (.pointer (some ⟨c, 0, none⟩)) ∧ W.cell? ⟨g, 33, none⟩ = some (.slice (some ⟨X.gs, 0, none⟩) (depthM n) X.cs) ∧ W.cell? ⟨g, 34, none⟩ = some X.kv ∧ W.cell? ⟨g, 35, none⟩ = some X.dv ∧ W.cell? ⟨g, 36, none⟩ = some (.slice (some ⟨X.gt, 0, none⟩) n X.ct) ∧ W.cell? ⟨g, 37, none⟩ = some (.slice (some ⟨X.gy, 0, none⟩) n X.cy) ∧ W.cell? ⟨g, 38, none⟩ = some X.hv ∧ W.cell? ⟨g, 39, none⟩ = some X.lv :=
  ⟨h.st.blk.cell rfl, h.st.blk.cell (rfV_get c root n _ X 0), h.st.blk.cell (rfV_get c root n _ X 1), h.st.blk.cell (rfV_get c root n _ X 2), h.st.blk.cell (rfV_get c root n _ X 3), h.st.blk.cell (rfV_get c root n _ X 4), h.st.blk.cell (rfV_get c root n _ X 5), h.st.blk.cell (rfV_get c root n _ X 6)⟩
theorem RF4.size (h : RF4 Tu W g c n root O K1 K2 M1 M2 X) {l : Nat} (hl : l < depthM n) : W.cell? ⟨X.gs, l, none⟩ = some (.int .i64 (sizeL n l : Int)) := by
  have hl' : l < (sizesM n).length := by rw [sizesM_length]; exact hl
  obtain ⟨g', c', hv, hc⟩ := own_cell1 (fun _ => rfl) h.st.szs hl' (u := .int .i64 (sizeL n l : Int)) (by rw [sizesM_get hl']; rfl); simp only [Value.slice.injEq, Option.some.injEq, Addr.mk.injEq] at hv; obtain ⟨⟨rfl, _⟩, _⟩ := hv; exact hc
theorem RF4.sz (h : RF4 Tu W g c n root O K1 K2 M1 M2 X) (l : Nat) : 1 ≤ sizeL n l ∧ sizeL n l ≤ 1024 := ⟨sizeL_pos h.n1 l, Nat.le_trans (sizeL_le h.n1 l) h.n2⟩
theorem slv (x : SlC) : (slA x).toList = [x.v] := rfl
theorem RF4.atK (h : RF4 Tu W g c n root O K1 K2 M1 M2 X) {l p : Nat} (hl : l < depthM n) (hp : p < sizeL n l) :
    ∃ gk ck g1 c1, X.kv = .slice (some ⟨gk, 0, none⟩) (depthM n) ck ∧ W.cell? ⟨gk, l, none⟩ = some (.slice (some ⟨g1, 0, none⟩) (sizeL n l) c1) ∧ W.cell? ⟨g1, p, none⟩ = some (.bool (K1 l p).isSome) ∧ W.frozen? ⟨g1, p, none⟩ = false ∧ RW X g1 ∧
      ∀ d, RF4 Tu (W.setCell ⟨g1, p, none⟩ (.bool true)) g c n root O (putK K1 l p d) K2 M1 M2 X := by
  have hlx : l < X.kx.length := by rw [h.st.kl]; exact hl
  obtain ⟨gk, ck, hv, hc⟩ := own_cell1 (fun _ => rfl) h.st.kr hlx (slv _); rw [h.st.kl] at hv; have hrow := h.k.row l hlx; have hpl : p < (rowK n K1 l).length := by rw [rowK_length]; exact hp
  obtain ⟨g1, c1, hv1, hc1⟩ := own_cell1 boA_size hrow hpl (u := .bool (K1 l p).isSome) (by rw [rowK_get]; rfl); rw [rowK_length] at hv1; obtain ⟨g2, hg2, hset, hfz, hu⟩ := own_set1 boA_size hrow hpl true (u := .bool true) rfl; have e : g2 = g1 := by rw [hv1] at hg2; exact (Option.some.inj hg2).symm
  subst e; obtain ⟨cur, hcur⟩ := own_cells hrow hg2; have sp : ∀ t, 4 ≠ t → Spare Tu (fun k => k = g2) W t := fun t ht => Spare.one hcur ht; obtain ⟨li, hy⟩ := h.y; refine ⟨gk, ck, g2, c1, hv, by rw [hc, hv1], hc1, hfz, .inl ⟨l, hlx, hg2⟩, fun d => ⟨h.st.upd hu (sp _ (by decide)) (sp _ (by decide)) (sp _ (by decide)) (sp _ (by decide)), ⟨fun l' hl' => ?_, h.k.nT, h.k.ne, h.k.gt⟩, h.d.upd hu (sp _ (by decide)), ⟨OwnRows.upd h.t.row hu (fun k e e2 => ?_), h.t.nT⟩,
    ⟨li, hy.upd hu (fun k e e2 => ?_) (sp _ (by decide))⟩, h.o.upd hu (fun k _ ⟨cu, hk⟩ _ _ e2 => ?_) (sp _ (by decide)) (sp _ (by decide)) (fun k ⟨cu, hk⟩ hT _ => (sp _ (by decide)).not hk hT), h.n1, h.n2⟩⟩
  · by_cases e : l' = l
    · subst e; rw [rowK_put]; exact hset
    · rw [rowK_ne n K1 p d e]
      exact OwnRows.upd (h.k.row l' hl') hu fun k e1 e2 => e (h.k.ne l' l hl' hlx k e1 (by rw [hg2, show k = g2 from e2]))
  · cases e
    exact h.k.gt l hlx (by rw [hg2, show X.gt = g2 from e2])
  · cases e
    obtain ⟨cu, hk⟩ := own_cells hy.row (k := X.gy) rfl; exact cells_ne hcur hk (by decide) (show g2 = X.gy from (show X.gy = g2 from e2).symm)
  · exact cells_ne hcur hk (by decide) (show g2 = k from (show k = g2 from e2).symm)
theorem RF4.atD (h : RF4 Tu W g c n root O K1 K2 M1 M2 X) {l p : Nat} (hl : l < depthM n) (hp : p < sizeL n l) :
    ∃ gk ck g1 c1 cur, X.dv = .slice (some ⟨gk, 0, none⟩) (depthM n) ck ∧ W.cell? ⟨gk, l, none⟩ = some (.slice (some ⟨g1, 0, none⟩) (sizeL n l) c1) ∧ segB W ⟨g1, p * 32, none⟩ 32 = true ∧ segV W ⟨g1, p * 32, none⟩ 32 = dA ((K2 l p).getD dig0) ∧ Blk W g1 23 cur ∧ p * 32 + 32 ≤ cur.length ∧ RW X g1 ∧
      ∀ d, RF4 Tu (W.setRow g1 (splice cur (p * 32) (dA d).toList).toArray) g c n root O K1 (putK K2 l p d) M1 M2 X := by
  have hlx : l < X.dx.length := by rw [h.st.dl]; exact hl
  obtain ⟨gk, ck, hv, hc⟩ := own_cell1 (fun _ => rfl) h.st.dr hlx (slv _); rw [h.st.dl] at hv; have hrow := h.d.row l hlx; have hpl : p < (rowD n K2 l).length := by rw [rowD_length]; exact hp
  obtain ⟨g1, c1, hv1, -, -, s1, s2⟩ := OwnRows.get dA_size hrow hpl; rw [rowD_length] at hv1; rw [rowD_get] at s2; obtain ⟨g2, cur, hg2, hcur, hlen, -⟩ := OwnRows.turn dA_size (by omega) hrow hpl dig0; have e : g2 = g1 := by rw [hv1] at hg2; exact (Option.some.inj hg2).symm
  subst e; have hcu : W.heap[g2]? = some (.cells cur.toArray 23 (0, 0)) := hcur; have sp : ∀ t, 23 ≠ t → Spare Tu (fun k => k = g2) W t := fun t ht => Spare.one hcu ht; obtain ⟨li, hy⟩ := h.y; refine ⟨gk, ck, g2, c1, cur, hv, by rw [hc, hv1], s1, s2, hcur, hlen, .inr (.inl ⟨l, hlx, hg2⟩), fun d => ?_⟩; have hu : Upd (fun k => k = g2) W (W.setRow g2 (splice cur (p * 32) (dA d).toList).toArray) := (Upd.refl _ _).setRow _ _ fun _ => rfl; refine ⟨h.st.upd hu (sp _ (by decide)) (sp _ (by decide)) (sp _ (by decide)) (sp _ (by decide)), h.k.upd hu (sp _ (by decide)), ⟨fun l' hl' => ?_, h.d.nT, h.d.ne⟩, h.t.upd hu (sp _ (by decide)),
    ⟨li, hy.upd hu (fun k e e2 => ?_) (sp _ (by decide))⟩, h.o.upd hu (fun k _ ⟨cu, hk⟩ _ _ e2 => ?_) (sp _ (by decide)) (sp _ (by decide)) (fun k _ _ hn e2 => hn l hlx (by rw [hg2, show k = g2 from e2])), h.n1, h.n2⟩
  · by_cases e : l' = l
    · subst e
      rw [rowD_put]; obtain ⟨g3, cur3, e1, e2, -, e3⟩ := OwnRows.turn dA_size (by omega) hrow hpl d; have e4 : g3 = g2 := by rw [hg2] at e1; exact (Option.some.inj e1).symm
      subst e4; have e5 : cur3 = cur := by
        unfold Blk at e2; rw [hcu] at e2; simp only [Option.some.injEq, Obj.cells.injEq, and_true] at e2; have := congrArg Array.toList e2; simpa using this.symm
      subst e5; exact e3
    · rw [rowD_ne n K2 p d e]
      exact OwnRows.upd (h.d.row l' hl') hu fun k e1 e2 => e (h.d.ne l' l hl' hlx k e1 (by rw [hg2, show k = g2 from e2]))
  · cases e
    obtain ⟨cu, hk⟩ := own_cells hy.row (k := X.gy) rfl; exact cells_ne hcu hk (by decide) (show g2 = X.gy from (show X.gy = g2 from e2).symm)
  · exact cells_ne hcu hk (by decide) (show g2 = k from (show k = g2 from e2).symm)
theorem RF4.atT (h : RF4 Tu W g c n root O K1 K2 M1 M2 X) {p : Nat} (hp : p < n) :
    W.cell? ⟨X.gt, p, none⟩ = some (.bool (M1 p).isSome) ∧ W.frozen? ⟨X.gt, p, none⟩ = false ∧ ∀ R, RF4 Tu (W.setCell ⟨X.gt, p, none⟩ (.bool true)) g c n root O K1 K2 (putM M1 p R) M2 X := by
  have hrow := h.t.row; have hpl : p < (rowM n M1).length := by rw [rowM_length]; exact hp
  obtain ⟨g1, c1, hv1, hc1⟩ := own_cell1 boA_size hrow hpl (u := .bool (M1 p).isSome) (by rw [rowM_get]; rfl); simp only [Value.slice.injEq, Option.some.injEq, Addr.mk.injEq] at hv1; obtain ⟨⟨rfl, -⟩, -, -⟩ := hv1; obtain ⟨g2, hg2, hset, hfz, hu⟩ := own_set1 boA_size hrow hpl true (u := .bool true) rfl; obtain rfl : X.gt = g2 := Option.some.inj hg2; obtain ⟨cur, hcur⟩ := own_cells hrow (k := X.gt) rfl; have sp : ∀ t, 4 ≠ t → Spare Tu (fun k => k = X.gt) W t := fun t ht => Spare.one hcur ht; obtain ⟨li, hy⟩ := h.y; refine ⟨hc1, hfz, fun R => ⟨h.st.upd hu (sp _ (by decide)) (sp _ (by decide)) (sp _ (by decide)) (sp _ (by decide)), ⟨fun l hl => OwnRows.upd (h.k.row l hl) hu fun k e e2 => h.k.gt l hl (by rw [e, show k = X.gt from e2]), h.k.nT, h.k.ne, h.k.gt⟩, h.d.upd hu (sp _ (by decide)), ⟨by rw [rowM_put]; exact hset, h.t.nT⟩,
    ⟨li, hy.upd hu (fun k e e2 => ?_) (sp _ (by decide))⟩, h.o.upd hu (fun k _ ⟨cu, hk⟩ _ _ e2 => ?_) (sp _ (by decide)) (sp _ (by decide)) (fun k ⟨cu, hk⟩ hT _ => (sp _ (by decide)).not hk hT), h.n1, h.n2⟩⟩
  · cases e
    obtain ⟨cu, hk⟩ := own_cells hy.row (k := X.gy) rfl; exact cells_ne hcur hk (by decide) (show X.gt = X.gy from (show X.gy = X.gt from e2).symm)
  · exact cells_ne hcur hk (by decide) (show X.gt = k from (show k = X.gt from e2).symm)
theorem RF4.atY (h : RF4 Tu W g c n root O K1 K2 M1 M2 X) {p : Nat} (hp : p < n) :
    (∃ x : SlC, W.cell? ⟨X.gy, p, none⟩ = some (.slice x.A x.n x.c) ∧ LeafAt W x ((M2 p).getD []) ∧ ((M2 p).getD []).length < 65536) ∧ W.frozen? ⟨X.gy, p, none⟩ = false ∧
      ∀ (x : SlC) R, OwnB W 0 x.v R → R.length < 65536 → (∀ k, x.v.ownBlock = some k → ¬ Tu k) → RF4 Tu (W.setCell ⟨X.gy, p, none⟩ (.slice x.A x.n x.c)) g c n root O K1 K2 M1 (putM M2 p R) X := by
  obtain ⟨li, hy⟩ := h.y; have hll : li.length = n := by have := congrArg List.length hy.all; rwa [List.length_map, bytesM_length] at this
  have hpl : p < (li.map (·.1)).length := by rw [List.length_map, hll]; exact hp
  obtain ⟨g1, c1, hv1, hc1⟩ := own_cell1 (fun _ => rfl) hy.row hpl (slv _); simp only [Value.slice.injEq, Option.some.injEq, Addr.mk.injEq] at hv1; obtain ⟨⟨rfl, -⟩, -, -⟩ := hv1; obtain ⟨g2, hg2, -, hfz⟩ := own_setCell hy.row hpl (⟨none, 0, 0⟩ : SlC); obtain rfl : X.gy = g2 := Option.some.inj hg2; obtain ⟨cur, hcur⟩ := own_cells hy.row (k := X.gy) rfl; have sp : ∀ t, 42 ≠ t → Spare Tu (fun k => k = X.gy) W t := fun t ht => Spare.one hcur ht; have hpl2 : p < li.length := by omega
  have hR : li[p].2 = (M2 p).getD [] := by
    have h1 : (li.map (·.2))[p]? = (bytesM n M2)[p]? := by rw [hy.all]
    simp only [bytesM, List.getElem?_map, List.getElem?_range hp, List.getElem?_eq_getElem hpl2, Option.map_some, Option.some.injEq] at h1; exact h1
  refine ⟨⟨li[p].1, by rw [hc1, List.getElem_map]; rfl, ?_, ?_⟩, hfz, fun x R hx hRl hxT => ?_⟩
  · rw [← hR]; exact (hy.leaf _ (List.getElem_mem hpl2)).1.leafAt
  · rw [← hR]; exact (hy.leaf _ (List.getElem_mem hpl2)).2.1
  · obtain ⟨g3, hg3, hset, -⟩ := own_setCell hy.row hpl x
    obtain rfl : X.gy = g3 := Option.some.inj hg3; have hu : Upd (fun k => k = X.gy) W (W.setCell ⟨X.gy, p, none⟩ (.slice x.A x.n x.c)) := (Upd.refl _ _).setCell (p := ⟨X.gy, p, none⟩) _ fun _ => rfl; refine ⟨h.st.upd hu (sp _ (by decide)) (sp _ (by decide)) (sp _ (by decide)) (sp _ (by decide)), h.k.upd hu (sp _ (by decide)), h.d.upd hu (sp _ (by decide)), h.t.upd hu (sp _ (by decide)),
      ⟨li.set p (x, R), by rw [List.map_set]; exact hset, hy.nT, fun q hq => ?_, by rw [List.map_set, hy.all, bytesM_put]⟩, h.o.upd hu (fun k e _ _ hne e2 => hne e2) (sp _ (by decide)) (sp _ (by decide)) (fun k ⟨cu, hk⟩ hT _ => (sp _ (by decide)).not hk hT), h.n1, h.n2⟩
    rcases List.mem_or_eq_of_mem_set hq with h1 | h1
    · exact ⟨(sp _ (by decide)).byt (hy.leaf q h1).1 (hy.leaf q h1).2.2 hu, (hy.leaf q h1).2⟩
    · rw [h1]; exact ⟨hx.upd hu (fun k e e2 => by obtain ⟨cu, hk⟩ := hx.block e; exact cells_ne hcur hk (by decide) (show X.gy = k from (show k = X.gy from e2).symm)), hRl, hxT⟩
theorem RF4.atH {hs : List Bytes} (h : RF4 Tu W g c n root (some hs) K1 K2 M1 M2 X) {p : Nat} (hp : p < n) :
    ∃ gh ch, ∃ x : SlC, X.hv = .slice (some ⟨gh, 0, none⟩) n ch ∧ W.cell? ⟨gh, p, none⟩ = some (.slice x.A x.n x.c) ∧ LeafAt W x (hs.getD p []) ∧ (hs.getD p []).length < 65536 := by
  obtain ⟨h1, ⟨li, hy⟩, -⟩ := h.o; have hll : li.length = n := by rw [← h1, ← hy.all, List.length_map]
  have hpl : p < (li.map (·.1)).length := by rw [List.length_map, hll]; exact hp
  have hpl2 : p < li.length := by omega
  obtain ⟨g1, c1, hv1, hc1⟩ := own_cell1 (fun _ => rfl) hy.row hpl (slv _); rw [List.length_map, hll] at hv1; have hR : li[p].2 = hs.getD p [] := by rw [← hy.all]; simp [hpl2]
  refine ⟨g1, c1, li[p].1, hv1, by rw [hc1, List.getElem_map]; rfl, ?_, ?_⟩
  · rw [← hR]; exact (hy.leaf _ (List.getElem_mem hpl2)).1.leafAt
  · rw [← hR]; exact (hy.leaf _ (List.getElem_mem hpl2)).2.1
theorem RF4.atL {hs : List Bytes} (h : RF4 Tu W g c n root (some hs) K1 K2 M1 M2 X) {l p : Nat} (hl : l < depthM n) (hp : p < sizeL n l) :
    ∃ gl cl g2 c2, X.lv = .slice (some ⟨gl, 0, none⟩) (depthM n) cl ∧ W.cell? ⟨gl, l, none⟩ = some (.slice (some ⟨g2, 0, none⟩) (sizeL n l) c2) ∧ segB W ⟨g2, p * 32, none⟩ 32 = true ∧ segV W ⟨g2, p * 32, none⟩ 32 = dA (oldAt hs l p) := by
  obtain ⟨h1, -, hP, -, -⟩ := h.o; have hD : (hs.map (leafM shaM)).length = n := by rw [List.length_map, h1]
  obtain ⟨x, e1, e2, e3⟩ := lev_get (D := hs.map (leafM shaM)) (l := l) (by rw [hD]; exact hl); rw [hD] at e3; have hlen : (levelsM shaM (hs.map (leafM shaM))).length = depthM n := levelsM_depth _ hD; have hlx : l < X.lx.length := by rw [hP.len, hlen]; exact hl
  obtain ⟨gl, cl, hv, hc⟩ := own_cell1 (fun _ => rfl) hP.row hlx (slv _); rw [hP.len, hlen] at hv; have hlP : l < (levelsM shaM (hs.map (leafM shaM))).length := by omega
  have ho := hP.each l hlx hlP; have ex : (levelsM shaM (hs.map (leafM shaM)))[l]'hlP = x := by
    rw [List.getElem?_eq_getElem hlP] at e1; exact Option.some.inj e1
  rw [ex] at ho; obtain ⟨g2, c2, hv2, -, -, s1, s2⟩ := OwnRows.get dA_size ho (k := p) (by omega); rw [e3] at hv2; refine ⟨gl, cl, g2, c2, hv, by rw [hc, hv2], s1, ?_⟩; rw [s2]; unfold oldAt; rw [e2, List.getD_eq_getElem?_getD, List.getElem?_eq_getElem (by omega)]
  rfl
end
end Go.Proofs.YtepjbijhkkjbfaaGreat
namespace Go.Proofs.YtepjbijhkkjbfaaGreat
open Go.RowKit
variable {Tu : Nat → Prop}
attribute [local irreducible] wpOrd
section
variable {W W' : World} {S : Nat → Prop} {g c n : Nat} {root : Dig} {O : Option (List Bytes)} {K1 K2 : KM} {M1 M2 : BM} {X : RX}
theorem RF4.rw_lt (h : RF4 Tu W g c n root O K1 K2 M1 M2 X) {k : Nat} (hk : RW X k) : k < W.heap.size := by
  rcases h.rw_type hk with ⟨cur, t, hc, -⟩ | ⟨-, cur, hc⟩ <;> exact (Array.getElem?_eq_some_iff.1 hc).1
theorem stay {cs cs' : Array Value} {t t' : TypeId} {fr fr' : Nat × Nat} {gb k : Nat} (hg : W.heap[gb]? = some (.cells cs t fr)) (hk : W.heap[k]? = some (.cells cs' t' fr')) (ht : t ≠ t') {o : Nat} {v : Value} (hc : W.cell? ⟨k, o, none⟩ = some v) (hu : Upd (fun j => j = gb) W W') : W'.cell? ⟨k, o, none⟩ = some v :=
  hu.cell hc fun e => cells_ne hg hk ht (show gb = k from (show k = gb from e).symm)
theorem slice_block {α : Type} {f : α → Array Value} {m B gk n c : Nat} {v : Value} {l : List α} {t : TypeId} (h : OwnRows f m W B t v l) (hv : v = .slice (some ⟨gk, 0, none⟩) n c) : ∃ cur, W.heap[gk]? = some (.cells cur t (0, 0)) := own_cells h (by rw [hv]; rfl)
end
set_option maxHeartbeats 4000000 in
set_option maxRecDepth 20000 in
theorem ref_learn {g c n : Nat} {root : Dig} {O : Option (List Bytes)} {X : RX} : ∀ (l p : Nat) (d : Dig) {w : World} {s : KM × BM} (_ : RFet Tu w g c n root O s X) (_ : ∀ k, Tu k → k < w.heap.size) (_ : l < depthM n) (_ : p < sizeL n l),
    Calls Tryz.prog 30 #[.pointer (some ⟨g, 0, none⟩), .int .i64 (l : Int), .int .i64 (p : Int), .agg (dA d)] w fun e W => (∃ v, e = .returned v) ∧ RFet Tu W g c n root O (learnM n O l p d s) X ∧ Upd (RW X) w W := by
  intro l
  induction l using Nat.strongRecOn with
  | ind l ih =>
  intro p d w s h hT hl hp; have hsz := h.sz l; have hdp := depthM_small h.n2; have hD1 : Blk (w.alloc (.cells (dA d) 23)) w.heap.size 23 (encB d.1) := Blk.new w _ _; have hk1 : Kept w (w.alloc (.cells (dA d) 23)) := (Upd.refl _ w).alloc _; generalize hW1 : w.alloc (.cells (dA d) 23) = w1 at *; have h1 := h.kept hk1; obtain ⟨gk, ck, g1, c1, hkv, q1, q2, q3, q4, q5⟩ := h1.atK hl hp; have q5 := q5 d; have c34 := h1.cells.2.2.1; rw [hkv] at c34; have hg1 : g1 < w.heap.size := h.rw_lt q4; have hu2 : Upd (RW X) w (w1.setCell ⟨g1, p, none⟩ (.bool true)) := (hk1.to).setCell (p := ⟨g1, p, none⟩) _ fun _ => q4; have hD2 : Blk (w1.setCell ⟨g1, p, none⟩ (.bool true)) w.heap.size 23 (encB d.1) := hD1.far _ _ (by show w.heap.size ≠ g1; omega); have HX := Lib.hid (And.intro q5 (And.intro hD2 (And.intro hu2 (show ∀ k, Tu k → k < (w1.setCell ⟨g1, p, none⟩ (.bool true)).heap.size from fun k e => Nat.lt_of_lt_of_le (hT k e) hu2.size)))); have HL := Lib.hid (And.intro hl (And.intro hp (And.intro hsz (And.intro hdp (And.intro h.n1 h.n2))))); have HI := Lib.hid ih; have hli : (l : Int) < (depthM n : Int) := by omega
  have hpi : (p : Int) < (sizeL n l : Int) := by omega
  have hl0 : (l : Int) ≤ 2000 := by omega
  have hp0 : (p : Int) ≤ 2000 := by omega
  have HGD := Lib.hid (show ∀ k, RW X k → k < w.heap.size from fun k hk => h.rw_lt hk); clear h hT hl hp hsz hdp hD1 hk1 ih h1 q4 q5 hu2 hD2 hg1 hkv
  go_enter Tryz.func30, Tryz.ntmps30
  go_wp2_with fail; clear c34 q1 q2 q3; generalize hW2 : w1.setCell ⟨g1, p, none⟩ (.bool true) = w2 at *; clear hW2; obtain ⟨gk2, ck2, gd, cd, cur, hdv, r1, -, -, r4, r5, r6, r7⟩ := HX.out.1.atD HL.out.1 HL.out.2.1; obtain ⟨cu2, hcu2⟩ := slice_block HX.out.1.st.dr hdv; have c35 := HX.out.1.cells.2.2.2.1; rw [hdv] at c35; have hgd : gd ≠ w.heap.size := fun e => by have := HGD.out _ r6; omega
  obtain ⟨s1, s2⟩ := dig_at HX.out.2.1; have f0 : ∀ W, Upd (fun k => k = gd) w2 W → W.cell? ⟨g, 35, none⟩ = some (.slice (some ⟨gk2, 0, none⟩) (depthM n) ck2) := fun W hW => stay r4 HX.out.1.st.blk (by decide) c35 hW; have f1 : ∀ W, Upd (fun k => k = gd) w2 W → W.cell? ⟨gk2, l, none⟩ = some (.slice (some ⟨gd, 0, none⟩) (sizeL n l) cd) := fun W hW => stay r4 hcu2 (by decide) r1 hW; have f2 : ∀ W, Upd (fun k => k = gd) w2 W → segB W ⟨w.heap.size, 0, none⟩ 32 = true := fun W hW => (dig_at (HX.out.2.1.upd hW fun e => hgd (show gd = w.heap.size from (show w.heap.size = gd from e).symm))).1; have f3 : ∀ W, Upd (fun k => k = gd) w2 W → segV W ⟨w.heap.size, 0, none⟩ 32 = dA d := fun W hW => (dig_at (HX.out.2.1.upd hW fun e => hgd (show gd = w.heap.size from (show w.heap.size = gd from e).symm))).2; have hst := run_storeMid (P := Tryz.prog) (W := w2.drew) r4 23 32 (p * 32) sizeOf23 (dA d) (dA_size d) r5 (dA_one d); have hS3 : Upd (fun k => k = gd) w2 (w2.drew.setRow gd (splice cur (p * 32) (dA d).toList).toArray) := (Upd.refl _ w2).drew.setRow _ _ fun _ => rfl; have h3 : RF4 Tu (w2.drew.setRow gd (splice cur (p * 32) (dA d).toList).toArray) g c n root O (putK s.1 l p d) (putK s.1 l p d) s.2 s.2 X := (r7 d).kept (show Kept (w2.setRow gd (splice cur (p * 32) (dA d).toList).toArray) (w2.drew.setRow gd (splice cur (p * 32) (dA d).toList).toArray) from (Upd.refl _ (w2.setRow gd (splice cur (p * 32) (dA d).toList).toArray)).drew); have hu3 : Upd (RW X) w (w2.drew.setRow gd (splice cur (p * 32) (dA d).toList).toArray) := HX.out.2.2.1.then hS3 (fun k _ e => by rw [show k = gd from e]; exact r6); have H3 := Lib.hid (And.intro h3 (And.intro (show ∀ k, Tu k → k < (w2.drew.setRow gd (splice cur (p * 32) (dA d).toList).toArray).heap.size from fun k e => Nat.lt_of_lt_of_le (HX.out.2.2.2 k e) hS3.size) (And.intro hu3 (show Blk (w2.drew.setRow gd (splice cur (p * 32) (dA d).toList).toArray) w.heap.size 23 (encB d.1) from HX.out.2.1.upd hS3 fun e => hgd (show gd = w.heap.size from (show w.heap.size = gd from e).symm))))); have hu2 : Upd (fun k => k = gd) w2 w2.drew := (Upd.refl _ w2).drew; clear h3 hu3 r1 r4 r5 r6 r7 hcu2 hdv hgd c35 HX; go_wp2_with fail; refine wp_region_ord [(0, true), (1, true), (2, true), (3, true), (4, true), (5, true), (6, true), (7, true), (8, true), (9, true), (10, false)] (by kernel_rfl) (by kernel_rfl) (Upd (fun k => k = gd) w2) hu2 ?_; simp only [ordOps, List.getD_cons_zero, List.getD_cons_succ]
  iterate 10 (refine wpOrd_held (fun K hK => ?_); go_simp; first | (apply Exists.intro; refine ⟨fun W hW => ?_, hK _ ?_⟩; (go_simp; first | done | exact rfl); clear hK K) | (refine hK _ ?_; clear hK K))
  clear f0 f1 f2 f3; generalize w2.drew = wd at *; refine wpOrd_step (fun K hK => ?_) hu2; go_simp; refine hK _ _ hS3 ?_; clear hK K hu2 hst hS3; refine wpOrd_nil ?_; generalize hW3 : wd.setRow gd (splice cur (p * 32) (dA d).toList).toArray = w3 at *; clear hW3 s1 s2; have f0 : ∀ W, Kept w3 W → W.cell? ⟨g, 39, none⟩ = some X.lv := fun W hW => (H3.out.1.kept hW).cells.2.2.2.2.2.2.2; have f1 : ∀ W, Kept w3 W → W.cell? ⟨g, 38, none⟩ = some X.hv := fun W hW => (H3.out.1.kept hW).cells.2.2.2.2.2.2.1; cases O with
  | none =>
    obtain ⟨e1, e2⟩ := H3.out.1.o; rw [e2] at f0; rw [e1] at f1; have HF := Lib.hid (And.intro (H3.out.1.kept (Upd.refl _ w3).drew) (show Upd (RW X) w w3.drew from H3.out.2.2.1.drew)); clear e1 e2 H3; go_wp2_with fail; refine wp_region_ord [(0, true), (1, true), (2, true), (3, true), (4, true), (5, true), (6, true), (7, true), (8, true), (9, true), (10, true), (11, true), (12, true), (13, true), (14, true), (15, true), (16, true), (17, true), (18, true), (19, true)] (by kernel_rfl) (by kernel_rfl) (Kept w3) (Upd.refl _ w3).drew ?_; simp only [ordOps, List.getD_cons_zero, List.getD_cons_succ]
    iterate 20 (refine wpOrd_held (fun K hK => ?_); go_simp; first | (apply Exists.intro; refine ⟨fun W hW => ?_, hK _ ?_⟩; (go_simp; first | done | exact rfl); clear hK K) | (refine hK _ ?_; clear hK K))
    refine wpOrd_nil ?_; clear f0 f1; go_wp2
    first | go_end0 | (simp only [Exit.inBlock, Exit.then]; refine bodyPost_ret (results_none rfl _ _ _) rfl ?_) | refine bodyPost_ret (results_none rfl _ _ _) rfl ?_
    exact ⟨⟨_, rfl⟩, by rw [learnM_none]; exact HF.out.1, HF.out.2⟩
  | some hs =>
    obtain ⟨gl, cl, g2, c2, hlv, o1, o2, o3⟩ := H3.out.1.atL HL.out.1 HL.out.2.1; obtain ⟨gh, ch, -, hhv, -⟩ := H3.out.1.atH (p := 0) HL.out.2.2.2.2.1; rw [hlv] at f0; rw [hhv] at f1; have hn0 : ((n : Int) == 0) = false := by have := HL.out.2.2.2.2.1; simp; omega
    have hn1 : decide ((n : Int) = 0) = false := decide_eq_false (by have := HL.out.2.2.2.2.1; omega); have hn2 : ¬ (n : Int) = 0 := by have := HL.out.2.2.2.2.1; omega
    have hn3 : ¬ n = 0 := by have := HL.out.2.2.2.2.1; omega
    have f4 : ∀ W, Kept w3 W → W.cell? ⟨gl, l, none⟩ = some (.slice (some ⟨g2, 0, none⟩) (sizeL n l) c2) := fun W hW => hW.cell o1 id; have f5 : ∀ W, Kept w3 W → segB W ⟨g2, p * 32, none⟩ 32 = true := fun W hW => (seg_kept (by omega) o2 o3 hW id).1; have f6 : ∀ W, Kept w3 W → segV W ⟨g2, p * 32, none⟩ 32 = dA (oldAt hs l p) := fun W hW => (seg_kept (by omega) o2 o3 hW id).2; have f7 : ∀ W, Kept w3 W → segB W ⟨w.heap.size, 0, none⟩ 32 = true := fun W hW => (dig_at (H3.out.2.2.2.kept hW)).1; have f8 : ∀ W, Kept w3 W → segV W ⟨w.heap.size, 0, none⟩ 32 = dA d := fun W hW => (dig_at (H3.out.2.2.2.kept hW)).2; have HLV := Lib.hid hlv; have HHV := Lib.hid hhv; clear o1 o2 o3 hlv hhv; obtain ⟨x, hx⟩ : ∃ x, x = oldAt hs l p := ⟨_, rfl⟩; rw [← hx] at f6; have HXX := Lib.hid hx; clear hx
    by_cases hdo : x = d
    rotate_left
    · have hdec : decide (x = d) = false := decide_eq_false hdo
      have HDO := Lib.hid hdo; have HF := Lib.hid (And.intro (H3.out.1.kept (Upd.refl _ w3).drew) (show Upd (RW X) w w3.drew from H3.out.2.2.1.drew)); clear hdo H3; go_wp2_with fail; refine wp_region_ord [(0, true), (1, true), (2, true), (3, true), (4, true), (5, true), (6, true), (7, true), (8, true), (9, true), (10, true), (11, true), (12, true), (13, true), (14, true), (15, true), (16, true), (17, true), (18, true), (19, true)] (by kernel_rfl) (by kernel_rfl) (Kept w3) (Upd.refl _ w3).drew ?_; simp only [ordOps, List.getD_cons_zero, List.getD_cons_succ]
      iterate 20 (refine wpOrd_held (fun K hK => ?_); go_simp; first | (apply Exists.intro; refine ⟨fun W hW => ?_, hK _ ?_⟩; (go_simp; first | done | exact rfl); clear hK K) | (refine hK _ ?_; clear hK K))
      refine wpOrd_nil ?_; clear f0 f1 f4 f5 f6 f7 f8; go_wp2
      first | go_end0 | (simp only [Exit.inBlock, Exit.then]; refine bodyPost_ret (results_none rfl _ _ _) rfl ?_) | refine bodyPost_ret (results_none rfl _ _ _) rfl ?_
      exact ⟨⟨_, rfl⟩, by rw [learnM_ne (by rw [← HXX.out]; exact HDO.out)]; exact HF.out.1, HF.out.2⟩
    · subst hdo
      have hdec : decide (x = x) = true := decide_eq_true rfl; go_wp2_with fail; refine wp_region_ord [(0, true), (1, true), (2, true), (3, true), (4, true), (5, true), (6, true), (7, true), (8, true), (9, true), (10, true), (11, true), (12, true), (13, true), (14, true), (15, true), (16, true), (17, true), (18, true), (19, true)] (by kernel_rfl) (by kernel_rfl) (Kept w3) (Upd.refl _ w3).drew ?_; simp only [ordOps, List.getD_cons_zero, List.getD_cons_succ]
      iterate 20 (refine wpOrd_held (fun K hK => ?_); go_simp; first | (apply Exists.intro; refine ⟨fun W hW => ?_, hK _ ?_⟩; (go_simp; first | done | exact rfl); clear hK K) | (refine hK _ ?_; clear hK K))
      refine wpOrd_nil ?_; have hu4 : Kept w3 w3.drew := (Upd.refl _ w3).drew; have H4 := Lib.hid (And.intro (H3.out.1.kept hu4) (And.intro (show ∀ k, Tu k → k < w3.drew.heap.size from H3.out.2.1) (show Upd (RW X) w w3.drew from H3.out.2.2.1.drew))); clear f0 f1 f4 f5 f6 f7 f8 H3 hu4 hdec; generalize w3.drew = w4 at *; obtain rfl | ⟨l', rfl⟩ : l = 0 ∨ ∃ l', l = l' + 1 := by cases l with | zero => exact .inl rfl | succ l' => exact .inr ⟨l', rfl⟩
      · have hz : ((0 : Nat) : Int) = 0 := rfl
        have hpn : p < n := HL.out.2.1; have hpi2 : (p : Int) < (n : Int) := by omega
        obtain ⟨q1, q2, q3⟩ := H4.out.1.atT hpn; have q3 := q3 (hs.getD p []); have c36 := H4.out.1.cells.2.2.2.2.1; have hu5 : Upd (RW X) w (w4.setCell ⟨X.gt, p, none⟩ (.bool true)) := H4.out.2.2.setCell (p := ⟨X.gt, p, none⟩) _ fun _ => .inr (.inr (.inl rfl)); have H5 := Lib.hid (And.intro q3 (And.intro (show ∀ k, Tu k → k < (w4.setCell ⟨X.gt, p, none⟩ (.bool true)).heap.size from fun k e => Nat.lt_of_lt_of_le (H4.out.2.1 k e) ((Upd.refl (fun _ => True) w4).setCell (p := ⟨X.gt, p, none⟩) (.bool true) fun _ => trivial).size) hu5)); clear q3 hu5 H4; go_wp2_with fail; clear q1 q2 c36; generalize hW5 : w4.setCell ⟨X.gt, p, none⟩ (.bool true) = w5 at *; clear hW5; obtain ⟨gh', ch', ⟨xA, xn, xc⟩, hhv', r1, r2, r3⟩ := H5.out.1.atH hpn; rw [HHV.out] at hhv'; simp only [Value.slice.injEq, Option.some.injEq, Addr.mk.injEq, and_true, true_and] at hhv'; obtain ⟨rfl, rfl⟩ := hhv'; simp only at r1; have c37 := H5.out.1.cells.2.2.2.2.2.1; have c38 := H5.out.1.cells.2.2.2.2.2.2.1; rw [HHV.out] at c38; have hgy : X.gy ≠ g ∧ X.gy ≠ gh := by
          obtain ⟨li, hy⟩ := H5.out.1.y; obtain ⟨cy, hcy⟩ := own_cells hy.row (k := X.gy) rfl; refine ⟨cells_ne hcy H5.out.1.st.blk (by decide), fun e => ?_⟩; obtain ⟨-, -, -, h4, -⟩ := H5.out.1.o; exact h4 (by rw [HHV.out, e]; rfl)
        have f0 : ∀ W, Upd (fun k => k = X.gy) w5 W → W.cell? ⟨g, 37, none⟩ = some (.slice (some ⟨X.gy, 0, none⟩) n X.cy) := fun W hW => hW.cell c37 fun e => hgy.1 (show X.gy = g from (show g = X.gy from e).symm); have f1 : ∀ W, Upd (fun k => k = X.gy) w5 W → W.cell? ⟨g, 38, none⟩ = some (.slice (some ⟨gh, 0, none⟩) n ch) := fun W hW => hW.cell c38 fun e => hgy.1 (show X.gy = g from (show g = X.gy from e).symm); have f2 : ∀ W, Upd (fun k => k = X.gy) w5 W → W.cell? ⟨gh, p, none⟩ = some (.slice xA xn xc) := fun W hW => hW.cell r1 fun e => hgy.2 (show X.gy = gh from (show gh = X.gy from e).symm); obtain ⟨R, hR⟩ : ∃ R, R = hs.getD p [] := ⟨_, rfl⟩; rw [← hR] at r2 r3 H5; have HRR := Lib.hid hR; have hxn : xn = R.length := r2.2.1; subst hxn; have hu5 : Upd (fun k => k = X.gy) w5 w5.drew := (Upd.refl _ w5).drew; have hkd : Kept w5 w5.drew := (Upd.refl _ w5).drew; have HG := ref_CopyBytes xc (r2.1.kept hkd) (by omega); have H6 := Lib.hid (And.intro (H5.out.1.kept hkd) (And.intro (show ∀ k, Tu k → k < w5.drew.heap.size from H5.out.2.1) (And.intro (show Upd (RW X) w w5.drew from H5.out.2.2.drew) r3))); clear c37 c38 hgy r1 r2 r3 hkd hR H5; go_wp2_with fail; refine wp_region_ord [(0, true), (1, true), (2, true), (3, true), (4, true), (5, true), (6, true), (7, true), (8, true), (9, true), (10, true), (11, true), (12, false), (13, true), (14, false)] (by kernel_rfl) (by kernel_rfl) (Upd (fun k => k = X.gy) w5) hu5 ?_; simp only [ordOps, List.getD_cons_zero, List.getD_cons_succ]
        iterate 12 (refine wpOrd_held (fun K hK => ?_); go_simp; first | (apply Exists.intro; refine ⟨fun W hW => ?_, hK _ ?_⟩; (go_simp; first | done | exact rfl); clear hK K) | (refine hK _ ?_; clear hK K))
        clear f0 f1 f2; generalize w5.drew = wd at *; refine wpOrd_step (fun K hK => ?_) hu5; go_simp; refine HG.mono ?_; clear HG; rintro e w6 ⟨vy, rfl, hoy, hu6⟩; obtain ⟨Ay, ky, rfl, -, -⟩ := hoy.form; have hSe := hu5.then hu6 (fun _ _ e => e.elim); obtain ⟨⟨x0, y1, -, -⟩, y2, y3⟩ := (H6.out.1.kept hu6).atY hpn; have y3 := y3 ⟨Ay, R.length, ky⟩ R (hoy.low (Nat.zero_le _)) H6.out.2.2.2 (fun k e e2 => by have h1 := (hoy.far k e).1; have h2 := H6.out.2.1 k e2; omega); have hS7 : Upd (fun k => k = X.gy) w5 (w6.setCell ⟨X.gy, p, none⟩ (.slice Ay R.length ky)) := hSe.setCell (p := ⟨X.gy, p, none⟩) _ fun _ => rfl; have HF := Lib.hid (And.intro y3 (show Upd (RW X) w (w6.setCell ⟨X.gy, p, none⟩ (.slice Ay R.length ky)) from (H6.out.2.2.1.then hu6 fun _ _ e => e.elim).setCell (p := ⟨X.gy, p, none⟩) _ fun _ => .inr (.inr (.inr rfl)))); simp only at y3; refine hK _ _ hSe ?_; clear hK K hoy y3 H6
        iterate 1 (refine wpOrd_held (fun K hK => ?_); go_simp; first | (apply Exists.intro; refine ⟨fun W hW => ?_, hK _ ?_⟩; (go_simp; first | done | exact rfl); clear hK K) | (refine hK _ ?_; clear hK K))
        refine wpOrd_step (fun K hK => ?_) hSe; go_simp; refine hK _ _ hS7 ?_; clear hK K y1 y2 hSe hS7 hu6 hu5; refine wpOrd_nil ?_; go_wp2
        first | go_end0 | (simp only [Exit.inBlock, Exit.then]; refine bodyPost_ret (results_none rfl _ _ _) rfl ?_) | refine bodyPost_ret (results_none rfl _ _ _) rfl ?_
        exact ⟨⟨_, rfl⟩, by rw [learnM_leaf HXX.out.symm, ← HRR.out]; exact HF.out.1, HF.out.2⟩
      · have hz : ¬ ((l' + 1 : Nat) : Int) = 0 := by omega
        have hz2 : (((l' + 1 : Nat) : Int) == 0) = false := by simp; omega
        have hll : l' < depthM n := by have := HL.out.1; omega
        have hkp : 1 ≤ kidsM n l' p ∧ kidsM n l' p ≤ 4 := by
          have h1 : p < up4 (sizeL n l') := HL.out.2.1; unfold kidsM; unfold up4 at h1; omega
        have HKP := Lib.hid hkp; have HLL := Lib.hid hll; clear hkp hll; obtain ⟨lv, hlv⟩ : ∃ lv, lv = l' + 1 := ⟨_, rfl⟩; have HLE := Lib.hid hlv; rw [← hlv] at hz hz2 ⊢; clear hlv; go_wp2_with fail; clear hz hz2
        go_loopw [8] (fun i wr => ∃ m k : Nat, k ≤ kidsM n l' p ∧ m = 4 * p + k ∧ i = .int .i64 (m : Int) ∧ RFet Tu wr g c n root (some hs) (kidsFold n hs l' p k (putK s.1 (l' + 1) p x, s.2)) X ∧ Upd (RW X) w4 wr) (fun i _ => 10000 - (intOf i).toNat)
        case atStart => exact ⟨4 * p, 0, Nat.zero_le _, rfl, by show _ = _; go_num, H4.out.1, Upd.refl _ _⟩
        case round =>
          obtain ⟨m, k, hk, hm, rfl, hfet, hup⟩ := hrel; have hszl := (H4.out.1.sz l').2; have c33 := hfet.cells.2.1; have cl' := hfet.size HLL.out; have hl1 : IntKind.i64.wrap ((lv : Int) - 1) = (l' : Int) := by rw [IntKind.wrap_i64]; have := HLE.out; have := HL.out.2.2.2.1; have := HL.out.1; omega
          have hl2 : (lv : Int) - 1 = (l' : Int) := by have := HLE.out; omega
          have hld : (l' : Int) < (depthM n : Int) := by have := HLL.out; omega
          rcases Nat.lt_or_ge k (kidsM n l' p) with hlt | hge
          · have hmk : m < sizeL n l' := by unfold kidsM at hlt; omega
            have hm1 : (m : Int) < 4 * (p : Int) + 4 := by have := HKP.out.2; omega
            have hm2 : (m : Int) < (sizeL n l' : Int) := by omega
            have hm5 : (m : Int) ≤ 2000 := by omega
            have HK := Lib.hid (And.intro hlt (And.intro hm hmk)); obtain ⟨gl', cl2, g6, c6, hlv', o1, o2, o3⟩ := hfet.atL HLL.out hmk; rw [HLV.out] at hlv'; simp only [Value.slice.injEq, Option.some.injEq, Addr.mk.injEq, and_true, true_and] at hlv'; obtain ⟨rfl, rfl⟩ := hlv'; have c39 := hfet.cells.2.2.2.2.2.2.2; rw [HLV.out] at c39; have HG := HI.out l' (Nat.lt_succ_self l') m (oldAt hs l' m) hfet (fun k e => Nat.lt_of_lt_of_le (H4.out.2.1 k e) hup.size) HLL.out hmk; have HU := Lib.hid hup; clear hfet hup hlt hk hm hmk hszl; go_wp2_with fail; refine HG.mono ?_; clear HG; rintro e w6 ⟨⟨v, rfl⟩, hf6, hu7⟩; have HF := Lib.hid (And.intro hf6 (HU.out.trans hu7)); clear hf6 hu7 c33 cl' c39 o1 o2 o3; go_wp2_with fail
            go_roundw
            case rel => exact ⟨m + 1, k + 1, by have := HK.out.1; omega, by have := HK.out.2.1; omega, by show _ = _; go_num, by rw [kidsFold_succ, ← HK.out.2.1]; exact HF.out.1, HF.out.2⟩
            case measure => have := HK.out; simp [intOf]; omega
          · obtain rfl : k = kidsM n l' p := by omega
            have HF := Lib.hid (And.intro hfet (show Upd (RW X) w wr from H4.out.2.2.trans hup)); have hm5 : (m : Int) ≤ 9000 := by have := HKP.out.2; omega
            have hend : ¬ ((m : Int) < 4 * (p : Int) + 4) ∨ ((m : Int) < 4 * (p : Int) + 4 ∧ ¬ (m : Int) < (sizeL n l' : Int)) := by unfold kidsM at hm; omega
            clear hfet hup hge hk hm hszl; rcases hend with he | ⟨he1, he2⟩
            · go_wp2
              first | go_end0 | (simp only [Exit.inBlock, Exit.then]; refine bodyPost_ret (results_none rfl _ _ _) rfl ?_) | refine bodyPost_ret (results_none rfl _ _ _) rfl ?_
              exact ⟨⟨_, rfl⟩, by rw [learnM_node HXX.out.symm]; exact HF.out.1, HF.out.2⟩
            · go_wp2
              first | go_end0 | (simp only [Exit.inBlock, Exit.then]; refine bodyPost_ret (results_none rfl _ _ _) rfl ?_) | refine bodyPost_ret (results_none rfl _ _ _) rfl ?_
              exact ⟨⟨_, rfl⟩, by rw [learnM_node HXX.out.symm]; exact HF.out.1, HF.out.2⟩
end Go.Proofs.YtepjbijhkkjbfaaGreat
