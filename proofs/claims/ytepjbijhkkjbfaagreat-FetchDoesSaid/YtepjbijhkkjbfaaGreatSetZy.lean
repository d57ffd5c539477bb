import Derived.Test.YtepjbijhkkjbfaaGreatSetZw
set_option linter.unusedVariables false
set_option linter.unusedSimpArgs false
namespace Go.Proofs.YtepjbijhkkjbfaaGreat
open Go.RowKit
variable {Tu : Nat → Prop}
attribute [local irreducible] wpOrd
theorem bo_info : (Tryz.prog.info? 4).map (fun i => (i.size, i.bytes, i.zero)) = some (1, 1, some (.bool false)) := by kernel_rfl
theorem bl_info : (Tryz.prog.info? 81).map (fun i => (i.size, i.bytes, i.zero)) = some (1, 24, some (.slice none 0 0)) := by kernel_rfl
theorem bl_rows : RowType Tryz.prog slA 1 82 81 24 where
  size := slA_size
  one := slA_one
  slice := Tryz.underlying82
  info := ⟨.slice none 0 0, bl_info, by simp [Value.cells]⟩
  pos := by omega
@[go_sem ↓] theorem exec_one_bol (ρ : Operand → Value) (dst : Option Tmp) (parts : Array (Nat × Operand)) (ty : TypeId) (pos : String) (after : Array Edge) (guard : Option (Nat × Bool)) :
    execOp ρ ⟨dst, .buildSlice 82 1 parts, ty, pos, after, guard⟩ = sliceRow 82 1 (parts.map fun (i, x) => (i, ρ x)) := rfl
@[go_sem] theorem run_one_bol (A : Option Addr) (n c : Nat) (W : World) : (sliceRow 82 1 #[(0, .slice A n c)]).run Tryz.prog W = .ok (.value (.slice (some ⟨W.heap.size, 0, none⟩) 1 1)) (W.alloc (.cells (slA ⟨A, n, c⟩) 81)) := by
  obtain ⟨i, hi, h2⟩ := Option.map_eq_some_iff.1 bl_info; simp only [Prod.mk.injEq] at h2; have h := run_buildSlice (P := Tryz.prog) W 82 81 1 #[(0, .slice A n c)] (slA ⟨A, n, c⟩) i (.slice none 0 0) Tryz.underlying82 hi h2.2.2 (by rw [h2.1]; omega) (by rw [h2.1]; decide) (by
    rw [h2.1]; have h0 : Array.range (1 * 1) = #[0] := by decide
    rw [h0]; simp [Instr.fill, Value.cells, slA])
  simp [sliceRow, h, Result.andThen]
@[go_sem ↓] theorem exec_make_bools (ρ : Operand → Value) (dst : Option Tmp) (l c : Operand) (ty : TypeId) (pos : String) (after : Array Edge) (guard : Option (Nat × Bool)) :
    execOp ρ ⟨dst, .makeSlice 81 l c, ty, pos, after, guard⟩ = makeRow 81 (ρ l) (ρ c) := rfl
theorem made_bools (n : Nat) : (madeCells (boA false) (n * 1)).toList = rowsOf boA (List.replicate n false) := by
  have h1 : ∀ n, rowsOf boA (List.replicate n false) = List.replicate n (.bool false) := by
    intro n
    induction n with
    | zero => rfl
    | succ n ih => rw [List.replicate_succ, rowsOf_cons, ih, List.replicate_succ]; rfl
  rw [h1]; apply List.ext_getElem
  · simp [madeCells]
  · intro i h2 h3
    simp only [madeCells, Array.getElem_toList, Array.getElem_map, Array.getElem_range, List.getElem_replicate, boA_size, Nat.mod_one]
    rfl
set_option maxRecDepth 20000 in
theorem run_make_bools (n : Nat) (hn : n ≤ 100000) (W : World) : ∃ W', (makeRow 81 (.int .i64 n) (.int .i64 n)).run Tryz.prog W = .ok (.value (.slice (some ⟨W.heap.size, 0, none⟩) n n)) W' ∧ OwnRows boA 1 W' W.heap.size 4 (.slice (some ⟨W.heap.size, 0, none⟩) n n) (List.replicate n false) ∧ Kept W W' := by
  obtain ⟨i, hi, h2⟩ := Option.map_eq_some_iff.1 bo_info; simp only [Prod.mk.injEq] at h2; have h := run_make (P := Tryz.prog) W 81 4 i (.bool false) Tryz.underlying81 hi h2.2.2 .i64 .i64 (n : Int) (n : Int) (by omega) (by omega) (by rw [h2.2.1]; omega) (by omega); rw [h2.1, Int.toNat_natCast] at h
  change _ = Result.ok _ (W.alloc (.cells (madeCells (boA false) (n * 1)) 4)) at h
  refine ⟨W.alloc (.cells (madeCells (boA false) (n * 1)) 4), by simp only [makeRow, Sem.run_bind, h, Result.andThen_ok, Sem.run_pure], ?_, (Upd.refl _ W).alloc _⟩; have e := made_bools n; have el : (List.replicate n false).length = n := List.length_replicate; have e1 : (rowsOf boA (List.replicate n false)).length = n * 1 := by rw [rowsOf_length boA_size, el]
  refine ⟨by rw [e1, el], .inr ⟨W.heap.size, n, madeCells (boA false) (n * 1), by rw [el], Nat.le_refl _, heap_alloc_new W _, by rw [el]; exact Nat.le_refl _, by unfold maxLen; omega, by rw [← Array.length_toList, e, e1], ?_⟩⟩; rw [el, List.take_of_length_le (by rw [e, e1]; exact Nat.le_refl _), e]
theorem run_make_digs2 (n : Nat) (hn : n ≤ 100000) (W : World) : ∃ W', (makeRow 45 (.int .i64 n) (.int .i64 n)).run Tryz.prog W = .ok (.value (.slice (some ⟨W.heap.size, 0, none⟩) n n)) W' ∧ OwnD W' W.heap.size (.slice (some ⟨W.heap.size, 0, none⟩) n n) (List.replicate n dig0) ∧ Kept W W' := by
  obtain ⟨W', h1, h2, h3⟩ := run_make_digs n hn W; have el : (List.replicate n dig0).length = n := List.length_replicate; refine ⟨W', h1, ⟨by rw [rowsOf_length dA_size], .inr ⟨W.heap.size, n, (vsD (List.replicate n dig0)).toArray, by rw [el], Nat.le_refl _, h2, by rw [el]; exact Nat.le_refl _, by unfold maxLen; omega, by rw [List.size_toArray, vsD_length, el], ?_⟩⟩, h3⟩; rw [List.toList_toArray, rowsOf_dA, List.take_of_length_le (by rw [vsD_length]; exact Nat.le_refl _)]
  rfl
theorem rowK_none (n l : Nat) : rowK n (fun _ _ => none) l = List.replicate (sizeL n l) false := by
  apply List.ext_getElem
  · simp [rowK]
  · intro i h1 h2; simp [rowK]
theorem rowD_none (n l : Nat) : rowD n (fun _ _ => none) l = List.replicate (sizeL n l) dig0 := by
  apply List.ext_getElem
  · simp [rowD]
  · intro i h1 h2; simp [rowD]
theorem rowM_none (n : Nat) : rowM n (fun _ => none) = List.replicate n false := by
  apply List.ext_getElem
  · simp [rowM]
  · intro i h1 h2; simp [rowM]
theorem bytesM_none (n : Nat) : bytesM n (fun _ => none) = List.replicate n [] := by
  apply List.ext_getElem
  · simp [bytesM]
  · intro i h1 h2; simp [bytesM]
def rfX (gs cs gt gy n : Nat) : RX := ⟨gs, cs, .slice none 0 0, [], .slice none 0 0, [], gt, n, gy, n, .slice none 0 0, .slice none 0 0, []⟩
def rfA (c : Nat) (root : Dig) (n m gs cs gt gy : Nat) : Array Value := (rfV c root n m (rfX gs cs gt gy n)).toArray
@[go_sem ↓] theorem exec_build_rf (ρ : Operand → Value) (dst : Option Tmp) (parts : Array (Nat × Operand)) (ty : TypeId) (pos : String) (after : Array Edge) (guard : Option (Nat × Bool)) :
    execOp ρ ⟨dst, .build 84 parts, ty, pos, after, guard⟩ = buildRow 84 (parts.map fun (i, x) => (i, ρ x)) := rfl
set_option maxRecDepth 20000 in
@[go_sem] theorem run_build_rf (c gs m cs gt gy n : Nat) (root : Dig) (W : World) : (buildRow 84 #[(0, .pointer (some ⟨c, 0, none⟩)), (1, .agg (dA root)), (2, .slice (some ⟨gs, 0, none⟩) m cs), (5, .slice (some ⟨gt, 0, none⟩) n n), (6, .slice (some ⟨gy, 0, none⟩) n n)]).run Tryz.prog W = .ok (.value (.agg (rfA c root n m gs cs gt gy))) W := by
  have H : (Instr.build 84 #[(0, .pointer (some ⟨c, 0, none⟩)), (1, .agg (dA root)), (2, .slice (some ⟨gs, 0, none⟩) m cs), (5, .slice (some ⟨gt, 0, none⟩) n n), (6, .slice (some ⟨gy, 0, none⟩) n n)]).run Tryz.prog W = .ok (.agg (rfA c root n m gs cs gt gy)) W := by
    obtain ⟨l, hl⟩ := root
    iterate 32 (rcases l with _ | ⟨a, l⟩; · simp at hl)
    rcases l with _ | ⟨a, l⟩
    · exact run_build (P := Tryz.prog) W _ _ _ (by unfold rfA rfV rfX; kernel_rfl)
    · simp at hl
  simp [buildRow, H, Result.andThen]
theorem rfV_set (c : Nat) (root : Dig) (n m : Nat) (X : RX) (k : Nat) (v : Value) : (rfV c root n m X).set (33 + k) v = .pointer (some ⟨c, 0, none⟩) :: (encB root.1 ++ [.slice (some ⟨X.gs, 0, none⟩) m X.cs, X.kv, X.dv, .slice (some ⟨X.gt, 0, none⟩) n X.ct, .slice (some ⟨X.gy, 0, none⟩) n X.cy, X.hv, X.lv].set k v) := by
  have hl : (encB root.1).length = 32 := by rw [encB_length, root.2]
  rw [rfV, show 33 + k = (32 + k) + 1 by omega, List.set_cons_succ, List.set_append_right _ _ (by omega), hl, Nat.add_sub_cancel_left]
structure RN (Tu : Nat → Prop) (W : World) (g c n : Nat) (root : Dig) (X : RX) (li : List (SlC × Bytes)) (hs : List Bytes) (P : List (List Dig)) (j1 j2 : Nat) : Prop where
  blk : Blk W g 84 (rfV c root n (depthM n) X)
  gT : ¬ Tu g
  szs : OwnRows inA 1 W 0 3 (.slice (some ⟨X.gs, 0, none⟩) (depthM n) X.cs) (sizesM n)
  szT : ¬ Tu X.gs
  kr : OwnRows slA 1 W 0 81 X.kv X.kx
  kT : ∀ k, X.kv.ownBlock = some k → ¬ Tu k
  kl : X.kx.length = j1
  k : RK Tu W n X.kx X.gt (fun _ _ => none)
  dr : OwnRows slA 1 W 0 45 X.dv X.dx
  dT : ∀ k, X.dv.ownBlock = some k → ¬ Tu k
  dl : X.dx.length = j2
  d : RD Tu W n X.dx (fun _ _ => none)
  t : RM Tu W n X.gt X.ct (fun _ => none)
  y : ∃ ly, RL Tu W (.slice (some ⟨X.gy, 0, none⟩) n X.cy) (bytesM n (fun _ => none)) ly
  h : RL Tu W X.hv hs li
  hne : X.hv.ownBlock ≠ some X.gy
  o : RP Tu W X.lv X.lx P
  dlv : ∀ k, X.dv.ownBlock = some k → X.lv.ownBlock ≠ some k
  ldx : ∀ i (h : i < X.lx.length) j (h' : j < X.dx.length) k, X.lx[i].v.ownBlock = some k → X.dx[j].v.ownBlock ≠ some k
theorem Spare.rowg {α : Type} {f : α → Array Value} {m B g : Nat} {W : World} {v : Value} {l : List α} {t t' tg : TypeId} {cs : Array Value} {fr : Nat × Nat} (ho : OwnRows f m W B t v l) (hg : W.heap[g]? = some (.cells cs tg fr)) (h1 : t ≠ t') (h2 : tg ≠ t') : Spare Tu (fun k => v.ownBlock = some k ∨ k = g) W t' := fun k cs' fr' hk _ e => by
  rcases e with e | rfl
  · obtain ⟨cur, hc⟩ := own_cells ho e
    exact cells_ne hc hk h1 rfl
  · exact cells_ne hg hk h2 rfl
section
variable {W W' : World} {S : Nat → Prop} {g c n : Nat} {root : Dig} {X : RX} {li : List (SlC × Bytes)} {hs : List Bytes} {P : List (List Dig)} {j1 j2 : Nat}
theorem RN.upd (h : RN Tu W g c n root X li hs P j1 j2) (hu : Upd S W W') (hs' : ∀ t, t ≠ 42 → t ≠ 88 → Spare Tu S W t) (h1 : ¬ S X.gy) (h2 : ∀ k, X.hv.ownBlock = some k → ¬ S k) : RN Tu W' g c n root X li hs P j1 j2 := by
  obtain ⟨ly, hy⟩ := h.y; have sp := fun t (h1 : t ≠ 42) (h2 : t ≠ 88) => hs' t h1 h2; exact ⟨h.blk.upd hu ((sp _ (by decide) (by decide)).not h.blk h.gT), h.gT, (sp _ (by decide) (by decide)).own h.szs (fun k e => by cases e; exact h.szT) hu, h.szT, (sp _ (by decide) (by decide)).own h.kr h.kT hu, h.kT, h.kl, h.k.upd hu (sp _ (by decide) (by decide)), (sp _ (by decide) (by decide)).own h.dr h.dT hu, h.dT, h.dl, h.d.upd hu (sp _ (by decide) (by decide)), h.t.upd hu (sp _ (by decide) (by decide)),
    ⟨ly, hy.upd hu (fun k e => by cases e; exact h1) (sp _ (by decide) (by decide))⟩, h.h.upd hu h2 (sp _ (by decide) (by decide)), h.hne, h.o.upd hu (fun k e => by obtain ⟨cur, hc⟩ := own_cells h.o.row e; exact (sp _ (by decide) (by decide)).not hc (h.o.vT k e)) (fun i hi k e => by obtain ⟨cur, hc⟩ := own_cells (h.o.each i hi (by rw [← h.o.len]; exact hi)) e; exact (sp _ (by decide) (by decide)).not hc (h.o.nT i hi k e)), h.dlv, h.ldx⟩
theorem RN.kept (h : RN Tu W g c n root X li hs P j1 j2) (hu : Kept W W') : RN Tu W' g c n root X li hs P j1 j2 := h.upd hu (fun t _ _ => Spare.nil W t) id (fun _ _ => id)
theorem RN.cells (h : RN Tu W g c n root X li hs P j1 j2) : W.cell? ⟨g, 0, none⟩ = some (.pointer (some ⟨c, 0, none⟩)) ∧ W.cell? ⟨g, 33, none⟩ = some (.slice (some ⟨X.gs, 0, none⟩) (depthM n) X.cs) ∧ W.cell? ⟨g, 34, none⟩ = some X.kv ∧ W.cell? ⟨g, 35, none⟩ = some X.dv ∧ W.cell? ⟨g, 38, none⟩ = some X.hv ∧ W.cell? ⟨g, 39, none⟩ = some X.lv :=
  ⟨h.blk.cell rfl, h.blk.cell (rfV_get c root n _ X 0), h.blk.cell (rfV_get c root n _ X 1), h.blk.cell (rfV_get c root n _ X 2), h.blk.cell (rfV_get c root n _ X 5), h.blk.cell (rfV_get c root n _ X 6)⟩
theorem RN.size (h : RN Tu W g c n root X li hs P j1 j2) {l : Nat} (hl : l < depthM n) : W.cell? ⟨X.gs, l, none⟩ = some (.int .i64 (sizeL n l : Int)) := by
  have hl' : l < (sizesM n).length := by rw [sizesM_length]; exact hl
  obtain ⟨g', c', hv, hc⟩ := own_cell1 (fun _ => rfl) h.szs hl' (u := .int .i64 (sizeL n l : Int)) (by rw [sizesM_get hl']; rfl); simp only [Value.slice.injEq, Option.some.injEq, Addr.mk.injEq] at hv; obtain ⟨⟨rfl, _⟩, _⟩ := hv; exact hc
theorem RN.more (h : RN Tu W g c n root X li hs P j1 j2) (hT : ∀ k, Tu k → k < W.heap.size) {x : SlC} {R : Bytes} (hx : OwnB W 0 x.v R) (hR : R.length < 65536) (hxT : ∀ k, x.v.ownBlock = some k → ¬ Tu k) {v' : Value} (hr : OwnRows slA 1 W' 0 42 v' (li.map (·.1) ++ [x])) (hu : Upd (fun k => X.hv.ownBlock = some k) W W') (hnew : v'.ownBlock = X.hv.ownBlock ∨ v'.ownBlock = some W.heap.size) :
    RN Tu (W'.setCell ⟨g, 38, none⟩ v') g c n root { X with hv := v' } (li ++ [(x, R)]) (hs ++ [R]) P j1 j2 ∧ W'.cell? ⟨g, 38, none⟩ = some X.hv ∧ W'.frozen? ⟨g, 38, none⟩ = false ∧ Upd (fun k => X.hv.ownBlock = some k ∨ k = g) W (W'.setCell ⟨g, 38, none⟩ v') := by
  obtain ⟨ly, hy⟩ := h.y; have hbg : Blk W' g 84 (rfV c root n (depthM n) X) := h.blk.upd hu fun e => by obtain ⟨cur, hc⟩ := own_cells h.h.row e; exact cells_ne hc h.blk (by decide) rfl
  have hu2 : Upd (fun k => X.hv.ownBlock = some k ∨ k = g) W (W'.setCell ⟨g, 38, none⟩ v') := (hu.mono fun k _ e => .inl e).setCell (p := ⟨g, 38, none⟩) _ fun _ => .inr rfl; have hug : Upd (fun k => k = g) W' (W'.setCell ⟨g, 38, none⟩ v') := (Upd.refl _ _).setCell (p := ⟨g, 38, none⟩) _ fun _ => rfl; have sp : ∀ t, 42 ≠ t → 84 ≠ t → Spare Tu (fun k => X.hv.ownBlock = some k ∨ k = g) W t := fun t h1 h2 => Spare.rowg h.h.row h.blk h1 h2; have hb2 := hbg.set 38 v'; rw [show (38 : Nat) = 33 + 5 from rfl, rfV_set] at hb2; have hyy : ∀ k, (Value.slice (some ⟨X.gy, 0, none⟩) n X.cy).ownBlock = some k → ¬ (X.hv.ownBlock = some k ∨ k = g) := fun k e e2 => by
    cases e
    rcases e2 with e2 | e2
    · exact h.hne e2
    · obtain ⟨cu, hk⟩ := own_cells hy.row (k := X.gy) rfl
      exact cells_ne hk h.blk (by decide) e2
  have hgy : X.gy < W.heap.size := (World.ownsRow.lt hy.row X.gy rfl).2; have hrg : OwnRows slA 1 (W'.setCell ⟨g, 38, none⟩ v') 0 42 v' (li.map (·.1) ++ [x]) := OwnRows.upd hr hug fun k e e2 => by
    obtain ⟨cu, hk⟩ := own_cells hr e; exact cells_ne hk hbg (by decide) (show k = g from e2)
  refine ⟨⟨hb2, h.gT, (sp _ (by decide) (by decide)).own h.szs (fun k e => by cases e; exact h.szT) hu2, h.szT, (sp _ (by decide) (by decide)).own h.kr h.kT hu2, h.kT, h.kl, h.k.upd hu2 (sp _ (by decide) (by decide)), (sp _ (by decide) (by decide)).own h.dr h.dT hu2, h.dT, h.dl, h.d.upd hu2 (sp _ (by decide) (by decide)), h.t.upd hu2 (sp _ (by decide) (by decide)), ⟨ly, hy.upd hu2 hyy (sp _ (by decide) (by decide))⟩,
    ⟨by rw [List.map_append]; exact hrg, fun k e => ?_, fun p hp => ?_, by rw [List.map_append, h.h.all]; rfl⟩, fun e => ?_, h.o.upd hu2 (fun k e => by obtain ⟨cur, hc⟩ := own_cells h.o.row e; exact (sp _ (by decide) (by decide)).not hc (h.o.vT k e)) (fun i hi k e => by obtain ⟨cur, hc⟩ := own_cells (h.o.each i hi (by rw [← h.o.len]; exact hi)) e; exact (sp _ (by decide) (by decide)).not hc (h.o.nT i hi k e)), h.dlv, h.ldx⟩,
    hbg.cell (rfV_get c root n _ X 5), hbg.thaw 38, hu2⟩
  · rcases hnew with e1 | e1
    · exact h.h.nT k (by rw [← e1]; exact e)
    · rw [show ({ X with hv := v' } : RX).hv = v' from rfl, e1] at e
      have := Option.some.inj e; exact fun e2 => by have := hT k e2; omega
  · rcases List.mem_append.1 hp with h1 | h1
    · exact ⟨(sp _ (by decide) (by decide)).byt (h.h.leaf p h1).1 (h.h.leaf p h1).2.2 hu2, (h.h.leaf p h1).2⟩
    · rw [List.mem_singleton.1 h1]
      exact ⟨(sp _ (by decide) (by decide)).byt hx hxT hu2, hR, hxT⟩
  · have e0 : v'.ownBlock = some X.gy := e
    rcases hnew with e1 | e1
    · exact h.hne (by rw [← e1]; exact e0)
    · rw [e1] at e0
      have := Option.some.inj e0; omega
theorem RN.levels (h : RN Tu W g c n root X li hs P j1 0) (hdv : X.dv = .slice none 0 0) {vo : Value} {P' : List (List Dig)} {xs : List SlC} (hP : RP Tu W vo xs P') :
    RN Tu (W.setCell ⟨g, 39, none⟩ vo) g c n root { X with lv := vo, lx := xs } li hs P' j1 0 ∧ W.cell? ⟨g, 39, none⟩ = some X.lv ∧ W.frozen? ⟨g, 39, none⟩ = false ∧ Upd (fun k => k = g) W (W.setCell ⟨g, 39, none⟩ vo) := by
  obtain ⟨ly, hy⟩ := h.y; have hu : Upd (fun k => k = g) W (W.setCell ⟨g, 39, none⟩ vo) := (Upd.refl _ _).setCell (p := ⟨g, 39, none⟩) _ fun _ => rfl; have hbg : W.heap[g]? = some (.cells (rfV c root n (depthM n) X).toArray 84 (0, 0)) := h.blk; have sp : ∀ t, 84 ≠ t → Spare Tu (fun k => k = g) W t := fun t h1 => Spare.one hbg h1; have hb2 := h.blk.set 39 vo; rw [show (39 : Nat) = 33 + 6 from rfl, rfV_set] at hb2; have hn : ∀ {α : Type} {f : α → Array Value} {m B t : Nat} {v : Value} {l : List α}, OwnRows f m W B t v l → 84 ≠ t → ∀ k, v.ownBlock = some k → ¬ k = g := fun ho ht k e e2 => by
    obtain ⟨cu, hk⟩ := own_cells ho e; exact cells_ne hbg hk ht e2.symm
  have hx0 : X.dx.length = 0 := h.dl; refine ⟨⟨hb2, h.gT, (sp _ (by decide)).own h.szs (fun k e => by cases e; exact h.szT) hu, h.szT, (sp _ (by decide)).own h.kr h.kT hu, h.kT, h.kl, h.k.upd hu (sp _ (by decide)), (sp _ (by decide)).own h.dr h.dT hu, h.dT, h.dl, h.d.upd hu (sp _ (by decide)), h.t.upd hu (sp _ (by decide)), ⟨ly, hy.upd hu (hn hy.row (by decide)) (sp _ (by decide))⟩,
    h.h.upd hu (hn h.h.row (by decide)) (sp _ (by decide)), h.hne, hP.upd hu (hn hP.row (by decide)) (fun i hi => hn (hP.each i hi (by rw [← hP.len]; exact hi)) (by decide)), fun k e => ?_, fun i _ j hj => absurd hj (by rw [hx0]; exact Nat.not_lt_zero j)⟩, h.blk.cell (rfV_get c root n _ X 6), h.blk.thaw 39, hu⟩
  have e0 : X.dv.ownBlock = some k := e; rw [hdv] at e0; cases e0
theorem RN.known (h : RN Tu W g c n root X li hs P j1 j2) (hT : ∀ k, Tu k → k < W.heap.size) {W1 : World} (hk1 : Kept W W1) {x : SlC} (hx : OwnRows boA 1 W1 W.heap.size 4 x.v (List.replicate (sizeL n j1) false)) {v' : Value} (hr : OwnRows slA 1 W' 0 81 v' (X.kx ++ [x])) (hu : Upd (fun k => X.kv.ownBlock = some k) W1 W') (hnew : v'.ownBlock = X.kv.ownBlock ∨ v'.ownBlock = some W1.heap.size) :
    RN Tu (W'.setCell ⟨g, 34, none⟩ v') g c n root { X with kv := v', kx := X.kx ++ [x] } li hs P (j1 + 1) j2 ∧ W'.cell? ⟨g, 34, none⟩ = some X.kv ∧ W'.frozen? ⟨g, 34, none⟩ = false ∧ Upd (fun k => X.kv.ownBlock = some k ∨ k = g) W (W'.setCell ⟨g, 34, none⟩ v') := by
  have hf : ∀ k, x.v.ownBlock = some k → W.heap.size ≤ k := fun k e => (World.ownsRow.lt hx k e).1; have hold : ∀ l (hl : l < X.kx.length) k, X.kx[l].v.ownBlock = some k → k < W.heap.size := fun l hl k e => (World.ownsRow.lt (h.k.row l hl) k e).2; have hgt : X.gt < W.heap.size := (World.ownsRow.lt h.t.row X.gt rfl).2; have h1 := h.kept hk1; obtain ⟨ly, hy⟩ := h1.y; have hbg : Blk W' g 84 (rfV c root n (depthM n) X) := h1.blk.upd hu fun e => by obtain ⟨cur, hc⟩ := own_cells h1.kr e; exact cells_ne hc h1.blk (by decide) rfl
  have hu2 : Upd (fun k => X.kv.ownBlock = some k ∨ k = g) W1 (W'.setCell ⟨g, 34, none⟩ v') := (hu.mono fun k _ e => .inl e).setCell (p := ⟨g, 34, none⟩) _ fun _ => .inr rfl; have hug : Upd (fun k => k = g) W' (W'.setCell ⟨g, 34, none⟩ v') := (Upd.refl _ _).setCell (p := ⟨g, 34, none⟩) _ fun _ => rfl; have sp : ∀ t, 81 ≠ t → 84 ≠ t → Spare Tu (fun k => X.kv.ownBlock = some k ∨ k = g) W1 t := fun t h1' h2 => Spare.rowg h1.kr h1.blk h1' h2; have hn : ∀ {α : Type} {f : α → Array Value} {m B t : Nat} {v : Value} {l : List α}, OwnRows f m W1 B t v l → 81 ≠ t → 84 ≠ t → ∀ k, v.ownBlock = some k → ¬ (X.kv.ownBlock = some k ∨ k = g) := fun ho ht1 ht2 k e e2 => by
    obtain ⟨cu, hk⟩ := own_cells ho e; rcases e2 with e2 | e2
    · obtain ⟨cu2, hk2⟩ := own_cells h1.kr e2
      exact cells_ne hk2 hk ht1 rfl
    · exact cells_ne h1.blk hk ht2 e2.symm
  have hb2 := hbg.set 34 v'; rw [show (34 : Nat) = 33 + 1 from rfl, rfV_set] at hb2; have hrg : OwnRows slA 1 (W'.setCell ⟨g, 34, none⟩ v') 0 81 v' (X.kx ++ [x]) := OwnRows.upd hr hug fun k e e2 => by
    obtain ⟨cu, hk⟩ := own_cells hr e; exact cells_ne hk hbg (by decide) (show k = g from e2)
  have hxT : ∀ k, x.v.ownBlock = some k → ¬ Tu k := fun k e e2 => by have := hf k e; have := hT k e2; omega
  have hget : ∀ l (hl : l < (X.kx ++ [x]).length), (∃ h' : l < X.kx.length, (X.kx ++ [x])[l] = X.kx[l]) ∨ (l = X.kx.length ∧ (X.kx ++ [x])[l] = x) := fun l hl => by
    by_cases h' : l < X.kx.length
    · exact .inl ⟨h', List.getElem_append_left h'⟩
    · have : l = X.kx.length := by simp at hl; omega
      subst this; exact .inr ⟨rfl, by simp⟩
  refine ⟨⟨hb2, h1.gT, (sp _ (by decide) (by decide)).own h1.szs (fun k e => by cases e; exact h1.szT) hu2, h1.szT, hrg, fun k e => ?_, by simp [h.kl], ⟨fun l hl => ?_, fun l hl k e => ?_, fun l l' hl hl' k e e' => ?_, fun l hl e => ?_⟩, (sp _ (by decide) (by decide)).own h1.dr h1.dT hu2, h1.dT, h1.dl, h1.d.upd hu2 (sp _ (by decide) (by decide)), h1.t.upd hu2 (sp _ (by decide) (by decide)), ⟨ly, hy.upd hu2 (hn hy.row (by decide) (by decide)) (sp _ (by decide) (by decide))⟩,
    h1.h.upd hu2 (hn h1.h.row (by decide) (by decide)) (sp _ (by decide) (by decide)), h1.hne, h1.o.upd hu2 (hn h1.o.row (by decide) (by decide)) (fun i hi => hn (h1.o.each i hi (by rw [← h1.o.len]; exact hi)) (by decide) (by decide)), h1.dlv, h1.ldx⟩, hbg.cell (rfV_get c root n _ X 1), hbg.thaw 34, hk1.to.trans hu2⟩
  · rcases hnew with e1 | e1
    · exact h.kT k (by rw [← e1]; exact e)
    · rw [show ({ X with kv := v', kx := X.kx ++ [x] } : RX).kv = v' from rfl, e1] at e
      have := Option.some.inj e; exact fun e2 => by have := hT k e2; have := hk1.size; omega
  · rcases hget l hl with ⟨h', e⟩ | ⟨e1, e⟩
    · rw [show ({ X with kv := v', kx := X.kx ++ [x] } : RX).kx[l] = X.kx[l] from e]
      exact (sp _ (by decide) (by decide)).own (h1.k.row l h') (h1.k.nT l h') hu2
    · rw [show ({ X with kv := v', kx := X.kx ++ [x] } : RX).kx[l] = x from e, rowK_none, e1, h.kl]
      exact own_base ((sp _ (by decide) (by decide)).own hx hxT hu2) (Nat.zero_le _)
  · rcases hget l hl with ⟨h', e1⟩ | ⟨-, e1⟩
    · exact h.k.nT l h' k (by rw [← e1]; exact e)
    · exact hxT k (by rw [← e1]; exact e)
  · rcases hget l hl with ⟨h1', e1⟩ | ⟨f1, e1⟩ <;> rcases hget l' hl' with ⟨h2', e2⟩ | ⟨f2, e2⟩
    · exact h.k.ne l l' h1' h2' k (by rw [← e1]; exact e) (by rw [← e2]; exact e')
    · have a1 := hold l h1' k (by rw [← e1]; exact e)
      have a2 := hf k (by rw [← e2]; exact e'); omega
    · have a1 := hold l' h2' k (by rw [← e2]; exact e')
      have a2 := hf k (by rw [← e1]; exact e); omega
    · rw [f1, f2]
  · rcases hget l hl with ⟨h1', e1⟩ | ⟨-, e1⟩
    · exact h.k.gt l h1' (by rw [← e1]; exact e)
    · have a2 := hf X.gt (by rw [← e1]; exact e)
      omega
theorem RN.digs (h : RN Tu W g c n root X li hs P j1 j2) (hT : ∀ k, Tu k → k < W.heap.size) {W1 : World} (hk1 : Kept W W1) {x : SlC} (hx : OwnD W1 W.heap.size x.v (List.replicate (sizeL n j2) dig0)) {v' : Value} (hr : OwnRows slA 1 W' 0 45 v' (X.dx ++ [x])) (hu : Upd (fun k => X.dv.ownBlock = some k) W1 W') (hnew : v'.ownBlock = X.dv.ownBlock ∨ v'.ownBlock = some W1.heap.size) :
    RN Tu (W'.setCell ⟨g, 35, none⟩ v') g c n root { X with dv := v', dx := X.dx ++ [x] } li hs P j1 (j2 + 1) ∧ W'.cell? ⟨g, 35, none⟩ = some X.dv ∧ W'.frozen? ⟨g, 35, none⟩ = false ∧ Upd (fun k => X.dv.ownBlock = some k ∨ k = g) W (W'.setCell ⟨g, 35, none⟩ v') := by
  have hf : ∀ k, x.v.ownBlock = some k → W.heap.size ≤ k := fun k e => (World.ownsRow.lt hx k e).1; have hold : ∀ l (hl : l < X.dx.length) k, X.dx[l].v.ownBlock = some k → k < W.heap.size := fun l hl k e => (World.ownsRow.lt (h.d.row l hl) k e).2; have hlold : ∀ l (hl : l < X.lx.length) k, X.lx[l].v.ownBlock = some k → k < W.heap.size := fun l hl k e => (World.ownsRow.lt (h.o.each l hl (by rw [← h.o.len]; exact hl)) k e).2; have hlv : ∀ k, X.lv.ownBlock = some k → k < W.heap.size := fun k e => (World.ownsRow.lt h.o.row k e).2; have h1 := h.kept hk1; obtain ⟨ly, hy⟩ := h1.y; have hbg : Blk W' g 84 (rfV c root n (depthM n) X) := h1.blk.upd hu fun e => by obtain ⟨cur, hc⟩ := own_cells h1.dr e; exact cells_ne hc h1.blk (by decide) rfl
  have hu2 : Upd (fun k => X.dv.ownBlock = some k ∨ k = g) W1 (W'.setCell ⟨g, 35, none⟩ v') := (hu.mono fun k _ e => .inl e).setCell (p := ⟨g, 35, none⟩) _ fun _ => .inr rfl; have hug : Upd (fun k => k = g) W' (W'.setCell ⟨g, 35, none⟩ v') := (Upd.refl _ _).setCell (p := ⟨g, 35, none⟩) _ fun _ => rfl; have sp : ∀ t, 45 ≠ t → 84 ≠ t → Spare Tu (fun k => X.dv.ownBlock = some k ∨ k = g) W1 t := fun t h1' h2 => Spare.rowg h1.dr h1.blk h1' h2; have hn : ∀ {α : Type} {f : α → Array Value} {m B t : Nat} {v : Value} {l : List α}, OwnRows f m W1 B t v l → 45 ≠ t → 84 ≠ t → ∀ k, v.ownBlock = some k → ¬ (X.dv.ownBlock = some k ∨ k = g) := fun ho ht1 ht2 k e e2 => by
    obtain ⟨cu, hk⟩ := own_cells ho e; rcases e2 with e2 | e2
    · obtain ⟨cu2, hk2⟩ := own_cells h1.dr e2
      exact cells_ne hk2 hk ht1 rfl
    · exact cells_ne h1.blk hk ht2 e2.symm
  have hnl : ∀ k, X.lv.ownBlock = some k → ¬ (X.dv.ownBlock = some k ∨ k = g) := fun k e e2 => by
    rcases e2 with e2 | e2
    · exact h.dlv k e2 e
    · obtain ⟨cu, hk⟩ := own_cells h1.o.row e
      exact cells_ne h1.blk hk (by decide) e2.symm
  have hb2 := hbg.set 35 v'; rw [show (35 : Nat) = 33 + 2 from rfl, rfV_set] at hb2; have hrg : OwnRows slA 1 (W'.setCell ⟨g, 35, none⟩ v') 0 45 v' (X.dx ++ [x]) := OwnRows.upd hr hug fun k e e2 => by
    obtain ⟨cu, hk⟩ := own_cells hr e; exact cells_ne hk hbg (by decide) (show k = g from e2)
  have hxT : ∀ k, x.v.ownBlock = some k → ¬ Tu k := fun k e e2 => by have := hf k e; have := hT k e2; omega
  have hget : ∀ l (hl : l < (X.dx ++ [x]).length), (∃ h' : l < X.dx.length, (X.dx ++ [x])[l] = X.dx[l]) ∨ (l = X.dx.length ∧ (X.dx ++ [x])[l] = x) := fun l hl => by
    by_cases h' : l < X.dx.length
    · exact .inl ⟨h', List.getElem_append_left h'⟩
    · have : l = X.dx.length := by simp at hl; omega
      subst this; exact .inr ⟨rfl, by simp⟩
  refine ⟨⟨hb2, h1.gT, (sp _ (by decide) (by decide)).own h1.szs (fun k e => by cases e; exact h1.szT) hu2, h1.szT, (sp _ (by decide) (by decide)).own h1.kr h1.kT hu2, h1.kT, h1.kl, h1.k.upd hu2 (sp _ (by decide) (by decide)), hrg, fun k e => ?_, by simp [h.dl], ⟨fun l hl => ?_, fun l hl k e => ?_, fun l l' hl hl' k e e' => ?_⟩, h1.t.upd hu2 (sp _ (by decide) (by decide)), ⟨ly, hy.upd hu2 (hn hy.row (by decide) (by decide)) (sp _ (by decide) (by decide))⟩,
    h1.h.upd hu2 (hn h1.h.row (by decide) (by decide)) (sp _ (by decide) (by decide)), h1.hne, h1.o.upd hu2 hnl (fun i hi => hn (h1.o.each i hi (by rw [← h1.o.len]; exact hi)) (by decide) (by decide)), fun k e e2 => ?_, fun i hi j hj k e e2 => ?_⟩, hbg.cell (rfV_get c root n _ X 2), hbg.thaw 35, hk1.to.trans hu2⟩
  · rcases hnew with e1 | e1
    · exact h.dT k (by rw [← e1]; exact e)
    · rw [show ({ X with dv := v', dx := X.dx ++ [x] } : RX).dv = v' from rfl, e1] at e
      have := Option.some.inj e; exact fun e2 => by have := hT k e2; have := hk1.size; omega
  · rcases hget l hl with ⟨h', e⟩ | ⟨e1, e⟩
    · rw [show ({ X with dv := v', dx := X.dx ++ [x] } : RX).dx[l] = X.dx[l] from e]
      exact (sp _ (by decide) (by decide)).own (h1.d.row l h') (h1.d.nT l h') hu2
    · rw [show ({ X with dv := v', dx := X.dx ++ [x] } : RX).dx[l] = x from e, rowD_none, e1, h.dl]
      exact own_base ((sp _ (by decide) (by decide)).own hx hxT hu2) (Nat.zero_le _)
  · rcases hget l hl with ⟨h', e1⟩ | ⟨-, e1⟩
    · exact h.d.nT l h' k (by rw [← e1]; exact e)
    · exact hxT k (by rw [← e1]; exact e)
  · rcases hget l hl with ⟨h1', e1⟩ | ⟨f1, e1⟩ <;> rcases hget l' hl' with ⟨h2', e2⟩ | ⟨f2, e2⟩
    · exact h.d.ne l l' h1' h2' k (by rw [← e1]; exact e) (by rw [← e2]; exact e')
    · have a1 := hold l h1' k (by rw [← e1]; exact e)
      have a2 := hf k (by rw [← e2]; exact e'); omega
    · have a1 := hold l' h2' k (by rw [← e2]; exact e')
      have a2 := hf k (by rw [← e1]; exact e); omega
    · rw [f1, f2]
  · have e0 : v'.ownBlock = some k := e
    rcases hnew with e1 | e1
    · exact h.dlv k (by rw [← e1]; exact e0) e2
    · rw [e1] at e0
      have a1 := Option.some.inj e0; have a2 := hlv k e2; have a3 := hk1.size; omega
  · rcases hget j hj with ⟨h1', e1⟩ | ⟨-, e1⟩
    · exact h.ldx i hi j h1' k e (by rw [← e1]; exact e2)
    · have a1 := hlold i hi k e
      have a2 := hf k (by rw [← e1]; exact e2); omega
end
set_option maxHeartbeats 1000000 in
set_option maxRecDepth 20000 in
theorem ref_sizes (w : World) (n : Nat) (h1 : 1 ≤ n) (h2 : n ≤ 1024) :
    Calls Tryz.prog 28 #[.int .i64 (n : Int)] w fun e W => ∃ gs cs, e = .returned (.slice (some ⟨gs, 0, none⟩) (depthM n) cs) ∧ OwnRows inA 1 W w.heap.size 3 (.slice (some ⟨gs, 0, none⟩) (depthM n) cs) (sizesM n) ∧ Kept w W := by
  have hdp := depthM_small h2; have r1 : OwnRows inA 1 (w.alloc (.cells #[.int .i64 (n : Int)] 3)) w.heap.size 3 (.slice (some ⟨w.heap.size, 0, none⟩) 1 1) [n] :=
    ⟨by simp [rowsOf, inA], .inr ⟨w.heap.size, 1, inA n, rfl, Nat.le_refl _, heap_alloc_new w _, Nat.le_refl _, by unfold maxLen; omega, rfl, by simp [rowsOf, inA]⟩⟩
  have k1 : Kept w (w.alloc (.cells #[.int .i64 (n : Int)] 3)) := (Upd.refl _ w).alloc _; have HX := Lib.hid (And.intro r1 k1); have HN := Lib.hid (And.intro h1 (And.intro h2 hdp)); clear r1 k1 h1 h2 hdp
  go_enter Tryz.func28, Tryz.ntmps28
  go_wp2_with fail
  go_loopw [0, 3] (fun u t wr => ∃ k : Nat, k < depthM n ∧ u = .int .i64 (sizeL n k : Int) ∧ OwnRows inA 1 wr w.heap.size 3 t ((List.range (k + 1)).map (sizeL n)) ∧ Kept w wr) (fun u _ _ => (intOf u).toNat)
  case atStart => exact ⟨0, depthM_pos n, rfl, HX.out.1, HX.out.2⟩
  case round =>
    obtain ⟨k, hk, rfl, hown, hu⟩ := hrel; have hx := size_more hk; have hxl := size_last hk; have hx1 : 1 ≤ sizeL n k ∧ sizeL n k ≤ 1024 := ⟨sizeL_pos HN.out.1 k, Nat.le_trans (sizeL_le HN.out.1 k) HN.out.2.1⟩; have hxs : sizeL n (k + 1) = up4 (sizeL n k) := rfl; generalize hxe : sizeL n k = x at *
    replace hxe := Lib.hid hxe
    by_cases h1x : 1 < x
    · have hd : decide ((1 : Int) < (x : Int)) = true := decide_eq_true (by omega)
      have hx5 : (x : Int) ≤ 1024 := by omega
      have hx6 : (1 : Int) < (x : Int) := by omega
      have hq2 : ((x : Int) + 3).tdiv 4 = ((up4 x : Nat) : Int) := by rw [Int.tdiv_eq_ediv_of_nonneg (by omega)]; unfold up4; omega
      have hu5 : ((up4 x : Nat) : Int) ≤ 1024 := by unfold up4; omega
      have hka : Kept wr (wr.alloc (.cells #[.int .i64 ((up4 x : Nat) : Int)] 3)) := (Upd.refl _ wr).alloc _; have HQ := Lib.hid (And.intro (OwnRows.upd hown hka (fun _ _ h => h)) (And.intro (heap_alloc_new wr (.cells #[.int .i64 ((up4 x : Nat) : Int)] 3)) (And.intro (show Kept w (wr.alloc (.cells #[.int .i64 ((up4 x : Nat) : Int)] 3)) from hu.alloc _) (And.intro (hx h1x) (And.intro h1x hxs))))); clear hown hka hu hx hxl hx1 hk h1x hxs; go_wp2_with (at_builtin; refine wpList_append_rows in_rows rfl (.tmp 11) (.tmp 13) rfl rfl HQ.out.1 (up4 x) wr.heap.size 1 _ _ rfl HQ.out.2.1 (by have := HN.out.2.2; have := HQ.out.2.2.2.1; rw [List.length_map, List.length_range]; unfold maxLen; omega) (by have := HN.out.2.2; have := HQ.out.2.2.2.1; rw [List.length_map, List.length_range]; omega) HQ.out.2.2.1.size ?_; intro v' w' hown' hu' hnew); have hf := World.ownsRow.lt HQ.out.1; have HF := Lib.hid (And.intro hown' (show Kept w w' from HQ.out.2.2.1.then hu' (fun k hk e => by have := (hf k e).1; omega))); clear hown' hu' hnew hf; go_wp2_with fail
      go_roundw
      case rel => exact ⟨k + 1, HQ.out.2.2.2.1, by rw [HQ.out.2.2.2.2.2], by rw [List.range_succ, List.map_append, show List.map (sizeL n) [k + 1] = [up4 x] from by rw [← HQ.out.2.2.2.2.2]; rfl]; exact HF.out.1, HF.out.2⟩
      case measure => have h1 := HQ.out.2.2.2.2.1; unfold up4; simp [intOf]; omega
    · have h1d : decide ((1 : Int) < (x : Int)) = false := decide_eq_false (by omega)
      have h1e : ¬ (1 : Int) < (x : Int) := by omega
      have hke := hxl h1x; obtain ⟨A, cs, hf⟩ := OwnRows.form hown; rw [List.length_map, List.length_range, hke] at hf; rw [hke] at hown; subst hf; obtain ⟨gs, c2, hv, -⟩ := OwnRows.get (f := inA) (n := 1) (fun _ => rfl) hown (k := 0) (by rw [List.length_map, List.length_range]; have := depthM_pos n; omega); rw [List.length_map, List.length_range] at hv; simp only [Value.slice.injEq, true_and] at hv; obtain ⟨rfl, rfl⟩ := hv; have HF := Lib.hid (And.intro hown hu); clear hown hu hx hxl hx1 hk hxs h1x hke; go_wp2
      go_ret
      exact ⟨gs, _, rfl, HF.out.1, HF.out.2⟩
end Go.Proofs.YtepjbijhkkjbfaaGreat
