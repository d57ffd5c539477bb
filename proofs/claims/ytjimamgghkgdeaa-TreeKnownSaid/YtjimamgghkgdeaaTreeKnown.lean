/- Depths, both ends, trees that are none: the closed statement TreeKnown holds. -/
import Derived.Test.YtjimamgghkgdeaaTreeQ
import Derived.Test.YtjimamgghkgdeaaTreeR
namespace Go.Proofs.Ytjimamgghkgdeaa
open Go.ChangeShapes Go.WideShapes Go.ChangeAt Go.RowKit

attribute [local irreducible] wpOrd
/-! ### the table -/
def prA (p : Nat × Nat) : Array Value := #[.int .i64 p.1, .int .i64 p.2]
@[simp, go_sem] theorem pr_one (x y : Int) : oneB #[Value.int .i64 x, Value.int .i64 y] = true := by unfold oneB; exact (by rfl : _ = _)
theorem prA_size (p : Nat × Nat) : (prA p).size = 2 := rfl
def tab : List (Nat × Nat) := [(1, 1), (2, 2), (4, 2), (5, 3), (16, 3), (17, 4), (64, 4), (65, 5), (1024, 6)]
theorem depthM4 : depthM 4 = 2 := depthM_up 4 1 1 (by omega) rfl depthM1
theorem depthM16 : depthM 16 = 3 := depthM_up 16 4 2 (by omega) rfl depthM4
theorem depthM17 : depthM 17 = 4 := depthM_up 17 5 3 (by omega) rfl depthM5
theorem depthM64 : depthM 64 = 4 := depthM_up 64 16 3 (by omega) rfl depthM16
theorem depthM65 : depthM 65 = 5 := depthM_up 65 17 4 (by omega) rfl depthM17
theorem depthM256 : depthM 256 = 5 := depthM_up 256 64 4 (by omega) rfl depthM64
theorem depthM1024 : depthM 1024 = 6 := depthM_up 1024 256 5 (by omega) rfl depthM256
theorem tab_ok : ∀ p ∈ tab, 1 ≤ p.1 ∧ p.1 ≤ 1024 ∧ depthM p.1 = p.2 ∧ p.2 ≤ 6 := by
  intro p hp
  simp only [tab, List.mem_cons, List.not_mem_nil, or_false] at hp
  rcases hp with rfl | rfl | rfl | rfl | rfl | rfl | rfl | rfl | rfl
  · exact ⟨by omega, by omega, depthM1, by omega⟩
  · exact ⟨by omega, by omega, depthM2, by omega⟩
  · exact ⟨by omega, by omega, depthM4, by omega⟩
  · exact ⟨by omega, by omega, depthM5, by omega⟩
  · exact ⟨by omega, by omega, depthM16, by omega⟩
  · exact ⟨by omega, by omega, depthM17, by omega⟩
  · exact ⟨by omega, by omega, depthM64, by omega⟩
  · exact ⟨by omega, by omega, depthM65, by omega⟩
  · exact ⟨by omega, by omega, depthM1024, by omega⟩
@[go_sem ↓] theorem exec_build_pr (ρ : Operand → Value) (dst : Option Tmp) (parts : Array (Nat × Operand)) (ty : TypeId) (pos : String) (after : Array Edge) (guard : Option (Nat × Bool)) :
    execOp ρ ⟨dst, .build 65 parts, ty, pos, after, guard⟩ = buildRow 65 (parts.map fun (i, x) => (i, ρ x)) := rfl
@[go_sem] theorem run_build_pr (x y : Int) (W : World) : (buildRow 65 #[(0, .int .i64 x), (1, .int .i64 y)]).run Try.prog W = .ok (.value (.agg #[.int .i64 x, .int .i64 y])) W := by
  have H := run_build (P := Try.prog) W 65 #[(0, .int .i64 x), (1, .int .i64 y)] #[.int .i64 x, .int .i64 y] (by kernel_rfl)
  simp [buildRow, H, Result.andThen]
@[go_sem ↓] theorem exec_tab (ρ : Operand → Value) (dst : Option Tmp) (parts : Array (Nat × Operand)) (ty : TypeId) (pos : String) (after : Array Edge) (guard : Option (Nat × Bool)) :
    execOp ρ ⟨dst, .buildSlice 66 9 parts, ty, pos, after, guard⟩ = sliceRow 66 9 (parts.map fun (i, x) => (i, ρ x)) := rfl
theorem pr_info : (Try.prog.info? 65).map (fun i => (i.size, i.bytes, i.zero)) = some (2, 16, some (.agg #[.int .i64 0, .int .i64 0])) := by kernel_rfl
def tabV : List Value := rowsOf prA tab
theorem run_tab (W : World) : ∃ W', (sliceRow 66 9 #[(0, .agg #[.int .i64 1, .int .i64 1]), (1, .agg #[.int .i64 2, .int .i64 2]), (2, .agg #[.int .i64 4, .int .i64 2]), (3, .agg #[.int .i64 5, .int .i64 3]), (4, .agg #[.int .i64 16, .int .i64 3]), (5, .agg #[.int .i64 17, .int .i64 4]), (6, .agg #[.int .i64 64, .int .i64 4]), (7, .agg #[.int .i64 65, .int .i64 5]), (8, .agg #[.int .i64 1024, .int .i64 6])]).run Try.prog W = .ok (.value (.slice (some ⟨W.heap.size, 0, none⟩) 9 9)) W' ∧ OwnRows prA 2 W' W.heap.size 65 (.slice (some ⟨W.heap.size, 0, none⟩) 9 9) tab ∧ Kept W W' := by
  obtain ⟨i, hi, h2⟩ := Option.map_eq_some_iff.1 pr_info
  simp only [Prod.mk.injEq] at h2
  have h := run_buildSlice (P := Try.prog) W 66 65 9 #[(0, .agg #[.int .i64 1, .int .i64 1]), (1, .agg #[.int .i64 2, .int .i64 2]), (2, .agg #[.int .i64 4, .int .i64 2]), (3, .agg #[.int .i64 5, .int .i64 3]), (4, .agg #[.int .i64 16, .int .i64 3]), (5, .agg #[.int .i64 17, .int .i64 4]), (6, .agg #[.int .i64 64, .int .i64 4]), (7, .agg #[.int .i64 65, .int .i64 5]), (8, .agg #[.int .i64 1024, .int .i64 6])] (rowsOf prA tab).toArray i (.agg #[.int .i64 0, .int .i64 0]) Try.underlying66 hi h2.2.2 (by rw [h2.1]; omega) (by rw [h2.1]; decide) (by
    rw [h2.1]
    kernel_rfl)
  refine ⟨W.alloc (.cells (rowsOf prA tab).toArray 65), by simp only [sliceRow, Sem.run_bind, h, Result.andThen_ok, Sem.run_pure], ⟨rfl, .inr ⟨W.heap.size, 9, (rowsOf prA tab).toArray, rfl, Nat.le_refl _, heap_alloc_new W _, Nat.le_refl _, by unfold maxLen; omega, rfl, rfl⟩⟩, (Upd.refl _ W).alloc _⟩

/-! ### bytes, lists and zero values that are made -/
@[go_sem ↓] theorem exec_make_bs (ρ : Operand → Value) (dst : Option Tmp) (l c : Operand) (ty : TypeId) (pos : String) (after : Array Edge) (guard : Option (Nat × Bool)) :
    execOp ρ ⟨dst, .makeSlice 32 l c, ty, pos, after, guard⟩ = makeRow 32 (ρ l) (ρ c) := rfl
theorem run_make_bs (n : Nat) (hn : n ≤ 100000) (W : World) : ∃ W', (makeRow 32 (.int .i64 (n : Int)) (.int .i64 (n : Int))).run Try.prog W = .ok (.value (.slice (some ⟨W.heap.size, 0, none⟩) n n)) W' ∧ Byt W' (some ⟨W.heap.size, 0, none⟩) (List.replicate n 0) ∧ Kept W W' := by
  obtain ⟨i, hi, hz0, hz1, hz2⟩ := u8_info
  have h := run_make (P := Try.prog) W 32 5 i (.int .u8 0) Try.underlying32 hi hz0 .i64 .i64 (n : Int) (n : Int) (by omega) (by omega) (by rw [hz2]; omega) (by omega)
  rw [hz1, Int.toNat_natCast, Nat.mul_one] at h
  refine ⟨W.alloc (.cells (madeCells (Value.cells (.int .u8 0)) n) 5), by simp only [makeRow, Sem.run_bind, h, Result.andThen_ok, Sem.run_pure], .inr ⟨W.heap.size, 0, rfl, fun j v hv => ?_⟩, (Upd.refl _ W).alloc _⟩
  rw [cell_of_row _ W.heap.size _ _ _ _ (heap_alloc_new W _), Nat.zero_add]
  rw [encB, List.getElem?_map] at hv
  obtain ⟨u, hu, rfl⟩ := Option.map_eq_some_iff.1 hv
  obtain ⟨hj, rfl⟩ := List.getElem?_eq_some_iff.1 hu
  have hjn : j < n := by simpa using hj
  simp [madeCells, Value.cells, hjn]
  first | done | rfl | simp [Nat.mod_one]
theorem run_make_bz (n : Nat) (z : Int) (hz : z = n) (hn : n ≤ 100000) (W : World) : ∃ W' R, (makeRow 32 (.int .i64 z) (.int .i64 z)).run Try.prog W = .ok (.value (.slice (some ⟨W.heap.size, 0, none⟩) n n)) W' ∧ (R.length = n ∧ Byt W' (some ⟨W.heap.size, 0, none⟩) R) ∧ Kept W W' := by
  subst hz
  obtain ⟨W', h1, h2, h3⟩ := run_make_bs n hn W
  exact ⟨W', List.replicate n 0, h1, ⟨List.length_replicate, h2⟩, h3⟩
theorem run_make_dz (n : Nat) (z : Int) (hz : z = n) (hn : n ≤ 100000) (W : World) : ∃ W', (makeRow 35 (.int .i64 z) (.int .i64 z)).run Try.prog W = .ok (.value (.slice (some ⟨W.heap.size, 0, none⟩) n n)) W' ∧ Blk W' W.heap.size 40 (vsD (List.replicate n dig0)) ∧ Kept W W' := by
  subst hz; exact run_make_digs n hn W
@[go_sem ↓] theorem exec_make_bsl (ρ : Operand → Value) (dst : Option Tmp) (l c : Operand) (ty : TypeId) (pos : String) (after : Array Edge) (guard : Option (Nat × Bool)) :
    execOp ρ ⟨dst, .makeSlice 61 l c, ty, pos, after, guard⟩ = makeRow 61 (ρ l) (ρ c) := rfl
theorem run_make_bsl (W : World) : ∃ W', (makeRow 61 (.int .i64 1025) (.int .i64 1025)).run Try.prog W = .ok (.value (.slice (some ⟨W.heap.size, 0, none⟩) 1025 1025)) W' ∧ Kept W W' := by
  obtain ⟨i, hi, h2⟩ := Option.map_eq_some_iff.1 bs_info
  simp only [Prod.mk.injEq] at h2
  have h := run_make (P := Try.prog) W 61 32 i (.slice none 0 0) Try.underlying61 hi h2.2.2 .i64 .i64 1025 1025 (by omega) (by omega) (by rw [h2.2.1]; omega) (by omega)
  exact ⟨_, by simp only [makeRow, Sem.run_bind, h, Result.andThen_ok, Sem.run_pure]; rfl, (Upd.refl _ W).alloc _⟩
def bookA : Array Value := #[.map none, .map none, .int .i64 0]
@[go_sem ↓] theorem exec_build_book0 (ρ : Operand → Value) (dst : Option Tmp) (parts : Array (Nat × Operand)) (ty : TypeId) (pos : String) (after : Array Edge) (guard : Option (Nat × Bool)) :
    execOp ρ ⟨dst, .build 75 parts, ty, pos, after, guard⟩ = buildRow 75 (parts.map fun (i, x) => (i, ρ x)) := rfl
@[go_sem] theorem run_build_book0 (W : World) : (buildRow 75 #[]).run Try.prog W = .ok (.value (.agg bookA)) W := by
  have H := run_build (P := Try.prog) W 75 #[] bookA (by kernel_rfl)
  simp [buildRow, H, Result.andThen]
def treeZ : Array Value := #[.pointer none, .int .i64 0, .int .u32 0, .int .i32 0, .int .u32 0, .nilFunc, .slice none 0 0]
@[go_sem] theorem run_build_tree0 (W : World) : (buildRow 89 #[]).run Try.prog W = .ok (.value (.agg treeZ)) W := by
  have H := run_build (P := Try.prog) W 89 #[] treeZ (by kernel_rfl)
  simp [buildRow, H, Result.andThen]

set_option maxHeartbeats 1200000 in
set_option maxRecDepth 20000 in
theorem TreeKnown_walk (w : World) :
    Calls Try.prog 9 #[] w fun e w' => e = .returned (.bool true) ∧ Kept w w' := by
  have hnot : ∀ (x : Bool) (w : World), (Op.unary .not (.bool x)).run Try.prog w = .ok (.bool (!x)) w := fun _ _ => rfl
  go_enter Try.func9, Try.ntmps9
  go_wp2_with fail
  refine (law_book _).mono ?_
  rintro e w2 ⟨b, r, q, rfl, hI⟩
  have HI := Lib.hid hI
  clear hI
  obtain ⟨w3, htab, hown, hk3⟩ := run_tab w2
  replace HI := Lib.hid (HI.out.kept hk3)
  have HT := Lib.hid hown
  have hsz := hk3.size
  clear hown hk3 hsz
  go_wp2_with fail
  clear htab
  generalize w2.heap.size = gt at *
  go_loopw [62] (fun u1 wr => ∃ k : Nat, k ≤ 9 ∧ u1 = .int .i64 k ∧ ∃ L, Ink0 w wr b r q L ∧ OwnRows prA 2 wr gt 65 (.slice (some ⟨gt, 0, none⟩) 9 9) tab) (fun u1 _ => 2000 - (intOf u1).toNat)
  case atStart => exact ⟨0, by omega, rfl, _, HI.out, HT.out⟩
  case round =>
    clear HI HT
    obtain ⟨k, hk, rfl, L, hI, hT⟩ := hrel
    rcases Nat.lt_or_ge k 9 with hlt | hge
    · have hk1 : (k : Int) < 9 := by omega
      have hkt : k < tab.length := hlt
      obtain ⟨g', c', hv', -, -, s1, s2⟩ := OwnRows.get prA_size hT hkt
      simp only [Value.slice.injEq, Option.some.injEq, Addr.mk.injEq] at hv'
      obtain ⟨⟨rfl, -⟩, -, -⟩ := hv'
      have hok := tab_ok _ (List.getElem_mem hkt)
      generalize tab[k] = p at *
      obtain ⟨n, d⟩ := p
      simp only at hok
      have s3 : segV wr ⟨gt, k * 2, none⟩ 2 = #[.int .i64 (n : Int), .int .i64 (d : Int)] := s2
      have HOK := Lib.hid hok
      have HK := Lib.hid hlt
      have hal : Kept wr (wr.alloc (.cells #[.int .i64 (n : Int), .int .i64 (d : Int)] 65)) := (Upd.refl _ wr).alloc _
      have hbl : Blk (wr.alloc (.cells #[.int .i64 (n : Int), .int .i64 (d : Int)] 65)) wr.heap.size 65 [.int .i64 (n : Int), .int .i64 (d : Int)] := Blk.new wr _ _
      have c0 := hbl.cell (k := 0) rfl
      have c1 := hbl.cell (k := 1) rfl
      have HI := Lib.hid (hI.kept hal)
      have HT := Lib.hid (OwnRows.upd hT hal (fun _ _ h => h))
      have HB := Lib.hid hbl
      clear hok hlt hkt hk s2 hI hT hal hbl
      go_wp2_with fail
      generalize wr.heap.size = gc at *
      generalize wr.alloc (.cells #[.int .i64 (n : Int), .int .i64 (d : Int)] 65) = w4 at *
      refine (tree_New HI.out.book n HOK.out.1 HOK.out.2.1).mono ?_
      rintro e w5 ⟨t, rfl, -, hT5, hb5, hu5⟩
      have hI5 := HI.out.to hb5 hu5
      have hO5 := OwnRows.upd HT.out hu5 (fun k e => by obtain ⟨cur, hc⟩ := own_cells HT.out e; exact HI.out.book.not hc (by decide))
      have hB5 := HB.out.upd hu5 (HI.out.book.not HB.out (by decide))
      have hdl : (List.replicate n (leafM shaM [])).length = n := List.length_replicate
      have f0 : ∀ W, Kept w5 W → W.cell? ⟨gc, 0, none⟩ = some (.int .i64 (n : Int)) := fun W hW => hW.cell (hB5.cell (k := 0) rfl) id
      have f1 : ∀ W, Kept w5 W → W.cell? ⟨gc, 1, none⟩ = some (.int .i64 (d : Int)) := fun W hW => hW.cell (hB5.cell (k := 1) rfl) id
      have H5 := Lib.hid (And.intro hI5 (And.intro hT5 hO5))
      have hud : Kept w5 w5.drew := (Upd.refl _ w5).drew
      clear c0 c1 s1 s3 hb5 hu5 hI5 hT5 hO5 hB5 HI HT HB
      go_wp2_with fail
      refine wp_region_ord [(0, true), (1, true), (2, true), (3, true), (5, true), (6, true), (4, false), (7, true), (8, true), (9, true), (10, true), (12, true), (13, true), (11, false), (14, true), (15, true)] (by kernel_rfl) (by kernel_rfl) (Kept w5) hud ?_
      simp only [ordOps, List.getD_cons_zero, List.getD_cons_succ]
      iterate 6 (refine wpOrd_held (fun K hK => ?_); go_simp; first | (apply Exists.intro; refine ⟨fun W hW => ?_, hK _ ?_⟩; (go_simp; first | done | exact rfl); clear hK K) | (refine hK _ ?_; clear hK K))
      generalize w5.drew = wd at *
      refine wpOrd_step (fun K hK => ?_) hud
      go_simp
      have HG := tree_Depth (H5.out.2.1.kept hud)
      rw [hdl, HOK.out.2.2.1] at HG
      refine HG.mono ?_
      clear HG
      rintro e W ⟨rfl, rfl⟩
      refine hK _ _ hud ?_
      clear hK K
      iterate 6 (refine wpOrd_held (fun K hK => ?_); go_simp; first | (apply Exists.intro; refine ⟨fun W hW => ?_, hK _ ?_⟩; (go_simp; first | done | exact rfl); clear hK K) | (refine hK _ ?_; clear hK K))
      refine wpOrd_step (fun K hK => ?_) hud
      go_simp
      have HG := tree_Leaves (H5.out.2.1.kept hud)
      rw [hdl] at HG
      refine HG.mono ?_
      clear HG
      rintro e W ⟨rfl, rfl⟩
      refine hK _ _ hud ?_
      clear hK K
      iterate 2 (refine wpOrd_held (fun K hK => ?_); go_simp; first | (apply Exists.intro; refine ⟨fun W hW => ?_, hK _ ?_⟩; (go_simp; first | done | exact rfl); clear hK K) | (refine hK _ ?_; clear hK K))
      refine wpOrd_nil ?_
      have HF := Lib.hid (And.intro (H5.out.1.kept hud) (OwnRows.upd H5.out.2.2 hud (fun _ _ h => h)))
      clear f0 f1 hud H5 HOK hdl
      go_wp2
      go_roundw
      case rel => exact ⟨k + 1, by have := HK.out; omega, by show _ = _; go_num, _, HF.out.1, HF.out.2⟩
      case measure => have := HK.out; simp [intOf]; omega
    · obtain rfl : k = 9 := by omega
      have HI := Lib.hid hI
      clear hI hT hk hge
      go_wp2_with fail
      refine ((tree_New_bad (w := wr) (p := some ⟨b, 0, none⟩) 0 (by omega))).mono ?_
      rintro e wa ⟨rfl, hu⟩
      replace HI := Lib.hid (HI.out.kept hu)
      clear hu
      go_wp2_with fail
      refine ((tree_New_bad (w := wa) (p := some ⟨b, 0, none⟩) 1025 (by omega))).mono ?_
      rintro e wb ⟨rfl, hu⟩
      replace HI := Lib.hid (HI.out.kept hu)
      clear hu
      go_wp2_with fail
      refine ((tree_New_no (w := wb) (p := none) (.inl rfl) 1 (by omega) (by omega))).mono ?_
      rintro e wc ⟨rfl, hu⟩
      replace HI := Lib.hid (HI.out.kept hu)
      clear hu
      have hkb : Kept wc (wc.alloc (.cells bookA 75)) := (Upd.refl _ wc).alloc _
      have hbb : Blk (wc.alloc (.cells bookA 75)) wc.heap.size 75 [.map none, .map none, .int .i64 0] := Blk.new wc _ _
      have hnb : NoBook (wc.alloc (.cells bookA 75)) (some ⟨wc.heap.size, 0, none⟩) := .inr ⟨_, rfl, hbb.cell (k := 0) rfl⟩
      replace HI := Lib.hid (HI.out.kept hkb)
      have HNB := Lib.hid hnb
      clear hkb hbb hnb
      go_wp2_with fail
      generalize wc.heap.size = gz at *
      generalize wc.alloc (.cells bookA 75) = wd at *
      refine ((tree_New_no (w := wd) HNB.out 1 (by omega) (by omega))).mono ?_
      rintro e we ⟨rfl, hu⟩
      replace HI := Lib.hid (HI.out.kept hu)
      clear hu
      clear HNB
      go_wp2_with fail
      refine ((tree_New_bad (w := we) (p := none) 0 (by omega))).mono ?_
      rintro e wf ⟨rfl, hu⟩
      replace HI := Lib.hid (HI.out.kept hu)
      clear hu
      go_wp2_with fail
      refine ((tree_Of_bad (w := wf) (p := some ⟨b, 0, none⟩) (A := none) (n := 0) 0 (by omega))).mono ?_
      rintro e wg ⟨rfl, hu⟩
      replace HI := Lib.hid (HI.out.kept hu)
      clear hu
      have hkv : Kept wg (wg.alloc (.cells (dA dig0) 40)) := (Upd.refl _ wg).alloc _
      replace HI := Lib.hid (HI.out.kept hkv)
      clear hkv
      obtain ⟨w15, hmk, hkm⟩ := run_make_bsl (wg.alloc (.cells (dA dig0) 40))
      replace HI := Lib.hid (HI.out.kept hkm)
      clear hkm
      go_wp2_with fail
      clear hmk
      refine ((tree_Of_bad (w := w15) (p := some ⟨b, 0, none⟩) (n := 1025) 1025 (by omega))).mono ?_
      rintro e w16 ⟨rfl, hu⟩
      replace HI := Lib.hid (HI.out.kept hu)
      clear hu
      have hkv : Kept w16 (w16.alloc (.cells (dA dig0) 40)) := (Upd.refl _ w16).alloc _
      replace HI := Lib.hid (HI.out.kept hkv)
      clear hkv
      obtain ⟨w17, RZ, hmk, -, hkm⟩ := run_make_bz 65536 65536 rfl (by omega) (w16.alloc (.cells (dA dig0) 40))
      obtain ⟨g17, hg17⟩ : ∃ g, g = (w16.alloc (.cells (dA dig0) 40)).heap.size := ⟨_, rfl⟩
      rw [← hg17] at hmk
      have hka := hkm.alloc (.cells (slA ⟨some ⟨g17, 0, none⟩, 65536, 65536⟩) 32)
      replace HI := Lib.hid (HI.out.kept hka)
      have hcl : (w17.alloc (.cells (slA ⟨some ⟨g17, 0, none⟩, 65536, 65536⟩) 32)).cell? ⟨w17.heap.size, 0, none⟩ = some (.slice (some ⟨g17, 0, none⟩) 65536 65536) := by rw [cell_of_row _ w17.heap.size _ _ _ _ (heap_alloc_new w17 _)]; rfl
      have HC := Lib.hid hcl
      clear hkm hka hcl hg17
      go_wp2_with fail
      clear hmk
      generalize w17.heap.size = g18 at *
      generalize w17.alloc (.cells (slA ⟨some ⟨g17, 0, none⟩, 65536, 65536⟩) 32) = w18 at *
      refine ((tree_Of_long (w := w18) (p := some ⟨b, 0, none⟩) 1 HC.out (by omega))).mono ?_
      rintro e w19 ⟨rfl, hu⟩
      replace HI := Lib.hid (HI.out.kept hu)
      clear hu
      clear HC
      have hkv : Kept w19 (w19.alloc (.cells (dA dig0) 40)) := (Upd.refl _ w19).alloc _
      replace HI := Lib.hid (HI.out.kept hkv)
      clear hkv
      have hka : Kept (w19.alloc (.cells (dA dig0) 40)) ((w19.alloc (.cells (dA dig0) 40)).alloc (.cells (slA ⟨none, 0, 0⟩) 32)) := (Upd.refl _ _).alloc _
      replace HI := Lib.hid (HI.out.kept hka)
      have hcl : ((w19.alloc (.cells (dA dig0) 40)).alloc (.cells (slA ⟨none, 0, 0⟩) 32)).cell? ⟨(w19.alloc (.cells (dA dig0) 40)).heap.size, 0, none⟩ = some (.slice none 0 0) := by rw [cell_of_row _ _ _ _ _ _ (heap_alloc_new (w19.alloc (.cells (dA dig0) 40)) _)]; rfl
      have HC := Lib.hid hcl
      clear hka hcl
      go_wp2_with fail
      simp only [World.size_alloc] at HC
      generalize hg20 : w19.heap.size + 1 = g20 at *
      generalize (w19.alloc (.cells (dA dig0) 40)).alloc (.cells (slA ⟨none, 0, 0⟩) 32) = w20 at *
      clear hg20
      refine ((tree_Of_no (w := w20) (p := none) (.inl rfl) 1 0 HC.out)).mono ?_
      rintro e w21 ⟨rfl, hu⟩
      replace HI := Lib.hid (HI.out.kept hu)
      clear hu
      clear HC
      have hkv : Kept w21 (w21.alloc (.cells (dA dig0) 40)) := (Upd.refl _ w21).alloc _
      replace HI := Lib.hid (HI.out.kept hkv)
      clear hkv
      obtain ⟨w22, RZ, hmk, -, hkm⟩ := run_make_bz 65536 65536 rfl (by omega) (w21.alloc (.cells (dA dig0) 40))
      replace HI := Lib.hid (HI.out.kept hkm)
      clear hkm
      go_wp2_with fail
      clear hmk
      refine ((tree_Leaf_long (w := w22) (p := none) (n := 65536) 65536 (by omega))).mono ?_
      rintro e w23 ⟨rfl, hu⟩
      replace HI := Lib.hid (HI.out.kept hu)
      clear hu
      have hkv : Kept w23 (w23.alloc (.cells (dA dig0) 40)) := (Upd.refl _ w23).alloc _
      replace HI := Lib.hid (HI.out.kept hkv)
      clear hkv
      go_wp2_with fail
      generalize hWv : w23.alloc (.cells (dA dig0) 40) = w24 at *
      clear hWv
      refine ((tree_Leaf_no (w := w24) (p := none) (.inl rfl) 0)).mono ?_
      rintro e w25 ⟨rfl, hu⟩
      replace HI := Lib.hid (HI.out.kept hu)
      clear hu
      have hkv : Kept w25 (w25.alloc (.cells (dA dig0) 40)) := (Upd.refl _ w25).alloc _
      replace HI := Lib.hid (HI.out.kept hkv)
      clear hkv
      obtain ⟨w26, RZ, hmk, hby, hkm⟩ := run_make_bz 65535 65535 rfl (by omega) (w25.alloc (.cells (dA dig0) 40))
      obtain ⟨g26, hg26⟩ : ∃ g, g = (w25.alloc (.cells (dA dig0) 40)).heap.size := ⟨_, rfl⟩
      rw [← hg26] at hmk hby
      clear hg26
      replace HI := Lib.hid (HI.out.kept hkm)
      have HBY := Lib.hid hby
      clear hkm hby
      go_wp2_with fail
      clear hmk
      have HG := tree_Leaf (R := RZ) HI.out.book 65535 HBY.out.2 (by rw [HBY.out.1]; omega)
      rw [HBY.out.1] at HG
      generalize leafM shaM RZ = dm at *
      generalize leafIn RZ = im at *
      refine HG.mono ?_
      clear HG
      rintro e w27 ⟨rfl, hb, hu⟩
      have hI27 := HI.out.to hb hu
      have hd9 : Blk (w27.alloc (.cells (dA dm) 40)) w27.heap.size 40 (encB (dm).1) := Blk.new w27 _ _
      have hk9 : Kept w27 (w27.alloc (.cells (dA dm) 40)) := (Upd.refl _ w27).alloc _
      replace HI := Lib.hid (hI27.kept hk9)
      clear hb hu hI27 hd9 hk9 HBY
      go_wp2_with fail
      generalize w27.alloc (.cells (dA dm) 40) = w28 at *
      refine ((tree_Up_no (w := w28) (p := none) (A := none) (n := 0) 0 (by omega))).mono ?_
      rintro e w29 ⟨rfl, hu⟩
      replace HI := Lib.hid (HI.out.kept hu)
      clear hu
      have hkv : Kept w29 (w29.alloc (.cells (dA dig0) 40)) := (Upd.refl _ w29).alloc _
      replace HI := Lib.hid (HI.out.kept hkv)
      clear hkv
      obtain ⟨w30, hmk, hbl, hkm⟩ := run_make_dz 1 1 rfl (by omega) (w29.alloc (.cells (dA dig0) 40))
      replace HI := Lib.hid (HI.out.kept hkm)
      obtain ⟨g30, hg30⟩ : ∃ g, g = (w29.alloc (.cells (dA dig0) 40)).heap.size := ⟨_, rfl⟩
      rw [← hg30] at hmk hbl
      clear hg30
      have hdg : Digs w30 (some ⟨g30, 0, none⟩) [dig0] := .inr ⟨_, 0, rfl, hbl.range 0 (fun j _ => by rw [Nat.zero_add]; rfl)⟩
      have HDG := Lib.hid hdg
      clear hkm hbl hdg
      go_wp2_with fail
      clear hmk
      refine ((tree_Up_nil (w := w30) (p := none) (.inl rfl) 1 HDG.out (by simp) (by simp))).mono ?_
      rintro e w31 ⟨rfl, hu⟩
      replace HI := Lib.hid (HI.out.kept hu)
      clear hu
      have hkv : Kept w31 (w31.alloc (.cells (dA dig0) 40)) := (Upd.refl _ w31).alloc _
      replace HI := Lib.hid (HI.out.kept hkv)
      clear hkv
      clear HDG
      obtain ⟨w32, hmk, -, hkm⟩ := run_make_dz 5 5 rfl (by omega) (w31.alloc (.cells (dA dig0) 40))
      replace HI := Lib.hid (HI.out.kept hkm)
      clear hkm
      go_wp2_with fail
      clear hmk
      refine ((tree_Up_no (w := w32) (p := some ⟨b, 0, none⟩) (n := 5) 5 (by omega))).mono ?_
      rintro e w33 ⟨rfl, hu⟩
      replace HI := Lib.hid (HI.out.kept hu)
      clear hu
      have hkv : Kept w33 (w33.alloc (.cells (dA dig0) 40)) := (Upd.refl _ w33).alloc _
      replace HI := Lib.hid (HI.out.kept hkv)
      clear hkv
      go_wp2_with fail
      generalize w33.alloc (.cells (dA dig0) 40) = w34 at *
      refine (tree_New HI.out.book 5 (by omega) (by omega)).mono ?_
      rintro e w35 ⟨t, rfl, -, hT, hb, hu⟩
      have hI := HI.out.to hb hu
      obtain ⟨D5, hD5⟩ : ∃ D, D = List.replicate 5 (leafM shaM []) := ⟨_, rfl⟩
      rw [← hD5] at hT
      have hDl : D5.length = 5 := by rw [hD5, List.length_replicate]
      generalize w34.heap.size = lo at *
      generalize w35.heap.size = hi at *
      have HW := Lib.hid (And.intro hDl (And.intro hT hI.upd))
      clear hT hb hu hI hD5 hDl HI
      go_wp2_with fail
      refine (tree_Level_out HW.out.2.1 3 (by rw [HW.out.1, depthM5]; omega)).mono ?_
      rintro e W ⟨rfl, rfl⟩
      go_wp2_with fail
      refine (tree_Level_out HW.out.2.1 (-1) (by omega)).mono ?_
      rintro e W ⟨rfl, rfl⟩
      go_wp2_with fail
      refine (tree_Set_out HW.out.2.1 5 _ (by rw [HW.out.1]; omega)).mono ?_
      rintro e W ⟨rfl, rfl⟩
      obtain ⟨w36, RZ, hmk, -, hkm⟩ := run_make_bz 65536 65536 rfl (by omega) w35
      replace HW := Lib.hid (And.intro HW.out.1 (And.intro (HW.out.2.1.kept hkm) (show Kept w w36 from HW.out.2.2.then hkm (fun _ _ h => h))))
      clear hkm
      go_wp2_with fail
      clear hmk
      refine (tree_Set_long HW.out.2.1 (m := 65536) 65536 (by omega) 0 (by rw [HW.out.1]; omega)).mono ?_
      rintro e w37 ⟨rfl, hu⟩
      replace HW := Lib.hid (And.intro HW.out.1 (And.intro (HW.out.2.1.kept hu) (show Kept w w37 from HW.out.2.2.then hu (fun _ _ h => h))))
      clear hu
      obtain ⟨w38, RZ, hmk, -, hkm⟩ := run_make_bz 65536 65536 rfl (by omega) w37
      replace HW := Lib.hid (And.intro HW.out.1 (And.intro (HW.out.2.1.kept hkm) (show Kept w w38 from HW.out.2.2.then hkm (fun _ _ h => h))))
      clear hkm
      go_wp2_with fail
      clear hmk
      refine (tree_Set_out HW.out.2.1 5 _ (by rw [HW.out.1]; omega)).mono ?_
      rintro e W ⟨rfl, rfl⟩
      go_wp2_with fail
      go_loopw [45, 44] (fun u1 u2 wr => ∃ x p, x ≤ 2 ∧ u1 = .int .i64 (x : Nat) ∧ u2 = .pointer p ∧ NoTree wr p ∧ Kept w wr) (fun u1 _ _ => 2000 - (intOf u1).toNat)
      case atStart => exact ⟨0, none, by omega, rfl, rfl, .inl rfl, HW.out.2.2⟩
      case round =>
        clear HW
        obtain ⟨x, p, hx, rfl, rfl, hno, hu⟩ := hrel
        rcases Nat.lt_or_ge x 2 with hlt | hge
        · have hx2 : (x : Int) < 2 := by omega
          have HK := Lib.hid (And.intro hlt (And.intro hno hu))
          clear hno hu hlt hx
          go_wp2_with fail
          refine (tree_Root_no HK.out.2.1).mono ?_
          rintro e wa ⟨rfl, hua⟩
          have hva : Kept wr (wa.alloc (.cells (dA dig0) 40)) := hua.alloc _
          have HN := Lib.hid (And.intro (HK.out.2.1.kept hva) (show Kept w _ from HK.out.2.2.then hva (fun _ _ h => h)))
          clear hua hva
          go_wp2_with fail
          generalize wa.alloc (.cells (dA dig0) 40) = wb at *
          refine (tree_Level_no HN.out.1 0).mono ?_
          rintro e W ⟨rfl, rfl⟩
          go_wp2_with fail
          refine (tree_Set_no HN.out.1 0 _).mono ?_
          rintro e W ⟨rfl, rfl⟩
          go_wp2_with fail
          refine (tree_Depth_no HN.out.1).mono ?_
          rintro e W ⟨rfl, rfl⟩
          go_wp2_with fail
          refine (tree_Leaves_no HN.out.1).mono ?_
          rintro e W ⟨rfl, rfl⟩
          have hk : Kept wb (wb.alloc (.cells treeZ 89)) := (Upd.refl _ wb).alloc _
          have hbl : Blk (wb.alloc (.cells treeZ 89)) wb.heap.size 89 treeZ.toList := by have := Blk.new wb 89 treeZ.toList; rwa [Array.toArray_toList] at this
          have HZ := Lib.hid (And.intro (show NoTree _ _ from .inr ⟨_, rfl, hbl.cell (k := 0) rfl⟩) (show Kept w _ from HN.out.2.then hk (fun _ _ h => h)))
          clear hk hbl HN
          go_wp2
          go_roundw
          case rel => exact ⟨x + 1, _, by have := HK.out.1; omega, by show _ = _; go_num, rfl, HZ.out.1, HZ.out.2⟩
          case measure => have := HK.out.1; simp [intOf]; omega
        · obtain rfl : x = 2 := by omega
          have HK := Lib.hid hu
          clear hno hu hge hx
          go_wp2_with fail
          refine (law_works _).mono ?_
          rintro e wz ⟨rfl, huz⟩
          have HF := Lib.hid (HK.out.then huz (fun _ _ h => h))
          clear huz
          go_wp2
          go_ret
          exact ⟨rfl, HF.out⟩
set_option maxRecDepth 100000 in
theorem TreeKnown_lifted (os : Os) (started : os.Started) (H : Type) (enc : TypeId × Value → H) :
    ReturnsInHanded {} Try.checked os 9 .any (Rows.treeKnownSpec.pre6 enc Try.prog Try.f9 Rows.treeKnownRow.domain false) (Rows.treeKnownSpec.post enc Try.prog Try.f9 false true false false) := by
  refine law_lifted os started Try.func9 (by kernel_rfl) rfl rfl (by kernel_rfl) ?_
    (ChangeSpec.witness6 (enc := enc) (C := Try.checked) false ⟨#[], #[], []⟩ 8 (by kernel_rfl) (by kernel_rfl) (by kernel_rfl) (by kernel_rfl)) ?_
  · intro ds h
    rw [Try.params9] at h
    match ds, h with
    | [], _ => rfl
  · intro W base args ds ps hval hA _
    rw [Try.params9] at hA
    obtain ⟨hargs, rfl, rfl⟩ := trodAll_nil hA
    obtain rfl : args = #[] := by cases args; simp_all
    exact TreeKnown_walk W

theorem TreeKnown_holds : Rows.TreeKnownSaid :=
  OpenClaim.holds_of_wide 9 Try.f9 rfl rfl rfl rfl rfl rfl rfl ⟨rfl, rfl, rfl, rfl, rfl⟩ rfl rfl rfl rfl rfl (by kernel_rfl) Try.func9 (by kernel_rfl)
    (of_decide_eq_true (by kernel_rfl)) (by unfold Func.isWrapper; first | (rw [if_pos (by decide +kernel)]; kernel_rfl) | (rw [if_neg (by decide +kernel)]; exact ⟨rfl, rfl⟩))
    (fun os started H enc _ => TreeKnown_lifted os started H enc)
end Go.Proofs.Ytjimamgghkgdeaa
