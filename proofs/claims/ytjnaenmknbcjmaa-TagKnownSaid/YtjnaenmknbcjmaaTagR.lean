/- The document's ledger (bastideref04): its list in memory, contracts of its methods. -/
import Derived.Test.YtjnaenmknbcjmaaTagC
import Derived.Test.YtjnaenmknbcjmaaOwn
import Derived.Test.YtjnaenmknbcjmaaEq
import Derived.Test.YtjnaenmknbcjmaaFork
namespace Go.Proofs.Ytjnaenmknbcjmaa
open Go.RowKit

/-- a tag's cells -/
def entA (e : Ent) : Array Value := #[.int .i64 e.1, .int .i64 e.2.1] ++ dA e.2.2
theorem encE_eq (e : Ent) : encE e = .agg (entA e) := rfl
@[go_sem] theorem entA_size (e : Ent) : (entA e).size = 34 := by simp [entA]
@[go_sem] theorem entA_one (e : Ent) : oneB (entA e) = true := by
  have h := dA_one e.2.2
  unfold oneB at *
  simp only [entA, Array.toList_append, List.all_append, h, Bool.and_true]
  exact (by rfl : _ = _)

theorem rtag_keyType : Try.prog.keyType 92 = true := by kernel_rfl
theorem rtag_cells : Try.prog.cellsOf 92 = 34 := by kernel_rfl
theorem rtag_key (e : Ent) (h : entOk e) : ∃ l, keyOf Try.prog 92 (encE e) = some l := by
  obtain ⟨h1, h2⟩ := h
  obtain ⟨d, hd⟩ := types_size
  have h3 := e.2.2.2
  refine ⟨_, keyOf_wide (L := .int .i64 e.1 :: .int .i64 e.2.1 :: e.2.2.1.map fun b => .int .u8 b.toNat) (by rw [Try.underlying92]) rtag_keyType ?_ ?_⟩
  · simp [encE, Value.formed, Try.underlying92, rtag_cells]
  · rw [hd]
    have h4 := keyLits_bytes (P := Try.prog) Try.underlying28 Try.underlying5 u8_cells dig_cells (d + 1) e.2.2.1 h3
    have h5 : Try.prog.keyLits (d + 3) 3 [.int .i64 e.1] = some [.int .i64 e.1] := by unfold Program.keyLits; simp [Try.underlying3, h1]
    have h6 : Try.prog.keyLits (d + 3) 3 [.int .i64 e.2.1] = some [.int .i64 e.2.1] := by unfold Program.keyLits; simp [Try.underlying3, h2]
    have h7 : (encB e.2.2.1).take 32 = encB e.2.2.1 := List.take_of_length_le (by rw [encB_length, h3]; omega)
    have h8 : (encE e).cells.toList = .int .i64 e.1 :: .int .i64 e.2.1 :: encB e.2.2.1 := by simp [encE, Value.cells, dA]
    rw [h8]
    unfold Program.keyLits
    simp only [Try.underlying92]
    rw [if_pos (by simp [encB_length, h3, rtag_cells])]
    simp [int_cells, dig_cells, h5, h6, h7, h4]
theorem rtag_enc : KeyEnc Try.prog 92 entOk encE where
  law := Go.Maps.Keyed.of_law (deep_law_laid ent_laid (m := 4) (by omega) (of_decide_eq_true (by kernel_rfl)) (by kernel_rfl) (by rw [Try.underlying92]))
  key := rtag_key
  inj := ent_enc.inj
@[go_sem] theorem run_eq_rtag (x y : Ent) (hx : entOk x) (hy : entOk y) (xo yo : Operand) (W : World) : (eqRow .eql 92 xo yo (.agg (entA x)) (.agg (entA y))).run Try.prog W = .ok (.value (.bool (decide (x = y)))) W :=
  run_eqRow rtag_enc (m := 4) (by omega) (by kernel_rfl) (by rw [Try.underlying92]) (by kernel_rfl) entA encE_eq hx hy xo yo W

theorem ent_rows : RowType Try.prog entA 34 84 92 48 where
  size := entA_size
  one := entA_one
  slice := Try.underlying84
  info := ⟨.agg (entA (0, 0, dig0)), by kernel_rfl, by rw [Value.cells, entA_size]⟩
  pos := by omega

/-- block b is the document's ledger: v is its list's slice, in a row behind B; asked n times -/
structure RefAt (W : World) (B b : Nat) (v : Value) (L : List Ent) (n : Int) : Prop where
  blk : W.heap[b]? = some (.cells #[v, .int .i64 n] 86 (0, 0))
  rows : OwnRows entA 34 W B 92 v L
  lt : b < B
  ok : ∀ e ∈ L, entOk e

section
variable {W W' : World} {B b : Nat} {v : Value} {L : List Ent} {n : Int}
theorem RefAt.size (h : RefAt W B b v L n) : b < W.heap.size := (Array.getElem?_eq_some_iff.1 h.blk).1
theorem RefAt.cell0 (h : RefAt W B b v L n) : W.cell? ⟨b, 0, none⟩ = some v := by rw [cell_of_row W b 0 _ _ _ h.blk]; rfl
theorem RefAt.cell1 (h : RefAt W B b v L n) : W.cell? ⟨b, 1, none⟩ = some (.int .i64 n) := by rw [cell_of_row W b 1 _ _ _ h.blk]; rfl
theorem RefAt.thaw (h : RefAt W B b v L n) (o : Nat) : W.frozen? ⟨b, o, none⟩ = false := frozen_of_row W b o _ _ h.blk
theorem RefAt.upd {S : Nat → Prop} (h : RefAt W B b v L n) (hu : Upd S W W') (hb : ¬ S b) (hs : ∀ k, v.ownBlock = some k → ¬ S k) : RefAt W' B b v L n :=
  ⟨(hu.block b h.size hb).trans h.blk, h.rows.upd hu hs, h.lt, h.ok⟩
theorem RefAt.alloc (h : RefAt W B b v L n) (o : Obj) : RefAt (W.alloc o) B b v L n := h.upd ((Upd.refl (fun _ => False) W).alloc o) id fun _ _ h => h
theorem RefAt.drew (h : RefAt W B b v L n) : RefAt W.drew B b v L n := h.upd (Upd.refl (fun _ => False) W).drew id fun _ _ h => h
end

theorem ref_New (w : World) :
    Calls Try.prog 16 #[] w fun e w' => e = .returned (.pointer (some ⟨w.heap.size, 0, none⟩)) ∧ w.alloc (.cells #[.slice none 0 0, .int .i64 0] 86) = w' := by
  go_enter Try.func16, Try.ntmps16
  go_wp2
  go_ret
  exact ⟨rfl, rfl⟩

theorem ref_Name (n : Int) (w : World) : Calls Try.prog 62 #[.int .i64 n] w fun e w' => e = .returned (.bool (namedB n)) ∧ w = w' := by
  unfold namedB
  go_enter Try.func62, Try.ntmps62
  by_cases h : 1 ≤ n
  · go_wp2
    go_ret
    exact ⟨by simp [h], rfl⟩
  · go_wp2
    go_ret
    exact ⟨by simp; omega, rfl⟩

set_option maxHeartbeats 1000000 in
theorem ref_has {w : World} {B b : Nat} {v : Value} {L : List Ent} {n : Int} (h : RefAt w B b v L n) (hL : L.length < 4611686018427387904) (e : Ent) (he : entOk e) :
    Calls Try.prog 65 #[.pointer (some ⟨b, 0, none⟩), .agg (entA e)] w fun r w' => r = .returned (.bool (decide (e ∈ L))) ∧ Kept w w' := by
  have h1 := h.alloc (.cells (entA e) 92)
  have hb := heap_alloc_new w (.cells (entA e) 92)
  have HU : Hid (Kept w (w.alloc (.cells (entA e) 92))) := Lib.hid ((Upd.refl _ w).alloc _)
  go_enter Try.func65, Try.ntmps65
  go_wp2_with fail
  generalize w.alloc (.cells (entA e) 92) = W1 at *
  generalize w.heap.size = ge at *
  go_loopw [5] (fun i wr => ∃ k : Nat, k ≤ L.length ∧ i = .int .i64 k ∧ e ∉ L.take k ∧ Kept W1 wr) (fun i _ => L.length - (intOf i).toNat)
  case atStart => exact ⟨0, Nat.zero_le _, rfl, by simp, Upd.refl _ _⟩
  case round =>
    obtain ⟨k, hk, rfl, hne, hu⟩ := hrel
    have h2 := h1.upd hu id fun _ _ h => h
    have hc := h2.cell0
    have hg := hu.heap hb id
    replace HU := Lib.hid (HU.out.trans hu)
    by_cases hlt : k < L.length
    · obtain ⟨g, c, rfl, hbg, hlg, s1, s2⟩ := h2.rows.get entA_size hlt
      have hok := h2.ok _ (List.getElem_mem hlt)
      have hst : e ∈ L.take (k + 1) ↔ L[k] = e := by
        rw [List.take_succ_eq_append_getElem hlt, List.mem_append, List.mem_singleton]
        constructor
        · rintro (h | h)
          · exact absurd h hne
          · exact h.symm
        · exact fun h => .inr h.symm
      have HST := Lib.hid hst
      have hin : L[k] = e → e ∈ L := fun h => h ▸ List.getElem_mem hlt
      have HIN := Lib.hid hin
      generalize L[k] = x at *
      have r0 : ∀ W, Kept wr W → W.cell? ⟨b, 0, none⟩ = some (.slice (some ⟨g, 0, none⟩) L.length c) := fun W hW => hW.cell hc id
      have r1 : ∀ W, Kept wr W → segB W ⟨g, k * 34, none⟩ 34 = true := fun W hW => by rw [segB_same 34 (hW.block g hlg id)]; exact s1
      have r2 : ∀ W, Kept wr W → segV W ⟨g, k * 34, none⟩ 34 = entA x := fun W hW => by rw [segV_same 34 (hW.block g hlg id)]; exact s2
      have r3 : ∀ W, Kept wr W → segB W ⟨ge, 0, none⟩ 34 = true := fun W hW => segB_of (seg_block (hW.heap hg id)) (entA_size e)
      have r4 : ∀ W, Kept wr W → segV W ⟨ge, 0, none⟩ 34 = entA e := fun W hW => segV_of (seg_block (hW.heap hg id)) (entA_size e)
      clear hst hin s1 s2 hg hb h h1 h2
      go_wp2_with fail
      refine wp_region_ord [(0, true), (1, true), (2, true), (3, true), (4, true), (5, true), (6, true), (7, true), (8, true)] (by kernel_rfl) (by kernel_rfl) (Kept wr) ((Upd.refl _ _).drew) ?_
      simp only [ordOps, List.getD_cons_zero, List.getD_cons_succ]
      iterate 9 (refine wpOrd_held (fun K hK => ?_); go_simp; first | (apply Exists.intro; refine ⟨fun W hW => ?_, hK _ ?_⟩; (go_simp; first | done | exact rfl); clear hK K) | (refine hK _ ?_; clear hK K))
      refine wpOrd_nil ?_
      clear r0 r1 r2 r3 r4
      by_cases hx : x = e
      · go_wp2
        go_ret
        exact ⟨by simp [HIN.out hx], HU.out.drew⟩
      · go_wp2
        go_roundw
        case rel => exact ⟨k + 1, by omega, by go_num, fun h => hx (HST.out.1 h), hu.drew⟩
        case measure => simp [intOf]; omega
    · obtain rfl : k = L.length := by omega
      rw [List.take_length] at hne
      obtain ⟨A, c, rfl⟩ := h2.rows.form
      have HNE := Lib.hid hne
      clear hne hlt
      go_wp2
      go_ret
      exact ⟨by simp [HNE.out], HU.out⟩

@[go_sem ↓] theorem exec_oneTag (ρ : Operand → Value) (dst : Option Tmp) (parts : Array (Nat × Operand)) (ty : TypeId) (pos : String) (after : Array Edge) (guard : Option (Nat × Bool)) :
    execOp ρ ⟨dst, .buildSlice 84 1 parts, ty, pos, after, guard⟩ = sliceRow 84 1 (parts.map fun (i, x) => (i, ρ x)) := rfl
@[go_sem] theorem run_oneTag (x : Ent) (W : World) : (sliceRow 84 1 #[(0, .agg (entA x))]).run Try.prog W = .ok (.value (.slice (some ⟨W.heap.size, 0, none⟩) 1 1)) (W.alloc (.cells (entA x) 92)) :=
  run_sliceRow _ 92 34 (.agg (entA (0, 0, dig0))) _ Try.underlying84 (by kernel_rfl) (by omega) (by omega) (by rw [Value.cells, entA_size]) (entA_size x) W

set_option maxHeartbeats 1000000 in
theorem ref_put {w : World} {B b : Nat} {v : Value} {L : List Ent} {n : Int} (h : RefAt w B b v L n) (hL : L.length < 1000000) (hB : B ≤ w.heap.size) (e : Ent) (he : entOk e) :
    Calls Try.prog 63 #[.pointer (some ⟨b, 0, none⟩), .agg (entA e)] w fun r w' => (∃ u, r = .returned u) ∧ ∃ v', RefAt w' B b v' (putE e L) n ∧
      Upd (fun k => k = b ∨ v.ownBlock = some k) w w' ∧ ∀ k, k < w.heap.size → v'.ownBlock = some k → v.ownBlock = some k := by
  have h1 := h.alloc (.cells (entA e) 92)
  have hb := heap_alloc_new w (.cells (entA e) 92)
  have HU : Hid (Kept w (w.alloc (.cells (entA e) 92))) := Lib.hid ((Upd.refl _ w).alloc _)
  have hB1 : B ≤ (w.alloc (.cells (entA e) 92)).heap.size := by rw [World.size_alloc]; omega
  have hbn := h.size
  go_enter Try.func63, Try.ntmps63
  have hge : b ≠ w.heap.size := by omega
  have hvo : ∀ k, v.ownBlock = some k → k < w.heap.size := fun k hk => (World.ownsRow.lt h.rows k hk).2
  go_wp2_with fail
  generalize w.alloc (.cells (entA e) 92) = W1 at *
  have hvg : v.ownBlock ≠ some w.heap.size := fun hk => by have := hvo _ hk; omega
  refine (ref_has h1 (by omega) e he).mono ?_
  rintro r W2 ⟨rfl, hu⟩
  have h2 := h1.upd hu id fun _ _ h => h
  replace hb := hu.heap hb id
  replace HU := Lib.hid (HU.out.trans hu)
  replace hB1 := Nat.le_trans hB1 hu.size
  clear hu h1 W1
  by_cases hin : e ∈ L
  · have hp : putE e L = L := by unfold putE; rw [if_pos hin]
    have HP := Lib.hid hp
    rw [decide_eq_true hin]
    clear hin hp
    go_wp2
    go_end0
    exact ⟨⟨_, rfl⟩, v, by rw [HP.out]; exact h2, Kept.to HU.out, fun _ _ h => h⟩
  · have hp : putE e L = L ++ [e] := by unfold putE; rw [if_neg hin]
    have HP := Lib.hid hp
    rw [decide_eq_false hin]
    clear hin hp
    have r3 : ∀ W, Upd (fun k => k = b ∨ v.ownBlock = some k) W2 W → segB W ⟨w.heap.size, 0, none⟩ 34 = true := fun W hW => segB_of (seg_block (hW.heap hb (fun h => h.elim (fun h => hge h.symm) hvg))) (entA_size e)
    have r4 : ∀ W, Upd (fun k => k = b ∨ v.ownBlock = some k) W2 W → segV W ⟨w.heap.size, 0, none⟩ 34 = entA e := fun W hW => segV_of (seg_block (hW.heap hb (fun h => h.elim (fun h => hge h.symm) hvg))) (entA_size e)
    go_wp2_with fail
    refine wp_region_tree (.take 0 (.take 1 (.take 2 (.take 3 (.take 5 (.two 4 6 (.one 6 (.one 7 (.take 8 (.take 9 (.one 10 .done))))) (.one 4 (.one 7 (.take 8 (.take 9 (.one 10 .done))))))))))) (by kernel_rfl) (by kernel_rfl) (Upd (fun k => k = b ∨ v.ownBlock = some k) W2) ((Upd.refl _ _).drew) ?_
    simp only [OT.ops, List.getD_cons_zero, List.getD_cons_succ]
    iterate 5 (refine wpOO_held (fun K hK => ?_); go_simp; first | (apply Exists.intro; refine ⟨fun W hW => ?_, hK _ ?_⟩; (go_simp; first | done | exact rfl); clear hK K) | (refine hK _ ?_; clear hK K))
    clear r3 r4
    have c0 := h2.cell0
    have hS0 : Upd (fun k => k = b ∨ v.ownBlock = some k) W2 W2.drew := (Upd.refl _ _).drew
    have o0 := h2.rows.drew
    have b0 := h2.drew
    have hB2 : B ≤ W2.drew.heap.size := hB1
    have HSZ : Hid (w.heap.size ≤ W2.drew.heap.size) := HU.out.size
    have c1 : W2.drew.cell? ⟨b, 0, none⟩ = some v := c0
    generalize W2.drew = W3 at *
    have hblt := b0.size
    have c2 : (W3.alloc (.cells (entA e) 92)).cell? ⟨b, 0, none⟩ = some v := (b0.alloc _).cell0
    refine wpOO_fork (fun K hK => ?_) (fun K hK => ?_) hS0
    · go_simp
      refine hK _ _ hS0 ?_
      clear hK K
      refine wpOO_step (fun K hK => ?_) hS0
      go_simp
      refine hK _ _ (hS0.alloc _) ?_
      clear hK K
      refine wpOO_step (fun K hK => ?_) (hS0.alloc _)
      refine step_append_rows ent_rows rfl (.tmp 12) (.tmp 14) rfl rfl (o0.alloc _) e W3.heap.size 1 _ _ rfl (heap_alloc_new W3 _) (by unfold maxLen; omega) (by omega) (by rw [World.size_alloc]; omega) ?_
      intro v' W' hown' hu' hv'
      have hu3 : Upd (fun k => v.ownBlock = some k) W3 W' := ((Upd.refl (fun k => v.ownBlock = some k) W3).alloc _).trans hu'
      have hS' : Upd (fun k => k = b ∨ v.ownBlock = some k) W2 W' := hS0.then hu3 fun _ _ h => .inr h
      have hbv : v.ownBlock ≠ some b := h2.rows.far (.inl h2.lt)
      have hbk : W'.heap[b]? = some (.cells #[v, .int .i64 n] 86 (0, 0)) := (hu3.block b hblt hbv).trans b0.blk
      have hc' : W'.cell? ⟨b, 0, none⟩ = some v := by rw [cell_of_row _ _ _ _ _ _ hbk]; rfl
      have hf' : W'.frozen? ⟨b, 0, none⟩ = false := frozen_of_row W' b 0 _ _ hbk
      obtain ⟨A', c', rfl⟩ := hown'.form
      rw [List.length_append, List.length_singleton] at hown' hv'
      replace hv' : (Value.slice A' (L.length + 1) c').ownBlock = v.ownBlock ∨ (Value.slice A' (L.length + 1) c').ownBlock = some (W3.alloc (.cells (entA e) 92)).heap.size := hv'
      refine hK _ _ hS' ?_
      clear hK K
      iterate 2 (refine wpOO_held (fun K hK => ?_); go_simp; first | (apply Exists.intro; refine ⟨fun W hW => ?_, hK _ ?_⟩; (go_simp; first | done | exact rfl); clear hK K) | (refine hK _ ?_; clear hK K))
      refine wpOO_step (fun K hK => ?_) hS'
      go_simp
      refine hK _ _ (hS'.setCell (p := ⟨b, 0, none⟩) _ fun _ => .inl rfl) ?_
      clear hK K
      refine wpOO_nil ?_
      go_wp2
      go_end0
      refine ⟨⟨_, rfl⟩, .slice A' (L.length + 1) c', ?_, ((Kept.to HU.out).trans hS').setCell (p := ⟨b, 0, none⟩) _ fun _ => .inl rfl, fun k hk hk' => ?_⟩
      · rw [HP.out]
        refine ⟨by rw [heap_setCell_same _ b 0 _ _ _ hbk]; rfl, ?_, h2.lt, fun x hx => ?_⟩
        · exact hown'.upd ((Upd.refl (fun k => k = b) W').setCell _ fun _ => rfl) fun k hk e => by subst e; exact hown'.far (.inl h2.lt) hk
        · rcases List.mem_append.1 hx with hx | hx
          · exact h2.ok x hx
          · rw [List.mem_singleton.1 hx]; exact he
      · rcases hv' with hv' | hv'
        · rw [← hv']; exact hk'
        · rw [hv', World.size_alloc] at hk'
          have := HSZ.out
          simp only [Option.some.injEq] at hk'
          omega
    · go_simp
      refine hK _ _ (hS0.alloc _) ?_
      clear hK K
      refine wpOO_step (fun K hK => ?_) (hS0.alloc _)
      go_simp
      refine hK _ _ (hS0.alloc _) ?_
      clear hK K
      refine wpOO_step (fun K hK => ?_) (hS0.alloc _)
      refine step_append_rows ent_rows rfl (.tmp 12) (.tmp 14) rfl rfl (o0.alloc _) e W3.heap.size 1 _ _ rfl (heap_alloc_new W3 _) (by unfold maxLen; omega) (by omega) (by rw [World.size_alloc]; omega) ?_
      intro v' W' hown' hu' hv'
      have hu3 : Upd (fun k => v.ownBlock = some k) W3 W' := ((Upd.refl (fun k => v.ownBlock = some k) W3).alloc _).trans hu'
      have hS' : Upd (fun k => k = b ∨ v.ownBlock = some k) W2 W' := hS0.then hu3 fun _ _ h => .inr h
      have hbv : v.ownBlock ≠ some b := h2.rows.far (.inl h2.lt)
      have hbk : W'.heap[b]? = some (.cells #[v, .int .i64 n] 86 (0, 0)) := (hu3.block b hblt hbv).trans b0.blk
      have hc' : W'.cell? ⟨b, 0, none⟩ = some v := by rw [cell_of_row _ _ _ _ _ _ hbk]; rfl
      have hf' : W'.frozen? ⟨b, 0, none⟩ = false := frozen_of_row W' b 0 _ _ hbk
      obtain ⟨A', c', rfl⟩ := hown'.form
      rw [List.length_append, List.length_singleton] at hown' hv'
      replace hv' : (Value.slice A' (L.length + 1) c').ownBlock = v.ownBlock ∨ (Value.slice A' (L.length + 1) c').ownBlock = some (W3.alloc (.cells (entA e) 92)).heap.size := hv'
      refine hK _ _ hS' ?_
      clear hK K
      iterate 2 (refine wpOO_held (fun K hK => ?_); go_simp; first | (apply Exists.intro; refine ⟨fun W hW => ?_, hK _ ?_⟩; (go_simp; first | done | exact rfl); clear hK K) | (refine hK _ ?_; clear hK K))
      refine wpOO_step (fun K hK => ?_) hS'
      go_simp
      refine hK _ _ (hS'.setCell (p := ⟨b, 0, none⟩) _ fun _ => .inl rfl) ?_
      clear hK K
      refine wpOO_nil ?_
      go_wp2
      go_end0
      refine ⟨⟨_, rfl⟩, .slice A' (L.length + 1) c', ?_, ((Kept.to HU.out).trans hS').setCell (p := ⟨b, 0, none⟩) _ fun _ => .inl rfl, fun k hk hk' => ?_⟩
      · rw [HP.out]
        refine ⟨by rw [heap_setCell_same _ b 0 _ _ _ hbk]; rfl, ?_, h2.lt, fun x hx => ?_⟩
        · exact hown'.upd ((Upd.refl (fun k => k = b) W').setCell _ fun _ => rfl) fun k hk e => by subst e; exact hown'.far (.inl h2.lt) hk
        · rcases List.mem_append.1 hx with hx | hx
          · exact h2.ok x hx
          · rw [List.mem_singleton.1 hx]; exact he
      · rcases hv' with hv' | hv'
        · rw [← hv']; exact hk'
        · rw [hv', World.size_alloc] at hk'
          have := HSZ.out
          simp only [Option.some.injEq] at hk'
          omega
end Go.Proofs.Ytjnaenmknbcjmaa
