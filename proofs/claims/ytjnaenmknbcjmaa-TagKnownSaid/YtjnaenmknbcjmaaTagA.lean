/- Package tag: keys, the ledger in memory, contracts of New, none, named, Tag. -/
import Derived.Test.YtjnaenmknbcjmaaKey
import Derived.Test.YtjnaenmknbcjmaaAgg
import Derived.Lib.Hide
namespace Go.Proofs.Ytjnaenmknbcjmaa
open Go.RowKit
open Go.Maps (Keyed)

/-- a tag: from, to, digest -/
abbrev Ent : Type := Int × Int × Dig
def entOk (e : Ent) : Prop := (Lit.int .i64 e.1).wf = true ∧ (Lit.int .i64 e.2.1).wf = true
def encE (e : Ent) : Value := .agg (#[.int .i64 e.1, .int .i64 e.2.1] ++ dA e.2.2)

theorem types_size : ∃ d, Try.prog.types.size + 1 = d + 4 := ⟨Try.prog.types.size - 3, by kernel_rfl⟩
theorem int_cells : Try.prog.cellsOf 3 = 1 := by kernel_rfl
theorem u8_cells : Try.prog.cellsOf 5 = 1 := by kernel_rfl
theorem dig_cells : Try.prog.cellsOf 28 = 32 := by kernel_rfl
theorem ent_cells : Try.prog.cellsOf 89 = 34 := by kernel_rfl
theorem ent_keyType : Try.prog.keyType 89 = true := by kernel_rfl
theorem ent_laid : laidOutB Try.prog = true := by kernel_rfl

theorem ent_key (e : Ent) (h : entOk e) : ∃ l, keyOf Try.prog 89 (encE e) = some l := by
  obtain ⟨h1, h2⟩ := h
  obtain ⟨d, hd⟩ := types_size
  have h3 := e.2.2.2
  refine ⟨_, keyOf_wide (L := .int .i64 e.1 :: .int .i64 e.2.1 :: e.2.2.1.map fun b => .int .u8 b.toNat) (by rw [Try.underlying89]) ent_keyType ?_ ?_⟩
  · simp [encE, Value.formed, Try.underlying89, ent_cells]
  · rw [hd]
    have h4 := keyLits_bytes (P := Try.prog) Try.underlying28 Try.underlying5 u8_cells dig_cells (d + 1) e.2.2.1 h3
    have h5 : Try.prog.keyLits (d + 3) 3 [.int .i64 e.1] = some [.int .i64 e.1] := by unfold Program.keyLits; simp [Try.underlying3, h1]
    have h6 : Try.prog.keyLits (d + 3) 3 [.int .i64 e.2.1] = some [.int .i64 e.2.1] := by unfold Program.keyLits; simp [Try.underlying3, h2]
    have h7 : (encB e.2.2.1).take 32 = encB e.2.2.1 := List.take_of_length_le (by rw [encB_length, h3]; omega)
    have h8 : (encE e).cells.toList = .int .i64 e.1 :: .int .i64 e.2.1 :: encB e.2.2.1 := by simp [encE, Value.cells, dA]
    rw [h8]
    unfold Program.keyLits
    simp only [Try.underlying89]
    rw [if_pos (by simp [encB_length, h3, ent_cells])]
    simp [int_cells, dig_cells, h5, h6, h7, h4]

theorem ent_enc : KeyEnc Try.prog 89 entOk encE where
  law := Keyed.of_law (deep_law_laid ent_laid (m := 4) (by omega) (of_decide_eq_true (by kernel_rfl)) (by kernel_rfl) (by rw [Try.underlying89]))
  key := ent_key
  inj := by
    rintro ⟨a, b, c⟩ ⟨a', b', c'⟩ _ _ h
    have h' := congrArg (fun v : Value => v.cells.toList) h
    simp only [encE, Value.cells, Array.toList_append, List.cons_append, List.nil_append, List.cons.injEq, Value.int.injEq, true_and, Array.toList_inj] at h'
    rw [h'.1, h'.2.1, dA_inj h'.2.2]

/-- a struct of two integers and a digest is built -/
theorem run_build_iid {P : Program} (t : TypeId) (hz : P.built t = fun parts => Instr.fill (fun i => #[(0, 1), (1, 1), (2, 32)][i]?) (#[.int .i64 0, .int .i64 0] ++ Array.replicate 32 (.int .u8 0)) parts)
    (u v : Int) (d : Array Value) (hd : d.size = 32) (W : World) : (buildRow t #[(0, .int .i64 u), (1, .int .i64 v), (2, .agg d)]).run P W = .ok (.value (.agg (#[.int .i64 u, .int .i64 v] ++ d))) W := by
  have h := run_build (P := P) W t #[(0, .int .i64 u), (1, .int .i64 v), (2, .agg d)] (#[.int .i64 u, .int .i64 v] ++ d) (by
    rw [hz]
    have hl := fill_last 2 d (#[.int .i64 u, .int .i64 v] ++ Array.replicate 32 (.int .u8 0)) (by simp [hd])
    have hzs : (Array.replicate 32 (Value.int .u8 0)).size = 32 := by simp
    generalize Array.replicate 32 (Value.int .u8 0) = z at *
    simp [Instr.fill, Value.cells, hd]
    simp at hl
    rw [hd] at hl
    exact ⟨by omega, hl⟩)
  simp [buildRow, h, Result.andThen]

theorem built_ent : Try.prog.built 89 = fun parts => Instr.fill (fun i => #[(0, 1), (1, 1), (2, 32)][i]?) (#[.int .i64 0, .int .i64 0] ++ Array.replicate 32 (.int .u8 0)) parts := by kernel_rfl
theorem built_rtag : Try.prog.built 92 = fun parts => Instr.fill (fun i => #[(0, 1), (1, 1), (2, 32)][i]?) (#[.int .i64 0, .int .i64 0] ++ Array.replicate 32 (.int .u8 0)) parts := by kernel_rfl

@[go_sem ↓] theorem exec_build_ent (ρ : Operand → Value) (dst : Option Tmp) (parts : Array (Nat × Operand)) (ty : TypeId) (pos : String) (after : Array Edge) (guard : Option (Nat × Bool)) :
    execOp ρ ⟨dst, .build 89 parts, ty, pos, after, guard⟩ = buildRow 89 (parts.map fun (i, x) => (i, ρ x)) := rfl
@[go_sem ↓] theorem exec_build_rtag (ρ : Operand → Value) (dst : Option Tmp) (parts : Array (Nat × Operand)) (ty : TypeId) (pos : String) (after : Array Edge) (guard : Option (Nat × Bool)) :
    execOp ρ ⟨dst, .build 92 parts, ty, pos, after, guard⟩ = buildRow 92 (parts.map fun (i, x) => (i, ρ x)) := rfl
@[go_sem] theorem run_build_ent (u v : Int) (d : Dig) (W : World) : (buildRow 89 #[(0, .int .i64 u), (1, .int .i64 v), (2, .agg (dA d))]).run Try.prog W = .ok (.value (encE (u, v, d))) W :=
  run_build_iid _ built_ent u v _ (dA_size d) W
@[go_sem] theorem run_build_rtag (u v : Int) (d : Dig) (W : World) : (buildRow 92 #[(0, .int .i64 u), (1, .int .i64 v), (2, .agg (dA d))]).run Try.prog W = .ok (.value (encE (u, v, d))) W :=
  run_build_iid _ built_rtag u v _ (dA_size d) W

theorem tag_map_eq (w : World) (r : Option Nat) : (binOp .eql 50 (.map r) (.map none)).run Try.prog w = .ok (.bool r.isNone) w :=
  run_eql_map_nil w _ _ _ r Try.underlying50
attribute [local go_sem] tag_map_eq

/-! ### the ledger in memory -/
def unitL (L : List Ent) : List (Ent × Value) := L.map fun e => (e, .agg #[])
def putE (e : Ent) (L : List Ent) : List Ent := if e ∈ L then L else L ++ [e]
theorem putL_unit (e : Ent) (L : List Ent) : putL e (.agg #[]) (unitL L) = unitL (putE e L) := by
  unfold putE
  induction L with
  | nil => rfl
  | cons x l ih =>
    simp only [unitL, List.map_cons, putL]
    by_cases h : x = e
    · simp [h]
    · rw [if_neg h]
      have h' : ¬ e = x := fun k => h k.symm
      simp only [List.mem_cons, h', false_or]
      have ih' : putL e (.agg #[]) (l.map fun e => (e, Value.agg #[])) = _ := ih
      rw [ih']
      split <;> rfl
theorem getL_unit (e : Ent) (L : List Ent) : getL e (unitL L) = if e ∈ L then some (.agg #[]) else none := by
  induction L with
  | nil => rfl
  | cons x l ih =>
    simp only [unitL, List.map_cons, getL, List.mem_cons]
    by_cases h : x = e
    · simp [h]
    · have h' : ¬ e = x := fun k => h k.symm
      rw [if_neg h]
      simp only [h', false_or]
      exact ih

/-- block b is a ledger whose map is block r: its tags are L, in the order in which they came; asked n times -/
structure LedAt (w : World) (b r : Nat) (L : List Ent) (n : Int) : Prop where
  blk : w.heap[b]? = some (.cells #[.map (some r), .int .i64 n] 57 (0, 0))
  map : MapAt entOk encE w r (unitL L)

section
variable {w w' : World} {b r : Nat} {L : List Ent} {n : Int}
theorem LedAt.lt (h : LedAt w b r L n) : b < w.heap.size := (Array.getElem?_eq_some_iff.1 h.blk).1
theorem LedAt.cell0 (h : LedAt w b r L n) : w.cell? ⟨b, 0, none⟩ = some (.map (some r)) := by
  rw [cell_of_row w b 0 _ _ _ h.blk]; rfl
theorem LedAt.cell1 (h : LedAt w b r L n) : w.cell? ⟨b, 1, none⟩ = some (.int .i64 n) := by
  rw [cell_of_row w b 1 _ _ _ h.blk]; rfl
theorem LedAt.thaw (h : LedAt w b r L n) (o : Nat) : w.frozen? ⟨b, o, none⟩ = false := frozen_of_row w b o _ _ h.blk
theorem LedAt.kept (h : LedAt w b r L n) (hb : w'.heap[b]? = w.heap[b]?) (hr : w'.heap[r]? = w.heap[r]?) : LedAt w' b r L n :=
  ⟨hb.trans h.blk, h.map.kept hr⟩
theorem LedAt.upd {S : Nat → Prop} (h : LedAt w b r L n) (hu : Upd S w w') (hb : ¬ S b) (hr : ¬ S r) : LedAt w' b r L n :=
  h.kept (hu.block b h.lt hb) (hu.block r h.map.lt hr)
theorem LedAt.alloc (h : LedAt w b r L n) (o : Obj) : LedAt (w.alloc o) b r L n := h.upd ((Upd.refl (fun _ => False) w).alloc o) id id
theorem LedAt.drew (h : LedAt w b r L n) : LedAt w.drew b r L n := h.kept rfl rfl
end

set_option maxHeartbeats 400000 in
theorem tag_none_any {w : World} {b r : Nat} {L : List Ent} {n : Int} (h : LedAt w b r L n) :
    Calls Try.prog 60 #[.pointer (some ⟨b, 0, none⟩)] w fun e w' => e = .returned (.bool false) ∧ w = w' := by
  have hc := h.cell0
  clear h
  go_enter Try.func60, Try.ntmps60
  go_wp2
  go_ret
  exact ⟨rfl, rfl⟩

set_option maxHeartbeats 400000 in
theorem tag_new_any (w : World) :
    Calls Try.prog 15 #[] w fun e w' => e = .returned (.pointer (some ⟨w.heap.size + 1, 0, none⟩)) ∧ (w.alloc (.map #[] 0)).alloc (.cells #[.map (some w.heap.size), .int .i64 0] 57) = w' := by
  have hmm := @run_makeMap Try.prog
  go_enter Try.func15, Try.ntmps15
  go_wp2
  go_ret
  exact ⟨rfl, rfl⟩

theorem LedAt.new (w : World) : LedAt ((w.alloc (.map #[] 0)).alloc (.cells #[.map (some w.heap.size), .int .i64 0] 57)) (w.heap.size + 1) w.heap.size [] 0 :=
  ⟨by simpa using heap_alloc_new (w.alloc (.map #[] 0)) _, ((MapAt.new w).kept (heap_alloc_old _ _ (by simp)))⟩

def namedB (n : Int) : Bool := decide (1 ≤ n) && decide (n ≤ 34)

set_option maxHeartbeats 400000 in
theorem tag_named_any (n : Int) (w : World) :
    Calls Try.prog 61 #[.int .i64 n] w fun e w' => e = .returned (.bool (namedB n)) ∧ w = w' := by
  by_cases h1 : 1 ≤ n
  · by_cases h2 : n ≤ 34
    all_goals
      have H : Hid (namedB n = (decide (1 ≤ n) && decide (n ≤ 34))) := rfl
      go_enter Try.func61, Try.ntmps61
      go_wp2
      go_ret
      exact ⟨by rw [H.out]; simp [h1, h2], rfl⟩
  · have H : Hid (namedB n = (decide (1 ≤ n) && decide (n ≤ 34))) := rfl
    go_enter Try.func61, Try.ntmps61
    go_wp2
    go_ret
    exact ⟨by rw [H.out]; simp; omega, rfl⟩

theorem named_wf {n : Int} (h : namedB n = true) : (Lit.int .i64 n).wf = true := by
  simp [namedB] at h
  simp [Lit.wf, IntKind.min, IntKind.max, IntKind.signed, IntKind.bits]
  omega

/-- Tag, taken -/
theorem tag_Tag_ok {w : World} {b r : Nat} {L : List Ent} {n : Int} (h : LedAt w b r L n) (f t : Int) (d : Dig) (hf : namedB f = true) (ht : namedB t = true ∨ t = 0) :
    Calls Try.prog 18 #[.pointer (some ⟨b, 0, none⟩), .int .i64 f, .int .i64 t, .agg (dA d)] w fun e w' => e = .returned (.int .i64 0) ∧ LedAt w' b r (putE (f, t, d) L) n ∧ Upd (fun k => k = r) w w' := by
  have h1 : LedAt (w.alloc (.cells (dA d) 28)) b r L n := h.alloc _
  have hx : entOk (f, t, d) := ⟨named_wf hf, ht.elim named_wf fun e => by rw [e]; exact (by decide : (Lit.int .i64 0).wf = true)⟩
  obtain ⟨W2, hrun, hm2, hg2, hs2⟩ := run_update_at ent_enc Try.underlying50 h1.drew.map hx (.agg #[])
  rw [putL_unit] at hm2
  have H2 := Lib.hid hm2
  have H3 := Lib.hid hg2
  have hne : b ≠ r := by rintro rfl; obtain ⟨es, c, hm, _⟩ := h.map; rw [h.blk] at hm; cases hm
  have H5 := Lib.hid hne
  clear hne
  clear hm2 hg2 hs2 hx
  have h0 : namedB 0 = false := by decide
  rcases ht with ht | rfl
  all_goals
    go_enter Try.func18, Try.ntmps18
    go_wp2_with (first
      | (go_at_call 60; refine (tag_none_any (L := L) (n := n) (r := r) h1).mono ?_; rintro e w' ⟨rfl, rfl⟩)
      | (go_at_call 61; refine (tag_named_any _ _).mono ?_; rintro e w' ⟨rfl, rfl⟩))
    have hc := h1.cell0
    go_region
    go_wp2
    go_ret
    exact ⟨rfl, ⟨(H3.out.block b (h1.drew).lt (by simpa using H5.out)).trans h1.blk, H2.out⟩, ((Upd.refl _ w).alloc _).drew.then (Upd.of_grown H3.out) (fun i _ e => by simpa using e)⟩

/-- Tag, refused -/
theorem tag_Tag_no {w : World} {b r : Nat} {L : List Ent} {n : Int} (h : LedAt w b r L n) (f t : Int) (d : Dig) (hx : namedB f = false ∨ namedB t = false ∧ t ≠ 0) :
    Calls Try.prog 18 #[.pointer (some ⟨b, 0, none⟩), .int .i64 f, .int .i64 t, .agg (dA d)] w fun e w' => e = .returned (.int .i64 2) ∧ Kept w w' := by
  have h1 : LedAt (w.alloc (.cells (dA d) 28)) b r L n := h.alloc _
  rcases hx with hx | ⟨hx, ht⟩
  · go_enter Try.func18, Try.ntmps18
    go_wp2_with (first
      | (go_at_call 60; refine (tag_none_any (L := L) (n := n) (r := r) h1).mono ?_; rintro e w' ⟨rfl, rfl⟩)
      | (go_at_call 61; refine (tag_named_any _ _).mono ?_; rintro e w' ⟨rfl, rfl⟩))
    go_ret
    exact ⟨rfl, (Upd.refl _ w).alloc _⟩
  · have ht' : (t != 0) = true := by simpa using ht
    cases hf : namedB f
    all_goals
      go_enter Try.func18, Try.ntmps18
      go_wp2_with (first
        | (go_at_call 60; refine (tag_none_any (L := L) (n := n) (r := r) h1).mono ?_; rintro e w' ⟨rfl, rfl⟩)
        | (go_at_call 61; refine (tag_named_any _ _).mono ?_; rintro e w' ⟨rfl, rfl⟩))
      go_ret
      exact ⟨rfl, (Upd.refl _ w).alloc _⟩

/-- what Tag does to the tags, and what it answers -/
def tagM (L : List Ent) (f t : Int) (d : Dig) : List Ent × Int := if namedB f && (namedB t || t == 0) then (putE (f, t, d) L, 0) else (L, 2)

theorem tag_Tag {w : World} {b r : Nat} {L : List Ent} {n : Int} (h : LedAt w b r L n) (f t : Int) (d : Dig) :
    Calls Try.prog 18 #[.pointer (some ⟨b, 0, none⟩), .int .i64 f, .int .i64 t, .agg (dA d)] w fun e w' => e = .returned (.int .i64 (tagM L f t d).2) ∧ LedAt w' b r (tagM L f t d).1 n ∧ Upd (fun k => k = r) w w' := by
  unfold tagM
  split
  · rename_i hx
    simp only [Bool.and_eq_true, Bool.or_eq_true, beq_iff_eq] at hx
    exact tag_Tag_ok h f t d hx.1 hx.2
  · rename_i hx
    refine (tag_Tag_no h f t d ?_).mono fun e w' ⟨he, hk⟩ => ⟨he, h.upd hk id id, hk.to⟩
    simp only [Bool.and_eq_true, Bool.or_eq_true, beq_iff_eq, not_and, not_or] at hx
    cases hf : namedB f
    · exact .inl rfl
    · exact .inr ⟨by simpa using (hx hf).1, (hx hf).2⟩
end Go.Proofs.Ytjnaenmknbcjmaa
