/- Notes on their way as cells; byte slices; contracts: slices.Clone, CopyBytes, EqBytes, Bring. -/
import Derived.Test.YtkfekkemfahepaaAgg
import Derived.Test.YtkfekkemfahepaaCut
import Derived.Test.YtkfekkemfahepaaFrame
import Derived.Lib.Hide
namespace Go.Proofs.Ytkfekkemfahepaa
open Go.RowKit

theorem int_cells : Try.prog.cellsOf 3 = 1 := by kernel_rfl
theorem u8_cells : Try.prog.cellsOf 5 = 1 := by kernel_rfl
theorem u8_info : ∃ i, Try.prog.info? 5 = some i ∧ i.zero = some (.int .u8 0) ∧ i.size = 1 ∧ i.bytes = 1 := by
  have h : (Try.prog.info? 5).map (fun i => (i.zero, i.size, i.bytes)) = some (some (.int .u8 0), 1, 1) := by kernel_rfl
  obtain ⟨i, hi, h2⟩ := Option.map_eq_some_iff.1 h
  simp only [Prod.mk.injEq] at h2
  exact ⟨i, hi, h2.1, h2.2.1, h2.2.2⟩

/-- bytes behind an address -/
def Bys (W : World) (A : Option Addr) (R : List Int) : Prop :=
  R = [] ∨ ∃ b off, A = some ⟨b, off, none⟩ ∧ ∀ k (h : k < R.length), W.cell? ⟨b, off + k, none⟩ = some (.int .u8 R[k])
/-- in a block that holds nothing else -/
def Own8 (W : World) (A : Option Addr) (R : List Int) : Prop := R = [] ∨ ∃ b cs, A = some ⟨b, 0, none⟩ ∧ W.heap[b]? = some (.cells cs 5 (0, 0))

section
variable {W W' : World} {A : Option Addr} {R : List Int} {S : Nat → Prop}
theorem Bys.get (h : Bys W A R) {k : Nat} (hk : k < R.length) : ∃ b off, A = some ⟨b, off, none⟩ ∧ W.cell? ⟨b, off + k, none⟩ = some (.int .u8 R[k]) := by
  rcases h with rfl | ⟨b, off, rfl, h⟩
  · simp at hk
  · exact ⟨b, off, rfl, h k hk⟩
theorem Bys.kept (h : Bys W A R) (hu : Kept W W') : Bys W' A R := by
  rcases h with rfl | ⟨b, off, rfl, h⟩
  · exact .inl rfl
  · exact .inr ⟨b, off, rfl, fun k hk => hu.cell (h k hk) id⟩
theorem Bys.upd (h : Bys W A R) (ho : Own8 W A R) (hu : Upd S W W') (hS : ∀ k, S k → ∀ cs fr, W.heap[k]? ≠ some (.cells cs 5 fr)) : Bys W' A R := by
  rcases h with rfl | ⟨b, off, rfl, h⟩
  · exact .inl rfl
  · refine .inr ⟨b, off, rfl, fun k hk => hu.cell (h k hk) fun hs => ?_⟩
    rcases ho with rfl | ⟨b', cs, e, hb⟩
    · simp at hk
    · simp only [Option.some.injEq, Addr.mk.injEq, and_true] at e
      obtain ⟨rfl, rfl⟩ := e
      exact hS _ hs _ _ hb
theorem Own8.upd (h : Own8 W A R) (hu : Upd S W W') (hS : ∀ k, S k → ∀ cs fr, W.heap[k]? ≠ some (.cells cs 5 fr)) : Own8 W' A R := by
  rcases h with rfl | ⟨b, cs, rfl, h⟩
  · exact .inl rfl
  · exact .inr ⟨b, cs, rfl, hu.heap h fun hs => hS _ hs _ _ h⟩
theorem Own8.kept (h : Own8 W A R) (hu : Kept W W') : Own8 W' A R := h.upd hu fun _ h => h.elim
end

/-- a note: whose, for whom, what -/
abbrev Note := Int × Int × List Int
/-- its cells' parts -/
structure EnvC where
  f : Int
  t : Int
  A : Option Addr
  n : Nat
  c : Nat
def envA (x : EnvC) : Array Value := #[.int .i64 x.f, .int .i64 x.t, .slice x.A x.n x.c]
@[go_sem] theorem envA_size (x : EnvC) : (envA x).size = 3 := by simp [envA]
@[go_sem] theorem envA_one (x : EnvC) : oneB (envA x) = true := by unfold envA oneB; exact (by rfl : _ = _)
section
variable (x : EnvC)
@[go_sem] theorem envA_0 (h : 0 < (envA x).size) : (envA x)[0]'h = .int .i64 x.f := by unfold envA; rfl
@[go_sem] theorem envA_1 (h : 1 < (envA x).size) : (envA x)[1]'h = .int .i64 x.t := by unfold envA; rfl
@[go_sem] theorem envA_2 (h : 2 < (envA x).size) : (envA x)[2]'h = .slice x.A x.n x.c := by unfold envA; rfl
end
def envZ : EnvC := ⟨0, 0, none, 0, 0⟩
@[go_sem ↓] theorem exec_alloc_env (ρ : Operand → Value) (dst : Option Tmp) (ty : TypeId) (pos : String) (after : Array Edge) (guard : Option (Nat × Bool)) :
    execOp ρ ⟨dst, .alloc 29, ty, pos, after, guard⟩ = allocRow 29 := rfl
@[go_sem] theorem run_alloc_env (W : World) : (allocRow 29).run Try.prog W = .ok (.value (.pointer (some ⟨W.heap.size, 0, none⟩))) (W.alloc (.cells (envA envZ) 29)) :=
  run_allocRow _ (.agg (envA envZ)) (by kernel_rfl) W
@[go_sem ↓] theorem exec_build_env (ρ : Operand → Value) (dst : Option Tmp) (parts : Array (Nat × Operand)) (ty : TypeId) (pos : String) (after : Array Edge) (guard : Option (Nat × Bool)) :
    execOp ρ ⟨dst, .build 29 parts, ty, pos, after, guard⟩ = buildRow 29 (parts.map fun (i, x) => (i, ρ x)) := rfl
@[go_sem] theorem run_build_env (f t : Int) (A : Option Addr) (n c : Nat) (W : World) :
    (buildRow 29 #[(0, .int .i64 f), (1, .int .i64 t), (2, .slice A n c)]).run Try.prog W = .ok (.value (.agg (envA ⟨f, t, A, n, c⟩))) W := by
  have h := run_build (P := Try.prog) W 29 #[(0, .int .i64 f), (1, .int .i64 t), (2, .slice A n c)] (envA ⟨f, t, A, n, c⟩) (by unfold envA; kernel_rfl)
  simp [buildRow, h, Result.andThen]
@[go_sem] theorem run_build_envZ (W : World) :
    (buildRow 29 #[]).run Try.prog W = .ok (.value (.agg (envA envZ))) W := by
  have h := run_build (P := Try.prog) W 29 #[] (envA envZ) (by kernel_rfl)
  simp [buildRow, h, Result.andThen]
@[go_sem] theorem run_build_env2 (f t : Int) (W : World) :
    (buildRow 29 #[(0, .int .i64 f), (1, .int .i64 t)]).run Try.prog W = .ok (.value (.agg (envA ⟨f, t, none, 0, 0⟩))) W := by
  have h := run_build (P := Try.prog) W 29 #[(0, .int .i64 f), (1, .int .i64 t)] (envA ⟨f, t, none, 0, 0⟩) (by unfold envA; kernel_rfl)
  simp [buildRow, h, Result.andThen]
@[go_sem ↓] theorem exec_one_env (ρ : Operand → Value) (dst : Option Tmp) (parts : Array (Nat × Operand)) (ty : TypeId) (pos : String) (after : Array Edge) (guard : Option (Nat × Bool)) :
    execOp ρ ⟨dst, .buildSlice 45 1 parts, ty, pos, after, guard⟩ = sliceRow 45 1 (parts.map fun (i, x) => (i, ρ x)) := rfl
@[go_sem] theorem run_one_env (x : EnvC) (W : World) : (sliceRow 45 1 #[(0, .agg (envA x))]).run Try.prog W = .ok (.value (.slice (some ⟨W.heap.size, 0, none⟩) 1 1)) (W.alloc (.cells (envA x) 29)) :=
  run_sliceRow _ 29 3 (.agg (envA envZ)) _ Try.underlying45 (by kernel_rfl) (by omega) (by omega) (by rfl) (envA_size x) W
theorem env_rows : RowType Try.prog envA 3 45 29 40 where
  size := envA_size
  one := envA_one
  slice := Try.underlying45
  info := ⟨.agg (envA envZ), by kernel_rfl, by rfl⟩
  pos := by omega

/-- x's cells tell the note m -/
structure NoteAt (W : World) (x : EnvC) (m : Note) : Prop where
  f : x.f = m.1
  t : x.t = m.2.1
  n : x.n = m.2.2.length
  b : Bys W x.A m.2.2
  len : m.2.2.length ≤ 140737488351232
theorem NoteAt.kept {W W' : World} {x : EnvC} {m : Note} (h : NoteAt W x m) (hu : Kept W W') : NoteAt W' x m := ⟨h.f, h.t, h.n, h.b.kept hu, h.len⟩
theorem NoteAt.zero (W : World) : NoteAt W envZ (0, 0, []) := ⟨rfl, rfl, rfl, .inl rfl, by simp⟩

/-! ### bytes: Clone, CopyBytes, EqBytes -/
/-- bytes of a row that the call made -/
theorem own_bys {W : World} {B c : Nat} {A : Option Addr} {R : List Int} (h : W.ownsRow B 5 1 (.slice A R.length c) R.length (R.map (Value.int .u8))) : Bys W A R ∧ Own8 W A R ∧ (R ≠ [] → ∃ b, A = some ⟨b, 0, none⟩ ∧ B ≤ b ∧ b < W.heap.size) := by
  rcases h.2 with ⟨e, h0⟩ | ⟨g, cap, cur, e, hb, hg, h1, h2, h3, h4⟩
  · have := List.eq_nil_of_length_eq_zero h0
    exact ⟨.inl this, .inl this, fun h => absurd this h⟩
  · simp only [Value.slice.injEq] at e
    obtain ⟨rfl, _, rfl⟩ := e
    refine ⟨.inr ⟨g, 0, rfl, fun k hk => ?_⟩, .inr ⟨g, cur, rfl, hg⟩, fun _ => ⟨g, rfl, hb, (Array.getElem?_eq_some_iff.1 hg).1⟩⟩
    rw [cell_of_row W g _ _ _ _ hg]
    have : cur[0 + k]? = (cur.toList.take (R.length * 1))[k]? := by rw [List.getElem?_take_of_lt (by omega)]; simp
    rw [this, h4]
    simp [hk]

theorem bys_eq_nil (w : World) (a : Option Addr) (n c n' c' : Nat) : (binOp .eql 27 (.slice a n c) (.slice none n' c')).run Try.prog w = .ok (.bool a.isNone) w := Lib.run_eql_slice_nil w _ _ a n c n' c' Try.underlying27
attribute [local go_sem] bys_eq_nil

set_option maxHeartbeats 1000000 in
theorem clone_bytes {w : World} {A : Option Addr} {R : List Int} (c : Nat) (hR : Bys w A R) (hl : R.length ≤ 140737488351232) :
    Calls Try.prog 50 #[.slice A R.length c] w fun e w' => ∃ A' c', e = .returned (.slice A' R.length c') ∧ w'.ownsRow w.heap.size 5 1 (.slice A' R.length c') R.length (R.map (Value.int .u8)) ∧ Kept w w' := by
  obtain ⟨i0, hi, hz0, hz1, hz2⟩ := u8_info
  go_enter Try.func50, Try.ntmps50
  rcases Nat.eq_zero_or_pos R.length with h0 | h0
  · obtain rfl := List.eq_nil_of_length_eq_zero h0
    cases A with
    | none =>
      go_wp2
      go_ret
      exact ⟨none, 0, rfl, World.ownsRow_nil _ _ _ _, Upd.refl _ _⟩
    | some ad =>
      go_wp2_with (at_builtin; refine wpList_append rfl (.tmp 5) (.tmp 6) rfl rfl rfl (run_append_nothing _ 27 27 _ 5 i0 Try.underlying27 hi _ 0 0 (Nat.le_refl _) _ (Src.ofSlice _ Try.underlying27 ad 0 c [] (by simp) (fun j u hu => by simp at hu) (fun u hu => by cases hu))) ?_)
      go_ret
      exact ⟨_, 0, rfl, World.ownsRow_made (base := w.heap.size) (size := 1) (e := 5) w #[] 0 (Nat.le_refl _) (Nat.zero_le _) rfl, (Upd.refl _ _).alloc _⟩
  · obtain ⟨b, off, rfl, hc⟩ := hR.resolve_left (by rintro rfl; simp at h0)
    have HC := Lib.hid hc
    clear hc
    go_wp2_with (at_builtin; refine wpList_append_own _ rfl (.tmp 5) (.tmp 6) 27 rfl w.heap.size 5 i0 (.int .u8 0) 1 1 Try.underlying27 hi hz0 hz1 hz2 rfl (by decide) _ 0 [] rfl (World.ownsRow_made (base := w.heap.size) (size := 1) (e := 5) w #[] 0 (Nat.le_refl _) (Nat.zero_le _) rfl) ⟨b, off, none⟩ R.length c (R.map (Value.int .u8)) rfl (by simp) (fun j u hu => by obtain ⟨hx, rfl⟩ := List.getElem?_eq_some_iff.1 hu; rw [add_none]; refine Lib.cell?_alloc_some _ ?_; simpa using HC.out j (by simpa using hx)) (fun u hu => by obtain ⟨x, _, rfl⟩ := List.mem_map.1 hu; rfl) (by unfold maxLen; omega) (by omega) (by simp) ?_; intro v' w' hown hgr hnil)
    rw [Nat.zero_add, List.nil_append] at hown
    have hf : ∃ A' c', v' = .slice A' R.length c' := by
      rcases hown.2 with ⟨rfl, h0⟩ | ⟨g, cap, cur, rfl, _⟩
      · exact ⟨_, _, by rw [h0]⟩
      · exact ⟨_, _, rfl⟩
    obtain ⟨A', c', rfl⟩ := hf
    have hk : Kept w w' := ((Upd.refl (fun _ => False) w).alloc _).then (Upd.of_grown hgr) fun k hk e => by have e2 : some k = some w.heap.size := e; cases e2; omega
    clear hnil hgr HC
    go_ret
    exact ⟨A', c', rfl, hown, hk⟩

theorem copy_bytes {w : World} {A : Option Addr} {R : List Int} (c : Nat) (hR : Bys w A R) (hl : R.length ≤ 140737488351232) :
    Calls Try.prog 43 #[.slice A R.length c] w fun e w' => ∃ A' c', e = .returned (.slice A' R.length c') ∧ w'.ownsRow w.heap.size 5 1 (.slice A' R.length c') R.length (R.map (Value.int .u8)) ∧ Kept w w' := by
  obtain ⟨i0, hi, hz0, hz1, hz2⟩ := u8_info
  go_enter Try.func43, Try.ntmps43
  rcases Nat.eq_zero_or_pos R.length with h0 | h0
  · obtain rfl := List.eq_nil_of_length_eq_zero h0
    have hsrc : Src Try.prog i0.size 27 (.slice A 0 c) 0 [] w := by
      cases A with
      | none => exact Src.ofNil w Try.underlying27 c
      | some ad => exact Src.ofSlice w Try.underlying27 ad 0 c [] (by simp) (fun j u hu => by simp at hu) (fun u hu => by cases hu)
    go_wp2_with (at_builtin; refine wpList_append rfl (.tmp 4) (.tmp 5) rfl rfl rfl (run_append_nothing _ 27 27 _ 5 i0 Try.underlying27 hi none 0 0 (Nat.le_refl _) _ hsrc) ?_)
    go_ret
    exact ⟨none, 0, rfl, World.ownsRow_nil _ _ _ _, Upd.refl _ _⟩
  · obtain ⟨b, off, rfl, hc⟩ := hR.resolve_left (by rintro rfl; simp at h0)
    have HC := Lib.hid hc
    clear hc
    go_wp2_with (at_builtin; refine wpList_append_own _ rfl (.tmp 4) (.tmp 5) 27 rfl w.heap.size 5 i0 (.int .u8 0) 1 1 Try.underlying27 hi hz0 hz1 hz2 rfl (by decide) (.slice none 0 0) 0 [] rfl (World.ownsRow_nil _ _ _ _) ⟨b, off, none⟩ R.length c (R.map (Value.int .u8)) rfl (by simp) (fun j u hu => by obtain ⟨hx, rfl⟩ := List.getElem?_eq_some_iff.1 hu; rw [add_none]; simpa using HC.out j (by simpa using hx)) (fun u hu => by obtain ⟨x, _, rfl⟩ := List.mem_map.1 hu; rfl) (by unfold maxLen; omega) (by omega) (Nat.le_refl _) ?_; intro v' w' hown hgr hnil)
    rw [Nat.zero_add, List.nil_append] at hown
    have hf : ∃ A' c', v' = .slice A' R.length c' := by
      rcases hown.2 with ⟨rfl, h0⟩ | ⟨g, cap, cur, rfl, _⟩
      · exact ⟨_, _, by rw [h0]⟩
      · exact ⟨_, _, rfl⟩
    obtain ⟨A', c', rfl⟩ := hf
    have hk : Kept w w' := (Upd.of_grown hgr).mono fun k _ h => by cases h
    clear hnil hgr HC
    go_ret
    exact ⟨A', c', rfl, hown, hk⟩

set_option maxHeartbeats 1000000 in
theorem eq_bytes {w : World} {A A' : Option Addr} {R R' : List Int} (c c' : Nat) (hR : Bys w A R) (hR' : Bys w A' R') (hl : R.length ≤ 140737488351232) :
    Calls Try.prog 45 #[.slice A R.length c, .slice A' R'.length c'] w fun e w' => e = .returned (.bool (decide (R = R'))) ∧ Kept w w' := by
  by_cases hlen : R.length = R'.length
  · have HL := Lib.hid hlen
    rw [← hlen]
    clear hlen
    go_enter Try.func45, Try.ntmps45
    go_wp2_with fail
    go_loopw [5] (fun i wr => ∃ k : Nat, k ≤ R.length ∧ i = .int .i64 k ∧ R.take k = R'.take k ∧ Kept w wr) (fun i _ => R.length - (intOf i).toNat)
    case atStart => exact ⟨0, Nat.zero_le _, rfl, rfl, Upd.refl _ _⟩
    case round =>
      obtain ⟨k, hk, rfl, ht, hu⟩ := hrel
      by_cases hlt : k < R.length
      · obtain ⟨gb, off, rfl, hcR⟩ := (hR.kept hu).get hlt
        obtain ⟨gb2, off2, rfl, hcR2⟩ := (hR'.kept hu).get (k := k) (by have := HL.out; omega)
        have HT := Lib.hid ht
        have HU := Lib.hid hu
        have HS : Hid (R.take (k + 1) = R.take k ++ [R[k]]) := List.take_succ_eq_append_getElem hlt
        have HS' : Hid (R'.take (k + 1) = R'.take k ++ [R'[k]]) := List.take_succ_eq_append_getElem (by have := HL.out; omega)
        have HG : Hid (∀ h : k < R'.length, R[k] ≠ R'[k] → R ≠ R') := fun h hne e => hne (by subst e; rfl)
        have hlt2 : k < R'.length := by have := HL.out; omega
        clear ht hu
        by_cases hxy : R[k] = R'[k]
        · have HXY := Lib.hid hxy
          generalize R'[k] = y at *
          generalize R[k] = x at *
          subst hxy
          go_wp2_with fail
          go_region
          go_wp2
          go_roundw
          case rel => exact ⟨k + 1, by omega, by go_num, by rw [HS.out, HS'.out, HT.out], HU.out.drew⟩
          case measure => simp [intOf]; omega
        · have HN := Lib.hid (HG.out hlt2 hxy)
          clear HG HS HS'
          generalize R'[k] = y at *
          generalize R[k] = x at *
          go_wp2_with fail
          go_region
          go_wp2
          go_ret
          exact ⟨by rw [decide_eq_false HN.out]; rfl, HU.out.drew⟩
      · obtain rfl : k = R.length := by omega
        have he : R = R' := by
          rw [List.take_length, HL.out, List.take_length] at ht
          exact ht
        have HE := Lib.hid he
        have HU := Lib.hid hu
        clear he ht hu
        go_wp2
        go_ret
        exact ⟨by rw [decide_eq_true HE.out]; rfl, HU.out⟩
  · have hne : R ≠ R' := fun e => hlen (by rw [e])
    have HN := Lib.hid hne
    have hlen2 : ¬ ((R.length : Int) = R'.length) := by omega
    go_enter Try.func45, Try.ntmps45
    go_wp2
    go_ret
    exact ⟨by rw [decide_eq_false HN.out]; rfl, Upd.refl _ _⟩
end Go.Proofs.Ytkfekkemfahepaa
