/- tree: bytes appended; Leaf. -/
import Derived.Test.YtjimamgghkgdeaaInkB
import Derived.Deep.AppendSrc
import Derived.Deep.Upon
namespace Go.Proofs.Ytjimamgghkgdeaa
open Go.RowKit

/-! ### bytes in a row of the call's own -/
theorem u8_info : ∃ i, Try.prog.info? 5 = some i ∧ i.zero = some (.int .u8 0) ∧ i.size = 1 ∧ i.bytes = 1 := by
  have h : (Try.prog.info? 5).map (fun i => (i.zero, i.size, i.bytes)) = some (some (.int .u8 0), 1, 1) := by kernel_rfl
  obtain ⟨i, hi, h2⟩ := Option.map_eq_some_iff.1 h
  simp only [Prod.mk.injEq] at h2
  exact ⟨i, hi, h2.1, h2.2.1, h2.2.2⟩
def OwnB (W : World) (B : Nat) (v : Value) (R : Bytes) : Prop := W.ownsRow B 5 1 v R.length (encB R)
section
variable {W W' : World} {B : Nat} {v : Value} {R : Bytes} {S : Nat → Prop}
theorem OwnB.form (h : OwnB W B v R) : ∃ A c, v = .slice A R.length c ∧ R.length ≤ c ∧ Byt W A R := by
  rcases h.2 with ⟨rfl, h0⟩ | ⟨g, cap, cur, rfl, hb, hg, h1, h2, h3, h4⟩
  · have hR : R = [] := List.eq_nil_of_length_eq_zero h0
    subst hR
    exact ⟨_, _, rfl, by simp, .inl rfl⟩
  · refine ⟨_, _, rfl, by omega, .inr ⟨g, 0, rfl, fun j u hu => ?_⟩⟩
    rw [cell_of_row W g _ _ _ _ hg, Nat.zero_add]
    have hj : j < (encB R).length := (List.getElem?_eq_some_iff.1 hu).1
    have : cur[j]? = (cur.toList.take (R.length * 1))[j]? := by rw [List.getElem?_take_of_lt (by rw [encB_length] at hj; omega)]; simp
    rw [this, h4, hu]
theorem OwnB.upd (h : OwnB W B v R) (hu : Upd S W W') (hs : ∀ k, v.ownBlock = some k → ¬ S k) : OwnB W' B v R := by
  refine ⟨h.1, h.2.imp id fun ⟨g, cap, cur, hv, hb, hg, hr⟩ => ⟨g, cap, cur, hv, hb, ?_, hr⟩⟩
  subst hv
  exact hu.heap hg (hs g rfl)
theorem OwnB.kept (h : OwnB W B v R) (hu : Kept W W') : OwnB W' B v R := h.upd hu fun _ _ => id
theorem OwnB.far (h : OwnB W B v R) : ∀ k, v.ownBlock = some k → B ≤ k ∧ k < W.heap.size := fun k e => World.ownsRow.lt h k e
/-- one byte, written out -/
theorem OwnB.one (W : World) (c : UInt8) : OwnB (W.alloc (.cells #[.int .u8 (c.toNat : Int)] 5)) W.heap.size (.slice (some ⟨W.heap.size, 0, none⟩) 1 1) [c] :=
  ⟨rfl, .inr ⟨W.heap.size, 1, #[.int .u8 (c.toNat : Int)], rfl, Nat.le_refl _, heap_alloc_new W _, Nat.le_refl _, by unfold maxLen; omega, rfl, rfl⟩⟩
end

theorem wpList_append_bytes {ops : Array Oper} {rest : List Oper} {o : Oper} {a : Act} {Q : Exit → Act → World → Prop} {W : World} {B : Nat} {v : Value} {R0 R : Bytes} (hgd : o.guard = none) (s x : Operand)
    (ho : o.op = .call { callee := .builtin .append, args := #[s, x], argTypes := #[32, 32] }) (hs : a.eval s = v) (hv : OwnB W B v R0) (A : Option Addr) (c : Nat) (hx : a.eval x = .slice A R.length c) (hR : Byt W A R)
    (hlen : R0.length + R.length ≤ 140737488351232) (hB : B ≤ W.heap.size)
    (hk : ∀ v' W', OwnB W' B v' (R0 ++ R) → Upd (fun k => v.ownBlock = some k) W W' → wpList Try.prog ops Q rest (a.put o.dst v') W') : wpList Try.prog ops Q (o :: rest) a W := by
  obtain ⟨i0, hi, hz0, hz1, hz2⟩ := u8_info
  obtain ⟨A0, c0, rfl, hc0, _⟩ := hv.form
  rcases hR with rfl | ⟨b, off, rfl, hc⟩
  · refine wpList_plain hgd fun K hK => ?_
    have hsrc : Src Try.prog i0.size 32 (.slice A 0 c) 0 [] W := by
      cases A with
      | none => exact Src.ofNil W Try.underlying32 c
      | some ad => exact Src.ofSlice W Try.underlying32 ad 0 c [] (by simp) (fun j u hu => by simp at hu) (fun u hu => by cases hu)
    have hr := run_append_nothing W 32 32 o.type 5 i0 Try.underlying32 hi A0 R0.length c0 hc0 _ hsrc
    unfold Oper.wp execOp
    have hx' : a.eval x = .slice A 0 c := hx
    simp only [ho, resolve, invoke, builtin, Sem.run_bind, Sem.run_pure, Result.andThen_ok, List.map_toArray, List.map_cons, List.map_nil, hs, hx', hr]
    exact hK _ _ (hk _ _ (by rw [List.append_nil]; exact hv) (Upd.refl _ _))
  · by_cases h0 : R = []
    · subst h0
      refine wpList_plain hgd fun K hK => ?_
      have hsrc : Src Try.prog i0.size 32 (.slice (some ⟨b, off, none⟩) 0 c) 0 [] W := Src.ofSlice W Try.underlying32 _ 0 c [] (by simp) (fun j u hu => by simp at hu) (fun u hu => by cases hu)
      have hr := run_append_nothing W 32 32 o.type 5 i0 Try.underlying32 hi A0 R0.length c0 hc0 _ hsrc
      unfold Oper.wp execOp
      have hx' : a.eval x = .slice (some ⟨b, off, none⟩) 0 c := hx
      simp only [ho, resolve, invoke, builtin, Sem.run_bind, Sem.run_pure, Result.andThen_ok, List.map_toArray, List.map_cons, List.map_nil, hs, hx', hr]
      exact hK _ _ (hk _ _ (by rw [List.append_nil]; exact hv) (Upd.refl _ _))
    · have hpos : 0 < R.length := List.length_pos_iff.2 h0
      refine wpList_append_own W hgd s x 32 ho B 5 i0 (.int .u8 0) 1 1 Try.underlying32 hi hz0 hz1 hz2 rfl (by decide) _ R0.length (encB R0) hs hv ⟨b, off, none⟩ R.length c (encB R) hx (by simp [encB_length]) (fun j u hu => by rw [add_none]; exact hc j u hu) (encB_one R) (by unfold maxLen; omega) (by omega) hB ?_
      intro v' W' hown hgr hnil
      refine hk v' W' ?_ ((Upd.of_grown hgr).mono fun k _ h => h.symm)
      unfold OwnB
      rw [List.length_append, encB_append]
      exact hown

@[go_sem ↓] theorem exec_bs1 (ρ : Operand → Value) (dst : Option Tmp) (parts : Array (Nat × Operand)) (ty : TypeId) (pos : String) (after : Array Edge) (guard : Option (Nat × Bool)) :
    execOp ρ ⟨dst, .buildSlice 32 1 parts, ty, pos, after, guard⟩ = sliceRow 32 1 (parts.map fun (i, x) => (i, ρ x)) := rfl
/-- one byte, written out: what it is stays behind a name -/
theorem run_bs1 (c : UInt8) (W : World) : ∃ v W', (sliceRow 32 1 #[(0, .int .u8 (c.toNat : Int))]).run Try.prog W = .ok (.value v) W' ∧ OwnB W' W.heap.size v [c] ∧ Kept W W' := by
  refine ⟨_, _, ?_, OwnB.one W c, (Upd.refl _ W).alloc _⟩
  obtain ⟨i, hi, hz, hs, _⟩ := u8_info
  have h := run_buildSlice (P := Try.prog) W 32 5 1 #[(0, .int .u8 (c.toNat : Int))] #[.int .u8 (c.toNat : Int)] i (.int .u8 0) Try.underlying32 hi hz (by rw [hs]; omega) (by rw [hs]; decide) (by
    rw [hs]
    have h0 : Array.range (1 * 1) = #[0] := by decide
    rw [h0]
    simp [Instr.fill, Value.cells])
  simp [sliceRow, h, Result.andThen]

@[go_sem ↓] theorem exec_build_dig (ρ : Operand → Value) (dst : Option Tmp) (parts : Array (Nat × Operand)) (ty : TypeId) (pos : String) (after : Array Edge) (guard : Option (Nat × Bool)) :
    execOp ρ ⟨dst, .build 40 parts, ty, pos, after, guard⟩ = buildRow 40 (parts.map fun (i, x) => (i, ρ x)) := rfl
@[go_sem] theorem run_build_dig0 (W : World) : (buildRow 40 #[]).run Try.prog W = .ok (.value (.agg (dA dig0))) W := by
  have h := run_build (P := Try.prog) W 40 #[] (dA dig0) (by kernel_rfl)
  simp [buildRow, h, Result.andThen]

/-- what is known of a book, all told -/
def BookL (W : World) (b r q : Nat) (L : List Bytes) : Prop := ∃ I M n, BookAt W b r q L I M n
abbrev Book3 (b r q : Nat) : Nat → Prop := fun k => k = b ∨ k = r ∨ k = q
section
variable {W W' : World} {b r q : Nat} {L : List Bytes} {S : Nat → Prop}
theorem BookL.kept (h : BookL W b r q L) (hu : Kept W W') : BookL W' b r q L := by
  obtain ⟨I, M, n, h⟩ := h; exact ⟨I, M, n, h.kept hu⟩
theorem BookL.upd (h : BookL W b r q L) (hu : Upd S W W') (hb : ¬ S b) (hr : ¬ S r) (hq : ¬ S q) : BookL W' b r q L := by
  obtain ⟨I, M, n, h⟩ := h; exact ⟨I, M, n, h.upd hu hb hr hq⟩
theorem BookL.not (h : BookL W b r q L) {k : Nat} {cs : Array Value} {t : TypeId} {fr : Nat × Nat} (hk : W.heap[k]? = some (.cells cs t fr)) (ht : t ≠ 75) : ¬ Book3 b r q k := by
  obtain ⟨I, M, n, h⟩ := h; exact h.not hk ht
theorem BookL.lt (h : BookL W b r q L) : ∀ k, Book3 b r q k → k < W.heap.size := by
  obtain ⟨I, M, n, h⟩ := h
  rintro k (rfl | rfl | rfl)
  · exact h.lt
  · exact h.rlt
  · exact h.qlt
theorem BookL.c0 (h : BookL W b r q L) : W.cell? ⟨b, 0, none⟩ = some (.map (some r)) := by
  obtain ⟨I, M, n, h⟩ := h; exact h.c0
theorem BookL.byt (h : BookL W b r q L) {A : Option Addr} {R : Bytes} (hR : Byt W A R) (hu : Upd (Book3 b r q) W W') : Byt W' A R := by
  obtain ⟨I, M, n, h⟩ := h; exact Byt.updB h hR hu
/-- other cells turn, of other types -/
theorem BookL.far (h : BookL W b r q L) {g : Nat} {cs : Array Value} {t : TypeId} {fr : Nat × Nat} (hk : W.heap[g]? = some (.cells cs t fr)) (ht : t ≠ 75) (hu : Upd (fun k => k = g) W W') : BookL W' b r q L := by
  have hn := h.not hk ht
  exact h.upd hu (fun e => hn (.inl e.symm)) (fun e => hn (.inr (.inl e.symm))) (fun e => hn (.inr (.inr e.symm)))
end
theorem ink_Of_L {w : World} {b r q : Nat} {L : List Bytes} (h : BookL w b r q L) {A : Option Addr} {R : Bytes} (c : Nat) (hR : Byt w A R) (hl : R.length ≤ 65536) (hcap : R.length ≤ c) :
    Calls Try.prog 50 #[.pointer (some ⟨b, 0, none⟩), .slice A R.length c] w fun e W => e = .returned (.tuple #[.agg (dA (shaM R)), .int .i64 0]) ∧ BookL W b r q (noteM L R) ∧ Upd (Book3 b r q) w W := by
  obtain ⟨I, M, n, h⟩ := h
  refine (ink_Of h c hR hl hcap).mono ?_
  rintro e W ⟨rfl, I', M', n', h', hu⟩
  exact ⟨rfl, ⟨I', M', n', h'⟩, hu⟩

/-- a digest's cell as a block -/
theorem dig_end {W : World} {g : Nat} (D : Dig) (h : Blk W g 40 (encB dig0.1)) : rowB W g 32 = true ∧ segB (W.setRow g (dA D)) ⟨g, 0, none⟩ 32 = true ∧ segV (W.setRow g (dA D)) ⟨g, 0, none⟩ 32 = dA D := by
  have h1 := (h.setRow (encB D.1)).seg 0 32 (encB D.1) (by rw [encB_length, D.2]) (fun j _ => by rw [Nat.zero_add])
  exact ⟨rowB_of (show W.heap[g]? = some (.cells (encB dig0.1).toArray 40 (0, 0)) from h) (by simp [encB_length, dig0]), h1.1, h1.2⟩

set_option maxHeartbeats 1000000 in
set_option maxRecDepth 100000 in
theorem tree_Leaf {w : World} {b r q : Nat} {L : List Bytes} (h : BookL w b r q L) {A : Option Addr} {R : Bytes} (c : Nat) (hR : Byt w A R) (hl : R.length < 65536) :
    Calls Try.prog 35 #[.pointer (some ⟨b, 0, none⟩), .slice A R.length c] w fun e W => e = .returned (.tuple #[.agg (dA (leafM shaM R)), .int .i64 0]) ∧ BookL W b r q (noteM L (leafIn R)) ∧ Upd (Book3 b r q) w W := by
  have h1 := h.kept ((Upd.refl (fun _ => False) w).alloc (.cells (dA dig0) 40))
  have hR1 := hR.kept ((Upd.refl (fun _ => False) w).alloc (.cells (dA dig0) 40))
  have hr1 : Blk (w.alloc (.cells (dA dig0) 40)) w.heap.size 40 (encB dig0.1) := Blk.new w _ _
  have hk1 : Kept w (w.alloc (.cells (dA dig0) 40)) := (Upd.refl _ w).alloc _
  have hsz : (w.alloc (.cells (dA dig0) 40)).heap.size = w.heap.size + 1 := World.size_alloc _ _
  generalize hW1 : w.alloc (.cells (dA dig0) 40) = w1 at *
  obtain ⟨v0, w2, hbs, hB, hk2⟩ := run_bs1 0 w1
  change (sliceRow 32 1 #[(0, .int .u8 0)]).run Try.prog w1 = _ at hbs
  have HX := Lib.hid (And.intro h1 (And.intro hR1 (And.intro hr1 hk1)))
  have HB := Lib.hid (And.intro hB hk2)
  clear h h1 hR hR1 hr1 hk1 hB hk2
  have hl' : decide ((65536 : Int) ≤ ((R.length : Nat) : Int)) = false := by rw [decide_eq_false_iff_not]; omega
  have HLE := Lib.hid hl
  clear hl
  go_enter Try.func35, Try.ntmps35
  go_wp2_with (at_builtin; refine wpList_append_bytes rfl (.tmp 11) (.tmp 12) rfl rfl HB.out.1 A c rfl (HX.out.2.1.kept HB.out.2) (by have := HLE.out; simp only [List.length_singleton]; omega) HB.out.2.size ?_; intro v' w3 hown hu3)
  have hb1 : BookL w3 b r q L := by
    have h2 := HX.out.1.kept HB.out.2
    have hlt := HX.out.1.lt
    have hf := HB.out.1.far
    exact h2.upd hu3 (fun e => by have := (hf _ e).1; have := hlt b (.inl rfl); omega) (fun e => by have := (hf _ e).1; have := hlt r (.inr (.inl rfl)); omega) (fun e => by have := (hf _ e).1; have := hlt q (.inr (.inr rfl)); omega)
  have hr3 : Blk w3 w.heap.size 40 (encB dig0.1) := (HX.out.2.2.1.kept HB.out.2).upd hu3 (fun e => by have := (HB.out.1.far _ e).1; have := HX.out.2.2.1.lt; omega)
  have hk3 : Kept w w3 := (HX.out.2.2.2.then HB.out.2 fun _ _ h => h).then hu3 (fun i hi e => by have := (HB.out.1.far _ e).1; have := HX.out.2.2.2.size; omega)
  obtain ⟨A3, c3, rfl, hc3, hb3⟩ := hown.form
  have hlen : ((0 : UInt8) :: R).length ≤ 65536 := by have := HLE.out; rw [List.length_cons]; omega
  have HY := Lib.hid (And.intro hb1 (And.intro hr3 (And.intro hk3 (And.intro hc3 (And.intro hb3 hlen)))))
  clear hb1 hr3 hk3 hown hu3 hc3 hb3 hlen HX HB hbs hW1
  refine (ink_Of_L (R := leafIn R) HY.out.1 c3 HY.out.2.2.2.2.1 HY.out.2.2.2.2.2 HY.out.2.2.2.1).mono ?_
  rintro e w4 ⟨rfl, hb4, hu4⟩
  have hr4 := HY.out.2.1.upd hu4 (HY.out.1.not HY.out.2.1 (by decide))
  rw [show shaM (leafIn R) = leafM shaM R from rfl]
  obtain ⟨hrb, hs1, hs2⟩ := dig_end (leafM shaM R) hr4
  have HF : Hid (BookL (w4.setRow w.heap.size (dA (leafM shaM R))) b r q (noteM L (leafIn R)) ∧ Upd (Book3 b r q) w (w4.setRow w.heap.size (dA (leafM shaM R)))) :=
    ⟨hb4.far hr4 (by decide) ((Upd.refl _ _).setRow _ _ fun _ => rfl), (HY.out.2.2.1.to.trans hu4).setRow _ _ (fun h => absurd h (Nat.lt_irrefl _))⟩
  have HG := Lib.hid (And.intro hs1 hs2)
  clear hb4 hu4 hr4 hs1 hs2 HY
  generalize hD : leafM shaM R = D at *
  have HDD := Lib.hid hD
  clear hD
  go_wp2
  refine bodyPost_ret (v := .tuple #[.agg (dA D), .int .i64 0]) ?_ rfl ⟨by rw [HDD.out], HF.out⟩
  rw [results_seg2 (P := Try.prog) (fn := Try.f35) (p := 4) (t := 5) (ty := 40) rfl _ _ ⟨w.heap.size, 0, none⟩ 32 _ (.int .i64 0) rfl rfl Try.underlying40 rfl sizeOf40 HG.out.1, HG.out.2]
end Go.Proofs.Ytjimamgghkgdeaa
