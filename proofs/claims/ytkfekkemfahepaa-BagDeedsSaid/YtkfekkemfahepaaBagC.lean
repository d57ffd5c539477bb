/- Contracts: named, name, Bring, the atomic counts; the bag in memory; New, none, Len, Sent, Lost. -/
import Derived.Test.YtkfekkemfahepaaBagB
import Derived.Test.YtkfekkemfahepaaFork
import Derived.WalkLawsBesides
namespace Go.Proofs.Ytkfekkemfahepaa
open Go.RowKit

def namedB (n : Int) : Bool := decide (1 ≤ n) && decide (n ≤ 34)

set_option maxHeartbeats 400000 in
theorem bag_named (n : Int) (w : World) :
    Calls Try.prog 40 #[.int .i64 n] w fun e w' => e = .returned (.bool (namedB n)) ∧ w = w' := by
  by_cases h1 : 1 ≤ n
  · by_cases h2 : n ≤ 34
    all_goals
      have H : Hid (namedB n = (decide (1 ≤ n) && decide (n ≤ 34))) := rfl
      go_enter Try.func40, Try.ntmps40
      go_wp2
      go_ret
      exact ⟨by rw [H.out]; simp [h1, h2], rfl⟩
  · have H : Hid (namedB n = (decide (1 ≤ n) && decide (n ≤ 34))) := rfl
    go_enter Try.func40, Try.ntmps40
    go_wp2
    go_ret
    exact ⟨by rw [H.out]; simp; omega, rfl⟩

theorem named_wf {n : Int} (h : namedB n = true) : (Lit.int .i64 n).wf = true := by
  simp [namedB] at h
  simp [Lit.wf, IntKind.min, IntKind.max, IntKind.signed, IntKind.bits]
  omega

/-- Tag, taken -/

theorem ref_name (n : Int) (w : World) : Calls Try.prog 44 #[.int .i64 n] w fun e w' => e = .returned (.bool (namedB n)) ∧ w = w' := by
  unfold namedB
  go_enter Try.func44, Try.ntmps44
  by_cases h : 1 ≤ n
  · go_wp2
    go_ret
    exact ⟨by simp [h], rfl⟩
  · go_wp2
    go_ret
    exact ⟨by simp; omega, rfl⟩

/-! ### sync/atomic -/
theorem run_atomicLoad {a : Addr} {x : Int} {w : World} (hc : w.cell? a = some (.int .i64 x)) :
    (callFunc 52 #[.pointer (some a)]).run Try.prog w = .ok (.value (.int .i64 x)) w :=
  run_call_load (P := Try.prog) Try.func52 (by kernel_rfl) (by kernel_rfl) (by kernel_rfl) .i64 (by kernel_rfl) hc
theorem run_add64' {a : Addr} {x : Int} {w : World} (h0 : 0 ≤ x) (h1 : x < 4611686018427387904) (hc : w.cell? a = some (.int .i64 x)) (hz : w.frozen? a = false) :
    (callFunc 51 #[.pointer (some a), .int .i64 1]).run Try.prog w = .ok (.value (.int .i64 (x + 1))) (w.setCell a (.int .i64 (x + 1))) :=
  run_call_add (P := Try.prog) Try.func51 (by kernel_rfl) (by kernel_rfl) (by kernel_rfl) .i64 (by kernel_rfl) hc hz (by
    have hw : IntKind.i64.wrap (x + 1) = x + 1 := by rw [IntKind.wrap_i64]; omega
    simp [Op.intArith, go_sem, hw])

theorem atomic_Add {b o : Nat} {x : Int} {w : World} (h0 : 0 ≤ x) (h1 : x < 4611686018427387904) (hc : w.cell? ⟨b, o, none⟩ = some (.int .i64 x)) (hz : w.frozen? ⟨b, o, none⟩ = false) :
    Calls Try.prog 42 #[.pointer (some ⟨b, o, none⟩), .int .i64 1] w fun e w' => e = .returned (.int .i64 (x + 1)) ∧ w.setCell ⟨b, o, none⟩ (.int .i64 (x + 1)) = w' := by
  have h := run_add64' h0 h1 hc hz
  go_enter Try.func42, Try.ntmps42
  go_wp2
  go_ret
  exact ⟨rfl, rfl⟩

theorem atomic_Load {b o : Nat} {x : Int} {w : World} (hc : w.cell? ⟨b, o, none⟩ = some (.int .i64 x)) :
    Calls Try.prog 49 #[.pointer (some ⟨b, o, none⟩)] w fun e w' => e = .returned (.int .i64 x) ∧ w = w' := by
  have h := run_atomicLoad hc
  go_enter Try.func49, Try.ntmps49
  go_wp2
  go_ret
  exact ⟨rfl, rfl⟩

/-- Bring, below a positive number -/
theorem ref_Bring (i n : Int) (hi : (Lit.int .i64 i).wf = true) (hn : 1 ≤ n) (hn' : n ≤ 4611686018427387904) (w : World) :
    Calls Try.prog 14 #[.int .i64 i, .int .i64 n] w fun e w' => e = .returned (.int .i64 (i % n)) ∧ w = w' := by
  have hx : -9223372036854775808 ≤ i ∧ i ≤ 9223372036854775807 := by simpa [Lit.wf, IntKind.min, IntKind.max, IntKind.signed, IntKind.bits] using hi
  clear hi
  obtain ⟨h1, h2⟩ := hx
  by_cases h0 : 0 ≤ i
  · have hm : 0 ≤ i % n := Int.emod_nonneg _ (by omega)
    go_enter Try.func14, Try.ntmps14
    go_wp2
    go_ret
    exact ⟨rfl, rfl⟩
  · have hlo : -n < i.tmod n := Int.lt_tmod_of_pos i (by omega)
    have HT : Hid (i.tmod n = if n ∣ i then i % n else i % n - n) := by
      have ht := Int.tmod_eq_emod (a := i) (b := n)
      show _ = _
      rw [ht]
      by_cases hd : n ∣ i
      · simp [hd]
      · rw [if_neg (by omega), if_neg hd]; omega
    have hm : 0 ≤ i % n := Int.emod_nonneg _ (by omega)
    have hm' : i % n < n := Int.emod_lt_of_pos _ (by omega)
    have hhi : i.tmod n ≤ 0 := by
      have ht := HT.out
      split at ht
      · rename_i hdv; have := Int.emod_eq_zero_of_dvd hdv; omega
      · omega
    by_cases hd : i.tmod n < 0
    · go_enter Try.func14, Try.ntmps14
      go_wp2
      go_ret
      refine ⟨?_, rfl⟩
      have ht := HT.out
      have : i.tmod n + n = i % n := by
        split at ht <;> omega
      rw [this]; rfl
    · go_enter Try.func14, Try.ntmps14
      go_wp2
      go_ret
      refine ⟨?_, rfl⟩
      have ht := HT.out
      have : i.tmod n = i % n := by
        split at ht <;> omega
      rw [this]; rfl

theorem mod_range (i n : Int) (hn : 1 ≤ n) : 0 ≤ i % n ∧ i % n < n := ⟨Int.emod_nonneg _ (by omega), Int.emod_lt_of_pos _ (by omega)⟩

/-! ### the bag in memory -/
def envP (z : EnvC × Note) : Array Value := envA z.1
theorem envP_rows : RowType Try.prog envP 3 45 29 40 := ⟨fun z => envA_size z.1, fun z => envA_one z.1, env_rows.slice, env_rows.info, env_rows.pos⟩

/-- notes in rows; each one's bytes in memory that holds nothing else -/
structure NotesAt (W : World) (B : Nat) (v : Value) (zs : List (EnvC × Note)) : Prop where
  rows : CutRows envP 3 W B 29 v zs
  ok : ∀ z ∈ zs, Fresh 0 W z.1 z.2

/-- block b is a bag of the notes zs; s were put, l were dropped -/
structure BagAt (W : World) (B b : Nat) (v : Value) (zs : List (EnvC × Note)) (s l : Int) : Prop where
  blk : W.heap[b]? = some (.cells #[.bool true, v, .int .i64 s, .int .i64 l] 61 (0, 0))
  notes : NotesAt W B v zs
  lt : b < B
  nm : ∀ z ∈ zs, namedB z.2.1 = true ∧ namedB z.2.2.1 = true ∧ z.2.2.2.length ≤ 65536

section
variable {W W' : World} {B b : Nat} {v : Value} {zs : List (EnvC × Note)} {s l : Int} {S : Nat → Prop}
theorem NotesAt.upd (h : NotesAt W B v zs) (hu : Upd S W W') (hs : ∀ k, v.ownBlock = some k → ¬ S k) (hS : ∀ k, S k → ∀ cs fr, W.heap[k]? ≠ some (.cells cs 5 fr)) : NotesAt W' B v zs :=
  ⟨h.rows.upd hu hs, fun z hz => (h.ok z hz).upd hu hS⟩
theorem NotesAt.kept (h : NotesAt W B v zs) (hu : Kept W W') : NotesAt W' B v zs := h.upd hu (fun _ _ h => h) fun _ h => h.elim
theorem BagAt.size (h : BagAt W B b v zs s l) : b < W.heap.size := (Array.getElem?_eq_some_iff.1 h.blk).1
theorem BagAt.c0 (h : BagAt W B b v zs s l) : W.cell? ⟨b, 0, none⟩ = some (.bool true) := by rw [cell_of_row W b 0 _ _ _ h.blk]; rfl
theorem BagAt.c1 (h : BagAt W B b v zs s l) : W.cell? ⟨b, 1, none⟩ = some v := by rw [cell_of_row W b 1 _ _ _ h.blk]; rfl
theorem BagAt.c2 (h : BagAt W B b v zs s l) : W.cell? ⟨b, 2, none⟩ = some (.int .i64 s) := by rw [cell_of_row W b 2 _ _ _ h.blk]; rfl
theorem BagAt.c3 (h : BagAt W B b v zs s l) : W.cell? ⟨b, 3, none⟩ = some (.int .i64 l) := by rw [cell_of_row W b 3 _ _ _ h.blk]; rfl
theorem BagAt.thaw (h : BagAt W B b v zs s l) (o : Nat) : W.frozen? ⟨b, o, none⟩ = false := frozen_of_row W b o _ _ h.blk
theorem BagAt.kept (h : BagAt W B b v zs s l) (hu : Kept W W') : BagAt W' B b v zs s l := ⟨hu.heap h.blk id, h.notes.kept hu, h.lt, h.nm⟩
theorem BagAt.alloc (h : BagAt W B b v zs s l) (o : Obj) : BagAt (W.alloc o) B b v zs s l := h.kept ((Upd.refl _ W).alloc o)
theorem BagAt.drew (h : BagAt W B b v zs s l) : BagAt W.drew B b v zs s l := h.kept (Upd.refl _ W).drew
/-- the blocks that a bag turns hold no bytes -/
theorem BagAt.not8 (h : BagAt W B b v zs s l) : ∀ k, k = b ∨ v.ownBlock = some k → ∀ cs fr, W.heap[k]? ≠ some (.cells cs 5 fr) := by
  rintro k (rfl | hk) cs fr e
  · rw [h.blk] at e; cases e
  · obtain ⟨_, _, cur, hc⟩ := h.notes.rows.lt hk
    rw [hc] at e; cases e
theorem BagAt.own_ne (h : BagAt W B b v zs s l) : v.ownBlock ≠ some b := h.notes.rows.far (.inl h.lt)
end

theorem BagAt.set3 {W : World} {B b : Nat} {v : Value} {zs : List (EnvC × Note)} {s l : Int} (h : BagAt W B b v zs s l) (l' : Int) : BagAt (W.setCell ⟨b, 3, none⟩ (.int .i64 l')) B b v zs s l' := by
  have hu : Upd (fun k => k = b) W (W.setCell ⟨b, 3, none⟩ (.int .i64 l')) := (Upd.refl _ _).setCell (p := ⟨b, 3, none⟩) _ fun _ => rfl
  exact ⟨by rw [heap_setCell_same _ b 3 _ _ _ h.blk]; rfl, h.notes.upd hu (fun k hk e => by subst e; exact h.own_ne hk) (fun k hk => h.not8 k (.inl hk)), h.lt, h.nm⟩
/-- a call on the bag: what it is then, and what else it may have turned -/
structure BagTo (W W' : World) (B b : Nat) (v v' : Value) (zs : List (EnvC × Note)) (s l : Int) : Prop where
  bag : BagAt W' B b v' zs s l
  upd : Upd (fun k => k = b ∨ v.ownBlock = some k) W W'
  new : ∀ k, k < W.heap.size → v'.ownBlock = some k → v.ownBlock = some k
section
variable {w w' w2 : World} {B b : Nat} {v v' v2 : Value} {zs ys : List (EnvC × Note)} {s l s2 l2 : Int}
theorem BagTo.refl (h : BagAt w B b v zs s l) : BagTo w w B b v v zs s l := ⟨h, Upd.refl _ _, fun _ _ h => h⟩
theorem BagTo.trans (h : BagTo w w' B b v v' zs s l) (k : BagTo w' w2 B b v' v2 ys s2 l2) : BagTo w w2 B b v v2 ys s2 l2 :=
  ⟨k.bag, h.upd.then k.upd fun i hi h' => h'.imp id (h.new i hi), fun i hi h' => h.new i hi (k.new i (Nat.lt_of_lt_of_le hi h.upd.size) h')⟩
theorem BagTo.kept (h : BagTo w w' B b v v' zs s l) (k : Kept w' w2) : BagTo w w2 B b v v' zs s l := h.trans ⟨h.bag.kept k, k.mono fun _ _ h => h.elim, fun _ _ h => h⟩
end

theorem bag_New (w : World) :
    Calls Try.prog 11 #[] w fun e w' => e = .returned (.pointer (some ⟨w.heap.size, 0, none⟩)) ∧ w.alloc (.cells #[.bool true, .slice none 0 0, .int .i64 0, .int .i64 0] 61) = w' := by
  go_enter Try.func11, Try.ntmps11
  go_wp2
  go_ret
  exact ⟨rfl, rfl⟩

theorem bag_none {w : World} {B b : Nat} {v : Value} {zs : List (EnvC × Note)} {s l : Int} (h : BagAt w B b v zs s l) :
    Calls Try.prog 39 #[.pointer (some ⟨b, 0, none⟩)] w fun e w' => e = .returned (.bool false) ∧ w = w' := by
  have c0 := h.c0
  clear h
  go_enter Try.func39, Try.ntmps39
  go_wp2
  go_ret
  exact ⟨rfl, rfl⟩

theorem bag_Len {w : World} {B b : Nat} {v : Value} {zs : List (EnvC × Note)} {s l : Int} (h : BagAt w B b v zs s l) :
    Calls Try.prog 28 #[.pointer (some ⟨b, 0, none⟩)] w fun e w' => e = .returned (.int .i64 zs.length) ∧ w = w' := by
  have HB := Lib.hid h
  have c1 := h.c1
  obtain ⟨A, c, rfl⟩ := h.notes.rows.form
  clear h
  go_enter Try.func28, Try.ntmps28
  go_wp2_with fail
  refine (bag_none HB.out).mono ?_
  rintro e w' ⟨rfl, rfl⟩
  go_wp2
  go_ret
  exact ⟨rfl, rfl⟩
theorem bag_Sent {w : World} {B b : Nat} {v : Value} {zs : List (EnvC × Note)} {s l : Int} (h : BagAt w B b v zs s l) :
    Calls Try.prog 30 #[.pointer (some ⟨b, 0, none⟩)] w fun e w' => e = .returned (.int .i64 s) ∧ w = w' := by
  go_enter Try.func30, Try.ntmps30
  go_wp2_with fail
  refine (bag_none h).mono ?_
  rintro e w' ⟨rfl, rfl⟩
  go_wp2_with fail
  refine (atomic_Load h.c2).mono ?_
  rintro e w' ⟨rfl, rfl⟩
  go_wp2
  go_ret
  exact ⟨rfl, rfl⟩
theorem bag_Lost {w : World} {B b : Nat} {v : Value} {zs : List (EnvC × Note)} {s l : Int} (h : BagAt w B b v zs s l) :
    Calls Try.prog 32 #[.pointer (some ⟨b, 0, none⟩)] w fun e w' => e = .returned (.int .i64 l) ∧ w = w' := by
  go_enter Try.func32, Try.ntmps32
  go_wp2_with fail
  refine (bag_none h).mono ?_
  rintro e w' ⟨rfl, rfl⟩
  go_wp2_with fail
  refine (atomic_Load h.c3).mono ?_
  rintro e w' ⟨rfl, rfl⟩
  go_wp2
  go_ret
  exact ⟨rfl, rfl⟩
end Go.Proofs.Ytkfekkemfahepaa
