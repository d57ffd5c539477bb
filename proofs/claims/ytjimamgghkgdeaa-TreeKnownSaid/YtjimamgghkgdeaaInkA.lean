/- ink: a book in memory; New, none, Len, Clash. -/
import Derived.Test.YtjimamgghkgdeaaShaK
import Derived.Test.YtjimamgghkgdeaaBookM
import Derived.Test.YtjimamgghkgdeaaKey
import Derived.WalkLawsBesides
import Derived.Laws.BytesString
namespace Go.Proofs.Ytjimamgghkgdeaa
open Go.RowKit
open Go.Maps (Keyed)

/-! ### keys: digests, strings -/
theorem types_size : ∃ d, Try.prog.types.size + 1 = d + 4 := ⟨Try.prog.types.size - 3, by kernel_rfl⟩
theorem u8_cells : Try.prog.cellsOf 5 = 1 := by kernel_rfl
theorem dig_cells : Try.prog.cellsOf 40 = 32 := by kernel_rfl
theorem dig_keyType : Try.prog.keyType 40 = true := by kernel_rfl
theorem dig_laid : laidOutB Try.prog = true := by kernel_rfl
def digOk (_ : Dig) : Prop := True
def encD (d : Dig) : Value := .agg (dA d)
theorem dig_key (d : Dig) (_ : digOk d) : ∃ l, keyOf Try.prog 40 (encD d) = some l := by
  obtain ⟨n, hn⟩ := types_size
  refine ⟨_, keyOf_wide (L := d.1.map fun b => .int .u8 b.toNat) (by rw [Try.underlying40]) dig_keyType ?_ ?_⟩
  · simp [encD, Value.formed, Try.underlying40, dig_cells]
  · rw [hn]
    have h4 := keyLits_bytes (P := Try.prog) Try.underlying40 Try.underlying5 u8_cells dig_cells (n + 2) d.1 d.2
    simpa [encD, Value.cells, dA] using h4
theorem dig_enc : KeyEnc Try.prog 40 digOk encD where
  law := Keyed.of_law (deep_law_laid dig_laid (m := 4) (by omega) (of_decide_eq_true (by kernel_rfl)) (by kernel_rfl) (by rw [Try.underlying40]))
  key := dig_key
  inj := by
    intro a b _ _ h
    simp only [encD, Value.agg.injEq] at h
    exact dA_inj h
/-- bytes as a string -/
def strB (R : Bytes) : ByteArray := ⟨R.toArray⟩
def strOk (R : Bytes) : Prop := R.length ≤ 65536
def encS (R : Bytes) : Value := .string (strB R)
theorem strB_inj {a b : Bytes} (h : strB a = strB b) : a = b := by simpa [strB] using h
theorem str_enc : KeyEnc Try.prog 9 strOk encS where
  law := Maps.string_keyed Try.underlying9
  key := fun R hR => ⟨.string R, by
    have : R.length ≤ maxLen := by unfold maxLen; unfold strOk at hR; omega
    have h2 : (strB R).size = R.length := by simp [strB, ByteArray.size]
    have h3 : (strB R).data.toList = R := by simp [strB]
    have h4 : (strB R).size ≤ maxLen := by rw [h2]; exact this
    simp only [keyOf, Try.underlying9, mapKey, encS, h3, if_pos h4]⟩
  inj := by
    intro a b _ _ h
    simp only [encS, Value.string.injEq] at h
    exact strB_inj h
theorem strB_same (a b : Bytes) : ((strB a).toList == (strB b).toList) = decide (a = b) := by
  rw [ByteArray.toList_eq, ByteArray.toList_eq]
  show (a == b) = decide (a = b)
  by_cases h : a = b
  · simp [h]
  · simp [h]
theorem run_str {W : World} {A : Option Addr} {R : Bytes} (c : Nat) (h : Byt W A R) : (convert 32 9 (.slice A R.length c)).run Try.prog W = .ok (.string (strB R)) W := by
  rw [run_convert_bytes_string W 32 9 5 A R.length c Try.underlying32 Try.underlying5 Try.underlying9]
  have hpush : ∀ (l : Bytes) (s : ByteArray), (l.map fun b => (b.toNat : Int)).foldl (fun r n => r.push (UInt8.ofNat n.toNat)) s = ⟨s.data ++ l.toArray⟩ := by
    intro l
    induction l with
    | nil => intro s; simp
    | cons b l ih =>
      intro s
      rw [List.map_cons, List.foldl_cons, ih]
      simp [ByteArray.push]
  have key : ∀ a, (loadCells a R.length).run Try.prog W = .ok ((R.map fun b => (b.toNat : Int)).map (Value.int .u8)).toArray W → (Conv.bytesToString (.slice (some a) R.length c)).run Try.prog W = .ok (.string (strB R)) W := fun a ha => by
    rw [run_bytesToString W a R.length c _ ha, hpush]
    have : (ByteArray.empty.data ++ R.toArray) = R.toArray := by
      have h0 : ByteArray.empty.data = #[] := rfl
      rw [h0, Array.empty_append]
    rw [this]
    rfl
  cases A with
  | none =>
    rcases h with rfl | ⟨b, off, e, _⟩
    · rfl
    · cases e
  | some a =>
    refine key a ?_
    have := run_loadCells_list (P := Try.prog) W a ((R.map fun b => (b.toNat : Int)).map (Value.int .u8)) (fun j v hv => by
      rcases h with rfl | ⟨b, off, e, h⟩
      · simp at hv
      · cases e
        rw [add_none]
        exact h j v (by simpa [encB] using hv))
    rwa [List.length_map, List.length_map] at this

/-! ### the book -/
def inV (I : List (Dig × Bytes)) : List (Dig × Value) := I.map fun p => (p.1, .string (strB p.2))
def moV (M : List Bytes) : List (Bytes × Value) := M.map fun r => (r, .bool true)
theorem getL_inV (d : Dig) : ∀ I : List (Dig × Bytes), getL d (inV I) = (findI d I).map fun r => .string (strB r)
  | [] => rfl
  | (x, r) :: l => by
    simp only [inV, List.map_cons, getL, findI]
    split
    · rfl
    · exact getL_inV d l
theorem putL_inV (d : Dig) (r : Bytes) : ∀ {I : List (Dig × Bytes)}, findI d I = none → putL d (.string (strB r)) (inV I) = inV (I ++ [(d, r)])
  | [], _ => rfl
  | (x, q) :: l, h => by
    simp only [findI] at h
    split at h
    · cases h
    · rename_i hx
      simp only [inV, List.map_cons, List.cons_append, putL, if_neg hx]
      have := putL_inV d r h
      simp only [inV] at this
      rw [this]
theorem putL_moV (r : Bytes) : ∀ M : List Bytes, putL r (.bool true) (moV M) = moV (moreM M r)
  | [] => rfl
  | x :: l => by
    simp only [moV, List.map_cons, putL, moreM, List.mem_cons]
    by_cases h : x = r
    · simp [h]
    · have h' : ¬ r = x := fun e => h e.symm
      rw [if_neg h]
      have ih := putL_moV r l
      simp only [moV, moreM] at ih
      rw [ih]
      simp only [h', false_or]
      split <;> rfl

/-- block b is a book whose maps are the blocks r and q: what it has noted is L, in the order in which it came -/
structure BookAt (W : World) (b r q : Nat) (L : List Bytes) (I : List (Dig × Bytes)) (M : List Bytes) (n : Int) : Prop where
  blk : W.heap[b]? = some (.cells #[.map (some r), .map (some q), .int .i64 n] 75 (0, 0))
  ins : MapAt digOk encD W r (inV I)
  mor : MapAt strOk encS W q (moV M)
  inv : BookI shaM L I M
  ne : r ≠ q
  sz : ∀ x ∈ L, x.length ≤ 65536
section
variable {W W' : World} {b r q : Nat} {L : List Bytes} {I : List (Dig × Bytes)} {M : List Bytes} {n : Int} {S : Nat → Prop}
theorem BookAt.lt (h : BookAt W b r q L I M n) : b < W.heap.size := (Array.getElem?_eq_some_iff.1 h.blk).1
theorem BookAt.rlt (h : BookAt W b r q L I M n) : r < W.heap.size := h.ins.lt
theorem BookAt.qlt (h : BookAt W b r q L I M n) : q < W.heap.size := h.mor.lt
theorem BookAt.c0 (h : BookAt W b r q L I M n) : W.cell? ⟨b, 0, none⟩ = some (.map (some r)) := by rw [cell_of_row W b 0 _ _ _ h.blk]; rfl
theorem BookAt.c1 (h : BookAt W b r q L I M n) : W.cell? ⟨b, 1, none⟩ = some (.map (some q)) := by rw [cell_of_row W b 1 _ _ _ h.blk]; rfl
theorem BookAt.c2 (h : BookAt W b r q L I M n) : W.cell? ⟨b, 2, none⟩ = some (.int .i64 n) := by rw [cell_of_row W b 2 _ _ _ h.blk]; rfl
theorem BookAt.thaw (h : BookAt W b r q L I M n) (o : Nat) : W.frozen? ⟨b, o, none⟩ = false := frozen_of_row W b o _ _ h.blk
theorem BookAt.upd (h : BookAt W b r q L I M n) (hu : Upd S W W') (hb : ¬ S b) (hr : ¬ S r) (hq : ¬ S q) : BookAt W' b r q L I M n :=
  ⟨hu.heap h.blk hb, h.ins.kept (hu.block r h.rlt hr), h.mor.kept (hu.block q h.qlt hq), h.inv, h.ne, h.sz⟩
theorem BookAt.kept (h : BookAt W b r q L I M n) (hu : Kept W W') : BookAt W' b r q L I M n := h.upd hu id id id
/-- blocks that a book turns are maps, and its own -/
theorem BookAt.not (h : BookAt W b r q L I M n) {k : Nat} {cs : Array Value} {t : TypeId} {fr : Nat × Nat} (hk : W.heap[k]? = some (.cells cs t fr)) (ht : t ≠ 75) : ¬ (k = b ∨ k = r ∨ k = q) := by
  rintro (rfl | rfl | rfl)
  · rw [h.blk] at hk; cases hk; exact ht rfl
  · obtain ⟨es, c, hm, _⟩ := h.ins; rw [hm] at hk; cases hk
  · obtain ⟨es, c, hm, _⟩ := h.mor; rw [hm] at hk; cases hk
theorem BookAt.b_ne (h : BookAt W b r q L I M n) : b ≠ r ∧ b ≠ q := by
  constructor
  · rintro rfl; obtain ⟨es, c, hm, _⟩ := h.ins; rw [h.blk] at hm; cases hm
  · rintro rfl; obtain ⟨es, c, hm, _⟩ := h.mor; rw [h.blk] at hm; cases hm
end

theorem ink_map_eq (w : World) (r : Option Nat) : (binOp .eql 67 (.map r) (.map none)).run Try.prog w = .ok (.bool r.isNone) w :=
  run_eql_map_nil w _ _ _ r Try.underlying67
attribute [local go_sem] ink_map_eq

theorem ink_none {w : World} {b r : Nat} (hc : w.cell? ⟨b, 0, none⟩ = some (.map (some r))) :
    Calls Try.prog 52 #[.pointer (some ⟨b, 0, none⟩)] w fun e w' => e = .returned (.bool false) ∧ w = w' := by
  go_enter Try.func52, Try.ntmps52
  go_wp2
  go_ret
  exact ⟨rfl, rfl⟩
theorem ink_none_nil (w : World) :
    Calls Try.prog 52 #[.pointer none] w fun e w' => e = .returned (.bool true) ∧ w = w' := by
  go_enter Try.func52, Try.ntmps52
  go_wp2
  go_ret
  exact ⟨rfl, rfl⟩
theorem ink_none_zero {w : World} {b : Nat} (hc : w.cell? ⟨b, 0, none⟩ = some (.map none)) :
    Calls Try.prog 52 #[.pointer (some ⟨b, 0, none⟩)] w fun e w' => e = .returned (.bool true) ∧ w = w' := by
  go_enter Try.func52, Try.ntmps52
  go_wp2
  go_ret
  exact ⟨rfl, rfl⟩

theorem run_atomicAdd {a : Addr} {x : Int} {w : World} (hc : w.cell? a = some (.int .i64 x)) (hz : w.frozen? a = false) :
    (callFunc 72 #[.pointer (some a), .int .i64 1]).run Try.prog w = .ok (.value (.int .i64 (IntKind.i64.wrap (x + 1)))) (w.setCell a (.int .i64 (IntKind.i64.wrap (x + 1)))) :=
  run_call_add (P := Try.prog) Try.func72 (by kernel_rfl) (by kernel_rfl) (by kernel_rfl) .i64 (by kernel_rfl) hc hz (by simp [Op.intArith, go_sem])
theorem atomic_Add {b o : Nat} {x : Int} {w : World} (hc : w.cell? ⟨b, o, none⟩ = some (.int .i64 x)) (hz : w.frozen? ⟨b, o, none⟩ = false) :
    Calls Try.prog 63 #[.pointer (some ⟨b, o, none⟩), .int .i64 1] w fun e w' => e = .returned (.int .i64 (IntKind.i64.wrap (x + 1))) ∧ w.setCell ⟨b, o, none⟩ (.int .i64 (IntKind.i64.wrap (x + 1))) = w' := by
  have h := run_atomicAdd hc hz
  generalize IntKind.i64.wrap (x + 1) = y at *
  go_enter Try.func63, Try.ntmps63
  go_wp2
  go_ret
  exact ⟨rfl, rfl⟩

theorem ink_New (w : World) : Calls Try.prog 14 #[] w fun e w' => e = .returned (.pointer (some ⟨w.heap.size + 1 + 1, 0, none⟩)) ∧ BookAt w' (w.heap.size + 1 + 1) w.heap.size (w.heap.size + 1) [] [] [] 0 ∧ Kept w w' := by
  have h : BookAt (((w.alloc (.map #[] 0)).alloc (.map #[] 0)).alloc (.cells #[.map (some w.heap.size), .map (some (w.heap.size + 1)), .int .i64 0] 75)) (w.heap.size + 1 + 1) w.heap.size (w.heap.size + 1) [] [] [] 0 := by
    refine ⟨?_, ?_, ?_, BookI.nil _, by omega, by simp⟩
    · have := heap_alloc_new ((w.alloc (.map #[] 0)).alloc (.map #[] 0)) (.cells #[.map (some w.heap.size), .map (some (w.heap.size + 1)), .int .i64 0] 75)
      rwa [World.size_alloc, World.size_alloc] at this
    · exact ((MapAt.new w).kept (heap_alloc_old _ _ (by simp))).kept (heap_alloc_old _ _ (by rw [World.size_alloc, World.size_alloc]; omega))
    · have := (MapAt.new (ok := strOk) (enc := encS) (w.alloc (.map #[] 0))).kept (heap_alloc_old ((w.alloc (.map #[] 0)).alloc (.map #[] 0)) (.cells #[.map (some w.heap.size), .map (some (w.heap.size + 1)), .int .i64 0] 75) (by simp))
      rwa [World.size_alloc] at this
  have hk : Kept w (((w.alloc (.map #[] 0)).alloc (.map #[] 0)).alloc (.cells #[.map (some w.heap.size), .map (some (w.heap.size + 1)), .int .i64 0] 75)) := (((Upd.refl _ w).alloc _).alloc _).alloc _
  have HH := Lib.hid (And.intro h hk)
  clear h hk
  have hmm := @run_makeMap Try.prog
  go_enter Try.func14, Try.ntmps14
  go_wp2
  go_ret
  exact ⟨rfl, HH.out.1, HH.out.2⟩
end Go.Proofs.Ytjimamgghkgdeaa
