import Derived.Test.YtepjbijhkkjbfaaGreatSetZa
import Derived.DeepKeys4
import Derived.Test.YtepjbijhkkjbfaaGreatSetZd
import Derived.WalkLawsBesides
import Derived.Laws.BytesString
import Derived.Deep.AppendSrc
import Derived.Deep.Upon
set_option linter.unusedVariables false
set_option linter.unusedSimpArgs false
namespace Go.Proofs.YtepjbijhkkjbfaaGreat
def findI (d : Dig) : List (Dig × Bytes) → Option Bytes
  | [] => none
  | (x, r) :: l => if x = d then some r else findI d l
theorem findI_none {d : Dig} : ∀ {I : List (Dig × Bytes)}, findI d I = none → ∀ p ∈ I, p.1 ≠ d
  | [], _, p, hp => by simp at hp
  | (x, r) :: l, h, p, hp => by
    unfold findI at h
    split at h
    · cases h
    · rename_i hx
      rcases List.mem_cons.1 hp with rfl | hp
      · exact hx
      · exact findI_none h p hp
theorem findI_some {d : Dig} {r : Bytes} : ∀ {I : List (Dig × Bytes)}, findI d I = some r → (d, r) ∈ I
  | [], h => by simp [findI] at h
  | (x, q) :: l, h => by
    unfold findI at h
    split at h
    · rename_i hx; cases h; subst hx; simp
    · exact List.mem_cons_of_mem _ (findI_some h)
theorem nodup_keys {I : List (Dig × Bytes)} (h : (I.map (·.1)).Nodup) {d : Dig} {r q : Bytes} (hr : (d, r) ∈ I) (hq : (d, q) ∈ I) : r = q := by
  induction I with
  | nil => simp at hr
  | cons p l ih =>
    simp only [List.map_cons, List.nodup_cons] at h; rcases List.mem_cons.1 hr with e1 | h1
    · rcases List.mem_cons.1 hq with e2 | h2
      · exact (Prod.mk.inj (e1.trans e2.symm)).2
      · exact absurd (show p.1 ∈ l.map (·.1) from List.mem_map.2 ⟨(d, q), h2, by rw [← e1]⟩) h.1
    · rcases List.mem_cons.1 hq with e2 | h2
      · exact absurd (show p.1 ∈ l.map (·.1) from List.mem_map.2 ⟨(d, r), h1, by rw [← e2]⟩) h.1
      · exact ih h.2 h1 h2
structure BookI (H : Bytes → Dig) (L : List Bytes) (I : List (Dig × Bytes)) (M : List Bytes) : Prop where
  dig : ∀ p ∈ I, p.1 = H p.2
  keys : (I.map (·.1)).Nodup
  mnd : M.Nodup
  more : ∀ r ∈ M, ∃ q, (H r, q) ∈ I ∧ q ≠ r
  mem : ∀ r, r ∈ L ↔ (H r, r) ∈ I ∨ r ∈ M
  nd : L.Nodup
  len : I.length + M.length = L.length
variable {H : Bytes → Dig} {L : List Bytes} {I : List (Dig × Bytes)} {M : List Bytes}
theorem BookI.nil (H : Bytes → Dig) : BookI H [] [] [] := ⟨by simp, by simp, by simp, by simp, by simp, by simp, rfl⟩
theorem BookI.first (h : BookI H L I M) {r : Bytes} (hr : findI (H r) I = none) : BookI H (noteM L r) (I ++ [(H r, r)]) M := by
  have hno := findI_none hr; have hL : r ∉ L := fun hm => by
    rcases (h.mem r).1 hm with h1 | h1
    · exact hno _ h1 rfl
    · obtain ⟨q, hq, _⟩ := h.more r h1
      exact hno _ hq rfl
  have hn : noteM L r = L ++ [r] := by simp [noteM, hL]
  refine ⟨fun p hp => ?_, ?_, h.mnd, fun x hx => ?_, fun x => ?_, noteM_nodup r h.nd, ?_⟩
  · rcases List.mem_append.1 hp with hp | hp
    · exact h.dig p hp
    · rw [List.mem_singleton.1 hp]
  · rw [List.map_append, List.nodup_append]
    refine ⟨h.keys, by simp, ?_⟩; rintro a ha b hb rfl; obtain ⟨p, hp, rfl⟩ := List.mem_map.1 ha; simp at hb; exact hno p hp hb
  · obtain ⟨q, hq, hne⟩ := h.more x hx
    exact ⟨q, List.mem_append.2 (.inl hq), hne⟩
  · rw [mem_noteM, h.mem, List.mem_append, List.mem_singleton]
    constructor
    · rintro ((h1 | h1) | rfl)
      · exact .inl (.inl h1)
      · exact .inr h1
      · exact .inl (.inr rfl)
    · rintro ((h1 | h1) | h1)
      · exact .inl (.inl h1)
      · exact .inr (Prod.mk.inj h1).2
      · exact .inl (.inr h1)
  · rw [hn]; have := h.len; simp; omega
theorem BookI.again (h : BookI H L I M) {r : Bytes} (hr : findI (H r) I = some r) : BookI H (noteM L r) I M := by
  rw [noteM_mem ((h.mem r).2 (.inl (findI_some hr)))]; exact h
def moreM (M : List Bytes) (r : Bytes) : List Bytes := if r ∈ M then M else M ++ [r]
theorem BookI.other (h : BookI H L I M) {r q : Bytes} (hr : findI (H r) I = some q) (hne : q ≠ r) : BookI H (noteM L r) I (moreM M r) := by
  have hq := findI_some hr
  by_cases hM : r ∈ M
  · rw [noteM_mem ((h.mem r).2 (.inr hM)), moreM, if_pos hM]
    exact h
  · have hL : r ∉ L := fun hm => by
      rcases (h.mem r).1 hm with h1 | h1
      · exact hne (nodup_keys h.keys hq h1)
      · exact hM h1
    rw [moreM, if_neg hM]; refine ⟨h.dig, h.keys, ?_, fun x hx => ?_, fun x => ?_, noteM_nodup r h.nd, ?_⟩
    · rw [List.nodup_append]
      exact ⟨h.mnd, by simp, by rintro a ha b hb rfl; simp at hb; subst hb; exact hM ha⟩
    · rcases List.mem_append.1 hx with hx | hx
      · exact h.more x hx
      · rw [List.mem_singleton.1 hx]; exact ⟨q, hq, hne⟩
    · rw [mem_noteM, h.mem, List.mem_append, List.mem_singleton, or_assoc]
    · have := h.len; simp [noteM, hL]; omega
end Go.Proofs.YtepjbijhkkjbfaaGreat
namespace Go.Proofs.YtepjbijhkkjbfaaGreat
open Go.RowKit
open Go.Maps (Keyed)
theorem mapM_some {α β : Type} {f : α → Option β} {g : α → β} : ∀ (l : List α), (∀ x ∈ l, f x = some (g x)) → l.mapM f = some (l.map g)
  | [], _ => rfl
  | a :: l, h => by
    rw [List.mapM_cons, h a (by simp), mapM_some l fun x hx => h x (by simp [hx])]
    rfl
theorem keyLits_bytes {P : Program} {t e : TypeId} {n : Nat} (ht : P.underlying t = some (.array n e)) (he : P.underlying e = some (.int .u8)) (hce : P.cellsOf e = 1) (hct : P.cellsOf t = n)
    (d : Nat) (l : List UInt8) (hl : l.length = n) : P.keyLits (d + 2) t (encB l) = some (l.map fun b => .int .u8 b.toNat) := by
  have h1 : ∀ i ∈ List.range n, P.keyLits (d + 1) e (((encB l).drop (i * P.cellsOf e)).take (P.cellsOf e)) = some ((fun i => [Lit.int .u8 ((l.getD i 0).toNat : Int)]) i) := by
    intro i hi; have hi' : i < l.length := by rw [hl]; exact List.mem_range.1 hi
    have : ((encB l).drop (i * P.cellsOf e)).take (P.cellsOf e) = [.int .u8 (l.getD i 0).toNat] := by
      rw [hce, Nat.mul_one]; have hlt : i < (encB l).length := by rw [encB_length]; exact hi'
      rw [List.drop_eq_getElem_cons hlt]; simp [encB, hi']
    rw [this]; unfold Program.keyLits; simp [he, u8_wf]
  unfold Program.keyLits; simp only [ht]; rw [if_pos (by rw [encB_length, hl, hct]), mapM_some _ h1]; simp only [Option.map_some, Option.some.injEq]; apply List.ext_getElem?; intro i; rw [← List.flatMap_def]; have hfl : (List.range n).flatMap (fun i => [Lit.int .u8 ((l.getD i 0).toNat : Int)]) = (List.range n).map (fun i => Lit.int .u8 ((l.getD i 0).toNat : Int)) := by
    rw [List.map_eq_flatMap]
  rw [hfl]; simp only [List.getElem?_map]
  by_cases hi : i < n
  · rw [List.getElem?_range hi]
    simp [show i < l.length by omega]
  · rw [List.getElem?_eq_none (by simp; omega), List.getElem?_eq_none (by omega)]
    rfl
theorem keyOf_wide {P : Program} {k : TypeId} (hwide : (match P.underlying k with | some (.array _ _) | some (.struct _) => true | _ => false) = true) {v : Value} {L : List Lit} (hk : P.keyType k = true) (hf : v.formed P k = true)
    (hl : P.keyLits (P.types.size + 1) k v.cells.toList = some L) : keyOf P k v = some (.string (keyBytes L)) := by
  unfold keyOf
  split
  · rw [hk, hf, hl]; rfl
  · rw [hk, hf, hl]; rfl
  · rename_i h1 h2
    split at hwide
    · rename_i h; exact (h1 _ _ h).elim
    · rename_i h; exact (h2 _ h).elim
    · cases hwide
end Go.Proofs.YtepjbijhkkjbfaaGreat
namespace Go.Proofs.YtepjbijhkkjbfaaGreat
open Go.RowKit
open Go.Maps (Keyed)
theorem types_size : ∃ d, Tryz.prog.types.size + 1 = d + 4 := ⟨Tryz.prog.types.size - 3, by kernel_rfl⟩
theorem u8_cells : Tryz.prog.cellsOf 5 = 1 := by kernel_rfl
theorem dig_cells : Tryz.prog.cellsOf 23 = 32 := by kernel_rfl
theorem dig_keyType : Tryz.prog.keyType 23 = true := by kernel_rfl
theorem dig_laid : laidOutB Tryz.prog = true := by kernel_rfl
def digOk (_ : Dig) : Prop := True
def encD (d : Dig) : Value := .agg (dA d)
theorem dig_key (d : Dig) (_ : digOk d) : ∃ l, keyOf Tryz.prog 23 (encD d) = some l := by
  obtain ⟨n, hn⟩ := types_size; refine ⟨_, keyOf_wide (L := d.1.map fun b => .int .u8 b.toNat) (by rw [Tryz.underlying23]) dig_keyType ?_ ?_⟩
  · simp [encD, Value.formed, Tryz.underlying23, dig_cells]
  · rw [hn]
    have h4 := keyLits_bytes (P := Tryz.prog) Tryz.underlying23 Tryz.underlying5 u8_cells dig_cells (n + 2) d.1 d.2; simpa [encD, Value.cells, dA] using h4
theorem dig_enc : KeyEnc Tryz.prog 23 digOk encD where
  law := Keyed.of_law (deep_law_laid dig_laid (m := 4) (by omega) (of_decide_eq_true (by kernel_rfl)) (by kernel_rfl) (by rw [Tryz.underlying23]))
  key := dig_key
  inj := by
    intro a b _ _ h; simp only [encD, Value.agg.injEq] at h; exact dA_inj h
def strB (R : Bytes) : ByteArray := ⟨R.toArray⟩
def strOk (R : Bytes) : Prop := R.length ≤ 65536
def encS (R : Bytes) : Value := .string (strB R)
theorem strB_inj {a b : Bytes} (h : strB a = strB b) : a = b := by simpa [strB] using h
theorem str_enc : KeyEnc Tryz.prog 9 strOk encS where
  law := Maps.string_keyed Tryz.underlying9
  key := fun R hR => ⟨.string R, by
    have : R.length ≤ maxLen := by unfold maxLen; unfold strOk at hR; omega
    have h2 : (strB R).size = R.length := by simp [strB, ByteArray.size]
    have h3 : (strB R).data.toList = R := by simp [strB]
    have h4 : (strB R).size ≤ maxLen := by rw [h2]; exact this
    simp only [keyOf, Tryz.underlying9, mapKey, encS, h3, if_pos h4]⟩
  inj := by
    intro a b _ _ h; simp only [encS, Value.string.injEq] at h; exact strB_inj h
theorem strB_same (a b : Bytes) : ((strB a).toList == (strB b).toList) = decide (a = b) := by
  rw [ByteArray.toList_eq, ByteArray.toList_eq]; show (a == b) = decide (a = b)
  by_cases h : a = b
  · simp [h]
  · simp [h]
theorem run_str {W : World} {A : Option Addr} {R : Bytes} (c : Nat) (h : Byt W A R) : (convert 42 9 (.slice A R.length c)).run Tryz.prog W = .ok (.string (strB R)) W := by
  rw [run_convert_bytes_string W 42 9 5 A R.length c Tryz.underlying42 Tryz.underlying5 Tryz.underlying9]; have hpush : ∀ (l : Bytes) (s : ByteArray), (l.map fun b => (b.toNat : Int)).foldl (fun r n => r.push (UInt8.ofNat n.toNat)) s = ⟨s.data ++ l.toArray⟩ := by
    intro l
    induction l with
    | nil => intro s; simp
    | cons b l ih =>
      intro s; rw [List.map_cons, List.foldl_cons, ih]; simp [ByteArray.push]
  have key : ∀ a, (loadCells a R.length).run Tryz.prog W = .ok ((R.map fun b => (b.toNat : Int)).map (Value.int .u8)).toArray W → (Conv.bytesToString (.slice (some a) R.length c)).run Tryz.prog W = .ok (.string (strB R)) W := fun a ha => by
    rw [run_bytesToString W a R.length c _ ha, hpush]; have : (ByteArray.empty.data ++ R.toArray) = R.toArray := by
      have h0 : ByteArray.empty.data = #[] := rfl; rw [h0, Array.empty_append]
    rw [this]
    rfl
  cases A with
  | none =>
    rcases h with rfl | ⟨b, off, e, _⟩
    · rfl
    · cases e
  | some a =>
    refine key a ?_; have := run_loadCells_list (P := Tryz.prog) W a ((R.map fun b => (b.toNat : Int)).map (Value.int .u8)) (fun j v hv => by
      rcases h with rfl | ⟨b, off, e, h⟩
      · simp at hv
      · cases e
        rw [add_none]; exact h j v (by simpa [encB] using hv))
    rwa [List.length_map, List.length_map] at this
def inV (I : List (Dig × Bytes)) : List (Dig × Value) := I.map fun p => (p.1, .string (strB p.2))
def moV (M : List Bytes) : List (Bytes × Value) := M.map fun r => (r, .bool true)
theorem getL_inV (d : Dig) : ∀ I : List (Dig × Bytes), getL d (inV I) = (findI d I).map fun r => .string (strB r)
  | [] => rfl
  | (x, r) :: l => by
    simp only [inV, List.map_cons, getL, findI]
    split
    · rfl
    · exact getL_inV d l
theorem putL_inV (d : Dig) (r : Bytes) : ∀ {I : List (Dig × Bytes)}, findI d I = none → putL d (.string (strB r)) (inV I) = inV (I ++ [(d, r)])
  | [], _ => rfl
  | (x, q) :: l, h => by
    simp only [findI] at h
    split at h
    · cases h
    · rename_i hx
      simp only [inV, List.map_cons, List.cons_append, putL, if_neg hx]; have := putL_inV d r h; simp only [inV] at this; rw [this]
theorem putL_moV (r : Bytes) : ∀ M : List Bytes, putL r (.bool true) (moV M) = moV (moreM M r)
  | [] => rfl
  | x :: l => by
    simp only [moV, List.map_cons, putL, moreM, List.mem_cons]
    by_cases h : x = r
    · simp [h]
    · have h' : ¬ r = x := fun e => h e.symm
      rw [if_neg h]; have ih := putL_moV r l; simp only [moV, moreM] at ih; rw [ih]; simp only [h', false_or]
      split <;> rfl
structure BookAt (W : World) (b r q : Nat) (L : List Bytes) (I : List (Dig × Bytes)) (M : List Bytes) (n : Int) : Prop where
  blk : W.heap[b]? = some (.cells #[.map (some r), .map (some q), .int .i64 n] 79 (0, 0))
  ins : MapAt digOk encD W r (inV I)
  mor : MapAt strOk encS W q (moV M)
  inv : BookI shaM L I M
  ne : r ≠ q
  sz : ∀ x ∈ L, x.length ≤ 65536
section
variable {W W' : World} {b r q : Nat} {L : List Bytes} {I : List (Dig × Bytes)} {M : List Bytes} {n : Int} {S : Nat → Prop}
theorem BookAt.lt (h : BookAt W b r q L I M n) : b < W.heap.size := (Array.getElem?_eq_some_iff.1 h.blk).1
theorem BookAt.rlt (h : BookAt W b r q L I M n) : r < W.heap.size := h.ins.lt
theorem BookAt.qlt (h : BookAt W b r q L I M n) : q < W.heap.size := h.mor.lt
theorem BookAt.c0 (h : BookAt W b r q L I M n) : W.cell? ⟨b, 0, none⟩ = some (.map (some r)) := by rw [cell_of_row W b 0 _ _ _ h.blk]; rfl
theorem BookAt.c1 (h : BookAt W b r q L I M n) : W.cell? ⟨b, 1, none⟩ = some (.map (some q)) := by rw [cell_of_row W b 1 _ _ _ h.blk]; rfl
theorem BookAt.c2 (h : BookAt W b r q L I M n) : W.cell? ⟨b, 2, none⟩ = some (.int .i64 n) := by rw [cell_of_row W b 2 _ _ _ h.blk]; rfl
theorem BookAt.thaw (h : BookAt W b r q L I M n) (o : Nat) : W.frozen? ⟨b, o, none⟩ = false := frozen_of_row W b o _ _ h.blk
theorem BookAt.upd (h : BookAt W b r q L I M n) (hu : Upd S W W') (hb : ¬ S b) (hr : ¬ S r) (hq : ¬ S q) : BookAt W' b r q L I M n :=
  ⟨hu.heap h.blk hb, h.ins.kept (hu.block r h.rlt hr), h.mor.kept (hu.block q h.qlt hq), h.inv, h.ne, h.sz⟩
theorem BookAt.kept (h : BookAt W b r q L I M n) (hu : Kept W W') : BookAt W' b r q L I M n := h.upd hu id id id
theorem BookAt.not (h : BookAt W b r q L I M n) {k : Nat} {cs : Array Value} {t : TypeId} {fr : Nat × Nat} (hk : W.heap[k]? = some (.cells cs t fr)) (ht : t ≠ 79) : ¬ (k = b ∨ k = r ∨ k = q) := by
  rintro (rfl | rfl | rfl)
  · rw [h.blk] at hk; cases hk; exact ht rfl
  · obtain ⟨es, c, hm, _⟩ := h.ins; rw [hm] at hk; cases hk
  · obtain ⟨es, c, hm, _⟩ := h.mor; rw [hm] at hk; cases hk
theorem BookAt.b_ne (h : BookAt W b r q L I M n) : b ≠ r ∧ b ≠ q := by
  constructor
  · rintro rfl; obtain ⟨es, c, hm, _⟩ := h.ins; rw [h.blk] at hm; cases hm
  · rintro rfl; obtain ⟨es, c, hm, _⟩ := h.mor; rw [h.blk] at hm; cases hm
end
theorem ink_map_eq (w : World) (r : Option Nat) : (binOp .eql 71 (.map r) (.map none)).run Tryz.prog w = .ok (.bool r.isNone) w :=
  run_eql_map_nil w _ _ _ r Tryz.underlying71
attribute [local go_sem] ink_map_eq
theorem ink_none {w : World} {b r : Nat} (hc : w.cell? ⟨b, 0, none⟩ = some (.map (some r))) :
    Calls Tryz.prog 58 #[.pointer (some ⟨b, 0, none⟩)] w fun e w' => e = .returned (.bool false) ∧ w = w' := by
  go_enter Tryz.func58, Tryz.ntmps58
  go_wp2
  go_ret
  exact ⟨rfl, rfl⟩
theorem run_atomicAdd {a : Addr} {x : Int} {w : World} (hc : w.cell? a = some (.int .i64 x)) (hz : w.frozen? a = false) :
    (callFunc 69 #[.pointer (some a), .int .i64 1]).run Tryz.prog w = .ok (.value (.int .i64 (IntKind.i64.wrap (x + 1)))) (w.setCell a (.int .i64 (IntKind.i64.wrap (x + 1)))) :=
  run_call_add (P := Tryz.prog) Tryz.func69 (by kernel_rfl) (by kernel_rfl) (by kernel_rfl) .i64 (by kernel_rfl) hc hz (by simp [Op.intArith, go_sem])
theorem atomic_Add {b o : Nat} {x : Int} {w : World} (hc : w.cell? ⟨b, o, none⟩ = some (.int .i64 x)) (hz : w.frozen? ⟨b, o, none⟩ = false) :
    Calls Tryz.prog 59 #[.pointer (some ⟨b, o, none⟩), .int .i64 1] w fun e w' => e = .returned (.int .i64 (IntKind.i64.wrap (x + 1))) ∧ w.setCell ⟨b, o, none⟩ (.int .i64 (IntKind.i64.wrap (x + 1))) = w' := by
  have h := run_atomicAdd hc hz; generalize IntKind.i64.wrap (x + 1) = y at *
  go_enter Tryz.func59, Tryz.ntmps59
  go_wp2
  go_ret
  exact ⟨rfl, rfl⟩
theorem ink_New (w : World) : Calls Tryz.prog 6 #[] w fun e w' => e = .returned (.pointer (some ⟨w.heap.size + 1 + 1, 0, none⟩)) ∧ BookAt w' (w.heap.size + 1 + 1) w.heap.size (w.heap.size + 1) [] [] [] 0 ∧ Kept w w' := by
  have h : BookAt (((w.alloc (.map #[] 0)).alloc (.map #[] 0)).alloc (.cells #[.map (some w.heap.size), .map (some (w.heap.size + 1)), .int .i64 0] 79)) (w.heap.size + 1 + 1) w.heap.size (w.heap.size + 1) [] [] [] 0 := by
    refine ⟨?_, ?_, ?_, BookI.nil _, by omega, by simp⟩
    · have := heap_alloc_new ((w.alloc (.map #[] 0)).alloc (.map #[] 0)) (.cells #[.map (some w.heap.size), .map (some (w.heap.size + 1)), .int .i64 0] 79)
      rwa [World.size_alloc, World.size_alloc] at this
    · exact ((MapAt.new w).kept (heap_alloc_old _ _ (by simp))).kept (heap_alloc_old _ _ (by rw [World.size_alloc, World.size_alloc]; omega))
    · have := (MapAt.new (ok := strOk) (enc := encS) (w.alloc (.map #[] 0))).kept (heap_alloc_old ((w.alloc (.map #[] 0)).alloc (.map #[] 0)) (.cells #[.map (some w.heap.size), .map (some (w.heap.size + 1)), .int .i64 0] 79) (by simp))
      rwa [World.size_alloc] at this
  have hk : Kept w (((w.alloc (.map #[] 0)).alloc (.map #[] 0)).alloc (.cells #[.map (some w.heap.size), .map (some (w.heap.size + 1)), .int .i64 0] 79)) := (((Upd.refl _ w).alloc _).alloc _).alloc _; have HH := Lib.hid (And.intro h hk); clear h hk; have hmm := @run_makeMap Tryz.prog
  go_enter Tryz.func6, Tryz.ntmps6
  go_wp2
  go_ret
  exact ⟨rfl, HH.out.1, HH.out.2⟩
end Go.Proofs.YtepjbijhkkjbfaaGreat
namespace Go.Proofs.YtepjbijhkkjbfaaGreat
open Go.RowKit
theorem BookAt.bytNot {W : World} {b r q : Nat} {L : List Bytes} {I : List (Dig × Bytes)} {M : List Bytes} {n : Int} (h : BookAt W b r q L I M n) {A : Option Addr} {R : Bytes} (hR : Byt W A R) (hn : R ≠ []) :
    ∀ a, A = some a → ¬ (a.block = b ∨ a.block = r ∨ a.block = q) := by
  rintro a rfl hb; rcases hR with rfl | ⟨k, off, e, hc⟩
  · exact hn rfl
  · cases e
    have h0 : 0 < R.length := List.length_pos_iff.2 hn; have h1 := hc 0 (.int .u8 (R[0].toNat : Int)) (by simp [encB, h0]); rw [Nat.add_zero] at h1; rcases hb with rfl | rfl | rfl
    · rw [cell_of_row _ _ _ _ _ _ h.blk] at h1
      have : off < 3 := by have := (Array.getElem?_eq_some_iff.1 h1).1; simpa using this
      match off, this with
      | 0, _ => cases h1
      | 1, _ => cases h1
      | 2, _ => cases h1
    · obtain ⟨es, c, hm, _⟩ := h.ins
      simp [World.cell?, hm] at h1
    · obtain ⟨es, c, hm, _⟩ := h.mor
      simp [World.cell?, hm] at h1
theorem Byt.updB {W W' : World} {b r q : Nat} {L : List Bytes} {I : List (Dig × Bytes)} {M : List Bytes} {n : Int} (h : BookAt W b r q L I M n) {A : Option Addr} {R : Bytes} (hR : Byt W A R) (hu : Upd (fun k => k = b ∨ k = r ∨ k = q) W W') : Byt W' A R := by
  by_cases hn : R = []
  · exact .inl hn
  · exact hR.upd hu (h.bytNot hR hn)
theorem str_zero (W : World) : (zeroValue 9).run Tryz.prog W = .ok (.string ByteArray.empty) W := by
  have h : (Tryz.prog.info? 9).map (·.zero) = some (some (.string ByteArray.empty)) := by kernel_rfl
  obtain ⟨i, hi, h2⟩ := Option.map_eq_some_iff.1 h; simp [zeroValue, typeInfo, hi, h2]
set_option maxHeartbeats 4000000 in
set_option maxRecDepth 20000 in
theorem ink_Of {w : World} {b r q : Nat} {L : List Bytes} {I : List (Dig × Bytes)} {M : List Bytes} {n : Int} (h : BookAt w b r q L I M n) {A : Option Addr} {R : Bytes} (c : Nat) (hR : Byt w A R) (hl : R.length ≤ 65536) (hcap : R.length ≤ c) :
    Calls Tryz.prog 46 #[.pointer (some ⟨b, 0, none⟩), .slice A R.length c] w fun e W => e = .returned (.tuple #[.agg (dA (shaM R)), .int .i64 0]) ∧
      ∃ I' M' n', BookAt W b r q (noteM L R) I' M' n' ∧ Upd (fun k => k = b ∨ k = r ∨ k = q) w W := by
  have hnot : ∀ (x : Bool) (w : World), (Op.unary .not (.bool x)).run Tryz.prog w = .ok (.bool (!x)) w := fun _ _ => rfl; have h1 := h.kept ((Upd.refl (fun _ => False) w).alloc (.cells (dA dig0) 23)); have hR1 := hR.kept ((Upd.refl (fun _ => False) w).alloc (.cells (dA dig0) 23)); have hr1 : Blk (w.alloc (.cells (dA dig0) 23)) w.heap.size 23 (encB dig0.1) := Blk.new w _ _; have hk1 : Kept w (w.alloc (.cells (dA dig0) 23)) := (Upd.refl _ w).alloc _; have HX := Lib.hid (And.intro h1 (And.intro hR1 (And.intro hr1 hk1))); clear h h1 hR hR1 hr1 hk1; have hl' : ((R.length : Nat) : Int) ≤ 65536 := by omega
  go_enter Tryz.func46, Tryz.ntmps46
  go_wp2_with fail; generalize w.alloc (.cells (dA dig0) 23) = w1 at *; refine (ink_none HX.out.1.c0).mono ?_; rintro e w1' ⟨rfl, rfl⟩; go_wp2_with fail; refine (atomic_Add HX.out.1.c2 (HX.out.1.thaw 2)).mono ?_; rintro e w2 ⟨rfl, hw2⟩; have h2 : BookAt w2 b r q L I M (IntKind.i64.wrap (n + 1)) := by
    obtain ⟨h1, _⟩ := HX.out; subst hw2; exact ⟨by rw [heap_setCell_same _ b 2 _ _ _ h1.blk]; rfl, h1.ins.kept (heap_setCell_other _ _ _ _ (fun e => h1.b_ne.1 e.symm)), h1.mor.kept (heap_setCell_other _ _ _ _ (fun e => h1.b_ne.2 e.symm)), h1.inv, h1.ne, h1.sz⟩
  have hv2 : Upd (fun k => k = b ∨ k = r ∨ k = q) w1 w2 := by
    subst hw2; exact (Upd.refl _ _).setCell (p := ⟨b, 2, none⟩) _ fun _ => .inl rfl
  have hR2 := Byt.updB HX.out.1 HX.out.2.1 hv2; have hr2 := HX.out.2.2.1.upd hv2 (HX.out.1.not HX.out.2.2.1 (by decide)); have hu2 : Upd (fun k => k = b ∨ k = r ∨ k = q) w w2 := HX.out.2.2.2.to.trans hv2; clear hw2 hv2; generalize IntKind.i64.wrap (n + 1) = n2 at *; have HY := Lib.hid (And.intro h2 (And.intro hR2 (And.intro hr2 hu2))); clear h2 hR2 hr2 hu2; go_wp2_with fail; refine (sha_Of c HY.out.2.1 (by omega) hcap).mono ?_; rintro e w3 ⟨rfl, hu3⟩; have hsz := HY.out.1; have h3 := HY.out.1.kept hu3; have hR3 := HY.out.2.1.kept hu3; have hr3 := HY.out.2.2.1.kept hu3; have hv3 : Upd (fun k => k = b ∨ k = r ∨ k = q) w w3 := HY.out.2.2.2.then hu3 fun _ _ h => h.elim; clear hsz hu3; generalize hD : shaM R = D at *; have HDD := Lib.hid hD; have h4 := h3.kept ((Upd.refl (fun _ => False) w3).alloc (.cells (dA D) 23)); have hR4 := hR3.kept ((Upd.refl (fun _ => False) w3).alloc (.cells (dA D) 23)); have hr4 := hr3.alloc (.cells (dA D) 23); have hd4 : Blk (w3.alloc (.cells (dA D) 23)) w3.heap.size 23 (encB D.1) := Blk.new w3 _ _; have hv4 := hv3.alloc (.cells (dA D) 23); clear hD h3 hR3 hr3 hv3; have HZ := Lib.hid (And.intro h4 (And.intro hR4 (And.intro hr4 (And.intro hd4 hv4)))); clear h4 hR4 hr4 hd4 hv4; go_wp2_with fail; generalize w3.alloc (.cells (dA D) 23) = w4 at *; generalize w3.heap.size = gd at *; have f0 : ∀ W, Kept w4 W → W.cell? ⟨b, 0, none⟩ = some (.map (some r)) := fun W hW => (HZ.out.1.kept hW).c0; have f1 : ∀ W, Kept w4 W → segB W ⟨gd, 0, none⟩ 32 = true := fun W hW => ((HZ.out.2.2.2.1.kept hW).seg 0 32 (encB D.1) (by rw [encB_length, D.2]) (fun j _ => by rw [Nat.zero_add])).1; have f2 : ∀ W, Kept w4 W → segV W ⟨gd, 0, none⟩ 32 = dA D := fun W hW => ((HZ.out.2.2.2.1.kept hW).seg 0 32 (encB D.1) (by rw [encB_length, D.2]) (fun j _ => by rw [Nat.zero_add])).2; cases hf : findI D I with
  | none =>
    have f3 : ∀ W, Kept w4 W → (Instr.lookup 71 (.map (some r)) (.agg (dA D)) true).run Tryz.prog W = .ok (.tuple #[.string ByteArray.empty, .bool false]) W := fun W hW => by
      have := run_lookup_at dig_enc Tryz.underlying71 str_zero (HZ.out.1.kept hW).ins (x := D) trivial true; rw [getL_inV, hf] at this; exact this
    refine wp_region_mild_all (by kernel_rfl) (by kernel_rfl) (Kept w4) (Upd.refl _ _).drew ?_
    iterate 11 (refine wpMild_step (fun K hK => ?_); go_simp; apply Exists.intro; refine ⟨fun W hW => ?_, hK _ ?_⟩; (go_simp; first | done | exact rfl | exact ⟨rfl, hW⟩); clear hK K)
    refine wpMild_nil (fun w5 hS => ?_); have HS := Lib.hid (And.intro (HZ.out.1.kept hS) (And.intro (HZ.out.2.1.kept hS) (And.intro (HZ.out.2.2.1.kept hS) (And.intro (HZ.out.2.2.2.1.kept hS) (HZ.out.2.2.2.2.then hS fun _ _ h => h.elim))))); clear f0 f1 f2 f3 hS HZ; have g0 : ∀ W, Kept w5 W → W.cell? ⟨b, 0, none⟩ = some (.map (some r)) := fun W hW => (HS.out.1.kept hW).c0; have g1 : ∀ W, Kept w5 W → segB W ⟨gd, 0, none⟩ 32 = true := fun W hW => ((HS.out.2.2.2.1.kept hW).seg 0 32 (encB D.1) (by rw [encB_length, D.2]) (fun j _ => by rw [Nat.zero_add])).1; have g2 : ∀ W, Kept w5 W → segV W ⟨gd, 0, none⟩ 32 = dA D := fun W hW => ((HS.out.2.2.2.1.kept hW).seg 0 32 (encB D.1) (by rw [encB_length, D.2]) (fun j _ => by rw [Nat.zero_add])).2; have g3 : ∀ W, Kept w5 W → (convert 42 9 (.slice A R.length c)).run Tryz.prog W = .ok (.string (strB R)) W := fun W hW => run_str c (HS.out.2.1.kept hW); go_wp2_with fail; refine wp_region_mild 7 (by kernel_rfl) (by kernel_rfl) (Kept w5) (Upd.refl _ _).drew ?_; simp only [List.take_succ_cons, List.take_zero, List.drop_succ_cons, List.drop_zero]
    iterate 7 (refine wpMild_step (fun K hK => ?_); go_simp; apply Exists.intro; refine ⟨fun W hW => ?_, hK _ ?_⟩; (go_simp; first | done | exact rfl | exact ⟨rfl, hW⟩); clear hK K)
    refine wpMild_nil (fun wc hS => ?_); obtain ⟨W6, hrun, hm, hg, hs⟩ := run_update_at dig_enc Tryz.underlying71 (HS.out.1.kept hS).ins (x := D) trivial (.string (strB R))
    change (Instr.mapUpdate 71 (.map (some r)) (.agg (dA D)) (.string (strB R))).run Tryz.prog wc = .ok () W6 at hrun
    have HE : Hid (BookAt W6 b r q (noteM L R) (I ++ [(D, R)]) M n2 ∧ Upd (fun k => k = b ∨ k = r ∨ k = q) w W6 ∧ Blk W6 gd 23 (encB D.1) ∧ Blk W6 w.heap.size 23 (encB dig0.1)) := by
      obtain ⟨hb, hbt, hr, hd, hv⟩ := HS.out; have hbc := hb.kept hS; have hv6 : Upd (fun k => k = r) wc W6 := (Upd.of_grown hg).mono fun k _ e => by cases e; rfl
      have hinv : BookI shaM (noteM L R) (I ++ [(D, R)]) M := by have := hbc.inv.first (r := R) (by rw [HDD.out]; exact hf); rwa [HDD.out] at this
      rw [putL_inV D R hf] at hm; refine ⟨⟨hv6.heap hbc.blk hbc.b_ne.1, hm, hbc.mor.kept (hv6.block q hbc.qlt (fun e => hbc.ne e.symm)), hinv, hbc.ne, fun x hx => ?_⟩, (hv.then hS fun _ _ h => h.elim).trans (hv6.mono fun k _ e => .inr (.inl e)), ?_, ?_⟩
      · rcases mem_noteM.1 hx with hx | rfl
        · exact hbc.sz x hx
        · exact hl
      · exact (hd.kept hS).upd hv6 (fun e => hbc.not (hd.kept hS) (by decide) (.inr (.inl e)))
      · exact (hr.kept hS).upd hv6 (fun e => hbc.not (hr.kept hS) (by decide) (.inr (.inl e)))
    clear g0 g1 g2 g3 hS hm hg hs HS; obtain ⟨s1, s2⟩ := HE.out.2.2.1.seg 0 32 (encB D.1) (by rw [encB_length, D.2]) (fun j _ => by rw [Nat.zero_add])
    change segV _ _ 32 = dA D at s2
    have hrb : rowB W6 w.heap.size 32 = true := rowB_of (show (W6).heap[w.heap.size]? = some (.cells (encB dig0.1).toArray 23 (0, 0)) from HE.out.2.2.2) (by simp [encB_length, dig0]); have HG : Hid (BookAt ((W6).setRow w.heap.size (dA D)) b r q (noteM L R) (I ++ [(D, R)]) M n2 ∧ Upd (fun k => k = b ∨ k = r ∨ k = q) w ((W6).setRow w.heap.size (dA D)) ∧ segB ((W6).setRow w.heap.size (dA D)) ⟨w.heap.size, 0, none⟩ 32 = true ∧ segV ((W6).setRow w.heap.size (dA D)) ⟨w.heap.size, 0, none⟩ 32 = dA D) := by
      obtain ⟨hb, hu, hg, hr⟩ := HE.out; have hn := hb.not hr (by decide); have h1 := (hr.setRow (encB D.1)).seg 0 32 (encB D.1) (by rw [encB_length, D.2]) (fun j _ => by rw [Nat.zero_add]); have hv : Upd (fun k => k = w.heap.size) W6 ((W6).setRow w.heap.size (dA D)) := (Upd.refl _ _).setRow _ _ fun _ => rfl; exact ⟨hb.upd hv (fun e => hn (.inl e.symm)) (fun e => hn (.inr (.inl e.symm))) (fun e => hn (.inr (.inr e.symm))), hu.setRow _ _ (fun h => absurd h (Nat.lt_irrefl _)), h1.1, h1.2⟩
    clear HE; go_wp2; refine bodyPost_ret (v := .tuple #[.agg (dA D), .int .i64 0]) ?_ rfl ⟨by rw [HDD.out], _, _, _, HG.out.1, HG.out.2.1⟩; rw [results_seg2 (P := Tryz.prog) (fn := Tryz.f46) (p := 4) (t := 5) (ty := 23) rfl _ _ ⟨w.heap.size, 0, none⟩ 32 _ (.int .i64 0) rfl rfl Tryz.underlying23 rfl sizeOf23 HG.out.2.2.1, HG.out.2.2.2]
  | some q' =>
    have f3 : ∀ W, Kept w4 W → (Instr.lookup 71 (.map (some r)) (.agg (dA D)) true).run Tryz.prog W = .ok (.tuple #[.string (strB q'), .bool true]) W := fun W hW => by
      have := run_lookup_at dig_enc Tryz.underlying71 str_zero (HZ.out.1.kept hW).ins (x := D) trivial true; rw [getL_inV, hf] at this; exact this
    refine wp_region_mild_all (by kernel_rfl) (by kernel_rfl) (Kept w4) (Upd.refl _ _).drew ?_
    iterate 11 (refine wpMild_step (fun K hK => ?_); go_simp; apply Exists.intro; refine ⟨fun W hW => ?_, hK _ ?_⟩; (go_simp; first | done | exact rfl | exact ⟨rfl, hW⟩); clear hK K)
    refine wpMild_nil (fun w5 hS => ?_); have HS := Lib.hid (And.intro (HZ.out.1.kept hS) (And.intro (HZ.out.2.1.kept hS) (And.intro (HZ.out.2.2.1.kept hS) (And.intro (HZ.out.2.2.2.1.kept hS) (HZ.out.2.2.2.2.then hS fun _ _ h => h.elim))))); clear f0 f1 f2 f3 hS HZ; have g0 : ∀ W, Kept w5 W → W.cell? ⟨b, 1, none⟩ = some (.map (some q)) := fun W hW => (HS.out.1.kept hW).c1; have g3 : ∀ W, Kept w5 W → (convert 42 9 (.slice A R.length c)).run Tryz.prog W = .ok (.string (strB R)) W := fun W hW => run_str c (HS.out.2.1.kept hW); have g4 := g3 w5 (Upd.refl _ _); have hsame := strB_same q' R; have hfd : findI (shaM R) I = some q' := by rw [HDD.out]; exact hf
    have HFD := Lib.hid hfd; clear hfd
    by_cases hqR : q' = R
    · rw [decide_eq_true hqR] at hsame
      have HE : Hid (BookAt w5 b r q (noteM L R) I M n2 ∧ Upd (fun k => k = b ∨ k = r ∨ k = q) w w5 ∧ Blk w5 gd 23 (encB D.1) ∧ Blk w5 w.heap.size 23 (encB dig0.1)) := by
        obtain ⟨hb, hbt, hr, hd, hv⟩ := HS.out; have hinv : BookI shaM (noteM L R) I M := hb.inv.again (r := R) (by rw [HFD.out, hqR]); refine ⟨⟨hb.blk, hb.ins, hb.mor, hinv, hb.ne, fun x hx => ?_⟩, hv, hd, hr⟩; rcases mem_noteM.1 hx with hx | rfl
        · exact hb.sz x hx
        · exact hl
      clear hqR hf HS g0; obtain ⟨s1, s2⟩ := HE.out.2.2.1.seg 0 32 (encB D.1) (by rw [encB_length, D.2]) (fun j _ => by rw [Nat.zero_add])
      change segV _ _ 32 = dA D at s2
      have hrb : rowB w5 w.heap.size 32 = true := rowB_of (show (w5).heap[w.heap.size]? = some (.cells (encB dig0.1).toArray 23 (0, 0)) from HE.out.2.2.2) (by simp [encB_length, dig0]); have HG : Hid (BookAt ((w5).setRow w.heap.size (dA D)) b r q (noteM L R) I M n2 ∧ Upd (fun k => k = b ∨ k = r ∨ k = q) w ((w5).setRow w.heap.size (dA D)) ∧ segB ((w5).setRow w.heap.size (dA D)) ⟨w.heap.size, 0, none⟩ 32 = true ∧ segV ((w5).setRow w.heap.size (dA D)) ⟨w.heap.size, 0, none⟩ 32 = dA D) := by
        obtain ⟨hb, hu, hg, hr⟩ := HE.out; have hn := hb.not hr (by decide); have h1 := (hr.setRow (encB D.1)).seg 0 32 (encB D.1) (by rw [encB_length, D.2]) (fun j _ => by rw [Nat.zero_add]); have hv : Upd (fun k => k = w.heap.size) w5 ((w5).setRow w.heap.size (dA D)) := (Upd.refl _ _).setRow _ _ fun _ => rfl; exact ⟨hb.upd hv (fun e => hn (.inl e.symm)) (fun e => hn (.inr (.inl e.symm))) (fun e => hn (.inr (.inr e.symm))), hu.setRow _ _ (fun h => absurd h (Nat.lt_irrefl _)), h1.1, h1.2⟩
      clear HE; go_wp2; refine bodyPost_ret (v := .tuple #[.agg (dA D), .int .i64 0]) ?_ rfl ⟨by rw [HDD.out], _, _, _, HG.out.1, HG.out.2.1⟩; rw [results_seg2 (P := Tryz.prog) (fn := Tryz.f46) (p := 4) (t := 5) (ty := 23) rfl _ _ ⟨w.heap.size, 0, none⟩ 32 _ (.int .i64 0) rfl rfl Tryz.underlying23 rfl sizeOf23 HG.out.2.2.1, HG.out.2.2.2]
    · rw [decide_eq_false hqR] at hsame
      have HNE := Lib.hid hqR; clear hqR; go_wp2_with fail; refine wp_region_mild 6 (by kernel_rfl) (by kernel_rfl) (Kept w5) (Upd.refl _ _).drew ?_; simp only [List.take_succ_cons, List.take_zero, List.drop_succ_cons, List.drop_zero]
      iterate 6 (refine wpMild_step (fun K hK => ?_); go_simp; apply Exists.intro; refine ⟨fun W hW => ?_, hK _ ?_⟩; (go_simp; first | done | exact rfl | exact ⟨rfl, hW⟩); clear hK K)
      refine wpMild_nil (fun wc hS => ?_); obtain ⟨W6, hrun, hm, hg, hs⟩ := run_update_at str_enc Tryz.underlying72 (HS.out.1.kept hS).mor (x := R) hl (.bool true)
      change (Instr.mapUpdate 72 (.map (some q)) (.string (strB R)) (.bool true)).run Tryz.prog wc = .ok () W6 at hrun
      have HE : Hid (BookAt W6 b r q (noteM L R) I (moreM M R) n2 ∧ Upd (fun k => k = b ∨ k = r ∨ k = q) w W6 ∧ Blk W6 gd 23 (encB D.1) ∧ Blk W6 w.heap.size 23 (encB dig0.1)) := by
        obtain ⟨hb, hbt, hr, hd, hv⟩ := HS.out; have hbc := hb.kept hS; have hv6 : Upd (fun k => k = q) wc W6 := (Upd.of_grown hg).mono fun k _ e => by cases e; rfl
        have hinv : BookI shaM (noteM L R) I (moreM M R) := hbc.inv.other HFD.out HNE.out; rw [putL_moV R M] at hm; refine ⟨⟨hv6.heap hbc.blk hbc.b_ne.2, hbc.ins.kept (hv6.block r hbc.rlt hbc.ne), hm, hinv, hbc.ne, fun x hx => ?_⟩, (hv.then hS fun _ _ h => h.elim).trans (hv6.mono fun k _ e => .inr (.inr e)), ?_, ?_⟩
        · rcases mem_noteM.1 hx with hx | rfl
          · exact hbc.sz x hx
          · exact hl
        · exact (hd.kept hS).upd hv6 (fun e => hbc.not (hd.kept hS) (by decide) (.inr (.inr e)))
        · exact (hr.kept hS).upd hv6 (fun e => hbc.not (hr.kept hS) (by decide) (.inr (.inr e)))
      clear g0 g3 g4 hS hm hg hs HS hsame hf; obtain ⟨s1, s2⟩ := HE.out.2.2.1.seg 0 32 (encB D.1) (by rw [encB_length, D.2]) (fun j _ => by rw [Nat.zero_add])
      change segV _ _ 32 = dA D at s2
      have hrb : rowB W6 w.heap.size 32 = true := rowB_of (show (W6).heap[w.heap.size]? = some (.cells (encB dig0.1).toArray 23 (0, 0)) from HE.out.2.2.2) (by simp [encB_length, dig0]); have HG : Hid (BookAt ((W6).setRow w.heap.size (dA D)) b r q (noteM L R) I (moreM M R) n2 ∧ Upd (fun k => k = b ∨ k = r ∨ k = q) w ((W6).setRow w.heap.size (dA D)) ∧ segB ((W6).setRow w.heap.size (dA D)) ⟨w.heap.size, 0, none⟩ 32 = true ∧ segV ((W6).setRow w.heap.size (dA D)) ⟨w.heap.size, 0, none⟩ 32 = dA D) := by
        obtain ⟨hb, hu, hg, hr⟩ := HE.out; have hn := hb.not hr (by decide); have h1 := (hr.setRow (encB D.1)).seg 0 32 (encB D.1) (by rw [encB_length, D.2]) (fun j _ => by rw [Nat.zero_add]); have hv : Upd (fun k => k = w.heap.size) W6 ((W6).setRow w.heap.size (dA D)) := (Upd.refl _ _).setRow _ _ fun _ => rfl; exact ⟨hb.upd hv (fun e => hn (.inl e.symm)) (fun e => hn (.inr (.inl e.symm))) (fun e => hn (.inr (.inr e.symm))), hu.setRow _ _ (fun h => absurd h (Nat.lt_irrefl _)), h1.1, h1.2⟩
      clear HE; go_wp2; refine bodyPost_ret (v := .tuple #[.agg (dA D), .int .i64 0]) ?_ rfl ⟨by rw [HDD.out], _, _, _, HG.out.1, HG.out.2.1⟩; rw [results_seg2 (P := Tryz.prog) (fn := Tryz.f46) (p := 4) (t := 5) (ty := 23) rfl _ _ ⟨w.heap.size, 0, none⟩ 32 _ (.int .i64 0) rfl rfl Tryz.underlying23 rfl sizeOf23 HG.out.2.2.1, HG.out.2.2.2]
end Go.Proofs.YtepjbijhkkjbfaaGreat
namespace Go.Proofs.YtepjbijhkkjbfaaGreat
open Go.RowKit
theorem u8_info : ∃ i, Tryz.prog.info? 5 = some i ∧ i.zero = some (.int .u8 0) ∧ i.size = 1 ∧ i.bytes = 1 := by
  have h : (Tryz.prog.info? 5).map (fun i => (i.zero, i.size, i.bytes)) = some (some (.int .u8 0), 1, 1) := by kernel_rfl
  obtain ⟨i, hi, h2⟩ := Option.map_eq_some_iff.1 h; simp only [Prod.mk.injEq] at h2; exact ⟨i, hi, h2.1, h2.2.1, h2.2.2⟩
def OwnB (W : World) (B : Nat) (v : Value) (R : Bytes) : Prop := W.ownsRow B 5 1 v R.length (encB R)
section
variable {W W' : World} {B : Nat} {v : Value} {R : Bytes} {S : Nat → Prop}
theorem OwnB.form (h : OwnB W B v R) : ∃ A c, v = .slice A R.length c ∧ R.length ≤ c ∧ Byt W A R := by
  rcases h.2 with ⟨rfl, h0⟩ | ⟨g, cap, cur, rfl, hb, hg, h1, h2, h3, h4⟩
  · have hR : R = [] := List.eq_nil_of_length_eq_zero h0
    subst hR; exact ⟨_, _, rfl, by simp, .inl rfl⟩
  · refine ⟨_, _, rfl, by omega, .inr ⟨g, 0, rfl, fun j u hu => ?_⟩⟩
    rw [cell_of_row W g _ _ _ _ hg, Nat.zero_add]; have hj : j < (encB R).length := (List.getElem?_eq_some_iff.1 hu).1; have : cur[j]? = (cur.toList.take (R.length * 1))[j]? := by rw [List.getElem?_take_of_lt (by rw [encB_length] at hj; omega)]; simp
    rw [this, h4, hu]
theorem OwnB.upd (h : OwnB W B v R) (hu : Upd S W W') (hs : ∀ k, v.ownBlock = some k → ¬ S k) : OwnB W' B v R := by
  refine ⟨h.1, h.2.imp id fun ⟨g, cap, cur, hv, hb, hg, hr⟩ => ⟨g, cap, cur, hv, hb, ?_, hr⟩⟩; subst hv; exact hu.heap hg (hs g rfl)
theorem OwnB.kept (h : OwnB W B v R) (hu : Kept W W') : OwnB W' B v R := h.upd hu fun _ _ => id
theorem OwnB.far (h : OwnB W B v R) : ∀ k, v.ownBlock = some k → B ≤ k ∧ k < W.heap.size := fun k e => World.ownsRow.lt h k e
theorem OwnB.one (W : World) (c : UInt8) : OwnB (W.alloc (.cells #[.int .u8 (c.toNat : Int)] 5)) W.heap.size (.slice (some ⟨W.heap.size, 0, none⟩) 1 1) [c] :=
  ⟨rfl, .inr ⟨W.heap.size, 1, #[.int .u8 (c.toNat : Int)], rfl, Nat.le_refl _, heap_alloc_new W _, Nat.le_refl _, by unfold maxLen; omega, rfl, rfl⟩⟩
end
theorem wpList_append_bytes {ops : Array Oper} {rest : List Oper} {o : Oper} {a : Act} {Q : Exit → Act → World → Prop} {W : World} {B : Nat} {v : Value} {R0 R : Bytes} (hgd : o.guard = none) (s x : Operand)
    (ho : o.op = .call { callee := .builtin .append, args := #[s, x], argTypes := #[42, 42] }) (hs : a.eval s = v) (hv : OwnB W B v R0) (A : Option Addr) (c : Nat) (hx : a.eval x = .slice A R.length c) (hR : Byt W A R)
    (hlen : R0.length + R.length ≤ 140737488351232) (hB : B ≤ W.heap.size)
    (hk : ∀ v' W', OwnB W' B v' (R0 ++ R) → Upd (fun k => v.ownBlock = some k) W W' → wpList Tryz.prog ops Q rest (a.put o.dst v') W') : wpList Tryz.prog ops Q (o :: rest) a W := by
  obtain ⟨i0, hi, hz0, hz1, hz2⟩ := u8_info; obtain ⟨A0, c0, rfl, hc0, _⟩ := hv.form; rcases hR with rfl | ⟨b, off, rfl, hc⟩
  · refine wpList_plain hgd fun K hK => ?_
    have hsrc : Src Tryz.prog i0.size 42 (.slice A 0 c) 0 [] W := by
      cases A with
      | none => exact Src.ofNil W Tryz.underlying42 c
      | some ad => exact Src.ofSlice W Tryz.underlying42 ad 0 c [] (by simp) (fun j u hu => by simp at hu) (fun u hu => by cases hu)
    have hr := run_append_nothing W 42 42 o.type 5 i0 Tryz.underlying42 hi A0 R0.length c0 hc0 _ hsrc; unfold Oper.wp execOp; have hx' : a.eval x = .slice A 0 c := hx; simp only [ho, resolve, invoke, builtin, Sem.run_bind, Sem.run_pure, Result.andThen_ok, List.map_toArray, List.map_cons, List.map_nil, hs, hx', hr]; exact hK _ _ (hk _ _ (by rw [List.append_nil]; exact hv) (Upd.refl _ _))
  · by_cases h0 : R = []
    · subst h0
      refine wpList_plain hgd fun K hK => ?_; have hsrc : Src Tryz.prog i0.size 42 (.slice (some ⟨b, off, none⟩) 0 c) 0 [] W := Src.ofSlice W Tryz.underlying42 _ 0 c [] (by simp) (fun j u hu => by simp at hu) (fun u hu => by cases hu); have hr := run_append_nothing W 42 42 o.type 5 i0 Tryz.underlying42 hi A0 R0.length c0 hc0 _ hsrc; unfold Oper.wp execOp; have hx' : a.eval x = .slice (some ⟨b, off, none⟩) 0 c := hx; simp only [ho, resolve, invoke, builtin, Sem.run_bind, Sem.run_pure, Result.andThen_ok, List.map_toArray, List.map_cons, List.map_nil, hs, hx', hr]; exact hK _ _ (hk _ _ (by rw [List.append_nil]; exact hv) (Upd.refl _ _))
    · have hpos : 0 < R.length := List.length_pos_iff.2 h0
      refine wpList_append_own W hgd s x 42 ho B 5 i0 (.int .u8 0) 1 1 Tryz.underlying42 hi hz0 hz1 hz2 rfl (by decide) _ R0.length (encB R0) hs hv ⟨b, off, none⟩ R.length c (encB R) hx (by simp [encB_length]) (fun j u hu => by rw [add_none]; exact hc j u hu) (encB_one R) (by unfold maxLen; omega) (by omega) hB ?_; intro v' W' hown hgr hnil; refine hk v' W' ?_ ((Upd.of_grown hgr).mono fun k _ h => h.symm); unfold OwnB; rw [List.length_append, encB_append]; exact hown
@[go_sem ↓] theorem exec_bs1 (ρ : Operand → Value) (dst : Option Tmp) (parts : Array (Nat × Operand)) (ty : TypeId) (pos : String) (after : Array Edge) (guard : Option (Nat × Bool)) :
    execOp ρ ⟨dst, .buildSlice 42 1 parts, ty, pos, after, guard⟩ = sliceRow 42 1 (parts.map fun (i, x) => (i, ρ x)) := rfl
theorem run_bs1 (c : UInt8) (W : World) : ∃ v W', (sliceRow 42 1 #[(0, .int .u8 (c.toNat : Int))]).run Tryz.prog W = .ok (.value v) W' ∧ OwnB W' W.heap.size v [c] ∧ Kept W W' := by
  refine ⟨_, _, ?_, OwnB.one W c, (Upd.refl _ W).alloc _⟩; obtain ⟨i, hi, hz, hs, _⟩ := u8_info; have h := run_buildSlice (P := Tryz.prog) W 42 5 1 #[(0, .int .u8 (c.toNat : Int))] #[.int .u8 (c.toNat : Int)] i (.int .u8 0) Tryz.underlying42 hi hz (by rw [hs]; omega) (by rw [hs]; decide) (by
    rw [hs]; have h0 : Array.range (1 * 1) = #[0] := by decide
    rw [h0]; simp [Instr.fill, Value.cells])
  simp [sliceRow, h, Result.andThen]
@[go_sem ↓] theorem exec_build_dig (ρ : Operand → Value) (dst : Option Tmp) (parts : Array (Nat × Operand)) (ty : TypeId) (pos : String) (after : Array Edge) (guard : Option (Nat × Bool)) :
    execOp ρ ⟨dst, .build 23 parts, ty, pos, after, guard⟩ = buildRow 23 (parts.map fun (i, x) => (i, ρ x)) := rfl
@[go_sem] theorem run_build_dig0 (W : World) : (buildRow 23 #[]).run Tryz.prog W = .ok (.value (.agg (dA dig0))) W := by
  have h := run_build (P := Tryz.prog) W 23 #[] (dA dig0) (by kernel_rfl); simp [buildRow, h, Result.andThen]
def BookL (W : World) (b r q : Nat) (L : List Bytes) : Prop := ∃ I M n, BookAt W b r q L I M n
abbrev Book3 (b r q : Nat) : Nat → Prop := fun k => k = b ∨ k = r ∨ k = q
section
variable {W W' : World} {b r q : Nat} {L : List Bytes} {S : Nat → Prop}
theorem BookL.kept (h : BookL W b r q L) (hu : Kept W W') : BookL W' b r q L := by
  obtain ⟨I, M, n, h⟩ := h; exact ⟨I, M, n, h.kept hu⟩
theorem BookL.upd (h : BookL W b r q L) (hu : Upd S W W') (hb : ¬ S b) (hr : ¬ S r) (hq : ¬ S q) : BookL W' b r q L := by
  obtain ⟨I, M, n, h⟩ := h; exact ⟨I, M, n, h.upd hu hb hr hq⟩
theorem BookL.not (h : BookL W b r q L) {k : Nat} {cs : Array Value} {t : TypeId} {fr : Nat × Nat} (hk : W.heap[k]? = some (.cells cs t fr)) (ht : t ≠ 79) : ¬ Book3 b r q k := by
  obtain ⟨I, M, n, h⟩ := h; exact h.not hk ht
theorem BookL.lt (h : BookL W b r q L) : ∀ k, Book3 b r q k → k < W.heap.size := by
  obtain ⟨I, M, n, h⟩ := h; rintro k (rfl | rfl | rfl)
  · exact h.lt
  · exact h.rlt
  · exact h.qlt
theorem BookL.byt (h : BookL W b r q L) {A : Option Addr} {R : Bytes} (hR : Byt W A R) (hu : Upd (Book3 b r q) W W') : Byt W' A R := by
  obtain ⟨I, M, n, h⟩ := h; exact Byt.updB h hR hu
theorem BookL.far (h : BookL W b r q L) {g : Nat} {cs : Array Value} {t : TypeId} {fr : Nat × Nat} (hk : W.heap[g]? = some (.cells cs t fr)) (ht : t ≠ 79) (hu : Upd (fun k => k = g) W W') : BookL W' b r q L := by
  have hn := h.not hk ht; exact h.upd hu (fun e => hn (.inl e.symm)) (fun e => hn (.inr (.inl e.symm))) (fun e => hn (.inr (.inr e.symm)))
end
theorem ink_Of_L {w : World} {b r q : Nat} {L : List Bytes} (h : BookL w b r q L) {A : Option Addr} {R : Bytes} (c : Nat) (hR : Byt w A R) (hl : R.length ≤ 65536) (hcap : R.length ≤ c) :
    Calls Tryz.prog 46 #[.pointer (some ⟨b, 0, none⟩), .slice A R.length c] w fun e W => e = .returned (.tuple #[.agg (dA (shaM R)), .int .i64 0]) ∧ BookL W b r q (noteM L R) ∧ Upd (Book3 b r q) w W := by
  obtain ⟨I, M, n, h⟩ := h; refine (ink_Of h c hR hl hcap).mono ?_; rintro e W ⟨rfl, I', M', n', h', hu⟩; exact ⟨rfl, ⟨I', M', n', h'⟩, hu⟩
theorem dig_end {W : World} {g : Nat} (D : Dig) (h : Blk W g 23 (encB dig0.1)) : rowB W g 32 = true ∧ segB (W.setRow g (dA D)) ⟨g, 0, none⟩ 32 = true ∧ segV (W.setRow g (dA D)) ⟨g, 0, none⟩ 32 = dA D := by
  have h1 := (h.setRow (encB D.1)).seg 0 32 (encB D.1) (by rw [encB_length, D.2]) (fun j _ => by rw [Nat.zero_add]); exact ⟨rowB_of (show W.heap[g]? = some (.cells (encB dig0.1).toArray 23 (0, 0)) from h) (by simp [encB_length, dig0]), h1.1, h1.2⟩
set_option maxHeartbeats 1000000 in
set_option maxRecDepth 100000 in
theorem tree_Leaf {w : World} {b r q : Nat} {L : List Bytes} (h : BookL w b r q L) {A : Option Addr} {R : Bytes} (c : Nat) (hR : Byt w A R) (hl : R.length < 65536) :
    Calls Tryz.prog 24 #[.pointer (some ⟨b, 0, none⟩), .slice A R.length c] w fun e W => e = .returned (.tuple #[.agg (dA (leafM shaM R)), .int .i64 0]) ∧ BookL W b r q (noteM L (leafIn R)) ∧ Upd (Book3 b r q) w W := by
  have h1 := h.kept ((Upd.refl (fun _ => False) w).alloc (.cells (dA dig0) 23)); have hR1 := hR.kept ((Upd.refl (fun _ => False) w).alloc (.cells (dA dig0) 23)); have hr1 : Blk (w.alloc (.cells (dA dig0) 23)) w.heap.size 23 (encB dig0.1) := Blk.new w _ _; have hk1 : Kept w (w.alloc (.cells (dA dig0) 23)) := (Upd.refl _ w).alloc _; have hsz : (w.alloc (.cells (dA dig0) 23)).heap.size = w.heap.size + 1 := World.size_alloc _ _; generalize hW1 : w.alloc (.cells (dA dig0) 23) = w1 at *; obtain ⟨v0, w2, hbs, hB, hk2⟩ := run_bs1 0 w1
  change (sliceRow 42 1 #[(0, .int .u8 0)]).run Tryz.prog w1 = _ at hbs
  have HX := Lib.hid (And.intro h1 (And.intro hR1 (And.intro hr1 hk1))); have HB := Lib.hid (And.intro hB hk2); clear h h1 hR hR1 hr1 hk1 hB hk2; have hl' : decide ((65536 : Int) ≤ ((R.length : Nat) : Int)) = false := by rw [decide_eq_false_iff_not]; omega
  have HLE := Lib.hid hl; clear hl
  go_enter Tryz.func24, Tryz.ntmps24
  go_wp2_with (at_builtin; refine wpList_append_bytes rfl (.tmp 11) (.tmp 12) rfl rfl HB.out.1 A c rfl (HX.out.2.1.kept HB.out.2) (by have := HLE.out; simp only [List.length_singleton]; omega) HB.out.2.size ?_; intro v' w3 hown hu3); have hb1 : BookL w3 b r q L := by
    have h2 := HX.out.1.kept HB.out.2; have hlt := HX.out.1.lt; have hf := HB.out.1.far; exact h2.upd hu3 (fun e => by have := (hf _ e).1; have := hlt b (.inl rfl); omega) (fun e => by have := (hf _ e).1; have := hlt r (.inr (.inl rfl)); omega) (fun e => by have := (hf _ e).1; have := hlt q (.inr (.inr rfl)); omega)
  have hr3 : Blk w3 w.heap.size 23 (encB dig0.1) := (HX.out.2.2.1.kept HB.out.2).upd hu3 (fun e => by have := (HB.out.1.far _ e).1; have := HX.out.2.2.1.lt; omega); have hk3 : Kept w w3 := (HX.out.2.2.2.then HB.out.2 fun _ _ h => h).then hu3 (fun i hi e => by have := (HB.out.1.far _ e).1; have := HX.out.2.2.2.size; omega); obtain ⟨A3, c3, rfl, hc3, hb3⟩ := hown.form; have hlen : ((0 : UInt8) :: R).length ≤ 65536 := by have := HLE.out; rw [List.length_cons]; omega
  have HY := Lib.hid (And.intro hb1 (And.intro hr3 (And.intro hk3 (And.intro hc3 (And.intro hb3 hlen))))); clear hb1 hr3 hk3 hown hu3 hc3 hb3 hlen HX HB hbs hW1; refine (ink_Of_L (R := leafIn R) HY.out.1 c3 HY.out.2.2.2.2.1 HY.out.2.2.2.2.2 HY.out.2.2.2.1).mono ?_; rintro e w4 ⟨rfl, hb4, hu4⟩; have hr4 := HY.out.2.1.upd hu4 (HY.out.1.not HY.out.2.1 (by decide)); rw [show shaM (leafIn R) = leafM shaM R from rfl]; obtain ⟨hrb, hs1, hs2⟩ := dig_end (leafM shaM R) hr4; have HF : Hid (BookL (w4.setRow w.heap.size (dA (leafM shaM R))) b r q (noteM L (leafIn R)) ∧ Upd (Book3 b r q) w (w4.setRow w.heap.size (dA (leafM shaM R)))) :=
    ⟨hb4.far hr4 (by decide) ((Upd.refl _ _).setRow _ _ fun _ => rfl), (HY.out.2.2.1.to.trans hu4).setRow _ _ (fun h => absurd h (Nat.lt_irrefl _))⟩
  have HG := Lib.hid (And.intro hs1 hs2); clear hb4 hu4 hr4 hs1 hs2 HY; generalize hD : leafM shaM R = D at *; have HDD := Lib.hid hD; clear hD; go_wp2; refine bodyPost_ret (v := .tuple #[.agg (dA D), .int .i64 0]) ?_ rfl ⟨by rw [HDD.out], HF.out⟩; rw [results_seg2 (P := Tryz.prog) (fn := Tryz.f24) (p := 4) (t := 5) (ty := 23) rfl _ _ ⟨w.heap.size, 0, none⟩ 32 _ (.int .i64 0) rfl rfl Tryz.underlying23 rfl sizeOf23 HG.out.1, HG.out.2]
end Go.Proofs.YtepjbijhkkjbfaaGreat
namespace Go.Proofs.YtepjbijhkkjbfaaGreat
open Go.RowKit
def flatD (D : List Dig) : Bytes := D.flatMap fun d => d.1
def Digs (W : World) (A : Option Addr) (D : List Dig) : Prop := Byt W A (flatD D)
theorem flatD_length (D : List Dig) : (flatD D).length = D.length * 32 := by
  induction D with
  | nil => rfl
  | cons d D ih => rw [flatD, List.flatMap_cons, ← flatD, List.length_append, d.2, ih, List.length_cons]; omega
theorem flatD_get : ∀ (D : List Dig) (k j : Nat) (h : k < D.length), j < 32 → (flatD D)[k * 32 + j]? = (D[k].1)[j]?
  | d :: D, 0, j, _, hj => by
    rw [flatD, List.flatMap_cons, List.getElem?_append_left (by rw [d.2]; omega)]; simp
  | d :: D, k + 1, j, h, hj => by
    rw [flatD, List.flatMap_cons, ← flatD, List.getElem?_append_right (by rw [d.2]; omega), d.2, show (k + 1) * 32 + j - 32 = k * 32 + j by omega]; exact flatD_get D k j (by simpa using h) hj
theorem Digs.get {W : World} {A : Option Addr} {D : List Dig} (h : Digs W A D) {k : Nat} (hk : k < D.length) :
    ∃ b off, A = some ⟨b, off, none⟩ ∧ segB W ⟨b, off + k * 32, none⟩ 32 = true ∧ segV W ⟨b, off + k * 32, none⟩ 32 = dA D[k] := by
  rcases h with h0 | ⟨b, off, rfl, h⟩
  · have h1 := flatD_length D
    rw [h0] at h1; simp at h1; omega
  · have hc : ∀ j v, (dA D[k])[j]? = some v → W.cell? ((⟨b, off + k * 32, none⟩ : Addr).add j) = some v := fun j v hv => by
      have hj : j < 32 := by have := (Array.getElem?_eq_some_iff.1 hv).1; rwa [dA_size] at this
      rw [add_none, Nat.add_assoc]; refine h (k * 32 + j) v ?_; rw [encB, List.getElem?_map, flatD_get D k j hk hj]; simpa [dA, encB] using hv
    exact ⟨b, off, rfl, segB_of hc (dA_size _), segV_of hc (dA_size _)⟩
theorem Digs.kept {W W' : World} {A : Option Addr} {D : List Dig} (h : Digs W A D) (hu : Kept W W') : Digs W' A D := Byt.kept h hu
theorem flatD_snoc (D : List Dig) (k : Nat) (h : k < D.length) : flatD (D.take (k + 1)) = flatD (D.take k) ++ D[k].1 := by
  rw [List.take_succ_eq_append_getElem h, flatD, List.flatMap_append]; simp [flatD]
theorem dig_len : Tryz.prog.arrayLen 23 = 32 := by kernel_rfl
theorem dig_elem : Tryz.prog.elem 23 = 5 := by kernel_rfl
theorem slice_dig_all (W : World) (g : Nat) :
    (Instr.sliceAt 23 (.pointer (some ⟨g, 0, none⟩)) none none none).run Tryz.prog W = .ok (.slice (some ⟨g, 0, none⟩) 32 32) W := by
  have := run_sliceAt_array_all (P := Tryz.prog) W 23 ⟨g, 0, none⟩ (by rw [dig_len, dig_elem]; exact Tryz.underlying23); rw [this, dig_elem, u8_sizeOf, dig_len]; simp [Result.andThen, slicedAt, add_none]
set_option maxHeartbeats 2000000 in
set_option maxRecDepth 20000 in
theorem tree_Up {w : World} {b r q : Nat} {L : List Bytes} (h : BookL w b r q L) {A : Option Addr} {D : List Dig} (c : Nat) (hD : Digs w A D) (h1 : 1 ≤ D.length) (h4 : D.length ≤ 4) :
    Calls Tryz.prog 57 #[.pointer (some ⟨b, 0, none⟩), .slice A D.length c] w fun e W => e = .returned (.tuple #[.agg (dA (upM shaM D)), .int .i64 0]) ∧ BookL W b r q (noteM L (upIn D)) ∧ Upd (Book3 b r q) w W := by
  have hb1 := h.kept ((Upd.refl (fun _ => False) w).alloc (.cells (dA dig0) 23)); have hD1 := hD.kept ((Upd.refl (fun _ => False) w).alloc (.cells (dA dig0) 23)); have hr1 : Blk (w.alloc (.cells (dA dig0) 23)) w.heap.size 23 (encB dig0.1) := Blk.new w _ _; have hk1 : Kept w (w.alloc (.cells (dA dig0) 23)) := (Upd.refl _ w).alloc _; generalize hW1 : w.alloc (.cells (dA dig0) 23) = w1 at *; obtain ⟨v0, w2, hbs, hB, hk2⟩ := run_bs1 1 w1
  change (sliceRow 42 1 #[(0, .int .u8 1)]).run Tryz.prog w1 = _ at hbs
  have HX := Lib.hid (And.intro hb1 (And.intro hD1 (And.intro hr1 (And.intro hk1 (And.intro hB hk2))))); have HL := Lib.hid (And.intro h1 h4); have hd1 : decide ((D.length : Int) < 1) = false := by rw [decide_eq_false_iff_not]; omega
  have hd4 : decide ((4 : Int) < (D.length : Int)) = false := by rw [decide_eq_false_iff_not]; omega
  clear h hb1 hD hD1 hr1 hk1 hB hk2 h1 h4
  go_enter Tryz.func57, Tryz.ntmps57
  go_wp2_with fail
  go_loopw [21, 6] (fun i v wr => ∃ k : Nat, k ≤ D.length ∧ i = .int .i64 k ∧ OwnB wr w1.heap.size v (1 :: flatD (D.take k)) ∧ Kept w1 wr) (fun i _ _ => D.length - (intOf i).toNat)
  case atStart => exact ⟨0, Nat.zero_le _, rfl, HX.out.2.2.2.2.1, HX.out.2.2.2.2.2⟩
  case round =>
    obtain ⟨k, hk, rfl, hown, hu⟩ := hrel; rcases Nat.lt_or_ge k D.length with hlt | hge
    · obtain ⟨bd, off, rfl, s1, s2⟩ := (HX.out.2.1.kept hu).get hlt
      have hk' : (k : Int) < (D.length : Int) := by omega
      have hk5 : (k : Int) < 4 := by have := HL.out.2; omega
      have HS : Hid (1 :: flatD (D.take (k + 1)) = (1 :: flatD (D.take k)) ++ D[k].1) := by show _ = _; rw [flatD_snoc D k hlt]; rfl
      have HLN : Hid ((1 :: flatD (D.take k) : Bytes).length ≤ 200) := by
        show _ ≤ _; rw [List.length_cons, flatD_length, List.length_take]; have := HL.out.2; omega
      obtain ⟨d, hd⟩ : ∃ d, d = D[k] := ⟨_, rfl⟩; rw [← hd] at s2 HS; clear hd; have hown2 := hown.kept ((Upd.refl (fun _ => False) wr).alloc (.cells (dA d) 23)); have hu2 : Kept w1 (wr.alloc (.cells (dA d) 23)) := hu.alloc _; have hblk : Blk (wr.alloc (.cells (dA d) 23)) wr.heap.size 23 (encB d.1) := Blk.new wr _ _; have hsl : ∀ W, (Instr.sliceAt 23 (.pointer (some ⟨wr.heap.size, 0, none⟩)) none none none).run Tryz.prog W = .ok (.slice (some ⟨wr.heap.size, 0, none⟩) 32 32) W := fun W => slice_dig_all W _; have hbyt : Byt (wr.alloc (.cells (dA d) 23)) (some ⟨wr.heap.size, 0, none⟩) d.1 := .inr ⟨_, _, rfl, hblk.range 0 (fun j _ => by rw [Nat.zero_add])⟩; generalize hWA : wr.alloc (.cells (dA d) 23) = wa at *; have HR := Lib.hid (And.intro hown2 (And.intro hu2 hbyt)); clear hown hu hown2 hu2 hblk hbyt; generalize flatD (D.take k) = F at *; go_wp2_with (at_builtin; refine wpList_append_bytes (R := d.1) rfl (.tmp 25) (.tmp 26) rfl rfl HR.out.1 (some ⟨wr.heap.size, 0, none⟩) 32 (by rw [d.2]; rfl) HR.out.2.2 (by have := HLN.out; rw [d.2]; omega) HR.out.2.1.size ?_; intro v' w3 hown hu3)
      go_roundw
      case rel =>
        refine ⟨k + 1, by omega, by go_num, by rw [HS.out]; exact hown, HR.out.2.1.then hu3 fun i hi e => ?_⟩; have := (HR.out.1.far _ e).1; omega
      case measure => simp [intOf]; omega
    · obtain rfl : k = D.length := by omega
      rw [List.take_length] at hown; have hlt := HX.out.1.lt; obtain ⟨A3, c3, rfl, hc3, hb3⟩ := hown.form; have hlen : (1 :: flatD D : Bytes).length ≤ 65536 := by rw [List.length_cons, flatD_length]; have := HL.out.2; omega
      have HY := Lib.hid (And.intro (HX.out.1.kept hu) (And.intro (HX.out.2.2.1.kept hu) (And.intro (show Kept w wr from HX.out.2.2.2.1.then hu fun _ _ h => h) (And.intro hc3 (And.intro hb3 hlen))))); clear hown hu hc3 hb3 hlen hbs hW1 hlt HX; go_wp2_with fail; refine (ink_Of_L (R := upIn D) HY.out.1 c3 HY.out.2.2.2.2.1 HY.out.2.2.2.2.2 HY.out.2.2.2.1).mono ?_; rintro e w4 ⟨rfl, hb4, hu4⟩; have hr4 := HY.out.2.1.upd hu4 (HY.out.1.not HY.out.2.1 (by decide)); rw [show shaM (upIn D) = upM shaM D from rfl]; obtain ⟨hrb, hs1, hs2⟩ := dig_end (upM shaM D) hr4; have HF : Hid (BookL (w4.setRow w.heap.size (dA (upM shaM D))) b r q (noteM L (upIn D)) ∧ Upd (Book3 b r q) w (w4.setRow w.heap.size (dA (upM shaM D)))) :=
        ⟨hb4.far hr4 (by decide) ((Upd.refl _ _).setRow _ _ fun _ => rfl), (HY.out.2.2.1.to.trans hu4).setRow _ _ (fun h => absurd h (Nat.lt_irrefl _))⟩
      have HG := Lib.hid (And.intro hs1 hs2); clear hb4 hu4 hr4 hs1 hs2 HY; generalize hX : upM shaM D = X at *; have HDD := Lib.hid hX; clear hX; go_wp2; refine bodyPost_ret (v := .tuple #[.agg (dA X), .int .i64 0]) ?_ rfl ⟨by rw [HDD.out], HF.out⟩; rw [results_seg2 (P := Tryz.prog) (fn := Tryz.f57) (p := 4) (t := 5) (ty := 23) rfl _ _ ⟨w.heap.size, 0, none⟩ 32 _ (.int .i64 0) rfl rfl Tryz.underlying23 rfl sizeOf23 HG.out.1, HG.out.2]
end Go.Proofs.YtepjbijhkkjbfaaGreat
namespace Go.Proofs.YtepjbijhkkjbfaaGreat
open Go.RowKit
set_option maxHeartbeats 1000000 in
set_option maxRecDepth 20000 in
theorem tree_Up_no {w : World} {p A : Option Addr} {n : Nat} (c : Nat) (hn : n < 1 ∨ 4 < n) :
    Calls Tryz.prog 57 #[.pointer p, .slice A n c] w fun e W => e = .returned (.tuple #[.agg (dA dig0), .int .i64 2]) ∧ Kept w W := by
  have hr1 : Blk (w.alloc (.cells (dA dig0) 23)) w.heap.size 23 (encB dig0.1) := Blk.new w _ _; have hk1 : Kept w (w.alloc (.cells (dA dig0) 23)) := (Upd.refl _ w).alloc _; generalize hW1 : w.alloc (.cells (dA dig0) 23) = w1 at *; obtain ⟨hrb, hs1, hs2⟩ := dig_end dig0 hr1; have HF : Hid (Kept w (w1.setRow w.heap.size (dA dig0)) ∧ segB (w1.setRow w.heap.size (dA dig0)) ⟨w.heap.size, 0, none⟩ 32 = true ∧ segV (w1.setRow w.heap.size (dA dig0)) ⟨w.heap.size, 0, none⟩ 32 = dA dig0) := ⟨Upd.setRow hk1 _ _ (fun h => absurd h (Nat.lt_irrefl _)), hs1, hs2⟩; clear hr1 hk1 hs1 hs2; rcases hn with hn | hn
  · have hd1 : decide ((n : Int) < 1) = true := by rw [decide_eq_true_iff]; omega
    clear hn
    go_enter Tryz.func57, Tryz.ntmps57
    go_wp2; refine bodyPost_ret (v := .tuple #[.agg (dA dig0), .int .i64 2]) ?_ rfl ⟨rfl, HF.out.1⟩; rw [results_seg2 (P := Tryz.prog) (fn := Tryz.f57) (p := 4) (t := 5) (ty := 23) rfl _ _ ⟨w.heap.size, 0, none⟩ 32 _ (.int .i64 2) rfl rfl Tryz.underlying23 rfl sizeOf23 HF.out.2.1, HF.out.2.2]
  · have hd1 : decide ((n : Int) < 1) = false := by rw [decide_eq_false_iff_not]; omega
    have hd2 : decide ((4 : Int) < (n : Int)) = true := by rw [decide_eq_true_iff]; omega
    clear hn
    go_enter Tryz.func57, Tryz.ntmps57
    go_wp2; refine bodyPost_ret (v := .tuple #[.agg (dA dig0), .int .i64 2]) ?_ rfl ⟨rfl, HF.out.1⟩; rw [results_seg2 (P := Tryz.prog) (fn := Tryz.f57) (p := 4) (t := 5) (ty := 23) rfl _ _ ⟨w.heap.size, 0, none⟩ 32 _ (.int .i64 2) rfl rfl Tryz.underlying23 rfl sizeOf23 HF.out.2.1, HF.out.2.2]
theorem ds_elem : Tryz.prog.elem 45 = 23 := by kernel_rfl
theorem dig_sizeOf (W : World) : (sizeOf 23).run Tryz.prog W = .ok 32 W := by
  obtain ⟨i, hi, h2⟩ := Option.map_eq_some_iff.1 sizeOf23; simp [sizeOf, typeInfo, hi, h2]
theorem slice_digs_lh (W : World) (A : Option Addr) (len cap l h : Nat) (Li Hi : Int) (hL : Li = l) (hH : Hi = h) (h1 : l ≤ h) (h2 : h ≤ cap) (h3 : l < cap) :
    (Instr.sliceAt 45 (.slice A len cap) (some (.int .i64 Li)) (some (.int .i64 Hi)) none).run Tryz.prog W = .ok (.slice (A.map (·.add (l * 32))) (h - l) (cap - l)) W := by
  subst hL hH; have ht : Tryz.prog.underlying 45 = some (.slice (Tryz.prog.elem 45)) := by rw [ds_elem]; exact Tryz.underlying45
  have := run_slice_lh (P := Tryz.prog) (w := W) 45 A len cap ht .i64 .i64 (l : Int) (h : Int) (by omega) (by omega) (by omega); rw [run_sliceAt_slice (h := ht), this, ds_elem, dig_sizeOf]; simp only [Result.andThen, sliced, Int.toNat_natCast]; rw [if_neg (by omega)]
theorem flatD_drop (D : List Dig) (k : Nat) : flatD (D.drop k) = (flatD D).drop (k * 32) := by
  induction k generalizing D with
  | zero => simp
  | succ k ih =>
    cases D with
    | nil => simp [flatD]
    | cons d D =>
      rw [List.drop_succ_cons, ih, show flatD (d :: D) = d.1 ++ flatD D by simp [flatD]]; apply List.ext_getElem?; intro j; rw [List.getElem?_drop, List.getElem?_drop, List.getElem?_append_right (by rw [d.2]; omega), d.2]
      congr 1; omega
theorem flatD_take (D : List Dig) (k : Nat) : flatD (D.take k) = (flatD D).take (k * 32) := by
  induction k generalizing D with
  | zero => simp [flatD]
  | succ k ih =>
    cases D with
    | nil => simp [flatD]
    | cons d D =>
      have h1 : List.take ((k + 1) * 32) d.1 = d.1 := List.take_of_length_le (by rw [d.2]; omega); rw [List.take_succ_cons, show flatD (d :: D.take k) = d.1 ++ flatD (D.take k) by simp [flatD], ih, show flatD (d :: D) = d.1 ++ flatD D by simp [flatD], List.take_append, h1, d.2]
      congr 2; omega
theorem Digs.part {W : World} {A : Option Addr} {D : List Dig} (h : Digs W A D) (k n : Nat) : Digs W (A.map (·.add (k * 32))) ((D.drop k).take n) := by
  rcases h with h0 | ⟨b, off, rfl, h⟩
  · left
    rw [flatD_take, flatD_drop, h0]; simp
  · refine .inr ⟨b, off + k * 32, by rw [Option.map_some, add_none], fun j v hv => ?_⟩
    rw [Nat.add_assoc]; refine h _ v ?_; rw [flatD_take, flatD_drop, encB_take, encB_drop] at hv; have hj := (List.getElem?_eq_some_iff.1 hv).1; rw [List.getElem?_take_of_lt (by rw [List.length_take] at hj; omega), List.getElem?_drop] at hv; exact hv
set_option maxRecDepth 20000 in
theorem tree_group {w : World} {A : Option Addr} {D : List Dig} (c i : Nat) (hc : D.length ≤ c) (hi : 4 * i < D.length) (hl : D.length ≤ 100000) :
    Calls Tryz.prog 65 #[.slice A D.length c, .int .i64 i] w fun e W => e = .returned (.slice (A.map (·.add ((4 * i) * 32))) (group D i).length (c - 4 * i)) ∧ w = W := by
  have hg : (group D i).length = min (4 * i + 4) D.length - 4 * i := by rw [group_length]; omega
  rw [hg]; rcases Nat.lt_or_ge D.length (4 * i + 4) with h1 | h1
  rotate_left
  · have hsl : ∀ W, (Instr.sliceAt 45 (.slice A D.length c) (some (.int .i64 (4 * (i : Int)))) (some (.int .i64 (4 * (i : Int) + 4))) none).run Tryz.prog W = .ok (.slice (A.map (·.add ((4 * i) * 32))) (min (4 * i + 4) D.length - 4 * i) (c - 4 * i)) W := fun W => by
      have := slice_digs_lh W A D.length c (4 * i) (4 * i + 4) (4 * (i : Int)) (4 * (i : Int) + 4) (by omega) (by omega) (by omega) (by omega) (by omega)
      rwa [show min (4 * i + 4) D.length = 4 * i + 4 by omega]
    have h1' : 4 * (i : Int) + 4 ≤ (D.length : Int) := by omega
    have h2' : (D.length : Int) ≤ 100000 := by omega
    generalize D.length = n at *; generalize A.map (·.add ((4 * i) * 32)) = A' at *; generalize min (4 * i + 4) n - 4 * i = m at *; clear hg hc hi hl h1
    go_enter Tryz.func65, Tryz.ntmps65
    go_wp2
    go_ret
    exact ⟨rfl, rfl⟩
  · rw [show min (4 * i + 4) D.length = D.length by omega]
    have hsl : ∀ W, (Instr.sliceAt 45 (.slice A D.length c) (some (.int .i64 (4 * (i : Int)))) (some (.int .i64 (D.length : Int))) none).run Tryz.prog W = .ok (.slice (A.map (·.add ((4 * i) * 32))) (D.length - 4 * i) (c - 4 * i)) W := fun W =>
      slice_digs_lh W A D.length c (4 * i) D.length (4 * (i : Int)) (D.length : Int) (by omega) (by omega) (by omega) (by omega) (by omega)
    have h1' : (D.length : Int) < 4 * (i : Int) + 4 := by omega
    have h2' : (D.length : Int) ≤ 100000 := by omega
    have h3' : 4 * (i : Int) < (D.length : Int) := by omega
    generalize D.length = n at *; clear hg hc hi hl h1
    go_enter Tryz.func65, Tryz.ntmps65
    go_wp2
    go_ret
    exact ⟨rfl, rfl⟩
theorem dig_rows : RowType Tryz.prog dA 32 45 23 32 where
  size := dA_size
  one := dA_one
  slice := Tryz.underlying45
  info := ⟨.agg (dA dig0), by kernel_rfl, by simp [Value.cells]⟩
  pos := by omega
@[go_sem ↓] theorem exec_one_dig (ρ : Operand → Value) (dst : Option Tmp) (parts : Array (Nat × Operand)) (ty : TypeId) (pos : String) (after : Array Edge) (guard : Option (Nat × Bool)) :
    execOp ρ ⟨dst, .buildSlice 45 1 parts, ty, pos, after, guard⟩ = sliceRow 45 1 (parts.map fun (i, x) => (i, ρ x)) := rfl
@[go_sem] theorem run_one_dig (d : Dig) (W : World) : (sliceRow 45 1 #[(0, .agg (dA d))]).run Tryz.prog W = .ok (.value (.slice (some ⟨W.heap.size, 0, none⟩) 1 1)) (W.alloc (.cells (dA d) 23)) :=
  run_sliceRow _ 23 32 (.agg (dA dig0)) _ Tryz.underlying45 (by kernel_rfl) (by omega) (by omega) (by simp [Value.cells]) (dA_size d) W
theorem rowsOf_dA (D : List Dig) : rowsOf dA D = encB (flatD D) := by
  induction D with
  | nil => rfl
  | cons d D ih =>
    rw [rowsOf_cons, ih, show flatD (d :: D) = d.1 ++ flatD D by simp [flatD], encB_append]
    rfl
abbrev OwnD (W : World) (B : Nat) (v : Value) (D : List Dig) : Prop := OwnRows dA 32 W B 23 v D
theorem OwnD.digs {W : World} {B : Nat} {v : Value} {D : List Dig} (h : OwnD W B v D) : ∃ A c, v = .slice A D.length c ∧ D.length ≤ c ∧ Digs W A D := by
  rcases h.2 with ⟨rfl, h0⟩ | ⟨g, cap, cur, rfl, hb, hg, h1, h2, h3, h4⟩
  · have hR : D = [] := List.eq_nil_of_length_eq_zero h0
    subst hR; exact ⟨_, _, rfl, by simp, .inl rfl⟩
  · refine ⟨_, _, rfl, by omega, .inr ⟨g, 0, rfl, fun j u hu => ?_⟩⟩
    rw [cell_of_row W g _ _ _ _ hg, Nat.zero_add]; rw [rowsOf_dA] at h4; have hj : j < (encB (flatD D)).length := (List.getElem?_eq_some_iff.1 hu).1; have : cur[j]? = (cur.toList.take (D.length * 32))[j]? := by rw [List.getElem?_take_of_lt (by rw [encB_length, flatD_length] at hj; omega)]; simp
    rw [this, h4, hu]
def aboveIn (D : List Dig) (k : Nat) : List Bytes := (List.range k).map fun i => upIn (group D i)
theorem aboveIn_succ (L : List Bytes) (D : List Dig) (k : Nat) : notesM L (aboveIn D (k + 1)) = noteM (notesM L (aboveIn D k)) (upIn (group D k)) := by
  rw [aboveIn, List.range_succ, List.map_append, notesM_append]; rfl
theorem above_take (D : List Dig) (k : Nat) (h : k < up4 D.length) : (aboveM shaM D).take (k + 1) = (aboveM shaM D).take k ++ [upM shaM (group D k)] := by
  rw [List.take_succ_eq_append_getElem (by simpa using h), aboveM_get]
set_option maxHeartbeats 2000000 in
set_option maxRecDepth 20000 in
theorem tree_above {w : World} {b r q : Nat} {L : List Bytes} (h : BookL w b r q L) {A : Option Addr} {D : List Dig} (c : Nat) (hD : Digs w A D) (hc : D.length ≤ c) (hl : D.length ≤ 1024) :
    Calls Tryz.prog 73 #[.pointer (some ⟨b, 0, none⟩), .slice A D.length c] w fun e W => ∃ v, e = .returned v ∧ OwnD W w.heap.size v (aboveM shaM D) ∧ BookL W b r q (notesM L (aboveIn D (up4 D.length))) ∧ Upd (Book3 b r q) w W := by
  have HX := Lib.hid (And.intro h (And.intro hD (And.intro hc hl))); clear h hD hc hl
  go_enter Tryz.func73, Tryz.ntmps73
  go_wp2_with fail
  go_loopw [6, 5] (fun i v wr => ∃ k : Nat, k ≤ up4 D.length ∧ i = .int .i64 (4 * k : Nat) ∧ OwnD wr w.heap.size v ((aboveM shaM D).take k) ∧ BookL wr b r q (notesM L (aboveIn D k)) ∧ Upd (Book3 b r q) w wr) (fun i _ _ => 2000 - (intOf i).toNat)
  case atStart => exact ⟨0, Nat.zero_le _, rfl, OwnRows.nil _ _ _, HX.out.1, Upd.refl _ _⟩
  case round =>
    obtain ⟨k, hk, rfl, hown, hb, hu⟩ := hrel; rcases Nat.lt_or_ge (4 * k) D.length with hlt | hge
    · have hk' : ((4 * k : Nat) : Int) < (D.length : Int) := by omega
      have hk5 : ((4 * k : Nat) : Int) < 1024 := by have := HX.out.2.2.2; omega
      have hq : ((4 * k : Nat) : Int) / 4 = (k : Int) := by omega
      have hku : k < up4 D.length := by unfold up4; omega
      have HD := Lib.hid (HX.out.1.byt HX.out.2.1 hu); have HR := Lib.hid (And.intro hown (And.intro hb hu)); clear hown hb hu; obtain ⟨m, hm⟩ : ∃ m, m = 4 * k := ⟨_, rfl⟩; rw [← hm] at hk' hk5 hq ⊢; have HMM := Lib.hid hm; clear hm; go_wp2_with fail; refine (tree_group c k HX.out.2.2.1 (by have := HMM.out; omega) (by have := HX.out.2.2.2; omega)).mono ?_; rintro e w' ⟨rfl, rfl⟩; go_wp2_with fail; have hgl : 1 ≤ (group D k).length ∧ (group D k).length ≤ 4 := by rw [group_length]; have := HMM.out; omega
      have hgd : Digs wr (A.map (·.add ((4 * k) * 32))) (group D k) := Digs.part HD.out (4 * k) 4; refine (tree_Up HR.out.2.1 (c - 4 * k) hgd hgl.1 hgl.2).mono ?_; rintro e w2 ⟨rfl, hb2, hu2⟩; have hown2 := OwnRows.upd HR.out.1 hu2 (fun i hi e => by
        have h1 := World.ownsRow.lt HR.out.1 i hi; have := HX.out.1.lt i e; omega)
      have hu3 := HR.out.2.2.trans hu2; have hsz : w.heap.size ≤ w2.heap.size := hu3.size; obtain ⟨X, hX⟩ : ∃ X, X = upM shaM (group D k) := ⟨_, rfl⟩; rw [← hX]; have HT : Hid ((aboveM shaM D).take (k + 1) = (aboveM shaM D).take k ++ [X] ∧ notesM L (aboveIn D (k + 1)) = noteM (notesM L (aboveIn D k)) (upIn (group D k))) := ⟨by rw [above_take D k hku, hX], aboveIn_succ L D k⟩; clear hX hu2; have hown3 := hown2.alloc (.cells (dA X) 23); have hb3 := hb2.kept ((Upd.refl _ w2).alloc (.cells (dA X) 23)); have hu4 := hu3.alloc (.cells (dA X) 23); have hs3 : segB (w2.alloc (.cells (dA X) 23)) ⟨w2.heap.size, 0, none⟩ 32 = true := segB_new _ _ _ _ _ rfl (dA_size X); have hs4 : segV (w2.alloc (.cells (dA X) 23)) ⟨w2.heap.size, 0, none⟩ 32 = dA X := segV_new _ _ _ _ _ rfl (dA_size X); have hsz3 : w.heap.size ≤ (w2.alloc (.cells (dA X) 23)).heap.size := by rw [World.size_alloc]; omega
      clear hown2 hb2 hu3 hsz; generalize hWA : w2.alloc (.cells (dA X) 23) = wa at *; have hown4 := hown3.alloc (.cells (dA X) 23); have hb4 := hb3.kept ((Upd.refl _ wa).alloc (.cells (dA X) 23)); have hu5 := hu4.alloc (.cells (dA X) 23); have hg4 := heap_alloc_new wa (.cells (dA X) 23); have hsz4 : w.heap.size ≤ (wa.alloc (.cells (dA X) 23)).heap.size := by rw [World.size_alloc]; omega
      clear hown3 hb3 hu4 hsz3; generalize hWB : wa.alloc (.cells (dA X) 23) = wb at *; have HQ := Lib.hid (And.intro hown4 (And.intro hb4 (And.intro hu5 (And.intro hg4 hsz4)))); have HLN : Hid (((aboveM shaM D).take k).length ≤ 1024) := by
        show _ ≤ _; rw [List.length_take, aboveM_length]; have h1 := HX.out.2.2.2; unfold up4; omega
      clear hown4 hb4 hu5 hg4 hsz4; go_wp2_with (at_builtin; refine wpList_append_rows dig_rows rfl (.tmp 24) (.tmp 26) rfl rfl HQ.out.1 X wa.heap.size 1 _ _ rfl HQ.out.2.2.2.1 (by have := HLN.out; unfold maxLen; omega) (by have := HLN.out; omega) HQ.out.2.2.2.2 ?_; intro v' w3 hown' hu' hnew)
      go_roundw
      case rel =>
        refine ⟨k + 1, by omega, ?_, by rw [HT.out.1]; exact hown', ?_, HQ.out.2.2.1.then hu' fun i hi e => ?_⟩
        · show _ = _
          rw [HMM.out]; go_num
        · rw [HT.out.2]
          have hf := World.ownsRow.lt HQ.out.1; have hlt := HX.out.1.lt; exact HQ.out.2.1.upd hu' (fun e => by have := (hf _ e).1; have := hlt b (.inl rfl); omega) (fun e => by have := (hf _ e).1; have := hlt r (.inr (.inl rfl)); omega) (fun e => by have := (hf _ e).1; have := hlt q (.inr (.inr rfl)); omega)
        · have := (World.ownsRow.lt HQ.out.1 _ e).1
          omega
      case measure => have h1 := HMM.out; simp [intOf]; omega
    · have hku : k = up4 D.length := by unfold up4 at *; omega
      have hk' : ¬ ((4 * k : Nat) : Int) < (D.length : Int) := by omega
      have HR := Lib.hid (And.intro hown (And.intro hb hu)); have HK := Lib.hid hku; clear hown hb hu hku; generalize 4 * k = m at *; go_wp2
      go_ret
      refine ⟨_, rfl, ?_, ?_, HR.out.2.2⟩
      · have h1 := HR.out.1
        rw [HK.out, ← aboveM_length (H := shaM) D, List.take_length] at h1; exact h1
      · have h1 := HR.out.2.1
        rw [HK.out] at h1; exact h1
end Go.Proofs.YtepjbijhkkjbfaaGreat
