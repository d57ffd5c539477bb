/- The texts of this hand-in, merged: FetM FetA FetB FetC FetD FetE FetF FetG. -/
import Derived.Test.YtnncpjekcljfbaaSetG
import Derived.RangeFuncNested
import Derived.RangeFuncBound
import Derived.RangeFuncCalls
import Derived.RangeFuncLeaves
import Derived.Shelf.Abstract
import Derived.Shelf.RegionOpen
import Derived.WalkKit
import Derived.OwnWalkIn
import Derived.TacticsInMore
import Derived.LoopNIn
import Derived.LoopIn
/- A fetch, as functions: sizes of levels; what is known; learn, lacks, what is asked next. No program is named. -/
namespace Go.Proofs.Ytnncpjekcljfbaa
open Go.RowKit

/-- how many places a level has -/
def sizeL (n : Nat) : Nat → Nat
  | 0 => n
  | l + 1 => up4 (sizeL n l)
theorem sizeL_up (n l : Nat) : sizeL (up4 n) l = sizeL n (l + 1) := by
  induction l with
  | zero => rfl
  | succ l ih => show up4 _ = up4 _; rw [ih]
theorem sizeL_pos {n : Nat} (h : 1 ≤ n) (l : Nat) : 1 ≤ sizeL n l := by
  induction l with
  | zero => exact h
  | succ l ih => exact up4_pos' ih
theorem sizeL_le {n : Nat} (h : 1 ≤ n) (l : Nat) : sizeL n l ≤ n := by
  induction l with
  | zero => exact Nat.le_refl _
  | succ l ih => show up4 _ ≤ n; have := sizeL_pos h l; unfold up4; omega
def sizesM (n : Nat) : List Nat := (List.range (depthM n)).map (sizeL n)
theorem sizesM_length (n : Nat) : (sizesM n).length = depthM n := by simp [sizesM]
theorem sizesM_get {n i : Nat} (h : i < (sizesM n).length) : (sizesM n)[i] = sizeL n i := by simp [sizesM]

/-- the digests that are known, the leaves that are there -/
abbrev KM : Type := Nat → Nat → Option Dig
abbrev BM : Type := Nat → Option Bytes
def putK (K : KM) (l p : Nat) (d : Dig) : KM := fun l' p' => if l' = l ∧ p' = p then some d else K l' p'
def putM (M : BM) (p : Nat) (R : Bytes) : BM := fun p' => if p' = p then some R else M p'

/-- a digest of what there is already -/
def oldAt (hs : List Bytes) (l p : Nat) : Dig := ((levelsM shaM (hs.map (leafM shaM))).getD l []).getD p dig0

/-- how many children a place has -/
def kidsM (n l p : Nat) : Nat := min 4 (sizeL n l - 4 * p)
/-- a digest is learnt, and what there is already of it -/
def learnM (n : Nat) (O : Option (List Bytes)) : Nat → Nat → Dig → KM × BM → KM × BM
  | l, p, d, s =>
    match O with
    | none => (putK s.1 l p d, s.2)
    | some hs =>
      if oldAt hs l p = d then
        match l with
        | 0 => (putK s.1 0 p d, putM s.2 p (hs.getD p []))
        | l + 1 => (List.range (kidsM n l p)).foldl (fun s j => learnM n (some hs) l (4 * p + j) (oldAt hs l (4 * p + j)) s) (putK s.1 (l + 1) p d, s.2)
      else (putK s.1 l p d, s.2)
theorem learnM_none (n l p : Nat) (d : Dig) (s : KM × BM) : learnM n none l p d s = (putK s.1 l p d, s.2) := by
  cases l <;> rfl
theorem learnM_ne {n : Nat} {hs : List Bytes} {l p : Nat} {d : Dig} (h : oldAt hs l p ≠ d) (s : KM × BM) : learnM n (some hs) l p d s = (putK s.1 l p d, s.2) := by
  cases l <;> simp [learnM, h]
theorem learnM_leaf {n : Nat} {hs : List Bytes} {p : Nat} {d : Dig} (h : oldAt hs 0 p = d) (s : KM × BM) : learnM n (some hs) 0 p d s = (putK s.1 0 p d, putM s.2 p (hs.getD p [])) := by
  simp [learnM, h]
/-- what is learnt of the children ahead of the k-th one -/
def kidsFold (n : Nat) (hs : List Bytes) (l p k : Nat) (s : KM × BM) : KM × BM := (List.range k).foldl (fun s j => learnM n (some hs) l (4 * p + j) (oldAt hs l (4 * p + j)) s) s
theorem kidsFold_zero (n : Nat) (hs : List Bytes) (l p : Nat) (s : KM × BM) : kidsFold n hs l p 0 s = s := rfl
theorem kidsFold_succ (n : Nat) (hs : List Bytes) (l p k : Nat) (s : KM × BM) : kidsFold n hs l p (k + 1) s = learnM n (some hs) l (4 * p + k) (oldAt hs l (4 * p + k)) (kidsFold n hs l p k s) := by
  simp [kidsFold, List.range_succ]
theorem learnM_node {n : Nat} {hs : List Bytes} {l p : Nat} {d : Dig} (h : oldAt hs (l + 1) p = d) (s : KM × BM) : learnM n (some hs) (l + 1) p d s = kidsFold n hs l p (kidsM n l p) (putK s.1 (l + 1) p d, s.2) := by
  simp [learnM, h, kidsFold]

/-- does a place lack something? -/
def lacksM (s : KM × BM) : Nat → Nat → Bool
  | 0, p => (s.1 0 p).isSome && (s.2 p).isNone
  | l + 1, p => (s.1 (l + 1) p).isSome && (s.1 l (4 * p)).isNone
/-- the first place of a level that lacks something -/
def askL (n : Nat) (s : KM × BM) (l : Nat) : Option Nat := (List.range (sizeL n l)).find? (lacksM s l)
/-- the first place of the levels below one, from the top -/
def askD (n : Nat) (s : KM × BM) : Nat → Option (Nat × Nat)
  | 0 => none
  | l + 1 => match askL n s l with
    | some p => some (l, p)
    | none => askD n s l
def askM (n : Nat) (s : KM × BM) : Option (Nat × Nat) := askD n s (depthM n)
/-- the digests below a place are taken: of the first k of them -/
def partsK (n : Nat) (O : Option (List Bytes)) (l p : Nat) (D : List Dig) (k : Nat) (s : KM × BM) : KM × BM := (List.range k).foldl (fun s j => learnM n O l (4 * p + j) (D.getD j dig0) s) s
theorem partsK_zero (n : Nat) (O : Option (List Bytes)) (l p : Nat) (D : List Dig) (s : KM × BM) : partsK n O l p D 0 s = s := rfl
theorem partsK_succ (n : Nat) (O : Option (List Bytes)) (l p : Nat) (D : List Dig) (k : Nat) (s : KM × BM) : partsK n O l p D (k + 1) s = learnM n O l (4 * p + k) (D.getD k dig0) (partsK n O l p D k s) := by
  simp [partsK, List.range_succ]
end Go.Proofs.Ytnncpjekcljfbaa
/- A fetch in memory: keys, both maps, sizes, what there is already; what turns of books and maps leave. -/
namespace Go.Proofs.Ytnncpjekcljfbaa
open Go.RowKit
open Go.Maps (Keyed)

/-! ### keys -/
def spOk (x : Nat × Nat) : Prop := x.1 ≤ 100000 ∧ x.2 ≤ 100000
def spA (x : Nat × Nat) : Array Value := #[.int .i64 (x.1 : Int), .int .i64 (x.2 : Int)]
def encSp (x : Nat × Nat) : Value := .agg (spA x)
theorem small_wf {x : Nat} (h : x ≤ 100000) : (Lit.int .i64 (x : Int)).wf = true := by
  simp [Lit.wf, IntKind.min, IntKind.max, IntKind.signed, IntKind.bits]; omega
theorem sp_cells : Try.prog.cellsOf 154 = 2 := by kernel_rfl
theorem sp_keyType : Try.prog.keyType 154 = true := by kernel_rfl
theorem sp_key (x : Nat × Nat) (h : spOk x) : ∃ l, keyOf Try.prog 154 (encSp x) = some l := by
  have h1 := small_wf h.1
  have h2 := small_wf h.2
  obtain ⟨d, hd⟩ := types_size
  refine ⟨_, keyOf_wide (L := [.int .i64 (x.1 : Int), .int .i64 (x.2 : Int)]) (by rw [Try.underlying154]) sp_keyType ?_ ?_⟩
  · simp [encSp, spA, Value.formed, Try.underlying154, sp_cells]
  · rw [hd]
    have h5 : Try.prog.keyLits (d + 3) 3 [.int .i64 (x.1 : Int)] = some [.int .i64 (x.1 : Int)] := by unfold Program.keyLits; simp [Try.underlying3, h1]
    have h6 : Try.prog.keyLits (d + 3) 3 [.int .i64 (x.2 : Int)] = some [.int .i64 (x.2 : Int)] := by unfold Program.keyLits; simp [Try.underlying3, h2]
    have h8 : (encSp x).cells.toList = [.int .i64 (x.1 : Int), .int .i64 (x.2 : Int)] := by simp [encSp, spA, Value.cells]
    rw [h8]
    unfold Program.keyLits
    simp only [Try.underlying154]
    rw [if_pos (by simp [sp_cells])]
    simp [int_cells, h5, h6]
theorem sp_enc : KeyEnc Try.prog 154 spOk encSp where
  law := Keyed.of_law (deep_law_laid dig_laid (m := 4) (by omega) (of_decide_eq_true (by kernel_rfl)) (by kernel_rfl) (by rw [Try.underlying154]))
  key := sp_key
  inj := by
    rintro ⟨a, b⟩ ⟨a', b'⟩ _ _ h
    have h' := congrArg (fun v : Value => v.cells.toList) h
    simp only [encSp, spA, Value.cells, List.cons.injEq, Value.int.injEq, true_and, and_true] at h'
    ext <;> simp <;> omega
def inOk (x : Nat) : Prop := x ≤ 100000
def encN (x : Nat) : Value := .int .i64 (x : Int)
theorem in_enc : KeyEnc Try.prog 3 inOk encN where
  law := Maps.int_keyed Try.underlying3
  key := fun x hx => ⟨_, Maps.keyOf_int_mk Try.underlying3 (small_wf hx)⟩
  inj := by
    intro a b _ _ h
    simp only [encN, Value.int.injEq, true_and] at h
    omega

/-! ### both maps -/
def KAt (W : World) (m : Nat) (K : KM) : Prop := ∃ L, MapAt spOk encSp W m L ∧ ∀ l p, getL (l, p) L = (K l p).map encD
def MAt (W : World) (m : Nat) (M : BM) : Prop := ∃ L, MapAt inOk encN W m L ∧ ∀ p, match M p with
  | none => getL p L = none
  | some R => ∃ x : SlC, getL p L = some x.v ∧ LeafAt W x R ∧ R.length < 65536
theorem getL_putL {κ : Type} [DecidableEq κ] (k k' : κ) (v : Value) : ∀ L : List (κ × Value), getL k' (putL k v L) = if k' = k then some v else getL k' L
  | [] => by
    by_cases h : k' = k
    · simp [putL, getL, h]
    · have h2 : ¬ k = k' := fun e => h e.symm
      simp [putL, getL, h, h2]
  | (x, y) :: L => by
    have ih := getL_putL k k' v L
    simp only [putL]
    by_cases h : x = k
    · subst h
      by_cases h2 : k' = x
      · subst h2; simp [getL]
      · have h3 : ¬ x = k' := fun e => h2 e.symm
        simp [getL, h2, h3]
    · rw [if_neg h]
      simp only [getL, ih]
      by_cases h2 : x = k'
      · subst h2; rw [if_pos rfl, if_neg h, if_pos rfl]
      · rw [if_neg h2, if_neg h2]
section
variable {W W' : World} {S : Nat → Prop} {m : Nat} {K : KM} {M : BM}
theorem KAt.lt (h : KAt W m K) : m < W.heap.size := by obtain ⟨L, hm, _⟩ := h; exact hm.lt
theorem MAt.lt (h : MAt W m M) : m < W.heap.size := by obtain ⟨L, hm, _⟩ := h; exact hm.lt
theorem KAt.map (h : KAt W m K) : ∃ es c, W.heap[m]? = some (.map es c) := by obtain ⟨L, ⟨es, c, hm, _⟩, _⟩ := h; exact ⟨es, c, hm⟩
theorem MAt.map (h : MAt W m M) : ∃ es c, W.heap[m]? = some (.map es c) := by obtain ⟨L, ⟨es, c, hm, _⟩, _⟩ := h; exact ⟨es, c, hm⟩
theorem KAt.upd (h : KAt W m K) (hu : Upd S W W') (hs : ¬ S m) : KAt W' m K := by
  obtain ⟨L, hm, hg⟩ := h
  exact ⟨L, hm.kept (hu.block m hm.lt hs), hg⟩
theorem MAt.upd (h : MAt W m M) (hu : Upd S W W') (hs : ¬ S m) (hb : ∀ x R, LeafAt W x R → LeafAt W' x R) : MAt W' m M := by
  obtain ⟨L, hm, hg⟩ := h
  refine ⟨L, hm.kept (hu.block m hm.lt hs), fun p => ?_⟩
  have := hg p
  split
  · rename_i h0; rw [h0] at this; exact this
  · rename_i R h0; rw [h0] at this; obtain ⟨x, h1, h2, h3⟩ := this; exact ⟨x, h1, hb _ _ h2, h3⟩
theorem KAt.new (w : World) : KAt (w.alloc (.map #[] 0)) w.heap.size (fun _ _ => none) := ⟨[], MapAt.new w, fun _ _ => rfl⟩
theorem MAt.new (w : World) : MAt (w.alloc (.map #[] 0)) w.heap.size (fun _ => none) := ⟨[], MapAt.new w, fun _ => rfl⟩
theorem KAt.put (h : KAt W m K) (l p : Nat) (hk : spOk (l, p)) (d : Dig) : ∃ W', (Instr.mapUpdate 128 (.map (some m)) (.agg (spA (l, p))) (.agg (dA d))).run Try.prog W = .ok () W' ∧ KAt W' m (putK K l p d) ∧ Upd (fun k => k = m) W W' := by
  obtain ⟨L, hm, hg⟩ := h
  obtain ⟨W', hr, hm', hgr, _⟩ := run_update_at sp_enc Try.underlying128 hm (x := (l, p)) hk (.agg (dA d))
  refine ⟨W', hr, ⟨_, hm', fun l' p' => ?_⟩, (Upd.of_grown hgr).mono fun k _ e => by cases e; rfl⟩
  rw [getL_putL]
  unfold putK
  by_cases h : l' = l ∧ p' = p
  · obtain ⟨rfl, rfl⟩ := h
    simp [encD]
  · rw [if_neg (fun e => h (by simpa using e)), if_neg h]; exact hg l' p'
theorem dig_zero (W : World) : (zeroValue 46).run Try.prog W = .ok (.agg (dA dig0)) W := by
  have h : (Try.prog.info? 46).map (·.zero) = some (some (.agg (dA dig0))) := by kernel_rfl
  obtain ⟨i, hi, h2⟩ := Option.map_eq_some_iff.1 h
  simp [zeroValue, typeInfo, hi, h2]
theorem bs_zero (W : World) : (zeroValue 35).run Try.prog W = .ok (.slice none 0 0) W := by
  have h : (Try.prog.info? 35).map (·.zero) = some (some (.slice none 0 0)) := by kernel_rfl
  obtain ⟨i, hi, h2⟩ := Option.map_eq_some_iff.1 h
  simp [zeroValue, typeInfo, hi, h2]
theorem KAt.look (h : KAt W m K) (l p : Nat) (hk : spOk (l, p)) : (Instr.lookup 128 (.map (some m)) (.agg (spA (l, p))) true).run Try.prog W = .ok (.tuple #[.agg (dA ((K l p).getD dig0)), .bool (K l p).isSome]) W := by
  obtain ⟨L, hm, hg⟩ := h
  have := run_lookup_at sp_enc Try.underlying128 dig_zero hm (x := (l, p)) hk true
  rw [hg l p] at this
  refine this.trans ?_
  cases K l p <;> rfl
theorem KAt.look1 (h : KAt W m K) (l p : Nat) (hk : spOk (l, p)) : (Instr.lookup 128 (.map (some m)) (.agg (spA (l, p))) false).run Try.prog W = .ok (.agg (dA ((K l p).getD dig0))) W := by
  obtain ⟨L, hm, hg⟩ := h
  have := run_lookup_at sp_enc Try.underlying128 dig_zero hm (x := (l, p)) hk false
  rw [hg l p] at this
  refine this.trans ?_
  cases K l p <;> rfl
theorem MAt.look (h : MAt W m M) (p : Nat) (hk : p ≤ 100000) : ∃ x : SlC, (Instr.lookup 129 (.map (some m)) (.int .i64 (p : Int)) true).run Try.prog W = .ok (.tuple #[.slice x.A x.n x.c, .bool (M p).isSome]) W ∧ (Instr.lookup 129 (.map (some m)) (.int .i64 (p : Int)) false).run Try.prog W = .ok (.slice x.A x.n x.c) W ∧ LeafAt W x ((M p).getD []) ∧ ((M p).getD []).length < 65536 := by
  obtain ⟨L, hm, hg⟩ := h
  have h1 := fun c => run_lookup_at in_enc Try.underlying129 bs_zero hm (x := p) hk c
  have h2 := hg p
  cases hM : M p with
  | none =>
    rw [hM] at h2
    simp only at h2
    rw [h2] at h1
    exact ⟨⟨none, 0, 0⟩, h1 true, h1 false, ⟨.inl rfl, rfl, Nat.le_refl _⟩, by simp⟩
  | some R =>
    rw [hM] at h2
    obtain ⟨x, h3, h4, h5⟩ := h2
    rw [h3] at h1
    exact ⟨x, h1 true, h1 false, h4, h5⟩
theorem MAt.put (h : MAt W m M) (p : Nat) (hk : p ≤ 100000) {x : SlC} {R : Bytes} (hx : LeafAt W x R) (hR : R.length < 65536) (hb : ∀ W', Upd (fun k => k = m) W W' → ∀ x R, LeafAt W x R → LeafAt W' x R) :
    ∃ W', (Instr.mapUpdate 129 (.map (some m)) (.int .i64 (p : Int)) (.slice x.A x.n x.c)).run Try.prog W = .ok () W' ∧ MAt W' m (putM M p R) ∧ Upd (fun k => k = m) W W' := by
  obtain ⟨L, hm, hg⟩ := h
  obtain ⟨W', hr, hm', hgr, _⟩ := run_update_at in_enc Try.underlying129 hm (x := p) hk (SlC.v x)
  have hu : Upd (fun k => k = m) W W' := (Upd.of_grown hgr).mono fun k _ e => by cases e; rfl
  refine ⟨W', hr, ⟨_, hm', fun p' => ?_⟩, hu⟩
  rw [getL_putL]
  unfold putM
  by_cases h : p' = p
  · rw [if_pos h, if_pos h]
    exact ⟨x, rfl, hb _ hu _ _ hx, hR⟩
  · rw [if_neg h, if_neg h]
    have := hg p'
    split
    · rename_i h0; rw [h0] at this; exact this
    · rename_i R h0; rw [h0] at this; obtain ⟨x, h1, h2, h3⟩ := this; exact ⟨x, h1, hb _ hu _ _ h2, h3⟩
end

/-! ### what turns only books and maps -/
def Quiet (W : World) (S : Nat → Prop) : Prop := ∀ k, S k → (∀ cs t fr, W.heap[k]? = some (.cells cs t fr) → t = 125) ∧ ∀ off (c : UInt8), W.cell? ⟨k, off, none⟩ ≠ some (.int .u8 (c.toNat : Int))
section
variable {W W' : World} {S T : Nat → Prop} {b r q m : Nat} {L : List Bytes}
theorem Quiet.not (h : Quiet W S) {k : Nat} {cs : Array Value} {t : TypeId} {fr : Nat × Nat} (hk : W.heap[k]? = some (.cells cs t fr)) (ht : t ≠ 125) : ¬ S k := fun e => ht ((h k e).1 _ _ _ hk)
theorem Quiet.frame (h : Quiet W S) {B : Nat} : ∀ k, B ≤ k → (∃ cs t', W.heap[k]? = some (.cells cs t' (0, 0)) ∧ t' ≠ 125) → ¬ S k := fun _ _ ⟨_, _, hc, ht⟩ => h.not hc ht
theorem Quiet.or (h : Quiet W S) (h2 : Quiet W T) : Quiet W (fun k => S k ∨ T k) := fun k e => e.elim (h k) (h2 k)
theorem Quiet.nil (W : World) : Quiet W (fun _ => False) := fun _ e => e.elim
theorem Quiet.sub (h : Quiet W S) (hs : ∀ k, T k → S k) : Quiet W T := fun k e => h k (hs k e)
theorem Quiet.book (h : BookL W b r q L) : Quiet W (Book3 b r q) := fun k e => ⟨fun cs t fr hk => Decidable.byContradiction fun ht => h.not hk ht e, fun off c hc => by
  obtain ⟨I, M, n, hb⟩ := h
  exact hb.bytNot (A := some ⟨k, off, none⟩) (R := [c]) (.inr ⟨k, off, rfl, fun j v hv => by
    match j, hv with
    | 0, hv => simp [encB] at hv; rw [← hv]; exact hc
    | j + 1, hv => simp [encB] at hv⟩) (by simp) _ rfl e⟩
theorem Quiet.map (h : ∃ es c, W.heap[m]? = some (.map es c)) : Quiet W (fun k => k = m) := fun k e => by
  obtain ⟨es, c, hm⟩ := h
  subst e
  exact ⟨fun cs t fr hk => (by rw [hm] at hk; cases hk), fun off c hc => (by simp [World.cell?, hm] at hc)⟩
theorem Quiet.byt (h : Quiet W S) {A : Option Addr} {R : Bytes} (hR : Byt W A R) (hu : Upd S W W') : Byt W' A R := by
  rcases R with _ | ⟨c, R⟩
  · exact .inl rfl
  · refine hR.upd hu fun a ha hs => ?_
    subst ha
    rcases hR with h0 | ⟨b, off, e, hc⟩
    · cases h0
    · cases e
      have := hc 0 (.int .u8 (c.toNat : Int)) (by simp [encB])
      exact (h b hs).2 _ _ this
theorem Quiet.leaf (h : Quiet W S) {x : SlC} {R : Bytes} (hR : LeafAt W x R) (hu : Upd S W W') : LeafAt W' x R := ⟨h.byt hR.1 hu, hR.2⟩
theorem Quiet.blk (h : Quiet W S) {g t : Nat} {vs : List Value} (hg : Blk W g t vs) (ht : t ≠ 125) (hu : Upd S W W') : Blk W' g t vs := hg.upd hu (h.not hg ht)
theorem Quiet.rows (h : Quiet W S) {α : Type} {f : α → Array Value} {n t B : Nat} {v : Value} {l : List α} (ho : OwnRows f n W B t v l) (ht : t ≠ 125) (hu : Upd S W W') : OwnRows f n W' B t v l :=
  OwnRows.upd ho hu fun k e => by obtain ⟨cur, hc⟩ := own_cells ho e; exact h.not hc ht
end

/-! ### sizes, and what there is already -/
def inA (x : Nat) : Array Value := #[.int .i64 (x : Int)]
theorem lev_size : ∀ (l : Nat) (D : List Dig), l < depthM D.length → ∃ x, (levelsM shaM D)[l]? = some x ∧ x.length = sizeL D.length l
  | 0, D, _ => by obtain ⟨tl, h, _⟩ := levelsM_head D; exact ⟨D, by rw [h]; rfl, rfl⟩
  | l + 1, D, h => by
    rcases Nat.lt_or_ge 1 D.length with h1 | h1
    · rw [depthM_more h1] at h
      obtain ⟨x, h2, h3⟩ := lev_size l (aboveM shaM D) (by rw [aboveM_length]; omega)
      refine ⟨x, by rw [levelsM_more h1]; exact h2, ?_⟩
      rw [h3, aboveM_length, sizeL_up]
    · rw [depthM, dif_neg (by omega)] at h; omega
theorem lev_get {D : List Dig} {l : Nat} (h : l < depthM D.length) : ∃ x, (levelsM shaM D)[l]? = some x ∧ (levelsM shaM D).getD l [] = x ∧ x.length = sizeL D.length l := by
  obtain ⟨x, h1, h2⟩ := lev_size l D h
  exact ⟨x, h1, by rw [List.getD_eq_getElem?_getD, h1]; rfl, h2⟩
def OldAt (W : World) (B n : Nat) (hv ov : Value) : Option (List Bytes) → Prop
  | none => hv = .slice none 0 0 ∧ ov = .slice none 0 0
  | some hs => hs.length = n ∧ (∃ l : List (SlC × Bytes), OwnS W B hv (l.map (·.1)) ∧ (∀ p ∈ l, LeafAt W p.1 p.2 ∧ p.2.length < 65536) ∧ l.map (·.2) = hs) ∧ OwnP W B ov (levelsM shaM (hs.map (leafM shaM)))
section
variable {W W' : World} {S : Nat → Prop} {B n : Nat} {hv ov : Value} {O : Option (List Bytes)} {hs : List Bytes}
theorem OldAt.upd (h : OldAt W B n hv ov O) (hq : Quiet W S) (hu : Upd S W W') : OldAt W' B n hv ov O := by
  cases O with
  | none => exact h
  | some hs =>
    obtain ⟨h1, ⟨l, h2, h3, h4⟩, h5⟩ := h
    exact ⟨h1, ⟨l, hq.rows h2 (by decide) hu, fun p hp => ⟨hq.leaf (h3 p hp).1 hu, (h3 p hp).2⟩, h4⟩, h5.upd hu hq.frame⟩
theorem OldAt.leaf (h : OldAt W B n hv ov (some hs)) {p : Nat} (hp : p < n) : ∃ g c x, hv = .slice (some ⟨g, 0, none⟩) n c ∧ W.cell? ⟨g, p, none⟩ = some (.slice (SlC.A x) x.n x.c) ∧ LeafAt W x (hs.getD p []) ∧ (hs.getD p []).length < 65536 := by
  obtain ⟨h1, ⟨l, h2, h3, h4⟩, _⟩ := h
  have hl : l.length = n := by rw [← h1, ← h4, List.length_map]
  obtain ⟨g, c, hv, _, _, hc⟩ := OwnS.cell h2 (k := p) (by simp; omega)
  have hpl : p < l.length := by omega
  rw [List.length_map, hl] at hv
  have he : hs.getD p [] = l[p].2 := by rw [← h4]; simp [hpl]
  rw [List.getElem_map] at hc
  rw [he]
  exact ⟨g, c, _, hv, hc, h3 _ (List.getElem_mem hpl)⟩
theorem OldAt.dig (h : OldAt W B n hv ov (some hs)) {l p : Nat} (hl : l < depthM n) (hp : p < sizeL n l) : ∃ g c g2 c2, ov = .slice (some ⟨g, 0, none⟩) (depthM n) c ∧ W.cell? ⟨g, l, none⟩ = some (.slice (some ⟨g2, 0, none⟩) (sizeL n l) c2) ∧ segB W ⟨g2, p * 32, none⟩ 32 = true ∧ segV W ⟨g2, p * 32, none⟩ 32 = dA (oldAt hs l p) := by
  obtain ⟨h1, _, xs, h2, h3, h4⟩ := h
  have hD : (hs.map (leafM shaM)).length = n := by rw [List.length_map, h1]
  obtain ⟨x, e1, e2, e3⟩ := lev_get (D := hs.map (leafM shaM)) (l := l) (by rw [hD]; exact hl)
  rw [hD] at e3
  have hlen : (levelsM shaM (hs.map (leafM shaM))).length = depthM n := levelsM_depth _ hD
  have hlx : l < xs.length := by omega
  obtain ⟨g, c, hv, _, _, hc1, hc2⟩ := OwnRows.get (f := slA) (n := 1) (fun _ => rfl) h2 hlx
  have ho := h4 l hlx (by omega)
  have ex : (levelsM shaM (hs.map (leafM shaM)))[l]'(by omega) = x := by
    rw [List.getElem?_eq_getElem (by omega)] at e1; exact Option.some.inj e1
  rw [ex] at ho
  obtain ⟨g2, c2, hv2, _, _⟩ := own_form ho (by intro e; rw [e] at e3; simp at e3; omega)
  rw [hv2] at ho
  have hsg := OwnD.seg ho (k := p) (by omega)
  refine ⟨g, c, g2, c2, by rw [hv, h3, hlen], ?_, hsg.1, ?_⟩
  · have := cell_of_seg hc1 0 (SlC.v xs[l]) (by rw [hc2]; rfl)
    rw [add_none, Nat.mul_one, Nat.add_zero] at this
    rw [this, hv2, e3]
  · rw [hsg.2]
    unfold oldAt
    rw [e2, List.getD_eq_getElem?_getD, List.getElem?_eq_getElem (by omega)]
    rfl
end

/-! ### the whole -/
def fetV (b : Nat) (root : Dig) (gs m cs m1 m2 : Nat) (hv ov : Value) : List Value := .pointer (some ⟨b, 0, none⟩) :: (encB root.1 ++ [.slice (some ⟨gs, 0, none⟩) m cs, .map (some m1), .map (some m2), hv, ov])
structure FetI (W : World) (B f m1 m2 b r q n : Nat) (root : Dig) (O : Option (List Bytes)) (s : KM × BM) (gs cs : Nat) (hv ov : Value) : Prop where
  blk : Blk W f 131 (fetV b root gs (depthM n) cs m1 m2 hv ov)
  szs : OwnRows inA 1 W B 3 (.slice (some ⟨gs, 0, none⟩) (depthM n) cs) (sizesM n)
  k : KAt W m1 s.1
  m : MAt W m2 s.2
  ne : m1 ≠ m2
  old : OldAt W B n hv ov O
  n1 : 1 ≤ n
  n2 : n ≤ 1024
  far : ∀ k, Book3 b r q k → k < B
  bf : B ≤ f
  b1 : B ≤ m1
  b2 : B ≤ m2
abbrev Maps2 (m1 m2 : Nat) : Nat → Prop := fun k => k = m1 ∨ k = m2
section
variable {W W' : World} {S : Nat → Prop} {B f m1 m2 b r q n gs cs : Nat} {root : Dig} {O : Option (List Bytes)} {s : KM × BM} {hv ov : Value} {L : List Bytes}
theorem FetI.upd (h : FetI W B f m1 m2 b r q n root O s gs cs hv ov) (hq : Quiet W S) (h1 : ¬ S m1) (h2 : ¬ S m2) (hu : Upd S W W') : FetI W' B f m1 m2 b r q n root O s gs cs hv ov :=
  ⟨hq.blk h.blk (by decide) hu, hq.rows h.szs (by decide) hu, h.k.upd hu h1, h.m.upd hu h2 (fun _ _ hl => hq.leaf hl hu), h.ne, h.old.upd hq hu, h.n1, h.n2, h.far, h.bf, h.b1, h.b2⟩
theorem FetI.kept (h : FetI W B f m1 m2 b r q n root O s gs cs hv ov) (hu : Kept W W') : FetI W' B f m1 m2 b r q n root O s gs cs hv ov := h.upd (Quiet.nil W) id id hu
theorem FetI.book (h : FetI W B f m1 m2 b r q n root O s gs cs hv ov) (hb : BookL W b r q L) (hu : Upd (Book3 b r q) W W') : FetI W' B f m1 m2 b r q n root O s gs cs hv ov :=
  h.upd (Quiet.book hb) (fun e => by have := h.far _ e; have := h.b1; omega) (fun e => by have := h.far _ e; have := h.b2; omega) hu
theorem FetI.quiet (h : FetI W B f m1 m2 b r q n root O s gs cs hv ov) : Quiet W (Maps2 m1 m2) := (Quiet.map h.k.map).or (Quiet.map h.m.map)
theorem FetI.c (h : FetI W B f m1 m2 b r q n root O s gs cs hv ov) : W.cell? ⟨f, 0, none⟩ = some (.pointer (some ⟨b, 0, none⟩)) ∧ W.cell? ⟨f, 33, none⟩ = some (.slice (some ⟨gs, 0, none⟩) (depthM n) cs) ∧ W.cell? ⟨f, 34, none⟩ = some (.map (some m1)) ∧ W.cell? ⟨f, 35, none⟩ = some (.map (some m2)) ∧ W.cell? ⟨f, 36, none⟩ = some hv ∧ W.cell? ⟨f, 37, none⟩ = some ov := by
  have hl : (encB root.1).length = 32 := by rw [encB_length, root.2]
  have h1 : ∀ k, (fetV b root gs (depthM n) cs m1 m2 hv ov)[33 + k]? = [.slice (some ⟨gs, 0, none⟩) (depthM n) cs, .map (some m1), .map (some m2), hv, ov][k]? := fun k => by
    rw [fetV, show 33 + k = (32 + k) + 1 by omega, List.getElem?_cons_succ, List.getElem?_append_right (by omega), hl, Nat.add_sub_cancel_left]
  exact ⟨h.blk.cell rfl, h.blk.cell (h1 0), h.blk.cell (h1 1), h.blk.cell (h1 2), h.blk.cell (h1 3), h.blk.cell (h1 4)⟩
theorem FetI.top (h : FetI W B f m1 m2 b r q n root O s gs cs hv ov) : segB W ⟨f, 1, none⟩ 32 = true ∧ segV W ⟨f, 1, none⟩ 32 = dA root :=
  h.blk.seg 1 32 (encB root.1) (by rw [encB_length, root.2]) (fun j hj => by
    rw [fetV, Nat.add_comm, List.getElem?_cons_succ, List.getElem?_append_left (by rw [encB_length, root.2]; exact hj)])
theorem FetI.size (h : FetI W B f m1 m2 b r q n root O s gs cs hv ov) {l : Nat} (hl : l < depthM n) : W.cell? ⟨gs, l, none⟩ = some (.int .i64 (sizeL n l : Int)) := by
  have hl' : l < (sizesM n).length := by rw [sizesM_length]; exact hl
  obtain ⟨g, c, hv, _, _, h1, h2⟩ := OwnRows.get (f := inA) (n := 1) (fun _ => rfl) h.szs hl'
  simp only [Value.slice.injEq, Option.some.injEq, Addr.mk.injEq] at hv
  obtain ⟨⟨rfl, _⟩, _⟩ := hv
  have := cell_of_seg h1 0 (.int .i64 ((sizesM n)[l] : Nat)) (by rw [h2]; rfl)
  rwa [add_none, Nat.mul_one, Nat.add_zero, sizesM_get hl'] at this
theorem FetI.sz (h : FetI W B f m1 m2 b r q n root O s gs cs hv ov) (l : Nat) : 1 ≤ sizeL n l ∧ sizeL n l ≤ 1024 := ⟨sizeL_pos h.n1 l, Nat.le_trans (sizeL_le h.n1 l) h.n2⟩
theorem depthM_small {n : Nat} (h2 : n ≤ 1024) : depthM n ≤ 1025 := by have := depthM_le n (List.replicate n dig0) (by simp); omega
theorem FetI.putK (h : FetI W B f m1 m2 b r q n root O s gs cs hv ov) (l p : Nat) (hk : spOk (l, p)) (d : Dig) : ∃ W', (Instr.mapUpdate 128 (.map (some m1)) (.agg (spA (l, p))) (.agg (dA d))).run Try.prog W = .ok () W' ∧ FetI W' B f m1 m2 b r q n root O (putK s.1 l p d, s.2) gs cs hv ov ∧ Upd (fun k => k = m1) W W' := by
  obtain ⟨W', hr, hk', hu⟩ := h.k.put l p hk d
  have hq : Quiet W (fun k => k = m1) := Quiet.map h.k.map
  exact ⟨W', hr, ⟨hq.blk h.blk (by decide) hu, hq.rows h.szs (by decide) hu, hk', h.m.upd hu (fun e => h.ne e.symm) (fun _ _ hl => hq.leaf hl hu), h.ne, h.old.upd hq hu, h.n1, h.n2, h.far, h.bf, h.b1, h.b2⟩, hu⟩
theorem FetI.putM (h : FetI W B f m1 m2 b r q n root O s gs cs hv ov) (p : Nat) (hk : p ≤ 100000) {x : SlC} {R : Bytes} (hx : LeafAt W x R) (hR : R.length < 65536) : ∃ W', (Instr.mapUpdate 129 (.map (some m2)) (.int .i64 (p : Int)) (.slice x.A x.n x.c)).run Try.prog W = .ok () W' ∧ FetI W' B f m1 m2 b r q n root O (s.1, putM s.2 p R) gs cs hv ov ∧ Upd (fun k => k = m2) W W' := by
  have hq : Quiet W (fun k => k = m2) := Quiet.map h.m.map
  obtain ⟨W', hr, hm', hu⟩ := h.m.put p hk hx hR (fun W' hu _ _ hl => hq.leaf hl hu)
  exact ⟨W', hr, ⟨hq.blk h.blk (by decide) hu, hq.rows h.szs (by decide) hu, h.k.upd hu h.ne, hm', h.ne, h.old.upd hq hu, h.n1, h.n2, h.far, h.bf, h.b1, h.b2⟩, hu⟩
end
end Go.Proofs.Ytnncpjekcljfbaa
/- A fetch: none, lacks. -/
namespace Go.Proofs.Ytnncpjekcljfbaa
open Go.RowKit

@[go_sem ↓] theorem exec_build_sp (ρ : Operand → Value) (dst : Option Tmp) (parts : Array (Nat × Operand)) (ty : TypeId) (pos : String) (after : Array Edge) (guard : Option (Nat × Bool)) :
    execOp ρ ⟨dst, .build 154 parts, ty, pos, after, guard⟩ = buildRow 154 (parts.map fun (i, x) => (i, ρ x)) := rfl
@[go_sem] theorem run_build_sp (l p : Int) (W : World) : (buildRow 154 #[(0, .int .i64 l), (1, .int .i64 p)]).run Try.prog W = .ok (.value (.agg #[.int .i64 l, .int .i64 p])) W := by
  have H := run_build (P := Try.prog) W 154 #[(0, .int .i64 l), (1, .int .i64 p)] #[.int .i64 l, .int .i64 p] (by kernel_rfl)
  simp [buildRow, H, Result.andThen]
theorem fet_map_eq (w : World) (r : Option Nat) : (binOp .eql 128 (.map r) (.map none)).run Try.prog w = .ok (.bool r.isNone) w :=
  run_eql_map_nil w _ _ _ r Try.underlying128
attribute [local go_sem] fet_map_eq

theorem fetch_none {w : World} {f m1 : Nat} (hc : w.cell? ⟨f, 34, none⟩ = some (.map (some m1))) :
    Calls Try.prog 96 #[.pointer (some ⟨f, 0, none⟩)] w fun e w' => e = .returned (.bool false) ∧ w = w' := by
  go_enter Try.func96, Try.ntmps96
  go_wp2
  go_ret
  exact ⟨rfl, rfl⟩
/-- a fetch that is none -/
def NoFetch (w : World) (p : Option Addr) : Prop := p = none ∨ ∃ f, p = some ⟨f, 0, none⟩ ∧ w.cell? ⟨f, 34, none⟩ = some (.map none)
theorem NoFetch.kept {w W : World} {p : Option Addr} (h : NoFetch w p) (hu : Kept w W) : NoFetch W p :=
  h.imp id fun ⟨f, h1, h2⟩ => ⟨f, h1, hu.cell h2 id⟩
theorem fetch_none_no {w : World} {p : Option Addr} (h : NoFetch w p) :
    Calls Try.prog 96 #[.pointer p] w fun e w' => e = .returned (.bool true) ∧ w = w' := by
  rcases h with rfl | ⟨f, rfl, hc⟩
  · go_enter Try.func96, Try.ntmps96
    go_wp2
    go_ret
    exact ⟨rfl, rfl⟩
  · go_enter Try.func96, Try.ntmps96
    go_wp2
    go_ret
    exact ⟨rfl, rfl⟩

set_option maxHeartbeats 2000000 in
set_option maxRecDepth 20000 in
theorem fetch_lacks {w : World} {B f m1 m2 b r q n gs cs : Nat} {root : Dig} {O : Option (List Bytes)} {s : KM × BM} {hv ov : Value} (h : FetI w B f m1 m2 b r q n root O s gs cs hv ov) (l p : Nat) (hl : l ≤ 2000) (hp : p ≤ 2000) :
    Calls Try.prog 98 #[.pointer (some ⟨f, 0, none⟩), .agg (spA (l, p))] w fun e W => e = .returned (.bool (lacksM s l p)) ∧ Kept w W := by
  have hnot : ∀ (x : Bool) (w : World), (Op.unary .not (.bool x)).run Try.prog w = .ok (.bool (!x)) w := fun _ _ => rfl
  have hS1 : Blk (w.alloc (.cells (spA (l, p)) 154)) w.heap.size 154 [.int .i64 (l : Int), .int .i64 (p : Int)] := Blk.new w _ _
  have hk1 : Kept w (w.alloc (.cells (spA (l, p)) 154)) := (Upd.refl _ w).alloc _
  generalize hW1 : w.alloc (.cells (spA (l, p)) 154) = w1 at *
  have HX := Lib.hid (And.intro (h.kept hk1) (And.intro hS1 hk1))
  have HL := Lib.hid (And.intro hl hp)
  have f0 : ∀ W, Kept w1 W → W.cell? ⟨f, 34, none⟩ = some (.map (some m1)) := fun W hW => (HX.out.1.kept hW).c.2.2.1
  have f1 : ∀ W, Kept w1 W → segB W ⟨w.heap.size, 0, none⟩ 2 = true := fun W hW => ((HX.out.2.1.kept hW).seg 0 2 [.int .i64 (l : Int), .int .i64 (p : Int)] rfl (fun j _ => by rw [Nat.zero_add])).1
  have f2 : ∀ W, Kept w1 W → segV W ⟨w.heap.size, 0, none⟩ 2 = spA (l, p) := fun W hW => ((HX.out.2.1.kept hW).seg 0 2 [.int .i64 (l : Int), .int .i64 (p : Int)] rfl (fun j _ => by rw [Nat.zero_add])).2
  clear h hS1 hk1 hl hp
  cases hK0 : s.1 l p with
  | none =>
    have HE : Hid (lacksM s l p = false) := by cases l <;> simp [lacksM, hK0, Hid]
    have f3 : ∀ W, Kept w1 W → (Instr.lookup 128 (.map (some m1)) (.agg (spA (l, p))) true).run Try.prog W = .ok (.tuple #[.agg (dA dig0), .bool false]) W := fun W hW => by
      have := (HX.out.1.kept hW).k.look l p ⟨by have := HL.out.1; show l ≤ _; omega, by have := HL.out.2; show p ≤ _; omega⟩
      rw [hK0] at this; exact this
    clear hK0
    go_enter Try.func98, Try.ntmps98
    go_wp2_with fail
    refine wp_region_ord [(0, true), (1, true), (2, true), (3, true), (4, true), (5, true), (6, true), (7, true), (8, true), (9, false), (10, false), (11, true)] (by kernel_rfl) (by kernel_rfl) (Kept w1) (Upd.refl _ w1).drew ?_
    simp only [ordOps, List.getD_cons_zero, List.getD_cons_succ]
    iterate 9 (refine wpOrd_held (fun K hK => ?_); go_simp; first | (apply Exists.intro; refine ⟨fun W hW => ?_, hK _ ?_⟩; (go_simp; first | done | exact rfl); clear hK K) | (refine hK _ ?_; clear hK K))
    have hu9 : Kept w1 w1.drew := (Upd.refl _ w1).drew
    generalize w1.drew = wd at *
    refine wpOrd_step (fun K hK => ?_) hu9
    go_simp
    refine hK _ _ (hu9.alloc _) ?_
    clear hK K
    refine wpOrd_step (fun K hK => ?_) (hu9.alloc _)
    go_simp
    have hu11 := hu9.alloc (.cells (dA dig0) 46)
    refine hK _ _ hu11 ?_
    clear hK K hu9
    iterate 1 (refine wpOrd_held (fun K hK => ?_); go_simp; first | (apply Exists.intro; refine ⟨fun W hW => ?_, hK _ ?_⟩; (go_simp; first | done | exact rfl); clear hK K) | (refine hK _ ?_; clear hK K))
    refine wpOrd_nil ?_
    clear f0 f1 f2 f3
    have HF := Lib.hid (HX.out.2.2.then hu11 (fun _ _ h => h))
    clear hu11 HX
    go_wp2
    go_ret
    exact ⟨(by rw [HE.out]; rfl), HF.out⟩
  | some d =>
    have f3 : ∀ W, Kept w1 W → (Instr.lookup 128 (.map (some m1)) (.agg (spA (l, p))) true).run Try.prog W = .ok (.tuple #[.agg (dA d), .bool true]) W := fun W hW => by
      have := (HX.out.1.kept hW).k.look l p ⟨by have := HL.out.1; show l ≤ _; omega, by have := HL.out.2; show p ≤ _; omega⟩
      rw [hK0] at this; exact this
    have HK := Lib.hid hK0
    clear hK0
    go_enter Try.func98, Try.ntmps98
    go_wp2_with fail
    refine wp_region_ord [(0, true), (1, true), (2, true), (3, true), (4, true), (5, true), (6, true), (7, true), (8, true), (9, false), (10, false), (11, true)] (by kernel_rfl) (by kernel_rfl) (Kept w1) (Upd.refl _ w1).drew ?_
    simp only [ordOps, List.getD_cons_zero, List.getD_cons_succ]
    iterate 9 (refine wpOrd_held (fun K hK => ?_); go_simp; first | (apply Exists.intro; refine ⟨fun W hW => ?_, hK _ ?_⟩; (go_simp; first | done | exact rfl); clear hK K) | (refine hK _ ?_; clear hK K))
    have hu9 : Kept w1 w1.drew := (Upd.refl _ w1).drew
    generalize w1.drew = wd at *
    refine wpOrd_step (fun K hK => ?_) hu9
    go_simp
    refine hK _ _ (hu9.alloc _) ?_
    clear hK K
    refine wpOrd_step (fun K hK => ?_) (hu9.alloc _)
    go_simp
    have hu11 := hu9.alloc (.cells (dA d) 46)
    refine hK _ _ hu11 ?_
    clear hK K hu9
    iterate 1 (refine wpOrd_held (fun K hK => ?_); go_simp; first | (apply Exists.intro; refine ⟨fun W hW => ?_, hK _ ?_⟩; (go_simp; first | done | exact rfl); clear hK K) | (refine hK _ ?_; clear hK K))
    refine wpOrd_nil ?_
    clear f0 f1 f2 f3
    generalize wd.alloc (.cells (dA d) 46) = w2 at *
    have HX2 := Lib.hid (And.intro (HX.out.1.kept hu11) (And.intro (HX.out.2.1.kept hu11) (HX.out.2.2.then hu11 (fun _ _ h => h))))
    clear hu11 HX
    have c0 := HX2.out.2.1.cell (k := 0) rfl
    cases l with
    | zero =>
      have hl0 : ((0 : Nat) : Int) = 0 := rfl
      obtain ⟨x, hx, -⟩ := (HX2.out.1).m.look p (by have := HL.out.2; omega)
      have HE : Hid (lacksM s 0 p = !(s.2 p).isSome) := by show _ = _; simp [lacksM, HK.out]
      have f0 : ∀ W, Kept w2 W → W.cell? ⟨f, 35, none⟩ = some (.map (some m2)) := fun W hW => (HX2.out.1.kept hW).c.2.2.2.1
      have f1 : ∀ W, Kept w2 W → W.cell? ⟨w.heap.size, 1, none⟩ = some (.int .i64 (p : Int)) := fun W hW => (HX2.out.2.1.kept hW).cell (k := 1) rfl
      have f3 : ∃ x : SlC, ∀ W, Kept w2 W → (Instr.lookup 129 (.map (some m2)) (.int .i64 (p : Int)) true).run Try.prog W = .ok (.tuple #[.slice x.A x.n x.c, .bool (s.2 p).isSome]) W := by
        obtain ⟨L, hm, hg⟩ := HX2.out.1.m
        have hlook := fun W (hW : Kept w2 W) => run_lookup_at in_enc Try.underlying129 bs_zero (hm.kept (hW.block m2 hm.lt id)) (x := p) (show p ≤ _ by have := HL.out.2; omega) true
        have h2 := hg p
        cases hM : s.2 p with
        | none => rw [hM] at h2; simp only at h2; rw [h2] at hlook; exact ⟨⟨none, 0, 0⟩, hlook⟩
        | some R => rw [hM] at h2; obtain ⟨x, h3, -⟩ := h2; rw [h3] at hlook; exact ⟨x, hlook⟩
      obtain ⟨⟨xA, xn, xc⟩, f3⟩ := f3
      clear hx
      generalize (s.2 p).isSome = bb at *
      go_wp2_with fail
      refine wp_region_ord [(0, true), (1, true), (2, true), (3, true), (4, true), (5, true), (6, true), (7, true), (8, true), (9, true), (10, true), (11, true)] (by kernel_rfl) (by kernel_rfl) (Kept w2) (Upd.refl _ w2).drew ?_
      simp only [ordOps, List.getD_cons_zero, List.getD_cons_succ]
      iterate 12 (refine wpOrd_held (fun K hK => ?_); go_simp; first | (apply Exists.intro; refine ⟨fun W hW => ?_, hK _ ?_⟩; (go_simp; first | done | exact rfl); clear hK K) | (refine hK _ ?_; clear hK K))
      refine wpOrd_nil ?_
      clear f0 f1 f3
      have HF := Lib.hid (HX2.out.2.2.then (Upd.refl (fun _ => False) w2).drew (fun _ _ h => h))
      clear HX2 c0
      go_wp2
      go_ret
      exact ⟨(by rw [HE.out]; rfl), HF.out⟩
    | succ l =>
      have hl0 : ¬ ((l + 1 : Nat) : Int) = 0 := by omega
      have hl1 : ((l + 1 : Nat) : Int) - 1 = (l : Int) := by omega
      have hl2 : ((l + 1 : Nat) : Int) ≤ 2000 := by have := HL.out.1; omega
      have hp2 : (p : Int) ≤ 2000 := by have := HL.out.2; omega
      have hl3 : (l : Int) ≤ 2000 := by omega
      have hl5 : IntKind.i64.wrap (4 * (p : Int)) = 4 * (p : Int) := by rw [IntKind.wrap_i64]; omega
      have hl4 : IntKind.i64.wrap (l : Int) = (l : Int) := by rw [IntKind.wrap_i64]; omega
      have HE : Hid (lacksM s (l + 1) p = !(s.1 l (4 * p)).isSome) := by show _ = _; simp [lacksM, HK.out]
      have f0 : ∀ W, Kept w2 W → W.cell? ⟨f, 34, none⟩ = some (.map (some m1)) := fun W hW => (HX2.out.1.kept hW).c.2.2.1
      have f1 : ∀ W, Kept w2 W → W.cell? ⟨w.heap.size, 1, none⟩ = some (.int .i64 (p : Int)) := fun W hW => (HX2.out.2.1.kept hW).cell (k := 1) rfl
      have f2 : ∀ W, Kept w2 W → W.cell? ⟨w.heap.size, 0, none⟩ = some (.int .i64 ((l + 1 : Nat) : Int)) := fun W hW => (HX2.out.2.1.kept hW).cell (k := 0) rfl
      obtain ⟨d2, hd2⟩ : ∃ d2, d2 = (s.1 l (4 * p)).getD dig0 := ⟨_, rfl⟩
      have f3 : ∀ W, Kept w2 W → (Instr.lookup 128 (.map (some m1)) (.agg #[.int .i64 (l : Int), .int .i64 (4 * (p : Int))]) true).run Try.prog W = .ok (.tuple #[.agg (dA d2), .bool (s.1 l (4 * p)).isSome]) W := fun W hW => by
        have := (HX2.out.1.kept hW).k.look l (4 * p) ⟨by have := HL.out.1; show l ≤ _; omega, by have := HL.out.2; show 4 * p ≤ _; omega⟩
        rw [← hd2] at this; simpa [spA] using this
      clear hd2
      obtain ⟨z, hz⟩ : ∃ z : Int, z = ((l + 1 : Nat) : Int) := ⟨_, rfl⟩
      rw [← hz] at hl0 hl1 hl2 c0 f2
      clear hz
      generalize (s.1 l (4 * p)).isSome = bb at *
      go_wp2_with fail
      refine wp_region_ord [(0, true), (1, true), (2, true), (3, true), (4, true), (5, true), (6, true), (7, true), (8, true), (9, true), (10, true), (11, true), (12, true), (13, true), (14, true), (15, false), (16, false), (17, true)] (by kernel_rfl) (by kernel_rfl) (Kept w2) (Upd.refl _ w2).drew ?_
      simp only [ordOps, List.getD_cons_zero, List.getD_cons_succ]
      iterate 15 (refine wpOrd_held (fun K hK => ?_); go_simp; first | (apply Exists.intro; refine ⟨fun W hW => ?_, hK _ ?_⟩; (go_simp; first | done | exact rfl); clear hK K) | (refine hK _ ?_; clear hK K))
      have hu9 : Kept w2 w2.drew := (Upd.refl _ w2).drew
      generalize w2.drew = wd at *
      refine wpOrd_step (fun K hK => ?_) hu9
      go_simp
      refine hK _ _ (hu9.alloc _) ?_
      clear hK K
      refine wpOrd_step (fun K hK => ?_) (hu9.alloc _)
      go_simp
      have hu11 := hu9.alloc (.cells (dA d2) 46)
      refine hK _ _ hu11 ?_
      clear hK K hu9
      iterate 1 (refine wpOrd_held (fun K hK => ?_); go_simp; first | (apply Exists.intro; refine ⟨fun W hW => ?_, hK _ ?_⟩; (go_simp; first | done | exact rfl); clear hK K) | (refine hK _ ?_; clear hK K))
      refine wpOrd_nil ?_
      clear f0 f1 f2 f3
      have HF := Lib.hid (HX2.out.2.2.then hu11 (fun _ _ h => h))
      clear hu11 HX2 c0
      go_wp2
      go_ret
      exact ⟨(by rw [HE.out]; rfl), HF.out⟩
end Go.Proofs.Ytnncpjekcljfbaa
/- A fetch: children, Root. -/
namespace Go.Proofs.Ytnncpjekcljfbaa
open Go.RowKit

@[go_sem] theorem spA_size (x : Nat × Nat) : (spA x).size = 2 := rfl
@[go_sem] theorem spA_one (x : Nat × Nat) : oneB (spA x) = true := rfl
theorem sp_rows : RowType Try.prog spA 2 159 154 16 where
  size := fun _ => rfl
  one := fun _ => rfl
  slice := Try.underlying159
  info := ⟨.agg #[.int .i64 0, .int .i64 0], by kernel_rfl, rfl⟩
  pos := by omega
@[go_sem ↓] theorem exec_one_sp (ρ : Operand → Value) (dst : Option Tmp) (parts : Array (Nat × Operand)) (ty : TypeId) (pos : String) (after : Array Edge) (guard : Option (Nat × Bool)) :
    execOp ρ ⟨dst, .buildSlice 159 1 parts, ty, pos, after, guard⟩ = sliceRow 159 1 (parts.map fun (i, x) => (i, ρ x)) := rfl
@[go_sem] theorem run_one_sp (a b : Int) (W : World) : (sliceRow 159 1 #[(0, .agg #[.int .i64 a, .int .i64 b])]).run Try.prog W = .ok (.value (.slice (some ⟨W.heap.size, 0, none⟩) 1 1)) (W.alloc (.cells #[.int .i64 a, .int .i64 b] 154)) :=
  run_sliceRow _ 154 2 (.agg #[.int .i64 0, .int .i64 0]) _ Try.underlying159 (by kernel_rfl) (by omega) (by omega) rfl rfl W

/-- the spots below one -/
def kidsL (_ l p k : Nat) : List (Nat × Nat) := (List.range k).map fun j => (l, 4 * p + j)
theorem kidsL_length (n l p k : Nat) : (kidsL n l p k).length = k := by simp [kidsL]
theorem kidsL_succ (n l p k : Nat) : kidsL n l p (k + 1) = kidsL n l p k ++ [(l, 4 * p + k)] := by simp [kidsL, List.range_succ]
theorem kidsL_get {n l p k j : Nat} (h : j < (kidsL n l p k).length) : (kidsL n l p k)[j] = (l, 4 * p + j) := by simp [kidsL]

set_option maxHeartbeats 2000000 in
set_option maxRecDepth 20000 in
theorem fetch_children {w : World} {B f m1 m2 b r q n gs cs : Nat} {root : Dig} {O : Option (List Bytes)} {s : KM × BM} {hv ov : Value} (h : FetI w B f m1 m2 b r q n root O s gs cs hv ov) (l p : Nat) (hl : l + 1 < depthM n) (hp : p < sizeL n (l + 1)) :
    Calls Try.prog 99 #[.pointer (some ⟨f, 0, none⟩), .agg (spA (l + 1, p))] w fun e W => ∃ v, e = .returned v ∧ OwnRows spA 2 W w.heap.size 154 v (kidsL n l p (kidsM n l p)) ∧ Kept w W := by
  have hsz := h.sz l
  have hdp := depthM_small h.n2
  have hp4 : 4 * p < sizeL n l := by
    have h1 : p < up4 (sizeL n l) := hp
    unfold up4 at h1; omega
  have hkm : kidsM n l p = min 4 (sizeL n l - 4 * p) := rfl
  have hS1 : Blk (w.alloc (.cells (spA (l + 1, p)) 154)) w.heap.size 154 [.int .i64 ((l + 1 : Nat) : Int), .int .i64 (p : Int)] := Blk.new w _ _
  have hk1 : Kept w (w.alloc (.cells (spA (l + 1, p)) 154)) := (Upd.refl _ w).alloc _
  have hcl := h.size (l := l) (by omega)
  have HX := Lib.hid (And.intro (h.kept hk1) (And.intro hS1 hk1))
  have HL := Lib.hid (And.intro hl (And.intro hp4 (And.intro hsz (And.intro hdp hkm))))
  have hp2 : (p : Int) ≤ 2000 := by omega
  have hp5 : IntKind.i64.wrap (4 * (p : Int)) = 4 * (p : Int) := by rw [IntKind.wrap_i64]; omega
  have c1 := hS1.cell (k := 1) rfl
  clear h hS1 hk1 hcl
  generalize hW1 : w.alloc (.cells (spA (l + 1, p)) 154) = w1 at *
  obtain ⟨sz, hsze⟩ : ∃ sz, sz = sizeL n l := ⟨_, rfl⟩
  obtain ⟨dp, hdpe⟩ : ∃ dp, dp = depthM n := ⟨_, rfl⟩
  have HE := Lib.hid (And.intro hsze hdpe)
  have hl0 : (l : Int) ≤ 2000 := by omega
  have hl1 : (l : Int) < (dp : Int) := by omega
  have hsz1 : (sz : Int) ≤ 1024 := by omega
  have hdp1 : (dp : Int) ≤ 1025 := by omega
  clear hl hp hsz hdp hp4 hkm hsze hdpe
  go_enter Try.func99, Try.ntmps99
  go_wp2_with fail
  go_loopw [6, 5] (fun i v wr => ∃ k : Nat, k ≤ kidsM n l p ∧ i = .int .i64 ((4 * p + k : Nat) : Int) ∧ OwnRows spA 2 wr w1.heap.size 154 v (kidsL n l p k) ∧ Kept w1 wr) (fun i _ _ => 10000 - (intOf i).toNat)
  case atStart => exact ⟨0, Nat.zero_le _, rfl, OwnRows.nil _ _ _, Upd.refl _ _⟩
  case round =>
    obtain ⟨k, hk, rfl, hown, hup⟩ := hrel
    obtain ⟨m, hmk⟩ : ∃ m, m = 4 * p + k := ⟨_, rfl⟩
    rw [← hmk]
    have hkk : kidsM n l p = min 4 (sz - 4 * p) := by rw [HE.out.1]; exact HL.out.2.2.2.2
    have h4 : 4 * p < sz := by rw [HE.out.1]; exact HL.out.2.1
    have f0 : ∀ W, Kept wr W → W.cell? ⟨w.heap.size, 0, none⟩ = some (.int .i64 ((l : Int) + 1)) := fun W hW => ((HX.out.2.1.kept hup).kept hW).cell (k := 0) rfl
    have f1 : ∀ W, Kept wr W → W.cell? ⟨w.heap.size, 1, none⟩ = some (.int .i64 (p : Int)) := fun W hW => ((HX.out.2.1.kept hup).kept hW).cell (k := 1) rfl
    have f2 : ∀ W, Kept wr W → W.cell? ⟨f, 33, none⟩ = some (.slice (some ⟨gs, 0, none⟩) dp cs) := fun W hW => by rw [HE.out.2]; exact ((HX.out.1.kept hup).kept hW).c.2.1
    have f3 : ∀ W, Kept wr W → W.cell? ⟨gs, l, none⟩ = some (.int .i64 (sz : Int)) := fun W hW => by rw [HE.out.1]; exact ((HX.out.1.kept hup).kept hW).size (by have := HL.out.1; omega)
    have f4 : IntKind.i64.wrap (4 * (p : Int) + 4) = 4 * (p : Int) + 4 := by rw [IntKind.wrap_i64]; omega
    have hl4 : IntKind.i64.wrap (l : Int) = (l : Int) := by rw [IntKind.wrap_i64]; omega
    have hm0 : (m : Int) ≤ 9000 := by omega
    rcases Nat.lt_or_ge k (kidsM n l p) with hlt | hge
    · have hdec : decide ((m : Int) < if (sz : Int) < 4 * (p : Int) + 4 then (sz : Int) else 4 * (p : Int) + 4) = true := by
        rw [decide_eq_true_eq]; split <;> omega
      clear hkk h4
      have HLT := Lib.hid hlt
      have HMK := Lib.hid hmk
      have hUP := Lib.hid hup
      have hOW := Lib.hid hown
      clear hmk hlt hup hown hk
      go_wp2_with fail
      refine wp_region_ord [(0, true), (1, true), (2, true), (3, true), (4, true), (5, true), (6, true), (7, true), (8, true), (9, true), (10, true), (11, true), (12, true), (13, true), (14, true), (15, true)] (by kernel_rfl) (by kernel_rfl) (Kept wr) (Upd.refl _ wr).drew ?_
      simp only [ordOps, List.getD_cons_zero, List.getD_cons_succ]
      iterate 16 (refine wpOrd_held (fun K hK => ?_); go_simp; first | (apply Exists.intro; refine ⟨fun W hW => ?_, hK _ ?_⟩; (go_simp; first | done | exact rfl); clear hK K) | (refine hK _ ?_; clear hK K))
      refine wpOrd_nil ?_
      clear f0 f1 f2 f3 f4
      have HU := Lib.hid (show Kept w1 wr.drew from hUP.out.then (Upd.refl (fun _ => False) wr).drew (fun _ _ h => h))
      have hown1 := OwnRows.drew hOW.out
      have hg0 : wr.drew.cell? ⟨w.heap.size, 0, none⟩ = some (.int .i64 ((l : Int) + 1)) := (HX.out.2.1.kept HU.out).cell (k := 0) rfl
      generalize wr.drew = wa at *
      have hown2 := OwnRows.alloc hown1 (.cells (spA (l, m)) 154)
      have hg2 := heap_alloc_new wa (.cells (spA (l, m)) 154)
      have hsz2 : w1.heap.size ≤ (wa.alloc (.cells (spA (l, m)) 154)).heap.size := by have := HU.out.size; rw [World.size_alloc]; omega
      have HQ := Lib.hid (And.intro hown2 (And.intro hg2 (And.intro hsz2 (show Kept w1 (wa.alloc (.cells (spA (l, m)) 154)) from HU.out.alloc _))))
      have HK1 : Hid ((kidsL n l p k).length ≤ 4) := by show _ ≤ _; rw [kidsL_length]; have := HL.out.2.2.2.2; have := HLT.out; omega
      clear hown1 hown2 hg2 hsz2 hdec
      go_wp2_with (at_builtin; refine wpList_append_rows sp_rows rfl (.tmp 28) (.tmp 34) rfl rfl HQ.out.1 (l, m) wa.heap.size 1 _ _ rfl HQ.out.2.1 (by have := HK1.out; unfold maxLen; omega) (by have := HK1.out; omega) HQ.out.2.2.1 ?_; intro v' w3 hown' hu' hnew)
      go_roundw
      case rel =>
        refine ⟨k + 1, HLT.out, ?_, by rw [kidsL_succ, ← HMK.out]; exact hown', HQ.out.2.2.2.then hu' fun i hi e => ?_⟩
        · show _ = _
          rw [HMK.out]; go_num
        · have := (World.ownsRow.lt HQ.out.1 _ e).1
          omega
      case measure => have h1 := HMK.out; simp [intOf]; omega
    · obtain rfl : k = kidsM n l p := by omega
      have hdec : decide ((m : Int) < if (sz : Int) < 4 * (p : Int) + 4 then (sz : Int) else 4 * (p : Int) + 4) = false := by
        rw [decide_eq_false_iff_not]; split <;> omega
      clear hkk h4 hge
      have HMK := Lib.hid hmk
      have hUP := Lib.hid hup
      have hOW := Lib.hid hown
      clear hmk hup hown hk
      go_wp2_with fail
      refine wp_region_ord [(0, true), (1, true), (2, true), (3, true), (4, true), (5, true), (6, true), (7, true), (8, true), (9, true), (10, true), (11, true), (12, true), (13, true), (14, true), (15, true)] (by kernel_rfl) (by kernel_rfl) (Kept wr) (Upd.refl _ wr).drew ?_
      simp only [ordOps, List.getD_cons_zero, List.getD_cons_succ]
      iterate 16 (refine wpOrd_held (fun K hK => ?_); go_simp; first | (apply Exists.intro; refine ⟨fun W hW => ?_, hK _ ?_⟩; (go_simp; first | done | exact rfl); clear hK K) | (refine hK _ ?_; clear hK K))
      refine wpOrd_nil ?_
      clear f0 f1 f2 f3 f4
      have HF := Lib.hid (And.intro (own_base (OwnRows.drew hOW.out) HX.out.2.2.size) (show Kept w wr.drew from HX.out.2.2.then (hUP.out.then (Upd.refl (fun _ => False) wr).drew (fun _ _ h => h)) (fun _ _ h => h)))
      clear hOW hUP
      go_wp2
      all_goals
        go_ret
        exact ⟨_, rfl, HF.out.1, HF.out.2⟩

set_option maxHeartbeats 1000000 in
set_option maxRecDepth 20000 in
theorem fetch_Root {w : World} {B f m1 m2 b r q n gs cs : Nat} {root : Dig} {O : Option (List Bytes)} {s : KM × BM} {hv ov : Value} (h : FetI w B f m1 m2 b r q n root O s gs cs hv ov) :
    Calls Try.prog 72 #[.pointer (some ⟨f, 0, none⟩)] w fun e W => e = .returned (.agg (dA root)) ∧ Kept w W := by
  have hr1 : Blk (w.alloc (.cells (dA dig0) 46)) w.heap.size 46 (encB dig0.1) := Blk.new w _ _
  have hk1 : Kept w (w.alloc (.cells (dA dig0) 46)) := (Upd.refl _ w).alloc _
  generalize hW1 : w.alloc (.cells (dA dig0) 46) = w1 at *
  have c0 := (h.kept hk1).c.2.2.1
  obtain ⟨s1, s2⟩ := (h.kept hk1).top
  obtain ⟨e1, e2, e3⟩ := dig_end root hr1
  have HY : Hid (Kept w (w1.setRow w.heap.size (dA root)) ∧ segB (w1.setRow w.heap.size (dA root)) ⟨w.heap.size, 0, none⟩ 32 = true ∧ segV (w1.setRow w.heap.size (dA root)) ⟨w.heap.size, 0, none⟩ 32 = dA root) := ⟨Upd.setRow hk1 _ _ (fun h => absurd h (Nat.lt_irrefl _)), e2, e3⟩
  clear e2 e3 h hk1 hr1
  go_enter Try.func72, Try.ntmps72
  go_wp2_with fail
  refine (fetch_none c0).mono ?_
  rintro e W ⟨rfl, rfl⟩
  go_wp2
  refine bodyPost_ret (v := .agg (dA root)) ?_ rfl ⟨rfl, HY.out.1⟩
  rw [results_seg (P := Try.prog) (fn := Try.f72) (p := 2) (ty := 46) rfl _ _ ⟨w.heap.size, 0, none⟩ 32 _ rfl Try.underlying46 rfl sizeOf46 HY.out.2.1, HY.out.2.2]
end Go.Proofs.Ytnncpjekcljfbaa
/- A fetch: learn. -/
namespace Go.Proofs.Ytnncpjekcljfbaa
open Go.RowKit

theorem fetV_c {W : World} {f b gs m cs m1 m2 : Nat} {root : Dig} {hv ov : Value} (h : Blk W f 131 (fetV b root gs m cs m1 m2 hv ov)) : W.cell? ⟨f, 0, none⟩ = some (.pointer (some ⟨b, 0, none⟩)) ∧ W.cell? ⟨f, 33, none⟩ = some (.slice (some ⟨gs, 0, none⟩) m cs) ∧ W.cell? ⟨f, 34, none⟩ = some (.map (some m1)) ∧ W.cell? ⟨f, 35, none⟩ = some (.map (some m2)) ∧ W.cell? ⟨f, 36, none⟩ = some hv ∧ W.cell? ⟨f, 37, none⟩ = some ov := by
  have hl : (encB root.1).length = 32 := by rw [encB_length, root.2]
  have h1 : ∀ k, (fetV b root gs m cs m1 m2 hv ov)[33 + k]? = [.slice (some ⟨gs, 0, none⟩) m cs, .map (some m1), .map (some m2), hv, ov][k]? := fun k => by
    rw [fetV, show 33 + k = (32 + k) + 1 by omega, List.getElem?_cons_succ, List.getElem?_append_right (by omega), hl, Nat.add_sub_cancel_left]
  exact ⟨h.cell rfl, h.cell (h1 0), h.cell (h1 1), h.cell (h1 2), h.cell (h1 3), h.cell (h1 4)⟩
@[go_sem] theorem dss_eq_nil (w : World) (a : Option Addr) (n c n' c' : Nat) : (binOp .eql 63 (.slice a n c) (.slice none n' c')).run Try.prog w = .ok (.bool a.isNone) w := Lib.run_eql_slice_nil w _ _ a n c n' c' Try.underlying63
def downF (gf gd : Nat) : Value := .func (.func 110) #[] #[.pointer (some ⟨gf, 0, none⟩), .pointer (some ⟨gd, 0, none⟩)]
attribute [local irreducible] wpOrd
/-- the cells of the closure -/
structure Down (W : World) (f gf gd : Nat) : Prop where
  f : Blk W gf 107 [.pointer (some ⟨f, 0, none⟩)]
  d : Blk W gd 152 [downF gf gd]
theorem Down.quiet {W W' : World} {f gf gd : Nat} {S : Nat → Prop} (h : Down W f gf gd) (hq : Quiet W S) (hu : Upd S W W') : Down W' f gf gd := ⟨hq.blk h.f (by decide) hu, hq.blk h.d (by decide) hu⟩
theorem Down.kept {W W' : World} {f gf gd : Nat} (h : Down W f gf gd) (hu : Kept W W') : Down W' f gf gd := h.quiet (Quiet.nil W) hu
theorem Blk.sp {W : World} {g : Nat} {x : Nat × Nat} (h : Blk W g 154 (spA x).toList) : segB W ⟨g, 0, none⟩ 2 = true ∧ segV W ⟨g, 0, none⟩ 2 = spA x := by
  have := h.seg 0 2 (spA x).toList rfl (fun j _ => by rw [Nat.zero_add])
  simpa using this

theorem seg_kept {W W' : World} {a : Addr} {n : Nat} {cs : Array Value} (hn : 0 < n) (h1 : segB W a n = true) (h2 : segV W a n = cs) {S : Nat → Prop} (hu : Upd S W W') (hs : ¬ S a.block) : segB W' a n = true ∧ segV W' a n = cs := by
  have hz : 0 < (segV W a n).size := by rw [segV_size]; exact hn
  have hc := cell_of_seg h1 0 _ (Array.getElem?_eq_getElem hz)
  have hb := World.block_lt_of_cell? _ _ hc
  rw [add_block] at hb
  exact ⟨by rw [segB_same n (hu.block _ hb hs)]; exact h1, by rw [segV_same n (hu.block _ hb hs)]; exact h2⟩
theorem cell_off_map {W : World} {a : Addr} {m : Nat} {v : Value} (h : W.cell? a = some v) (hm : ∃ es c, W.heap[m]? = some (.map es c)) : a.block ≠ m := fun e => by
  obtain ⟨es, c, hm⟩ := hm
  subst e
  simp [World.cell?, hm] at h
section
variable {W W' : World} {B f m1 m2 b r q n gs cs : Nat} {root : Dig} {O : Option (List Bytes)} {s : KM × BM} {hv ov : Value}
theorem FetI.mcell (h : FetI W B f m1 m2 b r q n root O s gs cs hv ov) {a : Addr} {v : Value} (hc : W.cell? a = some v) (hu : Upd (Maps2 m1 m2) W W') : W'.cell? a = some v :=
  hu.cell hc fun e => e.elim (cell_off_map hc h.k.map) (cell_off_map hc h.m.map)
theorem FetI.mseg (h : FetI W B f m1 m2 b r q n root O s gs cs hv ov) {a : Addr} {k : Nat} {vs : Array Value} (hn : 0 < k) (h1 : segB W a k = true) (h2 : segV W a k = vs) (hu : Upd (Maps2 m1 m2) W W') : segB W' a k = true ∧ segV W' a k = vs := by
  have hz : 0 < (segV W a k).size := by rw [segV_size]; exact hn
  have hc := cell_of_seg h1 0 _ (Array.getElem?_eq_getElem hz)
  exact seg_kept hn h1 h2 hu fun e => by
    rw [← add_block a 0] at e
    exact e.elim (cell_off_map hc h.k.map) (cell_off_map hc h.m.map)
end

set_option maxHeartbeats 4000000 in
set_option maxRecDepth 20000 in
theorem fetch_learn1 {B f m1 m2 b r q n gs cs : Nat} {root : Dig} {O : Option (List Bytes)} {hv ov : Value} {gf gd : Nat} : ∀ (l p : Nat) (d : Dig) {w : World} {s : KM × BM} (_ : FetI w B f m1 m2 b r q n root O s gs cs hv ov) (_ : Down w f gf gd) (_ : l < depthM n) (_ : p < sizeL n l),
    Calls Try.prog 110 #[.agg (spA (l, p)), .agg (dA d), .pointer (some ⟨gf, 0, none⟩), .pointer (some ⟨gd, 0, none⟩)] w fun e W => (∃ v, e = .returned v) ∧ FetI W B f m1 m2 b r q n root O (learnM n O l p d s) gs cs hv ov ∧ Upd (Maps2 m1 m2) w W := by
  intro l
  induction l using Nat.strongRecOn with
  | ind l ih =>
  intro p d w s h hd hl hp
  have hsz := h.sz l
  have hdp := depthM_small h.n2
  have hsp : spOk (l, p) := ⟨by show l ≤ _; omega, by show p ≤ _; omega⟩
  have hS1 : Blk (w.alloc (.cells (spA (l, p)) 154)) w.heap.size 154 (spA (l, p)).toList := Blk.new w _ _
  have hk1 : Kept w (w.alloc (.cells (spA (l, p)) 154)) := (Upd.refl _ w).alloc _
  generalize hW1 : w.alloc (.cells (spA (l, p)) 154) = w1 at *
  have hS2 := hS1.alloc (.cells (dA d) 46)
  have hD2 : Blk (w1.alloc (.cells (dA d) 46)) w1.heap.size 46 (encB d.1) := Blk.new w1 _ _
  have hk2 : Kept w (w1.alloc (.cells (dA d) 46)) := hk1.alloc _
  generalize hW2 : w1.alloc (.cells (dA d) 46) = w2 at *
  have HX := Lib.hid (And.intro (h.kept hk2) (And.intro (hd.kept hk2) (And.intro hS2 (And.intro hD2 hk2))))
  have HL := Lib.hid (And.intro hl (And.intro hp (And.intro hsz (And.intro hdp hsp))))
  have HI := Lib.hid ih
  clear h hd hl hp hsz hdp hsp hS1 hk1 hS2 hD2 hk2 ih
  have hq := HX.out.1.quiet
  have f0 : ∀ W, Upd (Maps2 m1 m2) w2 W → W.cell? ⟨gf, 0, none⟩ = some (.pointer (some ⟨f, 0, none⟩)) := fun W hW => (HX.out.2.1.quiet hq hW).f.cell rfl
  have f1 : ∀ W, Upd (Maps2 m1 m2) w2 W → W.cell? ⟨f, 34, none⟩ = some (.map (some m1)) := fun W hW => (fetV_c (hq.blk HX.out.1.blk (by decide) hW)).2.2.1
  have f2 : ∀ W, Upd (Maps2 m1 m2) w2 W → segB W ⟨w.heap.size, 0, none⟩ 2 = true := fun W hW => (Blk.sp (hq.blk HX.out.2.2.1 (by decide) hW)).1
  have f3 : ∀ W, Upd (Maps2 m1 m2) w2 W → segV W ⟨w.heap.size, 0, none⟩ 2 = spA (l, p) := fun W hW => (Blk.sp (hq.blk HX.out.2.2.1 (by decide) hW)).2
  have f4 : ∀ W, Upd (Maps2 m1 m2) w2 W → segB W ⟨w1.heap.size, 0, none⟩ 32 = true := fun W hW => (dig_at (hq.blk HX.out.2.2.2.1 (by decide) hW)).1
  have f5 : ∀ W, Upd (Maps2 m1 m2) w2 W → segV W ⟨w1.heap.size, 0, none⟩ 32 = dA d := fun W hW => (dig_at (hq.blk HX.out.2.2.2.1 (by decide) hW)).2
  clear hq
  go_enter Try.func110, Try.ntmps110
  go_wp2_with fail
  refine wp_region_ord [(0, true), (1, true), (2, true), (3, true), (4, true), (5, true), (6, false)] (by kernel_rfl) (by kernel_rfl) (Upd (Maps2 m1 m2) w2) (Upd.refl _ w2).drew ?_
  simp only [ordOps, List.getD_cons_zero, List.getD_cons_succ]
  iterate 6 (refine wpOrd_held (fun K hK => ?_); go_simp; first | (apply Exists.intro; refine ⟨fun W hW => ?_, hK _ ?_⟩; (go_simp; first | done | exact rfl); clear hK K) | (refine hK _ ?_; clear hK K))
  obtain ⟨w3, hrun, h3, hu3⟩ := (HX.out.1.kept (Upd.refl _ w2).drew).putK l p HL.out.2.2.2.2 d
  have hS3 : Upd (Maps2 m1 m2) w2 w3 := (Upd.refl _ w2).drew.trans (hu3.mono fun k _ e => .inl e)
  have hu2 : Upd (Maps2 m1 m2) w2 w2.drew := (Upd.refl _ w2).drew
  generalize w2.drew = wd at *
  refine wpOrd_step (fun K hK => ?_) hu2
  go_simp
  refine hK _ _ hS3 ?_
  clear hK K hu3 hu2 hrun
  refine wpOrd_nil ?_
  clear f0 f1 f2 f3 f4 f5
  have hq := HX.out.1.quiet
  have H3 := Lib.hid (And.intro h3 (And.intro (HX.out.2.1.quiet hq hS3) (And.intro (hq.blk HX.out.2.2.1 (by decide) hS3) (And.intro (hq.blk HX.out.2.2.2.1 (by decide) hS3) (show Upd (Maps2 m1 m2) w w3 from HX.out.2.2.2.2.to.trans hS3)))))
  clear h3 hq hS3 HX
  have f0 : ∀ W, Kept w3 W → W.cell? ⟨gf, 0, none⟩ = some (.pointer (some ⟨f, 0, none⟩)) := fun W hW => (H3.out.2.1.kept hW).f.cell rfl
  have f1 : ∀ W, Kept w3 W → W.cell? ⟨f, 37, none⟩ = some ov := fun W hW => (H3.out.1.kept hW).c.2.2.2.2.2
  cases O with
  | none =>
    obtain ⟨rfl, rfl⟩ := H3.out.1.old
    go_wp2_with fail
    refine wp_region_ord [(0, true), (1, true), (2, true), (3, true), (4, true), (5, true), (6, true), (7, true), (8, true), (9, true), (10, true), (11, true), (12, true), (13, true), (14, true), (15, true), (16, true), (17, true), (18, true), (19, true), (20, true), (21, true)] (by kernel_rfl) (by kernel_rfl) (Kept w3) (Upd.refl _ w3).drew ?_
    simp only [ordOps, List.getD_cons_zero, List.getD_cons_succ]
    iterate 22 (refine wpOrd_held (fun K hK => ?_); go_simp; first | (apply Exists.intro; refine ⟨fun W hW => ?_, hK _ ?_⟩; (go_simp; first | done | exact rfl); clear hK K) | (refine hK _ ?_; clear hK K))
    refine wpOrd_nil ?_
    clear f0 f1
    have HF := Lib.hid (And.intro (H3.out.1.kept (Upd.refl _ w3).drew) (show Upd (Maps2 m1 m2) w w3.drew from H3.out.2.2.2.2.drew))
    clear H3
    go_wp2
    go_end0
    exact ⟨⟨_, rfl⟩, by rw [learnM_none]; exact HF.out.1, HF.out.2⟩
  | some hs =>
    obtain ⟨g, c, g2, c2, hov, o1, o2, o3⟩ := H3.out.1.old.dig HL.out.1 HL.out.2.1
    have hli : (l : Int) < (depthM n : Int) := by have := HL.out.1; omega
    have hpi : (p : Int) < (sizeL n l : Int) := by have := HL.out.2.1; omega
    have hl0 : (l : Int) ≤ 2000 := by have := HL.out.1; have := HL.out.2.2.2.1; omega
    have f2 : ∀ W, Kept w3 W → W.cell? ⟨w.heap.size, 0, none⟩ = some (.int .i64 (l : Int)) := fun W hW => (H3.out.2.2.1.kept hW).cell (k := 0) rfl
    have f3 : ∀ W, Kept w3 W → W.cell? ⟨w.heap.size, 1, none⟩ = some (.int .i64 (p : Int)) := fun W hW => (H3.out.2.2.1.kept hW).cell (k := 1) rfl
    have f4 : ∀ W, Kept w3 W → W.cell? ⟨g, l, none⟩ = some (.slice (some ⟨g2, 0, none⟩) (sizeL n l) c2) := fun W hW => hW.cell o1 id
    have f5 : ∀ W, Kept w3 W → segB W ⟨g2, p * 32, none⟩ 32 = true := fun W hW => (seg_kept (by omega) o2 o3 hW id).1
    have f6 : ∀ W, Kept w3 W → segV W ⟨g2, p * 32, none⟩ 32 = dA (oldAt hs l p) := fun W hW => (seg_kept (by omega) o2 o3 hW id).2
    have f7 : ∀ W, Kept w3 W → segB W ⟨w1.heap.size, 0, none⟩ 32 = true := fun W hW => (dig_at (H3.out.2.2.2.1.kept hW)).1
    have f8 : ∀ W, Kept w3 W → segV W ⟨w1.heap.size, 0, none⟩ 32 = dA d := fun W hW => (dig_at (H3.out.2.2.2.1.kept hW)).2
    rw [hov] at f1
    have HOV := Lib.hid hov
    clear o1 o2 o3 hov
    obtain ⟨x, hx⟩ : ∃ x, x = oldAt hs l p := ⟨_, rfl⟩
    rw [← hx] at f6
    have HXX := Lib.hid hx
    clear hx
    by_cases hdo : x = d
    rotate_left
    · have hdec : decide (x = d) = false := decide_eq_false hdo
      have HDO := Lib.hid hdo
      clear hdo
      go_wp2_with fail
      refine wp_region_ord [(0, true), (1, true), (2, true), (3, true), (4, true), (5, true), (6, true), (7, true), (8, true), (9, true), (10, true), (11, true), (12, true), (13, true), (14, true), (15, true), (16, true), (17, true), (18, true), (19, true), (20, true), (21, true)] (by kernel_rfl) (by kernel_rfl) (Kept w3) (Upd.refl _ w3).drew ?_
      simp only [ordOps, List.getD_cons_zero, List.getD_cons_succ]
      iterate 22 (refine wpOrd_held (fun K hK => ?_); go_simp; first | (apply Exists.intro; refine ⟨fun W hW => ?_, hK _ ?_⟩; (go_simp; first | done | exact rfl); clear hK K) | (refine hK _ ?_; clear hK K))
      refine wpOrd_nil ?_
      clear f0 f1 f2 f3 f4 f5 f6 f7 f8
      have HF := Lib.hid (And.intro (H3.out.1.kept (Upd.refl _ w3).drew) (show Upd (Maps2 m1 m2) w w3.drew from H3.out.2.2.2.2.drew))
      clear H3
      go_wp2
      go_end0
      exact ⟨⟨_, rfl⟩, by rw [learnM_ne (by rw [← HXX.out]; exact HDO.out)]; exact HF.out.1, HF.out.2⟩
    · subst hdo
      have hdec : decide (x = x) = true := decide_eq_true rfl
      go_wp2_with fail
      refine wp_region_ord [(0, true), (1, true), (2, true), (3, true), (4, true), (5, true), (6, true), (7, true), (8, true), (9, true), (10, true), (11, true), (12, true), (13, true), (14, true), (15, true), (16, true), (17, true), (18, true), (19, true), (20, true), (21, true)] (by kernel_rfl) (by kernel_rfl) (Kept w3) (Upd.refl _ w3).drew ?_
      simp only [ordOps, List.getD_cons_zero, List.getD_cons_succ]
      iterate 22 (refine wpOrd_held (fun K hK => ?_); go_simp; first | (apply Exists.intro; refine ⟨fun W hW => ?_, hK _ ?_⟩; (go_simp; first | done | exact rfl); clear hK K) | (refine hK _ ?_; clear hK K))
      refine wpOrd_nil ?_
      have hu4 : Kept w3 w3.drew := (Upd.refl _ w3).drew
      have H4 := Lib.hid (And.intro (H3.out.1.kept hu4) (And.intro (H3.out.2.1.kept hu4) (And.intro (H3.out.2.2.1.kept hu4) (show Upd (Maps2 m1 m2) w w3.drew from H3.out.2.2.2.2.drew))))
      clear f0 f1 f2 f3 f4 f5 f6 f7 f8 H3 hu4 hdec
      generalize w3.drew = w4 at *
      have f0 : ∀ W, Upd (Maps2 m1 m2) w4 W → W.cell? ⟨gf, 0, none⟩ = some (.pointer (some ⟨f, 0, none⟩)) := fun W hW => H4.out.1.mcell (H4.out.2.1.f.cell rfl) hW
      have c0 : w4.cell? ⟨w.heap.size, 0, none⟩ = some (.int .i64 (l : Int)) := H4.out.2.2.1.cell (k := 0) rfl
      obtain rfl | ⟨l', rfl⟩ : l = 0 ∨ ∃ l', l = l' + 1 := by cases l with | zero => exact .inl rfl | succ l' => exact .inr ⟨l', rfl⟩
      · have hz : ((0 : Nat) : Int) = 0 := rfl
        have hpn : p < n := HL.out.2.1
        obtain ⟨g5, c5, ⟨xA, xn, xc⟩, hhv, q1, q2, q3⟩ := H4.out.1.old.leaf hpn
        simp only at q1
        have hpi2 : (p : Int) < (n : Int) := by omega
        have f1 : ∀ W, Upd (Maps2 m1 m2) w4 W → W.cell? ⟨w.heap.size, 1, none⟩ = some (.int .i64 (p : Int)) := fun W hW => H4.out.1.mcell (H4.out.2.2.1.cell (k := 1) rfl) hW
        have f2 : ∀ W, Upd (Maps2 m1 m2) w4 W → W.cell? ⟨f, 35, none⟩ = some (.map (some m2)) := fun W hW => H4.out.1.mcell H4.out.1.c.2.2.2.1 hW
        have f3 : ∀ W, Upd (Maps2 m1 m2) w4 W → W.cell? ⟨f, 36, none⟩ = some (.slice (some ⟨g5, 0, none⟩) n c5) := fun W hW => H4.out.1.mcell (by rw [← hhv]; exact H4.out.1.c.2.2.2.2.1) hW
        have f4 : ∀ W, Upd (Maps2 m1 m2) w4 W → W.cell? ⟨g5, p, none⟩ = some (.slice xA xn xc) := fun W hW => H4.out.1.mcell q1 hW
        have HQ := Lib.hid (And.intro q2 q3)
        clear q1 q2 q3 hhv
        go_wp2_with fail
        refine wp_region_ord [(0, true), (1, true), (2, true), (3, true), (4, true), (5, true), (6, true), (7, true), (8, true), (9, true), (10, true), (11, true), (12, true), (13, true), (14, false)] (by kernel_rfl) (by kernel_rfl) (Upd (Maps2 m1 m2) w4) (Upd.refl _ w4).drew ?_
        simp only [ordOps, List.getD_cons_zero, List.getD_cons_succ]
        iterate 14 (refine wpOrd_held (fun K hK => ?_); go_simp; first | (apply Exists.intro; refine ⟨fun W hW => ?_, hK _ ?_⟩; (go_simp; first | done | exact rfl); clear hK K) | (refine hK _ ?_; clear hK K))
        have hu4 : Upd (Maps2 m1 m2) w4 w4.drew := (Upd.refl _ w4).drew
        have hq4 := (Quiet.nil w4).leaf HQ.out.1 (Upd.refl _ w4).drew
        obtain ⟨w5, hrun, h5, hu5⟩ := (H4.out.1.kept (Upd.refl _ w4).drew).putM p (by have := HL.out.2.2.1.2; omega) hq4 HQ.out.2
        simp only at hrun
        have hS5 : Upd (Maps2 m1 m2) w4 w5 := hu4.trans (hu5.mono fun k _ e => .inr e)
        have HF := Lib.hid (And.intro h5 (show Upd (Maps2 m1 m2) w w5 from H4.out.2.2.2.trans hS5))
        clear h5 hu5 hq4
        generalize w4.drew = wd at *
        refine wpOrd_step (fun K hK => ?_) hu4
        go_simp
        refine hK _ _ hS5 ?_
        clear hK K hu4 hS5 hrun
        refine wpOrd_nil ?_
        clear f0 f1 f2 f3 f4 c0 H4
        go_wp2
        go_end0
        exact ⟨⟨_, rfl⟩, by rw [learnM_leaf HXX.out.symm]; exact HF.out.1, HF.out.2⟩
      · have hz : ¬ ((l' + 1 : Nat) : Int) = 0 := by omega
        have hl1 : l' + 1 < depthM n := HL.out.1
        have HC := fetch_children H4.out.1 l' p hl1 HL.out.2.1
        obtain ⟨s1, s2⟩ := Blk.sp H4.out.2.2.1
        have c1 : w4.cell? ⟨gf, 0, none⟩ = some (.pointer (some ⟨f, 0, none⟩)) := f0 w4 (Upd.refl _ _)
        clear f0
        go_wp2_with fail
        refine HC.mono ?_
        clear HC
        rintro e w5 ⟨v, rfl, hrow, hu5⟩
        have hk1 : 1 ≤ kidsM n l' p ∧ kidsM n l' p ≤ 4 := by
          have h1 : p < up4 (sizeL n l') := HL.out.2.1
          unfold kidsM
          unfold up4 at h1
          omega
        obtain ⟨k0, hk0⟩ : ∃ k0, k0 = kidsM n l' p := ⟨_, rfl⟩
        rw [← hk0] at hrow hk1
        obtain ⟨gk, ck, hv, -, -, -, -⟩ := OwnRows.get (f := spA) (n := 2) (fun _ => rfl) hrow (k := 0) (by rw [kidsL_length]; omega)
        rw [kidsL_length] at hv
        subst hv
        have H5 := Lib.hid (And.intro (H4.out.1.kept hu5) (And.intro (H4.out.2.1.kept hu5) (And.intro hrow (And.intro hk1 (And.intro hk0 (show Upd (Maps2 m1 m2) w w5 from H4.out.2.2.2.then hu5 (fun _ _ h => h.elim)))))))
        clear hrow hu5 hk1 hk0 c0 c1 s1 s2 H4
        go_wp2_with fail
        go_loopw [18] (fun i wr => ∃ k : Nat, k ≤ k0 ∧ i = .int .i64 (k : Int) ∧ FetI wr B f m1 m2 b r q n root (some hs) (kidsFold n hs l' p k (putK s.1 (l' + 1) p x, s.2)) gs cs hv ov ∧ Upd (Maps2 m1 m2) w5 wr) (fun i _ => 10 - (intOf i).toNat)
        case atStart => exact ⟨0, Nat.zero_le _, rfl, H5.out.1, Upd.refl _ _⟩
        case round =>
          obtain ⟨k, hk, rfl, hfet, hup⟩ := hrel
          rcases Nat.lt_or_ge k k0 with hlt | hge
          · have hki : (k : Int) < (k0 : Int) := by omega
            have hk5 : (k : Int) ≤ 4 := by have := H5.out.2.2.2.1; omega
            have HR := Lib.hid (And.intro hfet (And.intro hup hlt))
            obtain ⟨gk', ck', hv', -, -, t1, t2⟩ := OwnRows.get (f := spA) (n := 2) (fun _ => rfl) H5.out.2.2.1 (k := k) (by rw [kidsL_length]; exact hlt)
            simp only [Value.slice.injEq, Option.some.injEq, Addr.mk.injEq] at hv'
            obtain ⟨⟨rfl, -⟩, -, -⟩ := hv'
            rw [kidsL_get] at t2
            obtain ⟨t1, t2⟩ := H5.out.1.mseg (by omega) t1 t2 hup
            have hmm : 4 * p + k < sizeL n l' := by have h6 := H5.out.2.2.2.2.1; unfold kidsM at h6; omega
            obtain ⟨m, hmk⟩ : ∃ m, m = 4 * p + k := ⟨_, rfl⟩
            rw [← hmk] at t2 hmm
            have HMK := Lib.hid (And.intro hmk hmm)
            obtain ⟨g', c', g6, c6, hov, o1, o2, o3⟩ := hfet.old.dig (l := l') (p := m) (by omega) hmm
            rw [HOV.out] at hov
            simp only [Value.slice.injEq, Option.some.injEq, Addr.mk.injEq] at hov
            obtain ⟨⟨rfl, -⟩, -, rfl⟩ := hov
            clear hmk
            have hrb : (storeRow 154 (.pointer (some ⟨wr.heap.size, 0, none⟩)) (.agg (spA (l', m)))).run Try.prog (wr.alloc (.cells #[.int .i64 0, .int .i64 0] 154)) = .ok .skip (wr.alloc (.cells (spA (l', m)) 154)) := by
              rw [row_store154 _ _ _ (rowB_new wr #[.int .i64 0, .int .i64 0] 154 wr.heap.size 2 rfl rfl) rfl rfl, setRow_new _ _ _ _ _ rfl]
            go_wp2_with fail
            clear hrb
            have hka : Kept wr (wr.alloc (.cells (spA (l', m)) 154)) := (Upd.refl _ wr).alloc _
            have hSA : Blk (wr.alloc (.cells (spA (l', m)) 154)) wr.heap.size 154 (spA (l', m)).toList := Blk.new wr _ _
            have hfa := hfet.kept hka
            have hda := (H5.out.2.1.quiet H5.out.1.quiet hup).kept hka
            have o1 := hka.cell o1 id
            obtain ⟨o2, o3⟩ := seg_kept (by omega) o2 o3 hka id
            have hua : Upd (Maps2 m1 m2) w5 (wr.alloc (.cells (spA (l', m)) 154)) := hup.alloc _
            obtain ⟨wa, hwa⟩ : ∃ wa, wa = wr.alloc (.cells (spA (l', m)) 154) := ⟨_, rfl⟩
            rw [← hwa] at hSA hfa hda o1 o2 o3 hua
            have hli : (l' : Int) < (depthM n : Int) := by omega
            have hmi : (m : Int) < (sizeL n l' : Int) := by omega
            have g0 : ∀ W, Upd (Maps2 m1 m2) wa W → W.cell? ⟨gd, 0, none⟩ = some (.func (.func 110) #[] #[.pointer (some ⟨gf, 0, none⟩), .pointer (some ⟨gd, 0, none⟩)]) := fun W hW => hfa.mcell (hda.d.cell rfl) hW
            have g1 : ∀ W, Upd (Maps2 m1 m2) wa W → W.cell? ⟨gf, 0, none⟩ = some (.pointer (some ⟨f, 0, none⟩)) := fun W hW => hfa.mcell (hda.f.cell rfl) hW
            have g2 : ∀ W, Upd (Maps2 m1 m2) wa W → W.cell? ⟨f, 37, none⟩ = some (.slice (some ⟨g, 0, none⟩) (depthM n) c) := fun W hW => hfa.mcell (by rw [← HOV.out]; exact hfa.c.2.2.2.2.2) hW
            have g3 : ∀ W, Upd (Maps2 m1 m2) wa W → segB W ⟨wr.heap.size, 0, none⟩ 2 = true := fun W hW => (hfa.mseg (by omega) (Blk.sp hSA).1 (Blk.sp hSA).2 hW).1
            have g4 : ∀ W, Upd (Maps2 m1 m2) wa W → segV W ⟨wr.heap.size, 0, none⟩ 2 = spA (l', m) := fun W hW => (hfa.mseg (by omega) (Blk.sp hSA).1 (Blk.sp hSA).2 hW).2
            have g5 : ∀ W, Upd (Maps2 m1 m2) wa W → W.cell? ⟨wr.heap.size, 0, none⟩ = some (.int .i64 (l' : Int)) := fun W hW => hfa.mcell (hSA.cell (k := 0) rfl) hW
            have g6' : ∀ W, Upd (Maps2 m1 m2) wa W → W.cell? ⟨wr.heap.size, 1, none⟩ = some (.int .i64 (m : Int)) := fun W hW => hfa.mcell (hSA.cell (k := 1) rfl) hW
            have g7 : ∀ W, Upd (Maps2 m1 m2) wa W → W.cell? ⟨g, l', none⟩ = some (.slice (some ⟨g6, 0, none⟩) (sizeL n l') c6) := fun W hW => hfa.mcell o1 hW
            have g8 : ∀ W, Upd (Maps2 m1 m2) wa W → segB W ⟨g6, m * 32, none⟩ 32 = true := fun W hW => (hfa.mseg (by omega) o2 o3 hW).1
            have g9 : ∀ W, Upd (Maps2 m1 m2) wa W → segV W ⟨g6, m * 32, none⟩ 32 = dA (oldAt hs l' m) := fun W hW => (hfa.mseg (by omega) o2 o3 hW).2
            have HA := Lib.hid (And.intro hfa (And.intro hda (And.intro hua hlt)))
            clear hfet hup hlt hk hmm hSA hfa hda o1 o2 o3 hua hka HR
            rw [← hwa]
            clear hwa
            have hu6 : Upd (Maps2 m1 m2) wa wa.drew := (Upd.refl _ wa).drew
            refine wp_region_ord [(0, true), (1, true), (2, true), (3, true), (4, true), (5, true), (6, true), (7, true), (8, true), (9, true), (10, true), (11, true), (12, true), (13, true), (14, false)] (by kernel_rfl) (by kernel_rfl) (Upd (Maps2 m1 m2) wa) hu6 ?_
            simp only [ordOps, List.getD_cons_zero, List.getD_cons_succ]
            iterate 14 (refine wpOrd_held (fun K hK => ?_); go_simp; first | (apply Exists.intro; refine ⟨fun W hW => ?_, hK _ ?_⟩; (go_simp; first | done | exact rfl); clear hK K) | (refine hK _ ?_; clear hK K))
            have hfd := HA.out.1.kept (Upd.refl _ wa).drew
            have hdd := HA.out.2.1.kept (Upd.refl _ wa).drew
            clear g0 g1 g2 g3 g4 g5 g6' g7 g8 g9
            generalize wa.drew = wd at *
            refine wpOrd_step (fun K hK => ?_) hu6
            go_simp
            have HG := HI.out l' (Nat.lt_succ_self l') m (oldAt hs l' m) hfd hdd (by omega) HMK.out.2
            clear hfd hdd
            refine HG.mono ?_
            clear HG
            rintro e w6 ⟨⟨v, rfl⟩, hf6, hu7⟩
            have hS7 := hu6.trans hu7
            refine hK _ _ hS7 ?_
            clear hK K
            have HF := Lib.hid (And.intro hf6 (show Upd (Maps2 m1 m2) w5 w6 from HA.out.2.2.1.trans hS7))
            clear hf6 hu7 hS7 hu6
            refine wpOrd_nil ?_
            go_wp2_with fail
            go_roundw
            case rel => exact ⟨k + 1, HA.out.2.2.2, by show _ = _; go_num, by rw [kidsFold_succ, ← HMK.out.1]; exact HF.out.1, HF.out.2⟩
            case measure => have := HA.out.2.2.2; have := H5.out.2.2.2.1; simp [intOf]; omega
          · obtain rfl : k = k0 := by omega
            have hki : ¬ (k : Int) < (k : Int) := by omega
            have HF := Lib.hid (And.intro hfet (show Upd (Maps2 m1 m2) w wr from H5.out.2.2.2.2.2.trans hup))
            clear hfet hup hge hk
            go_wp2
            go_end0
            exact ⟨⟨_, rfl⟩, by rw [learnM_node HXX.out.symm, ← H5.out.2.2.2.2.1]; exact HF.out.1, HF.out.2⟩
end Go.Proofs.Ytnncpjekcljfbaa
/- A fetch: learn, outside. -/
namespace Go.Proofs.Ytnncpjekcljfbaa
open Go.RowKit

set_option maxHeartbeats 2000000 in
set_option maxRecDepth 20000 in
theorem fetch_learn {w : World} {B f m1 m2 b r q n gs cs : Nat} {root : Dig} {O : Option (List Bytes)} {s : KM × BM} {hv ov : Value} (h : FetI w B f m1 m2 b r q n root O s gs cs hv ov) (l p : Nat) (d : Dig) (hl : l < depthM n) (hp : p < sizeL n l) :
    Calls Try.prog 95 #[.pointer (some ⟨f, 0, none⟩), .agg (spA (l, p)), .agg (dA d)] w fun e W => (∃ v, e = .returned v) ∧ FetI W B f m1 m2 b r q n root O (learnM n O l p d s) gs cs hv ov ∧ Upd (Maps2 m1 m2) w W := by
  have a1 : Blk (w.alloc (.cells #[.pointer (some ⟨f, 0, none⟩)] 107)) w.heap.size 107 [.pointer (some ⟨f, 0, none⟩)] := Blk.new w _ _
  have k1 : Kept w (w.alloc (.cells #[.pointer (some ⟨f, 0, none⟩)] 107)) := (Upd.refl _ w).alloc _
  generalize hW1 : w.alloc (.cells #[.pointer (some ⟨f, 0, none⟩)] 107) = w1 at *
  have a2 := a1.alloc (.cells (spA (l, p)) 154)
  have b2 : Blk (w1.alloc (.cells (spA (l, p)) 154)) w1.heap.size 154 (spA (l, p)).toList := Blk.new w1 _ _
  have k2 : Kept w (w1.alloc (.cells (spA (l, p)) 154)) := k1.alloc _
  generalize hW2 : w1.alloc (.cells (spA (l, p)) 154) = w2 at *
  have a3 := a2.alloc (.cells (dA d) 46)
  have b3 := b2.alloc (.cells (dA d) 46)
  have c3 : Blk (w2.alloc (.cells (dA d) 46)) w2.heap.size 46 (encB d.1) := Blk.new w2 _ _
  have k3 : Kept w (w2.alloc (.cells (dA d) 46)) := k2.alloc _
  generalize hW3 : w2.alloc (.cells (dA d) 46) = w3 at *
  have a4 := a3.alloc (.cells #[downF w.heap.size w3.heap.size] 152)
  have b4 := b3.alloc (.cells #[downF w.heap.size w3.heap.size] 152)
  have c4 := c3.alloc (.cells #[downF w.heap.size w3.heap.size] 152)
  have d4 : Blk (w3.alloc (.cells #[downF w.heap.size w3.heap.size] 152)) w3.heap.size 152 [downF w.heap.size w3.heap.size] := Blk.new w3 _ _
  have k4 : Kept w (w3.alloc (.cells #[downF w.heap.size w3.heap.size] 152)) := k3.alloc _
  have HX := Lib.hid (And.intro (h.kept k4) (And.intro (show Down (w3.alloc (.cells #[downF w.heap.size w3.heap.size] 152)) f w.heap.size w3.heap.size from ⟨a4, d4⟩) (And.intro k4 (And.intro hl hp))))
  obtain ⟨s1, s2⟩ := Blk.sp b4
  obtain ⟨s3, s4⟩ := dig_at c4
  clear h a1 k1 a2 b2 k2 a3 b3 c3 k3 a4 b4 c4 d4 k4 hl hp
  have hst : (store ⟨w3.heap.size, 0, none⟩ (downF w.heap.size w3.heap.size)).run Try.prog (w3.alloc (.cells #[.nilFunc] 152)) = .ok () (w3.alloc (.cells #[downF w.heap.size w3.heap.size] 152)) := by
    have hb : Blk (w3.alloc (.cells #[.nilFunc] 152)) w3.heap.size 152 [.nilFunc] := Blk.new w3 _ _
    have hs : (w3.alloc (.cells #[.nilFunc] 152)).setCell ⟨w3.heap.size, 0, none⟩ (downF w.heap.size w3.heap.size) = w3.alloc (.cells #[downF w.heap.size w3.heap.size] 152) := by
      rw [setCell_eq_setRow _ w3.heap.size 0 _ _ (0, 0) _ hb, setRow_new _ _ _ _ _ rfl]
      rfl
    rw [run_store _ _ _ _ _ rfl, hb.cell (k := 0) rfl]
    simp only [hb.thaw 0]
    show Result.ok () _ = _
    rw [hs]
  unfold downF at *
  go_enter Try.func95, Try.ntmps95
  go_wp2_with fail
  have HG := fetch_learn1 l p d HX.out.1 HX.out.2.1 HX.out.2.2.2.1 HX.out.2.2.2.2
  unfold downF at HG
  refine HG.mono ?_
  clear HG
  rintro e w5 ⟨⟨v, rfl⟩, h5, hu5⟩
  have HF := Lib.hid (And.intro h5 (show Upd (Maps2 m1 m2) w w5 from HX.out.2.2.1.to.trans hu5))
  clear h5 hu5 HX s1 s2 s3 s4 hst
  go_wp2
  go_end0
  exact ⟨⟨_, rfl⟩, HF.out.1, HF.out.2⟩
end Go.Proofs.Ytnncpjekcljfbaa
/- slices.Backward over sizes: its contract. -/
namespace Go.Proofs.Ytnncpjekcljfbaa
open Go.RowKit Go.Shelf

attribute [local go_sem] Oper.semAt_some
/-- what has come when k rounds are over -/
def upto {α : Type} (f : Nat → α) (k : Nat) : List α := (List.range k).map f
theorem upto_succ {α : Type} (f : Nat → α) (k : Nat) : upto f (k + 1) = upto f k ++ [f k] := by simp [upto, List.range_succ]
theorem upto_length {α : Type} (f : Nat → α) (k : Nat) : (upto f k).length = k := by simp [upto]
def encX (x : Nat × Nat) : Array Value := #[.int .i64 (x.1 : Int), .int .i64 (x.2 : Int)]

set_option maxRecDepth 100000 in
set_option maxHeartbeats 2000000 in
theorem back1_in {α : Type} (g : Nat → α) (en : α → Nat × Nat) (F : Fence) (n : Nat) (h7 : F.fn 111) (hro : F.round = none) (hn : 1 ≤ n) (l Bs n₀ b m cap : Nat) (z : Nat → Nat) (hreach : m ≤ 2000) (hg : ∀ k, k < m → en (g k) = (m - 1 - k, z (m - 1 - k))) (hb : b < n₀) (hB : Bs < n₀) (J Jx : List α → World → Prop)
    (hY : ∀ pre x W, J pre W → pre.length < m → YieldAt F (n - 1) Try.prog l (encX (en x)) W fun e W' =>
      (e = .returned (.bool true) ∧ J (pre ++ [x]) W' ∧ Below n₀ W W') ∨ (e = .returned (.bool false) ∧ Jx (pre ++ [x]) W'))
    (W : World) (hBs : W.cell? ⟨Bs, 0, none⟩ = some (.slice (some ⟨b, 0, none⟩) m cap)) (hc : ∀ j, j < m → W.cell? ⟨b, j, none⟩ = some (.int .i64 (z j : Int))) (h0 : J [] W) :
    CallsIn F n Try.prog 111 #[.func (.yield l) #[] #[], .pointer (some ⟨Bs, 0, none⟩)] W fun e W' => (∃ v, e = .returned v) ∧
      ((∃ ys, ys = upto g m ∧ J ys W') ∨ (∃ pre, (∃ k, k ≤ m ∧ pre = upto g k) ∧ Jx pre W')) := by
  refine callsIn_of_wp Try.func111 rfl h7 ?_ hro
  simp only [Try.ntmps111, List.size_toArray, List.length_cons, List.length_nil, Nat.reduceAdd, Nat.reduceSub, Array.replicate_succ, Array.replicate_zero, List.push_toArray, List.append_toArray, List.nil_append, List.cons_append]
  have hm0 : (m : Int) ≤ 2000 := by omega
  gi_wp2
  gi_loopw [3] (fun i wr => ∃ k : Nat, k ≤ m ∧ i = .int .i64 ((m : Int) - 1 - (k : Int)) ∧ J (upto g k) wr ∧ Below n₀ W wr)
    (fun i _ => ((intOf i) + 1).toNat)
  case atStart => exact ⟨0, Nat.zero_le _, (by first | (show Value.int _ _ = Value.int _ _; congr 1; omega) | rfl | simp), h0, Below.refl _ _⟩
  case round =>
    obtain ⟨k, hk, rfl, hJs, hnx⟩ := hrel
    have hcx : wr.cell? ⟨Bs, 0, none⟩ = some (.slice (some ⟨b, 0, none⟩) m cap) := (hnx.cell (p := ⟨Bs, 0, none⟩) hB).trans hBs
    by_cases hlt : k < m
    · obtain ⟨i, hi⟩ : ∃ i, i = m - 1 - k := ⟨_, rfl⟩
      have hcy : wr.cell? ⟨b, i, none⟩ = some (.int .i64 (z i : Int)) := (hnx.cell (p := ⟨b, i, none⟩) hb).trans (hc i (by omega))
      have hii : (m : Int) - 1 - (k : Int) = (i : Int) := by omega
      rw [hii]
      obtain ⟨fn, tmps, assign, body, hy, hR⟩ := hY _ (g k) wr hJs (by rw [upto_length]; exact hlt)
      have hgk := hg k hlt
      rw [← hi] at hgk
      rw [hgk] at hy
      unfold encX at hy
      dsimp only at hy
      have him : (i : Int) < (m : Int) := by omega
      have HH := Lib.hid (And.intro hi (And.intro hii hlt))
      clear hi hii hlt hk hgk
      gi_wp2
      refine hR.mono ?_
      rintro e W3 (⟨rfl, hJ3, hk3⟩ | ⟨rfl, hJx3⟩)
      · gi_wp2
        go_roundw
        case rel => exact ⟨k + 1, HH.out.2.2, (by have := HH.out.2.1; first | (show Value.int _ _ = Value.int _ _; congr 1; omega) | rfl), (by rw [upto_succ]; exact hJ3), hnx.trans hk3⟩
        case measure => simp [intOf] <;> omega
      · gi_wp2
        refine bodyPost_ret (results_none rfl _ _ _) rfl ?_
        exact ⟨⟨_, rfl⟩, .inr ⟨_, ⟨k + 1, HH.out.2.2, by rw [upto_succ]⟩, hJx3⟩⟩
    · obtain rfl : k = m := by omega
      have hneg : ¬ (0 : Int) ≤ (k : Int) - 1 - (k : Int) := by omega
      gi_wp2
      go_end0
      exact ⟨⟨_, rfl⟩, .inl (by first | exact hJs | exact ⟨_, rfl, hJs⟩)⟩

set_option maxHeartbeats 1000000 in
theorem back_in (F : Fence) (n : Nat) (h5 : F.fn 97) (hro : F.round = none) (a : Option Addr) (len cap : Nat) (w : World) :
    CallsIn F n Try.prog 97 #[.slice a len cap] w fun e w' => e = .returned (.func (.func 111) #[] #[.pointer (some ⟨w.heap.size, 0, none⟩)]) ∧ w' = w.alloc (.cells #[.slice a len cap] 127) := by
  refine callsIn_of_wp Try.func97 rfl h5 ?_ hro
  simp only [Try.ntmps97, List.size_toArray, List.length_cons, List.length_nil, Nat.reduceAdd, Nat.reduceSub, Array.replicate_succ, Array.replicate_zero, List.push_toArray, List.append_toArray, List.nil_append, List.cons_append]
  gi_wp2
  go_ret
  exact ⟨rfl, rfl⟩

theorem back_stops {α : Type} (g : Nat → α) (en : α → Nat × Nat) (F : Fence) (n : Nat) (h8 : F.fn 111) (hro : F.round = none) (hn : 1 ≤ n) (Bs n₀ b m cap : Nat) (z : Nat → Nat) (hreach : m ≤ 2000) (hg : ∀ k, k < m → en (g k) = (m - 1 - k, z (m - 1 - k))) (w : World) (hBn : Bs < n₀) (hbn : b < n₀) (hn₀ : n₀ ≤ w.heap.size)
    (hcB : w.cell? ⟨Bs, 0, none⟩ = some (.slice (some ⟨b, 0, none⟩) m cap)) (hc : ∀ j, j < m → w.cell? ⟨b, j, none⟩ = some (.int .i64 (z j : Int))) :
    SeqStopsK F n Try.prog 111 #[.pointer (some ⟨Bs, 0, none⟩)] (fun x => encX (en x)) (Below n₀) (fun ys => ys = upto g m)
      (fun pre => ∃ k, k ≤ m ∧ pre = upto g k) m w := fun l J Jx W hW _ _ hY h0 => by
  have hc1 := (hW.cell (p := ⟨Bs, 0, none⟩) (show Bs < w.heap.size by omega)).trans hcB
  exact back1_in g en F n h8 hro hn l Bs n₀ b m cap z hreach hg hbn hBn J Jx hY W hc1 (fun j hj => (hW.cell (p := ⟨b, j, none⟩) (show b < w.heap.size by omega)).trans (hc j hj)) h0
end Go.Proofs.Ytnncpjekcljfbaa
/- A fetch: Ask. -/
namespace Go.Proofs.Ytnncpjekcljfbaa
open Go.RowKit Go.Shelf

attribute [local go_sem] Oper.semAt_some
/-- what Ask answers -/
def askV : Option (Nat × Nat) → Value
  | none => .tuple #[.int .i64 0, .int .i64 0, .bool false]
  | some x => .tuple #[.int .i64 (x.1 : Int), .int .i64 (x.2 : Int), .bool true]
theorem askL_none {n : Nat} {s : KM × BM} {l : Nat} (h : ∀ j, j < sizeL n l → lacksM s l j = false) : askL n s l = none := by
  unfold askL
  rw [List.find?_eq_none]
  intro x hx
  rw [h x (List.mem_range.1 hx)]; simp
theorem askL_some {n : Nat} {s : KM × BM} {l k : Nat} (h : ∀ j, j < k → lacksM s l j = false) (hk : k < sizeL n l) (hl : lacksM s l k = true) : askL n s l = some k := by
  unfold askL
  rw [List.find?_range_eq_some]
  exact ⟨hl, List.mem_range.2 hk, fun j hj => by rw [h j hj]; rfl⟩
/-- a level and how many places it has -/
abbrev LvX (n : Nat) : Type := { x : Nat × Nat // x.1 < depthM n ∧ x.2 = sizeL n x.1 }
theorem depthM_pos (n : Nat) : 1 ≤ depthM n := by rw [depthM]; split <;> omega
def backG (n k : Nat) : LvX n := ⟨(depthM n - 1 - k, sizeL n (depthM n - 1 - k)), by have := depthM_pos n; show depthM n - 1 - k < _; omega, rfl⟩
theorem askD_upto {n : Nat} {s : KM × BM} : ∀ k, k ≤ depthM n → (∀ x ∈ upto (backG n) k, askL n s x.1.1 = none) → askM n s = askD n s (depthM n - k)
  | 0, _, _ => rfl
  | k + 1, hk, h => by
    rw [upto_succ] at h
    rw [askD_upto k (by omega) fun x hx => h x (List.mem_append_left _ hx)]
    obtain ⟨j, hj⟩ : ∃ j, depthM n - k = j + 1 := ⟨depthM n - k - 1, by omega⟩
    have h1 := h (backG n k) (List.mem_append_right _ (List.mem_singleton.2 rfl))
    have e : (backG n k).1.1 = j := by show depthM n - 1 - k = j; omega
    rw [e] at h1
    rw [hj, show depthM n - (k + 1) = j by omega]
    simp only [askD, h1]
theorem askD_hit {n : Nat} {s : KM × BM} {k p : Nat} (hk : k < depthM n) (h : ∀ x ∈ upto (backG n) k, askL n s x.1.1 = none) (hp : askL n s (backG n k).1.1 = some p) : askM n s = some ((backG n k).1.1, p) := by
  rw [askD_upto k (by omega) h]
  obtain ⟨j, hj⟩ : ∃ j, depthM n - k = j + 1 := ⟨depthM n - k - 1, by omega⟩
  have e : (backG n k).1.1 = j := by show depthM n - 1 - k = j; omega
  rw [e] at hp ⊢
  rw [hj]
  simp only [askD, hp]
/-- none of these levels lacks something -/
def NoneAll (n : Nat) (s : KM × BM) (pre : List (LvX n)) : Prop := ∀ x ∈ pre, askL n s x.1.1 = none
theorem NoneAll.snoc {n : Nat} {s : KM × BM} {pre : List (LvX n)} {x : LvX n} (h : NoneAll n s pre) (hx : askL n s x.1.1 = none) : NoneAll n s (pre ++ [x]) := fun y hy =>
  (List.mem_append.1 hy).elim (h y) (fun e => by rw [List.mem_singleton.1 e]; exact hx)
/-- one of them does, none ahead of it -/
def HitAt (n : Nat) (s : KM × BM) (pre : List (LvX n)) (l p : Nat) : Prop := ∃ ini last, pre = ini ++ [last] ∧ NoneAll n s ini ∧ askL n s last.1.1 = some p ∧ last.1.1 = l
theorem below_kept {w W : World} (h : Below w.heap.size w W) : Kept w W := ⟨h.os, h.tape, h.output, h.size, fun k hk _ => h.block k hk⟩
theorem box_own {A B : World} {row : Option Nat} {b t : Nat} {v : Value} (h : Boxed A b t v) (hg : A.grownBy B row) (hr : ∀ r, row = some r → ∃ o : Obj, A.heap[r]? = some o ∧ o.isCells = false) : Boxed B b t v :=
  boxed_own (β := Unit) b t (fun _ => v) () A B row h hg hr
theorem box_keep {A B : World} {b t : Nat} {v : Value} (h : Boxed A b t v) (hu : Kept A B) : Boxed B b t v := hu.heap h id
theorem keeps_of_kept {W W' : World} (h : Kept W W') : KeepsOthers W W' := ⟨h.size, fun _ _ hk _ => h.heap hk id⟩

set_option maxRecDepth 100000 in
set_option maxHeartbeats 4000000 in
theorem fetch_Ask {w : World} {B f m1 m2 b r q n gs cs : Nat} {root : Dig} {O : Option (List Bytes)} {s : KM × BM} {hv ov : Value} (h : FetI w B f m1 m2 b r q n root O s gs cs hv ov) :
    Calls Try.prog 67 #[.pointer (some ⟨f, 0, none⟩)] w fun e W => e = .returned (askV (askM n s)) ∧ Kept w W := by
  have x1 := Boxed.new w 107 (.pointer (some ⟨f, 0, none⟩))
  have k1 : Kept w (w.alloc (.cells #[.pointer (some ⟨f, 0, none⟩)] 107)) := (Upd.refl _ w).alloc _
  generalize hW1 : w.alloc (.cells #[.pointer (some ⟨f, 0, none⟩)] 107) = w1 at *
  have x2 := Boxed.new w1 3 (.int .i64 0)
  have k2 := k1.alloc (.cells #[.int .i64 0] 3)
  have x1 := x1.alloc (.cells #[.int .i64 0] 3)
  generalize hW2 : w1.alloc (.cells #[.int .i64 0] 3) = w2 at *
  have x3 := Boxed.new w2 3 (.int .i64 0)
  have k3 := k2.alloc (.cells #[.int .i64 0] 3)
  have x1 := x1.alloc (.cells #[.int .i64 0] 3)
  have x2 := x2.alloc (.cells #[.int .i64 0] 3)
  generalize hW3 : w2.alloc (.cells #[.int .i64 0] 3) = w3 at *
  have x4 := Boxed.new w3 4 (.bool false)
  have k4 := k3.alloc (.cells #[.bool false] 4)
  have x1 := x1.alloc (.cells #[.bool false] 4)
  have x2 := x2.alloc (.cells #[.bool false] 4)
  have x3 := x3.alloc (.cells #[.bool false] 4)
  generalize hW4 : w3.alloc (.cells #[.bool false] 4) = w4 at *
  have c0 := (h.kept k4).c.2.2.1
  have c1 := (h.kept k4).c.2.1
  have y1 := x1.cell
  refine (callsIn_wide (n := 8)).1 ?_
  refine callsIn_of_wp_marks Try.func67 rfl trivial ?_ rfl
  simp only [Try.ntmps67, List.size_toArray, List.length_cons, List.length_nil, Nat.reduceAdd, Nat.reduceSub, Array.replicate_succ, Array.replicate_zero, List.push_toArray, List.append_toArray, List.nil_append, List.cons_append]
  gi_wp2_with (refine ⟨trivial, ?_⟩; first | (gi_at_call 96; refine (callsIn_wide.2 (fetch_none c0)).mono ?_; rintro e w' ⟨rfl, rfl⟩) | (gi_at_call 97; refine (back_in Fence.wide _ trivial rfl _ _ _ _).mono ?_; rintro e w' ⟨rfl, rfl⟩))
  have x5 := Boxed.new w4 127 (.slice (some ⟨gs, 0, none⟩) (depthM n) cs)
  have hgs : gs < w4.heap.size := Nat.lt_of_lt_of_le (World.ownsRow.lt h.szs gs rfl).2 k4.size
  have hcz : ∀ j, j < (depthM n) → (w4.alloc (.cells #[.slice (some ⟨gs, 0, none⟩) (depthM n) cs] 127)).cell? ⟨gs, j, none⟩ = some (.int .i64 (sizeL n j : Int)) := fun j hj => ((h.kept k4).kept ((Upd.refl _ w4).alloc _)).size (by omega)
  have k5 := k4.alloc (.cells #[.slice (some ⟨gs, 0, none⟩) (depthM n) cs] 127)
  have x1 := x1.alloc (.cells #[.slice (some ⟨gs, 0, none⟩) (depthM n) cs] 127)
  have x2 := x2.alloc (.cells #[.slice (some ⟨gs, 0, none⟩) (depthM n) cs] 127)
  have x3 := x3.alloc (.cells #[.slice (some ⟨gs, 0, none⟩) (depthM n) cs] 127)
  have x4 := x4.alloc (.cells #[.slice (some ⟨gs, 0, none⟩) (depthM n) cs] 127)
  have hz5 : (w4.alloc (.cells #[.slice (some ⟨gs, 0, none⟩) (depthM n) cs] 127)).heap.size = w4.heap.size + 1 := World.size_alloc _ _
  have hdp2 : (depthM n) ≤ 2000 := by have := depthM_small h.n2; omega
  generalize hW5 : w4.alloc (.cells #[.slice (some ⟨gs, 0, none⟩) (depthM n) cs] 127) = w5 at *
  have n12 : w1.heap.size ≠ w2.heap.size := by have := x2.lt; have := World.size_alloc w1 (.cells #[.int .i64 0] 3); rw [hW2] at this; omega
  have n23 : w2.heap.size ≠ w3.heap.size := by have := World.size_alloc w2 (.cells #[.int .i64 0] 3); rw [hW3] at this; omega
  have n13 : w1.heap.size ≠ w3.heap.size := by have := World.size_alloc w2 (.cells #[.int .i64 0] 3); rw [hW3] at this; have := World.size_alloc w1 (.cells #[.int .i64 0] 3); rw [hW2] at this; omega
  have hsm : ∀ l, sizeL n l ≤ 1024 := fun l => (h.sz l).2
  refine wpIn_rangeFunc_ownG (α := LvX n) rfl (by omega) (gf := 111) (lb := #[.pointer (some ⟨w4.heap.size, 0, none⟩)]) rfl trivial (enters_of Try.func111 (by kernel_rfl) rfl)
    (back_stops (backG n) (fun x => x.1) Fence.wide _ trivial rfl (by omega) w4.heap.size w5.heap.size gs (depthM n) cs (sizeL n) hdp2 (fun k hk => rfl) w5 (by omega) (by omega) (Nat.le_refl _) x5.cell hcz) belowK_t (belowK_b (Nat.le_refl _)) (Below.refl _ _) (fun _ => rfl)
    (fun pre W => (NoneAll n s pre ∧ Boxed W w.heap.size 107 (.pointer (some ⟨f, 0, none⟩)) ∧ Boxed W w1.heap.size 3 (.int .i64 0) ∧ Boxed W w2.heap.size 3 (.int .i64 0) ∧ Boxed W w3.heap.size 4 (.bool false) ∧ Boxed W w4.heap.size 127 (.slice (some ⟨gs, 0, none⟩) (depthM n) cs)) ∧ Below w.heap.size w W)
    (fun c pre W => (c = .ret ∧ ∃ lv p : Nat, HitAt n s pre lv p ∧ Boxed W w1.heap.size 3 (.int .i64 (lv : Int)) ∧ Boxed W w2.heap.size 3 (.int .i64 (p : Int)) ∧ Boxed W w3.heap.size 4 (.bool true)) ∧ Below w.heap.size w W)
    (OwnFrom.and (Own.from (fun s A B row hs hg hr => ⟨hs.1, box_own hs.2.1 hg hr, box_own hs.2.2.1 hg hr, box_own hs.2.2.2.1 hg hr, box_own hs.2.2.2.2.1 hg hr, box_own hs.2.2.2.2.2 hg hr⟩) _) (ownFrom_below (Nat.le_refl _) k5.size))
    (fun c => OwnFrom.and (Own.from (fun s A B row hs hg hr => by obtain ⟨hc, lv, p, e1, e4, e5, e6⟩ := hs; exact ⟨hc, lv, p, e1, box_own e4 hg hr, box_own e5 hg hr, box_own e6 hg hr⟩) _) (ownFrom_below (Nat.le_refl _) k5.size))
    ⟨⟨fun _ hx => absurd hx List.not_mem_nil, x1, x2, x3, x4, x5⟩, k5.below⟩
    (fun x => { tmps := #[.pointer (some ⟨f, 0, none⟩), .pointer (some ⟨w.heap.size, 0, none⟩), .pointer (some ⟨w1.heap.size, 0, none⟩), .pointer (some ⟨w2.heap.size, 0, none⟩), .pointer (some ⟨w3.heap.size, 0, none⟩), .int .i64 (x.1.1 : Int), .int .i64 (x.1.2 : Int), undef, .pointer (some ⟨f, 0, none⟩), .bool false, .pointer (some ⟨f, 0, none⟩), .pointer (some ⟨f, 0, none⟩), .pointer (some ⟨f, 33, none⟩), .slice (some ⟨gs, 0, none⟩) (depthM n) cs, .func (.func 111) #[] #[.pointer (some ⟨w4.heap.size, 0, none⟩)], .int .i64 (x.1.1 : Int), .int .i64 (x.1.2 : Int), undef, undef, undef, undef, undef, undef, undef, undef, undef, undef, undef, undef], defers := [] }) ?assign ?body ?done ?stop
  case assign =>
    intro l x W K hK
    unfold encX
    gi_wp2
    exact hK
  case body =>
    rintro l pre x W ⟨⟨hp, b1, b2, b3, b4, b5⟩, hB⟩ hlen
    have hb5 := b5.lt
    have HX2 := Lib.hid x.2
    have hlv : x.1.1 ≤ 2000 := by have := HX2.out.1; omega
    have hsz : x.1.2 ≤ 1024 := by rw [HX2.out.2]; exact hsm _
    have hszi : (x.1.2 : Int) ≤ 1024 := by omega
    have hfW : FetI W B f m1 m2 b r q n root O s gs cs hv ov := h.kept (below_kept hB)
    have hd : 1 ≤ 8 - 1 - 1 := by omega
    clear c0 c1 y1
    have HP := Lib.hid (And.intro hp (And.intro b1 (And.intro b2 (And.intro b3 (And.intro b4 (And.intro b5 (And.intro hb5 hB)))))))
    clear hp b1 b2 b3 b4 b5 hb5 hB hcz hsm hdp2
    gi_wp2
    gi_loopw [18] (fun i wr => ∃ k : Nat, k ≤ x.1.2 ∧ i = .int .i64 (k : Int) ∧ (∀ j, j < k → lacksM s x.1.1 j = false) ∧ Kept W wr) (fun i _ => 3000 - (intOf i).toNat)
    case atStart => exact ⟨0, Nat.zero_le _, rfl, fun j hj => absurd hj (Nat.not_lt_zero j), Upd.refl _ _⟩
    case round =>
      obtain ⟨k, hk, rfl, hno, hu⟩ := hrel
      have HN := Lib.hid (And.intro hno (And.intro hu hk))
      have y1 := (box_keep HP.out.2.1 hu).cell
      by_cases hlt : k < x.1.2
      · have hki : (k : Int) < (x.1.2 : Int) := by omega
        have hL := fetch_lacks (hfW.kept hu) x.1.1 k hlv (by omega)
        have HLT := Lib.hid hlt
        have z2 := box_keep HP.out.2.2.1 hu
        have z3 := box_keep HP.out.2.2.2.1 hu
        have z4 := box_keep HP.out.2.2.2.2.1 hu
        clear hno hu hk hlt
        cases hb : lacksM s x.1.1 k with
        | false =>
          rw [hb] at hL
          have HB := Lib.hid hb
          clear hb z2 z3 z4
          gi_wp2_with (refine ⟨trivial, ?_⟩; gi_at_call 98; refine (CallsIn.inRound l (callsIn_wide.2 hL)).mono ?_; rintro e w' ⟨rfl, hu'⟩)
          go_roundw
          case rel => exact ⟨k + 1, HLT.out, (by show _ = _; go_num), (fun j hj => by rcases Nat.lt_succ_iff_lt_or_eq.1 hj with h1 | h1; exact HN.out.1 j h1; rw [h1]; exact HB.out), HN.out.2.1.then hu' (fun _ _ h => h)⟩
          case measure => simp [intOf]; omega
        | true =>
          rw [hb] at hL
          have HB := Lib.hid hb
          clear hb
          gi_wp2_with (refine ⟨trivial, ?_⟩; gi_at_call 98; refine (CallsIn.inRound l (callsIn_wide.2 hL)).mono ?_; rintro e wq ⟨rfl, hu'⟩; have v2 := box_keep z2 hu'; have v3 := box_keep z3 hu'; have v4 := box_keep z4 hu'; have s2 := v2.set (.int .i64 (x.1.1 : Int)); have s3 := v3.other (fun e => n12 e.symm) (.int .i64 (x.1.1 : Int)); have s4 := v4.other (fun e => n13 e.symm) (.int .i64 (x.1.1 : Int)); have t2 := s2.other n12 (.int .i64 (k : Int)); have t3 := s3.set (.int .i64 (k : Int)); have t4 := s4.other (fun e => n23 e.symm) (.int .i64 (k : Int)); have r2 := t2.other n13 (.bool true); have r3 := t3.other n23 (.bool true); have r4 := t4.set (.bool true); have c2 := v2.cell; have z2 := v2.frozen; have c3 := s3.cell; have z3 := s3.frozen; have c4 := t4.cell; have z4 := t4.frozen)
          have hu2 : Kept W wq := HN.out.2.1.then hu' (fun _ _ h => h)
          have hBq := HP.out.2.2.2.2.2.2.2.trans (hu2.below.mono HP.out.2.2.2.2.2.2.2.size)
          exact ⟨((keeps_of_kept hu2).trans ((KeepsOthers.setCell wq ⟨w1.heap.size, 0, none⟩ (.int .i64 (x.1.1 : Int))).trans ((KeepsOthers.setCell _ ⟨w2.heap.size, 0, none⟩ (.int .i64 (k : Int))).trans (KeepsOthers.setCell _ ⟨w3.heap.size, 0, none⟩ (.bool true))))).from _, ⟨rfl, x.1.1, k, ⟨pre, x, rfl, HP.out.1, askL_some HN.out.1 (by rw [← HX2.out.2]; exact HLT.out) HB.out, rfl⟩, r2, r3, r4⟩, ((hBq.setCell (p := ⟨w1.heap.size, 0, none⟩) k1.size _).setCell (p := ⟨w2.heap.size, 0, none⟩) k2.size _).setCell (p := ⟨w3.heap.size, 0, none⟩) k3.size _⟩
      · have hke : k = x.1.2 := by omega
        have hki : ¬ (k : Int) < (x.1.2 : Int) := by omega
        have hL := askL_none (n := n) (s := s) (l := x.1.1) (by rw [← HX2.out.2, ← hke]; exact HN.out.1)
        clear hno hu hk hlt hke
        gi_wp2
        obtain ⟨p1, p2, p3, p4, p5, p7, p8, p6⟩ := HP.out
        have hu := HN.out.2.1
        exact ⟨(keeps_of_kept hu).from _, (hu.below).mono (by omega), ⟨p1.snoc hL, box_keep p2 hu, box_keep p3 hu, box_keep p4 hu, box_keep p5 hu, box_keep p7 hu⟩, p6.trans (hu.below.mono (p6.size))⟩
  case done =>
    rintro D ys W hD rfl ⟨⟨hne, b1, b2, b3, b4, b5⟩, hB⟩ hK
    have hask : askM n s = none := by rw [askD_upto (depthM n) (Nat.le_refl _) hne, Nat.sub_self]; rfl
    have q1 := b2.lt
    have s2 := b2.set (.int .i64 0)
    have s3 := b3.other (fun e => n12 e.symm) (.int .i64 0)
    have s4 := b4.other (fun e => n13 e.symm) (.int .i64 0)
    have t2 := s2.other n12 (.int .i64 0)
    have t3 := s3.set (.int .i64 0)
    have t4 := s4.other (fun e => n23 e.symm) (.int .i64 0)
    have r2 := t2.other n13 (.bool false)
    have r3 := t3.other n23 (.bool false)
    have r4 := t4.set (.bool false)
    have hK3 := ((KeepsOthers.setCell W ⟨w1.heap.size, 0, none⟩ (.int .i64 0)).trans ((KeepsOthers.setCell _ ⟨w2.heap.size, 0, none⟩ (.int .i64 0)).trans (KeepsOthers.setCell _ ⟨w3.heap.size, 0, none⟩ (.bool false)))).same D _ hK rfl
    have hB3 := ((hB.setCell (p := ⟨w1.heap.size, 0, none⟩) k1.size (.int .i64 0)).setCell (p := ⟨w2.heap.size, 0, none⟩) k2.size (.int .i64 0)).setCell (p := ⟨w3.heap.size, 0, none⟩) k3.size (.bool false)
    have c2 := b2.cell
    have z2 := b2.frozen
    have c3 := s3.cell
    have z3 := s3.frozen
    have c4 := t4.cell
    have z4 := t4.frozen
    clear c0 c1 y1
    gi_wp2
    refine ⟨by simp, .inl ⟨_, _, rfl, run_takeDeferred hK3, ?_⟩⟩
    generalize (((W.setCell ⟨w1.heap.size, 0, none⟩ (.int .i64 0)).setCell ⟨w2.heap.size, 0, none⟩ (.int .i64 0)).setCell ⟨w3.heap.size, 0, none⟩ (.bool false)) = Wz at *
    have hkp : ∀ {b t : Nat} {v : Value}, Boxed Wz b t v → (Wz.putObj D (.deferred none)).cell? ⟨b, 0, none⟩ = some v := fun h => (box_own h (grownBy_putObj' _ D (.deferred none)) (fun r e => by cases e; exact ⟨_, hK3, rfl⟩)).cell
    have d1 := hkp r2
    have d2 := hkp r3
    have d3 := hkp r4
    refine ⟨askV (askM n s), ?_, rfl, below_kept (hB3.trans (belowK_b (w := w) (Nat.le_refl _) Wz D _ _ (Nat.le_trans k5.size hD) hK3 rfl rfl))⟩
    rw [hask]
    simp [results, Try.f67, go_sem, d1, d2, d3, askV]
  case stop =>
    rintro D c pre W hD ⟨k, hk, rfl⟩ ⟨⟨rfl, lv, p, ⟨ini, last, e1, e2, e3, rfl⟩, e4, e5, e6⟩, hB⟩ hK
    gi_wp2
    refine ⟨by simp, .inl ⟨_, _, rfl, run_takeDeferred hK, ?_⟩⟩
    have hkp : ∀ {b t : Nat} {v : Value}, Boxed W b t v → (W.putObj D (.deferred none)).cell? ⟨b, 0, none⟩ = some v := fun h => (box_own h (grownBy_putObj' _ D (.deferred none)) (fun r e => by cases e; exact ⟨_, hK, rfl⟩)).cell
    have d1 := hkp e4
    have d2 := hkp e5
    have d3 := hkp e6
    obtain ⟨k', rfl⟩ : ∃ k', k = k' + 1 := by
      cases k with
      | zero => simp [upto] at e1
      | succ k' => exact ⟨k', rfl⟩
    rw [upto_succ] at e1
    obtain ⟨rfl, e7⟩ := List.append_inj' e1 rfl
    obtain rfl : backG n k' = last := by simpa using e7
    refine ⟨askV (askM n s), ?_, rfl, below_kept (hB.trans (belowK_b (w := w) (Nat.le_refl _) W D _ _ (Nat.le_trans k5.size hD) hK rfl rfl))⟩
    rw [askD_hit (by omega) e2 e3]
    simp [results, Try.f67, go_sem, d1, d2, d3, askV]
end Go.Proofs.Ytnncpjekcljfbaa
