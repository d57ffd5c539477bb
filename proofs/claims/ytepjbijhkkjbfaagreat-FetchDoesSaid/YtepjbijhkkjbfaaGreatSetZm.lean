import Derived.Test.YtepjbijhkkjbfaaGreatSetZk
set_option linter.unusedVariables false
set_option linter.unusedSimpArgs false
namespace Go.Proofs.YtepjbijhkkjbfaaGreat
open Go.RowKit
def sizeL (n : Nat) : Nat → Nat
  | 0 => n
  | l + 1 => up4 (sizeL n l)
theorem sizeL_up (n l : Nat) : sizeL (up4 n) l = sizeL n (l + 1) := by
  induction l with
  | zero => rfl
  | succ l ih => show up4 _ = up4 _; rw [ih]
theorem sizeL_pos {n : Nat} (h : 1 ≤ n) (l : Nat) : 1 ≤ sizeL n l := by
  induction l with
  | zero => exact h
  | succ l ih => exact up4_pos' ih
theorem sizeL_le {n : Nat} (h : 1 ≤ n) (l : Nat) : sizeL n l ≤ n := by
  induction l with
  | zero => exact Nat.le_refl _
  | succ l ih => show up4 _ ≤ n; have := sizeL_pos h l; unfold up4; omega
def sizesM (n : Nat) : List Nat := (List.range (depthM n)).map (sizeL n)
theorem sizesM_length (n : Nat) : (sizesM n).length = depthM n := by simp [sizesM]
theorem sizesM_get {n i : Nat} (h : i < (sizesM n).length) : (sizesM n)[i] = sizeL n i := by simp [sizesM]
abbrev KM : Type := Nat → Nat → Option Dig
abbrev BM : Type := Nat → Option Bytes
def putK (K : KM) (l p : Nat) (d : Dig) : KM := fun l' p' => if l' = l ∧ p' = p then some d else K l' p'
def putM (M : BM) (p : Nat) (R : Bytes) : BM := fun p' => if p' = p then some R else M p'
def oldAt (hs : List Bytes) (l p : Nat) : Dig := ((levelsM shaM (hs.map (leafM shaM))).getD l []).getD p dig0
def kidsM (n l p : Nat) : Nat := min 4 (sizeL n l - 4 * p)
def learnM (n : Nat) (O : Option (List Bytes)) : Nat → Nat → Dig → KM × BM → KM × BM
  | l, p, d, s =>
    match O with
    | none => (putK s.1 l p d, s.2)
    | some hs =>
      if oldAt hs l p = d then
        match l with
        | 0 => (putK s.1 0 p d, putM s.2 p (hs.getD p []))
        | l + 1 => (List.range (kidsM n l p)).foldl (fun s j => learnM n (some hs) l (4 * p + j) (oldAt hs l (4 * p + j)) s) (putK s.1 (l + 1) p d, s.2)
      else (putK s.1 l p d, s.2)
theorem learnM_none (n l p : Nat) (d : Dig) (s : KM × BM) : learnM n none l p d s = (putK s.1 l p d, s.2) := by
  cases l <;> rfl
theorem learnM_ne {n : Nat} {hs : List Bytes} {l p : Nat} {d : Dig} (h : oldAt hs l p ≠ d) (s : KM × BM) : learnM n (some hs) l p d s = (putK s.1 l p d, s.2) := by
  cases l <;> simp [learnM, h]
theorem learnM_leaf {n : Nat} {hs : List Bytes} {p : Nat} {d : Dig} (h : oldAt hs 0 p = d) (s : KM × BM) : learnM n (some hs) 0 p d s = (putK s.1 0 p d, putM s.2 p (hs.getD p [])) := by
  simp [learnM, h]
def kidsFold (n : Nat) (hs : List Bytes) (l p k : Nat) (s : KM × BM) : KM × BM := (List.range k).foldl (fun s j => learnM n (some hs) l (4 * p + j) (oldAt hs l (4 * p + j)) s) s
theorem kidsFold_succ (n : Nat) (hs : List Bytes) (l p k : Nat) (s : KM × BM) : kidsFold n hs l p (k + 1) s = learnM n (some hs) l (4 * p + k) (oldAt hs l (4 * p + k)) (kidsFold n hs l p k s) := by
  simp [kidsFold, List.range_succ]
theorem learnM_node {n : Nat} {hs : List Bytes} {l p : Nat} {d : Dig} (h : oldAt hs (l + 1) p = d) (s : KM × BM) : learnM n (some hs) (l + 1) p d s = kidsFold n hs l p (kidsM n l p) (putK s.1 (l + 1) p d, s.2) := by
  simp [learnM, h, kidsFold]
def lacksM (s : KM × BM) : Nat → Nat → Bool
  | 0, p => (s.1 0 p).isSome && (s.2 p).isNone
  | l + 1, p => (s.1 (l + 1) p).isSome && (s.1 l (4 * p)).isNone
def askL (n : Nat) (s : KM × BM) (l : Nat) : Option Nat := (List.range (sizeL n l)).find? (lacksM s l)
def askD (n : Nat) (s : KM × BM) : Nat → Option (Nat × Nat)
  | 0 => none
  | l + 1 => match askL n s l with
    | some p => some (l, p)
    | none => askD n s l
def askM (n : Nat) (s : KM × BM) : Option (Nat × Nat) := askD n s (depthM n)
def partsK (n : Nat) (O : Option (List Bytes)) (l p : Nat) (D : List Dig) (k : Nat) (s : KM × BM) : KM × BM := (List.range k).foldl (fun s j => learnM n O l (4 * p + j) (D.getD j dig0) s) s
theorem partsK_zero (n : Nat) (O : Option (List Bytes)) (l p : Nat) (D : List Dig) (s : KM × BM) : partsK n O l p D 0 s = s := rfl
theorem partsK_succ (n : Nat) (O : Option (List Bytes)) (l p : Nat) (D : List Dig) (k : Nat) (s : KM × BM) : partsK n O l p D (k + 1) s = learnM n O l (4 * p + k) (D.getD k dig0) (partsK n O l p D k s) := by
  simp [partsK, List.range_succ]
end Go.Proofs.YtepjbijhkkjbfaaGreat
namespace Go.Proofs.YtepjbijhkkjbfaaGreat
open Go.RowKit
variable {Tu : Nat → Prop}
open Go.Maps (Keyed)
def spOk (x : Nat × Nat) : Prop := x.1 ≤ 100000 ∧ x.2 ≤ 100000
def spA (x : Nat × Nat) : Array Value := #[.int .i64 (x.1 : Int), .int .i64 (x.2 : Int)]
def encSp (x : Nat × Nat) : Value := .agg (spA x)
theorem small_wf {x : Nat} (h : x ≤ 100000) : (Lit.int .i64 (x : Int)).wf = true := by
  simp [Lit.wf, IntKind.min, IntKind.max, IntKind.signed, IntKind.bits]; omega
theorem sp_cells : Tryz.prog.cellsOf 70 = 2 := by kernel_rfl
theorem sp_keyType : Tryz.prog.keyType 70 = true := by kernel_rfl
theorem sp_key (x : Nat × Nat) (h : spOk x) : ∃ l, keyOf Tryz.prog 70 (encSp x) = some l := by
  have h1 := small_wf h.1; have h2 := small_wf h.2; obtain ⟨d, hd⟩ := types_size; refine ⟨_, keyOf_wide (L := [.int .i64 (x.1 : Int), .int .i64 (x.2 : Int)]) (by rw [Tryz.underlying70]) sp_keyType ?_ ?_⟩
  · simp [encSp, spA, Value.formed, Tryz.underlying70, sp_cells]
  · rw [hd]
    have h5 : Tryz.prog.keyLits (d + 3) 3 [.int .i64 (x.1 : Int)] = some [.int .i64 (x.1 : Int)] := by unfold Program.keyLits; simp [Tryz.underlying3, h1]
    have h6 : Tryz.prog.keyLits (d + 3) 3 [.int .i64 (x.2 : Int)] = some [.int .i64 (x.2 : Int)] := by unfold Program.keyLits; simp [Tryz.underlying3, h2]
    have h8 : (encSp x).cells.toList = [.int .i64 (x.1 : Int), .int .i64 (x.2 : Int)] := by simp [encSp, spA, Value.cells]
    rw [h8]; unfold Program.keyLits; simp only [Tryz.underlying70]; rw [if_pos (by simp [sp_cells])]; simp [int_cells, h5, h6]
theorem sp_enc : KeyEnc Tryz.prog 70 spOk encSp where
  law := Keyed.of_law (deep_law_laid dig_laid (m := 4) (by omega) (of_decide_eq_true (by kernel_rfl)) (by kernel_rfl) (by rw [Tryz.underlying70]))
  key := sp_key
  inj := by
    rintro ⟨a, b⟩ ⟨a', b'⟩ _ _ h; have h' := congrArg (fun v : Value => v.cells.toList) h; simp only [encSp, spA, Value.cells, List.cons.injEq, Value.int.injEq, true_and, and_true] at h'
    ext <;> simp <;> omega
def inOk (x : Nat) : Prop := x ≤ 100000
def encN (x : Nat) : Value := .int .i64 (x : Int)
theorem in_enc : KeyEnc Tryz.prog 3 inOk encN where
  law := Maps.int_keyed Tryz.underlying3
  key := fun x hx => ⟨_, Maps.keyOf_int_mk Tryz.underlying3 (small_wf hx)⟩
  inj := by
    intro a b _ _ h; simp only [encN, Value.int.injEq, true_and] at h; omega
def OffT (Tu : Nat → Prop) (x : SlC) (R : Bytes) : Prop := R = [] ∨ ∀ a, x.A = some a → ¬ Tu a.block
def NoT : Nat → Prop := fun _ => False
theorem OffT.of {W : World} {B : Nat} {x : SlC} {R : Bytes} (h : OwnB W B x.v R) (hT : ∀ k, B ≤ k → ¬ Tu k) : OffT Tu x R := by
  rcases R with _ | ⟨c, R⟩
  · exact .inl rfl
  · obtain ⟨g, cap, hv, hg, -⟩ := World.ownsRow.form h (by simp)
    refine .inr fun a ha => ?_; rw [SlC.v_eq] at hv; simp only [Value.slice.injEq] at hv; rw [hv.1] at ha; cases ha
    exact hT g hg
theorem OffT.byt {W W' : World} {S : Nat → Prop} {x : SlC} {R : Bytes} (ho : OffT Tu x R) (h : LeafAt W x R) (hu : Upd S W W') (hS : ∀ k, S k → Tu k) : LeafAt W' x R := by
  refine ⟨?_, h.2⟩; rcases ho with e | ho
  · rw [e]; exact .inl rfl
  · exact h.1.upd hu fun a ha hs => ho a ha (hS _ hs)
theorem OffT.more {Tu' : Nat → Prop} {W : World} {x : SlC} {R : Bytes} (ho : OffT Tu x R) (h : LeafAt W x R) (hS : ∀ k, Tu' k → Tu k ∨ W.heap.size ≤ k) : OffT Tu' x R := by
  rcases ho with e | ho
  · exact .inl e
  · rcases R with _ | ⟨c, R⟩
    · exact .inl rfl
    · refine .inr fun a ha e => ?_
      rcases hS _ e with h1 | h1
      · exact ho a ha h1
      · rcases h.1 with h0 | ⟨b, off, e2, hc⟩
        · cases h0
        · rw [ha] at e2
          cases e2
          have h2 : b < W.heap.size := World.block_lt_of_cell? _ _ (hc 0 (.int .u8 (c.toNat : Int)) (by simp [encB])); have h3 : W.heap.size ≤ b := h1; omega
def KAt (W : World) (m : Nat) (K : KM) : Prop := ∃ L, MapAt spOk encSp W m L ∧ ∀ l p, getL (l, p) L = (K l p).map encD
def MAt (Tu : Nat → Prop) (W : World) (m : Nat) (M : BM) : Prop := ∃ L, MapAt inOk encN W m L ∧ ∀ p, match M p with
  | none => getL p L = none
  | some R => ∃ x : SlC, getL p L = some x.v ∧ LeafAt W x R ∧ R.length < 65536 ∧ OffT Tu x R
theorem getL_putL {κ : Type} [DecidableEq κ] (k k' : κ) (v : Value) : ∀ L : List (κ × Value), getL k' (putL k v L) = if k' = k then some v else getL k' L
  | [] => by
    by_cases h : k' = k
    · simp [putL, getL, h]
    · have h2 : ¬ k = k' := fun e => h e.symm
      simp [putL, getL, h, h2]
  | (x, y) :: L => by
    have ih := getL_putL k k' v L; simp only [putL]
    by_cases h : x = k
    · subst h
      by_cases h2 : k' = x
      · subst h2; simp [getL]
      · have h3 : ¬ x = k' := fun e => h2 e.symm
        simp [getL, h2, h3]
    · rw [if_neg h]
      simp only [getL, ih]
      by_cases h2 : x = k'
      · subst h2; rw [if_pos rfl, if_neg h, if_pos rfl]
      · rw [if_neg h2, if_neg h2]
section
variable {W W' : World} {S : Nat → Prop} {m : Nat} {K : KM} {M : BM}
theorem KAt.lt (h : KAt W m K) : m < W.heap.size := by obtain ⟨L, hm, _⟩ := h; exact hm.lt
theorem MAt.lt (h : MAt Tu W m M) : m < W.heap.size := by obtain ⟨L, hm, _⟩ := h; exact hm.lt
theorem KAt.map (h : KAt W m K) : ∃ es c, W.heap[m]? = some (.map es c) := by obtain ⟨L, ⟨es, c, hm, _⟩, _⟩ := h; exact ⟨es, c, hm⟩
theorem MAt.map (h : MAt Tu W m M) : ∃ es c, W.heap[m]? = some (.map es c) := by obtain ⟨L, ⟨es, c, hm, _⟩, _⟩ := h; exact ⟨es, c, hm⟩
theorem KAt.upd (h : KAt W m K) (hu : Upd S W W') (hs : ¬ S m) : KAt W' m K := by
  obtain ⟨L, hm, hg⟩ := h; exact ⟨L, hm.kept (hu.block m hm.lt hs), hg⟩
theorem MAt.upd (h : MAt Tu W m M) (hu : Upd S W W') (hs : ¬ S m) (hb : ∀ x R, LeafAt W x R → LeafAt W' x R) : MAt Tu W' m M := by
  obtain ⟨L, hm, hg⟩ := h; refine ⟨L, hm.kept (hu.block m hm.lt hs), fun p => ?_⟩; have := hg p
  split
  · rename_i h0; rw [h0] at this; exact this
  · rename_i R h0; rw [h0] at this; obtain ⟨x, h1, h2, h3, h4⟩ := this; exact ⟨x, h1, hb _ _ h2, h3, h4⟩
theorem KAt.new (w : World) : KAt (w.alloc (.map #[] 0)) w.heap.size (fun _ _ => none) := ⟨[], MapAt.new w, fun _ _ => rfl⟩
theorem MAt.new (w : World) : MAt Tu (w.alloc (.map #[] 0)) w.heap.size (fun _ => none) := ⟨[], MapAt.new w, fun _ => rfl⟩
theorem KAt.put (h : KAt W m K) (l p : Nat) (hk : spOk (l, p)) (d : Dig) : ∃ W', (Instr.mapUpdate 61 (.map (some m)) (.agg (spA (l, p))) (.agg (dA d))).run Tryz.prog W = .ok () W' ∧ KAt W' m (putK K l p d) ∧ Upd (fun k => k = m) W W' := by
  obtain ⟨L, hm, hg⟩ := h; obtain ⟨W', hr, hm', hgr, _⟩ := run_update_at sp_enc Tryz.underlying61 hm (x := (l, p)) hk (.agg (dA d)); refine ⟨W', hr, ⟨_, hm', fun l' p' => ?_⟩, (Upd.of_grown hgr).mono fun k _ e => by cases e; rfl⟩; rw [getL_putL]; unfold putK
  by_cases h : l' = l ∧ p' = p
  · obtain ⟨rfl, rfl⟩ := h
    simp [encD]
  · rw [if_neg (fun e => h (by simpa using e)), if_neg h]; exact hg l' p'
theorem dig_zero (W : World) : (zeroValue 23).run Tryz.prog W = .ok (.agg (dA dig0)) W := by
  have h : (Tryz.prog.info? 23).map (·.zero) = some (some (.agg (dA dig0))) := by kernel_rfl
  obtain ⟨i, hi, h2⟩ := Option.map_eq_some_iff.1 h; simp [zeroValue, typeInfo, hi, h2]
theorem bs_zero (W : World) : (zeroValue 42).run Tryz.prog W = .ok (.slice none 0 0) W := by
  have h : (Tryz.prog.info? 42).map (·.zero) = some (some (.slice none 0 0)) := by kernel_rfl
  obtain ⟨i, hi, h2⟩ := Option.map_eq_some_iff.1 h; simp [zeroValue, typeInfo, hi, h2]
theorem KAt.look (h : KAt W m K) (l p : Nat) (hk : spOk (l, p)) : (Instr.lookup 61 (.map (some m)) (.agg (spA (l, p))) true).run Tryz.prog W = .ok (.tuple #[.agg (dA ((K l p).getD dig0)), .bool (K l p).isSome]) W := by
  obtain ⟨L, hm, hg⟩ := h; have := run_lookup_at sp_enc Tryz.underlying61 dig_zero hm (x := (l, p)) hk true; rw [hg l p] at this; refine this.trans ?_; cases K l p <;> rfl
theorem KAt.look1 (h : KAt W m K) (l p : Nat) (hk : spOk (l, p)) : (Instr.lookup 61 (.map (some m)) (.agg (spA (l, p))) false).run Tryz.prog W = .ok (.agg (dA ((K l p).getD dig0))) W := by
  obtain ⟨L, hm, hg⟩ := h; have := run_lookup_at sp_enc Tryz.underlying61 dig_zero hm (x := (l, p)) hk false; rw [hg l p] at this; refine this.trans ?_; cases K l p <;> rfl
theorem MAt.look (h : MAt Tu W m M) (p : Nat) (hk : p ≤ 100000) : ∃ x : SlC, (Instr.lookup 62 (.map (some m)) (.int .i64 (p : Int)) true).run Tryz.prog W = .ok (.tuple #[.slice x.A x.n x.c, .bool (M p).isSome]) W ∧ (Instr.lookup 62 (.map (some m)) (.int .i64 (p : Int)) false).run Tryz.prog W = .ok (.slice x.A x.n x.c) W ∧ LeafAt W x ((M p).getD []) ∧ ((M p).getD []).length < 65536 := by
  obtain ⟨L, hm, hg⟩ := h; have h1 := fun c => run_lookup_at in_enc Tryz.underlying62 bs_zero hm (x := p) hk c; have h2 := hg p; cases hM : M p with
  | none =>
    rw [hM] at h2; simp only at h2; rw [h2] at h1; exact ⟨⟨none, 0, 0⟩, h1 true, h1 false, ⟨.inl rfl, rfl, Nat.le_refl _⟩, by simp⟩
  | some R =>
    rw [hM] at h2; obtain ⟨x, h3, h4, h5, -⟩ := h2; rw [h3] at h1; exact ⟨x, h1 true, h1 false, h4, h5⟩
theorem MAt.put (h : MAt Tu W m M) (p : Nat) (hk : p ≤ 100000) {x : SlC} {R : Bytes} (hx : LeafAt W x R) (hR : R.length < 65536) (hoT : OffT Tu x R) (hb : ∀ W', Upd (fun k => k = m) W W' → ∀ x R, LeafAt W x R → LeafAt W' x R) :
    ∃ W', (Instr.mapUpdate 62 (.map (some m)) (.int .i64 (p : Int)) (.slice x.A x.n x.c)).run Tryz.prog W = .ok () W' ∧ MAt Tu W' m (putM M p R) ∧ Upd (fun k => k = m) W W' := by
  obtain ⟨L, hm, hg⟩ := h; obtain ⟨W', hr, hm', hgr, _⟩ := run_update_at in_enc Tryz.underlying62 hm (x := p) hk (SlC.v x); have hu : Upd (fun k => k = m) W W' := (Upd.of_grown hgr).mono fun k _ e => by cases e; rfl
  refine ⟨W', hr, ⟨_, hm', fun p' => ?_⟩, hu⟩; rw [getL_putL]; unfold putM
  by_cases h : p' = p
  · rw [if_pos h, if_pos h]
    exact ⟨x, rfl, hb _ hu _ _ hx, hR, hoT⟩
  · rw [if_neg h, if_neg h]
    have := hg p'
    split
    · rename_i h0; rw [h0] at this; exact this
    · rename_i R h0; rw [h0] at this; obtain ⟨x, h1, h2, h3, h4⟩ := this; exact ⟨x, h1, hb _ hu _ _ h2, h3, h4⟩
end
def Quiet (W : World) (S : Nat → Prop) : Prop := ∀ k, S k → (∀ cs t fr, W.heap[k]? = some (.cells cs t fr) → t = 79) ∧ ∀ off (c : UInt8), W.cell? ⟨k, off, none⟩ ≠ some (.int .u8 (c.toNat : Int))
section
variable {W W' : World} {S T : Nat → Prop} {b r q m : Nat} {L : List Bytes}
theorem Quiet.not (h : Quiet W S) {k : Nat} {cs : Array Value} {t : TypeId} {fr : Nat × Nat} (hk : W.heap[k]? = some (.cells cs t fr)) (ht : t ≠ 79) : ¬ S k := fun e => ht ((h k e).1 _ _ _ hk)
theorem Quiet.frame (h : Quiet W S) {B : Nat} : ∀ k, B ≤ k → (∃ cs t', W.heap[k]? = some (.cells cs t' (0, 0)) ∧ t' ≠ 79) → ¬ S k := fun _ _ ⟨_, _, hc, ht⟩ => h.not hc ht
theorem Quiet.or (h : Quiet W S) (h2 : Quiet W T) : Quiet W (fun k => S k ∨ T k) := fun k e => e.elim (h k) (h2 k)
theorem Quiet.nil (W : World) : Quiet W (fun _ => False) := fun _ e => e.elim
theorem Quiet.book (h : BookL W b r q L) : Quiet W (Book3 b r q) := fun k e => ⟨fun cs t fr hk => Decidable.byContradiction fun ht => h.not hk ht e, fun off c hc => by
  obtain ⟨I, M, n, hb⟩ := h; exact hb.bytNot (A := some ⟨k, off, none⟩) (R := [c]) (.inr ⟨k, off, rfl, fun j v hv => by
    match j, hv with
    | 0, hv => simp [encB] at hv; rw [← hv]; exact hc
    | j + 1, hv => simp [encB] at hv⟩) (by simp) _ rfl e⟩
theorem Quiet.map (h : ∃ es c, W.heap[m]? = some (.map es c)) : Quiet W (fun k => k = m) := fun k e => by
  obtain ⟨es, c, hm⟩ := h; subst e; exact ⟨fun cs t fr hk => (by rw [hm] at hk; cases hk), fun off c hc => (by simp [World.cell?, hm] at hc)⟩
theorem Quiet.byt (h : Quiet W S) {A : Option Addr} {R : Bytes} (hR : Byt W A R) (hu : Upd S W W') : Byt W' A R := by
  rcases R with _ | ⟨c, R⟩
  · exact .inl rfl
  · refine hR.upd hu fun a ha hs => ?_
    subst ha; rcases hR with h0 | ⟨b, off, e, hc⟩
    · cases h0
    · cases e
      have := hc 0 (.int .u8 (c.toNat : Int)) (by simp [encB]); exact (h b hs).2 _ _ this
theorem Quiet.leaf (h : Quiet W S) {x : SlC} {R : Bytes} (hR : LeafAt W x R) (hu : Upd S W W') : LeafAt W' x R := ⟨h.byt hR.1 hu, hR.2⟩
theorem Quiet.blk (h : Quiet W S) {g t : Nat} {vs : List Value} (hg : Blk W g t vs) (ht : t ≠ 79) (hu : Upd S W W') : Blk W' g t vs := hg.upd hu (h.not hg ht)
theorem Quiet.rows (h : Quiet W S) {α : Type} {f : α → Array Value} {n t B : Nat} {v : Value} {l : List α} (ho : OwnRows f n W B t v l) (ht : t ≠ 79) (hu : Upd S W W') : OwnRows f n W' B t v l :=
  OwnRows.upd ho hu fun k e => by obtain ⟨cur, hc⟩ := own_cells ho e; exact h.not hc ht
end
def inA (x : Nat) : Array Value := #[.int .i64 (x : Int)]
theorem lev_size : ∀ (l : Nat) (D : List Dig), l < depthM D.length → ∃ x, (levelsM shaM D)[l]? = some x ∧ x.length = sizeL D.length l
  | 0, D, _ => by obtain ⟨tl, h, _⟩ := levelsM_head D; exact ⟨D, by rw [h]; rfl, rfl⟩
  | l + 1, D, h => by
    rcases Nat.lt_or_ge 1 D.length with h1 | h1
    · rw [depthM_more h1] at h
      obtain ⟨x, h2, h3⟩ := lev_size l (aboveM shaM D) (by rw [aboveM_length]; omega); refine ⟨x, by rw [levelsM_more h1]; exact h2, ?_⟩; rw [h3, aboveM_length, sizeL_up]
    · rw [depthM, dif_neg (by omega)] at h; omega
theorem lev_get {D : List Dig} {l : Nat} (h : l < depthM D.length) : ∃ x, (levelsM shaM D)[l]? = some x ∧ (levelsM shaM D).getD l [] = x ∧ x.length = sizeL D.length l := by
  obtain ⟨x, h1, h2⟩ := lev_size l D h; exact ⟨x, h1, by rw [List.getD_eq_getElem?_getD, h1]; rfl, h2⟩
def OwnPT (Tu : Nat → Prop) (W : World) (B : Nat) (v : Value) (P : List (List Dig)) : Prop := ∃ xs : List SlC, OwnRows slA 1 W B 45 v xs ∧ xs.length = P.length ∧ (∀ i (h : i < xs.length) (h' : i < P.length), OwnD W B xs[i].v P[i]) ∧ (∀ k, v.ownBlock = some k → ¬ Tu k) ∧ ∀ x ∈ xs, ∀ k, x.v.ownBlock = some k → ¬ Tu k
theorem OwnPT.of {W : World} {B : Nat} {v : Value} {P : List (List Dig)} (h : OwnP W B v P) (hT : ∀ k, B ≤ k → ¬ Tu k) : OwnPT Tu W B v P := by
  obtain ⟨xs, h1, h2, h3⟩ := h; refine ⟨xs, h1, h2, h3, fun k e => hT k (World.ownsRow.lt h1 k e).1, fun x hx k e => ?_⟩; obtain ⟨i, hi, rfl⟩ := List.getElem_of_mem hx; exact hT k (World.ownsRow.lt (h3 i hi (by omega)) k e).1
theorem OwnPT.upd {W W' : World} {B : Nat} {v : Value} {P : List (List Dig)} {S : Nat → Prop} (h : OwnPT Tu W B v P) (hu : Upd S W W') (hs : ∀ k, B ≤ k → (∃ cs t', W.heap[k]? = some (.cells cs t' (0, 0)) ∧ t' ≠ 79) → ¬ S k) : OwnPT Tu W' B v P := by
  obtain ⟨xs, h1, h2, h3, h4⟩ := h; refine ⟨xs, OwnRows.upd h1 hu (fun k e => ?_), h2, fun i hi hi' => OwnRows.upd (h3 i hi hi') hu (fun k e => ?_), h4⟩
  · obtain ⟨cur, hc⟩ := own_cells h1 e
    exact hs k (World.ownsRow.lt h1 k e).1 ⟨_, _, hc, by decide⟩
  · obtain ⟨cur, hc⟩ := own_cells (h3 i hi hi') e
    exact hs k (World.ownsRow.lt (h3 i hi hi') k e).1 ⟨_, _, hc, by decide⟩
def OldAt (Tu : Nat → Prop) (W : World) (B n : Nat) (hv ov : Value) : Option (List Bytes) → Prop
  | none => hv = .slice none 0 0 ∧ ov = .slice none 0 0
  | some hs => hs.length = n ∧ (∃ l : List (SlC × Bytes), OwnS W B hv (l.map (·.1)) ∧ (∀ p ∈ l, LeafAt W p.1 p.2 ∧ p.2.length < 65536 ∧ OffT Tu p.1 p.2) ∧ l.map (·.2) = hs) ∧ OwnPT Tu W B ov (levelsM shaM (hs.map (leafM shaM))) ∧ ∀ k, hv.ownBlock = some k → ¬ Tu k
section
variable {W W' : World} {S : Nat → Prop} {B n : Nat} {hv ov : Value} {O : Option (List Bytes)} {hs : List Bytes}
theorem OldAt.upd (h : OldAt Tu W B n hv ov O) (hq : Quiet W S) (hu : Upd S W W') : OldAt Tu W' B n hv ov O := by
  cases O with
  | none => exact h
  | some hs =>
    obtain ⟨h1, ⟨l, h2, h3, h4⟩, h5, h6⟩ := h; exact ⟨h1, ⟨l, hq.rows h2 (by decide) hu, fun p hp => ⟨hq.leaf (h3 p hp).1 hu, (h3 p hp).2⟩, h4⟩, h5.upd hu hq.frame, h6⟩
theorem OldAt.leaf (h : OldAt Tu W B n hv ov (some hs)) {p : Nat} (hp : p < n) : ∃ g c x, hv = .slice (some ⟨g, 0, none⟩) n c ∧ W.cell? ⟨g, p, none⟩ = some (.slice (SlC.A x) x.n x.c) ∧ LeafAt W x (hs.getD p []) ∧ (hs.getD p []).length < 65536 ∧ OffT Tu x (hs.getD p []) := by
  obtain ⟨h1, ⟨l, h2, h3, h4⟩, _⟩ := h; have hl : l.length = n := by rw [← h1, ← h4, List.length_map]
  obtain ⟨g, c, hv, _, _, hc⟩ := OwnS.cell h2 (k := p) (by simp; omega); have hpl : p < l.length := by omega
  rw [List.length_map, hl] at hv; have he : hs.getD p [] = l[p].2 := by rw [← h4]; simp [hpl]
  rw [List.getElem_map] at hc; rw [he]; exact ⟨g, c, _, hv, hc, h3 _ (List.getElem_mem hpl)⟩
theorem OldAt.dig (h : OldAt Tu W B n hv ov (some hs)) {l p : Nat} (hl : l < depthM n) (hp : p < sizeL n l) : ∃ g c g2 c2, ov = .slice (some ⟨g, 0, none⟩) (depthM n) c ∧ W.cell? ⟨g, l, none⟩ = some (.slice (some ⟨g2, 0, none⟩) (sizeL n l) c2) ∧ segB W ⟨g2, p * 32, none⟩ 32 = true ∧ segV W ⟨g2, p * 32, none⟩ 32 = dA (oldAt hs l p) := by
  obtain ⟨h1, _, ⟨xs, h2, h3, h4, _⟩, _⟩ := h; have hD : (hs.map (leafM shaM)).length = n := by rw [List.length_map, h1]
  obtain ⟨x, e1, e2, e3⟩ := lev_get (D := hs.map (leafM shaM)) (l := l) (by rw [hD]; exact hl); rw [hD] at e3; have hlen : (levelsM shaM (hs.map (leafM shaM))).length = depthM n := levelsM_depth _ hD; have hlx : l < xs.length := by omega
  obtain ⟨g, c, hv, _, _, hc1, hc2⟩ := OwnRows.get (f := slA) (n := 1) (fun _ => rfl) h2 hlx; have ho := h4 l hlx (by omega); have ex : (levelsM shaM (hs.map (leafM shaM)))[l]'(by omega) = x := by
    rw [List.getElem?_eq_getElem (by omega)] at e1; exact Option.some.inj e1
  rw [ex] at ho; obtain ⟨g2, c2, hv2, _, _⟩ := own_form ho (by intro e; rw [e] at e3; simp at e3; omega); rw [hv2] at ho; have hsg := OwnD.seg ho (k := p) (by omega); refine ⟨g, c, g2, c2, by rw [hv, h3, hlen], ?_, hsg.1, ?_⟩
  · have := cell_of_seg hc1 0 (SlC.v xs[l]) (by rw [hc2]; rfl)
    rw [add_none, Nat.mul_one, Nat.add_zero] at this; rw [this, hv2, e3]
  · rw [hsg.2]
    unfold oldAt; rw [e2, List.getD_eq_getElem?_getD, List.getElem?_eq_getElem (by omega)]
    rfl
end
def fetV (b : Nat) (root : Dig) (gs m cs m1 m2 : Nat) (hv ov : Value) : List Value := .pointer (some ⟨b, 0, none⟩) :: (encB root.1 ++ [.slice (some ⟨gs, 0, none⟩) m cs, .map (some m1), .map (some m2), hv, ov])
structure FetI (Tu : Nat → Prop) (W : World) (B f m1 m2 b r q n : Nat) (root : Dig) (O : Option (List Bytes)) (s : KM × BM) (gs cs : Nat) (hv ov : Value) : Prop where
  blk : Blk W f 65 (fetV b root gs (depthM n) cs m1 m2 hv ov)
  szs : OwnRows inA 1 W B 3 (.slice (some ⟨gs, 0, none⟩) (depthM n) cs) (sizesM n)
  k : KAt W m1 s.1
  m : MAt Tu W m2 s.2
  ne : m1 ≠ m2
  old : OldAt Tu W B n hv ov O
  n1 : 1 ≤ n
  n2 : n ≤ 1024
  far : ∀ k, Book3 b r q k → k < B
  bf : B ≤ f
  b1 : B ≤ m1
  b2 : B ≤ m2
  oT : ∀ k, (k = f ∨ k = gs ∨ k = m1 ∨ k = m2) → ¬ Tu k
theorem FetI.other {W : World} {B f m1 m2 b r q n gs cs : Nat} {root : Dig} {O : Option (List Bytes)} {s : KM × BM} {hv ov : Value} {Tu' : Nat → Prop} (h : FetI Tu W B f m1 m2 b r q n root O s gs cs hv ov) (hS : ∀ k, Tu' k → Tu k ∨ W.heap.size ≤ k) : FetI Tu' W B f m1 m2 b r q n root O s gs cs hv ov := by
  refine ⟨h.blk, h.szs, h.k, ?_, h.ne, ?_, h.n1, h.n2, h.far, h.bf, h.b1, h.b2, fun k e e2 => (hS k e2).elim (h.oT k e) fun e3 => ?_⟩
  · obtain ⟨L, hm, hg⟩ := h.m
    refine ⟨L, hm, fun p => ?_⟩; have := hg p
    split
    · rename_i h0; rw [h0] at this; exact this
    · rename_i R h0; rw [h0] at this; obtain ⟨x, h1, h2, h3, h4⟩ := this; exact ⟨x, h1, h2, h3, h4.more h2 hS⟩
  · have ho := h.old
    cases O with
    | none => exact ho
    | some hs =>
      obtain ⟨h1, ⟨l, h2, h3, h4⟩, h5⟩ := ho; obtain ⟨⟨xs, h5, h6, h7, h8, h9⟩, h10⟩ := h5; refine ⟨h1, ⟨l, h2, fun p hp => ⟨(h3 p hp).1, (h3 p hp).2.1, (h3 p hp).2.2.more (h3 p hp).1 hS⟩, h4⟩, ⟨xs, h5, h6, h7, fun k e e2 => (hS k e2).elim (h8 k e) fun e3 => ?_, fun x hx k e e2 => (hS k e2).elim (h9 x hx k e) fun e3 => ?_⟩, fun k e e2 => (hS k e2).elim (h10 k e) fun e3 => ?_⟩
      · have := (World.ownsRow.lt h5 k e).2; omega
      · obtain ⟨i, hi, rfl⟩ := List.getElem_of_mem hx
        have := (World.ownsRow.lt (h7 i hi (by omega)) k e).2; omega
      · have := (World.ownsRow.lt h2 k e).2; omega
  · rcases e with rfl | rfl | rfl | rfl
    · have := h.blk.lt; omega
    · have := (World.ownsRow.lt h.szs k rfl).2; omega
    · have := h.k.lt; omega
    · have := h.m.lt; omega
theorem FetI.foreign {W W' : World} {S : Nat → Prop} {B f m1 m2 b r q n gs cs : Nat} {root : Dig} {O : Option (List Bytes)} {s : KM × BM} {hv ov : Value} (h : FetI Tu W B f m1 m2 b r q n root O s gs cs hv ov) (hu : Upd S W W') (hS : ∀ k, S k → Tu k) : FetI Tu W' B f m1 m2 b r q n root O s gs cs hv ov := by
  have hn : ∀ k, (k = f ∨ k = gs ∨ k = m1 ∨ k = m2) → ¬ S k := fun k e hs => h.oT k e (hS k hs); refine ⟨hu.heap h.blk (hn _ (.inl rfl)), OwnRows.upd h.szs hu (fun k e => hn _ (.inr (.inl (Option.some.inj e).symm))), h.k.upd hu (hn _ (.inr (.inr (.inl rfl)))), ?_, h.ne, ?_, h.n1, h.n2, h.far, h.bf, h.b1, h.b2, h.oT⟩
  · obtain ⟨L, hm, hg⟩ := h.m
    refine ⟨L, hm.kept (hu.block m2 hm.lt (hn _ (.inr (.inr (.inr rfl))))), fun p => ?_⟩; have := hg p
    split
    · rename_i h0; rw [h0] at this; exact this
    · rename_i R h0; rw [h0] at this; obtain ⟨x, h1, h2, h3, h4⟩ := this; exact ⟨x, h1, h4.byt h2 hu hS, h3, h4⟩
  · have ho := h.old
    cases O with
    | none => exact ho
    | some hs =>
      obtain ⟨h1, ⟨l, h2, h3, h4⟩, ⟨xs, h5, h6, h7, h8, h9⟩, h10⟩ := ho; exact ⟨h1, ⟨l, OwnRows.upd h2 hu (fun k e hs => h10 k e (hS k hs)), fun p hp => ⟨(h3 p hp).2.2.byt (h3 p hp).1 hu hS, (h3 p hp).2⟩, h4⟩, ⟨xs, OwnRows.upd h5 hu (fun k e hs => h8 k e (hS k hs)), h6, fun i hi hi' => OwnRows.upd (h7 i hi hi') hu (fun k e hs => h9 _ (List.getElem_mem hi) k e (hS k hs)), h8, h9⟩, h10⟩
abbrev Maps2 (m1 m2 : Nat) : Nat → Prop := fun k => k = m1 ∨ k = m2
section
variable {W W' : World} {S : Nat → Prop} {B f m1 m2 b r q n gs cs : Nat} {root : Dig} {O : Option (List Bytes)} {s : KM × BM} {hv ov : Value} {L : List Bytes}
theorem FetI.upd (h : FetI Tu W B f m1 m2 b r q n root O s gs cs hv ov) (hq : Quiet W S) (h1 : ¬ S m1) (h2 : ¬ S m2) (hu : Upd S W W') : FetI Tu W' B f m1 m2 b r q n root O s gs cs hv ov :=
  ⟨hq.blk h.blk (by decide) hu, hq.rows h.szs (by decide) hu, h.k.upd hu h1, h.m.upd hu h2 (fun _ _ hl => hq.leaf hl hu), h.ne, h.old.upd hq hu, h.n1, h.n2, h.far, h.bf, h.b1, h.b2, h.oT⟩
theorem FetI.kept (h : FetI Tu W B f m1 m2 b r q n root O s gs cs hv ov) (hu : Kept W W') : FetI Tu W' B f m1 m2 b r q n root O s gs cs hv ov := h.upd (Quiet.nil W) id id hu
theorem FetI.book (h : FetI Tu W B f m1 m2 b r q n root O s gs cs hv ov) (hb : BookL W b r q L) (hu : Upd (Book3 b r q) W W') : FetI Tu W' B f m1 m2 b r q n root O s gs cs hv ov :=
  h.upd (Quiet.book hb) (fun e => by have := h.far _ e; have := h.b1; omega) (fun e => by have := h.far _ e; have := h.b2; omega) hu
theorem FetI.quiet (h : FetI Tu W B f m1 m2 b r q n root O s gs cs hv ov) : Quiet W (Maps2 m1 m2) := (Quiet.map h.k.map).or (Quiet.map h.m.map)
theorem FetI.c (h : FetI Tu W B f m1 m2 b r q n root O s gs cs hv ov) : W.cell? ⟨f, 0, none⟩ = some (.pointer (some ⟨b, 0, none⟩)) ∧ W.cell? ⟨f, 33, none⟩ = some (.slice (some ⟨gs, 0, none⟩) (depthM n) cs) ∧ W.cell? ⟨f, 34, none⟩ = some (.map (some m1)) ∧ W.cell? ⟨f, 35, none⟩ = some (.map (some m2)) ∧ W.cell? ⟨f, 36, none⟩ = some hv ∧ W.cell? ⟨f, 37, none⟩ = some ov := by
  have hl : (encB root.1).length = 32 := by rw [encB_length, root.2]
  have h1 : ∀ k, (fetV b root gs (depthM n) cs m1 m2 hv ov)[33 + k]? = [.slice (some ⟨gs, 0, none⟩) (depthM n) cs, .map (some m1), .map (some m2), hv, ov][k]? := fun k => by
    rw [fetV, show 33 + k = (32 + k) + 1 by omega, List.getElem?_cons_succ, List.getElem?_append_right (by omega), hl, Nat.add_sub_cancel_left]
  exact ⟨h.blk.cell rfl, h.blk.cell (h1 0), h.blk.cell (h1 1), h.blk.cell (h1 2), h.blk.cell (h1 3), h.blk.cell (h1 4)⟩
theorem FetI.top (h : FetI Tu W B f m1 m2 b r q n root O s gs cs hv ov) : segB W ⟨f, 1, none⟩ 32 = true ∧ segV W ⟨f, 1, none⟩ 32 = dA root :=
  h.blk.seg 1 32 (encB root.1) (by rw [encB_length, root.2]) (fun j hj => by
    rw [fetV, Nat.add_comm, List.getElem?_cons_succ, List.getElem?_append_left (by rw [encB_length, root.2]; exact hj)])
theorem FetI.size (h : FetI Tu W B f m1 m2 b r q n root O s gs cs hv ov) {l : Nat} (hl : l < depthM n) : W.cell? ⟨gs, l, none⟩ = some (.int .i64 (sizeL n l : Int)) := by
  have hl' : l < (sizesM n).length := by rw [sizesM_length]; exact hl
  obtain ⟨g, c, hv, _, _, h1, h2⟩ := OwnRows.get (f := inA) (n := 1) (fun _ => rfl) h.szs hl'; simp only [Value.slice.injEq, Option.some.injEq, Addr.mk.injEq] at hv; obtain ⟨⟨rfl, _⟩, _⟩ := hv; have := cell_of_seg h1 0 (.int .i64 ((sizesM n)[l] : Nat)) (by rw [h2]; rfl)
  rwa [add_none, Nat.mul_one, Nat.add_zero, sizesM_get hl'] at this
theorem FetI.sz (h : FetI Tu W B f m1 m2 b r q n root O s gs cs hv ov) (l : Nat) : 1 ≤ sizeL n l ∧ sizeL n l ≤ 1024 := ⟨sizeL_pos h.n1 l, Nat.le_trans (sizeL_le h.n1 l) h.n2⟩
theorem depthM_small {n : Nat} (h2 : n ≤ 1024) : depthM n ≤ 1025 := by have := depthM_le n (List.replicate n dig0) (by simp); omega
theorem FetI.putK (h : FetI Tu W B f m1 m2 b r q n root O s gs cs hv ov) (l p : Nat) (hk : spOk (l, p)) (d : Dig) : ∃ W', (Instr.mapUpdate 61 (.map (some m1)) (.agg (spA (l, p))) (.agg (dA d))).run Tryz.prog W = .ok () W' ∧ FetI Tu W' B f m1 m2 b r q n root O (putK s.1 l p d, s.2) gs cs hv ov ∧ Upd (fun k => k = m1) W W' := by
  obtain ⟨W', hr, hk', hu⟩ := h.k.put l p hk d; have hq : Quiet W (fun k => k = m1) := Quiet.map h.k.map; exact ⟨W', hr, ⟨hq.blk h.blk (by decide) hu, hq.rows h.szs (by decide) hu, hk', h.m.upd hu (fun e => h.ne e.symm) (fun _ _ hl => hq.leaf hl hu), h.ne, h.old.upd hq hu, h.n1, h.n2, h.far, h.bf, h.b1, h.b2, h.oT⟩, hu⟩
theorem FetI.putM (h : FetI Tu W B f m1 m2 b r q n root O s gs cs hv ov) (p : Nat) (hk : p ≤ 100000) {x : SlC} {R : Bytes} (hx : LeafAt W x R) (hR : R.length < 65536) (hoT : OffT Tu x R) : ∃ W', (Instr.mapUpdate 62 (.map (some m2)) (.int .i64 (p : Int)) (.slice x.A x.n x.c)).run Tryz.prog W = .ok () W' ∧ FetI Tu W' B f m1 m2 b r q n root O (s.1, putM s.2 p R) gs cs hv ov ∧ Upd (fun k => k = m2) W W' := by
  have hq : Quiet W (fun k => k = m2) := Quiet.map h.m.map; obtain ⟨W', hr, hm', hu⟩ := h.m.put p hk hx hR hoT (fun W' hu _ _ hl => hq.leaf hl hu); exact ⟨W', hr, ⟨hq.blk h.blk (by decide) hu, hq.rows h.szs (by decide) hu, h.k.upd hu h.ne, hm', h.ne, h.old.upd hq hu, h.n1, h.n2, h.far, h.bf, h.b1, h.b2, h.oT⟩, hu⟩
end
end Go.Proofs.YtepjbijhkkjbfaaGreat
namespace Go.Proofs.YtepjbijhkkjbfaaGreat
open Go.RowKit
variable {Tu : Nat → Prop}
@[go_sem ↓] theorem exec_build_sp (ρ : Operand → Value) (dst : Option Tmp) (parts : Array (Nat × Operand)) (ty : TypeId) (pos : String) (after : Array Edge) (guard : Option (Nat × Bool)) :
    execOp ρ ⟨dst, .build 70 parts, ty, pos, after, guard⟩ = buildRow 70 (parts.map fun (i, x) => (i, ρ x)) := rfl
@[go_sem] theorem run_build_sp (l p : Int) (W : World) : (buildRow 70 #[(0, .int .i64 l), (1, .int .i64 p)]).run Tryz.prog W = .ok (.value (.agg #[.int .i64 l, .int .i64 p])) W := by
  have H := run_build (P := Tryz.prog) W 70 #[(0, .int .i64 l), (1, .int .i64 p)] #[.int .i64 l, .int .i64 p] (by kernel_rfl); simp [buildRow, H, Result.andThen]
theorem fet_map_eq (w : World) (r : Option Nat) : (binOp .eql 61 (.map r) (.map none)).run Tryz.prog w = .ok (.bool r.isNone) w :=
  run_eql_map_nil w _ _ _ r Tryz.underlying61
attribute [local go_sem] fet_map_eq
theorem fetch_none {w : World} {f m1 : Nat} (hc : w.cell? ⟨f, 34, none⟩ = some (.map (some m1))) :
    Calls Tryz.prog 36 #[.pointer (some ⟨f, 0, none⟩)] w fun e w' => e = .returned (.bool false) ∧ w = w' := by
  go_enter Tryz.func36, Tryz.ntmps36
  go_wp2
  go_ret
  exact ⟨rfl, rfl⟩
set_option maxHeartbeats 2000000 in
set_option maxRecDepth 20000 in
theorem fetch_lacks {w : World} {B f m1 m2 b r q n gs cs : Nat} {root : Dig} {O : Option (List Bytes)} {s : KM × BM} {hv ov : Value} (h : FetI Tu w B f m1 m2 b r q n root O s gs cs hv ov) (l p : Nat) (hl : l ≤ 2000) (hp : p ≤ 2000) :
    Calls Tryz.prog 38 #[.pointer (some ⟨f, 0, none⟩), .agg (spA (l, p))] w fun e W => e = .returned (.bool (lacksM s l p)) ∧ Kept w W := by
  have hnot : ∀ (x : Bool) (w : World), (Op.unary .not (.bool x)).run Tryz.prog w = .ok (.bool (!x)) w := fun _ _ => rfl; have hS1 : Blk (w.alloc (.cells (spA (l, p)) 70)) w.heap.size 70 [.int .i64 (l : Int), .int .i64 (p : Int)] := Blk.new w _ _; have hk1 : Kept w (w.alloc (.cells (spA (l, p)) 70)) := (Upd.refl _ w).alloc _; generalize hW1 : w.alloc (.cells (spA (l, p)) 70) = w1 at *; have HX := Lib.hid (And.intro (h.kept hk1) (And.intro hS1 hk1)); have HL := Lib.hid (And.intro hl hp); have f0 : ∀ W, Kept w1 W → W.cell? ⟨f, 34, none⟩ = some (.map (some m1)) := fun W hW => (HX.out.1.kept hW).c.2.2.1; have f1 : ∀ W, Kept w1 W → segB W ⟨w.heap.size, 0, none⟩ 2 = true := fun W hW => ((HX.out.2.1.kept hW).seg 0 2 [.int .i64 (l : Int), .int .i64 (p : Int)] rfl (fun j _ => by rw [Nat.zero_add])).1; have f2 : ∀ W, Kept w1 W → segV W ⟨w.heap.size, 0, none⟩ 2 = spA (l, p) := fun W hW => ((HX.out.2.1.kept hW).seg 0 2 [.int .i64 (l : Int), .int .i64 (p : Int)] rfl (fun j _ => by rw [Nat.zero_add])).2; clear h hS1 hk1 hl hp; cases hK0 : s.1 l p with
  | none =>
    have HE : Hid (lacksM s l p = false) := by cases l <;> simp [lacksM, hK0, Hid]
    have f3 : ∀ W, Kept w1 W → (Instr.lookup 61 (.map (some m1)) (.agg (spA (l, p))) true).run Tryz.prog W = .ok (.tuple #[.agg (dA dig0), .bool false]) W := fun W hW => by
      have := (HX.out.1.kept hW).k.look l p ⟨by have := HL.out.1; show l ≤ _; omega, by have := HL.out.2; show p ≤ _; omega⟩; rw [hK0] at this; exact this
    clear hK0
    go_enter Tryz.func38, Tryz.ntmps38
    go_wp2_with fail; refine wp_region_ord [(0, true), (1, true), (2, true), (3, true), (4, true), (5, true), (6, true), (7, true), (8, true), (9, false), (10, false), (11, true)] (by kernel_rfl) (by kernel_rfl) (Kept w1) (Upd.refl _ w1).drew ?_; simp only [ordOps, List.getD_cons_zero, List.getD_cons_succ]
    iterate 9 (refine wpOrd_held (fun K hK => ?_); go_simp; first | (apply Exists.intro; refine ⟨fun W hW => ?_, hK _ ?_⟩; (go_simp; first | done | exact rfl); clear hK K) | (refine hK _ ?_; clear hK K))
    have hu9 : Kept w1 w1.drew := (Upd.refl _ w1).drew; generalize w1.drew = wd at *; refine wpOrd_step (fun K hK => ?_) hu9; go_simp; refine hK _ _ (hu9.alloc _) ?_; clear hK K; refine wpOrd_step (fun K hK => ?_) (hu9.alloc _); go_simp; have hu11 := hu9.alloc (.cells (dA dig0) 23); refine hK _ _ hu11 ?_; clear hK K hu9
    iterate 1 (refine wpOrd_held (fun K hK => ?_); go_simp; first | (apply Exists.intro; refine ⟨fun W hW => ?_, hK _ ?_⟩; (go_simp; first | done | exact rfl); clear hK K) | (refine hK _ ?_; clear hK K))
    refine wpOrd_nil ?_; clear f0 f1 f2 f3; have HF := Lib.hid (HX.out.2.2.then hu11 (fun _ _ h => h)); clear hu11 HX; go_wp2
    go_ret
    exact ⟨(by rw [HE.out]; rfl), HF.out⟩
  | some d =>
    have f3 : ∀ W, Kept w1 W → (Instr.lookup 61 (.map (some m1)) (.agg (spA (l, p))) true).run Tryz.prog W = .ok (.tuple #[.agg (dA d), .bool true]) W := fun W hW => by
      have := (HX.out.1.kept hW).k.look l p ⟨by have := HL.out.1; show l ≤ _; omega, by have := HL.out.2; show p ≤ _; omega⟩; rw [hK0] at this; exact this
    have HK := Lib.hid hK0; clear hK0
    go_enter Tryz.func38, Tryz.ntmps38
    go_wp2_with fail; refine wp_region_ord [(0, true), (1, true), (2, true), (3, true), (4, true), (5, true), (6, true), (7, true), (8, true), (9, false), (10, false), (11, true)] (by kernel_rfl) (by kernel_rfl) (Kept w1) (Upd.refl _ w1).drew ?_; simp only [ordOps, List.getD_cons_zero, List.getD_cons_succ]
    iterate 9 (refine wpOrd_held (fun K hK => ?_); go_simp; first | (apply Exists.intro; refine ⟨fun W hW => ?_, hK _ ?_⟩; (go_simp; first | done | exact rfl); clear hK K) | (refine hK _ ?_; clear hK K))
    have hu9 : Kept w1 w1.drew := (Upd.refl _ w1).drew; generalize w1.drew = wd at *; refine wpOrd_step (fun K hK => ?_) hu9; go_simp; refine hK _ _ (hu9.alloc _) ?_; clear hK K; refine wpOrd_step (fun K hK => ?_) (hu9.alloc _); go_simp; have hu11 := hu9.alloc (.cells (dA d) 23); refine hK _ _ hu11 ?_; clear hK K hu9
    iterate 1 (refine wpOrd_held (fun K hK => ?_); go_simp; first | (apply Exists.intro; refine ⟨fun W hW => ?_, hK _ ?_⟩; (go_simp; first | done | exact rfl); clear hK K) | (refine hK _ ?_; clear hK K))
    refine wpOrd_nil ?_; clear f0 f1 f2 f3; generalize wd.alloc (.cells (dA d) 23) = w2 at *; have HX2 := Lib.hid (And.intro (HX.out.1.kept hu11) (And.intro (HX.out.2.1.kept hu11) (HX.out.2.2.then hu11 (fun _ _ h => h)))); clear hu11 HX; have c0 := HX2.out.2.1.cell (k := 0) rfl; cases l with
    | zero =>
      have hl0 : ((0 : Nat) : Int) = 0 := rfl; obtain ⟨x, hx, -⟩ := (HX2.out.1).m.look p (by have := HL.out.2; omega); have HE : Hid (lacksM s 0 p = !(s.2 p).isSome) := by show _ = _; simp [lacksM, HK.out]
      have f0 : ∀ W, Kept w2 W → W.cell? ⟨f, 35, none⟩ = some (.map (some m2)) := fun W hW => (HX2.out.1.kept hW).c.2.2.2.1; have f1 : ∀ W, Kept w2 W → W.cell? ⟨w.heap.size, 1, none⟩ = some (.int .i64 (p : Int)) := fun W hW => (HX2.out.2.1.kept hW).cell (k := 1) rfl; have f3 : ∃ x : SlC, ∀ W, Kept w2 W → (Instr.lookup 62 (.map (some m2)) (.int .i64 (p : Int)) true).run Tryz.prog W = .ok (.tuple #[.slice x.A x.n x.c, .bool (s.2 p).isSome]) W := by
        obtain ⟨L, hm, hg⟩ := HX2.out.1.m; have hlook := fun W (hW : Kept w2 W) => run_lookup_at in_enc Tryz.underlying62 bs_zero (hm.kept (hW.block m2 hm.lt id)) (x := p) (show p ≤ _ by have := HL.out.2; omega) true; have h2 := hg p; cases hM : s.2 p with
        | none => rw [hM] at h2; simp only at h2; rw [h2] at hlook; exact ⟨⟨none, 0, 0⟩, hlook⟩
        | some R => rw [hM] at h2; obtain ⟨x, h3, -⟩ := h2; rw [h3] at hlook; exact ⟨x, hlook⟩
      obtain ⟨⟨xA, xn, xc⟩, f3⟩ := f3; clear hx; generalize (s.2 p).isSome = bb at *; go_wp2_with fail; refine wp_region_ord [(0, true), (1, true), (2, true), (3, true), (4, true), (5, true), (6, true), (7, true), (8, true), (9, true), (10, true), (11, true)] (by kernel_rfl) (by kernel_rfl) (Kept w2) (Upd.refl _ w2).drew ?_; simp only [ordOps, List.getD_cons_zero, List.getD_cons_succ]
      iterate 12 (refine wpOrd_held (fun K hK => ?_); go_simp; first | (apply Exists.intro; refine ⟨fun W hW => ?_, hK _ ?_⟩; (go_simp; first | done | exact rfl); clear hK K) | (refine hK _ ?_; clear hK K))
      refine wpOrd_nil ?_; clear f0 f1 f3; have HF := Lib.hid (HX2.out.2.2.then (Upd.refl (fun _ => False) w2).drew (fun _ _ h => h)); clear HX2 c0; go_wp2
      go_ret
      exact ⟨(by rw [HE.out]; rfl), HF.out⟩
    | succ l =>
      have hl0 : ¬ ((l + 1 : Nat) : Int) = 0 := by omega
      have hl1 : ((l + 1 : Nat) : Int) - 1 = (l : Int) := by omega
      have hl2 : ((l + 1 : Nat) : Int) ≤ 2000 := by have := HL.out.1; omega
      have hp2 : (p : Int) ≤ 2000 := by have := HL.out.2; omega
      have hl3 : (l : Int) ≤ 2000 := by omega
      have hl5 : IntKind.i64.wrap (4 * (p : Int)) = 4 * (p : Int) := by rw [IntKind.wrap_i64]; omega
      have hl4 : IntKind.i64.wrap (l : Int) = (l : Int) := by rw [IntKind.wrap_i64]; omega
      have HE : Hid (lacksM s (l + 1) p = !(s.1 l (4 * p)).isSome) := by show _ = _; simp [lacksM, HK.out]
      have f0 : ∀ W, Kept w2 W → W.cell? ⟨f, 34, none⟩ = some (.map (some m1)) := fun W hW => (HX2.out.1.kept hW).c.2.2.1; have f1 : ∀ W, Kept w2 W → W.cell? ⟨w.heap.size, 1, none⟩ = some (.int .i64 (p : Int)) := fun W hW => (HX2.out.2.1.kept hW).cell (k := 1) rfl; have f2 : ∀ W, Kept w2 W → W.cell? ⟨w.heap.size, 0, none⟩ = some (.int .i64 ((l + 1 : Nat) : Int)) := fun W hW => (HX2.out.2.1.kept hW).cell (k := 0) rfl; obtain ⟨d2, hd2⟩ : ∃ d2, d2 = (s.1 l (4 * p)).getD dig0 := ⟨_, rfl⟩; have f3 : ∀ W, Kept w2 W → (Instr.lookup 61 (.map (some m1)) (.agg #[.int .i64 (l : Int), .int .i64 (4 * (p : Int))]) true).run Tryz.prog W = .ok (.tuple #[.agg (dA d2), .bool (s.1 l (4 * p)).isSome]) W := fun W hW => by
        have := (HX2.out.1.kept hW).k.look l (4 * p) ⟨by have := HL.out.1; show l ≤ _; omega, by have := HL.out.2; show 4 * p ≤ _; omega⟩; rw [← hd2] at this; simpa [spA] using this
      clear hd2; obtain ⟨z, hz⟩ : ∃ z : Int, z = ((l + 1 : Nat) : Int) := ⟨_, rfl⟩; rw [← hz] at hl0 hl1 hl2 c0 f2; clear hz; generalize (s.1 l (4 * p)).isSome = bb at *; go_wp2_with fail; refine wp_region_ord [(0, true), (1, true), (2, true), (3, true), (4, true), (5, true), (6, true), (7, true), (8, true), (9, true), (10, true), (11, true), (12, true), (13, true), (14, true), (15, false), (16, false), (17, true)] (by kernel_rfl) (by kernel_rfl) (Kept w2) (Upd.refl _ w2).drew ?_; simp only [ordOps, List.getD_cons_zero, List.getD_cons_succ]
      iterate 15 (refine wpOrd_held (fun K hK => ?_); go_simp; first | (apply Exists.intro; refine ⟨fun W hW => ?_, hK _ ?_⟩; (go_simp; first | done | exact rfl); clear hK K) | (refine hK _ ?_; clear hK K))
      have hu9 : Kept w2 w2.drew := (Upd.refl _ w2).drew; generalize w2.drew = wd at *; refine wpOrd_step (fun K hK => ?_) hu9; go_simp; refine hK _ _ (hu9.alloc _) ?_; clear hK K; refine wpOrd_step (fun K hK => ?_) (hu9.alloc _); go_simp; have hu11 := hu9.alloc (.cells (dA d2) 23); refine hK _ _ hu11 ?_; clear hK K hu9
      iterate 1 (refine wpOrd_held (fun K hK => ?_); go_simp; first | (apply Exists.intro; refine ⟨fun W hW => ?_, hK _ ?_⟩; (go_simp; first | done | exact rfl); clear hK K) | (refine hK _ ?_; clear hK K))
      refine wpOrd_nil ?_; clear f0 f1 f2 f3; have HF := Lib.hid (HX2.out.2.2.then hu11 (fun _ _ h => h)); clear hu11 HX2 c0; go_wp2
      go_ret
      exact ⟨(by rw [HE.out]; rfl), HF.out⟩
end Go.Proofs.YtepjbijhkkjbfaaGreat
namespace Go.Proofs.YtepjbijhkkjbfaaGreat
open Go.RowKit
variable {Tu : Nat → Prop}
@[go_sem] theorem spA_size (x : Nat × Nat) : (spA x).size = 2 := rfl
@[go_sem] theorem spA_one (x : Nat × Nat) : oneB (spA x) = true := rfl
theorem sp_rows : RowType Tryz.prog spA 2 103 70 16 where
  size := fun _ => rfl
  one := fun _ => rfl
  slice := Tryz.underlying103
  info := ⟨.agg #[.int .i64 0, .int .i64 0], by kernel_rfl, rfl⟩
  pos := by omega
@[go_sem ↓] theorem exec_one_sp (ρ : Operand → Value) (dst : Option Tmp) (parts : Array (Nat × Operand)) (ty : TypeId) (pos : String) (after : Array Edge) (guard : Option (Nat × Bool)) :
    execOp ρ ⟨dst, .buildSlice 103 1 parts, ty, pos, after, guard⟩ = sliceRow 103 1 (parts.map fun (i, x) => (i, ρ x)) := rfl
@[go_sem] theorem run_one_sp (a b : Int) (W : World) : (sliceRow 103 1 #[(0, .agg #[.int .i64 a, .int .i64 b])]).run Tryz.prog W = .ok (.value (.slice (some ⟨W.heap.size, 0, none⟩) 1 1)) (W.alloc (.cells #[.int .i64 a, .int .i64 b] 70)) :=
  run_sliceRow _ 70 2 (.agg #[.int .i64 0, .int .i64 0]) _ Tryz.underlying103 (by kernel_rfl) (by omega) (by omega) rfl rfl W
def kidsL (n l p k : Nat) : List (Nat × Nat) := (List.range k).map fun j => (l, 4 * p + j)
theorem kidsL_length (n l p k : Nat) : (kidsL n l p k).length = k := by simp [kidsL]
theorem kidsL_succ (n l p k : Nat) : kidsL n l p (k + 1) = kidsL n l p k ++ [(l, 4 * p + k)] := by simp [kidsL, List.range_succ]
theorem kidsL_get {n l p k j : Nat} (h : j < (kidsL n l p k).length) : (kidsL n l p k)[j] = (l, 4 * p + j) := by simp [kidsL]
set_option maxHeartbeats 2000000 in
set_option maxRecDepth 20000 in
theorem fetch_children {w : World} {B f m1 m2 b r q n gs cs : Nat} {root : Dig} {O : Option (List Bytes)} {s : KM × BM} {hv ov : Value} (h : FetI Tu w B f m1 m2 b r q n root O s gs cs hv ov) (l p : Nat) (hl : l + 1 < depthM n) (hp : p < sizeL n (l + 1)) :
    Calls Tryz.prog 40 #[.pointer (some ⟨f, 0, none⟩), .agg (spA (l + 1, p))] w fun e W => ∃ v, e = .returned v ∧ OwnRows spA 2 W w.heap.size 70 v (kidsL n l p (kidsM n l p)) ∧ Kept w W := by
  have hsz := h.sz l; have hdp := depthM_small h.n2; have hp4 : 4 * p < sizeL n l := by
    have h1 : p < up4 (sizeL n l) := hp; unfold up4 at h1; omega
  have hkm : kidsM n l p = min 4 (sizeL n l - 4 * p) := rfl; have hS1 : Blk (w.alloc (.cells (spA (l + 1, p)) 70)) w.heap.size 70 [.int .i64 ((l + 1 : Nat) : Int), .int .i64 (p : Int)] := Blk.new w _ _; have hk1 : Kept w (w.alloc (.cells (spA (l + 1, p)) 70)) := (Upd.refl _ w).alloc _; have hcl := h.size (l := l) (by omega); have HX := Lib.hid (And.intro (h.kept hk1) (And.intro hS1 hk1)); have HL := Lib.hid (And.intro hl (And.intro hp4 (And.intro hsz (And.intro hdp hkm)))); have hp2 : (p : Int) ≤ 2000 := by omega
  have hp5 : IntKind.i64.wrap (4 * (p : Int)) = 4 * (p : Int) := by rw [IntKind.wrap_i64]; omega
  have c1 := hS1.cell (k := 1) rfl; clear h hS1 hk1 hcl; generalize hW1 : w.alloc (.cells (spA (l + 1, p)) 70) = w1 at *; obtain ⟨sz, hsze⟩ : ∃ sz, sz = sizeL n l := ⟨_, rfl⟩; obtain ⟨dp, hdpe⟩ : ∃ dp, dp = depthM n := ⟨_, rfl⟩; have HE := Lib.hid (And.intro hsze hdpe); have hl0 : (l : Int) ≤ 2000 := by omega
  have hl1 : (l : Int) < (dp : Int) := by omega
  have hsz1 : (sz : Int) ≤ 1024 := by omega
  have hdp1 : (dp : Int) ≤ 1025 := by omega
  clear hl hp hsz hdp hp4 hkm hsze hdpe
  go_enter Tryz.func40, Tryz.ntmps40
  go_wp2_with fail
  go_loopw [6, 5] (fun i v wr => ∃ k : Nat, k ≤ kidsM n l p ∧ i = .int .i64 ((4 * p + k : Nat) : Int) ∧ OwnRows spA 2 wr w1.heap.size 70 v (kidsL n l p k) ∧ Kept w1 wr) (fun i _ _ => 10000 - (intOf i).toNat)
  case atStart => exact ⟨0, Nat.zero_le _, rfl, OwnRows.nil _ _ _, Upd.refl _ _⟩
  case round =>
    obtain ⟨k, hk, rfl, hown, hup⟩ := hrel; obtain ⟨m, hmk⟩ : ∃ m, m = 4 * p + k := ⟨_, rfl⟩; rw [← hmk]; have hkk : kidsM n l p = min 4 (sz - 4 * p) := by rw [HE.out.1]; exact HL.out.2.2.2.2
    have h4 : 4 * p < sz := by rw [HE.out.1]; exact HL.out.2.1
    have f0 : ∀ W, Kept wr W → W.cell? ⟨w.heap.size, 0, none⟩ = some (.int .i64 ((l : Int) + 1)) := fun W hW => ((HX.out.2.1.kept hup).kept hW).cell (k := 0) rfl; have f1 : ∀ W, Kept wr W → W.cell? ⟨w.heap.size, 1, none⟩ = some (.int .i64 (p : Int)) := fun W hW => ((HX.out.2.1.kept hup).kept hW).cell (k := 1) rfl; have f2 : ∀ W, Kept wr W → W.cell? ⟨f, 33, none⟩ = some (.slice (some ⟨gs, 0, none⟩) dp cs) := fun W hW => by rw [HE.out.2]; exact ((HX.out.1.kept hup).kept hW).c.2.1
    have f3 : ∀ W, Kept wr W → W.cell? ⟨gs, l, none⟩ = some (.int .i64 (sz : Int)) := fun W hW => by rw [HE.out.1]; exact ((HX.out.1.kept hup).kept hW).size (by have := HL.out.1; omega)
    have f4 : IntKind.i64.wrap (4 * (p : Int) + 4) = 4 * (p : Int) + 4 := by rw [IntKind.wrap_i64]; omega
    have hl4 : IntKind.i64.wrap (l : Int) = (l : Int) := by rw [IntKind.wrap_i64]; omega
    have hm0 : (m : Int) ≤ 9000 := by omega
    rcases Nat.lt_or_ge k (kidsM n l p) with hlt | hge
    · have hdec : decide ((m : Int) < if (sz : Int) < 4 * (p : Int) + 4 then (sz : Int) else 4 * (p : Int) + 4) = true := by
        rw [decide_eq_true_eq]; split <;> omega
      clear hkk h4; have HLT := Lib.hid hlt; have HMK := Lib.hid hmk; have hUP := Lib.hid hup; have hOW := Lib.hid hown; clear hmk hlt hup hown hk; go_wp2_with fail; refine wp_region_ord [(0, true), (1, true), (2, true), (3, true), (4, true), (5, true), (6, true), (7, true), (8, true), (9, true), (10, true), (11, true), (12, true), (13, true), (14, true), (15, true)] (by kernel_rfl) (by kernel_rfl) (Kept wr) (Upd.refl _ wr).drew ?_; simp only [ordOps, List.getD_cons_zero, List.getD_cons_succ]
      iterate 16 (refine wpOrd_held (fun K hK => ?_); go_simp; first | (apply Exists.intro; refine ⟨fun W hW => ?_, hK _ ?_⟩; (go_simp; first | done | exact rfl); clear hK K) | (refine hK _ ?_; clear hK K))
      refine wpOrd_nil ?_; clear f0 f1 f2 f3 f4; have HU := Lib.hid (show Kept w1 wr.drew from hUP.out.then (Upd.refl (fun _ => False) wr).drew (fun _ _ h => h)); have hown1 := OwnRows.drew hOW.out; have hg0 : wr.drew.cell? ⟨w.heap.size, 0, none⟩ = some (.int .i64 ((l : Int) + 1)) := (HX.out.2.1.kept HU.out).cell (k := 0) rfl; generalize wr.drew = wa at *; have hown2 := OwnRows.alloc hown1 (.cells (spA (l, m)) 70); have hg2 := heap_alloc_new wa (.cells (spA (l, m)) 70); have hsz2 : w1.heap.size ≤ (wa.alloc (.cells (spA (l, m)) 70)).heap.size := by have := HU.out.size; rw [World.size_alloc]; omega
      have HQ := Lib.hid (And.intro hown2 (And.intro hg2 (And.intro hsz2 (show Kept w1 (wa.alloc (.cells (spA (l, m)) 70)) from HU.out.alloc _)))); have HK1 : Hid ((kidsL n l p k).length ≤ 4) := by show _ ≤ _; rw [kidsL_length]; have := HL.out.2.2.2.2; have := HLT.out; omega
      clear hown1 hown2 hg2 hsz2 hdec; go_wp2_with (at_builtin; refine wpList_append_rows sp_rows rfl (.tmp 28) (.tmp 34) rfl rfl HQ.out.1 (l, m) wa.heap.size 1 _ _ rfl HQ.out.2.1 (by have := HK1.out; unfold maxLen; omega) (by have := HK1.out; omega) HQ.out.2.2.1 ?_; intro v' w3 hown' hu' hnew)
      go_roundw
      case rel =>
        refine ⟨k + 1, HLT.out, ?_, by rw [kidsL_succ, ← HMK.out]; exact hown', HQ.out.2.2.2.then hu' fun i hi e => ?_⟩
        · show _ = _
          rw [HMK.out]; go_num
        · have := (World.ownsRow.lt HQ.out.1 _ e).1
          omega
      case measure => have h1 := HMK.out; simp [intOf]; omega
    · obtain rfl : k = kidsM n l p := by omega
      have hdec : decide ((m : Int) < if (sz : Int) < 4 * (p : Int) + 4 then (sz : Int) else 4 * (p : Int) + 4) = false := by
        rw [decide_eq_false_iff_not]; split <;> omega
      clear hkk h4 hge; have HMK := Lib.hid hmk; have hUP := Lib.hid hup; have hOW := Lib.hid hown; clear hmk hup hown hk; go_wp2_with fail; refine wp_region_ord [(0, true), (1, true), (2, true), (3, true), (4, true), (5, true), (6, true), (7, true), (8, true), (9, true), (10, true), (11, true), (12, true), (13, true), (14, true), (15, true)] (by kernel_rfl) (by kernel_rfl) (Kept wr) (Upd.refl _ wr).drew ?_; simp only [ordOps, List.getD_cons_zero, List.getD_cons_succ]
      iterate 16 (refine wpOrd_held (fun K hK => ?_); go_simp; first | (apply Exists.intro; refine ⟨fun W hW => ?_, hK _ ?_⟩; (go_simp; first | done | exact rfl); clear hK K) | (refine hK _ ?_; clear hK K))
      refine wpOrd_nil ?_; clear f0 f1 f2 f3 f4; have HF := Lib.hid (And.intro (own_base (OwnRows.drew hOW.out) HX.out.2.2.size) (show Kept w wr.drew from HX.out.2.2.then (hUP.out.then (Upd.refl (fun _ => False) wr).drew (fun _ _ h => h)) (fun _ _ h => h))); clear hOW hUP; go_wp2
      all_goals
        go_ret
        exact ⟨_, rfl, HF.out.1, HF.out.2⟩
set_option maxHeartbeats 1000000 in
set_option maxRecDepth 20000 in
theorem fetch_Root {w : World} {B f m1 m2 b r q n gs cs : Nat} {root : Dig} {O : Option (List Bytes)} {s : KM × BM} {hv ov : Value} (h : FetI Tu w B f m1 m2 b r q n root O s gs cs hv ov) :
    Calls Tryz.prog 21 #[.pointer (some ⟨f, 0, none⟩)] w fun e W => e = .returned (.agg (dA root)) ∧ Kept w W := by
  have hr1 : Blk (w.alloc (.cells (dA dig0) 23)) w.heap.size 23 (encB dig0.1) := Blk.new w _ _; have hk1 : Kept w (w.alloc (.cells (dA dig0) 23)) := (Upd.refl _ w).alloc _; generalize hW1 : w.alloc (.cells (dA dig0) 23) = w1 at *; have c0 := (h.kept hk1).c.2.2.1; obtain ⟨s1, s2⟩ := (h.kept hk1).top; obtain ⟨e1, e2, e3⟩ := dig_end root hr1; have HY : Hid (Kept w (w1.setRow w.heap.size (dA root)) ∧ segB (w1.setRow w.heap.size (dA root)) ⟨w.heap.size, 0, none⟩ 32 = true ∧ segV (w1.setRow w.heap.size (dA root)) ⟨w.heap.size, 0, none⟩ 32 = dA root) := ⟨Upd.setRow hk1 _ _ (fun h => absurd h (Nat.lt_irrefl _)), e2, e3⟩; clear e2 e3 h hk1 hr1
  go_enter Tryz.func21, Tryz.ntmps21
  go_wp2_with fail; refine (fetch_none c0).mono ?_; rintro e W ⟨rfl, rfl⟩; go_wp2; refine bodyPost_ret (v := .agg (dA root)) ?_ rfl ⟨rfl, HY.out.1⟩; rw [results_seg (P := Tryz.prog) (fn := Tryz.f21) (p := 2) (ty := 23) rfl _ _ ⟨w.heap.size, 0, none⟩ 32 _ rfl Tryz.underlying23 rfl sizeOf23 HY.out.2.1, HY.out.2.2]
end Go.Proofs.YtepjbijhkkjbfaaGreat
