/- Arguments opened: slices of whatever elements, structs, arrays, integers, as they lie in memory; each slice within the form's reach. -/
import Derived.Test.YtjimamgghkgdeaaFrame
import Derived.Deep.Slices
namespace Go.Proofs.Ytjimamgghkgdeaa
open Go.ChangeShapes Go.WideShapes Go.ChangeAt Go.RowKit Go.Deep

section
variable {H : Type} {enc : TypeId × Value → H} {P : Program} {W : World}

theorem weightsAll_mem {e : TypeId} {n : Nat} : ∀ {l : List (DataW H)} {d : DataW H}, d ∈ l → n ∈ d.weights P e → n ∈ DataW.weightsAll P e l
  | x :: l, d, hd, hn => by
    simp only [DataW.weightsAll, List.mem_append]
    rcases List.mem_cons.1 hd with rfl | hd
    · exact .inl hn
    · exact .inr (weightsAll_mem hd hn)

/-- cells read as data of a type, within the reach (the reading itself is left out) -/
def ReadsAs (enc : TypeId × Value → H) (P : Program) (W : World) (t : TypeId) (cs : List Value) : Prop :=
  ∃ fuel x, DataW.trod enc P W 0 (fun _ => true) true fuel t cs = some x ∧ ∀ n ∈ x.1.weights P t, n ≤ reachBytes

theorem ReadsAs.of_trod {ts : List TypeId} {ds : List (DataW H)} (hsz : (DataW.weightsEach P ts ds).all (· ≤ reachBytes) = true) {j : Nat} {t : TypeId} {v : Value} {d : DataW H} {ps : List MemPlace} (ht : ts[j]? = some t) (hd : ds[j]? = some d)
    (h : DataW.Trod enc P W 0 (fun _ => true) true t v d ps) : ReadsAs enc P W t v.cells.toList := by
  obtain ⟨fuel, hf⟩ := h
  exact ⟨fuel, _, hf, fun n hn => by simpa using List.all_eq_true.1 hsz _ (DataW.weights_mem_each ht hd n hn)⟩

theorem ReadsAs.int {t : TypeId} {k : IntKind} (ht : P.underlying t = some (.int k)) {cs : List Value} (h : ReadsAs enc P W t cs) : ∃ n, cs = [.int k n] ∧ (Lit.int k n).wf = true := by
  obtain ⟨fuel, x, h, _⟩ := h
  obtain ⟨a, e0, _, wa⟩ := DataW.trod_int ht h
  exact ⟨a, e0, wa⟩

theorem ReadsAs.bool {t : TypeId} (ht : P.underlying t = some .bool) {cs : List Value} (h : ReadsAs enc P W t cs) : ∃ b, cs = [.bool b] := by
  obtain ⟨fuel, x, h, _⟩ := h
  cases fuel with
  | zero => simp [DataW.trod] at h
  | succ n =>
    unfold DataW.trod at h
    rw [ht] at h
    split at h <;> simp_all

/-- a struct: each field's cells read as the field's type -/
theorem ReadsAs.struct {t : TypeId} {fs : Array Field} (ht : P.underlying t = some (.struct fs)) {cs : List Value} (h : ReadsAs enc P W t cs) :
    cs.length = P.cellsOf t ∧ ∀ (i : Nat) (f : Field), fs[i]? = some f → ReadsAs enc P W f.type ((cs.drop f.offset).take (P.cellsOf f.type)) := by
  obtain ⟨fuel, x, h, hw⟩ := h
  obtain ⟨xs, n, _, rfl, hl, hx, hf⟩ := DataW.trod_struct ht h
  refine ⟨hl, fun i f hi => ?_⟩
  have hlt : i < xs.length := by rw [hx]; exact (Array.getElem?_eq_some_iff.1 hi).1
  refine ⟨n, xs[i], by rw [hf i f hi]; simp [hlt], fun m hm => hw m ?_⟩
  simp only [DataW.weights, ht]
  exact DataW.weights_mem_each (j := i) (t := f.type) (d := xs[i].1) (by simp [hi]) (by simp [hlt]) m hm

/-- an array of one-cell elements: each cell reads as the element's type -/
theorem ReadsAs.array {t e : TypeId} {n : Nat} (ht : P.underlying t = some (.array n e)) (he : P.cellsOf e = 1) {cs : List Value} (h : ReadsAs enc P W t cs) :
    cs.length = P.cellsOf t ∧ ∀ i, i < n → ReadsAs enc P W e ((cs.drop i).take 1) := by
  obtain ⟨fuel, x, h, hw⟩ := h
  obtain ⟨xs, m, _, rfl, hl, hx, hf⟩ := DataW.trod_array ht h
  refine ⟨hl, fun i hi => ?_⟩
  have hlt : i < xs.length := by omega
  have h1 := hf i hi
  rw [he, Nat.mul_one] at h1
  refine ⟨m, xs[i], by rw [h1]; simp [hlt], fun k hk => hw k ?_⟩
  simp only [DataW.weights, ht]
  exact weightsAll_mem (List.mem_map.2 ⟨xs[i], List.getElem_mem hlt, rfl⟩) hk

/-- a slice: nil, or elements from an address on, each of which reads as the element's type -/
theorem ReadsAs.slice {t e : TypeId} {n : Nat} (ht : P.underlying t = some (.slice e)) (hn : P.cellsOf e = n) (h0 : 0 < n) {cs : List Value} (h : ReadsAs enc P W t cs) :
    ∃ A len cap, cs = [.slice A len cap] ∧ len ≤ cap ∧ len ≤ maxLen ∧ len * P.bytesOf e ≤ reachBytes ∧
      ∀ i, i < len → ∃ b off cs', A = some ⟨b, off, none⟩ ∧ cs'.length = n ∧ (∀ j, j < n → W.cell? ⟨b, off + i * n + j, none⟩ = cs'[j]?) ∧ ReadsAs enc P W e cs' := by
  obtain ⟨fuel, x, h, hw⟩ := h
  rcases open_slice ht h with ⟨rfl, _⟩ | ⟨a, len, cap, m, k, D, Pl, rfl, _, hl, hm, hmm, rfl, hi⟩
  · exact ⟨none, 0, 0, rfl, Nat.le_refl _, Nat.zero_le _, by simp, fun i hi => absurd hi (Nat.not_lt_zero i)⟩
  · have hm' : m = cap := by simpa using hmm
    simp only [DataW.weights, ht] at hw
    have key : ∀ i, i < len → ∃ b off cs', a = ⟨b, off, none⟩ ∧ cs'.length = n ∧ (∀ j, j < n → W.cell? ⟨b, off + i * n + j, none⟩ = cs'[j]?) ∧ ReadsAs enc P W e cs' := by
      intro i hil
      obtain ⟨cs', hc, ht'⟩ := hi i (by omega)
      rw [hn] at hc
      obtain ⟨_, hcl, hat⟩ := World.cells?_some hc
      have hsp : a = ⟨a.block, a.off, none⟩ := by
        obtain ⟨cs0, hc0, _⟩ := hi 0 (by omega)
        rw [hn] at hc0
        obtain ⟨_, hcl0, hat0⟩ := World.cells?_some hc0
        have h1 := hat0 0 h0
        rw [Nat.zero_mul, List.getElem?_eq_getElem (by omega)] at h1
        obtain ⟨b, o, s⟩ := a
        cases s with
        | none => rfl
        | some s => simp [World.cell?, Addr.add] at h1; split at h1 <;> simp_all
      refine ⟨a.block, a.off, cs', hsp, hcl, fun j hj => ?_, _, _, ht', fun q hq => hw q ?_⟩
      · have h1 := hat j hj
        rw [hsp] at h1
        rw [add_none, add_none] at h1
        exact h1
      · simp only [List.mem_cons, List.mem_append]
        exact .inr (.inl (weightsAll_mem (List.mem_map.2 ⟨i, List.mem_range.2 hil, rfl⟩) hq))
    refine ⟨some a, len, cap, rfl, hl, by omega, ?_, fun i hil => ?_⟩
    · have h1 := hw _ (List.mem_cons_self ..)
      simp only [List.length_map, List.length_range] at h1
      exact Nat.le_trans (Nat.mul_le_mul_right _ (Nat.le_add_right _ _)) h1
    · obtain ⟨b, off, cs', rfl, h1, h2, h3⟩ := key i hil
      exact ⟨b, off, cs', rfl, h1, h2, h3⟩

/-- a slice of ints -/
theorem ReadsAs.ints {t e : TypeId} (ht : P.underlying t = some (.slice e)) (he : P.underlying e = some (.int .i64)) (hc : P.cellsOf e = 1) (hb : P.bytesOf e = 8) {cs : List Value} (h : ReadsAs enc P W t cs) :
    ∃ A R cap, cs = [.slice A R.length cap] ∧ R.length * 8 ≤ reachBytes ∧ (∀ x ∈ R, (Lit.int .i64 x).wf = true) ∧
      (R = [] ∨ ∃ b off, A = some ⟨b, off, none⟩ ∧ ∀ k (h : k < R.length), W.cell? ⟨b, off + k, none⟩ = some (.int .i64 R[k])) := by
  obtain ⟨A, len, cap, rfl, hl, _, hw, hi⟩ := h.slice ht hc (by omega)
  rw [hb] at hw
  have hx : ∀ i, i < len → ∃ x, (Lit.int .i64 x).wf = true ∧ ∃ b off, A = some ⟨b, off, none⟩ ∧ W.cell? ⟨b, off + i, none⟩ = some (.int .i64 x) := by
    intro i hil
    obtain ⟨b, off, cs', hA, hl', hcell, hr⟩ := hi i hil
    obtain ⟨x, rfl, wx⟩ := hr.int he
    have := hcell 0 (by omega)
    exact ⟨x, wx, b, off, hA, by simpa using this⟩
  let f : Nat → Int := fun i => if h : i < len then (hx i h).choose else 0
  have hf : ∀ i, i < len → (Lit.int .i64 (f i)).wf = true ∧ ∃ b off, A = some ⟨b, off, none⟩ ∧ W.cell? ⟨b, off + i, none⟩ = some (.int .i64 (f i)) := by
    intro i hil
    have := (hx i hil).choose_spec
    simp only [f, dif_pos hil]
    exact this
  refine ⟨A, (List.range len).map f, cap, by simp, by simpa using hw, ?_, ?_⟩
  · intro x hxm
    obtain ⟨i, him, rfl⟩ := List.mem_map.1 hxm
    exact (hf i (List.mem_range.1 him)).1
  · rcases Nat.eq_zero_or_pos len with h0 | h0
    · left; simp [h0]
    · right
      obtain ⟨_, b, off, hA, _⟩ := hf 0 h0
      refine ⟨b, off, hA, fun k hk => ?_⟩
      simp only [List.length_map, List.length_range] at hk
      obtain ⟨_, b', off', hA', hcell⟩ := hf k hk
      rw [hA] at hA'
      simp only [Option.some.injEq, Addr.mk.injEq, and_true] at hA'
      obtain ⟨rfl, rfl⟩ := hA'
      simpa using hcell
end
end Go.Proofs.Ytjimamgghkgdeaa
