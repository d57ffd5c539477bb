/- A region that draws its order, whose operations, but for a tail in one forced order, each give one value in every world that meets a condition S and keep S: it is walked once, in the order of the text. (Loads beside calls that make memory.) No program is named. -/
import Derived.Test.YtjimamgghkgdeaaBase
import Derived.StillTail
namespace Go.Proofs.Ytjimamgghkgdeaa
section
variable {P : Program} {ops : Array Oper} {md : Region.Mode} {S : World → Prop}

/-- a step's outcome: the value v, and S still holds -/
def GoodRun (P : Program) (S : World → Prop) (v : Value) : Result Next → Prop
  | .ok (.value u) w' => u = v ∧ S w'
  | .ok .skip w' => v = undef ∧ S w'
  | .ok (.enter f args) w' => Calls P f args w' fun e w'' => e = .returned v ∧ S w''
  | _ => False

@[go_sem] theorem goodRun_value (P : Program) (S : World → Prop) (v u : Value) (w : World) : GoodRun P S v (.ok (.value u) w) = (u = v ∧ S w) := rfl
@[go_sem] theorem goodRun_enter (P : Program) (S : World → Prop) (v : Value) (f : FuncId) (args : Array Value) (w : World) : GoodRun P S v (.ok (.enter f args) w) = Calls P f args w fun e w'' => e = .returned v ∧ S w'' := rfl

def MildAt (P : Program) (S : World → Prop) (o : Oper) (a : Act) (v : Value) : Prop := ∀ w, S w → GoodRun P S v ((execOp a.eval o).run P w)

def mdOp (P : Program) (ops : Array Oper) (S : World → Prop) (i : Nat) (K : Act → Prop) (a : Act) : Prop :=
  match ops[i]? with
  | none => K a
  | some o => if Region.wanted o (yielded ops a.tmps) then ∃ v, MildAt P S o a v ∧ K (a.put o.dst v) else K (a.put o.dst undef)

def wpMild (P : Program) (ops : Array Oper) (S : World → Prop) (Q : Act → Prop) : List Oper → Act → Prop
  | [], a => Q a
  | o :: rest, a => if Region.wanted o (yielded ops a.tmps) then ∃ v, MildAt P S o a v ∧ wpMild P ops S Q rest (a.put o.dst v) else wpMild P ops S Q rest (a.put o.dst undef)

theorem wpMild_nil {Q : Act → Prop} {a : Act} (h : Q a) : wpMild P ops S Q [] a := h
theorem wpMild_step {Q : Act → Prop} {a : Act} {o : Oper} {rest : List Oper}
    (h : ∀ K : Act → Prop, (∀ a, wpMild P ops S Q rest a → K a) → if Region.wanted o (yielded ops a.tmps) then ∃ v, MildAt P S o a v ∧ K (a.put o.dst v) else K (a.put o.dst undef)) : wpMild P ops S Q (o :: rest) a :=
  h _ (fun _ h => h)
/-- .. without a guard -/
theorem wpMild_op {Q : Act → Prop} {a : Act} {o : Oper} {rest : List Oper} {v : Value} (hg : o.guard = none) (hm : MildAt P S o a v) (h : wpMild P ops S Q rest (a.put o.dst v)) : wpMild P ops S Q (o :: rest) a := by
  unfold wpMild
  rw [if_pos (by simp [Region.wanted, hg])]
  exact ⟨v, hm, h⟩
/-- .. with a guard that lets it by -/
theorem wpMild_on {Q : Act → Prop} {a : Act} {o : Oper} {rest : List Oper} {v : Value} (hg : Region.wanted o (yielded ops a.tmps) = true) (hm : MildAt P S o a v) (h : wpMild P ops S Q rest (a.put o.dst v)) : wpMild P ops S Q (o :: rest) a := by
  unfold wpMild
  rw [if_pos hg]
  exact ⟨v, hm, h⟩
/-- .. with a guard that passes it over -/
theorem wpMild_off {Q : Act → Prop} {a : Act} {o : Oper} {rest : List Oper} (hg : Region.wanted o (yielded ops a.tmps) = false) (h : wpMild P ops S Q rest (a.put o.dst undef)) : wpMild P ops S Q (o :: rest) a := by
  unfold wpMild
  rw [if_neg (by rw [hg]; simp)]
  exact h

theorem mdOp_mono {i : Nat} {a : Act} {K K' : Act → Prop} (h : ∀ a, K a → K' a) (hh : mdOp P ops S i K a) : mdOp P ops S i K' a := by
  unfold mdOp at *
  split
  · exact h _ (by simpa [*] using hh)
  · rename_i o ho
    simp only [ho] at hh
    split
    · rename_i hw; simp only [hw, if_true] at hh; obtain ⟨v, h1, h2⟩ := hh; exact ⟨v, h1, h _ h2⟩
    · rename_i hw; simp only [hw] at hh; exact h _ hh

theorem wpOp_of_mdOp {i : Nat} {a : Act} {w : World} {K : Act → Prop} {K' : Act → World → Prop} {Q' : Exit → Act → World → Prop} (hS : S w) (h : ∀ a w, S w → K a → K' a w) (hh : mdOp P ops S i K a) : wpOp P ops Q' i K' a w := by
  unfold mdOp at hh
  unfold wpOp
  split
  · rename_i ho; simp only [ho] at hh; exact h _ _ hS hh
  · rename_i o ho
    simp only [ho] at hh
    split
    · rename_i hw
      simp only [hw, if_true] at hh
      obtain ⟨v, hm, hk⟩ := hh
      refine .inl ?_
      unfold Oper.wp
      have h1 := hm w hS
      generalize (execOp a.eval o).run P w = r at *
      cases r with
      | ok n w' =>
        cases n <;> simp only [GoodRun] at h1 <;> simp only [Oper.upon]
        case value u => obtain ⟨rfl, h2⟩ := h1; exact h _ _ h2 hk
        case skip => obtain ⟨rfl, h2⟩ := h1; exact h _ _ h2 hk
        case enter f args => exact h1.mono fun e w'' ⟨he, hs⟩ => by subst he; exact h _ _ hs hk
      | halt x w' => simp only [GoodRun] at h1
    · rename_i hw; simp only [hw] at hh; exact h _ _ hS hh

def YieldsM (P : Program) (ops : Array Oper) (S : World → Prop) (o : Oper) (v : Value) (a : Act) : Prop :=
  (Region.wanted o (yielded ops a.tmps) = true ∧ MildAt P S o a v) ∨ (Region.wanted o (yielded ops a.tmps) = false ∧ v = undef)

theorem YieldsM.mdOp {i : Nat} {o : Oper} {v : Value} {a : Act} (hi : ops[i]? = some o) (hy : YieldsM P ops S o v a) {K : Act → Prop} (h : K (a.put o.dst v)) : mdOp P ops S i K a := by
  unfold Proofs.Ytjimamgghkgdeaa.mdOp
  simp only [hi]
  rcases hy with ⟨hw, hv⟩ | ⟨hw, rfl⟩
  · simp only [hw, if_true]; exact ⟨v, hv, h⟩
  · simp only [hw, Bool.false_eq_true, if_false]; exact h

theorem YieldsM.of_same {o : Oper} {v : Value} {a a' : Act} (hy : YieldsM P ops S o v a) (he : execOp a'.eval o = execOp a.eval o)
    (hw : Region.wanted o (yielded ops a'.tmps) = Region.wanted o (yielded ops a.tmps)) : YieldsM P ops S o v a' := by
  unfold YieldsM MildAt at *
  rw [he, hw]
  exact hy

theorem yieldsM_of_mdOp {i : Nat} {o : Oper} {a : Act} {K : Act → Prop} (hi : ops[i]? = some o) (h : mdOp P ops S i K a) : ∃ v, YieldsM P ops S o v a ∧ K (a.put o.dst v) := by
  unfold mdOp at h
  simp only [hi] at h
  by_cases hw : Region.wanted o (yielded ops a.tmps) = true
  · simp only [hw, if_true] at h
    obtain ⟨v, h1, h2⟩ := h
    exact ⟨v, .inl ⟨hw, h1⟩, h2⟩
  · simp only [hw] at h
    exact ⟨undef, .inr ⟨by simpa using hw, rfl⟩, h⟩

theorem mdOp_put {j : Nat} {oi oj : Oper} {v : Value} (hj : ops[j]? = some oj) (hap : oi.apart ops oj = true)
    (hsi : ∀ cs b, oi.op ≠ .select cs b) (hsj : ∀ cs b, oj.op ≠ .select cs b) {K : Act → Prop} {a : Act}
    (hy : YieldsM P ops S oi v a) (h : mdOp P ops S j K (a.put oi.dst v)) :
    mdOp P ops S j (fun a' => YieldsM P ops S oi v a' ∧ K (a'.put oi.dst v)) a := by
  obtain ⟨h1, h2, h3⟩ := Oper.apart_spec hap
  have keep : ∀ (a : Act), YieldsM P ops S oi v a → ∀ u, YieldsM P ops S oi v (a.put oj.dst u) := fun a hy u =>
    hy.of_same (execOp_put oi hsi a oj.dst u h3) (wanted_put oi a oj.dst u h3)
  unfold mdOp at *
  simp only [hj] at *
  rw [wanted_put oj a oi.dst v h1] at h
  split
  · rename_i hw
    simp only [hw, if_true] at h
    obtain ⟨u, hm, hk⟩ := h
    refine ⟨u, ?_, keep a hy u, by rw [← Act.put_comm a v u h2]; exact hk⟩
    unfold MildAt at *
    rwa [execOp_put oj hsj a oi.dst v h1] at hm
  · rename_i hw
    simp only [hw] at h
    exact ⟨keep a hy _, by rw [← Act.put_comm a v undef h2]; exact h⟩

/-- whatever order is picked among the first n, till L -/
def wpAnyM (P : Program) (md : Region.Mode) (ops : Array Oper) (S : World → Prop) (n : Nat) (L : Array Bool → Act → Prop) : Nat → Array Bool → Act → Prop
  | 0, listed, a => L listed a
  | f + 1, listed, a =>
    Region.ready md ops listed ≠ [] ∧ ∀ i ∈ Region.ready md ops listed, i < n ∧ mdOp P ops S i (wpAnyM P md ops S n L f (listed.setIfInBounds i true)) a

theorem wpAny_of_mild {n g : Nat} {L : Array Bool → Act → Prop} {Q' : Exit → Act → World → Prop} (hL : ∀ listed a w, S w → L listed a → wpAny P md ops Q' g listed a w) :
    ∀ (f : Nat) (listed : Array Bool) (a : Act) (w : World), S w → wpAnyM P md ops S n L f listed a → wpAny P md ops Q' (f + g) listed a w
  | 0, listed, a, w, hS, h => by rw [Nat.zero_add]; exact hL _ _ _ hS h
  | f + 1, listed, a, w, hS, h => by
    rw [show f + 1 + g = (f + g) + 1 by omega]
    exact ⟨fun h0 => absurd h0 h.1, fun i hi => wpOp_of_mdOp hS (fun a' w' hS' h' => wpAny_of_mild hL f _ a' w' hS' h') (h.2 i hi).2⟩

theorem wpAnyM_first {n i : Nat} {oi : Oper} {v : Value} {L : Array Bool → Act → Prop} (hi : ops[i]? = some oi) (hsel : ∀ (j : Nat) (o : Oper) cs b, ops[j]? = some o → o.op ≠ .select cs b)
    (hwait : ∀ (listed : Array Bool), HeadInv md ops n listed → ∀ k, k < n → listed.getD k true = false → ∀ t, n ≤ t → t ∉ Region.ready md ops listed) (hin : i < n)
    (hdone : ∀ listed a, L listed a → ∀ j ∈ Region.ready md ops listed, n ≤ j) :
    ∀ (f : Nat) (listed : Array Bool) (a : Act), HeadInv md ops n listed →
      (∀ j oj, ops[j]? = some oj → j ≠ i → listed.getD j true = false → (∀ e ∈ oj.after, Region.binds md e = true → e.on ≠ i) → oi.apart ops oj = true) →
      i ∈ Region.ready md ops listed → YieldsM P ops S oi v a →
      wpAnyM P md ops S n L f (listed.setIfInBounds i true) (a.put oi.dst v) → wpAnyM P md ops S n L (f + 1) listed a := by
  intro f
  induction f with
  | zero =>
    intro listed a inv _ hr hy H
    have hun := (mem_ready.1 hr).1
    refine ⟨fun h => (by rw [h] at hr; cases hr), fun j hj => ?_⟩
    have hjn : j < n := by
      rcases Nat.lt_or_ge j n with h | h
      · exact h
      · exact absurd hj (hwait listed inv i hin hun j h)
    refine ⟨hjn, ?_⟩
    by_cases hji : j = i
    · subst hji; exact hy.mdOp hi H
    · have := hdone _ _ H j (ready_mono hj hji)
      omega
  | succ f ih =>
    intro listed a inv hfree hr hy H
    have hun := (mem_ready.1 hr).1
    refine ⟨fun h => (by rw [h] at hr; cases hr), fun j hj => ?_⟩
    have hjn : j < n := by
      rcases Nat.lt_or_ge j n with h | h
      · exact h
      · exact absurd hj (hwait listed inv i hin hun j h)
    refine ⟨hjn, ?_⟩
    by_cases hji : j = i
    · subst hji; exact hy.mdOp hi H
    · have h1 := (H.2 j (ready_mono hj hji)).2
      obtain ⟨hjun, oj, hoj, hall⟩ := mem_ready.1 hj
      have hnot : ∀ e ∈ oj.after, Region.binds md e = true → e.on ≠ i := fun e he hb heq => by
        have h1 := hall e he hb
        rw [heq, getD_both hun] at h1
        cases h1
      have h2 := mdOp_put hoj (hfree j oj hoj hji hjun hnot) (fun cs b => hsel i oi cs b hi) (fun cs b => hsel j oj cs b hoj) hy h1
      have hfree' : ∀ k ok, ops[k]? = some ok → k ≠ i → (listed.setIfInBounds j true).getD k true = false →
          (∀ e ∈ ok.after, Region.binds md e = true → e.on ≠ i) → oi.apart ops ok = true := fun k ok hk hki hun hno => by
        refine hfree k ok hk hki ?_ hno
        by_cases hjk : j = k
        · subst hjk; exact hjun
        · rw [getD_set_ne true hjk] at hun; exact hun
      refine mdOp_mono (fun a' h3 => ih (listed.setIfInBounds j true) a' (inv.set hj hjn) hfree' (ready_mono hr (Ne.symm hji)) h3.1 ?_) h2
      rw [Array.setIfInBounds_comm _ _ hji]
      exact h3.2

theorem wpAnyM_lex {n g : Nat} {Lq : Act → Prop} (hsel : Region.noSelect ops = true)
    (hwait : ∀ (listed : Array Bool), HeadInv md ops n listed → ∀ k, k < n → listed.getD k true = false → ∀ t, n ≤ t → t ∉ Region.ready md ops listed) :
    ∀ (l : List Oper) (k : Nat) (listed : Array Bool) (a : Act), (∀ j, j < l.length → l[j]? = ops[k + j]?) → k + l.length = n → HeadInv md ops n listed →
    Region.lexHead md ops g l.length k listed = true → wpMild P ops S Lq l a →
    wpAnyM P md ops S n (fun listed' a' => Region.seqB md ops g n listed' = true ∧ Lq a') l.length listed a
  | [], k, listed, a, _, hk, _, hB, h => by
    have : k = n := by simpa using hk
    subst this
    exact ⟨by simpa [Region.lexHead] using hB, h⟩
  | o :: l, k, listed, a, hl, hk, inv, hB, h => by
    have h0 : ops[k]? = some o := by simpa using (hl 0 (by simp)).symm
    simp only [List.length_cons, Region.lexHead, Bool.and_eq_true] at hB
    obtain ⟨⟨hr, hf⟩, hB'⟩ := hB
    have hkn : k < n := by simp only [List.length_cons] at hk; omega
    have hr' : k ∈ Region.ready md ops listed := by simpa using hr
    have hst : mdOp P ops S k (wpMild P ops S Lq l) a := by unfold mdOp; simp only [h0]; exact h
    obtain ⟨v, hy, hK⟩ := yieldsM_of_mdOp h0 hst
    exact wpAnyM_first h0 (Region.noSelect_spec hsel) hwait hkn (fun listed' a' hL => seqB_ready hL.1) l.length listed a inv (Region.free_spec h0 hf) hr' hy
      (wpAnyM_lex hsel hwait l (k + 1) _ _ (fun j hj => by have := hl (j + 1) (by simp; omega); simpa [Nat.add_assoc, Nat.add_comm 1 j] using this) (by simp only [List.length_cons] at hk; omega) (inv.set hr' hkn) hB' hK)

/-- THE REGION, WITH A TAIL: the first n operations are mild under S; the rest come in one forced order. -/
theorem wp_region_mild {id : Nat} {Q : Exit → Act → World → Prop} {a : Act} {w : World} {l : List Oper} (n : Nat) (hm : P.follows .mixedOrders = true) (hB : Region.lexTailB .any l.toArray n = true) (S : World → Prop) (hS : S w.drew)
    (h : wpMild P l.toArray S (fun a' => ∀ w', S w' → wpList P l.toArray Q (l.drop n) a' w') (l.take n) a) : (Code.region id l.toArray true).wp P Q a w := by
  simp only [Region.lexTailB, Bool.and_eq_true, decide_eq_true_eq] at hB
  obtain ⟨⟨⟨⟨hsel, hn⟩, hs⟩, hc⟩, hlex⟩ := hB
  have hn' : n < l.length := by simpa using hn
  have htl : (l.take n).length = n := by simp; omega
  have hdl : (l.drop n).length = l.toArray.size - n := by simp
  have inv0 : HeadInv .any l.toArray n (Array.replicate l.toArray.size false) :=
    ⟨by simp, fun j oj _ hl => (by rw [getD_replicate_false] at hl; cases hl), fun t _ ht => getD_in (by simpa using ht) (getD_replicate_false _ _)⟩
  have H := wpAnyM_lex (md := .any) (g := l.toArray.size - n) hsel (fun listed inv k hk hun t ht => tail_waits hs hc hn inv _ k rfl hk hun t ht) (l.take n) 0 _ a (fun j hj => by
    have hj' : j < n := by rw [htl] at hj; exact hj
    simp [hj']) (by simpa using htl) inv0 (by rw [htl]; exact hlex) h
  refine wp_region_any hm ?_
  have := wpAny_of_mild (Q' := Q) (g := l.toArray.size - n) (fun listed a' w' hS' hL => by
    have := wpAny_of_seq (md := .any) (Q' := Q) (l.drop n) n listed a' w' (fun j => by simp [List.getElem?_drop]) (by rw [hdl]; exact hL.1) (hL.2 w' hS')
    rwa [hdl] at this) _ _ _ w.drew hS H
  rw [htl, show n + (l.toArray.size - n) = l.toArray.size by omega] at this
  exact this

/-- all are mild -/
theorem wp_region_mild_all {id : Nat} {Q : Exit → Act → World → Prop} {a : Act} {w : World} {l : List Oper} (hm : P.follows .mixedOrders = true)
    (hB : (Region.noSelect l.toArray && Region.lexHead .any l.toArray 0 l.length 0 (Array.replicate l.length false)) = true) (S : World → Prop) (hS : S w.drew)
    (h : wpMild P l.toArray S (fun a' => ∀ w', S w' → Q .normal a' w') l a) : (Code.region id l.toArray true).wp P Q a w := by
  simp only [Bool.and_eq_true] at hB
  obtain ⟨hsel, hlex⟩ := hB
  have inv0 : HeadInv .any l.toArray l.length (Array.replicate l.length false) :=
    ⟨by simp, fun j oj _ hl => (by rw [getD_replicate_false] at hl; cases hl), fun t h1 ht => absurd ht (by simpa using h1)⟩
  have H := wpAnyM_lex (md := .any) (n := l.length) (g := 0) hsel (fun listed inv k hk hun t ht hr => by
    obtain ⟨_, o, ho, _⟩ := mem_ready.1 hr
    have : t < l.length := by simpa using (Array.getElem?_eq_some_iff.1 ho).1
    omega) l 0 _ a (fun j hj => by simp) (by simp) inv0 hlex h
  refine wp_region_any hm ?_
  have := wpAny_of_mild (Q' := Q) (g := 0) (fun listed a' w' hS' hL => ⟨by
    simpa [Region.seqB] using hL.1, hL.2 w' hS'⟩) _ _ _ w.drew hS H
  simpa using this
end
end Go.Proofs.Ytjimamgghkgdeaa
