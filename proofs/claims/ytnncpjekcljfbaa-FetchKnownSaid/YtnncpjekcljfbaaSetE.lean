/- The texts of this hand-in, merged: ProA ProB ProC ProD ProE ProF ProG ProH ProI. -/
import Derived.Test.YtnncpjekcljfbaaSetD
import Derived.WalkMore
/- A proof in memory; arguments opened. -/
namespace Go.Proofs.Ytnncpjekcljfbaa
open Go.ChangeShapes Go.WideShapes Go.ChangeAt Go.RowKit

/-- a slice's cell, and the digests that it tells -/
def DigsAt (W : World) (x : SlC) (D : List Dig) : Prop := Digs W x.A D ∧ x.n = D.length ∧ D.length ≤ x.c
theorem DigsAt.kept {W W' : World} {x : SlC} {D : List Dig} (h : DigsAt W x D) (hu : Kept W W') : DigsAt W' x D := ⟨h.1.kept hu, h.2⟩
/-- a proof in memory -/
def ProofAt (W : World) (A : Option Addr) (P : List (SlC × List Dig)) : Prop := ∀ i (hi : i < P.length), ∃ b off, A = some ⟨b, off, none⟩ ∧ W.cell? ⟨b, off + i, none⟩ = some (SlC.v P[i].1) ∧ DigsAt W P[i].1 P[i].2
theorem ProofAt.kept {W W' : World} {A : Option Addr} {P : List (SlC × List Dig)} (h : ProofAt W A P) (hu : Kept W W') : ProofAt W' A P := fun i hi => by
  obtain ⟨b, off, h1, h2, h3⟩ := h i hi
  exact ⟨b, off, h1, hu.cell h2 id, h3.kept hu⟩
theorem ProofAt.nil (W : World) (A : Option Addr) : ProofAt W A [] := fun i hi => absurd hi (Nat.not_lt_zero i)
theorem ProofAt.head {W : World} {A : Option Addr} {p : SlC × List Dig} {P : List (SlC × List Dig)} (h : ProofAt W A (p :: P)) : ∃ b off A2 c2, A = some ⟨b, off, none⟩ ∧ W.cell? ⟨b, off, none⟩ = some (.slice A2 p.2.length c2) ∧ Digs W A2 p.2 ∧ p.2.length ≤ c2 := by
  obtain ⟨b, off, h1, h2, h3, h4, h5⟩ := h 0 (by simp)
  obtain ⟨⟨A2, n, c2⟩, D⟩ := p
  simp only [List.getElem_cons_zero] at h2 h3 h4 h5
  subst h4
  exact ⟨b, off, A2, c2, h1, h2, h3, h5⟩
theorem ProofAt.tail {W : World} {b off : Nat} {p : SlC × List Dig} {P : List (SlC × List Dig)} (h : ProofAt W (some ⟨b, off, none⟩) (p :: P)) : ProofAt W (some ⟨b, off + 1, none⟩) P := fun i hi => by
  obtain ⟨b', off', h1, h2, h3⟩ := h (i + 1) (by simpa using hi)
  simp only [Option.some.injEq, Addr.mk.injEq, and_true] at h1
  obtain ⟨rfl, rfl⟩ := h1
  refine ⟨b, off + 1, rfl, ?_, by simpa using h3⟩
  rw [Nat.add_assoc, Nat.add_comm 1 i]
  simpa using h2
section
variable {H : Type} {enc : TypeId × Value → H} {W : World}
theorem ds_cells : Try.prog.cellsOf 41 = 1 := by kernel_rfl
theorem open_proof {cs : List Value} (h : ReadsAs enc Try.prog W 63 cs) : ∃ A c P, cs = [.slice A (List.length P) c] ∧ ProofAt W A P ∧ P.length ≤ c ∧ P.length ≤ 140737488351232 := by
  obtain ⟨A, n, c, rfl, hle, hmax, hb, hi⟩ := h.slice Try.underlying63 ds_cells (by omega)
  have hx : ∀ i, i < n → ∃ p : SlC × List Dig, ∃ b off, A = some ⟨b, off, none⟩ ∧ W.cell? ⟨b, off + i, none⟩ = some (SlC.v p.1) ∧ DigsAt W p.1 p.2 := by
    intro i hin
    obtain ⟨b, off, cs', hA, hl', hcell, hr⟩ := hi i hin
    obtain ⟨A2, c2, D, rfl, hD, hc⟩ := open_digs hr
    exact ⟨(⟨A2, D.length, c2⟩, D), b, off, hA, by rw [SlC.v_eq]; simpa using hcell 0 (by omega), hD, rfl, hc⟩
  obtain ⟨P, hl, hp⟩ := list_of n hx
  subst hl
  have hbb : Try.prog.bytesOf 41 = 24 := by kernel_rfl
  exact ⟨A, c, P, rfl, hp, hle, by rw [hbb] at hb; unfold reachBytes at hb; omega⟩
end

theorem dss_elem : Try.prog.elem 63 = 41 := by kernel_rfl
theorem ds_sizeOf (W : World) : (sizeOf 41).run Try.prog W = .ok 1 W := by
  obtain ⟨i, hi, h2⟩ := Option.map_eq_some_iff.1 ds_info
  simp only [Prod.mk.injEq] at h2
  simp [sizeOf, typeInfo, hi, h2]
/-- the rest of a proof -/
theorem slice_rest {A : Option Addr} {p : SlC × List Dig} {P : List (SlC × List Dig)} (len cap : Nat) (h1 : 1 ≤ len) (h2 : len ≤ cap) : ∃ A2, (∀ W, (Instr.sliceAt 63 (.slice A len cap) (some (.int .i64 1)) none none).run Try.prog W = .ok (.slice A2 (len - 1) (cap - 1)) W) ∧ ((∃ b off, A = some ⟨b, off, none⟩) → (p :: P).length = len → ∀ W, ProofAt W A (p :: P) → ProofAt W A2 P) := by
  refine ⟨if cap = 1 then A else A.map (·.add 1), fun W => ?_, fun ⟨b, off, hA⟩ hl W hP => ?_⟩
  · have ht : Try.prog.underlying 63 = some (.slice (Try.prog.elem 63)) := by rw [dss_elem]; exact Try.underlying63
    have := run_slice_l (P := Try.prog) (w := W) 63 A len cap ht .i64 1 (by omega) (by omega)
    rw [run_sliceAt_slice (h := ht), this, dss_elem, ds_sizeOf]
    simp [Result.andThen, sliced]
  · subst hA
    by_cases hc : cap = 1
    · have h0 : P = [] := List.eq_nil_of_length_eq_zero (by simp at hl; omega)
      subst h0
      exact ProofAt.nil _ _
    · rw [if_neg hc, Option.map_some, add_none]
      exact hP.tail
end Go.Proofs.Ytnncpjekcljfbaa
/- proof: Fits, LeafFits, four. -/
namespace Go.Proofs.Ytnncpjekcljfbaa
open Go.RowKit

set_option maxHeartbeats 800000 in
set_option maxRecDepth 20000 in
theorem proof_Fits_of {w : World} {p : Option Addr} {x : Value} (d y : Dig) {S : Nat → Prop} {Q : World → Prop}
    (hU : ∀ w1, Kept w w1 → Calls Try.prog 41 #[.pointer p, x] w1 fun e W => e = .returned (.tuple #[.agg (dA y), .int .i64 0]) ∧ Q W ∧ Upd S w1 W) (hS : ∀ k, S k → k < w.heap.size) (hQ : ∀ W W', Q W → Kept W W' → Q W') :
    Calls Try.prog 58 #[.pointer p, .agg (dA d), x] w fun e W => e = .returned (.int .i64 (if y = d then 0 else 100)) ∧ Q W ∧ Upd S w W := by
  have hd1 : Blk (w.alloc (.cells (dA d) 46)) w.heap.size 46 (encB (d).1) := Blk.new w _ _
  have hk1 : Kept w (w.alloc (.cells (dA d) 46)) := (Upd.refl _ w).alloc _
  have HG := hU _ hk1
  have HX := Lib.hid (And.intro hd1 (And.intro hk1 (And.intro hS hQ)))
  have HC : Hid ((y = d ∧ (if y = d then (0 : Int) else 100) = 0) ∨ (decide (y = d) = false ∧ (if y = d then (0 : Int) else 100) = 100)) := by
    by_cases hy : y = d
    · exact .inl ⟨hy, if_pos hy⟩
    · exact .inr ⟨decide_eq_false hy, if_neg hy⟩
  generalize (if y = d then (0 : Int) else 100) = zz at *
  clear hd1 hk1 hU hS hQ
  go_enter Try.func58, Try.ntmps58
  go_wp2_with fail
  refine HG.mono ?_
  clear HG
  rintro e w2 ⟨rfl, hq2, hu2⟩
  have hb2 := HX.out.1.upd hu2 (fun e => absurd (HX.out.2.2.1 _ e) (Nat.lt_irrefl _))
  have hd3 : Blk (w2.alloc (.cells (dA y) 46)) w2.heap.size 46 (encB (y).1) := Blk.new w2 _ _
  have hk3 : Kept w2 (w2.alloc (.cells (dA y) 46)) := (Upd.refl _ w2).alloc _
  obtain ⟨p1, p2⟩ := dig_at (hb2.kept hk3)
  obtain ⟨p3, p4⟩ := dig_at hd3
  have HF : Hid (Q (w2.alloc (.cells (dA y) 46)) ∧ Upd S w (w2.alloc (.cells (dA y) 46))) := ⟨HX.out.2.2.2 _ _ hq2 hk3, (HX.out.2.1.to.trans hu2).alloc _⟩
  clear hb2 hd3 hk3 hq2 hu2 HX
  rcases HC.out with ⟨rfl, rfl⟩ | ⟨hdy, rfl⟩
  · go_wp2
    go_ret
    exact ⟨rfl, HF.out⟩
  · go_wp2
    go_ret
    exact ⟨rfl, HF.out⟩
set_option maxHeartbeats 800000 in
set_option maxRecDepth 20000 in
theorem proof_Fits_no {w : World} {p : Option Addr} {x : Value} (d y : Dig) {z : Int} (hz : z ≠ 0)
    (hU : ∀ w1, Kept w w1 → Calls Try.prog 41 #[.pointer p, x] w1 fun e W => e = .returned (.tuple #[.agg (dA y), .int .i64 z]) ∧ Kept w1 W) :
    Calls Try.prog 58 #[.pointer p, .agg (dA d), x] w fun e W => e = .returned (.int .i64 z) ∧ Kept w W := by
  have hd1 : Blk (w.alloc (.cells (dA d) 46)) w.heap.size 46 (encB (d).1) := Blk.new w _ _
  have hk1 : Kept w (w.alloc (.cells (dA d) 46)) := (Upd.refl _ w).alloc _
  have HG := hU _ hk1
  have HX := Lib.hid hk1
  clear hd1 hk1 hU
  have hdz : decide (z = 0) = false := decide_eq_false hz
  go_enter Try.func58, Try.ntmps58
  go_wp2_with fail
  refine HG.mono ?_
  clear HG
  rintro e w2 ⟨rfl, hu2⟩
  have hd3 : Blk (w2.alloc (.cells (dA y) 46)) w2.heap.size 46 (encB (y).1) := Blk.new w2 _ _
  have hk3 : Kept w2 (w2.alloc (.cells (dA y) 46)) := (Upd.refl _ w2).alloc _
  have HF := Lib.hid (show Kept w (w2.alloc (.cells (dA y) 46)) from (HX.out.then hu2 fun _ _ h => h).alloc _)
  clear hd3 hk3 hu2 HX
  go_wp2
  go_ret
  exact ⟨rfl, HF.out⟩
set_option maxHeartbeats 800000 in
set_option maxRecDepth 20000 in
theorem proof_LeafFits_of {w : World} {p : Option Addr} {x : Value} (d y : Dig) {S : Nat → Prop} {Q : World → Prop}
    (hU : ∀ w1, Kept w w1 → Calls Try.prog 43 #[.pointer p, x] w1 fun e W => e = .returned (.tuple #[.agg (dA y), .int .i64 0]) ∧ Q W ∧ Upd S w1 W) (hS : ∀ k, S k → k < w.heap.size) (hQ : ∀ W W', Q W → Kept W W' → Q W') :
    Calls Try.prog 60 #[.pointer p, .agg (dA d), x] w fun e W => e = .returned (.int .i64 (if y = d then 0 else 100)) ∧ Q W ∧ Upd S w W := by
  have hd1 : Blk (w.alloc (.cells (dA d) 46)) w.heap.size 46 (encB (d).1) := Blk.new w _ _
  have hk1 : Kept w (w.alloc (.cells (dA d) 46)) := (Upd.refl _ w).alloc _
  have HG := hU _ hk1
  have HX := Lib.hid (And.intro hd1 (And.intro hk1 (And.intro hS hQ)))
  have HC : Hid ((y = d ∧ (if y = d then (0 : Int) else 100) = 0) ∨ (decide (y = d) = false ∧ (if y = d then (0 : Int) else 100) = 100)) := by
    by_cases hy : y = d
    · exact .inl ⟨hy, if_pos hy⟩
    · exact .inr ⟨decide_eq_false hy, if_neg hy⟩
  generalize (if y = d then (0 : Int) else 100) = zz at *
  clear hd1 hk1 hU hS hQ
  go_enter Try.func60, Try.ntmps60
  go_wp2_with fail
  refine HG.mono ?_
  clear HG
  rintro e w2 ⟨rfl, hq2, hu2⟩
  have hb2 := HX.out.1.upd hu2 (fun e => absurd (HX.out.2.2.1 _ e) (Nat.lt_irrefl _))
  have hd3 : Blk (w2.alloc (.cells (dA y) 46)) w2.heap.size 46 (encB (y).1) := Blk.new w2 _ _
  have hk3 : Kept w2 (w2.alloc (.cells (dA y) 46)) := (Upd.refl _ w2).alloc _
  obtain ⟨p1, p2⟩ := dig_at (hb2.kept hk3)
  obtain ⟨p3, p4⟩ := dig_at hd3
  have HF : Hid (Q (w2.alloc (.cells (dA y) 46)) ∧ Upd S w (w2.alloc (.cells (dA y) 46))) := ⟨HX.out.2.2.2 _ _ hq2 hk3, (HX.out.2.1.to.trans hu2).alloc _⟩
  clear hb2 hd3 hk3 hq2 hu2 HX
  rcases HC.out with ⟨rfl, rfl⟩ | ⟨hdy, rfl⟩
  · go_wp2
    go_ret
    exact ⟨rfl, HF.out⟩
  · go_wp2
    go_ret
    exact ⟨rfl, HF.out⟩
set_option maxHeartbeats 800000 in
set_option maxRecDepth 20000 in
theorem proof_LeafFits_no {w : World} {p : Option Addr} {x : Value} (d y : Dig) {z : Int} (hz : z ≠ 0)
    (hU : ∀ w1, Kept w w1 → Calls Try.prog 43 #[.pointer p, x] w1 fun e W => e = .returned (.tuple #[.agg (dA y), .int .i64 z]) ∧ Kept w1 W) :
    Calls Try.prog 60 #[.pointer p, .agg (dA d), x] w fun e W => e = .returned (.int .i64 z) ∧ Kept w W := by
  have hd1 : Blk (w.alloc (.cells (dA d) 46)) w.heap.size 46 (encB (d).1) := Blk.new w _ _
  have hk1 : Kept w (w.alloc (.cells (dA d) 46)) := (Upd.refl _ w).alloc _
  have HG := hU _ hk1
  have HX := Lib.hid hk1
  clear hd1 hk1 hU
  have hdz : decide (z = 0) = false := decide_eq_false hz
  go_enter Try.func60, Try.ntmps60
  go_wp2_with fail
  refine HG.mono ?_
  clear HG
  rintro e w2 ⟨rfl, hu2⟩
  have hd3 : Blk (w2.alloc (.cells (dA y) 46)) w2.heap.size 46 (encB (y).1) := Blk.new w2 _ _
  have hk3 : Kept w2 (w2.alloc (.cells (dA y) 46)) := (Upd.refl _ w2).alloc _
  have HF := Lib.hid (show Kept w (w2.alloc (.cells (dA y) 46)) from (HX.out.then hu2 fun _ _ h => h).alloc _)
  clear hd3 hk3 hu2 HX
  go_wp2
  go_ret
  exact ⟨rfl, HF.out⟩
theorem proof_Fits {w : World} {b r q : Nat} {L : List Bytes} (h : BookL w b r q L) {A : Option Addr} {D : List Dig} (c : Nat) (hD : Digs w A D) (h1 : 1 ≤ D.length) (h4 : D.length ≤ 4) (d : Dig) :
    Calls Try.prog 58 #[.pointer (some ⟨b, 0, none⟩), .agg (dA d), .slice A D.length c] w fun e W => e = .returned (.int .i64 (if upM shaM D = d then 0 else 100)) ∧ BookL W b r q (noteM L (upIn D)) ∧ Upd (Book3 b r q) w W :=
  proof_Fits_of d _ (Q := fun W => BookL W b r q (noteM L (upIn D))) (fun _ hu => tree_Up (h.kept hu) c (hD.kept hu) h1 h4) h.lt (fun _ _ hq hk => hq.kept hk)
theorem proof_LeafFits {w : World} {b r q : Nat} {L : List Bytes} (h : BookL w b r q L) {A : Option Addr} {R : Bytes} (c : Nat) (hR : Byt w A R) (hl : R.length < 65536) (d : Dig) :
    Calls Try.prog 60 #[.pointer (some ⟨b, 0, none⟩), .agg (dA d), .slice A R.length c] w fun e W => e = .returned (.int .i64 (if leafM shaM R = d then 0 else 100)) ∧ BookL W b r q (noteM L (leafIn R)) ∧ Upd (Book3 b r q) w W :=
  proof_LeafFits_of d _ (Q := fun W => BookL W b r q (noteM L (leafIn R))) (fun _ hu => tree_Leaf (h.kept hu) c (hR.kept hu) hl) h.lt (fun _ _ hq hk => hq.kept hk)

theorem slice_digs_lhm (W : World) (A : Option Addr) (len cap l h : Nat) (Li Hi : Int) (hL : Li = l) (hH : Hi = h) (h1 : l < h) (h2 : h ≤ cap) :
    (Instr.sliceAt 41 (.slice A len cap) (some (.int .i64 Li)) (some (.int .i64 Hi)) (some (.int .i64 Hi))).run Try.prog W = .ok (.slice (A.map (·.add (l * 32))) (h - l) (h - l)) W := by
  subst hL hH
  have ht : Try.prog.underlying 41 = some (.slice (Try.prog.elem 41)) := by rw [ds_elem]; exact Try.underlying41
  have := run_slice_lhm (P := Try.prog) (w := W) 41 A len cap ht .i64 .i64 .i64 (l : Int) (h : Int) (h : Int) (by omega) (by omega) (by omega) (by omega)
  rw [run_sliceAt_slice (h := ht), this, ds_elem, dig_sizeOf]
  simp only [Result.andThen, sliced, Int.toNat_natCast]
  rw [if_neg (by omega)]

set_option maxHeartbeats 800000 in
set_option maxRecDepth 20000 in
theorem proof_four {w : World} {A : Option Addr} {D : List Dig} (c i : Nat) (hD : Digs w A D) (hc : D.length ≤ c) (hi : i < D.length) (hl : D.length ≤ 1024) :
    Calls Try.prog 90 #[.slice A D.length c, .int .i64 i] w fun e W => ∃ v, e = .returned v ∧ OwnD W w.heap.size v (group D (i / 4)) ∧ Kept w W := by
  have hgl : (group D (i / 4)).length = min (4 * (i / 4) + 4) D.length - 4 * (i / 4) := by rw [group_length]; omega
  have hgd : Digs w (A.map (·.add ((4 * (i / 4)) * 32))) (group D (i / 4)) := Digs.part hD (4 * (i / 4)) 4
  have hgn : group D (i / 4) ≠ [] := by intro h0; rw [h0] at hgl; simp at hgl; omega
  have HG := digs_Clone (group D (i / 4)).length hgd hgn (by rw [hgl]; omega)
  obtain ⟨m, hm⟩ : ∃ m, m = 4 * (i / 4) := ⟨_, rfl⟩
  obtain ⟨h, hh⟩ : ∃ h, h = min (m + 4) D.length := ⟨_, rfl⟩
  rw [← hm] at HG hgl
  rw [← hh] at hgl
  have hsl : ∀ W, (Instr.sliceAt 41 (.slice A D.length c) (some (.int .i64 (m : Int))) (some (.int .i64 (h : Int))) (some (.int .i64 (h : Int)))).run Try.prog W = .ok (.slice (A.map (·.add (m * 32))) (group D (i / 4)).length (group D (i / 4)).length) W := fun W => by
    have := slice_digs_lhm W A D.length c m h (m : Int) (h : Int) rfl rfl (by omega) (by omega)
    rwa [← hgl] at this
  have e1 : (i : Int) - (i : Int) % 4 = (m : Int) := by omega
  have hi5 : (i : Int) ≤ 1024 := by omega
  have hm5 : (m : Int) ≤ 1024 := by omega
  have e2 : (if (D.length : Int) < (m : Int) + 4 then (D.length : Int) else (m : Int) + 4) = (h : Int) := by split <;> omega
  clear hD hc hi hl hgd hgn hm hh hgl
  generalize group D (i / 4) = g at *
  generalize D.length = n at *
  generalize A.map (·.add (m * 32)) = A' at *
  go_enter Try.func90, Try.ntmps90
  go_wp2_with fail
  refine HG.mono ?_
  rintro e w2 ⟨v, rfl, hv, hu⟩
  go_wp2
  go_ret
  exact ⟨_, rfl, hv, hu⟩
end Go.Proofs.Ytnncpjekcljfbaa
/- proof: Build. -/
namespace Go.Proofs.Ytnncpjekcljfbaa
open Go.RowKit

/-- a proof in rows of the call's own -/
def OwnP (W : World) (B : Nat) (v : Value) (P : List (List Dig)) : Prop := ∃ xs : List SlC, OwnRows slA 1 W B 41 v xs ∧ xs.length = P.length ∧ ∀ i (h : i < xs.length) (h' : i < P.length), OwnD W B xs[i].v P[i]
section
variable {W W' : World} {B B' : Nat} {v : Value} {P : List (List Dig)} {S : Nat → Prop}
theorem OwnP.upd (h : OwnP W B v P) (hu : Upd S W W') (hs : ∀ k, B ≤ k → (∃ cs t', W.heap[k]? = some (.cells cs t' (0, 0)) ∧ t' ≠ 125) → ¬ S k) : OwnP W' B v P := by
  obtain ⟨xs, h1, h2, h3⟩ := h
  refine ⟨xs, OwnRows.upd h1 hu (fun k e => ?_), h2, fun i hi hi' => OwnRows.upd (h3 i hi hi') hu (fun k e => ?_)⟩
  · obtain ⟨cur, hc⟩ := own_cells h1 e
    exact hs k (World.ownsRow.lt h1 k e).1 ⟨_, _, hc, by decide⟩
  · obtain ⟨cur, hc⟩ := own_cells (h3 i hi hi') e
    exact hs k (World.ownsRow.lt (h3 i hi hi') k e).1 ⟨_, _, hc, by decide⟩
theorem OwnP.kept (h : OwnP W B v P) (hu : Kept W W') : OwnP W' B v P := h.upd hu fun _ _ _ => id
theorem OwnP.book (h : OwnP W B v P) {b r q : Nat} {L : List Bytes} (hb : BookL W b r q L) (hu : Upd (Book3 b r q) W W') : OwnP W' B v P :=
  h.upd hu fun _ _ ⟨_, _, hc, ht⟩ => hb.not hc ht
theorem OwnP.base (h : OwnP W B' v P) (hb : B ≤ B') : OwnP W B v P := by
  obtain ⟨xs, h1, h2, h3⟩ := h
  exact ⟨xs, own_base h1 hb, h2, fun i hi hi' => own_base (h3 i hi hi') hb⟩
theorem OwnP.nil (W : World) (B : Nat) : OwnP W B (.slice none 0 0) [] := ⟨[], OwnRows.nil _ _ _, rfl, fun i hi => absurd hi (Nat.not_lt_zero i)⟩
theorem OwnP.proof (h : OwnP W B v P) : ∃ A c l, v = .slice A P.length c ∧ P.length ≤ c ∧ l.map (·.2) = P ∧ ProofAt W A l := by
  obtain ⟨xs, h1, h2, h3⟩ := h
  have hm : (xs.zip P).map (·.2) = P := by rw [List.map_snd_zip]; omega
  have hl : (xs.zip P).length = xs.length := by rw [List.length_zip]; omega
  have hc : ∃ A c, v = .slice A P.length c ∧ P.length ≤ c := by
    rcases h1.2 with ⟨rfl, h0⟩ | ⟨g, cap, cur, rfl, hb, hg, e1, e2, e3, e4⟩
    · exact ⟨_, _, by rw [← h2, h0], by omega⟩
    · exact ⟨_, _, by rw [h2], by omega⟩
  obtain ⟨A, c, rfl, hcl⟩ := hc
  refine ⟨A, c, xs.zip P, rfl, hcl, hm, fun i hi => ?_⟩
  have hix : i < xs.length := by omega
  have hip : i < P.length := by omega
  obtain ⟨g, c2, hv, hg1, hg2, _⟩ := OwnRows.get slA_size h1 hix
  simp only [Value.slice.injEq] at hv
  obtain ⟨rfl, -, -⟩ := hv
  have hcell := World.ownsRow.cells h1 (g := g) rfl i xs[i].v (by
    have := rowsOf_get slA_size xs i 0 hix (by omega)
    rw [Nat.mul_one, Nat.add_zero] at this
    rw [this]; rfl)
  have e : (xs.zip P)[i] = (xs[i], P[i]) := List.getElem_zip
  rw [e]
  obtain ⟨A2, c2, hx, hle, hd⟩ := (h3 i hix hip).digs
  refine ⟨g, 0, rfl, by rw [add_none, Nat.zero_add] at hcell; rw [Nat.zero_add]; exact hcell, ?_⟩
  generalize xs[i] = x at *
  obtain ⟨xA, xn, xc⟩ := x
  simp only [SlC.v, Value.slice.injEq] at hx
  obtain ⟨rfl, rfl, rfl⟩ := hx
  exact ⟨hd, rfl, hle⟩
end

theorem proof_Build_no {w : World} {p : Option Addr} (h : NoTree w p) (i : Int) :
    Calls Try.prog 47 #[.pointer p, .int .i64 i] w fun e W => e = .returned (.tuple #[.slice none 0 0, .int .i64 1]) ∧ Kept w W := by
  go_enter Try.func47, Try.ntmps47
  go_wp2_with fail
  refine (tree_Root_no h).mono ?_
  rintro e w2 ⟨rfl, hu⟩
  have HF := Lib.hid (show Kept w (w2.alloc (.cells (dA dig0) 46)) from hu.alloc _)
  clear hu h
  go_wp2
  go_ret2
  exact ⟨rfl, HF.out⟩

theorem proof_Build_out {w : World} {lo hi t b : Nat} {D : List Dig} (h : TreeAt w lo hi t b D) (i : Int) (hi' : i < 0 ∨ (D.length : Int) ≤ i) :
    Calls Try.prog 47 #[.pointer (some ⟨t, 0, none⟩), .int .i64 i] w fun e W => e = .returned (.tuple #[.slice none 0 0, .int .i64 9]) ∧ Kept w W := by
  by_cases h0 : i < 0
  · have d0 : decide (i < 0) = true := decide_eq_true h0
    clear hi' h0
    have HG := tree_Root h
    obtain ⟨rt, hrt⟩ : ∃ rt, rt = rootM shaM D := ⟨_, rfl⟩
    rw [← hrt] at HG
    clear hrt
    go_enter Try.func47, Try.ntmps47
    go_wp2_with fail
    refine HG.mono ?_
    clear HG
    rintro e w2 ⟨rfl, hu2⟩
    have hk3 : Kept w (w2.alloc (.cells (dA rt) 46)) := hu2.alloc _
    clear hu2
    go_wp2
    go_ret2
    exact ⟨rfl, hk3⟩
  · have d0 : decide (i < 0) = false := decide_eq_false h0
    have d1 : decide ((D.length : Int) ≤ i) = true := decide_eq_true (by omega)
    clear hi' h0
    have HG := tree_Root h
    obtain ⟨rt, hrt⟩ : ∃ rt, rt = rootM shaM D := ⟨_, rfl⟩
    rw [← hrt] at HG
    clear hrt
    go_enter Try.func47, Try.ntmps47
    go_wp2_with fail
    refine HG.mono ?_
    clear HG
    rintro e w2 ⟨rfl, hu2⟩
    have hk3 : Kept w (w2.alloc (.cells (dA rt) 46)) := hu2.alloc _
    have h3 := h.kept hk3
    clear hu2
    go_wp2_with fail
    generalize w2.alloc (.cells (dA rt) 46) = w3 at *
    have HG := tree_Leaves h3
    generalize D.length = n at *
    refine HG.mono ?_
    rintro e W ⟨rfl, rfl⟩
    go_wp2
    go_ret2
    exact ⟨rfl, hk3⟩

set_option maxHeartbeats 1600000 in
set_option maxRecDepth 20000 in
theorem proof_Build {w : World} {lo hi t b : Nat} {D : List Dig} (h : TreeAt w lo hi t b D) (i : Nat) (hi' : i < D.length) :
    Calls Try.prog 47 #[.pointer (some ⟨t, 0, none⟩), .int .i64 i] w fun e W => ∃ v, e = .returned (.tuple #[v, .int .i64 0]) ∧ OwnP W w.heap.size v (proofM D (depthM D.length - 1) i) ∧ Kept w W := by
  have d0 : decide ((i : Int) < 0) = false := decide_eq_false (by omega)
  have d1 : decide ((D.length : Int) ≤ (i : Int)) = false := decide_eq_false (by omega)
  have d2 : decide (D.length ≤ i) = false := decide_eq_false (by omega)
  obtain ⟨m, hm⟩ : ∃ m, depthM D.length = m + 1 := by
    obtain ⟨m, hm, _⟩ := levelsM_top (D := D) (by intro h0; rw [h0] at hi'; simp at hi')
    exact ⟨m, hm⟩
  rw [show depthM D.length - 1 = m by omega]
  have hsz := Lib.hid h.sz
  replace hm := Lib.hid hm
  replace hi' := Lib.hid hi'
  have HG := tree_Root h
  obtain ⟨rt, hrt⟩ : ∃ rt, rt = rootM shaM D := ⟨_, rfl⟩
  rw [← hrt] at HG
  clear hrt
  go_enter Try.func47, Try.ntmps47
  go_wp2_with fail
  refine HG.mono ?_
  clear HG
  rintro e w2 ⟨rfl, hu2⟩
  have hk3 : Kept w (w2.alloc (.cells (dA rt) 46)) := hu2.alloc _
  have h3 := h.kept hk3
  clear hu2
  go_wp2_with fail
  generalize w2.alloc (.cells (dA rt) 46) = w3 at *
  replace hi' := hi'.out
  replace hm := hm.out
  have HX := Lib.hid (And.intro h3 (And.intro hk3 hi'))
  have hn2 : D.length ≤ 1024 := by obtain ⟨_, _, _, h⟩ := h; exact h.n2
  have HG := tree_Leaves h3
  have HG2 := tree_Depth h3
  have hm5 : m ≤ 1025 := by have := depthM_le _ D rfl; omega
  obtain ⟨dd, hdd⟩ : ∃ dd : Int, dd = ((depthM D.length : Nat) : Int) := ⟨_, rfl⟩
  rw [← hdd] at HG2
  have e1 : dd - 1 = (m : Int) := by omega
  have e2 : 1 ≤ dd ∧ dd ≤ 1026 := by omega
  have HM := Lib.hid (And.intro hm (And.intro hm5 hn2))
  obtain ⟨e3, e4⟩ := e2
  clear h h3 hk3 hi' hn2 hm hdd
  obtain ⟨n, hn⟩ : ∃ n, n = D.length := ⟨_, rfl⟩
  rw [← hn] at HG d1 d2
  clear hn
  refine HG.mono ?_
  clear HG
  rintro e W ⟨rfl, rfl⟩
  go_wp2_with fail
  refine HG2.mono ?_
  clear HG2
  rintro e W ⟨rfl, rfl⟩
  go_wp2_with fail
  clear d0 d1 d2 e3 e4 e1
  go_loopw [31, 8, 1] (fun u v x wr => ∃ (k : Nat) (done : List (List Dig)) (l : List Dig) (j : Nat), u = .int .i64 k ∧ x = .int .i64 j ∧ k ≤ m ∧ OwnP wr w.heap.size v done ∧ Kept w wr ∧ TreeAt wr lo hi t b D ∧ (levelsM shaM D).drop k = levelsM shaM l ∧ proofM D m i = done ++ proofM l (m - k) j ∧ done.length = k ∧ j < l.length ∧ l.length ≤ 1024 ∧ depthM l.length = m - k + 1) (fun u _ _ _ => 2000 - (intOf u).toNat)
  case atStart => exact ⟨0, [], D, i, rfl, rfl, Nat.zero_le _, OwnP.nil _ _, HX.out.2.1, HX.out.1, rfl, rfl, rfl, HX.out.2.2, HM.out.2.2, HM.out.1⟩
  case round =>
    obtain ⟨k, done, l, j, rfl, rfl, hk, hown, hu, hT, hdr, hpr, hdl, hj, hl, hdp⟩ := hrel
    rcases Nat.lt_or_ge k m with hlt | hge
    · have hk1 : (k : Int) < (m : Int) := by omega
      have hk5 : (k : Int) ≤ 1025 := by omega
      have hl1 : 1 < l.length := by
        rcases Nat.lt_or_ge 1 l.length with h2 | h2
        · exact h2
        · have h3 : l.length = 1 := by omega
          rw [h3, depthM_one] at hdp; omega
      obtain ⟨tl, htl, htl2, _⟩ := levelsM_head l
      have hlv : (levelsM shaM D)[k]? = some l := by
        have h1 := congrArg (·[0]?) hdr
        simp only [List.getElem?_drop, Nat.add_zero] at h1
        rw [h1, htl]; rfl
      have HQ := Lib.hid (And.intro (show (levelsM shaM D).drop (k + 1) = levelsM shaM (aboveM shaM l) by
          rw [← List.drop_drop, hdr, htl, List.drop_one, List.tail_cons, htl2 hl1]) (And.intro (show proofM D m i = (done ++ [group l (j / 4)]) ++ proofM (aboveM shaM l) (m - (k + 1)) (j / 4) by
          rw [hpr, show m - k = (m - (k + 1)) + 1 by omega, proofM, List.append_assoc]; rfl) (And.intro (show (done ++ [group l (j / 4)]).length = k + 1 by simp [hdl]) (And.intro (show j / 4 < (aboveM shaM l).length by rw [aboveM_length]; exact place_up hj) (And.intro (show (aboveM shaM l).length ≤ 1024 by rw [aboveM_length]; unfold up4; omega) (show depthM (aboveM shaM l).length = m - (k + 1) + 1 by rw [aboveM_length]; rw [depthM_more hl1] at hdp; omega))))))
      obtain ⟨j4, hj4⟩ : ∃ j4, j4 = j / 4 := ⟨_, rfl⟩
      rw [← hj4] at HQ
      have hq : (j : Int) / 4 = (j4 : Int) := by omega
      have hj5 : (j : Int) ≤ 1024 := by omega
      obtain ⟨xs, ho, hxl, hxe⟩ := hown
      have HR := Lib.hid (And.intro (And.intro ho (And.intro hxl hxe)) (And.intro hu (And.intro hdl (And.intro hj (And.intro hl (And.intro hj4 hT))))))
      have HLV := tree_Level hT k hlv hl
      clear ho hxl hxe hu hT hdr hpr hdl hj hl hdp htl htl2 hlv hj4 hl1
      go_wp2_with fail
      refine HLV.mono ?_
      clear HLV
      rintro e w4 ⟨v4, rfl, hv4, hu4⟩
      obtain ⟨A4, c4, rfl, hc4, hd4⟩ := OwnD.digs hv4
      have HF4 := proof_four c4 j hd4 hc4 HR.out.2.2.2.1 HR.out.2.2.2.2.1
      rw [← HR.out.2.2.2.2.2.1] at HF4
      have ho4 := OwnRows.upd HR.out.1.1 hu4 (fun _ _ h => h)
      have hu4' := HR.out.2.1.then hu4 (fun _ _ h => h)
      have H4 := Lib.hid (And.intro ho4 (And.intro hu4' (And.intro (fun i hi hi' => OwnRows.upd (HR.out.1.2.2 i hi hi') hu4 (fun _ _ h => h)) (HR.out.2.2.2.2.2.2.kept hu4))))
      clear hv4 hc4 hd4 ho4 hu4 hu4'
      generalize l.length = ln at *
      go_wp2_with fail
      refine HF4.mono ?_
      clear HF4
      rintro e w5 ⟨v5, rfl, hv5, hu5⟩
      obtain ⟨A5, c5, rfl, hc5, hd5⟩ := OwnD.digs hv5
      obtain ⟨gg, hgg⟩ : ∃ gg, gg = group l j4 := ⟨_, rfl⟩
      rw [← hgg] at hv5 ⊢
      rw [← hgg] at HQ
      clear hd5 hc5 hgg
      have hk6 : Kept w5 (w5.alloc (.cells (slA ⟨A5, gg.length, c5⟩) 41)) := (Upd.refl _ w5).alloc _
      have hg6 := heap_alloc_new w5 (.cells (slA ⟨A5, gg.length, c5⟩) 41)
      have hu56 : Kept w4 (w5.alloc (.cells (slA ⟨A5, gg.length, c5⟩) 41)) := hu5.then hk6 (fun _ _ h => h)
      have H6 := Lib.hid (And.intro (OwnRows.upd H4.out.1 hu56 (fun _ _ h => h)) (And.intro (H4.out.2.1.then hu56 (fun _ _ h => h)) (And.intro (fun i hi hi' => OwnRows.upd (H4.out.2.2.1 i hi hi') hu56 (fun _ _ h => h)) (And.intro (H4.out.2.2.2.kept hu56) (And.intro (OwnRows.upd (own_base hv5 (H4.out.2.1.size)) hk6 (fun _ _ h => h)) hg6)))))
      clear hv5 hu5 hk6 hg6 hu56 H4
      generalize hW6 : w5.alloc (.cells (slA ⟨A5, gg.length, c5⟩) 41) = w6 at *
      go_wp2_with (at_builtin; refine wpList_append_rows sl_rows rfl (.tmp 43) (.tmp 47) rfl rfl H6.out.1 ⟨A5, gg.length, c5⟩ w5.heap.size 1 _ _ rfl H6.out.2.2.2.2.2 (by have := HR.out.1.2.1; have := HR.out.2.2.1; unfold maxLen; omega) (by have := HR.out.1.2.1; have := HR.out.2.2.1; omega) H6.out.2.1.size ?_; intro v' w7 hown' hu' hnew)
      have hown : OwnP w7 w.heap.size v' (done ++ [gg]) := by
        refine ⟨_, hown', by rw [List.length_append, List.length_append, HR.out.1.2.1]; rfl, fun i hi hi' => ?_⟩
        have hfar : ∀ {x : Value} {l : List Dig}, OwnD w6 w.heap.size x l → OwnD w7 w.heap.size x l := fun ho => OwnRows.upd ho hu' (fun k e e2 => by
          obtain ⟨c1, h1⟩ := own_cells ho e
          obtain ⟨c2, h2⟩ := own_cells H6.out.1 e2
          rw [h1] at h2
          simp only [Option.some.injEq, Obj.cells.injEq] at h2
          exact absurd h2.2.1 (by decide))
        by_cases hi2 : i < xs.length
        · rw [List.getElem_append_left hi2, List.getElem_append_left (by rw [← HR.out.1.2.1]; exact hi2)]
          exact hfar (H6.out.2.2.1 i hi2 _)
        · have hi3 : i = xs.length := by simp at hi; omega
          subst hi3
          have e1 : (xs ++ [(⟨A5, gg.length, c5⟩ : SlC)])[xs.length] = ⟨A5, gg.length, c5⟩ := by simp
          have e2 : (done ++ [gg])[xs.length]'hi' = gg := by simp [HR.out.1.2.1]
          rw [e1, e2]
          exact hfar H6.out.2.2.2.2.1
      have HF := Lib.hid (And.intro hown (And.intro (show Kept w w7 from H6.out.2.1.then hu' (fun i hi e => by have := (World.ownsRow.lt H6.out.1 i e).1; omega)) (H6.out.2.2.2.1.upd hu' (fun k k1 k2 ⟨cs, t', hc, ht'⟩ e => by
        have h1 := (World.ownsRow.lt H6.out.1 k e).1
        have h2 := hsz.out
        omega))))
      clear hown hown' hu' hnew H6 HR hW6
      go_wp2
      go_roundw
      case rel => exact ⟨k + 1, done ++ [gg], aboveM shaM l, j4, by show _ = _; go_num, rfl, by omega, HF.out.1, HF.out.2.1, HF.out.2.2, HQ.out.1, HQ.out.2.1, HQ.out.2.2.1, HQ.out.2.2.2.1, HQ.out.2.2.2.2.1, HQ.out.2.2.2.2.2⟩
      case measure => simp [intOf]; omega
    · obtain rfl : k = m := by omega
      have hk1 : ¬ ((k : Int) < (k : Int)) := by omega
      rw [Nat.sub_self, proofM, List.append_nil] at hpr
      rw [← hpr] at hown
      have HF := Lib.hid (And.intro hown hu)
      clear hown hu hT hdr hpr hdl hj hl hdp hge hk
      go_wp2
      go_ret2
      exact ⟨_, rfl, HF.out⟩
end Go.Proofs.Ytnncpjekcljfbaa
/- proof: Parts. -/
namespace Go.Proofs.Ytnncpjekcljfbaa
open Go.RowKit

theorem levelsM_step : ∀ (n : Nat) (D : List Dig) {l l1 : List Dig}, (levelsM shaM D)[n]? = some l → (levelsM shaM D)[n + 1]? = some l1 → l1 = aboveM shaM l ∧ 1 < l.length
  | 0, D, l, l1, h, h1 => by
    obtain ⟨tl, e, e1, e2⟩ := levelsM_head D
    rw [e] at h h1
    simp only [List.getElem?_cons_zero, Option.some.injEq] at h
    subst h
    rcases Nat.lt_or_ge 1 D.length with h2 | h2
    · obtain ⟨tl2, e3, _⟩ := levelsM_head (aboveM shaM D)
      rw [e1 h2, e3] at h1
      simp at h1
      exact ⟨h1.symm, h2⟩
    · rw [e2 h2] at h1; simp at h1
  | n + 1, D, l, l1, h, h1 => by
    obtain ⟨tl, e, e1, e2⟩ := levelsM_head D
    rw [e] at h h1
    simp only [List.getElem?_cons_succ] at h h1
    rcases Nat.lt_or_ge 1 D.length with h2 | h2
    · rw [e1 h2] at h h1
      exact levelsM_step n _ h h1
    · rw [e2 h2] at h1; simp at h1

theorem proof_Parts_no {w : World} {p : Option Addr} (h : NoTree w p) (n i : Int) :
    Calls Try.prog 49 #[.pointer p, .int .i64 n, .int .i64 i] w fun e W => e = .returned (.tuple #[.slice none 0 0, .int .i64 1]) ∧ Kept w W := by
  go_enter Try.func49, Try.ntmps49
  go_wp2_with fail
  refine (tree_Root_no h).mono ?_
  rintro e w2 ⟨rfl, hu⟩
  have HF := Lib.hid (show Kept w (w2.alloc (.cells (dA dig0) 46)) from hu.alloc _)
  clear hu h
  go_wp2
  go_ret2
  exact ⟨rfl, HF.out⟩

theorem proof_Parts_low {w : World} {lo hi t b : Nat} {D : List Dig} (h : TreeAt w lo hi t b D) (n i : Int) (hn : n < 1) :
    Calls Try.prog 49 #[.pointer (some ⟨t, 0, none⟩), .int .i64 n, .int .i64 i] w fun e W => e = .returned (.tuple #[.slice none 0 0, .int .i64 9]) ∧ Kept w W := by
  have d0 : decide (n < 1) = true := decide_eq_true hn
  clear hn
  have HG := tree_Root h
  obtain ⟨rt, hrt⟩ : ∃ rt, rt = rootM shaM D := ⟨_, rfl⟩
  rw [← hrt] at HG
  clear hrt
  go_enter Try.func49, Try.ntmps49
  go_wp2_with fail
  refine HG.mono ?_
  clear HG
  rintro e w2 ⟨rfl, hu2⟩
  have hk3 : Kept w (w2.alloc (.cells (dA rt) 46)) := hu2.alloc _
  have h3 := h.kept hk3
  clear hu2
  go_wp2
  go_ret2
  exact ⟨rfl, hk3⟩
theorem proof_Parts_deep {w : World} {lo hi t b : Nat} {D : List Dig} (h : TreeAt w lo hi t b D) (n i : Int) (hn : 1 ≤ n) (hn2 : (depthM D.length : Int) ≤ n) :
    Calls Try.prog 49 #[.pointer (some ⟨t, 0, none⟩), .int .i64 n, .int .i64 i] w fun e W => e = .returned (.tuple #[.slice none 0 0, .int .i64 9]) ∧ Kept w W := by
  have d0 : decide (n < 1) = false := decide_eq_false (by omega)
  clear hn
  replace hn2 := Lib.hid hn2
  have HG := tree_Root h
  obtain ⟨rt, hrt⟩ : ∃ rt, rt = rootM shaM D := ⟨_, rfl⟩
  rw [← hrt] at HG
  clear hrt
  go_enter Try.func49, Try.ntmps49
  go_wp2_with fail
  refine HG.mono ?_
  clear HG
  rintro e w2 ⟨rfl, hu2⟩
  have hk3 : Kept w (w2.alloc (.cells (dA rt) 46)) := hu2.alloc _
  have h3 := h.kept hk3
  clear hu2
  go_wp2_with fail
  generalize w2.alloc (.cells (dA rt) 46) = w3 at *
  refine (tree_Level_out h3 n (.inr hn2.out)).mono ?_
  rintro e W ⟨rfl, rfl⟩
  go_wp2
  go_ret2
  exact ⟨rfl, hk3⟩
set_option maxHeartbeats 400000 in
theorem proof_Parts_off {w : World} {lo hi t b : Nat} {D : List Dig} (h : TreeAt w lo hi t b D) (n : Nat) (i : Int) {l : List Dig} (hn : (levelsM shaM D)[n]? = some l) (hn1 : 1 ≤ n) (hi' : i < 0 ∨ (l.length : Int) ≤ i) :
    Calls Try.prog 49 #[.pointer (some ⟨t, 0, none⟩), .int .i64 n, .int .i64 i] w fun e W => e = .returned (.tuple #[.slice none 0 0, .int .i64 9]) ∧ Kept w W := by
  have d0 : decide ((n : Int) < 1) = false := decide_eq_false (by omega)
  have d0n : decide (n < 1) = false := decide_eq_false (by omega)
  have hl := Lib.hid (show l.length ≤ 1024 by
    obtain ⟨_, _, _, hh⟩ := h
    have := levelsM_le _ (l := D) rfl l (List.mem_of_getElem? hn)
    have := hh.n2
    omega)
  replace hn := Lib.hid hn
  clear hn1
  by_cases h0 : i < 0
  · have d2 : decide (i < 0) = true := decide_eq_true h0
    clear hi' h0
    have HG := tree_Root h
    obtain ⟨rt, hrt⟩ : ∃ rt, rt = rootM shaM D := ⟨_, rfl⟩
    rw [← hrt] at HG
    clear hrt
    go_enter Try.func49, Try.ntmps49
    go_wp2_with fail
    refine HG.mono ?_
    clear HG
    rintro e w2 ⟨rfl, hu2⟩
    have hk3 : Kept w (w2.alloc (.cells (dA rt) 46)) := hu2.alloc _
    have h3 := h.kept hk3
    clear hu2
    go_wp2_with fail
    generalize w2.alloc (.cells (dA rt) 46) = w3 at *
    refine (tree_Level h3 n hn.out hl.out).mono ?_
    rintro e w4 ⟨v4, rfl, hv4, hu4⟩
    obtain ⟨A4, c4, rfl, -, -⟩ := hv4.digs
    have HF := Lib.hid (show Kept w w4 from hk3.then hu4 (fun _ _ h => h))
    generalize l.length = ln at *
    clear hn hl hv4 hu4 hk3 h3 h
    go_wp2
    go_ret2
    exact ⟨rfl, HF.out⟩
  · have d2 : decide (i < 0) = false := decide_eq_false h0
    have d3 : decide ((l.length : Int) ≤ i) = true := decide_eq_true (by omega)
    clear hi' h0
    have HG := tree_Root h
    obtain ⟨rt, hrt⟩ : ∃ rt, rt = rootM shaM D := ⟨_, rfl⟩
    rw [← hrt] at HG
    clear hrt
    go_enter Try.func49, Try.ntmps49
    go_wp2_with fail
    refine HG.mono ?_
    clear HG
    rintro e w2 ⟨rfl, hu2⟩
    have hk3 : Kept w (w2.alloc (.cells (dA rt) 46)) := hu2.alloc _
    have h3 := h.kept hk3
    clear hu2
    go_wp2_with fail
    generalize w2.alloc (.cells (dA rt) 46) = w3 at *
    refine (tree_Level h3 n hn.out hl.out).mono ?_
    rintro e w4 ⟨v4, rfl, hv4, hu4⟩
    obtain ⟨A4, c4, rfl, -, -⟩ := hv4.digs
    have HF := Lib.hid (show Kept w w4 from hk3.then hu4 (fun _ _ h => h))
    generalize l.length = ln at *
    clear hn hl hv4 hu4 hk3 h3 h
    go_wp2
    go_ret2
    exact ⟨rfl, HF.out⟩

set_option maxHeartbeats 800000 in
theorem proof_Parts {w : World} {lo hi t b : Nat} {D : List Dig} (h : TreeAt w lo hi t b D) (n i : Nat) {l l1 : List Dig} (hn0 : (levelsM shaM D)[n]? = some l) (hn : (levelsM shaM D)[n + 1]? = some l1) (hi' : i < l1.length) :
    Calls Try.prog 49 #[.pointer (some ⟨t, 0, none⟩), .int .i64 (n + 1 : Nat), .int .i64 i] w fun e W => ∃ v, e = .returned (.tuple #[v, .int .i64 0]) ∧ OwnD W w.heap.size v (group l i) ∧ Kept w W := by
  have hl := Lib.hid (show l1.length ≤ 1024 ∧ l.length ≤ 1024 by
    obtain ⟨_, _, _, hh⟩ := h
    have := levelsM_le _ (l := D) rfl l (List.mem_of_getElem? hn0)
    have := levelsM_le _ (l := D) rfl l1 (List.mem_of_getElem? hn)
    have := hh.n2
    omega)
  have hn5 : n ≤ 1100 := by
    obtain ⟨_, _, _, hh⟩ := h
    have h1 := (List.getElem?_eq_some_iff.1 hn0).1
    rw [levelsM_depth _ rfl] at h1
    have := depthM_le _ D rfl
    have := hh.n2
    omega
  have h4i : 4 * i < l.length := by
    obtain ⟨e1, e2⟩ := levelsM_step n D hn0 hn
    rw [e1, aboveM_length] at hi'
    unfold up4 at hi'; omega
  have hi5 : (i : Int) ≤ 1024 := by have := hl.out; omega
  obtain ⟨z, hz⟩ : ∃ z : Nat, z = n + 1 := ⟨_, rfl⟩
  rw [← hz] at hn ⊢
  have d0 : decide ((z : Int) < 1) = false := decide_eq_false (by omega)
  have d0n : decide (z < 1) = false := decide_eq_false (by omega)
  have e1 : (z : Int) - 1 = (n : Int) := by omega
  have hz5 : (z : Int) ≤ 1101 := by omega
  have hz6 : 1 ≤ (z : Int) := by omega
  have d2 : decide ((i : Int) < 0) = false := decide_eq_false (by omega)
  have d3 : decide ((l1.length : Int) ≤ (i : Int)) = false := decide_eq_false (by omega)
  have d3n : decide (l1.length ≤ i) = false := decide_eq_false (by omega)
  replace hn := Lib.hid hn
  replace hn0 := Lib.hid hn0
  replace h4i := Lib.hid h4i
  clear hz hi' hn5
  have HG := tree_Root h
  obtain ⟨rt, hrt⟩ : ∃ rt, rt = rootM shaM D := ⟨_, rfl⟩
  rw [← hrt] at HG
  clear hrt
  go_enter Try.func49, Try.ntmps49
  go_wp2_with fail
  refine HG.mono ?_
  clear HG
  rintro e w2 ⟨rfl, hu2⟩
  have hk3 : Kept w (w2.alloc (.cells (dA rt) 46)) := hu2.alloc _
  have h3 := h.kept hk3
  clear hu2
  go_wp2_with fail
  generalize w2.alloc (.cells (dA rt) 46) = w3 at *
  refine (tree_Level h3 z hn.out hl.out.1).mono ?_
  rintro e w4 ⟨v4, rfl, hv4, hu4⟩
  obtain ⟨A4, c4, rfl, -, -⟩ := hv4.digs
  have h4 := h3.kept hu4
  have hk4 := hk3.then hu4 (fun _ _ h => h)
  generalize l1.length = ln at *
  clear hv4 hu4 hk3 h3 h
  go_wp2_with fail
  refine (tree_Level h4 n hn0.out hl.out.2).mono ?_
  rintro e w5 ⟨v5, rfl, hv5, hu5⟩
  obtain ⟨A5, c5, rfl, hc5, hd5⟩ := hv5.digs
  have HG := proof_four c5 (4 * i) hd5 hc5 h4i.out hl.out.2
  rw [show 4 * i / 4 = i by omega] at HG
  have hk5 := hk4.then hu5 (fun _ _ h => h)
  have e6 : ((4 * i : Nat) : Int) = 4 * (i : Int) := by omega
  rw [e6] at HG
  clear hv5 hc5 hd5 hu5 hk4 h4 e6
  generalize l.length = lm at *
  go_wp2_with fail
  refine HG.mono ?_
  clear HG
  rintro e w6 ⟨v6, rfl, hv6, hu6⟩
  have HF := Lib.hid (And.intro (own_base hv6 hk5.size) (show Kept w w6 from hk5.then hu6 (fun _ _ h => h)))
  clear hv6 hu6 hk5
  go_wp2
  go_ret2
  exact ⟨_, rfl, HF.out⟩
end Go.Proofs.Ytnncpjekcljfbaa
/- proof: Check. -/
namespace Go.Proofs.Ytnncpjekcljfbaa
open Go.RowKit

attribute [local irreducible] wpOrd
/-- what Check keeps -/
structure ChkS (w W : World) (b r q g0 g1 : Nat) (L : List Bytes) (root d : Dig) : Prop where
  book : BookL W b r q L
  root : Blk W g0 46 (encB root.1)
  dig : Blk W g1 46 (encB d.1)
  upd : Upd (Book3 b r q) w W
  l0 : w.heap.size ≤ g0
  l1 : w.heap.size ≤ g1
  ne : g0 ≠ g1
section
variable {w W W' : World} {b r q g0 g1 : Nat} {L L' : List Bytes} {root d : Dig}
theorem ChkS.kept (h : ChkS w W b r q g0 g1 L root d) (hu : Kept W W') : ChkS w W' b r q g0 g1 L root d :=
  ⟨h.book.kept hu, h.root.kept hu, h.dig.kept hu, h.upd.then hu (fun _ _ h => h.elim), h.l0, h.l1, h.ne⟩
theorem ChkS.to (h : ChkS w W b r q g0 g1 L root d) (hb : BookL W' b r q L') (hu : Upd (Book3 b r q) W W') : ChkS w W' b r q g0 g1 L' root d :=
  ⟨hb, h.root.upd hu (h.book.not h.root (by decide)), h.dig.upd hu (h.book.not h.dig (by decide)), h.upd.trans hu, h.l0, h.l1, h.ne⟩
theorem ChkS.turn (h : ChkS w W b r q g0 g1 L root d) (x : Dig) : rowB W g1 32 = true ∧ ChkS w (W.setRow g1 (dA x)) b r q g0 g1 L root x := by
  have hu : Upd (fun i => i = g1) W (W.setRow g1 (dA x)) := (Upd.refl _ _).setRow _ _ fun _ => rfl
  exact ⟨rowB_of (show W.heap[g1]? = some (.cells (encB d.1).toArray 46 (0, 0)) from h.dig) (by simp [encB_length, d.2]),
    h.book.far h.dig (by decide) hu, h.root.upd hu (fun e => h.ne e), h.dig.setRow _, h.upd.setRow _ _ (fun e => by have := h.l1; omega), h.l0, h.l1, h.ne⟩
end
theorem climb_nil (n i : Nat) (d : Dig) : climb n i d [] = if n = 1 then some d else none := rfl
theorem climb_one (i : Nat) (d : Dig) (l : List Dig) (p : List (List Dig)) : climb 1 i d (l :: p) = none := rfl
theorem climbIn_one (i : Nat) (d : Dig) (l : List Dig) (p : List (List Dig)) : climbIn 1 i d (l :: p) = [] := rfl

theorem notesM_step (L N : List Bytes) (r : Bytes) : noteM (notesM L N) r = notesM L (N ++ [r]) := by rw [notesM_append]; rfl

set_option maxHeartbeats 3000000 in
set_option maxRecDepth 20000 in
theorem proof_Check {w : World} {b r q : Nat} {L : List Bytes} (h : BookL w b r q L) (root : Dig) (n i : Nat) (hn : n ≤ 1024) (hi : i < n) {A : Option Addr} {R : Bytes} (c : Nat) (hR : Byt w A R) (hl : R.length < 65536)
    {PA : Option Addr} {P : List (SlC × List Dig)} (pc : Nat) (hpc : P.length ≤ pc) (hP : ∀ W, Upd (Book3 b r q) w W → ProofAt W PA P) (hPl : P.length ≤ 140737488351232) (P0 : List (List Dig)) (hP0 : P.map (·.2) = P0) :
    Calls Try.prog 53 #[.pointer (some ⟨b, 0, none⟩), .agg (dA root), .int .i64 n, .int .i64 i, .slice A R.length c, .slice PA P.length pc] w fun e W => e = .returned (.int .i64 (if climb n i (leafM shaM R) P0 = some root then 0 else 100)) ∧ BookL W b r q (notesM (noteM L (leafIn R)) (climbIn n i (leafM shaM R) P0)) ∧ Upd (Book3 b r q) w W := by
  obtain ⟨zz, hzz⟩ : ∃ zz : Int, zz = (if climb n i (leafM shaM R) P0 = some root then 0 else 100) := ⟨_, rfl⟩
  rw [← hzz]
  have HZZ := Lib.hid hzz
  clear hzz
  have hd1 : Blk (w.alloc (.cells (dA root) 46)) w.heap.size 46 (encB (root).1) := Blk.new w _ _
  have hk1 : Kept w (w.alloc (.cells (dA root) 46)) := (Upd.refl _ w).alloc _
  have HG := tree_Leaf (h.kept hk1) c (hR.kept hk1) hl
  have HX := Lib.hid (And.intro (h.kept hk1) (And.intro hd1 (And.intro hk1 (And.intro hP (And.intro hP0 (And.intro hn (And.intro hi (And.intro hpc hPl))))))))
  have d0 : decide ((n : Int) < 1) = false := decide_eq_false (by omega)
  have d0n : decide (n < 1) = false := decide_eq_false (by omega)
  have d1 : decide ((1024 : Int) < (n : Int)) = false := decide_eq_false (by omega)
  have d1n : decide (1024 < n) = false := decide_eq_false (by omega)
  have d2 : decide ((i : Int) < 0) = false := decide_eq_false (by omega)
  have d3 : decide ((n : Int) ≤ (i : Int)) = false := decide_eq_false (by omega)
  have d3n : decide (n ≤ i) = false := decide_eq_false (by omega)
  clear h hR hl hd1 hk1 hn hi hpc hP hPl hP0
  obtain ⟨pl, hpl⟩ : ∃ pl, pl = P.length := ⟨_, rfl⟩
  rw [← hpl]
  have HPL := Lib.hid hpl
  clear hpl
  go_enter Try.func53, Try.ntmps53
  go_wp2_with fail
  go_step3
  go_wp2_with fail
  refine HG.mono ?_
  clear HG
  rintro e w2 ⟨rfl, hb2, hu2⟩
  obtain ⟨y, hy⟩ : ∃ y, y = leafM shaM R := ⟨_, rfl⟩
  rw [← hy]
  have hd3 : Blk (w2.alloc (.cells (dA y) 46)) w2.heap.size 46 (encB (y).1) := Blk.new w2 _ _
  have hk3 : Kept w2 (w2.alloc (.cells (dA y) 46)) := (Upd.refl _ w2).alloc _
  have hS : ChkS w (w2.alloc (.cells (dA y) 46)) b r q w.heap.size w2.heap.size (noteM L (leafIn R)) root y :=
    ⟨hb2.kept hk3, (HX.out.2.1.upd hu2 (HX.out.1.not HX.out.2.1 (by decide))).kept hk3, hd3, (HX.out.2.2.1.to.trans hu2).alloc _, Nat.le_refl _, Nat.le_trans HX.out.2.2.1.size hu2.size, fun e => by have := HX.out.2.1.lt; have := hu2.size; omega⟩
  have HS := Lib.hid hS
  have HY := Lib.hid hy
  clear hb2 hu2 hd3 hk3 hS hy
  go_wp2_with fail
  go_step3
  go_wp2_with fail
  clear d0 d0n d1 d1n d2 d3 d3n
  generalize w2.heap.size = g1 at *
  generalize w.heap.size = g0 at *
  generalize w2.alloc (.cells (dA y) 46) = w3 at *
  go_loopw [15, 3, 5] (fun u x v wr => ∃ (many i' : Nat) (d : Dig) (P' : List (SlC × List Dig)) (Ak : Option Addr) (ck : Nat) (N : List Bytes), u = .int .i64 many ∧ x = .int .i64 i' ∧ v = .slice Ak P'.length ck ∧ P'.length ≤ ck ∧ P'.length ≤ 140737488351232 ∧ i' < many ∧ many ≤ 1024 ∧ (∀ W, Upd (Book3 b r q) w W → ProofAt W Ak P') ∧
      climb n i (leafM shaM R) P0 = climb many i' d (P'.map (·.2)) ∧ climbIn n i (leafM shaM R) P0 = N ++ climbIn many i' d (P'.map (·.2)) ∧ ChkS w wr b r q g0 g1 (notesM (noteM L (leafIn R)) N) root d) (fun u _ _ _ => (intOf u).toNat)
  case atStart =>
    refine ⟨n, i, y, P, PA, pc, [], rfl, rfl, by rw [HPL.out], HX.out.2.2.2.2.2.2.2.1, HX.out.2.2.2.2.2.2.2.2, HX.out.2.2.2.2.2.2.1, HX.out.2.2.2.2.2.1, HX.out.2.2.2.1, ?_, ?_, HS.out⟩
    · rw [HX.out.2.2.2.2.1, HY.out]
    · rw [HX.out.2.2.2.2.1, HY.out]; rfl
  case round =>
    clear HS
    obtain ⟨many, i', d, P', Ak, ck, N, rfl, rfl, rfl, hck, hpl, hi, hm, hP, hc1, hc2, hS⟩ := hrel
    have HS := Lib.hid hS
    clear hS
    by_cases hm1 : many = 1
    · subst hm1
      cases P' with
      | nil =>
        have HC := Lib.hid (And.intro hc1 hc2)
        clear hck hpl hi hm hP hc1 hc2
        obtain ⟨p1, p2⟩ := dig_at HS.out.root
        obtain ⟨p3, p4⟩ := dig_at HS.out.dig
        have HF : Hid (BookL wr b r q (notesM (noteM L (leafIn R)) (climbIn n i (leafM shaM R) P0)) ∧ Upd (Book3 b r q) w wr) := by
          refine ⟨?_, HS.out.upd⟩
          rw [HC.out.2]
          have := HS.out.book
          simpa [climbIn] using this
        have HZ : Hid ((d = root ∧ (if climb n i (leafM shaM R) P0 = some root then (0 : Int) else 100) = 0) ∨ (decide (d = root) = false ∧ (if climb n i (leafM shaM R) P0 = some root then (0 : Int) else 100) = 100)) := by
          have h1 : climb n i (leafM shaM R) P0 = some d := HC.out.1
          rw [h1]
          by_cases hd : d = root
          · exact .inl ⟨hd, if_pos (by rw [hd])⟩
          · exact .inr ⟨decide_eq_false hd, if_neg (fun e => hd (Option.some.inj e))⟩
        clear HS HC
        rcases HZ.out with ⟨hd, hz⟩ | ⟨hd, hz⟩
        · replace hz := Lib.hid hz
          subst hd
          clear HZ
          go_wp2
          first | go_ret | (rw [Exit.noGoto_ret]; go_ret)
          exact ⟨by rw [HZZ.out, hz.out]; rfl, HF.out⟩
        · replace hz := Lib.hid hz
          clear HZ
          go_wp2
          first | go_ret | (rw [Exit.noGoto_ret]; go_ret)
          exact ⟨by rw [HZZ.out, hz.out]; rfl, HF.out⟩
      | cons p P' =>
        have HC := Lib.hid (And.intro hc1 hc2)
        have HF : Hid (zz = 100 ∧ BookL wr b r q (notesM (noteM L (leafIn R)) (climbIn n i (leafM shaM R) P0)) ∧ Upd (Book3 b r q) w wr) := by
          refine ⟨by rw [HZZ.out, HC.out.1]; exact if_neg (by rw [show climb 1 i' d ((p :: P').map (·.2)) = none from rfl]; simp), ?_, HS.out.upd⟩
          rw [HC.out.2]
          have h1 := HS.out.book
          have h2 : climbIn 1 i' d ((p :: P').map (·.2)) = [] := rfl
          rw [h2, List.append_nil]
          exact h1
        have hp0 : ¬ ((((p :: P').length : Nat) : Int) = 0) := by rw [List.length_cons]; omega
        clear hck hpl hi hm hP hc1 hc2 HC HS
        generalize (p :: P').length = pl' at *
        go_wp2
        first | go_ret | (rw [Exit.noGoto_ret]; go_ret)
        exact ⟨by rw [HF.out.1]; rfl, HF.out.2⟩
    · have hm1' : ¬ ((many : Int) = 1) := by omega
      have hq1 : ((many : Int) == 1) = false := by simp; omega
      cases P' with
      | nil =>
        have HC := Lib.hid (And.intro hc1 hc2)
        have HF : Hid (zz = 100 ∧ BookL wr b r q (notesM (noteM L (leafIn R)) (climbIn n i (leafM shaM R) P0)) ∧ Upd (Book3 b r q) w wr) := by
          refine ⟨by rw [HZZ.out, HC.out.1]; exact if_neg (by rw [show climb many i' d (([] : List (SlC × List Dig)).map (·.2)) = none from (climb_nil many i' d).trans (if_neg hm1)]; simp), ?_, HS.out.upd⟩
          rw [HC.out.2]
          have h1 := HS.out.book
          have h2 : climbIn many i' d (([] : List (SlC × List Dig)).map (·.2)) = [] := rfl
          rw [h2, List.append_nil]
          exact h1
        clear hck hpl hi hm hP hc1 hc2 HC HS hm1
        simp only [List.length_nil]
        go_wp2
        first | go_ret | (rw [Exit.noGoto_ret]; go_ret)
        exact ⟨by rw [HF.out.1]; rfl, HF.out.2⟩
      | cons p P' =>
        obtain ⟨bb, off, A2, c2, hA, hcell, hdg, hc2'⟩ := (hP wr HS.out.upd).head
        subst hA
        rw [List.map_cons] at hc1 hc2
        have hcl : climb many i' d (p.2 :: P'.map (·.2)) = if p.2.length = min 4 (many - i' + i' % 4) ∧ p.2[i' % 4]? = some d then climb (up4 many) (i' / 4) (upM shaM p.2) (P'.map (·.2)) else none := by rw [climb, if_neg hm1]
        have hcin : climbIn many i' d (p.2 :: P'.map (·.2)) = if p.2.length = min 4 (many - i' + i' % 4) ∧ p.2[i' % 4]? = some d then upIn p.2 :: climbIn (up4 many) (i' / 4) (upM shaM p.2) (P'.map (·.2)) else [] := by rw [climbIn, if_neg hm1]
        obtain ⟨A3, hsl, htail⟩ := slice_rest (A := some ⟨bb, off, none⟩) (p := p) (P := P') (p :: P').length ck (by rw [List.length_cons]; omega) hck
        rw [show (p :: P').length - 1 = P'.length by simp] at hsl
        have HT := Lib.hid (show ∀ W, Upd (Book3 b r q) w W → ProofAt W A3 P' from fun W hW => htail ⟨bb, off, rfl⟩ rfl W (hP W hW))
        have hp0 : ¬ ((((p :: P').length : Nat) : Int) = 0) := by rw [List.length_cons]; omega
        have hq0 : ((((p :: P').length : Nat) : Int) == 0) = false := by rw [List.length_cons]; simp; omega
        have hp1 : (0 : Int) < (((p :: P').length : Nat) : Int) := by rw [List.length_cons]; omega
        have hp1n : 0 < (p :: P').length := by rw [List.length_cons]; omega
        have hlen : P'.length + 1 ≤ ck ∧ P'.length + 1 ≤ 140737488351232 := by rw [List.length_cons] at hck hpl; exact ⟨hck, hpl⟩
        obtain ⟨a, ha⟩ : ∃ a, a = i' % 4 := ⟨_, rfl⟩
        obtain ⟨x, hx⟩ : ∃ x, x = min 4 (many - i' + a) := ⟨_, rfl⟩
        rw [← ha, ← hx] at hcl hcin
        obtain ⟨y', hy'⟩ : ∃ y' : Nat, y' = many - i' := ⟨_, rfl⟩
        obtain ⟨z, hz⟩ : ∃ z : Nat, z = y' + a := ⟨_, rfl⟩
        have e1 : (i' : Int) % 4 = (a : Int) := by omega
        have e2 : (many : Int) - (i' : Int) = (y' : Int) := by omega
        have e3 : (y' : Int) + (a : Int) = (z : Int) := by omega
        have ew2 : IntKind.i64.wrap (y' : Int) = (y' : Int) := by rw [IntKind.wrap_i64]; omega
        have ew3 : IntKind.i64.wrap (z : Int) = (z : Int) := by rw [IntKind.wrap_i64]; omega
        have e4 : (if (z : Int) < 4 then (z : Int) else 4) = (x : Int) := by split <;> omega
        have e4n : (if z < 4 then (z : Int) else 4) = (x : Int) := by split <;> omega
        have b1 : (i' : Int) ≤ 1024 := by omega
        have b2 : (many : Int) ≤ 1024 := by omega
        have b3 : (y' : Int) ≤ 1024 := by omega
        have b4 : (a : Int) ≤ 3 := by omega
        have hxp : 1 ≤ x ∧ x ≤ 4 ∧ a < x := by omega
        have HN := Lib.hid (And.intro hxp (And.intro hlen (And.intro hi (And.intro hm (And.intro ha hm1)))))
        have HC := Lib.hid (And.intro hc1 (And.intro hc2 (And.intro hcl hcin)))
        have HD := Lib.hid (And.intro hdg hc2')
        clear hcl hcin hc1 hc2 hck hpl hP htail hlen hi hm hm1 hx hy' hz ha hxp hdg hc2'
        generalize (p :: P').length = pl' at *
        obtain ⟨ln, hln⟩ : ∃ ln, ln = p.2.length := ⟨_, rfl⟩
        rw [← hln] at hcell
        by_cases hlx : ln = x
        · subst hlx
          obtain ⟨hlp, hlck, hi, hm, ha, hm1⟩ := HN.out
          have hal : a < p.2.length := by omega
          obtain ⟨g, o, rfl, s1, s2⟩ := HD.out.1.get hal
          obtain ⟨e, he⟩ : ∃ e, e = p.2[a] := ⟨_, rfl⟩
          have hge : p.2[a]? = some e := by rw [List.getElem?_eq_getElem hal, he]
          have hff : ∀ W, Kept wr W → segB W ⟨g, o + a * 32, none⟩ 32 = true ∧ segV W ⟨g, o + a * 32, none⟩ 32 = dA e := fun W hW => by
            obtain ⟨g', o', e2, s3, s4⟩ := (HD.out.1.kept hW).get hal
            simp only [Option.some.injEq, Addr.mk.injEq, and_true] at e2
            obtain ⟨rfl, rfl⟩ := e2
            rw [he]; exact ⟨s3, s4⟩
          have f1 : ∀ W, Kept wr W → segB W ⟨g, o + a * 32, none⟩ 32 = true := fun W hW => (hff W hW).1
          have f2 : ∀ W, Kept wr W → segV W ⟨g, o + a * 32, none⟩ 32 = dA e := fun W hW => (hff W hW).2
          have f3 : ∀ W, Kept wr W → segB W ⟨g1, 0, none⟩ 32 = true := fun W hW => (dig_at (HS.out.dig.kept hW)).1
          have f4 : ∀ W, Kept wr W → segV W ⟨g1, 0, none⟩ 32 = dA d := fun W hW => (dig_at (HS.out.dig.kept hW)).2
          clear hff s1 s2
          have b5 : (a : Int) < (ln : Int) := by omega
          have b5n : a < ln := hlp.2.2
          clear he hal
          by_cases hed : e = d
          · subst hed
            have hyes : p.2.length = ln ∧ p.2[a]? = some e := ⟨hln.symm, hge⟩
            have HC2 : Hid (climb n i (leafM shaM R) P0 = climb (up4 many) (i' / 4) (upM shaM p.2) (P'.map (·.2)) ∧ climbIn n i (leafM shaM R) P0 = (N ++ [upIn p.2]) ++ climbIn (up4 many) (i' / 4) (upM shaM p.2) (P'.map (·.2))) := by
              refine ⟨by rw [HC.out.1, HC.out.2.2.1, if_pos hyes], ?_⟩
              rw [HC.out.2.1, HC.out.2.2.2, if_pos hyes, List.append_assoc]; rfl
            have hwd : Kept wr wr.drew := (Upd.refl _ _).drew
            have HU := tree_Up (HS.out.book.kept hwd) c2 (HD.out.1.kept hwd) (by omega) (by omega)
            rw [← hln] at HU
            have HSd := Lib.hid (HS.out.kept hwd)
            obtain ⟨j4, hj4⟩ : ∃ j4, j4 = i' / 4 := ⟨_, rfl⟩
            obtain ⟨m4, hm4⟩ : ∃ m4, m4 = up4 many := ⟨_, rfl⟩
            rw [← hj4, ← hm4] at HC2
            have e5 : (i' : Int) / 4 = (j4 : Int) := by omega
            have e6 : ((many : Int) + 4 - 1) / 4 = (m4 : Int) := by unfold up4 at hm4; omega
            have HE6 := Lib.hid e6
            have HM := Lib.hid (show j4 < m4 ∧ m4 ≤ 1024 ∧ m4 < many by
              have h1 := place_up hi
              have h2 := up4_lt (n := many) (by omega)
              rw [hj4, hm4]
              refine ⟨h1, by omega, h2⟩)
            obtain ⟨X, hX⟩ : ∃ X, X = upM shaM p.2 := ⟨_, rfl⟩
            rw [← hX] at HU HC2
            rw [notesM_step] at HU
            clear HC HS HD hge hyes hwd hln hi hm ha hm1 hlp hj4 hm4 hX
            go_wp2
            refine wp_region_ord [(0, true), (1, true), (2, true), (3, true), (4, true), (5, true), (6, true), (7, true), (8, true), (9, true), (10, true), (11, true), (12, true), (13, true), (14, true), (15, true), (16, true)] (by kernel_rfl) (by kernel_rfl) (Kept wr) (Upd.refl _ _).drew ?_
            simp only [ordOps, List.getD_cons_zero, List.getD_cons_succ]
            iterate 17 (refine wpOrd_held (fun K hK => ?_); go_simp; first | (apply Exists.intro; refine ⟨fun W hW => ?_, hK _ ?_⟩; (go_simp; first | done | exact rfl); clear hK K) | (refine hK _ ?_; clear hK K))
            refine wpOrd_nil ?_
            clear f1 f2 f3 f4
            generalize wr.drew = wd at *
            go_wp2_with fail
            refine HU.mono ?_
            clear HU
            rintro ee we ⟨rfl, hbe, hue⟩
            have hSe := HSd.out.to hbe hue
            obtain ⟨hrow, hSf⟩ := hSe.turn X
            have HF := Lib.hid hSf
            clear hbe hue hSe hSf HSd
            go_wp2
            go_roundw
            case rel => exact ⟨m4, j4, X, P', A3, ck - 1, N ++ [upIn p.2], by rw [HE6.out], rfl, rfl, by omega, by omega, HM.out.1, HM.out.2.1, HT.out, HC2.out.1, HC2.out.2, HF.out⟩
            case measure => have := HM.out.2.2; simp [intOf]; omega
          · have hdd : decide (e = d) = false := decide_eq_false hed
            have HF : Hid (zz = 100 ∧ BookL wr b r q (notesM (noteM L (leafIn R)) (climbIn n i (leafM shaM R) P0)) ∧ Upd (Book3 b r q) w wr) := by
              have hno : ¬ (p.2.length = ln ∧ p.2[a]? = some d) := fun e2 => hed (Option.some.inj (hge.symm.trans e2.2))
              refine ⟨by rw [HZZ.out, HC.out.1, HC.out.2.2.1, if_neg hno]; simp, ?_, HS.out.upd⟩
              rw [HC.out.2.1, HC.out.2.2.2, if_neg hno, List.append_nil]
              exact HS.out.book
            clear HC hln HS HT HD HN hge hed hlp hlck hi hm ha hm1
            go_wp2
            refine wp_region_ord [(0, true), (1, true), (2, true), (3, true), (4, true), (5, true), (6, true), (7, true), (8, true), (9, true), (10, true), (11, true), (12, true), (13, true), (14, true), (15, true), (16, true)] (by kernel_rfl) (by kernel_rfl) (Kept wr) (Upd.refl _ _).drew ?_
            simp only [ordOps, List.getD_cons_zero, List.getD_cons_succ]
            iterate 17 (refine wpOrd_held (fun K hK => ?_); go_simp; first | (apply Exists.intro; refine ⟨fun W hW => ?_, hK _ ?_⟩; (go_simp; first | done | exact rfl); clear hK K) | (refine hK _ ?_; clear hK K))
            refine wpOrd_nil ?_
            clear f1 f2 f3 f4
            replace HF := Lib.hid (And.intro HF.out.1 (And.intro (HF.out.2.1.kept (show Kept wr wr.drew from (Upd.refl _ _).drew)) (HF.out.2.2.drew)))
            go_wp2
            first | go_ret | (rw [Exit.noGoto_ret]; go_ret)
            exact ⟨by rw [HF.out.1]; rfl, HF.out.2⟩
        · have hd1 : ¬ ((ln : Int) = (x : Int)) := by omega
          have HF : Hid (zz = 100 ∧ BookL wr b r q (notesM (noteM L (leafIn R)) (climbIn n i (leafM shaM R) P0)) ∧ Upd (Book3 b r q) w wr) := by
            have hno : ¬ (p.2.length = x ∧ p.2[a]? = some d) := fun e => hlx (hln.trans e.1)
            refine ⟨by rw [HZZ.out, HC.out.1, HC.out.2.2.1, if_neg hno]; simp, ?_, HS.out.upd⟩
            rw [HC.out.2.1, HC.out.2.2.2, if_neg hno, List.append_nil]
            exact HS.out.book
          clear HC hln hlx HS HT HD HN
          go_wp2
          refine wp_region_ord [(0, true), (1, true), (2, true), (3, true), (4, true), (5, true), (6, true), (7, true), (8, true), (9, true), (10, true), (11, true), (12, true), (13, true), (14, true), (15, true), (16, true)] (by kernel_rfl) (by kernel_rfl) (Kept wr) (Upd.refl _ _).drew ?_
          simp only [ordOps, List.getD_cons_zero, List.getD_cons_succ]
          iterate 17 (refine wpOrd_held (fun K hK => ?_); go_simp; first | (apply Exists.intro; refine ⟨fun W hW => ?_, hK _ ?_⟩; (go_simp; first | done | exact rfl); clear hK K) | (refine hK _ ?_; clear hK K))
          refine wpOrd_nil ?_
          replace HF := Lib.hid (And.intro HF.out.1 (And.intro (HF.out.2.1.kept (show Kept wr wr.drew from (Upd.refl _ _).drew)) (HF.out.2.2.drew)))
          go_wp2
          first | go_ret | (rw [Exit.noGoto_ret]; go_ret)
          exact ⟨by rw [HF.out.1]; rfl, HF.out.2⟩
end Go.Proofs.Ytnncpjekcljfbaa
/- proof: Check refused; the statements' trees: made. -/
namespace Go.Proofs.Ytnncpjekcljfbaa
open Go.RowKit

attribute [local irreducible] wpOrd
theorem proof_Check_arg {w : World} {p : Option Addr} (root : Dig) (n i : Int) (x v : Value) (hn : n < 1 ∨ 1024 < n) :
    Calls Try.prog 53 #[.pointer p, .agg (dA root), .int .i64 n, .int .i64 i, x, v] w fun e W => e = .returned (.int .i64 2) ∧ Kept w W := by
  by_cases h0 : n < 1
  · have d0 : decide (n < 1) = true := decide_eq_true h0
    clear hn h0
    have hd1 : Blk (w.alloc (.cells (dA root) 46)) w.heap.size 46 (encB (root).1) := Blk.new w _ _
    have hk1 : Kept w (w.alloc (.cells (dA root) 46)) := (Upd.refl _ w).alloc _
    clear hd1
    go_enter Try.func53, Try.ntmps53
    go_wp2_with fail
    go_step3
    go_wp2
    first | go_ret | (rw [Exit.noGoto_ret]; go_ret)
    exact ⟨rfl, hk1⟩
  · have d0 : decide (n < 1) = false := decide_eq_false h0
    have d1 : decide (1024 < n) = true := decide_eq_true (by omega)
    clear hn h0
    have hd1 : Blk (w.alloc (.cells (dA root) 46)) w.heap.size 46 (encB (root).1) := Blk.new w _ _
    have hk1 : Kept w (w.alloc (.cells (dA root) 46)) := (Upd.refl _ w).alloc _
    clear hd1
    go_enter Try.func53, Try.ntmps53
    go_wp2_with fail
    go_step3
    go_wp2
    first | go_ret | (rw [Exit.noGoto_ret]; go_ret)
    exact ⟨rfl, hk1⟩
theorem proof_Check_range {w : World} {p : Option Addr} (root : Dig) (n i : Int) (x v : Value) (hn : 1 ≤ n) (hn2 : n ≤ 1024) (hi : i < 0 ∨ n ≤ i) :
    Calls Try.prog 53 #[.pointer p, .agg (dA root), .int .i64 n, .int .i64 i, x, v] w fun e W => e = .returned (.int .i64 9) ∧ Kept w W := by
  have d0 : decide (n < 1) = false := decide_eq_false (by omega)
  have d1 : decide (1024 < n) = false := decide_eq_false (by omega)
  by_cases h0 : i < 0
  · have d2 : decide (i < 0) = true := decide_eq_true h0
    clear hi h0 hn hn2
    have hd1 : Blk (w.alloc (.cells (dA root) 46)) w.heap.size 46 (encB (root).1) := Blk.new w _ _
    have hk1 : Kept w (w.alloc (.cells (dA root) 46)) := (Upd.refl _ w).alloc _
    clear hd1
    go_enter Try.func53, Try.ntmps53
    go_wp2_with fail
    go_step3
    go_wp2
    first | go_ret | (rw [Exit.noGoto_ret]; go_ret)
    exact ⟨rfl, hk1⟩
  · have d2 : decide (i < 0) = false := decide_eq_false h0
    have d3 : decide (n ≤ i) = true := decide_eq_true (by omega)
    clear hi h0 hn hn2
    have hd1 : Blk (w.alloc (.cells (dA root) 46)) w.heap.size 46 (encB (root).1) := Blk.new w _ _
    have hk1 : Kept w (w.alloc (.cells (dA root) 46)) := (Upd.refl _ w).alloc _
    clear hd1
    go_enter Try.func53, Try.ntmps53
    go_wp2_with fail
    go_step3
    go_wp2
    first | go_ret | (rw [Exit.noGoto_ret]; go_ret)
    exact ⟨rfl, hk1⟩
theorem proof_Check_no {w : World} {p : Option Addr} (root y : Dig) (n i : Int) (x v : Value) (hn : 1 ≤ n) (hn2 : n ≤ 1024) (hi : 0 ≤ i) (hi2 : i < n) {z : Int} (hz : z ≠ 0)
    (hL : ∀ w1, Kept w w1 → Calls Try.prog 43 #[.pointer p, x] w1 fun e W => e = .returned (.tuple #[.agg (dA y), .int .i64 z]) ∧ Kept w1 W) :
    Calls Try.prog 53 #[.pointer p, .agg (dA root), .int .i64 n, .int .i64 i, x, v] w fun e W => e = .returned (.int .i64 z) ∧ Kept w W := by
  have d0 : decide (n < 1) = false := decide_eq_false (by omega)
  have d1 : decide (1024 < n) = false := decide_eq_false (by omega)
  have d2 : decide (i < 0) = false := decide_eq_false (by omega)
  have d3 : decide (n ≤ i) = false := decide_eq_false (by omega)
  have hz2 : (z == 0) = false := by simpa using hz
  have HG := hL _ ((Upd.refl _ w).alloc (.cells (dA root) 46))
  clear hn hn2 hi hi2 hL
  have hd1 : Blk (w.alloc (.cells (dA root) 46)) w.heap.size 46 (encB (root).1) := Blk.new w _ _
  have hk1 : Kept w (w.alloc (.cells (dA root) 46)) := (Upd.refl _ w).alloc _
  clear hd1
  go_enter Try.func53, Try.ntmps53
  go_wp2_with fail
  go_step3
  go_wp2_with fail
  refine HG.mono ?_
  clear HG
  rintro e w2 ⟨rfl, hu⟩
  have HF := Lib.hid (show Kept w (w2.alloc (.cells (dA y) 46)) from (hk1.then hu (fun _ _ h => h)).alloc _)
  clear hk1 hu
  go_wp2
  first | go_ret | (rw [Exit.noGoto_ret]; go_ret)
  exact ⟨rfl, HF.out⟩
end Go.Proofs.Ytnncpjekcljfbaa
/- The statements' trees: made. -/
namespace Go.Proofs.Ytnncpjekcljfbaa
open Go.RowKit

attribute [local irreducible] wpOrd
/-- the bytes of leaves, 40 at most, of 100 bytes each -/
def bytesL (l : List (SlC × Bytes)) : List Bytes := (l.take 40).map fun p => p.2.take 100
theorem bytesL_length (l : List (SlC × Bytes)) : (bytesL l).length = min 40 l.length := by simp [bytesL]
theorem bytesL_get {l : List (SlC × Bytes)} {k : Nat} (h : k < l.length) (h2 : k < 40) : (bytesL l)[k]? = some (l[k].2.take 100) := by
  rw [bytesL, List.getElem?_map, List.getElem?_take_of_lt h2, List.getElem?_eq_getElem h]; rfl
/-- a book behind w0, and a tree made with it -/
structure Made (w W : World) (b r q lo hi t : Nat) (L ls : List Bytes) : Prop where
  ink : Ink0 w W b r q L
  tree : TreeAt W lo hi t b (ls.map (leafM shaM))
  lo : w.heap.size ≤ lo
  ins : InsIn L (ls.map (leafM shaM))
  leaf : ∀ R ∈ ls, leafIn R ∈ L
  ne : ls ≠ []
  le : ls.length ≤ 40
section
variable {w W W' : World} {b r q lo hi t : Nat} {L L' ls : List Bytes}
theorem Made.kept (h : Made w W b r q lo hi t L ls) (hu : Kept W W') : Made w W' b r q lo hi t L ls := ⟨h.ink.kept hu, h.tree.kept hu, h.lo, h.ins, h.leaf, h.ne, h.le⟩
theorem Made.to (h : Made w W b r q lo hi t L ls) (hb : BookL W' b r q L') (hs : ∀ x ∈ L, x ∈ L') (hu : Upd (Book3 b r q) W W') : Made w W' b r q lo hi t L' ls :=
  ⟨h.ink.to hb hu, h.tree.book h.ink.book hu, h.lo, h.ins.more hs, fun R hR => hs _ (h.leaf R hR), h.ne, h.le⟩
end

theorem bastidelaw10_made_none {w : World} {p A : Option Addr} (c : Nat) :
    Calls Try.prog 55 #[.pointer p, .slice A 0 c] w fun e W => e = .returned (.pointer none) ∧ Kept w W := by
  have HG := tree_New_bad (w := w) (p := p) 0 (.inl (by omega))
  go_enter Try.func55, Try.ntmps55
  go_wp2_with fail
  refine HG.mono ?_
  rintro e W ⟨rfl, hu⟩
  go_wp2
  go_ret
  exact ⟨rfl, hu⟩

set_option maxHeartbeats 1600000 in
set_option maxRecDepth 20000 in
theorem bastidelaw10_made {w0 w : World} {b r q : Nat} {L : List Bytes} (hI : Ink0 w0 w b r q L) {A : Option Addr} {l : List (SlC × Bytes)} (c : Nat) (hLv : ∀ W, Upd (Book3 b r q) w W → LeavesAt W A l) (h1 : 1 ≤ l.length) (hlm : l.length ≤ 140737488351232) :
    Calls Try.prog 55 #[.pointer (some ⟨b, 0, none⟩), .slice A l.length c] w fun e W => ∃ t, e = .returned (.pointer (some ⟨t, 0, none⟩)) ∧ ∃ lo hi L', Made w0 W b r q lo hi t L' (bytesL l) ∧ (∀ x ∈ L, x ∈ L') ∧ Upd (Book3 b r q) w W := by
  obtain ⟨n, hn⟩ : ∃ n, n = min l.length 40 := ⟨_, rfl⟩
  have hls : (bytesL l).length = n := by rw [bytesL_length, hn]; omega
  have hn1 : 1 ≤ n ∧ n ≤ 40 ∧ n ≤ l.length := by omega
  have e1 : (if (40 : Int) < (l.length : Int) then (40 : Int) else (l.length : Int)) = (n : Int) := by split <;> omega
  have e2 : (if 40 < l.length then (40 : Int) else (l.length : Int)) = (n : Int) := by split <;> omega
  have HN := Lib.hid hn1
  have HX := Lib.hid (And.intro hI (And.intro hLv (And.intro hls hlm)))
  have HG := tree_New hI.book n (by omega) (by omega)
  clear hI hLv h1 hlm hn hls hn1
  obtain ⟨ll, hll⟩ : ∃ ll, ll = l.length := ⟨_, rfl⟩
  rw [← hll] at e1 e2 ⊢
  have HLL := Lib.hid hll
  clear hll
  go_enter Try.func55, Try.ntmps55
  go_wp2_with fail
  refine HG.mono ?_
  clear HG
  rintro e w2 ⟨t, rfl, htlo, hT, hb, hu⟩
  have HT := Lib.hid (And.intro hT (And.intro hb hu))
  clear hT hb hu htlo
  go_wp2_with fail
  clear e1 e2
  obtain ⟨lo, hlo⟩ : ∃ lo, lo = w.heap.size := ⟨_, rfl⟩
  obtain ⟨hi, hhi⟩ : ∃ hi, hi = w2.heap.size := ⟨_, rfl⟩
  rw [← hlo, ← hhi] at HT
  replace hlo := Lib.hid hlo
  clear hhi
  go_loopw [8] (fun u1 wr => ∃ (k : Nat) (D : List Dig) (L' : List Bytes), k ≤ n ∧ u1 = .int .i64 k ∧ D.length = n ∧ (∀ j, j < k → D[j]? = ((bytesL l).map (leafM shaM))[j]?) ∧ TreeAt wr lo hi t b D ∧ BookL wr b r q L' ∧ InsIn L' D ∧ (∀ R ∈ (bytesL l).take k, leafIn R ∈ L') ∧ (∀ x ∈ L, x ∈ L') ∧ Upd (Book3 b r q) w wr) (fun u1 _ => 2000 - (intOf u1).toNat)
  case atStart =>
    exact ⟨0, _, _, Nat.zero_le _, rfl, List.length_replicate, fun j hj => absurd hj (Nat.not_lt_zero j), HT.out.1, HT.out.2.1, InsIn.new _ _, by simp, fun x hx => mem_notesM.2 (.inl (mem_noteM.2 (.inl hx))), HT.out.2.2⟩
  case round =>
    clear HT
    obtain ⟨k, D, L', hk, rfl, hDn, hDk, hT, hb, hins, hlf, hLL, hu⟩ := hrel
    rcases Nat.lt_or_ge k n with hlt | hge
    · have hk1 : (k : Int) < (n : Int) := by omega
      have hkl : k < l.length := by have := HN.out; omega
      obtain ⟨g1, o1, hA1, hc1, hR1, -⟩ := HX.out.2.1 wr hu k hkl
      have hbk : (bytesL l)[k]? = some (l[k].2.take 100) := bytesL_get hkl (by have := HN.out; omega)
      obtain ⟨A1, c1, hx1, hcap, hR1⟩ := hR1.form
      have f1 : ∀ W, Upd (Book3 b r q) w W → W.cell? ⟨g1, o1 + k, none⟩ = some (.slice A1 l[k].2.length c1) := fun W hW => by
        obtain ⟨g', o', hA', hc', -⟩ := HX.out.2.1 W hW k hkl
        rw [hA1] at hA'
        simp only [Option.some.injEq, Addr.mk.injEq, and_true] at hA'
        obtain ⟨rfl, rfl⟩ := hA'
        rw [hc', hx1]; rfl
      subst hA1
      clear hc1 hx1
      generalize l[k].2 = R at *
      obtain ⟨z, hz, hm1, hm2⟩ := min_num R.length
      have hzl : (R.take 100).length = z := by rw [List.length_take]; omega
      have hsl : ∀ W : World, (Instr.sliceAt 35 (.slice A1 R.length c1) none (some (.int .i64 (z : Int))) none).run Try.prog W = .ok (.slice A1 z c1) W := fun W => slice_u8_h W A1 R.length c1 z (by omega)
      have hkll : (k : Int) < (ll : Int) := by have := HLL.out; omega
      have hkll2 : k < ll := by have := HLL.out; omega
      have hk40 : (k : Int) ≤ 40 := by have := HN.out; omega
      have hud : Kept wr wr.drew := (Upd.refl _ _).drew
      have hud2 : Upd (Book3 b r q) w wr.drew := hu.drew
      have HS := tree_Set (hb.kept hud) (hT.kept hud) c1 ((hR1.take 100).kept hud) (by rw [hzl]; omega) k (by omega)
      rw [hzl] at HS
      have HQ := Lib.hid (And.intro hDn (And.intro hDk (And.intro hins (And.intro hlf (And.intro hLL (And.intro hu (And.intro hbk hlt)))))))
      clear hDn hDk hT hb hins hlf hLL hbk hlt hk hcap hz hzl
      go_wp2_with fail
      refine wp_region_ord [(0, true), (1, true), (2, true), (3, true), (4, true), (5, true), (6, true), (7, true), (8, true), (9, true), (10, true), (11, true), (12, true), (13, false), (14, true)] (by kernel_rfl) (by kernel_rfl) (Upd (Book3 b r q) w) hu.drew ?_
      simp only [ordOps, List.getD_cons_zero, List.getD_cons_succ]
      iterate 13 (refine wpOrd_held (fun K hK => ?_); go_simp; first | (apply Exists.intro; refine ⟨fun W hW => ?_, hK _ ?_⟩; (go_simp; first | done | exact rfl); clear hK K) | (refine hK _ ?_; clear hK K))
      clear f1 hsl hm1 hm2
      generalize wr.drew = wd at *
      have hSd : Upd (Book3 b r q) w wd := hud2
      refine wpOrd_step (fun K hK => ?_) hSd
      go_simp
      refine HS.mono ?_
      clear HS
      rintro e we ⟨rfl, hTe, hbe, hue⟩
      have hSe : Upd (Book3 b r q) w we := hSd.then hue (fun i hi e => e.elim id (fun e => by have := hlo.out; omega))
      refine hK _ _ hSe ?_
      clear hK K
      iterate 1 (refine wpOrd_held (fun K hK => ?_); go_simp; first | (apply Exists.intro; refine ⟨fun W hW => ?_, hK _ ?_⟩; (go_simp; first | done | exact rfl); clear hK K) | (refine hK _ ?_; clear hK K))
      refine wpOrd_nil ?_
      have HF := Lib.hid (And.intro hTe (And.intro hbe hSe))
      have hins' := HQ.out.2.2.1.set (i := k) (by rw [HQ.out.1]; exact HQ.out.2.2.2.2.2.2.2) (leafIn (R.take 100)) (leafM shaM (R.take 100))
      have HG2 := Lib.hid hins'
      clear hTe hbe hue hSe hSd hud hud2 hins' hu
      have HNN := Lib.hid HQ.out.2.2.2.2.2.2.2
      go_wp2
      go_roundw
      case rel =>
        obtain ⟨hDn, hDk, hins, hlf, hLL, hu, hbk, hlt⟩ := HQ.out
        refine ⟨k + 1, _, _, by omega, by show _ = _; go_num, by rw [List.length_set, hDn], fun j hj => ?_, HF.out.1, HF.out.2.1, HG2.out, fun R' hR' => ?_, fun x hx => mem_notesM.2 (.inl (mem_noteM.2 (.inl (hLL x hx)))), HF.out.2.2⟩
        · by_cases hjk : j = k
          · subst hjk
            rw [List.getElem?_set_self (by omega), List.getElem?_map, hbk]; rfl
          · rw [List.getElem?_set_ne (fun e => hjk e.symm)]
            exact hDk j (by omega)
        · have hkb : k < (bytesL l).length := (List.getElem?_eq_some_iff.1 hbk).1
          rw [List.take_succ_eq_append_getElem hkb] at hR'
          rcases List.mem_append.1 hR' with h1 | h1
          · exact mem_notesM.2 (.inl (mem_noteM.2 (.inl (hlf R' h1))))
          · simp only [List.mem_singleton] at h1
            have h2 := (List.getElem?_eq_some_iff.1 hbk).2
            rw [h1, h2]
            exact mem_notesM.2 (.inl (mem_noteM.2 (.inr rfl)))
      case measure => have := HNN.out; have := HN.out; simp [intOf]; omega
    · obtain rfl : k = n := by omega
      have hk1 : ¬ ((k : Int) < (k : Int)) := by omega
      have hDl : D = (bytesL l).map (leafM shaM) := List.ext_getElem? fun j => by
        rcases Nat.lt_or_ge j k with h1 | h1
        · exact hDk j h1
        · rw [List.getElem?_eq_none (by omega), List.getElem?_eq_none (by rw [List.length_map, HX.out.2.2.1]; exact h1)]
      have HF : Hid (Made w0 wr b r q lo hi t L' (bytesL l) ∧ (∀ x ∈ L, x ∈ L') ∧ Upd (Book3 b r q) w wr) := by
        rw [List.take_of_length_le (by rw [HX.out.2.2.1]; exact Nat.le_refl _)] at hlf
        rw [hDl] at hT hins
        exact ⟨⟨HX.out.1.to hb hu, hT, by rw [hlo.out]; exact HX.out.1.upd.size, hins, hlf, by intro h0; have h1 := HX.out.2.2.1; rw [h0] at h1; have := HN.out; simp at h1; omega, by rw [HX.out.2.2.1]; exact HN.out.2.1⟩, hLL, hu⟩
      clear hDn hDk hT hb hins hlf hLL hu hge hk hDl
      go_wp2
      go_ret
      exact ⟨_, rfl, _, _, _, HF.out⟩
end Go.Proofs.Ytnncpjekcljfbaa
/- The chapter's six leaves, in memory. -/
namespace Go.Proofs.Ytnncpjekcljfbaa
open Go.RowKit

theorem OwnB.low {W : World} {B B' : Nat} {v : Value} {R : Bytes} (h : OwnB W B' v R) (hb : B ≤ B') : OwnB W B v R :=
  ⟨h.1, h.2.imp id fun ⟨g, cap, cur, hv, hb2, hr⟩ => ⟨g, cap, cur, hv, Nat.le_trans hb hb2, hr⟩⟩
theorem OwnB.block {W : World} {B : Nat} {v : Value} {R : Bytes} (h : OwnB W B v R) {k : Nat} (hk : v.ownBlock = some k) : ∃ cur, W.heap[k]? = some (.cells cur 5 (0, 0)) := by
  rcases h.2 with ⟨rfl, _⟩ | ⟨g, cap, cur, rfl, hb, hg, _⟩
  · cases hk
  · cases hk; exact ⟨cur, hg⟩
/-- leaves in rows of the call's own -/
def OwnLv (W : World) (B : Nat) (v : Value) (l : List (SlC × Bytes)) : Prop := OwnS W B v (l.map (·.1)) ∧ ∀ p ∈ l, OwnB W B p.1.v p.2 ∧ p.2.length ≤ 140737488351232
section
variable {W W' : World} {B B' : Nat} {v : Value} {l : List (SlC × Bytes)} {S : Nat → Prop}
theorem OwnLv.upd (h : OwnLv W B v l) (hu : Upd S W W') (hs : ∀ k, B ≤ k → (∃ cs t', W.heap[k]? = some (.cells cs t' (0, 0)) ∧ t' ≠ 125) → ¬ S k) : OwnLv W' B v l := by
  refine ⟨OwnRows.upd h.1 hu (fun k e => ?_), fun p hp => ⟨(h.2 p hp).1.upd hu (fun k e => ?_), (h.2 p hp).2⟩⟩
  · obtain ⟨cur, hc⟩ := own_cells h.1 e
    exact hs k (World.ownsRow.lt h.1 k e).1 ⟨_, _, hc, by decide⟩
  · obtain ⟨cur, hc⟩ := (h.2 p hp).1.block e
    exact hs k ((h.2 p hp).1.far k e).1 ⟨_, _, hc, by decide⟩
theorem OwnLv.kept (h : OwnLv W B v l) (hu : Kept W W') : OwnLv W' B v l := h.upd hu fun _ _ _ => id
theorem OwnLv.book (h : OwnLv W B v l) {b r q : Nat} {L : List Bytes} (hb : BookL W b r q L) (hu : Upd (Book3 b r q) W W') : OwnLv W' B v l :=
  h.upd hu fun _ _ ⟨_, _, hc, ht⟩ => hb.not hc ht
theorem OwnB.leafAt {x : SlC} {R : Bytes} (h : OwnB W B x.v R) : LeafAt W x R := by
  obtain ⟨A, c, hx, hc, hb⟩ := h.form
  obtain ⟨xA, xn, xc⟩ := x
  rw [SlC.v_eq] at hx
  simp only [Value.slice.injEq] at hx
  obtain ⟨rfl, rfl, rfl⟩ := hx
  exact ⟨hb, rfl, hc⟩
theorem OwnLv.leaves {A : Option Addr} {n c : Nat} (h : OwnLv W B (.slice A n c) l) : LeavesAt W A l :=
  OwnS.leaves h.1 fun p hp => ⟨(h.2 p hp).1.leafAt, (h.2 p hp).2⟩
end

@[go_sem ↓] theorem exec_six_bsl (ρ : Operand → Value) (dst : Option Tmp) (parts : Array (Nat × Operand)) (ty : TypeId) (pos : String) (after : Array Edge) (guard : Option (Nat × Bool)) :
    execOp ρ ⟨dst, .buildSlice 52 6 parts, ty, pos, after, guard⟩ = sliceRow 52 6 (parts.map fun (i, x) => (i, ρ x)) := rfl
def sixV (A1 A2 A3 A4 A5 A6 : Option Addr) (c1 c2 c3 c4 c5 c6 : Nat) : Array Value := #[.slice A1 1 c1, .slice A2 1 c2, .slice A3 1 c3, .slice A4 1 c4, .slice A5 1 c5, .slice A6 1 c6]
theorem run_six_bsl (A1 A2 A3 A4 A5 A6 : Option Addr) (c1 c2 c3 c4 c5 c6 : Nat) (W : World) : (sliceRow 52 6 #[(0, .slice A1 1 c1), (1, .slice A2 1 c2), (2, .slice A3 1 c3), (3, .slice A4 1 c4), (4, .slice A5 1 c5), (5, .slice A6 1 c6)]).run Try.prog W = .ok (.value (.slice (some ⟨W.heap.size, 0, none⟩) 6 6)) (W.alloc (.cells (sixV A1 A2 A3 A4 A5 A6 c1 c2 c3 c4 c5 c6) 35)) := by
  obtain ⟨i, hi, h2⟩ := Option.map_eq_some_iff.1 bs_info
  simp only [Prod.mk.injEq] at h2
  have h := run_buildSlice (P := Try.prog) W 52 35 6 #[(0, .slice A1 1 c1), (1, .slice A2 1 c2), (2, .slice A3 1 c3), (3, .slice A4 1 c4), (4, .slice A5 1 c5), (5, .slice A6 1 c6)] (sixV A1 A2 A3 A4 A5 A6 c1 c2 c3 c4 c5 c6) i (.slice none 0 0) Try.underlying52 hi h2.2.2 (by rw [h2.1]; omega) (by rw [h2.1]; decide) (by
    rw [h2.1]
    have h0 : Array.range (6 * 1) = #[0, 1, 2, 3, 4, 5] := by decide
    rw [h0]
    simp [Instr.fill, Value.cells, sixV])
  simp [sliceRow, h, Result.andThen]

set_option maxHeartbeats 800000 in
set_option maxRecDepth 20000 in
theorem law_six (w : World) : Calls Try.prog 62 #[] w fun e W => ∃ A, e = .returned (.slice A 6 6) ∧ ∃ l, l.map (·.2) = six ∧ OwnLv W w.heap.size (.slice A 6 6) l ∧ Kept w W := by
  obtain ⟨v1, w1, hbs1, hB1, hk1⟩ := run_bs1 1 w
  change (sliceRow 35 1 #[(0, .int .u8 1)]).run Try.prog w = _ at hbs1
  obtain ⟨A1, c1, rfl, hc1, hb1⟩ := byt_one hB1
  obtain ⟨v2, w2, hbs2, hB2, hk2⟩ := run_bs1 2 w1
  change (sliceRow 35 1 #[(0, .int .u8 2)]).run Try.prog w1 = _ at hbs2
  obtain ⟨A2, c2, rfl, hc2, hb2⟩ := byt_one hB2
  obtain ⟨v3, w3, hbs3, hB3, hk3⟩ := run_bs1 3 w2
  change (sliceRow 35 1 #[(0, .int .u8 3)]).run Try.prog w2 = _ at hbs3
  obtain ⟨A3, c3, rfl, hc3, hb3⟩ := byt_one hB3
  obtain ⟨v4, w4, hbs4, hB4, hk4⟩ := run_bs1 4 w3
  change (sliceRow 35 1 #[(0, .int .u8 4)]).run Try.prog w3 = _ at hbs4
  obtain ⟨A4, c4, rfl, hc4, hb4⟩ := byt_one hB4
  obtain ⟨v5, w5, hbs5, hB5, hk5⟩ := run_bs1 5 w4
  change (sliceRow 35 1 #[(0, .int .u8 5)]).run Try.prog w4 = _ at hbs5
  obtain ⟨A5, c5, rfl, hc5, hb5⟩ := byt_one hB5
  obtain ⟨v6, w6, hbs6, hB6, hk6⟩ := run_bs1 6 w5
  change (sliceRow 35 1 #[(0, .int .u8 6)]).run Try.prog w5 = _ at hbs6
  obtain ⟨A6, c6, rfl, hc6, hb6⟩ := byt_one hB6
  have hsl := run_six_bsl A1 A2 A3 A4 A5 A6 c1 c2 c3 c4 c5 c6 w6
  have hk7 : Kept w6 (w6.alloc (.cells (sixV A1 A2 A3 A4 A5 A6 c1 c2 c3 c4 c5 c6) 35)) := (Upd.refl _ w6).alloc _
  have t6 := hk6.then hk7 (fun _ _ h => h)
  have t5 := hk5.then t6 (fun _ _ h => h)
  have t4 := hk4.then t5 (fun _ _ h => h)
  have t3 := hk3.then t4 (fun _ _ h => h)
  have t2 := hk2.then t3 (fun _ _ h => h)
  have t1 := hk1.then t2 (fun _ _ h => h)
  have s1 := hk1.size
  have s2 := hk2.size
  have s3 := hk3.size
  have s4 := hk4.size
  have s5 := hk5.size
  have s6 := hk6.size
  have HF : Hid (OwnLv (w6.alloc (.cells (sixV A1 A2 A3 A4 A5 A6 c1 c2 c3 c4 c5 c6) 35)) w.heap.size (.slice (some ⟨w6.heap.size, 0, none⟩) 6 6) [(⟨A1, 1, c1⟩, [1]), (⟨A2, 1, c2⟩, [2]), (⟨A3, 1, c3⟩, [3]), (⟨A4, 1, c4⟩, [4]), (⟨A5, 1, c5⟩, [5]), (⟨A6, 1, c6⟩, [6])] ∧ Kept w (w6.alloc (.cells (sixV A1 A2 A3 A4 A5 A6 c1 c2 c3 c4 c5 c6) 35))) := by
    refine ⟨⟨⟨rfl, .inr ⟨w6.heap.size, 6, sixV A1 A2 A3 A4 A5 A6 c1 c2 c3 c4 c5 c6, rfl, by omega, heap_alloc_new w6 _, Nat.le_refl _, by unfold maxLen; omega, rfl, rfl⟩⟩, fun p hp => ?_⟩, t1⟩
    simp only [List.mem_cons, List.not_mem_nil, or_false] at hp
    rcases hp with rfl | rfl | rfl | rfl | rfl | rfl
    · exact ⟨(hB1.kept t2), by simp⟩
    · exact ⟨(hB2.kept t3).low (by omega), by simp⟩
    · exact ⟨(hB3.kept t4).low (by omega), by simp⟩
    · exact ⟨(hB4.kept t5).low (by omega), by simp⟩
    · exact ⟨(hB5.kept t6).low (by omega), by simp⟩
    · exact ⟨(hB6.kept hk7).low (by omega), by simp⟩
  clear hB1 hB2 hB3 hB4 hB5 hB6 hk1 hk2 hk3 hk4 hk5 hk6 hk7 t1 t2 t3 t4 t5 t6 s1 s2 s3 s4 s5 s6 hb1 hb2 hb3 hb4 hb5 hb6
  go_enter Try.func62, Try.ntmps62
  go_wp2
  go_ret
  exact ⟨_, rfl, _, rfl, HF.out⟩
end Go.Proofs.Ytnncpjekcljfbaa
/- works: the chapter's tree. -/
namespace Go.Proofs.Ytnncpjekcljfbaa
open Go.RowKit

attribute [local irreducible] wpOrd
/-- a proof in memory, whatever else turns -/
def PrfAt (W : World) (B : Nat) (A : Option Addr) (l : List (SlC × List Dig)) : Prop := ∀ (S : Nat → Prop) (W' : World), Upd S W W' → (∀ k, B ≤ k → (∃ cs t', W.heap[k]? = some (.cells cs t' (0, 0)) ∧ t' ≠ 125) → ¬ S k) → ProofAt W' A l
theorem PrfAt.upd {W W' : World} {B : Nat} {A : Option Addr} {l : List (SlC × List Dig)} {S : Nat → Prop} (h : PrfAt W B A l) (hu : Upd S W W') (hs : ∀ k, B ≤ k → (∃ cs t', W.heap[k]? = some (.cells cs t' (0, 0)) ∧ t' ≠ 125) → ¬ S k) : PrfAt W' B A l :=
  fun S' W'' hu' hs' => h (fun k => S k ∨ S' k) W'' ((hu.mono fun _ _ e => .inl e).trans (hu'.mono fun _ _ e => .inr e)) fun k hk hb e => by
    have h1 := hs k hk hb
    obtain ⟨cs, t', hc, ht⟩ := hb
    exact e.elim h1 (hs' k hk ⟨cs, t', hu.heap hc h1, ht⟩)
theorem PrfAt.kept {W W' : World} {B : Nat} {A : Option Addr} {l : List (SlC × List Dig)} (h : PrfAt W B A l) (hu : Kept W W') : PrfAt W' B A l := h.upd hu fun _ _ _ => id
theorem PrfAt.book {W W' : World} {B : Nat} {A : Option Addr} {l : List (SlC × List Dig)} (h : PrfAt W B A l) {b r q : Nat} {L : List Bytes} (hb : BookL W b r q L) (hu : Upd (Book3 b r q) W W') : PrfAt W' B A l :=
  h.upd hu fun _ _ ⟨_, _, hc, ht⟩ => hb.not hc ht
theorem PrfAt.proof {W : World} {B : Nat} {A : Option Addr} {l : List (SlC × List Dig)} (h : PrfAt W B A l) : ProofAt W A l := h _ W (Upd.refl (fun _ => False) W) fun _ _ _ => id
theorem OwnP.proofs {W : World} {B : Nat} {v : Value} {P : List (List Dig)} (h : OwnP W B v P) : ∃ A c l, v = .slice A P.length c ∧ P.length ≤ c ∧ l.map (·.2) = P ∧ PrfAt W B A l := by
  obtain ⟨xs, h1, h2, h3⟩ := h
  have hm : (xs.zip P).map (·.2) = P := by rw [List.map_snd_zip]; omega
  have hl : (xs.zip P).length = xs.length := by rw [List.length_zip]; omega
  have hc : ∃ A c, v = .slice A P.length c ∧ P.length ≤ c := by
    rcases h1.2 with ⟨rfl, h0⟩ | ⟨g, cap, cur, rfl, hb, hg, e1, e2, e3, e4⟩
    · exact ⟨_, _, by rw [← h2, h0], by omega⟩
    · exact ⟨_, _, by rw [h2], by omega⟩
  obtain ⟨A, c, rfl, hcl⟩ := hc
  refine ⟨A, c, xs.zip P, rfl, hcl, hm, fun S W' hu hs i hi => ?_⟩
  have h1' := OwnRows.upd h1 hu (fun k e => by
    obtain ⟨cur, hc⟩ := own_cells h1 e
    exact hs k (World.ownsRow.lt h1 k e).1 ⟨_, _, hc, by decide⟩)
  have hix : i < xs.length := by omega
  have hip : i < P.length := by omega
  have h3' := OwnRows.upd (h3 i hix hip) hu (fun k e => by
    obtain ⟨cur, hc⟩ := own_cells (h3 i hix hip) e
    exact hs k (World.ownsRow.lt (h3 i hix hip) k e).1 ⟨_, _, hc, by decide⟩)
  obtain ⟨g, c2, hv, hg1, hg2, _⟩ := OwnRows.get slA_size h1' hix
  simp only [Value.slice.injEq] at hv
  obtain ⟨rfl, -, -⟩ := hv
  have hcell := World.ownsRow.cells h1' (g := g) rfl i xs[i].v (by
    have := rowsOf_get slA_size xs i 0 hix (by omega)
    rw [Nat.mul_one, Nat.add_zero] at this
    rw [this]; rfl)
  have e : (xs.zip P)[i] = (xs[i], P[i]) := List.getElem_zip
  rw [e]
  obtain ⟨A2, c2, hx, hle, hd⟩ := OwnD.digs h3'
  refine ⟨g, 0, rfl, by rw [add_none, Nat.zero_add] at hcell; rw [Nat.zero_add]; exact hcell, ?_⟩
  generalize xs[i] = x at *
  obtain ⟨xA, xn, xc⟩ := x
  simp only [SlC.v, Value.slice.injEq] at hx
  obtain ⟨rfl, rfl, rfl⟩ := hx
  exact ⟨hd, rfl, hle⟩

/-- a tree, its root in a variable, a proof -/
structure WkS (w W : World) (b r q lo hi t g B : Nat) (L ls : List Bytes) (d : Dig) (A : Option Addr) (l : List (SlC × List Dig)) : Prop where
  made : Made w W b r q lo hi t L ls
  dig : Blk W g 46 (encB d.1)
  prf : PrfAt W B A l
section
variable {w W W' : World} {b r q lo hi t g B : Nat} {L L' ls : List Bytes} {d : Dig} {A : Option Addr} {l : List (SlC × List Dig)}
theorem WkS.kept (h : WkS w W b r q lo hi t g B L ls d A l) (hu : Kept W W') : WkS w W' b r q lo hi t g B L ls d A l := ⟨h.made.kept hu, h.dig.kept hu, h.prf.kept hu⟩
theorem WkS.to (h : WkS w W b r q lo hi t g B L ls d A l) (hb : BookL W' b r q L') (hs : ∀ x ∈ L, x ∈ L') (hu : Upd (Book3 b r q) W W') : WkS w W' b r q lo hi t g B L' ls d A l :=
  ⟨h.made.to hb hs hu, h.dig.upd hu (h.made.ink.book.not h.dig (by decide)), h.prf.book h.made.ink.book hu⟩
theorem WkS.far (h : WkS w W b r q lo hi t g B L ls d A l) (hu : Upd (Book3 b r q) W W') : ProofAt W' A l := (h.prf.book h.made.ink.book hu).proof
end
theorem noted_more {L N : List Bytes} {x : Bytes} : ∀ y ∈ L, y ∈ notesM (noteM L x) N := fun _ hy => mem_notesM.2 (.inl (mem_noteM.2 (.inl hy)))
theorem sixLev0 : (levelsM shaM sixD)[0]? = some sixD := by
  obtain ⟨tl, h1, _⟩ := levelsM_head sixD
  rw [h1]; rfl
theorem sixLev1 : (levelsM shaM sixD)[1]? = some (aboveM shaM sixD) := by
  obtain ⟨tl, h1, h2, _⟩ := levelsM_head sixD
  rw [h1, h2 (by rw [sixD_length]; omega)]
  obtain ⟨tl2, h3, _⟩ := levelsM_head (aboveM shaM sixD)
  rw [h3]; rfl
theorem bytesL_six {l : List (SlC × Bytes)} (h : l.map (·.2) = six) : bytesL l = six := by
  have h1 : bytesL l = ((l.map (·.2)).take 40).map (fun R => R.take 100) := by rw [bytesL, ← List.map_take, List.map_map]; rfl
  rw [h1, h]; rfl

set_option maxHeartbeats 3000000 in
set_option maxRecDepth 20000 in
theorem law_works10 (w : World) : Calls Try.prog 46 #[] w fun e W => e = .returned (.bool true) ∧ Kept w W := by
  go_enter Try.func46, Try.ntmps46
  go_wp2_with fail
  refine (law_book w).mono ?_
  rintro e w1 ⟨b, r, q, rfl, hI⟩
  have HI := Lib.hid hI
  clear hI
  go_wp2_with fail
  refine (law_six w1).mono ?_
  rintro e w2 ⟨A, rfl, l, hl, hlv, hu2⟩
  have hl6 : l.length = 6 := by have := congrArg List.length hl; simpa [six] using this
  have HG := bastidelaw10_made (HI.out.kept hu2) (l := l) (A := A) 6 (fun W hW => (hlv.book (HI.out.book.kept hu2) hW).leaves) (by omega) (by omega)
  rw [hl6, bytesL_six hl] at HG
  clear HI hl hlv hu2 hl6
  go_wp2_with fail
  refine HG.mono ?_
  clear HG
  rintro e w3 ⟨t, rfl, lo, hi, L, hM, -, -⟩
  have HM := Lib.hid hM
  clear hM
  go_wp2_with fail
  have HG := tree_Root HM.out.tree
  rw [show six.map (leafM shaM) = sixD from rfl] at HG
  obtain ⟨P, hP, hP2, ⟨pa, pb, hPe, hpa, hpb⟩, hc1, hc2, hc3⟩ := six_facts
  obtain ⟨rt, hrt⟩ : ∃ rt, rt = rootM shaM sixD := ⟨_, rfl⟩
  rw [← hrt] at HG hc1 hc2 hc3
  clear hrt
  have HC1 := Lib.hid hc1
  have HC2 := Lib.hid hc2
  have HC3 := Lib.hid hc3
  clear hc1 hc2 hc3
  replace hPe := Lib.hid hPe
  refine HG.mono ?_
  clear HG
  rintro e w4 ⟨rfl, hu4⟩
  have hd5 : Blk (w4.alloc (.cells (dA rt) 46)) w4.heap.size 46 (encB (rt).1) := Blk.new w4 _ _
  have hk5 : Kept w4 (w4.alloc (.cells (dA rt) 46)) := (Upd.refl _ w4).alloc _
  have H5 := Lib.hid (And.intro ((HM.out.kept hu4).kept hk5) hd5)
  clear HM hu4 hk5 hd5
  have HB := proof_Build H5.out.1.tree 4 (by show 4 < (six.map (leafM shaM)).length; decide)
  rw [show six.map (leafM shaM) = sixD from rfl, sixD_length, depthM6, hP, show ((4 : Nat) : Int) = 4 from rfl] at HB
  go_wp2_with fail
  generalize w4.heap.size = g5 at *
  generalize w4.alloc (.cells (dA rt) 46) = w5 at *
  refine HB.mono ?_
  clear HB
  rintro e w6 ⟨v6, rfl, hv6, hu6⟩
  obtain ⟨PA, pc, lp, rfl, hpc, hlp, hprf⟩ := hv6.proofs
  rw [hP2]
  have HS := Lib.hid (show WkS w w6 b r q lo hi t g5 w5.heap.size L six rt PA lp from ⟨H5.out.1.kept hu6, H5.out.2.kept hu6, hprf⟩)
  clear hv6 hu6 H5 hprf
  have hlp2 : lp.length = 2 := by have := congrArg List.length hlp; rw [List.length_map, hP2] at this; exact this
  have HT := proof_Parts HS.out.made.tree 0 1 (l := sixD) (l1 := aboveM shaM sixD) (by rw [show six.map (leafM shaM) = sixD from rfl]; exact sixLev0) (by rw [show six.map (leafM shaM) = sixD from rfl]; exact sixLev1) (by rw [aboveM_length]; decide)
  rw [show ((0 + 1 : Nat) : Int) = 1 from rfl] at HT
  go_wp2_with fail
  refine HT.mono ?_
  clear HT
  rintro e w7 ⟨v7, rfl, hv7, hu7⟩
  obtain ⟨A7, c7, rfl, -, -⟩ := hv7.digs
  rw [show (group sixD 1).length = 2 from by rw [group_length]; rfl]
  replace HS := Lib.hid (HS.out.kept hu7)
  clear hv7 hu7
  have HP := Lib.hid (show lp.length ≤ pc ∧ lp.length = 2 ∧ lp.map (·.2) = P from ⟨by omega, hlp2, hlp⟩)
  obtain ⟨g0, o0, hPA, hcl0, -, hn0, -⟩ := HS.out.prf.proof 0 (by rw [HP.out.2.1]; omega)
  obtain ⟨g0', o0', hPA', hcl1, -, hn1, -⟩ := HS.out.prf.proof 1 (by rw [HP.out.2.1]; omega)
  have hl0 : lp[0].2.length = 2 := by
    have h1 := congrArg (·[0]?) HP.out.2.2
    simp only [List.getElem?_map, List.getElem?_eq_getElem (show 0 < lp.length by rw [HP.out.2.1]; omega), hPe.out] at h1
    simp at h1; rw [h1]; exact hpa
  have hl1 : lp[1].2.length = 2 := by
    have h1 := congrArg (·[1]?) HP.out.2.2
    simp only [List.getElem?_map, List.getElem?_eq_getElem (show 1 < lp.length by rw [HP.out.2.1]; omega), hPe.out] at h1
    simp at h1; rw [h1]; exact hpb
  rw [SlC.v_eq, hn0, hl0] at hcl0
  rw [SlC.v_eq, hn1, hl1] at hcl1
  rw [hPA] at hPA'
  simp only [Option.some.injEq, Addr.mk.injEq, and_true] at hPA'
  obtain ⟨rfl, rfl⟩ := hPA'
  generalize lp[0].1 = x0 at *
  generalize lp[1].1 = x1 at *
  obtain ⟨xa0, xn0, xc0⟩ := x0
  obtain ⟨xa1, xn1, xc1⟩ := x1
  simp only [Nat.add_zero] at hcl0 hcl1
  subst hPA
  clear hn0 hn1 hl0 hl1 hPe hP hP2 hpa hpb hlp2 hlp hpc
  obtain ⟨v8, w7b, hbs8, hB8, hk8⟩ := run_bs1 5 w7
  change (sliceRow 35 1 #[(0, .int .u8 5)]).run Try.prog w7 = _ at hbs8
  obtain ⟨A8, c8, rfl, hc8, hb8⟩ := byt_one hB8
  obtain ⟨p8, q8⟩ := dig_at HS.out.dig
  replace HS := Lib.hid (HS.out.kept hk8)
  have HG := proof_Check (R := [5]) HS.out.made.ink.book rt 6 4 (by omega) (by omega) c8 hb8 (by simp) (P := lp) pc HP.out.1 (fun W hW => HS.out.far hW) (by rw [HP.out.2.1]; omega) P HP.out.2.2
  rw [if_pos HC1.out, HP.out.2.1, show (([5] : Bytes)).length = 1 from rfl, show ((6 : Nat) : Int) = 6 from rfl, show ((4 : Nat) : Int) = 4 from rfl] at HG
  clear hB8 hk8 hc8 hb8
  go_wp2_with fail
  refine HG.mono ?_
  clear HG
  rintro e w8 ⟨rfl, hb, hu⟩
  replace HS := Lib.hid (HS.out.to hb noted_more hu)
  clear hb hu p8 q8 hbs8
  obtain ⟨v9, w8b, hbs9, hB9, hk9⟩ := run_bs1 6 w8
  change (sliceRow 35 1 #[(0, .int .u8 6)]).run Try.prog w8 = _ at hbs9
  obtain ⟨A9, c9, rfl, hc9, hb9⟩ := byt_one hB9
  obtain ⟨p9, q9⟩ := dig_at HS.out.dig
  replace HS := Lib.hid (HS.out.kept hk9)
  have HG := proof_Check (R := [6]) HS.out.made.ink.book rt 6 4 (by omega) (by omega) c9 hb9 (by simp) (P := lp) pc HP.out.1 (fun W hW => HS.out.far hW) (by rw [HP.out.2.1]; omega) P HP.out.2.2
  rw [if_neg HC2.out, HP.out.2.1, show (([6] : Bytes)).length = 1 from rfl, show ((6 : Nat) : Int) = 6 from rfl, show ((4 : Nat) : Int) = 4 from rfl] at HG
  clear hB9 hk9 hc9 hb9
  go_wp2_with fail
  refine HG.mono ?_
  clear HG
  rintro e w9 ⟨rfl, hb, hu⟩
  replace HS := Lib.hid (HS.out.to hb noted_more hu)
  clear hb hu p9 q9 hbs9
  obtain ⟨v10, w9b, hbs10, hB10, hk10⟩ := run_bs1 5 w9
  change (sliceRow 35 1 #[(0, .int .u8 5)]).run Try.prog w9 = _ at hbs10
  obtain ⟨A10, c10, rfl, hc10, hb10⟩ := byt_one hB10
  obtain ⟨p10, q10⟩ := dig_at HS.out.dig
  replace HS := Lib.hid (HS.out.kept hk10)
  have HG := proof_Check (R := [5]) HS.out.made.ink.book rt 6 3 (by omega) (by omega) c10 hb10 (by simp) (P := lp) pc HP.out.1 (fun W hW => HS.out.far hW) (by rw [HP.out.2.1]; omega) P HP.out.2.2
  rw [if_neg HC3.out, HP.out.2.1, show (([5] : Bytes)).length = 1 from rfl, show ((6 : Nat) : Int) = 6 from rfl, show ((3 : Nat) : Int) = 3 from rfl] at HG
  clear hB10 hk10 hc10 hb10
  go_wp2_with fail
  refine HG.mono ?_
  clear HG
  rintro e w10 ⟨rfl, hb, hu⟩
  replace HS := Lib.hid (HS.out.to hb noted_more hu)
  clear hb hu p10 q10 hbs10
  go_wp2
  go_ret
  exact ⟨rfl, HS.out.made.ink.upd⟩
end Go.Proofs.Ytnncpjekcljfbaa
