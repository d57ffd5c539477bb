/- The texts of this hand-in, merged: RefJ RefK. -/
import Derived.Test.YtnncpjekcljfbaaSetG
/- The document's Check; both, of all claims. -/
namespace Go.Proofs.Ytnncpjekcljfbaa
open Go.RowKit

attribute [local irreducible] wpOrd
theorem ref_Check_arg {w : World} {p : Option Addr} (root : Dig) (n i : Int) (x v : Value) (hn : n < 1 ∨ 1024 < n) :
    Calls Try.prog 54 #[.pointer p, .agg (dA root), .int .i64 n, .int .i64 i, x, v] w fun e W => e = .returned (.int .i64 2) ∧ Kept w W := by
  by_cases h0 : n < 1
  · have d0 : decide (n < 1) = true := decide_eq_true h0
    clear hn h0
    have hd1 : Blk (w.alloc (.cells (dA root) 46)) w.heap.size 46 (encB (root).1) := Blk.new w _ _
    have hk1 : Kept w (w.alloc (.cells (dA root) 46)) := (Upd.refl _ w).alloc _
    clear hd1
    go_enter Try.func54, Try.ntmps54
    go_wp2_with fail
    go_ret
    exact ⟨rfl, hk1⟩
  · have d0 : decide (n < 1) = false := decide_eq_false h0
    have d1 : decide (1024 < n) = true := decide_eq_true (by omega)
    clear hn h0
    have hd1 : Blk (w.alloc (.cells (dA root) 46)) w.heap.size 46 (encB (root).1) := Blk.new w _ _
    have hk1 : Kept w (w.alloc (.cells (dA root) 46)) := (Upd.refl _ w).alloc _
    clear hd1
    go_enter Try.func54, Try.ntmps54
    go_wp2_with fail
    go_ret
    exact ⟨rfl, hk1⟩
theorem ref_Check_range {w : World} {p : Option Addr} (root : Dig) (n i : Int) (x v : Value) (hn : 1 ≤ n) (hn2 : n ≤ 1024) (hi : i < 0 ∨ n ≤ i) :
    Calls Try.prog 54 #[.pointer p, .agg (dA root), .int .i64 n, .int .i64 i, x, v] w fun e W => e = .returned (.int .i64 9) ∧ Kept w W := by
  have d0 : decide (n < 1) = false := decide_eq_false (by omega)
  have d1 : decide (1024 < n) = false := decide_eq_false (by omega)
  by_cases h0 : i < 0
  · have d2 : decide (i < 0) = true := decide_eq_true h0
    clear hi h0 hn hn2
    have hd1 : Blk (w.alloc (.cells (dA root) 46)) w.heap.size 46 (encB (root).1) := Blk.new w _ _
    have hk1 : Kept w (w.alloc (.cells (dA root) 46)) := (Upd.refl _ w).alloc _
    clear hd1
    go_enter Try.func54, Try.ntmps54
    go_wp2_with fail
    go_ret
    exact ⟨rfl, hk1⟩
  · have d2 : decide (i < 0) = false := decide_eq_false h0
    have d3 : decide (n ≤ i) = true := decide_eq_true (by omega)
    clear hi h0 hn hn2
    have hd1 : Blk (w.alloc (.cells (dA root) 46)) w.heap.size 46 (encB (root).1) := Blk.new w _ _
    have hk1 : Kept w (w.alloc (.cells (dA root) 46)) := (Upd.refl _ w).alloc _
    clear hd1
    go_enter Try.func54, Try.ntmps54
    go_wp2_with fail
    go_ret
    exact ⟨rfl, hk1⟩
theorem ref_Check_no {w : World} {p : Option Addr} (root y : Dig) (n i : Int) (x v : Value) (hn : 1 ≤ n) (hn2 : n ≤ 1024) (hi : 0 ≤ i) (hi2 : i < n) {z : Int} (hz : z ≠ 0)
    (hL : ∀ w1, Kept w w1 → Calls Try.prog 44 #[.pointer p, x] w1 fun e W => e = .returned (.tuple #[.agg (dA y), .int .i64 z]) ∧ Kept w1 W) :
    Calls Try.prog 54 #[.pointer p, .agg (dA root), .int .i64 n, .int .i64 i, x, v] w fun e W => e = .returned (.int .i64 z) ∧ Kept w W := by
  have d0 : decide (n < 1) = false := decide_eq_false (by omega)
  have d1 : decide (1024 < n) = false := decide_eq_false (by omega)
  have d2 : decide (i < 0) = false := decide_eq_false (by omega)
  have d3 : decide (n ≤ i) = false := decide_eq_false (by omega)
  have hz1 : ¬ (z = 0) := hz
  have hz2 : (z == 0) = false := by simpa using hz
  have HG := hL _ ((Upd.refl _ w).alloc (.cells (dA root) 46))
  clear hn hn2 hi hi2 hL
  have hd1 : Blk (w.alloc (.cells (dA root) 46)) w.heap.size 46 (encB (root).1) := Blk.new w _ _
  have hk1 : Kept w (w.alloc (.cells (dA root) 46)) := (Upd.refl _ w).alloc _
  clear hd1
  go_enter Try.func54, Try.ntmps54
  go_wp2_with fail
  refine HG.mono ?_
  clear HG
  rintro e w2 ⟨rfl, hu⟩
  have HF := Lib.hid (show Kept w (w2.alloc (.cells (dA y) 46)) from (hk1.then hu (fun _ _ h => h)).alloc _)
  clear hk1 hu
  go_wp2
  go_ret
  exact ⟨rfl, HF.out⟩

/-- what the document's Check keeps -/
structure RChk (w W : World) (B b : Nat) (v v' : Value) (n' : Int) (xs' : List SlC) (L' : List Bytes) (g0 g1 : Nat) (root d : Dig) : Prop where
  book : RefBook W B b v' n' xs' L'
  root : Blk W g0 46 (encB root.1)
  dig : Blk W g1 46 (encB d.1)
  to : RTo b v w v' W
  l0 : w.heap.size ≤ g0
  l1 : w.heap.size ≤ g1
  ne : g0 ≠ g1
  lB : B ≤ w.heap.size
section
variable {w W W' : World} {B b g0 g1 : Nat} {v v' v'' : Value} {n' n'' : Int} {xs' xs'' : List SlC} {L' L'' : List Bytes} {root d : Dig}
theorem RChk.kept (h : RChk w W B b v v' n' xs' L' g0 g1 root d) (hu : Kept W W') : RChk w W' B b v v' n' xs' L' g0 g1 root d :=
  ⟨h.book.kept hu, h.root.kept hu, h.dig.kept hu, h.to.trans (RTo.kept hu), h.l0, h.l1, h.ne, h.lB⟩
theorem RChk.step (h : RChk w W B b v v' n' xs' L' g0 g1 root d) (hb : RefBook W' B b v'' n'' xs'' L'') (ht : RTo b v' W v'' W') : RChk w W' B b v v'' n'' xs'' L'' g0 g1 root d :=
  ⟨hb, h.root.upd ht.1 (h.book.far h.root (by decide) (by decide)), h.dig.upd ht.1 (h.book.far h.dig (by decide) (by decide)), h.to.trans ht, h.l0, h.l1, h.ne, h.lB⟩
theorem RChk.turn (h : RChk w W B b v v' n' xs' L' g0 g1 root d) (x : Dig) : rowB W g1 32 = true ∧ RChk w (W.setRow g1 (dA x)) B b v v' n' xs' L' g0 g1 root x := by
  have hu : Upd (fun i => i = g1) W (W.setRow g1 (dA x)) := (Upd.refl _ _).setRow _ _ fun _ => rfl
  exact ⟨rowB_of (show W.heap[g1]? = some (.cells (encB d.1).toArray 46 (0, 0)) from h.dig) (by simp [encB_length, d.2]),
    h.book.turn h.dig (by decide) (by decide) (by decide) hu, h.root.upd hu (fun e => h.ne e), h.dig.setRow _, h.to.setRow _ h.l1 _ h.dig (by decide), h.l0, h.l1, h.ne, h.lB⟩
end
theorem climb_short (n i : Nat) (d : Dig) (h : n ≠ 1) : climb n i d [] = none := (climb_nil n i d).trans (if_neg h)
theorem climb_at {n i : Nat} {d : Dig} {l : List Dig} {p : List (List Dig)} (h : n ≠ 1) : climb n i d (l :: p) = if l.length = min 4 (n - i + i % 4) ∧ l[i % 4]? = some d then climb (up4 n) (i / 4) (upM shaM l) p else none := by rw [climb, if_neg h]

set_option maxHeartbeats 3000000 in
set_option maxRecDepth 20000 in
theorem ref_Check {w : World} {B b : Nat} {v : Value} {n0 : Int} {xs : List SlC} {L : List Bytes} (h : RefBook w B b v n0 xs L) (hB : B ≤ w.heap.size) (hcnt : L.length ≤ 1000) (root : Dig) (n i : Nat) (hn : n ≤ 1024) (hi : i < n) {A : Option Addr} {R : Bytes} (c : Nat) (hR : Byt w A R) (hl : R.length < 65536)
    {PA : Option Addr} {P : List (SlC × List Dig)} (pc : Nat) (hP : ∀ W v', RTo b v w v' W → ProofAt W PA P) (hPl : P.length ≤ 140737488351232) (P0 : List (List Dig)) (hP0 : P.map (·.2) = P0) :
    Calls Try.prog 54 #[.pointer (some ⟨b, 0, none⟩), .agg (dA root), .int .i64 n, .int .i64 i, .slice A R.length c, .slice PA P.length pc] w fun e W => e = .returned (.int .i64 (if climb n i (leafM shaM R) P0 = some root then 0 else 100)) ∧ ∃ v' n' xs' L', RefBook W B b v' n' xs' L' ∧ RTo b v w v' W := by
  obtain ⟨zz, hzz⟩ : ∃ zz : Int, zz = (if climb n i (leafM shaM R) P0 = some root then 0 else 100) := ⟨_, rfl⟩
  rw [← hzz]
  have HZZ := Lib.hid hzz
  clear hzz
  have hd1 : Blk (w.alloc (.cells (dA root) 46)) w.heap.size 46 (encB (root).1) := Blk.new w _ _
  have hk1 : Kept w (w.alloc (.cells (dA root) 46)) := (Upd.refl _ w).alloc _
  have HG := ref_Leaf (h.kept hk1) (Nat.le_trans hB hk1.size) c (hR.kept hk1) hl (by omega)
  have HX := Lib.hid (And.intro (h.kept hk1) (And.intro hd1 (And.intro hk1 (And.intro hP (And.intro hP0 (And.intro hn (And.intro hi (And.intro hB (And.intro hPl hcnt)))))))))
  have d0 : decide ((n : Int) < 1) = false := decide_eq_false (by omega)
  have d0n : decide (n < 1) = false := decide_eq_false (by omega)
  have d1 : decide ((1024 : Int) < (n : Int)) = false := decide_eq_false (by omega)
  have d1n : decide (1024 < n) = false := decide_eq_false (by omega)
  have d2 : decide ((i : Int) < 0) = false := decide_eq_false (by omega)
  have d3 : decide ((n : Int) ≤ (i : Int)) = false := decide_eq_false (by omega)
  have d3n : decide (n ≤ i) = false := decide_eq_false (by omega)
  clear h hR hl hd1 hk1 hn hi hB hP hPl hP0 hcnt
  obtain ⟨pl, hpl⟩ : ∃ pl, pl = P.length := ⟨_, rfl⟩
  rw [← hpl]
  have HPL := Lib.hid (And.intro hpl (show pl ≤ 140737488351232 by rw [hpl]; exact HX.out.2.2.2.2.2.2.2.2.1))
  clear hpl
  go_enter Try.func54, Try.ntmps54
  go_wp2_with fail
  refine HG.mono ?_
  clear HG
  rintro e w2 ⟨rfl, v2, n2, xs2, hb2, ht2⟩
  obtain ⟨y, hy⟩ : ∃ y, y = leafM shaM R := ⟨_, rfl⟩
  rw [← hy]
  have hd3 : Blk (w2.alloc (.cells (dA y) 46)) w2.heap.size 46 (encB (y).1) := Blk.new w2 _ _
  have hk3 : Kept w2 (w2.alloc (.cells (dA y) 46)) := (Upd.refl _ w2).alloc _
  have hS : RChk w (w2.alloc (.cells (dA y) 46)) B b v v2 n2 xs2 (noteM L (leafIn R)) w.heap.size w2.heap.size root y :=
    ⟨hb2.kept hk3, (HX.out.2.1.upd ht2.1 (HX.out.1.far HX.out.2.1 (by decide) (by decide))).kept hk3, hd3, ((RTo.kept HX.out.2.2.1).trans ht2).alloc _, Nat.le_refl _, Nat.le_trans HX.out.2.2.1.size ht2.1.size, fun e => by have := HX.out.2.1.lt; have := ht2.1.size; omega, HX.out.2.2.2.2.2.2.2.1⟩
  have HS := Lib.hid (And.intro hS (noteM_length (L := L) (R := leafIn R)))
  have HY := Lib.hid hy
  clear hb2 ht2 hd3 hk3 hS hy
  go_wp2_with fail
  clear d0 d0n d1 d1n d2 d3 d3n
  generalize w2.heap.size = g1 at *
  generalize w.heap.size = g0 at *
  generalize w2.alloc (.cells (dA y) 46) = w3 at *
  go_loopw [15, 3, 16] (fun u x t wr => ∃ (many i' a : Nat) (d : Dig) (v' : Value) (n' : Int) (xs' : List SlC) (L' : List Bytes), u = .int .i64 many ∧ x = .int .i64 i' ∧ t = .int .i64 a ∧ a ≤ pl ∧ i' < many ∧ many ≤ 1024 ∧ L'.length + many ≤ L.length + 1 + n ∧
      climb n i (leafM shaM R) P0 = climb many i' d (P0.drop a) ∧ RChk w wr B b v v' n' xs' L' g0 g1 root d) (fun u _ _ _ => (intOf u).toNat)
  case atStart =>
    exact ⟨n, i, 0, y, v2, n2, xs2, _, rfl, rfl, rfl, Nat.zero_le _, HX.out.2.2.2.2.2.2.1, HX.out.2.2.2.2.2.1, by have := HS.out.2; omega, by rw [HY.out, List.drop_zero], HS.out.1⟩
  case round =>
    clear HS
    obtain ⟨many, i', a, d, v', n', xs', L', rfl, rfl, rfl, hap, hi, hm, hcn, hc1, hS⟩ := hrel
    have HS := Lib.hid hS
    clear hS
    have hpl0 : P0.length = pl := by rw [← HX.out.2.2.2.2.1, List.length_map, HPL.out.1]
    have hplb := HPL.out.2
    have a5 : (a : Int) ≤ 140737488351232 := by omega
    by_cases hm1 : many = 1
    · subst hm1
      by_cases ha : a = pl
      · subst ha
        have hcl : climb n i (leafM shaM R) P0 = some d := by rw [hc1, List.drop_eq_nil_of_le (by omega), climb_nil, if_pos rfl]
        obtain ⟨p1, p2⟩ := dig_at HS.out.root
        obtain ⟨p3, p4⟩ := dig_at HS.out.dig
        have HF : Hid (∃ v' n' xs' L', RefBook wr B b v' n' xs' L' ∧ RTo b v w v' wr) := ⟨_, _, _, _, HS.out.book, HS.out.to⟩
        by_cases hd : d = root
        · have HZ := Lib.hid (show zz = 0 by rw [HZZ.out, hcl, hd]; exact if_pos rfl)
          subst hd
          clear HS hap hi hm hcn hc1 hcl hpl0 hplb HZZ
          go_wp2
          go_ret
          exact ⟨by rw [HZ.out]; rfl, HF.out⟩
        · have HZ := Lib.hid (show zz = 100 by rw [HZZ.out, hcl]; exact if_neg (fun e => hd (Option.some.inj e)))
          have hdd : decide (d = root) = false := decide_eq_false hd
          clear HS hap hi hm hcn hc1 hcl hpl0 hplb hd HZZ
          go_wp2
          go_ret
          exact ⟨by rw [HZ.out]; rfl, HF.out⟩
      · have hcl : climb n i (leafM shaM R) P0 = none := by
          rw [hc1]
          cases hd : P0.drop a with
          | nil => have := congrArg List.length hd; rw [List.length_drop] at this; simp at this; omega
          | cons l t => exact climb_one _ _ _ _
        have HZ := Lib.hid (show zz = 100 by rw [HZZ.out, hcl]; exact if_neg (by simp))
        have HF : Hid (∃ v' n' xs' L', RefBook wr B b v' n' xs' L' ∧ RTo b v w v' wr) := ⟨_, _, _, _, HS.out.book, HS.out.to⟩
        have h1 : ¬ ((a : Int) = (pl : Int)) := by omega
        have h2 : ((a : Int) == (pl : Int)) = false := by simp; omega
        clear HS hap hi hm hcn hc1 hcl hpl0 hplb ha HZZ
        go_wp2
        go_ret
        exact ⟨by rw [HZ.out]; rfl, HF.out⟩
    · have hm2 : (1 : Int) < (many : Int) := by omega
      have hm2n : 1 < many := by omega
      by_cases ha : a = pl
      · subst ha
        have hcl : climb n i (leafM shaM R) P0 = none := by rw [hc1, List.drop_eq_nil_of_le (by omega), climb_short _ _ _ hm1]
        have HZ := Lib.hid (show zz = 100 by rw [HZZ.out, hcl]; exact if_neg (by simp))
        have HF : Hid (∃ v' n' xs' L', RefBook wr B b v' n' xs' L' ∧ RTo b v w v' wr) := ⟨_, _, _, _, HS.out.book, HS.out.to⟩
        clear HS hap hi hm hcn hc1 hcl hpl0 hplb HZZ hm1
        go_wp2
        go_ret
        exact ⟨by rw [HZ.out]; rfl, HF.out⟩
      · have haP : a < P.length := by rw [← HPL.out.1]; omega
        have hd1 : decide ((pl : Int) ≤ (a : Int)) = false := decide_eq_false (by omega)
        have hd1n : decide (pl ≤ a) = false := decide_eq_false (by omega)
        have hapl : (a : Int) < (pl : Int) := by omega
        have hapln : a < pl := by omega
        obtain ⟨bb, off, hA, hcell, hdg, hnn, hcc⟩ := (HX.out.2.2.2.1 wr v' HS.out.to) a haP
        have hdr : P0.drop a = P[a].2 :: P0.drop (a + 1) := by
          rw [← HX.out.2.2.2.2.1, List.drop_eq_getElem_cons (by rw [List.length_map]; exact haP), List.getElem_map]
        rw [hdr, climb_at hm1] at hc1
        clear hdr
        generalize P[a] = p at *
        obtain ⟨⟨A2, ln, c2⟩, D⟩ := p
        simp only [SlC.v_eq] at hcell hnn hdg hcc hc1
        subst hA
        obtain ⟨m, hmm⟩ : ∃ m, m = i' % 4 := ⟨_, rfl⟩
        obtain ⟨j4, hj4⟩ : ∃ j4, j4 = i' / 4 := ⟨_, rfl⟩
        obtain ⟨f, hf⟩ : ∃ f, f = j4 * 4 := ⟨_, rfl⟩
        obtain ⟨z, hz⟩ : ∃ z : Nat, z = many - f := ⟨_, rfl⟩
        obtain ⟨x, hx⟩ : ∃ x, x = min 4 z := ⟨_, rfl⟩
        rw [show many - i' + i' % 4 = z by omega, ← hx, ← hmm, ← hj4] at hc1
        have e1 : (i' : Int) % 4 = (m : Int) := by omega
        have e1t : Int.tmod (i' : Int) 4 = (m : Int) := by rw [Int.tmod_eq_emod_of_nonneg (by omega)]; omega
        have e2 : (i' : Int) / 4 = (j4 : Int) := by omega
        have e3 : (j4 : Int) * 4 = (f : Int) := by omega
        have e4 : (many : Int) - (f : Int) = (z : Int) := by omega
        have ew1 : IntKind.i64.wrap (f : Int) = (f : Int) := by rw [IntKind.wrap_i64]; omega
        have ew2 : IntKind.i64.wrap (z : Int) = (z : Int) := by rw [IntKind.wrap_i64]; omega
        have e5 : (if (z : Int) < 4 then (z : Int) else 4) = (x : Int) := by split <;> omega
        have e5n : (if z < 4 then (z : Int) else 4) = (x : Int) := by split <;> omega
        have b1 : (i' : Int) ≤ 1024 := by omega
        have b2 : (many : Int) ≤ 1024 := by omega
        have b3 : (z : Int) ≤ 1024 := by omega
        have b4 : (m : Int) ≤ 3 := by omega
        have b6 : (f : Int) ≤ 1024 := by omega
        have b7 : (j4 : Int) ≤ 1024 := by omega
        have hxp : 1 ≤ x ∧ x ≤ 4 ∧ m < x := by omega
        obtain ⟨m4, hm4⟩ : ∃ m4, m4 = up4 many := ⟨_, rfl⟩
        have e6 : ((many : Int) + 3) / 4 = (m4 : Int) := by unfold up4 at hm4; omega
        have HM := Lib.hid (show j4 < m4 ∧ m4 ≤ 1024 ∧ m4 < many by
          have h1 := place_up hi
          have h2 := up4_lt (n := many) (by omega)
          rw [hj4, hm4]
          refine ⟨h1, by omega, h2⟩)
        rw [← hm4] at hc1
        have HN := Lib.hid (And.intro hxp (And.intro hcn (And.intro hapln hplb)))
        have HC := Lib.hid hc1
        have HD := Lib.hid (And.intro hdg hcc)
        have HE6 := Lib.hid e6
        clear hap hi hm hcn hc1 hpl0 hplb hm1 haP hapln hdg hcc hmm hj4 hf hz hx hxp hm4 e6
        by_cases hlx : ln = x
        · subst hlx
          obtain ⟨hlp, hcn, hapl2, -⟩ := HN.out
          have hal : m < D.length := by omega
          obtain ⟨g, o, rfl, s1, s2⟩ := HD.out.1.get hal
          obtain ⟨e, he⟩ : ∃ e, e = D[m] := ⟨_, rfl⟩
          have hge : D[m]? = some e := by rw [List.getElem?_eq_getElem hal, he]
          have hff : ∀ W, Kept wr W → segB W ⟨g, o + m * 32, none⟩ 32 = true ∧ segV W ⟨g, o + m * 32, none⟩ 32 = dA e := fun W hW => by
            obtain ⟨g', o', e2, s3, s4⟩ := (HD.out.1.kept hW).get hal
            simp only [Option.some.injEq, Addr.mk.injEq, and_true] at e2
            obtain ⟨rfl, rfl⟩ := e2
            rw [he]; exact ⟨s3, s4⟩
          have f1 : ∀ W, Kept wr W → segB W ⟨g, o + m * 32, none⟩ 32 = true := fun W hW => (hff W hW).1
          have f2 : ∀ W, Kept wr W → segV W ⟨g, o + m * 32, none⟩ 32 = dA e := fun W hW => (hff W hW).2
          have f3 : ∀ W, Kept wr W → segB W ⟨g1, 0, none⟩ 32 = true := fun W hW => (dig_at (HS.out.dig.kept hW)).1
          have f4 : ∀ W, Kept wr W → segV W ⟨g1, 0, none⟩ 32 = dA d := fun W hW => (dig_at (HS.out.dig.kept hW)).2
          clear hff s1 s2
          have b5 : (m : Int) < (ln : Int) := by omega
          have b5n : m < ln := hlp.2.2
          have HLN := Lib.hid hnn
          clear he hal
          by_cases hed : e = d
          · subst hed
            have HC2 : Hid (climb n i (leafM shaM R) P0 = climb m4 j4 (upM shaM D) (P0.drop (a + 1))) := by
              show _ = _
              rw [HC.out, if_pos ⟨hnn.symm, hge⟩]
            have hwd : Kept wr wr.drew := (Upd.refl _ _).drew
            have HU := ref_Up (HS.out.book.kept hwd) (by have := HS.out.lB; have := HS.out.to.1.size; have := hwd.size; omega) c2 (HD.out.1.kept hwd) (by omega) (by omega) (by have := HX.out.2.2.2.2.2.2.2.2.2; have := HX.out.2.2.2.2.2.1; omega)
            rw [← hnn] at HU
            have HSd := Lib.hid (HS.out.kept hwd)
            obtain ⟨X, hX⟩ : ∃ X, X = upM shaM D := ⟨_, rfl⟩
            rw [← hX] at HU HC2
            have HL := Lib.hid hcn
            clear HC HS HD hge hwd hnn hlp hX hcn hapl2
            go_wp2_with fail
            refine wp_region_ord [(0, true), (1, true), (2, true), (3, true), (4, true), (5, true), (6, true), (7, true), (8, true), (9, true), (10, true), (11, true), (12, true), (13, true), (14, true), (15, true)] (by kernel_rfl) (by kernel_rfl) (Kept wr) (Upd.refl _ _).drew ?_
            simp only [ordOps, List.getD_cons_zero, List.getD_cons_succ]
            iterate 16 (refine wpOrd_held (fun K hK => ?_); go_simp; first | (apply Exists.intro; refine ⟨fun W hW => ?_, hK _ ?_⟩; (go_simp; first | done | exact rfl); clear hK K) | (refine hK _ ?_; clear hK K))
            refine wpOrd_nil ?_
            clear f1 f2 f3 f4
            generalize wr.drew = wd at *
            go_wp2_with fail
            refine HU.mono ?_
            clear HU
            rintro ee we ⟨rfl, v3, n3, xs3, hbe, hte⟩
            have hSe := HSd.out.step hbe hte
            obtain ⟨hrow, hSf⟩ := hSe.turn X
            have HF := Lib.hid hSf
            clear hbe hte hSe hSf HSd
            have e6 := HE6.out
            go_wp2
            go_roundw
            case rel => exact ⟨m4, j4, a + 1, X, v3, n3, xs3, _, by show _ = _; rw [← HE6.out], rfl, by show _ = _; go_num, by have := HN.out; omega, HM.out.1, HM.out.2.1, by have := HL.out; have := noteM_length (L := L') (R := upIn D); have := HM.out; omega, HC2.out, HF.out⟩
            case measure => have := HM.out.2.2; simp [intOf]; omega
          · have hdd : decide (e = d) = false := decide_eq_false hed
            have HZ := Lib.hid (show zz = 100 by
              have hno : ¬ (D.length = ln ∧ D[m]? = some d) := fun e2 => hed (Option.some.inj (hge.symm.trans e2.2))
              rw [HZZ.out, HC.out, if_neg hno]; exact if_neg (by simp))
            have HSd := Lib.hid (HS.out.kept (show Kept wr wr.drew from (Upd.refl _ _).drew))
            have HF : Hid (∃ v' n' xs' L', RefBook wr.drew B b v' n' xs' L' ∧ RTo b v w v' wr.drew) := ⟨_, _, _, _, HSd.out.book, HSd.out.to⟩
            clear HC HS HD HN hge hed hnn hlp HZZ HSd hcn hapl2
            go_wp2_with fail
            refine wp_region_ord [(0, true), (1, true), (2, true), (3, true), (4, true), (5, true), (6, true), (7, true), (8, true), (9, true), (10, true), (11, true), (12, true), (13, true), (14, true), (15, true)] (by kernel_rfl) (by kernel_rfl) (Kept wr) (Upd.refl _ _).drew ?_
            simp only [ordOps, List.getD_cons_zero, List.getD_cons_succ]
            iterate 16 (refine wpOrd_held (fun K hK => ?_); go_simp; first | (apply Exists.intro; refine ⟨fun W hW => ?_, hK _ ?_⟩; (go_simp; first | done | exact rfl); clear hK K) | (refine hK _ ?_; clear hK K))
            refine wpOrd_nil ?_
            clear f1 f2 f3 f4
            go_wp2
            go_ret
            exact ⟨by rw [HZ.out]; rfl, HF.out⟩
        · have hd2 : ¬ ((ln : Int) = (x : Int)) := by omega
          have HZ := Lib.hid (show zz = 100 by
            have hno : ¬ (D.length = x ∧ D[m]? = some d) := fun e => hlx (hnn.trans e.1)
            rw [HZZ.out, HC.out, if_neg hno]; exact if_neg (by simp))
          have HSd := Lib.hid (HS.out.kept (show Kept wr wr.drew from (Upd.refl _ _).drew))
          have HF : Hid (∃ v' n' xs' L', RefBook wr.drew B b v' n' xs' L' ∧ RTo b v w v' wr.drew) := ⟨_, _, _, _, HSd.out.book, HSd.out.to⟩
          clear HC hlx HS HD HN hnn HZZ HSd
          go_wp2_with fail
          refine wp_region_ord [(0, true), (1, true), (2, true), (3, true), (4, true), (5, true), (6, true), (7, true), (8, true), (9, true), (10, true), (11, true), (12, true), (13, true), (14, true), (15, true)] (by kernel_rfl) (by kernel_rfl) (Kept wr) (Upd.refl _ _).drew ?_
          simp only [ordOps, List.getD_cons_zero, List.getD_cons_succ]
          iterate 16 (refine wpOrd_held (fun K hK => ?_); go_simp; first | (apply Exists.intro; refine ⟨fun W hW => ?_, hK _ ?_⟩; (go_simp; first | done | exact rfl); clear hK K) | (refine hK _ ?_; clear hK K))
          refine wpOrd_nil ?_
          go_wp2
          go_ret
          exact ⟨by rw [HZ.out]; rfl, HF.out⟩
end Go.Proofs.Ytnncpjekcljfbaa
/- Check of both, of all claims; what neither book turns. -/
namespace Go.Proofs.Ytnncpjekcljfbaa
open Go.ChangeShapes Go.WideShapes Go.ChangeAt Go.RowKit

def chkZ (root : Dig) (lv lf : Int) (R : Bytes) (P0 : List (List Dig)) : Int := if lv < 1 ∨ 1024 < lv then 2 else if lf < 0 ∨ lv ≤ lf then 9 else if 65536 ≤ R.length then 5 else if climb lv.toNat lf.toNat (leafM shaM R) P0 = some root then 0 else 100
theorem proof_Check_Z {w : World} {b r q : Nat} {L : List Bytes} (h : BookL w b r q L) (root : Dig) (lv lf : Int) {A : Option Addr} {R : Bytes} (c : Nat) (hR : Byt w A R)
    {PA : Option Addr} {P : List (SlC × List Dig)} (pc : Nat) (hpc : P.length ≤ pc) (hP : ∀ W, Upd (Book3 b r q) w W → ProofAt W PA P) (hPl : P.length ≤ 140737488351232) (P0 : List (List Dig)) (hP0 : P.map (·.2) = P0) :
    Calls Try.prog 53 #[.pointer (some ⟨b, 0, none⟩), .agg (dA root), .int .i64 lv, .int .i64 lf, .slice A R.length c, .slice PA P.length pc] w fun e W => e = .returned (.int .i64 (chkZ root lv lf R P0)) ∧ (∃ L', BookL W b r q L') ∧ Upd (Book3 b r q) w W := by
  unfold chkZ
  by_cases h1 : lv < 1 ∨ 1024 < lv
  · rw [if_pos h1]
    exact (proof_Check_arg root lv lf _ _ h1).mono fun e W ⟨he, hu⟩ => ⟨he, ⟨_, h.kept hu⟩, hu.to⟩
  · rw [if_neg h1]
    by_cases h2 : lf < 0 ∨ lv ≤ lf
    · rw [if_pos h2]
      exact (proof_Check_range root lv lf _ _ (by omega) (by omega) h2).mono fun e W ⟨he, hu⟩ => ⟨he, ⟨_, h.kept hu⟩, hu.to⟩
    · rw [if_neg h2]
      by_cases h3 : 65536 ≤ R.length
      · rw [if_pos h3]
        exact (proof_Check_no root dig0 lv lf _ _ (by omega) (by omega) (by omega) (by omega) (z := 5) (by decide) (fun _ _ => tree_Leaf_long c h3)).mono fun e W ⟨he, hu⟩ => ⟨he, ⟨_, h.kept hu⟩, hu.to⟩
      · rw [if_neg h3]
        obtain ⟨n, rfl⟩ : ∃ n : Nat, lv = n := ⟨lv.toNat, by omega⟩
        obtain ⟨i, rfl⟩ : ∃ i : Nat, lf = i := ⟨lf.toNat, by omega⟩
        exact (proof_Check h root n i (by omega) (by omega) c hR (by omega) pc hpc hP hPl P0 hP0).mono fun e W ⟨he, hb, hu⟩ => ⟨he, ⟨_, hb⟩, hu⟩
theorem ref_Check_Z {w : World} {B b : Nat} {v : Value} {n0 : Int} {xs : List SlC} {L : List Bytes} (h : RefBook w B b v n0 xs L) (hB : B ≤ w.heap.size) (hcnt : L.length ≤ 1000) (root : Dig) (lv lf : Int) {A : Option Addr} {R : Bytes} (c : Nat) (hR : Byt w A R)
    {PA : Option Addr} {P : List (SlC × List Dig)} (pc : Nat) (hP : ∀ W v', RTo b v w v' W → ProofAt W PA P) (hPl : P.length ≤ 140737488351232) (P0 : List (List Dig)) (hP0 : P.map (·.2) = P0) :
    Calls Try.prog 54 #[.pointer (some ⟨b, 0, none⟩), .agg (dA root), .int .i64 lv, .int .i64 lf, .slice A R.length c, .slice PA P.length pc] w fun e W => e = .returned (.int .i64 (chkZ root lv lf R P0)) ∧ ∃ v' n' xs' L', RefBook W B b v' n' xs' L' ∧ RTo b v w v' W := by
  unfold chkZ
  by_cases h1 : lv < 1 ∨ 1024 < lv
  · rw [if_pos h1]
    exact (ref_Check_arg root lv lf _ _ h1).mono fun e W ⟨he, hu⟩ => ⟨he, _, _, _, _, h.kept hu, RTo.kept hu⟩
  · rw [if_neg h1]
    by_cases h2 : lf < 0 ∨ lv ≤ lf
    · rw [if_pos h2]
      exact (ref_Check_range root lv lf _ _ (by omega) (by omega) h2).mono fun e W ⟨he, hu⟩ => ⟨he, _, _, _, _, h.kept hu, RTo.kept hu⟩
    · rw [if_neg h2]
      by_cases h3 : 65536 ≤ R.length
      · rw [if_pos h3]
        exact (ref_Check_no root dig0 lv lf _ _ (by omega) (by omega) (by omega) (by omega) (z := 5) (by decide) (fun _ _ => ref_Leaf_long c h3)).mono fun e W ⟨he, hu⟩ => ⟨he, _, _, _, _, h.kept hu, RTo.kept hu⟩
      · rw [if_neg h3]
        obtain ⟨n, rfl⟩ : ∃ n : Nat, lv = n := ⟨lv.toNat, by omega⟩
        obtain ⟨i, rfl⟩ : ∃ i : Nat, lf = i := ⟨lf.toNat, by omega⟩
        exact ref_Check h hB hcnt root n i (by omega) (by omega) c hR (by omega) pc hP hPl P0 hP0

/-- blocks that the books turn -/
def Aloof (W : World) (S : Nat → Prop) : Prop := ∀ k, S k → ∀ cs t fr, W.heap[k]? = some (.cells cs t fr) → t = 125 ∨ t = 138 ∨ t = 35
theorem BookL.aloof {W : World} {b r q : Nat} {L : List Bytes} (h : BookL W b r q L) : Aloof W (Book3 b r q) := fun k hk cs t fr hc => by
  by_cases ht : t = 125
  · exact .inl ht
  · exact absurd hk (h.not hc ht)
theorem RefBook.aloof {W : World} {B c : Nat} {v : Value} {n : Int} {xs : List SlC} {M : List Bytes} (h : RefBook W B c v n xs M) : Aloof W (fun k => k = c ∨ v.ownBlock = some k) := fun k hk cs t fr hc => by
  obtain ⟨cs', t', fr', h1, h2⟩ := h.own hk
  rw [h1] at hc
  simp only [Option.some.injEq, Obj.cells.injEq] at hc
  rw [← hc.2.1]
  exact .inr h2
theorem Aloof.not {W : World} {S : Nat → Prop} (h : Aloof W S) {k : Nat} {cs : Array Value} {t : TypeId} {fr : Nat × Nat} (hc : W.heap[k]? = some (.cells cs t fr)) (ht : ¬ (t = 125 ∨ t = 138 ∨ t = 35)) : ¬ S k := fun hk => ht (h k hk cs t fr hc)
theorem OwnB.aloof {W W' : World} {B : Nat} {v : Value} {R : Bytes} {S : Nat → Prop} (h : OwnB W B v R) (hu : Upd S W W') (ha : Aloof W S) : OwnB W' B v R := h.upd hu fun k e => by
  obtain ⟨cur, hc⟩ := h.blk e
  exact ha.not hc (by decide)
theorem OwnP.aloof {W W' : World} {B : Nat} {v : Value} {P : List (List Dig)} {S : Nat → Prop} (h : OwnP W B v P) (hu : Upd S W W') (ha : Aloof W S) : OwnP W' B v P := by
  obtain ⟨xs, h1, h2, h3⟩ := h
  exact ⟨xs, OwnRows.upd h1 hu (fun k e => by obtain ⟨cur, hc⟩ := own_cells h1 e; exact ha.not hc (by decide)), h2,
    fun i hi hi' => OwnRows.upd (h3 i hi hi') hu (fun k e => by obtain ⟨cur, hc⟩ := own_cells (h3 i hi hi') e; exact ha.not hc (by decide))⟩
/-- bytes and a proof, copied behind a world -/
structure PC (wA W : World) (vi : Value) (R : Bytes) (vp : Value) (P0 : List (List Dig)) : Prop where
  upd : Kept wA W
  inb : OwnB W wA.heap.size vi R
  prf : OwnP W wA.heap.size vp P0
section
variable {wA W W' : World} {vi vp : Value} {R : Bytes} {P0 : List (List Dig)} {S : Nat → Prop}
theorem PC.step (h : PC wA W vi R vp P0) (hu : Upd S W W') (ha : Aloof W S) (hs : ∀ k, S k → wA.heap.size ≤ k) : PC wA W' vi R vp P0 :=
  ⟨h.upd.then hu fun k hk e => by have := hs k e; omega, h.inb.aloof hu ha, h.prf.aloof hu ha⟩
theorem PC.kept (h : PC wA W vi R vp P0) (hu : Kept W W') : PC wA W' vi R vp P0 := h.step hu (fun _ e => e.elim) (fun _ e => e.elim)
end
section
variable {H : Type} {enc : TypeId × Value → H} {W : World}
theorem proof_lens {cs : List Value} (h : ReadsAs enc Try.prog W 63 cs) {A : Option Addr} {c : Nat} {P : List (SlC × List Dig)} (he : cs = [.slice A P.length c]) (hP : ProofAt W A P) : P.length * 24 ≤ 140737488351232 ∧ ∀ p ∈ P, p.2.length * 32 ≤ 140737488351232 := by
  obtain ⟨A', n', c', rfl, hle, hmax, hb, hi⟩ := h.slice Try.underlying63 ds_cells (by omega)
  simp only [List.cons.injEq, Value.slice.injEq, and_true] at he
  obtain ⟨rfl, rfl, rfl⟩ := he
  have hbb : Try.prog.bytesOf 41 = 24 := by kernel_rfl
  rw [hbb] at hb; unfold reachBytes at hb
  refine ⟨by omega, fun p hp => ?_⟩
  obtain ⟨i, hil, rfl⟩ := List.getElem_of_mem hp
  obtain ⟨b, off, cs', hA, hl', hcell, hr⟩ := hi i hil
  obtain ⟨b2, off2, hA2, hc2, hd, hn, hcc⟩ := hP i hil
  rw [hA] at hA2
  simp only [Option.some.injEq, Addr.mk.injEq, and_true] at hA2
  obtain ⟨rfl, rfl⟩ := hA2
  obtain ⟨A3, n3, c3, rfl, hle3, hmax3, hb3, hi3⟩ := hr.slice Try.underlying41 dig_cells (by omega)
  have h0 := hcell 0 (by omega)
  have hbb3 : Try.prog.bytesOf 46 = 32 := by kernel_rfl
  rw [hbb3] at hb3; unfold reachBytes at hb3
  rw [Nat.mul_one, Nat.add_zero, hc2, SlC.v_eq] at h0
  simp only [List.getElem?_cons_zero, Option.some.injEq, Value.slice.injEq] at h0
  rw [← hn, h0.2.1]; omega
set_option maxRecDepth 100000 in
theorem claim_lens {cs : List Value} (h : ReadsAs enc Try.prog W 72 cs) {d : Dig} {lv lf : Int} {x : SlC} {A : Option Addr} {c : Nat} {P : List (SlC × List Dig)} (he : cs = encB d.1 ++ [.int .i64 lv, .int .i64 lf, SlC.v x, SlC.v ⟨A, P.length, c⟩]) (hP : ProofAt W A P) : P.length * 24 ≤ 140737488351232 ∧ ∀ p ∈ P, p.2.length * 32 ≤ 140737488351232 := by
  obtain ⟨hl, hf⟩ := h.struct Try.underlying72
  have e4 : ReadsAs enc Try.prog W 63 ((cs.drop 35).take (Try.prog.cellsOf 63)) := hf 4 _ rfl
  rw [dss_cells] at e4
  refine proof_lens (c := c) e4 ?_ hP
  rw [he, show 35 = (encB d.1).length + 3 by rw [encB_length, d.2], List.drop_append, List.drop_eq_nil_of_le (by omega), List.nil_append, Nat.add_sub_cancel_left]
  rfl
end
end Go.Proofs.Ytnncpjekcljfbaa
