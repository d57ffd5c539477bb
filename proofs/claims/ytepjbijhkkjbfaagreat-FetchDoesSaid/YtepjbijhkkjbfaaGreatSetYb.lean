import Derived.Test.YtepjbijhkkjbfaaGreatSetZw
import Derived.Test.YtepjbijhkkjbfaaGreatSetZu
import Derived.Test.YtepjbijhkkjbfaaGreatSetZk
import Derived.Test.YtepjbijhkkjbfaaGreatSetZl
import Derived.Test.YtepjbijhkkjbfaaGreatSetZx
import Derived.Test.YtepjbijhkkjbfaaGreatSetZs
set_option linter.unusedVariables false
set_option linter.unusedSimpArgs false
namespace Go.Proofs.YtepjbijhkkjbfaaGreat
open Go.ChangeShapes Go.WideShapes Go.ChangeAt Go.RowKit
attribute [local irreducible] wpOrd
set_option maxHeartbeats 1000000 in
set_option maxRecDepth 20000 in
theorem law21_copied {w : World} {A : Option Addr} {l : List (SlC × Bytes)} (c : Nat) (h : LeavesAt w A l) (hl : l.length * 24 ≤ 140737488355328) :
    Calls Tryz.prog 4 #[.slice A l.length c] w fun e W => ∃ v lv, e = .returned v ∧ OwnLv W w.heap.size v lv ∧ secs lv = secs l ∧ Kept w W := by
  have HX := Lib.hid (And.intro h hl); clear h hl; obtain ⟨n, hn⟩ : ∃ n, n = l.length := ⟨_, rfl⟩; rw [← hn]; have HN := Lib.hid hn; have hn5 : (n : Int) ≤ 140737488351232 := by have := HX.out.2; omega
  clear hn
  go_enter Tryz.func4, Tryz.ntmps4
  go_wp2_with fail
  go_loopw [4, 3] (fun u1 v wr => ∃ (k : Nat) (lv : List (SlC × Bytes)), k ≤ n ∧ u1 = .int .i64 k ∧ OwnLv wr w.heap.size v lv ∧ secs lv = (secs l).take k ∧ Kept w wr) (fun u1 _ _ => 140737488360000 - (intOf u1).toNat)
  case atStart => exact ⟨0, [], Nat.zero_le _, rfl, OwnLv.nil _ _, rfl, Upd.refl _ _⟩
  case round =>
    obtain ⟨k, lv, hk, rfl, hown, hsl, hu⟩ := hrel; rcases Nat.lt_or_ge k n with hlt | hge
    · have hk1 : (k : Int) < (n : Int) := by omega
      have hk5 : (k : Int) ≤ 140737488351232 := by omega
      have hkl2 : k < l.length := by rw [← HN.out]; exact hlt
      obtain ⟨g1, o1, A1, c1, hA1, hc1, hR1, -⟩ := (HX.out.1.kept hu).get hkl2; have hRl : l[k].2.length ≤ 140737488351232 := by
        obtain ⟨b, off, -, -, -, h4⟩ := HX.out.1 k hkl2; exact h4
      have hs1 : (secs l).take (k + 1) = secs lv ++ [l[k].2] := by
        rw [List.take_succ_eq_append_getElem (by rw [List.length_map]; exact hkl2), hsl, List.getElem_map]
      have hlvl : lv.length = k := by have := congrArg List.length hsl; rw [List.length_map, List.length_take, List.length_map] at this; omega
      subst hA1; generalize l[k].2 = R at *; have HG := ref_CopyBytes c1 hR1 hRl; have HQ := Lib.hid (And.intro hown (And.intro hu (And.intro hlt (And.intro hs1 (And.intro hlvl hRl))))); clear hu hown hlt hs1 hk hsl hkl2 hlvl hR1 hRl; go_wp2_with fail; refine HG.mono ?_; clear HG; rintro e w4 ⟨vy, rfl, hOy, hu4⟩; obtain ⟨Ay, cy, rfl, -, -⟩ := hOy.form; have hk5' : Kept w4 (w4.alloc (.cells (slA ⟨Ay, R.length, cy⟩) 42)) := (Upd.refl _ w4).alloc _; have hg5 := heap_alloc_new w4 (.cells (slA ⟨Ay, R.length, cy⟩) 42); have hL5 := (HQ.out.1.kept hu4).kept hk5'; have hu5 : Kept w (w4.alloc (.cells (slA ⟨Ay, R.length, cy⟩) 42)) := (HQ.out.2.1.then hu4 (fun _ _ h => h)).then hk5' (fun _ _ h => h); have hO5 : OwnB (w4.alloc (.cells (slA ⟨Ay, R.length, cy⟩) 42)) w.heap.size (SlC.v ⟨Ay, R.length, cy⟩) R := (hOy.low HQ.out.2.1.size).kept hk5'; have H5 := Lib.hid (And.intro hL5 (And.intro hg5 (And.intro hu5 hO5))); clear hOy hu4 hk5' hg5 hL5 hu5 hO5 hc1; go_wp2_with (at_builtin; refine wpList_append_rows bs_rows rfl (.tmp 11) (.tmp 17) rfl rfl H5.out.1.1 ⟨Ay, R.length, cy⟩ w4.heap.size 1 _ _ rfl H5.out.2.1 (by have := HQ.out.2.2.2.2.1; have := HQ.out.2.2.1; rw [List.length_map]; unfold maxLen; omega) (by have h1 := HQ.out.2.2.2.2.1; have h2 := HQ.out.2.2.1; have h3 := HX.out.2; have h4 := HN.out; rw [List.length_map]; omega) H5.out.2.2.1.size ?_; intro v' w6 hrows hu' hnew); have hL6 := H5.out.1.snoc H5.out.2.2.2 HQ.out.2.2.2.2.2 hrows hu'; have hw6 : Kept w w6 := H5.out.2.2.1.then hu' (fun i hi e => by have := (World.ownsRow.lt H5.out.1.1 i e).1; omega); have HF := Lib.hid (And.intro hL6 hw6); clear hL6 hw6 hrows hu' hnew; go_wp2_with fail
      go_roundw
      case rel => exact ⟨k + 1, _, by have := HQ.out.2.2.1; omega, by show _ = _; go_num, HF.out.1, by rw [HQ.out.2.2.2.1]; simp [secs], HF.out.2⟩
      case measure => have := HQ.out.2.2.1; have := HX.out.2; have := HN.out; simp [intOf]; omega
    · obtain rfl : k = n := by omega
      have hk1 : ¬ ((k : Int) < (k : Int)) := by omega
      rw [List.take_of_length_le (by rw [List.length_map, HN.out]; exact Nat.le_refl _)] at hsl; have HF := Lib.hid (And.intro hown (And.intro hsl hu)); clear hk hown hu hsl hge; go_wp2
      go_ret
      first | exact ⟨_, lv, rfl, HF.out⟩ | exact ⟨_, rfl, lv, HF.out⟩
set_option maxHeartbeats 1000000 in
set_option maxRecDepth 20000 in
theorem ref_FBegin_arg {w : World} {p : Option Addr} (root : Dig) (n : Int) (A : Option Addr) (m c : Nat) (h : n < 1 ∨ 1024 < n ∨ 0 < m ∧ (m : Int) ≠ n) :
    Calls Tryz.prog 7 #[.pointer p, .agg (dA root), .int .i64 n, .slice A m c] w fun e W => e = .returned (.tuple #[.pointer none, .int .i64 2]) ∧ Kept w W := by
  have k1 : Kept w (w.alloc (.cells (dA root) 23)) := (Upd.refl _ w).alloc _; have HK := Lib.hid k1; clear k1
  by_cases h0 : n < 1
  · have d0 : decide (n < 1) = true := decide_eq_true h0
    clear h h0
    go_enter Tryz.func7, Tryz.ntmps7
    go_wp2
    go_ret2
    exact ⟨rfl, HK.out⟩
  · have d0 : decide (n < 1) = false := decide_eq_false h0
    by_cases h1 : 1024 < n
    · have d1 : decide (1024 < n) = true := decide_eq_true h1
      clear h h0 h1
      go_enter Tryz.func7, Tryz.ntmps7
      go_wp2
      go_ret2
      exact ⟨rfl, HK.out⟩
    · have d1 : decide (1024 < n) = false := decide_eq_false h1
      have h2 : 0 < m ∧ (m : Int) ≠ n := by rcases h with h | h | h; exact absurd h h0; exact absurd h h1; exact h
      have d2 : ((m : Int) != 0) = true := by simp; omega
      have d2n : decide ((m : Int) = 0) = false := decide_eq_false (by omega); have d3 : ((m : Int) != n) = true := by simpa using h2.2
      clear h h0 h1 h2
      go_enter Tryz.func7, Tryz.ntmps7
      go_wp2
      go_ret2
      exact ⟨rfl, HK.out⟩
def planA (root : Dig) (n : Int) (A : Option Addr) (m c : Nat) : Array Value := (encB root.1 ++ [Value.int .i64 n, Value.slice A m c]).toArray
section
variable {H : Type} {enc : TypeId × Value → H} {W : World}
theorem plan_cells : Tryz.prog.cellsOf 26 = 34 := by kernel_rfl
theorem bss_cells1 : Tryz.prog.cellsOf 24 = 1 := by kernel_rfl
theorem open_leaves24 {cs : List Value} (h : ReadsAs enc Tryz.prog W 24 cs) : ∃ A c l, cs = [.slice A (List.length l) c] ∧ LeavesAt W A l ∧ l.length ≤ c ∧ l.length * 24 ≤ 140737488355328 := by
  obtain ⟨A, n, c, rfl, hle, hmax, hb, hi⟩ := h.slice Tryz.underlying24 bs_cells (by omega); have hx : ∀ i, i < n → ∃ p : SlC × Bytes, ∃ b off, A = some ⟨b, off, none⟩ ∧ W.cell? ⟨b, off + i, none⟩ = some (SlC.v p.1) ∧ LeafAt W p.1 p.2 ∧ p.2.length ≤ 140737488351232 := by
    intro i hin; obtain ⟨b, off, cs', hA, hl', hcell, hr⟩ := hi i hin; obtain ⟨x, R, rfl, hx, hl⟩ := open_bytes hr; exact ⟨(x, R), b, off, hA, by simpa using hcell 0 (by omega), hx, hl⟩
  obtain ⟨l, hl, hp⟩ := list_of n hx; subst hl; have hbb : Tryz.prog.bytesOf 42 = 24 := by kernel_rfl
  exact ⟨A, c, l, rfl, hp, hle, by rw [hbb] at hb; unfold reachBytes at hb; omega⟩
theorem open_plan {cs : List Value} (h : ReadsAs enc Tryz.prog W 26 cs) : ∃ (root : Dig) (n : Int) (A : Option Addr) (c : Nat) (l : List (SlC × Bytes)), cs = encB root.1 ++ [.int .i64 n, .slice A l.length c] ∧ (Lit.int .i64 n).wf = true ∧ LeavesAt W A l ∧ l.length * 24 ≤ 140737488355328 := by
  obtain ⟨hl, hf⟩ := h.struct Tryz.underlying26; rw [plan_cells] at hl; have e0 : ReadsAs enc Tryz.prog W 23 ((cs.drop 0).take (Tryz.prog.cellsOf 23)) := hf 0 _ rfl; have e1 : ReadsAs enc Tryz.prog W 3 ((cs.drop 32).take (Tryz.prog.cellsOf 3)) := hf 1 _ rfl; have e2 : ReadsAs enc Tryz.prog W 24 ((cs.drop 33).take (Tryz.prog.cellsOf 24)) := hf 2 _ rfl; rw [dig_cells, List.drop_zero] at e0; rw [int_cells] at e1; rw [bss_cells1] at e2; have hsp : cs = cs.take 32 ++ cs.drop 32 := (List.take_append_drop 32 cs).symm; have h33 : cs.drop 33 = (cs.drop 32).drop 1 := by rw [List.drop_drop]
  rw [h33] at e2; have hl4 : (cs.drop 32).length = 2 := by rw [List.length_drop, hl]
  obtain ⟨d, hd⟩ := open_dig e0; rw [hsp, hd]; generalize cs.drop 32 = tl at *
  match tl, hl4 with
  | [c0, c1], _ =>
    obtain ⟨n, h1, w1⟩ := e1.int Tryz.underlying3; obtain ⟨A, c, l, h2, hL, -, h24⟩ := open_leaves24 e2; simp only [List.take_succ_cons, List.take_zero, List.drop_succ_cons, List.drop_zero, List.cons.injEq, and_true] at h1 h2; subst h1 h2; exact ⟨d, n, A, c, l, rfl, w1, hL, h24⟩
end
theorem own_any {W : World} {B : Nat} {v : Value} {R : Bytes} (h : OwnB W B v R) {g k : Nat} {vs : List Value} (hg : Blk W g 5 vs) (u : UInt8) : ∃ R', R'.length = R.length ∧ OwnB (W.setCell ⟨g, k, none⟩ (.int .u8 (u.toNat : Int))) B v R' := by
  by_cases hb : v.ownBlock = some g
  · by_cases hk : k < R.length
    · obtain ⟨g', c', vs', hv, -, -, -, -, hs⟩ := own_setByte h hk u
      rw [hv] at hb; obtain rfl : g' = g := Option.some.inj hb; exact ⟨_, by rw [List.length_set], hs⟩
    · refine ⟨R, rfl, h.1, h.2.imp id fun ⟨g', cap, cur, hv, hB, hc, h1, h2, h3, h4⟩ => ?_⟩
      have e : g' = g := by rw [hv] at hb; exact Option.some.inj hb
      subst e; refine ⟨g', cap, cur.setIfInBounds k (.int .u8 (u.toNat : Int)), hv, hB, heap_setCell_same _ g' k _ _ _ hc, h1, h2, by rw [Array.size_setIfInBounds]; exact h3, ?_⟩; rw [Array.toList_setIfInBounds, List.take_set_of_le (by omega)]; exact h4
  · exact ⟨R, rfl, h.upd ((Upd.refl (fun j => j = g) W).setCell (p := ⟨g, k, none⟩) _ fun _ => rfl) fun j e e2 => hb (by rw [e, show j = g from e2])⟩
end Go.Proofs.YtepjbijhkkjbfaaGreat
namespace Go.Proofs.YtepjbijhkkjbfaaGreat
open Go.RowKit
variable {Tu Tv : Nat → Prop}
attribute [local irreducible] wpOrd
theorem FetI.step {W W' : World} {S Tu' : Nat → Prop} {B f m1 m2 b r q n gs cs : Nat} {root : Dig} {O : Option (List Bytes)} {s : KM × BM} {hv ov : Value} (h : FetI Tu W B f m1 m2 b r q n root O s gs cs hv ov) (hu : Upd S W W') (hS : ∀ k, k < W.heap.size → S k → Tu k) (h1 : ∀ k, Tu k → Tu' k) (h2 : ∀ k, Tu' k → Tu k ∨ W.heap.size ≤ k) : FetI Tu' W' B f m1 m2 b r q n root O s gs cs hv ov :=
  (h.other h2).foreign (hu.mono (T := fun k => Tu k) hS) h1
structure JI (w W : World) (f g n : Nat) (root : Dig) (O : Option (List Bytes)) (s1 s2 : KM × BM) (mm : Nat) (Lw Tu Tv : Nat → Prop) (b r q : Nat) (L : List Bytes) (B m1 m2 gs cs : Nat) (hv ov : Value) (c : Nat) (X : RX) (M : List Bytes) : Prop where
  fet : FetI Tu W B f m1 m2 b r q n root O s1 gs cs hv ov
  book : BookL W b r q L
  bT : ∀ k, Book3 b r q k → ¬ Tu k
  rb : RB Tv W g c n root O s2 X M
  mm : M.length ≤ mm
  cov : ∀ k, k < W.heap.size → Tu k ∨ Tv k
  tu : ∀ k, Tu k → k < W.heap.size
  lw : ∀ k, Lw k → Tu k ∧ Tv k
  old : ∀ k, k < w.heap.size → Tu k ∧ Tv k
  upd : Kept w W
def JJ (w W : World) (f g n : Nat) (root : Dig) (O : Option (List Bytes)) (s1 s2 : KM × BM) (mm : Nat) (Lw : Nat → Prop) : Prop := ∃ Tu Tv b r q L B m1 m2 gs cs hv ov c X M, JI w W f g n root O s1 s2 mm Lw Tu Tv b r q L B m1 m2 gs cs hv ov c X M
def NL (w : World) (Lw : Nat → Prop) (k : Nat) : Prop := ¬ Lw k ∧ w.heap.size ≤ k
section
variable {w W W' : World} {S : Nat → Prop} {f g n : Nat} {root : Dig} {O : Option (List Bytes)} {s1 s2 s1' s2' : KM × BM} {mm mm' : Nat} {Lw Lw' : Nat → Prop} {b r q : Nat} {L L' : List Bytes} {B m1 m2 gs cs : Nat} {hv ov : Value} {c : Nat} {X : RX} {M M' : List Bytes}
theorem JI.prog (h : JI w W f g n root O s1 s2 mm Lw Tu Tv b r q L B m1 m2 gs cs hv ov c X M) (hf : FetI Tu W' B f m1 m2 b r q n root O s1' gs cs hv ov) (hb : BookL W' b r q L') (hu : Upd (fun k => Book3 b r q k ∨ Maps2 m1 m2 k) W W') : JJ w W' f g n root O s1' s2 mm Lw ∧ Upd (NL w Lw) W W' := by
  have hn : ∀ k, (Book3 b r q k ∨ Maps2 m1 m2 k) → ¬ Tu k := fun k e => by
    rcases e with e | e
    · exact h.bT k e
    · rcases e with e | e
      · exact h.fet.oT k (.inr (.inr (.inl e)))
      · exact h.fet.oT k (.inr (.inr (.inr e)))
  have hv' : ∀ k, k < W.heap.size → (Book3 b r q k ∨ Maps2 m1 m2 k) → Tv k := fun k hk e => (h.cov k hk).resolve_left (hn k e); have hold : ∀ k, (Book3 b r q k ∨ Maps2 m1 m2 k) → w.heap.size ≤ k := fun k e => by
    rcases Nat.lt_or_ge k w.heap.size with h1 | h1
    · exact absurd (h.old k h1).1 (hn k e)
    · exact h1
  refine ⟨⟨Tu, fun k => Tv k ∨ (W.heap.size ≤ k ∧ k < W'.heap.size), b, r, q, L', B, m1, m2, gs, cs, hv, ov, c, X, M, hf, hb, h.bT, h.rb.step hu hv' (fun k e => .inl e) (fun k e => e.imp id fun e => e.1) (fun k e => ?_), h.mm, fun k hk => ?_, fun k e => Nat.lt_of_lt_of_le (h.tu k e) hu.size, fun k e => ⟨(h.lw k e).1, .inl (h.lw k e).2⟩, fun k e => ⟨(h.old k e).1, .inl (h.old k e).2⟩, h.upd.then hu fun k hk e => by have := hold k e; omega⟩, hu.mono fun k _ e => ⟨fun e2 => hn k e (h.lw k e2).1, hold k e⟩⟩
  · rcases e with e | e
    · exact Nat.lt_of_lt_of_le (h.rb.hT k e) hu.size
    · exact e.2
  · rcases Nat.lt_or_ge k W.heap.size with h1 | h1
    · exact (h.cov k h1).imp id .inl
    · exact .inr (.inr ⟨h1, hk⟩)
theorem JI.doc (h : JI w W f g n root O s1 s2 mm Lw Tu Tv b r q L B m1 m2 gs cs hv ov c X M) (hr : RB Tv W' g c n root O s2' X M') (hM : M'.length ≤ mm') (hu : Upd (fun k => ¬ Tv k) W W') : JJ w W' f g n root O s1 s2' mm' Lw ∧ Upd (NL w Lw) W W' := by
  have hS : ∀ k, k < W.heap.size → ¬ Tv k → Tu k := fun k hk e => (h.cov k hk).resolve_right e; have hb3 : ∀ k, Book3 b r q k → ¬ ¬ Tv k := fun k e e2 => h.bT k e (hS k (h.book.lt k e) e2); have hold : ∀ k, ¬ Tv k → w.heap.size ≤ k := fun k e => by
    rcases Nat.lt_or_ge k w.heap.size with h1 | h1
    · exact absurd (h.old k h1).2 e
    · exact h1
  refine ⟨⟨fun k => Tu k ∨ (W.heap.size ≤ k ∧ k < W'.heap.size), Tv, b, r, q, L, B, m1, m2, gs, cs, hv, ov, c, X, M', h.fet.step hu hS (fun k e => .inl e) (fun k e => e.imp id fun e => e.1), h.book.upd hu (hb3 b (.inl rfl)) (hb3 r (.inr (.inl rfl))) (hb3 q (.inr (.inr rfl))), fun k e e2 => ?_, hr, hM, fun k hk => ?_, fun k e => ?_, fun k e => ⟨.inl (h.lw k e).1, (h.lw k e).2⟩, fun k e => ⟨.inl (h.old k e).1, (h.old k e).2⟩, h.upd.then hu fun k hk e => by have := hold k e; omega⟩, hu.mono fun k _ e => ⟨fun e2 => e (h.lw k e2).2, hold k e⟩⟩
  · rcases e2 with e2 | e2
    · exact h.bT k e e2
    · have := h.book.lt k e; omega
  · rcases Nat.lt_or_ge k W.heap.size with h1 | h1
    · exact (h.cov k h1).imp .inl id
    · exact .inl (.inr ⟨h1, hk⟩)
  · rcases e with e | e
    · exact Nat.lt_of_lt_of_le (h.tu k e) hu.size
    · exact e.2
theorem JJ.law (h : JJ w W f g n root O s1 s2 mm Lw) (hu : Upd S W W') (hS : ∀ k, k < W.heap.size → S k → Lw k) (hS2 : ∀ k, S k → w.heap.size ≤ k) : JJ w W' f g n root O s1 s2 mm (fun k => Lw k ∨ (W.heap.size ≤ k ∧ k < W'.heap.size)) := by
  obtain ⟨Tu, Tv, b, r, q, L, B, m1, m2, gs, cs, hv, ov, c, X, M, h⟩ := h; have hb3 : ∀ k, Book3 b r q k → ¬ S k := fun k e e2 => h.bT k e (h.lw k (hS k (h.book.lt k e) e2)).1; refine ⟨fun k => Tu k ∨ (W.heap.size ≤ k ∧ k < W'.heap.size), fun k => Tv k ∨ (W.heap.size ≤ k ∧ k < W'.heap.size), b, r, q, L, B, m1, m2, gs, cs, hv, ov, c, X, M, h.fet.step hu (fun k hk e => (h.lw k (hS k hk e)).1) (fun k e => .inl e) (fun k e => e.imp id fun e => e.1), h.book.upd hu (hb3 b (.inl rfl)) (hb3 r (.inr (.inl rfl))) (hb3 q (.inr (.inr rfl))), fun k e e2 => ?_, h.rb.step hu (fun k hk e => (h.lw k (hS k hk e)).2) (fun k e => .inl e) (fun k e => e.imp id fun e => e.1) (fun k e => ?_), h.mm, fun k hk => ?_, fun k e => ?_, fun k e => ?_, fun k e => ⟨.inl (h.old k e).1, .inl (h.old k e).2⟩, h.upd.then hu fun k hk e => by have := hS2 k e; omega⟩
  · rcases e2 with e2 | e2
    · exact h.bT k e e2
    · have := h.book.lt k e; omega
  · rcases e with e | e
    · exact Nat.lt_of_lt_of_le (h.rb.hT k e) hu.size
    · exact e.2
  · rcases Nat.lt_or_ge k W.heap.size with h1 | h1
    · exact (h.cov k h1).imp .inl .inl
    · exact .inl (.inr ⟨h1, hk⟩)
  · rcases e with e | e
    · exact Nat.lt_of_lt_of_le (h.tu k e) hu.size
    · exact e.2
  · rcases e with e | e
    · exact ⟨.inl (h.lw k e).1, .inl (h.lw k e).2⟩
    · exact ⟨.inr e, .inr e⟩
theorem JJ.sub (h : JJ w W f g n root O s1 s2 mm Lw) (hs : ∀ k, Lw' k → Lw k) : JJ w W f g n root O s1 s2 mm Lw' := by
  obtain ⟨Tu, Tv, b, r, q, L, B, m1, m2, gs, cs, hv, ov, c, X, M, h⟩ := h; exact ⟨Tu, Tv, b, r, q, L, B, m1, m2, gs, cs, hv, ov, c, X, M, h.fet, h.book, h.bT, h.rb, h.mm, h.cov, h.tu, fun k e => h.lw k (hs k e), h.old, h.upd⟩
theorem JJ.kept (h : JJ w W f g n root O s1 s2 mm Lw) (hu : Kept W W') : JJ w W' f g n root O s1 s2 mm Lw := (h.law hu (fun _ _ e => e.elim) (fun _ e => e.elim)).sub fun _ e => .inl e
theorem JJ.turn (h : JJ w W f g n root O s1 s2 mm Lw) (hu : Upd S W W') (hS : ∀ k, S k → Lw k) (hS2 : ∀ k, S k → w.heap.size ≤ k) : JJ w W' f g n root O s1 s2 mm Lw := (h.law hu (fun k _ e => hS k e) hS2).sub fun _ e => .inl e
theorem JJ.upd (h : JJ w W f g n root O s1 s2 mm Lw) : Kept w W := by
  obtain ⟨Tu, Tv, b, r, q, L, B, m1, m2, gs, cs, hv, ov, c, X, M, h⟩ := h; exact h.upd
theorem jj_Ask (h : JJ w W f g n root O s1 s2 mm Lw) : Calls Tryz.prog 11 #[.pointer (some ⟨f, 0, none⟩)] W fun e W' => e = .returned (askV (askM n s1)) ∧ JJ w W' f g n root O s1 s2 mm Lw ∧ Kept W W' := by
  have hj := h; obtain ⟨Tu, Tv, b, r, q, L, B, m1, m2, gs, cs, hv, ov, c, X, M, h⟩ := h; exact (fetch_Ask h.fet).mono fun e W' ⟨he, hu⟩ => ⟨he, hj.kept hu, hu⟩
theorem jj_RAsk (h : JJ w W f g n root O s1 s2 mm Lw) : Calls Tryz.prog 12 #[.pointer (some ⟨g, 0, none⟩)] W fun e W' => e = .returned (askV (askM n s2)) ∧ W = W' := by
  obtain ⟨Tu, Tv, b, r, q, L, B, m1, m2, gs, cs, hv, ov, c, X, M, h⟩ := h; exact ref_Ask h.rb.f
theorem jj_Root (h : JJ w W f g n root O s1 s2 mm Lw) : Calls Tryz.prog 21 #[.pointer (some ⟨f, 0, none⟩)] W fun e W' => e = .returned (.agg (dA root)) ∧ JJ w W' f g n root O s1 s2 mm Lw ∧ Kept W W' := by
  have hj := h; obtain ⟨Tu, Tv, b, r, q, L, B, m1, m2, gs, cs, hv, ov, c, X, M, h⟩ := h; exact (fetch_Root h.fet).mono fun e W' ⟨he, hu⟩ => ⟨he, hj.kept hu, hu⟩
theorem jj_Leaf (h : JJ w W f g n root O s1 s2 mm Lw) (place : Int) {A : Option Addr} {R : Bytes} (k : Nat) (hR : Byt W A R) (hlen : R.length ≤ 140737488351232) :
    Calls Tryz.prog 16 #[.pointer (some ⟨f, 0, none⟩), .int .i64 place, .slice A R.length k] W fun e W' => e = .returned (.int .i64 (leafE n s1 place R)) ∧ JJ w W' f g n root O (leafS n s1 place R) s2 mm Lw ∧ Upd (NL w Lw) W W' := by
  obtain ⟨Tu, Tv, b, r, q, L, B, m1, m2, gs, cs, hv, ov, c, X, M, h⟩ := h; exact (fetch_Leaf h.tu h.fet h.book place k hR hlen).mono fun e W' ⟨he, ⟨L', hb, _, _⟩, hf, hu⟩ => ⟨he, h.prog hf hb (hu.mono fun k _ e => e.imp id .inr)⟩
theorem jj_Parts (h : JJ w W f g n root O s1 s2 mm Lw) (lv pl : Int) {A : Option Addr} {D : List Dig} (k : Nat) (hD : Digs W A D) :
    Calls Tryz.prog 13 #[.pointer (some ⟨f, 0, none⟩), .int .i64 lv, .int .i64 pl, .slice A D.length k] W fun e W' => e = .returned (.int .i64 (partsE n s1 lv pl D)) ∧ JJ w W' f g n root O (partsS n O s1 lv pl D) s2 mm Lw ∧ Upd (NL w Lw) W W' := by
  obtain ⟨Tu, Tv, b, r, q, L, B, m1, m2, gs, cs, hv, ov, c, X, M, h⟩ := h; exact (fetch_Parts h.fet h.book lv pl k hD).mono fun e W' ⟨he, ⟨L', hb, _, _⟩, hf, hu⟩ => ⟨he, h.prog hf hb hu⟩
theorem JI.nl (h : JI w W f g n root O s1 s2 mm Lw Tu Tv b r q L B m1 m2 gs cs hv ov c X M) (hu : Upd (fun k => ¬ Tv k) W W') : Upd (NL w Lw) W W' := hu.mono fun k _ e => ⟨fun e2 => e (h.lw k e2).2, by
  rcases Nat.lt_or_ge k w.heap.size with h1 | h1
  · exact absurd (h.old k h1).2 e
  · exact h1⟩
theorem jj_RLeaf (h : JJ w W f g n root O s1 s2 mm Lw) (hm : mm ≤ 90000) (place : Int) {A : Option Addr} {R : Bytes} (k : Nat) (hR : ∀ W', Upd (NL w Lw) W W' → Byt W' A R) (hlen : R.length ≤ 140737488351232) :
    Calls Tryz.prog 17 #[.pointer (some ⟨g, 0, none⟩), .int .i64 place, .slice A R.length k] W fun e W' => e = .returned (.int .i64 (leafE n s2 place R)) ∧ JJ w W' f g n root O s1 (leafS n s2 place R) (mm + 1) Lw ∧ Upd (NL w Lw) W W' := by
  obtain ⟨Tu, Tv, b, r, q, L, B, m1, m2, gs, cs, hv, ov, c, X, M, h⟩ := h; exact (ref_FLeaf h.rb (Nat.le_trans h.mm hm) place k (fun W' hu => hR W' (h.nl hu)) hlen).mono fun e W' ⟨he, ⟨M', hM, hr⟩, hu⟩ => ⟨he, h.doc hr (by have := h.mm; omega) hu⟩
theorem jj_RParts (h : JJ w W f g n root O s1 s2 mm Lw) (hm : mm ≤ 90000) (lv pl : Int) {A : Option Addr} {D : List Dig} (k : Nat) (hD : ∀ W', Upd (NL w Lw) W W' → Digs W' A D) :
    Calls Tryz.prog 14 #[.pointer (some ⟨g, 0, none⟩), .int .i64 lv, .int .i64 pl, .slice A D.length k] W fun e W' => e = .returned (.int .i64 (partsE n s2 lv pl D)) ∧ JJ w W' f g n root O s1 (partsS n O s2 lv pl D) (mm + 1) Lw ∧ Upd (NL w Lw) W W' := by
  obtain ⟨Tu, Tv, b, r, q, L, B, m1, m2, gs, cs, hv, ov, c, X, M, h⟩ := h; exact (ref_FParts h.rb (Nat.le_trans h.mm hm) lv pl k (fun W' hu => hD W' (h.nl hu))).mono fun e W' ⟨he, ⟨M', hM, hr⟩, hu⟩ => ⟨he, h.doc hr (by have := h.mm; omega) hu⟩
theorem jj_Done (h : JJ w W f g n root O s1 s2 mm Lw) :
    Calls Tryz.prog 19 #[.pointer (some ⟨f, 0, none⟩)] W fun e W' => ∃ A m k l, e = .returned (.tuple #[.slice A m k, .bool (askM n s1).isNone]) ∧ m = l.length ∧ OwnLv W' W.heap.size (.slice A m k) l ∧ secs l = doneL n s1 ∧ JJ w W' f g n root O s1 s2 mm Lw ∧ Kept W W' := by
  have hj := h; obtain ⟨Tu, Tv, b, r, q, L, B, m1, m2, gs, cs, hv, ov, c, X, M, h⟩ := h; cases ha : askM n s1 with
  | none =>
    refine (fetch_Done h.fet ha).mono ?_; rintro e W' ⟨v, l, rfl, ho, hs, hu⟩; obtain ⟨A, k, rfl⟩ := OwnRows.form ho.1; rw [List.length_map] at ho ⊢; exact ⟨A, _, k, l, rfl, rfl, ho, by unfold doneL; rw [ha]; exact hs, hj.kept hu, hu⟩
  | some x =>
    refine (fetch_Done_no h.fet ha).mono ?_; rintro e W' ⟨rfl, hu⟩; exact ⟨none, 0, 0, [], rfl, rfl, OwnLv.nil _ _, by unfold doneL; rw [ha]; rfl, hj.kept hu, hu⟩
theorem jj_RDone (h : JJ w W f g n root O s1 s2 mm Lw) :
    Calls Tryz.prog 20 #[.pointer (some ⟨g, 0, none⟩)] W fun e W' => ∃ A m k l, e = .returned (.tuple #[.slice A m k, .bool (askM n s2).isNone]) ∧ m = l.length ∧ OwnLv W' W.heap.size (.slice A m k) l ∧ secs l = doneL n s2 ∧ JJ w W' f g n root O s1 s2 mm Lw ∧ Kept W W' := by
  have hj := h; obtain ⟨Tu, Tv, b, r, q, L, B, m1, m2, gs, cs, hv, ov, c, X, M, h⟩ := h; exact (ref_Done h.rb.f).mono fun e W' ⟨A, m, k, l, he, hm, ho, hs, hu⟩ => ⟨A, m, k, l, he, hm, ho, hs, hj.kept hu, hu⟩
end
end Go.Proofs.YtepjbijhkkjbfaaGreat
