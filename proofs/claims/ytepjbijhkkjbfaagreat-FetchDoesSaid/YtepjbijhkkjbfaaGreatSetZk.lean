import Derived.Test.YtepjbijhkkjbfaaGreatSetZj
import Derived.Test.YtepjbijhkkjbfaaGreatSetZc
import Derived.Test.YtepjbijhkkjbfaaGreatSetZh
set_option linter.unusedVariables false
set_option linter.unusedSimpArgs false
namespace Go.Proofs.YtepjbijhkkjbfaaGreat
open Go.RowKit
theorem OwnB.base {W : World} {B B' : Nat} {v : Value} {R : Bytes} (h : OwnB W B' v R) (hb : B ≤ B') : OwnB W B v R :=
  ⟨h.1, h.2.imp id fun ⟨g, cap, cur, hv, hb2, hr⟩ => ⟨g, cap, cur, hv, Nat.le_trans hb hb2, hr⟩⟩
structure RefBook (W : World) (B b : Nat) (v : Value) (n : Int) (xs : List SlC) (L : List Bytes) : Prop where
  blk : W.heap[b]? = some (.cells #[v, .int .i64 n] 88 (0, 0))
  row : OwnS W B v xs
  len : xs.length = L.length
  each : ∀ i (h : i < xs.length) (h' : i < L.length), OwnB W B xs[i].v L[i]
  sz : ∀ r ∈ L, r.length ≤ 65536
section
variable {W W' : World} {B b : Nat} {v v' : Value} {n : Int} {xs : List SlC} {L : List Bytes} {S : Nat → Prop}
theorem RefBook.lt (h : RefBook W B b v n xs L) : b < W.heap.size := (Array.getElem?_eq_some_iff.1 h.blk).1
theorem RefBook.kept (h : RefBook W B b v n xs L) (hu : Kept W W') : RefBook W' B b v n xs L :=
  ⟨hu.heap h.blk id, OwnRows.upd h.row hu (fun _ _ h => h), h.len, fun i hi hi' => (h.each i hi hi').kept hu, h.sz⟩
theorem RefBook.c0 (h : RefBook W B b v n xs L) : W.cell? ⟨b, 0, none⟩ = some v := by rw [cell_of_row W b 0 _ _ _ h.blk]; rfl
theorem RefBook.c1 (h : RefBook W B b v n xs L) : W.cell? ⟨b, 1, none⟩ = some (.int .i64 n) := by rw [cell_of_row W b 1 _ _ _ h.blk]; rfl
theorem RefBook.thaw (h : RefBook W B b v n xs L) (o : Nat) : W.frozen? ⟨b, o, none⟩ = false := frozen_of_row W b o _ _ h.blk
theorem RefBook.own_ne (h : RefBook W B b v n xs L) : v.ownBlock ≠ some b := fun e => by
  obtain ⟨cur, hc⟩ := own_cells h.row e; rw [h.blk] at hc; simp only [Option.some.injEq, Obj.cells.injEq] at hc; exact absurd hc.2.1 (by decide)
theorem RefBook.far (h : RefBook W B b v n xs L) {k : Nat} {cs : Array Value} {t : TypeId} {fr : Nat × Nat} (hk : W.heap[k]? = some (.cells cs t fr)) (h1 : t ≠ 88) (h2 : t ≠ 42) : ¬ (k = b ∨ v.ownBlock = some k) := by
  rintro (rfl | e)
  · rw [h.blk] at hk
    simp only [Option.some.injEq, Obj.cells.injEq] at hk; exact h1 hk.2.1.symm
  · obtain ⟨cur, hc⟩ := own_cells h.row e
    rw [hc] at hk; simp only [Option.some.injEq, Obj.cells.injEq] at hk; exact h2 hk.2.1.symm
theorem RefBook.count (h : RefBook W B b v n xs L) (m : Int) : RefBook (W.setCell ⟨b, 1, none⟩ (.int .i64 m)) B b v m xs L := by
  have hu : Upd (fun k => k = b) W (W.setCell ⟨b, 1, none⟩ (.int .i64 m)) := (Upd.refl _ _).setCell (p := ⟨b, 1, none⟩) _ fun _ => rfl; refine ⟨by rw [heap_setCell_same _ b 1 _ _ _ h.blk]; rfl, OwnRows.upd h.row hu (fun k e e2 => h.own_ne (by rw [e]; exact congrArg some e2)), h.len, fun i hi hi' => (h.each i hi hi').upd hu (fun k e e2 => ?_), h.sz⟩; obtain ⟨cur, hc⟩ := (h.each i hi hi').blk e; have e3 : k = b := e2; subst e3; rw [h.blk] at hc; simp only [Option.some.injEq, Obj.cells.injEq] at hc; exact absurd hc.2.1 (by decide)
theorem RefBook.put (h : RefBook W B b v n xs L) {x : SlC} {R : Bytes} (hr : OwnS W' B v' (xs ++ [x])) (hu : Upd (fun k => v.ownBlock = some k) W W') (hx : OwnB W B x.v R) (hR : R.length ≤ 65536) :
    RefBook (W'.setCell ⟨b, 0, none⟩ v') B b v' n (xs ++ [x]) (L ++ [R]) := by
  have hbk := hu.heap h.blk h.own_ne; have hu2 : Upd (fun k => k = b) W' (W'.setCell ⟨b, 0, none⟩ v') := (Upd.refl _ _).setCell (p := ⟨b, 0, none⟩) _ fun _ => rfl; have hby : ∀ {y : Value} {R : Bytes}, OwnB W B y R → OwnB (W'.setCell ⟨b, 0, none⟩ v') B y R := fun ho => by
    refine (ho.upd hu (fun k e e2 => ?_)).upd hu2 (fun k e e2 => ?_)
    · obtain ⟨cur, hc⟩ := ho.blk e
      obtain ⟨cur2, hc2⟩ := own_cells h.row e2; rw [hc] at hc2; simp only [Option.some.injEq, Obj.cells.injEq] at hc2; exact absurd hc2.2.1 (by decide)
    · obtain ⟨cur, hc⟩ := ho.blk e
      have e3 : k = b := e2; subst e3; rw [h.blk] at hc; simp only [Option.some.injEq, Obj.cells.injEq] at hc; exact absurd hc.2.1 (by decide)
  refine ⟨by rw [heap_setCell_same _ b 0 _ _ _ hbk]; rfl, OwnRows.upd hr hu2 (fun k e e2 => ?_), by rw [List.length_append, List.length_append, h.len]; rfl, fun i hi hi' => ?_, fun r hr => ?_⟩
  · obtain ⟨cur, hc⟩ := own_cells hr e
    have e3 : k = b := e2; subst e3; rw [hbk] at hc; simp only [Option.some.injEq, Obj.cells.injEq] at hc; exact absurd hc.2.1 (by decide)
  · by_cases hi2 : i < xs.length
    · rw [List.getElem_append_left hi2, List.getElem_append_left (by rw [← h.len]; exact hi2)]
      exact hby (h.each i hi2 _)
    · have hi3 : i = xs.length := by simp at hi; omega
      subst hi3; have e1 : (xs ++ [x])[xs.length] = x := by simp
      have e2 : (L ++ [R])[xs.length]'hi' = R := by simp [h.len]
      rw [e1, e2]; exact hby hx
  · rcases List.mem_append.1 hr with h1 | h1
    · exact h.sz r h1
    · simp only [List.mem_singleton] at h1; rw [h1]; exact hR
end
theorem own_uniq {W : World} {B B' : Nat} {v : Value} {xs xs' : List SlC} (h : OwnS W B v xs) (h' : OwnS W B' v xs') : xs = xs' := by
  have hl : xs.length = xs'.length := by
    obtain ⟨A, c, h1⟩ := OwnRows.form h; obtain ⟨A', c', h2⟩ := OwnRows.form h'; rw [h1] at h2; simp only [Value.slice.injEq] at h2; exact h2.2.1
  apply List.ext_getElem hl; intro i hi hi'; obtain ⟨g, c, hv, _, _, _, s1⟩ := OwnRows.get slA_size h hi; obtain ⟨g', c', hv', _, _, _, s2⟩ := OwnRows.get slA_size h' hi'; rw [hv] at hv'; simp only [Value.slice.injEq, Option.some.injEq, Addr.mk.injEq, and_true] at hv'; rw [hv'.1] at s1; rw [s1] at s2; have h3 : (slA xs[i]).toList = (slA xs'[i]).toList := by rw [s2]
  simp only [slA, List.cons.injEq, Value.slice.injEq, and_true] at h3; generalize xs[i] = x at *; generalize xs'[i] = x' at *; obtain ⟨a, b, c⟩ := x; obtain ⟨a', b', c'⟩ := x'; simp only at h3; obtain ⟨rfl, rfl, rfl⟩ := h3
  rfl
theorem own_rebase {W : World} {B B' : Nat} {v : Value} {xs : List SlC} (h : OwnS W B v xs) (hb : ∀ k, v.ownBlock = some k → B' ≤ k) : OwnS W B' v xs :=
  ⟨h.1, h.2.imp id fun ⟨g, cap, cur, hv, _, hr⟩ => ⟨g, cap, cur, hv, hb g (by rw [hv]; rfl), hr⟩⟩
def Grow (w : World) (v : Value) (W : World) (v' : Value) : Prop := ∀ B0 xs0, B0 ≤ w.heap.size → OwnS w B0 v xs0 → ∃ xs', OwnS W B0 v' xs' ∧ ∀ x ∈ xs', x ∈ xs0 ∨ ∀ k, x.v.ownBlock = some k → w.heap.size ≤ k
theorem Grow.of {w W : World} {v v' : Value} {B B' : Nat} {xs xs' : List SlC} (h0 : OwnS w B v xs) (h1 : OwnS W B' v' xs') (hB : ∀ k, v'.ownBlock = some k → v.ownBlock = some k ∨ w.heap.size ≤ k) (hx : ∀ x ∈ xs', x ∈ xs ∨ ∀ k, x.v.ownBlock = some k → w.heap.size ≤ k) : Grow w v W v' := fun B0 xs0 hB0 hr => by
  obtain rfl := own_uniq h0 hr; refine ⟨xs', own_rebase h1 fun k e => ?_, hx⟩; rcases hB k e with e2 | e2
  · exact (World.ownsRow.lt hr k e2).1
  · omega
theorem Grow.trans {w W W' : World} {v v' v'' : Value} (h : Grow w v W v') (h2 : Grow W v' W' v'') (hs : w.heap.size ≤ W.heap.size) : Grow w v W' v'' := fun B0 xs0 hB0 hr => by
  obtain ⟨xs1, h3, h4⟩ := h B0 xs0 hB0 hr; obtain ⟨xs2, h5, h6⟩ := h2 B0 xs1 (Nat.le_trans hB0 hs) h3; refine ⟨xs2, h5, fun x hx => ?_⟩; rcases h6 x hx with h7 | h7
  · exact h4 x h7
  · exact .inr fun k e => Nat.le_trans hs (h7 k e)
theorem Grow.upd {w W W' : World} {v v' : Value} {S : Nat → Prop} (h : Grow w v W v') (hu : Upd S W W') (hs : ∀ B xs, OwnS W B v' xs → ∀ k, v'.ownBlock = some k → ¬ S k) : Grow w v W' v' := fun B0 xs0 hB0 hr => by
  obtain ⟨xs1, h3, h4⟩ := h B0 xs0 hB0 hr; exact ⟨xs1, OwnRows.upd h3 hu (hs _ _ h3), h4⟩
theorem Grow.refl (w : World) (v : Value) : Grow w v w v := fun _ xs0 _ hr => ⟨xs0, hr, fun _ hx => .inl hx⟩
def RTo (b : Nat) (v : Value) (w : World) (v' : Value) (W : World) : Prop := Upd (fun k => k = b ∨ v.ownBlock = some k) w W ∧ (v'.ownBlock = v.ownBlock ∨ ∃ k, v'.ownBlock = some k ∧ w.heap.size ≤ k) ∧ Grow w v W v'
theorem RTo.trans {b : Nat} {v v' v'' : Value} {w W W' : World} (h : RTo b v w v' W) (h2 : RTo b v' W v'' W') : RTo b v w v'' W' := by
  refine ⟨h.1.then h2.1 (fun k hk e => e.imp id (fun e => ?_)), ?_, h.2.2.trans h2.2.2 h.1.size⟩
  · rcases h.2.1 with h3 | ⟨k', h3, h4⟩
    · rw [← h3]; exact e
    · rw [h3] at e
      have := Option.some.inj e; omega
  · rcases h2.2.1 with h3 | ⟨k', h3, h4⟩
    · rcases h.2.1 with h5 | ⟨k'', h5, h6⟩
      · exact .inl (h3.trans h5)
      · exact .inr ⟨k'', h3.trans h5, h6⟩
    · exact .inr ⟨k', h3, Nat.le_trans h.1.size h4⟩
theorem RTo.kept {b : Nat} {v : Value} {w W : World} (hu : Kept w W) : RTo b v w v W := ⟨hu.to, .inl rfl, (Grow.refl w v).upd hu (fun _ _ _ _ _ => id)⟩
theorem RefBook.turn {W W' : World} {B b : Nat} {v : Value} {n : Int} {xs : List SlC} {L : List Bytes} (h : RefBook W B b v n xs L) {g : Nat} {cs : Array Value} {t : TypeId} {fr : Nat × Nat} (hk : W.heap[g]? = some (.cells cs t fr)) (h1 : t ≠ 88) (h2 : t ≠ 42) (h3 : t ≠ 5) (hu : Upd (fun k => k = g) W W') : RefBook W' B b v n xs L := by
  have hf := h.far hk h1 h2; refine ⟨hu.heap h.blk (fun e => hf (.inl e.symm)), OwnRows.upd h.row hu (fun k e e2 => hf (.inr (by rw [e]; exact congrArg some e2))), h.len, fun i hi hi' => (h.each i hi hi').upd hu (fun k e e2 => ?_), h.sz⟩; obtain ⟨cur, hc⟩ := (h.each i hi hi').blk e; have e3 : k = g := e2; subst e3; rw [hk] at hc; simp only [Option.some.injEq, Obj.cells.injEq] at hc; exact h3 hc.2.1
theorem noteM_new {L : List Bytes} {R : Bytes} (h : R ∉ L) : noteM L R = L ++ [R] := by unfold noteM; rw [if_neg h]
set_option maxHeartbeats 1600000 in
set_option maxRecDepth 20000 in
theorem ref_BookOf {w : World} {B b : Nat} {v : Value} {n : Int} {xs : List SlC} {L : List Bytes} (h : RefBook w B b v n xs L) (hB : B ≤ w.heap.size) {vr : Value} {R : Bytes} {B' : Nat} (hR : OwnB w B' vr R) (hl : R.length ≤ 65536) (hcnt : L.length ≤ 100000) :
    Calls Tryz.prog 67 #[.pointer (some ⟨b, 0, none⟩), vr] w fun e W => e = .returned (.tuple #[.agg (dA (shaM R)), .int .i64 0]) ∧ ∃ v' n' xs', RefBook W B b v' n' xs' (noteM L R) ∧ RTo b v w v' W := by
  have HR0 := Lib.hid h.row; obtain ⟨A, c, rfl, hc, _⟩ := hR.form; have hk1 : Kept w (w.alloc (.cells (dA dig0) 23)) := (Upd.refl _ w).alloc _; have h1 := h.kept hk1; have hR1 := hR.kept hk1; have hr1 : Blk (w.alloc (.cells (dA dig0) 23)) w.heap.size 23 (encB dig0.1) := Blk.new w _ _; generalize hW1 : w.alloc (.cells (dA dig0) 23) = w1 at *; have c1 := h1.c1; have z1 := h1.thaw 1; obtain ⟨nn, hnn⟩ : ∃ nn, nn = wrap64 (n + 1) := ⟨_, rfl⟩; have h2 := h1.count nn; have hu2 : Upd (fun k => k = b) w1 (w1.setCell ⟨b, 1, none⟩ (.int .i64 nn)) := (Upd.refl _ _).setCell (p := ⟨b, 1, none⟩) _ fun _ => rfl; have hr2 := hr1.upd hu2 (fun e => h1.far hr1 (by decide) (by decide) (.inl e)); have hR2 : OwnB (w1.setCell ⟨b, 1, none⟩ (.int .i64 nn)) B' (.slice A R.length c) R := hR1.upd hu2 (fun k e e2 => by
    obtain ⟨cur, hc⟩ := hR1.blk e; have e3 : k = b := e2; subst e3; rw [h1.blk] at hc; simp only [Option.some.injEq, Obj.cells.injEq] at hc; exact absurd hc.2.1 (by decide))
  have hU2 : Upd (fun k => k = b ∨ v.ownBlock = some k) w (w1.setCell ⟨b, 1, none⟩ (.int .i64 nn)) := hk1.to.trans (hu2.mono fun k _ e => .inl e); have hd1 : decide ((65536 : Int) < (R.length : Int)) = false := decide_eq_false (by omega); have hd2 : decide (65536 < R.length) = false := decide_eq_false (by omega); have HX := Lib.hid (And.intro h2 (And.intro hr2 (And.intro hR2 (And.intro hU2 (And.intro hl (And.intro hcnt hB)))))); clear h hR hk1 h1 hR1 hr1 h2 hu2 hr2 hR2 hU2 hl hcnt hB
  go_enter Tryz.func67, Tryz.ntmps67
  go_wp2_with fail; rw [← hnn]; obtain ⟨A9, c9, hA9, hc9, hby⟩ := HX.out.2.2.1.form; simp only [Value.slice.injEq] at hA9; obtain ⟨rfl, -, rfl⟩ := hA9; clear c1 z1 hd1 hd2 hnn; refine (ref_ShaOf c hby (by have := HX.out.2.2.2.2.1; omega)).mono ?_; rintro e w3 ⟨rfl, hu3⟩; obtain ⟨d, hd⟩ : ∃ d, d = shaM R := ⟨_, rfl⟩; rw [← hd]; have HDD := Lib.hid hd; clear hd hby; have hd4 : Blk (w3.alloc (.cells (dA d) 23)) w3.heap.size 23 (encB (d).1) := Blk.new w3 _ _; have hk4 : Kept w3 (w3.alloc (.cells (dA d) 23)) := (Upd.refl _ w3).alloc _; have hk34 : Kept (w1.setCell ⟨b, 1, none⟩ (.int .i64 nn)) (w3.alloc (.cells (dA d) 23)) := hu3.then hk4 (fun _ _ h => h); have HY := Lib.hid (And.intro (HX.out.1.kept hk34) (And.intro (HX.out.2.1.kept hk34) (And.intro (HX.out.2.2.1.kept hk34) (And.intro (show Upd (fun k => k = b ∨ v.ownBlock = some k) w _ from HX.out.2.2.2.1.trans hk34.to) hd4)))); have HN := Lib.hid (And.intro HX.out.2.2.2.2.1 (And.intro HX.out.2.2.2.2.2.1 HX.out.2.2.2.2.2.2)); clear hu3 hk34 hd4 hk4 HX; obtain ⟨A0, c0, hv0⟩ := OwnRows.form HY.out.1.row; have hxl := HY.out.1.len; go_wp2_with fail; generalize w3.heap.size = g6 at *; generalize w3.alloc (.cells (dA d) 23) = w4 at *
  go_loopw [7] (fun u wr => ∃ i : Nat, i ≤ L.length ∧ u = .int .i64 i ∧ (∀ r ∈ L.take i, r ≠ R) ∧ Kept w4 wr) (fun u _ => 200000 - (intOf u).toNat)
  case atStart => exact ⟨0, Nat.zero_le _, rfl, by simp, Upd.refl _ _⟩
  case round =>
    obtain ⟨i, hi, rfl, hno, hu⟩ := hrel; have hb := HY.out.1.kept hu; have hc0 := hb.c0; rw [hv0, hxl] at hc0; have hi5 : (i : Int) ≤ 100000 := by have := HN.out.2.1; omega
    rcases Nat.lt_or_ge i L.length with hlt | hge
    · have hi1 : (i : Int) < (L.length : Int) := by omega
      have hix : i < xs.length := by rw [hxl]; exact hlt
      obtain ⟨g, cc, hv, -, -, hcell⟩ := hb.row.cell hix; rw [hv0] at hv; simp only [Value.slice.injEq] at hv; obtain ⟨rfl, -, rfl⟩ := hv; obtain ⟨Ai, ci, hxi, -, hbi⟩ := (hb.each i hix hlt).form; rw [hxi] at hcell; obtain ⟨A9, c9, hA9, -, hbR⟩ := (HY.out.2.2.1.kept hu).form; simp only [Value.slice.injEq] at hA9; obtain ⟨rfl, -, rfl⟩ := hA9; have hLi : L[i].length ≤ 65536 := hb.sz _ (List.getElem_mem hlt); have hnext : L[i] ≠ R → ∀ r ∈ L.take (i + 1), r ≠ R := fun hne r hr => by
        rw [List.take_succ_eq_append_getElem hlt] at hr; rcases List.mem_append.1 hr with h1 | h1
        · exact hno r h1
        · simp only [List.mem_singleton] at h1; rw [h1]; exact hne
      have hmem : L[i] = R → R ∈ L := fun e => e ▸ List.getElem_mem hlt; have HZ := Lib.hid (And.intro hbi (And.intro hbR (And.intro hLi (And.intro hnext (And.intro hmem (And.intro hlt hu)))))); generalize L[i] = Li at *; clear hbi hbR hLi hnext hmem hno hlt hix hxi hb hu hi; go_wp2_with fail; refine (ref_EqBytes ci c HZ.out.1 HZ.out.2.1 (by have := HZ.out.2.2.1; omega) (by have := HN.out.1; omega)).mono ?_; rintro e w5 ⟨rfl, hu5⟩; have hk5 : Kept w4 w5 := HZ.out.2.2.2.2.2.2.then hu5 (fun _ _ h => h); clear hu5 hc0 hcell
      by_cases he : Li = R
      · rw [decide_eq_true he]
        have hd5 := HY.out.2.2.2.2.kept hk5; have hr5 := HY.out.2.1.kept hk5; have hb5 := HY.out.1.kept hk5; obtain ⟨p1, p2⟩ := dig_at hd5; obtain ⟨hrb, hs1, hs2⟩ := dig_end d hr5; have HF : Hid (RefBook (w5.setRow w.heap.size (dA d)) B b v nn xs (noteM L R) ∧ RTo b v w v (w5.setRow w.heap.size (dA d))) := by
          have hT := hb5.turn hr5 (by decide) (by decide) (by decide) ((Upd.refl _ w5).setRow w.heap.size (dA d) fun _ => rfl); refine ⟨?_, ?_, .inl rfl, Grow.of HR0.out hT.row (fun k e => .inl e) (fun x hx => .inl hx)⟩
          · rw [noteM_mem (HZ.out.2.2.2.2.1 he)]
            exact hT
          · exact (HY.out.2.2.2.1.trans hk5.to).setRow _ _ (fun h => absurd h (Nat.lt_irrefl _))
        have HG := Lib.hid (And.intro hs1 hs2); clear hd5 hr5 hb5 hs1 hs2 hk5 he; go_wp2; refine bodyPost_ret (v := .tuple #[.agg (dA d), .int .i64 0]) ?_ rfl (by rw [← HDD.out]; exact ⟨rfl, _, _, _, HF.out⟩); rw [results_seg2 (P := Tryz.prog) (fn := Tryz.f67) (p := 4) (t := 5) (ty := 23) rfl _ _ ⟨w.heap.size, 0, none⟩ 32 _ (.int .i64 0) rfl rfl Tryz.underlying23 rfl sizeOf23 HG.out.1, HG.out.2]
      · rw [decide_eq_false he]
        have HK := Lib.hid (And.intro (HZ.out.2.2.2.1 he) (And.intro hk5 HZ.out.2.2.2.2.2.1)); clear he hk5 HZ; go_wp2
        go_roundw
        case rel => exact ⟨i + 1, by have := HK.out.2.2; omega, by show _ = _; go_num, HK.out.1, HK.out.2.1⟩
        case measure => have := HK.out.2.2; have := HN.out.2.1; simp [intOf]; omega
    · obtain hiL : i = L.length := by omega
      have hi1 : ¬ ((i : Int) < (L.length : Int)) := by omega
      have hnot : R ∉ L := fun hm => hno R (by rw [hiL, List.take_length]; exact hm) rfl; have HNO := Lib.hid (noteM_new hnot); have HU0 := Lib.hid (show Upd (fun k => k = b ∨ v.ownBlock = some k) w wr from HY.out.2.2.2.1.trans hu.to); have HB0 := Lib.hid (And.intro hb (And.intro (HY.out.2.2.1.kept hu) (And.intro (HY.out.2.1.kept hu) (HY.out.2.2.2.2.kept hu)))); have hBs : B ≤ wr.heap.size := by have := HN.out.2.2; have := HU0.out.size; omega
      have HV0 := Lib.hid (show Value.slice A0 L.length c0 = v by rw [hv0, hxl]); have HXL := Lib.hid hxl; have HD := Lib.hid (And.intro HB0.out.2.2.2 (And.intro HB0.out.2.2.1 HB0.out.1)); clear hiL hnot hno hge hi hb hu HY hi5 hxl hv0; go_wp2_with fail; clear hi1; refine wp_region_tree (.take 0 (.take 1 (.take 2 (.take 3 (.take 5 (.two 4 6 (.one 6 (.one 7 (.one 8 (.take 9 (.take 10 (.one 11 .done)))))) (.two 4 7 (.one 7 (.one 8 (.take 9 (.take 10 (.one 11 .done))))) (.one 4 (.one 8 (.take 9 (.take 10 (.one 11 .done)))))))))))) (by kernel_rfl) (by kernel_rfl) (Upd (fun k => k = b ∨ v.ownBlock = some k) wr) ((Upd.refl _ _).drew) ?_; simp only [OT.ops, List.getD_cons_zero, List.getD_cons_succ]
      iterate 5 (refine wpOO_held (fun K hK => ?_); go_simp; first | (apply Exists.intro; refine ⟨fun W hW => ?_, hK _ ?_⟩; (go_simp; first | done | exact rfl); clear hK K) | (refine hK _ ?_; clear hK K))
      have hS3 : Upd (fun k => k = b ∨ v.ownBlock = some k) wr wr.drew := (Upd.refl _ _).drew; have hk3 : Kept wr wr.drew := (Upd.refl _ _).drew; have hN3 := HB0.out.1.kept hk3; obtain ⟨A9, c9, hA9, -, hbR⟩ := (HB0.out.2.1.kept hk3).form; simp only [Value.slice.injEq] at hA9; obtain ⟨rfl, -, rfl⟩ := hA9; have hB3 : B ≤ wr.drew.heap.size := hBs; have d3 : wr.drew.cell? ⟨b, 0, none⟩ = some (.slice A0 L.length c0) := by rw [hN3.c0, HV0.out]
      clear hc0 hk3 hBs; generalize wr.drew = W3 at *; have HG3 := ref_CopyBytes c hbR (by have := HN.out.1; omega); refine wpOO_fork (fun K hK => ?_) (fun K hK => ?_) hS3
      · go_simp
        refine hK _ _ hS3 ?_; clear hK K; refine wpOO_step (fun K hK => ?_) hS3; go_simp; refine HG3.mono ?_; clear HG3; rintro e W4 ⟨vy, rfl, hOy, hu4⟩; have hfr : ∀ k, vy.ownBlock = some k → w.heap.size ≤ k := fun k e => Nat.le_trans (Nat.le_trans HU0.out.size hS3.size) (hOy.far k e).1; obtain ⟨Ay, cy, rfl, -, -⟩ := hOy.form; have HFR := Lib.hid hfr; clear hfr; have hS4 : Upd (fun k => k = b ∨ v.ownBlock = some k) wr W4 := hS3.then hu4 fun _ _ h => h.elim; have hS5 : Upd (fun k => k = b ∨ v.ownBlock = some k) wr (W4.alloc (.cells (slA ⟨Ay, R.length, cy⟩) 42)) := hS4.alloc _; have hk5 : Kept W4 (W4.alloc (.cells (slA ⟨Ay, R.length, cy⟩) 42)) := (Upd.refl _ W4).alloc _; have hN5 := (hN3.kept hu4).kept hk5; have hg5 := heap_alloc_new W4 (.cells (slA ⟨Ay, R.length, cy⟩) 42); have hB5 : B ≤ (W4.alloc (.cells (slA ⟨Ay, R.length, cy⟩) 42)).heap.size := Nat.le_trans hB3 (Nat.le_trans hu4.size hk5.size); have hO5 : OwnB (W4.alloc (.cells (slA ⟨Ay, R.length, cy⟩) 42)) B (SlC.v ⟨Ay, R.length, cy⟩) R := (OwnB.base hOy hB3).kept hk5; have d4 : W4.cell? ⟨b, 0, none⟩ = some (.slice A0 L.length c0) := hu4.cell d3 id; have d5 : (W4.alloc (.cells (slA ⟨Ay, R.length, cy⟩) 42)).cell? ⟨b, 0, none⟩ = some (.slice A0 L.length c0) := hk5.cell d4 id; clear hk5 hOy hu4 hN3 d3 hS3 hbR hB3; refine hK _ _ hS4 ?_; clear hK K; refine wpOO_step (fun K hK => ?_) hS4; go_simp; refine hK _ _ hS5 ?_; clear hK K; refine wpOO_step (fun K hK => ?_) hS5; refine step_append_rows bs_rows rfl (.tmp 45) (.tmp 48) rfl HV0.out hN5.row ⟨Ay, R.length, cy⟩ W4.heap.size 1 _ _ rfl hg5 (by have := HN.out.2.1; have := HXL.out; unfold maxLen; omega) (by have := HN.out.2.1; have := HXL.out; omega) hB5 ?_; intro v' W' hrows hu' hnew; have hS6 : Upd (fun k => k = b ∨ v.ownBlock = some k) wr W' := hS5.then hu' fun _ _ h => .inr h; have hbk := hu'.heap hN5.blk hN5.own_ne; have hc' : W'.cell? ⟨b, 0, none⟩ = some v := by rw [cell_of_row _ _ _ _ _ _ hbk]; rfl
        have hf' : W'.frozen? ⟨b, 0, none⟩ = false := frozen_of_row W' b 0 _ _ hbk; refine hK _ _ hS6 ?_; clear hK K
        iterate 2 (refine wpOO_held (fun K hK => ?_); go_simp; first | (apply Exists.intro; refine ⟨fun W hW => ?_, hK _ ?_⟩; (go_simp; first | done | exact rfl); clear hK K) | (refine hK _ ?_; clear hK K))
        refine wpOO_step (fun K hK => ?_) hS6; obtain ⟨A', m', c', rfl⟩ : ∃ A' m' c', v' = .slice A' m' c' := by
          obtain ⟨A', c', h⟩ := OwnRows.form hrows; exact ⟨A', _, c', h⟩
        go_simp; refine hK _ _ (hS6.setCell (p := ⟨b, 0, none⟩) _ fun _ => .inl rfl) ?_; clear hK K; refine wpOO_nil ?_; have hput := hN5.put hrows hu' hO5 HN.out.1; have hS7 : Upd (fun k => k = b ∨ v.ownBlock = some k) wr (W'.setCell ⟨b, 0, none⟩ (.slice A' m' c')) := hS6.setCell (p := ⟨b, 0, none⟩) _ fun _ => .inl rfl; have hd7 := HD.out.1.upd hS7 (HD.out.2.2.far HD.out.1 (by decide) (by decide)); have hr7 := HD.out.2.1.upd hS7 (HD.out.2.2.far HD.out.2.1 (by decide) (by decide)); obtain ⟨p1, p2⟩ := dig_at hd7; obtain ⟨hrb, hs1, hs2⟩ := dig_end d hr7; have HF : Hid (RefBook ((W'.setCell ⟨b, 0, none⟩ (.slice A' m' c')).setRow w.heap.size (dA d)) B b (.slice A' m' c') nn (xs ++ [(⟨Ay, R.length, cy⟩ : SlC)]) (L ++ [R]) ∧ RTo b v w (.slice A' m' c') ((W'.setCell ⟨b, 0, none⟩ (.slice A' m' c')).setRow w.heap.size (dA d))) := by
          have hT := hput.turn hr7 (by decide) (by decide) (by decide) ((Upd.refl _ _).setRow w.heap.size (dA d) fun _ => rfl); refine ⟨hT, ?_, ?_, Grow.of HR0.out hT.row (fun k e => ?_) (fun x hx => ?_)⟩
          · exact (HU0.out.trans hS7).setRow _ _ (fun h => absurd h (Nat.lt_irrefl _))
          · rcases hnew with h1 | h1
            · exact .inl h1
            · refine .inr ⟨_, h1, ?_⟩
              have := HU0.out.size; have := hS5.size; omega
          · rcases hnew with h1 | h1
            · rw [h1] at e; exact .inl e
            · rw [h1] at e
              have := Option.some.inj e; have := HU0.out.size; have := hS5.size; exact .inr (by omega)
          · rcases List.mem_append.1 hx with h1 | h1
            · exact .inl h1
            · simp only [List.mem_singleton] at h1
              rw [h1]; exact .inr HFR.out
        have HG := Lib.hid (And.intro hs1 hs2); clear hput hS7 hd7 hr7 hS6 hbk hc' hf' hu' hnew hrows hS5 hN5 hO5 hg5 hB5 hs1 hs2; generalize (W'.setCell ⟨b, 0, none⟩ (.slice A' m' c')) = W9 at *; go_wp2; refine bodyPost_ret (v := .tuple #[.agg (dA d), .int .i64 0]) ?_ rfl (by rw [← HDD.out, HNO.out]; exact ⟨rfl, _, _, _, HF.out⟩); rw [results_seg2 (P := Tryz.prog) (fn := Tryz.f67) (p := 4) (t := 5) (ty := 23) rfl _ _ ⟨w.heap.size, 0, none⟩ 32 _ (.int .i64 0) rfl rfl Tryz.underlying23 rfl sizeOf23 HG.out.1, HG.out.2]
      · go_simp
        refine HG3.mono ?_; clear HG3; rintro e W4 ⟨vy, rfl, hOy, hu4⟩; have hfr : ∀ k, vy.ownBlock = some k → w.heap.size ≤ k := fun k e => Nat.le_trans (Nat.le_trans HU0.out.size hS3.size) (hOy.far k e).1; obtain ⟨Ay, cy, rfl, -, -⟩ := hOy.form; have HFR := Lib.hid hfr; clear hfr; have hS4 : Upd (fun k => k = b ∨ v.ownBlock = some k) wr W4 := hS3.then hu4 fun _ _ h => h.elim; have hS5 : Upd (fun k => k = b ∨ v.ownBlock = some k) wr (W4.alloc (.cells (slA ⟨Ay, R.length, cy⟩) 42)) := hS4.alloc _; have hk5 : Kept W4 (W4.alloc (.cells (slA ⟨Ay, R.length, cy⟩) 42)) := (Upd.refl _ W4).alloc _; have hN5 := (hN3.kept hu4).kept hk5; have hg5 := heap_alloc_new W4 (.cells (slA ⟨Ay, R.length, cy⟩) 42); have hB5 : B ≤ (W4.alloc (.cells (slA ⟨Ay, R.length, cy⟩) 42)).heap.size := Nat.le_trans hB3 (Nat.le_trans hu4.size hk5.size); have hO5 : OwnB (W4.alloc (.cells (slA ⟨Ay, R.length, cy⟩) 42)) B (SlC.v ⟨Ay, R.length, cy⟩) R := (OwnB.base hOy hB3).kept hk5; have d4 : W4.cell? ⟨b, 0, none⟩ = some (.slice A0 L.length c0) := hu4.cell d3 id; have d5 : (W4.alloc (.cells (slA ⟨Ay, R.length, cy⟩) 42)).cell? ⟨b, 0, none⟩ = some (.slice A0 L.length c0) := hk5.cell d4 id; clear hk5 hOy hu4 hN3 d3 hS3 hbR hB3; refine hK _ _ hS4 ?_; clear hK K; refine wpOO_fork (fun K hK => ?_) (fun K hK => ?_) hS4
        · go_simp
          refine hK _ _ hS4 ?_; clear hK K; refine wpOO_step (fun K hK => ?_) hS4; go_simp; refine hK _ _ hS5 ?_; clear hK K; refine wpOO_step (fun K hK => ?_) hS5; refine step_append_rows bs_rows rfl (.tmp 45) (.tmp 48) rfl HV0.out hN5.row ⟨Ay, R.length, cy⟩ W4.heap.size 1 _ _ rfl hg5 (by have := HN.out.2.1; have := HXL.out; unfold maxLen; omega) (by have := HN.out.2.1; have := HXL.out; omega) hB5 ?_; intro v' W' hrows hu' hnew; have hS6 : Upd (fun k => k = b ∨ v.ownBlock = some k) wr W' := hS5.then hu' fun _ _ h => .inr h; have hbk := hu'.heap hN5.blk hN5.own_ne; have hc' : W'.cell? ⟨b, 0, none⟩ = some v := by rw [cell_of_row _ _ _ _ _ _ hbk]; rfl
          have hf' : W'.frozen? ⟨b, 0, none⟩ = false := frozen_of_row W' b 0 _ _ hbk; refine hK _ _ hS6 ?_; clear hK K
          iterate 2 (refine wpOO_held (fun K hK => ?_); go_simp; first | (apply Exists.intro; refine ⟨fun W hW => ?_, hK _ ?_⟩; (go_simp; first | done | exact rfl); clear hK K) | (refine hK _ ?_; clear hK K))
          refine wpOO_step (fun K hK => ?_) hS6; obtain ⟨A', m', c', rfl⟩ : ∃ A' m' c', v' = .slice A' m' c' := by
            obtain ⟨A', c', h⟩ := OwnRows.form hrows; exact ⟨A', _, c', h⟩
          go_simp; refine hK _ _ (hS6.setCell (p := ⟨b, 0, none⟩) _ fun _ => .inl rfl) ?_; clear hK K; refine wpOO_nil ?_; have hput := hN5.put hrows hu' hO5 HN.out.1; have hS7 : Upd (fun k => k = b ∨ v.ownBlock = some k) wr (W'.setCell ⟨b, 0, none⟩ (.slice A' m' c')) := hS6.setCell (p := ⟨b, 0, none⟩) _ fun _ => .inl rfl; have hd7 := HD.out.1.upd hS7 (HD.out.2.2.far HD.out.1 (by decide) (by decide)); have hr7 := HD.out.2.1.upd hS7 (HD.out.2.2.far HD.out.2.1 (by decide) (by decide)); obtain ⟨p1, p2⟩ := dig_at hd7; obtain ⟨hrb, hs1, hs2⟩ := dig_end d hr7; have HF : Hid (RefBook ((W'.setCell ⟨b, 0, none⟩ (.slice A' m' c')).setRow w.heap.size (dA d)) B b (.slice A' m' c') nn (xs ++ [(⟨Ay, R.length, cy⟩ : SlC)]) (L ++ [R]) ∧ RTo b v w (.slice A' m' c') ((W'.setCell ⟨b, 0, none⟩ (.slice A' m' c')).setRow w.heap.size (dA d))) := by
            have hT := hput.turn hr7 (by decide) (by decide) (by decide) ((Upd.refl _ _).setRow w.heap.size (dA d) fun _ => rfl); refine ⟨hT, ?_, ?_, Grow.of HR0.out hT.row (fun k e => ?_) (fun x hx => ?_)⟩
            · exact (HU0.out.trans hS7).setRow _ _ (fun h => absurd h (Nat.lt_irrefl _))
            · rcases hnew with h1 | h1
              · exact .inl h1
              · refine .inr ⟨_, h1, ?_⟩
                have := HU0.out.size; have := hS5.size; omega
            · rcases hnew with h1 | h1
              · rw [h1] at e; exact .inl e
              · rw [h1] at e
                have := Option.some.inj e; have := HU0.out.size; have := hS5.size; exact .inr (by omega)
            · rcases List.mem_append.1 hx with h1 | h1
              · exact .inl h1
              · simp only [List.mem_singleton] at h1
                rw [h1]; exact .inr HFR.out
          have HG := Lib.hid (And.intro hs1 hs2); clear hput hS7 hd7 hr7 hS6 hbk hc' hf' hu' hnew hrows hS5 hN5 hO5 hg5 hB5 hs1 hs2; generalize (W'.setCell ⟨b, 0, none⟩ (.slice A' m' c')) = W9 at *; go_wp2; refine bodyPost_ret (v := .tuple #[.agg (dA d), .int .i64 0]) ?_ rfl (by rw [← HDD.out, HNO.out]; exact ⟨rfl, _, _, _, HF.out⟩); rw [results_seg2 (P := Tryz.prog) (fn := Tryz.f67) (p := 4) (t := 5) (ty := 23) rfl _ _ ⟨w.heap.size, 0, none⟩ 32 _ (.int .i64 0) rfl rfl Tryz.underlying23 rfl sizeOf23 HG.out.1, HG.out.2]
        · go_simp
          refine hK _ _ hS5 ?_; clear hK K; refine wpOO_step (fun K hK => ?_) hS5; go_simp; refine hK _ _ hS5 ?_; clear hK K; refine wpOO_step (fun K hK => ?_) hS5; refine step_append_rows bs_rows rfl (.tmp 45) (.tmp 48) rfl HV0.out hN5.row ⟨Ay, R.length, cy⟩ W4.heap.size 1 _ _ rfl hg5 (by have := HN.out.2.1; have := HXL.out; unfold maxLen; omega) (by have := HN.out.2.1; have := HXL.out; omega) hB5 ?_; intro v' W' hrows hu' hnew; have hS6 : Upd (fun k => k = b ∨ v.ownBlock = some k) wr W' := hS5.then hu' fun _ _ h => .inr h; have hbk := hu'.heap hN5.blk hN5.own_ne; have hc' : W'.cell? ⟨b, 0, none⟩ = some v := by rw [cell_of_row _ _ _ _ _ _ hbk]; rfl
          have hf' : W'.frozen? ⟨b, 0, none⟩ = false := frozen_of_row W' b 0 _ _ hbk; refine hK _ _ hS6 ?_; clear hK K
          iterate 2 (refine wpOO_held (fun K hK => ?_); go_simp; first | (apply Exists.intro; refine ⟨fun W hW => ?_, hK _ ?_⟩; (go_simp; first | done | exact rfl); clear hK K) | (refine hK _ ?_; clear hK K))
          refine wpOO_step (fun K hK => ?_) hS6; obtain ⟨A', m', c', rfl⟩ : ∃ A' m' c', v' = .slice A' m' c' := by
            obtain ⟨A', c', h⟩ := OwnRows.form hrows; exact ⟨A', _, c', h⟩
          go_simp; refine hK _ _ (hS6.setCell (p := ⟨b, 0, none⟩) _ fun _ => .inl rfl) ?_; clear hK K; refine wpOO_nil ?_; have hput := hN5.put hrows hu' hO5 HN.out.1; have hS7 : Upd (fun k => k = b ∨ v.ownBlock = some k) wr (W'.setCell ⟨b, 0, none⟩ (.slice A' m' c')) := hS6.setCell (p := ⟨b, 0, none⟩) _ fun _ => .inl rfl; have hd7 := HD.out.1.upd hS7 (HD.out.2.2.far HD.out.1 (by decide) (by decide)); have hr7 := HD.out.2.1.upd hS7 (HD.out.2.2.far HD.out.2.1 (by decide) (by decide)); obtain ⟨p1, p2⟩ := dig_at hd7; obtain ⟨hrb, hs1, hs2⟩ := dig_end d hr7; have HF : Hid (RefBook ((W'.setCell ⟨b, 0, none⟩ (.slice A' m' c')).setRow w.heap.size (dA d)) B b (.slice A' m' c') nn (xs ++ [(⟨Ay, R.length, cy⟩ : SlC)]) (L ++ [R]) ∧ RTo b v w (.slice A' m' c') ((W'.setCell ⟨b, 0, none⟩ (.slice A' m' c')).setRow w.heap.size (dA d))) := by
            have hT := hput.turn hr7 (by decide) (by decide) (by decide) ((Upd.refl _ _).setRow w.heap.size (dA d) fun _ => rfl); refine ⟨hT, ?_, ?_, Grow.of HR0.out hT.row (fun k e => ?_) (fun x hx => ?_)⟩
            · exact (HU0.out.trans hS7).setRow _ _ (fun h => absurd h (Nat.lt_irrefl _))
            · rcases hnew with h1 | h1
              · exact .inl h1
              · refine .inr ⟨_, h1, ?_⟩
                have := HU0.out.size; have := hS5.size; omega
            · rcases hnew with h1 | h1
              · rw [h1] at e; exact .inl e
              · rw [h1] at e
                have := Option.some.inj e; have := HU0.out.size; have := hS5.size; exact .inr (by omega)
            · rcases List.mem_append.1 hx with h1 | h1
              · exact .inl h1
              · simp only [List.mem_singleton] at h1
                rw [h1]; exact .inr HFR.out
          have HG := Lib.hid (And.intro hs1 hs2); clear hput hS7 hd7 hr7 hS6 hbk hc' hf' hu' hnew hrows hS5 hN5 hO5 hg5 hB5 hs1 hs2; generalize (W'.setCell ⟨b, 0, none⟩ (.slice A' m' c')) = W9 at *; go_wp2; refine bodyPost_ret (v := .tuple #[.agg (dA d), .int .i64 0]) ?_ rfl (by rw [← HDD.out, HNO.out]; exact ⟨rfl, _, _, _, HF.out⟩); rw [results_seg2 (P := Tryz.prog) (fn := Tryz.f67) (p := 4) (t := 5) (ty := 23) rfl _ _ ⟨w.heap.size, 0, none⟩ 32 _ (.int .i64 0) rfl rfl Tryz.underlying23 rfl sizeOf23 HG.out.1, HG.out.2]
end Go.Proofs.YtepjbijhkkjbfaaGreat
namespace Go.Proofs.YtepjbijhkkjbfaaGreat
open Go.RowKit
theorem own_not {W : World} {v : Value} {g t : Nat} {vs : List Value} (hb : Blk W g t vs) (ht : t ≠ 42) (B : Nat) (xs : List SlC) (h : OwnS W B v xs) (k : Nat) (e : v.ownBlock = some k) : ¬ k = g := fun e2 => by
  obtain ⟨cur, hc⟩ := own_cells h e; have h2 : W.heap[k]? = some (.cells vs.toArray t (0, 0)) := by rw [e2]; exact hb
  rw [hc] at h2; simp only [Option.some.injEq, Obj.cells.injEq] at h2; exact ht h2.2.1.symm
theorem RTo.setRow {b : Nat} {v v' : Value} {w W : World} (h : RTo b v w v' W) (g : Nat) (hg : w.heap.size ≤ g) (cs : Array Value) {t : Nat} {vs : List Value} (hb : Blk W g t vs) (ht : t ≠ 42) : RTo b v w v' (W.setRow g cs) := ⟨h.1.setRow _ _ (fun h => absurd h (by omega)), h.2.1, h.2.2.upd ((Upd.refl (fun k => k = g) W).setRow g cs fun _ => rfl) (own_not hb ht)⟩
theorem RTo.alloc {b : Nat} {v v' : Value} {w W : World} (h : RTo b v w v' W) (o : Obj) : RTo b v w v' (W.alloc o) := ⟨h.1.alloc _, h.2.1, h.2.2.upd ((Upd.refl (fun _ => False) W).alloc o) (fun _ _ _ _ _ => id)⟩
set_option maxHeartbeats 800000 in
set_option maxRecDepth 20000 in
theorem ref_Leaf {w : World} {B b : Nat} {v : Value} {n : Int} {xs : List SlC} {L : List Bytes} (h : RefBook w B b v n xs L) (hB : B ≤ w.heap.size) {A : Option Addr} {R : Bytes} (c : Nat) (hR : Byt w A R) (hl : R.length < 65536) (hcnt : L.length ≤ 100000) :
    Calls Tryz.prog 52 #[.pointer (some ⟨b, 0, none⟩), .slice A R.length c] w fun e W => e = .returned (.tuple #[.agg (dA (leafM shaM R)), .int .i64 0]) ∧ ∃ v' n' xs', RefBook W B b v' n' xs' (noteM L (leafIn R)) ∧ RTo b v w v' W := by
  have hr1 : Blk (w.alloc (.cells (dA dig0) 23)) w.heap.size 23 (encB dig0.1) := Blk.new w _ _; have hk1 : Kept w (w.alloc (.cells (dA dig0) 23)) := (Upd.refl _ w).alloc _; generalize hW1 : w.alloc (.cells (dA dig0) 23) = w1 at *; obtain ⟨v0, w2, hbs, hB2, hk2⟩ := run_bs1 0 w1
  change (sliceRow 42 1 #[(0, .int .u8 0)]).run Tryz.prog w1 = _ at hbs
  have HX := Lib.hid (And.intro h (And.intro (hR.kept hk1) (And.intro hr1 (And.intro hk1 (And.intro hB hcnt))))); have HB := Lib.hid (And.intro hB2 hk2); clear h hR hr1 hk1 hB2 hk2 hB hcnt; have hl' : decide ((65536 : Int) ≤ ((R.length : Nat) : Int)) = false := by rw [decide_eq_false_iff_not]; omega
  have HLE := Lib.hid hl; clear hl
  go_enter Tryz.func52, Tryz.ntmps52
  go_wp2_with (at_builtin; refine wpList_append_bytes rfl (.tmp 11) (.tmp 12) rfl rfl HB.out.1 A c rfl (HX.out.2.1.kept HB.out.2) (by have := HLE.out; simp only [List.length_singleton]; omega) HB.out.2.size ?_; intro v' w3 hown hu3); have hr3 : Blk w3 w.heap.size 23 (encB dig0.1) := (HX.out.2.2.1.kept HB.out.2).upd hu3 (fun e => by have := (HB.out.1.far _ e).1; have := HX.out.2.2.1.lt; omega); have hk3 : Kept w w3 := (HX.out.2.2.2.1.then HB.out.2 fun _ _ h => h).then hu3 (fun i hi e => by have := (HB.out.1.far _ e).1; have := HX.out.2.2.2.1.size; omega); have hlen : ((0 : UInt8) :: R).length ≤ 65536 := by have := HLE.out; rw [List.length_cons]; omega
  have HG := ref_BookOf (R := leafIn R) (HX.out.1.kept hk3) (by have := HX.out.2.2.2.2.1; have := hk3.size; omega) hown hlen HX.out.2.2.2.2.2; rw [show shaM (leafIn R) = leafM shaM R from rfl] at HG; have HT := Lib.hid (And.intro (HX.out.1.kept hk3) (And.intro hr3 hk3)); clear hr3 hk3 hown hu3 HX HB hbs hW1 hlen; generalize hD : leafM shaM R = D at *; have HDD := Lib.hid hD; clear hD; refine HG.mono ?_; clear HG; rintro e w4 ⟨rfl, v4, n4, xs4, hb4, ht4⟩; have hr4 := HT.out.2.1.upd ht4.1 (HT.out.1.far HT.out.2.1 (by decide) (by decide)); have hto4 := (RTo.kept (b := b) (v := v) HT.out.2.2).trans ht4; clear ht4 HT; obtain ⟨hrb, hs1, hs2⟩ := dig_end D hr4; have HF : Hid (RefBook (w4.setRow w.heap.size (dA D)) B b v4 n4 xs4 (noteM L (leafIn R)) ∧ RTo b v w v4 (w4.setRow w.heap.size (dA D))) :=
    ⟨hb4.turn hr4 (by decide) (by decide) (by decide) ((Upd.refl _ _).setRow _ _ fun _ => rfl), (hto4.setRow _ (Nat.le_refl _) _ hr4 (by decide))⟩
  have HG := Lib.hid (And.intro hs1 hs2); clear hb4 hto4 hr4 hs1 hs2; go_wp2; refine bodyPost_ret (v := .tuple #[.agg (dA D), .int .i64 0]) ?_ rfl (by rw [HDD.out]; exact ⟨rfl, _, _, _, HF.out⟩); rw [results_seg2 (P := Tryz.prog) (fn := Tryz.f52) (p := 4) (t := 5) (ty := 23) rfl _ _ ⟨w.heap.size, 0, none⟩ 32 _ (.int .i64 0) rfl rfl Tryz.underlying23 rfl sizeOf23 HG.out.1, HG.out.2]
set_option maxHeartbeats 800000 in
set_option maxRecDepth 20000 in
theorem ref_Leaf_long {w : World} {p A : Option Addr} {n : Nat} (c : Nat) (hn : 65536 ≤ n) :
    Calls Tryz.prog 52 #[.pointer p, .slice A n c] w fun e W => e = .returned (.tuple #[.agg (dA dig0), .int .i64 5]) ∧ Kept w W := by
  have hr1 : Blk (w.alloc (.cells (dA dig0) 23)) w.heap.size 23 (encB dig0.1) := Blk.new w _ _; have hk1 : Kept w (w.alloc (.cells (dA dig0) 23)) := (Upd.refl _ w).alloc _; generalize hW1 : w.alloc (.cells (dA dig0) 23) = w1 at *; obtain ⟨hrb, hs1, hs2⟩ := dig_end dig0 hr1; have HF : Hid (Kept w (w1.setRow w.heap.size (dA dig0)) ∧ segB (w1.setRow w.heap.size (dA dig0)) ⟨w.heap.size, 0, none⟩ 32 = true ∧ segV (w1.setRow w.heap.size (dA dig0)) ⟨w.heap.size, 0, none⟩ 32 = dA dig0) := ⟨Upd.setRow hk1 _ _ (fun h => absurd h (Nat.lt_irrefl _)), hs1, hs2⟩; clear hs1 hs2; clear hr1 hk1; have hd1 : decide ((65536 : Int) ≤ (n : Int)) = true := by rw [decide_eq_true_iff]; omega
  have hd2 : decide (65536 ≤ n) = true := by rw [decide_eq_true_iff]; omega
  clear hn
  go_enter Tryz.func52, Tryz.ntmps52
  go_wp2; refine bodyPost_ret (v := .tuple #[.agg (dA dig0), .int .i64 5]) ?_ rfl ⟨rfl, HF.out.1⟩; rw [results_seg2 (P := Tryz.prog) (fn := Tryz.f52) (p := 4) (t := 5) (ty := 23) rfl _ _ ⟨w.heap.size, 0, none⟩ 32 _ (.int .i64 5) rfl rfl Tryz.underlying23 rfl sizeOf23 HF.out.2.1, HF.out.2.2]
set_option maxHeartbeats 800000 in
set_option maxRecDepth 20000 in
theorem ref_Up_no {w : World} {p A : Option Addr} {n : Nat} (c : Nat) (hn : n < 1 ∨ 4 < n) :
    Calls Tryz.prog 53 #[.pointer p, .slice A n c] w fun e W => e = .returned (.tuple #[.agg (dA dig0), .int .i64 2]) ∧ Kept w W := by
  have hr1 : Blk (w.alloc (.cells (dA dig0) 23)) w.heap.size 23 (encB dig0.1) := Blk.new w _ _; have hk1 : Kept w (w.alloc (.cells (dA dig0) 23)) := (Upd.refl _ w).alloc _; generalize hW1 : w.alloc (.cells (dA dig0) 23) = w1 at *; obtain ⟨hrb, hs1, hs2⟩ := dig_end dig0 hr1; have HF : Hid (Kept w (w1.setRow w.heap.size (dA dig0)) ∧ segB (w1.setRow w.heap.size (dA dig0)) ⟨w.heap.size, 0, none⟩ 32 = true ∧ segV (w1.setRow w.heap.size (dA dig0)) ⟨w.heap.size, 0, none⟩ 32 = dA dig0) := ⟨Upd.setRow hk1 _ _ (fun h => absurd h (Nat.lt_irrefl _)), hs1, hs2⟩; clear hs1 hs2; clear hr1 hk1; rcases hn with hn | hn
  · have hd1 : decide ((n : Int) < 1) = true := by rw [decide_eq_true_iff]; omega
    clear hn
    go_enter Tryz.func53, Tryz.ntmps53
    go_wp2; refine bodyPost_ret (v := .tuple #[.agg (dA dig0), .int .i64 2]) ?_ rfl ⟨rfl, HF.out.1⟩; rw [results_seg2 (P := Tryz.prog) (fn := Tryz.f53) (p := 4) (t := 5) (ty := 23) rfl _ _ ⟨w.heap.size, 0, none⟩ 32 _ (.int .i64 2) rfl rfl Tryz.underlying23 rfl sizeOf23 HF.out.2.1, HF.out.2.2]
  · have hd1 : decide ((n : Int) < 1) = false := by rw [decide_eq_false_iff_not]; omega
    have hd2 : decide ((4 : Int) < (n : Int)) = true := by rw [decide_eq_true_iff]; omega
    have hd3 : decide (4 < n) = true := by rw [decide_eq_true_iff]; omega
    clear hn
    go_enter Tryz.func53, Tryz.ntmps53
    go_wp2; refine bodyPost_ret (v := .tuple #[.agg (dA dig0), .int .i64 2]) ?_ rfl ⟨rfl, HF.out.1⟩; rw [results_seg2 (P := Tryz.prog) (fn := Tryz.f53) (p := 4) (t := 5) (ty := 23) rfl _ _ ⟨w.heap.size, 0, none⟩ 32 _ (.int .i64 2) rfl rfl Tryz.underlying23 rfl sizeOf23 HF.out.2.1, HF.out.2.2]
theorem digs_byte {W : World} {A : Option Addr} {D : List Dig} (h : Digs W A D) {k j : Nat} (hk : k < D.length) (hj : j < 32) : ∃ u, D[k].1[j]? = some u ∧ ∃ b off, A = some ⟨b, off, none⟩ ∧ W.cell? ⟨b, off + k * 32 + j, none⟩ = some (.int .u8 (u.toNat : Int)) := by
  have hjl : j < (D[k].1).length := by rw [D[k].2]; exact hj
  refine ⟨_, List.getElem?_eq_getElem hjl, ?_⟩; rcases h with h0 | ⟨b, off, rfl, h⟩
  · have h1 := flatD_length D
    rw [h0] at h1; simp at h1; omega
  · refine ⟨b, off, rfl, ?_⟩
    rw [Nat.add_assoc]; refine h (k * 32 + j) _ ?_; rw [← rowsOf_dA, rowsOf_get dA_size D k j hk hj]; simp [dA, encB, List.getElem?_map, List.getElem?_eq_getElem hjl]
set_option maxHeartbeats 1600000 in
set_option maxRecDepth 20000 in
theorem ref_Up {w : World} {B b : Nat} {v : Value} {n : Int} {xs : List SlC} {L : List Bytes} (h : RefBook w B b v n xs L) (hB : B ≤ w.heap.size) {A : Option Addr} {D : List Dig} (c : Nat) (hD : Digs w A D) (h1 : 1 ≤ D.length) (h4 : D.length ≤ 4) (hcnt : L.length ≤ 100000) :
    Calls Tryz.prog 53 #[.pointer (some ⟨b, 0, none⟩), .slice A D.length c] w fun e W => e = .returned (.tuple #[.agg (dA (upM shaM D)), .int .i64 0]) ∧ ∃ v' n' xs', RefBook W B b v' n' xs' (noteM L (upIn D)) ∧ RTo b v w v' W := by
  have hr1 : Blk (w.alloc (.cells (dA dig0) 23)) w.heap.size 23 (encB dig0.1) := Blk.new w _ _; have hk1 : Kept w (w.alloc (.cells (dA dig0) 23)) := (Upd.refl _ w).alloc _; generalize hW1 : w.alloc (.cells (dA dig0) 23) = w1 at *; obtain ⟨v0, w2, hbs, hB2, hk2⟩ := run_bs1 1 w1
  change (sliceRow 42 1 #[(0, .int .u8 1)]).run Tryz.prog w1 = _ at hbs
  have HX := Lib.hid (And.intro h (And.intro (hD.kept hk1) (And.intro hr1 (And.intro hk1 (And.intro hB (And.intro hcnt (And.intro hB2 hk2))))))); have HDL := Lib.hid (And.intro h1 h4); have hd1 : decide ((D.length : Int) < 1) = false := by rw [decide_eq_false_iff_not]; omega
  have hd4 : decide ((4 : Int) < (D.length : Int)) = false := by rw [decide_eq_false_iff_not]; omega
  have hd4n : decide (4 < D.length) = false := by rw [decide_eq_false_iff_not]; omega
  clear h hD hr1 hk1 hB hcnt hB2 hk2 h1 h4
  go_enter Tryz.func53, Tryz.ntmps53
  go_wp2_with fail; clear hbs hd1 hd4 hd4n
  go_loopw [7, 6] (fun u1 v wr => ∃ k : Nat, k ≤ D.length ∧ u1 = .int .i64 k ∧ OwnB wr w1.heap.size v (1 :: flatD (D.take k)) ∧ Kept w1 wr) (fun u1 _ _ => 100 - (intOf u1).toNat)
  case atStart => exact ⟨0, Nat.zero_le _, rfl, HX.out.2.2.2.2.2.2.1, HX.out.2.2.2.2.2.2.2⟩
  case round =>
    obtain ⟨k, hk, rfl, hown, hu⟩ := hrel; rcases Nat.lt_or_ge k D.length with hlt | hge
    · have hk' : (k : Int) < (D.length : Int) := by omega
      have hk5 : (k : Int) < 4 := by have := HDL.out.2; omega
      have HO := Lib.hid (And.intro hown hu); clear hown hu; have hsn : Hid (1 :: flatD (D.take (k + 1)) = (1 :: flatD (D.take k)) ++ D[k].1) := by show _ = _; rw [flatD_snoc D k hlt]; rfl
      have hFl : Hid ((1 :: flatD (D.take k) : Bytes).length ≤ 200) := by
        show _ ≤ _; rw [List.length_cons, flatD_length, List.length_take]; have := HDL.out.2; omega
      have hby : ∀ W, Kept w1 W → ∀ j, j < 32 → ∃ u, D[k].1[j]? = some u ∧ ∃ b off, A = some ⟨b, off, none⟩ ∧ W.cell? ⟨b, off + k * 32 + j, none⟩ = some (.int .u8 (u.toNat : Int)) := fun W hW j hj => digs_byte (HX.out.2.1.kept hW) hlt hj; generalize flatD (D.take k) = F at *; obtain ⟨y, hy⟩ : ∃ y, y = D[k] := ⟨_, rfl⟩; rw [← hy] at hsn; rw [← hy] at hby
      replace hby := Lib.hid hby
      have HK := Lib.hid hlt; clear hy hk; go_wp2_with fail
      go_loopw [8, 6] (fun u1 v wr => ∃ j : Nat, j ≤ 32 ∧ u1 = .int .i64 j ∧ OwnB wr w1.heap.size v (1 :: F ++ y.1.take j) ∧ Kept w1 wr) (fun u1 _ _ => 100 - (intOf u1).toNat)
      case atStart => exact ⟨0, Nat.zero_le _, rfl, by simpa using HO.out.1, HO.out.2⟩
      case round =>
        obtain ⟨j, hj, rfl, hown, hu⟩ := hrel; rcases Nat.lt_or_ge j 32 with hjl | hjl
        · have hj' : (j : Int) < 32 := by omega
          have hjy : j < y.1.length := by rw [y.2]; exact hjl
          obtain ⟨u, hu8, bb, off, rfl, hcell⟩ := hby.out _ hu j hjl
          replace hu8 : u = y.1[j] := by rw [List.getElem?_eq_getElem hjy] at hu8; exact (Option.some.inj hu8).symm
          have HC : Hid ((1 :: F ++ y.1.take (j + 1) : Bytes) = (1 :: F ++ y.1.take j) ++ [u]) := by show _ = _; rw [List.take_succ_eq_append_getElem hjy, ← hu8]; simp
          obtain ⟨v2, wr2, hbs, hB2, hk2⟩ := run_bs1 u wr; obtain ⟨A2, c2, rfl, hc2, hb2⟩ := byt_one hB2; have HR := Lib.hid (And.intro (hown.kept hk2) (And.intro hb2 (And.intro (show Kept w1 wr2 from hu.then hk2 fun _ _ h => h) (show (1 :: F ++ y.1.take j : Bytes).length ≤ 240 by have := hFl.out; rw [List.length_append, List.length_take]; omega)))); clear hown hu hB2 hk2 hb2 hc2 hu8 hjy; go_wp2_with (at_builtin; refine wpList_append_bytes (R := [u]) rfl (.tmp 29) (.tmp 36) rfl rfl HR.out.1 A2 c2 rfl HR.out.2.1 (by have := HR.out.2.2.2; simp only [List.length_singleton]; omega) HR.out.2.2.1.size ?_; intro v' w3' hown hu3)
          go_roundw
          case rel =>
            refine ⟨j + 1, by omega, by show _ = _; go_num, by rw [HC.out]; exact hown, HR.out.2.2.1.then hu3 fun i hi e => ?_⟩; have := (HR.out.1.far _ e).1; omega
          case measure => simp [intOf]; omega
        · obtain rfl : j = 32 := by omega
          rw [show y.1.take 32 = y.1 from List.take_of_length_le (Nat.le_of_eq y.2), ← hsn.out] at hown; clear hjl hj; have HP := Lib.hid (And.intro hown hu); clear hown hu; go_wp2
          go_roundw
          case rel => exact ⟨k + 1, by have := HK.out; omega, by show _ = _; go_num, HP.out.1, HP.out.2⟩
          case measure => have := HK.out; simp [intOf]; omega
    · obtain rfl : k = D.length := by omega
      have hk' : ¬ ((D.length : Int) < (D.length : Int)) := by omega
      rw [List.take_length] at hown; have hlen : (1 :: flatD D : Bytes).length ≤ 65536 := by rw [List.length_cons, flatD_length]; have := HDL.out.2; omega
      have hkw : Kept w wr := HX.out.2.2.2.1.then hu (fun _ _ h => h); have HG := ref_BookOf (R := upIn D) (HX.out.1.kept hkw) (by have := HX.out.2.2.2.2.1; have := hkw.size; omega) hown hlen HX.out.2.2.2.2.2.1; rw [show shaM (upIn D) = upM shaM D from rfl] at HG; have HT := Lib.hid (And.intro (HX.out.1.kept hkw) (And.intro (HX.out.2.2.1.kept hu) hkw)); clear hown hu hlen hkw hk hge HX hW1; generalize hDD : upM shaM D = X at *; have HDD := Lib.hid hDD; clear hDD; go_wp2_with fail; refine HG.mono ?_; clear HG; rintro e w4 ⟨rfl, v4, n4, xs4, hb4, ht4⟩; have hr4 := HT.out.2.1.upd ht4.1 (HT.out.1.far HT.out.2.1 (by decide) (by decide)); have hto4 := (RTo.kept (b := b) (v := v) HT.out.2.2).trans ht4; clear ht4 HT; obtain ⟨hrb, hs1, hs2⟩ := dig_end X hr4; have HF : Hid (RefBook (w4.setRow w.heap.size (dA X)) B b v4 n4 xs4 (noteM L (upIn D)) ∧ RTo b v w v4 (w4.setRow w.heap.size (dA X))) :=
        ⟨hb4.turn hr4 (by decide) (by decide) (by decide) ((Upd.refl _ _).setRow _ _ fun _ => rfl), (hto4.setRow _ (Nat.le_refl _) _ hr4 (by decide))⟩
      have HG := Lib.hid (And.intro hs1 hs2); clear hb4 hto4 hr4 hs1 hs2; go_wp2; refine bodyPost_ret (v := .tuple #[.agg (dA X), .int .i64 0]) ?_ rfl (by rw [HDD.out]; exact ⟨rfl, _, _, _, HF.out⟩); rw [results_seg2 (P := Tryz.prog) (fn := Tryz.f53) (p := 4) (t := 5) (ty := 23) rfl _ _ ⟨w.heap.size, 0, none⟩ 32 _ (.int .i64 0) rfl rfl Tryz.underlying23 rfl sizeOf23 HG.out.1, HG.out.2]
end Go.Proofs.YtepjbijhkkjbfaaGreat
namespace Go.Proofs.YtepjbijhkkjbfaaGreat
open Go.RowKit
theorem RefBook.own {W : World} {B c : Nat} {v : Value} {n : Int} {xs : List SlC} {M : List Bytes} (h : RefBook W B c v n xs M) {k : Nat} (hk : k = c ∨ v.ownBlock = some k) : ∃ cs t fr, W.heap[k]? = some (.cells cs t fr) ∧ (t = 88 ∨ t = 42) := by
  rcases hk with rfl | e
  · exact ⟨_, _, _, h.blk, .inl rfl⟩
  · obtain ⟨cur, hc⟩ := own_cells h.row e
    exact ⟨_, _, _, hc, .inr rfl⟩
section
variable {w W W' : World} {b r q c : Nat} {L L' M M' : List Bytes}
end
theorem ref_New (w : World) : Calls Tryz.prog 8 #[] w fun e W => e = .returned (.pointer (some ⟨w.heap.size, 0, none⟩)) ∧ RefBook W w.heap.size w.heap.size (.slice none 0 0) 0 [] [] ∧ Kept w W := by
  have hk : Kept w (w.alloc (.cells #[.slice none 0 0, .int .i64 0] 88)) := (Upd.refl _ w).alloc _; have hg := heap_alloc_new w (.cells #[.slice none 0 0, .int .i64 0] 88); have HF := Lib.hid (show RefBook (w.alloc (.cells #[.slice none 0 0, .int .i64 0] 88)) w.heap.size w.heap.size (.slice none 0 0) 0 [] [] ∧ Kept w (w.alloc (.cells #[.slice none 0 0, .int .i64 0] 88)) from
    ⟨⟨hg, OwnRows.nil _ _ _, rfl, fun i hi => absurd hi (Nat.not_lt_zero i), fun r hr => by simp at hr⟩, hk⟩)
  clear hk hg
  go_enter Tryz.func8, Tryz.ntmps8
  go_wp2
  go_ret
  exact ⟨rfl, HF.out⟩
set_option maxHeartbeats 800000 in
set_option maxRecDepth 20000 in
theorem ref_Fits_of {w : World} {p : Option Addr} {x : Value} (d y : Dig) {S : Nat → Prop} {Q : World → Prop}
    (hU : ∀ w1, Kept w w1 → Calls Tryz.prog 53 #[.pointer p, x] w1 fun e W => e = .returned (.tuple #[.agg (dA y), .int .i64 0]) ∧ Q W ∧ Upd S w1 W) (hS : ∀ k, S k → k < w.heap.size) (hQ : ∀ W W', Q W → Kept W W' → Q W') :
    Calls Tryz.prog 42 #[.pointer p, .agg (dA d), x] w fun e W => e = .returned (.int .i64 (if y = d then 0 else 100)) ∧ Q W ∧ Upd S w W := by
  have hd1 : Blk (w.alloc (.cells (dA d) 23)) w.heap.size 23 (encB (d).1) := Blk.new w _ _; have hk1 : Kept w (w.alloc (.cells (dA d) 23)) := (Upd.refl _ w).alloc _; have HG := hU _ hk1; have HX := Lib.hid (And.intro hd1 (And.intro hk1 (And.intro hS hQ))); have HC : Hid ((y = d ∧ (if y = d then (0 : Int) else 100) = 0) ∨ (decide (y = d) = false ∧ (if y = d then (0 : Int) else 100) = 100)) := by
    by_cases hy : y = d
    · exact .inl ⟨hy, if_pos hy⟩
    · exact .inr ⟨decide_eq_false hy, if_neg hy⟩
  generalize (if y = d then (0 : Int) else 100) = zz at *; clear hd1 hk1 hU hS hQ
  go_enter Tryz.func42, Tryz.ntmps42
  go_wp2_with fail; refine HG.mono ?_; clear HG; rintro e w2 ⟨rfl, hq2, hu2⟩; have hb2 := HX.out.1.upd hu2 (fun e => absurd (HX.out.2.2.1 _ e) (Nat.lt_irrefl _)); have hd3 : Blk (w2.alloc (.cells (dA y) 23)) w2.heap.size 23 (encB (y).1) := Blk.new w2 _ _; have hk3 : Kept w2 (w2.alloc (.cells (dA y) 23)) := (Upd.refl _ w2).alloc _; obtain ⟨p1, p2⟩ := dig_at (hb2.kept hk3); obtain ⟨p3, p4⟩ := dig_at hd3; have HF : Hid (Q (w2.alloc (.cells (dA y) 23)) ∧ Upd S w (w2.alloc (.cells (dA y) 23))) := ⟨HX.out.2.2.2 _ _ hq2 hk3, (HX.out.2.1.to.trans hu2).alloc _⟩; clear hb2 hd3 hk3 hq2 hu2 HX; rcases HC.out with ⟨rfl, rfl⟩ | ⟨hdy, rfl⟩
  · go_wp2
    go_ret
    exact ⟨rfl, HF.out⟩
  · go_wp2
    go_ret
    exact ⟨rfl, HF.out⟩
set_option maxHeartbeats 800000 in
set_option maxRecDepth 20000 in
theorem ref_Fits_no {w : World} {p : Option Addr} {x : Value} (d y : Dig) {z : Int} (hz : z ≠ 0)
    (hU : ∀ w1, Kept w w1 → Calls Tryz.prog 53 #[.pointer p, x] w1 fun e W => e = .returned (.tuple #[.agg (dA y), .int .i64 z]) ∧ Kept w1 W) :
    Calls Tryz.prog 42 #[.pointer p, .agg (dA d), x] w fun e W => e = .returned (.int .i64 z) ∧ Kept w W := by
  have hd1 : Blk (w.alloc (.cells (dA d) 23)) w.heap.size 23 (encB (d).1) := Blk.new w _ _; have hk1 : Kept w (w.alloc (.cells (dA d) 23)) := (Upd.refl _ w).alloc _; have HG := hU _ hk1; have HX := Lib.hid hk1; clear hd1 hk1 hU; have hdz : decide (z = 0) = false := decide_eq_false hz
  go_enter Tryz.func42, Tryz.ntmps42
  go_wp2_with fail; refine HG.mono ?_; clear HG; rintro e w2 ⟨rfl, hu2⟩; have hd3 : Blk (w2.alloc (.cells (dA y) 23)) w2.heap.size 23 (encB (y).1) := Blk.new w2 _ _; have hk3 : Kept w2 (w2.alloc (.cells (dA y) 23)) := (Upd.refl _ w2).alloc _; have HF := Lib.hid (show Kept w (w2.alloc (.cells (dA y) 23)) from (HX.out.then hu2 fun _ _ h => h).alloc _); clear hd3 hk3 hu2 HX; go_wp2
  go_ret
  exact ⟨rfl, HF.out⟩
set_option maxHeartbeats 800000 in
set_option maxRecDepth 20000 in
theorem ref_LeafFits_of {w : World} {p : Option Addr} {x : Value} (d y : Dig) {S : Nat → Prop} {Q : World → Prop}
    (hU : ∀ w1, Kept w w1 → Calls Tryz.prog 52 #[.pointer p, x] w1 fun e W => e = .returned (.tuple #[.agg (dA y), .int .i64 0]) ∧ Q W ∧ Upd S w1 W) (hS : ∀ k, S k → k < w.heap.size) (hQ : ∀ W W', Q W → Kept W W' → Q W') :
    Calls Tryz.prog 44 #[.pointer p, .agg (dA d), x] w fun e W => e = .returned (.int .i64 (if y = d then 0 else 100)) ∧ Q W ∧ Upd S w W := by
  have hd1 : Blk (w.alloc (.cells (dA d) 23)) w.heap.size 23 (encB (d).1) := Blk.new w _ _; have hk1 : Kept w (w.alloc (.cells (dA d) 23)) := (Upd.refl _ w).alloc _; have HG := hU _ hk1; have HX := Lib.hid (And.intro hd1 (And.intro hk1 (And.intro hS hQ))); have HC : Hid ((y = d ∧ (if y = d then (0 : Int) else 100) = 0) ∨ (decide (y = d) = false ∧ (if y = d then (0 : Int) else 100) = 100)) := by
    by_cases hy : y = d
    · exact .inl ⟨hy, if_pos hy⟩
    · exact .inr ⟨decide_eq_false hy, if_neg hy⟩
  generalize (if y = d then (0 : Int) else 100) = zz at *; clear hd1 hk1 hU hS hQ
  go_enter Tryz.func44, Tryz.ntmps44
  go_wp2_with fail; refine HG.mono ?_; clear HG; rintro e w2 ⟨rfl, hq2, hu2⟩; have hb2 := HX.out.1.upd hu2 (fun e => absurd (HX.out.2.2.1 _ e) (Nat.lt_irrefl _)); have hd3 : Blk (w2.alloc (.cells (dA y) 23)) w2.heap.size 23 (encB (y).1) := Blk.new w2 _ _; have hk3 : Kept w2 (w2.alloc (.cells (dA y) 23)) := (Upd.refl _ w2).alloc _; obtain ⟨p1, p2⟩ := dig_at (hb2.kept hk3); obtain ⟨p3, p4⟩ := dig_at hd3; have HF : Hid (Q (w2.alloc (.cells (dA y) 23)) ∧ Upd S w (w2.alloc (.cells (dA y) 23))) := ⟨HX.out.2.2.2 _ _ hq2 hk3, (HX.out.2.1.to.trans hu2).alloc _⟩; clear hb2 hd3 hk3 hq2 hu2 HX; rcases HC.out with ⟨rfl, rfl⟩ | ⟨hdy, rfl⟩
  · go_wp2
    go_ret
    exact ⟨rfl, HF.out⟩
  · go_wp2
    go_ret
    exact ⟨rfl, HF.out⟩
set_option maxHeartbeats 800000 in
set_option maxRecDepth 20000 in
theorem ref_LeafFits_no {w : World} {p : Option Addr} {x : Value} (d y : Dig) {z : Int} (hz : z ≠ 0)
    (hU : ∀ w1, Kept w w1 → Calls Tryz.prog 52 #[.pointer p, x] w1 fun e W => e = .returned (.tuple #[.agg (dA y), .int .i64 z]) ∧ Kept w1 W) :
    Calls Tryz.prog 44 #[.pointer p, .agg (dA d), x] w fun e W => e = .returned (.int .i64 z) ∧ Kept w W := by
  have hd1 : Blk (w.alloc (.cells (dA d) 23)) w.heap.size 23 (encB (d).1) := Blk.new w _ _; have hk1 : Kept w (w.alloc (.cells (dA d) 23)) := (Upd.refl _ w).alloc _; have HG := hU _ hk1; have HX := Lib.hid hk1; clear hd1 hk1 hU; have hdz : decide (z = 0) = false := decide_eq_false hz
  go_enter Tryz.func44, Tryz.ntmps44
  go_wp2_with fail; refine HG.mono ?_; clear HG; rintro e w2 ⟨rfl, hu2⟩; have hd3 : Blk (w2.alloc (.cells (dA y) 23)) w2.heap.size 23 (encB (y).1) := Blk.new w2 _ _; have hk3 : Kept w2 (w2.alloc (.cells (dA y) 23)) := (Upd.refl _ w2).alloc _; have HF := Lib.hid (show Kept w (w2.alloc (.cells (dA y) 23)) from (HX.out.then hu2 fun _ _ h => h).alloc _); clear hd3 hk3 hu2 HX; go_wp2
  go_ret
  exact ⟨rfl, HF.out⟩
def fitZ (D : List Dig) (d : Dig) : Int := if 1 ≤ D.length ∧ D.length ≤ 4 then (if upM shaM D = d then 0 else 100) else 2
def leafZ (R : Bytes) (d : Dig) : Int := if R.length < 65536 then (if leafM shaM R = d then 0 else 100) else 5
theorem noteM_length {L : List Bytes} {R : Bytes} : (noteM L R).length ≤ L.length + 1 := by unfold noteM; split <;> simp
section
variable {w W : World} {b r q c : Nat} {L M : List Bytes} {A : Option Addr}
theorem RefBook.old {B : Nat} {v : Value} {n : Int} {xs : List SlC} (h : RefBook W B c v n xs M) {k : Nat} (hk : k = c ∨ v.ownBlock = some k) : k < W.heap.size := by
  obtain ⟨cs, t, fr, hc, -⟩ := h.own hk; exact (Array.getElem?_eq_some_iff.1 hc).1
end
end Go.Proofs.YtepjbijhkkjbfaaGreat
namespace Go.Proofs.YtepjbijhkkjbfaaGreat
open Go.RowKit
attribute [local irreducible] wpOrd
set_option maxHeartbeats 800000 in
set_option maxRecDepth 20000 in
theorem ref_EqBytes_same {w : World} {A A2 : Option Addr} {R : Bytes} (c c2 : Nat) (h1 : Byt w A R) (h2 : Byt w A2 R) (hl : R.length ≤ 140737488351232) :
    Calls Tryz.prog 18 #[.slice A R.length c, .slice A2 R.length c2] w fun e W => e = .returned (.bool true) ∧ Kept w W := by
  have HX := Lib.hid (And.intro h1 (And.intro h2 hl)); clear h1 h2 hl; obtain ⟨n, hn⟩ : ∃ n, n = R.length := ⟨_, rfl⟩; rw [← hn]; have HN := Lib.hid (And.intro hn (show n ≤ 140737488351232 by rw [hn]; exact HX.out.2.2)); clear hn
  go_enter Tryz.func18, Tryz.ntmps18
  go_wp2_with fail
  go_loopw [5] (fun u1 wr => ∃ k : Nat, k ≤ n ∧ u1 = .int .i64 k ∧ Kept w wr) (fun u1 _ => 140737488360000 - (intOf u1).toNat)
  case atStart => exact ⟨0, Nat.zero_le _, rfl, Upd.refl _ _⟩
  case round =>
    obtain ⟨k, hk, rfl, hu⟩ := hrel; rcases Nat.lt_or_ge k n with hlt | hge
    · have hl1 : k < R.length := by rw [← HN.out.1]; exact hlt
      have hk' : (k : Int) < (n : Int) := by omega
      have hk5 : (k : Int) ≤ 140737488351232 := by have := HN.out.2; omega
      obtain ⟨b, off, rfl, hc⟩ := (HX.out.1.kept hu).get hl1; obtain ⟨b2, off2, rfl, hc2⟩ := (HX.out.2.1.kept hu).get hl1; have f1 : ∀ W, Kept wr W → W.cell? ⟨b, off + k, none⟩ = some (.int .u8 (R[k].toNat : Int)) := fun W hW => hW.cell hc id; have f2 : ∀ W, Kept wr W → W.cell? ⟨b2, off2 + k, none⟩ = some (.int .u8 (R[k].toNat : Int)) := fun W hW => hW.cell hc2 id; generalize R[k] = x at *; have HK := Lib.hid (And.intro hlt (show Kept w wr.drew from hu.drew)); have hud : Kept wr wr.drew := (Upd.refl _ wr).drew; clear hc hc2 hlt hl1 hk hu; go_wp2_with fail; refine wp_region_ord [(0, true), (1, true), (2, true), (3, true), (4, true), (5, true), (6, true), (7, true), (8, true)] (by kernel_rfl) (by kernel_rfl) (Kept wr) hud ?_; simp only [ordOps, List.getD_cons_zero, List.getD_cons_succ]
      iterate 9 (refine wpOrd_held (fun K hK => ?_); go_simp; first | (apply Exists.intro; refine ⟨fun W hW => ?_, hK _ ?_⟩; (go_simp; first | done | exact rfl); clear hK K) | (refine hK _ ?_; clear hK K))
      refine wpOrd_nil ?_; clear f1 f2 hud; go_wp2
      go_roundw
      case rel => exact ⟨k + 1, by have := HK.out.1; omega, by show _ = _; go_num, HK.out.2⟩
      case measure => have := HK.out.1; have := HN.out.2; simp [intOf]; omega
    · obtain rfl : k = n := by omega
      have hk' : ¬ ((k : Int) < (k : Int)) := by omega
      have HF := Lib.hid hu; clear hu hge hk; go_wp2
      go_ret
      exact ⟨rfl, HF.out⟩
end Go.Proofs.YtepjbijhkkjbfaaGreat
