import Derived.Test.YtepjbijhkkjbfaaGreatSetZi
import Derived.Test.YtepjbijhkkjbfaaGreatSetZc
set_option linter.unusedVariables false
set_option linter.unusedSimpArgs false
namespace Go.Proofs.YtepjbijhkkjbfaaGreat
open Go.RowKit
attribute [local irreducible] wpOrd wpOT
structure RndMem (w W : World) (st : List Int) (blk : Bytes) : Prop where
  k : Kept w W
  s : Blk W w.heap.size 153 (st.map (Value.int .u32))
  b : Blk W (w.heap.size + 1) 154 (encB blk)
  r : Blk W (w.heap.size + 1 + 1) 153 (zw8.map (Value.int .u32))
structure RndA (w W : World) (st : List Int) (blk : Bytes) (p q : Option (Nat × List Int)) : Prop where
  m : RndMem w W st blk
  bp : ∀ g l, p = some (g, l) → Blk W g 152 (l.map (Value.int .u32)) ∧ w.heap.size ≤ g
  bq : ∀ g l, q = some (g, l) → Blk W g 152 (l.map (Value.int .u32)) ∧ w.heap.size ≤ g
  ne : ∀ g l h m, p = some (g, l) → q = some (h, m) → g ≠ h
section
variable {w W W' : World} {st : List Int} {blk : Bytes} {p q : Option (Nat × List Int)} {g5 g6 : Nat} {l m : List Int}
theorem RndMem.new (w : World) (st : List Int) (blk : Bytes) : RndMem w (((w.alloc (.cells (w32A st) 153)).alloc (.cells (b8A blk) 154)).alloc (.cells (w32A zw8) 153)) st blk := by
  refine ⟨(((Upd.refl _ w).alloc _).alloc _).alloc _, ?_, ?_, ?_⟩
  · exact ((Blk.new w _ _).alloc _).alloc _
  · have := (Blk.new (w.alloc (.cells (w32A st) 153)) 154 (encB blk)).alloc (.cells (w32A zw8) 153)
    rwa [World.size_alloc] at this
  · have := Blk.new ((w.alloc (.cells (w32A st) 153)).alloc (.cells (b8A blk) 154)) 153 (zw8.map (Value.int .u32))
    rwa [World.size_alloc, World.size_alloc] at this
theorem RndMem.kept (h : RndMem w W st blk) (hu : Kept W W') : RndMem w W' st blk := ⟨h.k.trans hu, h.s.kept hu, h.b.kept hu, h.r.kept hu⟩
theorem RndMem.drew (h : RndMem w W st blk) : RndMem w W.drew st blk := ⟨h.k.drew, h.s, h.b, h.r⟩
theorem RndMem.far (h : RndMem w W st blk) {g : Nat} {l : List Value} (hg : Blk W g 152 l) (hlo : w.heap.size ≤ g) (cs : Array Value) : RndMem w (W.setRow g cs) st blk := by
  have n1 : w.heap.size ≠ g := fun e => absurd (Blk.ty (e ▸ h.s) hg) (by decide); have n2 : w.heap.size + 1 ≠ g := fun e => absurd (Blk.ty (e ▸ h.b) hg) (by decide); have n3 : w.heap.size + 1 + 1 ≠ g := fun e => absurd (Blk.ty (e ▸ h.r) hg) (by decide); have hu : Upd (fun k => k = g) W (W.setRow g cs) := (Upd.refl _ _).setRow _ _ fun _ => rfl; exact ⟨Upd.setRow h.k _ _ (fun h => absurd h (by omega)), h.s.upd hu n1, h.b.upd hu n2, h.r.upd hu n3⟩
theorem RndA.kept (h : RndA w W st blk p q) (hu : Kept W W') : RndA w W' st blk p q := ⟨h.m.kept hu, fun g l e => ⟨(h.bp g l e).1.kept hu, (h.bp g l e).2⟩, fun g l e => ⟨(h.bq g l e).1.kept hu, (h.bq g l e).2⟩, h.ne⟩
theorem RndA.alloc5 (h : RndA w W st blk none q) : RndA w (W.alloc (.cells (w32A zw64) 152)) st blk (some (W.heap.size, zw64)) q := by
  have hk : Kept W (W.alloc (.cells (w32A zw64) 152)) := (Upd.refl _ W).alloc _; refine ⟨h.m.kept hk, fun g l e => ?_, fun g l e => ⟨(h.bq g l e).1.kept hk, (h.bq g l e).2⟩, fun g l h' m e e2 => ?_⟩
  · simp only [Option.some.injEq, Prod.mk.injEq] at e
    obtain ⟨rfl, rfl⟩ := e; exact ⟨Blk.new W _ _, h.m.k.size⟩
  · simp only [Option.some.injEq, Prod.mk.injEq] at e
    obtain ⟨rfl, rfl⟩ := e; have := (h.bq _ _ e2).1.lt; omega
theorem RndA.alloc6 (h : RndA w W st blk p none) : RndA w (W.alloc (.cells (w32A zw64) 152)) st blk p (some (W.heap.size, zw64)) := by
  have hk : Kept W (W.alloc (.cells (w32A zw64) 152)) := (Upd.refl _ W).alloc _; refine ⟨h.m.kept hk, fun g l e => ⟨(h.bp g l e).1.kept hk, (h.bp g l e).2⟩, fun g l e => ?_, fun g l h' m e e2 => ?_⟩
  · simp only [Option.some.injEq, Prod.mk.injEq] at e
    obtain ⟨rfl, rfl⟩ := e; exact ⟨Blk.new W _ _, h.m.k.size⟩
  · simp only [Option.some.injEq, Prod.mk.injEq] at e2
    obtain ⟨rfl, rfl⟩ := e2; have := (h.bp _ _ e).1.lt; omega
theorem RndA.row5 (h : RndA w W st blk (some (g5, zw64)) q) : rowB W g5 64 = true := rowB_of (show W.heap[g5]? = some (.cells (zw64.map (Value.int .u32)).toArray 152 (0, 0)) from (h.bp _ _ rfl).1) (by simp [zw64])
theorem RndA.row6 (h : RndA w W st blk p (some (g6, zw64))) : rowB W g6 64 = true := rowB_of (show W.heap[g6]? = some (.cells (zw64.map (Value.int .u32)).toArray 152 (0, 0)) from (h.bq _ _ rfl).1) (by simp [zw64])
theorem RndA.store5 (h : RndA w W st blk (some (g5, l)) (some (g6, m))) (K : List Int) : RndA w (W.setRow g5 (w32A K)) st blk (some (g5, K)) (some (g6, m)) := by
  obtain ⟨hb, hlo⟩ := h.bp _ _ rfl; obtain ⟨hb6, hlo6⟩ := h.bq _ _ rfl; have hne := h.ne _ _ _ _ rfl rfl; have hu : Upd (fun k => k = g5) W (W.setRow g5 (w32A K)) := (Upd.refl _ _).setRow _ _ fun _ => rfl; refine ⟨h.m.far hb hlo _, fun g l e => ?_, fun g l e => ?_, fun g l h' m e e2 => ?_⟩
  · simp only [Option.some.injEq, Prod.mk.injEq] at e
    obtain ⟨rfl, rfl⟩ := e; exact ⟨hb.setRow _, hlo⟩
  · simp only [Option.some.injEq, Prod.mk.injEq] at e
    obtain ⟨rfl, rfl⟩ := e; exact ⟨hb6.upd hu (fun e => hne e.symm), hlo6⟩
  · simp only [Option.some.injEq, Prod.mk.injEq] at e e2
    rw [← e.1, ← e2.1]; exact hne
theorem RndA.store6 (h : RndA w W st blk (some (g5, l)) (some (g6, m))) (K : List Int) : RndA w (W.setRow g6 (w32A K)) st blk (some (g5, l)) (some (g6, K)) := by
  obtain ⟨hb, hlo⟩ := h.bp _ _ rfl; obtain ⟨hb6, hlo6⟩ := h.bq _ _ rfl; have hne := h.ne _ _ _ _ rfl rfl; have hu : Upd (fun k => k = g6) W (W.setRow g6 (w32A K)) := (Upd.refl _ _).setRow _ _ fun _ => rfl; refine ⟨h.m.far hb6 hlo6 _, fun g l e => ?_, fun g l e => ?_, fun g l h' m e e2 => ?_⟩
  · simp only [Option.some.injEq, Prod.mk.injEq] at e
    obtain ⟨rfl, rfl⟩ := e; exact ⟨hb.upd hu hne, hlo⟩
  · simp only [Option.some.injEq, Prod.mk.injEq] at e
    obtain ⟨rfl, rfl⟩ := e; exact ⟨hb6.setRow _, hlo6⟩
  · simp only [Option.some.injEq, Prod.mk.injEq] at e e2
    rw [← e.1, ← e2.1]; exact hne
end
structure RV (w W : World) (st : List Int) (blk : Bytes) (g5 g6 g7 : Nat) (L S : List Int) : Prop where
  a : RndA w W st blk (some (g5, rootsM)) (some (g6, L))
  s : Blk W g7 153 (S.map (Value.int .u32))
  n1 : g7 ≠ w.heap.size
  n3 : g7 ≠ w.heap.size + 1 + 1
  lo : w.heap.size ≤ g7
section
variable {w W W' : World} {st : List Int} {blk : Bytes} {g5 g6 g7 : Nat} {L S S' : List Int}
theorem RV.new (h : RndA w W st blk (some (g5, rootsM)) (some (g6, L))) : RV w (W.alloc (.cells (w32A S) 153)) st blk g5 g6 W.heap.size L S :=
  ⟨h.kept ((Upd.refl _ W).alloc _), Blk.new W _ _, by have := h.m.s.lt; omega, by have := h.m.r.lt; omega, h.m.k.size⟩
theorem RV.kept (h : RV w W st blk g5 g6 g7 L S) (hu : Kept W W') : RV w W' st blk g5 g6 g7 L S := ⟨h.a.kept hu, h.s.kept hu, h.n1, h.n3, h.lo⟩
theorem RV.drew (h : RV w W st blk g5 g6 g7 L S) : RV w W.drew st blk g5 g6 g7 L S := h.kept ((Upd.refl _ W).drew)
theorem RV.turn (h : RV w W st blk g5 g6 g7 L S) (hu : Upd (fun k => k = g7) W W') (hs : Blk W' g7 153 (S'.map (Value.int .u32))) : RV w W' st blk g5 g6 g7 L S' := by
  have n2 : w.heap.size + 1 ≠ g7 := fun e => absurd (Blk.ty (e ▸ h.a.m.b) h.s) (by decide); have hlo := h.lo; refine ⟨⟨⟨h.a.m.k.then hu (fun k hk e => by omega), h.a.m.s.upd hu (fun e => h.n1 e.symm), h.a.m.b.upd hu n2, h.a.m.r.upd hu (fun e => h.n3 e.symm)⟩, fun g l e => ?_, fun g l e => ?_, h.a.ne⟩, hs, h.n1, h.n3, h.lo⟩
  · obtain ⟨h1, h2⟩ := h.a.bp g l e
    exact ⟨h1.upd hu (fun e => absurd (Blk.ty (e ▸ h1) h.s) (by decide)), h2⟩
  · obtain ⟨h1, h2⟩ := h.a.bq g l e
    exact ⟨h1.upd hu (fun e => absurd (Blk.ty (e ▸ h1) h.s) (by decide)), h2⟩
theorem RV.store (h : RV w W st blk g5 g6 g7 L S) (S' : List Int) : RV w (W.setRow g7 (w32A S')) st blk g5 g6 g7 L S' :=
  h.turn ((Upd.refl _ _).setRow _ _ fun _ => rfl) (h.s.setRow _)
theorem RV.set (h : RV w W st blk g5 g6 g7 L S) (k : Nat) (y : Int) : RV w (W.setCell ⟨g7, k, none⟩ (.int .u32 y)) st blk g5 g6 g7 L (S.set k y) :=
  h.turn ((Upd.refl _ _).setCell (p := ⟨g7, k, none⟩) _ fun _ => rfl) (by rw [List.map_set]; exact h.s.set k _)
theorem RV.row (h : RV w W st blk g5 g6 g7 L S) (hl : S.length = 8) : rowB W g7 8 = true := rowB_of (show W.heap[g7]? = some (.cells (S.map (Value.int .u32)).toArray 153 (0, 0)) from h.s) (by simp [hl])
theorem word_in {W : World} {g t : Nat} {S : List Int} (h : Blk W g t (S.map (Value.int .u32))) {k : Nat} (hk : k < S.length) : W.cell? ⟨g, k, none⟩ = some (.int .u32 (S.getD k 0)) := by
  rw [h.cell (k := k) (v := .int .u32 (S[k])) (by rw [List.getElem?_map, List.getElem?_eq_getElem hk]; rfl)]; simp [hk]
theorem addM_comm (a b : List Int) : addM a b = addM b a := by
  unfold addM; rw [List.zipWith_comm]
  congr 1
  funext x y
  rw [Int.add_comm]
end
set_option maxHeartbeats 1600000 in
set_option maxRecDepth 20000 in
theorem ref_Round {w : World} {st : List Int} {blk : Bytes} (hs : st.length = 8) (hb : blk.length = 64) :
    Calls Tryz.prog 86 #[.agg (w32A st), .agg (b8A blk)] w fun e w' => e = .returned (.agg (w32A (takeM st blk rootsM))) ∧ Kept w w' := by
  have HF : Hid (RndA w _ st blk none none) := ⟨RndMem.new w st blk, fun _ _ h => (nomatch h), fun _ _ h => (nomatch h), fun _ _ _ _ h => (nomatch h)⟩; have HB := Lib.hid hb; have HS := Lib.hid hs; have hK64 := rootsM_length; have hL64 := schedN_length blk 64; clear hb hs
  go_enter Tryz.func86, Tryz.ntmps86
  go_wp2_with fail; generalize ((w.alloc (.cells (w32A st) 153)).alloc (.cells (b8A blk) 154)).alloc (.cells (w32A zw8) 153) = w0 at *; refine wp_region_tree3 (.take 1 (.three 0 3 4 (.three 2 3 4 (.two 3 4 (.one 4 (.one 5 (.one 6 .done))) (.one 3 (.one 5 (.one 6 .done)))) (.two 2 4 (.one 4 (.one 5 (.one 6 .done))) (.one 2 (.one 5 (.one 6 .done)))) (.two 2 3 (.one 3 (.one 5 (.one 6 .done))) (.one 2 (.one 5 (.one 6 .done))))) (.two 0 4 (.two 2 4 (.one 4 (.one 5 (.one 6 .done))) (.one 2 (.one 5 (.one 6 .done)))) (.one 0 (.one 2 (.one 5 (.one 6 .done))))) (.two 0 3 (.two 2 3 (.one 3 (.one 5 (.one 6 .done))) (.one 2 (.one 5 (.one 6 .done)))) (.one 0 (.one 2 (.one 5 (.one 6 .done))))))) (by kernel_rfl) (by kernel_rfl) (fun W => RndMem w W st blk) HF.out.m.drew ?_; simp only [OT3.ops, List.getD_cons_zero, List.getD_cons_succ]; refine wpOT_mono (Q := fun a W => ∃ g5 g6, a = ⟨#[.agg (w32A st), .agg (b8A blk), .pointer (some ⟨w.heap.size, 0, none⟩), .pointer (some ⟨w.heap.size + 1, 0, none⟩), .pointer (some ⟨w.heap.size + 1 + 1, 0, none⟩), .pointer (some ⟨g5, 0, none⟩), .pointer (some ⟨g6, 0, none⟩), undef, undef, undef, undef, undef, undef, undef, undef, undef, undef, undef, .agg (w32A rootsM), .agg (b8A blk), .agg (w32A (schedN blk 64)), undef, undef, undef, undef, undef, undef, undef, undef, undef, undef, undef, undef, undef, undef, undef, undef, undef, undef, undef, undef, undef, undef, undef, undef, undef, undef, undef, undef, undef, undef, undef, undef, undef, undef, undef, undef, undef, undef, undef, undef, undef, undef, undef, undef, undef, undef, undef, undef, undef, undef, undef, undef, undef, undef, undef, undef, undef, undef, undef, undef, undef, undef, undef, undef, undef, undef, undef, undef, undef, undef, undef, undef, undef, undef, undef, undef, undef, undef, undef, undef, undef, undef, undef, undef, undef, undef, undef, undef, undef, undef, undef, undef, undef], []⟩ ∧ RndA w W st blk (some (g5, rootsM)) (some (g6, schedN blk 64))) ?_ _ _ _ ?_
  · rintro a W ⟨g5, g6, rfl, hV⟩
    obtain ⟨s0, s1, s2, s3, s4, s5, s6, s7, rfl⟩ := eight HS.out; have hT := takeM_eight s0 s1 s2 s3 s4 s5 s6 s7 blk rootsM; have HT := Lib.hid hT; generalize hL : schedN blk 64 = L at *; obtain ⟨t1, t2⟩ := hV.m.s.seg 0 8 ([s0, s1, s2, s3, s4, s5, s6, s7].map (Value.int .u32)) rfl (fun j _ => by rw [Nat.zero_add])
    change segV W ⟨w.heap.size, 0, none⟩ 8 = w32A [s0, s1, s2, s3, s4, s5, s6, s7] at t2
    have HV := Lib.hid (RV.new (S := [s0, s1, s2, s3, s4, s5, s6, s7]) hV); have HL := Lib.hid (And.intro hL64 hK64); clear hV hT HF hL hL64 hK64 HS; go_wp2_with fail; clear t1 t2; generalize W.heap.size = g7 at *; generalize W.alloc (.cells (w32A [s0, s1, s2, s3, s4, s5, s6, s7]) 153) = W1 at *
    go_loopw [8] (fun u wr => ∃ (t : Nat) (s : St8), t ≤ 64 ∧ u = .int .i64 t ∧ s = St8.rounds rootsM L t ⟨s0, s1, s2, s3, s4, s5, s6, s7⟩ ∧ RV w wr [s0, s1, s2, s3, s4, s5, s6, s7] blk g5 g6 g7 L s.list) (fun u _ => 64 - (intOf u).toNat)
    case atStart => exact ⟨0, ⟨s0, s1, s2, s3, s4, s5, s6, s7⟩, Nat.zero_le _, rfl, (rounds_zero _ _ _).symm, HV.out⟩
    case round =>
      clear HV; obtain ⟨t, s, ht, rfl, hs, hv⟩ := hrel; have HV := Lib.hid hv
      by_cases h64 : t < 64
      · have HS : Hid (St8.rounds rootsM L (t + 1) ⟨s0, s1, s2, s3, s4, s5, s6, s7⟩ = s.rnd (rootsM.getD t 0) (L.getD t 0)) := by show _ = _; rw [rounds_succ, ← hs]
        have ck : ∀ W, RV w W [s0, s1, s2, s3, s4, s5, s6, s7] blk g5 g6 g7 L s.list → W.cell? ⟨g5, t, none⟩ = some (.int .u32 (rootsM.getD t 0)) := fun W hW => word_in (hW.a.bp _ _ rfl).1 (by rw [HL.out.2]; exact h64); have cw : ∀ W, RV w W [s0, s1, s2, s3, s4, s5, s6, s7] blk g5 g6 g7 L s.list → W.cell? ⟨g6, t, none⟩ = some (.int .u32 (L.getD t 0)) := fun W hW => word_in (hW.a.bq _ _ rfl).1 (by rw [HL.out.1]; exact h64); generalize rootsM.getD t 0 = kt at *; generalize L.getD t 0 = wt at *; obtain ⟨a, b, c, d, e, f, g, hh⟩ := s; have q0 : ∀ W, RV w W [s0, s1, s2, s3, s4, s5, s6, s7] blk g5 g6 g7 L (St8.list ⟨a, b, c, d, e, f, g, hh⟩) → W.cell? ⟨g7, 0, none⟩ = some (.int .u32 a) := fun W hW => hW.s.cell rfl; have q1 : ∀ W, RV w W [s0, s1, s2, s3, s4, s5, s6, s7] blk g5 g6 g7 L (St8.list ⟨a, b, c, d, e, f, g, hh⟩) → W.cell? ⟨g7, 1, none⟩ = some (.int .u32 b) := fun W hW => hW.s.cell rfl; have q2 : ∀ W, RV w W [s0, s1, s2, s3, s4, s5, s6, s7] blk g5 g6 g7 L (St8.list ⟨a, b, c, d, e, f, g, hh⟩) → W.cell? ⟨g7, 2, none⟩ = some (.int .u32 c) := fun W hW => hW.s.cell rfl; have q3 : ∀ W, RV w W [s0, s1, s2, s3, s4, s5, s6, s7] blk g5 g6 g7 L (St8.list ⟨a, b, c, d, e, f, g, hh⟩) → W.cell? ⟨g7, 3, none⟩ = some (.int .u32 d) := fun W hW => hW.s.cell rfl; have q4 : ∀ W, RV w W [s0, s1, s2, s3, s4, s5, s6, s7] blk g5 g6 g7 L (St8.list ⟨a, b, c, d, e, f, g, hh⟩) → W.cell? ⟨g7, 4, none⟩ = some (.int .u32 e) := fun W hW => hW.s.cell rfl; have q5 : ∀ W, RV w W [s0, s1, s2, s3, s4, s5, s6, s7] blk g5 g6 g7 L (St8.list ⟨a, b, c, d, e, f, g, hh⟩) → W.cell? ⟨g7, 5, none⟩ = some (.int .u32 f) := fun W hW => hW.s.cell rfl; have q6 : ∀ W, RV w W [s0, s1, s2, s3, s4, s5, s6, s7] blk g5 g6 g7 L (St8.list ⟨a, b, c, d, e, f, g, hh⟩) → W.cell? ⟨g7, 6, none⟩ = some (.int .u32 g) := fun W hW => hW.s.cell rfl; have q7 : ∀ W, RV w W [s0, s1, s2, s3, s4, s5, s6, s7] blk g5 g6 g7 L (St8.list ⟨a, b, c, d, e, f, g, hh⟩) → W.cell? ⟨g7, 7, none⟩ = some (.int .u32 hh) := fun W hW => hW.s.cell rfl; have lt64 : (t : Int) < 64 := by omega
        clear hs hv; go_wp2_with fail; refine wp_region_mild_all (by kernel_rfl) (by kernel_rfl) (fun W => RV w W [s0, s1, s2, s3, s4, s5, s6, s7] blk g5 g6 g7 L (St8.list ⟨a, b, c, d, e, f, g, hh⟩)) HV.out.drew ?_
        iterate 18 (refine wpMild_step (fun K hK => ?_); go_simp; apply Exists.intro; refine ⟨fun W hW => ?_, hK _ ?_⟩; (go_simp; first | done | exact rfl | exact ⟨rfl, hW⟩); clear hK K)
        refine wpMild_nil (fun wb hS => ?_); clear HV; go_wp2_with fail; refine wp_region_mild_all (by kernel_rfl) (by kernel_rfl) (fun W => RV w W [s0, s1, s2, s3, s4, s5, s6, s7] blk g5 g6 g7 L (St8.list ⟨a, b, c, d, e, f, g, hh⟩)) hS.drew ?_
        iterate 3 (refine wpMild_step (fun K hK => ?_); go_simp; apply Exists.intro; refine ⟨fun W hW => ?_, hK _ ?_⟩; (go_simp; first | done | exact rfl | exact ⟨rfl, hW⟩); clear hK K)
        refine wpMild_step (fun K hK => ?_); go_simp; apply Exists.intro; refine ⟨fun W hW => ?_, hK _ ?_⟩
        · go_simp
          refine (ref_ror _ 6 (by simp) _).mono ?_; rintro e w' ⟨rfl, hk⟩; exact ⟨rfl, hW.kept hk⟩
        clear hK K
        iterate 1 (refine wpMild_step (fun K hK => ?_); go_simp; apply Exists.intro; refine ⟨fun W hW => ?_, hK _ ?_⟩; (go_simp; first | done | exact rfl | exact ⟨rfl, hW⟩); clear hK K)
        refine wpMild_step (fun K hK => ?_); go_simp; apply Exists.intro; refine ⟨fun W hW => ?_, hK _ ?_⟩
        · go_simp
          refine (ref_ror _ 11 (by simp) _).mono ?_; rintro e w' ⟨rfl, hk⟩; exact ⟨rfl, hW.kept hk⟩
        clear hK K
        iterate 2 (refine wpMild_step (fun K hK => ?_); go_simp; apply Exists.intro; refine ⟨fun W hW => ?_, hK _ ?_⟩; (go_simp; first | done | exact rfl | exact ⟨rfl, hW⟩); clear hK K)
        refine wpMild_step (fun K hK => ?_); go_simp; apply Exists.intro; refine ⟨fun W hW => ?_, hK _ ?_⟩
        · go_simp
          refine (ref_ror _ 25 (by simp) _).mono ?_; rintro e w' ⟨rfl, hk⟩; exact ⟨rfl, hW.kept hk⟩
        clear hK K
        iterate 20 (refine wpMild_step (fun K hK => ?_); go_simp; apply Exists.intro; refine ⟨fun W hW => ?_, hK _ ?_⟩; (go_simp; first | done | exact rfl | exact ⟨rfl, hW⟩); clear hK K)
        refine wpMild_nil (fun wc hS2 => ?_); have HV := Lib.hid hS2; clear hS hS2; go_wp2_with fail; refine (ref_ror _ 2 (by simp) _).mono ?_; rintro e1 w6 ⟨rfl, hk⟩
        replace HV := Lib.hid (HV.out.kept hk)
        clear hk; go_wp2_with fail; refine (ref_ror _ 13 (by simp) _).mono ?_; rintro e1 w7 ⟨rfl, hk⟩
        replace HV := Lib.hid (HV.out.kept hk)
        clear hk; go_wp2_with fail; refine (ref_ror _ 22 (by simp) _).mono ?_; rintro e1 w8 ⟨rfl, hk⟩
        replace HV := Lib.hid (HV.out.kept hk)
        clear hk; have hrow := HV.out.row rfl; have c3 := q3 _ HV.out; clear ck cw q0 q1 q2 q3 q4 q5 q6 q7; go_wp2_with fail
        go_roundw
        case rel =>
          refine ⟨t + 1, St8.rnd ⟨a, b, c, d, e, f, g, hh⟩ kt wt, by omega, by show _ = _; go_num, by rw [HS.out], ?_⟩; have hst := HV.out.store (St8.list (St8.rnd ⟨a, b, c, d, e, f, g, hh⟩ kt wt)); simp only [St8.list, St8.rnd, St8.big, St8.small, notW, Int.emod_add_emod, Int.add_emod_emod] at hst ⊢; exact hst
        case measure => simp [intOf]; omega
      · obtain ht64 : t = 64 := by omega
        have HF : Hid (s = St8.rounds rootsM L 64 ⟨s0, s1, s2, s3, s4, s5, s6, s7⟩) := by show _ = _; rw [hs, ht64]
        have hn64 : ¬ ((t : Int) < 64) := by omega
        clear hs hv ht h64 ht64; go_wp2_with fail; clear hn64
        go_loopw [17] (fun i wr => ∃ k : Nat, k ≤ 8 ∧ i = .int .i64 k ∧ RV w wr [s0, s1, s2, s3, s4, s5, s6, s7] blk g5 g6 g7 L (addTo s.list [s0, s1, s2, s3, s4, s5, s6, s7] k)) (fun i _ => 8 - (intOf i).toNat)
        case atStart => exact ⟨0, Nat.zero_le _, rfl, by rw [addTo_zero]; exact HV.out⟩
        case round =>
          clear HV; obtain ⟨k, hk, rfl, hv⟩ := hrel; rcases Nat.lt_or_ge k 8 with h8 | h8
          · have HSet := Lib.hid (addTo_set (st := s.list) (L := [s0, s1, s2, s3, s4, s5, s6, s7]) (n := 8) rfl rfl h8)
            have c1 : ∀ W, RV w W [s0, s1, s2, s3, s4, s5, s6, s7] blk g5 g6 g7 L (addTo s.list [s0, s1, s2, s3, s4, s5, s6, s7] k) → W.cell? ⟨g7, k, none⟩ = some (.int .u32 (s.list.getD k 0)) := fun W hW => hW.s.cell (by rw [List.getElem?_map, addTo_get (n := 8) rfl rfl h8]; rfl); have c2 : ∀ W, RV w W [s0, s1, s2, s3, s4, s5, s6, s7] blk g5 g6 g7 L (addTo s.list [s0, s1, s2, s3, s4, s5, s6, s7] k) → W.cell? ⟨w.heap.size, k, none⟩ = some (.int .u32 ([s0, s1, s2, s3, s4, s5, s6, s7].getD k 0)) := fun W hW => word_in hW.a.m.s (by simpa using h8); have HV := Lib.hid hv; have h8' : (k : Int) < 8 := by omega
            clear hv; generalize addTo s.list [s0, s1, s2, s3, s4, s5, s6, s7] k = SS at *; generalize s.list.getD k 0 = x at *; generalize [s0, s1, s2, s3, s4, s5, s6, s7].getD k 0 = y at *; go_wp2_with fail; refine wp_region_mild 9 (by kernel_rfl) (by kernel_rfl) (fun W => RV w W [s0, s1, s2, s3, s4, s5, s6, s7] blk g5 g6 g7 L SS) HV.out.drew ?_; simp only [List.take_succ_cons, List.take_zero, List.drop_succ_cons, List.drop_zero]
            iterate 9 (refine wpMild_step (fun K hK => ?_); go_simp; apply Exists.intro; refine ⟨fun W hW => ?_, hK _ ?_⟩; (go_simp; first | done | exact rfl | exact ⟨rfl, hW⟩); clear hK K)
            refine wpMild_nil (fun wc hS => ?_); have hl := c1 _ hS; have hz := hS.s.thaw k; have HV2 := Lib.hid (hS.set k ((x + y) % 4294967296)); clear hS c1 c2 HV; go_wp2_with fail
            go_roundw
            case rel => exact ⟨k + 1, by omega, by show _ = _; go_num, by rw [← HSet.out]; exact HV2.out⟩
            case measure => simp [intOf]; omega
          · obtain hk8 : k = 8 := by omega
            have h8' : ¬ ((k : Int) < 8) := by omega
            rw [hk8, addTo_all (n := 8) rfl rfl, addM_comm, HF.out, ← HT.out] at hv; have hl : (takeM [s0, s1, s2, s3, s4, s5, s6, s7] blk rootsM).length = 8 := takeM_length rfl _ _; clear hk8 h8 hk; generalize hR : takeM [s0, s1, s2, s3, s4, s5, s6, s7] blk rootsM = R at *; have HR := Lib.hid hR; clear hR; have hsg := hv.s.seg 0 8 (R.map (Value.int .u32)) (by simpa using hl) (fun j _ => by rw [Nat.zero_add]); have hb1 := hv.a.m.r; have hrb : rowB wr (w.heap.size + 1 + 1) 8 = true := rowB_of (show wr.heap[w.heap.size + 1 + 1]? = some (.cells (zw8.map (Value.int .u32)).toArray 153 (0, 0)) from hb1) (by simp [zw8]); have hb2 : Blk (wr.setRow (w.heap.size + 1 + 1) (w32A R)) (w.heap.size + 1 + 1) 153 (R.map (Value.int .u32)) := hb1.setRow _; have hs2 := hb2.seg 0 8 (R.map (Value.int .u32)) (by simpa using hl) (fun j _ => by rw [Nat.zero_add]); have HK : Hid (Kept w (wr.setRow (w.heap.size + 1 + 1) (w32A R))) := Lib.hid (Upd.setRow hv.a.m.k _ _ (fun h => absurd h (by omega))); have hsz : (w32A R).size = 8 := by rw [w32A_size]; exact hl
            obtain ⟨r1, r2⟩ := hsg; obtain ⟨r3, r4⟩ := hs2
            change segV wr ⟨g7, 0, none⟩ 8 = w32A R at r2
            change segV (wr.setRow (w.heap.size + 1 + 1) (w32A R)) ⟨w.heap.size + 1 + 1, 0, none⟩ 8 = w32A R at r4
            have HG := Lib.hid (And.intro r3 r4); clear hb1 hb2 hl r3 r4 hv; go_wp2; refine bodyPost_ret (v := .agg (w32A R)) ?_ rfl (by rw [HR.out]; exact ⟨rfl, HK.out⟩); rw [results_seg (P := Tryz.prog) (fn := Tryz.f86) rfl _ _ ⟨w.heap.size + 1 + 1, 0, none⟩ 8 _ rfl Tryz.underlying153 rfl sizeOf153 HG.out.1, HG.out.2]
  · have b1 : ∀ W, RndMem w W st blk → segB W ⟨w.heap.size + 1, 0, none⟩ 64 = true := fun W hW => (hW.b.seg 0 64 (encB blk) (by rw [encB_length]; exact HB.out) (fun j _ => by rw [Nat.zero_add])).1
    have b2 : ∀ W, RndMem w W st blk → segV W ⟨w.heap.size + 1, 0, none⟩ 64 = b8A blk := fun W hW => (hW.b.seg 0 64 (encB blk) (by rw [encB_length]; exact HB.out) (fun j _ => by rw [Nat.zero_add])).2
    replace HF := Lib.hid (HF.out.kept ((Upd.refl (fun _ => False) w0).drew))
    generalize w0.drew = w0 at *
    iterate 1 (refine wpOT_held (fun K hK => ?_); go_simp; first | (apply Exists.intro; refine ⟨fun W hW => ?_, hK _ ?_⟩; (go_simp; first | done | exact rfl); clear hK K) | (refine hK _ ?_; clear hK K))
    clear b1 b2; refine wpOT_three ?_ ?_ ?_ HF.out.m
    · skip
      intro K hK; go_simp; refine (ref_Roots w0).mono ?_; rintro e w1n ⟨rfl, hk⟩
      replace HF := Lib.hid (HF.out.kept hk)
      refine hK _ _ HF.out.m ?_; clear hK K hk; refine wpOT_three ?_ ?_ ?_ HF.out.m
      · skip
        intro K hK; go_simp; refine (ref_Schedule (w := w1n) HB.out).mono ?_; rintro e w2n ⟨rfl, hk⟩
        replace HF := Lib.hid (HF.out.kept hk)
        refine hK _ _ HF.out.m ?_; clear hK K hk; refine wpOT_fork ?_ ?_ HF.out.m
        · skip
          intro K hK; go_simp
          replace HF := Lib.hid (HF.out.alloc5)
          refine hK _ _ HF.out.m ?_; clear hK K; generalize (w2n).heap.size = g5 at *; generalize (w2n).alloc (.cells (w32A zw64) 152) = w3n at *; refine wpOT_step ?_ HF.out.m; intro K hK; go_simp
          replace HF := Lib.hid (HF.out.alloc6)
          refine hK _ _ HF.out.m ?_; clear hK K; generalize (w3n).heap.size = g6 at *; generalize (w3n).alloc (.cells (w32A zw64) 152) = w4n at *; have hr5 := HF.out.row5; have h6 := HF.out.store5 rootsM; have hr6 := h6.row6; have h7 := h6.store6 (schedN blk 64); refine wpOT_step ?_ HF.out.m; intro K hK; go_simp; refine hK _ _ h6.m ?_; clear hK K; refine wpOT_step ?_ h6.m; intro K hK; go_simp; refine hK _ _ h7.m ?_; clear hK K; refine wpOT_nil ?_; exact ⟨g5, g6, rfl, h7⟩
        · skip
          intro K hK; go_simp
          replace HF := Lib.hid (HF.out.alloc6)
          refine hK _ _ HF.out.m ?_; clear hK K; generalize (w2n).heap.size = g6 at *; generalize (w2n).alloc (.cells (w32A zw64) 152) = w3n at *; refine wpOT_step ?_ HF.out.m; intro K hK; go_simp
          replace HF := Lib.hid (HF.out.alloc5)
          refine hK _ _ HF.out.m ?_; clear hK K; generalize (w3n).heap.size = g5 at *; generalize (w3n).alloc (.cells (w32A zw64) 152) = w4n at *; have hr5 := HF.out.row5; have h6 := HF.out.store5 rootsM; have hr6 := h6.row6; have h7 := h6.store6 (schedN blk 64); refine wpOT_step ?_ HF.out.m; intro K hK; go_simp; refine hK _ _ h6.m ?_; clear hK K; refine wpOT_step ?_ h6.m; intro K hK; go_simp; refine hK _ _ h7.m ?_; clear hK K; refine wpOT_nil ?_; exact ⟨g5, g6, rfl, h7⟩
      · skip
        intro K hK; go_simp
        replace HF := Lib.hid (HF.out.alloc5)
        refine hK _ _ HF.out.m ?_; clear hK K; generalize (w1n).heap.size = g5 at *; generalize (w1n).alloc (.cells (w32A zw64) 152) = w2n at *; refine wpOT_fork ?_ ?_ HF.out.m
        · skip
          intro K hK; go_simp; refine (ref_Schedule (w := w2n) HB.out).mono ?_; rintro e w3n ⟨rfl, hk⟩
          replace HF := Lib.hid (HF.out.kept hk)
          refine hK _ _ HF.out.m ?_; clear hK K hk; refine wpOT_step ?_ HF.out.m; intro K hK; go_simp
          replace HF := Lib.hid (HF.out.alloc6)
          refine hK _ _ HF.out.m ?_; clear hK K; generalize (w3n).heap.size = g6 at *; generalize (w3n).alloc (.cells (w32A zw64) 152) = w4n at *; have hr5 := HF.out.row5; have h6 := HF.out.store5 rootsM; have hr6 := h6.row6; have h7 := h6.store6 (schedN blk 64); refine wpOT_step ?_ HF.out.m; intro K hK; go_simp; refine hK _ _ h6.m ?_; clear hK K; refine wpOT_step ?_ h6.m; intro K hK; go_simp; refine hK _ _ h7.m ?_; clear hK K; refine wpOT_nil ?_; exact ⟨g5, g6, rfl, h7⟩
        · skip
          intro K hK; go_simp
          replace HF := Lib.hid (HF.out.alloc6)
          refine hK _ _ HF.out.m ?_; clear hK K; generalize (w2n).heap.size = g6 at *; generalize (w2n).alloc (.cells (w32A zw64) 152) = w3n at *; refine wpOT_step ?_ HF.out.m; intro K hK; go_simp; refine (ref_Schedule (w := w3n) HB.out).mono ?_; rintro e w4n ⟨rfl, hk⟩
          replace HF := Lib.hid (HF.out.kept hk)
          refine hK _ _ HF.out.m ?_; clear hK K hk; have hr5 := HF.out.row5; have h6 := HF.out.store5 rootsM; have hr6 := h6.row6; have h7 := h6.store6 (schedN blk 64); refine wpOT_step ?_ HF.out.m; intro K hK; go_simp; refine hK _ _ h6.m ?_; clear hK K; refine wpOT_step ?_ h6.m; intro K hK; go_simp; refine hK _ _ h7.m ?_; clear hK K; refine wpOT_nil ?_; exact ⟨g5, g6, rfl, h7⟩
      · skip
        intro K hK; go_simp
        replace HF := Lib.hid (HF.out.alloc6)
        refine hK _ _ HF.out.m ?_; clear hK K; generalize (w1n).heap.size = g6 at *; generalize (w1n).alloc (.cells (w32A zw64) 152) = w2n at *; refine wpOT_fork ?_ ?_ HF.out.m
        · skip
          intro K hK; go_simp; refine (ref_Schedule (w := w2n) HB.out).mono ?_; rintro e w3n ⟨rfl, hk⟩
          replace HF := Lib.hid (HF.out.kept hk)
          refine hK _ _ HF.out.m ?_; clear hK K hk; refine wpOT_step ?_ HF.out.m; intro K hK; go_simp
          replace HF := Lib.hid (HF.out.alloc5)
          refine hK _ _ HF.out.m ?_; clear hK K; generalize (w3n).heap.size = g5 at *; generalize (w3n).alloc (.cells (w32A zw64) 152) = w4n at *; have hr5 := HF.out.row5; have h6 := HF.out.store5 rootsM; have hr6 := h6.row6; have h7 := h6.store6 (schedN blk 64); refine wpOT_step ?_ HF.out.m; intro K hK; go_simp; refine hK _ _ h6.m ?_; clear hK K; refine wpOT_step ?_ h6.m; intro K hK; go_simp; refine hK _ _ h7.m ?_; clear hK K; refine wpOT_nil ?_; exact ⟨g5, g6, rfl, h7⟩
        · skip
          intro K hK; go_simp
          replace HF := Lib.hid (HF.out.alloc5)
          refine hK _ _ HF.out.m ?_; clear hK K; generalize (w2n).heap.size = g5 at *; generalize (w2n).alloc (.cells (w32A zw64) 152) = w3n at *; refine wpOT_step ?_ HF.out.m; intro K hK; go_simp; refine (ref_Schedule (w := w3n) HB.out).mono ?_; rintro e w4n ⟨rfl, hk⟩
          replace HF := Lib.hid (HF.out.kept hk)
          refine hK _ _ HF.out.m ?_; clear hK K hk; have hr5 := HF.out.row5; have h6 := HF.out.store5 rootsM; have hr6 := h6.row6; have h7 := h6.store6 (schedN blk 64); refine wpOT_step ?_ HF.out.m; intro K hK; go_simp; refine hK _ _ h6.m ?_; clear hK K; refine wpOT_step ?_ h6.m; intro K hK; go_simp; refine hK _ _ h7.m ?_; clear hK K; refine wpOT_nil ?_; exact ⟨g5, g6, rfl, h7⟩
    · skip
      intro K hK; go_simp
      replace HF := Lib.hid (HF.out.alloc5)
      refine hK _ _ HF.out.m ?_; clear hK K; generalize (w0).heap.size = g5 at *; generalize (w0).alloc (.cells (w32A zw64) 152) = w1n at *; refine wpOT_fork ?_ ?_ HF.out.m
      · skip
        intro K hK; go_simp; refine (ref_Roots w1n).mono ?_; rintro e w2n ⟨rfl, hk⟩
        replace HF := Lib.hid (HF.out.kept hk)
        refine hK _ _ HF.out.m ?_; clear hK K hk; refine wpOT_fork ?_ ?_ HF.out.m
        · skip
          intro K hK; go_simp; refine (ref_Schedule (w := w2n) HB.out).mono ?_; rintro e w3n ⟨rfl, hk⟩
          replace HF := Lib.hid (HF.out.kept hk)
          refine hK _ _ HF.out.m ?_; clear hK K hk; refine wpOT_step ?_ HF.out.m; intro K hK; go_simp
          replace HF := Lib.hid (HF.out.alloc6)
          refine hK _ _ HF.out.m ?_; clear hK K; generalize (w3n).heap.size = g6 at *; generalize (w3n).alloc (.cells (w32A zw64) 152) = w4n at *; have hr5 := HF.out.row5; have h6 := HF.out.store5 rootsM; have hr6 := h6.row6; have h7 := h6.store6 (schedN blk 64); refine wpOT_step ?_ HF.out.m; intro K hK; go_simp; refine hK _ _ h6.m ?_; clear hK K; refine wpOT_step ?_ h6.m; intro K hK; go_simp; refine hK _ _ h7.m ?_; clear hK K; refine wpOT_nil ?_; exact ⟨g5, g6, rfl, h7⟩
        · skip
          intro K hK; go_simp
          replace HF := Lib.hid (HF.out.alloc6)
          refine hK _ _ HF.out.m ?_; clear hK K; generalize (w2n).heap.size = g6 at *; generalize (w2n).alloc (.cells (w32A zw64) 152) = w3n at *; refine wpOT_step ?_ HF.out.m; intro K hK; go_simp; refine (ref_Schedule (w := w3n) HB.out).mono ?_; rintro e w4n ⟨rfl, hk⟩
          replace HF := Lib.hid (HF.out.kept hk)
          refine hK _ _ HF.out.m ?_; clear hK K hk; have hr5 := HF.out.row5; have h6 := HF.out.store5 rootsM; have hr6 := h6.row6; have h7 := h6.store6 (schedN blk 64); refine wpOT_step ?_ HF.out.m; intro K hK; go_simp; refine hK _ _ h6.m ?_; clear hK K; refine wpOT_step ?_ h6.m; intro K hK; go_simp; refine hK _ _ h7.m ?_; clear hK K; refine wpOT_nil ?_; exact ⟨g5, g6, rfl, h7⟩
      · skip
        intro K hK; go_simp
        replace HF := Lib.hid (HF.out.alloc6)
        refine hK _ _ HF.out.m ?_; clear hK K; generalize (w1n).heap.size = g6 at *; generalize (w1n).alloc (.cells (w32A zw64) 152) = w2n at *; refine wpOT_step ?_ HF.out.m; intro K hK; go_simp; refine (ref_Roots w2n).mono ?_; rintro e w3n ⟨rfl, hk⟩
        replace HF := Lib.hid (HF.out.kept hk)
        refine hK _ _ HF.out.m ?_; clear hK K hk; refine wpOT_step ?_ HF.out.m; intro K hK; go_simp; refine (ref_Schedule (w := w3n) HB.out).mono ?_; rintro e w4n ⟨rfl, hk⟩
        replace HF := Lib.hid (HF.out.kept hk)
        refine hK _ _ HF.out.m ?_; clear hK K hk; have hr5 := HF.out.row5; have h6 := HF.out.store5 rootsM; have hr6 := h6.row6; have h7 := h6.store6 (schedN blk 64); refine wpOT_step ?_ HF.out.m; intro K hK; go_simp; refine hK _ _ h6.m ?_; clear hK K; refine wpOT_step ?_ h6.m; intro K hK; go_simp; refine hK _ _ h7.m ?_; clear hK K; refine wpOT_nil ?_; exact ⟨g5, g6, rfl, h7⟩
    · skip
      intro K hK; go_simp
      replace HF := Lib.hid (HF.out.alloc6)
      refine hK _ _ HF.out.m ?_; clear hK K; generalize (w0).heap.size = g6 at *; generalize (w0).alloc (.cells (w32A zw64) 152) = w1n at *; refine wpOT_fork ?_ ?_ HF.out.m
      · skip
        intro K hK; go_simp; refine (ref_Roots w1n).mono ?_; rintro e w2n ⟨rfl, hk⟩
        replace HF := Lib.hid (HF.out.kept hk)
        refine hK _ _ HF.out.m ?_; clear hK K hk; refine wpOT_fork ?_ ?_ HF.out.m
        · skip
          intro K hK; go_simp; refine (ref_Schedule (w := w2n) HB.out).mono ?_; rintro e w3n ⟨rfl, hk⟩
          replace HF := Lib.hid (HF.out.kept hk)
          refine hK _ _ HF.out.m ?_; clear hK K hk; refine wpOT_step ?_ HF.out.m; intro K hK; go_simp
          replace HF := Lib.hid (HF.out.alloc5)
          refine hK _ _ HF.out.m ?_; clear hK K; generalize (w3n).heap.size = g5 at *; generalize (w3n).alloc (.cells (w32A zw64) 152) = w4n at *; have hr5 := HF.out.row5; have h6 := HF.out.store5 rootsM; have hr6 := h6.row6; have h7 := h6.store6 (schedN blk 64); refine wpOT_step ?_ HF.out.m; intro K hK; go_simp; refine hK _ _ h6.m ?_; clear hK K; refine wpOT_step ?_ h6.m; intro K hK; go_simp; refine hK _ _ h7.m ?_; clear hK K; refine wpOT_nil ?_; exact ⟨g5, g6, rfl, h7⟩
        · skip
          intro K hK; go_simp
          replace HF := Lib.hid (HF.out.alloc5)
          refine hK _ _ HF.out.m ?_; clear hK K; generalize (w2n).heap.size = g5 at *; generalize (w2n).alloc (.cells (w32A zw64) 152) = w3n at *; refine wpOT_step ?_ HF.out.m; intro K hK; go_simp; refine (ref_Schedule (w := w3n) HB.out).mono ?_; rintro e w4n ⟨rfl, hk⟩
          replace HF := Lib.hid (HF.out.kept hk)
          refine hK _ _ HF.out.m ?_; clear hK K hk; have hr5 := HF.out.row5; have h6 := HF.out.store5 rootsM; have hr6 := h6.row6; have h7 := h6.store6 (schedN blk 64); refine wpOT_step ?_ HF.out.m; intro K hK; go_simp; refine hK _ _ h6.m ?_; clear hK K; refine wpOT_step ?_ h6.m; intro K hK; go_simp; refine hK _ _ h7.m ?_; clear hK K; refine wpOT_nil ?_; exact ⟨g5, g6, rfl, h7⟩
      · skip
        intro K hK; go_simp
        replace HF := Lib.hid (HF.out.alloc5)
        refine hK _ _ HF.out.m ?_; clear hK K; generalize (w1n).heap.size = g5 at *; generalize (w1n).alloc (.cells (w32A zw64) 152) = w2n at *; refine wpOT_step ?_ HF.out.m; intro K hK; go_simp; refine (ref_Roots w2n).mono ?_; rintro e w3n ⟨rfl, hk⟩
        replace HF := Lib.hid (HF.out.kept hk)
        refine hK _ _ HF.out.m ?_; clear hK K hk; refine wpOT_step ?_ HF.out.m; intro K hK; go_simp; refine (ref_Schedule (w := w3n) HB.out).mono ?_; rintro e w4n ⟨rfl, hk⟩
        replace HF := Lib.hid (HF.out.kept hk)
        refine hK _ _ HF.out.m ?_; clear hK K hk; have hr5 := HF.out.row5; have h6 := HF.out.store5 rootsM; have hr6 := h6.row6; have h7 := h6.store6 (schedN blk 64); refine wpOT_step ?_ HF.out.m; intro K hK; go_simp; refine hK _ _ h6.m ?_; clear hK K; refine wpOT_step ?_ h6.m; intro K hK; go_simp; refine hK _ _ h7.m ?_; clear hK K; refine wpOT_nil ?_; exact ⟨g5, g6, rfl, h7⟩
end Go.Proofs.YtepjbijhkkjbfaaGreat
namespace Go.Proofs.YtepjbijhkkjbfaaGreat
open Go.RowKit
structure OfMem (w W : World) (g4 : Nat) (st : List Int) (v : Value) (P : Bytes) (B : Nat) : Prop where
  k : Kept w W
  r : Blk W w.heap.size 23 (encB dig0.1)
  s : Blk W g4 153 (st.map (Value.int .u32))
  p : OwnB W B v P
  lo : w.heap.size ≤ g4
section
variable {w W W' : World} {g4 B : Nat} {st st' : List Int} {v : Value} {P : Bytes}
theorem OfMem.kept (h : OfMem w W g4 st v P B) (hu : Kept W W') : OfMem w W' g4 st v P B := ⟨h.k.trans hu, h.r.kept hu, h.s.kept hu, h.p.kept hu, h.lo⟩
theorem OwnB.blk {W : World} {B g : Nat} {v : Value} {P : Bytes} (h : OwnB W B v P) (e : v.ownBlock = some g) : ∃ cur, W.heap[g]? = some (.cells cur 5 (0, 0)) := by
  rcases h.2 with ⟨rfl, _⟩ | ⟨g', cap, cur, rfl, hb, hg, _⟩
  · cases e
  · cases e; exact ⟨cur, hg⟩
theorem OfMem.turn (h : OfMem w W g4 st v P B) (cs : List Int) : OfMem w (W.setRow g4 (w32A cs)) g4 cs v P B := by
  have hu : Upd (fun k => k = g4) W (W.setRow g4 (w32A cs)) := (Upd.refl _ _).setRow _ _ fun _ => rfl; have hlo := h.lo; refine ⟨Upd.setRow h.k _ _ (fun h => absurd h (by omega)), h.r.upd hu (fun e => absurd (Blk.ty (e ▸ h.r) h.s) (by decide)), h.s.setRow _, h.p.upd hu (fun k e e2 => ?_), h.lo⟩; obtain ⟨cur, hc⟩ := h.p.blk e; have e3 : k = g4 := e2; subst e3; have h1 := h.s; unfold Blk at h1; rw [h1] at hc; simp only [Option.some.injEq, Obj.cells.injEq] at hc; exact absurd hc.2.1 (by decide)
theorem OfMem.blk (h : OfMem w W g4 st v P B) {g : Nat} {l : List Value} (hg : Blk W g 154 l) (hlo : w.heap.size ≤ g) (hu : Upd (fun k => k = g) W W') : OfMem w W' g4 st v P B := by
  refine ⟨h.k.then hu (fun k hk e => by omega), h.r.upd hu (fun e => absurd (Blk.ty (e ▸ h.r) hg) (by decide)), h.s.upd hu (fun e => absurd (Blk.ty (e ▸ h.s) hg) (by decide)), h.p.upd hu (fun k e e2 => ?_), h.lo⟩; obtain ⟨cur, hc⟩ := h.p.blk e; have e3 : k = g := e2; subst e3; unfold Blk at hg; rw [hg] at hc; simp only [Option.some.injEq, Obj.cells.injEq] at hc; exact absurd hc.2.1 (by decide)
end
theorem padM_mod (R : Bytes) : ∃ N, (padM R).length = 64 * N ∧ (padM R).length / 64 = N := by
  have h : (padM R).length = R.length + 1 + (119 - R.length % 64) % 64 + 8 := by simp [padM]; omega
  exact ⟨(padM R).length / 64, by omega, rfl⟩
theorem fillB_block {P : Bytes} {q N k : Nat} (h : P.length = 64 * N) (hq : q < N) (hk : k < 64) : 64 * q + k < P.length := by
  have : 64 * (q + 1) ≤ 64 * N := Nat.mul_le_mul_left 64 hq; omega
set_option maxHeartbeats 1600000 in
set_option maxRecDepth 20000 in
theorem ref_ShaOf {w : World} {A : Option Addr} {R : Bytes} (c : Nat) (hR : Byt w A R) (hl : R.length ≤ 140737488351000) :
    Calls Tryz.prog 77 #[.slice A R.length c] w fun e W => e = .returned (.agg (dA (shaM R))) ∧ Kept w W := by
  have hR1 := hR.kept ((Upd.refl (fun _ => False) w).alloc (.cells (dA dig0) 23)); have hr1 : Blk (w.alloc (.cells (dA dig0) 23)) w.heap.size 23 (encB dig0.1) := Blk.new w _ _; have hk1 : Kept w (w.alloc (.cells (dA dig0) 23)) := (Upd.refl _ w).alloc _; generalize hW1 : w.alloc (.cells (dA dig0) 23) = w1 at *; have HX := Lib.hid (And.intro hR1 (And.intro hr1 (And.intro hk1 hl))); clear hR hR1 hr1 hk1 hl
  go_enter Tryz.func77, Tryz.ntmps77
  go_wp2_with fail; refine (ref_Padded c HX.out.1 HX.out.2.2.2).mono ?_; rintro e w2 ⟨v, rfl, ho, hu2⟩; have H2 := Lib.hid (And.intro ho (And.intro (HX.out.2.1.kept hu2) (show Kept w w2 from HX.out.2.2.1.then hu2 (fun _ _ h => h)))); clear ho hu2; go_wp2_with fail; refine (ref_First _).mono ?_; rintro e w3 ⟨rfl, hu3⟩; have hal : Kept w3 (w3.alloc (.cells (w32A startM) 153)) := (Upd.refl _ w3).alloc _; have hS : OfMem w (w3.alloc (.cells (w32A startM) 153)) w3.heap.size startM v (padM R) w1.heap.size :=
    ⟨(H2.out.2.2.then hu3 (fun _ _ h => h)).then hal (fun _ _ h => h), (H2.out.2.1.kept hu3).kept hal, Blk.new w3 _ _, (H2.out.1.kept hu3).kept hal, by have := H2.out.2.2.size; have := hu3.size; omega⟩
  have HS := Lib.hid hS; have HRL := Lib.hid HX.out.2.2.2; have hs8 := startM_length; clear hu3 hal hS H2 HX; go_wp2_with fail; generalize w3.heap.size = g4 at *; generalize w3.alloc (.cells (w32A startM) 153) = w4 at *; clear hs8; obtain ⟨N, hN, hN2⟩ := padM_mod R; have hPL := Lib.hid (show ((padM R).length : Int) ≤ 140737488352000 by have h := (show (padM R).length = R.length + 1 + (119 - R.length % 64) % 64 + 8 by simp [padM]; omega); have := HRL.out; omega); have hsha : Hid (shaM R = outM (absorbN rootsM startM (padM R) N)) := by show _ = _; rw [shaM, hN2]
  have h0 : absorbN rootsM startM (padM R) 0 = startM := by simp only [absorbN]
  generalize padM R = P at *; obtain ⟨A0, c0, rfl, _, _⟩ := HS.out.p.form; have HN := Lib.hid hN; clear hN hN2; have H0 := Lib.hid h0; clear h0
  go_loopw [5] (fun u wr => ∃ q : Nat, q ≤ N ∧ u = .int .i64 (64 * q : Nat) ∧ OfMem w wr g4 (absorbN rootsM startM P q) (.slice A0 P.length c0) P w1.heap.size) (fun u _ => 64 * N + 64 - (intOf u).toNat)
  case atStart => exact ⟨0, Nat.zero_le _, rfl, by rw [H0.out]; exact HS.out⟩
  case round =>
    clear HS; obtain ⟨q, hq, rfl, hm⟩ := hrel; have hsl : (absorbN rootsM startM P q).length = 8 := absorbN_length startM_length q; rcases Nat.lt_or_ge q N with hlt | hge
    · have hnext : absorbN rootsM startM P (q + 1) = takeM (absorbN rootsM startM P q) ((P.drop (64 * q)).take 64) rootsM := by simp only [absorbN]
      have hbl : ((P.drop (64 * q)).take 64).length = 64 := by
        have h1 := HN.out; have h2 : 64 * (q + 1) ≤ 64 * N := Nat.mul_le_mul_left 64 hlt; rw [List.length_take, List.length_drop]; omega
      have hget : ∀ k (hk : k < 64), ∃ (h : 64 * q + k < P.length) (h2 : k < ((P.drop (64 * q)).take 64).length), P[64 * q + k] = ((P.drop (64 * q)).take 64)[k] := fun k hk => ⟨fillB_block HN.out hlt hk, by rw [hbl]; exact hk, by simp⟩; have hPl : P.length = 64 * N := HN.out; have hNb : 64 * q < P.length := by have := fillB_block HN.out hlt (show 0 < 64 by omega); omega
      have hPb : (P.length : Int) ≤ 140737488352000 := hPL.out; generalize (P.drop (64 * q)).take 64 = blk at *; obtain ⟨aq, haq⟩ : ∃ aq, aq = 64 * q := ⟨_, rfl⟩; rw [← haq] at hget hNb ⊢; have haqP : (aq : Int) < (P.length : Int) := by omega
      have HH := Lib.hid (And.intro hget (And.intro hbl (And.intro hnext (And.intro hsl (And.intro haq (And.intro hlt hPb)))))); generalize absorbN rootsM startM P q = st at *; have hk0 : Kept wr (wr.alloc (.cells (b8A zb64) 154)) := (Upd.refl _ wr).alloc _; have hb0 : Blk (wr.alloc (.cells (b8A zb64) 154)) wr.heap.size 154 (fillV (fun c : UInt8 => Value.int .u8 (c.toNat : Int)) (.int .u8 0) blk 64 0) := by
        have := Blk.new wr 154 (fillV (fun c : UInt8 => Value.int .u8 (c.toNat : Int)) (.int .u8 0) blk 64 0)
        rwa [show (fillV (fun c : UInt8 => Value.int .u8 (c.toNat : Int)) (.int .u8 0) blk 64 0).toArray = b8A zb64 by simp [fillV, b8A, zb64, encB]] at this
      have HM := Lib.hid (And.intro (hm.kept hk0) (And.intro hb0 hm.k.size)); clear hm hk0 hb0 hget hbl hnext hsl haq hlt hNb hPl hq hPb; go_wp2_with fail; generalize wr.heap.size = g6 at *; generalize wr.alloc (.cells (b8A zb64) 154) = w5 at *
      go_loopw [7] (fun u wr => ∃ k : Nat, k ≤ 64 ∧ u = .int .i64 k ∧ OfMem w wr g4 st (.slice A0 P.length c0) P w1.heap.size ∧ Blk wr g6 154 (fillV (fun c : UInt8 => Value.int .u8 (c.toNat : Int)) (.int .u8 0) blk 64 k)) (fun u _ => 64 - (intOf u).toNat)
      case atStart => exact ⟨0, Nat.zero_le _, rfl, HM.out.1, HM.out.2.1⟩
      case round =>
        obtain ⟨k, hk, rfl, hm, hb⟩ := hrel; rcases Nat.lt_or_ge k 64 with h64 | h64
        · obtain ⟨hp1, hp2, hpe⟩ := HH.out.1 k h64
          obtain ⟨A1, c1, hA1, _, hbyt⟩ := hm.p.form; simp only [Value.slice.injEq] at hA1; obtain ⟨rfl, -, rfl⟩ := hA1; obtain ⟨bb, off, rfl, hc⟩ := hbyt.get hp1; obtain ⟨mm, hmm⟩ : ∃ mm, mm = aq + k := ⟨_, rfl⟩; rw [hpe, ← hmm] at hc; have hww : IntKind.i64.wrap ((aq : Int) + (k : Int)) = (mm : Int) := by rw [IntKind.wrap_i64]; have := HH.out.2.2.2.2.2.2; omega
          have hmP : (mm : Int) < (P.length : Int) := by omega
          have hcz := hb.cell (fillV_zero (f := fun c : UInt8 => Value.int .u8 (c.toNat : Int)) (z := .int .u8 0) h64 hp2); have hz := hb.thaw k; have hset := Lib.hid (fillV_set (f := fun c : UInt8 => Value.int .u8 (c.toNat : Int)) (z := .int .u8 0) h64 hp2); have HB := Lib.hid (And.intro hm hb); generalize blk[k] = cb at *; have hk6 : (k : Int) < 64 := by omega
          clear hm hb hbyt hpe hp1 hp2 hmm; go_wp2_with fail
          go_roundw
          case rel =>
            refine ⟨k + 1, by omega, by show _ = _; go_num, HB.out.1.blk HB.out.2 HM.out.2.2 ((Upd.refl _ _).setCell (p := ⟨g6, k, none⟩) _ fun _ => rfl), ?_⟩; have := HB.out.2.set k (.int .u8 (cb.toNat : Int))
            rwa [hset.out] at this
          case measure => simp [intOf]; omega
        · obtain hk64 : k = 64 := by omega
          have hk6 : ¬ ((k : Int) < 64) := by omega
          rw [hk64, fillV_all _ _ HH.out.2.1] at hb; obtain ⟨u1, u2⟩ := hb.seg 0 64 (encB blk) (by rw [encB_length]; exact HH.out.2.1) (fun j _ => by rw [Nat.zero_add]; rfl)
          change segV wr ⟨g6, 0, none⟩ 64 = b8A blk at u2
          have hsl := HH.out.2.2.2.1; obtain ⟨t1, t2⟩ := hm.s.seg 0 8 (st.map (Value.int .u32)) (by simpa using hsl) (fun j _ => by rw [Nat.zero_add])
          change segV wr ⟨g4, 0, none⟩ 8 = w32A st at t2
          have HB := Lib.hid hm; clear hm hb hk64 h64 hk hsl; go_wp2_with fail; refine (ref_Round HH.out.2.2.2.1 HH.out.2.1).mono ?_; rintro e w6 ⟨rfl, hu6⟩; have hm6 := HB.out.kept hu6; have hsl2 : (takeM st blk rootsM).length = 8 := takeM_length HH.out.2.2.2.1 _ _; have hr4 : rowB w6 g4 8 = true := rowB_of (show w6.heap[g4]? = some (.cells (st.map (Value.int .u32)).toArray 153 (0, 0)) from hm6.s) (by simp [HH.out.2.2.2.1]); have hsz : (w32A (takeM st blk rootsM)).size = 8 := by rw [w32A_size]; exact hsl2
          have HT := Lib.hid (hm6.turn (takeM st blk rootsM)); have hwa : IntKind.i64.wrap ((aq : Int) + 64) = ((aq + 64 : Nat) : Int) := by rw [IntKind.wrap_i64]; have := HH.out.2.2.2.2.2.2; omega
          clear hu6 hm6 hsl2 t1 t2 u1 u2 HB; generalize takeM st blk rootsM = st2 at *; go_wp2_with fail
          go_roundw
          case rel => exact ⟨q + 1, by have := HH.out.2.2.2.2.2.1; omega, by show _ = _; have := HH.out.2.2.2.2.1; congr 1; omega, by rw [HH.out.2.2.1]; exact HT.out⟩
          case measure => have := HH.out.2.2.2.2; simp [intOf]; omega
    · obtain hqN : q = N := by omega
      obtain ⟨aq, haq⟩ : ∃ aq, aq = 64 * q := ⟨_, rfl⟩; rw [← haq]; have haqP : ¬ ((aq : Int) < (P.length : Int)) := by have := HN.out; omega
      rw [hqN] at hm hsl; have HD := Lib.hid (show shaM R = outM (absorbN rootsM startM P N) from hsha.out); generalize absorbN rootsM startM P N = st at *; have hk0 : Kept wr (wr.alloc (.cells (dA dig0) 23)) := (Upd.refl _ wr).alloc _; have hb0 : Blk (wr.alloc (.cells (dA dig0) 23)) wr.heap.size 23 (fillV (fun c : UInt8 => Value.int .u8 (c.toNat : Int)) (.int .u8 0) (outL st) 32 0) := by
        have := Blk.new wr 23 (fillV (fun c : UInt8 => Value.int .u8 (c.toNat : Int)) (.int .u8 0) (outL st) 32 0)
        rwa [show (fillV (fun c : UInt8 => Value.int .u8 (c.toNat : Int)) (.int .u8 0) (outL st) 32 0).toArray = dA dig0 by simp [fillV, dA, dig0, encB]] at this
      have hm5 := hm.kept hk0; have HM := Lib.hid (And.intro hm5.k (And.intro hm5.r (And.intro hm5.s (And.intro hb0 (And.intro hm.k.size (And.intro hm.r.lt hsl)))))); clear hm hk0 hb0 haq hqN hq hge hm5 hsl; go_wp2_with fail; generalize hg8 : wr.heap.size = g8 at *; generalize wr.alloc (.cells (dA dig0) 23) = w5 at *; clear haqP
      go_loopw [9] (fun u wr => ∃ k : Nat, k ≤ 32 ∧ u = .int .i64 k ∧ Kept w wr ∧ Blk wr w.heap.size 23 (encB dig0.1) ∧ Blk wr g4 153 (st.map (Value.int .u32)) ∧ Blk wr g8 23 (fillV (fun c : UInt8 => Value.int .u8 (c.toNat : Int)) (.int .u8 0) (outL st) 32 k)) (fun u _ => 64 - (intOf u).toNat)
      case atStart => exact ⟨0, Nat.zero_le _, rfl, HM.out.1, HM.out.2.1, HM.out.2.2.1, HM.out.2.2.2.1⟩
      case round =>
        obtain ⟨k, hk, rfl, hu, hr, hs, hb⟩ := hrel; rcases Nat.lt_or_ge k 32 with h32 | h32
        · have hkl : k < (outL st).length := by simpa [outL] using h32
          have hval : (outL st)[k] = byteW (st.getD (k / 4) 0 / 2 ^ (24 - 8 * (k % 4))) := by simp [outL]
          have hcz := hb.cell (fillV_zero (f := fun c : UInt8 => Value.int .u8 (c.toNat : Int)) (z := .int .u8 0) h32 hkl); have hz := hb.thaw k; have hset := Lib.hid (fillV_set (f := fun c : UInt8 => Value.int .u8 (c.toNat : Int)) (z := .int .u8 0) h32 hkl); have hsl := HM.out.2.2.2.2.2.2; have hword := word_in hs (k := k / 4) (by omega); obtain ⟨q4, hq4⟩ : ∃ q4, q4 = k / 4 := ⟨_, rfl⟩; obtain ⟨r4, hr4⟩ : ∃ r4, r4 = k % 4 := ⟨_, rfl⟩; obtain ⟨r8, hr8⟩ : ∃ r8, r8 = 8 * r4 := ⟨_, rfl⟩; obtain ⟨ee, hee⟩ : ∃ ee, ee = 24 - r8 := ⟨_, rfl⟩; rw [← hq4] at hword hval; rw [← hr4, ← hr8, ← hee] at hval; have d1 : (k : Int) / 4 = (q4 : Int) := by omega
          have d2 : IntKind.i64.wrap (q4 : Int) = (q4 : Int) := by rw [IntKind.wrap_i64]; omega
          have d3 : (k : Int) % 4 = (r4 : Int) := by omega
          have d4 : IntKind.i64.wrap (r4 : Int) = (r4 : Int) := by rw [IntKind.wrap_i64]; omega
          have d5 : IntKind.i64.wrap (8 * (r4 : Int)) = (r8 : Int) := by rw [IntKind.wrap_i64]; omega
          have d6 : IntKind.i64.wrap (24 - (r8 : Int)) = (ee : Int) := by rw [IntKind.wrap_i64]; omega
          have d7 : min ee 32 = ee := by omega
          have d8 : (q4 : Int) < 8 := by omega
          have hby := (byteW_val (st.getD q4 0 / 2 ^ ee)).symm; rw [← hval] at hby; generalize (outL st)[k] = cb at *; generalize st.getD q4 0 = xw at *; have HB := Lib.hid (And.intro hu (And.intro hr (And.intro hs hb))); have hk32 : (k : Int) < 32 := by omega
          clear hu hr hs hb hval hq4 hr4 hr8 hee hsl hkl; go_wp2_with fail
          go_roundw
          case rel =>
            obtain ⟨hu, hr, hs, hb⟩ := HB.out; have hg := HM.out.2.2.2.2; refine ⟨k + 1, by omega, by show _ = _; go_num, hu.setCell (p := ⟨g8, k, none⟩) _ (fun h => absurd (show g8 < w.heap.size from h) (by omega)), hr.far _ _ (fun e => by have : w.heap.size = g8 := e; omega), hs.far _ _ (fun e => by have e2 : g4 = g8 := e; exact absurd (Blk.ty (e2 ▸ hs) hb) (by decide)), ?_⟩; have := hb.set k (.int .u8 (cb.toNat : Int))
            rwa [hset.out] at this
          case measure => simp [intOf]; omega
        · obtain hk32 : k = 32 := by omega
          have hn32 : ¬ ((k : Int) < 32) := by omega
          rw [hk32, fillV_all _ _ (by simp [outL])] at hb; obtain ⟨u1, u2⟩ := hb.seg 0 32 (encB (outL st)) (by rw [encB_length]; simp [outL]) (fun j _ => by rw [Nat.zero_add]; rfl); rw [show (encB (outL st)).toArray = dA (outM st) by unfold outM dA; rfl] at u2; rw [← HD.out] at u2; obtain ⟨hrb, hs1, hs2⟩ := dig_end (shaM R) hr; have HK : Hid (Kept w (wr.setRow w.heap.size (dA (shaM R)))) := Lib.hid (Upd.setRow hu _ _ (fun h => absurd h (Nat.lt_irrefl _))); have HG := Lib.hid (And.intro hs1 hs2); clear hu hr hs hb hs1 hs2 hk32 hk h32; generalize hX : shaM R = X at *; have HXX := Lib.hid hX; clear hX; go_wp2; refine bodyPost_ret (v := .agg (dA X)) ?_ rfl (by rw [HXX.out]; exact ⟨rfl, HK.out⟩); rw [results_seg (P := Tryz.prog) (fn := Tryz.f77) rfl _ _ ⟨w.heap.size, 0, none⟩ 32 _ rfl Tryz.underlying23 rfl sizeOf23 HG.out.1, HG.out.2]
end Go.Proofs.YtepjbijhkkjbfaaGreat
