/- The bag's methods: Take. -/
import Derived.Test.YtkfekkemfahepaaBagE
namespace Go.Proofs.Ytkfekkemfahepaa
open Go.RowKit

def restA (g k c : Nat) : Option Addr := if c = k then some ⟨g, 0, none⟩ else some ⟨g, k * 3, none⟩
theorem restA_ne {g k c : Nat} (h : k < c) : restA g k c = some ⟨g, k * 3, none⟩ := by unfold restA; rw [if_neg (by omega)]

theorem bag_Take_no {w : World} {B b : Nat} {v : Value} {zs : List (EnvC × Note)} {s l : Int} (h : BagAt w B b v zs s l) (i : Int) (hi : i < 0 ∨ zs.length ≤ i) :
    Calls Try.prog 20 #[.pointer (some ⟨b, 0, none⟩), .int .i64 i] w fun e w' => e = .returned (.tuple #[.agg (envA envZ), .int .i64 9]) ∧ Kept w w' := by
  have hg := EnvAt.new w envZ
  have hb1 := h.alloc (.cells (envA envZ) 29)
  have hk : Kept w (w.alloc (.cells (envA envZ) 29)) := (Upd.refl _ w).alloc _
  have HI := Lib.hid hi
  clear h hi
  go_enter Try.func20, Try.ntmps20
  go_wp2_with fail
  generalize w.alloc (.cells (envA envZ) 29) = W2 at *
  refine (bag_Look_no hb1 i HI.out).mono ?_
  rintro e W3 ⟨rfl, hu⟩
  have hg3 : EnvAt (W3.alloc (.cells (envA envZ) 29)) w.heap.size envZ := (hg.kept hu).kept ((Upd.refl _ W3).alloc _)
  have hk3 : Kept w (W3.alloc (.cells (envA envZ) 29)) := (hk.then hu fun _ _ h => h).alloc _
  have p1 := hg3.row
  have p2 := (hg.kept hu).row
  have p3 := (hg.kept hu).lt
  have HG := Lib.hid ((hg.kept hu).setRow envZ)
  have HK := Lib.hid ((hk.then hu fun _ _ h => h).setRow (g := w.heap.size) (envA envZ) fun h => by omega)
  clear hb1 hg hk hg3 hk3 hu
  go_wp2
  refine bodyPost_ret (v := .tuple #[.agg (envA envZ), .int .i64 9]) ?_ rfl ⟨rfl, HK.out.alloc _⟩
  have HG2 : EnvAt ((W3.setRow w.heap.size (envA envZ)).alloc (.cells (envA envZ) 29)) w.heap.size envZ := HG.out.kept ((Upd.refl _ _).alloc _)
  rw [results_seg2 (P := Try.prog) (fn := Try.f20) rfl _ _ ⟨w.heap.size, 0, none⟩ 3 _ _ rfl rfl Try.underlying29 rfl sizeOf29 HG2.s1, HG2.s2]
  try rfl

set_option maxHeartbeats 2000000 in
set_option maxRecDepth 20000 in
theorem bag_Take_ok {w : World} {B b : Nat} {v : Value} {zs : List (EnvC × Note)} {s l : Int} (h : BagAt w B b v zs s l) (hB : B ≤ w.heap.size) (hz4 : zs.length ≤ 4096) (i : Nat) (hi : i < zs.length) :
    Calls Try.prog 20 #[.pointer (some ⟨b, 0, none⟩), .int .i64 i] w fun e w' => ∃ y v', e = .returned (.tuple #[.agg (envA y), .int .i64 0]) ∧ Fresh w.heap.size w' y zs[i].2 ∧ BagTo w w' B b v v' (zs.eraseIdx i) s l := by
  have hg := EnvAt.new w envZ
  have hb1 := h.alloc (.cells (envA envZ) 29)
  have hk : Kept w (w.alloc (.cells (envA envZ) 29)) := (Upd.refl _ w).alloc _
  have hbn : b ≠ w.heap.size := by have := h.size; omega
  have H0 := Lib.hid h
  have hvn : v.ownBlock ≠ some w.heap.size := h.notes.rows.far (.inr (Nat.le_refl _))
  clear h
  go_enter Try.func20, Try.ntmps20
  go_wp2_with fail
  generalize w.alloc (.cells (envA envZ) 29) = W2 at *
  refine (bag_Look_ok hb1 i hi).mono ?_
  rintro e W3 ⟨y, rfl, hfr, hu⟩
  have hg3 := (hg.kept hu).kept ((Upd.refl _ W3).alloc (.cells (envA y) 29))
  have hb3 := (hb1.kept hu).alloc (.cells (envA y) 29)
  have hk3 : Kept w (W3.alloc (.cells (envA y) 29)) := (hk.then hu fun _ _ h => h).alloc _
  have hq3 := EnvAt.new W3 y
  have hf3 := (hfr.kept ((Upd.refl _ W3).alloc (.cells (envA y) 29))).mono hk.size
  have hs3 : w.heap.size < W3.heap.size := (hg.kept hu).lt
  have hvn3 : v.ownBlock ≠ some W3.heap.size := (hb1.kept hu).notes.rows.far (.inr (Nat.le_refl _))
  have hbn3 : b ≠ W3.heap.size := by have := (hb1.kept hu).size; omega
  clear hb1 hg hk hfr
  have hu0 := hu.size
  clear hu
  go_wp2_with fail
  generalize W3.alloc (.cells (envA y) 29) = W4 at *
  have HB : Hid (B ≤ W4.drew.heap.size) := Nat.le_trans hB hk3.size
  have hb4 := hb3.drew
  have hg4 : EnvAt W4.drew w.heap.size envZ := hg3
  have hq4 : EnvAt W4.drew W3.heap.size y := hq3
  have hk4 := hk3.drew
  have hf4 := hf3.kept (Upd.refl (fun _ => False) W4).drew
  clear hb3 hg3 hq3 hk3 hf3
  have hS0 : Upd (fun k => k = b ∨ v.ownBlock = some k) W4 W4.drew := (Upd.refl _ _).drew
  refine wp_region_tree (.take 0 (.take 1 (.take 2 (.take 3 (.take 5 (.take 6 (.take 8 (.take 9 (.take 10 (.take 12 (.take 13 (.two 4 11 (.take 7 (.one 11 (.take 14 (.one 15 (.take 16 (.take 17 (.one 18 .done))))))) (.take 14 (.one 4 (.take 7 (.one 15 (.take 16 (.take 17 (.one 18 .done))))))))))))))))))) (by kernel_rfl) (by kernel_rfl) (Upd (fun k => k = b ∨ v.ownBlock = some k) W4) hS0 ?_
  simp only [OT.ops, List.getD_cons_zero, List.getD_cons_succ]
  have hi4 : (i : Int) + 1 ≤ 4096 := by omega
  iterate 11 (refine wpOO_held (fun K hK => ?_); go_simp; first | (apply Exists.intro; refine ⟨fun W hW => ?_, hK _ ?_⟩; (go_simp; first | done | exact rfl); clear hK K) | (refine hK _ ?_; clear hK K))
  rw [show IntKind.i64.wrap ((i : Int) + 1) = i + 1 by rw [IntKind.wrap_i64]; omega]
  obtain ⟨g, c, hv, hic, hcut⟩ := hb4.notes.rows.cut envP_rows.size hi
  have d1 := hb4.c1
  generalize W4.drew = W5 at *
  have hii : (i : Int) ≤ c := by omega
  have hii1 : (i : Int) + 1 ≤ zs.length := by omega
  have hzc : (zs.length : Int) ≤ c := by omega
  subst hv
  refine wpOO_fork (fun K hK => ?_) (fun K hK => ?_) hS0
  · go_simp
    refine hK _ _ hS0 ?_
    clear hK K
    iterate 1 (refine wpOO_held (fun K hK => ?_); go_simp; first | (apply Exists.intro; refine ⟨fun W hW => ?_, hK _ ?_⟩; (go_simp; first | done | exact rfl); clear hK K) | (refine hK _ ?_; clear hK K))
    refine wpOO_step (fun K hK => ?_) hS0
    go_simp
    refine hK _ _ hS0 ?_
    clear hK K
    refine wpOO_held (fun K hK => ?_)
    go_simp
    refine ⟨.slice (restA g (i + 1) c) (zs.length - (i + 1)) (c - (i + 1)), fun W hW => ?_, hK _ ?_⟩
    · go_simp
      rw [if_pos (by omega)]
      rfl
    clear hK K
    obtain ⟨v', W', hr, hrows, hu', hnew⟩ := run_append_rest envP_rows 45 hb4.notes.rows i hi (restA g (i + 1) c) (c - (i + 1)) (fun h => restA_ne (by omega)) (by unfold maxLen; omega) (by omega) HB.out
    refine wpOO_step (fun K hK => ?_) hS0
    refine step_append rfl (.tmp 23) (.tmp 30) rfl rfl rfl hr ?_
    obtain ⟨A', c', rfl⟩ := hrows.form
    have hlen : (zs.eraseIdx i).length = zs.length - 1 := by rw [List.length_eraseIdx]; simp [hi]
    rw [hlen] at hr hrows hnew
    have hS' : Upd (fun k => k = b ∨ (Value.slice (some ⟨g, 0, none⟩) zs.length c).ownBlock = some k) W4 W' := hS0.then hu' fun _ _ h => h.elim
    have hb5 := hb4.kept hu'
    have hc' := hb5.c1
    have hf' := hb5.thaw 1
    rw [hlen]
    refine hK _ _ hS' ?_
    clear hK K
    iterate 2 (refine wpOO_held (fun K hK => ?_); go_simp; first | (apply Exists.intro; refine ⟨fun W hW => ?_, hK _ ?_⟩; (go_simp; first | done | exact rfl); clear hK K) | (refine hK _ ?_; clear hK K))
    refine wpOO_step (fun K hK => ?_) hS'
    go_simp
    refine hK _ _ (hS'.setCell (p := ⟨b, 1, none⟩) _ fun _ => .inl rfl) ?_
    clear hK K
    refine wpOO_nil ?_
    have hfin : BagTo W5 (W'.setCell ⟨b, 1, none⟩ (.slice A' (zs.length - 1) c')) B b (.slice (some ⟨g, 0, none⟩) zs.length c) (.slice A' (zs.length - 1) c') (zs.eraseIdx i) s l := by
      have hu6 : Upd (fun k => k = b) W' (W'.setCell ⟨b, 1, none⟩ (.slice A' (zs.length - 1) c')) := (Upd.refl _ _).setCell (p := ⟨b, 1, none⟩) _ fun _ => rfl
      refine ⟨⟨by rw [heap_setCell_same _ b 1 _ _ _ hb5.blk]; rfl, ⟨hrows.upd hu6 fun k hk e => by subst e; exact hrows.far (.inl hb5.lt) hk, fun z hz => (hb5.notes.ok z (List.mem_of_mem_eraseIdx hz)).upd hu6 fun k hk => hb5.not8 k (.inl hk)⟩, hb5.lt, fun z hz => hb5.nm z (List.mem_of_mem_eraseIdx hz)⟩, (hu'.mono fun _ _ h => h.elim).then (hu6.mono fun _ _ h => .inl h) fun _ _ h => h, fun k hk e => by have := hnew k hk e; subst this; rfl⟩
    have hg6 : EnvAt (W'.setCell ⟨b, 1, none⟩ (.slice A' (zs.length - 1) c')) w.heap.size envZ := (hg4.kept hu').setOther _ _ (fun e => hbn e.symm)
    have hq6 : EnvAt (W'.setCell ⟨b, 1, none⟩ (.slice A' (zs.length - 1) c')) W3.heap.size y := (hq4.kept hu').setOther _ _ (fun e => hbn3 e.symm)
    have hf6 : Fresh w.heap.size (W'.setCell ⟨b, 1, none⟩ (.slice A' (zs.length - 1) c')) y zs[i].2 := (hf4.kept hu').upd ((Upd.refl (fun k => k = b) W').setCell (p := ⟨b, 1, none⟩) _ fun _ => rfl) fun k hk => hb5.not8 k (.inl hk)
    have HFIN := Lib.hid (And.intro hfin (And.intro hk4 hf6))
    have HL5 := Lib.hid hg4.lt
    clear hr hrows hu' hnew hlen hS' hb5 hc' hf' hfin hf6 hk4 hf4 hb4 hg4 hq4 hS0 d1
    generalize W'.setCell ⟨b, 1, none⟩ (.slice A' (zs.length - 1) c') = W6 at *
    have p1 := hq6.s1
    have p2 := hq6.s2
    have p3 := hg6.row
    have HG := Lib.hid (hg6.setRow y)
    have HE := Lib.hid hg6
    clear hg6 hq6 hii hii1 hzc hi4
    go_wp2
    have hul : Upd (fun k => k = w.heap.size) W6 (W6.setRow w.heap.size (envA y)) := (Upd.refl _ _).setRow _ fun _ => rfl
    have hn8 : ∀ k, k = w.heap.size → ∀ cs fr, W6.heap[k]? ≠ some (.cells cs 5 fr) := fun k hk cs fr e => by subst hk; rw [HE.out] at e; cases e
    refine bodyPost_ret (v := .tuple #[.agg (envA y), .int .i64 0]) ?_ rfl ⟨y, .slice A' (zs.length - 1) c', rfl, HFIN.out.2.2.upd hul hn8, ?_⟩
    · rw [results_seg2 (P := Try.prog) (fn := Try.f20) rfl _ _ ⟨w.heap.size, 0, none⟩ 3 _ _ rfl rfl Try.underlying29 rfl sizeOf29 HG.out.s1, HG.out.s2]
      try rfl
    · have hto := (((BagTo.refl H0.out).kept HFIN.out.2.1).trans HFIN.out.1)
      have hnb : ∀ k, k = w.heap.size → ¬ (k = b) := fun k hk e => hbn (by rw [← e, hk])
      have hb6 := hto.bag
      have hv6 : ∀ k, (Value.slice A' (zs.length - 1) c').ownBlock = some k → ¬ (k = w.heap.size) := fun k hk e => by
        subst e
        exact hvn (HFIN.out.1.new _ HL5.out hk)
      exact ⟨⟨(hul.heap hb6.blk (fun e => hbn e)), hb6.notes.upd hul hv6 hn8, hb6.lt, hb6.nm⟩, hto.upd.setRow _ fun h => by omega, hto.new⟩
  · go_simp
    refine hK _ _ hS0 ?_
    clear hK K
    refine wpOO_held (fun K hK => ?_)
    go_simp
    refine ⟨.slice (restA g (i + 1) c) (zs.length - (i + 1)) (c - (i + 1)), fun W hW => ?_, hK _ ?_⟩
    · go_simp
      rw [if_pos (by omega)]
      rfl
    clear hK K
    refine wpOO_step (fun K hK => ?_) hS0
    go_simp
    refine hK _ _ hS0 ?_
    clear hK K
    iterate 1 (refine wpOO_held (fun K hK => ?_); go_simp; first | (apply Exists.intro; refine ⟨fun W hW => ?_, hK _ ?_⟩; (go_simp; first | done | exact rfl); clear hK K) | (refine hK _ ?_; clear hK K))
    obtain ⟨v', W', hr, hrows, hu', hnew⟩ := run_append_rest envP_rows 45 hb4.notes.rows i hi (restA g (i + 1) c) (c - (i + 1)) (fun h => restA_ne (by omega)) (by unfold maxLen; omega) (by omega) HB.out
    refine wpOO_step (fun K hK => ?_) hS0
    refine step_append rfl (.tmp 23) (.tmp 30) rfl rfl rfl hr ?_
    obtain ⟨A', c', rfl⟩ := hrows.form
    have hlen : (zs.eraseIdx i).length = zs.length - 1 := by rw [List.length_eraseIdx]; simp [hi]
    rw [hlen] at hr hrows hnew
    have hS' : Upd (fun k => k = b ∨ (Value.slice (some ⟨g, 0, none⟩) zs.length c).ownBlock = some k) W4 W' := hS0.then hu' fun _ _ h => h.elim
    have hb5 := hb4.kept hu'
    have hc' := hb5.c1
    have hf' := hb5.thaw 1
    rw [hlen]
    refine hK _ _ hS' ?_
    clear hK K
    iterate 2 (refine wpOO_held (fun K hK => ?_); go_simp; first | (apply Exists.intro; refine ⟨fun W hW => ?_, hK _ ?_⟩; (go_simp; first | done | exact rfl); clear hK K) | (refine hK _ ?_; clear hK K))
    refine wpOO_step (fun K hK => ?_) hS'
    go_simp
    refine hK _ _ (hS'.setCell (p := ⟨b, 1, none⟩) _ fun _ => .inl rfl) ?_
    clear hK K
    refine wpOO_nil ?_
    have hfin : BagTo W5 (W'.setCell ⟨b, 1, none⟩ (.slice A' (zs.length - 1) c')) B b (.slice (some ⟨g, 0, none⟩) zs.length c) (.slice A' (zs.length - 1) c') (zs.eraseIdx i) s l := by
      have hu6 : Upd (fun k => k = b) W' (W'.setCell ⟨b, 1, none⟩ (.slice A' (zs.length - 1) c')) := (Upd.refl _ _).setCell (p := ⟨b, 1, none⟩) _ fun _ => rfl
      refine ⟨⟨by rw [heap_setCell_same _ b 1 _ _ _ hb5.blk]; rfl, ⟨hrows.upd hu6 fun k hk e => by subst e; exact hrows.far (.inl hb5.lt) hk, fun z hz => (hb5.notes.ok z (List.mem_of_mem_eraseIdx hz)).upd hu6 fun k hk => hb5.not8 k (.inl hk)⟩, hb5.lt, fun z hz => hb5.nm z (List.mem_of_mem_eraseIdx hz)⟩, (hu'.mono fun _ _ h => h.elim).then (hu6.mono fun _ _ h => .inl h) fun _ _ h => h, fun k hk e => by have := hnew k hk e; subst this; rfl⟩
    have hg6 : EnvAt (W'.setCell ⟨b, 1, none⟩ (.slice A' (zs.length - 1) c')) w.heap.size envZ := (hg4.kept hu').setOther _ _ (fun e => hbn e.symm)
    have hq6 : EnvAt (W'.setCell ⟨b, 1, none⟩ (.slice A' (zs.length - 1) c')) W3.heap.size y := (hq4.kept hu').setOther _ _ (fun e => hbn3 e.symm)
    have hf6 : Fresh w.heap.size (W'.setCell ⟨b, 1, none⟩ (.slice A' (zs.length - 1) c')) y zs[i].2 := (hf4.kept hu').upd ((Upd.refl (fun k => k = b) W').setCell (p := ⟨b, 1, none⟩) _ fun _ => rfl) fun k hk => hb5.not8 k (.inl hk)
    have HFIN := Lib.hid (And.intro hfin (And.intro hk4 hf6))
    have HL5 := Lib.hid hg4.lt
    clear hr hrows hu' hnew hlen hS' hb5 hc' hf' hfin hf6 hk4 hf4 hb4 hg4 hq4 hS0 d1
    generalize W'.setCell ⟨b, 1, none⟩ (.slice A' (zs.length - 1) c') = W6 at *
    have p1 := hq6.s1
    have p2 := hq6.s2
    have p3 := hg6.row
    have HG := Lib.hid (hg6.setRow y)
    have HE := Lib.hid hg6
    clear hg6 hq6 hii hii1 hzc hi4
    go_wp2
    have hul : Upd (fun k => k = w.heap.size) W6 (W6.setRow w.heap.size (envA y)) := (Upd.refl _ _).setRow _ fun _ => rfl
    have hn8 : ∀ k, k = w.heap.size → ∀ cs fr, W6.heap[k]? ≠ some (.cells cs 5 fr) := fun k hk cs fr e => by subst hk; rw [HE.out] at e; cases e
    refine bodyPost_ret (v := .tuple #[.agg (envA y), .int .i64 0]) ?_ rfl ⟨y, .slice A' (zs.length - 1) c', rfl, HFIN.out.2.2.upd hul hn8, ?_⟩
    · rw [results_seg2 (P := Try.prog) (fn := Try.f20) rfl _ _ ⟨w.heap.size, 0, none⟩ 3 _ _ rfl rfl Try.underlying29 rfl sizeOf29 HG.out.s1, HG.out.s2]
      try rfl
    · have hto := (((BagTo.refl H0.out).kept HFIN.out.2.1).trans HFIN.out.1)
      have hnb : ∀ k, k = w.heap.size → ¬ (k = b) := fun k hk e => hbn (by rw [← e, hk])
      have hb6 := hto.bag
      have hv6 : ∀ k, (Value.slice A' (zs.length - 1) c').ownBlock = some k → ¬ (k = w.heap.size) := fun k hk e => by
        subst e
        exact hvn (HFIN.out.1.new _ HL5.out hk)
      exact ⟨⟨(hul.heap hb6.blk (fun e => hbn e)), hb6.notes.upd hul hv6 hn8, hb6.lt, hb6.nm⟩, hto.upd.setRow _ fun h => by omega, hto.new⟩
end Go.Proofs.Ytkfekkemfahepaa
