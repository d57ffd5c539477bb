/- ink: Of. -/
import Derived.Test.YtjimamgghkgdeaaInkA
namespace Go.Proofs.Ytjimamgghkgdeaa
open Go.RowKit

theorem BookAt.bytNot {W : World} {b r q : Nat} {L : List Bytes} {I : List (Dig × Bytes)} {M : List Bytes} {n : Int} (h : BookAt W b r q L I M n) {A : Option Addr} {R : Bytes} (hR : Byt W A R) (hn : R ≠ []) :
    ∀ a, A = some a → ¬ (a.block = b ∨ a.block = r ∨ a.block = q) := by
  rintro a rfl hb
  rcases hR with rfl | ⟨k, off, e, hc⟩
  · exact hn rfl
  · cases e
    have h0 : 0 < R.length := List.length_pos_iff.2 hn
    have h1 := hc 0 (.int .u8 (R[0].toNat : Int)) (by simp [encB, h0])
    rw [Nat.add_zero] at h1
    rcases hb with rfl | rfl | rfl
    · rw [cell_of_row _ _ _ _ _ _ h.blk] at h1
      have : off < 3 := by have := (Array.getElem?_eq_some_iff.1 h1).1; simpa using this
      match off, this with
      | 0, _ => cases h1
      | 1, _ => cases h1
      | 2, _ => cases h1
    · obtain ⟨es, c, hm, _⟩ := h.ins
      simp [World.cell?, hm] at h1
    · obtain ⟨es, c, hm, _⟩ := h.mor
      simp [World.cell?, hm] at h1
theorem Byt.updB {W W' : World} {b r q : Nat} {L : List Bytes} {I : List (Dig × Bytes)} {M : List Bytes} {n : Int} (h : BookAt W b r q L I M n) {A : Option Addr} {R : Bytes} (hR : Byt W A R) (hu : Upd (fun k => k = b ∨ k = r ∨ k = q) W W') : Byt W' A R := by
  by_cases hn : R = []
  · exact .inl hn
  · exact hR.upd hu (h.bytNot hR hn)

theorem str_zero (W : World) : (zeroValue 9).run Try.prog W = .ok (.string ByteArray.empty) W := by
  have h : (Try.prog.info? 9).map (·.zero) = some (some (.string ByteArray.empty)) := by kernel_rfl
  obtain ⟨i, hi, h2⟩ := Option.map_eq_some_iff.1 h
  simp [zeroValue, typeInfo, hi, h2]

set_option maxHeartbeats 4000000 in
set_option maxRecDepth 20000 in
theorem ink_Of {w : World} {b r q : Nat} {L : List Bytes} {I : List (Dig × Bytes)} {M : List Bytes} {n : Int} (h : BookAt w b r q L I M n) {A : Option Addr} {R : Bytes} (c : Nat) (hR : Byt w A R) (hl : R.length ≤ 65536) (hcap : R.length ≤ c) :
    Calls Try.prog 50 #[.pointer (some ⟨b, 0, none⟩), .slice A R.length c] w fun e W => e = .returned (.tuple #[.agg (dA (shaM R)), .int .i64 0]) ∧
      ∃ I' M' n', BookAt W b r q (noteM L R) I' M' n' ∧ Upd (fun k => k = b ∨ k = r ∨ k = q) w W := by
  have hnot : ∀ (x : Bool) (w : World), (Op.unary .not (.bool x)).run Try.prog w = .ok (.bool (!x)) w := fun _ _ => rfl
  have h1 := h.kept ((Upd.refl (fun _ => False) w).alloc (.cells (dA dig0) 40))
  have hR1 := hR.kept ((Upd.refl (fun _ => False) w).alloc (.cells (dA dig0) 40))
  have hr1 : Blk (w.alloc (.cells (dA dig0) 40)) w.heap.size 40 (encB dig0.1) := Blk.new w _ _
  have hk1 : Kept w (w.alloc (.cells (dA dig0) 40)) := (Upd.refl _ w).alloc _
  have HX := Lib.hid (And.intro h1 (And.intro hR1 (And.intro hr1 hk1)))
  clear h h1 hR hR1 hr1 hk1
  have hl' : ((R.length : Nat) : Int) ≤ 65536 := by omega
  go_enter Try.func50, Try.ntmps50
  go_wp2_with fail
  generalize w.alloc (.cells (dA dig0) 40) = w1 at *
  refine (ink_none HX.out.1.c0).mono ?_
  rintro e w1' ⟨rfl, rfl⟩
  go_wp2_with fail
  refine (atomic_Add HX.out.1.c2 (HX.out.1.thaw 2)).mono ?_
  rintro e w2 ⟨rfl, hw2⟩
  have h2 : BookAt w2 b r q L I M (IntKind.i64.wrap (n + 1)) := by
    obtain ⟨h1, _⟩ := HX.out
    subst hw2
    exact ⟨by rw [heap_setCell_same _ b 2 _ _ _ h1.blk]; rfl, h1.ins.kept (heap_setCell_other _ _ _ _ (fun e => h1.b_ne.1 e.symm)), h1.mor.kept (heap_setCell_other _ _ _ _ (fun e => h1.b_ne.2 e.symm)), h1.inv, h1.ne, h1.sz⟩
  have hv2 : Upd (fun k => k = b ∨ k = r ∨ k = q) w1 w2 := by
    subst hw2
    exact (Upd.refl _ _).setCell (p := ⟨b, 2, none⟩) _ fun _ => .inl rfl
  have hR2 := Byt.updB HX.out.1 HX.out.2.1 hv2
  have hr2 := HX.out.2.2.1.upd hv2 (HX.out.1.not HX.out.2.2.1 (by decide))
  have hu2 : Upd (fun k => k = b ∨ k = r ∨ k = q) w w2 := HX.out.2.2.2.to.trans hv2
  clear hw2 hv2
  generalize IntKind.i64.wrap (n + 1) = n2 at *
  have HY := Lib.hid (And.intro h2 (And.intro hR2 (And.intro hr2 hu2)))
  clear h2 hR2 hr2 hu2
  go_wp2_with fail
  refine (sha_Of c HY.out.2.1 (by omega) hcap).mono ?_
  rintro e w3 ⟨rfl, hu3⟩
  have hsz := HY.out.1
  have h3 := HY.out.1.kept hu3
  have hR3 := HY.out.2.1.kept hu3
  have hr3 := HY.out.2.2.1.kept hu3
  have hv3 : Upd (fun k => k = b ∨ k = r ∨ k = q) w w3 := HY.out.2.2.2.then hu3 fun _ _ h => h.elim
  clear hsz hu3
  generalize hD : shaM R = D at *
  have HDD := Lib.hid hD
  have h4 := h3.kept ((Upd.refl (fun _ => False) w3).alloc (.cells (dA D) 40))
  have hR4 := hR3.kept ((Upd.refl (fun _ => False) w3).alloc (.cells (dA D) 40))
  have hr4 := hr3.alloc (.cells (dA D) 40)
  have hd4 : Blk (w3.alloc (.cells (dA D) 40)) w3.heap.size 40 (encB D.1) := Blk.new w3 _ _
  have hv4 := hv3.alloc (.cells (dA D) 40)
  clear hD h3 hR3 hr3 hv3
  have HZ := Lib.hid (And.intro h4 (And.intro hR4 (And.intro hr4 (And.intro hd4 hv4))))
  clear h4 hR4 hr4 hd4 hv4
  go_wp2_with fail
  generalize w3.alloc (.cells (dA D) 40) = w4 at *
  generalize w3.heap.size = gd at *
  have f0 : ∀ W, Kept w4 W → W.cell? ⟨b, 0, none⟩ = some (.map (some r)) := fun W hW => (HZ.out.1.kept hW).c0
  have f1 : ∀ W, Kept w4 W → segB W ⟨gd, 0, none⟩ 32 = true := fun W hW => ((HZ.out.2.2.2.1.kept hW).seg 0 32 (encB D.1) (by rw [encB_length, D.2]) (fun j _ => by rw [Nat.zero_add])).1
  have f2 : ∀ W, Kept w4 W → segV W ⟨gd, 0, none⟩ 32 = dA D := fun W hW => ((HZ.out.2.2.2.1.kept hW).seg 0 32 (encB D.1) (by rw [encB_length, D.2]) (fun j _ => by rw [Nat.zero_add])).2
  cases hf : findI D I with
  | none =>
    have f3 : ∀ W, Kept w4 W → (Instr.lookup 67 (.map (some r)) (.agg (dA D)) true).run Try.prog W = .ok (.tuple #[.string ByteArray.empty, .bool false]) W := fun W hW => by
      have := run_lookup_at dig_enc Try.underlying67 str_zero (HZ.out.1.kept hW).ins (x := D) trivial true
      rw [getL_inV, hf] at this
      exact this
    refine wp_region_mild_all (by kernel_rfl) (by kernel_rfl) (Kept w4) (Upd.refl _ _).drew ?_
    iterate 11 (refine wpMild_step (fun K hK => ?_); go_simp; apply Exists.intro; refine ⟨fun W hW => ?_, hK _ ?_⟩; (go_simp; first | done | exact rfl | exact ⟨rfl, hW⟩); clear hK K)
    refine wpMild_nil (fun w5 hS => ?_)
    have HS := Lib.hid (And.intro (HZ.out.1.kept hS) (And.intro (HZ.out.2.1.kept hS) (And.intro (HZ.out.2.2.1.kept hS) (And.intro (HZ.out.2.2.2.1.kept hS) (HZ.out.2.2.2.2.then hS fun _ _ h => h.elim)))))
    clear f0 f1 f2 f3 hS HZ
    have g0 : ∀ W, Kept w5 W → W.cell? ⟨b, 0, none⟩ = some (.map (some r)) := fun W hW => (HS.out.1.kept hW).c0
    have g1 : ∀ W, Kept w5 W → segB W ⟨gd, 0, none⟩ 32 = true := fun W hW => ((HS.out.2.2.2.1.kept hW).seg 0 32 (encB D.1) (by rw [encB_length, D.2]) (fun j _ => by rw [Nat.zero_add])).1
    have g2 : ∀ W, Kept w5 W → segV W ⟨gd, 0, none⟩ 32 = dA D := fun W hW => ((HS.out.2.2.2.1.kept hW).seg 0 32 (encB D.1) (by rw [encB_length, D.2]) (fun j _ => by rw [Nat.zero_add])).2
    have g3 : ∀ W, Kept w5 W → (convert 32 9 (.slice A R.length c)).run Try.prog W = .ok (.string (strB R)) W := fun W hW => run_str c (HS.out.2.1.kept hW)
    go_wp2_with fail
    refine wp_region_mild 7 (by kernel_rfl) (by kernel_rfl) (Kept w5) (Upd.refl _ _).drew ?_
    simp only [List.take_succ_cons, List.take_zero, List.drop_succ_cons, List.drop_zero]
    iterate 7 (refine wpMild_step (fun K hK => ?_); go_simp; apply Exists.intro; refine ⟨fun W hW => ?_, hK _ ?_⟩; (go_simp; first | done | exact rfl | exact ⟨rfl, hW⟩); clear hK K)
    refine wpMild_nil (fun wc hS => ?_)
    obtain ⟨W6, hrun, hm, hg, hs⟩ := run_update_at dig_enc Try.underlying67 (HS.out.1.kept hS).ins (x := D) trivial (.string (strB R))
    change (Instr.mapUpdate 67 (.map (some r)) (.agg (dA D)) (.string (strB R))).run Try.prog wc = .ok () W6 at hrun
    have HE : Hid (BookAt W6 b r q (noteM L R) (I ++ [(D, R)]) M n2 ∧ Upd (fun k => k = b ∨ k = r ∨ k = q) w W6 ∧ Blk W6 gd 40 (encB D.1) ∧ Blk W6 w.heap.size 40 (encB dig0.1)) := by
      obtain ⟨hb, hbt, hr, hd, hv⟩ := HS.out
      have hbc := hb.kept hS
      have hv6 : Upd (fun k => k = r) wc W6 := (Upd.of_grown hg).mono fun k _ e => by cases e; rfl
      have hinv : BookI shaM (noteM L R) (I ++ [(D, R)]) M := by have := hbc.inv.first (r := R) (by rw [HDD.out]; exact hf); rwa [HDD.out] at this
      rw [putL_inV D R hf] at hm
      refine ⟨⟨hv6.heap hbc.blk hbc.b_ne.1, hm, hbc.mor.kept (hv6.block q hbc.qlt (fun e => hbc.ne e.symm)), hinv, hbc.ne, fun x hx => ?_⟩, (hv.then hS fun _ _ h => h.elim).trans (hv6.mono fun k _ e => .inr (.inl e)), ?_, ?_⟩
      · rcases mem_noteM.1 hx with hx | rfl
        · exact hbc.sz x hx
        · exact hl
      · exact (hd.kept hS).upd hv6 (fun e => hbc.not (hd.kept hS) (by decide) (.inr (.inl e)))
      · exact (hr.kept hS).upd hv6 (fun e => hbc.not (hr.kept hS) (by decide) (.inr (.inl e)))
    clear g0 g1 g2 g3 hS hm hg hs HS
    -- here: HE : Hid (BookAt W b r q (noteM L R) I2 M2 n2 ∧ Upd .. w W ∧ Blk W gd .. (encB D.1) ∧ Blk W w.heap.size .. (encB dig0.1))
    obtain ⟨s1, s2⟩ := HE.out.2.2.1.seg 0 32 (encB D.1) (by rw [encB_length, D.2]) (fun j _ => by rw [Nat.zero_add])
    change segV _ _ 32 = dA D at s2
    have hrb : rowB W6 w.heap.size 32 = true := rowB_of (show (W6).heap[w.heap.size]? = some (.cells (encB dig0.1).toArray 40 (0, 0)) from HE.out.2.2.2) (by simp [encB_length, dig0])
    have HG : Hid (BookAt ((W6).setRow w.heap.size (dA D)) b r q (noteM L R) (I ++ [(D, R)]) M n2 ∧ Upd (fun k => k = b ∨ k = r ∨ k = q) w ((W6).setRow w.heap.size (dA D)) ∧ segB ((W6).setRow w.heap.size (dA D)) ⟨w.heap.size, 0, none⟩ 32 = true ∧ segV ((W6).setRow w.heap.size (dA D)) ⟨w.heap.size, 0, none⟩ 32 = dA D) := by
      obtain ⟨hb, hu, hg, hr⟩ := HE.out
      have hn := hb.not hr (by decide)
      have h1 := (hr.setRow (encB D.1)).seg 0 32 (encB D.1) (by rw [encB_length, D.2]) (fun j _ => by rw [Nat.zero_add])
      have hv : Upd (fun k => k = w.heap.size) W6 ((W6).setRow w.heap.size (dA D)) := (Upd.refl _ _).setRow _ _ fun _ => rfl
      exact ⟨hb.upd hv (fun e => hn (.inl e.symm)) (fun e => hn (.inr (.inl e.symm))) (fun e => hn (.inr (.inr e.symm))), hu.setRow _ _ (fun h => absurd h (Nat.lt_irrefl _)), h1.1, h1.2⟩
    clear HE
    go_wp2
    refine bodyPost_ret (v := .tuple #[.agg (dA D), .int .i64 0]) ?_ rfl ⟨by rw [HDD.out], _, _, _, HG.out.1, HG.out.2.1⟩
    rw [results_seg2 (P := Try.prog) (fn := Try.f50) (p := 4) (t := 5) (ty := 40) rfl _ _ ⟨w.heap.size, 0, none⟩ 32 _ (.int .i64 0) rfl rfl Try.underlying40 rfl sizeOf40 HG.out.2.2.1, HG.out.2.2.2]
  | some q' =>
    have f3 : ∀ W, Kept w4 W → (Instr.lookup 67 (.map (some r)) (.agg (dA D)) true).run Try.prog W = .ok (.tuple #[.string (strB q'), .bool true]) W := fun W hW => by
      have := run_lookup_at dig_enc Try.underlying67 str_zero (HZ.out.1.kept hW).ins (x := D) trivial true
      rw [getL_inV, hf] at this
      exact this
    refine wp_region_mild_all (by kernel_rfl) (by kernel_rfl) (Kept w4) (Upd.refl _ _).drew ?_
    iterate 11 (refine wpMild_step (fun K hK => ?_); go_simp; apply Exists.intro; refine ⟨fun W hW => ?_, hK _ ?_⟩; (go_simp; first | done | exact rfl | exact ⟨rfl, hW⟩); clear hK K)
    refine wpMild_nil (fun w5 hS => ?_)
    have HS := Lib.hid (And.intro (HZ.out.1.kept hS) (And.intro (HZ.out.2.1.kept hS) (And.intro (HZ.out.2.2.1.kept hS) (And.intro (HZ.out.2.2.2.1.kept hS) (HZ.out.2.2.2.2.then hS fun _ _ h => h.elim)))))
    clear f0 f1 f2 f3 hS HZ
    have g0 : ∀ W, Kept w5 W → W.cell? ⟨b, 1, none⟩ = some (.map (some q)) := fun W hW => (HS.out.1.kept hW).c1
    have g3 : ∀ W, Kept w5 W → (convert 32 9 (.slice A R.length c)).run Try.prog W = .ok (.string (strB R)) W := fun W hW => run_str c (HS.out.2.1.kept hW)
    have g4 := g3 w5 (Upd.refl _ _)
    have hsame := strB_same q' R
    have hfd : findI (shaM R) I = some q' := by rw [HDD.out]; exact hf
    have HFD := Lib.hid hfd
    clear hfd
    by_cases hqR : q' = R
    · rw [decide_eq_true hqR] at hsame
      have HE : Hid (BookAt w5 b r q (noteM L R) I M n2 ∧ Upd (fun k => k = b ∨ k = r ∨ k = q) w w5 ∧ Blk w5 gd 40 (encB D.1) ∧ Blk w5 w.heap.size 40 (encB dig0.1)) := by
        obtain ⟨hb, hbt, hr, hd, hv⟩ := HS.out
        have hinv : BookI shaM (noteM L R) I M := hb.inv.again (r := R) (by rw [HFD.out, hqR])
        refine ⟨⟨hb.blk, hb.ins, hb.mor, hinv, hb.ne, fun x hx => ?_⟩, hv, hd, hr⟩
        rcases mem_noteM.1 hx with hx | rfl
        · exact hb.sz x hx
        · exact hl
      clear hqR hf HS g0
      -- here: HE : Hid (BookAt W b r q (noteM L R) I2 M2 n2 ∧ Upd .. w W ∧ Blk W gd .. (encB D.1) ∧ Blk W w.heap.size .. (encB dig0.1))
      obtain ⟨s1, s2⟩ := HE.out.2.2.1.seg 0 32 (encB D.1) (by rw [encB_length, D.2]) (fun j _ => by rw [Nat.zero_add])
      change segV _ _ 32 = dA D at s2
      have hrb : rowB w5 w.heap.size 32 = true := rowB_of (show (w5).heap[w.heap.size]? = some (.cells (encB dig0.1).toArray 40 (0, 0)) from HE.out.2.2.2) (by simp [encB_length, dig0])
      have HG : Hid (BookAt ((w5).setRow w.heap.size (dA D)) b r q (noteM L R) I M n2 ∧ Upd (fun k => k = b ∨ k = r ∨ k = q) w ((w5).setRow w.heap.size (dA D)) ∧ segB ((w5).setRow w.heap.size (dA D)) ⟨w.heap.size, 0, none⟩ 32 = true ∧ segV ((w5).setRow w.heap.size (dA D)) ⟨w.heap.size, 0, none⟩ 32 = dA D) := by
        obtain ⟨hb, hu, hg, hr⟩ := HE.out
        have hn := hb.not hr (by decide)
        have h1 := (hr.setRow (encB D.1)).seg 0 32 (encB D.1) (by rw [encB_length, D.2]) (fun j _ => by rw [Nat.zero_add])
        have hv : Upd (fun k => k = w.heap.size) w5 ((w5).setRow w.heap.size (dA D)) := (Upd.refl _ _).setRow _ _ fun _ => rfl
        exact ⟨hb.upd hv (fun e => hn (.inl e.symm)) (fun e => hn (.inr (.inl e.symm))) (fun e => hn (.inr (.inr e.symm))), hu.setRow _ _ (fun h => absurd h (Nat.lt_irrefl _)), h1.1, h1.2⟩
      clear HE
      go_wp2
      refine bodyPost_ret (v := .tuple #[.agg (dA D), .int .i64 0]) ?_ rfl ⟨by rw [HDD.out], _, _, _, HG.out.1, HG.out.2.1⟩
      rw [results_seg2 (P := Try.prog) (fn := Try.f50) (p := 4) (t := 5) (ty := 40) rfl _ _ ⟨w.heap.size, 0, none⟩ 32 _ (.int .i64 0) rfl rfl Try.underlying40 rfl sizeOf40 HG.out.2.2.1, HG.out.2.2.2]
    · rw [decide_eq_false hqR] at hsame
      have HNE := Lib.hid hqR
      clear hqR
      go_wp2_with fail
      refine wp_region_mild 6 (by kernel_rfl) (by kernel_rfl) (Kept w5) (Upd.refl _ _).drew ?_
      simp only [List.take_succ_cons, List.take_zero, List.drop_succ_cons, List.drop_zero]
      iterate 6 (refine wpMild_step (fun K hK => ?_); go_simp; apply Exists.intro; refine ⟨fun W hW => ?_, hK _ ?_⟩; (go_simp; first | done | exact rfl | exact ⟨rfl, hW⟩); clear hK K)
      refine wpMild_nil (fun wc hS => ?_)
      obtain ⟨W6, hrun, hm, hg, hs⟩ := run_update_at str_enc Try.underlying68 (HS.out.1.kept hS).mor (x := R) hl (.bool true)
      change (Instr.mapUpdate 68 (.map (some q)) (.string (strB R)) (.bool true)).run Try.prog wc = .ok () W6 at hrun
      have HE : Hid (BookAt W6 b r q (noteM L R) I (moreM M R) n2 ∧ Upd (fun k => k = b ∨ k = r ∨ k = q) w W6 ∧ Blk W6 gd 40 (encB D.1) ∧ Blk W6 w.heap.size 40 (encB dig0.1)) := by
        obtain ⟨hb, hbt, hr, hd, hv⟩ := HS.out
        have hbc := hb.kept hS
        have hv6 : Upd (fun k => k = q) wc W6 := (Upd.of_grown hg).mono fun k _ e => by cases e; rfl
        have hinv : BookI shaM (noteM L R) I (moreM M R) := hbc.inv.other HFD.out HNE.out
        rw [putL_moV R M] at hm
        refine ⟨⟨hv6.heap hbc.blk hbc.b_ne.2, hbc.ins.kept (hv6.block r hbc.rlt hbc.ne), hm, hinv, hbc.ne, fun x hx => ?_⟩, (hv.then hS fun _ _ h => h.elim).trans (hv6.mono fun k _ e => .inr (.inr e)), ?_, ?_⟩
        · rcases mem_noteM.1 hx with hx | rfl
          · exact hbc.sz x hx
          · exact hl
        · exact (hd.kept hS).upd hv6 (fun e => hbc.not (hd.kept hS) (by decide) (.inr (.inr e)))
        · exact (hr.kept hS).upd hv6 (fun e => hbc.not (hr.kept hS) (by decide) (.inr (.inr e)))
      clear g0 g3 g4 hS hm hg hs HS hsame hf
      -- here: HE : Hid (BookAt W b r q (noteM L R) I2 M2 n2 ∧ Upd .. w W ∧ Blk W gd .. (encB D.1) ∧ Blk W w.heap.size .. (encB dig0.1))
      obtain ⟨s1, s2⟩ := HE.out.2.2.1.seg 0 32 (encB D.1) (by rw [encB_length, D.2]) (fun j _ => by rw [Nat.zero_add])
      change segV _ _ 32 = dA D at s2
      have hrb : rowB W6 w.heap.size 32 = true := rowB_of (show (W6).heap[w.heap.size]? = some (.cells (encB dig0.1).toArray 40 (0, 0)) from HE.out.2.2.2) (by simp [encB_length, dig0])
      have HG : Hid (BookAt ((W6).setRow w.heap.size (dA D)) b r q (noteM L R) I (moreM M R) n2 ∧ Upd (fun k => k = b ∨ k = r ∨ k = q) w ((W6).setRow w.heap.size (dA D)) ∧ segB ((W6).setRow w.heap.size (dA D)) ⟨w.heap.size, 0, none⟩ 32 = true ∧ segV ((W6).setRow w.heap.size (dA D)) ⟨w.heap.size, 0, none⟩ 32 = dA D) := by
        obtain ⟨hb, hu, hg, hr⟩ := HE.out
        have hn := hb.not hr (by decide)
        have h1 := (hr.setRow (encB D.1)).seg 0 32 (encB D.1) (by rw [encB_length, D.2]) (fun j _ => by rw [Nat.zero_add])
        have hv : Upd (fun k => k = w.heap.size) W6 ((W6).setRow w.heap.size (dA D)) := (Upd.refl _ _).setRow _ _ fun _ => rfl
        exact ⟨hb.upd hv (fun e => hn (.inl e.symm)) (fun e => hn (.inr (.inl e.symm))) (fun e => hn (.inr (.inr e.symm))), hu.setRow _ _ (fun h => absurd h (Nat.lt_irrefl _)), h1.1, h1.2⟩
      clear HE
      go_wp2
      refine bodyPost_ret (v := .tuple #[.agg (dA D), .int .i64 0]) ?_ rfl ⟨by rw [HDD.out], _, _, _, HG.out.1, HG.out.2.1⟩
      rw [results_seg2 (P := Try.prog) (fn := Try.f50) (p := 4) (t := 5) (ty := 40) rfl _ _ ⟨w.heap.size, 0, none⟩ 32 _ (.int .i64 0) rfl rfl Try.underlying40 rfl sizeOf40 HG.out.2.2.1, HG.out.2.2.2]
end Go.Proofs.Ytjimamgghkgdeaa
