/- Bags are as the chapter says, of all deeds: the statement BagDeeds holds. For every input. -/
import Derived.Test.YtkfekkemfahepaaBagX
namespace Go.Proofs.Ytkfekkemfahepaa
open Go.ChangeShapes Go.WideShapes Go.ChangeAt Go.RowKit

theorem TB.bd {w W : World} {a r o : Nat} {Na Nr : List Note} {sa la sr lr : Int} {n : Nat} {G : List (Nat × Obj)} {H : List Nat} {Y : List (EnvC × Note)} (h : TB w W a r o Na sa la Nr sr lr n G H Y) {g : Nat} {d : BDeed} (hq : (g, .cells (bdA d) 31) ∈ G) : BdAt W g d := h.gg _ hq

set_option maxHeartbeats 16000000 in
set_option maxRecDepth 20000 in
theorem BagDeeds_walk (A : Option Addr) (l : List BDeed) (c : Nat) (w : World) (hD : BDeeds w A l) (hok : ∀ x ∈ l, BOk x) (hlen : l.length * 64 ≤ reachBytes) :
    Calls Try.prog 3 #[.slice A l.length c] w fun e w' => e = .returned (.bool true) ∧ Kept w w' := by
  unfold reachBytes at hlen
  have HO := Lib.hid hok
  clear hok
  have h := TB.init w
  go_enter Try.func3, Try.ntmps3
  go_wp2_with fail
  refine (bag_New _).mono ?_
  rintro e W1 ⟨rfl, rfl⟩
  go_wp2_with fail
  refine (refb_New _).mono ?_
  rintro e W1 ⟨rfl, rfl⟩
  go_wp2_with fail
  refine (bag_New _).mono ?_
  rintro e W1 ⟨rfl, rfl⟩
  simp only [World.size_alloc]
  generalize ((w.alloc (.cells #[.bool true, .slice none 0 0, .int .i64 0, .int .i64 0] 61)).alloc (.cells #[.slice none 0 0, .int .i64 0, .int .i64 0] 63)).alloc (.cells #[.bool true, .slice none 0 0, .int .i64 0, .int .i64 0] 61) = W1 at *
  have hz2 : w.heap.size + 1 + 1 = w.heap.size + 2 := rfl
  try rw [hz2]
  clear hz2
  generalize w.heap.size + 2 = o at *
  generalize w.heap.size + 1 = r at *
  obtain ⟨a, ha⟩ : ∃ a, a = w.heap.size := ⟨_, rfl⟩
  rw [← ha] at h ⊢
  clear ha
  go_wp2_with fail
  go_loopw [6] (fun i wr => ∃ k : Nat, ∃ N s l0, k ≤ l.length ∧ k ≤ 200 ∧ i = .int .i64 k ∧ TB w wr a r o N s l0 N s l0 k [] [] [] ∧ N.length ≤ k ∧ 0 ≤ s ∧ s ≤ k ∧ 0 ≤ l0 ∧ l0 ≤ k) (fun i _ => 200 - (intOf i).toNat)
  case atStart => exact ⟨0, [], 0, 0, Nat.zero_le _, Nat.zero_le _, rfl, h, by simp, by omega, by omega, by omega, by omega⟩
  case round =>
    clear h
    obtain ⟨k, N, s, l0, hk, hk6, rfl, h, hN, hs0, hs1, hl0, hl1⟩ := hrel
    by_cases hlt : k < l.length
    · by_cases hlt6 : k < 200
      · obtain ⟨gb, off, rfl, hD1⟩ := hD.get hlt
        have hok := HO.out l[k] (List.getElem_mem hlt)
        generalize l[k] = d at *
        have hd := hD1.kept h.k
        have s1 := hd.s1
        have s2 := hd.s2
        have HNOTE := Lib.hid hD1.note
        clear hd hD1
        go_wp2_with fail
        replace h := h.alloc (.cells (bdA d) 31)
        generalize wr.alloc (.cells (bdA d) 31) = W2 at *
        generalize wr.heap.size = g7 at *
        clear s1 s2
        refine (h.oPut (m := (1, 2, [])) (by omega) ⟨rfl, rfl, rfl, .inl rfl, by simp⟩ (by simp [namedB]) (by simp [namedB]) (by simp)).mono ?_
        rintro e W3 ⟨rfl, h'⟩
        clear h
        have h := h'
        clear h'
        have v7 : BdAt W3 g7 d := h.bd (by simp)
        have e0 := v7.c0
        have e1 := v7.c1
        have e2 := v7.c2
        have e3 := v7.s1
        have e4 := v7.s2
        clear v7
        go_wp2_with fail
        refine (ref_Bring _ _ hok.k (by omega) (by omega) _).mono ?_
        rintro e W4 ⟨rfl, rfl⟩
        have hm := mod_range d.k 5 (by omega)
        rcases (by omega : d.k % 5 = 0 ∨ d.k % 5 = 1 ∨ d.k % 5 = 2 ∨ d.k % 5 = 3 ∨ d.k % 5 = 4) with hm0 | hm0 | hm0 | hm0 | hm0
        · rw [hm0]
          clear hm hm0
          go_wp2_with fail
          refine (ref_Copy (HNOTE.out.kept h.k)).mono ?_
          rintro e W4 ⟨y, rfl, hf, hu⟩
          obtain ⟨qs, h', hq⟩ := h.fresh hu hf
          clear h hu hf
          replace h' := h'.alloc (.cells (envA y) 29)
          have h := h'
          clear h'
          clear e0 e1 e2 e3 e4
          have HQ0 := Lib.hid hq
          clear hq
          go_wp2_with fail
          generalize W4.alloc (.cells (envA y) 29) = W5 at *
          generalize W4.heap.size = g8 at *
          replace h := h.drew
          have f3 : ∀ W, (BdAt W g7 d ∧ EnvAt W g8 y) → segB W ⟨g7, 3, none⟩ 3 = true := fun W hW => hW.1.s1
          have f4 : ∀ W, (BdAt W g7 d ∧ EnvAt W g8 y) → segV W ⟨g7, 3, none⟩ 3 = envA d.x := fun W hW => hW.1.s2
          have f5 : ∀ W, (BdAt W g7 d ∧ EnvAt W g8 y) → segB W ⟨g8, 0, none⟩ 3 = true := fun W hW => hW.2.s1
          have f6 : ∀ W, (BdAt W g7 d ∧ EnvAt W g8 y) → segV W ⟨g8, 0, none⟩ 3 = envA y := fun W hW => hW.2.s2
          refine wp_region_ord [(0, true), (1, true), (3, true), (4, true), (5, true), (2, false), (6, false), (7, true), (8, true), (9, true), (10, true), (11, true), (12, false), (13, true), (14, true)] (by kernel_rfl) (by kernel_rfl) (fun W => BdAt W g7 d ∧ EnvAt W g8 y) ⟨h.bd (by simp), h.var (by simp)⟩ ?_
          simp only [ordOps, List.getD_cons_zero, List.getD_cons_succ]
          iterate 5 (refine wpOrd_held (fun K hK => ?_); go_simp; first | (apply Exists.intro; refine ⟨fun W hW => ?_, hK _ ?_⟩; (go_simp; first | done | exact rfl); clear hK K) | (refine hK _ ?_; clear hK K))
          refine wpOrd_step (fun K hK => ?_) ⟨h.bd (by simp), h.var (by simp)⟩
          go_simp
          refine (h.aPut hs0 (by omega) (by omega) (h.y (y, d.m) (by simp)).at_).mono ?_
          rintro e Wx ⟨rfl, h'⟩
          clear h
          have h := h'
          clear h'
          refine hK _ _ ⟨h.bd (by simp), h.var (by simp)⟩ ?_
          clear hK K
          refine wpOrd_step (fun K hK => ?_) ⟨h.bd (by simp), h.var (by simp)⟩
          go_simp
          refine (h.rPut hs0 (by omega) (by omega) (HNOTE.out.kept h.k)).mono ?_
          rintro e Wx ⟨rfl, h'⟩
          clear h
          have h := h'
          clear h'
          refine hK _ _ ⟨h.bd (by simp), h.var (by simp)⟩ ?_
          clear hK K
          iterate 5 (refine wpOrd_held (fun K hK => ?_); go_simp; first | (apply Exists.intro; refine ⟨fun W hW => ?_, hK _ ?_⟩; (go_simp; first | done | exact rfl); clear hK K) | (refine hK _ ?_; clear hK K))
          refine wpOrd_step (fun K hK => ?_) ⟨h.bd (by simp), h.var (by simp)⟩
          go_simp
          refine (ref_Same (h.y (y, d.m) (by simp)).at_ (HNOTE.out.kept h.k)).mono ?_
          rw [decide_eq_true rfl]
          rintro e Wz ⟨rfl, hu⟩
          replace h := h.kept hu
          clear hu
          refine hK _ _ ⟨h.bd (by simp), h.var (by simp)⟩ ?_
          clear hK K
          iterate 2 (refine wpOrd_held (fun K hK => ?_); go_simp; first | (apply Exists.intro; refine ⟨fun W hW => ?_, hK _ ?_⟩; (go_simp; first | done | exact rfl); clear hK K) | (refine hK _ ?_; clear hK K))
          refine wpOrd_nil ?_
          clear f3 f4 f5 f6
          have hpl := putN_length N d.m
          generalize putE N d.m = er at *
          have hN2 : (putN N d.m).length ≤ k + 1 := by have := hpl; omega
          have hs20 : 0 ≤ s + oneIf er := by have := oneIf_range er; omega
          have hs2 : s + oneIf er ≤ k + 1 := by have := oneIf_range er; omega
          have hl20 : 0 ≤ l0 := by have := hl0; omega
          have hl2 : l0 ≤ k + 1 := by have := hl0; omega
          generalize putN N d.m = N2 at *
          generalize s + oneIf er = s2 at *
          generalize l0 = l2 at *
          clear hpl
          rw [List.append_nil] at h
          have hq := HQ0
          -- the bytes of the note in variable g8 (cells y, which tell d.m) are written: loop over slot 9
          have hyn : y.n = (d.m).2.2.length := (h.y (y, d.m) (by simp)).at_.n
          have hrow : y.n ≠ 0 → ∃ q, y.A = some ⟨q, 0, none⟩ ∧ q ∈ qs ∧ w.heap.size ≤ q ∧ Row8 Wz q y.n := fun hne => by
            have hne2 : (d.m).2.2 ≠ [] := fun e => hne (by rw [hyn, e]; rfl)
            obtain ⟨q, q1, q2, q3⟩ := hq.out hne2
            exact ⟨q, q1, q2, q3, by rw [hyn]; exact (h.y (y, d.m) (by simp)).row8 hne2 q1⟩
          have hyl : y.n ≤ 140737488351232 := by rw [hyn]; exact (h.y (y, d.m) (by simp)).at_.len
          replace h := h.less (G' := [(g8, .cells (envA y) 29), (g7, .cells (bdA d) 31)]) (H' := qs) (Y' := []) (by simp) (by simp) (by simp)
          have HR := Lib.hid hrow
          clear hrow hyn hq
          go_wp2_with fail
          go_loopw [9] (fun i wq => ∃ j : Nat, j ≤ y.n ∧ i = .int .i64 j ∧ TB w wq a r o N2 s2 l2 N2 s2 l2 (k + 1) [(g8, .cells (envA y) 29), (g7, .cells (bdA d) 31)] qs [] ∧ (y.n ≠ 0 → ∃ q, y.A = some ⟨q, 0, none⟩ ∧ q ∈ qs ∧ w.heap.size ≤ q ∧ Row8 wq q y.n)) (fun i _ => y.n - (intOf i).toNat)
          case atStart => exact ⟨0, Nat.zero_le _, rfl, h, HR.out⟩
          case round =>
            clear h HR
            obtain ⟨j, hj, rfl, h, hrow⟩ := hrel
            have HR := Lib.hid hrow
            clear hrow
            have v8 := h.var (g := g8) (x := y) (by simp)
            have c8 := v8.c2
            by_cases hjl : j < y.n
            · obtain ⟨q, q1, q2, q3, cs, q4, q5⟩ := HR.out (by omega)
              obtain ⟨u, hu⟩ := q5 j hjl
              have HQ : Hid (Row8 wr.drew q y.n) := ⟨cs, q4, q5⟩
              have p1 : wr.drew.cell? ⟨q, j, none⟩ = some (.int .u8 u) := by rw [cell_of_row _ _ _ _ _ _ (show wr.drew.heap[q]? = _ from q4)]; exact hu
              have p2 : wr.drew.frozen? ⟨q, j, none⟩ = false := frozen_of_row _ _ _ _ _ (show wr.drew.heap[q]? = _ from q4)
              have hjn : (j : Int) < y.n := by omega
              have f1 : ∀ W, EnvAt W g8 y → W.cell? ⟨g8, 2, none⟩ = some (.slice (some ⟨q, 0, none⟩) y.n y.c) := fun W hW => by rw [← q1]; exact hW.c2
              have hq8 : q ≠ g8 := fun e => by have hv : wr.heap[g8]? = _ := v8; rw [← e, q4] at hv; simp at hv
              go_wp2_with fail
              replace h := h.drew
              have hv : EnvAt wr.drew g8 y := v8
              have h8 : wr.drew.heap[q]? = some (.cells cs 5 (0, 0)) := q4
              clear v8 c8 q4 q5 hu HR
              refine wp_region_ord [(0, true), (1, true), (2, true), (3, true), (4, true), (5, true), (6, true), (7, false), (8, true), (9, true), (10, false)] (by kernel_rfl) (by kernel_rfl) (fun W => EnvAt W g8 y) hv ?_
              simp only [ordOps, List.getD_cons_zero, List.getD_cons_succ]
              generalize wr.drew = Wq at *
              iterate 7 (refine wpOrd_held (fun K hK => ?_); go_simp; first | (apply Exists.intro; refine ⟨fun W hW => ?_, hK _ ?_⟩; (go_simp; first | done | exact rfl); clear hK K) | (refine hK _ ?_; clear hK K))
              refine wpOrd_step (fun K hK => ?_) hv
              go_simp
              refine hK _ _ hv ?_
              clear hK K
              iterate 2 (refine wpOrd_held (fun K hK => ?_); go_simp; first | (apply Exists.intro; refine ⟨fun W hW => ?_, hK _ ?_⟩; (go_simp; first | done | exact rfl); clear hK K) | (refine hK _ ?_; clear hK K))
              refine wpOrd_step (fun K hK => ?_) hv
              go_simp
              refine hK _ _ (hv.setOther _ _ (fun e => hq8 e.symm)) ?_
              clear hK K
              refine wpOrd_nil ?_
              have KEY : Hid (∀ X : Int, TB w (Wq.setCell ⟨q, j, none⟩ (.int .u8 X)) a r o N2 s2 l2 N2 s2 l2 (k + 1) [(g8, .cells (envA y) 29), (g7, .cells (bdA d) 31)] qs [] ∧ Row8 (Wq.setCell ⟨q, j, none⟩ (.int .u8 X)) q y.n) := fun X => ⟨h.write q2 q3 h8 (by simp) ((Upd.refl (fun k => k = q) Wq).setCell (p := ⟨q, j, none⟩) _ fun _ => rfl), HQ.out.set j X⟩
              clear h h8 hv f1 p1 p2 HQ
              go_wp2
              go_roundw
              case rel => exact ⟨j + 1, by omega, by go_num, (KEY.out _).1, fun _ => ⟨q, q1, q2, q3, (KEY.out _).2⟩⟩
              case measure => simp [intOf]; omega
            · obtain rfl : y.n = j := by omega
              replace h := h.less (G' := [(g7, .cells (bdA d) 31)]) (H' := []) (Y' := []) (by simp) (by simp) (by simp)
              clear v8 HR hjl hj
              -- N2 s2 l2 : what is there now; bounds hN2 hs20 hs2 hl20 hl2
              go_wp2_with fail
              have f1 : ∀ W, BdAt W g7 d → W.cell? ⟨g7, 1, none⟩ = some (.int .i64 d.at_) := fun W hW => hW.c1
              have f2 : ∀ W, BdAt W g7 d → W.cell? ⟨g7, 2, none⟩ = some (.int .i64 d.set) := fun W hW => hW.c2
              refine wp_region_ord [(0, true), (1, true), (2, true), (4, true), (5, true), (6, true), (3, false), (7, false), (8, true), (9, true), (10, true), (12, true), (11, false), (13, false), (14, true), (15, true), (16, true), (17, true), (19, true), (18, false), (20, false), (21, true), (22, true), (23, true), (24, true), (26, true), (25, false), (27, false), (28, true), (29, true)] (by kernel_rfl) (by kernel_rfl) (fun W => BdAt W g7 d) (h.drew.bd (by simp)) ?_
              simp only [ordOps, List.getD_cons_zero, List.getD_cons_succ]
              replace h := h.drew
              have hS : ∀ W, TB w W a r o N2 s2 l2 N2 s2 l2 (k + 1) [(g7, .cells (bdA d) 31)] [] [] → BdAt W g7 d := fun W hW => hW.bd (by simp)
              iterate 6 (refine wpOrd_held (fun K hK => ?_); go_simp; first | (apply Exists.intro; refine ⟨fun W hW => ?_, hK _ ?_⟩; (go_simp; first | done | exact rfl); clear hK K) | (refine hK _ ?_; clear hK K))
              refine wpOrd_step (fun K hK => ?_) (hS _ h)
              go_simp
              refine (h.aNext (by omega) d.set).mono ?_
              rintro e Wx ⟨rfl, h'⟩
              clear h
              have h := h'
              clear h'
              refine hK _ _ (hS _ h) ?_
              clear hK K
              refine wpOrd_step (fun K hK => ?_) (hS _ h)
              go_simp
              refine (h.rNext (by omega) d.set).mono ?_
              rintro e Wx ⟨rfl, rfl⟩
              refine hK _ _ (hS _ h) ?_
              clear hK K
              generalize nextM N2 d.set = ans
              iterate 4 (refine wpOrd_held (fun K hK => ?_); go_simp; first | (apply Exists.intro; refine ⟨fun W hW => ?_, hK _ ?_⟩; (go_simp; first | done | exact rfl); clear hK K) | (refine hK _ ?_; clear hK K))
              refine wpOrd_step (fun K hK => ?_) (hS _ h)
              go_simp
              refine (h.aLen).mono ?_
              rintro e Wx ⟨rfl, rfl⟩
              refine hK _ _ (hS _ h) ?_
              clear hK K
              refine wpOrd_step (fun K hK => ?_) (hS _ h)
              go_simp
              refine (h.rLen).mono ?_
              rintro e Wx ⟨rfl, rfl⟩
              refine hK _ _ (hS _ h) ?_
              clear hK K
              iterate 5 (refine wpOrd_held (fun K hK => ?_); go_simp; first | (apply Exists.intro; refine ⟨fun W hW => ?_, hK _ ?_⟩; (go_simp; first | done | exact rfl); clear hK K) | (refine hK _ ?_; clear hK K))
              refine wpOrd_step (fun K hK => ?_) (hS _ h)
              go_simp
              refine (h.aSent).mono ?_
              rintro e Wx ⟨rfl, rfl⟩
              refine hK _ _ (hS _ h) ?_
              clear hK K
              refine wpOrd_step (fun K hK => ?_) (hS _ h)
              go_simp
              refine (h.rSent).mono ?_
              rintro e Wx ⟨rfl, rfl⟩
              refine hK _ _ (hS _ h) ?_
              clear hK K
              iterate 5 (refine wpOrd_held (fun K hK => ?_); go_simp; first | (apply Exists.intro; refine ⟨fun W hW => ?_, hK _ ?_⟩; (go_simp; first | done | exact rfl); clear hK K) | (refine hK _ ?_; clear hK K))
              refine wpOrd_step (fun K hK => ?_) (hS _ h)
              go_simp
              refine (h.aLost).mono ?_
              rintro e Wx ⟨rfl, rfl⟩
              refine hK _ _ (hS _ h) ?_
              clear hK K
              refine wpOrd_step (fun K hK => ?_) (hS _ h)
              go_simp
              refine (h.rLost).mono ?_
              rintro e Wx ⟨rfl, rfl⟩
              refine hK _ _ (hS _ h) ?_
              clear hK K
              iterate 2 (refine wpOrd_held (fun K hK => ?_); go_simp; first | (apply Exists.intro; refine ⟨fun W hW => ?_, hK _ ?_⟩; (go_simp; first | done | exact rfl); clear hK K) | (refine hK _ ?_; clear hK K))
              refine wpOrd_nil ?_
              clear f1 f2 hS
              go_wp2
              go_roundw
              case rel => exact ⟨k + 1, N2, s2, l2, by omega, by omega, by go_num, h.less (by simp) (by simp) (by simp), by omega, by omega, by omega, by omega, by omega⟩
              case measure => simp [intOf]; omega
        ·
          have HM := Lib.hid hm0
          rw [hm0]
          clear hm hm0
          go_wp2_with fail
          refine (h.aLook d.at_).mono ?_
          rintro e W4 ⟨x1, qs1, rfl, h', hq1⟩
          have HQ1 := Lib.hid hq1
          clear h hq1
          clear e0 e1 e2 e3 e4
          have hg7l : g7 < W4.heap.size := (Array.getElem?_eq_some_iff.1 (h'.bd (g := g7) (d := d) (by simp))).1
          have hw4 : w.heap.size ≤ W4.heap.size := h'.k.size
          replace h' := h'.alloc (.cells (envA x1) 29)
          have h := h'
          clear h'
          have e1 := BdAt.c1 (h.bd (g := g7) (d := d) (by simp))
          go_wp2_with fail
          generalize W4.alloc (.cells (envA x1) 29) = W5 at *
          generalize W4.heap.size = g10 at *
          refine (h.rLook d.at_).mono ?_
          rintro e W6 ⟨y1, qs2, rfl, h', hq2⟩
          clear h e1 hq2
          have hg10l : g10 < W6.heap.size := (h'.var (g := g10) (x := x1) (by simp)).lt
          replace h' := h'.alloc (.cells (envA y1) 29)
          have h := h'
          clear h'
          have e0 := BdAt.c0 (h.bd (g := g7) (d := d) (by simp))
          have e1 := BdAt.c1 (h.bd (g := g7) (d := d) (by simp))
          go_wp2_with fail
          generalize W6.alloc (.cells (envA y1) 29) = W7 at *
          generalize W6.heap.size = g12 at *
          refine (ref_Bring _ _ hok.k (by omega) (by omega) _).mono ?_
          rintro e Wy ⟨rfl, rfl⟩
          rw [HM.out]
          clear HM e0
          have v10 := h.var (g := g10) (x := x1) (by simp)
          have v12 := h.var (g := g12) (x := y1) (by simp)
          have a1 := v10.s1
          have a2 := v10.s2
          have b1 := v12.s1
          have b2 := v12.s2
          clear v10 v12 e1
          generalize errR N d.at_ = er at *
          generalize getR N d.at_ = mm at *
          go_wp2_with fail
          refine (ref_Same (h.y (x1, mm) (by simp)).at_ (h.y (y1, mm) (by simp)).at_).mono ?_
          rw [decide_eq_true rfl]
          rintro e Wz ⟨rfl, hu⟩
          replace h := h.kept hu
          clear hu a1 a2 b1 b2
          obtain ⟨qs, hqs⟩ : ∃ qs, qs = qs2 ++ (qs1 ++ []) := ⟨_, rfl⟩
          have hq : Hid (mm.2.2 ≠ [] → ∃ q, x1.A = some ⟨q, 0, none⟩ ∧ q ∈ qs ∧ w.heap.size ≤ q) := fun hne => by
            obtain ⟨q, q1, q2, q3⟩ := HQ1.out hne
            exact ⟨q, q1, by rw [hqs]; simp [q2], q3⟩
          rw [← hqs] at h
          clear HQ1 hqs
          have hN2 : (N).length ≤ k + 1 := by have := hN; omega
          have hs20 : 0 ≤ s := by have := hs0; omega
          have hs2 : s ≤ k + 1 := by have := hs0; omega
          have hl20 : 0 ≤ l0 := by have := hl0; omega
          have hl2 : l0 ≤ k + 1 := by have := hl0; omega
          generalize N = N2 at *
          generalize s = s2 at *
          generalize l0 = l2 at *
          -- the bytes of the note in variable g10 (cells x1, which tell mm) are written: loop over slot 14
          have hyn : x1.n = (mm).2.2.length := (h.y (x1, mm) (by simp)).at_.n
          have hrow : x1.n ≠ 0 → ∃ q, x1.A = some ⟨q, 0, none⟩ ∧ q ∈ qs ∧ w.heap.size ≤ q ∧ Row8 Wz q x1.n := fun hne => by
            have hne2 : (mm).2.2 ≠ [] := fun e => hne (by rw [hyn, e]; rfl)
            obtain ⟨q, q1, q2, q3⟩ := hq.out hne2
            exact ⟨q, q1, q2, q3, by rw [hyn]; exact (h.y (x1, mm) (by simp)).row8 hne2 q1⟩
          have hyl : x1.n ≤ 140737488351232 := by rw [hyn]; exact (h.y (x1, mm) (by simp)).at_.len
          replace h := h.less (G' := [(g10, .cells (envA x1) 29), (g7, .cells (bdA d) 31)]) (H' := qs) (Y' := []) (by simp) (by simp) (by simp)
          have HR := Lib.hid hrow
          clear hrow hyn hq
          go_wp2_with fail
          go_loopw [14] (fun i wq => ∃ j : Nat, j ≤ x1.n ∧ i = .int .i64 j ∧ TB w wq a r o N2 s2 l2 N2 s2 l2 (k + 1) [(g10, .cells (envA x1) 29), (g7, .cells (bdA d) 31)] qs [] ∧ (x1.n ≠ 0 → ∃ q, x1.A = some ⟨q, 0, none⟩ ∧ q ∈ qs ∧ w.heap.size ≤ q ∧ Row8 wq q x1.n)) (fun i _ => x1.n - (intOf i).toNat)
          case atStart => exact ⟨0, Nat.zero_le _, rfl, h, HR.out⟩
          case round =>
            clear h HR
            obtain ⟨j, hj, rfl, h, hrow⟩ := hrel
            have HR := Lib.hid hrow
            clear hrow
            have v8 := h.var (g := g10) (x := x1) (by simp)
            have c8 := v8.c2
            by_cases hjl : j < x1.n
            · obtain ⟨q, q1, q2, q3, cs, q4, q5⟩ := HR.out (by omega)
              obtain ⟨u, hu⟩ := q5 j hjl
              have HQ : Hid (Row8 wr.drew q x1.n) := ⟨cs, q4, q5⟩
              have p1 : wr.drew.cell? ⟨q, j, none⟩ = some (.int .u8 u) := by rw [cell_of_row _ _ _ _ _ _ (show wr.drew.heap[q]? = _ from q4)]; exact hu
              have p2 : wr.drew.frozen? ⟨q, j, none⟩ = false := frozen_of_row _ _ _ _ _ (show wr.drew.heap[q]? = _ from q4)
              have hjn : (j : Int) < x1.n := by omega
              have f1 : ∀ W, EnvAt W g10 x1 → W.cell? ⟨g10, 2, none⟩ = some (.slice (some ⟨q, 0, none⟩) x1.n x1.c) := fun W hW => by rw [← q1]; exact hW.c2
              have hq8 : q ≠ g10 := fun e => by have hv : wr.heap[g10]? = _ := v8; rw [← e, q4] at hv; simp at hv
              go_wp2_with fail
              replace h := h.drew
              have hv : EnvAt wr.drew g10 x1 := v8
              have h8 : wr.drew.heap[q]? = some (.cells cs 5 (0, 0)) := q4
              clear v8 c8 q4 q5 hu HR
              refine wp_region_ord [(0, true), (1, true), (2, true), (3, true), (4, true), (5, true), (6, true), (7, false), (8, true), (9, true), (10, false)] (by kernel_rfl) (by kernel_rfl) (fun W => EnvAt W g10 x1) hv ?_
              simp only [ordOps, List.getD_cons_zero, List.getD_cons_succ]
              generalize wr.drew = Wq at *
              iterate 7 (refine wpOrd_held (fun K hK => ?_); go_simp; first | (apply Exists.intro; refine ⟨fun W hW => ?_, hK _ ?_⟩; (go_simp; first | done | exact rfl); clear hK K) | (refine hK _ ?_; clear hK K))
              refine wpOrd_step (fun K hK => ?_) hv
              go_simp
              refine hK _ _ hv ?_
              clear hK K
              iterate 2 (refine wpOrd_held (fun K hK => ?_); go_simp; first | (apply Exists.intro; refine ⟨fun W hW => ?_, hK _ ?_⟩; (go_simp; first | done | exact rfl); clear hK K) | (refine hK _ ?_; clear hK K))
              refine wpOrd_step (fun K hK => ?_) hv
              go_simp
              refine hK _ _ (hv.setOther _ _ (fun e => hq8 e.symm)) ?_
              clear hK K
              refine wpOrd_nil ?_
              have KEY : Hid (∀ X : Int, TB w (Wq.setCell ⟨q, j, none⟩ (.int .u8 X)) a r o N2 s2 l2 N2 s2 l2 (k + 1) [(g10, .cells (envA x1) 29), (g7, .cells (bdA d) 31)] qs [] ∧ Row8 (Wq.setCell ⟨q, j, none⟩ (.int .u8 X)) q x1.n) := fun X => ⟨h.write q2 q3 h8 (by simp) ((Upd.refl (fun k => k = q) Wq).setCell (p := ⟨q, j, none⟩) _ fun _ => rfl), HQ.out.set j X⟩
              clear h h8 hv f1 p1 p2 HQ
              go_wp2
              go_roundw
              case rel => exact ⟨j + 1, by omega, by go_num, (KEY.out _).1, fun _ => ⟨q, q1, q2, q3, (KEY.out _).2⟩⟩
              case measure => simp [intOf]; omega
            · obtain rfl : x1.n = j := by omega
              replace h := h.less (G' := [(g7, .cells (bdA d) 31)]) (H' := []) (Y' := []) (by simp) (by simp) (by simp)
              clear v8 HR hjl hj
              -- N2 s2 l2 : what is there now; bounds hN2 hs20 hs2 hl20 hl2
              go_wp2_with fail
              have f1 : ∀ W, BdAt W g7 d → W.cell? ⟨g7, 1, none⟩ = some (.int .i64 d.at_) := fun W hW => hW.c1
              have f2 : ∀ W, BdAt W g7 d → W.cell? ⟨g7, 2, none⟩ = some (.int .i64 d.set) := fun W hW => hW.c2
              refine wp_region_ord [(0, true), (1, true), (2, true), (4, true), (5, true), (6, true), (3, false), (7, false), (8, true), (9, true), (10, true), (12, true), (11, false), (13, false), (14, true), (15, true), (16, true), (17, true), (19, true), (18, false), (20, false), (21, true), (22, true), (23, true), (24, true), (26, true), (25, false), (27, false), (28, true), (29, true)] (by kernel_rfl) (by kernel_rfl) (fun W => BdAt W g7 d) (h.drew.bd (by simp)) ?_
              simp only [ordOps, List.getD_cons_zero, List.getD_cons_succ]
              replace h := h.drew
              have hS : ∀ W, TB w W a r o N2 s2 l2 N2 s2 l2 (k + 1) [(g7, .cells (bdA d) 31)] [] [] → BdAt W g7 d := fun W hW => hW.bd (by simp)
              iterate 6 (refine wpOrd_held (fun K hK => ?_); go_simp; first | (apply Exists.intro; refine ⟨fun W hW => ?_, hK _ ?_⟩; (go_simp; first | done | exact rfl); clear hK K) | (refine hK _ ?_; clear hK K))
              refine wpOrd_step (fun K hK => ?_) (hS _ h)
              go_simp
              refine (h.aNext (by omega) d.set).mono ?_
              rintro e Wx ⟨rfl, h'⟩
              clear h
              have h := h'
              clear h'
              refine hK _ _ (hS _ h) ?_
              clear hK K
              refine wpOrd_step (fun K hK => ?_) (hS _ h)
              go_simp
              refine (h.rNext (by omega) d.set).mono ?_
              rintro e Wx ⟨rfl, rfl⟩
              refine hK _ _ (hS _ h) ?_
              clear hK K
              generalize nextM N2 d.set = ans
              iterate 4 (refine wpOrd_held (fun K hK => ?_); go_simp; first | (apply Exists.intro; refine ⟨fun W hW => ?_, hK _ ?_⟩; (go_simp; first | done | exact rfl); clear hK K) | (refine hK _ ?_; clear hK K))
              refine wpOrd_step (fun K hK => ?_) (hS _ h)
              go_simp
              refine (h.aLen).mono ?_
              rintro e Wx ⟨rfl, rfl⟩
              refine hK _ _ (hS _ h) ?_
              clear hK K
              refine wpOrd_step (fun K hK => ?_) (hS _ h)
              go_simp
              refine (h.rLen).mono ?_
              rintro e Wx ⟨rfl, rfl⟩
              refine hK _ _ (hS _ h) ?_
              clear hK K
              iterate 5 (refine wpOrd_held (fun K hK => ?_); go_simp; first | (apply Exists.intro; refine ⟨fun W hW => ?_, hK _ ?_⟩; (go_simp; first | done | exact rfl); clear hK K) | (refine hK _ ?_; clear hK K))
              refine wpOrd_step (fun K hK => ?_) (hS _ h)
              go_simp
              refine (h.aSent).mono ?_
              rintro e Wx ⟨rfl, rfl⟩
              refine hK _ _ (hS _ h) ?_
              clear hK K
              refine wpOrd_step (fun K hK => ?_) (hS _ h)
              go_simp
              refine (h.rSent).mono ?_
              rintro e Wx ⟨rfl, rfl⟩
              refine hK _ _ (hS _ h) ?_
              clear hK K
              iterate 5 (refine wpOrd_held (fun K hK => ?_); go_simp; first | (apply Exists.intro; refine ⟨fun W hW => ?_, hK _ ?_⟩; (go_simp; first | done | exact rfl); clear hK K) | (refine hK _ ?_; clear hK K))
              refine wpOrd_step (fun K hK => ?_) (hS _ h)
              go_simp
              refine (h.aLost).mono ?_
              rintro e Wx ⟨rfl, rfl⟩
              refine hK _ _ (hS _ h) ?_
              clear hK K
              refine wpOrd_step (fun K hK => ?_) (hS _ h)
              go_simp
              refine (h.rLost).mono ?_
              rintro e Wx ⟨rfl, rfl⟩
              refine hK _ _ (hS _ h) ?_
              clear hK K
              iterate 2 (refine wpOrd_held (fun K hK => ?_); go_simp; first | (apply Exists.intro; refine ⟨fun W hW => ?_, hK _ ?_⟩; (go_simp; first | done | exact rfl); clear hK K) | (refine hK _ ?_; clear hK K))
              refine wpOrd_nil ?_
              clear f1 f2 hS
              go_wp2
              go_roundw
              case rel => exact ⟨k + 1, N2, s2, l2, by omega, by omega, by go_num, h.less (by simp) (by simp) (by simp), by omega, by omega, by omega, by omega, by omega⟩
              case measure => simp [intOf]; omega
        ·
          have HM := Lib.hid hm0
          rw [hm0]
          clear hm hm0
          go_wp2_with fail
          refine (h.aLook d.at_).mono ?_
          rintro e W4 ⟨x1, qs1, rfl, h', hq1⟩
          have HQ1 := Lib.hid hq1
          clear h hq1
          clear e0 e1 e2 e3 e4
          have hg7l : g7 < W4.heap.size := (Array.getElem?_eq_some_iff.1 (h'.bd (g := g7) (d := d) (by simp))).1
          have hw4 : w.heap.size ≤ W4.heap.size := h'.k.size
          replace h' := h'.alloc (.cells (envA x1) 29)
          have h := h'
          clear h'
          have e1 := BdAt.c1 (h.bd (g := g7) (d := d) (by simp))
          go_wp2_with fail
          generalize W4.alloc (.cells (envA x1) 29) = W5 at *
          generalize W4.heap.size = g10 at *
          refine (h.rLook d.at_).mono ?_
          rintro e W6 ⟨y1, qs2, rfl, h', hq2⟩
          clear h e1 hq2
          have hg10l : g10 < W6.heap.size := (h'.var (g := g10) (x := x1) (by simp)).lt
          replace h' := h'.alloc (.cells (envA y1) 29)
          have h := h'
          clear h'
          have e0 := BdAt.c0 (h.bd (g := g7) (d := d) (by simp))
          have e1 := BdAt.c1 (h.bd (g := g7) (d := d) (by simp))
          go_wp2_with fail
          generalize W6.alloc (.cells (envA y1) 29) = W7 at *
          generalize W6.heap.size = g12 at *
          refine (ref_Bring _ _ hok.k (by omega) (by omega) _).mono ?_
          rintro e Wy ⟨rfl, rfl⟩
          rw [HM.out]
          clear HM e0
          clear HQ1
          go_wp2_with fail
          refine (h.aTake (by omega) d.at_).mono ?_
          rintro e W8 ⟨x2, qs3, rfl, h', hq3⟩
          have HQ3 := Lib.hid hq3
          clear h hq3 e1
          have h := h'
          clear h'
          have p10 := (h.var (g := g10) (x := x1) (by simp)).row
          replace h := TB.setVar (h.less (G' := [(g10, .cells (envA x1) 29), (g12, .cells (envA y1) 29), (g7, .cells (bdA d) 31)]) (H' := qs3) (Y' := [(x2, getR N d.at_)]) (by simp) (fun q hq => by simp [hq]) (by simp)) x2 hw4 (by simp; omega)
          have e1 := BdAt.c1 (h.bd (g := g7) (d := d) (by simp))
          go_wp2_with fail
          generalize W8.setRow g10 (envA x2) = W9 at *
          clear p10
          refine (h.rTake (by omega) d.at_).mono ?_
          rintro e Wa ⟨y2, qs4, rfl, h', hq4⟩
          clear h hq4 e1
          have h := h'
          clear h'
          have p12 := (h.var (g := g12) (x := y1) (by simp)).row
          replace h := TB.setVar (h.less (G' := [(g12, .cells (envA y1) 29), (g10, .cells (envA x2) 29), (g7, .cells (bdA d) 31)]) (H' := qs4 ++ qs3) (Y' := [(y2, getR N d.at_), (x2, getR N d.at_)]) (by simp) (by simp) (by simp)) y2 (by omega) (by simp; omega)
          have v10 := h.var (g := g10) (x := x2) (by simp)
          have v12 := h.var (g := g12) (x := y2) (by simp)
          have a1 := v10.s1
          have a2 := v10.s2
          have b1 := v12.s1
          have b2 := v12.s2
          clear v10 v12
          have hel := eraseR_length N d.at_
          generalize errR N d.at_ = er at *
          generalize getR N d.at_ = mm at *
          go_wp2_with fail
          generalize Wa.setRow g12 (envA y2) = Wb at *
          clear p12
          refine (ref_Same (h.y (x2, mm) (by simp)).at_ (h.y (y2, mm) (by simp)).at_).mono ?_
          rw [decide_eq_true rfl]
          rintro e Wz ⟨rfl, hu⟩
          replace h := h.kept hu
          clear hu a1 a2 b1 b2
          obtain ⟨qs, hqs⟩ : ∃ qs, qs = qs4 ++ qs3 := ⟨_, rfl⟩
          have hq : Hid (mm.2.2 ≠ [] → ∃ q, x2.A = some ⟨q, 0, none⟩ ∧ q ∈ qs ∧ w.heap.size ≤ q) := fun hne => by
            obtain ⟨q, q1, q2, q3⟩ := HQ3.out hne
            exact ⟨q, q1, by rw [hqs]; simp [q2], q3⟩
          rw [← hqs] at h
          clear HQ3 hqs
          have hN2 : (eraseR N d.at_).length ≤ k + 1 := by have := hel; omega
          have hs20 : 0 ≤ s := by have := hs0; omega
          have hs2 : s ≤ k + 1 := by have := hs0; omega
          have hl20 : 0 ≤ l0 := by have := hl0; omega
          have hl2 : l0 ≤ k + 1 := by have := hl0; omega
          generalize eraseR N d.at_ = N2 at *
          generalize s = s2 at *
          generalize l0 = l2 at *
          clear hel
          -- the bytes of the note in variable g10 (cells x2, which tell mm) are written: loop over slot 14
          have hyn : x2.n = (mm).2.2.length := (h.y (x2, mm) (by simp)).at_.n
          have hrow : x2.n ≠ 0 → ∃ q, x2.A = some ⟨q, 0, none⟩ ∧ q ∈ qs ∧ w.heap.size ≤ q ∧ Row8 Wz q x2.n := fun hne => by
            have hne2 : (mm).2.2 ≠ [] := fun e => hne (by rw [hyn, e]; rfl)
            obtain ⟨q, q1, q2, q3⟩ := hq.out hne2
            exact ⟨q, q1, q2, q3, by rw [hyn]; exact (h.y (x2, mm) (by simp)).row8 hne2 q1⟩
          have hyl : x2.n ≤ 140737488351232 := by rw [hyn]; exact (h.y (x2, mm) (by simp)).at_.len
          replace h := h.less (G' := [(g10, .cells (envA x2) 29), (g7, .cells (bdA d) 31)]) (H' := qs) (Y' := []) (by simp) (by simp) (by simp)
          have HR := Lib.hid hrow
          clear hrow hyn hq
          go_wp2_with fail
          go_loopw [14] (fun i wq => ∃ j : Nat, j ≤ x2.n ∧ i = .int .i64 j ∧ TB w wq a r o N2 s2 l2 N2 s2 l2 (k + 1) [(g10, .cells (envA x2) 29), (g7, .cells (bdA d) 31)] qs [] ∧ (x2.n ≠ 0 → ∃ q, x2.A = some ⟨q, 0, none⟩ ∧ q ∈ qs ∧ w.heap.size ≤ q ∧ Row8 wq q x2.n)) (fun i _ => x2.n - (intOf i).toNat)
          case atStart => exact ⟨0, Nat.zero_le _, rfl, h, HR.out⟩
          case round =>
            clear h HR
            obtain ⟨j, hj, rfl, h, hrow⟩ := hrel
            have HR := Lib.hid hrow
            clear hrow
            have v8 := h.var (g := g10) (x := x2) (by simp)
            have c8 := v8.c2
            by_cases hjl : j < x2.n
            · obtain ⟨q, q1, q2, q3, cs, q4, q5⟩ := HR.out (by omega)
              obtain ⟨u, hu⟩ := q5 j hjl
              have HQ : Hid (Row8 wr.drew q x2.n) := ⟨cs, q4, q5⟩
              have p1 : wr.drew.cell? ⟨q, j, none⟩ = some (.int .u8 u) := by rw [cell_of_row _ _ _ _ _ _ (show wr.drew.heap[q]? = _ from q4)]; exact hu
              have p2 : wr.drew.frozen? ⟨q, j, none⟩ = false := frozen_of_row _ _ _ _ _ (show wr.drew.heap[q]? = _ from q4)
              have hjn : (j : Int) < x2.n := by omega
              have f1 : ∀ W, EnvAt W g10 x2 → W.cell? ⟨g10, 2, none⟩ = some (.slice (some ⟨q, 0, none⟩) x2.n x2.c) := fun W hW => by rw [← q1]; exact hW.c2
              have hq8 : q ≠ g10 := fun e => by have hv : wr.heap[g10]? = _ := v8; rw [← e, q4] at hv; simp at hv
              go_wp2_with fail
              replace h := h.drew
              have hv : EnvAt wr.drew g10 x2 := v8
              have h8 : wr.drew.heap[q]? = some (.cells cs 5 (0, 0)) := q4
              clear v8 c8 q4 q5 hu HR
              refine wp_region_ord [(0, true), (1, true), (2, true), (3, true), (4, true), (5, true), (6, true), (7, false), (8, true), (9, true), (10, false)] (by kernel_rfl) (by kernel_rfl) (fun W => EnvAt W g10 x2) hv ?_
              simp only [ordOps, List.getD_cons_zero, List.getD_cons_succ]
              generalize wr.drew = Wq at *
              iterate 7 (refine wpOrd_held (fun K hK => ?_); go_simp; first | (apply Exists.intro; refine ⟨fun W hW => ?_, hK _ ?_⟩; (go_simp; first | done | exact rfl); clear hK K) | (refine hK _ ?_; clear hK K))
              refine wpOrd_step (fun K hK => ?_) hv
              go_simp
              refine hK _ _ hv ?_
              clear hK K
              iterate 2 (refine wpOrd_held (fun K hK => ?_); go_simp; first | (apply Exists.intro; refine ⟨fun W hW => ?_, hK _ ?_⟩; (go_simp; first | done | exact rfl); clear hK K) | (refine hK _ ?_; clear hK K))
              refine wpOrd_step (fun K hK => ?_) hv
              go_simp
              refine hK _ _ (hv.setOther _ _ (fun e => hq8 e.symm)) ?_
              clear hK K
              refine wpOrd_nil ?_
              have KEY : Hid (∀ X : Int, TB w (Wq.setCell ⟨q, j, none⟩ (.int .u8 X)) a r o N2 s2 l2 N2 s2 l2 (k + 1) [(g10, .cells (envA x2) 29), (g7, .cells (bdA d) 31)] qs [] ∧ Row8 (Wq.setCell ⟨q, j, none⟩ (.int .u8 X)) q x2.n) := fun X => ⟨h.write q2 q3 h8 (by simp) ((Upd.refl (fun k => k = q) Wq).setCell (p := ⟨q, j, none⟩) _ fun _ => rfl), HQ.out.set j X⟩
              clear h h8 hv f1 p1 p2 HQ
              go_wp2
              go_roundw
              case rel => exact ⟨j + 1, by omega, by go_num, (KEY.out _).1, fun _ => ⟨q, q1, q2, q3, (KEY.out _).2⟩⟩
              case measure => simp [intOf]; omega
            · obtain rfl : x2.n = j := by omega
              replace h := h.less (G' := [(g7, .cells (bdA d) 31)]) (H' := []) (Y' := []) (by simp) (by simp) (by simp)
              clear v8 HR hjl hj
              -- N2 s2 l2 : what is there now; bounds hN2 hs20 hs2 hl20 hl2
              go_wp2_with fail
              have f1 : ∀ W, BdAt W g7 d → W.cell? ⟨g7, 1, none⟩ = some (.int .i64 d.at_) := fun W hW => hW.c1
              have f2 : ∀ W, BdAt W g7 d → W.cell? ⟨g7, 2, none⟩ = some (.int .i64 d.set) := fun W hW => hW.c2
              refine wp_region_ord [(0, true), (1, true), (2, true), (4, true), (5, true), (6, true), (3, false), (7, false), (8, true), (9, true), (10, true), (12, true), (11, false), (13, false), (14, true), (15, true), (16, true), (17, true), (19, true), (18, false), (20, false), (21, true), (22, true), (23, true), (24, true), (26, true), (25, false), (27, false), (28, true), (29, true)] (by kernel_rfl) (by kernel_rfl) (fun W => BdAt W g7 d) (h.drew.bd (by simp)) ?_
              simp only [ordOps, List.getD_cons_zero, List.getD_cons_succ]
              replace h := h.drew
              have hS : ∀ W, TB w W a r o N2 s2 l2 N2 s2 l2 (k + 1) [(g7, .cells (bdA d) 31)] [] [] → BdAt W g7 d := fun W hW => hW.bd (by simp)
              iterate 6 (refine wpOrd_held (fun K hK => ?_); go_simp; first | (apply Exists.intro; refine ⟨fun W hW => ?_, hK _ ?_⟩; (go_simp; first | done | exact rfl); clear hK K) | (refine hK _ ?_; clear hK K))
              refine wpOrd_step (fun K hK => ?_) (hS _ h)
              go_simp
              refine (h.aNext (by omega) d.set).mono ?_
              rintro e Wx ⟨rfl, h'⟩
              clear h
              have h := h'
              clear h'
              refine hK _ _ (hS _ h) ?_
              clear hK K
              refine wpOrd_step (fun K hK => ?_) (hS _ h)
              go_simp
              refine (h.rNext (by omega) d.set).mono ?_
              rintro e Wx ⟨rfl, rfl⟩
              refine hK _ _ (hS _ h) ?_
              clear hK K
              generalize nextM N2 d.set = ans
              iterate 4 (refine wpOrd_held (fun K hK => ?_); go_simp; first | (apply Exists.intro; refine ⟨fun W hW => ?_, hK _ ?_⟩; (go_simp; first | done | exact rfl); clear hK K) | (refine hK _ ?_; clear hK K))
              refine wpOrd_step (fun K hK => ?_) (hS _ h)
              go_simp
              refine (h.aLen).mono ?_
              rintro e Wx ⟨rfl, rfl⟩
              refine hK _ _ (hS _ h) ?_
              clear hK K
              refine wpOrd_step (fun K hK => ?_) (hS _ h)
              go_simp
              refine (h.rLen).mono ?_
              rintro e Wx ⟨rfl, rfl⟩
              refine hK _ _ (hS _ h) ?_
              clear hK K
              iterate 5 (refine wpOrd_held (fun K hK => ?_); go_simp; first | (apply Exists.intro; refine ⟨fun W hW => ?_, hK _ ?_⟩; (go_simp; first | done | exact rfl); clear hK K) | (refine hK _ ?_; clear hK K))
              refine wpOrd_step (fun K hK => ?_) (hS _ h)
              go_simp
              refine (h.aSent).mono ?_
              rintro e Wx ⟨rfl, rfl⟩
              refine hK _ _ (hS _ h) ?_
              clear hK K
              refine wpOrd_step (fun K hK => ?_) (hS _ h)
              go_simp
              refine (h.rSent).mono ?_
              rintro e Wx ⟨rfl, rfl⟩
              refine hK _ _ (hS _ h) ?_
              clear hK K
              iterate 5 (refine wpOrd_held (fun K hK => ?_); go_simp; first | (apply Exists.intro; refine ⟨fun W hW => ?_, hK _ ?_⟩; (go_simp; first | done | exact rfl); clear hK K) | (refine hK _ ?_; clear hK K))
              refine wpOrd_step (fun K hK => ?_) (hS _ h)
              go_simp
              refine (h.aLost).mono ?_
              rintro e Wx ⟨rfl, rfl⟩
              refine hK _ _ (hS _ h) ?_
              clear hK K
              refine wpOrd_step (fun K hK => ?_) (hS _ h)
              go_simp
              refine (h.rLost).mono ?_
              rintro e Wx ⟨rfl, rfl⟩
              refine hK _ _ (hS _ h) ?_
              clear hK K
              iterate 2 (refine wpOrd_held (fun K hK => ?_); go_simp; first | (apply Exists.intro; refine ⟨fun W hW => ?_, hK _ ?_⟩; (go_simp; first | done | exact rfl); clear hK K) | (refine hK _ ?_; clear hK K))
              refine wpOrd_nil ?_
              clear f1 f2 hS
              go_wp2
              go_roundw
              case rel => exact ⟨k + 1, N2, s2, l2, by omega, by omega, by go_num, h.less (by simp) (by simp) (by simp), by omega, by omega, by omega, by omega, by omega⟩
              case measure => simp [intOf]; omega
        · rw [hm0]
          clear hm hm0
          clear e0 e1 e2 e3 e4
          go_wp2_with fail
          have f1 : ∀ W, BdAt W g7 d → W.cell? ⟨g7, 1, none⟩ = some (.int .i64 d.at_) := fun W hW => hW.c1
          have f2 : ∀ W, BdAt W g7 d → W.cell? ⟨g7, 2, none⟩ = some (.int .i64 d.set) := fun W hW => hW.c2
          -- a call on each of the two bags: h.aDrop (by omega) hl0 (by omega) d.at_ h.rDrop (by omega) hl0 (by omega) d.at_ contracts, $3 held first
          refine wp_region_ord [(0, true), (1, true), (2, true), (4, true), (5, true), (6, true), (3, false), (7, false), (8, true)] (by kernel_rfl) (by kernel_rfl) (fun W => BdAt W g7 d) (h.drew.bd (by simp)) ?_
          simp only [ordOps, List.getD_cons_zero, List.getD_cons_succ]
          replace h := h.drew
          iterate 6 (refine wpOrd_held (fun K hK => ?_); go_simp; first | (apply Exists.intro; refine ⟨fun W hW => ?_, hK _ ?_⟩; (go_simp; first | done | exact rfl); clear hK K) | (refine hK _ ?_; clear hK K))
          refine wpOrd_step (fun K hK => ?_) (h.bd (g := g7) (d := d) (by simp))
          go_simp
          refine (h.aDrop (by omega) hl0 (by omega) d.at_).mono ?_
          rintro e Wx ⟨rfl, h'⟩
          clear h
          have h := h'
          clear h'
          refine hK _ _ (h.bd (g := g7) (d := d) (by simp)) ?_
          clear hK K
          refine wpOrd_step (fun K hK => ?_) (h.bd (g := g7) (d := d) (by simp))
          go_simp
          refine (h.rDrop (by omega) hl0 (by omega) d.at_).mono ?_
          rintro e Wx ⟨rfl, h'⟩
          clear h
          have h := h'
          clear h'
          refine hK _ _ (h.bd (g := g7) (d := d) (by simp)) ?_
          clear hK K
          iterate 1 (refine wpOrd_held (fun K hK => ?_); go_simp; first | (apply Exists.intro; refine ⟨fun W hW => ?_, hK _ ?_⟩; (go_simp; first | done | exact rfl); clear hK K) | (refine hK _ ?_; clear hK K))
          refine wpOrd_nil ?_
          clear f1 f2
          generalize errR N d.at_ = er at *
          have hN2 : (eraseR N d.at_).length ≤ k + 1 := by have := eraseR_length N d.at_; omega
          have hs20 : 0 ≤ s := by have := hs0; omega
          have hs2 : s ≤ k + 1 := by have := hs0; omega
          have hl20 : 0 ≤ l0 + oneIf er := by have := oneIf_range er; omega
          have hl2 : l0 + oneIf er ≤ k + 1 := by have := oneIf_range er; omega
          generalize eraseR N d.at_ = N2 at *
          generalize s = s2 at *
          generalize l0 + oneIf er = l2 at *
          -- N2 s2 l2 : what is there now; bounds hN2 hs20 hs2 hl20 hl2
          go_wp2_with fail
          have f1 : ∀ W, BdAt W g7 d → W.cell? ⟨g7, 1, none⟩ = some (.int .i64 d.at_) := fun W hW => hW.c1
          have f2 : ∀ W, BdAt W g7 d → W.cell? ⟨g7, 2, none⟩ = some (.int .i64 d.set) := fun W hW => hW.c2
          refine wp_region_ord [(0, true), (1, true), (2, true), (4, true), (5, true), (6, true), (3, false), (7, false), (8, true), (9, true), (10, true), (12, true), (11, false), (13, false), (14, true), (15, true), (16, true), (17, true), (19, true), (18, false), (20, false), (21, true), (22, true), (23, true), (24, true), (26, true), (25, false), (27, false), (28, true), (29, true)] (by kernel_rfl) (by kernel_rfl) (fun W => BdAt W g7 d) (h.drew.bd (by simp)) ?_
          simp only [ordOps, List.getD_cons_zero, List.getD_cons_succ]
          replace h := h.drew
          have hS : ∀ W, TB w W a r o N2 s2 l2 N2 s2 l2 (k + 1) [(g7, .cells (bdA d) 31)] [] [] → BdAt W g7 d := fun W hW => hW.bd (by simp)
          iterate 6 (refine wpOrd_held (fun K hK => ?_); go_simp; first | (apply Exists.intro; refine ⟨fun W hW => ?_, hK _ ?_⟩; (go_simp; first | done | exact rfl); clear hK K) | (refine hK _ ?_; clear hK K))
          refine wpOrd_step (fun K hK => ?_) (hS _ h)
          go_simp
          refine (h.aNext (by omega) d.set).mono ?_
          rintro e Wx ⟨rfl, h'⟩
          clear h
          have h := h'
          clear h'
          refine hK _ _ (hS _ h) ?_
          clear hK K
          refine wpOrd_step (fun K hK => ?_) (hS _ h)
          go_simp
          refine (h.rNext (by omega) d.set).mono ?_
          rintro e Wx ⟨rfl, rfl⟩
          refine hK _ _ (hS _ h) ?_
          clear hK K
          generalize nextM N2 d.set = ans
          iterate 4 (refine wpOrd_held (fun K hK => ?_); go_simp; first | (apply Exists.intro; refine ⟨fun W hW => ?_, hK _ ?_⟩; (go_simp; first | done | exact rfl); clear hK K) | (refine hK _ ?_; clear hK K))
          refine wpOrd_step (fun K hK => ?_) (hS _ h)
          go_simp
          refine (h.aLen).mono ?_
          rintro e Wx ⟨rfl, rfl⟩
          refine hK _ _ (hS _ h) ?_
          clear hK K
          refine wpOrd_step (fun K hK => ?_) (hS _ h)
          go_simp
          refine (h.rLen).mono ?_
          rintro e Wx ⟨rfl, rfl⟩
          refine hK _ _ (hS _ h) ?_
          clear hK K
          iterate 5 (refine wpOrd_held (fun K hK => ?_); go_simp; first | (apply Exists.intro; refine ⟨fun W hW => ?_, hK _ ?_⟩; (go_simp; first | done | exact rfl); clear hK K) | (refine hK _ ?_; clear hK K))
          refine wpOrd_step (fun K hK => ?_) (hS _ h)
          go_simp
          refine (h.aSent).mono ?_
          rintro e Wx ⟨rfl, rfl⟩
          refine hK _ _ (hS _ h) ?_
          clear hK K
          refine wpOrd_step (fun K hK => ?_) (hS _ h)
          go_simp
          refine (h.rSent).mono ?_
          rintro e Wx ⟨rfl, rfl⟩
          refine hK _ _ (hS _ h) ?_
          clear hK K
          iterate 5 (refine wpOrd_held (fun K hK => ?_); go_simp; first | (apply Exists.intro; refine ⟨fun W hW => ?_, hK _ ?_⟩; (go_simp; first | done | exact rfl); clear hK K) | (refine hK _ ?_; clear hK K))
          refine wpOrd_step (fun K hK => ?_) (hS _ h)
          go_simp
          refine (h.aLost).mono ?_
          rintro e Wx ⟨rfl, rfl⟩
          refine hK _ _ (hS _ h) ?_
          clear hK K
          refine wpOrd_step (fun K hK => ?_) (hS _ h)
          go_simp
          refine (h.rLost).mono ?_
          rintro e Wx ⟨rfl, rfl⟩
          refine hK _ _ (hS _ h) ?_
          clear hK K
          iterate 2 (refine wpOrd_held (fun K hK => ?_); go_simp; first | (apply Exists.intro; refine ⟨fun W hW => ?_, hK _ ?_⟩; (go_simp; first | done | exact rfl); clear hK K) | (refine hK _ ?_; clear hK K))
          refine wpOrd_nil ?_
          clear f1 f2 hS
          go_wp2
          go_roundw
          case rel => exact ⟨k + 1, N2, s2, l2, by omega, by omega, by go_num, h.less (by simp) (by simp) (by simp), by omega, by omega, by omega, by omega, by omega⟩
          case measure => simp [intOf]; omega
        · rw [hm0]
          clear hm hm0
          clear e0 e1 e2 e3 e4
          go_wp2_with fail
          have f1 : ∀ W, BdAt W g7 d → W.cell? ⟨g7, 1, none⟩ = some (.int .i64 d.at_) := fun W hW => hW.c1
          have f2 : ∀ W, BdAt W g7 d → W.cell? ⟨g7, 2, none⟩ = some (.int .i64 d.set) := fun W hW => hW.c2
          -- a call on each of the two bags: h.aDouble (by omega) hs0 (by omega) d.at_ h.rDouble (by omega) hs0 (by omega) d.at_ contracts, $3 held first
          refine wp_region_ord [(0, true), (1, true), (2, true), (4, true), (5, true), (6, true), (3, false), (7, false), (8, true)] (by kernel_rfl) (by kernel_rfl) (fun W => BdAt W g7 d) (h.drew.bd (by simp)) ?_
          simp only [ordOps, List.getD_cons_zero, List.getD_cons_succ]
          replace h := h.drew
          iterate 6 (refine wpOrd_held (fun K hK => ?_); go_simp; first | (apply Exists.intro; refine ⟨fun W hW => ?_, hK _ ?_⟩; (go_simp; first | done | exact rfl); clear hK K) | (refine hK _ ?_; clear hK K))
          refine wpOrd_step (fun K hK => ?_) (h.bd (g := g7) (d := d) (by simp))
          go_simp
          refine (h.aDouble (by omega) hs0 (by omega) d.at_).mono ?_
          rintro e Wx ⟨rfl, h'⟩
          clear h
          have h := h'
          clear h'
          refine hK _ _ (h.bd (g := g7) (d := d) (by simp)) ?_
          clear hK K
          refine wpOrd_step (fun K hK => ?_) (h.bd (g := g7) (d := d) (by simp))
          go_simp
          refine (h.rDouble (by omega) hs0 (by omega) d.at_).mono ?_
          rintro e Wx ⟨rfl, h'⟩
          clear h
          have h := h'
          clear h'
          refine hK _ _ (h.bd (g := g7) (d := d) (by simp)) ?_
          clear hK K
          iterate 1 (refine wpOrd_held (fun K hK => ?_); go_simp; first | (apply Exists.intro; refine ⟨fun W hW => ?_, hK _ ?_⟩; (go_simp; first | done | exact rfl); clear hK K) | (refine hK _ ?_; clear hK K))
          refine wpOrd_nil ?_
          clear f1 f2
          generalize errR N d.at_ = er at *
          have hN2 : (doubleR N d.at_).length ≤ k + 1 := by have := doubleR_length N d.at_; omega
          have hs20 : 0 ≤ s + oneIf er := by have := oneIf_range er; omega
          have hs2 : s + oneIf er ≤ k + 1 := by have := oneIf_range er; omega
          have hl20 : 0 ≤ l0 := by have := hl0; omega
          have hl2 : l0 ≤ k + 1 := by have := hl0; omega
          generalize doubleR N d.at_ = N2 at *
          generalize s + oneIf er = s2 at *
          generalize l0 = l2 at *
          -- N2 s2 l2 : what is there now; bounds hN2 hs20 hs2 hl20 hl2
          go_wp2_with fail
          have f1 : ∀ W, BdAt W g7 d → W.cell? ⟨g7, 1, none⟩ = some (.int .i64 d.at_) := fun W hW => hW.c1
          have f2 : ∀ W, BdAt W g7 d → W.cell? ⟨g7, 2, none⟩ = some (.int .i64 d.set) := fun W hW => hW.c2
          refine wp_region_ord [(0, true), (1, true), (2, true), (4, true), (5, true), (6, true), (3, false), (7, false), (8, true), (9, true), (10, true), (12, true), (11, false), (13, false), (14, true), (15, true), (16, true), (17, true), (19, true), (18, false), (20, false), (21, true), (22, true), (23, true), (24, true), (26, true), (25, false), (27, false), (28, true), (29, true)] (by kernel_rfl) (by kernel_rfl) (fun W => BdAt W g7 d) (h.drew.bd (by simp)) ?_
          simp only [ordOps, List.getD_cons_zero, List.getD_cons_succ]
          replace h := h.drew
          have hS : ∀ W, TB w W a r o N2 s2 l2 N2 s2 l2 (k + 1) [(g7, .cells (bdA d) 31)] [] [] → BdAt W g7 d := fun W hW => hW.bd (by simp)
          iterate 6 (refine wpOrd_held (fun K hK => ?_); go_simp; first | (apply Exists.intro; refine ⟨fun W hW => ?_, hK _ ?_⟩; (go_simp; first | done | exact rfl); clear hK K) | (refine hK _ ?_; clear hK K))
          refine wpOrd_step (fun K hK => ?_) (hS _ h)
          go_simp
          refine (h.aNext (by omega) d.set).mono ?_
          rintro e Wx ⟨rfl, h'⟩
          clear h
          have h := h'
          clear h'
          refine hK _ _ (hS _ h) ?_
          clear hK K
          refine wpOrd_step (fun K hK => ?_) (hS _ h)
          go_simp
          refine (h.rNext (by omega) d.set).mono ?_
          rintro e Wx ⟨rfl, rfl⟩
          refine hK _ _ (hS _ h) ?_
          clear hK K
          generalize nextM N2 d.set = ans
          iterate 4 (refine wpOrd_held (fun K hK => ?_); go_simp; first | (apply Exists.intro; refine ⟨fun W hW => ?_, hK _ ?_⟩; (go_simp; first | done | exact rfl); clear hK K) | (refine hK _ ?_; clear hK K))
          refine wpOrd_step (fun K hK => ?_) (hS _ h)
          go_simp
          refine (h.aLen).mono ?_
          rintro e Wx ⟨rfl, rfl⟩
          refine hK _ _ (hS _ h) ?_
          clear hK K
          refine wpOrd_step (fun K hK => ?_) (hS _ h)
          go_simp
          refine (h.rLen).mono ?_
          rintro e Wx ⟨rfl, rfl⟩
          refine hK _ _ (hS _ h) ?_
          clear hK K
          iterate 5 (refine wpOrd_held (fun K hK => ?_); go_simp; first | (apply Exists.intro; refine ⟨fun W hW => ?_, hK _ ?_⟩; (go_simp; first | done | exact rfl); clear hK K) | (refine hK _ ?_; clear hK K))
          refine wpOrd_step (fun K hK => ?_) (hS _ h)
          go_simp
          refine (h.aSent).mono ?_
          rintro e Wx ⟨rfl, rfl⟩
          refine hK _ _ (hS _ h) ?_
          clear hK K
          refine wpOrd_step (fun K hK => ?_) (hS _ h)
          go_simp
          refine (h.rSent).mono ?_
          rintro e Wx ⟨rfl, rfl⟩
          refine hK _ _ (hS _ h) ?_
          clear hK K
          iterate 5 (refine wpOrd_held (fun K hK => ?_); go_simp; first | (apply Exists.intro; refine ⟨fun W hW => ?_, hK _ ?_⟩; (go_simp; first | done | exact rfl); clear hK K) | (refine hK _ ?_; clear hK K))
          refine wpOrd_step (fun K hK => ?_) (hS _ h)
          go_simp
          refine (h.aLost).mono ?_
          rintro e Wx ⟨rfl, rfl⟩
          refine hK _ _ (hS _ h) ?_
          clear hK K
          refine wpOrd_step (fun K hK => ?_) (hS _ h)
          go_simp
          refine (h.rLost).mono ?_
          rintro e Wx ⟨rfl, rfl⟩
          refine hK _ _ (hS _ h) ?_
          clear hK K
          iterate 2 (refine wpOrd_held (fun K hK => ?_); go_simp; first | (apply Exists.intro; refine ⟨fun W hW => ?_, hK _ ?_⟩; (go_simp; first | done | exact rfl); clear hK K) | (refine hK _ ?_; clear hK K))
          refine wpOrd_nil ?_
          clear f1 f2 hS
          go_wp2
          go_roundw
          case rel => exact ⟨k + 1, N2, s2, l2, by omega, by omega, by go_num, h.less (by simp) (by simp) (by simp), by omega, by omega, by omega, by omega, by omega⟩
          case measure => simp [intOf]; omega
      · obtain rfl : k = 200 := by omega
        go_wp2_with fail
        refine (law_works _).mono ?_
        rintro e W1 ⟨rfl, hu⟩
        replace h := h.kept hu
        clear hu
        go_wp2
        go_ret
        exact ⟨rfl, h.k⟩
    · obtain rfl : l.length = k := by omega
      go_wp2_with fail
      refine (law_works _).mono ?_
      rintro e W1 ⟨rfl, hu⟩
      replace h := h.kept hu
      clear hu
      go_wp2
      go_ret
      exact ⟨rfl, h.k⟩
set_option maxRecDepth 100000 in
theorem BagDeeds_lifted (os : Os) (started : os.Started) (H : Type) (enc : TypeId × Value → H) :
    ReturnsInHanded {} Try.checked os 3 .any (Rows.bagDeedsSpec.pre6 enc Try.prog Try.f3 Rows.bagDeedsRow.domain false) (Rows.bagDeedsSpec.post enc Try.prog Try.f3 false true false false) := by
  refine law_lifted os started Try.func3 (by kernel_rfl) rfl rfl (by kernel_rfl) ?_
    (ChangeSpec.witness6 (enc := enc) (C := Try.checked) false ⟨#[], #[.slice none 0 0], []⟩ 8 (by kernel_rfl) (by kernel_rfl) (by kernel_rfl) (by kernel_rfl)) ?_
  · intro ds h
    rw [Try.params3] at h
    match ds, h with
    | [d0], _ => rfl
  · intro W base args ds ps hval hA hsz
    rw [Try.params3] at hA hval hsz
    obtain ⟨v0, vs0, d0, ds0, p0, q0, hargs, rfl, rfl, h0, r_0⟩ := trodAll_cons hA
    obtain ⟨rfl, rfl, rfl⟩ := trodAll_nil r_0
    obtain rfl : args = #[v0] := by cases args; simp_all
    obtain ⟨A0, n0, c0, rfl⟩ := okWide_slice Try.underlying22 (hval 0 22 v0 rfl rfl)
    have r0 := ReadsAs.of_trod hsz (j := 0) rfl rfl h0
    obtain ⟨A, l, cap, hcs, hlen, hD, hok⟩ := open_bdeeds r0
    simp only [Value.cells, List.cons.injEq, Value.slice.injEq, and_true] at hcs
    obtain ⟨rfl, rfl, rfl⟩ := hcs
    exact BagDeeds_walk _ l _ W hD hok hlen

theorem BagDeeds_holds : Rows.BagDeedsSaid :=
  OpenClaim.holds_of_wide 3 Try.f3 rfl rfl rfl rfl rfl rfl rfl ⟨rfl, rfl, rfl, rfl, rfl⟩ rfl rfl rfl rfl rfl (by kernel_rfl) Try.func3 (by kernel_rfl)
    (of_decide_eq_true (by kernel_rfl)) (by unfold Func.isWrapper; first | (rw [if_pos (by decide +kernel)]; kernel_rfl) | (rw [if_neg (by decide +kernel)]; exact ⟨rfl, rfl⟩))
    (fun os started H enc _ => BagDeeds_lifted os started H enc)
end Go.Proofs.Ytkfekkemfahepaa
