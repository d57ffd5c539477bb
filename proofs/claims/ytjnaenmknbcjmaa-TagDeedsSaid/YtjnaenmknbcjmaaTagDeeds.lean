/- Ledgers are as the chapter says, of all deeds: the statement TagDeeds holds. For every input. -/
import Derived.Test.YtjnaenmknbcjmaaTagU
namespace Go.Proofs.Ytjnaenmknbcjmaa
open Go.ChangeShapes Go.WideShapes Go.ChangeAt Go.RowKit

set_option maxHeartbeats 8000000 in
set_option maxRecDepth 20000 in
theorem TagDeeds_walk (A : Option Addr) (l : List DeedV) (c : Nat) (w : World) (hD : Deeds w A l) (hok : ∀ x ∈ l, DeedOk x) (hlen : l.length * 72 ≤ reachBytes) :
    Calls Try.prog 3 #[.slice A l.length c] w fun e w' => e = .returned (.bool true) ∧ Kept w w' := by
  unfold reachBytes at hlen
  have HO := Lib.hid hok
  clear hok
  go_enter Try.func3, Try.ntmps3
  go_wp2_with fail
  refine (tag_New _).mono ?_
  rintro e W1 ⟨ba, ra, rfl, hLa, hu1, hba, hra⟩
  go_wp2_with fail
  refine (ref_New _).mono ?_
  rintro e W2 ⟨rfl, hw2⟩
  have hb2 : W2.heap[W1.heap.size]? = some (.cells #[.slice none 0 0, .int .i64 0] 86 (0, 0)) := by rw [← hw2]; exact heap_alloc_new _ _
  have hu2 : Kept W1 W2 := by rw [← hw2]; exact (Upd.refl _ _).alloc _
  have hs2 : W2.heap.size = W1.heap.size + 1 := by rw [← hw2, World.size_alloc]
  have hla := hLa.lt
  have hlr := hLa.map.lt
  have hss := hu1.size
  replace hLa := hLa.upd hu2 id id
  have hbr : ba ≠ ra := fun e => by
    obtain ⟨es, c, hm, _⟩ := hLa.map
    rw [← e, hLa.blk] at hm; cases hm
  clear hw2
  obtain ⟨bb, hbb⟩ : ∃ bb, bb = W1.heap.size := ⟨_, rfl⟩
  rw [← hbb] at hb2 ⊢
  have hk2 : Hid (Kept w W2) := Lib.hid (hu1.then hu2 fun _ _ h => h)
  have HL := Lib.hid (And.intro hLa (And.intro hb2 hbr))
  have HS : Hid (W1.heap.size = bb ∧ W2.heap.size = bb + 1 ∧ ba < bb ∧ ra < bb ∧ w.heap.size ≤ bb ∧ w.heap.size ≤ ba ∧ w.heap.size ≤ ra) := ⟨by omega, by omega, by omega, by omega, by omega, by omega, by omega⟩
  clear hu1 hu2 hs2 hla hlr hss hLa hb2 hbr hbb hba hra
  go_wp2_with fail
  refine (tag_New _).mono ?_
  rintro e W3 ⟨bo, ro, rfl, hLo, hu3, hbo, hro⟩
  obtain ⟨B, hB⟩ : ∃ B, B = W3.heap.size := ⟨_, rfl⟩
  obtain ⟨v, hv⟩ : ∃ v : Value, v = .slice none 0 0 := ⟨_, rfl⟩
  have hT : Trio w W3 B ba ra bb bo ro v [] [] 0 0 [] := by
    obtain ⟨s1, s2, s3, s4, s5, s6, s7⟩ := HS.out
    obtain ⟨h1, h2, h3⟩ := HL.out
    have hl1 := hLo.lt
    have hl2 := hLo.map.lt
    have hz := hu3.size
    subst hv
    refine ⟨h1.upd hu3 id id, ⟨hu3.heap h2 id, OwnRows.nil _ _ _, by omega, by simp⟩, ⟨_, hLo⟩, by omega, ⟨⟨by omega, by omega, by omega, by omega, by omega, by omega⟩, ⟨by omega, by omega, by omega, by omega, by omega⟩, ⟨by omega, by omega, by omega, by omega⟩, by omega, by omega, by omega, by omega⟩, hk2.out.then hu3 (fun _ _ h => h), by simp⟩
  have HT := Lib.hid hT
  clear hT hv hB hLo hu3 hbo hro HS HL hk2
  go_wp2_with fail
  go_loopw [6] (fun i wr => ∃ k : Nat, ∃ v L, k ≤ l.length ∧ k ≤ 100 ∧ i = .int .i64 k ∧ L.length ≤ 34 * k ∧ Trio w wr B ba ra bb bo ro v L L k k []) (fun i _ => 100 - (intOf i).toNat)
  case atStart => exact ⟨0, v, [], Nat.zero_le _, Nat.zero_le _, rfl, by simp, HT.out⟩
  case round =>
    clear HT v
    obtain ⟨k, v, L, hk, hk6, rfl, hll, hT⟩ := hrel
    have HT := Lib.hid hT
    clear hT
    have HLL := Lib.hid hll
    clear hll
    by_cases hlt : k < l.length
    · by_cases hlt6 : k < 100
      · obtain ⟨gb, off, rfl, hD1⟩ := hD.get hlt
        have hok := HO.out l[k] (List.getElem_mem hlt)
        generalize l[k] = x at *
        have g4 := HT.out.k.cell hD1.d id
        have hd0 := hok.d0
        have hd1 := hok.d1
        go_wp2_with fail
        refine (law_digest _ hd0 hd1 _).mono ?_
        rintro e W4 ⟨rfl, hu⟩
        clear g4
        replace HT := Lib.hid (HT.out.kept hu)
        clear hu
        go_wp2_with fail
        replace HT := Lib.hid (HT.out.alloc (.cells (dA (digI x.d)) 28))
        generalize W4.alloc (.cells (dA (digI x.d)) 28) = W5 at *
        generalize W4.heap.size = g at *
        obtain ⟨Lo, ho⟩ := HT.out.o
        refine (tag_Tag ho _ _ _).mono ?_
        rintro e W6 ⟨rfl, hL6, hu⟩
        replace HT := Lib.hid (HT.out.ofO hL6 hu)
        generalize (tagM Lo 1 0 (digI x.d)).2 = ao
        clear hu hL6 ho Lo W4
        have HK := Lib.hid HT.out.k
        have g4 := HK.out.cell hD1.k id
        go_wp2_with fail
        refine (ref_Bring _ _ hok.k (by omega) (by omega) _).mono ?_
        rintro e W2 ⟨rfl, rfl⟩
        clear g4 HK
        have f5 : ∀ W, (Kept w W ∧ Box W g (digI x.d)) → segB W ⟨g, 0, none⟩ 32 = true := fun W hW => hW.2.s1
        have f6 : ∀ W, (Kept w W ∧ Box W g (digI x.d)) → segV W ⟨g, 0, none⟩ 32 = dA (digI x.d) := fun W hW => hW.2.s2
        have f0 : ∀ W, (Kept w W ∧ Box W g (digI x.d)) → W.cell? ⟨gb, off + k * 7, none⟩ = some (.int .i64 x.k) := fun W hW => hW.1.cell hD1.k id
        have f1 : ∀ W, (Kept w W ∧ Box W g (digI x.d)) → W.cell? ⟨gb, off + k * 7 + 1, none⟩ = some (.int .i64 x.f) := fun W hW => hW.1.cell hD1.f id
        have f2 : ∀ W, (Kept w W ∧ Box W g (digI x.d)) → W.cell? ⟨gb, off + k * 7 + 2, none⟩ = some (.int .i64 x.t) := fun W hW => hW.1.cell hD1.t id
        have f3 : ∀ W, (Kept w W ∧ Box W g (digI x.d)) → W.cell? ⟨gb, off + k * 7 + 3, none⟩ = some (.slice x.A x.R.length x.c) := fun W hW => hW.1.cell hD1.r id
        have f7 : ∀ W, (Kept w W ∧ Box W g (digI x.d)) → W.cell? ⟨gb, off + k * 7 + 5, none⟩ = some (.int .i64 x.af) := fun W hW => hW.1.cell hD1.af id
        have f8 : ∀ W, (Kept w W ∧ Box W g (digI x.d)) → W.cell? ⟨gb, off + k * 7 + 6, none⟩ = some (.int .i64 x.at_) := fun W hW => hW.1.cell hD1.at_ id
        have hm := mod_range x.k 3 (by omega)
        have HM : Hid (∃ m, m = x.k % 3) := ⟨_, rfl⟩
        rcases (by omega : x.k % 3 = 0 ∨ x.k % 3 = 1 ∨ x.k % 3 = 2) with hm0 | hm0 | hm0
        · clear hm HM
          rw [hm0]
          clear hm0
          go_wp2_with fail
          refine wp_region_ord [(0, true), (1, true), (2, true), (3, true), (4, true), (5, true), (6, true), (7, true), (8, true), (9, true), (10, true), (11, true), (13, true), (14, true), (15, true), (16, true), (17, true), (18, true), (19, true), (20, true), (21, true), (22, true), (23, true), (24, true), (12, false), (25, false), (26, true)] (by kernel_rfl) (by kernel_rfl) (fun W => Kept w W ∧ Box W g (digI x.d)) HT.out.drew.s ?_
          simp only [ordOps, List.getD_cons_zero, List.getD_cons_succ]
          replace HT := Lib.hid HT.out.drew
          iterate 24 (refine wpOrd_held (fun K hK => ?_); go_simp; first | (apply Exists.intro; refine ⟨fun W hW => ?_, hK _ ?_⟩; (go_simp; first | done | exact rfl); clear hK K) | (refine hK _ ?_; clear hK K))
          refine wpOrd_step (fun K hK => ?_) HT.out.s
          go_simp
          refine (tag_Tag HT.out.a _ _ _).mono ?_
          rintro e W3 ⟨rfl, hL3, hu⟩
          replace HT := Lib.hid (HT.out.ofA hL3 hu (fun _ h => .inr h))
          clear hu hL3
          refine hK _ _ HT.out.s ?_
          clear hK K
          refine wpOrd_step (fun K hK => ?_) HT.out.s
          go_simp
          refine (ref_Tag HT.out.r (by have := HLL.out; omega) HT.out.sz _ _ _ hok.f hok.t).mono ?_
          rintro e W4 ⟨rfl, v', hT5⟩
          replace HT := Lib.hid (HT.out.ofR hT5)
          clear hT5
          refine hK _ _ HT.out.s ?_
          clear hK K
          replace HLL : Hid ((tagM L x.f x.t (digI x.d)).1.length ≤ 34 * k + 1) := Lib.hid (by have := tagM_length L x.f x.t (digI x.d); have := HLL.out; omega)
          generalize tagM L x.f x.t (digI x.d) = LL at *
          obtain ⟨L1, ans1⟩ := LL
          dsimp only at HT HLL ⊢
          clear L v
          iterate 1 (refine wpOrd_held (fun K hK => ?_); go_simp; first | (apply Exists.intro; refine ⟨fun W hW => ?_, hK _ ?_⟩; (go_simp; first | done | exact rfl); clear hK K) | (refine hK _ ?_; clear hK K))
          refine wpOrd_nil ?_
          go_wp2_with fail
          refine wp_region_ord [(0, true), (1, true), (2, true), (3, true), (4, true), (5, true), (6, true), (7, true), (8, true), (9, true), (10, true), (11, true), (13, true), (14, true), (15, true), (16, true), (17, true), (18, true), (19, true), (20, true), (21, true), (22, true), (23, true), (24, true), (12, false), (25, false), (26, true), (27, true), (28, true), (30, true), (29, false), (31, false), (32, true), (33, true), (34, true), (35, true), (37, true), (36, false), (38, false), (39, true), (40, true)] (by kernel_rfl) (by kernel_rfl) (fun W => Kept w W ∧ Box W g (digI x.d)) HT.out.drew.s ?_
          simp only [ordOps, List.getD_cons_zero, List.getD_cons_succ]
          replace HT := Lib.hid HT.out.drew
          iterate 24 (refine wpOrd_held (fun K hK => ?_); go_simp; first | (apply Exists.intro; refine ⟨fun W hW => ?_, hK _ ?_⟩; (go_simp; first | done | exact rfl); clear hK K) | (refine hK _ ?_; clear hK K))
          refine wpOrd_step (fun K hK => ?_) HT.out.s
          go_simp
          refine (tag_Check HT.out.a (by omega) (by omega) _ _ _ hok.af hok.at_).mono ?_
          rintro e W5 ⟨rfl, hL5, hu⟩
          replace HT := Lib.hid (HT.out.ofA hL5 hu (fun _ h => .inl h))
          clear hu hL5
          refine hK _ _ HT.out.s ?_
          clear hK K
          refine wpOrd_step (fun K hK => ?_) HT.out.s
          go_simp
          refine (ref_Check HT.out.r (by have := HLL.out; omega) (by omega) (by omega) _ _ _ hok.af hok.at_).mono ?_
          rintro e W6 ⟨rfl, hT5⟩
          replace HT := Lib.hid (HT.out.ofR hT5)
          clear hT5
          refine hK _ _ HT.out.s ?_
          clear hK K
          generalize checkM L1 x.af x.at_ (digI x.d) = ans
          iterate 4 (refine wpOrd_held (fun K hK => ?_); go_simp; first | (apply Exists.intro; refine ⟨fun W hW => ?_, hK _ ?_⟩; (go_simp; first | done | exact rfl); clear hK K) | (refine hK _ ?_; clear hK K))
          refine wpOrd_step (fun K hK => ?_) HT.out.s
          go_simp
          refine (tag_Len HT.out.a).mono ?_
          rintro e W7 ⟨rfl, rfl⟩
          refine hK _ _ HT.out.s ?_
          clear hK K
          refine wpOrd_step (fun K hK => ?_) HT.out.s
          go_simp
          refine (ref_Len HT.out.r).mono ?_
          rintro e W7 ⟨rfl, rfl⟩
          refine hK _ _ HT.out.s ?_
          clear hK K
          iterate 5 (refine wpOrd_held (fun K hK => ?_); go_simp; first | (apply Exists.intro; refine ⟨fun W hW => ?_, hK _ ?_⟩; (go_simp; first | done | exact rfl); clear hK K) | (refine hK _ ?_; clear hK K))
          refine wpOrd_step (fun K hK => ?_) HT.out.s
          go_simp
          refine (tag_Asked HT.out.a).mono ?_
          rintro e W7 ⟨rfl, rfl⟩
          refine hK _ _ HT.out.s ?_
          clear hK K
          refine wpOrd_step (fun K hK => ?_) HT.out.s
          go_simp
          refine (ref_Asked HT.out.r).mono ?_
          rintro e W7 ⟨rfl, rfl⟩
          refine hK _ _ HT.out.s ?_
          clear hK K
          iterate 2 (refine wpOrd_held (fun K hK => ?_); go_simp; first | (apply Exists.intro; refine ⟨fun W hW => ?_, hK _ ?_⟩; (go_simp; first | done | exact rfl); clear hK K) | (refine hK _ ?_; clear hK K))
          refine wpOrd_nil ?_
          clear f0 f1 f2 f3 f5 f6 f7 f8
          go_wp2
          go_roundw
          case rel => exact ⟨k + 1, _, _, by omega, by omega, by go_num, by have := HLL.out; omega, HT.out.less (by simp)⟩
          case measure => simp [intOf]; omega
        · clear hm HM
          rw [hm0]
          clear hm0
          have g3 := HT.out.k.cell hD1.r id
          have hlr := hok.len
          unfold reachBytes at hlr
          go_wp2_with fail
          refine (ref_CopyInts x.c (hD1.kept HT.out.k).ints hlr).mono ?_
          rintro e W7 ⟨A', c', rfl, hown, hu⟩
          obtain ⟨E, hE1, hE2, hE3⟩ := ints_made hown
          have hsz := HT.out.sz
          have hgx := HT.out.x _ List.mem_cons_self
          have hgl := (Array.getElem?_eq_some_iff.1 hgx.2.2).1
          have hEo : ∀ p ∈ E, v.ownBlock ≠ some p.1 := fun p hp => HT.out.r.rows.far (.inr (hE1 p hp).1)
          have hEg : ∀ p ∈ E, g ≠ p.1 := fun p hp => by have := (hE1 p hp).1; dsimp only at hgl; omega
          replace HT := Lib.hid ((HT.out.kept hu).mores (E := E) fun p hp => ⟨by have := (hE1 p hp).1; omega, hEo p hp, (hE1 p hp).2⟩)
          rw [List.cons_append, List.nil_append] at HT
          have HE := Lib.hid (And.intro hE2 (And.intro hE3 hEg))
          clear hE1 hE2 hE3 hEo hEg hgl hgx hsz hu hown g3
          go_wp2_with fail
          refine wp_region_ord [(0, true), (1, true), (2, true), (3, true), (4, true), (5, true), (6, true), (7, true), (9, true), (10, true), (11, true), (12, true), (13, true), (14, true), (15, true), (16, true), (17, true), (18, true), (19, true), (20, true), (8, false), (21, false), (22, true), (23, true), (24, true), (25, true), (26, true), (27, true), (28, true), (29, true), (30, false), (31, true), (32, true)] (by kernel_rfl) (by kernel_rfl) (fun W => Kept w W ∧ Box W g (digI x.d)) HT.out.drew.s ?_
          simp only [ordOps, List.getD_cons_zero, List.getD_cons_succ]
          replace HT := Lib.hid HT.out.drew
          iterate 20 (refine wpOrd_held (fun K hK => ?_); go_simp; first | (apply Exists.intro; refine ⟨fun W hW => ?_, hK _ ?_⟩; (go_simp; first | done | exact rfl); clear hK K) | (refine hK _ ?_; clear hK K))
          refine wpOrd_step (fun K hK => ?_) HT.out.s
          go_simp
          refine (tag_Vector HT.out.a _ _ _ _ _ (HE.out.1 _ fun p hp => (HT.out.x p (List.mem_cons_of_mem _ hp)).2.2)).mono ?_
          rintro e W3 ⟨rfl, hL3, hu⟩
          replace HT := Lib.hid (HT.out.ofA hL3 hu (fun _ h => .inr h))
          clear hu hL3
          refine hK _ _ HT.out.s ?_
          clear hK K
          refine wpOrd_step (fun K hK => ?_) HT.out.s
          go_simp
          refine (ref_Vector HT.out.r (by have := HLL.out; omega) HT.out.sz _ _ hok.f _ _ _ (hD1.kept HT.out.k).ints (fun h0 a ha => by
            have := (ha ▸ hD1.ints : Ints w (some a) x.R).lt h0
            have h1 := HT.out.ne.n
            exact ⟨by omega, by omega⟩) hlr hok.rs).mono ?_
          rintro e W4 ⟨rfl, v', hT5⟩
          replace HT := Lib.hid (HT.out.ofR hT5)
          clear hT5
          refine hK _ _ HT.out.s ?_
          clear hK K
          replace HLL : Hid ((vecM L x.f x.R (digI x.d)).1.length ≤ 34 * k + 34) := Lib.hid (by have := vecM_length L x.f x.R (digI x.d); have := HLL.out; omega)
          generalize vecM L x.f x.R (digI x.d) = LL at *
          obtain ⟨L1, ans1⟩ := LL
          dsimp only at HT HLL ⊢
          clear L v
          iterate 8 (refine wpOrd_held (fun K hK => ?_); go_simp; first | (apply Exists.intro; refine ⟨fun W hW => ?_, hK _ ?_⟩; (go_simp; first | done | exact rfl); clear hK K) | (refine hK _ ?_; clear hK K))
          refine wpOrd_step (fun K hK => ?_) HT.out.s
          go_simp
          refine (ref_EqInts c' x.c (HE.out.1 _ fun p hp => (HT.out.x p (List.mem_cons_of_mem _ hp)).2.2) (hD1.kept HT.out.k).ints hlr rfl).mono ?_
          rintro e W8 ⟨rfl, hu⟩
          replace HT := Lib.hid (HT.out.kept hu)
          clear hu
          refine hK _ _ HT.out.s ?_
          clear hK K
          iterate 2 (refine wpOrd_held (fun K hK => ?_); go_simp; first | (apply Exists.intro; refine ⟨fun W hW => ?_, hK _ ?_⟩; (go_simp; first | done | exact rfl); clear hK K) | (refine hK _ ?_; clear hK K))
          refine wpOrd_nil ?_
          have HR : Hid (x.R.length = 0 ∨ ∃ h cur, A' = some ⟨h, 0, none⟩ ∧ B ≤ h ∧ g ≠ h ∧ v'.ownBlock ≠ some h ∧ W8.heap[h]? = some (.cells cur 3 (0, 0)) ∧ x.R.length ≤ cur.size) := by
            rcases HE.out.2.1 with h0 | ⟨h, cur, rfl, rfl, hc⟩
            · exact .inl h0
            · have := HT.out.x (h, .cells cur 3) (by simp)
              exact .inr ⟨h, cur, rfl, this.1, HE.out.2.2 _ List.mem_cons_self, this.2.1, this.2.2, hc⟩
          replace HT := Lib.hid (HT.out.less (G' := [(g, .cells (dA (digI x.d)) 28)]) (by simp))
          clear HE
          clear f0 f1 f2 f3 f5 f6 f7 f8
          go_wp2_with fail
          go_loopw [9] (fun j wj => ∃ q : Nat, q ≤ x.R.length ∧ j = .int .i64 q ∧ Trio w wj B ba ra bb bo ro v' L1 L1 k k [(g, .cells (dA (digI x.d)) 28)] ∧ (x.R.length = 0 ∨ ∃ h cur, A' = some ⟨h, 0, none⟩ ∧ B ≤ h ∧ g ≠ h ∧ v'.ownBlock ≠ some h ∧ wj.heap[h]? = some (.cells cur 3 (0, 0)) ∧ x.R.length ≤ cur.size)) (fun j _ => x.R.length - (intOf j).toNat)
          case atStart => exact ⟨0, Nat.zero_le _, rfl, HT.out, HR.out⟩
          case round =>
            clear HT HR
            obtain ⟨q, hq, rfl, hT, hR⟩ := hrel
            have HT := Lib.hid hT
            have HR := Lib.hid hR
            clear hT hR
            by_cases hql : q < x.R.length
            · obtain ⟨h, cur, rfl, h1, h2, h3, h4, h5⟩ := HR.out.resolve_left (by omega)
              have p1 := frozen_of_row wr h q _ _ h4
              obtain ⟨u, p2⟩ : ∃ u, wr.cell? ⟨h, q, none⟩ = some u := ⟨cur[q], by rw [cell_of_row _ h q _ _ _ h4]; exact Array.getElem?_eq_getElem _⟩
              have HH : Hid (B ≤ h ∧ g ≠ h ∧ v'.ownBlock ≠ some h ∧ wr.heap[h]? = some (.cells cur 3 (0, 0)) ∧ x.R.length ≤ cur.size) := ⟨h1, h2, h3, h4, h5⟩
              clear h1 h2 h3 h4 h5 HR
              go_wp2
              go_roundw
              case rel =>
                obtain ⟨h1, h2, h3, h4, h5⟩ := HH.out
                refine ⟨q + 1, by omega, by go_num, HT.out.set h1 h3 (by simpa using h2) ((Upd.refl (fun k => k = h) wr).setCell (p := ⟨h, q, none⟩) _ fun _ => rfl), .inr ⟨h, cur.setIfInBounds q (.int .i64 9), rfl, h1, h2, h3, ?_, by simpa using h5⟩⟩
                rw [heap_setCell_same wr h q _ _ _ h4]
              case measure => simp [intOf]; omega
            · obtain rfl : q = x.R.length := by omega
              clear HR
              have f5 : ∀ W, (Kept w W ∧ Box W g (digI x.d)) → segB W ⟨g, 0, none⟩ 32 = true := fun W hW => hW.2.s1
              have f6 : ∀ W, (Kept w W ∧ Box W g (digI x.d)) → segV W ⟨g, 0, none⟩ 32 = dA (digI x.d) := fun W hW => hW.2.s2
              have f0 : ∀ W, (Kept w W ∧ Box W g (digI x.d)) → W.cell? ⟨gb, off + k * 7, none⟩ = some (.int .i64 x.k) := fun W hW => hW.1.cell hD1.k id
              have f1 : ∀ W, (Kept w W ∧ Box W g (digI x.d)) → W.cell? ⟨gb, off + k * 7 + 1, none⟩ = some (.int .i64 x.f) := fun W hW => hW.1.cell hD1.f id
              have f2 : ∀ W, (Kept w W ∧ Box W g (digI x.d)) → W.cell? ⟨gb, off + k * 7 + 2, none⟩ = some (.int .i64 x.t) := fun W hW => hW.1.cell hD1.t id
              have f3 : ∀ W, (Kept w W ∧ Box W g (digI x.d)) → W.cell? ⟨gb, off + k * 7 + 3, none⟩ = some (.slice x.A x.R.length x.c) := fun W hW => hW.1.cell hD1.r id
              have f7 : ∀ W, (Kept w W ∧ Box W g (digI x.d)) → W.cell? ⟨gb, off + k * 7 + 5, none⟩ = some (.int .i64 x.af) := fun W hW => hW.1.cell hD1.af id
              have f8 : ∀ W, (Kept w W ∧ Box W g (digI x.d)) → W.cell? ⟨gb, off + k * 7 + 6, none⟩ = some (.int .i64 x.at_) := fun W hW => hW.1.cell hD1.at_ id
              go_wp2_with fail
              refine wp_region_ord [(0, true), (1, true), (2, true), (3, true), (4, true), (5, true), (6, true), (7, true), (8, true), (9, true), (10, true), (11, true), (13, true), (14, true), (15, true), (16, true), (17, true), (18, true), (19, true), (20, true), (21, true), (22, true), (23, true), (24, true), (12, false), (25, false), (26, true), (27, true), (28, true), (30, true), (29, false), (31, false), (32, true), (33, true), (34, true), (35, true), (37, true), (36, false), (38, false), (39, true), (40, true)] (by kernel_rfl) (by kernel_rfl) (fun W => Kept w W ∧ Box W g (digI x.d)) HT.out.drew.s ?_
              simp only [ordOps, List.getD_cons_zero, List.getD_cons_succ]
              replace HT := Lib.hid HT.out.drew
              iterate 24 (refine wpOrd_held (fun K hK => ?_); go_simp; first | (apply Exists.intro; refine ⟨fun W hW => ?_, hK _ ?_⟩; (go_simp; first | done | exact rfl); clear hK K) | (refine hK _ ?_; clear hK K))
              refine wpOrd_step (fun K hK => ?_) HT.out.s
              go_simp
              refine (tag_Check HT.out.a (by omega) (by omega) _ _ _ hok.af hok.at_).mono ?_
              rintro e W5 ⟨rfl, hL5, hu⟩
              replace HT := Lib.hid (HT.out.ofA hL5 hu (fun _ h => .inl h))
              clear hu hL5
              refine hK _ _ HT.out.s ?_
              clear hK K
              refine wpOrd_step (fun K hK => ?_) HT.out.s
              go_simp
              refine (ref_Check HT.out.r (by have := HLL.out; omega) (by omega) (by omega) _ _ _ hok.af hok.at_).mono ?_
              rintro e W6 ⟨rfl, hT5⟩
              replace HT := Lib.hid (HT.out.ofR hT5)
              clear hT5
              refine hK _ _ HT.out.s ?_
              clear hK K
              generalize checkM L1 x.af x.at_ (digI x.d) = ans
              iterate 4 (refine wpOrd_held (fun K hK => ?_); go_simp; first | (apply Exists.intro; refine ⟨fun W hW => ?_, hK _ ?_⟩; (go_simp; first | done | exact rfl); clear hK K) | (refine hK _ ?_; clear hK K))
              refine wpOrd_step (fun K hK => ?_) HT.out.s
              go_simp
              refine (tag_Len HT.out.a).mono ?_
              rintro e W7 ⟨rfl, rfl⟩
              refine hK _ _ HT.out.s ?_
              clear hK K
              refine wpOrd_step (fun K hK => ?_) HT.out.s
              go_simp
              refine (ref_Len HT.out.r).mono ?_
              rintro e W7 ⟨rfl, rfl⟩
              refine hK _ _ HT.out.s ?_
              clear hK K
              iterate 5 (refine wpOrd_held (fun K hK => ?_); go_simp; first | (apply Exists.intro; refine ⟨fun W hW => ?_, hK _ ?_⟩; (go_simp; first | done | exact rfl); clear hK K) | (refine hK _ ?_; clear hK K))
              refine wpOrd_step (fun K hK => ?_) HT.out.s
              go_simp
              refine (tag_Asked HT.out.a).mono ?_
              rintro e W7 ⟨rfl, rfl⟩
              refine hK _ _ HT.out.s ?_
              clear hK K
              refine wpOrd_step (fun K hK => ?_) HT.out.s
              go_simp
              refine (ref_Asked HT.out.r).mono ?_
              rintro e W7 ⟨rfl, rfl⟩
              refine hK _ _ HT.out.s ?_
              clear hK K
              iterate 2 (refine wpOrd_held (fun K hK => ?_); go_simp; first | (apply Exists.intro; refine ⟨fun W hW => ?_, hK _ ?_⟩; (go_simp; first | done | exact rfl); clear hK K) | (refine hK _ ?_; clear hK K))
              refine wpOrd_nil ?_
              clear f0 f1 f2 f3 f5 f6 f7 f8
              go_wp2
              go_roundw
              case rel => exact ⟨k + 1, _, _, by omega, by omega, by go_num, by have := HLL.out; omega, HT.out.less (by simp)⟩
              case measure => simp [intOf]; omega
        · clear hm HM
          rw [hm0]
          clear hm0
          go_wp2_with fail
          refine wp_region_ord [(0, true), (1, true), (2, true), (3, true), (4, true), (5, true), (6, true), (7, true), (8, true), (9, true), (10, true), (11, true), (13, true), (14, true), (15, true), (16, true), (17, true), (18, true), (19, true), (20, true), (21, true), (22, true), (23, true), (24, true), (12, false), (25, false), (26, true), (27, true), (28, true), (30, true), (29, false), (31, false), (32, true), (33, true), (34, true), (35, true), (37, true), (36, false), (38, false), (39, true), (40, true)] (by kernel_rfl) (by kernel_rfl) (fun W => Kept w W ∧ Box W g (digI x.d)) HT.out.drew.s ?_
          simp only [ordOps, List.getD_cons_zero, List.getD_cons_succ]
          replace HT := Lib.hid HT.out.drew
          iterate 24 (refine wpOrd_held (fun K hK => ?_); go_simp; first | (apply Exists.intro; refine ⟨fun W hW => ?_, hK _ ?_⟩; (go_simp; first | done | exact rfl); clear hK K) | (refine hK _ ?_; clear hK K))
          refine wpOrd_step (fun K hK => ?_) HT.out.s
          go_simp
          refine (tag_Check HT.out.a (by omega) (by omega) _ _ _ hok.af hok.at_).mono ?_
          rintro e W5 ⟨rfl, hL5, hu⟩
          replace HT := Lib.hid (HT.out.ofA hL5 hu (fun _ h => .inl h))
          clear hu hL5
          refine hK _ _ HT.out.s ?_
          clear hK K
          refine wpOrd_step (fun K hK => ?_) HT.out.s
          go_simp
          refine (ref_Check HT.out.r (by have := HLL.out; omega) (by omega) (by omega) _ _ _ hok.af hok.at_).mono ?_
          rintro e W6 ⟨rfl, hT5⟩
          replace HT := Lib.hid (HT.out.ofR hT5)
          clear hT5
          refine hK _ _ HT.out.s ?_
          clear hK K
          generalize checkM L x.af x.at_ (digI x.d) = ans
          iterate 4 (refine wpOrd_held (fun K hK => ?_); go_simp; first | (apply Exists.intro; refine ⟨fun W hW => ?_, hK _ ?_⟩; (go_simp; first | done | exact rfl); clear hK K) | (refine hK _ ?_; clear hK K))
          refine wpOrd_step (fun K hK => ?_) HT.out.s
          go_simp
          refine (tag_Len HT.out.a).mono ?_
          rintro e W7 ⟨rfl, rfl⟩
          refine hK _ _ HT.out.s ?_
          clear hK K
          refine wpOrd_step (fun K hK => ?_) HT.out.s
          go_simp
          refine (ref_Len HT.out.r).mono ?_
          rintro e W7 ⟨rfl, rfl⟩
          refine hK _ _ HT.out.s ?_
          clear hK K
          iterate 5 (refine wpOrd_held (fun K hK => ?_); go_simp; first | (apply Exists.intro; refine ⟨fun W hW => ?_, hK _ ?_⟩; (go_simp; first | done | exact rfl); clear hK K) | (refine hK _ ?_; clear hK K))
          refine wpOrd_step (fun K hK => ?_) HT.out.s
          go_simp
          refine (tag_Asked HT.out.a).mono ?_
          rintro e W7 ⟨rfl, rfl⟩
          refine hK _ _ HT.out.s ?_
          clear hK K
          refine wpOrd_step (fun K hK => ?_) HT.out.s
          go_simp
          refine (ref_Asked HT.out.r).mono ?_
          rintro e W7 ⟨rfl, rfl⟩
          refine hK _ _ HT.out.s ?_
          clear hK K
          iterate 2 (refine wpOrd_held (fun K hK => ?_); go_simp; first | (apply Exists.intro; refine ⟨fun W hW => ?_, hK _ ?_⟩; (go_simp; first | done | exact rfl); clear hK K) | (refine hK _ ?_; clear hK K))
          refine wpOrd_nil ?_
          clear f0 f1 f2 f3 f5 f6 f7 f8
          go_wp2
          go_roundw
          case rel => exact ⟨k + 1, _, _, by omega, by omega, by go_num, by have := HLL.out; omega, HT.out.less (by simp)⟩
          case measure => simp [intOf]; omega
      · obtain rfl : k = 100 := by omega
        go_wp2_with fail
        refine (law_works _).mono ?_
        rintro e W1 ⟨rfl, hu⟩
        replace HT := Lib.hid (HT.out.kept hu)
        clear hu
        go_wp2
        go_ret
        exact ⟨rfl, HT.out.k⟩
    · obtain rfl : k = l.length := by omega
      go_wp2_with fail
      refine (law_works _).mono ?_
      rintro e W1 ⟨rfl, hu⟩
      replace HT := Lib.hid (HT.out.kept hu)
      clear hu
      go_wp2
      go_ret
      exact ⟨rfl, HT.out.k⟩

set_option maxRecDepth 100000 in
theorem TagDeeds_lifted (os : Os) (started : os.Started) (H : Type) (enc : TypeId × Value → H) :
    ReturnsInHanded {} Try.checked os 3 .any (Rows.tagDeedsSpec.pre6 enc Try.prog Try.f3 Rows.tagDeedsRow.domain false) (Rows.tagDeedsSpec.post enc Try.prog Try.f3 false true false false) := by
  refine law_lifted os started Try.func3 (by kernel_rfl) rfl rfl (by kernel_rfl) ?_
    (ChangeSpec.witness6 (enc := enc) (C := Try.checked) false ⟨#[], #[.slice none 0 0], []⟩ 8 (by kernel_rfl) (by kernel_rfl) (by kernel_rfl) (by kernel_rfl)) ?_
  · intro ds h
    rw [Try.params3] at h
    match ds, h with
    | [d0], _ => rfl
  · intro W base args ds ps hval hA hsz
    rw [Try.params3] at hA hval hsz
    obtain ⟨v0, vs0, d0, ds0, p0, q0, hargs, rfl, rfl, h0, r_0⟩ := trodAll_cons hA
    obtain ⟨rfl, rfl, rfl⟩ := trodAll_nil r_0
    obtain rfl : args = #[v0] := by cases args; simp_all
    obtain ⟨A0, n0, c0, rfl⟩ := okWide_slice Try.underlying22 (hval 0 22 v0 rfl rfl)
    have r0 := ReadsAs.of_trod hsz (j := 0) rfl rfl h0
    obtain ⟨A, l, cap, hcs, hlen, hD, hok⟩ := open_deeds r0
    simp only [Value.cells, List.cons.injEq, Value.slice.injEq, and_true] at hcs
    obtain ⟨rfl, rfl, rfl⟩ := hcs
    exact TagDeeds_walk _ l _ W hD hok hlen

theorem TagDeeds_holds : Rows.TagDeedsSaid :=
  OpenClaim.holds_of_wide 3 Try.f3 rfl rfl rfl rfl rfl rfl rfl ⟨rfl, rfl, rfl, rfl, rfl⟩ rfl rfl rfl rfl rfl (by kernel_rfl) Try.func3 (by kernel_rfl)
    (of_decide_eq_true (by kernel_rfl)) (by unfold Func.isWrapper; first | (rw [if_pos (by decide +kernel)]; kernel_rfl) | (rw [if_neg (by decide +kernel)]; exact ⟨rfl, rfl⟩))
    (fun os started H enc _ => TagDeeds_lifted os started H enc)
end Go.Proofs.Ytjnaenmknbcjmaa
