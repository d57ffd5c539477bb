/- Each level is made of the one below it, by fours; the last one has one: the statement TreeLevels holds. For every input. -/
import Derived.Test.YtjimamgghkgdeaaArgs
namespace Go.Proofs.Ytjimamgghkgdeaa
open Go.ChangeShapes Go.WideShapes Go.ChangeAt Go.RowKit

attribute [local irreducible] wpOrd
theorem OwnD.book {W W' : World} {B : Nat} {v : Value} {D : List Dig} {b r q : Nat} {L : List Bytes} (h : OwnD W B v D) (hb : BookL W b r q L) (hu : Upd (Book3 b r q) W W') : OwnD W' B v D :=
  OwnRows.upd h hu fun k e => by
    obtain ⟨cur, hc⟩ := own_cells h e
    exact hb.not hc (by decide)

/-- a book and a tree behind w -/
structure Sown (w W : World) (b r q lo hi t : Nat) (L : List Bytes) (D : List Dig) : Prop where
  ink : Ink0 w W b r q L
  tree : TreeAt W lo hi t b D
  lo : w.heap.size ≤ lo
theorem Sown.kept {w W W' : World} {b r q lo hi t : Nat} {L : List Bytes} {D : List Dig} (h : Sown w W b r q lo hi t L D) (hu : Kept W W') : Sown w W' b r q lo hi t L D := ⟨h.ink.kept hu, h.tree.kept hu, h.lo⟩

set_option maxHeartbeats 1600000 in
set_option maxRecDepth 20000 in
theorem TreeLevels_walk (a : Int) (A : Option Addr) (c : Nat) (l : List (Int × SlC × Bytes)) (w : World) (ha : (Lit.int .i64 a).wf = true) (hl : SetsAt w A l) (hlc : l.length ≤ c) (hmx : l.length ≤ 140737488351232) :
    Calls Try.prog 3 #[.int .i64 a, .slice A l.length c] w fun e w' => e = .returned (.bool true) ∧ Kept w w' := by
  have hnot : ∀ (x : Bool) (w : World), (Op.unary .not (.bool x)).run Try.prog w = .ok (.bool (!x)) w := fun _ _ => rfl
  have HL := Lib.hid (And.intro hl (And.intro hlc hmx))
  clear hl hlc hmx
  go_enter Try.func3, Try.ntmps3
  go_wp2_with fail
  refine (law_works _).mono ?_
  rintro e w1 ⟨rfl, hu⟩
  have HU := Lib.hid hu
  clear hu
  go_wp2_with fail
  refine (ref_Bring a 200 ha (by omega) (by omega) _).mono ?_
  rintro e W ⟨rfl, rfl⟩
  obtain ⟨n, hn, hn1, hn2⟩ := leaves_of a 200 (by omega) (by omega)
  have hw : IntKind.i64.wrap (1 + a % 200) = n := by rw [hn, IntKind.wrap_i64]; omega
  have HN := Lib.hid (And.intro hn1 hn2)
  clear hn hn1 hn2
  go_wp2_with fail
  refine (law_book _).mono ?_
  rintro e w2 ⟨b, r, q, rfl, hI⟩
  have HI := Lib.hid hI
  clear hI
  go_wp2_with fail
  refine (tree_New HI.out.book n HN.out.1 (by have := HN.out.2; omega)).mono ?_
  rintro e w3 ⟨t, rfl, hlo, hT, hb, hu⟩
  obtain ⟨L, hL⟩ : ∃ L, L = notesM (noteM [] (leafIn [])) (insM shaM (List.replicate n (leafM shaM []))) := ⟨_, rfl⟩
  rw [← hL] at hb
  obtain ⟨D, hD⟩ : ∃ D, D = List.replicate n (leafM shaM []) := ⟨_, rfl⟩
  rw [← hD] at hT
  have hDn : D.length = n := by rw [hD, List.length_replicate]
  have HS := Lib.hid (show Sown w1 w3 b r q w2.heap.size w3.heap.size t L D from ⟨HI.out.to hb hu, hT, HI.out.upd.size⟩)
  generalize w2.heap.size = lo at *
  generalize w3.heap.size = hi at *
  have HDN := Lib.hid hDn
  clear hlo hT hb hu HI hL hD hDn
  go_wp2_with fail
  go_loopw [8] (fun u1 wr => ∃ k : Nat, k ≤ 20 ∧ k ≤ l.length ∧ u1 = .int .i64 k ∧ ∃ L D, D.length = n ∧ Sown w1 wr b r q lo hi t L D) (fun u1 _ => 2000 - (intOf u1).toNat)
  case atStart => exact ⟨0, by omega, by omega, rfl, L, D, HDN.out, HS.out⟩
  case round =>
    clear HS HDN
    clear L D
    obtain ⟨k, hk, hkl, rfl, L, D, hDn, hS⟩ := hrel
    have HS := Lib.hid (And.intro hDn hS)
    clear hDn hS
    by_cases hgo : k < l.length ∧ k < 20
    · have hk1 : (k : Int) < (l.length : Int) := by omega
      have hk2 : (k : Int) < 20 := by omega
      obtain ⟨g, off, rfl, hc0, hc1, hx, hwf, hmx⟩ := HL.out.1 k hgo.1
      generalize l[k] = p at *
      obtain ⟨f, x, R⟩ := p
      simp only at hc0 hc1 hx hwf hmx
      obtain ⟨A2, c2, rfl, hc2, hR⟩ := hx.form
      rw [SlC.v_eq] at hc1
      simp only at hc1 hR
      have hKw : Kept w wr := HU.out.then HS.out.2.ink.upd (fun _ _ h => h)
      have f1 : ∀ W, Kept w W → W.cell? ⟨g, off + k * 2, none⟩ = some (.int .i64 f) := fun W hW => hW.cell hc0 id
      have f2 : ∀ W, Kept w W → W.cell? ⟨g, off + k * 2 + 1, none⟩ = some (.slice A2 R.length c2) := fun W hW => hW.cell hc1 id
      obtain ⟨z, hz, hm1, hm2⟩ := min_num R.length
      have hsl : ∀ W : World, (Instr.sliceAt 32 (.slice A2 R.length c2) none (some (.int .i64 (z : Int))) none).run Try.prog W = .ok (.slice A2 z c2) W := fun W => slice_u8_h W A2 R.length c2 z (by omega)
      have hzl : (R.take z).length = z := by rw [List.length_take]; omega
      have HK := Lib.hid (And.intro hz (And.intro hzl (And.intro hKw (And.intro hgo (And.intro hwf hR)))))
      clear hz hzl hKw hgo hwf hR hc0 hc1 hx hmx hc2 hk hkl
      go_wp2_with fail
      refine wp_region_ord [(0, true), (1, true), (2, true), (3, true), (4, true), (5, true), (6, true), (8, true), (9, true), (10, true), (11, true), (12, true), (13, true), (14, true), (15, true), (16, true), (17, true), (18, true), (19, true), (20, true), (7, false), (21, false)] (by kernel_rfl) (by kernel_rfl) (Kept w) HK.out.2.2.1.drew ?_
      simp only [ordOps, List.getD_cons_zero, List.getD_cons_succ]
      iterate 20 (refine wpOrd_held (fun K hK => ?_); go_simp; first | (apply Exists.intro; refine ⟨fun W hW => ?_, hK _ ?_⟩; (go_simp; first | done | exact rfl); clear hK K) | (refine hK _ ?_; clear hK K))
      refine wpOrd_step (fun K hK => ?_) HK.out.2.2.1.drew
      go_simp
      refine (ref_Bring f n HK.out.2.2.2.2.1 (by have := HN.out.1; omega) (by have := HN.out.2; omega) _).mono ?_
      rintro e W ⟨rfl, rfl⟩
      refine hK _ _ HK.out.2.2.1.drew ?_
      clear hK K
      obtain ⟨i, hi⟩ : ∃ i : Nat, f % (n : Int) = i := ⟨(f % (n : Int)).toNat, by have := (mod_range f n (by have := HN.out.1; omega)).1; omega⟩
      have hin : i < n := by have := (mod_range f n (by have := HN.out.1; omega)).2; omega
      rw [hi]
      have HIN := Lib.hid hin
      clear hi hin
      refine wpOrd_step (fun K hK => ?_) HK.out.2.2.1.drew
      go_simp
      have hS := HS.out.2.kept ((Upd.refl (fun _ => False) wr).drew)
      have hRk : Byt wr.drew A2 (R.take z) := ((HK.out.2.2.2.2.2).kept HK.out.2.2.1.drew).take z
      have HG := tree_Set (R := R.take z) hS.ink.book hS.tree c2 hRk (by have := HK.out.1; have := HK.out.2.1; omega) i (by rw [HS.out.1]; exact HIN.out)
      rw [HK.out.2.1] at HG
      refine HG.mono ?_
      rintro e wa ⟨rfl, hT, hb, hu⟩
      have hI := hS.ink.step hb hu (fun k e => e.imp id (fun e => by have h1 := hS.lo; omega))
      refine hK _ _ (HU.out.then hI.upd (fun _ _ h => h)) ?_
      clear hK K
      refine wpOrd_nil ?_
      have HF := Lib.hid (And.intro (show (D.set i (leafM shaM (R.take z))).length = n by rw [List.length_set, HS.out.1]) (show Sown w1 wa b r q lo hi t _ _ from ⟨hI, hT, hS.lo⟩))
      have HKB := Lib.hid HK.out.2.2.2.1
      clear HG hRk hS hT hb hu hI f1 f2 hsl hm1 hm2 HK HS
      go_wp2
      go_roundw
      case rel => exact ⟨k + 1, by have := HKB.out; omega, by have := HKB.out; omega, by show _ = _; go_num, _, _, HF.out.1, HF.out.2⟩
      case measure => have := HKB.out; simp [intOf]; omega
    · by_cases hkk : k < l.length
      · obtain rfl : k = 20 := by omega
        have hk1 : (20 : Int) < (l.length : Int) := by omega
        clear hk hkl hgo hkk
        have h0 : (levelsM shaM D)[0]? = some D := by
          obtain ⟨_, h1, _⟩ := levelsM_head D
          rw [h1]; rfl
        have hDne : D ≠ [] := by intro h; have h1 := HS.out.1; rw [h] at h1; have := HN.out.1; simp at h1; omega
        have e1 : depthM D.length = depthM n := by rw [HS.out.1]
        have H0 := Lib.hid (And.intro h0 hDne)
        clear h0 hDne
        go_wp2_with fail
        have HG := tree_Level HS.out.2.tree 0 H0.out.1 (by have := HS.out.1; have := HN.out.2; omega)
        refine HG.mono ?_
        clear HG
        rintro e0 wa ⟨va, rfl, hva, hua⟩
        obtain ⟨ga, ca, rfl, _, _⟩ := own_form hva H0.out.2
        have HV := Lib.hid (And.intro hva (HS.out.2.kept hua))
        have HDN := Lib.hid HS.out.1
        obtain ⟨nn, hnn⟩ : ∃ nn, nn = D.length := ⟨_, rfl⟩
        rw [← hnn]
        obtain rfl : nn = n := by rw [hnn, HDN.out]
        have HNN := Lib.hid hnn
        clear hva hua HS hnn
        go_wp2_with fail
        go_loopw [11, 9] (fun u1 u2 wr => ∃ m ll L gl cl B, 1 ≤ m ∧ m ≤ depthM nn ∧ (levelsM shaM D)[m - 1]? = some ll ∧ ll.length ≤ nn ∧ ll ≠ [] ∧ u1 = .int .i64 (m : Nat) ∧ u2 = .slice (some ⟨gl, 0, none⟩) ll.length cl ∧ OwnD wr B (.slice (some ⟨gl, 0, none⟩) ll.length cl) ll ∧ Sown w1 wr b r q lo hi t L D) (fun u1 _ _ => 2000 - (intOf u1).toNat)
        case atStart => 
          obtain ⟨m, hm, _⟩ := levelsM_top H0.out.2
          exact ⟨1, D, _, ga, ca, _, by omega, by rw [← e1]; omega, H0.out.1, by rw [HDN.out]; omega, H0.out.2, rfl, by rw [HNN.out], HV.out.1, HV.out.2⟩
        case round =>
          obtain ⟨m, ll, Lr, gl, cl, B, hm1, hm2, hlv, hll, hlne, rfl, rfl, hlow, hS⟩ := hrel
          clear HV
          have hdb : (depthM nn : Int) ≤ 1024 := by have := depthM_le nn D HDN.out; have := HN.out.2; omega
          rcases Nat.lt_or_ge m (depthM nn) with hlt | hge
          · obtain ⟨la, hla, hlal⟩ := levelsM_at HDN.out hlt HN.out.1
            have hne := hS.tree.ne hla
            have habove : la = aboveM shaM ll := levelsM_next _ _ (m - 1) _ _ rfl hlv (by rw [Nat.sub_add_cancel hm1]; exact hla)
            have hmd : (m : Int) < (depthM nn : Int) := by omega
            have hmb : (m : Int) ≤ 1024 := by omega
            have HQ := Lib.hid (And.intro hlow (And.intro hS (And.intro hla (And.intro hne (And.intro hlv hlne)))))
            have hup : la.length = (ll.length + 3) / 4 := by rw [habove, aboveM_length]; rfl
            obtain ⟨s, hs⟩ : ∃ s, s = ll.length + 3 := ⟨_, rfl⟩
            have hn200 := HN.out.2
            have hsw : IntKind.i64.wrap ((ll.length : Int) + 3) = (s : Int) := by rw [IntKind.wrap_i64]; omega
            have hq : (s : Int) / 4 = (la.length : Int) := by omega
            have hqw : IntKind.i64.wrap (la.length : Int) = (la.length : Int) := by rw [IntKind.wrap_i64]; omega
            have HB := Lib.hid (And.intro habove (And.intro hlal (And.intro (show la.length ≤ nn from hlal) (And.intro hm2 (And.intro hll (show ll.length ≤ cl by obtain ⟨A0, c0, hA0, hc0, _⟩ := OwnD.digs hlow; simp only [Value.slice.injEq] at hA0; omega))))))
            have HM := Lib.hid (And.intro hm1 hlt)
            clear hlow hS hla hne hup hs habove hlal hm2 hll hlv hlne hn200 hm1 hlt
            go_wp2_with fail
            refine (tree_Depth HQ.out.2.1.tree).mono ?_
            rw [e1]
            rintro e0 W ⟨rfl, rfl⟩
            go_wp2_with fail
            refine (tree_Level HQ.out.2.1.tree m HQ.out.2.2.1 (by have := HB.out.2.1; have := HN.out.2; omega)).mono ?_
            rintro e0 wv ⟨vv, rfl, hvv, huv⟩
            obtain ⟨gr, cr, rfl, _, _⟩ := own_form hvv HQ.out.2.2.2.1
            have HV := Lib.hid (And.intro (OwnRows.upd HQ.out.1 huv (fun _ _ h => h)) (And.intro hvv (And.intro (HQ.out.2.1.kept huv) (And.intro HQ.out.2.2.1 (And.intro HQ.out.2.2.2.1 HQ.out.2.2.2.2)))))
            generalize wr.heap.size = B2 at *
            clear hvv huv HQ
            go_wp2_with fail
            clear hq hqw hsw
            go_loopw [14] (fun u1 wr => ∃ i : Nat, i ≤ la.length ∧ u1 = .int .i64 i ∧ ∃ L, OwnD wr B (.slice (some ⟨gl, 0, none⟩) ll.length cl) ll ∧ OwnD wr B2 (.slice (some ⟨gr, 0, none⟩) la.length cr) la ∧ Sown w1 wr b r q lo hi t L D) (fun u1 _ => 2000 - (intOf u1).toNat)
            case atStart => exact ⟨0, Nat.zero_le _, rfl, _, HV.out.1, HV.out.2.1, HV.out.2.2.1⟩
            case round =>
              replace HV := Lib.hid HV.out.2.2.2
              obtain ⟨i, hi, rfl, Lr, hlow, hrow, hS⟩ := hrel
              have HC := Lib.hid (And.intro hlow (And.intro hrow hS))
              clear hlow hrow hS
              rcases Nat.lt_or_ge i la.length with hil | hil
              · clear hi
                have hja : (i : Int) < (la.length : Int) := by omega
                have hlen := HB.out.2.2.1
                have hln := HB.out.2.2.2.2.1
                have hup : la.length = (ll.length + 3) / 4 := by rw [HB.out.1, aboveM_length]; rfl
                have hn200 := HN.out.2
                have hcl := HB.out.2.2.2.2.2
                obtain ⟨i4, hi4⟩ : ∃ i4, i4 = 4 * i := ⟨_, rfl⟩
                obtain ⟨j4, hj4⟩ : ∃ j4, j4 = i4 + 4 := ⟨_, rfl⟩
                obtain ⟨mm, hmm⟩ : ∃ mm, mm = min j4 ll.length := ⟨_, rfl⟩
                have hi4w : IntKind.i64.wrap (4 * (i : Int)) = (i4 : Int) := by rw [IntKind.wrap_i64]; omega
                have hj4w : IntKind.i64.wrap ((i4 : Int) + 4) = (j4 : Int) := by rw [IntKind.wrap_i64]; omega
                have hmi : (if (ll.length : Int) < (j4 : Int) then (ll.length : Int) else (j4 : Int)) = (mm : Int) := by split <;> omega
                have hmn : (if ll.length < j4 then (ll.length : Int) else (j4 : Int)) = (mm : Int) := by split <;> omega
                obtain ⟨G, hG⟩ : ∃ G, G = group ll i := ⟨_, rfl⟩
                have hGl : G.length = mm - i4 := by rw [hG, group_length]; omega
                have hGe : (ll.drop i4).take 4 = G := by rw [hG, group, hi4]
                obtain ⟨hlow, hrow, hS⟩ := HC.out
                obtain ⟨A0, c0, hA0, hc0, hdg0⟩ := OwnD.digs hlow
                simp only [Value.slice.injEq] at hA0
                obtain ⟨rfl, _, rfl⟩ := hA0
                obtain ⟨A3, hA3⟩ : ∃ A3, A3 = (some (⟨gl, 0, none⟩ : Addr)).map (·.add (i4 * 32)) := ⟨_, rfl⟩
                have hdg : Digs wr A3 G := by have := hdg0.part i4 4; rwa [hGe, ← hA3] at this
                obtain ⟨c3, hc3⟩ : ∃ c3, c3 = cl - i4 := ⟨_, rfl⟩
                have hsl : ∀ W : World, (Instr.sliceAt 35 (.slice (some ⟨gl, 0, none⟩) ll.length cl) (some (.int .i64 (i4 : Int))) (some (.int .i64 (mm : Int))) none).run Try.prog W = .ok (.slice A3 G.length c3) W := fun W => by
                  rw [hA3, hGl, hc3]
                  exact slice_digs_lh W (some ⟨gl, 0, none⟩) ll.length cl i4 mm i4 mm rfl rfl (by omega) (by omega) (by omega)
                have hla : la[i]'hil = upM shaM G := by
                  have h1 : la[i]'hil = (aboveM shaM ll)[i]'(by rw [← HB.out.1]; exact hil) := by congr 1; exact HB.out.1
                  rw [h1, aboveM_get, hG]
                have HG1 : 1 ≤ G.length := by omega
                have HG4 : G.length ≤ 4 := by omega
                have HH := Lib.hid (And.intro HG1 (And.intro HG4 (And.intro hdg (And.intro hlow (And.intro hrow (And.intro hS hla))))))
                clear HG1 HG4 hdg hlow hrow hS hla hlen hln hup hn200 hi4 hj4 hmm hGl hGe hG hc0 hdg0 hA3 hc3 HC hcl
                go_wp2_with fail
                have HG := tree_Up HH.out.2.2.2.2.2.1.ink.book c3 HH.out.2.2.1 HH.out.1 HH.out.2.1
                refine HG.mono ?_
                clear HG
                rintro e0 wu ⟨rfl, hbu, huu⟩
                have hlowu := HH.out.2.2.2.1.book HH.out.2.2.2.2.2.1.ink.book huu
                have hrowu := HH.out.2.2.2.2.1.book HH.out.2.2.2.2.2.1.ink.book huu
                have hSu : Sown w1 wu b r q lo hi t _ D := ⟨HH.out.2.2.2.2.2.1.ink.to hbu huu, HH.out.2.2.2.2.2.1.tree.book HH.out.2.2.2.2.2.1.ink.book huu, HH.out.2.2.2.2.2.1.lo⟩
                obtain ⟨d, hd⟩ : ∃ d, d = upM shaM G := ⟨_, rfl⟩
                have hlad := HH.out.2.2.2.2.2.2
                rw [← hd] at hlad ⊢
                generalize noteM Lr (upIn G) = Lu at *
                have hd9 : Blk (wu.alloc (.cells (dA d) 40)) wu.heap.size 40 (encB (d).1) := Blk.new wu _ _
                have hk9 : Kept wu (wu.alloc (.cells (dA d) 40)) := (Upd.refl _ wu).alloc _
                replace hlowu := OwnRows.upd hlowu hk9 (fun _ _ h => h)
                replace hrowu := OwnRows.upd hrowu hk9 (fun _ _ h => h)
                replace hSu := hSu.kept hk9
                have HV := Lib.hid (And.intro hlowu (And.intro hrowu (And.intro hSu (And.intro hd9 hlad))))
                clear hlowu hrowu hSu hd9 hlad hd hbu huu hk9 HH hsl hmi hmn hi4w hj4w
                go_wp2_with fail
                generalize wu.heap.size = g9 at *
                generalize wu.alloc (.cells (dA d) 40) = w9 at *
                have f1 : ∀ W, Kept w9 W → segB W ⟨gr, i * 32, none⟩ 32 = true := fun W hW => (OwnD.seg (OwnRows.upd HV.out.2.1 hW (fun _ _ h => h)) (k := i) hil).1
                have f2 : ∀ W, Kept w9 W → segV W ⟨gr, i * 32, none⟩ 32 = dA d := fun W hW => by rw [(OwnD.seg (OwnRows.upd HV.out.2.1 hW (fun _ _ h => h)) (k := i) hil).2, HV.out.2.2.2.2]
                have f3 : ∀ W, Kept w9 W → segB W ⟨g9, 0, none⟩ 32 = true := fun W hW => (dig_at (HV.out.2.2.2.1.kept hW)).1
                have f4 : ∀ W, Kept w9 W → segV W ⟨g9, 0, none⟩ 32 = dA d := fun W hW => (dig_at (HV.out.2.2.2.1.kept hW)).2
                have hu9 : Kept w9 w9.drew := (Upd.refl _ w9).drew
                have HIL := Lib.hid hil
                have hilen : (i : Int) ≤ 1024 := by have := HB.out.2.2.1; have := HN.out.2; omega
                refine wp_region_ord [(0, true), (1, true), (2, true), (3, true), (4, true), (5, true), (6, true), (7, true), (8, true), (9, true)] (by kernel_rfl) (by kernel_rfl) (Kept w9) hu9 ?_
                simp only [ordOps, List.getD_cons_zero, List.getD_cons_succ]
                iterate 10 (refine wpOrd_held (fun K hK => ?_); go_simp; first | (apply Exists.intro; refine ⟨fun W hW => ?_, hK _ ?_⟩; (go_simp; first | done | exact rfl); clear hK K) | (refine hK _ ?_; clear hK K))
                refine wpOrd_nil ?_
                have HF := Lib.hid (And.intro (OwnRows.upd HV.out.1 hu9 (fun _ _ h => h)) (And.intro (OwnRows.upd HV.out.2.1 hu9 (fun _ _ h => h)) (HV.out.2.2.1.kept hu9)))
                clear f1 f2 f3 f4 hu9 HV
                go_wp2
                go_roundw
                case rel => exact ⟨i + 1, by have := HIL.out; omega, by show _ = _; go_num, _, HF.out.1, HF.out.2.1, HF.out.2.2⟩
                case measure => have := HIL.out; simp [intOf]; omega
              · obtain rfl : i = la.length := by omega
                have hja : ¬ ((la.length : Int) < (la.length : Int)) := by omega
                clear hi hil
                go_wp2
                go_roundw
                case rel => exact ⟨m + 1, la, _, gr, cr, _, by omega, HM.out.2, HV.out.1, HB.out.2.1, HV.out.2.1, by show _ = _; go_num, rfl, HC.out.2.1, HC.out.2.2⟩
                case measure => have := HM.out; simp [intOf]; omega
          · obtain rfl : m = depthM nn := by omega
            have hmd : ¬ ((depthM nn : Int) < (depthM nn : Int)) := by omega
            obtain ⟨m0, hm0, hm0l⟩ := levelsM_top H0.out.2
            rw [HDN.out] at hm0
            have hl1 : ll = [rootM shaM D] := by
              rw [hm0, Nat.add_sub_cancel, hm0l] at hlv
              exact (Option.some.inj hlv).symm
            subst hl1
            obtain ⟨d, hd⟩ : ∃ d, d = rootM shaM D := ⟨_, rfl⟩
            rw [← hd] at hlow
            have HQ := Lib.hid (And.intro hlow (And.intro hS trivial))
            have HD := Lib.hid hd
            clear hlow hS hlv hll hlne hm1 hm2 hge hm0 hm0l hd
            go_wp2_with fail
            refine (tree_Depth HQ.out.2.1.tree).mono ?_
            rw [e1]
            rintro e0 W ⟨rfl, rfl⟩
            go_wp2_with fail
            have HG := law_root HQ.out.2.1.tree
            rw [← HD.out] at HG
            refine HG.mono ?_
            clear HG
            rintro e0 we ⟨rfl, hue⟩
            have hd9 : Blk (we.alloc (.cells (dA d) 40)) we.heap.size 40 (encB (d).1) := Blk.new we _ _
            have hk9 : Kept we (we.alloc (.cells (dA d) 40)) := (Upd.refl _ we).alloc _
            have HSE := Lib.hid ((HQ.out.2.1.kept hue).kept hk9)
            have hlow := OwnRows.upd (OwnRows.upd HQ.out.1 hue (fun _ _ h => h)) hk9 (fun _ _ h => h)
            go_wp2_with fail
            obtain ⟨p1, p2⟩ := dig_at hd9
            generalize we.heap.size = g9 at *
            generalize we.alloc (.cells (dA d) 40) = w9 at *
            have f1 : ∀ W, Kept w9 W → segB W ⟨gl, 0, none⟩ 32 = true := fun W hW => by have := (OwnD.seg (OwnRows.upd hlow hW (fun _ _ h => h)) (k := 0) (by simp)).1; simpa using this
            have f2 : ∀ W, Kept w9 W → segV W ⟨gl, 0, none⟩ 32 = dA d := fun W hW => by have := (OwnD.seg (OwnRows.upd hlow hW (fun _ _ h => h)) (k := 0) (by simp)).2; simpa using this
            have f3 : ∀ W, Kept w9 W → segB W ⟨g9, 0, none⟩ 32 = true := fun W hW => (dig_at (hd9.kept hW)).1
            have f4 : ∀ W, Kept w9 W → segV W ⟨g9, 0, none⟩ 32 = dA d := fun W hW => (dig_at (hd9.kept hW)).2
            have hu9 : Kept w9 w9.drew := (Upd.refl _ w9).drew
            clear p1 p2 hd9 hk9 hue hlow
            refine wp_region_ord [(0, true), (1, true), (2, true), (3, true), (4, true), (5, true), (6, true), (7, true), (8, true), (9, true), (10, true), (11, true), (12, true), (13, true)] (by kernel_rfl) (by kernel_rfl) (Kept w9) hu9 ?_
            simp only [ordOps, List.getD_cons_zero, List.getD_cons_succ]
            iterate 14 (refine wpOrd_held (fun K hK => ?_); go_simp; first | (apply Exists.intro; refine ⟨fun W hW => ?_, hK _ ?_⟩; (go_simp; first | done | exact rfl); clear hK K) | (refine hK _ ?_; clear hK K))
            refine wpOrd_nil ?_
            have HF := Lib.hid ((HU.out.then HSE.out.ink.upd (fun _ _ h => h)).then hu9 (fun _ _ h => h))
            clear f1 f2 f3 f4 hu9
            go_wp2
            go_ret
            exact ⟨rfl, HF.out⟩
      · have hk1 : ¬ ((k : Int) < (l.length : Int)) := by omega
        clear hk hkl hgo hkk
        have h0 : (levelsM shaM D)[0]? = some D := by
          obtain ⟨_, h1, _⟩ := levelsM_head D
          rw [h1]; rfl
        have hDne : D ≠ [] := by intro h; have h1 := HS.out.1; rw [h] at h1; have := HN.out.1; simp at h1; omega
        have e1 : depthM D.length = depthM n := by rw [HS.out.1]
        have H0 := Lib.hid (And.intro h0 hDne)
        clear h0 hDne
        go_wp2_with fail
        have HG := tree_Level HS.out.2.tree 0 H0.out.1 (by have := HS.out.1; have := HN.out.2; omega)
        refine HG.mono ?_
        clear HG
        rintro e0 wa ⟨va, rfl, hva, hua⟩
        obtain ⟨ga, ca, rfl, _, _⟩ := own_form hva H0.out.2
        have HV := Lib.hid (And.intro hva (HS.out.2.kept hua))
        have HDN := Lib.hid HS.out.1
        obtain ⟨nn, hnn⟩ : ∃ nn, nn = D.length := ⟨_, rfl⟩
        rw [← hnn]
        obtain rfl : nn = n := by rw [hnn, HDN.out]
        have HNN := Lib.hid hnn
        clear hva hua HS hnn
        go_wp2_with fail
        go_loopw [11, 9] (fun u1 u2 wr => ∃ m ll L gl cl B, 1 ≤ m ∧ m ≤ depthM nn ∧ (levelsM shaM D)[m - 1]? = some ll ∧ ll.length ≤ nn ∧ ll ≠ [] ∧ u1 = .int .i64 (m : Nat) ∧ u2 = .slice (some ⟨gl, 0, none⟩) ll.length cl ∧ OwnD wr B (.slice (some ⟨gl, 0, none⟩) ll.length cl) ll ∧ Sown w1 wr b r q lo hi t L D) (fun u1 _ _ => 2000 - (intOf u1).toNat)
        case atStart => 
          obtain ⟨m, hm, _⟩ := levelsM_top H0.out.2
          exact ⟨1, D, _, ga, ca, _, by omega, by rw [← e1]; omega, H0.out.1, by rw [HDN.out]; omega, H0.out.2, rfl, by rw [HNN.out], HV.out.1, HV.out.2⟩
        case round =>
          obtain ⟨m, ll, Lr, gl, cl, B, hm1, hm2, hlv, hll, hlne, rfl, rfl, hlow, hS⟩ := hrel
          clear HV
          have hdb : (depthM nn : Int) ≤ 1024 := by have := depthM_le nn D HDN.out; have := HN.out.2; omega
          rcases Nat.lt_or_ge m (depthM nn) with hlt | hge
          · obtain ⟨la, hla, hlal⟩ := levelsM_at HDN.out hlt HN.out.1
            have hne := hS.tree.ne hla
            have habove : la = aboveM shaM ll := levelsM_next _ _ (m - 1) _ _ rfl hlv (by rw [Nat.sub_add_cancel hm1]; exact hla)
            have hmd : (m : Int) < (depthM nn : Int) := by omega
            have hmb : (m : Int) ≤ 1024 := by omega
            have HQ := Lib.hid (And.intro hlow (And.intro hS (And.intro hla (And.intro hne (And.intro hlv hlne)))))
            have hup : la.length = (ll.length + 3) / 4 := by rw [habove, aboveM_length]; rfl
            obtain ⟨s, hs⟩ : ∃ s, s = ll.length + 3 := ⟨_, rfl⟩
            have hn200 := HN.out.2
            have hsw : IntKind.i64.wrap ((ll.length : Int) + 3) = (s : Int) := by rw [IntKind.wrap_i64]; omega
            have hq : (s : Int) / 4 = (la.length : Int) := by omega
            have hqw : IntKind.i64.wrap (la.length : Int) = (la.length : Int) := by rw [IntKind.wrap_i64]; omega
            have HB := Lib.hid (And.intro habove (And.intro hlal (And.intro (show la.length ≤ nn from hlal) (And.intro hm2 (And.intro hll (show ll.length ≤ cl by obtain ⟨A0, c0, hA0, hc0, _⟩ := OwnD.digs hlow; simp only [Value.slice.injEq] at hA0; omega))))))
            have HM := Lib.hid (And.intro hm1 hlt)
            clear hlow hS hla hne hup hs habove hlal hm2 hll hlv hlne hn200 hm1 hlt
            go_wp2_with fail
            refine (tree_Depth HQ.out.2.1.tree).mono ?_
            rw [e1]
            rintro e0 W ⟨rfl, rfl⟩
            go_wp2_with fail
            refine (tree_Level HQ.out.2.1.tree m HQ.out.2.2.1 (by have := HB.out.2.1; have := HN.out.2; omega)).mono ?_
            rintro e0 wv ⟨vv, rfl, hvv, huv⟩
            obtain ⟨gr, cr, rfl, _, _⟩ := own_form hvv HQ.out.2.2.2.1
            have HV := Lib.hid (And.intro (OwnRows.upd HQ.out.1 huv (fun _ _ h => h)) (And.intro hvv (And.intro (HQ.out.2.1.kept huv) (And.intro HQ.out.2.2.1 (And.intro HQ.out.2.2.2.1 HQ.out.2.2.2.2)))))
            generalize wr.heap.size = B2 at *
            clear hvv huv HQ
            go_wp2_with fail
            clear hq hqw hsw
            go_loopw [14] (fun u1 wr => ∃ i : Nat, i ≤ la.length ∧ u1 = .int .i64 i ∧ ∃ L, OwnD wr B (.slice (some ⟨gl, 0, none⟩) ll.length cl) ll ∧ OwnD wr B2 (.slice (some ⟨gr, 0, none⟩) la.length cr) la ∧ Sown w1 wr b r q lo hi t L D) (fun u1 _ => 2000 - (intOf u1).toNat)
            case atStart => exact ⟨0, Nat.zero_le _, rfl, _, HV.out.1, HV.out.2.1, HV.out.2.2.1⟩
            case round =>
              replace HV := Lib.hid HV.out.2.2.2
              obtain ⟨i, hi, rfl, Lr, hlow, hrow, hS⟩ := hrel
              have HC := Lib.hid (And.intro hlow (And.intro hrow hS))
              clear hlow hrow hS
              rcases Nat.lt_or_ge i la.length with hil | hil
              · clear hi
                have hja : (i : Int) < (la.length : Int) := by omega
                have hlen := HB.out.2.2.1
                have hln := HB.out.2.2.2.2.1
                have hup : la.length = (ll.length + 3) / 4 := by rw [HB.out.1, aboveM_length]; rfl
                have hn200 := HN.out.2
                have hcl := HB.out.2.2.2.2.2
                obtain ⟨i4, hi4⟩ : ∃ i4, i4 = 4 * i := ⟨_, rfl⟩
                obtain ⟨j4, hj4⟩ : ∃ j4, j4 = i4 + 4 := ⟨_, rfl⟩
                obtain ⟨mm, hmm⟩ : ∃ mm, mm = min j4 ll.length := ⟨_, rfl⟩
                have hi4w : IntKind.i64.wrap (4 * (i : Int)) = (i4 : Int) := by rw [IntKind.wrap_i64]; omega
                have hj4w : IntKind.i64.wrap ((i4 : Int) + 4) = (j4 : Int) := by rw [IntKind.wrap_i64]; omega
                have hmi : (if (ll.length : Int) < (j4 : Int) then (ll.length : Int) else (j4 : Int)) = (mm : Int) := by split <;> omega
                have hmn : (if ll.length < j4 then (ll.length : Int) else (j4 : Int)) = (mm : Int) := by split <;> omega
                obtain ⟨G, hG⟩ : ∃ G, G = group ll i := ⟨_, rfl⟩
                have hGl : G.length = mm - i4 := by rw [hG, group_length]; omega
                have hGe : (ll.drop i4).take 4 = G := by rw [hG, group, hi4]
                obtain ⟨hlow, hrow, hS⟩ := HC.out
                obtain ⟨A0, c0, hA0, hc0, hdg0⟩ := OwnD.digs hlow
                simp only [Value.slice.injEq] at hA0
                obtain ⟨rfl, _, rfl⟩ := hA0
                obtain ⟨A3, hA3⟩ : ∃ A3, A3 = (some (⟨gl, 0, none⟩ : Addr)).map (·.add (i4 * 32)) := ⟨_, rfl⟩
                have hdg : Digs wr A3 G := by have := hdg0.part i4 4; rwa [hGe, ← hA3] at this
                obtain ⟨c3, hc3⟩ : ∃ c3, c3 = cl - i4 := ⟨_, rfl⟩
                have hsl : ∀ W : World, (Instr.sliceAt 35 (.slice (some ⟨gl, 0, none⟩) ll.length cl) (some (.int .i64 (i4 : Int))) (some (.int .i64 (mm : Int))) none).run Try.prog W = .ok (.slice A3 G.length c3) W := fun W => by
                  rw [hA3, hGl, hc3]
                  exact slice_digs_lh W (some ⟨gl, 0, none⟩) ll.length cl i4 mm i4 mm rfl rfl (by omega) (by omega) (by omega)
                have hla : la[i]'hil = upM shaM G := by
                  have h1 : la[i]'hil = (aboveM shaM ll)[i]'(by rw [← HB.out.1]; exact hil) := by congr 1; exact HB.out.1
                  rw [h1, aboveM_get, hG]
                have HG1 : 1 ≤ G.length := by omega
                have HG4 : G.length ≤ 4 := by omega
                have HH := Lib.hid (And.intro HG1 (And.intro HG4 (And.intro hdg (And.intro hlow (And.intro hrow (And.intro hS hla))))))
                clear HG1 HG4 hdg hlow hrow hS hla hlen hln hup hn200 hi4 hj4 hmm hGl hGe hG hc0 hdg0 hA3 hc3 HC hcl
                go_wp2_with fail
                have HG := tree_Up HH.out.2.2.2.2.2.1.ink.book c3 HH.out.2.2.1 HH.out.1 HH.out.2.1
                refine HG.mono ?_
                clear HG
                rintro e0 wu ⟨rfl, hbu, huu⟩
                have hlowu := HH.out.2.2.2.1.book HH.out.2.2.2.2.2.1.ink.book huu
                have hrowu := HH.out.2.2.2.2.1.book HH.out.2.2.2.2.2.1.ink.book huu
                have hSu : Sown w1 wu b r q lo hi t _ D := ⟨HH.out.2.2.2.2.2.1.ink.to hbu huu, HH.out.2.2.2.2.2.1.tree.book HH.out.2.2.2.2.2.1.ink.book huu, HH.out.2.2.2.2.2.1.lo⟩
                obtain ⟨d, hd⟩ : ∃ d, d = upM shaM G := ⟨_, rfl⟩
                have hlad := HH.out.2.2.2.2.2.2
                rw [← hd] at hlad ⊢
                generalize noteM Lr (upIn G) = Lu at *
                have hd9 : Blk (wu.alloc (.cells (dA d) 40)) wu.heap.size 40 (encB (d).1) := Blk.new wu _ _
                have hk9 : Kept wu (wu.alloc (.cells (dA d) 40)) := (Upd.refl _ wu).alloc _
                replace hlowu := OwnRows.upd hlowu hk9 (fun _ _ h => h)
                replace hrowu := OwnRows.upd hrowu hk9 (fun _ _ h => h)
                replace hSu := hSu.kept hk9
                have HV := Lib.hid (And.intro hlowu (And.intro hrowu (And.intro hSu (And.intro hd9 hlad))))
                clear hlowu hrowu hSu hd9 hlad hd hbu huu hk9 HH hsl hmi hmn hi4w hj4w
                go_wp2_with fail
                generalize wu.heap.size = g9 at *
                generalize wu.alloc (.cells (dA d) 40) = w9 at *
                have f1 : ∀ W, Kept w9 W → segB W ⟨gr, i * 32, none⟩ 32 = true := fun W hW => (OwnD.seg (OwnRows.upd HV.out.2.1 hW (fun _ _ h => h)) (k := i) hil).1
                have f2 : ∀ W, Kept w9 W → segV W ⟨gr, i * 32, none⟩ 32 = dA d := fun W hW => by rw [(OwnD.seg (OwnRows.upd HV.out.2.1 hW (fun _ _ h => h)) (k := i) hil).2, HV.out.2.2.2.2]
                have f3 : ∀ W, Kept w9 W → segB W ⟨g9, 0, none⟩ 32 = true := fun W hW => (dig_at (HV.out.2.2.2.1.kept hW)).1
                have f4 : ∀ W, Kept w9 W → segV W ⟨g9, 0, none⟩ 32 = dA d := fun W hW => (dig_at (HV.out.2.2.2.1.kept hW)).2
                have hu9 : Kept w9 w9.drew := (Upd.refl _ w9).drew
                have HIL := Lib.hid hil
                have hilen : (i : Int) ≤ 1024 := by have := HB.out.2.2.1; have := HN.out.2; omega
                refine wp_region_ord [(0, true), (1, true), (2, true), (3, true), (4, true), (5, true), (6, true), (7, true), (8, true), (9, true)] (by kernel_rfl) (by kernel_rfl) (Kept w9) hu9 ?_
                simp only [ordOps, List.getD_cons_zero, List.getD_cons_succ]
                iterate 10 (refine wpOrd_held (fun K hK => ?_); go_simp; first | (apply Exists.intro; refine ⟨fun W hW => ?_, hK _ ?_⟩; (go_simp; first | done | exact rfl); clear hK K) | (refine hK _ ?_; clear hK K))
                refine wpOrd_nil ?_
                have HF := Lib.hid (And.intro (OwnRows.upd HV.out.1 hu9 (fun _ _ h => h)) (And.intro (OwnRows.upd HV.out.2.1 hu9 (fun _ _ h => h)) (HV.out.2.2.1.kept hu9)))
                clear f1 f2 f3 f4 hu9 HV
                go_wp2
                go_roundw
                case rel => exact ⟨i + 1, by have := HIL.out; omega, by show _ = _; go_num, _, HF.out.1, HF.out.2.1, HF.out.2.2⟩
                case measure => have := HIL.out; simp [intOf]; omega
              · obtain rfl : i = la.length := by omega
                have hja : ¬ ((la.length : Int) < (la.length : Int)) := by omega
                clear hi hil
                go_wp2
                go_roundw
                case rel => exact ⟨m + 1, la, _, gr, cr, _, by omega, HM.out.2, HV.out.1, HB.out.2.1, HV.out.2.1, by show _ = _; go_num, rfl, HC.out.2.1, HC.out.2.2⟩
                case measure => have := HM.out; simp [intOf]; omega
          · obtain rfl : m = depthM nn := by omega
            have hmd : ¬ ((depthM nn : Int) < (depthM nn : Int)) := by omega
            obtain ⟨m0, hm0, hm0l⟩ := levelsM_top H0.out.2
            rw [HDN.out] at hm0
            have hl1 : ll = [rootM shaM D] := by
              rw [hm0, Nat.add_sub_cancel, hm0l] at hlv
              exact (Option.some.inj hlv).symm
            subst hl1
            obtain ⟨d, hd⟩ : ∃ d, d = rootM shaM D := ⟨_, rfl⟩
            rw [← hd] at hlow
            have HQ := Lib.hid (And.intro hlow (And.intro hS trivial))
            have HD := Lib.hid hd
            clear hlow hS hlv hll hlne hm1 hm2 hge hm0 hm0l hd
            go_wp2_with fail
            refine (tree_Depth HQ.out.2.1.tree).mono ?_
            rw [e1]
            rintro e0 W ⟨rfl, rfl⟩
            go_wp2_with fail
            have HG := law_root HQ.out.2.1.tree
            rw [← HD.out] at HG
            refine HG.mono ?_
            clear HG
            rintro e0 we ⟨rfl, hue⟩
            have hd9 : Blk (we.alloc (.cells (dA d) 40)) we.heap.size 40 (encB (d).1) := Blk.new we _ _
            have hk9 : Kept we (we.alloc (.cells (dA d) 40)) := (Upd.refl _ we).alloc _
            have HSE := Lib.hid ((HQ.out.2.1.kept hue).kept hk9)
            have hlow := OwnRows.upd (OwnRows.upd HQ.out.1 hue (fun _ _ h => h)) hk9 (fun _ _ h => h)
            go_wp2_with fail
            obtain ⟨p1, p2⟩ := dig_at hd9
            generalize we.heap.size = g9 at *
            generalize we.alloc (.cells (dA d) 40) = w9 at *
            have f1 : ∀ W, Kept w9 W → segB W ⟨gl, 0, none⟩ 32 = true := fun W hW => by have := (OwnD.seg (OwnRows.upd hlow hW (fun _ _ h => h)) (k := 0) (by simp)).1; simpa using this
            have f2 : ∀ W, Kept w9 W → segV W ⟨gl, 0, none⟩ 32 = dA d := fun W hW => by have := (OwnD.seg (OwnRows.upd hlow hW (fun _ _ h => h)) (k := 0) (by simp)).2; simpa using this
            have f3 : ∀ W, Kept w9 W → segB W ⟨g9, 0, none⟩ 32 = true := fun W hW => (dig_at (hd9.kept hW)).1
            have f4 : ∀ W, Kept w9 W → segV W ⟨g9, 0, none⟩ 32 = dA d := fun W hW => (dig_at (hd9.kept hW)).2
            have hu9 : Kept w9 w9.drew := (Upd.refl _ w9).drew
            clear p1 p2 hd9 hk9 hue hlow
            refine wp_region_ord [(0, true), (1, true), (2, true), (3, true), (4, true), (5, true), (6, true), (7, true), (8, true), (9, true), (10, true), (11, true), (12, true), (13, true)] (by kernel_rfl) (by kernel_rfl) (Kept w9) hu9 ?_
            simp only [ordOps, List.getD_cons_zero, List.getD_cons_succ]
            iterate 14 (refine wpOrd_held (fun K hK => ?_); go_simp; first | (apply Exists.intro; refine ⟨fun W hW => ?_, hK _ ?_⟩; (go_simp; first | done | exact rfl); clear hK K) | (refine hK _ ?_; clear hK K))
            refine wpOrd_nil ?_
            have HF := Lib.hid ((HU.out.then HSE.out.ink.upd (fun _ _ h => h)).then hu9 (fun _ _ h => h))
            clear f1 f2 f3 f4 hu9
            go_wp2
            go_ret
            exact ⟨rfl, HF.out⟩
set_option maxRecDepth 100000 in
theorem TreeLevels_lifted (os : Os) (started : os.Started) (H : Type) (enc : TypeId × Value → H) :
    ReturnsInHanded {} Try.checked os 3 .any (Rows.treeLevelsSpec.pre6 enc Try.prog Try.f3 Rows.treeLevelsRow.domain false) (Rows.treeLevelsSpec.post enc Try.prog Try.f3 false true false false) := by
  refine law_lifted os started Try.func3 (by kernel_rfl) rfl rfl (by kernel_rfl) ?_
    (ChangeSpec.witness6 (enc := enc) (C := Try.checked) false ⟨#[], #[.int .i64 0, .slice none 0 0], []⟩ 8 (by kernel_rfl) (by kernel_rfl) (by kernel_rfl) (by kernel_rfl)) ?_
  · intro ds h
    rw [Try.params3] at h
    match ds, h with
    | [d0, d1], _ => rfl
  · intro W base args ds ps hval hA hsz
    rw [Try.params3] at hA hval hsz
    obtain ⟨v0, vs0, d0, ds0, p0, q0, hargs, rfl, rfl, h0, r_0⟩ := trodAll_cons hA
    obtain ⟨v1, vs1, d1, ds1, p1, q1, rfl, rfl, rfl, h1, r_1⟩ := trodAll_cons r_0
    obtain ⟨rfl, rfl, rfl⟩ := trodAll_nil r_1
    obtain rfl : args = #[v0, v1] := by cases args; simp_all
    obtain ⟨a0, rfl, rfl, rfl, w0⟩ := open_int Try.underlying3 (hval 0 3 v0 rfl rfl) h0
    obtain ⟨A1, n1, c1, rfl⟩ := okWide_slice Try.underlying22 (hval 1 22 v1 rfl rfl)
    have r1 := ReadsAs.of_trod hsz (j := 1) rfl rfl h1
    obtain ⟨A, c, l, hcs, hl, hlc, hmx⟩ := open_sets r1
    simp only [Value.cells, List.cons.injEq, Value.slice.injEq, and_true] at hcs
    obtain ⟨rfl, rfl, rfl⟩ := hcs
    exact TreeLevels_walk a0 _ _ l W w0 hl hlc hmx

theorem TreeLevels_holds : Rows.TreeLevelsSaid :=
  OpenClaim.holds_of_wide 3 Try.f3 rfl rfl rfl rfl rfl rfl rfl ⟨rfl, rfl, rfl, rfl, rfl⟩ rfl rfl rfl rfl rfl (by kernel_rfl) Try.func3 (by kernel_rfl)
    (of_decide_eq_true (by kernel_rfl)) (by unfold Func.isWrapper; first | (rw [if_pos (by decide +kernel)]; kernel_rfl) | (rw [if_neg (by decide +kernel)]; exact ⟨rfl, rfl⟩))
    (fun os started H enc _ => TreeLevels_lifted os started H enc)
end Go.Proofs.Ytjimamgghkgdeaa
