/- Of, Leaf and Up answer as the chapter says; what is noted; what is handed in stays: the statement TreeOf holds, of all leaves and children. -/
import Derived.Test.YtnncpjekcljfbaaSetI
namespace Go.Proofs.Ytnncpjekcljfbaa
open Go.ChangeShapes Go.WideShapes Go.ChangeAt Go.RowKit

attribute [local irreducible] wpOrd
theorem OfS.push {w W W' : World} {b r q c : Nat} {L M : List Bytes} {vi vi' : Value} {li : List (SlC × Bytes)} {G : List (Nat × Dig)} (h : OfS w W b r q L c M vi li G) {x : SlC} {R : Bytes} (hx : OwnB W w.heap.size x.v R) (hR : R.length ≤ 140737488351232)
    (hr : OwnRows slA 1 W' w.heap.size 35 vi' (li.map (·.1) ++ [x])) (hu : Upd (fun k => vi.ownBlock = some k) W W') (hnew : vi'.ownBlock = vi.ownBlock ∨ vi'.ownBlock = some W.heap.size) : OfS w W' b r q L c M vi' (li ++ [(x, R)]) G := by
  obtain ⟨h1, ⟨B, v, n, xs, h2, h3, h4, h5⟩, h6, h7⟩ := h
  have hno : ∀ {k : Nat} {cs : Array Value} {t : TypeId} {fr : Nat × Nat}, W.heap[k]? = some (.cells cs t fr) → t ≠ 35 → ¬ vi.ownBlock = some k := fun hc ht e => by
    obtain ⟨cur, h8⟩ := own_cells h6.1 e
    rw [hc] at h8
    simp only [Option.some.injEq, Obj.cells.injEq] at h8
    exact ht h8.2.1
  have hby : ∀ {y : Value} {B' : Nat} {R : Bytes}, OwnB W B' y R → OwnB W' B' y R := fun ho => ho.upd hu (fun k e => by obtain ⟨cur, hc⟩ := ho.block e; exact hno hc (by decide))
  refine ⟨h1.step (h1.book.upd hu (fun e => ?_) (fun e => ?_) (fun e => ?_)) hu (fun k e => .inr (World.ownsRow.lt h6.1 k e).1), ⟨B, v, n, xs, ⟨hu.heap h2.blk (hno h2.blk (by decide)), OwnRows.upd h2.row hu (fun k e e2 => h5 k e2 e), h2.len, fun i hi hi' => hby (h2.each i hi hi'), h2.sz⟩, h3, h4, fun k e e2 => ?_⟩, ⟨?_, fun p hp => ?_⟩, fun p hp => (h7 p hp).upd hu (hno (h7 p hp) (by decide))⟩
  · obtain ⟨cur, hc⟩ := own_cells h6.1 e; exact h1.book.not hc (by decide) (.inl rfl)
  · obtain ⟨cur, hc⟩ := own_cells h6.1 e; exact h1.book.not hc (by decide) (.inr (.inl rfl))
  · obtain ⟨cur, hc⟩ := own_cells h6.1 e; exact h1.book.not hc (by decide) (.inr (.inr rfl))
  · rcases hnew with e3 | e3
    · rw [e3] at e; exact h5 k e e2
    · rw [e3] at e
      have := Option.some.inj e
      have := (World.ownsRow.lt h2.row k e2).2
      omega
  · rw [List.map_append]; exact hr
  · rcases List.mem_append.1 hp with hp | hp
    · exact ⟨hby (h6.2 p hp).1, (h6.2 p hp).2⟩
    · simp only [List.mem_singleton] at hp
      subst hp
      exact ⟨hby hx, hR⟩
theorem OfS.leaf {w W : World} {b r q c : Nat} {L M : List Bytes} {A : Option Addr} {n k : Nat} {li : List (SlC × Bytes)} {G : List (Nat × Dig)} (h : OfS w W b r q L c M (.slice A n k) li G) {j : Nat} (hj : j < li.length) : ∃ g o A2 c2, A = some ⟨g, o, none⟩ ∧ li[j].1 = ⟨A2, li[j].2.length, c2⟩ := by
  obtain ⟨g, o, hA, -, hlf, -⟩ := h.leaves j hj
  obtain ⟨A2, c2, hx, -, -⟩ := hlf.form
  exact ⟨g, o, A2, c2, hA, hx⟩
theorem OfS.leafc {w W : World} {b r q c g o : Nat} {L M : List Bytes} {n k : Nat} {li : List (SlC × Bytes)} {G : List (Nat × Dig)} (h : OfS w W b r q L c M (.slice (some ⟨g, o, none⟩) n k) li G) {j : Nat} (hj : j < li.length) {A2 : Option Addr} {m c2 : Nat} (hx : li[j].1 = ⟨A2, m, c2⟩) : W.cell? ⟨g, o + j, none⟩ = some (.slice A2 m c2) ∧ Byt W A2 li[j].2 := by
  obtain ⟨g', o', hA, hc, hlf, -⟩ := h.leaves j hj
  simp only [Option.some.injEq, Addr.mk.injEq, and_true] at hA
  obtain ⟨rfl, rfl⟩ := hA
  obtain ⟨A3, c3, hx3, -, hb⟩ := hlf.form
  rw [hx] at hx3 hc
  simp only [SlC.mk.injEq] at hx3
  obtain ⟨rfl, -, -⟩ := hx3
  exact ⟨hc, hb⟩
set_option maxHeartbeats 3000000 in
set_option maxRecDepth 20000 in
theorem TreeOf_walk (A1 A2 : Option Addr) (c1 c2 : Nat) (l : List (SlC × Bytes)) (D : List Dig) (w : World) (hl : LeavesAt w A1 l) (hD : Digs w A2 D) (hlm : l.length ≤ 140737488351232) :
    Calls Try.prog 4 #[.slice A1 l.length c1, .slice A2 D.length c2] w fun e w' => e = .returned (.bool true) ∧ Kept w w' := by
  have HA := Lib.hid (And.intro hl (And.intro hD hlm))
  clear hl hD hlm
  obtain ⟨n, hn⟩ : ∃ n, n = l.length := ⟨_, rfl⟩
  obtain ⟨m, hm⟩ : ∃ m, m = D.length := ⟨_, rfl⟩
  rw [← hn, ← hm]
  have HN := Lib.hid (And.intro hn hm)
  clear hn hm
  go_enter Try.func4, Try.ntmps4
  go_wp2_with fail
  refine (law_book _).mono ?_
  rintro e w1 ⟨b, r, q, rfl, hI⟩
  have HI := Lib.hid hI
  clear hI
  go_wp2_with fail
  refine (ref_New _).mono ?_
  rintro e w2 ⟨rfl, hr, hu⟩
  obtain ⟨c, hc⟩ : ∃ c, c = w1.heap.size := ⟨_, rfl⟩
  rw [← hc] at hr ⊢
  have hI2 := HI.out.kept hu
  have HS := Lib.hid (show OfS w w2 b r q [] c [] (.slice none 0 0) [] [] from ⟨hI2, ⟨c, _, _, _, hr, by rw [hc]; exact HI.out.upd.size, Nat.le_refl _, fun k e => by cases e⟩, ⟨OwnRows.nil _ _ _, fun p hp => by simp at hp⟩, fun p hp => by simp at hp⟩)
  clear hr hu hI2 hc HI
  by_cases h60 : 60 < n
  · have hd : decide ((60 : Int) < (n : Int)) = true := decide_eq_true (by omega)
    have hdn : decide (60 < n) = true := decide_eq_true h60
    clear h60
    go_wp2_with fail
    refine (law_works _).mono ?_
    rintro e w3 ⟨rfl, hu⟩
    have HF := Lib.hid (HS.out.kept hu).ink.upd
    clear hu HS
    go_wp2
    go_ret
    exact ⟨rfl, HF.out⟩
  · have hd : decide ((60 : Int) < (n : Int)) = false := decide_eq_false (by omega)
    have hdn : decide (60 < n) = false := decide_eq_false h60
    have HN6 := Lib.hid (show n ≤ 60 by omega)
    clear h60
    go_wp2_with fail
    clear hd hdn
    go_loopw [8, 7] (fun u t wr => ∃ (k : Nat) (li : List (SlC × Bytes)), k ≤ n ∧ u = .int .i64 k ∧ li.map (·.2) = (l.map (·.2)).take k ∧ OfS w wr b r q [] c [] t li []) (fun u _ _ => 2000 - (intOf u).toNat)
    case atStart => exact ⟨0, [], Nat.zero_le _, rfl, by simp, HS.out⟩
    case round =>
      clear HS
      obtain ⟨k, li, hk, rfl, hli, hS⟩ := hrel
      rcases Nat.lt_or_ge k n with hlt | hge
      · have hkl : k < l.length := by rw [← HN.out.1]; exact hlt
        have hk' : (k : Int) < (n : Int) := by omega
        have hk5 : (k : Int) ≤ 60 := by have := HN6.out; omega
        obtain ⟨g, o, Ai, ci, hA, hcell, hby, hcc⟩ := (HA.out.1.kept hS.ink.upd).get hkl
        have hRl := (HA.out.1 k hkl).choose_spec.choose_spec.2.2.2
        have htk : (l.map (·.2)).take (k + 1) = (l.map (·.2)).take k ++ [l[k].2] := by
          rw [List.take_succ_eq_append_getElem (by rw [List.length_map]; exact hkl), List.getElem_map]
        subst hA
        have hlil : li.length = k := by
          have := congrArg List.length hli
          rw [List.length_map, List.length_take, List.length_map] at this
          omega
        generalize l[k].2 = R at *
        have HS := Lib.hid hS
        have HE := Lib.hid (And.intro hli (And.intro htk (And.intro hlil (And.intro hlt (And.intro hRl hby)))))
        clear hS hli htk hlil hlt hkl hk hRl hby hcc
        go_wp2_with fail
        refine (ref_CopyBytes ci HE.out.2.2.2.2.2 HE.out.2.2.2.2.1).mono ?_
        rintro e w3 ⟨v3, rfl, ho3, hu3⟩
        obtain ⟨A3, c3, rfl, -, -⟩ := ho3.form
        have hk4 : Kept w3 (w3.alloc (.cells (slA ⟨A3, R.length, c3⟩) 35)) := (Upd.refl _ w3).alloc _
        have hS4 := (HS.out.kept hu3).kept hk4
        have hx4 : OwnB (w3.alloc (.cells (slA ⟨A3, R.length, c3⟩) 35)) w.heap.size (SlC.v ⟨A3, R.length, c3⟩) R := OwnB.base (ho3.kept hk4) HS.out.ink.upd.size
        have hg4 := heap_alloc_new w3 (.cells (slA ⟨A3, R.length, c3⟩) 35)
        have H4 := Lib.hid (And.intro hS4 (And.intro hx4 (And.intro hg4 (show (li.map (·.1)).length ≤ 60 by rw [List.length_map]; have := HE.out.2.2.1; have := HE.out.2.2.2.1; have := HN6.out; omega))))
        clear hk4 hS4 hx4 hg4 ho3 hu3
        go_wp2_with (at_builtin; refine wpList_append_rows bs_rows rfl (.tmp 34) (.tmp 40) rfl rfl H4.out.1.own.1 ⟨A3, R.length, c3⟩ w3.heap.size 1 _ _ rfl H4.out.2.2.1 (by have := H4.out.2.2.2; unfold maxLen; omega) (by have := H4.out.2.2.2; omega) H4.out.1.ink.upd.size ?_; intro v5 w5 hown' hu' hnew)
        have HF := Lib.hid (H4.out.1.push H4.out.2.1 HE.out.2.2.2.2.1 hown' hu' hnew)
        clear hown' hu' hnew H4
        go_wp2_with fail
        go_roundw
        case rel => exact ⟨k + 1, _, by have := HE.out.2.2.2.1; omega, by show _ = _; go_num, by rw [List.map_append, HE.out.1, HE.out.2.1]; rfl, HF.out⟩
        case measure => have := HE.out.2.2.2.1; have := HN6.out; simp [intOf]; omega
      · obtain rfl : k = n := by omega
        have hk' : ¬ ((k : Int) < (k : Int)) := by omega
        rw [List.take_of_length_le (by rw [List.length_map, ← HN.out.1]; exact Nat.le_refl _)] at hli
        have hlil : li.length = k := by
          have := congrArg List.length hli
          rw [List.length_map, List.length_map, ← HN.out.1] at this
          exact this
        obtain ⟨AI, cI, hvI⟩ := OwnRows.form hS.own.1
        rw [List.length_map, hlil] at hvI
        subst hvI
        obtain ⟨Rs, hRs⟩ : ∃ Rs, Rs = l.map (·.2) := ⟨_, rfl⟩
        have HE := Lib.hid (And.intro (hli.trans hRs.symm) (And.intro hlil hRs.symm))
        have HS := Lib.hid hS
        clear hS hli hlil hk hge hRs
        go_wp2_with fail
        have HG := ofs_Of HS.out HE.out.2.1.symm
        rw [HE.out.1] at HG
        obtain ⟨X, hX⟩ : ∃ X, X = ofD Rs := ⟨_, rfl⟩
        obtain ⟨E1, hE1⟩ : ∃ E1, E1 = ofE Rs := ⟨_, rfl⟩
        obtain ⟨U, hU⟩ : ∃ U, U = upD D := ⟨_, rfl⟩
        obtain ⟨E2, hE2⟩ : ∃ E2, E2 = upE D := ⟨_, rfl⟩
        rw [← hX, ← hE1] at HG
        have HXE := Lib.hid (And.intro hX (And.intro hE1 (And.intro hU hE2)))
        clear hX hE1 hU hE2
        refine HG.mono ?_
        clear HG
        rintro e w3 ⟨rfl, hS⟩
        replace HS := Lib.hid (hS.var X)
        clear hS
        go_wp2_with fail
        obtain ⟨g1, hg1⟩ : ∃ g1, g1 = w3.heap.size := ⟨_, rfl⟩
        rw [← hg1] at HS ⊢
        clear hg1
        generalize w3.alloc (.cells (dA X) 46) = w4 at *
        have HG := ofs_RefOf HS.out (by simp) c1 HA.out.1
        rw [HE.out.2.2, ← HXE.out.1, ← HXE.out.2.1, ← HN.out.1] at HG
        refine HG.mono ?_
        clear HG
        rintro e w5 ⟨rfl, hS⟩
        replace HS := Lib.hid (hS.var X)
        clear hS
        go_wp2_with fail
        obtain ⟨g2, hg2⟩ : ∃ g2, g2 = w5.heap.size := ⟨_, rfl⟩
        rw [← hg2] at HS ⊢
        clear hg2
        generalize w5.alloc (.cells (dA X) 46) = w6 at *
        have HG := ofs_Up HS.out c2 HA.out.2.1
        rw [← HXE.out.2.2.1, ← HXE.out.2.2.2, ← HN.out.2] at HG
        refine HG.mono ?_
        clear HG
        rintro e w7 ⟨rfl, hS⟩
        replace HS := Lib.hid (hS.var U)
        clear hS
        go_wp2_with fail
        obtain ⟨g3, hg3⟩ : ∃ g3, g3 = w7.heap.size := ⟨_, rfl⟩
        rw [← hg3] at HS ⊢
        clear hg3
        generalize w7.alloc (.cells (dA U) 46) = w8 at *
        have HG := ofs_RefUp HS.out (by have := ofN_length [] Rs; simp at this; omega) c2 HA.out.2.1
        rw [← HXE.out.2.2.1, ← HXE.out.2.2.2, ← HN.out.2] at HG
        refine HG.mono ?_
        clear HG
        rintro e w9 ⟨rfl, hS⟩
        replace HS := Lib.hid (hS.var U)
        clear hS
        obtain ⟨p1, p2⟩ := HS.out.at (g := g1) (d := X) (by simp)
        obtain ⟨p3, p4⟩ := HS.out.at (g := g2) (d := X) (by simp)
        obtain ⟨p5, p6⟩ := HS.out.at (g := g3) (d := U) (by simp)
        obtain ⟨p7, p8⟩ := HS.out.at (g := w9.heap.size) (d := U) (by simp)
        go_wp2_with fail
        clear p1 p2 p3 p4 p5 p6 p7 p8
        obtain ⟨g4, hg4⟩ : ∃ g4, g4 = w9.heap.size := ⟨_, rfl⟩
        rw [← hg4] at HS ⊢
        clear hg4
        generalize w9.alloc (.cells (dA U) 46) = w10 at *
        obtain ⟨N2, hN2⟩ : ∃ N2, N2 = upN (ofN [] Rs) D := ⟨_, rfl⟩
        have hN2l : N2.length ≤ 2049 := by have h1 := ofN_length [] Rs; have h2 := upN_length (ofN [] Rs) D; rw [← hN2] at h2; simp at h1; omega
        rw [← hN2] at HS
        have HL2 := Lib.hid hN2l
        clear hN2 hN2l
        refine (ofs_Len HS.out (by have := HL2.out; omega)).mono ?_
        rintro e w11 ⟨rfl, hS⟩
        replace HS := Lib.hid hS
        clear hS
        go_wp2_with fail
        refine (ofs_RefLen HS.out).mono ?_
        rintro e w12 ⟨rfl, hS⟩
        replace HS := Lib.hid (hS.drop (G' := []) (fun p hp => by simp at hp))
        clear hS
        go_wp2_with fail
        go_loopw [17] (fun u wr => ∃ k2 : Nat, k2 ≤ k ∧ u = .int .i64 k2 ∧ ∃ L M, L.length ≤ 2049 + k2 ∧ M.length ≤ 2049 + k2 ∧ OfS w wr b r q L c M (.slice AI k cI) li []) (fun u _ => 2000 - (intOf u).toNat)
        case atStart => exact ⟨0, Nat.zero_le _, rfl, N2, N2, HL2.out, HL2.out, HS.out⟩
        case round =>
          clear HS
          obtain ⟨k2, hk, rfl, L, M, hLl, hMl, hS⟩ := hrel
          rcases Nat.lt_or_ge k2 k with hlt | hge
          · have hkl : k2 < l.length := by rw [← HN.out.1]; exact hlt
            have hki : k2 < li.length := by rw [HE.out.2.1]; exact hlt
            have hk' : (k2 : Int) < (k : Int) := by omega
            have hk5 : (k2 : Int) ≤ 60 := by have := HN6.out; omega
            have hRe : li[k2].2 = l[k2].2 := by
              have h1 := congrArg (·[k2]?) (HE.out.1.trans HE.out.2.2.symm)
              simp only [List.getElem?_map, List.getElem?_eq_getElem hki, List.getElem?_eq_getElem hkl, Option.map_some, Option.some.injEq] at h1
              exact h1
            obtain ⟨ga, oa, Aa, ca, hAI, hxi⟩ := hS.leaf hki
            obtain ⟨gl, ol, Al, cl, hAl, -, hRm, hlc⟩ := leaf_cell HA.out.1 hkl
            subst hAI hAl
            rw [hRe] at hxi
            have hc1 : ∀ (W : World) (L M : List Bytes) (G : List (Nat × Dig)), OfS w W b r q L c M (.slice (some ⟨ga, oa, none⟩) k cI) li G → W.cell? ⟨ga, oa + k2, none⟩ = some (.slice Aa l[k2].2.length ca) ∧ Byt W Aa l[k2].2 := fun _ _ _ _ h => by
              have := h.leafc hki hxi
              rw [hRe] at this
              exact this
            generalize l[k2].2 = R at *
            have HS := Lib.hid hS
            have HL := Lib.hid (And.intro hlt (And.intro hLl (And.intro hMl hRm)))
            obtain ⟨Y, hY⟩ : ∃ Y, Y = lfD R := ⟨_, rfl⟩
            obtain ⟨E3, hE3⟩ : ∃ E3, E3 = lfE R := ⟨_, rfl⟩
            have HY := Lib.hid (And.intro hY hE3)
            have p0 := (hc1 _ _ _ _ hS).1
            replace hc1 := Lib.hid hc1
            replace hlc := Lib.hid hlc
            clear hS hlt hLl hMl hRm hY hE3 hxi hRe hki hkl hk
            go_wp2_with fail
            have HG := ofs_Leaf HS.out ca (hc1.out _ _ _ _ HS.out).2
            rw [← HY.out.1, ← HY.out.2] at HG
            refine HG.mono ?_
            clear HG p0
            rintro e w3 ⟨rfl, hS⟩
            replace HS := Lib.hid (hS.var Y)
            have p0 := (hlc.out _ HS.out.ink.upd).1
            clear hS
            go_wp2_with fail
            obtain ⟨g5, hg5⟩ : ∃ g5, g5 = w3.heap.size := ⟨_, rfl⟩
            rw [← hg5] at HS ⊢
            clear hg5
            generalize w3.alloc (.cells (dA Y) 46) = w4 at *
            have HG := ofs_RefLeaf HS.out (by have := HL.out; omega) cl (hlc.out _ HS.out.ink.upd).2
            rw [← HY.out.1, ← HY.out.2] at HG
            refine HG.mono ?_
            clear HG p0
            rintro e w5 ⟨rfl, hS⟩
            replace HS := Lib.hid (hS.var Y)
            clear hS
            go_wp2_with fail
            obtain ⟨g6, hg6⟩ : ∃ g6, g6 = w5.heap.size := ⟨_, rfl⟩
            rw [← hg6] at HS ⊢
            clear hg6
            generalize w5.alloc (.cells (dA Y) 46) = w6 at *
            have f1 : ∀ W, Kept w6 W → segB W ⟨g5, 0, none⟩ 32 = true := fun W hW => ((HS.out.kept hW).at (g := g5) (d := Y) (by simp)).1
            have f2 : ∀ W, Kept w6 W → segV W ⟨g5, 0, none⟩ 32 = dA Y := fun W hW => ((HS.out.kept hW).at (g := g5) (d := Y) (by simp)).2
            have f3 : ∀ W, Kept w6 W → segB W ⟨g6, 0, none⟩ 32 = true := fun W hW => ((HS.out.kept hW).at (g := g6) (d := Y) (by simp)).1
            have f4 : ∀ W, Kept w6 W → segV W ⟨g6, 0, none⟩ 32 = dA Y := fun W hW => ((HS.out.kept hW).at (g := g6) (d := Y) (by simp)).2
            have f5 : ∀ W, Kept w6 W → W.cell? ⟨ga, oa + k2, none⟩ = some (.slice Aa R.length ca) := fun W hW => (hc1.out _ _ _ _ (HS.out.kept hW)).1
            have f6 : ∀ W, Kept w6 W → W.cell? ⟨gl, ol + k2, none⟩ = some (.slice Al R.length cl) := fun W hW => (hlc.out _ (HS.out.kept hW).ink.upd).1
            refine wp_region_ord [(0, true), (1, true), (2, true), (3, true), (4, true), (5, true), (6, true), (7, true), (8, true), (9, true), (10, true), (11, true), (12, true), (13, true), (14, true), (15, true), (16, true), (17, false), (18, true), (19, true)] (by kernel_rfl) (by kernel_rfl) (Kept w6) (Upd.refl _ _).drew ?_
            simp only [ordOps, List.getD_cons_zero, List.getD_cons_succ]
            iterate 17 (refine wpOrd_held (fun K hK => ?_); go_simp; first | (apply Exists.intro; refine ⟨fun W hW => ?_, hK _ ?_⟩; (go_simp; first | done | exact rfl); clear hK K) | (refine hK _ ?_; clear hK K))
            have hS6 : Kept w6 w6.drew := (Upd.refl _ _).drew
            refine wpOrd_step (fun K hK => ?_) hS6
            go_simp
            have HG := ref_EqBytes_same ca cl (hc1.out _ _ _ _ (HS.out.kept hS6)).2 (hlc.out _ (HS.out.kept hS6).ink.upd).2 HL.out.2.2.2
            refine HG.mono ?_
            clear HG
            rintro e w7 ⟨rfl, hu⟩
            have hS7 : Kept w6 w7 := hS6.then hu (fun _ _ h => h)
            have HF := Lib.hid ((HS.out.kept hS7).drop (G' := []) (fun p hp => by simp at hp))
            refine hK _ _ hS7 ?_
            clear hK K hu hS6 HS
            iterate 2 (refine wpOrd_held (fun K hK => ?_); go_simp; first | (apply Exists.intro; refine ⟨fun W hW => ?_, hK _ ?_⟩; (go_simp; first | done | exact rfl); clear hK K) | (refine hK _ ?_; clear hK K))
            refine wpOrd_nil ?_
            clear f1 f2 f3 f4 f5 f6 hS7
            go_wp2
            go_roundw
            case rel => exact ⟨k2 + 1, by have := HL.out; omega, by show _ = _; go_num, _, _, by have := lfN_length L R; have := HL.out; omega, by have := lfN_length M R; have := HL.out; omega, HF.out⟩
            case measure => have := HL.out; have := HN6.out; simp [intOf]; omega
          · obtain rfl : k2 = k := by omega
            have hk' : ¬ ((k2 : Int) < (k2 : Int)) := by omega
            have HS := Lib.hid hS
            clear hS hge hk hLl hMl
            go_wp2_with fail
            refine (law_works _).mono ?_
            rintro e w13 ⟨rfl, hu⟩
            have HF := Lib.hid (HS.out.kept hu).ink.upd
            clear hu HS
            go_wp2
            go_ret
            exact ⟨rfl, HF.out⟩
set_option maxRecDepth 100000 in
theorem TreeOf_lifted (os : Os) (started : os.Started) (H : Type) (enc : TypeId × Value → H) :
    ReturnsInHanded {} Try.checked os 4 .any (Rows.treeOfSpec.pre6 enc Try.prog Try.f4 Rows.treeOfRow.domain false) (Rows.treeOfSpec.post enc Try.prog Try.f4 false true false false) := by
  refine law_lifted os started Try.func4 (by kernel_rfl) rfl rfl (by kernel_rfl) ?_
    (ChangeSpec.witness6 (enc := enc) (C := Try.checked) false ⟨#[], #[.slice none 0 0, .slice none 0 0], []⟩ 8 (by kernel_rfl) (by kernel_rfl) (by kernel_rfl) (by kernel_rfl)) ?_
  · intro ds h
    rw [Try.params4] at h
    match ds, h with
    | [d0, d1], _ => rfl
  · intro W base args ds ps hval hA hsz
    rw [Try.params4] at hA hval hsz
    obtain ⟨v0, vs0, d0, ds0, p0, q0, hargs, rfl, rfl, h0, r_0⟩ := trodAll_cons hA
    obtain ⟨v1, vs1, d1, ds1, p1, q1, rfl, rfl, rfl, h1, r_1⟩ := trodAll_cons r_0
    obtain ⟨rfl, rfl, rfl⟩ := trodAll_nil r_1
    obtain rfl : args = #[v0, v1] := by cases args; simp_all
    obtain ⟨A0, n0, c0, rfl⟩ := okWide_slice Try.underlying52 (hval 0 52 v0 rfl rfl)
    have r0 := ReadsAs.of_trod hsz (j := 0) rfl rfl h0
    obtain ⟨A1, n1, c1, rfl⟩ := okWide_slice Try.underlying41 (hval 1 41 v1 rfl rfl)
    have r1 := ReadsAs.of_trod hsz (j := 1) rfl rfl h1
    obtain ⟨A, c, l, hcs, hl, _, hmx⟩ := open_leaves r0
    simp only [Value.cells, List.cons.injEq, Value.slice.injEq, and_true] at hcs
    obtain ⟨rfl, rfl, rfl⟩ := hcs
    obtain ⟨A', c', D, hcs', hD, _⟩ := open_digs r1
    simp only [Value.cells, List.cons.injEq, Value.slice.injEq, and_true] at hcs'
    obtain ⟨rfl, rfl, rfl⟩ := hcs'
    exact TreeOf_walk _ _ _ _ l D W hl hD hmx

theorem TreeOf_holds : Rows.TreeOfSaid :=
  OpenClaim.holds_of_wide 4 Try.f4 rfl rfl rfl rfl rfl rfl rfl ⟨rfl, rfl, rfl, rfl, rfl⟩ rfl rfl rfl rfl rfl (by kernel_rfl) Try.func4 (by kernel_rfl)
    (of_decide_eq_true (by kernel_rfl)) (by unfold Func.isWrapper; first | (rw [if_pos (by decide +kernel)]; kernel_rfl) | (rw [if_neg (by decide +kernel)]; exact ⟨rfl, rfl⟩))
    (fun os started H enc _ => TreeOf_lifted os started H enc)
end Go.Proofs.Ytnncpjekcljfbaa
