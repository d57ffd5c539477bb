/- A tree's root is Of of its leaves, whatever they had ahead, in whichever order they were set: the statement TreeRoot holds. For every input. -/
import Derived.Test.YtjimamgghkgdeaaTreeQ
namespace Go.Proofs.Ytjimamgghkgdeaa
open Go.ChangeShapes Go.WideShapes Go.ChangeAt Go.RowKit

attribute [local irreducible] wpOrd
/-- a book and two trees behind w -/
structure Two (w W : World) (b r q lo1 hi1 t1 lo2 hi2 t2 : Nat) (L : List Bytes) (D E : List Dig) : Prop where
  ink : Ink0 w W b r q L
  one : TreeAt W lo1 hi1 t1 b D
  two : TreeAt W lo2 hi2 t2 b E
  lo : w.heap.size ≤ lo1
  apart : hi1 ≤ lo2
section
variable {w W W' : World} {b r q lo1 hi1 t1 lo2 hi2 t2 : Nat} {L L' : List Bytes} {D D' E E' : List Dig}
theorem Two.kept (h : Two w W b r q lo1 hi1 t1 lo2 hi2 t2 L D E) (hu : Kept W W') : Two w W' b r q lo1 hi1 t1 lo2 hi2 t2 L D E := ⟨h.ink.kept hu, h.one.kept hu, h.two.kept hu, h.lo, h.apart⟩
theorem Two.lt (h : Two w W b r q lo1 hi1 t1 lo2 hi2 t2 L D E) : lo1 < hi1 := by
  obtain ⟨_, _, _, h1⟩ := h.one
  exact Nat.lt_of_le_of_lt h1.tlo h1.thi
theorem Two.set1 (h : Two w W b r q lo1 hi1 t1 lo2 hi2 t2 L D E) (hT : TreeAt W' lo1 hi1 t1 b D') (hb : BookL W' b r q L') (hu : Upd (fun k => Book3 b r q k ∨ (lo1 ≤ k ∧ k < hi1)) W W') : Two w W' b r q lo1 hi1 t1 lo2 hi2 t2 L' D' E := by
  have h1 := h.lo
  have h2 := h.apart
  exact ⟨h.ink.step hb hu (fun k e => e.imp id (fun e => by omega)), hT, h.two.upd hu (fun k k1 k2 ⟨cs, t', hc, ht'⟩ e => e.elim (fun e => h.ink.book.not hc ht' e) (fun e => by omega)), h.lo, h.apart⟩
theorem Two.set2 (h : Two w W b r q lo1 hi1 t1 lo2 hi2 t2 L D E) (hT : TreeAt W' lo2 hi2 t2 b E') (hb : BookL W' b r q L') (hu : Upd (fun k => Book3 b r q k ∨ (lo2 ≤ k ∧ k < hi2)) W W') : Two w W' b r q lo1 hi1 t1 lo2 hi2 t2 L' D E' := by
  have h1 := h.lo
  have h2 := h.apart
  have h3 := h.lt
  exact ⟨h.ink.step hb hu (fun k e => e.imp id (fun e => by omega)), h.one.upd hu (fun k k1 k2 ⟨cs, t', hc, ht'⟩ e => e.elim (fun e => h.ink.book.not hc ht' e) (fun e => by omega)), hT, h.lo, h.apart⟩
end

set_option maxHeartbeats 1600000 in
set_option maxRecDepth 20000 in
theorem TreeRoot_walk (A : Option Addr) (c : Nat) (l : List (SlC × Bytes)) (As : Option Addr) (cs : Nat) (la : List (Int × SlC × Bytes)) (w : World) (hl : LeavesAt w A l) (hlm : l.length ≤ 140737488351232) (hla : SetsAt w As la) (hlam : la.length ≤ 140737488351232) :
    Calls Try.prog 8 #[.slice A l.length c, .slice As la.length cs] w fun e w' => e = .returned (.bool true) ∧ Kept w w' := by
  have hnot : ∀ (x : Bool) (w : World), (Op.unary .not (.bool x)).run Try.prog w = .ok (.bool (!x)) w := fun _ _ => rfl
  have HX := Lib.hid (And.intro hl (And.intro hlm (And.intro hla hlam)))
  clear hl hlm hla hlam
  go_enter Try.func8, Try.ntmps8
  go_wp2_with fail
  refine (law_works _).mono ?_
  rintro e w1 ⟨rfl, hu⟩
  have HU := Lib.hid hu
  clear hu
  go_wp2_with fail
  refine (law_cut c (HX.out.1.kept HU.out) HX.out.2.1).mono ?_
  rintro e w2 ⟨v, rfl, hv, hu2⟩
  obtain ⟨av, ca, rfl⟩ : ∃ a c, v = .slice a (cutL l 40).length c := by
    obtain ⟨a, c, h⟩ := OwnRows.form hv
    exact ⟨a, c, by rw [h, List.length_map]⟩
  have hlv : LeavesAt w2 av (cutL l 40) := OwnS.leaves hv fun p hp => by
    obtain ⟨h1, h2⟩ := cutL_leaf HX.out.1 40 p hp
    exact ⟨(h1.kept HU.out).kept hu2, by omega⟩
  have hvs : ∀ p ∈ cutL l 40, p.2.length < 65536 := fun p hp => by have := (cutL_leaf HX.out.1 40 p hp).2; omega
  have hlen := cutL_length l 40
  generalize cutL l 40 = ls at *
  obtain ⟨n, hn⟩ : ∃ n, n = ls.length := ⟨_, rfl⟩
  rw [← hn]
  have HV := Lib.hid (And.intro hn.symm (And.intro trivial hlv))
  have HVS := Lib.hid hvs
  have hn40 : Hid (n ≤ 40) := by show _ ≤ _; rw [hn, hlen]; omega
  replace HU := Lib.hid (HU.out.then hu2 (fun _ _ h => h))
  have HA := Lib.hid (HX.out.2.2.1.kept HU.out)
  clear hv hlv hvs hlen hn hu2 HX
  by_cases h0 : n = 0
  · subst h0
    go_wp2
    go_ret
    exact ⟨rfl, HU.out⟩
  · have hn0 : ¬ ((n : Int) = 0) := by omega
    have HN := Lib.hid (show 1 ≤ n ∧ n ≤ 40 from ⟨by omega, hn40.out⟩)
    clear h0 hn40
    go_wp2_with fail
    refine (law_book _).mono ?_
    rintro e w3 ⟨b, r, q, rfl, hI⟩
    have HI := Lib.hid hI
    clear hI
    go_wp2_with fail
    refine (tree_New HI.out.book n HN.out.1 (by have := HN.out.2; omega)).mono ?_
    rintro e w4 ⟨t1, rfl, -, hT1, hb, hu⟩
    obtain ⟨D0, hD0⟩ : ∃ D, D = List.replicate n (leafM shaM []) := ⟨_, rfl⟩
    rw [← hD0] at hT1
    have hD0n : D0.length = n := by rw [hD0, List.length_replicate]
    have H1 := Lib.hid (And.intro hT1 HI.out.upd.size)
    replace HI := Lib.hid (HI.out.to hb hu)
    clear hb hu hT1
    go_wp2_with fail
    refine (tree_New HI.out.book n HN.out.1 (by have := HN.out.2; omega)).mono ?_
    rintro e w5 ⟨t2, rfl, -, hT2, hb, hu⟩
    rw [← hD0] at hT2
    have hS : Two w2 w5 b r q w3.heap.size w4.heap.size t1 w4.heap.size w5.heap.size t2 _ D0 D0 := ⟨HI.out.to hb hu, H1.out.1.book HI.out.book hu, hT2, H1.out.2, Nat.le_refl _⟩
    generalize w3.heap.size = lo1 at *
    generalize w5.heap.size = hi2 at *
    generalize hlo2 : w4.heap.size = lo2 at hS
    generalize hLL : notesM _ _ = L at hS
    have HS := Lib.hid (And.intro hD0n (And.intro hD0n hS))
    clear hS hT2 hb hu hD0 hD0n H1 HI hLL hlo2
    go_wp2_with fail
    go_loopw [11] (fun u1 wr => ∃ k : Nat, k ≤ 20 ∧ k ≤ la.length ∧ u1 = .int .i64 k ∧ ∃ L D E, D.length = n ∧ E.length = n ∧ Two w2 wr b r q lo1 lo2 t1 lo2 hi2 t2 L D E) (fun u1 _ => 2000 - (intOf u1).toNat)
    case atStart => exact ⟨0, by omega, by omega, rfl, L, D0, D0, HS.out.1, HS.out.2.1, HS.out.2.2⟩
    case round =>
      clear HS
      clear L D0
      obtain ⟨k, hk, hkl, rfl, L, D, E, hDn, hEn, hS⟩ := hrel
      have HS := Lib.hid (And.intro hDn (And.intro hEn hS))
      clear hDn hEn hS
      by_cases hgo : k < la.length ∧ k < 20
      · have hk1 : (k : Int) < (la.length : Int) := by omega
        have hk2 : (k : Int) < 20 := by omega
        obtain ⟨g, off, rfl, hc0, hc1, hx, hwf, -⟩ := HA.out k hgo.1
        generalize la[k] = p at *
        obtain ⟨f, x, R⟩ := p
        simp only at hc0 hc1 hx hwf
        obtain ⟨A2, c2, rfl, hc2, hR⟩ := hx.form
        rw [SlC.v_eq] at hc1
        simp only at hc1 hR
        have hKw : Kept w2 wr := HS.out.2.2.ink.upd
        have f1 : ∀ W, Kept w2 W → W.cell? ⟨g, off + k * 2, none⟩ = some (.int .i64 f) := fun W hW => hW.cell hc0 id
        have f2 : ∀ W, Kept w2 W → W.cell? ⟨g, off + k * 2 + 1, none⟩ = some (.slice A2 R.length c2) := fun W hW => hW.cell hc1 id
        have HK := Lib.hid (And.intro hKw (And.intro hgo (And.intro hwf hR)))
        clear hKw hgo hwf hR hc0 hc1 hx hc2 hk hkl
        go_wp2_with fail
        refine wp_region_ord [(0, true), (1, true), (2, true), (3, true), (4, true), (5, true), (6, true), (7, true), (9, true), (10, true), (11, true), (12, true), (13, true), (8, false), (14, false)] (by kernel_rfl) (by kernel_rfl) (Kept w2) HK.out.1.drew ?_
        simp only [ordOps, List.getD_cons_zero, List.getD_cons_succ]
        iterate 13 (refine wpOrd_held (fun K hK => ?_); go_simp; first | (apply Exists.intro; refine ⟨fun W hW => ?_, hK _ ?_⟩; (go_simp; first | done | exact rfl); clear hK K) | (refine hK _ ?_; clear hK K))
        refine wpOrd_step (fun K hK => ?_) HK.out.1.drew
        go_simp
        refine (ref_Bring f n HK.out.2.2.1 (by have := HN.out.1; omega) (by have := HN.out.2; omega) _).mono ?_
        rintro e W ⟨rfl, rfl⟩
        refine hK _ _ HK.out.1.drew ?_
        clear hK K
        obtain ⟨i, hi⟩ : ∃ i : Nat, f % (n : Int) = i := ⟨(f % (n : Int)).toNat, by have := (mod_range f n (by have := HN.out.1; omega)).1; omega⟩
        have hin : i < n := by have := (mod_range f n (by have := HN.out.1; omega)).2; omega
        rw [hi]
        have HIN := Lib.hid hin
        clear hi hin
        have hS := HS.out.2.2.kept ((Upd.refl (fun _ => False) wr).drew)
        have hRk : Byt wr.drew A2 R := HK.out.2.2.2.kept HK.out.1.drew
        rcases Nat.lt_or_ge R.length 65536 with hRl | hRl
        · have HG := tree_Set hS.ink.book hS.one c2 hRk hRl i (by rw [HS.out.1]; exact HIN.out)
          refine wpOrd_step (fun K hK => ?_) HK.out.1.drew
          go_simp
          refine HG.mono ?_
          rintro e wa ⟨rfl, hT, hb, hu⟩
          have hSa := hS.set1 hT hb hu
          refine hK _ _ hSa.ink.upd ?_
          clear hK K
          refine wpOrd_nil ?_
          have HF := Lib.hid (And.intro (show (D.set i (leafM shaM R)).length = n by rw [List.length_set, HS.out.1]) hSa)
          have HKB := Lib.hid (And.intro HK.out.2.1 HS.out.2.1)
          clear HG hRk hS hT hb hu f1 f2 HK HS hSa hRl
          go_wp2
          go_roundw
          case rel => exact ⟨k + 1, by have := HKB.out.1; omega, by have := HKB.out.1; omega, by show _ = _; go_num, _, _, _, HF.out.1, HKB.out.2, HF.out.2⟩
          case measure => have := HKB.out; simp [intOf]; omega
        · have HG := tree_Set_long hS.one (A := A2) c2 hRl i (by rw [HS.out.1]; exact HIN.out)
          refine wpOrd_step (fun K hK => ?_) HK.out.1.drew
          go_simp
          refine HG.mono ?_
          rintro e wa ⟨rfl, hu⟩
          have hSa := hS.kept hu
          refine hK _ _ hSa.ink.upd ?_
          clear hK K
          refine wpOrd_nil ?_
          have HF := Lib.hid hSa
          have HKB := Lib.hid (And.intro HK.out.2.1 (And.intro HS.out.1 HS.out.2.1))
          clear HG hRk hS hu f1 f2 HK HS hSa hRl
          go_wp2
          go_roundw
          case rel => exact ⟨k + 1, by have := HKB.out.1; omega, by have := HKB.out.1; omega, by show _ = _; go_num, _, _, _, HKB.out.2.1, HKB.out.2.2, HF.out⟩
          case measure => have := HKB.out; simp [intOf]; omega
      · by_cases hkk : k < la.length
        · have hk1 : (k : Int) < (la.length : Int) := by omega
          have hk2 : ¬ ((k : Int) < 20) := by omega
          clear hk hkl hgo hkk
          go_wp2_with fail
          clear hk1
          try clear hk2
          go_loopw [12] (fun u1 wr => ∃ k : Nat, k ≤ n ∧ u1 = .int .i64 k ∧ ∃ L D E, D.length = n ∧ E.length = n ∧ (∀ j, j < k → D[j]? = (leafD ls)[j]?) ∧ (∀ j, n ≤ j + k → E[j]? = (leafD ls)[j]?) ∧ Two w2 wr b r q lo1 lo2 t1 lo2 hi2 t2 L D E) (fun u1 _ => 2000 - (intOf u1).toNat)
          case atStart => exact ⟨0, Nat.zero_le _, rfl, L, D, E, HS.out.1, HS.out.2.1, fun j hj => by omega, fun j hj => by rw [List.getElem?_eq_none (by rw [HS.out.2.1]; omega), List.getElem?_eq_none (by rw [leafD_length, HV.out.1]; omega)], HS.out.2.2⟩
          case round =>
            clear HS
            clear L D E
            obtain ⟨k, hk, rfl, L, D, E, hDn, hEn, hDk, hEk, hS⟩ := hrel
            have HS := Lib.hid (And.intro hDn (And.intro hEn (And.intro hDk (And.intro hEk hS))))
            clear hDn hEn hDk hEk hS
            rcases Nat.lt_or_ge k n with hlt | hge
            · skip
              have hk1 : (k : Int) < (n : Int) := by omega
              have hn40 := HN.out.2
              have hk40 : (k : Int) ≤ 40 := by omega
              obtain ⟨j, hj⟩ : ∃ j, j = n - 1 - k := ⟨_, rfl⟩
              obtain ⟨m1, hm1⟩ : ∃ m1, m1 = n - 1 := ⟨_, rfl⟩
              have hw1 : IntKind.i64.wrap ((n : Int) - 1) = (m1 : Int) := by rw [IntKind.wrap_i64]; omega
              have hw2 : IntKind.i64.wrap ((m1 : Int) - (k : Int)) = (j : Int) := by rw [IntKind.wrap_i64]; omega
              have hjn : j < n := by omega
              have hj1 : (j : Int) < (n : Int) := by omega
              have hkl : k < ls.length := by rw [HV.out.1]; exact hlt
              have hjl : j < ls.length := by rw [HV.out.1]; exact hjn
              obtain ⟨g1, o1, A1, c1, hA1, hc1, hR1, -⟩ := HV.out.2.2.get hkl
              obtain ⟨g2, o2, A2, c2, hA2, hc2, hR2, -⟩ := HV.out.2.2.get hjl
              have hR1l : ls[k].2.length < 65536 := HVS.out _ (List.getElem_mem _)
              have hR2l : ls[j].2.length < 65536 := HVS.out _ (List.getElem_mem _)
              have hD1 : (leafD ls)[k]? = some (leafM shaM ls[k].2) := by rw [leafD, List.getElem?_map, List.getElem?_eq_getElem hkl]; rfl
              have hD2 : (leafD ls)[j]? = some (leafM shaM ls[j].2) := by rw [leafD, List.getElem?_map, List.getElem?_eq_getElem hjl]; rfl
              generalize ls[k].2 = R1 at *
              generalize ls[j].2 = R2 at *
              subst hA1
              simp only [Option.some.injEq, Addr.mk.injEq, and_true] at hA2
              obtain ⟨rfl, rfl⟩ := hA2
              have hS := HS.out.2.2.2.2
              have hc1' := hS.ink.upd.cell hc1 id
              have HR := Lib.hid (And.intro hR1 (And.intro hR1l (And.intro hD1 (And.intro hR2 (And.intro hR2l (And.intro hD2 (And.intro hj (And.intro hjn (And.intro hlt hc2)))))))))
              clear hR1 hR1l hD1 hR2 hR2l hD2 hj hjn hlt hk hm1 hc1 hc2 hS hkl hjl hn40
              go_wp2_with fail
              have hS := HS.out.2.2.2.2
              have HG := tree_Set hS.ink.book hS.one c1 (HR.out.1.kept hS.ink.upd) HR.out.2.1 k (by rw [HS.out.1]; exact HR.out.2.2.2.2.2.2.2.2.1)
              refine HG.mono ?_
              clear HG
              rintro e wa ⟨rfl, hT, hb, hu⟩
              have hSa := hS.set1 hT hb hu
              have hc2' := hSa.ink.upd.cell HR.out.2.2.2.2.2.2.2.2.2 id
              have HSa := Lib.hid hSa
              clear hS hT hb hu hSa hc1' hw1 hw2
              go_wp2_with fail
              have hS := HSa.out
              have HG := tree_Set hS.ink.book hS.two c2 (HR.out.2.2.2.1.kept hS.ink.upd) HR.out.2.2.2.2.1 j (by rw [HS.out.2.1]; exact HR.out.2.2.2.2.2.2.2.1)
              refine HG.mono ?_
              clear HG
              rintro e wb ⟨rfl, hT, hb, hu⟩
              have hSb := hS.set2 hT hb hu
              have HF := Lib.hid hSb
              clear hS hT hb hu hSb hc2' HSa
              have hDk : ∀ i, i < k + 1 → (D.set k (leafM shaM R1))[i]? = (leafD ls)[i]? := fun i hi => by
                by_cases hik : i = k
                · subst hik
                  rw [List.getElem?_set_self (by rw [HS.out.1]; exact HR.out.2.2.2.2.2.2.2.2.1), HR.out.2.2.1]
                · rw [List.getElem?_set_ne (fun e => hik e.symm)]
                  exact HS.out.2.2.1 i (by omega)
              have hEk : ∀ i, n ≤ i + (k + 1) → (E.set j (leafM shaM R2))[i]? = (leafD ls)[i]? := fun i hi => by
                have hjj := HR.out.2.2.2.2.2.2.1
                have hkn := HR.out.2.2.2.2.2.2.2.2.1
                by_cases hij : i = j
                · subst hij
                  rw [List.getElem?_set_self (by rw [HS.out.2.1]; exact HR.out.2.2.2.2.2.2.2.1), HR.out.2.2.2.2.2.1]
                · rw [List.getElem?_set_ne (fun e => hij e.symm)]
                  exact HS.out.2.2.2.1 i (by omega)
              have HDE := Lib.hid (And.intro (show (D.set k (leafM shaM R1)).length = n by rw [List.length_set, HS.out.1]) (And.intro (show (E.set j (leafM shaM R2)).length = n by rw [List.length_set, HS.out.2.1]) (And.intro hDk hEk)))
              have HKN := Lib.hid HR.out.2.2.2.2.2.2.2.2.1
              clear hDk hEk HR HS
              go_wp2
              go_roundw
              case rel => exact ⟨k + 1, by have := HKN.out; omega, by show _ = _; go_num, _, _, _, HDE.out.1, HDE.out.2.1, HDE.out.2.2.1, HDE.out.2.2.2, HF.out⟩
              case measure => have := HKN.out; have := HN.out.2; simp [intOf]; omega
            · obtain rfl : k = n := by omega
              have hk1 : ¬ ((k : Int) < (k : Int)) := by omega
              have hDl : D = leafD ls := List.ext_getElem? fun j => by
                rcases Nat.lt_or_ge j k with h1 | h1
                · exact HS.out.2.2.1 j h1
                · rw [List.getElem?_eq_none (by rw [HS.out.1]; exact h1), List.getElem?_eq_none (by rw [leafD_length, HV.out.1]; exact h1)]
              have hEl : E = leafD ls := List.ext_getElem? fun j => HS.out.2.2.2.1 j (by omega)
              have hTwo := HS.out.2.2.2.2
              rw [hDl, hEl] at hTwo
              have HT := Lib.hid hTwo
              clear hTwo HS hDl hEl hk hge
              clear D E
              go_wp2_with fail
              have HG := law_root HT.out.one
              refine HG.mono ?_
              clear HG
              rintro e we ⟨rfl, hue⟩
              obtain ⟨d, hd⟩ : ∃ d, d = rootM shaM (leafD ls) := ⟨_, rfl⟩
              have HD := Lib.hid hd
              rw [← hd]
              clear hd
              have hd7 : Blk (we.alloc (.cells (dA d) 40)) we.heap.size 40 (encB (d).1) := Blk.new we _ _
              have hk7 : Kept we (we.alloc (.cells (dA d) 40)) := (Upd.refl _ we).alloc _
              have HT7 := Lib.hid ((HT.out.kept hue).kept hk7)
              have H7 := Lib.hid (And.intro hd7 hk7.size)
              clear hd7 hk7 hue HT
              go_wp2_with fail
              generalize we.heap.size = g7 at *
              generalize we.alloc (.cells (dA d) 40) = w7 at *
              have HG := law_root HT7.out.two
              rw [← HD.out] at HG
              refine HG.mono ?_
              clear HG
              rintro e wf ⟨rfl, huf⟩
              have hd8 : Blk (wf.alloc (.cells (dA d) 40)) wf.heap.size 40 (encB (d).1) := Blk.new wf _ _
              have hk8 : Kept wf (wf.alloc (.cells (dA d) 40)) := (Upd.refl _ wf).alloc _
              have HT8 := Lib.hid ((HT7.out.kept huf).kept hk8)
              have H8 := Lib.hid (And.intro hd8 ((H7.out.1.kept huf).kept hk8))
              clear hd8 hk8 huf HT7 H7
              go_wp2_with fail
              generalize wf.heap.size = g8 at *
              generalize wf.alloc (.cells (dA d) 40) = w8 at *
              have HG := tree_Of (l := ls) HT8.out.ink.book ca (fun W hW => HV.out.2.2.kept ((HT8.out.ink.upd).then hW (fun k hk e => by have := HT8.out.ink.far k e; omega))) (by rw [HV.out.1]; exact HN.out.1) (by rw [HV.out.1]; have := HN.out.2; omega) HVS.out
              rw [← HD.out] at HG
              rw [HV.out.1] at HG
              refine HG.mono ?_
              clear HG
              rintro e wg ⟨rfl, hbg, hug⟩
              have hIg := HT8.out.ink.to hbg hug
              have hd9 : Blk (wg.alloc (.cells (dA d) 40)) wg.heap.size 40 (encB (d).1) := Blk.new wg _ _
              have hk9 : Kept wg (wg.alloc (.cells (dA d) 40)) := (Upd.refl _ wg).alloc _
              have hb7 := (H8.out.2.upd hug (HT8.out.ink.book.not H8.out.2 (by decide))).kept hk9
              have hb8 := (H8.out.1.upd hug (HT8.out.ink.book.not H8.out.1 (by decide))).kept hk9
              have HF := Lib.hid (show Kept w _ from (HU.out.then hIg.upd (fun _ _ h => h)).then hk9 (fun _ _ h => h))
              obtain ⟨p1, p2⟩ := dig_at hb7
              obtain ⟨p3, p4⟩ := dig_at hb8
              obtain ⟨p5, p6⟩ := dig_at hd9
              clear hbg hug hIg hb7 hb8 hd9 hk9 HT8 H8
              generalize hWg : wg.alloc (.cells (dA d) 40) = w9 at *
              go_wp2
              go_ret
              exact ⟨rfl, HF.out⟩
        · have hk1 : ¬ ((k : Int) < (la.length : Int)) := by omega
          clear hk hkl hgo hkk
          go_wp2_with fail
          clear hk1
          try clear hk2
          go_loopw [12] (fun u1 wr => ∃ k : Nat, k ≤ n ∧ u1 = .int .i64 k ∧ ∃ L D E, D.length = n ∧ E.length = n ∧ (∀ j, j < k → D[j]? = (leafD ls)[j]?) ∧ (∀ j, n ≤ j + k → E[j]? = (leafD ls)[j]?) ∧ Two w2 wr b r q lo1 lo2 t1 lo2 hi2 t2 L D E) (fun u1 _ => 2000 - (intOf u1).toNat)
          case atStart => exact ⟨0, Nat.zero_le _, rfl, L, D, E, HS.out.1, HS.out.2.1, fun j hj => by omega, fun j hj => by rw [List.getElem?_eq_none (by rw [HS.out.2.1]; omega), List.getElem?_eq_none (by rw [leafD_length, HV.out.1]; omega)], HS.out.2.2⟩
          case round =>
            clear HS
            clear L D E
            obtain ⟨k, hk, rfl, L, D, E, hDn, hEn, hDk, hEk, hS⟩ := hrel
            have HS := Lib.hid (And.intro hDn (And.intro hEn (And.intro hDk (And.intro hEk hS))))
            clear hDn hEn hDk hEk hS
            rcases Nat.lt_or_ge k n with hlt | hge
            · skip
              have hk1 : (k : Int) < (n : Int) := by omega
              have hn40 := HN.out.2
              have hk40 : (k : Int) ≤ 40 := by omega
              obtain ⟨j, hj⟩ : ∃ j, j = n - 1 - k := ⟨_, rfl⟩
              obtain ⟨m1, hm1⟩ : ∃ m1, m1 = n - 1 := ⟨_, rfl⟩
              have hw1 : IntKind.i64.wrap ((n : Int) - 1) = (m1 : Int) := by rw [IntKind.wrap_i64]; omega
              have hw2 : IntKind.i64.wrap ((m1 : Int) - (k : Int)) = (j : Int) := by rw [IntKind.wrap_i64]; omega
              have hjn : j < n := by omega
              have hj1 : (j : Int) < (n : Int) := by omega
              have hkl : k < ls.length := by rw [HV.out.1]; exact hlt
              have hjl : j < ls.length := by rw [HV.out.1]; exact hjn
              obtain ⟨g1, o1, A1, c1, hA1, hc1, hR1, -⟩ := HV.out.2.2.get hkl
              obtain ⟨g2, o2, A2, c2, hA2, hc2, hR2, -⟩ := HV.out.2.2.get hjl
              have hR1l : ls[k].2.length < 65536 := HVS.out _ (List.getElem_mem _)
              have hR2l : ls[j].2.length < 65536 := HVS.out _ (List.getElem_mem _)
              have hD1 : (leafD ls)[k]? = some (leafM shaM ls[k].2) := by rw [leafD, List.getElem?_map, List.getElem?_eq_getElem hkl]; rfl
              have hD2 : (leafD ls)[j]? = some (leafM shaM ls[j].2) := by rw [leafD, List.getElem?_map, List.getElem?_eq_getElem hjl]; rfl
              generalize ls[k].2 = R1 at *
              generalize ls[j].2 = R2 at *
              subst hA1
              simp only [Option.some.injEq, Addr.mk.injEq, and_true] at hA2
              obtain ⟨rfl, rfl⟩ := hA2
              have hS := HS.out.2.2.2.2
              have hc1' := hS.ink.upd.cell hc1 id
              have HR := Lib.hid (And.intro hR1 (And.intro hR1l (And.intro hD1 (And.intro hR2 (And.intro hR2l (And.intro hD2 (And.intro hj (And.intro hjn (And.intro hlt hc2)))))))))
              clear hR1 hR1l hD1 hR2 hR2l hD2 hj hjn hlt hk hm1 hc1 hc2 hS hkl hjl hn40
              go_wp2_with fail
              have hS := HS.out.2.2.2.2
              have HG := tree_Set hS.ink.book hS.one c1 (HR.out.1.kept hS.ink.upd) HR.out.2.1 k (by rw [HS.out.1]; exact HR.out.2.2.2.2.2.2.2.2.1)
              refine HG.mono ?_
              clear HG
              rintro e wa ⟨rfl, hT, hb, hu⟩
              have hSa := hS.set1 hT hb hu
              have hc2' := hSa.ink.upd.cell HR.out.2.2.2.2.2.2.2.2.2 id
              have HSa := Lib.hid hSa
              clear hS hT hb hu hSa hc1' hw1 hw2
              go_wp2_with fail
              have hS := HSa.out
              have HG := tree_Set hS.ink.book hS.two c2 (HR.out.2.2.2.1.kept hS.ink.upd) HR.out.2.2.2.2.1 j (by rw [HS.out.2.1]; exact HR.out.2.2.2.2.2.2.2.1)
              refine HG.mono ?_
              clear HG
              rintro e wb ⟨rfl, hT, hb, hu⟩
              have hSb := hS.set2 hT hb hu
              have HF := Lib.hid hSb
              clear hS hT hb hu hSb hc2' HSa
              have hDk : ∀ i, i < k + 1 → (D.set k (leafM shaM R1))[i]? = (leafD ls)[i]? := fun i hi => by
                by_cases hik : i = k
                · subst hik
                  rw [List.getElem?_set_self (by rw [HS.out.1]; exact HR.out.2.2.2.2.2.2.2.2.1), HR.out.2.2.1]
                · rw [List.getElem?_set_ne (fun e => hik e.symm)]
                  exact HS.out.2.2.1 i (by omega)
              have hEk : ∀ i, n ≤ i + (k + 1) → (E.set j (leafM shaM R2))[i]? = (leafD ls)[i]? := fun i hi => by
                have hjj := HR.out.2.2.2.2.2.2.1
                have hkn := HR.out.2.2.2.2.2.2.2.2.1
                by_cases hij : i = j
                · subst hij
                  rw [List.getElem?_set_self (by rw [HS.out.2.1]; exact HR.out.2.2.2.2.2.2.2.1), HR.out.2.2.2.2.2.1]
                · rw [List.getElem?_set_ne (fun e => hij e.symm)]
                  exact HS.out.2.2.2.1 i (by omega)
              have HDE := Lib.hid (And.intro (show (D.set k (leafM shaM R1)).length = n by rw [List.length_set, HS.out.1]) (And.intro (show (E.set j (leafM shaM R2)).length = n by rw [List.length_set, HS.out.2.1]) (And.intro hDk hEk)))
              have HKN := Lib.hid HR.out.2.2.2.2.2.2.2.2.1
              clear hDk hEk HR HS
              go_wp2
              go_roundw
              case rel => exact ⟨k + 1, by have := HKN.out; omega, by show _ = _; go_num, _, _, _, HDE.out.1, HDE.out.2.1, HDE.out.2.2.1, HDE.out.2.2.2, HF.out⟩
              case measure => have := HKN.out; have := HN.out.2; simp [intOf]; omega
            · obtain rfl : k = n := by omega
              have hk1 : ¬ ((k : Int) < (k : Int)) := by omega
              have hDl : D = leafD ls := List.ext_getElem? fun j => by
                rcases Nat.lt_or_ge j k with h1 | h1
                · exact HS.out.2.2.1 j h1
                · rw [List.getElem?_eq_none (by rw [HS.out.1]; exact h1), List.getElem?_eq_none (by rw [leafD_length, HV.out.1]; exact h1)]
              have hEl : E = leafD ls := List.ext_getElem? fun j => HS.out.2.2.2.1 j (by omega)
              have hTwo := HS.out.2.2.2.2
              rw [hDl, hEl] at hTwo
              have HT := Lib.hid hTwo
              clear hTwo HS hDl hEl hk hge
              clear D E
              go_wp2_with fail
              have HG := law_root HT.out.one
              refine HG.mono ?_
              clear HG
              rintro e we ⟨rfl, hue⟩
              obtain ⟨d, hd⟩ : ∃ d, d = rootM shaM (leafD ls) := ⟨_, rfl⟩
              have HD := Lib.hid hd
              rw [← hd]
              clear hd
              have hd7 : Blk (we.alloc (.cells (dA d) 40)) we.heap.size 40 (encB (d).1) := Blk.new we _ _
              have hk7 : Kept we (we.alloc (.cells (dA d) 40)) := (Upd.refl _ we).alloc _
              have HT7 := Lib.hid ((HT.out.kept hue).kept hk7)
              have H7 := Lib.hid (And.intro hd7 hk7.size)
              clear hd7 hk7 hue HT
              go_wp2_with fail
              generalize we.heap.size = g7 at *
              generalize we.alloc (.cells (dA d) 40) = w7 at *
              have HG := law_root HT7.out.two
              rw [← HD.out] at HG
              refine HG.mono ?_
              clear HG
              rintro e wf ⟨rfl, huf⟩
              have hd8 : Blk (wf.alloc (.cells (dA d) 40)) wf.heap.size 40 (encB (d).1) := Blk.new wf _ _
              have hk8 : Kept wf (wf.alloc (.cells (dA d) 40)) := (Upd.refl _ wf).alloc _
              have HT8 := Lib.hid ((HT7.out.kept huf).kept hk8)
              have H8 := Lib.hid (And.intro hd8 ((H7.out.1.kept huf).kept hk8))
              clear hd8 hk8 huf HT7 H7
              go_wp2_with fail
              generalize wf.heap.size = g8 at *
              generalize wf.alloc (.cells (dA d) 40) = w8 at *
              have HG := tree_Of (l := ls) HT8.out.ink.book ca (fun W hW => HV.out.2.2.kept ((HT8.out.ink.upd).then hW (fun k hk e => by have := HT8.out.ink.far k e; omega))) (by rw [HV.out.1]; exact HN.out.1) (by rw [HV.out.1]; have := HN.out.2; omega) HVS.out
              rw [← HD.out] at HG
              rw [HV.out.1] at HG
              refine HG.mono ?_
              clear HG
              rintro e wg ⟨rfl, hbg, hug⟩
              have hIg := HT8.out.ink.to hbg hug
              have hd9 : Blk (wg.alloc (.cells (dA d) 40)) wg.heap.size 40 (encB (d).1) := Blk.new wg _ _
              have hk9 : Kept wg (wg.alloc (.cells (dA d) 40)) := (Upd.refl _ wg).alloc _
              have hb7 := (H8.out.2.upd hug (HT8.out.ink.book.not H8.out.2 (by decide))).kept hk9
              have hb8 := (H8.out.1.upd hug (HT8.out.ink.book.not H8.out.1 (by decide))).kept hk9
              have HF := Lib.hid (show Kept w _ from (HU.out.then hIg.upd (fun _ _ h => h)).then hk9 (fun _ _ h => h))
              obtain ⟨p1, p2⟩ := dig_at hb7
              obtain ⟨p3, p4⟩ := dig_at hb8
              obtain ⟨p5, p6⟩ := dig_at hd9
              clear hbg hug hIg hb7 hb8 hd9 hk9 HT8 H8
              generalize hWg : wg.alloc (.cells (dA d) 40) = w9 at *
              go_wp2
              go_ret
              exact ⟨rfl, HF.out⟩
set_option maxRecDepth 100000 in
theorem TreeRoot_lifted (os : Os) (started : os.Started) (H : Type) (enc : TypeId × Value → H) :
    ReturnsInHanded {} Try.checked os 8 .any (Rows.treeRootSpec.pre6 enc Try.prog Try.f8 Rows.treeRootRow.domain false) (Rows.treeRootSpec.post enc Try.prog Try.f8 false true false false) := by
  refine law_lifted os started Try.func8 (by kernel_rfl) rfl rfl (by kernel_rfl) ?_
    (ChangeSpec.witness6 (enc := enc) (C := Try.checked) false ⟨#[], #[.slice none 0 0, .slice none 0 0], []⟩ 8 (by kernel_rfl) (by kernel_rfl) (by kernel_rfl) (by kernel_rfl)) ?_
  · intro ds h
    rw [Try.params8] at h
    match ds, h with
    | [d0, d1], _ => rfl
  · intro W base args ds ps hval hA hsz
    rw [Try.params8] at hA hval hsz
    obtain ⟨v0, vs0, d0, ds0, p0, q0, hargs, rfl, rfl, h0, r_0⟩ := trodAll_cons hA
    obtain ⟨v1, vs1, d1, ds1, p1, q1, rfl, rfl, rfl, h1, r_1⟩ := trodAll_cons r_0
    obtain ⟨rfl, rfl, rfl⟩ := trodAll_nil r_1
    obtain rfl : args = #[v0, v1] := by cases args; simp_all
    obtain ⟨A0, n0, c0, rfl⟩ := okWide_slice Try.underlying61 (hval 0 61 v0 rfl rfl)
    have r0 := ReadsAs.of_trod hsz (j := 0) rfl rfl h0
    obtain ⟨A1, n1, c1, rfl⟩ := okWide_slice Try.underlying22 (hval 1 22 v1 rfl rfl)
    have r1 := ReadsAs.of_trod hsz (j := 1) rfl rfl h1
    obtain ⟨A, c, l, hcs, hl, _, hmx⟩ := open_leaves r0
    simp only [Value.cells, List.cons.injEq, Value.slice.injEq, and_true] at hcs
    obtain ⟨rfl, rfl, rfl⟩ := hcs
    obtain ⟨A2, c2, l2, hcs2, hl2, _, hmx2⟩ := open_sets r1
    simp only [Value.cells, List.cons.injEq, Value.slice.injEq, and_true] at hcs2
    obtain ⟨rfl, rfl, rfl⟩ := hcs2
    exact TreeRoot_walk _ _ l _ _ l2 W hl hmx hl2 hmx2

theorem TreeRoot_holds : Rows.TreeRootSaid :=
  OpenClaim.holds_of_wide 8 Try.f8 rfl rfl rfl rfl rfl rfl rfl ⟨rfl, rfl, rfl, rfl, rfl⟩ rfl rfl rfl rfl rfl (by kernel_rfl) Try.func8 (by kernel_rfl)
    (of_decide_eq_true (by kernel_rfl)) (by unfold Func.isWrapper; first | (rw [if_pos (by decide +kernel)]; kernel_rfl) | (rw [if_neg (by decide +kernel)]; exact ⟨rfl, rfl⟩))
    (fun os started H enc _ => TreeRoot_lifted os started H enc)
end Go.Proofs.Ytjimamgghkgdeaa
