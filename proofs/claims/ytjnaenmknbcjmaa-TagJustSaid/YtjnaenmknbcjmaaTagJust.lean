/- What Check tells was tagged, by that writer: the statement TagJust holds. For every input. -/
import Derived.Test.YtjnaenmknbcjmaaTagG
namespace Go.Proofs.Ytjnaenmknbcjmaa
open Go.ChangeShapes Go.WideShapes Go.ChangeAt Go.RowKit

/-- a deed's cells -/
def deedA (x : DeedV) : Array Value := #[.int .i64 x.k, .int .i64 x.f, .int .i64 x.t, .slice x.A x.R.length x.c, .int .u8 x.d, .int .i64 x.af, .int .i64 x.at_]
@[go_sem] theorem deedA_size (x : DeedV) : (deedA x).size = 7 := by simp [deedA]
@[go_sem] theorem deedA_one (x : DeedV) : oneB (deedA x) = true := by unfold deedA oneB; exact (by rfl : _ = _)
def deedZ : DeedV := ⟨0, 0, 0, none, [], 0, 0, 0, 0⟩
@[go_sem ↓] theorem exec_alloc_deed (ρ : Operand → Value) (dst : Option Tmp) (ty : TypeId) (pos : String) (after : Array Edge) (guard : Option (Nat × Bool)) :
    execOp ρ ⟨dst, .alloc 32, ty, pos, after, guard⟩ = allocRow 32 := rfl
@[go_sem] theorem run_alloc_deed (W : World) : (allocRow 32).run Try.prog W = .ok (.value (.pointer (some ⟨W.heap.size, 0, none⟩))) (W.alloc (.cells (deedA deedZ) 32)) :=
  run_allocRow _ (.agg (deedA deedZ)) (by kernel_rfl) W
section
variable (x : DeedV)
@[go_sem] theorem deedA_0 (h : 0 < (deedA x).size) : (deedA x)[0]'h = .int .i64 x.k := by unfold deedA; rfl
@[go_sem] theorem deedA_1 (h : 1 < (deedA x).size) : (deedA x)[1]'h = .int .i64 x.f := by unfold deedA; rfl
@[go_sem] theorem deedA_2 (h : 2 < (deedA x).size) : (deedA x)[2]'h = .int .i64 x.t := by unfold deedA; rfl
@[go_sem] theorem deedA_3 (h : 3 < (deedA x).size) : (deedA x)[3]'h = .slice x.A x.R.length x.c := by unfold deedA; rfl
@[go_sem] theorem deedA_4 (h : 4 < (deedA x).size) : (deedA x)[4]'h = .int .u8 x.d := by unfold deedA; rfl
end
theorem DeedAt.cells {W : World} {b off : Nat} {x : DeedV} (h : DeedAt W b off x) : ∀ j v, (deedA x)[j]? = some v → W.cell? ((⟨b, off, none⟩ : Addr).add j) = some v := by
  intro j v hv
  have hj : j < 7 := (Array.getElem?_eq_some_iff.1 hv).1
  rw [add_none]
  unfold deedA at hv
  match j, hj with
  | 0, _ => simp at hv; subst hv; exact h.k
  | 1, _ => simp at hv; subst hv; exact h.f
  | 2, _ => simp at hv; subst hv; exact h.t
  | 3, _ => simp at hv; subst hv; exact h.r
  | 4, _ => simp at hv; subst hv; exact h.d
  | 5, _ => simp at hv; subst hv; exact h.af
  | 6, _ => simp at hv; subst hv; exact h.at_
theorem DeedAt.s1 {W : World} {b off : Nat} {x : DeedV} (h : DeedAt W b off x) : segB W ⟨b, off, none⟩ 7 = true := segB_of h.cells rfl
theorem DeedAt.s2 {W : World} {b off : Nat} {x : DeedV} (h : DeedAt W b off x) : segV W ⟨b, off, none⟩ 7 = deedA x := segV_of h.cells rfl
/-- a deed's own copy -/
theorem DeedAt.own {W : World} {g t : Nat} {x : DeedV} (h : W.heap[g]? = some (.cells (deedA x) t (0, 0))) (hR : Ints W x.A x.R) : DeedAt W g 0 x := by
  refine ⟨?_, ?_, ?_, ?_, ?_, ?_, ?_, hR⟩ <;> (rw [cell_of_row W g _ _ _ _ h]; rfl)

theorem take_all {R : List Int} {j : Nat} (b : Bool) (h : j < R.length) : (b && (R.take (j + 1)).all namedB) = ((b && (R.take j).all namedB) && namedB R[j]) := by
  rw [List.take_succ_eq_append_getElem h, List.all_append, Bool.and_assoc]
  simp only [List.all_cons, List.all_nil, Bool.and_true]
theorem take_mem {R : List Int} {j : Nat} (t : Int) (h : j < R.length) : decide (t ∈ R.take (j + 1)) = (decide (t ∈ R.take j) || decide (R[j] = t)) := by
  rw [List.take_succ_eq_append_getElem h, Bool.eq_iff_iff]
  simp only [decide_eq_true_eq, List.mem_append, List.mem_singleton, Bool.or_eq_true]
  rw [eq_comm (a := t)]
theorem hit_not {x : DeedV} {f t d : Int} (h : x.f ≠ f ∨ x.d ≠ d ∨ namedB x.f = false) : hitB x f t d = false := by
  unfold hitB
  rcases h with h | h | h <;> simp [h]

set_option maxRecDepth 100000 in
theorem open_pair {H : Type} {enc : TypeId × Value → H} {W : World} {cs : Array Value} (h : ReadsAs enc Try.prog W 43 (Value.agg cs).cells.toList) :
    ∃ a b, cs = #[.int .i64 a, .int .i64 b] ∧ (Lit.int .i64 a).wf = true ∧ (Lit.int .i64 b).wf = true := by
  obtain ⟨hl, hi⟩ := h.array Try.underlying43 int_cells
  have hc : Try.prog.cellsOf 43 = 2 := by kernel_rfl
  rw [hc] at hl
  obtain ⟨l⟩ := cs
  match l, hl with
  | [x, y], _ =>
    obtain ⟨a, ha, wa⟩ := (hi 0 (by omega)).int Try.underlying3
    obtain ⟨b, hb, wb⟩ := (hi 1 (by omega)).int Try.underlying3
    obtain rfl := (List.cons.inj ha).1
    obtain rfl := (List.cons.inj hb).1
    exact ⟨_, _, rfl, wa, wb⟩

set_option maxHeartbeats 4000000 in
set_option maxRecDepth 20000 in
theorem TagJust_walk (A : Option Addr) (l : List DeedV) (c : Nat) (f t d : Int) (wf : (Lit.int .i64 f).wf = true) (wt : (Lit.int .i64 t).wf = true) (wd : (Lit.int .u8 d).wf = true) (w : World) (hD : Deeds w A l) (hok : ∀ x ∈ l, DeedOk x) (hlen : l.length * 72 ≤ reachBytes) :
    Calls Try.prog 4 #[.slice A l.length c, .agg #[.int .i64 f, .int .i64 t], .int .u8 d] w fun e w' => e = .returned (.bool true) ∧ Kept w w' := by
  have HLEN := Lib.hid hlen
  unfold reachBytes at hlen
  obtain ⟨dd0, dd1⟩ := u8_range wd
  have HO := Lib.hid hok
  clear hok
  go_enter Try.func4, Try.ntmps4
  go_wp2_with fail
  have hb0 := heap_alloc_new w (.cells #[.int .i64 f, .int .i64 t] 43)
  have HU : Hid (Kept w (w.alloc (.cells #[.int .i64 f, .int .i64 t] 43))) := Lib.hid ((Upd.refl _ w).alloc _)
  generalize w.alloc (.cells #[.int .i64 f, .int .i64 t] 43) = W0 at *
  generalize w.heap.size = g0 at *
  refine (law_works _).mono ?_
  rintro e W1 ⟨rfl, hu⟩
  replace HU := Lib.hid (HU.out.trans hu)
  replace hb0 := hu.heap hb0 id
  clear hu
  have p0 : W1.cell? ⟨g0, 0, none⟩ = some (.int .i64 f) := by rw [cell_of_row _ _ _ _ _ _ hb0]; rfl
  have p1 : W1.cell? ⟨g0, 1, none⟩ = some (.int .i64 t) := by rw [cell_of_row _ _ _ _ _ _ hb0]; rfl
  clear hb0
  go_wp2_with fail
  go_region
  replace HU := Lib.hid HU.out.drew
  have HK : Kept W1 W1.drew := (Upd.refl _ _).drew
  generalize W1.drew = W2 at *
  clear p0 p1 HK
  go_wp2_with fail
  go_loopw [9, 10] (fun v i wr => ∃ k : Nat, k ≤ l.length ∧ k ≤ 60 ∧ i = .int .i64 k ∧ v = .bool (checkM ((l.take k).foldl stepM []) f t (digI d)) ∧ Kept w wr) (fun _ i _ => 60 - (intOf i).toNat)
  case atStart => exact ⟨0, Nat.zero_le _, Nat.zero_le _, rfl, rfl, HU.out⟩
  case round =>
    clear HU
    obtain ⟨k, hk, hk6, rfl, rfl, hu⟩ := hrel
    have HU := Lib.hid hu
    clear hu
    by_cases hlt : k < l.length
    · by_cases hlt6 : k < 60
      · obtain ⟨gb, off, rfl, hD1⟩ := hD.get hlt
        have hok := HO.out l[k] (List.getElem_mem hlt)
        have hst : (l.take (k + 1)).foldl stepM [] = stepM ((l.take k).foldl stepM []) l[k] := by rw [List.take_succ_eq_append_getElem hlt, List.foldl_append]; rfl
        have hch := checkM_step (L := (l.take k).foldl stepM []) (f := f) (t := t) hok dd0 dd1
        rw [← hst] at hch
        clear hst
        have HCH := Lib.hid hch
        clear hch
        generalize checkM ((l.take k).foldl stepM []) f t (digI d) = want at *
        generalize l[k] = x at *
        have hDr := hD1.kept HU.out
        have s1 := hDr.s1
        have s2 := hDr.s2
        have hcn := hDr.ints
        have HI := Lib.hid hcn
        clear hcn hDr hD1 hD
        by_cases hne : x.f = f ∧ x.d = d ∧ namedB x.f = true
        · obtain ⟨rfl, rfl, hnm⟩ := hne
          have HH := Lib.hid (by unfold hitB; rw [hnm]; simp : hitB x x.f t x.d = (if x.k % 3 = 0 then (decide (x.t = t) || decide (x.t = 0)) && (namedB x.t || x.t == 0) else if x.k % 3 = 1 then decide (x.R.length ≤ 34) && x.R.all namedB && decide (t ∈ x.R) else false))
          have hn1 : decide (1 ≤ x.f) = true ∧ decide (x.f ≤ 34) = true := by simpa [namedB] using hnm
          obtain ⟨hn1, hn2⟩ := hn1
          have hn3 : 1 ≤ x.f := by simpa using hn1
          clear hnm
          go_wp2_with fail
          refine (ref_Bring _ _ hok.k (by omega) (by omega) _).mono ?_
          rintro e W2 ⟨rfl, rfl⟩
          have hb := heap_alloc_new wr (.cells (deedA x) 32)
          have hI2 : Ints (wr.alloc (.cells (deedA x) 32)) x.A x.R := HI.out.upd ((Upd.refl (fun _ => False) wr).alloc _) (fun _ h => h.elim)
          replace HU : Hid (Kept w (wr.alloc (.cells (deedA x) 32))) := Lib.hid (HU.out.alloc _)
          generalize wr.alloc (.cells (deedA x) 32) = W3 at *
          generalize wr.heap.size = g3 at *
          have hDr := DeedAt.own hb hI2
          clear hb hI2 HI s1 s2
          have f2 := hDr.t
          have f3 := hDr.r
          have hI := hDr.ints
          have HI := Lib.hid hI
          clear hI hDr hn1 hn2 hn3
          have hm := mod_range x.k 3 (by omega)
          rcases (by omega : x.k % 3 = 0 ∨ x.k % 3 = 1 ∨ x.k % 3 = 2) with hm0 | hm0 | hm0
          · rw [HH.out, if_pos hm0] at HCH
            rw [hm0]
            have HC2 := Lib.hid HCH.out
            clear hm hm0 HCH HH
            go_wp2
            all_goals
              go_roundw
              case rel =>
                refine ⟨k + 1, by omega, by omega, by go_num, ?_, HU.out⟩
                rw [HC2.out]
                congr 1
                rw [Bool.eq_iff_iff]
                simp [namedB, *]
                try omega
              case measure => simp [intOf]; omega
          · rw [HH.out, if_neg (by omega), if_pos hm0] at HCH
            rw [hm0]
            have HC2 := Lib.hid HCH.out
            clear hm hm0 HCH HH
            go_wp2_with fail
            have hRl := hok.len
            unfold reachBytes at hRl
            go_loopw [13, 14, 15] (fun v13 v14 v15 wr => ∃ j : Nat, j ≤ x.R.length ∧ v15 = .int .i64 j ∧ v13 = .bool (decide (x.R.length ≤ 34) && (x.R.take j).all namedB) ∧ v14 = .bool (decide (t ∈ x.R.take j)) ∧ wr = W3) (fun _ _ v15 _ => x.R.length - (intOf v15).toNat)
            case atStart => exact ⟨0, Nat.zero_le _, rfl, by simp; first | done | (congr 1; omega), by simp, rfl⟩
            case round =>
              obtain ⟨j, hj, rfl, rfl, rfl, rfl⟩ := hrel
              by_cases hjl : j < x.R.length
              · obtain ⟨rb, ro, hA, hcR⟩ := HI.out.get hjl
                rw [hA] at f3
                have HALL := Lib.hid (take_all (decide (x.R.length ≤ 34)) hjl)
                have HMEM := Lib.hid (take_mem t hjl)
                clear hA
                generalize (decide (x.R.length ≤ 34) && (x.R.take j).all namedB) = fb at *
                generalize decide (t ∈ x.R.take j) = ib at *
                generalize x.R[j] = y at *
                go_wp2
                all_goals
                  go_roundw
                  case rel =>
                    refine ⟨j + 1, by omega, by go_num, ?_, ?_, by first | rfl | trivial⟩
                    · rw [HALL.out]
                      congr 1
                      rw [Bool.eq_iff_iff]
                      simp [namedB, *]
                    · rw [HMEM.out]
                      congr 1
                      all_goals first | rfl | (rw [Bool.eq_iff_iff]; simp [*]; done) | (simp [*]; done)
                  case measure => simp [intOf]; omega
              · obtain rfl : j = x.R.length := by omega
                simp only [List.take_length]
                generalize (decide (x.R.length ≤ 34) && x.R.all namedB) = fb at *
                generalize decide (t ∈ x.R) = ib at *
                go_wp2
                all_goals
                  go_roundw
                  case rel =>
                    refine ⟨k + 1, by omega, by omega, by go_num, ?_, HU.out⟩
                    rw [HC2.out]
                    congr 1
                    simp [*]
                  case measure => simp [intOf]; omega
          · rw [HH.out, if_neg (by omega), if_neg (by omega), Bool.or_false] at HCH
            rw [hm0]
            have HC2 := Lib.hid HCH.out
            clear hm hm0 HCH HH
            go_wp2
            go_roundw
            case rel => exact ⟨k + 1, by omega, by omega, by go_num, by rw [HC2.out], HU.out⟩
            case measure => simp [intOf]; omega
        · have hh : hitB x f t d = false := hit_not (by simp only [← Classical.not_and_iff_not_or_not, Bool.eq_false_iff]; simpa using hne)
          rw [hh, Bool.or_false] at HCH
          have HC2 := Lib.hid HCH.out
          clear HCH hh
          have hca : (x.f < 1 ∧ x.f ≠ f) ∨ (x.f < 1 ∧ x.f = f ∧ x.d ≠ d) ∨ (x.f < 1 ∧ x.f = f ∧ x.d = d) ∨ (1 ≤ x.f ∧ 34 < x.f ∧ x.f ≠ f) ∨ (1 ≤ x.f ∧ 34 < x.f ∧ x.f = f ∧ x.d ≠ d) ∨ (1 ≤ x.f ∧ 34 < x.f ∧ x.f = f ∧ x.d = d) ∨ (1 ≤ x.f ∧ x.f ≤ 34 ∧ x.f ≠ f) ∨ (1 ≤ x.f ∧ x.f ≤ 34 ∧ x.f = f ∧ x.d ≠ d) := by
            simp only [namedB, Bool.and_eq_true, decide_eq_true_eq] at hne
            omega
          clear hne
          rcases hca with ⟨h1, h2⟩ | ⟨h1, rfl, h3⟩ | ⟨h1, rfl, rfl⟩ | ⟨h1, h2, h3⟩ | ⟨h1, h2, rfl, h4⟩ | ⟨h1, h2, rfl, rfl⟩ | ⟨h1, h2, h3⟩ | ⟨h1, h2, rfl, h4⟩
          all_goals
            cases hq : decide (x.f ≤ 34)
            all_goals first | (exfalso; simp only [decide_eq_true_eq, decide_eq_false_iff_not] at hq; omega) | skip
            go_wp2
            go_roundw
            case rel => exact ⟨k + 1, by omega, by omega, by go_num, by rw [HC2.out], HU.out.alloc _⟩
            case measure => simp [intOf]; omega
      · have HMK := Lib.hid (by obtain rfl : k = 60 := by omega
                                rfl : (l.take k).foldl stepM [] = madeM l)
        rw [HMK.out]
        have hk60 : k = 60 := by omega
        go_wp2_with fail
        refine (law_made _ l c _ (hD.kept HU.out) HO.out HLEN.out).mono ?_
        rintro e W3 ⟨b, r, rfl, hL, hu, hb, hr⟩
        replace hb := Nat.le_trans HU.out.size hb
        replace hr := Nat.le_trans HU.out.size hr
        replace HU := Lib.hid (HU.out.then hu (fun _ _ h => h))
        clear hu
        go_wp2_with fail
        refine (law_digest _ dd0 dd1 _).mono ?_
        rintro e W4 ⟨rfl, hu⟩
        replace hL := hL.upd hu id id
        replace HU := Lib.hid (HU.out.then hu (fun _ _ h => h))
        clear hu
        go_wp2_with fail
        refine (tag_Check hL (by omega) (by omega) _ _ _ wf wt).mono ?_
        rintro e W5 ⟨rfl, hL5, hu⟩
        replace HU := Lib.hid (HU.out.then hu (fun i hi e => absurd hi (by omega)))
        clear hu hL hL5
        generalize checkM (madeM l) f t (digI d) = ans at *
        go_wp2
        go_ret
        exact ⟨by simp, HU.out⟩
    · have HMK := Lib.hid (by unfold madeM; rw [List.take_of_length_le (by omega), List.take_of_length_le (by omega)] : (l.take k).foldl stepM [] = madeM l)
      rw [HMK.out]
      go_wp2_with fail
      refine (law_made _ l c _ (hD.kept HU.out) HO.out HLEN.out).mono ?_
      rintro e W3 ⟨b, r, rfl, hL, hu, hb, hr⟩
      replace hb := Nat.le_trans HU.out.size hb
      replace hr := Nat.le_trans HU.out.size hr
      replace HU := Lib.hid (HU.out.then hu (fun _ _ h => h))
      clear hu
      go_wp2_with fail
      refine (law_digest _ dd0 dd1 _).mono ?_
      rintro e W4 ⟨rfl, hu⟩
      replace hL := hL.upd hu id id
      replace HU := Lib.hid (HU.out.then hu (fun _ _ h => h))
      clear hu
      go_wp2_with fail
      refine (tag_Check hL (by omega) (by omega) _ _ _ wf wt).mono ?_
      rintro e W5 ⟨rfl, hL5, hu⟩
      replace HU := Lib.hid (HU.out.then hu (fun i hi e => absurd hi (by omega)))
      clear hu hL hL5
      generalize checkM (madeM l) f t (digI d) = ans at *
      go_wp2
      go_ret
      exact ⟨by simp, HU.out⟩

set_option maxRecDepth 100000 in
theorem TagJust_lifted (os : Os) (started : os.Started) (H : Type) (enc : TypeId × Value → H) :
    ReturnsInHanded {} Try.checked os 4 .any (Rows.tagJustSpec.pre6 enc Try.prog Try.f4 Rows.tagJustRow.domain false) (Rows.tagJustSpec.post enc Try.prog Try.f4 false true false false) := by
  refine law_lifted os started Try.func4 (by kernel_rfl) rfl rfl (by kernel_rfl) ?_
    (ChangeSpec.witness6 (enc := enc) (C := Try.checked) false ⟨#[], #[.slice none 0 0, .agg #[.int .i64 0,.int .i64 0], .int .u8 0], []⟩ 8 (by kernel_rfl) (by kernel_rfl) (by kernel_rfl) (by kernel_rfl)) ?_
  · intro ds h
    rw [Try.params4] at h
    match ds, h with
    | [d0, d1, d2], _ => rfl
  · intro W base args ds ps hval hA hsz
    rw [Try.params4] at hA hval hsz
    obtain ⟨v0, vs0, d0, ds0, p0, q0, hargs, rfl, rfl, h0, r_0⟩ := trodAll_cons hA
    obtain ⟨v1, vs1, d1, ds1, p1, q1, rfl, rfl, rfl, h1, r_1⟩ := trodAll_cons r_0
    obtain ⟨v2, vs2, d2, ds2, p2, q2, rfl, rfl, rfl, h2, r_2⟩ := trodAll_cons r_1
    obtain ⟨rfl, rfl, rfl⟩ := trodAll_nil r_2
    obtain rfl : args = #[v0, v1, v2] := by cases args; simp_all
    obtain ⟨A0, n0, c0, rfl⟩ := okWide_slice Try.underlying22 (hval 0 22 v0 rfl rfl)
    have r0 := ReadsAs.of_trod hsz (j := 0) rfl rfl h0
    obtain ⟨cs1, rfl, _⟩ := ok_agg (P := Try.prog) (t := 43) (by kernel_rfl) (hval 1 43 v1 rfl rfl)
    have r1 := ReadsAs.of_trod hsz (j := 1) rfl rfl h1
    obtain ⟨a2, rfl, rfl, rfl, w2⟩ := open_int Try.underlying5 (hval 2 5 v2 rfl rfl) h2
    obtain ⟨A, l, cap, hcs, hlen, hD, hok⟩ := open_deeds r0
    simp only [Value.cells, List.cons.injEq, Value.slice.injEq, and_true] at hcs
    obtain ⟨rfl, rfl, rfl⟩ := hcs
    obtain ⟨f, t, hcs1, wf, wt⟩ := open_pair r1
    obtain rfl := hcs1
    exact TagJust_walk _ l _ f t a2 wf wt w2 W hD hok hlen

theorem TagJust_holds : Rows.TagJustSaid :=
  OpenClaim.holds_of_wide 4 Try.f4 rfl rfl rfl rfl rfl rfl rfl ⟨rfl, rfl, rfl, rfl, rfl⟩ rfl rfl rfl rfl rfl (by kernel_rfl) Try.func4 (by kernel_rfl)
    (of_decide_eq_true (by kernel_rfl)) (by unfold Func.isWrapper; first | (rw [if_pos (by decide +kernel)]; kernel_rfl) | (rw [if_neg (by decide +kernel)]; exact ⟨rfl, rfl⟩))
    (fun os started H enc _ => TagJust_lifted os started H enc)
end Go.Proofs.Ytjnaenmknbcjmaa
