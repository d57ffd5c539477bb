/- In whichever order tags come, it is the same: the statement TagOrder holds. For every input. -/
import Derived.Test.YtjnaenmknbcjmaaTagH
import Derived.Test.YtjnaenmknbcjmaaOwn
namespace Go.Proofs.Ytjnaenmknbcjmaa
open Go.ChangeShapes Go.WideShapes Go.ChangeAt Go.RowKit

abbrev DeedRows (W : World) (B : Nat) (v : Value) (l : List DeedV) : Prop := OwnRows deedA 7 W B 32 v l
theorem deed_rows : RowType Try.prog deedA 7 22 32 72 where
  size := deedA_size
  one := deedA_one
  slice := Try.underlying22
  info := ⟨.agg (deedA deedZ), by kernel_rfl, by rfl⟩
  pos := by omega
theorem Deeds.owned {W : World} {B : Nat} {v : Value} {l : List DeedV} (h : DeedRows W B v l) (hI : ∀ x ∈ l, Ints W x.A x.R) : ∃ A c, v = .slice A l.length c ∧ Deeds W A l := by
  rcases Nat.eq_zero_or_pos l.length with h0 | h0
  · obtain ⟨A, c, rfl⟩ := h.form
    exact ⟨_, _, rfl, .inl (List.eq_nil_of_length_eq_zero h0)⟩
  · obtain ⟨g, c, rfl, _⟩ := h.get deedA_size h0
    refine ⟨_, _, rfl, .inr ⟨g, 0, rfl, fun k hk => ?_⟩⟩
    obtain ⟨g', c', e, _, _, s1, s2⟩ := h.get deedA_size hk
    simp only [Value.slice.injEq, Option.some.injEq, Addr.mk.injEq, and_true, true_and] at e
    obtain ⟨rfl, rfl⟩ := e
    rw [Nat.zero_add]
    have hc : ∀ j v, (deedA l[k])[j]? = some v → W.cell? ⟨g, k * 7 + j, none⟩ = some v := fun j v hv => by
      have := cell_of_seg s1 j v (by rw [s2]; exact hv)
      rwa [add_none] at this
    exact ⟨hc 0 _ rfl, hc 1 _ rfl, hc 2 _ rfl, hc 3 _ rfl, hc 4 _ rfl, hc 5 _ rfl, hc 6 _ rfl, hI _ (List.getElem_mem hk)⟩

@[go_sem ↓] theorem exec_oneDeed (ρ : Operand → Value) (dst : Option Tmp) (parts : Array (Nat × Operand)) (ty : TypeId) (pos : String) (after : Array Edge) (guard : Option (Nat × Bool)) :
    execOp ρ ⟨dst, .buildSlice 22 1 parts, ty, pos, after, guard⟩ = sliceRow 22 1 (parts.map fun (i, x) => (i, ρ x)) := rfl
@[go_sem] theorem run_oneDeed (x : DeedV) (W : World) : (sliceRow 22 1 #[(0, .agg (deedA x))]).run Try.prog W = .ok (.value (.slice (some ⟨W.heap.size, 0, none⟩) 1 1)) (W.alloc (.cells (deedA x) 32)) :=
  run_sliceRow _ 32 7 (.agg (deedA deedZ)) _ Try.underlying22 (by kernel_rfl) (by omega) (by omega) (by rfl) (deedA_size x) W

set_option maxHeartbeats 4000000 in
set_option maxRecDepth 20000 in
theorem TagOrder_walk (A : Option Addr) (l : List DeedV) (c : Nat) (f t d : Int) (wf : (Lit.int .i64 f).wf = true) (wt : (Lit.int .i64 t).wf = true) (wd : (Lit.int .u8 d).wf = true) (w : World) (hD : Deeds w A l) (hok : ∀ x ∈ l, DeedOk x) (hlen : l.length * 72 ≤ reachBytes) :
    Calls Try.prog 7 #[.slice A l.length c, .agg #[.int .i64 f, .int .i64 t], .int .u8 d] w fun e w' => e = .returned (.bool true) ∧ Kept w w' := by
  have HLEN := Lib.hid hlen
  unfold reachBytes at hlen
  obtain ⟨dd0, dd1⟩ := u8_range wd
  have HO := Lib.hid hok
  clear hok
  go_enter Try.func7, Try.ntmps7
  go_wp2_with fail
  have hb0 := heap_alloc_new w (.cells #[.int .i64 f, .int .i64 t] 43)
  have HU : Hid (Kept w (w.alloc (.cells #[.int .i64 f, .int .i64 t] 43))) := Lib.hid ((Upd.refl _ w).alloc _)
  generalize w.alloc (.cells #[.int .i64 f, .int .i64 t] 43) = W0 at *
  generalize w.heap.size = g0 at hb0 ⊢
  refine (law_works _).mono ?_
  rintro e W1 ⟨rfl, hu⟩
  replace HU := Lib.hid (HU.out.trans hu)
  replace hb0 := hu.heap hb0 id
  clear hu
  have p0 : W1.cell? ⟨g0, 0, none⟩ = some (.int .i64 f) := by rw [cell_of_row _ _ _ _ _ _ hb0]; rfl
  have p1 : W1.cell? ⟨g0, 1, none⟩ = some (.int .i64 t) := by rw [cell_of_row _ _ _ _ _ _ hb0]; rfl
  clear hb0
  go_wp2_with fail
  go_region
  replace HU := Lib.hid HU.out.drew
  have HK : Kept W1 W1.drew := (Upd.refl _ _).drew
  generalize W1.drew = W2 at *
  clear p0 p1 HK
  go_wp2_with fail
  all_goals
    obtain ⟨T, hT⟩ : ∃ T, T = (l.take 60).reverse := ⟨_, rfl⟩
    have hTl : T.length = min l.length 60 := by rw [hT]; simp [Nat.min_comm]
    have hTg : ∀ k, (h : k < T.length) → ∃ h2 : T.length - 1 - k < l.length, T[k] = l[T.length - 1 - k] := by
      intro k h
      have h3 : T.length - 1 - k < l.length := by omega
      refine ⟨h3, ?_⟩
      subst hT
      simp only [List.length_reverse] at h h3 hTl ⊢
      rw [List.getElem_reverse, List.getElem_take]
    have HTG := Lib.hid hTg
    have HT := Lib.hid hT
    clear hT hTg
    go_loopw [10, 11] (fun v i wr => ∃ k : Nat, k ≤ T.length ∧ i = .int .i64 ((T.length : Int) - 1 - k) ∧ DeedRows wr w.heap.size v (T.take k) ∧ Kept w wr) (fun _ i _ => (intOf i + 1).toNat)
    case atStart => exact ⟨0, Nat.zero_le _, by congr 1; omega, OwnRows.nil _ _ _, HU.out⟩
    case round =>
      clear HU
      obtain ⟨k, hk, rfl, hown, hu⟩ := hrel
      have HU := Lib.hid hu
      have HOWN := Lib.hid hown
      clear hu hown
      by_cases hlt : k < T.length
      · obtain ⟨hx, hTx⟩ := HTG.out k hlt
        obtain ⟨gb, off, rfl, hD1⟩ := hD.get hx
        have HTK : Hid (T.take (k + 1) = T.take k ++ [T[k]]) := List.take_succ_eq_append_getElem hlt
        rw [← hTx] at hD1
        generalize T[k] = x at *
        have hDr := hD1.kept HU.out
        have s1 := hDr.s1
        have s2 := hDr.s2
        have hix : ((T.length - 1 - k : Nat) : Int) = (T.length : Int) - 1 - k := by omega
        clear hDr hD1 hTx
        obtain ⟨q, hq⟩ : ∃ q, q = T.length - 1 - k := ⟨_, rfl⟩
        rw [← hq] at hix hx s1 s2
        rw [← hix]
        clear hix
        have HQ : Hid (q = T.length - 1 - k) := hq
        have HTL : Hid (T.length = min l.length 60) := hTl
        have hql : q < l.length := by omega
        clear hq hTl
        have htl : (T.take k).length = k := by rw [List.length_take]; omega
        have hT60 : T.length ≤ 60 := by have := HTL.out; omega
        have hsz := HU.out.size
        have HSZ := Lib.hid hsz
        have HTK2 := Lib.hid htl
        clear hsz htl
        go_wp2_with (at_builtin; refine wpList_append_rows deed_rows rfl (.tmp 29) (.tmp 34) rfl rfl (HOWN.out.alloc _) x wr.heap.size 1 _ _ rfl (heap_alloc_new wr _) (by rw [HTK2.out]; unfold maxLen; omega) (by rw [HTK2.out]; omega) (by rw [World.size_alloc]; have := HSZ.out; omega) ?_; intro v' W' hown' hu' hb')
        go_roundw
        case rel =>
          refine ⟨k + 1, by omega, by have := HQ.out; congr 1 <;> omega, by rw [HTK.out]; exact hown', (HU.out.alloc _).then hu' fun i hi e => ?_⟩
          have := World.ownsRow.lt HOWN.out i e
          omega
        case measure => simp [intOf] <;> omega
      · obtain rfl : k = T.length := by omega
        have hT60 : T.length ≤ 60 := by omega
        have hown := HOWN.out
        rw [List.take_length] at hown
        have hmem : ∀ x ∈ T, x ∈ l := fun x hx => by rw [HT.out, List.mem_reverse] at hx; exact List.mem_of_mem_take hx
        obtain ⟨A2, c2, rfl, hD2⟩ := Deeds.owned hown fun x hx => by
          obtain ⟨i, hi, rfl⟩ := List.mem_iff_getElem.1 (hmem x hx)
          obtain ⟨_, _, _, hd⟩ := hD.get hi
          exact (hd.kept HU.out).ints
        have hok2 : ∀ x ∈ T, DeedOk x := fun x hx => HO.out x (hmem x hx)
        have hlen2 : T.length * 72 ≤ reachBytes := by unfold reachBytes; omega
        have hml : (l.take 60).length ≤ 60 := by rw [List.length_take]; omega
        obtain ⟨_, hL1, hC1⟩ := turn_same hml
        have hC1 := hC1 f t (digI d)
        rw [← HT.out] at hL1 hC1
        have hz : (T.length : Int) - 1 - T.length = -1 := by omega
        rw [hz]
        have HD2 := Lib.hid (And.intro hD2 (And.intro hok2 hlen2))
        have HL1 := Lib.hid hL1
        have HC1 := Lib.hid hC1
        clear hown hmem hD2 hok2 hlen2 hml hL1 hC1 hz hTl hT60 HTG HT hlt hk HOWN
        go_wp2_with fail
        refine (law_made A l c _ (hD.kept HU.out) HO.out HLEN.out).mono ?_
        rintro e W3 ⟨b3, r3, rfl, hL3, hu, hb3, hr3⟩
        replace hb3 := Nat.le_trans HU.out.size hb3
        replace hr3 := Nat.le_trans HU.out.size hr3
        replace HU := Lib.hid (HU.out.then hu (fun _ _ h => h))
        replace HD2 : Hid (Deeds W3 A2 T ∧ (∀ x ∈ T, DeedOk x) ∧ T.length * 72 ≤ reachBytes) := ⟨HD2.out.1.kept hu, HD2.out.2⟩
        clear hu
        go_wp2_with fail
        refine (law_made A2 T c2 _ HD2.out.1 HD2.out.2.1 HD2.out.2.2).mono ?_
        rintro e W4 ⟨b4, r4, rfl, hL4, hu, hb4, hr4⟩
        have HN : Hid (b3 < b4 ∧ b3 < r4 ∧ r3 < b4 ∧ r3 < r4) := ⟨Nat.lt_of_lt_of_le hL3.lt hb4, Nat.lt_of_lt_of_le hL3.lt hr4, Nat.lt_of_lt_of_le hL3.map.lt hb4, Nat.lt_of_lt_of_le hL3.map.lt hr4⟩
        replace hL3 := hL3.upd hu id id
        replace hb4 := Nat.le_trans HU.out.size hb4
        replace hr4 := Nat.le_trans HU.out.size hr4
        replace HU := Lib.hid (HU.out.then hu (fun _ _ h => h))
        clear hu HD2
        have hM : madeM l = (l.take 60).foldl stepM [] := rfl
        rw [← hM] at HL1 HC1
        clear hM
        generalize madeM l = LA at *
        generalize madeM T = LB at *
        go_wp2_with fail
        refine (tag_Len hL3).mono ?_
        rw [HL1.out]
        rintro e w3 ⟨rfl, rfl⟩
        go_wp2_with fail
        refine (tag_Len hL4).mono ?_
        rintro e w3 ⟨rfl, rfl⟩
        go_wp2_with fail
        refine (law_digest _ dd0 dd1 _).mono ?_
        rintro e W5 ⟨rfl, hu⟩
        replace hL3 := hL3.upd hu id id
        replace hL4 := hL4.upd hu id id
        replace HU := Lib.hid (HU.out.then hu (fun _ _ h => h))
        clear hu
        go_wp2_with fail
        refine (tag_Check hL3 (by omega) (by omega) _ _ _ wf wt).mono ?_
        rw [HC1.out]
        rintro e W6 ⟨rfl, hL5, hu⟩
        replace hL4 := hL4.upd hu (by have := HN.out; omega) (by have := HN.out; omega)
        replace HU := Lib.hid (HU.out.then hu (fun i hi e => absurd hi (by omega)))
        clear hu hL3 hL5
        go_wp2_with fail
        refine (law_digest _ dd0 dd1 _).mono ?_
        rintro e W7 ⟨rfl, hu⟩
        replace hL4 := hL4.upd hu id id
        replace HU := Lib.hid (HU.out.then hu (fun _ _ h => h))
        clear hu
        go_wp2_with fail
        refine (tag_Check hL4 (by omega) (by omega) _ _ _ wf wt).mono ?_
        rintro e W8 ⟨rfl, hL5, hu⟩
        replace HU := Lib.hid (HU.out.then hu (fun i hi e => absurd hi (by omega)))
        clear hu hL4 hL5
        generalize checkM LB f t (digI d) = ans at *
        go_wp2
        go_ret
        exact ⟨by simp, HU.out⟩

set_option maxRecDepth 100000 in
theorem TagOrder_lifted (os : Os) (started : os.Started) (H : Type) (enc : TypeId × Value → H) :
    ReturnsInHanded {} Try.checked os 7 .any (Rows.tagOrderSpec.pre6 enc Try.prog Try.f7 Rows.tagOrderRow.domain false) (Rows.tagOrderSpec.post enc Try.prog Try.f7 false true false false) := by
  refine law_lifted os started Try.func7 (by kernel_rfl) rfl rfl (by kernel_rfl) ?_
    (ChangeSpec.witness6 (enc := enc) (C := Try.checked) false ⟨#[], #[.slice none 0 0, .agg #[.int .i64 0,.int .i64 0], .int .u8 0], []⟩ 8 (by kernel_rfl) (by kernel_rfl) (by kernel_rfl) (by kernel_rfl)) ?_
  · intro ds h
    rw [Try.params7] at h
    match ds, h with
    | [d0, d1, d2], _ => rfl
  · intro W base args ds ps hval hA hsz
    rw [Try.params7] at hA hval hsz
    obtain ⟨v0, vs0, d0, ds0, p0, q0, hargs, rfl, rfl, h0, r_0⟩ := trodAll_cons hA
    obtain ⟨v1, vs1, d1, ds1, p1, q1, rfl, rfl, rfl, h1, r_1⟩ := trodAll_cons r_0
    obtain ⟨v2, vs2, d2, ds2, p2, q2, rfl, rfl, rfl, h2, r_2⟩ := trodAll_cons r_1
    obtain ⟨rfl, rfl, rfl⟩ := trodAll_nil r_2
    obtain rfl : args = #[v0, v1, v2] := by cases args; simp_all
    obtain ⟨A0, n0, c0, rfl⟩ := okWide_slice Try.underlying22 (hval 0 22 v0 rfl rfl)
    have r0 := ReadsAs.of_trod hsz (j := 0) rfl rfl h0
    obtain ⟨cs1, rfl, _⟩ := ok_agg (P := Try.prog) (t := 43) (by kernel_rfl) (hval 1 43 v1 rfl rfl)
    have r1 := ReadsAs.of_trod hsz (j := 1) rfl rfl h1
    obtain ⟨a2, rfl, rfl, rfl, w2⟩ := open_int Try.underlying5 (hval 2 5 v2 rfl rfl) h2
    obtain ⟨A, l, cap, hcs, hlen, hD, hok⟩ := open_deeds r0
    simp only [Value.cells, List.cons.injEq, Value.slice.injEq, and_true] at hcs
    obtain ⟨rfl, rfl, rfl⟩ := hcs
    obtain ⟨f, t, hcs1, wf, wt⟩ := open_pair r1
    obtain rfl := hcs1
    exact TagOrder_walk _ l _ f t a2 wf wt w2 W hD hok hlen

theorem TagOrder_holds : Rows.TagOrderSaid :=
  OpenClaim.holds_of_wide 7 Try.f7 rfl rfl rfl rfl rfl rfl rfl ⟨rfl, rfl, rfl, rfl, rfl⟩ rfl rfl rfl rfl rfl (by kernel_rfl) Try.func7 (by kernel_rfl)
    (of_decide_eq_true (by kernel_rfl)) (by unfold Func.isWrapper; first | (rw [if_pos (by decide +kernel)]; kernel_rfl) | (rw [if_neg (by decide +kernel)]; exact ⟨rfl, rfl⟩))
    (fun os started H enc _ => TagOrder_lifted os started H enc)
end Go.Proofs.Ytjnaenmknbcjmaa
