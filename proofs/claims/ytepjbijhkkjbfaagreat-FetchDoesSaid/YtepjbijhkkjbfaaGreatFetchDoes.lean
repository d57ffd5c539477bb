/- Fetches are as the chapter says, of all plans and deeds: the statement FetchDoes holds, of all plans and deeds. -/
import Derived.Test.YtepjbijhkkjbfaaGreatSetYd
namespace Go.Proofs.YtepjbijhkkjbfaaGreat
open Go.ChangeShapes Go.WideShapes Go.ChangeAt Go.RowKit

set_option maxRecDepth 100000 in
theorem FetchDoes_lifted (os : Os) (started : os.Started) (H : Type) (enc : TypeId × Value → H) :
    ReturnsInHanded {} Tryz.checked os 3 .any (Rows.fetchDoesSpec.pre6 enc Tryz.prog Tryz.f3 Rows.fetchDoesRow.domain false) (Rows.fetchDoesSpec.post enc Tryz.prog Tryz.f3 false true false false) := by
  refine law_lifted os started Tryz.func3 (by kernel_rfl) rfl rfl (by kernel_rfl) ?_
    (ChangeSpec.witness6 (enc := enc) (C := Tryz.checked) false ⟨#[], #[.agg ((Array.replicate 32 (Value.int .u8 0)) ++ #[.int .i64 0,.slice none 0 0]), .slice none 0 0], []⟩ 8 (by kernel_rfl) (by kernel_rfl) (by kernel_rfl) (by kernel_rfl)) ?_
  · intro ds h
    rw [Tryz.params3] at h
    match ds, h with
    | [d0, d1], _ => rfl
  · intro W base args ds ps hval hA hsz
    rw [Tryz.params3] at hA hval hsz
    obtain ⟨v0, vs0, d0, ds0, p0, q0, hargs, rfl, rfl, h0, r_0⟩ := trodAll_cons hA
    obtain ⟨v1, vs1, d1, ds1, p1, q1, rfl, rfl, rfl, h1, r_1⟩ := trodAll_cons r_0
    obtain ⟨rfl, rfl, rfl⟩ := trodAll_nil r_1
    obtain rfl : args = #[v0, v1] := by cases args; simp_all
    obtain ⟨cs0, rfl, _⟩ := ok_agg (P := Tryz.prog) (t := 26) (by kernel_rfl) (hval 0 26 v0 rfl rfl)
    have r0 := ReadsAs.of_trod hsz (j := 0) rfl rfl h0
    obtain ⟨A1, n1, c1, rfl⟩ := okWide_slice Tryz.underlying27 (hval 1 27 v1 rfl rfl)
    have r1 := ReadsAs.of_trod hsz (j := 1) rfl rfl h1
    obtain ⟨root, nn, A, c, l, hcs, hwf, hL, h24⟩ := open_plan r0
    obtain rfl : cs0 = planA root nn A l.length c := Array.toList_inj.1 (by simpa [planA, Value.cells] using hcs)
    obtain ⟨A2, c2, dl, hcs2, hdl, hdm⟩ := open_deeds r1
    simp only [Value.cells, List.cons.injEq, Value.slice.injEq, and_true] at hcs2
    obtain ⟨rfl, rfl, rfl⟩ := hcs2
    exact FetchDoes_walk root nn A c l _ _ dl W hL h24 hdl hdm hwf

theorem FetchDoes_holds : Rows.FetchDoesSaid :=
  OpenClaim.holds_of_wide 3 Tryz.f3 rfl rfl rfl rfl rfl rfl rfl ⟨rfl, rfl, rfl, rfl, rfl⟩ rfl rfl rfl rfl rfl (by kernel_rfl) Tryz.func3 (by kernel_rfl)
    (of_decide_eq_true (by kernel_rfl)) (by unfold Func.isWrapper; first | (rw [if_pos (by decide +kernel)]; kernel_rfl) | (rw [if_neg (by decide +kernel)]; exact ⟨rfl, rfl⟩))
    (fun os started H enc _ => FetchDoes_lifted os started H enc)
end Go.Proofs.YtepjbijhkkjbfaaGreat
