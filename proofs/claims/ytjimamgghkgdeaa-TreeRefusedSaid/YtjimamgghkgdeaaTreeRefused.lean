/- A leaf that is none changes nothing: the statement TreeRefused holds. For every input. -/
import Derived.Test.YtjimamgghkgdeaaTreeO
import Derived.Test.YtjimamgghkgdeaaOpen
namespace Go.Proofs.Ytjimamgghkgdeaa
open Go.ChangeShapes Go.WideShapes Go.ChangeAt Go.RowKit

/-- a number of leaves, brought below a bound -/
theorem leaves_of (a : Int) (n : Int) (hn : 1 ≤ n) (hn' : n ≤ 1000) : ∃ m : Nat, 1 + a % n = (m : Int) ∧ 1 ≤ m ∧ (m : Int) ≤ n := by
  obtain ⟨h1, h2⟩ := mod_range a n hn
  exact ⟨(1 + a % n).toNat, by omega, by omega, by omega⟩

set_option maxHeartbeats 4000000 in
set_option maxRecDepth 20000 in
theorem TreeRefused_walk (a at_ : Int) (w : World) (ha : (Lit.int .i64 a).wf = true) :
    Calls Try.prog 7 #[.int .i64 a, .int .i64 at_] w fun e w' => e = .returned (.bool true) ∧ Kept w w' := by
  have hnot : ∀ (x : Bool) (w : World), (Op.unary .not (.bool x)).run Try.prog w = .ok (.bool (!x)) w := fun _ _ => rfl
  go_enter Try.func7, Try.ntmps7
  go_wp2_with fail
  refine (law_works _).mono ?_
  rintro e w1 ⟨rfl, hu⟩
  have HU := Lib.hid hu
  clear hu
  go_wp2_with fail
  refine (ref_Bring a 100 ha (by omega) (by omega) _).mono ?_
  rintro e W ⟨rfl, rfl⟩
  obtain ⟨n, hn, hn1, hn2⟩ := leaves_of a 100 (by omega) (by omega)
  have hw : IntKind.i64.wrap (1 + a % 100) = n := by rw [hn, IntKind.wrap_i64]; omega
  have HN := Lib.hid (And.intro hn1 hn2)
  clear hn hn1 hn2
  go_wp2_with fail
  refine (law_book _).mono ?_
  rintro e w2 ⟨b, r, q, rfl, hI⟩
  have HI := Lib.hid hI
  clear hI
  go_wp2_with fail
  refine (tree_New HI.out.book n HN.out.1 (by have := HN.out.2; omega)).mono ?_
  rintro e w3 ⟨t, rfl, hlo, hT, hb, hu⟩
  have HT := Lib.hid (And.intro HI.out.upd.size hT)
  replace HI := Lib.hid (HI.out.to hb hu)
  clear hlo hT hb hu
  go_wp2_with fail
  refine (law_root HT.out.2).mono ?_
  rintro e w4 ⟨rfl, hu4⟩
  obtain ⟨d, hd⟩ : ∃ d, d = rootM shaM (List.replicate n (leafM shaM [])) := ⟨_, rfl⟩
  rw [← hd]
  have HD := Lib.hid hd
  have hd5 : Blk (w4.alloc (.cells (dA d) 40)) w4.heap.size 40 (encB (d).1) := Blk.new w4 _ _
  have hk5 : Kept w4 (w4.alloc (.cells (dA d) 40)) := (Upd.refl _ w4).alloc _
  replace HT := Lib.hid (And.intro HT.out.1 ((HT.out.2.kept hu4).kept hk5))
  replace HI := Lib.hid ((HI.out.kept hu4).kept hk5)
  have H5 := Lib.hid (And.intro hd5 (show w3.heap.size ≤ w4.heap.size from hu4.size))
  clear hd5 hk5 hu4 hd
  go_wp2_with fail
  obtain ⟨g5, hg5⟩ : ∃ g5, g5 = w4.heap.size := ⟨_, rfl⟩
  rw [← hg5] at H5 ⊢
  clear hg5
  generalize w4.alloc (.cells (dA d) 40) = w5 at *
  obtain ⟨I, M, m, hB⟩ := HI.out.book
  refine (ink_Len hB).mono ?_
  rintro e w6 ⟨rfl, hu6⟩
  generalize hLL : notesM (noteM [] (leafIn [])) (insM shaM (List.replicate n (leafM shaM []))) = L0 at *
  generalize hz : IntKind.i64.wrap (L0.length : Int) = z at *
  have HZ := Lib.hid hz
  clear hz
  obtain ⟨v7, w7, hbs7, hB7, hk7⟩ := run_bs1 1 w6
  change (sliceRow 32 1 #[(0, .int .u8 1)]).run Try.prog w6 = _ at hbs7
  obtain ⟨A7, c7, rfl, hc7, hb7⟩ := byt_one hB7
  replace HT := Lib.hid (And.intro HT.out.1 ((HT.out.2.kept hu6).kept hk7))
  replace HI := Lib.hid ((HI.out.kept hu6).kept hk7)
  replace H5 := Lib.hid (And.intro ((H5.out.1.kept hu6).kept hk7) H5.out.2)
  have H7 := Lib.hid hb7
  clear hB hu6 hB7 hk7 hc7 hb7 hLL
  go_wp2_with fail
  by_cases hin : 0 ≤ at_ ∧ at_ < n
  · obtain ⟨i, rfl⟩ : ∃ i : Nat, at_ = i := ⟨at_.toNat, by omega⟩
    have hir : i < n := by omega
    have HIR := Lib.hid hir
    have hi0 : decide ((0 : Int) ≤ (i : Int)) = true := decide_eq_true (by omega)
    clear hin
    have HG := tree_Set HI.out.book HT.out.2 (R := [1]) c7 H7.out (by simp) i (by simpa using HIR.out)
    refine HG.mono ?_
    rintro e w8 ⟨rfl, _, hb8, hu8⟩
    have hI := HI.out.step hb8 hu8 (fun k e => e.imp id (fun e => by have h1 := HT.out.1; have h2 := HI.out.upd.size; have h3 := HU.out.size; omega))
    have HK := Lib.hid (HU.out.then hI.upd (fun _ _ h => h))
    clear HG hb8 hu8 hI
    go_wp2
    go_ret
    exact ⟨rfl, HK.out⟩
  · have hno : at_ < 0 ∨ ((List.replicate n (leafM shaM [])).length : Int) ≤ at_ := by rw [List.length_replicate]; omega
    have hcases : at_ < 0 ∨ (0 ≤ at_ ∧ (n : Int) ≤ at_) := by omega
    have HNO := Lib.hid hno
    clear hno hin
    rcases hcases with hc | ⟨hc, hc2⟩
    · have d0 : decide ((0 : Int) ≤ at_) = false := decide_eq_false (by omega)
      clear hc
      refine (tree_Set_out HT.out.2 at_ _ HNO.out).mono ?_
      rintro e W ⟨rfl, rfl⟩
      go_wp2_with fail
      refine (law_root HT.out.2).mono ?_
      rintro e w8 ⟨rfl, hu8⟩
      rw [← HD.out]
      have hd9 : Blk (w8.alloc (.cells (dA d) 40)) w8.heap.size 40 (encB (d).1) := Blk.new w8 _ _
      have hk9 : Kept w8 (w8.alloc (.cells (dA d) 40)) := (Upd.refl _ w8).alloc _
      replace HT := Lib.hid (And.intro HT.out.1 ((HT.out.2.kept hu8).kept hk9))
      replace HI := Lib.hid ((HI.out.kept hu8).kept hk9)
      replace H5 := Lib.hid ((H5.out.1.kept hu8).kept hk9)
      obtain ⟨p1, p2⟩ := dig_at H5.out
      obtain ⟨p3, p4⟩ := dig_at hd9
      clear hd9 hk9 hu8
      generalize hWa : w8.alloc (.cells (dA d) 40) = wa at *
      go_wp2_with fail
      obtain ⟨I, M, m, hB⟩ := HI.out.book
      refine (ink_Len hB).mono ?_
      rw [HZ.out]
      rintro e wb ⟨rfl, hub⟩
      have HK := Lib.hid ((HU.out.then HI.out.upd (fun _ _ h => h)).then hub (fun _ _ h => h))
      clear hub p1 p2 p3 p4 hB
      go_wp2
      go_ret
      exact ⟨rfl, HK.out⟩
    · have d0 : decide ((0 : Int) ≤ at_) = true := decide_eq_true (by omega)
      have d1 : decide (at_ < (n : Int)) = false := decide_eq_false (by omega)
      clear hc hc2
      refine (tree_Set_out HT.out.2 at_ _ HNO.out).mono ?_
      rintro e W ⟨rfl, rfl⟩
      go_wp2_with fail
      refine (law_root HT.out.2).mono ?_
      rintro e w8 ⟨rfl, hu8⟩
      rw [← HD.out]
      have hd9 : Blk (w8.alloc (.cells (dA d) 40)) w8.heap.size 40 (encB (d).1) := Blk.new w8 _ _
      have hk9 : Kept w8 (w8.alloc (.cells (dA d) 40)) := (Upd.refl _ w8).alloc _
      replace HT := Lib.hid (And.intro HT.out.1 ((HT.out.2.kept hu8).kept hk9))
      replace HI := Lib.hid ((HI.out.kept hu8).kept hk9)
      replace H5 := Lib.hid ((H5.out.1.kept hu8).kept hk9)
      obtain ⟨p1, p2⟩ := dig_at H5.out
      obtain ⟨p3, p4⟩ := dig_at hd9
      clear hd9 hk9 hu8
      generalize hWa : w8.alloc (.cells (dA d) 40) = wa at *
      go_wp2_with fail
      obtain ⟨I, M, m, hB⟩ := HI.out.book
      refine (ink_Len hB).mono ?_
      rw [HZ.out]
      rintro e wb ⟨rfl, hub⟩
      have HK := Lib.hid ((HU.out.then HI.out.upd (fun _ _ h => h)).then hub (fun _ _ h => h))
      clear hub p1 p2 p3 p4 hB
      go_wp2
      go_ret
      exact ⟨rfl, HK.out⟩
set_option maxRecDepth 100000 in
theorem TreeRefused_lifted (os : Os) (started : os.Started) (H : Type) (enc : TypeId × Value → H) :
    ReturnsInHanded {} Try.checked os 7 .any (Rows.treeRefusedSpec.pre6 enc Try.prog Try.f7 Rows.treeRefusedRow.domain false) (Rows.treeRefusedSpec.post enc Try.prog Try.f7 false true false false) := by
  refine law_lifted os started Try.func7 (by kernel_rfl) rfl rfl (by kernel_rfl) ?_
    (ChangeSpec.witness6 (enc := enc) (C := Try.checked) false ⟨#[], #[.int .i64 0, .int .i64 0], []⟩ 8 (by kernel_rfl) (by kernel_rfl) (by kernel_rfl) (by kernel_rfl)) ?_
  · intro ds h
    rw [Try.params7] at h
    match ds, h with
    | [d0, d1], _ => rfl
  · intro W base args ds ps hval hA _
    rw [Try.params7] at hA hval
    obtain ⟨v0, vs0, d0, ds0, p0, q0, hargs, rfl, rfl, h0, r_0⟩ := trodAll_cons hA
    obtain ⟨v1, vs1, d1, ds1, p1, q1, rfl, rfl, rfl, h1, r_1⟩ := trodAll_cons r_0
    obtain ⟨rfl, rfl, rfl⟩ := trodAll_nil r_1
    obtain rfl : args = #[v0, v1] := by cases args; simp_all
    obtain ⟨a0, rfl, rfl, rfl, w0⟩ := open_int Try.underlying3 (hval 0 3 v0 rfl rfl) h0
    obtain ⟨a1, rfl, rfl, rfl, w1⟩ := open_int Try.underlying3 (hval 1 3 v1 rfl rfl) h1
    exact TreeRefused_walk a0 a1 W w0

theorem TreeRefused_holds : Rows.TreeRefusedSaid :=
  OpenClaim.holds_of_wide 7 Try.f7 rfl rfl rfl rfl rfl rfl rfl ⟨rfl, rfl, rfl, rfl, rfl⟩ rfl rfl rfl rfl rfl (by kernel_rfl) Try.func7 (by kernel_rfl)
    (of_decide_eq_true (by kernel_rfl)) (by unfold Func.isWrapper; first | (rw [if_pos (by decide +kernel)]; kernel_rfl) | (rw [if_neg (by decide +kernel)]; exact ⟨rfl, rfl⟩))
    (fun os started H enc _ => TreeRefused_lifted os started H enc)
end Go.Proofs.Ytjimamgghkgdeaa
