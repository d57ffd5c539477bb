/- Next tells the oldest one whose writer and reader are in the set: the statement BagNext holds. For every input. -/
import Derived.Test.YtkfekkemfahepaaBagQ
namespace Go.Proofs.Ytkfekkemfahepaa
open Go.ChangeShapes Go.WideShapes Go.ChangeAt Go.RowKit

theorem nextM_hit {N : List Note} {set : Int} {k : Nat} (hk : k < N.length) (h : hitS set N[k] = true) (hno : ∀ j (hj : j < N.length), j < k → hitS set N[j] = false) : nextM N set = k := by
  unfold nextM
  have : N.findIdx? (hitS set) = some k := by
    rw [List.findIdx?_eq_some_iff_getElem]
    exact ⟨hk, h, fun j hj => by simpa using hno j (by omega) hj⟩
  rw [this]
theorem nextM_miss {N : List Note} {set : Int} (hno : ∀ j (hj : j < N.length), hitS set N[j] = false) : nextM N set = -1 := by
  unfold nextM
  have : N.findIdx? (hitS set) = none := by
    rw [List.findIdx?_eq_none_iff]
    intro m hm
    obtain ⟨j, hj, rfl⟩ := List.mem_iff_getElem.1 hm
    exact hno j hj
  rw [this]

set_option maxHeartbeats 4000000 in
set_option maxRecDepth 20000 in
theorem BagNext_walk (A : Option Addr) (R : List Int) (c : Nat) (set : Int) (w : World) (hR : Ints w A R) (hlen : R.length * 8 ≤ 140737488351232) (hwf : ∀ x ∈ R, (Lit.int .i64 x).wf = true) :
    Calls Try.prog 8 #[.slice A R.length c, .int .i64 set] w fun e w' => e = .returned (.bool true) ∧ Kept w w' := by
  go_enter Try.func8, Try.ntmps8
  go_wp2_with fail
  refine (law_works _).mono ?_
  rintro e W1 ⟨rfl, hu⟩
  go_wp2_with fail
  refine (law_played _ R _ w W1 hu hR hlen hwf).mono ?_
  rintro e W2 ⟨b, p, t, N, s, l, P, T, rfl, h, hp⟩
  have HP := Lib.hid hp
  have HWF := Lib.hid hwf
  clear hu hp hwf hR
  have hN60 := HP.out.n
  have hs0 := HP.out.s0
  have hs1 := HP.out.s1
  have hl0 := HP.out.l0
  have hl1 := HP.out.l1
  go_wp2_with fail
  refine (h.Next (by omega) set).mono ?_
  rintro e W3 ⟨rfl, h'⟩
  clear h
  have h := h'
  clear h'
  obtain ⟨ans, hans⟩ : ∃ ans, nextM N set = ans := ⟨_, rfl⟩
  rw [hans]
  have HA := Lib.hid hans
  clear hans
  go_wp2_with fail
  go_loopw [9] (fun i wr => ∃ k : Nat, k ≤ N.length ∧ i = .int .i64 k ∧ LB w wr b N s l p P t T [] [] ∧ ∀ j (hj : j < N.length), j < k → hitS set N[j] = false) (fun i _ => N.length - (intOf i).toNat)
  case atStart => exact ⟨0, Nat.zero_le _, rfl, h, fun j _ hj => absurd hj (Nat.not_lt_zero j)⟩
  case round =>
    clear h
    obtain ⟨k, hk, rfl, h, hno⟩ := hrel
    have HNO := Lib.hid hno
    clear hno
    go_wp2_with fail
    refine h.Len.mono ?_
    rintro e W4 ⟨rfl, rfl⟩
    by_cases hlt : k < N.length
    · go_wp2_with fail
      refine (h.Look k hlt).mono ?_
      rintro e W5 ⟨x, rfl, h'⟩
      have hnm := h.named _ (List.getElem_mem hlt)
      clear h
      have h := h'.alloc (.cells (envA x) 29)
      clear h'
      have hx := (h.y (x, N[k]) (by simp)).at_
      have v := h.var (g := W5.heap.size) (x := x) (by simp)
      have hh : Hid (hitS set N[k] = (inS set x.f && inS set x.t)) := by show _ = _; rw [hx.f, hx.t]; rfl
      rw [← hx.f, ← hx.t] at hnm
      have hf : 1 ≤ x.f ∧ x.f ≤ 34 := by simpa [namedB] using hnm.1
      have ht : 1 ≤ x.t ∧ x.t ≤ 34 := by simpa [namedB] using hnm.2
      obtain ⟨hf0, hf1⟩ := hf
      obtain ⟨ht0, ht1⟩ := ht
      have c0 := v.c0
      have c1 := v.c1
      clear v hx hnm
      obtain ⟨b1, hb1⟩ : ∃ b1, inS set x.f = b1 := ⟨_, rfl⟩
      obtain ⟨b2, hb2⟩ : ∃ b2, inS set x.t = b2 := ⟨_, rfl⟩
      rw [hb1, hb2] at hh
      unfold inS at hb1 hb2
      cases b1
      · go_wp2
        go_roundw
        case rel => exact ⟨k + 1, by omega, by go_num, h.less (by simp) (by simp), fun j hj hjk => by
          by_cases hjk' : j = k
          · subst hjk'; exact hh.out
          · exact HNO.out j hj (by omega)⟩
        case measure => simp [intOf]; omega
      · cases b2
        · go_wp2
          go_roundw
          case rel => exact ⟨k + 1, by omega, by go_num, h.less (by simp) (by simp), fun j hj hjk => by
            by_cases hjk' : j = k
            · subst hjk'; exact hh.out
            · exact HNO.out j hj (by omega)⟩
          case measure => simp [intOf]; omega
        · have hk2 : ans = k := by rw [← HA.out]; exact nextM_hit hlt hh.out HNO.out
          subst hk2
          go_wp2
          go_ret
          exact ⟨by simp, h.k⟩
    · obtain rfl : N.length = k := by omega
      have hk2 : ans = -1 := by rw [← HA.out]; exact nextM_miss fun j hj => HNO.out j hj hj
      subst hk2
      go_wp2
      go_ret
      exact ⟨by simp, h.k⟩
set_option maxRecDepth 100000 in
theorem BagNext_lifted (os : Os) (started : os.Started) (H : Type) (enc : TypeId × Value → H) :
    ReturnsInHanded {} Try.checked os 8 .any (Rows.bagNextSpec.pre6 enc Try.prog Try.f8 Rows.bagNextRow.domain false) (Rows.bagNextSpec.post enc Try.prog Try.f8 false true false false) := by
  refine law_lifted os started Try.func8 (by kernel_rfl) rfl rfl (by kernel_rfl) ?_
    (ChangeSpec.witness6 (enc := enc) (C := Try.checked) false ⟨#[], #[.slice none 0 0, .int .i64 0], []⟩ 8 (by kernel_rfl) (by kernel_rfl) (by kernel_rfl) (by kernel_rfl)) ?_
  · intro ds h
    rw [Try.params8] at h
    match ds, h with
    | [d0, d1], _ => rfl
  · intro W base args ds ps hval hA hsz
    rw [Try.params8] at hA hval hsz
    obtain ⟨v0, vs0, d0, ds0, p0, q0, hargs, rfl, rfl, h0, r_0⟩ := trodAll_cons hA
    obtain ⟨v1, vs1, d1, ds1, p1, q1, rfl, rfl, rfl, h1, r_1⟩ := trodAll_cons r_0
    obtain ⟨rfl, rfl, rfl⟩ := trodAll_nil r_1
    obtain rfl : args = #[v0, v1] := by cases args; simp_all
    obtain ⟨A0, n0, c0, rfl⟩ := okWide_slice Try.underlying44 (hval 0 44 v0 rfl rfl)
    have r0 := ReadsAs.of_trod hsz (j := 0) rfl rfl h0
    obtain ⟨a1, rfl, rfl, rfl, w1⟩ := open_int Try.underlying3 (hval 1 3 v1 rfl rfl) h1
    obtain ⟨A, R, cap, hcs, hlen, hwf, hR⟩ := r0.ints Try.underlying44 Try.underlying3 int_cells (by kernel_rfl)
    simp only [Value.cells, List.cons.injEq, Value.slice.injEq, and_true] at hcs
    obtain ⟨rfl, rfl, rfl⟩ := hcs
    exact BagNext_walk _ R _ a1 W hR hlen hwf

theorem BagNext_holds : Rows.BagNextSaid :=
  OpenClaim.holds_of_wide 8 Try.f8 rfl rfl rfl rfl rfl rfl rfl ⟨rfl, rfl, rfl, rfl, rfl⟩ rfl rfl rfl rfl rfl (by kernel_rfl) Try.func8 (by kernel_rfl)
    (of_decide_eq_true (by kernel_rfl)) (by unfold Func.isWrapper; first | (rw [if_pos (by decide +kernel)]; kernel_rfl) | (rw [if_neg (by decide +kernel)]; exact ⟨rfl, rfl⟩))
    (fun os started H enc _ => BagNext_lifted os started H enc)
end Go.Proofs.Ytkfekkemfahepaa
