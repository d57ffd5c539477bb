/- ink: Len, Clash, Of of a book that is none. -/
import Derived.Test.YtjimamgghkgdeaaTreeM
namespace Go.Proofs.Ytjimamgghkgdeaa
open Go.RowKit

theorem ink_Len {w : World} {b r q : Nat} {L : List Bytes} {I : List (Dig × Bytes)} {M : List Bytes} {n : Int} (h : BookAt w b r q L I M n) :
    Calls Try.prog 33 #[.pointer (some ⟨b, 0, none⟩)] w fun e W => e = .returned (.int .i64 (IntKind.i64.wrap L.length)) ∧ Kept w W := by
  have f0 : ∀ W, Kept w W → W.cell? ⟨b, 0, none⟩ = some (.map (some r)) := fun W hW => (h.kept hW).c0
  have f1 : ∀ W, Kept w W → W.cell? ⟨b, 1, none⟩ = some (.map (some q)) := fun W hW => (h.kept hW).c1
  have f2 : ∀ W, Kept w W → (Builtin.len_ #[67] 3 #[.map (some r)]).run Try.prog W = .ok (.int .i64 I.length) W := fun W hW => by
    have := run_len_at Try.underlying67 (h.kept hW).ins 3
    rwa [inV, List.length_map] at this
  have f3 : ∀ W, Kept w W → (Builtin.len_ #[68] 3 #[.map (some q)]).run Try.prog W = .ok (.int .i64 M.length) W := fun W hW => by
    have := run_len_at Try.underlying68 (h.kept hW).mor 3
    rwa [moV, List.length_map] at this
  have hc := h.c0
  have hlen : Hid (IntKind.i64.wrap (I.length + M.length) = IntKind.i64.wrap L.length) := by
    show _ = _
    rw [← h.inv.len]; simp
  clear h
  go_enter Try.func33, Try.ntmps33
  go_wp2_with fail
  refine (ink_none hc).mono ?_
  rintro e w' ⟨rfl, rfl⟩
  go_wp2_with fail
  refine wp_region_ord [(0, true), (1, true), (2, true), (3, true), (4, true), (5, true), (6, true), (7, true), (8, true), (9, true), (10, true), (11, true)] (by kernel_rfl) (by kernel_rfl) (Kept w) (Upd.refl _ w).drew ?_
  simp only [ordOps, List.getD_cons_zero, List.getD_cons_succ]
  iterate 12 (refine wpOrd_held (fun K hK => ?_); go_simp; first | (apply Exists.intro; refine ⟨fun W hW => ?_, hK _ ?_⟩; (go_simp; first | done | exact rfl); clear hK K) | (refine hK _ ?_; clear hK K))
  refine wpOrd_nil ?_
  rw [hlen.out]
  clear f0 f1 f2 f3
  have HK : Hid (Kept w w.drew) := (Upd.refl _ w).drew
  generalize w.drew = w1 at *
  go_wp2
  go_ret
  exact ⟨rfl, HK.out⟩

set_option maxRecDepth 20000 in
theorem ink_Clash {w : World} {b r q : Nat} {L : List Bytes} {I : List (Dig × Bytes)} {M : List Bytes} {n : Int} (h : BookAt w b r q L I M n) :
    Calls Try.prog 42 #[.pointer (some ⟨b, 0, none⟩)] w fun e W => e = .returned (.bool (clashB I M)) ∧ Kept w W := by
  have hc := h.c0
  have hc1 := h.c1
  have f2 : (Builtin.len_ #[68] 3 #[.map (some q)]).run Try.prog w = .ok (.int .i64 M.length) w := by
    have := run_len_at Try.underlying68 h.mor 3
    rwa [moV, List.length_map] at this
  have f3 := run_lookup_at dig_enc Try.underlying67 str_zero h.ins (x := dig0) trivial true
  rw [getL_inV] at f3
  have HC : Hid (((findI dig0 I).isSome || decide (0 < M.length)) = clashB I M) := rfl
  clear h
  cases hf : findI dig0 I with
  | none =>
    rw [hf] at HC f3
    change (Instr.lookup 67 (.map (some r)) (.agg (dA dig0)) true).run Try.prog w = .ok (.tuple #[.string ByteArray.empty, .bool false]) w at f3
    go_enter Try.func42, Try.ntmps42
    go_wp2_with fail
    refine (ink_none hc).mono ?_
    rintro e w' ⟨rfl, rfl⟩
    go_wp2
    go_ret
    refine ⟨?_, Upd.refl _ _⟩
    rw [← HC.out]
    simp
  | some x =>
    rw [hf] at HC f3
    change (Instr.lookup 67 (.map (some r)) (.agg (dA dig0)) true).run Try.prog w = .ok (.tuple #[.string (strB x), .bool true]) w at f3
    go_enter Try.func42, Try.ntmps42
    go_wp2_with fail
    refine (ink_none hc).mono ?_
    rintro e w' ⟨rfl, rfl⟩
    go_wp2
    go_ret
    refine ⟨?_, Upd.refl _ _⟩
    rw [← HC.out]
    simp
end Go.Proofs.Ytjimamgghkgdeaa
