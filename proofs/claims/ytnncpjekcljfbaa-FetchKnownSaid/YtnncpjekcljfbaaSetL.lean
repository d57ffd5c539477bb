/- The texts of this hand-in, merged: KnownP. -/
import Derived.Test.YtnncpjekcljfbaaSetH
/- The closed statement's digests and numbers; what it keeps. -/
namespace Go.Proofs.Ytnncpjekcljfbaa
open Go.RowKit

/-! ### digests -/
def kR : Dig := rootM shaM sixD
def kS : Dig := leafM shaM [9]
def kP : List (List Dig) := proofM sixD 2 0
def kT : List Dig := group (aboveM shaM sixD) 0
theorem leaf89 : leafM shaM [8] ≠ kS := by unfold kS; decide +kernel
theorem k_above : aboveM shaM (aboveM shaM sixD) = [upM shaM kT] := rfl
theorem kT_up : upM shaM kT = kR := by
  unfold kR
  rw [rootM_more (by rw [sixD_length]; omega), rootM_more (by rw [aboveM_length, sixD_length]; decide), k_above, rootM_one]
theorem kT_eq : kT = [upM shaM [leafM shaM [1], leafM shaM [2], leafM shaM [3], leafM shaM [4]], upM shaM [leafM shaM [5], leafM shaM [6]]] := rfl
theorem kR_eq : kR = upM shaM [upM shaM [leafM shaM [1], leafM shaM [2], leafM shaM [3], leafM shaM [4]], upM shaM [leafM shaM [5], leafM shaM [6]]] := by rw [← kT_up, kT_eq]
theorem kRS : kR ≠ kS := by rw [kR_eq]; unfold kS; decide +kernel
theorem kP_eq : kP = [group sixD 0, kT] := rfl
theorem g0_length : (group sixD 0).length = 4 := by rw [group_length]; rfl
theorem kT_length : kT.length = 2 := by unfold kT; rw [group_length, aboveM_length]; rfl
theorem climb_k (n : Nat) (h : n = 6 ∨ n = 5) : climb n 0 (leafM shaM [1]) kP = some kR := by
  rw [kP_eq]
  rcases h with rfl | rfl <;>
  · rw [climb, if_neg (by omega), if_pos ⟨by rw [g0_length]; decide, rfl⟩]
    rw [climb, if_neg (by decide), if_pos ⟨by rw [kT_length]; decide, rfl⟩]
    show some (upM shaM kT) = some kR
    rw [kT_up]
theorem climb_k4 : climb 4 0 (leafM shaM [1]) kP = none := by
  rw [kP_eq, climb, if_neg (by omega), if_pos ⟨by rw [g0_length]; decide, rfl⟩]
  rfl
theorem c_a : chkZ kS 1 0 [9] [] = 0 := by
  unfold chkZ
  rw [if_neg (by omega), if_neg (by omega), if_neg (by simp)]
  exact if_pos rfl
theorem c_b : chkZ kS 1 0 [8] [] = 100 := by
  unfold chkZ
  rw [if_neg (by omega), if_neg (by omega), if_neg (by simp)]
  exact if_neg (fun h => leaf89 (Option.some.inj h))
theorem c_c : chkZ kS 1 0 [9] [[kS]] = 100 := by
  unfold chkZ
  rw [if_neg (by omega), if_neg (by omega), if_neg (by simp)]
  exact if_neg (fun h => by cases h)
theorem c_d (R : Bytes) (P : List (List Dig)) : chkZ kR 6 6 R P = 9 := by unfold chkZ; rw [if_neg (by omega), if_pos (by omega)]
theorem c_e (R : Bytes) (P : List (List Dig)) : chkZ kR 6 (-1) R P = 9 := by unfold chkZ; rw [if_neg (by omega), if_pos (by omega)]
theorem c_f (R : Bytes) (P : List (List Dig)) : chkZ kR 0 0 R P = 2 := by unfold chkZ; rw [if_pos (by omega)]
theorem c_g (R : Bytes) (P : List (List Dig)) : chkZ kR 1025 0 R P = 2 := by unfold chkZ; rw [if_pos (by omega)]
theorem c_h (R : Bytes) (P : List (List Dig)) (h : R.length = 65536) : chkZ kR 6 0 R P = 5 := by unfold chkZ; rw [if_neg (by omega), if_neg (by omega), if_pos (by omega)]
theorem c_k : chkZ kR 6 0 [1] kP = 0 := by
  unfold chkZ
  rw [if_neg (by omega), if_neg (by omega), if_neg (by simp)]
  exact if_pos (climb_k 6 (.inl rfl))
theorem c_l : chkZ kR 5 0 [1] kP = 0 := by
  unfold chkZ
  rw [if_neg (by omega), if_neg (by omega), if_neg (by simp)]
  exact if_pos (climb_k 5 (.inr rfl))
theorem c_m : chkZ kR 4 0 [1] kP = 100 := by
  unfold chkZ
  rw [if_neg (by omega), if_neg (by omega), if_neg (by simp)]
  exact if_neg (fun h => by have h2 := climb_k4.symm.trans h; cases h2)

/-! ### what the statement keeps -/
structure KS (w W : World) (b r q : Nat) (L : List Bytes) (Bp : Nat) (A : Option Addr) (l : List (SlC × List Dig)) (gr gs : Nat) (Bt : Nat) (vt : Value) (AL : Option Addr) (RL : Bytes) : Prop where
  ink : Ink0 w W b r q L
  prf : PrfAt W Bp A l
  top : OwnD W Bt vt kT
  dr : Blk W gr 46 (encB kR.1)
  ds : Blk W gs 46 (encB kS.1)
  lng : Byt W AL RL
section
variable {w W W' : World} {b r q : Nat} {L L' : List Bytes} {Bp : Nat} {A : Option Addr} {l : List (SlC × List Dig)} {gr gs Bt : Nat} {vt : Value} {AL : Option Addr} {RL : Bytes}
theorem KS.kept (h : KS w W b r q L Bp A l gr gs Bt vt AL RL) (hu : Kept W W') : KS w W' b r q L Bp A l gr gs Bt vt AL RL :=
  ⟨h.ink.kept hu, h.prf.kept hu, OwnRows.upd h.top hu (fun _ _ h => h), h.dr.kept hu, h.ds.kept hu, h.lng.kept hu⟩
theorem KS.to (h : KS w W b r q L Bp A l gr gs Bt vt AL RL) (hb : BookL W' b r q L') (hu : Upd (Book3 b r q) W W') : KS w W' b r q L' Bp A l gr gs Bt vt AL RL :=
  ⟨h.ink.to hb hu, h.prf.book h.ink.book hu, OwnRows.upd h.top hu (fun k e => by obtain ⟨cur, hc⟩ := own_cells h.top e; exact h.ink.book.not hc (by decide)), h.dr.upd hu (h.ink.book.not h.dr (by decide)), h.ds.upd hu (h.ink.book.not h.ds (by decide)), h.ink.book.byt h.lng hu⟩
theorem KS.rp (h : KS w W b r q L Bp A l gr gs Bt vt AL RL) : segB W ⟨gr, 0, none⟩ 32 = true ∧ segV W ⟨gr, 0, none⟩ 32 = dA kR := dig_at h.dr
theorem KS.sp (h : KS w W b r q L Bp A l gr gs Bt vt AL RL) : segB W ⟨gs, 0, none⟩ 32 = true ∧ segV W ⟨gs, 0, none⟩ 32 = dA kS := dig_at h.ds
end

/-! ### bytes and zero values that are made -/
@[go_sem ↓] theorem exec_make_bs (ρ : Operand → Value) (dst : Option Tmp) (l c : Operand) (ty : TypeId) (pos : String) (after : Array Edge) (guard : Option (Nat × Bool)) :
    execOp ρ ⟨dst, .makeSlice 35 l c, ty, pos, after, guard⟩ = makeRow 35 (ρ l) (ρ c) := rfl
theorem run_make_bz (n : Nat) (z : Int) (hz : z = n) (hn : n ≤ 100000) (W : World) : ∃ W' R, (makeRow 35 (.int .i64 z) (.int .i64 z)).run Try.prog W = .ok (.value (.slice (some ⟨W.heap.size, 0, none⟩) n n)) W' ∧ (R.length = n ∧ Byt W' (some ⟨W.heap.size, 0, none⟩) R) ∧ Kept W W' := by
  subst hz
  obtain ⟨i, hi, hz0, hz1, hz2⟩ := u8_info
  have h := run_make (P := Try.prog) W 35 5 i (.int .u8 0) Try.underlying35 hi hz0 .i64 .i64 (n : Int) (n : Int) (by omega) (by omega) (by rw [hz2]; omega) (by omega)
  rw [hz1, Int.toNat_natCast, Nat.mul_one] at h
  refine ⟨W.alloc (.cells (madeCells (Value.cells (.int .u8 0)) n) 5), List.replicate n 0, by simp only [makeRow, Sem.run_bind, h, Result.andThen_ok, Sem.run_pure], ⟨List.length_replicate, .inr ⟨W.heap.size, 0, rfl, fun j v hv => ?_⟩⟩, (Upd.refl _ W).alloc _⟩
  rw [cell_of_row _ W.heap.size _ _ _ _ (heap_alloc_new W _), Nat.zero_add]
  rw [encB, List.getElem?_map] at hv
  obtain ⟨u, hu, rfl⟩ := Option.map_eq_some_iff.1 hv
  obtain ⟨hj, rfl⟩ := List.getElem?_eq_some_iff.1 hu
  have hjn : j < n := by simpa using hj
  simp [madeCells, Value.cells, hjn]
  first | done | rfl | simp [Nat.mod_one]
def treeZ : Array Value := #[.pointer none, .int .i64 0, .int .u32 0, .int .i32 0, .int .u32 0, .nilFunc, .slice none 0 0]
@[go_sem] theorem run_build_tree0 (W : World) : (buildRow 103 #[]).run Try.prog W = .ok (.value (.agg treeZ)) W := by
  have H := run_build (P := Try.prog) W 103 #[] treeZ (by kernel_rfl)
  simp [buildRow, H, Result.andThen]
end Go.Proofs.Ytnncpjekcljfbaa
