/- The document's helpers CopyInts, EqInts. -/
import Derived.Test.YtjnaenmknbcjmaaTagT
import Derived.Deep.AppendSrc
import Derived.Deep.Upon
namespace Go.Proofs.Ytjnaenmknbcjmaa
open Go.RowKit

set_option maxHeartbeats 1000000 in
theorem ref_EqInts {w : World} {A A' : Option Addr} {R R' : List Int} (c c' : Nat) (hR : Ints w A R) (hR' : Ints w A' R') (hl : R.length * 8 ≤ 140737488351232) (heq : R = R') :
    Calls Try.prog 24 #[.slice A R.length c, .slice A' R'.length c'] w fun e w' => e = .returned (.bool true) ∧ Kept w w' := by
  subst heq
  go_enter Try.func24, Try.ntmps24
  go_wp2_with fail
  go_loopw [5] (fun i wr => ∃ k : Nat, k ≤ R.length ∧ i = .int .i64 k ∧ Kept w wr) (fun i _ => R.length - (intOf i).toNat)
  case atStart => exact ⟨0, Nat.zero_le _, rfl, Upd.refl _ _⟩
  case round =>
    obtain ⟨k, hk, rfl, hu⟩ := hrel
    by_cases hlt : k < R.length
    · obtain ⟨gb, off, rfl, hcR⟩ := (hR.upd hu (fun _ h => h.elim)).get hlt
      obtain ⟨gb', off', rfl, hcR'⟩ := (hR'.upd hu (fun _ h => h.elim)).get hlt
      generalize R[k] = x at *
      go_wp2_with fail
      go_region
      have HU := Lib.hid hu.drew
      clear hu
      go_wp2
      go_roundw
      case rel => exact ⟨k + 1, by omega, by go_num, HU.out⟩
      case measure => simp [intOf]; omega
    · obtain rfl : k = R.length := by omega
      have HU := Lib.hid hu
      clear hu
      go_wp2
      go_ret
      exact ⟨rfl, HU.out⟩

theorem int_info : ∃ i, Try.prog.info? 3 = some i ∧ i.zero = some (.int .i64 0) ∧ i.size = 1 ∧ i.bytes = 8 := by
  have h : (Try.prog.info? 3).map (fun i => (i.zero, i.size, i.bytes)) = some (some (.int .i64 0), 1, 8) := by kernel_rfl
  obtain ⟨i, hi, h2⟩ := Option.map_eq_some_iff.1 h
  simp only [Prod.mk.injEq] at h2
  exact ⟨i, hi, h2.1, h2.2.1, h2.2.2⟩

theorem wpList_append_nothing {P : Program} {w : World} {ops : Array Oper} {rest : List Oper} {o : Oper} {a : Act} {Q : Exit → Act → World → Prop} (hgd : o.guard = none) (s x : Operand) (t e : TypeId) (ho : o.op = .call { callee := .builtin .append, args := #[s, x], argTypes := #[t, t] })
    (i : TypeInfo) (ht : P.underlying t = some (.slice e)) (hi : P.info? e = some i) (base : Option Addr) (n m : Nat) (hle : n ≤ m) (hs : a.eval s = .slice base n m) (A : Option Addr) (c : Nat) (hx : a.eval x = .slice A 0 c)
    (h : wpList P ops Q rest (a.put o.dst (.slice base n m)) w) : wpList P ops Q (o :: rest) a w := by
  refine wpList_plain hgd fun K hK => ?_
  have hsrc : Src P i.size t (.slice A 0 c) 0 [] w := by
    cases A with
    | none => exact Src.ofNil w ht c
    | some ad => exact Src.ofSlice w ht ad 0 c [] (by simp) (fun j u hu => by simp at hu) (fun u hu => by cases hu)
  have hr := run_append_nothing w t t o.type e i ht hi base n m hle _ hsrc
  unfold Oper.wp execOp
  simp only [ho, resolve, invoke, builtin, Sem.run_bind, Sem.run_pure, Result.andThen_ok, List.map_toArray, List.map_cons, List.map_nil, hs, hx, hr]
  exact hK _ _ h

set_option maxHeartbeats 1000000 in
theorem ref_CopyInts {w : World} {A : Option Addr} {R : List Int} (c : Nat) (hR : Ints w A R) (hl : R.length * 8 ≤ 140737488351232) :
    Calls Try.prog 21 #[.slice A R.length c] w fun e w' => ∃ A' c', e = .returned (.slice A' R.length c') ∧ w'.ownsRow w.heap.size 3 1 (.slice A' R.length c') R.length (R.map (Value.int .i64)) ∧ Kept w w' := by
  obtain ⟨i0, hi, hz0, hz1, hz2⟩ := int_info
  go_enter Try.func21, Try.ntmps21
  rcases hR with rfl | ⟨b, off, rfl, hc⟩
  · go_wp2_with (at_builtin; refine wpList_append_nothing rfl (.tmp 4) (.tmp 5) 30 3 rfl i0 Try.underlying30 hi none 0 0 (Nat.le_refl _) rfl A c rfl ?_)
    go_ret
    exact ⟨none, 0, rfl, World.ownsRow_nil _ _ _ _, Upd.refl _ _⟩
  · have HC := Lib.hid hc
    clear hc
    go_wp2_with (at_builtin; refine wpList_append_own _ rfl (.tmp 4) (.tmp 5) 30 rfl w.heap.size 3 i0 (.int .i64 0) 1 8 Try.underlying30 hi hz0 hz1 hz2 rfl (by decide) (.slice none 0 0) 0 [] rfl (World.ownsRow_nil _ _ _ _) ⟨b, off, none⟩ R.length c (R.map (Value.int .i64)) rfl (by simp) (fun j u hu => by obtain ⟨hx, rfl⟩ := List.getElem?_eq_some_iff.1 hu; rw [add_none]; simpa using HC.out j (by simpa using hx)) (fun u hu => by obtain ⟨x, _, rfl⟩ := List.mem_map.1 hu; rfl) (by unfold maxLen; omega) (by omega) (Nat.le_refl _) ?_; intro v' w' hown hgr hnil)
    rw [Nat.zero_add, List.nil_append] at hown
    have hf : ∃ A' c', v' = .slice A' R.length c' := by
      rcases hown.2 with ⟨rfl, h0⟩ | ⟨g, cap, cur, rfl, _⟩
      · exact ⟨_, _, by rw [h0]⟩
      · exact ⟨_, _, rfl⟩
    obtain ⟨A', c', rfl⟩ := hf
    have hk : Kept w w' := (Upd.of_grown hgr).mono fun k _ h => by cases h
    clear hnil hgr HC
    go_ret
    exact ⟨A', c', rfl, hown, hk⟩
end Go.Proofs.Ytjnaenmknbcjmaa
