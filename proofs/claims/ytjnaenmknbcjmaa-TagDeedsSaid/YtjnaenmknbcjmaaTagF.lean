/- The statements' helper made: a ledger of deeds. -/
import Derived.Test.YtjnaenmknbcjmaaTagE
import Derived.Test.YtjnaenmknbcjmaaOpen
import Derived.Test.YtjnaenmknbcjmaaOrd
namespace Go.Proofs.Ytjnaenmknbcjmaa
open Go.ChangeShapes Go.WideShapes Go.ChangeAt Go.RowKit Go.Deep

theorem exists_list {α : Type} {p : Nat → α → Prop} : ∀ (n : Nat), (∀ i, i < n → ∃ x, p i x) → ∃ l : List α, l.length = n ∧ ∀ i (h : i < l.length), p i l[i]
  | 0, _ => ⟨[], rfl, fun i h => absurd h (Nat.not_lt_zero i)⟩
  | n + 1, h => by
    obtain ⟨l, hl, hp⟩ := exists_list n fun i hi => h i (by omega)
    obtain ⟨x, hx⟩ := h n (by omega)
    refine ⟨l ++ [x], by simp [hl], fun i hi => ?_⟩
    by_cases hin : i < l.length
    · rw [List.getElem_append_left hin]; exact hp i hin
    · obtain rfl : i = n := by simp at hi; omega
      rw [List.getElem_append_right (by omega)]
      simpa [hl] using hx

/-- a deed, and where its readers lie -/
structure DeedV where
  k : Int
  f : Int
  t : Int
  A : Option Addr
  R : List Int
  c : Nat
  d : Int
  af : Int
  at_ : Int

structure DeedAt (W : World) (b off : Nat) (x : DeedV) : Prop where
  k : W.cell? ⟨b, off, none⟩ = some (.int .i64 x.k)
  f : W.cell? ⟨b, off + 1, none⟩ = some (.int .i64 x.f)
  t : W.cell? ⟨b, off + 2, none⟩ = some (.int .i64 x.t)
  r : W.cell? ⟨b, off + 3, none⟩ = some (.slice x.A x.R.length x.c)
  d : W.cell? ⟨b, off + 4, none⟩ = some (.int .u8 x.d)
  af : W.cell? ⟨b, off + 5, none⟩ = some (.int .i64 x.af)
  at_ : W.cell? ⟨b, off + 6, none⟩ = some (.int .i64 x.at_)
  ints : Ints W x.A x.R

structure DeedOk (x : DeedV) : Prop where
  k : (Lit.int .i64 x.k).wf = true
  f : (Lit.int .i64 x.f).wf = true
  t : (Lit.int .i64 x.t).wf = true
  d0 : 0 ≤ x.d
  d1 : x.d ≤ 255
  af : (Lit.int .i64 x.af).wf = true
  at_ : (Lit.int .i64 x.at_).wf = true
  len : x.R.length * 8 ≤ reachBytes
  rs : ∀ y ∈ x.R, (Lit.int .i64 y).wf = true

/-- a slice of deeds -/
def Deeds (W : World) (A : Option Addr) (l : List DeedV) : Prop := l = [] ∨ ∃ b off, A = some ⟨b, off, none⟩ ∧ ∀ k (h : k < l.length), DeedAt W b (off + k * 7) l[k]

theorem Deeds.get {W : World} {A : Option Addr} {l : List DeedV} (h : Deeds W A l) {k : Nat} (hk : k < l.length) : ∃ b off, A = some ⟨b, off, none⟩ ∧ DeedAt W b (off + k * 7) l[k] := by
  rcases h with rfl | ⟨b, off, rfl, h⟩
  · simp at hk
  · exact ⟨b, off, rfl, h k hk⟩

theorem DeedAt.kept {W W' : World} {b off : Nat} {x : DeedV} (h : DeedAt W b off x) (hu : Kept W W') : DeedAt W' b off x :=
  ⟨hu.cell h.k id, hu.cell h.f id, hu.cell h.t id, hu.cell h.r id, hu.cell h.d id, hu.cell h.af id, hu.cell h.at_ id, h.ints.upd hu fun _ h => h.elim⟩
theorem Deeds.kept {W W' : World} {A : Option Addr} {l : List DeedV} (h : Deeds W A l) (hu : Kept W W') : Deeds W' A l := by
  rcases h with rfl | ⟨b, off, rfl, h⟩
  · exact .inl rfl
  · exact .inr ⟨b, off, rfl, fun k hk => (h k hk).kept hu⟩

theorem u8_range {n : Int} (h : (Lit.int .u8 n).wf = true) : 0 ≤ n ∧ n ≤ 255 := by
  simpa [Lit.wf, IntKind.min, IntKind.max, IntKind.signed, IntKind.bits] using h

set_option maxRecDepth 100000 in
theorem open_deeds {H : Type} {enc : TypeId × Value → H} {W : World} {cs : List Value} (h : ReadsAs enc Try.prog W 22 cs) :
    ∃ A l cap, cs = [.slice A l.length cap] ∧ l.length * 72 ≤ reachBytes ∧ Deeds W A l ∧ ∀ x ∈ l, DeedOk x := by
  obtain ⟨A, len, cap, rfl, _, _, hw, hi⟩ := h.slice Try.underlying22 (n := 7) (by kernel_rfl) (by omega)
  have h72 : Try.prog.bytesOf 32 = 72 := by kernel_rfl
  rw [h72] at hw
  have key : ∀ i, i < len → ∃ x : DeedV, DeedOk x ∧ ∃ b off, A = some ⟨b, off, none⟩ ∧ DeedAt W b (off + i * 7) x := by
    intro i hil
    obtain ⟨b, off, cs', hA, hl, hc, hr⟩ := hi i hil
    obtain ⟨_, hf⟩ := hr.struct Try.underlying32
    match cs', hl with
    | [c0, c1, c2, c3, c4, c5, c6], _ =>
      have e0 := hf 0 _ rfl
      have e1 := hf 1 _ rfl
      have e2 := hf 2 _ rfl
      have e3 := hf 3 _ rfl
      have e4 := hf 4 _ rfl
      have e5 := hf 5 _ rfl
      have e6 := hf 6 _ rfl
      have ri : Try.prog.cellsOf 30 = 1 := by kernel_rfl
      try simp only [int_cells, u8_cells, ri, List.drop_zero, List.drop_succ_cons, List.take_succ_cons, List.take_zero] at e0
      try simp only [int_cells, u8_cells, ri, List.drop_zero, List.drop_succ_cons, List.take_succ_cons, List.take_zero] at e1
      try simp only [int_cells, u8_cells, ri, List.drop_zero, List.drop_succ_cons, List.take_succ_cons, List.take_zero] at e2
      try simp only [int_cells, u8_cells, ri, List.drop_zero, List.drop_succ_cons, List.take_succ_cons, List.take_zero] at e3
      try simp only [int_cells, u8_cells, ri, List.drop_zero, List.drop_succ_cons, List.take_succ_cons, List.take_zero] at e4
      try simp only [int_cells, u8_cells, ri, List.drop_zero, List.drop_succ_cons, List.take_succ_cons, List.take_zero] at e5
      try simp only [int_cells, u8_cells, ri, List.drop_zero, List.drop_succ_cons, List.take_succ_cons, List.take_zero] at e6
      obtain ⟨k, hk, wk⟩ := e0.int Try.underlying3
      obtain ⟨f, hf', wf⟩ := e1.int Try.underlying3
      obtain ⟨t, ht, wt⟩ := e2.int Try.underlying3
      obtain ⟨RA, R, rc, hR, hlen, hwR, hI⟩ := e3.ints Try.underlying30 Try.underlying3 int_cells (by kernel_rfl)
      obtain ⟨d, hd, wd⟩ := e4.int Try.underlying5
      obtain ⟨af, haf, waf⟩ := e5.int Try.underlying3
      obtain ⟨at_, hat, wat⟩ := e6.int Try.underlying3
      obtain rfl := (List.cons.inj hk).1
      obtain rfl := (List.cons.inj hf').1
      obtain rfl := (List.cons.inj ht).1
      obtain rfl := (List.cons.inj hR).1
      obtain rfl := (List.cons.inj hd).1
      obtain rfl := (List.cons.inj haf).1
      obtain rfl := (List.cons.inj hat).1
      obtain ⟨d0, d1⟩ := u8_range wd
      refine ⟨⟨k, f, t, RA, R, rc, d, af, at_⟩, ⟨wk, wf, wt, d0, d1, waf, wat, hlen, hwR⟩, b, off, hA, ⟨?_, ?_, ?_, ?_, ?_, ?_, ?_, hI⟩⟩
      · simpa using hc 0 (by omega)
      · simpa using hc 1 (by omega)
      · simpa using hc 2 (by omega)
      · simpa using hc 3 (by omega)
      · simpa using hc 4 (by omega)
      · simpa using hc 5 (by omega)
      · simpa using hc 6 (by omega)
  obtain ⟨l, hll, hl⟩ := exists_list len key
  refine ⟨A, l, cap, by rw [hll], by rw [hll]; exact hw, ?_, fun x hx => ?_⟩
  · rcases Nat.eq_zero_or_pos len with h0 | h0
    · exact .inl (List.eq_nil_of_length_eq_zero (by omega))
    · obtain ⟨_, b, off, hA, _⟩ := hl 0 (by omega)
      refine .inr ⟨b, off, hA, fun k hk => ?_⟩
      obtain ⟨_, b', off', hA', hd⟩ := hl k hk
      rw [hA] at hA'
      simp only [Option.some.injEq, Addr.mk.injEq, and_true] at hA'
      obtain ⟨rfl, rfl⟩ := hA'
      exact hd
  · obtain ⟨i, hi, rfl⟩ := List.mem_iff_getElem.1 hx
    exact (hl i hi).1

/-! ### made -/
def stepM (L : List Ent) (x : DeedV) : List Ent :=
  if x.k % 3 = 0 then (tagM L x.f x.t (digI x.d)).1 else if x.k % 3 = 1 then (vecM L x.f x.R (digI x.d)).1 else L
def madeM (l : List DeedV) : List Ent := (l.take 60).foldl stepM []

set_option maxHeartbeats 2000000 in
theorem law_made (A : Option Addr) (l : List DeedV) (c : Nat) (w : World) (hD : Deeds w A l) (hok : ∀ x ∈ l, DeedOk x) (hlen : l.length * 72 ≤ reachBytes) :
    Calls Try.prog 32 #[.slice A l.length c] w fun e w' => ∃ b r, e = .returned (.pointer (some ⟨b, 0, none⟩)) ∧ LedAt w' b r (madeM l) 0 ∧ Kept w w' ∧ w.heap.size ≤ b ∧ w.heap.size ≤ r := by
  unfold reachBytes at hlen
  have HO := Lib.hid hok
  clear hok
  go_enter Try.func32, Try.ntmps32
  go_wp2_with fail
  refine (tag_New _).mono ?_
  rintro e W1 ⟨b, r, rfl, hL, hu, hb, hr⟩
  go_wp2_with fail
  go_loopw [4] (fun i wr => ∃ k : Nat, k ≤ l.length ∧ k ≤ 60 ∧ i = .int .i64 k ∧ LedAt wr b r ((l.take k).foldl stepM []) 0 ∧ Kept w wr) (fun i _ => 60 - (intOf i).toNat)
  case atStart => exact ⟨0, Nat.zero_le _, Nat.zero_le _, rfl, hL, hu⟩
  case round =>
    clear hL hu
    obtain ⟨k, hk, hk6, rfl, hL, hu⟩ := hrel
    have HL := Lib.hid hL
    have HU := Lib.hid hu
    clear hL hu
    by_cases hlt : k < l.length
    · by_cases hlt6 : k < 60
      · obtain ⟨gb, off, rfl, hD1⟩ := hD.get hlt
        have hok := HO.out l[k] (List.getElem_mem hlt)
        have hst : (l.take (k + 1)).foldl stepM [] = stepM ((l.take k).foldl stepM []) l[k] := by rw [List.take_succ_eq_append_getElem hlt, List.foldl_append]; rfl
        have HST := Lib.hid hst
        clear hst
        generalize (l.take k).foldl stepM [] = L1 at *
        generalize l[k] = x at *
        have f0 : ∀ W, Kept w W → W.cell? ⟨gb, off + k * 7, none⟩ = some (.int .i64 x.k) := fun W hW => hW.cell hD1.k id
        have f1 : ∀ W, Kept w W → W.cell? ⟨gb, off + k * 7 + 1, none⟩ = some (.int .i64 x.f) := fun W hW => hW.cell hD1.f id
        have f2 : ∀ W, Kept w W → W.cell? ⟨gb, off + k * 7 + 2, none⟩ = some (.int .i64 x.t) := fun W hW => hW.cell hD1.t id
        have f3 : ∀ W, Kept w W → W.cell? ⟨gb, off + k * 7 + 3, none⟩ = some (.slice x.A x.R.length x.c) := fun W hW => hW.cell hD1.r id
        have f4 : ∀ W, Kept w W → W.cell? ⟨gb, off + k * 7 + 4, none⟩ = some (.int .u8 x.d) := fun W hW => hW.cell hD1.d id
        have hW := HU.out
        have hd0 := hok.d0
        have hd1 := hok.d1
        go_wp2_with fail
        refine (ref_Bring _ _ hok.k (by omega) (by omega) _).mono ?_
        rintro e W2 ⟨rfl, rfl⟩
        have hm := mod_range x.k 3 (by omega)
        have HM : Hid (∃ m, m = x.k % 3) := ⟨_, rfl⟩
        rcases (by omega : x.k % 3 = 0 ∨ x.k % 3 = 1 ∨ x.k % 3 = 2) with hm0 | hm0 | hm0
        · have HE : Hid ((l.take (k + 1)).foldl stepM [] = (tagM L1 x.f x.t (digI x.d)).1) := by show _ = _; rw [HST.out, stepM, if_pos hm0]
          clear hm HM
          rw [hm0]
          clear hm0
          go_wp2_with fail
          refine wp_region_ord [(0, true), (1, true), (2, true), (3, true), (4, true), (5, true), (6, true), (7, true), (8, true), (9, true), (10, true), (11, true), (12, true), (13, true), (14, true), (15, true), (16, false), (17, false)] (by kernel_rfl) (by kernel_rfl) (Kept w) (hW.drew) ?_
          simp only [ordOps, List.getD_cons_zero, List.getD_cons_succ]
          iterate 16 (refine wpOrd_held (fun K hK => ?_); go_simp; first | (apply Exists.intro; refine ⟨fun W hW => ?_, hK _ ?_⟩; (go_simp; first | done | exact rfl); clear hK K) | (refine hK _ ?_; clear hK K))
          refine wpOrd_step (fun K hK => ?_) hW.drew
          go_simp
          refine (law_digest _ hd0 hd1 _).mono ?_
          rintro e W3 ⟨rfl, hu⟩
          refine hK _ _ (hW.drew.then hu (fun _ _ h => h)) ?_
          clear hK K
          have hL3 := HL.out.drew.upd hu id id
          replace HU := Lib.hid (hW.drew.then hu (fun _ _ h => h))
          clear hu hW
          refine wpOrd_step (fun K hK => ?_) HU.out
          go_simp
          refine (tag_Tag hL3 _ _ _).mono ?_
          rintro e W4 ⟨rfl, hL4, hu⟩
          replace HU := Lib.hid (HU.out.then hu (fun i hi e => absurd hi (by omega)))
          refine hK _ _ HU.out ?_
          clear hK K hu hL3
          refine wpOrd_nil ?_
          go_wp2
          go_roundw
          case rel => exact ⟨k + 1, by omega, by omega, by go_num, by rw [HE.out]; exact hL4, HU.out⟩
          case measure => simp [intOf]; omega
        · have HE : Hid ((l.take (k + 1)).foldl stepM [] = (vecM L1 x.f x.R (digI x.d)).1) := by show _ = _; rw [HST.out, stepM, if_neg (by omega), if_pos hm0]
          clear hm HM
          rw [hm0]
          clear hm0
          go_wp2_with fail
          refine wp_region_ord [(0, true), (1, true), (2, true), (3, true), (4, true), (5, true), (6, true), (7, true), (8, true), (9, true), (10, true), (11, true), (12, true), (13, true), (14, true), (15, true), (16, false), (17, false)] (by kernel_rfl) (by kernel_rfl) (Kept w) (hW.drew) ?_
          simp only [ordOps, List.getD_cons_zero, List.getD_cons_succ]
          iterate 16 (refine wpOrd_held (fun K hK => ?_); go_simp; first | (apply Exists.intro; refine ⟨fun W hW => ?_, hK _ ?_⟩; (go_simp; first | done | exact rfl); clear hK K) | (refine hK _ ?_; clear hK K))
          refine wpOrd_step (fun K hK => ?_) hW.drew
          go_simp
          refine (law_digest _ hd0 hd1 _).mono ?_
          rintro e W3 ⟨rfl, hu⟩
          refine hK _ _ (hW.drew.then hu (fun _ _ h => h)) ?_
          clear hK K
          have hL3 := HL.out.drew.upd hu id id
          replace HU := Lib.hid (hW.drew.then hu (fun _ _ h => h))
          clear hu hW
          refine wpOrd_step (fun K hK => ?_) HU.out
          go_simp
          refine (tag_Vector hL3 _ _ _ _ _ (hD1.kept HU.out).ints).mono ?_
          rintro e W4 ⟨rfl, hL4, hu⟩
          replace HU := Lib.hid (HU.out.then hu (fun i hi e => absurd hi (by omega)))
          refine hK _ _ HU.out ?_
          clear hK K hu hL3
          refine wpOrd_nil ?_
          go_wp2
          go_roundw
          case rel => exact ⟨k + 1, by omega, by omega, by go_num, by rw [HE.out]; exact hL4, HU.out⟩
          case measure => simp [intOf]; omega
        · have HE : Hid ((l.take (k + 1)).foldl stepM [] = L1) := by show _ = _; rw [HST.out, stepM, if_neg (by omega), if_neg (by omega)]
          clear hm HM
          rw [hm0]
          clear hm0
          go_wp2
          go_roundw
          case rel => exact ⟨k + 1, by omega, by omega, by go_num, by rw [HE.out]; exact HL.out, HU.out⟩
          case measure => simp [intOf]; omega
      · obtain rfl : k = 60 := by omega
        have hL := HL.out
        go_wp2
        go_ret
        exact ⟨b, r, rfl, hL, HU.out, hb, hr⟩
    · obtain rfl : k = l.length := by omega
      have hL := HL.out
      rw [List.take_length] at hL
      have hmk : madeM l = l.foldl stepM [] := by unfold madeM; rw [List.take_of_length_le (by omega)]
      have HMK := Lib.hid hmk
      clear hmk
      have HL2 := Lib.hid hL
      clear hL
      go_wp2
      go_ret
      exact ⟨b, r, rfl, by rw [HMK.out]; exact HL2.out, HU.out, hb, hr⟩
end Go.Proofs.Ytjnaenmknbcjmaa
