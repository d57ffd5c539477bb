/- The document's ledger (bastideref04): contracts of Tag, Vector, Check, Len, Asked. -/
import Derived.Test.YtjnaenmknbcjmaaTagR
import Derived.Test.YtjnaenmknbcjmaaTagE
namespace Go.Proofs.Ytjnaenmknbcjmaa
open Go.RowKit

/-- what a call does to the document's ledger -/
structure RefTo (w w' : World) (B b : Nat) (v v' : Value) (L : List Ent) (n : Int) : Prop where
  ref : RefAt w' B b v' L n
  upd : Upd (fun k => k = b ∨ v.ownBlock = some k) w w'
  new : ∀ k, k < w.heap.size → v'.ownBlock = some k → v.ownBlock = some k
section
variable {w w' w2 : World} {B b : Nat} {v v' v2 : Value} {L L2 : List Ent} {n m : Int}
theorem RefTo.trans (h : RefTo w w' B b v v' L n) (k : RefTo w' w2 B b v' v2 L2 m) : RefTo w w2 B b v v2 L2 m :=
  ⟨k.ref, h.upd.then k.upd fun i hi h' => h'.imp id (h.new i hi), fun i hi h' => h.new i hi (k.new i (Nat.lt_of_lt_of_le hi h.upd.size) h')⟩
theorem RefTo.refl (h : RefAt w B b v L n) : RefTo w w B b v v L n := ⟨h, Upd.refl _ _, fun _ _ h => h⟩
theorem RefTo.kept (h : RefTo w w' B b v v' L n) (k : Kept w' w2) : RefTo w w2 B b v v' L n := h.trans ⟨h.ref.upd k id fun _ _ h => h, k.mono fun _ _ h => h.elim, fun _ _ h => h⟩
theorem RefTo.alloc (h : RefTo w w' B b v v' L n) (o : Obj) : RefTo w (w'.alloc o) B b v v' L n := h.kept ((Upd.refl _ _).alloc o)
theorem RefTo.drew (h : RefTo w w' B b v v' L n) : RefTo w w'.drew B b v v' L n := h.kept (Upd.refl _ _).drew
end

theorem ref_put' {w : World} {B b : Nat} {v : Value} {L : List Ent} {n : Int} (h : RefAt w B b v L n) (hL : L.length < 1000000) (hB : B ≤ w.heap.size) (e : Ent) (he : entOk e) :
    Calls Try.prog 63 #[.pointer (some ⟨b, 0, none⟩), encE e] w fun r w' => ∃ u v', r = .returned u ∧ RefTo w w' B b v v' (putE e L) n := by
  refine (ref_put h hL hB e he).mono ?_
  rintro r w' ⟨⟨u, rfl⟩, v', h1, h2, h3⟩
  exact ⟨u, v', rfl, h1, h2, h3⟩

theorem ref_Len {w : World} {B b : Nat} {v : Value} {L : List Ent} {n : Int} (h : RefAt w B b v L n) :
    Calls Try.prog 28 #[.pointer (some ⟨b, 0, none⟩)] w fun e w' => e = .returned (.int .i64 L.length) ∧ w = w' := by
  have hc := h.cell0
  obtain ⟨A, c, rfl⟩ := h.rows.form
  clear h
  go_enter Try.func28, Try.ntmps28
  go_wp2
  go_ret
  exact ⟨rfl, rfl⟩
theorem ref_Asked {w : World} {B b : Nat} {v : Value} {L : List Ent} {n : Int} (h : RefAt w B b v L n) :
    Calls Try.prog 30 #[.pointer (some ⟨b, 0, none⟩)] w fun e w' => e = .returned (.int .i64 n) ∧ w = w' := by
  have hc := h.cell1
  clear h
  go_enter Try.func30, Try.ntmps30
  go_wp2
  go_ret
  exact ⟨rfl, rfl⟩

set_option maxHeartbeats 1000000 in
theorem ref_Tag {w : World} {B b : Nat} {v : Value} {L : List Ent} {n : Int} (h : RefAt w B b v L n) (hL : L.length < 1000000) (hB : B ≤ w.heap.size) (f t : Int) (d : Dig) (hf : (Lit.int .i64 f).wf = true) (ht : (Lit.int .i64 t).wf = true) :
    Calls Try.prog 20 #[.pointer (some ⟨b, 0, none⟩), .int .i64 f, .int .i64 t, .agg (dA d)] w fun e w' => e = .returned (.int .i64 (tagM L f t d).2) ∧ ∃ v', RefTo w w' B b v v' (tagM L f t d).1 n := by
  have hT := (RefTo.refl h).alloc (.cells (dA d) 28)
  have hb := Box.new w d
  have hB1 : B ≤ (w.alloc (.cells (dA d) 28)).heap.size := by rw [World.size_alloc]; omega
  have HB := Lib.hid (And.intro hL hB1)
  clear hB hB1 hL
  go_enter Try.func20, Try.ntmps20
  go_wp2_with fail
  generalize w.alloc (.cells (dA d) 28) = W1 at *
  generalize hgd : w.heap.size = gd at *
  have HT := Lib.hid hT
  clear hT h
  have s1 := hb.s1
  have s2 := hb.s2
  refine (ref_Name f _).mono ?_
  rintro e w2 ⟨rfl, rfl⟩
  cases hfb : namedB f
  · have HM : Hid (tagM L f t d = (L, 2)) := by show _ = _; unfold tagM; rw [hfb]; rfl
    clear hfb
    go_wp2
    go_ret
    rw [HM.out]
    exact ⟨rfl, v, HT.out⟩
  · go_wp2_with fail
    refine (ref_Name t _).mono ?_
    rintro e w2 ⟨rfl, rfl⟩
    by_cases hz : (namedB t || t == 0) = true
    · have HM : Hid (tagM L f t d = (putE (f, t, d) L, 0)) := by show _ = _; unfold tagM; rw [hfb, hz]; rfl
      have hok : entOk (f, t, d) := ⟨hf, ht⟩
      have hz2 : namedB t = true ∨ t = 0 := by simpa using hz
      clear hfb hz
      cases htb : namedB t
      · have htz : t = 0 := by rcases hz2 with h | h; (rw [htb] at h; cases h); exact h
        subst htz
        clear hz2 htb
        go_wp2_with fail
        refine (ref_put' HT.out.ref HB.out.1 HB.out.2 _ hok).mono ?_
        rintro r W2 ⟨u, v', rfl, hT2⟩
        have HT2 := Lib.hid (HT.out.trans hT2)
        clear hT2
        go_wp2
        go_ret
        rw [HM.out]
        exact ⟨rfl, v', HT2.out⟩
      · clear hz2 htb
        go_wp2_with fail
        refine (ref_put' HT.out.ref HB.out.1 HB.out.2 _ hok).mono ?_
        rintro r W2 ⟨u, v', rfl, hT2⟩
        have HT2 := Lib.hid (HT.out.trans hT2)
        clear hT2
        go_wp2
        go_ret
        rw [HM.out]
        exact ⟨rfl, v', HT2.out⟩
    · have HM : Hid (tagM L f t d = (L, 2)) := by show _ = _; unfold tagM; rw [if_neg (by simp only [hfb, Bool.true_and]; exact hz)]
      have hz2 : namedB t = false ∧ t ≠ 0 := by simpa using hz
      obtain ⟨hz2, hz3⟩ := hz2
      rw [hz2]
      clear hfb hz hz2
      go_wp2
      go_ret
      rw [HM.out]
      exact ⟨rfl, v, HT.out⟩

theorem RefAt.ask {w : World} {B b : Nat} {v : Value} {L : List Ent} {n : Int} (h : RefAt w B b v L n) (m : Int) : RefTo w (w.setCell ⟨b, 1, none⟩ (.int .i64 m)) B b v v L m := by
  have hu : Upd (fun k => k = b) w (w.setCell ⟨b, 1, none⟩ (.int .i64 m)) := (Upd.refl _ _).setCell (p := ⟨b, 1, none⟩) _ fun _ => rfl
  refine ⟨⟨by rw [heap_setCell_same w b 1 _ _ _ h.blk]; rfl, h.rows.upd hu fun k hk e => ?_, h.lt, h.ok⟩, hu.mono fun _ _ h => .inl h, fun _ _ h => h⟩
  subst e
  exact h.rows.far (.inl h.lt) hk

theorem run_build_iid2 {P : Program} (t : TypeId) (hz : P.built t = fun parts => Instr.fill (fun i => #[(0, 1), (1, 1), (2, 32)][i]?) (#[.int .i64 0, .int .i64 0] ++ Array.replicate 32 (.int .u8 0)) parts)
    (u : Int) (d : Array Value) (hd : d.size = 32) (W : World) : (buildRow t #[(0, .int .i64 u), (2, .agg d)]).run P W = .ok (.value (.agg (#[.int .i64 u, .int .i64 0] ++ d))) W := by
  have h := run_build (P := P) W t #[(0, .int .i64 u), (2, .agg d)] (#[.int .i64 u, .int .i64 0] ++ d) (by
    rw [hz]
    have hl := fill_last 2 d (#[.int .i64 u, .int .i64 0] ++ Array.replicate 32 (.int .u8 0)) (by simp [hd])
    have hzs : (Array.replicate 32 (Value.int .u8 0)).size = 32 := by simp
    generalize Array.replicate 32 (Value.int .u8 0) = z at *
    simp [Instr.fill, Value.cells, hd]
    simp at hl
    rw [hd] at hl
    exact ⟨by omega, hl⟩)
  simp [buildRow, h, Result.andThen]
@[go_sem] theorem run_build_rtag2 (u : Int) (d : Dig) (W : World) : (buildRow 92 #[(0, .int .i64 u), (2, .agg (dA d))]).run Try.prog W = .ok (.value (encE (u, 0, d))) W :=
  run_build_iid2 _ built_rtag u _ (dA_size d) W

set_option maxHeartbeats 1000000 in
theorem ref_Check {w : World} {B b : Nat} {v : Value} {L : List Ent} {n : Int} (h : RefAt w B b v L n) (hL : L.length < 1000000) (h0 : 0 ≤ n) (h1 : n < 4611686018427387904) (f t : Int) (d : Dig) (hf : (Lit.int .i64 f).wf = true) (ht : (Lit.int .i64 t).wf = true) :
    Calls Try.prog 26 #[.pointer (some ⟨b, 0, none⟩), .int .i64 f, .int .i64 t, .agg (dA d)] w fun e w' => e = .returned (.bool (checkM L f t d)) ∧ RefTo w w' B b v v L (n + 1) := by
  have hok : entOk (f, t, d) := ⟨hf, ht⟩
  have hok0 : entOk (f, 0, d) := ⟨hf, (by decide : (Lit.int .i64 0).wf = true)⟩
  have HL : Hid (L.length < 4611686018427387904 ∧ entOk (f, t, d) ∧ entOk (f, 0, d)) := ⟨by omega, hok, hok0⟩
  clear hL hok hok0
  have hT := (RefTo.refl h).alloc (.cells (dA d) 28)
  have hc1 := hT.ref.cell1
  have hz := hT.ref.thaw 1
  have hT2 := (h.ask (n + 1)).alloc (.cells (dA d) 28)
  have hb2 : Box ((w.setCell ⟨b, 1, none⟩ (.int .i64 (n + 1))).alloc (.cells (dA d) 28)) w.heap.size d := by
    have := Box.new (w.setCell ⟨b, 1, none⟩ (.int .i64 (n + 1))) d
    simpa using this
  have b1 := hb2.s1
  have b2 := hb2.s2
  have hlt : b < w.heap.size := h.size
  have HT := Lib.hid hT2
  have HB := Lib.hid hb2
  clear hT hT2 h hb2
  have hcm : checkM L f t d = (decide ((f, t, d) ∈ L) || decide ((f, 0, d) ∈ L)) := rfl
  have HC := Lib.hid hcm
  clear hcm
  go_enter Try.func26, Try.ntmps26
  go_wp2_with fail
  refine (ref_has HT.out.ref HL.out.1 _ HL.out.2.1).mono ?_
  rintro r W2 ⟨rfl, hu⟩
  replace HT := Lib.hid (HT.out.kept hu)
  replace HB := Lib.hid (Box.upd hu HB.out id)
  clear hu b1 b2 hc1 hz
  have b1 := HB.out.s1
  have b2 := HB.out.s2
  generalize w.heap.size = gd at *
  cases hin : decide ((f, t, d) ∈ L)
  · rw [hin] at HC
    go_wp2_with fail
    refine (ref_has HT.out.ref HL.out.1 _ HL.out.2.2).mono ?_
    rintro r W3 ⟨rfl, hu⟩
    replace HT := Lib.hid (HT.out.kept hu)
    clear hu b1 b2
    generalize decide ((f, 0, d) ∈ L) = r at *
    go_wp2
    go_ret
    exact ⟨by rw [HC.out]; rfl, HT.out⟩
  · rw [hin] at HC
    go_wp2
    go_ret
    exact ⟨by rw [HC.out]; rfl, HT.out⟩
end Go.Proofs.Ytjnaenmknbcjmaa
