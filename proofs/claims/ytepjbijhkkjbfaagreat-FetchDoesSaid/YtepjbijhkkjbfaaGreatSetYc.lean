import Derived.Test.YtepjbijhkkjbfaaGreatSetYb
import Derived.Test.YtepjbijhkkjbfaaGreatSetYa
set_option linter.unusedVariables false
set_option linter.unusedSimpArgs false
namespace Go.Proofs.YtepjbijhkkjbfaaGreat
open Go.RowKit
variable {Tu Tv : Nat → Prop}
attribute [local irreducible] wpOrd
def argBad (n : Int) (m : Nat) : Prop := n < 1 ∨ 1024 < n ∨ 0 < m ∧ (m : Int) ≠ n
theorem longB_secs {l l2 : List (SlC × Bytes)} (h : secs l = secs l2) : longB l = longB l2 := by
  have e : ∀ l : List (SlC × Bytes), longB l = (secs l).any fun R => decide (65536 ≤ R.length) := fun l => by unfold longB; rw [List.any_map]; rfl
  rw [e, e, h]
theorem longB_short {l : List (SlC × Bytes)} (h : longB l = false) : ∀ p ∈ l, p.2.length < 65536 := fun p hp => by
  rcases Nat.lt_or_ge p.2.length 65536 with h1 | h1
  · exact h1
  · obtain ⟨i, hi, rfl⟩ := List.getElem_of_mem hp
    rw [longB_true hi h1] at h; cases h
def oldO (l : List (SlC × Bytes)) : Option (List Bytes) := if l = [] then none else some (secs l)
theorem oldO_secs {l l2 : List (SlC × Bytes)} (h : secs l = secs l2) : oldO l = oldO l2 := by
  unfold oldO; have hl : l.length = l2.length := by have := congrArg List.length h; rwa [List.length_map, List.length_map] at this
  by_cases h1 : l = []
  · have h2 : l2 = [] := by rw [h1] at hl; exact List.eq_nil_of_length_eq_zero hl.symm
    rw [if_pos h1, if_pos h2]
  · have h2 : l2 ≠ [] := fun e => h1 (by rw [e] at hl; exact List.eq_nil_of_length_eq_zero hl)
    rw [if_neg h1, if_neg h2, h]
def FB (wb : World) (b r q : Nat) (n : Int) (root : Dig) (li : List (SlC × Bytes)) (pv : Option Addr) (z : Int) (W : World) : Prop :=
  (z = 2 ∧ pv = none ∧ argBad n li.length ∧ Kept wb W) ∨ (z = 5 ∧ pv = none ∧ ¬ argBad n li.length ∧ longB li = true ∧ Kept wb W) ∨
  (z = 0 ∧ ¬ argBad n li.length ∧ longB li = false ∧ ∃ f nn B m1 m2 gs cs hv ov L, pv = some ⟨f, 0, none⟩ ∧ n = ((nn : Nat) : Int) ∧ FetI (fun j => j < wb.heap.size) W B f m1 m2 b r q nn root (oldO li) (begS nn (oldO li) root) gs cs hv ov ∧ BookL W b r q L ∧ Upd (Book3 b r q) wb W)
theorem fb_any {w wb : World} {b r q : Nat} {L : List Bytes} (hI : Ink0 w wb b r q L) (root : Dig) (n : Int) {A : Option Addr} {li : List (SlC × Bytes)} (c : Nat) (hL : ∀ W, Upd (Book3 b r q) wb W → LeavesAt W A li) :
    Calls Tryz.prog 5 #[.pointer (some ⟨b, 0, none⟩), .agg (dA root), .int .i64 n, .slice A li.length c] wb fun e W => ∃ pv z, e = .returned (.tuple #[.pointer pv, .int .i64 z]) ∧ FB wb b r q n root li pv z W := by
  by_cases hbad : argBad n li.length
  · exact (fetch_Begin_arg root n A li.length c hbad).mono fun e W ⟨he, hu⟩ => ⟨none, 2, he, .inl ⟨rfl, rfl, hbad, hu⟩⟩
  · have h1 : 1 ≤ n ∧ n ≤ 1024 ∧ (li.length = 0 ∨ (li.length : Int) = n) := by unfold argBad at hbad; omega
    obtain ⟨nn, rfl⟩ : ∃ nn : Nat, n = nn := ⟨n.toNat, by omega⟩; cases hl : longB li with
    | true =>
      have hne : li.length ≠ 0 := fun e => by rw [List.eq_nil_of_length_eq_zero e] at hl; cases hl
      exact (fetch_Begin_long root nn (by omega) (by omega) c (by omega) (hL wb (Upd.refl _ _)) hl).mono fun e W ⟨he, hu⟩ => ⟨none, 5, he, .inr (.inl ⟨rfl, rfl, hbad, hl, hu⟩)⟩
    | false =>
      by_cases h0 : li = []
      · have HG := fetch_Begin0 (A := A) hI.book root nn (by omega) (by omega) c
        subst h0; exact HG.mono fun e W ⟨f, he, ⟨B, m1, m2, gs, cs, hv, ov, _, hf⟩, ⟨L', hb, _⟩, hu⟩ => ⟨_, 0, he, .inr (.inr ⟨rfl, hbad, hl, f, nn, B, m1, m2, gs, cs, hv, ov, L', rfl, rfl, hf, hb, hu⟩)⟩
      · have hne : li.length ≠ 0 := fun e => h0 (List.eq_nil_of_length_eq_zero e)
        have HG := fetch_Begin1 (A := A) (l := li) hI.book root nn (by omega) (by omega) c (by omega) hL (longB_short hl); exact HG.mono fun e W ⟨f, he, ⟨B, m1, m2, gs, cs, hv, ov, _, hf⟩, ⟨L', hb, _, _⟩, hu⟩ => ⟨_, 0, he, .inr (.inr ⟨rfl, hbad, hl, f, nn, B, m1, m2, gs, cs, hv, ov, L', rfl, rfl, by rw [show oldO li = some (secs li) from by unfold oldO; rw [if_neg h0]]; exact hf, hb, hu⟩)⟩
def RG (wd : World) (c : Nat) (Tv : Nat → Prop) (n : Int) (root : Dig) (l : List (SlC × Bytes)) (pv : Option Addr) (z : Int) (W : World) : Prop :=
  (z = 2 ∧ pv = none ∧ argBad n l.length ∧ Upd (fun k => ¬ Tv k) wd W) ∨ (z = 5 ∧ pv = none ∧ ¬ argBad n l.length ∧ longB l = true ∧ Upd (fun k => ¬ Tv k) wd W) ∨
  (z = 0 ∧ ¬ argBad n l.length ∧ longB l = false ∧ ∃ g nn X L, pv = some ⟨g, 0, none⟩ ∧ n = ((nn : Nat) : Int) ∧ L.length ≤ 2048 ∧ RB Tv W g c nn root (oldO l) (begS nn (oldO l) root) X L ∧ Upd (fun k => ¬ Tv k) wd W)
theorem rg_any {wd : World} {c : Nat} (hb : RBk Tv wd c [] (fun _ => False)) (hT : ∀ k, Tv k → k ≤ wd.heap.size) (hp : Tv wd.heap.size) (root : Dig) (n : Int) {A : Option Addr} {l : List (SlC × Bytes)} (cc : Nat) (hL : ∀ W', Upd (fun k => ¬ Tv k) wd W' → LeavesAt W' A l) (hA : l ≠ [] → ∀ a, A = some a → Tv a.block) :
    Calls Tryz.prog 7 #[.pointer (some ⟨c, 0, none⟩), .agg (dA root), .int .i64 n, .slice A l.length cc] wd fun e W => ∃ pv z, e = .returned (.tuple #[.pointer pv, .int .i64 z]) ∧ RG wd c Tv n root l pv z W := by
  by_cases hbad : argBad n l.length
  · exact (ref_FBegin_arg root n A l.length cc hbad).mono fun e W ⟨he, hu⟩ => ⟨none, 2, he, .inl ⟨rfl, rfl, hbad, hu.to⟩⟩
  · have h1 : 1 ≤ n ∧ n ≤ 1024 ∧ (l.length = 0 ∨ (l.length : Int) = n) := by unfold argBad at hbad; omega
    obtain ⟨nn, rfl⟩ : ∃ nn : Nat, n = nn := ⟨n.toNat, by omega⟩
    by_cases h0 : l = []
    · subst h0
      refine (ref_FBegin0 (A := A) (n := nn) (root := root) hb hT hp (by simp) (by omega) (by omega) cc).mono fun e W h => ?_; rcases h with ⟨h2, -⟩ | ⟨h2, g, X, L', O, he, hM, rfl, hr, hu⟩
      · cases h2
      · exact ⟨_, 0, he, .inr (.inr ⟨rfl, hbad, h2, g, nn, X, L', rfl, rfl, by simpa using hM, hr, hu⟩)⟩
    · have hne : l.length ≠ 0 := fun e => h0 (List.eq_nil_of_length_eq_zero e)
      have hln : l.length = nn := by omega
      have HG := ref_FBegin (A := A) (l := l) (n := nn) (root := root) hb hT hp (by simp) (by omega) (by omega) cc hln hL (hA h0); rw [hln]; rw [hln] at hbad; refine HG.mono fun e W h => ?_; rcases h with ⟨h2, he, hu⟩ | ⟨h2, g, X, L', O, he, hM, rfl, hr, hu⟩
      · exact ⟨_, 5, he, .inr (.inl ⟨rfl, rfl, by rw [hln]; exact hbad, h2, hu⟩)⟩
      · exact ⟨_, 0, he, .inr (.inr ⟨rfl, by rw [hln]; exact hbad, h2, g, nn, X, L', rfl, rfl, by simpa using hM, hr, hu⟩)⟩
theorem jj_start {w wa wb wc wd we : World} {b r q : Nat} {L0 L : List Bytes} {B f m1 m2 n gs cs : Nat} {root : Dig} {O : Option (List Bytes)} {s : KM × BM} {hv ov : Value} {g : Nat} {X : RX} {M : List Bytes} (h1 : Kept w wa) (hI : Ink0 wa wb b r q L0) (hf : FetI (fun j => j < wb.heap.size) wc B f m1 m2 b r q n root O s gs cs hv ov) (hb : BookL wc b r q L) (hu : Upd (Book3 b r q) wb wc) (hc : Kept wc wd) (hwc : wc.heap.size < wd.heap.size)
    (hrb : RB (fun k => k ≠ wc.heap.size ∧ k ≤ wd.heap.size) we g wc.heap.size n root O s X M) (hM : M.length ≤ 2048) (hue : Upd (fun k => ¬ (k ≠ wc.heap.size ∧ k ≤ wd.heap.size)) wd we) : JJ w we f g n root O s s 2048 (fun k => w.heap.size ≤ k ∧ k < wa.heap.size) := by
  have z1 := h1.size; have z2 := hI.upd.size; have z3 := hu.size; have z4 := hue.size; have hce : Upd (fun k => ¬ (k ≠ wc.heap.size ∧ k ≤ wd.heap.size)) wc we := hc.to.trans hue; have hlow : ∀ k, k < wc.heap.size → ¬ ¬ (k ≠ wc.heap.size ∧ k ≤ wd.heap.size) := fun k hk e => e ⟨by omega, by omega⟩; have hb3 : ∀ k, Book3 b r q k → ¬ ¬ (k ≠ wc.heap.size ∧ k ≤ wd.heap.size) := fun k e => hlow k (hb.lt k e); have hw3 : ∀ k, Book3 b r q k → wa.heap.size ≤ k := hI.far; have hfe : FetI (fun k => (k < wb.heap.size ∧ ¬ Book3 b r q k) ∨ (wc.heap.size ≤ k ∧ k < we.heap.size)) we B f m1 m2 b r q n root O s gs cs hv ov :=
    (hf.other (Tu' := fun k => k < wb.heap.size ∧ ¬ Book3 b r q k) fun k e => .inl e.1).step hce (fun k hk e => absurd e (hlow k hk)) (fun k e => .inl e) (fun k e => e.imp id fun e => e.1)
  refine ⟨_, fun k => k ≠ wc.heap.size ∧ k < wd.heap.size, b, r, q, L, B, m1, m2, gs, cs, hv, ov, wc.heap.size, X, M, hfe, hb.upd hce (hb3 b (.inl rfl)) (hb3 r (.inr (.inl rfl))) (hb3 q (.inr (.inr rfl))), fun k e e2 => ?_, ⟨hrb.f.other fun k e => .inl ⟨e.1, Nat.le_of_lt e.2⟩, hrb.b.other fun k e => .inl ⟨e.1, Nat.le_of_lt e.2⟩, fun k e => Nat.lt_of_lt_of_le e.2 z4⟩, hM, fun k hk => ?_, fun k e => ?_, fun k e => ?_, fun k e => ?_, ?_⟩
  · rcases e2 with e2 | e2
    · exact e2.2 e
    · have := hb.lt k e; omega
  · rcases Nat.lt_or_ge k wc.heap.size with h | h
    · exact .inr ⟨by omega, by omega⟩
    · exact .inl (.inr ⟨h, hk⟩)
  · rcases e with e | e
    · have := hce.size; omega
    · exact e.2
  · exact ⟨.inl ⟨by omega, fun e2 => by have := hw3 k e2; omega⟩, by omega, by omega⟩
  · exact ⟨.inl ⟨by omega, fun e2 => by have := hw3 k e2; omega⟩, by omega, by omega⟩
  · exact (h1.then hI.upd fun _ _ e => e).then (hu.trans (hce.mono (T := Book3 b r q) fun k hk e => absurd e (hlow k hk))) fun k hk e => by have := hw3 k e; omega
def Rws (W : World) (B : Nat) (v : Value) (li : List (SlC × Bytes)) : Prop := OwnS W B v (li.map (·.1)) ∧ ∀ p ∈ li, ∃ R, R.length = p.2.length ∧ OwnB W B p.1.v R
theorem Rws.of {W : World} {B : Nat} {v : Value} {li : List (SlC × Bytes)} (h : OwnLv W B v li) : Rws W B v li := ⟨h.1, fun p hp => ⟨p.2, rfl, (h.2 p hp).1⟩⟩
theorem Rws.kept {W W' : World} {B : Nat} {v : Value} {li : List (SlC × Bytes)} (h : Rws W B v li) (hu : Kept W W') : Rws W' B v li := ⟨OwnRows.upd h.1 hu fun _ _ e => e, fun p hp => by obtain ⟨R, h1, h2⟩ := h.2 p hp; exact ⟨R, h1, h2.kept hu⟩⟩
theorem Rws.row {W : World} {B : Nat} {v : Value} {li : List (SlC × Bytes)} (h : Rws W B v li) {i : Nat} (hi : i < li.length) : ∃ gi c A2 c2, v = .slice (some ⟨gi, 0, none⟩) li.length c ∧ W.cell? ⟨gi, i, none⟩ = some (.slice A2 li[i].2.length c2) ∧ li[i].1 = ⟨A2, li[i].2.length, c2⟩ ∧ (∃ cur, W.heap[gi]? = some (.cells cur 42 (0, 0))) := by
  have hi' : i < (li.map (·.1)).length := by rw [List.length_map]; exact hi
  obtain ⟨gi, c, hv, hc⟩ := own_cell1 (fun _ => rfl) h.1 hi' (slv _); rw [List.length_map] at hv; rw [List.getElem_map] at hc; obtain ⟨R, h1, h2⟩ := h.2 _ (List.getElem_mem hi); obtain ⟨A2, c2, hx, -, -⟩ := h2.form; rw [h1] at hx; rw [hx] at hc; refine ⟨gi, c, A2, c2, hv, hc, ?_, own_cells h.1 (by rw [hv]; rfl)⟩; generalize li[i].1 = x at *; obtain ⟨xA, xn, xc⟩ := x; rw [SlC.v_eq] at hx; simp only [Value.slice.injEq] at hx; obtain ⟨rfl, rfl, rfl⟩ := hx
  rfl
theorem Rws.byte {W : World} {B : Nat} {v : Value} {li : List (SlC × Bytes)} (h : Rws W B v li) {i k : Nat} (hi : i < li.length) (hk : k < li[i].2.length) : ∃ g c vs, ∃ u : UInt8, li[i].1 = ⟨some ⟨g, 0, none⟩, li[i].2.length, c⟩ ∧ B ≤ g ∧ Blk W g 5 vs ∧ W.cell? ⟨g, k, none⟩ = some (.int .u8 (u.toNat : Int)) ∧ W.frozen? ⟨g, k, none⟩ = false ∧ Rws (W.setCell ⟨g, k, none⟩ (.int .u8 ((u + 1).toNat : Int))) B v li := by
  obtain ⟨R, h1, h2⟩ := h.2 _ (List.getElem_mem hi); obtain ⟨g, c, vs, hv, hB, hblk, hcell, hfz, -⟩ := own_setByte h2 (k := k) (by rw [h1]; exact hk) (R[k]'(by rw [h1]; exact hk) + 1); refine ⟨g, c, vs, R[k]'(by rw [h1]; exact hk), ?_, hB, hblk, hcell, hfz, OwnRows.upd h.1 ((Upd.refl (fun j => j = g) W).setCell (p := ⟨g, k, none⟩) _ fun _ => rfl) (fun j e e2 => ?_), fun p hp => ?_⟩
  · rw [h1] at hv
    generalize li[i].1 = x at *; obtain ⟨xA, xn, xc⟩ := x; rw [SlC.v_eq] at hv; simp only [Value.slice.injEq] at hv; obtain ⟨rfl, rfl, rfl⟩ := hv
    rfl
  · obtain ⟨cur, hc⟩ := own_cells h.1 e
    have hg : W.heap[g]? = some (.cells vs.toArray 5 (0, 0)) := hblk; exact cells_ne hg hc (by decide) (show g = j from (show j = g from e2).symm)
  · obtain ⟨R2, h3, h4⟩ := h.2 p hp
    obtain ⟨R3, h5, h6⟩ := own_any h4 (k := k) hblk (R[k]'(by rw [h1]; exact hk) + 1); exact ⟨R3, by rw [h5, h3], h6⟩
def dvA (d : DeedV) : Array Value := #[.bool d.is, .int .i64 d.lv, .int .i64 d.pl, d.x.v, d.y.v]
theorem DeedAt.seg {W : World} {b off : Nat} {d : DeedV} (h : DeedAt W b off d) : segB W ⟨b, off, none⟩ 5 = true ∧ segV W ⟨b, off, none⟩ 5 = dvA d := by
  have hc : ∀ j u, (dvA d)[j]? = some u → W.cell? ((⟨b, off, none⟩ : Addr).add j) = some u := fun j u hu => by
    rw [add_none]
    match j, hu with
    | 0, hu => simp [dvA] at hu; rw [← hu]; exact h.c0
    | 1, hu => simp [dvA] at hu; rw [← hu]; exact h.c1
    | 2, hu => simp [dvA] at hu; rw [← hu]; exact h.c2
    | 3, hu => simp [dvA] at hu; rw [← hu]; exact h.c3
    | 4, hu => simp [dvA] at hu; rw [← hu]; exact h.c4
    | j + 5, hu => simp [dvA] at hu
  exact ⟨segB_of hc rfl, segV_of hc rfl⟩
theorem askV_form (x : Option (Nat × Nat)) : ∃ (a b : Int) (z : Bool), askV x = .tuple #[.int .i64 a, .int .i64 b, .bool z] := by
  cases x with
  | none => exact ⟨0, 0, false, rfl⟩
  | some x => exact ⟨_, _, true, rfl⟩
theorem u8_add (x : UInt8) : IntKind.u8.wrap ((x.toNat : Int) + 1) = (((x + 1).toNat : Nat) : Int) := by
  rw [IntKind.wrap_u8, UInt8.toNat_add]; have : (1 : UInt8).toNat = 1 := rfl; rw [this]; omega
end Go.Proofs.YtepjbijhkkjbfaaGreat
