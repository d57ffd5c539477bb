/- tree: Of. -/
import Derived.Test.YtjimamgghkgdeaaArgs
namespace Go.Proofs.Ytjimamgghkgdeaa
open Go.RowKit

attribute [local irreducible] wpOrd
theorem OwnD.book {W W' : World} {B : Nat} {v : Value} {D : List Dig} {b r q : Nat} {L : List Bytes} (h : OwnD W B v D) (hb : BookL W b r q L) (hu : Upd (Book3 b r q) W W') : OwnD W' B v D :=
  OwnRows.upd h hu fun k e => by
    obtain ⟨cur, hc⟩ := own_cells h e
    exact hb.not hc (by decide)

/-- the digests of leaves, and what they are of -/
def leafD (l : List (SlC × Bytes)) : List Dig := l.map fun p => leafM shaM p.2
def leafI (l : List (SlC × Bytes)) : List Bytes := l.map fun p => leafIn p.2
theorem leafD_length (l : List (SlC × Bytes)) : (leafD l).length = l.length := by simp [leafD]
theorem leafD_succ (l : List (SlC × Bytes)) (k : Nat) (h : k < l.length) : leafD (l.take (k + 1)) = leafD (l.take k) ++ [leafM shaM l[k].2] := by
  unfold leafD; rw [List.take_succ_eq_append_getElem h, List.map_append]; rfl
theorem leafI_succ (L : List Bytes) (l : List (SlC × Bytes)) (k : Nat) (h : k < l.length) : notesM L (leafI (l.take (k + 1))) = noteM (notesM L (leafI (l.take k))) (leafIn l[k].2) := by
  unfold leafI; rw [List.take_succ_eq_append_getElem h, List.map_append, notesM_append]; rfl

/-- the function that tells a leaf that is too long -/
def longF : Value := .func (.func 57) #[] #[]
theorem tree_Of1 (A : Option Addr) (n c : Nat) (w : World) : Calls Try.prog 57 #[.slice A n c] w fun e w' => e = .returned (.bool (decide (65536 ≤ n))) ∧ w = w' := by
  go_enter Try.func57, Try.ntmps57
  go_wp2
  go_ret
  refine ⟨?_, rfl⟩
  simp
  omega

/-- a leaf in a list -/
theorem LeavesAt.get {W : World} {A : Option Addr} {l : List (SlC × Bytes)} (h : LeavesAt W A l) {k : Nat} (hk : k < l.length) : ∃ b off A2 c2, A = some ⟨b, off, none⟩ ∧ W.cell? ⟨b, off + k, none⟩ = some (.slice A2 (l[k].2.length) c2) ∧ Byt W A2 l[k].2 ∧ l[k].2.length ≤ c2 := by
  obtain ⟨b, off, h1, h2, h3, _⟩ := h k hk
  obtain ⟨A2, c2, hx, hc, hb⟩ := h3.form
  rw [hx, SlC.v_eq] at h2
  exact ⟨b, off, A2, c2, h1, h2, hb, hc⟩

set_option maxHeartbeats 800000 in
theorem slices_IndexFunc {w : World} {A : Option Addr} {l : List (SlC × Bytes)} (c : Nat) (h : LeavesAt w A l) (hl : l.length ≤ 1024) (hs : ∀ p ∈ l, p.2.length < 65536) :
    Calls Try.prog 66 #[.slice A l.length c, longF] w fun e w' => e = .returned (.int .i64 (-1)) ∧ w = w' := by
  have HX := Lib.hid (And.intro h (And.intro hl hs))
  clear h hl hs
  unfold longF
  go_enter Try.func66, Try.ntmps66
  go_wp2_with fail
  go_loopw [8] (fun u1 wr => ∃ k : Nat, k ≤ l.length ∧ u1 = .int .i64 k ∧ wr = w) (fun u1 _ => 2000 - (intOf u1).toNat)
  case atStart => exact ⟨0, Nat.zero_le _, rfl, by trivial⟩
  case round =>
    obtain ⟨k, hk, rfl, rfl⟩ := hrel
    rcases Nat.lt_or_ge k l.length with hlt | hge
    · have hk' : (k : Int) < (l.length : Int) := by omega
      have hk5 : (k : Int) < 1024 := by have := HX.out.2.1; omega
      obtain ⟨b, off, A2, c2, rfl, hc, _, _⟩ := HX.out.1.get hlt
      have hd : decide (65536 ≤ l[k].2.length) = false := decide_eq_false (by have := HX.out.2.2 _ (List.getElem_mem hlt); omega)
      have HK := Lib.hid hlt
      generalize l[k].2 = R at *
      clear hlt hk
      go_wp2_with fail
      refine (tree_Of1 A2 R.length c2 _).mono ?_
      rw [hd]
      rintro e W ⟨rfl, rfl⟩
      clear hd hc
      go_wp2
      go_roundw
      case rel => exact ⟨k + 1, by have := HK.out; omega, by show _ = _; go_num, by trivial⟩
      case measure => have := HK.out; simp [intOf]; omega
    · obtain rfl : k = l.length := by omega
      have hk' : ¬ ((l.length : Int) < (l.length : Int)) := by omega
      clear hk hge
      go_wp2
      go_ret
      exact ⟨rfl, rfl⟩
theorem slices_ContainsFunc {w : World} {A : Option Addr} {l : List (SlC × Bytes)} (c : Nat) (h : LeavesAt w A l) (hl : l.length ≤ 1024) (hs : ∀ p ∈ l, p.2.length < 65536) :
    Calls Try.prog 56 #[.slice A l.length c, longF] w fun e w' => e = .returned (.bool false) ∧ w = w' := by
  have HX := Lib.hid (And.intro h (And.intro hl hs))
  clear h hl hs
  have HG := slices_IndexFunc c HX.out.1 HX.out.2.1 HX.out.2.2
  generalize longF = F at *
  go_enter Try.func56, Try.ntmps56
  go_wp2_with fail
  refine HG.mono ?_
  rintro e W ⟨rfl, rfl⟩
  clear HG
  go_wp2
  go_ret
  exact ⟨rfl, rfl⟩

/-- the last level's only digest -/
theorem lev_top {W : World} {B lo : Nat} {v : Value} {xs : List SlC} {D : List Dig} (ho : OwnRows slA 1 W lo 35 v xs) (hl : Lev W B xs (levelsM shaM D)) (hD : D ≠ []) :
    ∃ m g c g2 c2, depthM D.length = m + 1 ∧ v = .slice (some ⟨g, 0, none⟩) (m + 1) c ∧ W.cell? ⟨g, m, none⟩ = some (.slice (some ⟨g2, 0, none⟩) 1 c2) ∧ segB W ⟨g2, 0, none⟩ 32 = true ∧ segV W ⟨g2, 0, none⟩ 32 = dA (rootM shaM D) ∧ lo ≤ g ∧ B ≤ g2 := by
  obtain ⟨m, hm, hml⟩ := levelsM_top hD
  have hlen : (levelsM shaM D).length = m + 1 := by rw [levelsM_depth _ rfl, hm]
  obtain ⟨hk1, he⟩ := List.getElem?_eq_some_iff.1 hml
  have hk2 : m < xs.length := by rw [hl.len]; exact hk1
  obtain ⟨g, c, hv, hg1, hg2, s1, s2⟩ := OwnRows.get slA_size ho hk2
  obtain ⟨hod, hne⟩ := hl.row m hk2 hk1
  rw [he] at hod hne
  obtain ⟨g2, cap2, hx2, hb2, hlt2⟩ := World.ownsRow.form hod (by simp)
  have hcell : W.cell? ⟨g, m, none⟩ = some xs[m].v := by
    have hc := World.ownsRow.cells ho (g := g) (by rw [hv]; rfl) m xs[m].v (by
      have := rowsOf_get slA_size xs m 0 hk2 (by omega)
      rw [Nat.mul_one, Nat.add_zero] at this
      rw [this]; rfl)
    rwa [add_none, Nat.zero_add] at hc
  rw [hx2] at hod hcell
  obtain ⟨t1, t2⟩ := OwnD.seg hod (k := 0) (by simp)
  rw [Nat.zero_mul] at t1 t2
  exact ⟨m, g, c, g2, cap2, hm, by rw [hv, hl.len, hlen], hcell, t1, t2, hg1, hb2⟩

set_option maxHeartbeats 1600000 in
set_option maxRecDepth 20000 in
theorem tree_Of {w : World} {b r q : Nat} {L : List Bytes} (h : BookL w b r q L) {A : Option Addr} {l : List (SlC × Bytes)} (c : Nat) (hLv : ∀ W, Upd (Book3 b r q) w W → LeavesAt W A l) (h1 : 1 ≤ l.length) (hl : l.length ≤ 1024) (hs : ∀ p ∈ l, p.2.length < 65536) :
    Calls Try.prog 38 #[.pointer (some ⟨b, 0, none⟩), .slice A l.length c] w fun e W => e = .returned (.tuple #[.agg (dA (rootM shaM (leafD l))), .int .i64 0]) ∧ BookL W b r q (notesM (notesM L (leafI l)) (insM shaM (leafD l))) ∧ Upd (Book3 b r q) w W := by
  have hb1 := h.kept ((Upd.refl (fun _ => False) w).alloc (.cells (dA dig0) 40))
  have hr1 : Blk (w.alloc (.cells (dA dig0) 40)) w.heap.size 40 (encB dig0.1) := Blk.new w _ _
  have hk1 : Kept w (w.alloc (.cells (dA dig0) 40)) := (Upd.refl _ w).alloc _
  have hlt := h.lt
  have hsz1 : w.heap.size ≤ (w.alloc (.cells (dA dig0) 40)).heap.size := hk1.size
  generalize hW1 : w.alloc (.cells (dA dig0) 40) = w1 at *
  have HX := Lib.hid (And.intro hb1 (And.intro hr1 (And.intro hk1 (And.intro hlt (And.intro hsz1 (And.intro hLv hs))))))
  have HL := Lib.hid (And.intro h1 hl)
  have hd1 : decide ((l.length : Int) < 1) = false := by rw [decide_eq_false_iff_not]; omega
  have hd4 : decide ((1024 : Int) < (l.length : Int)) = false := by rw [decide_eq_false_iff_not]; omega
  have hd4n : decide (1024 < l.length) = false := by rw [decide_eq_false_iff_not]; omega
  clear h hb1 hr1 hk1 hlt hsz1 hLv hs h1 hl
  have HG := slices_ContainsFunc c (HX.out.2.2.2.2.2.1 _ HX.out.2.2.1.to) HL.out.2 HX.out.2.2.2.2.2.2
  unfold longF at HG
  go_enter Try.func38, Try.ntmps38
  go_wp2_with fail
  refine HG.mono ?_
  rintro e W ⟨rfl, rfl⟩
  clear HG hd1 hd4 hd4n
  go_wp2_with fail
  go_loopw [26, 6] (fun u1 v wr => ∃ k : Nat, k ≤ l.length ∧ u1 = .int .i64 k ∧ OwnD wr w1.heap.size v (leafD (l.take k)) ∧ BookL wr b r q (notesM L (leafI (l.take k))) ∧ Upd (Book3 b r q) w1 wr) (fun u1 _ _ => 2000 - (intOf u1).toNat)
  case atStart => exact ⟨0, Nat.zero_le _, rfl, OwnRows.nil _ _ _, HX.out.1, Upd.refl _ _⟩
  case round =>
    obtain ⟨k, hk, rfl, hown, hb, hu⟩ := hrel
    rcases Nat.lt_or_ge k l.length with hlt | hge
    · have hk' : (k : Int) < (l.length : Int) := by omega
      have hk5 : (k : Int) < 1024 := by have := HL.out.2; omega
      obtain ⟨bb, off, A2, c2, rfl, hc, hR, hcap⟩ := (HX.out.2.2.2.2.2.1 _ (HX.out.2.2.1.to.trans hu)).get hlt
      have hRl : Hid (l[k].2.length < 65536) := HX.out.2.2.2.2.2.2 _ (List.getElem_mem hlt)
      have hT1 := Lib.hid (leafD_succ l k hlt)
      have hT2 := Lib.hid (leafI_succ L l k hlt)
      have HR := Lib.hid (And.intro hown (And.intro hb (And.intro hu hR)))
      generalize l[k].2 = R at *
      have hRb := HR.out.2.2.2
      clear hown hb hu hR hcap
      have HK := Lib.hid hlt
      clear hlt hk
      go_wp2_with fail
      refine (tree_Leaf HR.out.2.1 c2 hRb hRl.out).mono ?_
      rintro e w2 ⟨rfl, hb2, hu2⟩
      have hown2 := OwnD.book HR.out.1 HR.out.2.1 hu2
      have hu3 := HR.out.2.2.1.trans hu2
      have hsz : w1.heap.size ≤ w2.heap.size := hu3.size
      obtain ⟨X, hX⟩ : ∃ X, X = leafM shaM R := ⟨_, rfl⟩
      rw [← hX] at hT1 ⊢
      clear hX hu2 hRb hc
      generalize hLN : noteM (notesM L (leafI (l.take k))) (leafIn R) = LN at *
      have hown3 := hown2.alloc (.cells (dA X) 40)
      have hb3 := hb2.kept ((Upd.refl _ w2).alloc (.cells (dA X) 40))
      have hu4 := hu3.alloc (.cells (dA X) 40)
      have hs3 : segB (w2.alloc (.cells (dA X) 40)) ⟨w2.heap.size, 0, none⟩ 32 = true := segB_new _ _ _ _ _ rfl (dA_size X)
      have hs4 : segV (w2.alloc (.cells (dA X) 40)) ⟨w2.heap.size, 0, none⟩ 32 = dA X := segV_new _ _ _ _ _ rfl (dA_size X)
      have hsz3 : w1.heap.size ≤ (w2.alloc (.cells (dA X) 40)).heap.size := by rw [World.size_alloc]; omega
      clear hown2 hb2 hu3 hsz
      generalize hWA : w2.alloc (.cells (dA X) 40) = wa at *
      have hown4 := hown3.alloc (.cells (dA X) 40)
      have hb4 := hb3.kept ((Upd.refl _ wa).alloc (.cells (dA X) 40))
      have hu5 := hu4.alloc (.cells (dA X) 40)
      have hg4 := heap_alloc_new wa (.cells (dA X) 40)
      have hsz4 : w1.heap.size ≤ (wa.alloc (.cells (dA X) 40)).heap.size := by rw [World.size_alloc]; omega
      clear hown3 hb3 hu4 hsz3
      generalize hWB : wa.alloc (.cells (dA X) 40) = wb at *
      have HQ := Lib.hid (And.intro hown4 (And.intro hb4 (And.intro hu5 (And.intro hg4 hsz4))))
      have HLN : Hid ((leafD (l.take k)).length ≤ 1024) := by
        show _ ≤ _
        rw [leafD_length, List.length_take]
        have h1 := HL.out.2
        omega
      clear hown4 hb4 hu5 hg4 hsz4
      go_wp2_with (at_builtin; refine wpList_append_rows dig_rows rfl (.tmp 40) (.tmp 42) rfl rfl HQ.out.1 X wa.heap.size 1 _ _ rfl HQ.out.2.2.2.1 (by have := HLN.out; unfold maxLen; omega) (by have := HLN.out; omega) HQ.out.2.2.2.2 ?_; intro v' w3 hown' hu' hnew)
      go_roundw
      case rel =>
        refine ⟨k + 1, by have := HK.out; omega, by show _ = _; go_num, by rw [hT1.out]; exact hown', ?_, HQ.out.2.2.1.then hu' fun i hi e => ?_⟩
        · rw [hT2.out]
          have hf := World.ownsRow.lt HQ.out.1
          have hlt := HX.out.2.2.2.1
          have hs1 := HX.out.2.2.2.2.1
          exact HQ.out.2.1.upd hu' (fun e => by have := (hf _ e).1; have := hlt b (.inl rfl); omega) (fun e => by have := (hf _ e).1; have := hlt r (.inr (.inl rfl)); omega) (fun e => by have := (hf _ e).1; have := hlt q (.inr (.inr rfl)); omega)
        · have := (World.ownsRow.lt HQ.out.1 _ e).1
          omega
      case measure => have := HK.out; simp [intOf]; omega
    · obtain rfl : k = l.length := by omega
      have hk' : ¬ ((l.length : Int) < (l.length : Int)) := by omega
      rw [List.take_length] at hown hb
      have hr := HX.out.2.1.upd hu (HX.out.1.not HX.out.2.1 (by decide))
      have hDn : leafD l ≠ [] := by intro h0; have h2 := leafD_length l; rw [h0] at h2; have := HL.out.1; simp at h2; omega
      have hDl : (leafD l).length ≤ 1024 := by rw [leafD_length]; exact HL.out.2
      generalize hLL : notesM L (leafI l) = LL at *
      generalize hDD : leafD l = D at *
      obtain ⟨g0, c0, rfl, _, _⟩ := own_form hown hDn
      have HY := Lib.hid (And.intro hown (And.intro hb (And.intro (show Upd (Book3 b r q) w wr from HX.out.2.2.1.to.trans hu) (And.intro hr (And.intro hDn (And.intro hDl hu.size))))))
      clear hown hb hu hr hDn hDl hk hge
      go_wp2_with fail
      have hBb : ∀ k, Book3 b r q k → k < w1.heap.size := fun k e => by have h1 := HX.out.2.2.2.1 k e; have h2 := HX.out.2.2.2.2.1; omega
      have HG := tree_levels (x0 := ⟨some ⟨g0, 0, none⟩, D.length, c0⟩) HY.out.2.1 HY.out.1 HY.out.2.2.2.2.1 HY.out.2.2.2.2.2.1 HY.out.2.2.2.2.2.2 hBb
      refine HG.mono ?_
      clear HG
      rintro e w5 ⟨v5, xs5, rfl, ho5, hlev5, hb5, hu5⟩
      obtain ⟨m, g, cc, g2, c2, hm, rfl, hcell, s1, s2, hg1, hg2⟩ := lev_top ho5 hlev5 HY.out.2.2.2.2.1
      have hmb : (m : Int) ≤ 1024 := by have := depthM_le _ D rfl; have := HY.out.2.2.2.2.2.1; omega
      have hwm : IntKind.i64.wrap (m : Int) = m := by rw [IntKind.wrap_i64]; omega
      have hmi : (m : Int) < (m : Int) + 1 := by omega
      have hr5 := HY.out.2.2.2.1.upd hu5 (HY.out.2.1.not HY.out.2.2.2.1 (by decide))
      have hu6 := HY.out.2.2.1.trans hu5
      generalize hX : rootM shaM D = X at *
      obtain ⟨hrb, hs1, hs2⟩ := dig_end X hr5
      have HF : Hid (BookL (w5.setRow w.heap.size (dA X)) b r q (notesM LL (insM shaM D)) ∧ Upd (Book3 b r q) w (w5.setRow w.heap.size (dA X))) :=
        ⟨hb5.far hr5 (by decide) ((Upd.refl _ _).setRow _ _ fun _ => rfl), hu6.setRow _ _ (fun h => absurd h (Nat.lt_irrefl _))⟩
      have HGG := Lib.hid (And.intro hs1 hs2)
      have HXX := Lib.hid hX
      clear hs1 hs2 hr5 hu6 hb5 hu5 hlev5 ho5 hm hg1 hg2 hX HY hBb
      go_wp2
      refine bodyPost_ret (v := .tuple #[.agg (dA X), .int .i64 0]) ?_ rfl (by rw [hLL, hDD, HXX.out]; exact ⟨rfl, HF.out⟩)
      rw [results_seg2 (P := Try.prog) (fn := Try.f38) (p := 4) (t := 5) (ty := 40) rfl _ _ ⟨w.heap.size, 0, none⟩ 32 _ (.int .i64 0) rfl rfl Try.underlying40 rfl sizeOf40 HGG.out.1, HGG.out.2]
/-! ### a leaf that is too long -/
set_option maxHeartbeats 800000 in
set_option maxRecDepth 20000 in
theorem tree_Leaf_long {w : World} {p A : Option Addr} {n : Nat} (c : Nat) (hn : 65536 ≤ n) :
    Calls Try.prog 35 #[.pointer p, .slice A n c] w fun e W => e = .returned (.tuple #[.agg (dA dig0), .int .i64 5]) ∧ Kept w W := by
  have hr1 : Blk (w.alloc (.cells (dA dig0) 40)) w.heap.size 40 (encB dig0.1) := Blk.new w _ _
  have hk1 : Kept w (w.alloc (.cells (dA dig0) 40)) := (Upd.refl _ w).alloc _
  generalize hW1 : w.alloc (.cells (dA dig0) 40) = w1 at *
  obtain ⟨hrb, hs1, hs2⟩ := dig_end dig0 hr1
  have HF : Hid (Kept w (w1.setRow w.heap.size (dA dig0)) ∧ segB (w1.setRow w.heap.size (dA dig0)) ⟨w.heap.size, 0, none⟩ 32 = true ∧ segV (w1.setRow w.heap.size (dA dig0)) ⟨w.heap.size, 0, none⟩ 32 = dA dig0) := ⟨Upd.setRow hk1 _ _ (fun h => absurd h (Nat.lt_irrefl _)), hs1, hs2⟩
  clear hr1 hk1 hs1 hs2
  have hd1 : decide ((65536 : Int) ≤ (n : Int)) = true := by rw [decide_eq_true_iff]; omega
  have hd2 : decide (65536 ≤ n) = true := by rw [decide_eq_true_iff]; omega
  clear hn
  go_enter Try.func35, Try.ntmps35
  go_wp2
  refine bodyPost_ret (v := .tuple #[.agg (dA dig0), .int .i64 5]) ?_ rfl ⟨rfl, HF.out.1⟩
  rw [results_seg2 (P := Try.prog) (fn := Try.f35) (p := 4) (t := 5) (ty := 40) rfl _ _ ⟨w.heap.size, 0, none⟩ 32 _ (.int .i64 5) rfl rfl Try.underlying40 rfl sizeOf40 HF.out.2.1, HF.out.2.2]

set_option maxHeartbeats 800000 in
set_option maxRecDepth 20000 in
theorem tree_Set_long {w : World} {lo hi t b : Nat} {D : List Dig} (h : TreeAt w lo hi t b D) {A : Option Addr} {m : Nat} (c : Nat) (hm : 65536 ≤ m) (i : Nat) (hi' : i < D.length) :
    Calls Try.prog 16 #[.pointer (some ⟨t, 0, none⟩), .int .i64 i, .slice A m c] w fun e W => e = .returned (.int .i64 5) ∧ Kept w W := by
  obtain ⟨fv, v, xs, h⟩ := h
  have c0 := h.blk.cell (k := 0) rfl
  have c1 := h.blk.cell (k := 1) rfl
  have d0 : decide ((i : Int) < 0) = false := decide_eq_false (by omega)
  have d1 : decide (D.length ≤ i) = false := decide_eq_false (by omega)
  have HM := Lib.hid hm
  clear h hm hi'
  generalize D.length = n at *
  go_enter Try.func16, Try.ntmps16
  go_wp2_with fail
  refine (tree_none c0).mono ?_
  rintro e W ⟨rfl, rfl⟩
  go_wp2_with fail
  refine (tree_Leaf_long c HM.out).mono ?_
  rintro e w3 ⟨rfl, hu3⟩
  clear c0 c1 d0 d1
  have HF := Lib.hid (hu3.alloc (.cells (dA dig0) 40))
  clear hu3
  go_wp2
  go_ret
  exact ⟨rfl, HF.out⟩
end Go.Proofs.Ytjimamgghkgdeaa
