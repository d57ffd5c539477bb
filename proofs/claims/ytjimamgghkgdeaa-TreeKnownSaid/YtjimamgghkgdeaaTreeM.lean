/- tree: Set. -/
import Derived.Test.YtjimamgghkgdeaaTreeL
namespace Go.Proofs.Ytjimamgghkgdeaa
open Go.RowKit

theorem levelsM_head (l : List Dig) : ∃ tl, levelsM shaM l = l :: tl ∧ (1 < l.length → tl = levelsM shaM (aboveM shaM l)) ∧ (l.length ≤ 1 → tl = []) := by
  rcases Nat.lt_or_ge 1 l.length with h | h
  · exact ⟨_, levelsM_more h, fun _ => rfl, fun h2 => by omega⟩
  · exact ⟨_, levelsM_one h, fun h2 => by omega, fun _ => rfl⟩

theorem dig_at {W : World} {g : Nat} {d : Dig} (h : Blk W g 40 (encB d.1)) : segB W ⟨g, 0, none⟩ 32 = true ∧ segV W ⟨g, 0, none⟩ 32 = dA d :=
  h.seg 0 32 (encB d.1) (by rw [encB_length, d.2]) (fun j _ => by rw [Nat.zero_add])

/-- what stands while a leaf is being set: k levels are done -/
structure SetI (W0 W : World) (lo hi t b r q n gd m : Nat) (L : List Bytes) (D : List Dig) (i0 : Nat) (d0 : Dig) (fv v : Value) (xs : List SlC) (k : Nat) (done rest : List (List Dig)) (i : Nat) (d : Dig) (N : List Bytes) : Prop where
  tr : TreeI W lo hi t b n (done ++ rest) fv v xs
  k : done.length = k
  m : (done ++ rest).length = m
  lv : setM shaM (levelsM shaM D) i0 d0 = done ++ setM shaM rest i d
  ins : setIns shaM (levelsM shaM D) i0 d0 = N ++ setIns shaM rest i d
  book : BookL W b r q (notesM L N)
  cell : Blk W gd 40 (encB d.1)
  upd : Upd (fun j => Book3 b r q j ∨ (lo ≤ j ∧ j < hi) ∨ j = gd) W0 W

set_option maxHeartbeats 1000000 in
set_option maxRecDepth 20000 in
theorem tree_Set {w : World} {lo hi t b r q : Nat} {L : List Bytes} {D : List Dig} (hb : BookL w b r q L) (h : TreeAt w lo hi t b D) {A : Option Addr} {R : Bytes} (c : Nat) (hR : Byt w A R) (hl : R.length < 65536) (i : Nat) (hi' : i < D.length) :
    Calls Try.prog 16 #[.pointer (some ⟨t, 0, none⟩), .int .i64 i, .slice A R.length c] w fun e W => e = .returned (.int .i64 0) ∧ TreeAt W lo hi t b (D.set i (leafM shaM R)) ∧ BookL W b r q (notesM (noteM L (leafIn R)) (setIns shaM (levelsM shaM D) i (leafM shaM R))) ∧ Upd (fun k => Book3 b r q k ∨ (lo ≤ k ∧ k < hi)) w W := by
  obtain ⟨fv, v, xs, h⟩ := h
  have c0 := h.blk.cell (k := 0) rfl
  have c1 := h.blk.cell (k := 1) rfl
  have d0 : decide ((i : Int) < 0) = false := decide_eq_false (by omega)
  have d1 : decide (D.length ≤ i) = false := decide_eq_false (by omega)
  have HX := Lib.hid (And.intro hb (And.intro h (And.intro hR (And.intro hl hi'))))
  obtain ⟨n, hn⟩ : ∃ n, n = D.length := ⟨_, rfl⟩
  rw [← hn] at c1 d1
  have HN := Lib.hid hn
  clear h hb hR hl hi' hn
  go_enter Try.func16, Try.ntmps16
  go_wp2_with fail
  refine (tree_none c0).mono ?_
  rintro e W ⟨rfl, rfl⟩
  go_wp2_with fail
  refine (tree_Leaf (R := R) HX.out.1 c HX.out.2.2.1 HX.out.2.2.2.1).mono ?_
  rintro e w3 ⟨rfl, hb3, hu3⟩
  obtain ⟨hb, h, -, -, hi'⟩ := HX.out
  have h3 := h.book hb hu3
  clear HX c0 c1 d0 d1
  have hsz3 := hu3.size
  have h4 := h3.kept ((Upd.refl (fun _ => False) w3).alloc (.cells (dA dig0) 40))
  have hb4 := hb3.kept ((Upd.refl (fun _ => False) w3).alloc (.cells (dA dig0) 40))
  have hu4 : Upd (Book3 b r q) w (w3.alloc (.cells (dA dig0) 40)) := hu3.alloc _
  have hd4 : Blk (w3.alloc (.cells (dA dig0) 40)) w3.heap.size 40 (encB dig0.1) := Blk.new w3 _ _
  generalize hW4 : w3.alloc (.cells (dA dig0) 40) = w4 at *
  have hr4 := (dig_end (leafM shaM R) hd4).1
  have hu5 : Upd (fun k => k = w3.heap.size) w4 (w4.setRow w3.heap.size (dA (leafM shaM R))) := (Upd.refl _ _).setRow _ _ fun _ => rfl
  have hd5 : Blk (w4.setRow w3.heap.size (dA (leafM shaM R))) w3.heap.size 40 (encB (leafM shaM R).1) := hd4.setRow _
  have hb5 := hb4.far hd4 (by decide) hu5
  have hgd : hi ≤ w3.heap.size := Nat.le_trans h.sz hsz3
  have h5 := h4.upd hu5 (fun k _ hk _ e => by have e2 : k = w3.heap.size := e; omega)
  have hS0 : SetI w (w4.setRow w3.heap.size (dA (leafM shaM R))) lo hi t b r q n w3.heap.size (levelsM shaM D).length (noteM L (leafIn R)) D i (leafM shaM R) fv v xs 0 [] (levelsM shaM D) i (leafM shaM R) [] :=
    ⟨by rw [HN.out]; exact h5, rfl, rfl, rfl, rfl, hb5, hd5, (hu4.mono fun _ _ e => .inl e).trans (hu5.mono fun _ _ e => .inr (.inr e))⟩
  have hlm : (levelsM shaM D).length ≤ 1025 := by rw [levelsM_depth _ rfl]; have := depthM_le _ D rfl; have := h.n2; omega
  have HY := Lib.hid (And.intro hS0 (And.intro hlm (And.intro hi' (And.intro h.n2 (And.intro hgd hsz3)))))
  obtain ⟨m, hm⟩ : ∃ m, m = (levelsM shaM D).length := ⟨_, rfl⟩
  obtain ⟨Av, cv, hv⟩ := h5.form
  have c5 := h5.blk.cell (k := 6) rfl
  rw [hv, ← hm] at c5
  rw [← hm] at HY hlm
  have c5b := h5.blk.cell (k := 0) rfl
  clear h h3 h4 hb hb3 hb4 hu3 hu4 hd4 hu5 hd5 hb5 h5 hi' hS0 hm
  generalize hW5 : w4.setRow w3.heap.size (dA (leafM shaM R)) = w5 at *
  go_wp2_with fail
  obtain ⟨gd, hgde⟩ : ∃ gd, gd = w3.heap.size := ⟨_, rfl⟩
  rw [← hgde] at HY ⊢
  clear hW4 hW5 hgde c5 c5b
  obtain ⟨L1, hL1⟩ : ∃ L1, L1 = noteM L (leafIn R) := ⟨_, rfl⟩
  obtain ⟨dd, hdd⟩ : ∃ dd, dd = leafM shaM R := ⟨_, rfl⟩
  rw [← hL1, ← hdd] at HY
  have HL := Lib.hid (And.intro hL1 hdd)
  clear hL1 hdd
  go_loopw [1, 41] (fun u v1 wr => ∃ (k : Nat) (done rest : List (List Dig)) (j : Nat) (d : Dig) (N : List Bytes), u = .int .i64 j ∧ v1 = .int .i64 k ∧ SetI w wr lo hi t b r q n gd m L1 D i dd fv v xs k done rest j d N ∧ (rest = [] ∨ ∃ cur, rest = levelsM shaM cur ∧ j < cur.length ∧ cur.length ≤ 1024)) (fun _ v1 _ => 2000 - (intOf v1).toNat)
  case atStart => exact ⟨0, [], _, i, dd, [], rfl, rfl, HY.out.1, .inr ⟨D, rfl, HY.out.2.2.1, HY.out.2.2.2.1⟩⟩
  case round =>
    obtain ⟨k, done, rest, j, d, N, rfl, rfl, hs, hr⟩ := hrel
    rcases hr with rfl | ⟨cur, rfl, hj, hcl⟩
    · have hkm : ¬ ((k : Int) < (m : Int)) := by have h1 := hs.k; have h2 := hs.m; simp at h2; omega
      have HS := Lib.hid hs
      clear hs
      have hfin : Hid (TreeAt wr lo hi t b (D.set i (leafM shaM R)) ∧ BookL wr b r q (notesM (noteM L (leafIn R)) (setIns shaM (levelsM shaM D) i (leafM shaM R))) ∧ Upd (fun k => Book3 b r q k ∨ (lo ≤ k ∧ k < hi)) w wr) := by
        have hs := HS.out
        show _ ∧ _ ∧ _
        rw [← HL.out.1, ← HL.out.2]
        refine ⟨⟨fv, v, xs, ?_⟩, ?_, ?_⟩
        · rw [List.length_set, levelsM_set _ rfl HY.out.2.2.1, hs.lv, ← HN.out]
          have := hs.tr
          simpa [setM] using this
        · rw [hs.ins]
          have := hs.book
          simpa [setIns] using this
        · exact hs.upd.mono fun j hj e => by
            rcases e with e | e | e
            · exact .inl e
            · exact .inr e
            · have := HY.out.2.2.2.2.2; omega
      clear HS
      go_wp2
      go_ret
      exact ⟨rfl, hfin.out⟩
    · obtain ⟨tl, htl, ht1, ht2⟩ := levelsM_head cur
      have hkm : (k : Int) < (m : Int) := by have h1 := hs.k; have h2 := hs.m; rw [htl] at h2; simp at h2; omega
      have hget : (done ++ levelsM shaM cur)[k]? = some cur := by rw [htl, List.getElem?_append_right (by rw [hs.k]; omega), hs.k]; simp
      have hsk : SetI w wr.drew lo hi t b r q n gd m L1 D i dd fv v xs k done (levelsM shaM cur) j d N :=
        ⟨hs.tr.kept (Upd.refl _ wr).drew, hs.k, hs.m, hs.lv, hs.ins, hs.book.kept (Upd.refl _ wr).drew, hs.cell.drew, hs.upd.drew⟩
      obtain ⟨g, c1, g2, c2, hv1, hc, ho, hne, hg1, hg2, hg3, hg4, hg5, hg6, hg7, hx, hxk⟩ := hsk.tr.get hget
      obtain ⟨cs, hbl, hcs, htr⟩ := hsk.tr.turn hget hx hxk hj d
      have c6 := hsk.tr.blk.cell (k := 6) rfl
      rw [hv1, hsk.m] at c6
      obtain ⟨s1, s2⟩ := dig_at hsk.cell
      have hgdg : hi ≤ gd := HY.out.2.2.2.2.1
      have f1 : ∀ W, Upd (fun k => k = g2) wr.drew W → W.cell? ⟨t, 6, none⟩ = some (.slice (some ⟨g, 0, none⟩) m c1) := fun W hW => hW.cell c6 (fun e => hg7 (Eq.symm e))
      have f2 : ∀ W, Upd (fun k => k = g2) wr.drew W → W.cell? ⟨g, k, none⟩ = some (.slice (some ⟨g2, 0, none⟩) cur.length c2) := fun W hW => hW.cell hc (fun e => hg5 e)
      have f3 : ∀ W, Upd (fun k => k = g2) wr.drew W → segB W ⟨gd, 0, none⟩ 32 = true := fun W hW => (dig_at (hsk.cell.upd hW (by omega))).1
      have f4 : ∀ W, Upd (fun k => k = g2) wr.drew W → segV W ⟨gd, 0, none⟩ 32 = dA d := fun W hW => (dig_at (hsk.cell.upd hW (by omega))).2
      have hst := run_storeMid (P := Try.prog) hbl 40 32 (j * 32) sizeOf40 (dA d) (dA_size d) hcs (dA_one d)
      have hu2 : Upd (fun k => k = g2) wr.drew (wr.drew.setRow g2 (splice cs (j * 32) (dA d).toList).toArray) := (Upd.refl _ _).setRow _ _ fun _ => rfl
      have hb2 := hsk.book.far hbl (by decide) hu2
      have hd2 := hsk.cell.upd hu2 (by omega)
      have hup := hsk.upd.trans (hu2.mono fun k _ e => .inr (.inl (by have e2 : k = g2 := e; omega)))
      have hji : (j : Int) < (cur.length : Int) := by omega
      have hj0 : (j : Int) ≤ 1024 := by omega
      have hk0 : (k : Int) ≤ 1100 := by have := HY.out.2.1; omega
      have HS := Lib.hid (And.intro hs (And.intro hb2 (And.intro hd2 (And.intro hup (And.intro htr (And.intro hj (And.intro hcl (And.intro htl (And.intro ht1 (And.intro ht2 hgdg))))))))))
      clear hs hb2 hd2 hup htr hj hcl htl ht1 ht2 hget hsk hc ho hne hg1 hg2 hg3 hg4 hg5 hg6 hg7 hx hxk hbl hcs c6 s1 s2 hgdg hv1
      go_wp2_with fail
      refine wp_region_ord [(0, true), (1, true), (2, true), (3, true), (4, true), (5, true), (6, true), (7, true), (8, true), (9, true), (10, false)] (by kernel_rfl) (by kernel_rfl) (Upd (fun k => k = g2) wr.drew) (Upd.refl _ _) ?_
      simp only [ordOps, List.getD_cons_zero, List.getD_cons_succ]
      iterate 10 (refine wpOrd_held (fun K hK => ?_); go_simp; first | (apply Exists.intro; refine ⟨fun W hW => ?_, hK _ ?_⟩; (go_simp; first | done | exact rfl); clear hK K) | (refine hK _ ?_; clear hK K))
      generalize wr.drew = wd at *
      refine wpOrd_step (fun K hK => ?_) (Upd.refl _ wd)
      go_simp
      refine hK _ _ hu2 ?_
      clear hK K
      refine wpOrd_nil ?_
      clear f1 f2 f3 f4 hst
      generalize wd.setRow g2 (splice cs (j * 32) (dA d).toList).toArray = wb at *
      obtain ⟨hs, hb2, hd2, hup, htr, hj, hcl, htl, ht1, ht2, hgdg⟩ := HS.out
      have hkk := hs.k
      have hmm := hs.m
      have hls : (done ++ levelsM shaM cur).set k (cur.set j d) = (done ++ [cur.set j d]) ++ tl := by
        rw [htl, List.set_append_right _ _ (by omega), hkk, Nat.sub_self, List.set_cons_zero]; simp
      rw [hls] at htr
      have hmt : done.length + 1 + tl.length = m := by rw [htl] at hmm; simp at hmm; omega
      obtain ⟨Av, cv', hv2⟩ := htr.form
      have c6 := htr.blk.cell (k := 6) rfl
      have hmm2 : ((done ++ [cur.set j d]) ++ tl).length = m := by simp; omega
      rw [hv2, hmm2] at c6
      rcases Nat.lt_or_ge 1 cur.length with h1 | h1
      · have htl' := ht1 h1
        have hlm : 0 < tl.length := by rw [htl']; exact List.length_pos_iff.2 (levelsM_ne _)
        have hk1 : (k : Int) + 1 < (m : Int) := by omega
        have hgetb : ((done ++ [cur.set j d]) ++ tl)[k]? = some (cur.set j d) := by
          rw [List.append_assoc, List.getElem?_append_right (by omega), hkk, Nat.sub_self]; rfl
        obtain ⟨g', c1', g2', c2', hv', hc', ho', hne', hg1', hg2', hg3', hg4', hg5', hg6', hg7', hx', hxk'⟩ := htr.get hgetb
        have c6b := htr.blk.cell (k := 6) rfl
        rw [hv', hmm2] at c6b
        have c0b := htr.blk.cell (k := 0) rfl
        obtain ⟨A9, c9, hv9, hcc, hdg⟩ := ho'.digs
        simp only [Value.slice.injEq, true_and] at hv9
        obtain ⟨rfl, rfl⟩ := hv9
        obtain ⟨cs1, hcs1⟩ := own_cells htr.all (k := g') (by rw [hv']; rfl)
        have hlen : (cur.set j d).length = cur.length := List.length_set
        generalize hcu : cur.set j d = cur2 at *
        obtain ⟨j4, hj4⟩ : ∃ j4, j4 = j / 4 := ⟨_, rfl⟩
        have hq : (j : Int) / 4 = (j4 : Int) := by omega
        have hjq : 4 * j4 < cur2.length := by rw [hlen]; omega
        have hcl2 : cur2.length ≤ 100000 := by rw [hlen]; omega
        have hgl : 1 ≤ (group cur2 j4).length ∧ (group cur2 j4).length ≤ 4 := by rw [group_length]; omega
        have hup4 : j4 < (aboveM shaM cur).length ∧ (aboveM shaM cur).length ≤ 1024 := by rw [aboveM_length]; unfold up4; omega
        have hkk1 : (done ++ [cur2]).length = k + 1 := by simp [hkk]
        have HZ0 := Lib.hid (And.intro hjq (And.intro hcl2 (And.intro hgl (And.intro hup4 hkk1))))
        clear hjq hcl2 hgl hup4 hkk1
        have hT : ∀ W, Upd (fun i => Book3 b r q i ∨ i = gd) wb W → W.cell? ⟨t, 6, none⟩ = some (.slice (some ⟨g', 0, none⟩) m c1') := fun W hW => hW.cell c6b (fun e => e.elim (fun e => hb2.not htr.blk (by decide) e) (fun e => by have := htr.thi; have e2 : t = gd := e; omega))
        have hT0 : ∀ W, Upd (fun i => Book3 b r q i ∨ i = gd) wb W → W.cell? ⟨t, 0, none⟩ = some (.pointer (some ⟨b, 0, none⟩)) := fun W hW => hW.cell c0b (fun e => e.elim (fun e => hb2.not htr.blk (by decide) e) (fun e => by have := htr.thi; have e2 : t = gd := e; omega))
        have hTk : ∀ W, Upd (fun i => Book3 b r q i ∨ i = gd) wb W → W.cell? ⟨g', k, none⟩ = some (.slice (some ⟨g2', 0, none⟩) (cur2).length c2') := fun W hW => hW.cell hc' (fun e => e.elim (fun e => hb2.not hcs1 (by decide) e) (fun e => by have e2 : g' = gd := e; omega))
        have HZ := Lib.hid (And.intro hs (And.intro hb2 (And.intro hd2 (And.intro hup (And.intro htr (And.intro hj (And.intro hcl (And.intro htl' (And.intro hgdg (And.intro hcc (And.intro hdg (And.intro hlen (And.intro hj4 (And.intro htl (And.intro hmm2 (And.intro hkk (And.intro h1 hcu)))))))))))))))))
        clear hs hb2 hd2 hup htr hj hcl htl' htl ht1 ht2 hgdg hcc hdg hlen hj4 hmm2 hls hmt hv2 hv' hc' ho' hne' hg1' hg2' hg3' hg4' hg5' hg6' hg7' hx' hxk' c6b c0b hcs1 hgetb hkk hmm h1 hlm HS
        go_wp2_with fail
        refine wp_region_ord [(0, true), (1, true), (2, true), (3, true), (4, true), (5, true), (6, true), (7, true), (8, true), (9, true), (10, true), (11, true), (12, false), (13, false), (14, true), (15, true), (16, true), (17, false)] (by kernel_rfl) (by kernel_rfl) (Upd (fun i => Book3 b r q i ∨ i = gd) wb) (Upd.refl _ wb).drew ?_
        simp only [ordOps, List.getD_cons_zero, List.getD_cons_succ]
        iterate 12 (refine wpOrd_held (fun K hK => ?_); go_simp; first | (apply Exists.intro; refine ⟨fun W hW => ?_, hK _ ?_⟩; (go_simp; first | done | exact rfl); clear hK K) | (refine hK _ ?_; clear hK K))
        clear hT hT0 hTk
        have hwd : Kept wb wb.drew := (Upd.refl _ wb).drew
        have hSd : Upd (fun i => Book3 b r q i ∨ i = gd) wb wb.drew := (Upd.refl _ wb).drew
        generalize wb.drew = we at *
        refine wpOrd_step (fun K hK => ?_) hSd
        go_simp
        have hcc := HZ.out.2.2.2.2.2.2.2.2.2.1
        have hx1 := HZ0.out.1
        have hx2 := HZ0.out.2.1
        have HG := tree_group (w := we) (A := some ⟨g2', 0, none⟩) (D := cur2) c2' j4 hcc hx1 hx2
        obtain ⟨A8, hA8⟩ : ∃ A8 : Option Addr, A8 = (some (⟨g2', 0, none⟩ : Addr)).map (·.add ((4 * j4) * 32)) := ⟨_, rfl⟩
        rw [← hA8] at HG
        have HD8 : Hid (Digs we A8 (group cur2 j4)) := by
          rw [hA8]
          exact Digs.part (HZ.out.2.2.2.2.2.2.2.2.2.2.1.kept hwd) (4 * j4) 4
        refine HG.mono ?_
        clear HG hcc hx1 hx2 hA8
        rintro e W ⟨rfl, rfl⟩
        refine hK _ _ hSd ?_
        clear hK K
        refine wpOrd_step (fun K hK => ?_) hSd
        go_simp
        obtain ⟨hs, hb2, hd2, hup, htr, hj, hcl, htl', hgdg, hcc, hdg, hlen, hj4, htl, hmm2, hkk, h1, hcu⟩ := HZ.out
        have hgl := HZ0.out.2.2.1
        have HU := tree_Up (hb2.kept hwd) (c2' - 4 * j4) HD8.out hgl.1 hgl.2
        refine HU.mono ?_
        clear HU
        rintro e wf ⟨rfl, hbf, huf⟩
        have hSf : Upd (fun i => Book3 b r q i ∨ i = gd) wb wf := hSd.trans (huf.mono fun _ _ e => .inl e)
        have hdf := (hd2.kept hwd).upd huf ((hb2.kept hwd).not (hd2.kept hwd) (by decide))
        have htf := (htr.kept hwd).book (hb2.kept hwd) huf
        obtain ⟨X, hX⟩ : ∃ X, X = upM shaM (group (cur2) j4) := ⟨_, rfl⟩
        rw [← hX]
        have hrB : rowB wf gd 32 = true := rowB_of (show wf.heap[gd]? = some (.cells (encB d.1).toArray 40 (0, 0)) from hdf) (by simp [encB_length, d.2])
        have hug : Upd (fun i => i = gd) wf (wf.setRow gd (dA X)) := (Upd.refl _ _).setRow _ _ fun _ => rfl
        have hdg2 : Blk (wf.setRow gd (dA X)) gd 40 (encB X.1) := hdf.setRow _
        have hbg := hbf.far hdf (by decide) hug
        have htg := htf.upd hug (fun i _ hi _ e => by have e2 : i = gd := e; omega)
        have hSg : Upd (fun i => Book3 b r q i ∨ i = gd) wb (wf.setRow gd (dA X)) := hSf.trans (hug.mono fun _ _ e => .inr e)
        have HT : Hid (SetI w (wf.setRow gd (dA X)) lo hi t b r q n gd m L1 D i dd fv v xs (k + 1) (done ++ [cur2]) tl j4 X (N ++ [upIn (group (cur2) j4)]) ∧ (tl = [] ∨ ∃ cur', tl = levelsM shaM cur' ∧ j4 < cur'.length ∧ cur'.length ≤ 1024)) := by
          refine ⟨⟨htg, HZ0.out.2.2.2.2, hmm2, ?_, ?_, ?_, hdg2, hup.then hSg (fun _ _ e => e.elim .inl (fun e => .inr (.inr e)))⟩, .inr ⟨aboveM shaM cur, htl', HZ0.out.2.2.2.1.1, HZ0.out.2.2.2.1.2⟩⟩
          · rw [hs.lv, setM_more h1, htl', hX, hj4, ← hcu]; simp
          · rw [hs.ins, setIns_more h1, htl', hX, hj4, ← hcu]; simp
          · rw [notesM_append]; exact hbg
        refine hK _ _ hSf ?_
        clear hK K hs hb2 hd2 hup htr hj hcl htl' hgdg hcc hdg hlen hj4 htl hmm2 hkk h1 hX hcu hdf htf hug hdg2 hbg htg huf hbf HZ hgl hwd hSd HZ0
        iterate 3 (refine wpOrd_held (fun K hK => ?_); go_simp; first | (apply Exists.intro; refine ⟨fun W hW => ?_, hK _ ?_⟩; (go_simp; first | done | exact rfl); clear hK K) | (refine hK _ ?_; clear hK K))
        refine wpOrd_step (fun K hK => ?_) hSf
        go_simp
        refine hK _ _ hSg ?_
        clear hK K
        refine wpOrd_nil ?_
        clear hSf hSg
        generalize wf.setRow gd (dA X) = wg at *
        go_wp2
        go_roundw
        case rel => exact ⟨k + 1, _, tl, j4, X, _, rfl, by show _ = _; go_num, HT.out.1, HT.out.2⟩
        case measure => simp [intOf]; omega
      · have htl' := ht2 h1
        have hk1 : ¬ (k : Int) + 1 < (m : Int) := by rw [htl'] at hmt; simp at hmt; omega
        have HT : Hid (SetI w wb lo hi t b r q n gd m L1 D i dd fv v xs (k + 1) (done ++ [cur.set j d]) [] j d N) := by
          rw [htl'] at htr hmm2
          refine ⟨htr, by simp [hkk], hmm2, ?_, ?_, hb2, hd2, hup⟩
          · rw [hs.lv, htl, htl']; simp [setM]
          · rw [hs.ins, htl, htl']; simp [setIns]
        clear hs hb2 hd2 hup htr hj hcl htl ht1 ht2 hgdg htl'
        go_wp2
        go_roundw
        case rel => exact ⟨k + 1, _, [], j, d, N, rfl, by show _ = _; go_num, HT.out, .inl rfl⟩
        case measure => simp [intOf]; omega
end Go.Proofs.Ytjimamgghkgdeaa
