/- As long as the book tells of no clash, trees with as many leaves have the same root just if all leaves are the same: the statement TreeUnlike holds. For every input. -/
import Derived.Test.YtjimamgghkgdeaaTreeQ
namespace Go.Proofs.Ytjimamgghkgdeaa
open Go.ChangeShapes Go.WideShapes Go.ChangeAt Go.RowKit

attribute [local irreducible] wpOrd
/-- one slice of a row turned -/
theorem OwnS.set {W : World} {B : Nat} {v : Value} {xs : List SlC} (h : OwnS W B v xs) {k : Nat} (hk : k < xs.length) (x : SlC) :
    ∃ g c, v = .slice (some ⟨g, 0, none⟩) xs.length c ∧ B ≤ g ∧ (∃ cur, W.heap[g]? = some (.cells cur 32 (0, 0))) ∧ OwnS (W.setCell ⟨g, k, none⟩ (.slice x.A x.n x.c)) B v (xs.set k x) := by
  rcases h.2 with ⟨_, h0⟩ | ⟨g, cap, cur, rfl, hb, hg, h1, h2, h3, h4⟩
  · omega
  · have hh := heap_setCell_same W g k _ _ (.slice x.A x.n x.c) hg
    refine ⟨g, cap, rfl, hb, ⟨cur, hg⟩, by rw [List.length_set, rowsOf_length slA_size, List.length_set], .inr ⟨g, cap, cur.setIfInBounds k (.slice x.A x.n x.c), by rw [List.length_set], hb, ?_, by rw [List.length_set]; exact h1, h2, by simpa using h3, ?_⟩⟩
    · first | exact hh | simpa using hh
    · rw [List.length_set, rowsOf_set slA_size (by omega) xs k x hk, ← h4]
      apply List.ext_getElem?
      intro j
      have hct : cur.toList.length = cap * 1 := by rw [Array.length_toList, h3]
      have ht : (List.take (xs.length * 1) cur.toList).length = xs.length * 1 := by rw [List.length_take, hct]; omega
      rw [splice_get _ _ _ _ (by rw [ht]; show k * 1 + 1 ≤ _; omega)]
      simp only [Array.toList_setIfInBounds, List.getElem?_take, List.getElem?_set, slA]
      by_cases hj : j < xs.length * 1
      · rw [if_pos hj, if_pos hj]
        by_cases hjk : k = j
        · subst hjk
          rw [if_pos rfl, if_pos (by rw [hct]; omega), if_pos (by simp)]
          simp
        · rw [if_neg hjk, if_neg (by simp; omega)]
      · rw [if_neg hj, if_neg hj, if_neg (by simp; omega)]

/-- trees of as many leaves with the same root have the same leaves, where unlike inputs have unlike digests -/
theorem root_alike {L : List Bytes} (hin : ∀ a ∈ L, ∀ b ∈ L, shaM a = shaM b → a = b) {ls ls' : List (SlC × Bytes)} (hl : ls.length = ls'.length) (h0 : 0 < ls.length)
    (h1 : ∀ r ∈ leafI ls, r ∈ L) (h2 : ∀ r ∈ insM shaM (leafD ls), r ∈ L) (h3 : ∀ r ∈ leafI ls', r ∈ L) (h4 : ∀ r ∈ insM shaM (leafD ls'), r ∈ L)
    (he : rootM shaM (leafD ls) = rootM shaM (leafD ls')) {i : Nat} (hi : i < ls.length) (hi' : i < ls'.length) : ls[i].2 = ls'[i].2 := by
  have hD := rootM_inj (H := shaM) (leafD ls).length rfl (by rw [leafD_length, leafD_length, hl]) (by rw [leafD_length]; exact h0) (fun a ha b hb => hin a (h2 a ha) b (h4 b hb)) he
  have e1 : (leafD ls)[i]? = some (shaM (leafIn ls[i].2)) := by rw [leafD, List.getElem?_map, List.getElem?_eq_getElem hi]; rfl
  have e2 : (leafD ls')[i]? = some (shaM (leafIn ls'[i].2)) := by rw [leafD, List.getElem?_map, List.getElem?_eq_getElem hi']; rfl
  rw [hD, e2] at e1
  have e3 := hin _ (h3 _ (List.mem_map.2 ⟨_, List.getElem_mem hi', rfl⟩)) _ (h1 _ (List.mem_map.2 ⟨_, List.getElem_mem hi, rfl⟩)) (Option.some.inj e1)
  exact (List.cons.inj e3).2.symm

set_option maxHeartbeats 800000 in
set_option maxRecDepth 20000 in
theorem TreeUnlike_walk (A : Option Addr) (c : Nat) (l : List (SlC × Bytes)) (at_ : Int) (x : SlC) (R : Bytes) (w : World) (hl : LeavesAt w A l) (hlm : l.length ≤ 140737488351232) (hat : (Lit.int .i64 at_).wf = true) (hx : LeafAt w x R) :
    Calls Try.prog 11 #[.slice A l.length c, .int .i64 at_, x.v] w fun e w' => e = .returned (.bool true) ∧ Kept w w' := by
  have hnot : ∀ (x : Bool) (w : World), (Op.unary .not (.bool x)).run Try.prog w = .ok (.bool (!x)) w := fun _ _ => rfl
  obtain ⟨Ax, cx, rfl, hcx, hRx⟩ := hx.form
  rw [SlC.v_eq]
  simp only
  have HX := Lib.hid (And.intro hl hlm)
  obtain ⟨z, hz, hm1, hm2⟩ := min_num R.length
  have hsl : ∀ W : World, (Instr.sliceAt 32 (.slice Ax R.length cx) none (some (.int .i64 (z : Int))) none).run Try.prog W = .ok (.slice Ax z cx) W := fun W => slice_u8_h W Ax R.length cx z (by omega)
  obtain ⟨Rx, hRxe⟩ : ∃ Rx, Rx = R.take z := ⟨_, rfl⟩
  have hzl : Rx.length = z := by rw [hRxe, List.length_take]; omega
  have hxL : LeafAt w ⟨Ax, Rx.length, cx⟩ Rx := ⟨by rw [hRxe]; exact hRx.take z, rfl, by rw [hzl]; show z ≤ cx; omega⟩
  rw [← hzl] at hsl hm1 hm2
  have HR := Lib.hid (And.intro hxL (show Rx.length ≤ 100 by omega))
  clear hl hlm hx hcx hRx hxL hRxe hzl hz
  go_enter Try.func11, Try.ntmps11
  go_wp2_with fail
  refine (law_works _).mono ?_
  rintro e w1 ⟨rfl, hu⟩
  have HU := Lib.hid hu
  clear hu
  go_wp2_with fail
  refine (law_cut c (HX.out.1.kept HU.out) HX.out.2).mono ?_
  rintro e w2 ⟨v, rfl, hv, hu2⟩
  have hvl : ∀ p ∈ cutL l 40, LeafAt w p.1 p.2 ∧ p.2.length ≤ 100 := cutL_leaf HX.out.1 40
  have hlen := cutL_length l 40
  generalize cutL l 40 = ls at *
  obtain ⟨av, ca, rfl⟩ : ∃ a c, v = .slice a ls.length c := by
    obtain ⟨a, c, h⟩ := OwnRows.form hv
    exact ⟨a, c, by rw [h, List.length_map]⟩
  obtain ⟨n, hn⟩ : ∃ n, n = ls.length := ⟨_, rfl⟩
  have HV := Lib.hid (And.intro hn.symm (And.intro hv hvl))
  rw [← hn]
  have hn40 : Hid (n ≤ 40) := by show _ ≤ _; rw [hn, hlen]; omega
  have HU2 := Lib.hid hu2
  clear hv hvl hlen hn hu2 HX
  by_cases h0 : n = 0
  · subst h0
    have HF := Lib.hid (HU.out.then HU2.out (fun _ _ h => h))
    go_wp2
    go_ret
    exact ⟨rfl, HF.out⟩
  · have hn0 : ¬ ((n : Int) = 0) := by omega
    have HN := Lib.hid (show 1 ≤ n ∧ n ≤ 40 from ⟨by omega, hn40.out⟩)
    clear h0 hn40
    go_wp2_with fail
    refine (ref_Bring at_ n hat (by have := HN.out.1; omega) (by have := HN.out.2; omega) _).mono ?_
    rintro e W ⟨rfl, rfl⟩
    obtain ⟨i, hi⟩ : ∃ i : Nat, at_ % (n : Int) = i := ⟨(at_ % (n : Int)).toNat, by have := (mod_range at_ n (by have := HN.out.1; omega)).1; omega⟩
    have hin : i < n := by have := (mod_range at_ n (by have := HN.out.1; omega)).2; omega
    rw [hi]
    have hin1 : (i : Int) < (n : Int) := by omega
    have HIN := Lib.hid hin
    clear hi hin
    go_wp2_with fail
    refine (law_book _).mono ?_
    rintro e w3 ⟨b, r, q, rfl, hI⟩
    have HI := Lib.hid hI
    clear hI
    clear hsl hm1 hm2
    -- the book made behind the row
    have hI1 : Ink0 w1 w3 b r q [] := ⟨HI.out.book, HU2.out.then HI.out.upd (fun _ _ h => h), fun k e => Nat.le_trans HU2.out.size (HI.out.far k e)⟩
    have hv3 : OwnS w3 w1.heap.size (.slice av n ca) (ls.map (·.1)) := by
      have := OwnRows.upd HV.out.2.1 HI.out.upd (fun _ _ h => h)
      rw [HV.out.1] at this
      exact this
    replace HI := Lib.hid hI1
    have HR3 := Lib.hid hv3
    have HVL := Lib.hid (And.intro HV.out.1 HV.out.2.2)
    have HVS := Lib.hid (show ∀ p ∈ ls, p.2.length < 65536 from fun p hp => by have := (HV.out.2.2 p hp).2; omega)
    clear hI1 hv3 HV HU2
    go_wp2_with fail
    have HG := tree_Of (l := ls) HI.out.book ca (fun W hW => OwnS.leaves (OwnRows.upd HR3.out hW (fun k e => by obtain ⟨cur, hc⟩ := own_cells HR3.out e; exact HI.out.book.not hc (by decide)))
      (fun p hp => by
        obtain ⟨h1, h2⟩ := HVL.out.2 p hp
        exact ⟨(h1.kept HU.out).kept (HI.out.upd.then hW (fun k hk e => by have := HI.out.far k e; omega)), by omega⟩)) (by rw [HVL.out.1]; exact HN.out.1) (by rw [HVL.out.1]; have := HN.out.2; omega) HVS.out
    rw [HVL.out.1] at HG
    refine HG.mono ?_
    clear HG
    rintro e w4 ⟨rfl, hb, hu⟩
    have hv4 := OwnRows.upd HR3.out hu (fun k e => by obtain ⟨cur, hc⟩ := own_cells HR3.out e; exact HI.out.book.not hc (by decide))
    obtain ⟨da, hda⟩ : ∃ d, d = rootM shaM (leafD ls) := ⟨_, rfl⟩
    have HDA := Lib.hid hda
    rw [← hda]
    obtain ⟨L1, hL1⟩ : ∃ L, L = notesM (notesM [] (leafI ls)) (insM shaM (leafD ls)) := ⟨_, rfl⟩
    rw [← hL1] at hb
    have HL1 := Lib.hid hL1
    have hI4 := HI.out.to hb hu
    have hd4 : Blk (w4.alloc (.cells (dA da) 40)) w4.heap.size 40 (encB (da).1) := Blk.new w4 _ _
    have hk4 : Kept w4 (w4.alloc (.cells (dA da) 40)) := (Upd.refl _ w4).alloc _
    replace HI := Lib.hid (hI4.kept hk4)
    replace HR3 := Lib.hid (OwnRows.upd hv4 hk4 (fun _ _ h => h))
    have H4 := Lib.hid hd4
    clear hda hL1 hb hu hv4 hI4 hd4 hk4
    have hil : i < ls.length := by rw [HVL.out.1]; exact HIN.out
    obtain ⟨gr, cr, hvr, hgr, -, hcell⟩ := OwnS.cell HR3.out (k := i) (by rw [List.length_map]; exact hil)
    simp only [Value.slice.injEq] at hvr
    obtain ⟨rfl, -, rfl⟩ := hvr
    obtain ⟨hLi, hLi2⟩ := HVL.out.2 _ (List.getElem_mem hil)
    obtain ⟨Ai, ci, hxi, hci, hRi⟩ := hLi.form
    simp only [List.getElem_map] at hcell
    rw [hxi, SlC.v_eq] at hcell
    simp only at hcell
    have HLI := Lib.hid (And.intro hRi hLi2)
    clear hLi hLi2 hxi hci hRi
    go_wp2_with fail
    generalize w4.heap.size = g4 at *
    generalize w4.alloc (.cells (dA da) 40) = w5 at *
    have HG := ref_EqBytes (A := Ai) (A2 := Ax) (R := ls[i].2) (R2 := Rx) ci cx ((HLI.out.1.kept HU.out).kept HI.out.upd) ((HR.out.1.1.kept HU.out).kept HI.out.upd) (by have := HLI.out.2; omega) (by have := HR.out.2; omega)
    refine HG.mono ?_
    clear HG
    rintro e w6 ⟨rfl, hu6⟩
    obtain ⟨sm, hsm⟩ : ∃ sm, sm = decide (ls[i].2 = Rx) := ⟨_, rfl⟩
    rw [← hsm]
    have HSM := Lib.hid hsm
    obtain ⟨g', c', hv', hgb, ⟨cur, hcur⟩, hset⟩ := OwnS.set (OwnRows.upd HR3.out hu6 (fun _ _ h => h)) (k := i) (by rw [List.length_map]; exact hil) ⟨Ax, Rx.length, cx⟩
    simp only [Value.slice.injEq, Option.some.injEq, Addr.mk.injEq] at hv'
    obtain ⟨⟨rfl, -⟩, -, rfl⟩ := hv'
    have hus : Upd (fun k => k = gr) w6 (w6.setCell ⟨gr, i, none⟩ (.slice Ax Rx.length cx)) := (Upd.refl _ w6).setCell (p := ⟨gr, i, none⟩) _ (fun _ => rfl)
    have hI6 := HI.out.kept hu6
    have hb6 := hI6.book.far hcur (by decide) hus
    have hI7 := hI6.step hb6 hus (fun k e => .inr (by have e2 : k = gr := e; omega))
    have hg4 : gr ≠ g4 := by
      rintro rfl
      have h1 := H4.out.kept hu6
      unfold Blk at h1
      rw [hcur] at h1
      simp only [Option.some.injEq, Obj.cells.injEq] at h1
      exact absurd h1.2.1 (by decide)
    have h47 := (H4.out.kept hu6).upd hus (fun e => hg4 e.symm)
    obtain ⟨ls2, hls2⟩ : ∃ ls2, ls2 = ls.set i (⟨Ax, Rx.length, cx⟩, Rx) := ⟨_, rfl⟩
    have hmap : (ls.map (·.1)).set i ⟨Ax, Rx.length, cx⟩ = ls2.map (·.1) := by rw [hls2, List.map_set]
    rw [hmap] at hset
    have hls2n : ls2.length = n := by rw [hls2, List.length_set, HVL.out.1]
    have hvl2 : ∀ p ∈ ls2, LeafAt w p.1 p.2 ∧ p.2.length ≤ 100 := fun p hp => by
      rw [hls2] at hp
      rcases List.mem_or_eq_of_mem_set hp with h1 | h1
      · exact HVL.out.2 p h1
      · rw [h1]; exact HR.out
    have hthaw : w6.frozen? ⟨gr, i, none⟩ = false := frozen_of_row w6 gr i _ _ hcur
    have HI2 := Lib.hid hI7
    have HR4 := Lib.hid hset
    have H47 := Lib.hid h47
    have HVL2 := Lib.hid (And.intro hls2n hvl2)
    have HLS2 := Lib.hid hls2
    have HVS2 := Lib.hid (show ∀ p ∈ ls2, p.2.length < 65536 from fun p hp => by have := (hvl2 p hp).2; omega)
    have hinn : (i : Int) < (n : Int) := hin1
    have hcell6 := hu6.cell hcell id
    clear hset hus hI6 hb6 hI7 hg4 h47 hmap hls2n hvl2 hgb hsm hcur hu6 HR3 HI H4 hgr hcell HR HLI hls2
    go_wp2_with fail
    generalize w6.setCell ⟨gr, i, none⟩ (.slice Ax Rx.length cx) = w7 at *
    have HG := tree_Of (l := ls2) HI2.out.book ca (fun W hW => OwnS.leaves (OwnRows.upd HR4.out hW (fun k e => by obtain ⟨cur, hc⟩ := own_cells HR4.out e; exact HI2.out.book.not hc (by decide)))
      (fun p hp => by
        obtain ⟨h1, h2⟩ := HVL2.out.2 p hp
        exact ⟨(h1.kept HU.out).kept (HI2.out.upd.then hW (fun k hk e => by have := HI2.out.far k e; omega)), by omega⟩)) (by rw [HVL2.out.1]; exact HN.out.1) (by rw [HVL2.out.1]; have := HN.out.2; omega) HVS2.out
    rw [HVL2.out.1] at HG
    refine HG.mono ?_
    clear HG
    rintro e w8 ⟨rfl, hb, hu⟩
    obtain ⟨db, hdbe⟩ : ∃ d, d = rootM shaM (leafD ls2) := ⟨_, rfl⟩
    have HDB := Lib.hid hdbe
    rw [← hdbe]
    obtain ⟨L2, hL2⟩ : ∃ L, L = notesM (notesM L1 (leafI ls2)) (insM shaM (leafD ls2)) := ⟨_, rfl⟩
    rw [← hL2] at hb
    have hI8 := HI2.out.to hb hu
    have h48 := H47.out.upd hu (HI2.out.book.not H47.out (by decide))
    have hd8 : Blk (w8.alloc (.cells (dA db) 40)) w8.heap.size 40 (encB (db).1) := Blk.new w8 _ _
    have hk8 : Kept w8 (w8.alloc (.cells (dA db) 40)) := (Upd.refl _ w8).alloc _
    have HI := Lib.hid (hI8.kept hk8)
    have hda := h48.kept hk8
    have hdb := hd8
    clear hb hu hI8 h48 hd8 hk8 HI2 H47 HR4 hdbe
    obtain ⟨I, M, m, hB⟩ := HI.out.book
    have hroot : clashB I M = false → (da = db ↔ ls[i].2 = Rx) := fun hc => by
      have hin : ∀ a ∈ L2, ∀ b ∈ L2, shaM a = shaM b → a = b := fun a ha b hb he => hB.inv.inj hc ha hb he
      have hil2 : i < ls2.length := by rw [HVL2.out.1]; exact HIN.out
      have hi2 : ls2[i].2 = Rx := by simp only [HLS2.out, List.getElem_set_self]
      constructor
      · intro e
        rw [HDA.out, HDB.out] at e
        rw [root_alike hin (ls := ls) (ls' := ls2) (by rw [HVL.out.1, HVL2.out.1]) (by rw [HVL.out.1]; exact HN.out.1)
          (fun r hr => by rw [hL2, HL1.out]; simp only [mem_notesM]; simp [hr]) (fun r hr => by rw [hL2, HL1.out]; simp only [mem_notesM]; simp [hr]) (fun r hr => by rw [hL2]; simp only [mem_notesM]; simp [hr]) (fun r hr => by rw [hL2]; simp only [mem_notesM]; simp [hr]) e hil hil2]
        exact hi2
      · intro e
        rw [HDA.out, HDB.out]
        congr 1
        apply List.ext_getElem?
        intro j
        rw [leafD, leafD, List.getElem?_map, List.getElem?_map, HLS2.out, List.getElem?_set]
        by_cases hj : i = j
        · subst hj
          rw [if_pos rfl, if_pos hil, List.getElem?_eq_getElem hil]
          simp [e]
        · rw [if_neg hj]
    have HRT := Lib.hid hroot
    clear hroot hL2
    generalize ls[i].2 = Ri at *
    clear hcell6 hthaw
    go_wp2_with fail
    generalize w8.heap.size = g8 at *
    generalize w8.alloc (.cells (dA db) 40) = w9 at *
    cases hcl : clashB I M with
    | true =>
      go_wp2_with fail
      refine (ink_Clash hB).mono ?_
      rw [hcl]
      rintro e wz ⟨rfl, huz⟩
      have HF := Lib.hid ((HU.out.then HI.out.upd (fun _ _ h => h)).then huz (fun _ _ h => h))
      replace hda := hda.kept huz
      replace hdb := hdb.kept huz
      obtain ⟨p1, p2⟩ := dig_at hda
      obtain ⟨p3, p4⟩ := dig_at hdb
      clear hB huz hda hdb
      go_wp2
      go_ret
      exact ⟨rfl, HF.out⟩
    | false =>
      have hiff := HRT.out hcl
      by_cases hss : Ri = Rx
      · obtain rfl : sm = true := by rw [HSM.out]; exact decide_eq_true hss
        obtain rfl := hiff.2 hss
        clear hiff hss
        go_wp2_with fail
        refine (ink_Clash hB).mono ?_
        rw [hcl]
        rintro e wz ⟨rfl, huz⟩
        have HF := Lib.hid ((HU.out.then HI.out.upd (fun _ _ h => h)).then huz (fun _ _ h => h))
        replace hda := hda.kept huz
        replace hdb := hdb.kept huz
        obtain ⟨p1, p2⟩ := dig_at hda
        obtain ⟨p3, p4⟩ := dig_at hdb
        clear hB huz hda hdb
        go_wp2
        go_ret
        exact ⟨rfl, HF.out⟩
      · obtain rfl : sm = false := by rw [HSM.out]; exact decide_eq_false hss
        have hne : ¬ (da = db) := fun e => hss (hiff.1 e)
        clear hiff hss
        go_wp2_with fail
        refine (ink_Clash hB).mono ?_
        rw [hcl]
        rintro e wz ⟨rfl, huz⟩
        have HF := Lib.hid ((HU.out.then HI.out.upd (fun _ _ h => h)).then huz (fun _ _ h => h))
        replace hda := hda.kept huz
        replace hdb := hdb.kept huz
        obtain ⟨p1, p2⟩ := dig_at hda
        obtain ⟨p3, p4⟩ := dig_at hdb
        clear hB huz hda hdb
        go_wp2
        go_ret
        exact ⟨rfl, HF.out⟩
set_option maxRecDepth 100000 in
theorem TreeUnlike_lifted (os : Os) (started : os.Started) (H : Type) (enc : TypeId × Value → H) :
    ReturnsInHanded {} Try.checked os 11 .any (Rows.treeUnlikeSpec.pre6 enc Try.prog Try.f11 Rows.treeUnlikeRow.domain false) (Rows.treeUnlikeSpec.post enc Try.prog Try.f11 false true false false) := by
  refine law_lifted os started Try.func11 (by kernel_rfl) rfl rfl (by kernel_rfl) ?_
    (ChangeSpec.witness6 (enc := enc) (C := Try.checked) false ⟨#[], #[.slice none 0 0, .int .i64 0, .slice none 0 0], []⟩ 8 (by kernel_rfl) (by kernel_rfl) (by kernel_rfl) (by kernel_rfl)) ?_
  · intro ds h
    rw [Try.params11] at h
    match ds, h with
    | [d0, d1, d2], _ => rfl
  · intro W base args ds ps hval hA hsz
    rw [Try.params11] at hA hval hsz
    obtain ⟨v0, vs0, d0, ds0, p0, q0, hargs, rfl, rfl, h0, r_0⟩ := trodAll_cons hA
    obtain ⟨v1, vs1, d1, ds1, p1, q1, rfl, rfl, rfl, h1, r_1⟩ := trodAll_cons r_0
    obtain ⟨v2, vs2, d2, ds2, p2, q2, rfl, rfl, rfl, h2, r_2⟩ := trodAll_cons r_1
    obtain ⟨rfl, rfl, rfl⟩ := trodAll_nil r_2
    obtain rfl : args = #[v0, v1, v2] := by cases args; simp_all
    obtain ⟨A0, n0, c0, rfl⟩ := okWide_slice Try.underlying61 (hval 0 61 v0 rfl rfl)
    have r0 := ReadsAs.of_trod hsz (j := 0) rfl rfl h0
    obtain ⟨a1, rfl, rfl, rfl, w1⟩ := open_int Try.underlying3 (hval 1 3 v1 rfl rfl) h1
    obtain ⟨A2, n2, c2, rfl⟩ := okWide_slice Try.underlying32 (hval 2 32 v2 rfl rfl)
    have r2 := ReadsAs.of_trod hsz (j := 2) rfl rfl h2
    obtain ⟨A, c, l, hcs, hl, _, hmx⟩ := open_leaves r0
    simp only [Value.cells, List.cons.injEq, Value.slice.injEq, and_true] at hcs
    obtain ⟨rfl, rfl, rfl⟩ := hcs
    obtain ⟨x, R, hcs2, hx, _⟩ := open_bytes r2
    obtain ⟨xA, xn, xc⟩ := x
    simp only [Value.cells, SlC.v, List.cons.injEq, Value.slice.injEq, and_true] at hcs2
    obtain ⟨rfl, rfl, rfl⟩ := hcs2
    exact TreeUnlike_walk _ _ l a1 ⟨_, _, _⟩ R W hl hmx w1 hx

theorem TreeUnlike_holds : Rows.TreeUnlikeSaid :=
  OpenClaim.holds_of_wide 11 Try.f11 rfl rfl rfl rfl rfl rfl rfl ⟨rfl, rfl, rfl, rfl, rfl⟩ rfl rfl rfl rfl rfl (by kernel_rfl) Try.func11 (by kernel_rfl)
    (of_decide_eq_true (by kernel_rfl)) (by unfold Func.isWrapper; first | (rw [if_pos (by decide +kernel)]; kernel_rfl) | (rw [if_neg (by decide +kernel)]; exact ⟨rfl, rfl⟩))
    (fun os started H enc _ => TreeUnlike_lifted os started H enc)
end Go.Proofs.Ytjimamgghkgdeaa
