/- The document's bag: Take, Drop, Next. -/
import Derived.Test.YtkfekkemfahepaaBagS
namespace Go.Proofs.Ytkfekkemfahepaa
open Go.RowKit

theorem CutRows.mono {α : Type} {f : α → Array Value} {n : Nat} {W : World} {B B' t : Nat} {v : Value} {l : List α} (h : CutRows f n W B t v l) (hB : B' ≤ B) : CutRows f n W B' t v l :=
  h.imp id fun ⟨g, cap, cur, a1, a2, a3⟩ => ⟨g, cap, cur, a1, Nat.le_trans hB a2, a3⟩
theorem want_same {α : Type} {N : List α} {a k : Nat} (hk : k < N.length) (h : k = a) : (N.take (k + 1)).eraseIdx a = (N.take k).eraseIdx a := by
  subst h
  rw [List.take_succ_eq_append_getElem hk, List.eraseIdx_append_of_length_le (by rw [List.length_take]; omega), List.length_take, Nat.min_eq_left (by omega), Nat.sub_self, List.eraseIdx_cons_zero, List.append_nil, List.eraseIdx_of_length_le (by rw [List.length_take]; omega)]
theorem want_more {α : Type} {N : List α} {a k : Nat} (hk : k < N.length) (h : k ≠ a) : (N.take (k + 1)).eraseIdx a = (N.take k).eraseIdx a ++ [N[k]] := by
  rw [List.take_succ_eq_append_getElem hk]
  by_cases hka : a < k
  · rw [List.eraseIdx_append_of_lt_length (by rw [List.length_take]; omega)]
  · rw [List.eraseIdx_of_length_le (by rw [List.length_append, List.length_take]; simp; omega), List.eraseIdx_of_length_le (by rw [List.length_take]; omega)]
theorem want_le {α : Type} (N : List α) (a k : Nat) : ((N.take k).eraseIdx a).length ≤ k := by
  rw [List.length_eraseIdx, List.length_take]
  split <;> omega

theorem refb_Take_no {w : World} {B b : Nat} {v : Value} {zs : List (EnvC × Note)} {s l : Int} (h : RefB w B b v zs s l) (i : Int) (hi : i < 0 ∨ zs.length ≤ i) :
    Calls Try.prog 21 #[.pointer (some ⟨b, 0, none⟩), .int .i64 i] w fun e w' => e = .returned (.tuple #[.agg (envA envZ), .int .i64 9]) ∧ Kept w w' := by
  have hg := EnvAt.new w envZ
  have hb1 := h.alloc (.cells (envA envZ) 29)
  have hk : Kept w (w.alloc (.cells (envA envZ) 29)) := (Upd.refl _ w).alloc _
  have HI := Lib.hid hi
  clear h hi
  go_enter Try.func21, Try.ntmps21
  go_wp2_with fail
  generalize w.alloc (.cells (envA envZ) 29) = W2 at *
  refine (refb_Look_no hb1 i HI.out).mono ?_
  rintro e W3 ⟨rfl, hu⟩
  have hg3 : EnvAt (W3.alloc (.cells (envA envZ) 29)) w.heap.size envZ := (hg.kept hu).kept ((Upd.refl _ W3).alloc _)
  have hk3 : Kept w (W3.alloc (.cells (envA envZ) 29)) := (hk.then hu fun _ _ h => h).alloc _
  have p1 := hg3.row
  have p2 := (hg.kept hu).row
  have p3 := (hg.kept hu).lt
  have HG := Lib.hid ((hg.kept hu).setRow envZ)
  have HK := Lib.hid ((hk.then hu fun _ _ h => h).setRow (g := w.heap.size) (envA envZ) fun h => by omega)
  clear hb1 hg hk hg3 hk3 hu
  go_wp2
  refine bodyPost_ret (v := .tuple #[.agg (envA envZ), .int .i64 9]) ?_ rfl ⟨rfl, HK.out.alloc _⟩
  have HG2 : EnvAt ((W3.setRow w.heap.size (envA envZ)).alloc (.cells (envA envZ) 29)) w.heap.size envZ := HG.out.kept ((Upd.refl _ _).alloc _)
  rw [results_seg2 (P := Try.prog) (fn := Try.f21) rfl _ _ ⟨w.heap.size, 0, none⟩ 3 _ _ rfl rfl Try.underlying29 rfl sizeOf29 HG2.s1, HG2.s2]
  try rfl

set_option maxHeartbeats 2000000 in
set_option maxRecDepth 20000 in
theorem refb_Take_ok {w : World} {B b : Nat} {v : Value} {zs : List (EnvC × Note)} {s l : Int} (h : RefB w B b v zs s l) (hB : B ≤ w.heap.size) (hz4 : zs.length ≤ 4096) (i : Nat) (hi : i < zs.length) :
    Calls Try.prog 21 #[.pointer (some ⟨b, 0, none⟩), .int .i64 i] w fun e w' => ∃ y v', e = .returned (.tuple #[.agg (envA y), .int .i64 0]) ∧ Fresh w.heap.size w' y zs[i].2 ∧ RefTo w w' B b v v' (zs.eraseIdx i) s l := by
  have hg := EnvAt.new w envZ
  have hb1 := h.alloc (.cells (envA envZ) 29)
  have hk : Kept w (w.alloc (.cells (envA envZ) 29)) := (Upd.refl _ w).alloc _
  have hbn : b ≠ w.heap.size := by have := h.size; omega
  obtain ⟨Av, cv, hv⟩ := h.notes.rows.form
  subst hv
  have H0 := Lib.hid h
  clear h
  go_enter Try.func21, Try.ntmps21
  go_wp2_with fail
  generalize w.alloc (.cells (envA envZ) 29) = W2 at *
  refine (refb_Look_ok hb1 i hi).mono ?_
  rintro e W3 ⟨y, rfl, hfr, hu⟩
  have hg3 := (hg.kept hu).kept ((Upd.refl _ W3).alloc (.cells (envA y) 29))
  have hb3 := (hb1.kept hu).alloc (.cells (envA y) 29)
  have hk3 : Kept w (W3.alloc (.cells (envA y) 29)) := (hk.then hu fun _ _ h => h).alloc _
  have hq3 := EnvAt.new W3 y
  have hf3 := (hfr.kept ((Upd.refl _ W3).alloc (.cells (envA y) 29))).mono hk.size
  have hbn3 : b ≠ W3.heap.size := by have := (hb1.kept hu).size; omega
  clear hb1 hg hk hfr hu
  go_wp2_with fail
  generalize W3.alloc (.cells (envA y) 29) = W4 at *
  have HX := Lib.hid (And.intro hg3 (And.intro hq3 (And.intro hk3 (And.intro hf3 hb3))))
  clear hg3 hq3 hk3 hf3
  go_loopw [8, 9] (fun q j wr => ∃ k : Nat, k ≤ zs.length ∧ j = .int .i64 k ∧ CutRows envP 3 wr W4.heap.size 29 q ((zs.take k).eraseIdx i) ∧ Kept W4 wr) (fun _ j _ => zs.length - (intOf j).toNat)
  case atStart => exact ⟨0, Nat.zero_le _, rfl, by simpa using CutRows.nil _ _ _, Upd.refl _ _⟩
  case round =>
    obtain ⟨k, hk, rfl, hq, hu⟩ := hrel
    have hb5 := hb3.kept hu
    have c0 := hb5.c0
    by_cases hlt : k < zs.length
    · obtain ⟨g, c, hv, _, hgl, s1, s2⟩ := hb5.notes.rows.get envP_rows.size hlt
      simp only [Value.slice.injEq, true_and] at hv
      obtain ⟨rfl, rfl⟩ := hv
      rw [show envP zs[k] = envA zs[k].1 from rfl] at s2
      have hwl := want_le zs i k
      by_cases hki : k = i
      · subst hki
        have hw := Lib.hid (want_same (a := k) hlt rfl)
        have HQ := Lib.hid (And.intro hq hu)
        clear hq hu hb5 s1 s2 hwl
        go_wp2
        go_roundw
        case rel => exact ⟨k + 1, by omega, by go_num, by rw [hw.out]; exact HQ.out.1, HQ.out.2⟩
        case measure => simp [intOf]; omega
      · have hw := Lib.hid (want_more hlt hki)
        have hkii : (k : Int) ≠ i := by omega
        obtain ⟨q', W', hr, hrows, hu', _⟩ := run_append_cut envP_rows 45 (hq.alloc (.cells (envA zs[k].1) 29)) zs[k] wr.heap.size 1 _ _ (heap_alloc_new wr _) (by unfold maxLen; omega) (by omega) (by rw [World.size_alloc]; have := hu.size; omega)
        have hu2 : Kept W4 W' := (hu.alloc _).then hu' fun i hi e => by have := (hq.lt e).1; omega
        have HQ := Lib.hid (And.intro hrows hu2)
        clear hq hu hb5 hrows hu' hu2 hwl
        generalize zs[k].1 = z at *
        go_wp2_with (at_builtin; refine wpList_append rfl (.tmp 32) (.tmp 40) rfl rfl rfl hr ?_)
        go_roundw
        case rel => exact ⟨k + 1, by omega, by go_num, by rw [hw.out]; exact HQ.out.1, HQ.out.2⟩
        case measure => simp [intOf]; omega
    · obtain rfl : zs.length = k := by omega
      rw [List.take_length] at hq
      obtain ⟨A1, c1, hq1⟩ := hq.form
      subst hq1
      obtain ⟨hg3, hq3, hk3, hf3, _⟩ := HX.out
      have z0 := hb5.thaw 0
      obtain ⟨N1, hN1⟩ : ∃ n, n = (zs.eraseIdx i).length := ⟨_, rfl⟩
      rw [← hN1] at hq ⊢
      have hx1 := (hg3.kept hu).setOther ⟨b, 0, none⟩ (.slice A1 N1 c1) (fun e => hbn e.symm)
      have hx2 := (hq3.kept hu).setOther ⟨b, 0, none⟩ (.slice A1 N1 c1) (fun e => hbn3 e.symm)
      have hu6 : Upd (fun k => k = b) wr (wr.setCell ⟨b, 0, none⟩ (.slice A1 N1 c1)) := (Upd.refl _ _).setCell (p := ⟨b, 0, none⟩) _ fun _ => rfl
      have hfin : RefTo w (wr.setCell ⟨b, 0, none⟩ (.slice A1 N1 c1)) B b (.slice Av zs.length cv) (.slice A1 N1 c1) (zs.eraseIdx i) s l := by
        have hB4 : B ≤ W4.heap.size := Nat.le_trans hB hk3.size
        have hbl := hb5.lt
        have h05 := ((RefTo.refl H0.out).kept hk3).kept hu
        refine ⟨⟨by rw [heap_setCell_same _ b 0 _ _ _ hb5.blk]; rfl, ⟨(hq.mono hB4).upd hu6 fun k hk e => by subst e; have := (hq.lt hk).1; omega, fun z hz => (hb5.notes.ok z (List.mem_of_mem_eraseIdx hz)).upd hu6 fun k hk => hb5.not8 k (.inl hk)⟩, hbl, fun z hz => hb5.nm z (List.mem_of_mem_eraseIdx hz)⟩, h05.upd.setCell (p := ⟨b, 0, none⟩) _ fun _ => .inl rfl, fun k hk e => by have := (hq.lt e).1; have := hk3.size; omega⟩
      have hf6 := ((hf3.kept hu).upd hu6 fun k hk => hb5.not8 k (.inl hk))
      have HL : Hid ((∀ k, (Value.slice A1 N1 c1).ownBlock = some k → W4.heap.size ≤ k) ∧ w.heap.size < W4.heap.size) := ⟨fun k hk => (hq.lt hk).1, hg3.lt⟩
      have p1 := hx2.s1
      have p2 := hx2.s2
      have p3 := hx1.row
      have HG := Lib.hid (hx1.setRow y)
      have HE := Lib.hid (And.intro hx1 (And.intro hfin hf6))
      clear hq hu hg3 hq3 hk3 hf3 hx1 hx2 hu6 hfin hf6 hb5 hb3 HX hN1
      go_wp2_with fail
      generalize wr.setCell ⟨b, 0, none⟩ (.slice A1 N1 c1) = W6 at *
      have hul : Upd (fun k => k = w.heap.size) W6 (W6.setRow w.heap.size (envA y)) := (Upd.refl _ _).setRow _ fun _ => rfl
      have hn8 : ∀ k, k = w.heap.size → ∀ cs fr, W6.heap[k]? ≠ some (.cells cs 5 fr) := fun k hk cs fr e => by subst hk; rw [HE.out.1] at e; cases e
      refine bodyPost_ret (v := .tuple #[.agg (envA y), .int .i64 0]) ?_ rfl ⟨y, .slice A1 N1 c1, rfl, HE.out.2.2.upd hul hn8, ?_⟩
      · rw [results_seg2 (P := Try.prog) (fn := Try.f21) rfl _ _ ⟨w.heap.size, 0, none⟩ 3 _ _ rfl rfl Try.underlying29 rfl sizeOf29 HG.out.s1, HG.out.s2]
        try rfl
      · have hto := HE.out.2.1
        have hb6 := hto.bag
        exact ⟨⟨(hul.heap hb6.blk (fun e => hbn e)), hb6.notes.upd hul (fun k hk e => by have := HL.out.1 k hk; have := HL.out.2; omega) hn8, hb6.lt, hb6.nm⟩, hto.upd.setRow _ fun h => by omega, hto.new⟩

theorem refb_Drop_no {w : World} {B b : Nat} {v : Value} {zs : List (EnvC × Note)} {s l : Int} (h : RefB w B b v zs s l) (i : Int) (hi : i < 0 ∨ zs.length ≤ i) :
    Calls Try.prog 23 #[.pointer (some ⟨b, 0, none⟩), .int .i64 i] w fun e w' => e = .returned (.int .i64 9) ∧ Kept w w' := by
  have HI := Lib.hid hi
  clear hi
  go_enter Try.func23, Try.ntmps23
  go_wp2_with fail
  refine (refb_Take_no h i HI.out).mono ?_
  rintro e W3 ⟨rfl, hu⟩
  have HU := Lib.hid hu
  clear hu h
  go_wp2
  go_ret
  exact ⟨rfl, HU.out.alloc _⟩
theorem refb_Drop_ok {w : World} {B b : Nat} {v : Value} {zs : List (EnvC × Note)} {s l : Int} (h : RefB w B b v zs s l) (hB : B ≤ w.heap.size) (hz4 : zs.length ≤ 4096) (h0 : 0 ≤ l) (h1 : l < 4611686018427387904) (i : Nat) (hi : i < zs.length) :
    Calls Try.prog 23 #[.pointer (some ⟨b, 0, none⟩), .int .i64 i] w fun e w' => e = .returned (.int .i64 0) ∧ ∃ v', RefTo w w' B b v v' (zs.eraseIdx i) s (l + 1) := by
  have HB := Lib.hid (And.intro hB hz4)
  clear hB hz4
  go_enter Try.func23, Try.ntmps23
  go_wp2_with fail
  refine (refb_Take_ok h HB.out.1 HB.out.2 i hi).mono ?_
  rintro e W3 ⟨y, v', rfl, hf, hto⟩
  replace hto := hto.kept ((Upd.refl _ W3).alloc (.cells (envA y) 29))
  have p1 := hto.bag.c2
  have p2 := hto.bag.thaw 2
  have HTO := Lib.hid hto
  clear hf hto h HB
  generalize hW4 : W3.alloc (.cells (envA y) 29) = W4 at *
  go_wp2
  go_ret
  have hto := HTO.out
  exact ⟨rfl, v', hto.bag.set2 (l + 1), hto.upd.setCell (p := ⟨b, 2, none⟩) _ fun _ => .inl rfl, hto.new⟩

theorem refb_Next {w : World} {B b : Nat} {v : Value} {zs : List (EnvC × Note)} {s l : Int} (h : RefB w B b v zs s l) (hl : zs.length ≤ 4096) (set : Int) :
    Calls Try.prog 27 #[.pointer (some ⟨b, 0, none⟩), .int .i64 set] w fun e w' => e = .returned (.int .i64 (nextM (zs.map (·.2)) set)) ∧ w = w' := by
  obtain ⟨Av, cv, hv⟩ := h.notes.rows.form
  subst hv
  have d0 := h.c0
  have HB := Lib.hid h
  clear h
  go_enter Try.func27, Try.ntmps27
  go_wp2_with fail
  go_loopw [5] (fun i wr => ∃ k : Nat, k ≤ zs.length ∧ i = .int .i64 k ∧ (∀ j (hj : j < zs.length), j < k → hitS set zs[j].2 = false) ∧ w = wr) (fun i _ => zs.length - (intOf i).toNat)
  case atStart => exact ⟨0, Nat.zero_le _, rfl, fun j _ h => absurd h (Nat.not_lt_zero j), rfl⟩
  case round =>
    obtain ⟨k, hk, rfl, hno, rfl⟩ := hrel
    have HNO := Lib.hid hno
    clear hno
    by_cases hlt : k < zs.length
    · obtain ⟨g, c, hv, _, _, hcs⟩ := HB.out.notes.rows.cells (by omega)
      simp only [Value.slice.injEq, true_and] at hv
      obtain ⟨rfl, rfl⟩ := hv
      have hx := (HB.out.notes.ok zs[k] (List.getElem_mem hlt)).at_
      have hnm := HB.out.nm zs[k] (List.getElem_mem hlt)
      have c0 : w.cell? ⟨g, k * 3, none⟩ = some (.int .i64 zs[k].1.f) := hcs (k * 3 + 0) _ (by rw [rowsOf_get envP_rows.size zs k 0 hlt (by omega)]; rfl)
      have c1 : w.cell? ⟨g, k * 3 + 1, none⟩ = some (.int .i64 zs[k].1.t) := hcs (k * 3 + 1) _ (by rw [rowsOf_get envP_rows.size zs k 1 hlt (by omega)]; rfl)
      have hh : Hid (hitS set zs[k].2 = (inS set zs[k].1.f && inS set zs[k].1.t)) := by show _ = _; rw [hx.f, hx.t]; rfl
      rw [← hx.f, ← hx.t] at hnm
      generalize zs[k].1 = x at *
      have hf : 1 ≤ x.f ∧ x.f ≤ 34 := by simpa [namedB] using hnm.1
      have ht : 1 ≤ x.t ∧ x.t ≤ 34 := by simpa [namedB] using hnm.2.1
      obtain ⟨hf0, hf1⟩ := hf
      obtain ⟨ht0, ht1⟩ := ht
      clear hx hnm hcs
      obtain ⟨b1, hb1⟩ : ∃ b1, inS set x.f = b1 := ⟨_, rfl⟩
      obtain ⟨b2, hb2⟩ : ∃ b2, inS set x.t = b2 := ⟨_, rfl⟩
      rw [hb1, hb2] at hh
      unfold inS at hb1 hb2
      cases b1
      · go_wp2
        go_roundw
        case rel => exact ⟨k + 1, by omega, by go_num, fun j hj hjk => by
          by_cases hjk' : j = k
          · subst hjk'; exact hh.out
          · exact HNO.out j hj (by omega), by first | rfl | trivial⟩
        case measure => simp [intOf]; omega
      · cases b2
        · go_wp2
          go_roundw
          case rel => exact ⟨k + 1, by omega, by go_num, fun j hj hjk => by
            by_cases hjk' : j = k
            · subst hjk'; exact hh.out
            · exact HNO.out j hj (by omega), by first | rfl | trivial⟩
          case measure => simp [intOf]; omega
        · have hfin : nextM (zs.map (·.2)) set = k := by
            unfold nextM
            have : (zs.map (·.2)).findIdx? (hitS set) = some k := by
              rw [List.findIdx?_eq_some_iff_getElem]
              refine ⟨by simpa using hlt, by simpa using hh.out, fun j hj => ?_⟩
              have := HNO.out j (by omega) hj
              simpa using this
            rw [this]
          have HF := Lib.hid hfin
          clear hfin
          go_wp2
          go_ret
          exact ⟨by rw [HF.out]; rfl, rfl⟩
    · obtain rfl : zs.length = k := by omega
      have hfin : nextM (zs.map (·.2)) set = -1 := by
        unfold nextM
        have : (zs.map (·.2)).findIdx? (hitS set) = none := by
          rw [List.findIdx?_eq_none_iff]
          intro m hm
          obtain ⟨z, hz, rfl⟩ := List.mem_map.1 hm
          obtain ⟨j, hj, rfl⟩ := List.mem_iff_getElem.1 hz
          exact HNO.out j hj hj
        rw [this]
      have HF := Lib.hid hfin
      clear hfin
      go_wp2
      go_ret
      exact ⟨by rw [HF.out]; rfl, rfl⟩
end Go.Proofs.Ytkfekkemfahepaa
