import Derived.Test.YtepjbijhkkjbfaaGreatSetZk
set_option linter.unusedVariables false
set_option linter.unusedSimpArgs false
namespace Go.Proofs.YtepjbijhkkjbfaaGreat
open Go.RowKit
attribute [local irreducible] wpOrd
section
variable {w W W' : World} {B b g0 g1 : Nat} {v v' v'' : Value} {n' n'' : Int} {xs' xs'' : List SlC} {L' L'' : List Bytes} {root d : Dig}
end
end Go.Proofs.YtepjbijhkkjbfaaGreat
namespace Go.Proofs.YtepjbijhkkjbfaaGreat
open Go.ChangeShapes Go.WideShapes Go.ChangeAt Go.RowKit
section
variable {wA W W' : World} {vi vp : Value} {R : Bytes} {P0 : List (List Dig)} {S : Nat → Prop}
end
section
variable {H : Type} {enc : TypeId × Value → H} {W : World}
end
end Go.Proofs.YtepjbijhkkjbfaaGreat
namespace Go.Proofs.YtepjbijhkkjbfaaGreat
open Go.RowKit
theorem RTo.then {b : Nat} {v v' : Value} {w W W' : World} {S : Nat → Prop} (h : RTo b v w v' W) (hu : Upd S W W') (hs : ∀ k, k < w.heap.size → ¬ S k) (hs2 : ∀ B xs, OwnS W B v' xs → ∀ k, v'.ownBlock = some k → ¬ S k) : RTo b v w v' W' := ⟨h.1.then hu (fun k hk e => absurd e (hs k hk)), h.2.1, h.2.2.upd hu hs2⟩
theorem row_far {α : Type} {f : α → Array Value} {m t B' : Nat} {u v : Value} {l : List α} {W : World} (ho : OwnRows f m W B' t u l) (ht : t ≠ 42) (B : Nat) (xs : List SlC) (h : OwnS W B v xs) (k : Nat) (e : v.ownBlock = some k) : ¬ u.ownBlock = some k := fun e2 => by
  obtain ⟨c1, h1⟩ := own_cells h e; obtain ⟨c2, h2⟩ := own_cells ho e2; rw [h1] at h2; simp only [Option.some.injEq, Obj.cells.injEq] at h2; exact ht h2.2.1.symm
theorem RefBook.upd {W W' : World} {B b : Nat} {v : Value} {n : Int} {xs : List SlC} {L : List Bytes} {S : Nat → Prop} (h : RefBook W B b v n xs L) (hu : Upd S W W') (hs : ∀ k cs t fr, W.heap[k]? = some (.cells cs t fr) → (t = 88 ∨ t = 42 ∨ t = 5) → ¬ S k) : RefBook W' B b v n xs L :=
  ⟨hu.heap h.blk (hs _ _ _ _ h.blk (.inl rfl)), OwnRows.upd h.row hu (fun k e => by obtain ⟨cur, hc⟩ := own_cells h.row e; exact hs _ _ _ _ hc (.inr (.inl rfl))), h.len,
    fun i hi hi' => (h.each i hi hi').upd hu (fun k e => by obtain ⟨cur, hc⟩ := (h.each i hi hi').blk e; exact hs _ _ _ _ hc (.inr (.inr rfl))), h.sz⟩
theorem RefBook.row_turn {α : Type} {f : α → Array Value} {m t B' : Nat} {u : Value} {l : List α} {W W' : World} {B b : Nat} {v : Value} {n : Int} {xs : List SlC} {L : List Bytes} (h : RefBook W B b v n xs L) (ho : OwnRows f m W B' t u l) (ht : ¬ (t = 88 ∨ t = 42 ∨ t = 5)) (hu : Upd (fun k => u.ownBlock = some k) W W') : RefBook W' B b v n xs L :=
  h.upd hu fun k cs t' fr hc h2 e => by
    obtain ⟨cur, h3⟩ := own_cells ho e; rw [hc] at h3; simp only [Option.some.injEq, Obj.cells.injEq] at h3; rw [h3.2.1] at h2; exact ht h2
theorem notesM_length (L N : List Bytes) : (notesM L N).length ≤ L.length + N.length := by
  induction N generalizing L with
  | nil => simp [notesM]
  | cons r N ih =>
    have h1 := ih (noteM L r); have h2 := noteM_length (L := L) (R := r); show (notesM (noteM L r) N).length ≤ _; rw [List.length_cons]; omega
theorem leafI_length (l : List (SlC × Bytes)) : (leafI l).length = l.length := by simp [leafI]
theorem notesM_take {L I : List Bytes} {k : Nat} (h : k < I.length) : notesM L (I.take (k + 1)) = noteM (notesM L (I.take k)) I[k] := by
  rw [List.take_succ_eq_append_getElem h, notesM_append]; rfl
set_option maxHeartbeats 3000000 in
set_option maxRecDepth 20000 in
theorem ref_Levels {w : World} {B b : Nat} {v : Value} {n0 : Int} {xs0 : List SlC} {L : List Bytes} (h : RefBook w B b v n0 xs0 L) (hB : B ≤ w.heap.size) (hcnt : L.length ≤ 90000) {A : Option Addr} {l : List (SlC × Bytes)} (c : Nat) (hl : ∀ W v', RTo b v w v' W → LeavesAt W A l) (hs : ∀ p ∈ l, p.2.length < 65536) (h1 : 1 ≤ l.length) (h2 : l.length ≤ 1024) :
    Calls Tryz.prog 29 #[.pointer (some ⟨b, 0, none⟩), .slice A l.length c] w fun e W => ∃ vo, e = .returned vo ∧ OwnP W w.heap.size vo (levelsM shaM (leafD l)) ∧ ∃ v' n' xs', RefBook W B b v' n' xs' (notesM (notesM L (leafI l)) (insM shaM (leafD l))) ∧ RTo b v w v' W := by
  have HX := Lib.hid (And.intro h (And.intro hB (And.intro hcnt (And.intro hl hs)))); clear h hB hcnt hl hs; obtain ⟨n, hn⟩ : ∃ n, n = l.length := ⟨_, rfl⟩; rw [← hn] at h1 h2 ⊢; have HN := Lib.hid (And.intro hn (And.intro h1 h2)); clear hn h1 h2
  go_enter Tryz.func29, Tryz.ntmps29
  go_wp2_with fail
  go_loopw [6, 5] (fun u t wr => ∃ (k : Nat) (v' : Value) (n' : Int) (xs' : List SlC), k ≤ n ∧ u = .int .i64 k ∧ OwnD wr w.heap.size t ((leafD l).take k) ∧ RefBook wr B b v' n' xs' (notesM L ((leafI l).take k)) ∧ RTo b v w v' wr) (fun u _ _ => 2000 - (intOf u).toNat)
  case atStart => exact ⟨0, v, n0, xs0, Nat.zero_le _, rfl, OwnRows.nil _ _ _, HX.out.1, RTo.kept (Upd.refl _ _)⟩
  case round =>
    obtain ⟨k, v', n', xs', hk, rfl, hown, hb, hto⟩ := hrel; rcases Nat.lt_or_ge k n with hlt | hge
    · have hkl : k < l.length := by rw [← HN.out.1]; exact hlt
      have hk' : (k : Int) < (n : Int) := by omega
      have hk5 : (k : Int) ≤ 1024 := by have := HN.out.2.2; omega
      obtain ⟨g, o, A1, c1, hA, hcell, hby, hcc⟩ := (HX.out.2.2.2.1 wr v' hto).get hkl; subst hA; have hRl := HX.out.2.2.2.2 _ (List.getElem_mem hkl); have eD : (leafD l).take (k + 1) = (leafD l).take k ++ [leafM shaM l[k].2] := by
        rw [List.take_succ_eq_append_getElem (by rw [leafD_length]; exact hkl)]
        congr 2
        exact List.getElem_map _
      have eI : notesM L ((leafI l).take (k + 1)) = noteM (notesM L ((leafI l).take k)) (leafIn l[k].2) := by
        rw [notesM_take (by rw [leafI_length]; exact hkl)]
        congr 1
        exact List.getElem_map _
      have hLl : (notesM L ((leafI l).take k)).length ≤ 100000 := by
        have e1 := notesM_length L ((leafI l).take k); have e2 := HX.out.2.2.1; have e3 := HN.out.2.2; rw [List.length_take] at e1; omega
      generalize l[k].2 = R at *; have HR := Lib.hid (And.intro hown (And.intro hb (And.intro hto (And.intro hby (And.intro hRl hLl))))); have HE := Lib.hid (And.intro eD (And.intro eI (And.intro hlt (show ((leafD l).take k).length ≤ 1024 by rw [List.length_take]; have := HN.out.2.2; omega)))); clear hown hb hto hby hRl hLl eD eI hlt hkl hk hcc; go_wp2_with fail; obtain ⟨hown, hb, hto, hby, hRl, hLl⟩ := HR.out; have hBw : B ≤ wr.heap.size := Nat.le_trans HX.out.2.1 hto.1.size; refine (ref_Leaf hb hBw c1 hby hRl hLl).mono ?_; rintro e w2 ⟨rfl, v2, n2, xs2, hb2, ht2a⟩; have ht2 := hto.trans ht2a; have hown2 := OwnRows.upd hown ht2a.1 (fun k e => by obtain ⟨cur, hc⟩ := own_cells hown e; exact hb.far hc (by decide) (by decide)); have hsz2 : w.heap.size ≤ w2.heap.size := ht2.1.size; obtain ⟨X, hX⟩ : ∃ X, X = leafM shaM R := ⟨_, rfl⟩; rw [← hX]; have HT : Hid ((leafD l).take (k + 1) = (leafD l).take k ++ [X]) := by show _ = _; rw [HE.out.1, hX]
      clear hown hb hto hby hRl hLl hBw ht2a hX HR; have hkwa : Kept w2 (w2.alloc (.cells (dA X) 23)) := (Upd.refl _ w2).alloc _; have hs3 : segB (w2.alloc (.cells (dA X) 23)) ⟨w2.heap.size, 0, none⟩ 32 = true := segB_new _ _ _ _ _ rfl (dA_size X); have hs4 : segV (w2.alloc (.cells (dA X) 23)) ⟨w2.heap.size, 0, none⟩ 32 = dA X := segV_new _ _ _ _ _ rfl (dA_size X); have hown3 := hown2.alloc (.cells (dA X) 23); have hb3 := hb2.kept hkwa; have ht3 := ht2.alloc (.cells (dA X) 23); have hsz3 : w.heap.size ≤ (w2.alloc (.cells (dA X) 23)).heap.size := Nat.le_trans hsz2 hkwa.size; clear hown2 hb2 ht2 hsz2 hkwa; generalize hWA : w2.alloc (.cells (dA X) 23) = wa at *; have hkwb : Kept wa (wa.alloc (.cells (dA X) 23)) := (Upd.refl _ wa).alloc _; have hown4 := hown3.alloc (.cells (dA X) 23); have hb4 := hb3.kept hkwb; have ht4 := ht3.alloc (.cells (dA X) 23); have hg4 := heap_alloc_new wa (.cells (dA X) 23); have hsz4 : w.heap.size ≤ (wa.alloc (.cells (dA X) 23)).heap.size := Nat.le_trans hsz3 hkwb.size; clear hown3 hb3 ht3 hsz3 hkwb; generalize hWB : wa.alloc (.cells (dA X) 23) = wb at *; have HQ := Lib.hid (And.intro hown4 (And.intro hb4 (And.intro ht4 (And.intro hg4 hsz4)))); clear hown4 hb4 ht4 hg4 hsz4 hcell; go_wp2_with (at_builtin; refine wpList_append_rows dig_rows rfl (.tmp 29) (.tmp 31) rfl rfl HQ.out.1 X wa.heap.size 1 _ _ rfl HQ.out.2.2.2.1 (by have := HE.out.2.2.2; unfold maxLen; omega) (by have := HE.out.2.2.2; omega) HQ.out.2.2.2.2 ?_; intro v' w3 hown' hu' hnew); have hf := World.ownsRow.lt HQ.out.1; have HF := Lib.hid (And.intro hown' (And.intro (HQ.out.2.1.row_turn HQ.out.1 (by decide) hu') (HQ.out.2.2.1.then hu' (fun k hk e => by have := (hf k e).1; omega) (row_far HQ.out.1 (by decide))))); clear hown' hu' hnew hf; go_wp2_with fail
      go_roundw
      case rel => exact ⟨k + 1, v2, n2, xs2, by have := HE.out.2.2.1; omega, by show _ = _; go_num, by rw [HT.out]; exact HF.out.1, by rw [HE.out.2.1]; exact HF.out.2.1, HF.out.2.2⟩
      case measure => have := HE.out.2.2.1; have := HN.out.2.2; simp [intOf]; omega
    · obtain rfl : k = n := by omega
      have hk' : ¬ ((k : Int) < (k : Int)) := by omega
      rw [List.take_of_length_le (by rw [leafD_length, HN.out.1]; exact Nat.le_refl _)] at hown; rw [List.take_of_length_le (by rw [leafI_length, HN.out.1]; exact Nat.le_refl _)] at hb; obtain ⟨A0, c0, hx0, hc0, hd0⟩ := hown.digs; subst hx0; obtain ⟨D, hD⟩ : ∃ D, D = leafD l := ⟨_, rfl⟩; obtain ⟨L2, hL2⟩ : ∃ L2, L2 = notesM L (leafI l) := ⟨_, rfl⟩; rw [← hD] at hown hc0 hd0 ⊢; rw [← hL2] at hb; have hDl : D.length = k := by rw [hD, leafD_length, HN.out.1]
      have hL2l : L2.length ≤ 92000 := by
        have e1 := notesM_length L (leafI l); have e2 := HX.out.2.2.1; have e3 := HN.out.2.2; rw [leafI_length, ← HN.out.1, ← hL2] at e1; omega
      have hD0 : D ≠ [] := fun e => by rw [e] at hDl; have := HN.out.2.1; simp at hDl; omega
      have hk1 : Kept wr (wr.alloc (.cells (slA ⟨A0, D.length, c0⟩) 45)) := (Upd.refl _ wr).alloc _; have hx1 : OwnD (wr.alloc (.cells (slA ⟨A0, D.length, c0⟩) 45)) w.heap.size (SlC.v ⟨A0, D.length, c0⟩) D := OwnRows.alloc hown _; have ho1 : OwnRows slA 1 (wr.alloc (.cells (slA ⟨A0, D.length, c0⟩) 45)) wr.heap.size 45 (.slice (some ⟨wr.heap.size, 0, none⟩) 1 1) [⟨A0, D.length, c0⟩] :=
        ⟨by simp [rowsOf, slA], .inr ⟨wr.heap.size, 1, slA ⟨A0, D.length, c0⟩, rfl, Nat.le_refl _, heap_alloc_new wr _, Nat.le_refl _, by unfold maxLen; omega, by simp, by simp [rowsOf, slA]⟩⟩
      have HY := Lib.hid (And.intro (hb.kept hk1) (And.intro (hto.alloc (.cells (slA ⟨A0, D.length, c0⟩) 45)) (And.intro hx1 (And.intro (own_base ho1 hto.1.size) (And.intro hD0 (And.intro hDl (And.intro hL2l HX.out.2.1))))))); have HDD := Lib.hid (And.intro hD hL2); have hDl5 : D.length ≤ 1024 := by have := HN.out.2.2; omega
      have HDL := Lib.hid hDl5; clear hown hb hto hge hk hk1 hx1 ho1 hD0 hDl hL2l hD hL2 hd0 hc0 hDl5 HX; generalize hW1 : wr.alloc (.cells (slA ⟨A0, D.length, c0⟩) 45) = w1 at *; go_wp2_with fail
      go_loopw [9, 5] (fun u t wr => ∃ (xs : List SlC) (x : SlC) (ls : List (List Dig)) (cur : List Dig) (N : List Bytes) (v' : Value) (n' : Int) (xs' : List SlC), t = .slice x.A x.n x.c ∧ OwnRows slA 1 wr w.heap.size 45 u (xs ++ [x]) ∧ Lev wr w.heap.size (xs ++ [x]) (ls ++ [cur]) ∧ levelsM shaM D = ls ++ levelsM shaM cur ∧ insM shaM D = N ++ insM shaM cur ∧
          RefBook wr B b v' n' xs' (notesM L2 N) ∧ RTo b v w v' wr ∧ cur.length ≤ 1024 ∧ cur ≠ [] ∧ ls.length + cur.length ≤ 1024 ∧ N.length + 2 * cur.length ≤ 2048) (fun _ t _ => match t with | .slice _ n _ => n | _ => 0)
      case atStart =>
        obtain ⟨y1, y2, y3, y4, y5, y6, y7, y8⟩ := HY.out; exact ⟨[], ⟨A0, D.length, c0⟩, [], D, [], _, _, _, rfl, y4, Lev.one y3 y5, rfl, rfl, y1, y2, HDL.out, y5, by have := HDL.out; simpa using this, by have := HDL.out; simp; omega⟩
      case round =>
        obtain ⟨xs, x, ls, cur, N, v', n', xs', rfl, ho, hlev, hls, hins, hb, hto, hcl, hcn, hlc, hNc⟩ := hrel; obtain ⟨A, c, hxv, hcc, hdg⟩ := hlev.last.1.digs; obtain ⟨xA, xn, xc⟩ := x; simp only [SlC.v, Value.slice.injEq] at hxv; obtain ⟨rfl, rfl, rfl⟩ := hxv; rcases Nat.lt_or_ge 1 cur.length with h1 | h1
        · have h1' : (1 : Int) < (cur.length : Int) := by omega
          have h1n : 1 < cur.length := h1; have HQ := Lib.hid (And.intro ho (And.intro hlev (And.intro hls (And.intro hins (And.intro hb (And.intro hto (And.intro hcl (And.intro hlc (And.intro hcc (And.intro hdg hNc)))))))))); have HN1 := Lib.hid h1; clear ho hlev hls hins hb hto hcl hlc hcc hdg h1 hNc hcn; go_wp2_with fail; obtain ⟨wo, rfl⟩ : ∃ wo : World, wo = wr := ⟨_, rfl⟩
          go_loopw [11, 10] (fun i t wr => ∃ (k : Nat) (v'' : Value) (n'' : Int) (xs'' : List SlC), k ≤ up4 cur.length ∧ i = .int .i64 (4 * k : Nat) ∧ OwnD wr wo.heap.size t ((aboveM shaM cur).take k) ∧ RefBook wr B b v'' n'' xs'' (notesM (notesM L2 N) (aboveIn cur k)) ∧ RTo b v' wo v'' wr) (fun i _ _ => 2000 - (intOf i).toNat)
          case atStart => exact ⟨0, v', n', xs', Nat.zero_le _, rfl, OwnRows.nil _ _ _, HQ.out.2.2.2.2.1, RTo.kept (Upd.refl _ _)⟩
          case round =>
            obtain ⟨k2, v'', n'', xs'', hk, rfl, hown, hb, hto⟩ := hrel; rcases Nat.lt_or_ge (4 * k2) cur.length with hlt | hge
            · have hk' : ((4 * k2 : Nat) : Int) < (cur.length : Int) := by omega
              have hk5 : ((4 * k2 : Nat) : Int) < 1024 := by have := HQ.out.2.2.2.2.2.2.1; omega
              have hcl5 : (cur.length : Int) ≤ 1024 := by have := HQ.out.2.2.2.2.2.2.1; omega
              have hku : k2 < up4 cur.length := by unfold up4; omega
              obtain ⟨m, hm⟩ : ∃ m, m = 4 * k2 := ⟨_, rfl⟩; rw [← hm] at hk' hk5 ⊢; obtain ⟨hh, hhe⟩ : ∃ hh, hh = min (m + 4) cur.length := ⟨_, rfl⟩; have e2 : (if (cur.length : Int) < (m : Int) + 4 then (cur.length : Int) else (m : Int) + 4) = (hh : Int) := by split <;> omega
              have hgl : (group cur k2).length = hh - m := by rw [group_length]; omega
              have hsl : ∀ W, (Instr.sliceAt 45 (.slice xA cur.length xc) (some (.int .i64 (m : Int))) (some (.int .i64 (hh : Int))) none).run Tryz.prog W = .ok (.slice (xA.map (·.add (m * 32))) (group cur k2).length (xc - m)) W := fun W => by
                have := slice_digs_lh W xA cur.length xc m hh (m : Int) (hh : Int) rfl rfl (by omega) (by have := HQ.out.2.2.2.2.2.2.2.2.1; omega) (by have := HQ.out.2.2.2.2.2.2.2.2.1; omega)
                rwa [← hgl] at this
              have hg4 : 1 ≤ (group cur k2).length ∧ (group cur k2).length ≤ 4 := by omega
              have HMM := Lib.hid (And.intro hm (And.intro hku (And.intro hg4 (show (notesM (notesM L2 N) (aboveIn cur k2)).length ≤ 100000 by
                have f1 := notesM_length (notesM L2 N) (aboveIn cur k2); have f2 := notesM_length L2 N; have f3 := HQ.out.2.2.2.2.2.2.2.2.2.2; have f4 := HY.out.2.2.2.2.2.2.1; have f5 : (aboveIn cur k2).length = k2 := by simp [aboveIn]
                have f6 : up4 cur.length ≤ cur.length := by unfold up4; omega
                omega))))
              have HR := Lib.hid (And.intro hown (And.intro hb hto)); clear hown hb hto hm hhe hgl hg4 hlt hku hk; go_wp2_with fail; obtain ⟨hown, hb, hto⟩ := HR.out; have hx3 : OwnD wr w.heap.size (.slice xA cur.length xc) cur := OwnRows.upd (HQ.out.2.1.last.1) hto.1 (fun k e => by
                obtain ⟨cur1, hc⟩ := own_cells HQ.out.2.1.last.1 e; exact HQ.out.2.2.2.2.1.far hc (by decide) (by decide))
              obtain ⟨A', c', he', -, hdg3⟩ := hx3.digs; simp only [Value.slice.injEq] at he'; obtain ⟨rfl, -, rfl⟩ := he'; have hgd : Digs wr (xA.map (·.add (m * 32))) (group cur k2) := by rw [HMM.out.1]; exact Digs.part hdg3 (4 * k2) 4
              have hBw : B ≤ wr.heap.size := Nat.le_trans HY.out.2.2.2.2.2.2.2 (Nat.le_trans HQ.out.2.2.2.2.2.1.1.size hto.1.size); refine (ref_Up hb hBw (xc - m) hgd HMM.out.2.2.1.1 HMM.out.2.2.1.2 HMM.out.2.2.2).mono ?_; rintro e w4 ⟨rfl, v3, n3, xs3, hb2, ht2a⟩; have ht2 := hto.trans ht2a; have hown2 := OwnRows.upd hown ht2a.1 (fun k e => by obtain ⟨cur, hc⟩ := own_cells hown e; exact hb.far hc (by decide) (by decide)); have hsz2 : wo.heap.size ≤ w4.heap.size := ht2.1.size; obtain ⟨X, hX⟩ : ∃ X, X = upM shaM (group cur k2) := ⟨_, rfl⟩; rw [← hX]; have HT : Hid ((aboveM shaM cur).take (k2 + 1) = (aboveM shaM cur).take k2 ++ [X] ∧ notesM (notesM L2 N) (aboveIn cur (k2 + 1)) = noteM (notesM (notesM L2 N) (aboveIn cur k2)) (upIn (group cur k2))) := ⟨by rw [above_take cur k2 HMM.out.2.1, hX], aboveIn_succ _ cur k2⟩; clear hown hb hto hx3 hdg3 hgd hBw ht2a hX HR hsl e2; have hkwa : Kept w4 (w4.alloc (.cells (dA X) 23)) := (Upd.refl _ w4).alloc _; have hs3 : segB (w4.alloc (.cells (dA X) 23)) ⟨w4.heap.size, 0, none⟩ 32 = true := segB_new _ _ _ _ _ rfl (dA_size X); have hs4 : segV (w4.alloc (.cells (dA X) 23)) ⟨w4.heap.size, 0, none⟩ 32 = dA X := segV_new _ _ _ _ _ rfl (dA_size X); have hown3 := hown2.alloc (.cells (dA X) 23); have hb3 := hb2.kept hkwa; have ht3 := ht2.alloc (.cells (dA X) 23); have hsz3 : wo.heap.size ≤ (w4.alloc (.cells (dA X) 23)).heap.size := Nat.le_trans hsz2 hkwa.size; clear hown2 hb2 ht2 hsz2 hkwa; generalize hWA : w4.alloc (.cells (dA X) 23) = wa at *; have hkwb : Kept wa (wa.alloc (.cells (dA X) 23)) := (Upd.refl _ wa).alloc _; have hown4 := hown3.alloc (.cells (dA X) 23); have hb4 := hb3.kept hkwb; have ht4 := ht3.alloc (.cells (dA X) 23); have hg4 := heap_alloc_new wa (.cells (dA X) 23); have hsz4 : wo.heap.size ≤ (wa.alloc (.cells (dA X) 23)).heap.size := Nat.le_trans hsz3 hkwb.size; clear hown3 hb3 ht3 hsz3 hkwb; generalize hWB : wa.alloc (.cells (dA X) 23) = wb at *; have HP := Lib.hid (And.intro hown4 (And.intro hb4 (And.intro ht4 (And.intro hg4 hsz4)))); have HLN : Hid (((aboveM shaM cur).take k2).length ≤ 1024) := by
                show _ ≤ _; rw [List.length_take, aboveM_length]; have h1 := HQ.out.2.2.2.2.2.2.1; unfold up4; omega
              clear hown4 hb4 ht4 hg4 hsz4; go_wp2_with (at_builtin; refine wpList_append_rows dig_rows rfl (.tmp 57) (.tmp 59) rfl rfl HP.out.1 X wa.heap.size 1 _ _ rfl HP.out.2.2.2.1 (by have := HLN.out; unfold maxLen; omega) (by have := HLN.out; omega) HP.out.2.2.2.2 ?_; intro v5 w5 hown' hu' hnew); have hf := World.ownsRow.lt HP.out.1; have HF := Lib.hid (And.intro hown' (And.intro (HP.out.2.1.row_turn HP.out.1 (by decide) hu') (HP.out.2.2.1.then hu' (fun k hk e => by have := (hf k e).1; omega) (row_far HP.out.1 (by decide))))); clear hown' hu' hnew hf; go_wp2_with fail
              go_roundw
              case rel => exact ⟨k2 + 1, v3, n3, xs3, by have := HMM.out.2.1; omega, by show _ = _; rw [HMM.out.1]; go_num, by rw [HT.out.1]; exact HF.out.1, by rw [HT.out.2]; exact HF.out.2.1, HF.out.2.2⟩
              case measure => have := HMM.out.1; simp [intOf]; omega
            · have hku : k2 = up4 cur.length := by unfold up4 at *; omega
              have hk' : ¬ ((4 * k2 : Nat) : Int) < (cur.length : Int) := by omega
              obtain ⟨ho, hlev, hls, hins, hbr, htr, hcl, hlc, hcc, hdg, hNc⟩ := HQ.out; have hown1 := hown; rw [hku, ← aboveM_length (H := shaM) cur, List.take_length] at hown1; rw [hku] at hb; have hsz := htr.1.size; have ho2 := OwnRows.upd ho hto.1 (fun i hi => by obtain ⟨cur1, hc⟩ := own_cells ho hi; exact hbr.far hc (by decide) (by decide)); have hlev2 := hlev.upd hto.1 (fun i hi k e => by obtain ⟨cur1, hc⟩ := own_cells (hlev.row i hi (by rw [← hlev.len]; exact hi)).1 e; exact hbr.far hc (by decide) (by decide)); have ht3 := htr.trans hto; have hfresh : ∀ k, u10.ownBlock = some k → wo.heap.size ≤ k := fun k e => (World.ownsRow.lt hown1 k e).1; obtain ⟨A2, c2, he2, hc2, _⟩ := OwnD.digs hown1; subst he2; have hne : ∀ i (hi : i < (xs ++ [(⟨xA, cur.length, xc⟩ : SlC)]).length), (xs ++ [(⟨xA, cur.length, xc⟩ : SlC)])[i].v.ownBlock ≠ (SlC.v ⟨A2, (aboveM shaM cur).length, c2⟩).ownBlock := fun i hi e => by
                obtain ⟨g, _, hg, _, _⟩ := World.ownsRow.form hown1 (by rw [aboveM_length]; unfold up4; have := HN1.out; omega); have e2 : (SlC.v ⟨A2, (aboveM shaM cur).length, c2⟩).ownBlock = some g := by
                  simp only [Value.slice.injEq] at hg; show (Value.slice A2 (aboveM shaM cur).length c2).ownBlock = some g; rw [hg.1]; rfl
                have h1 := (hlev.far i hi g (by rw [e, e2])).2; have h2 := hfresh g e2; omega
              have hnn : aboveM shaM cur ≠ [] := by
                intro h0; have h2 : (aboveM shaM cur).length = 0 := by rw [h0]; rfl
                rw [aboveM_length] at h2; unfold up4 at h2; have := HN1.out; omega
              have hlev3 := hlev2.snoc (x := ⟨A2, (aboveM shaM cur).length, c2⟩) (own_base hown1 hsz) hnn hne; have hk4 : Kept wr (wr.alloc (.cells (slA ⟨A2, (aboveM shaM cur).length, c2⟩) 45)) := (Upd.refl _ wr).alloc _; have ho3 := ho2.alloc (.cells (slA ⟨A2, (aboveM shaM cur).length, c2⟩) 45); have hlev4 := hlev3.upd hk4 (fun _ _ _ _ h => h); have hb3 := hb.kept hk4; have ht4 := ht3.alloc (.cells (slA ⟨A2, (aboveM shaM cur).length, c2⟩) 45); have hg4 := heap_alloc_new wr (.cells (slA ⟨A2, (aboveM shaM cur).length, c2⟩) 45); have hsz4 : w.heap.size ≤ (wr.alloc (.cells (slA ⟨A2, (aboveM shaM cur).length, c2⟩) 45)).heap.size := ht4.1.size; clear ho2 hlev2 hlev3 hb ht3 ho hlev hbr htr hto hne hfresh hown1 hown hk4 hsz; generalize hWA : wr.alloc (.cells (slA ⟨A2, (aboveM shaM cur).length, c2⟩) 45) = wa at *; have HZ := Lib.hid (And.intro ho3 (And.intro hlev4 (And.intro hb3 (And.intro ht4 (And.intro hg4 hsz4))))); have HE := Lib.hid (And.intro hls (And.intro hins (And.intro hcl (And.intro hlc hNc)))); have HXL : Hid ((xs ++ [⟨xA, cur.length, xc⟩] : List SlC).length ≤ 1024) := by
                have hlen := hlev4.len; show _ ≤ _; simp only [List.length_append, List.length_singleton] at hlen ⊢; have := HN1.out; omega
              have HK := Lib.hid hku; clear ho3 hlev4 hb3 ht4 hg4 hsz4 hls hins hcl hlc hcc hdg hNc hku hge hk HQ; have HAL : Hid ((aboveM shaM cur).length = up4 cur.length) := aboveM_length cur; generalize hAB : aboveM shaM cur = nx at *; have HAB := Lib.hid hAB; clear hAB; generalize 4 * k2 = m at *; go_wp2_with (at_builtin; refine wpList_append_rows sl_rows rfl (.tmp 61) (.tmp 63) rfl rfl HZ.out.1 ⟨A2, nx.length, c2⟩ wr.heap.size 1 _ _ rfl HZ.out.2.2.2.2.1 (by have := HXL.out; unfold maxLen; omega) (by have := HXL.out; omega) HZ.out.2.2.2.2.2 ?_; intro v5 w5 hown' hu' hnew); have hf := World.ownsRow.lt HZ.out.1; have HF := Lib.hid (And.intro hown' (And.intro (HZ.out.2.2.1.row_turn HZ.out.1 (by decide) hu') (And.intro (HZ.out.2.2.2.1.then hu' (fun k hk e => by have := (hf k e).1; omega) (row_far HZ.out.1 (by decide))) (HZ.out.2.1.upd hu' (fun i hi k e e2 => by
                obtain ⟨c1, h1⟩ := own_cells (HZ.out.2.1.row i hi (by rw [← HZ.out.2.1.len]; exact hi)).1 e; obtain ⟨c2, h2⟩ := own_cells HZ.out.1 e2; rw [h1] at h2; cases h2)))))
              clear hown' hu' hnew hf; go_wp2_with fail
              go_roundw
              case rel =>
                obtain ⟨hls, hins, hcl, hlc, hNc⟩ := HE.out; have hn1 := HN1.out; have hal := HAL.out; refine ⟨xs ++ [⟨xA, cur.length, xc⟩], ⟨A2, nx.length, c2⟩, ls ++ [cur], nx, N ++ aboveIn cur (up4 cur.length), v'', n'', xs'', rfl, HF.out.1, HF.out.2.2.2, ?_, ?_, ?_, HF.out.2.2.1, ?_, ?_, ?_, ?_⟩
                · rw [hls, levelsM_more hn1, HAB.out, List.append_assoc]; rfl
                · rw [hins, insM_more hn1, HAB.out, ← List.append_assoc]; rfl
                · rw [notesM_append]; exact HF.out.2.1
                · unfold up4 at hal; omega
                · intro h0; rw [h0] at hal; unfold up4 at hal; simp at hal; omega
                · rw [List.length_append, List.length_singleton]; unfold up4 at hal; omega
                · have f5 : (aboveIn cur (up4 cur.length)).length = up4 cur.length := by simp [aboveIn]
                  rw [List.length_append, f5]; unfold up4 at hal ⊢; omega
              case measure =>
                have hn1 := HN1.out; have hal := HAL.out; show nx.length < cur.length; rw [hal]; exact up4_lt hn1
        · have h1' : decide ((1 : Int) < (cur.length : Int)) = false := by rw [decide_eq_false_iff_not]; omega
          have h1n : decide (1 < cur.length) = false := by rw [decide_eq_false_iff_not]; omega
          have HF : Hid (OwnP wr w.heap.size u9 (levelsM shaM D) ∧ ∃ v' n' xs', RefBook wr B b v' n' xs' (notesM L2 (insM shaM D)) ∧ RTo b v w v' wr) := by
            refine ⟨⟨_, ho, ?_, fun i hi hi' => ?_⟩, v', n', xs', ?_, hto⟩
            · rw [hls, levelsM_one h1]; exact hlev.len
            · have := (hlev.row i hi (by rw [← hlev.len]; exact hi)).1
              have e : (levelsM shaM D)[i] = (ls ++ [cur])[i]'(by rw [← hlev.len]; exact hi) := by congr 1; rw [hls, levelsM_one h1]
              rw [e]; exact this
            · rw [hins, insM_one h1, List.append_nil]; exact hb
          clear ho hlev hls hins hb hto hcl hlc hcc hdg h1 hNc hcn; go_wp2
          go_ret
          rw [← HDD.out.1, ← HDD.out.2]; exact ⟨_, rfl, HF.out⟩
end Go.Proofs.YtepjbijhkkjbfaaGreat
namespace Go.Proofs.YtepjbijhkkjbfaaGreat
open Go.RowKit
section
variable {w : World} {A : Option Addr} {l : List (SlC × Bytes)}
end
end Go.Proofs.YtepjbijhkkjbfaaGreat
namespace Go.Proofs.YtepjbijhkkjbfaaGreat
open Go.RowKit
def LongIn (Rs : List Bytes) : Prop := ∃ R ∈ Rs, 65536 ≤ R.length
instance (Rs : List Bytes) : Decidable (LongIn Rs) := inferInstanceAs (Decidable (∃ R ∈ Rs, 65536 ≤ R.length))
theorem insM_length : ∀ (n : Nat) (D : List Dig), D.length = n → (insM shaM D).length ≤ D.length := by
  intro n
  induction n using Nat.strongRecOn with
  | _ n ih =>
    intro D hD
    by_cases h : 1 < D.length
    · rw [insM_more h, List.length_append, List.length_map, List.length_range]
      have h1 : (aboveM shaM D).length = up4 D.length := aboveM_length D; have h2 := ih _ (by rw [h1, ← hD]; exact up4_lt h) (aboveM shaM D) rfl; rw [h1] at h2; unfold up4 at h2 ⊢; omega
    · rw [insM_one (by omega)]; simp
section
variable {w : World} {A : Option Addr} {l : List (SlC × Bytes)}
end
section
variable {w W W' : World} {b r q c : Nat} {L L' M M' : List Bytes} {vi : Value} {li : List (SlC × Bytes)} {G : List (Nat × Dig)}
end
end Go.Proofs.YtepjbijhkkjbfaaGreat
namespace Go.Proofs.YtepjbijhkkjbfaaGreat
open Go.RowKit
attribute [local irreducible] wpOrd
theorem made_bss (n : Nat) : (madeCells (slA ⟨none, 0, 0⟩) (n * 1)).toList = rowsOf slA (List.replicate n (⟨none, 0, 0⟩ : SlC)) := by
  have h1 : ∀ n, rowsOf slA (List.replicate n (⟨none, 0, 0⟩ : SlC)) = List.replicate n (.slice none 0 0) := by
    intro n
    induction n with
    | zero => rfl
    | succ n ih => rw [List.replicate_succ, rowsOf_cons, ih, List.replicate_succ]; rfl
  rw [h1]; apply List.ext_getElem
  · simp [madeCells]
  · intro i h2 h3
    simp only [madeCells, Array.getElem_toList, Array.getElem_map, Array.getElem_range, List.getElem_replicate, slA_size, Nat.mod_one]
    rfl
@[go_sem ↓] theorem exec_make_bss (ρ : Operand → Value) (dst : Option Tmp) (l c : Operand) (ty : TypeId) (pos : String) (after : Array Edge) (guard : Option (Nat × Bool)) :
    execOp ρ ⟨dst, .makeSlice 24 l c, ty, pos, after, guard⟩ = makeRow 24 (ρ l) (ρ c) := rfl
set_option maxRecDepth 20000 in
theorem run_make_bss (n : Nat) (hn : n ≤ 100000) (W : World) : ∃ W', (makeRow 24 (.int .i64 n) (.int .i64 n)).run Tryz.prog W = .ok (.value (.slice (some ⟨W.heap.size, 0, none⟩) n n)) W' ∧ OwnS W' W.heap.size (.slice (some ⟨W.heap.size, 0, none⟩) n n) (List.replicate n ⟨none, 0, 0⟩) ∧ Kept W W' := by
  obtain ⟨i, hi, h2⟩ := Option.map_eq_some_iff.1 bs_info; simp only [Prod.mk.injEq] at h2; have h := run_make (P := Tryz.prog) W 24 42 i (.slice none 0 0) Tryz.underlying24 hi h2.2.2 .i64 .i64 (n : Int) (n : Int) (by omega) (by omega) (by rw [h2.2.1]; omega) (by omega); rw [h2.1, Int.toNat_natCast] at h
  change _ = Result.ok _ (W.alloc (.cells (madeCells (slA ⟨none, 0, 0⟩) (n * 1)) 42)) at h
  refine ⟨W.alloc (.cells (madeCells (slA ⟨none, 0, 0⟩) (n * 1)) 42), by simp only [makeRow, Sem.run_bind, h, Result.andThen_ok, Sem.run_pure], ?_, (Upd.refl _ W).alloc _⟩; have e := made_bss n; have el : (List.replicate n (⟨none, 0, 0⟩ : SlC)).length = n := List.length_replicate; have e1 : (rowsOf slA (List.replicate n (⟨none, 0, 0⟩ : SlC))).length = n * 1 := by rw [rowsOf_length slA_size, el]
  refine ⟨by rw [e1, el], .inr ⟨W.heap.size, n, madeCells (slA ⟨none, 0, 0⟩) (n * 1), by rw [el], Nat.le_refl _, heap_alloc_new W _, by rw [el]; exact Nat.le_refl _, by unfold maxLen; omega, by rw [← Array.length_toList, e, e1], ?_⟩⟩; rw [el, List.take_of_length_le (by rw [e, e1]; exact Nat.le_refl _), e]
section
variable {w W W' : World} {B u c : Nat} {v v' : Value} {n0 n0' : Int} {xs xs' : List SlC} {M M' : List Bytes} {gl n : Nat} {li : List (SlC × Bytes)} {S : Nat → Prop}
end
end Go.Proofs.YtepjbijhkkjbfaaGreat
namespace Go.Proofs.YtepjbijhkkjbfaaGreat
open Go.RowKit
def bA (u : UInt8) : Array Value := #[.int .u8 (u.toNat : Int)]
theorem bA_size (u : UInt8) : (bA u).size = 1 := by simp [bA]
theorem encB_rows (R : Bytes) : encB R = rowsOf bA R := by
  induction R with
  | nil => rfl
  | cons u R ih => rw [rowsOf_cons, ← ih]; rfl
theorem OwnB.rows {W : World} {B : Nat} {v : Value} {R : Bytes} (h : OwnB W B v R) : OwnRows bA 1 W B 5 v R := by
  show W.ownsRow B 5 1 v R.length (rowsOf bA R); rw [← encB_rows]; exact h
theorem OwnRows.bytes {W : World} {B : Nat} {v : Value} {R : Bytes} (h : OwnRows bA 1 W B 5 v R) : OwnB W B v R := by
  show W.ownsRow B 5 1 v R.length (encB R); rw [encB_rows]; exact h
theorem own_setByte {W : World} {B : Nat} {v : Value} {R : Bytes} (h : OwnB W B v R) {k : Nat} (hk : k < R.length) (u : UInt8) :
    ∃ g c vs, v = .slice (some ⟨g, 0, none⟩) R.length c ∧ B ≤ g ∧ Blk W g 5 vs ∧ W.cell? ⟨g, k, none⟩ = some (.int .u8 (R[k].toNat : Int)) ∧ W.frozen? ⟨g, k, none⟩ = false ∧ OwnB (W.setCell ⟨g, k, none⟩ (.int .u8 (u.toNat : Int))) B v (R.set k u) := by
  obtain ⟨g, c, hv, hg1, hg2⟩ := World.ownsRow.form h.rows (by omega); obtain ⟨g', cur, e1, e2, e3, e4⟩ := OwnRows.turn bA_size (by omega) h.rows hk u; rw [hv] at e1; obtain rfl : g = g' := Option.some.inj e1; obtain ⟨A, c', he, -, hb⟩ := h.form; rw [hv] at he; simp only [Value.slice.injEq] at he; obtain ⟨rfl, -, rfl⟩ := he; obtain ⟨b, off, hA, hc⟩ := hb.get hk; simp only [Option.some.injEq, Addr.mk.injEq, and_true] at hA; obtain ⟨rfl, rfl⟩ := hA; rw [Nat.zero_add] at hc; refine ⟨g, c, cur, hv, hg1, e2, hc, frozen_of_row W g k _ _ e2, ?_⟩; have e : W.setCell ⟨g, k, none⟩ (.int .u8 (u.toNat : Int)) = W.setRow g (splice cur (k * 1) (bA u).toList).toArray := by
    rw [setCell_eq_setRow W g k cur.toArray 5 (0, 0) _ e2, show (bA u).toList = [.int .u8 (u.toNat : Int)] from rfl, splice_set _ _ _ (by omega)]
  rw [e]; exact e4.bytes
end Go.Proofs.YtepjbijhkkjbfaaGreat
