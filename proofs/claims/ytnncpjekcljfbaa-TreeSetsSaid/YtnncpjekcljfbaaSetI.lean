/- The texts of this hand-in, merged: RefL RefM RefN. -/
import Derived.Test.YtnncpjekcljfbaaSetH
/- The document's tree: Levels. -/
namespace Go.Proofs.Ytnncpjekcljfbaa
open Go.RowKit

theorem RTo.then {b : Nat} {v v' : Value} {w W W' : World} {S : Nat → Prop} (h : RTo b v w v' W) (hu : Upd S W W') (hs : ∀ k, k < w.heap.size → ¬ S k) (hs2 : ∀ B xs, OwnS W B v' xs → ∀ k, v'.ownBlock = some k → ¬ S k) : RTo b v w v' W' := ⟨h.1.then hu (fun k hk e => absurd e (hs k hk)), h.2.1, h.2.2.upd hu hs2⟩
theorem row_far {α : Type} {f : α → Array Value} {m t B' : Nat} {u v : Value} {l : List α} {W : World} (ho : OwnRows f m W B' t u l) (ht : t ≠ 35) (B : Nat) (xs : List SlC) (h : OwnS W B v xs) (k : Nat) (e : v.ownBlock = some k) : ¬ u.ownBlock = some k := fun e2 => by
  obtain ⟨c1, h1⟩ := own_cells h e
  obtain ⟨c2, h2⟩ := own_cells ho e2
  rw [h1] at h2
  simp only [Option.some.injEq, Obj.cells.injEq] at h2
  exact ht h2.2.1.symm
theorem RefBook.upd {W W' : World} {B b : Nat} {v : Value} {n : Int} {xs : List SlC} {L : List Bytes} {S : Nat → Prop} (h : RefBook W B b v n xs L) (hu : Upd S W W') (hs : ∀ k cs t fr, W.heap[k]? = some (.cells cs t fr) → (t = 138 ∨ t = 35 ∨ t = 5) → ¬ S k) : RefBook W' B b v n xs L :=
  ⟨hu.heap h.blk (hs _ _ _ _ h.blk (.inl rfl)), OwnRows.upd h.row hu (fun k e => by obtain ⟨cur, hc⟩ := own_cells h.row e; exact hs _ _ _ _ hc (.inr (.inl rfl))), h.len,
    fun i hi hi' => (h.each i hi hi').upd hu (fun k e => by obtain ⟨cur, hc⟩ := (h.each i hi hi').blk e; exact hs _ _ _ _ hc (.inr (.inr rfl))), h.sz⟩
/-- an own row of another type turns -/
theorem RefBook.row_turn {α : Type} {f : α → Array Value} {m t B' : Nat} {u : Value} {l : List α} {W W' : World} {B b : Nat} {v : Value} {n : Int} {xs : List SlC} {L : List Bytes} (h : RefBook W B b v n xs L) (ho : OwnRows f m W B' t u l) (ht : ¬ (t = 138 ∨ t = 35 ∨ t = 5)) (hu : Upd (fun k => u.ownBlock = some k) W W') : RefBook W' B b v n xs L :=
  h.upd hu fun k cs t' fr hc h2 e => by
    obtain ⟨cur, h3⟩ := own_cells ho e
    rw [hc] at h3
    simp only [Option.some.injEq, Obj.cells.injEq] at h3
    rw [h3.2.1] at h2
    exact ht h2
theorem notesM_length (L N : List Bytes) : (notesM L N).length ≤ L.length + N.length := by
  induction N generalizing L with
  | nil => simp [notesM]
  | cons r N ih =>
    have h1 := ih (noteM L r)
    have h2 := noteM_length (L := L) (R := r)
    show (notesM (noteM L r) N).length ≤ _
    rw [List.length_cons]
    omega
theorem leafI_length (l : List (SlC × Bytes)) : (leafI l).length = l.length := by simp [leafI]
theorem notesM_take {L I : List Bytes} {k : Nat} (h : k < I.length) : notesM L (I.take (k + 1)) = noteM (notesM L (I.take k)) I[k] := by
  rw [List.take_succ_eq_append_getElem h, notesM_append]; rfl
set_option maxHeartbeats 3000000 in
set_option maxRecDepth 20000 in
theorem ref_Levels {w : World} {B b : Nat} {v : Value} {n0 : Int} {xs0 : List SlC} {L : List Bytes} (h : RefBook w B b v n0 xs0 L) (hB : B ≤ w.heap.size) (hcnt : L.length ≤ 90000) {A : Option Addr} {l : List (SlC × Bytes)} (c : Nat) (hl : ∀ W v', RTo b v w v' W → LeavesAt W A l) (hs : ∀ p ∈ l, p.2.length < 65536) (h1 : 1 ≤ l.length) (h2 : l.length ≤ 1024) :
    Calls Try.prog 81 #[.pointer (some ⟨b, 0, none⟩), .slice A l.length c] w fun e W => ∃ vo, e = .returned vo ∧ OwnP W w.heap.size vo (levelsM shaM (leafD l)) ∧ ∃ v' n' xs', RefBook W B b v' n' xs' (notesM (notesM L (leafI l)) (insM shaM (leafD l))) ∧ RTo b v w v' W := by
  have HX := Lib.hid (And.intro h (And.intro hB (And.intro hcnt (And.intro hl hs))))
  clear h hB hcnt hl hs
  obtain ⟨n, hn⟩ : ∃ n, n = l.length := ⟨_, rfl⟩
  rw [← hn] at h1 h2 ⊢
  have HN := Lib.hid (And.intro hn (And.intro h1 h2))
  clear hn h1 h2
  go_enter Try.func81, Try.ntmps81
  go_wp2_with fail
  go_loopw [6, 5] (fun u t wr => ∃ (k : Nat) (v' : Value) (n' : Int) (xs' : List SlC), k ≤ n ∧ u = .int .i64 k ∧ OwnD wr w.heap.size t ((leafD l).take k) ∧ RefBook wr B b v' n' xs' (notesM L ((leafI l).take k)) ∧ RTo b v w v' wr) (fun u _ _ => 2000 - (intOf u).toNat)
  case atStart => exact ⟨0, v, n0, xs0, Nat.zero_le _, rfl, OwnRows.nil _ _ _, HX.out.1, RTo.kept (Upd.refl _ _)⟩
  case round =>
    obtain ⟨k, v', n', xs', hk, rfl, hown, hb, hto⟩ := hrel
    rcases Nat.lt_or_ge k n with hlt | hge
    · have hkl : k < l.length := by rw [← HN.out.1]; exact hlt
      have hk' : (k : Int) < (n : Int) := by omega
      have hk5 : (k : Int) ≤ 1024 := by have := HN.out.2.2; omega
      obtain ⟨g, o, A1, c1, hA, hcell, hby, hcc⟩ := (HX.out.2.2.2.1 wr v' hto).get hkl
      subst hA
      have hRl := HX.out.2.2.2.2 _ (List.getElem_mem hkl)
      have eD : (leafD l).take (k + 1) = (leafD l).take k ++ [leafM shaM l[k].2] := by
        rw [List.take_succ_eq_append_getElem (by rw [leafD_length]; exact hkl)]
        congr 2
        exact List.getElem_map _
      have eI : notesM L ((leafI l).take (k + 1)) = noteM (notesM L ((leafI l).take k)) (leafIn l[k].2) := by
        rw [notesM_take (by rw [leafI_length]; exact hkl)]
        congr 1
        exact List.getElem_map _
      have hLl : (notesM L ((leafI l).take k)).length ≤ 100000 := by
        have e1 := notesM_length L ((leafI l).take k)
        have e2 := HX.out.2.2.1
        have e3 := HN.out.2.2
        rw [List.length_take] at e1
        omega
      generalize l[k].2 = R at *
      have HR := Lib.hid (And.intro hown (And.intro hb (And.intro hto (And.intro hby (And.intro hRl hLl)))))
      have HE := Lib.hid (And.intro eD (And.intro eI (And.intro hlt (show ((leafD l).take k).length ≤ 1024 by rw [List.length_take]; have := HN.out.2.2; omega))))
      clear hown hb hto hby hRl hLl eD eI hlt hkl hk hcc
      go_wp2_with fail
      obtain ⟨hown, hb, hto, hby, hRl, hLl⟩ := HR.out
      have hBw : B ≤ wr.heap.size := Nat.le_trans HX.out.2.1 hto.1.size
      refine (ref_Leaf hb hBw c1 hby hRl hLl).mono ?_
      rintro e w2 ⟨rfl, v2, n2, xs2, hb2, ht2a⟩
      have ht2 := hto.trans ht2a
      have hown2 := OwnRows.upd hown ht2a.1 (fun k e => by obtain ⟨cur, hc⟩ := own_cells hown e; exact hb.far hc (by decide) (by decide))
      have hsz2 : w.heap.size ≤ w2.heap.size := ht2.1.size
      obtain ⟨X, hX⟩ : ∃ X, X = leafM shaM R := ⟨_, rfl⟩
      rw [← hX]
      have HT : Hid ((leafD l).take (k + 1) = (leafD l).take k ++ [X]) := by show _ = _; rw [HE.out.1, hX]
      clear hown hb hto hby hRl hLl hBw ht2a hX HR
      -- a digest X just told, in world w2: its variable and its one-digest row are made (worlds wa, wb); RefBook hb2, RTo ht2 of world w2 from w; the row hown2 : OwnD w2
      have hkwa : Kept w2 (w2.alloc (.cells (dA X) 46)) := (Upd.refl _ w2).alloc _
      have hs3 : segB (w2.alloc (.cells (dA X) 46)) ⟨w2.heap.size, 0, none⟩ 32 = true := segB_new _ _ _ _ _ rfl (dA_size X)
      have hs4 : segV (w2.alloc (.cells (dA X) 46)) ⟨w2.heap.size, 0, none⟩ 32 = dA X := segV_new _ _ _ _ _ rfl (dA_size X)
      have hown3 := hown2.alloc (.cells (dA X) 46)
      have hb3 := hb2.kept hkwa
      have ht3 := ht2.alloc (.cells (dA X) 46)
      have hsz3 : w.heap.size ≤ (w2.alloc (.cells (dA X) 46)).heap.size := Nat.le_trans hsz2 hkwa.size
      clear hown2 hb2 ht2 hsz2 hkwa
      generalize hWA : w2.alloc (.cells (dA X) 46) = wa at *
      have hkwb : Kept wa (wa.alloc (.cells (dA X) 46)) := (Upd.refl _ wa).alloc _
      have hown4 := hown3.alloc (.cells (dA X) 46)
      have hb4 := hb3.kept hkwb
      have ht4 := ht3.alloc (.cells (dA X) 46)
      have hg4 := heap_alloc_new wa (.cells (dA X) 46)
      have hsz4 : w.heap.size ≤ (wa.alloc (.cells (dA X) 46)).heap.size := Nat.le_trans hsz3 hkwb.size
      clear hown3 hb3 ht3 hsz3 hkwb
      generalize hWB : wa.alloc (.cells (dA X) 46) = wb at *
      have HQ := Lib.hid (And.intro hown4 (And.intro hb4 (And.intro ht4 (And.intro hg4 hsz4))))
      clear hown4 hb4 ht4 hg4 hsz4 hcell
      go_wp2_with (at_builtin; refine wpList_append_rows dig_rows rfl (.tmp 29) (.tmp 31) rfl rfl HQ.out.1 X wa.heap.size 1 _ _ rfl HQ.out.2.2.2.1 (by have := HE.out.2.2.2; unfold maxLen; omega) (by have := HE.out.2.2.2; omega) HQ.out.2.2.2.2 ?_; intro v' w3 hown' hu' hnew)
      have hf := World.ownsRow.lt HQ.out.1
      have HF := Lib.hid (And.intro hown' (And.intro (HQ.out.2.1.row_turn HQ.out.1 (by decide) hu') (HQ.out.2.2.1.then hu' (fun k hk e => by have := (hf k e).1; omega) (row_far HQ.out.1 (by decide)))))
      clear hown' hu' hnew hf
      go_wp2_with fail
      go_roundw
      case rel => exact ⟨k + 1, v2, n2, xs2, by have := HE.out.2.2.1; omega, by show _ = _; go_num, by rw [HT.out]; exact HF.out.1, by rw [HE.out.2.1]; exact HF.out.2.1, HF.out.2.2⟩
      case measure => have := HE.out.2.2.1; have := HN.out.2.2; simp [intOf]; omega
    · obtain rfl : k = n := by omega
      have hk' : ¬ ((k : Int) < (k : Int)) := by omega
      rw [List.take_of_length_le (by rw [leafD_length, HN.out.1]; exact Nat.le_refl _)] at hown
      rw [List.take_of_length_le (by rw [leafI_length, HN.out.1]; exact Nat.le_refl _)] at hb
      obtain ⟨A0, c0, hx0, hc0, hd0⟩ := hown.digs
      subst hx0
      obtain ⟨D, hD⟩ : ∃ D, D = leafD l := ⟨_, rfl⟩
      obtain ⟨L2, hL2⟩ : ∃ L2, L2 = notesM L (leafI l) := ⟨_, rfl⟩
      rw [← hD] at hown hc0 hd0 ⊢
      rw [← hL2] at hb
      have hDl : D.length = k := by rw [hD, leafD_length, HN.out.1]
      have hL2l : L2.length ≤ 92000 := by
        have e1 := notesM_length L (leafI l)
        have e2 := HX.out.2.2.1
        have e3 := HN.out.2.2
        rw [leafI_length, ← HN.out.1, ← hL2] at e1
        omega
      have hD0 : D ≠ [] := fun e => by rw [e] at hDl; have := HN.out.2.1; simp at hDl; omega
      have hk1 : Kept wr (wr.alloc (.cells (slA ⟨A0, D.length, c0⟩) 41)) := (Upd.refl _ wr).alloc _
      have hx1 : OwnD (wr.alloc (.cells (slA ⟨A0, D.length, c0⟩) 41)) w.heap.size (SlC.v ⟨A0, D.length, c0⟩) D := OwnRows.alloc hown _
      have ho1 : OwnRows slA 1 (wr.alloc (.cells (slA ⟨A0, D.length, c0⟩) 41)) wr.heap.size 41 (.slice (some ⟨wr.heap.size, 0, none⟩) 1 1) [⟨A0, D.length, c0⟩] :=
        ⟨by simp [rowsOf, slA], .inr ⟨wr.heap.size, 1, slA ⟨A0, D.length, c0⟩, rfl, Nat.le_refl _, heap_alloc_new wr _, Nat.le_refl _, by unfold maxLen; omega, by simp, by simp [rowsOf, slA]⟩⟩
      have HY := Lib.hid (And.intro (hb.kept hk1) (And.intro (hto.alloc (.cells (slA ⟨A0, D.length, c0⟩) 41)) (And.intro hx1 (And.intro (own_base ho1 hto.1.size) (And.intro hD0 (And.intro hDl (And.intro hL2l HX.out.2.1)))))))
      have HDD := Lib.hid (And.intro hD hL2)
      have hDl5 : D.length ≤ 1024 := by have := HN.out.2.2; omega
      have HDL := Lib.hid hDl5
      clear hown hb hto hge hk hk1 hx1 ho1 hD0 hDl hL2l hD hL2 hd0 hc0 hDl5 HX
      generalize hW1 : wr.alloc (.cells (slA ⟨A0, D.length, c0⟩) 41) = w1 at *
      go_wp2_with fail
      go_loopw [9, 5] (fun u t wr => ∃ (xs : List SlC) (x : SlC) (ls : List (List Dig)) (cur : List Dig) (N : List Bytes) (v' : Value) (n' : Int) (xs' : List SlC), t = .slice x.A x.n x.c ∧ OwnRows slA 1 wr w.heap.size 41 u (xs ++ [x]) ∧ Lev wr w.heap.size (xs ++ [x]) (ls ++ [cur]) ∧ levelsM shaM D = ls ++ levelsM shaM cur ∧ insM shaM D = N ++ insM shaM cur ∧
          RefBook wr B b v' n' xs' (notesM L2 N) ∧ RTo b v w v' wr ∧ cur.length ≤ 1024 ∧ cur ≠ [] ∧ ls.length + cur.length ≤ 1024 ∧ N.length + 2 * cur.length ≤ 2048) (fun _ t _ => match t with | .slice _ n _ => n | _ => 0)
      case atStart =>
        obtain ⟨y1, y2, y3, y4, y5, y6, y7, y8⟩ := HY.out
        exact ⟨[], ⟨A0, D.length, c0⟩, [], D, [], _, _, _, rfl, y4, Lev.one y3 y5, rfl, rfl, y1, y2, HDL.out, y5, by have := HDL.out; simpa using this, by have := HDL.out; simp; omega⟩
      case round =>
        obtain ⟨xs, x, ls, cur, N, v', n', xs', rfl, ho, hlev, hls, hins, hb, hto, hcl, hcn, hlc, hNc⟩ := hrel
        obtain ⟨A, c, hxv, hcc, hdg⟩ := hlev.last.1.digs
        obtain ⟨xA, xn, xc⟩ := x
        simp only [SlC.v, Value.slice.injEq] at hxv
        obtain ⟨rfl, rfl, rfl⟩ := hxv
        rcases Nat.lt_or_ge 1 cur.length with h1 | h1
        · have h1' : (1 : Int) < (cur.length : Int) := by omega
          have h1n : 1 < cur.length := h1
          have HQ := Lib.hid (And.intro ho (And.intro hlev (And.intro hls (And.intro hins (And.intro hb (And.intro hto (And.intro hcl (And.intro hlc (And.intro hcc (And.intro hdg hNc))))))))))
          have HN1 := Lib.hid h1
          clear ho hlev hls hins hb hto hcl hlc hcc hdg h1 hNc hcn
          go_wp2_with fail
          obtain ⟨wo, rfl⟩ : ∃ wo : World, wo = wr := ⟨_, rfl⟩
          go_loopw [11, 10] (fun i t wr => ∃ (k : Nat) (v'' : Value) (n'' : Int) (xs'' : List SlC), k ≤ up4 cur.length ∧ i = .int .i64 (4 * k : Nat) ∧ OwnD wr wo.heap.size t ((aboveM shaM cur).take k) ∧ RefBook wr B b v'' n'' xs'' (notesM (notesM L2 N) (aboveIn cur k)) ∧ RTo b v' wo v'' wr) (fun i _ _ => 2000 - (intOf i).toNat)
          case atStart => exact ⟨0, v', n', xs', Nat.zero_le _, rfl, OwnRows.nil _ _ _, HQ.out.2.2.2.2.1, RTo.kept (Upd.refl _ _)⟩
          case round =>
            obtain ⟨k2, v'', n'', xs'', hk, rfl, hown, hb, hto⟩ := hrel
            rcases Nat.lt_or_ge (4 * k2) cur.length with hlt | hge
            · have hk' : ((4 * k2 : Nat) : Int) < (cur.length : Int) := by omega
              have hk5 : ((4 * k2 : Nat) : Int) < 1024 := by have := HQ.out.2.2.2.2.2.2.1; omega
              have hcl5 : (cur.length : Int) ≤ 1024 := by have := HQ.out.2.2.2.2.2.2.1; omega
              have hku : k2 < up4 cur.length := by unfold up4; omega
              obtain ⟨m, hm⟩ : ∃ m, m = 4 * k2 := ⟨_, rfl⟩
              rw [← hm] at hk' hk5 ⊢
              obtain ⟨hh, hhe⟩ : ∃ hh, hh = min (m + 4) cur.length := ⟨_, rfl⟩
              have e2 : (if (cur.length : Int) < (m : Int) + 4 then (cur.length : Int) else (m : Int) + 4) = (hh : Int) := by split <;> omega
              have hgl : (group cur k2).length = hh - m := by rw [group_length]; omega
              have hsl : ∀ W, (Instr.sliceAt 41 (.slice xA cur.length xc) (some (.int .i64 (m : Int))) (some (.int .i64 (hh : Int))) none).run Try.prog W = .ok (.slice (xA.map (·.add (m * 32))) (group cur k2).length (xc - m)) W := fun W => by
                have := slice_digs_lh W xA cur.length xc m hh (m : Int) (hh : Int) rfl rfl (by omega) (by have := HQ.out.2.2.2.2.2.2.2.2.1; omega) (by have := HQ.out.2.2.2.2.2.2.2.2.1; omega)
                rwa [← hgl] at this
              have hg4 : 1 ≤ (group cur k2).length ∧ (group cur k2).length ≤ 4 := by omega
              have HMM := Lib.hid (And.intro hm (And.intro hku (And.intro hg4 (show (notesM (notesM L2 N) (aboveIn cur k2)).length ≤ 100000 by
                have f1 := notesM_length (notesM L2 N) (aboveIn cur k2)
                have f2 := notesM_length L2 N
                have f3 := HQ.out.2.2.2.2.2.2.2.2.2.2
                have f4 := HY.out.2.2.2.2.2.2.1
                have f5 : (aboveIn cur k2).length = k2 := by simp [aboveIn]
                have f6 : up4 cur.length ≤ cur.length := by unfold up4; omega
                omega))))
              have HR := Lib.hid (And.intro hown (And.intro hb hto))
              clear hown hb hto hm hhe hgl hg4 hlt hku hk
              go_wp2_with fail
              obtain ⟨hown, hb, hto⟩ := HR.out
              have hx3 : OwnD wr w.heap.size (.slice xA cur.length xc) cur := OwnRows.upd (HQ.out.2.1.last.1) hto.1 (fun k e => by
                obtain ⟨cur1, hc⟩ := own_cells HQ.out.2.1.last.1 e
                exact HQ.out.2.2.2.2.1.far hc (by decide) (by decide))
              obtain ⟨A', c', he', -, hdg3⟩ := hx3.digs
              simp only [Value.slice.injEq] at he'
              obtain ⟨rfl, -, rfl⟩ := he'
              have hgd : Digs wr (xA.map (·.add (m * 32))) (group cur k2) := by rw [HMM.out.1]; exact Digs.part hdg3 (4 * k2) 4
              have hBw : B ≤ wr.heap.size := Nat.le_trans HY.out.2.2.2.2.2.2.2 (Nat.le_trans HQ.out.2.2.2.2.2.1.1.size hto.1.size)
              refine (ref_Up hb hBw (xc - m) hgd HMM.out.2.2.1.1 HMM.out.2.2.1.2 HMM.out.2.2.2).mono ?_
              rintro e w4 ⟨rfl, v3, n3, xs3, hb2, ht2a⟩
              have ht2 := hto.trans ht2a
              have hown2 := OwnRows.upd hown ht2a.1 (fun k e => by obtain ⟨cur, hc⟩ := own_cells hown e; exact hb.far hc (by decide) (by decide))
              have hsz2 : wo.heap.size ≤ w4.heap.size := ht2.1.size
              obtain ⟨X, hX⟩ : ∃ X, X = upM shaM (group cur k2) := ⟨_, rfl⟩
              rw [← hX]
              have HT : Hid ((aboveM shaM cur).take (k2 + 1) = (aboveM shaM cur).take k2 ++ [X] ∧ notesM (notesM L2 N) (aboveIn cur (k2 + 1)) = noteM (notesM (notesM L2 N) (aboveIn cur k2)) (upIn (group cur k2))) := ⟨by rw [above_take cur k2 HMM.out.2.1, hX], aboveIn_succ _ cur k2⟩
              clear hown hb hto hx3 hdg3 hgd hBw ht2a hX HR hsl e2
              -- a digest X just told, in world w4: its variable and its one-digest row are made (worlds wa, wb); RefBook hb2, RTo ht2 of world w4 from wo; the row hown2 : OwnD w4
              have hkwa : Kept w4 (w4.alloc (.cells (dA X) 46)) := (Upd.refl _ w4).alloc _
              have hs3 : segB (w4.alloc (.cells (dA X) 46)) ⟨w4.heap.size, 0, none⟩ 32 = true := segB_new _ _ _ _ _ rfl (dA_size X)
              have hs4 : segV (w4.alloc (.cells (dA X) 46)) ⟨w4.heap.size, 0, none⟩ 32 = dA X := segV_new _ _ _ _ _ rfl (dA_size X)
              have hown3 := hown2.alloc (.cells (dA X) 46)
              have hb3 := hb2.kept hkwa
              have ht3 := ht2.alloc (.cells (dA X) 46)
              have hsz3 : wo.heap.size ≤ (w4.alloc (.cells (dA X) 46)).heap.size := Nat.le_trans hsz2 hkwa.size
              clear hown2 hb2 ht2 hsz2 hkwa
              generalize hWA : w4.alloc (.cells (dA X) 46) = wa at *
              have hkwb : Kept wa (wa.alloc (.cells (dA X) 46)) := (Upd.refl _ wa).alloc _
              have hown4 := hown3.alloc (.cells (dA X) 46)
              have hb4 := hb3.kept hkwb
              have ht4 := ht3.alloc (.cells (dA X) 46)
              have hg4 := heap_alloc_new wa (.cells (dA X) 46)
              have hsz4 : wo.heap.size ≤ (wa.alloc (.cells (dA X) 46)).heap.size := Nat.le_trans hsz3 hkwb.size
              clear hown3 hb3 ht3 hsz3 hkwb
              generalize hWB : wa.alloc (.cells (dA X) 46) = wb at *
              have HP := Lib.hid (And.intro hown4 (And.intro hb4 (And.intro ht4 (And.intro hg4 hsz4))))
              have HLN : Hid (((aboveM shaM cur).take k2).length ≤ 1024) := by
                show _ ≤ _
                rw [List.length_take, aboveM_length]
                have h1 := HQ.out.2.2.2.2.2.2.1
                unfold up4
                omega
              clear hown4 hb4 ht4 hg4 hsz4
              go_wp2_with (at_builtin; refine wpList_append_rows dig_rows rfl (.tmp 57) (.tmp 59) rfl rfl HP.out.1 X wa.heap.size 1 _ _ rfl HP.out.2.2.2.1 (by have := HLN.out; unfold maxLen; omega) (by have := HLN.out; omega) HP.out.2.2.2.2 ?_; intro v5 w5 hown' hu' hnew)
              have hf := World.ownsRow.lt HP.out.1
              have HF := Lib.hid (And.intro hown' (And.intro (HP.out.2.1.row_turn HP.out.1 (by decide) hu') (HP.out.2.2.1.then hu' (fun k hk e => by have := (hf k e).1; omega) (row_far HP.out.1 (by decide)))))
              clear hown' hu' hnew hf
              go_wp2_with fail
              go_roundw
              case rel => exact ⟨k2 + 1, v3, n3, xs3, by have := HMM.out.2.1; omega, by show _ = _; rw [HMM.out.1]; go_num, by rw [HT.out.1]; exact HF.out.1, by rw [HT.out.2]; exact HF.out.2.1, HF.out.2.2⟩
              case measure => have := HMM.out.1; simp [intOf]; omega
            · have hku : k2 = up4 cur.length := by unfold up4 at *; omega
              have hk' : ¬ ((4 * k2 : Nat) : Int) < (cur.length : Int) := by omega
              obtain ⟨ho, hlev, hls, hins, hbr, htr, hcl, hlc, hcc, hdg, hNc⟩ := HQ.out
              have hown1 := hown
              rw [hku, ← aboveM_length (H := shaM) cur, List.take_length] at hown1
              rw [hku] at hb
              have hsz := htr.1.size
              have ho2 := OwnRows.upd ho hto.1 (fun i hi => by obtain ⟨cur1, hc⟩ := own_cells ho hi; exact hbr.far hc (by decide) (by decide))
              have hlev2 := hlev.upd hto.1 (fun i hi k e => by obtain ⟨cur1, hc⟩ := own_cells (hlev.row i hi (by rw [← hlev.len]; exact hi)).1 e; exact hbr.far hc (by decide) (by decide))
              have ht3 := htr.trans hto
              have hfresh : ∀ k, u10.ownBlock = some k → wo.heap.size ≤ k := fun k e => (World.ownsRow.lt hown1 k e).1
              obtain ⟨A2, c2, he2, hc2, _⟩ := OwnD.digs hown1
              subst he2
              have hne : ∀ i (hi : i < (xs ++ [(⟨xA, cur.length, xc⟩ : SlC)]).length), (xs ++ [(⟨xA, cur.length, xc⟩ : SlC)])[i].v.ownBlock ≠ (SlC.v ⟨A2, (aboveM shaM cur).length, c2⟩).ownBlock := fun i hi e => by
                obtain ⟨g, _, hg, _, _⟩ := World.ownsRow.form hown1 (by rw [aboveM_length]; unfold up4; have := HN1.out; omega)
                have e2 : (SlC.v ⟨A2, (aboveM shaM cur).length, c2⟩).ownBlock = some g := by
                  simp only [Value.slice.injEq] at hg
                  show (Value.slice A2 (aboveM shaM cur).length c2).ownBlock = some g
                  rw [hg.1]; rfl
                have h1 := (hlev.far i hi g (by rw [e, e2])).2
                have h2 := hfresh g e2
                omega
              have hnn : aboveM shaM cur ≠ [] := by
                intro h0
                have h2 : (aboveM shaM cur).length = 0 := by rw [h0]; rfl
                rw [aboveM_length] at h2
                unfold up4 at h2
                have := HN1.out
                omega
              have hlev3 := hlev2.snoc (x := ⟨A2, (aboveM shaM cur).length, c2⟩) (own_base hown1 hsz) hnn hne
              have hk4 : Kept wr (wr.alloc (.cells (slA ⟨A2, (aboveM shaM cur).length, c2⟩) 41)) := (Upd.refl _ wr).alloc _
              have ho3 := ho2.alloc (.cells (slA ⟨A2, (aboveM shaM cur).length, c2⟩) 41)
              have hlev4 := hlev3.upd hk4 (fun _ _ _ _ h => h)
              have hb3 := hb.kept hk4
              have ht4 := ht3.alloc (.cells (slA ⟨A2, (aboveM shaM cur).length, c2⟩) 41)
              have hg4 := heap_alloc_new wr (.cells (slA ⟨A2, (aboveM shaM cur).length, c2⟩) 41)
              have hsz4 : w.heap.size ≤ (wr.alloc (.cells (slA ⟨A2, (aboveM shaM cur).length, c2⟩) 41)).heap.size := ht4.1.size
              clear ho2 hlev2 hlev3 hb ht3 ho hlev hbr htr hto hne hfresh hown1 hown hk4 hsz
              generalize hWA : wr.alloc (.cells (slA ⟨A2, (aboveM shaM cur).length, c2⟩) 41) = wa at *
              have HZ := Lib.hid (And.intro ho3 (And.intro hlev4 (And.intro hb3 (And.intro ht4 (And.intro hg4 hsz4)))))
              have HE := Lib.hid (And.intro hls (And.intro hins (And.intro hcl (And.intro hlc hNc))))
              have HXL : Hid ((xs ++ [⟨xA, cur.length, xc⟩] : List SlC).length ≤ 1024) := by
                have hlen := hlev4.len
                show _ ≤ _
                simp only [List.length_append, List.length_singleton] at hlen ⊢
                have := HN1.out
                omega
              have HK := Lib.hid hku
              clear ho3 hlev4 hb3 ht4 hg4 hsz4 hls hins hcl hlc hcc hdg hNc hku hge hk HQ
              have HAL : Hid ((aboveM shaM cur).length = up4 cur.length) := aboveM_length cur
              generalize hAB : aboveM shaM cur = nx at *
              have HAB := Lib.hid hAB
              clear hAB
              generalize 4 * k2 = m at *
              go_wp2_with (at_builtin; refine wpList_append_rows sl_rows rfl (.tmp 61) (.tmp 63) rfl rfl HZ.out.1 ⟨A2, nx.length, c2⟩ wr.heap.size 1 _ _ rfl HZ.out.2.2.2.2.1 (by have := HXL.out; unfold maxLen; omega) (by have := HXL.out; omega) HZ.out.2.2.2.2.2 ?_; intro v5 w5 hown' hu' hnew)
              have hf := World.ownsRow.lt HZ.out.1
              have HF := Lib.hid (And.intro hown' (And.intro (HZ.out.2.2.1.row_turn HZ.out.1 (by decide) hu') (And.intro (HZ.out.2.2.2.1.then hu' (fun k hk e => by have := (hf k e).1; omega) (row_far HZ.out.1 (by decide))) (HZ.out.2.1.upd hu' (fun i hi k e e2 => by
                obtain ⟨c1, h1⟩ := own_cells (HZ.out.2.1.row i hi (by rw [← HZ.out.2.1.len]; exact hi)).1 e
                obtain ⟨c2, h2⟩ := own_cells HZ.out.1 e2
                rw [h1] at h2
                cases h2)))))
              clear hown' hu' hnew hf
              go_wp2_with fail
              go_roundw
              case rel =>
                obtain ⟨hls, hins, hcl, hlc, hNc⟩ := HE.out
                have hn1 := HN1.out
                have hal := HAL.out
                refine ⟨xs ++ [⟨xA, cur.length, xc⟩], ⟨A2, nx.length, c2⟩, ls ++ [cur], nx, N ++ aboveIn cur (up4 cur.length), v'', n'', xs'', rfl, HF.out.1, HF.out.2.2.2, ?_, ?_, ?_, HF.out.2.2.1, ?_, ?_, ?_, ?_⟩
                · rw [hls, levelsM_more hn1, HAB.out, List.append_assoc]; rfl
                · rw [hins, insM_more hn1, HAB.out, ← List.append_assoc]; rfl
                · rw [notesM_append]; exact HF.out.2.1
                · unfold up4 at hal; omega
                · intro h0; rw [h0] at hal; unfold up4 at hal; simp at hal; omega
                · rw [List.length_append, List.length_singleton]; unfold up4 at hal; omega
                · have f5 : (aboveIn cur (up4 cur.length)).length = up4 cur.length := by simp [aboveIn]
                  rw [List.length_append, f5]; unfold up4 at hal ⊢; omega
              case measure =>
                have hn1 := HN1.out
                have hal := HAL.out
                show nx.length < cur.length
                rw [hal]; exact up4_lt hn1
        · have h1' : decide ((1 : Int) < (cur.length : Int)) = false := by rw [decide_eq_false_iff_not]; omega
          have h1n : decide (1 < cur.length) = false := by rw [decide_eq_false_iff_not]; omega
          have HF : Hid (OwnP wr w.heap.size u9 (levelsM shaM D) ∧ ∃ v' n' xs', RefBook wr B b v' n' xs' (notesM L2 (insM shaM D)) ∧ RTo b v w v' wr) := by
            refine ⟨⟨_, ho, ?_, fun i hi hi' => ?_⟩, v', n', xs', ?_, hto⟩
            · rw [hls, levelsM_one h1]; exact hlev.len
            · have := (hlev.row i hi (by rw [← hlev.len]; exact hi)).1
              have e : (levelsM shaM D)[i] = (ls ++ [cur])[i]'(by rw [← hlev.len]; exact hi) := by congr 1; rw [hls, levelsM_one h1]
              rw [e]; exact this
            · rw [hins, insM_one h1, List.append_nil]; exact hb
          clear ho hlev hls hins hb hto hcl hlc hcc hdg h1 hNc hcn
          go_wp2
          go_ret
          rw [← HDD.out.1, ← HDD.out.2]
          exact ⟨_, rfl, HF.out⟩
end Go.Proofs.Ytnncpjekcljfbaa
/- Of of both; leaves that are too long. -/
namespace Go.Proofs.Ytnncpjekcljfbaa
open Go.RowKit

/-- the first leaf that is too long -/
theorem first_long {l : List (SlC × Bytes)} (h : ∃ p ∈ l, 65536 ≤ p.2.length) : ∃ (j : Nat) (hj : j < l.length), 65536 ≤ l[j].2.length ∧ ∀ i (hi : i < j), l[i].2.length < 65536 := by
  induction l with
  | nil => obtain ⟨p, hp, _⟩ := h; simp at hp
  | cons q l ih =>
    by_cases hq : 65536 ≤ q.2.length
    · exact ⟨0, by simp, hq, fun i hi => absurd hi (Nat.not_lt_zero i)⟩
    · have h2 : ∃ p ∈ l, 65536 ≤ p.2.length := by
        obtain ⟨p, hp, hl⟩ := h
        rcases List.mem_cons.1 hp with rfl | hp
        · exact absurd hl hq
        · exact ⟨p, hp, hl⟩
      obtain ⟨j, hj, h3, h4⟩ := ih h2
      refine ⟨j + 1, by simpa using hj, by simpa using h3, fun i hi => ?_⟩
      cases i with
      | zero => simp; omega
      | succ i => simpa using h4 i (by omega)

section
variable {w : World} {A : Option Addr} {l : List (SlC × Bytes)}
set_option maxHeartbeats 800000 in
theorem slices_IndexFunc_at (c : Nat) (h : LeavesAt w A l) (hl : l.length ≤ 1024) (j : Nat) (hj : j < l.length) (hlong : 65536 ≤ l[j].2.length) (hs : ∀ i (hi : i < j), l[i].2.length < 65536) :
    Calls Try.prog 107 #[.slice A l.length c, longF] w fun e w' => e = .returned (.int .i64 (j : Int)) ∧ w = w' := by
  have HX := Lib.hid (And.intro h (And.intro hl (And.intro hlong hs)))
  clear h hl hlong hs
  unfold longF
  go_enter Try.func107, Try.ntmps107
  go_wp2_with fail
  go_loopw [8] (fun u1 wr => ∃ k : Nat, k ≤ j ∧ u1 = .int .i64 k ∧ wr = w) (fun u1 _ => 2000 - (intOf u1).toNat)
  case atStart => exact ⟨0, Nat.zero_le _, rfl, by trivial⟩
  case round =>
    obtain ⟨k, hk, rfl, rfl⟩ := hrel
    have hkl : k < l.length := by omega
    have hk' : (k : Int) < (l.length : Int) := by omega
    have hk5 : (k : Int) < 1024 := by have := HX.out.2.1; omega
    obtain ⟨b, off, A2, c2, rfl, hc, _, _⟩ := HX.out.1.get hkl
    rcases Nat.lt_or_ge k j with hlt | hge
    · have hd : decide (65536 ≤ l[k].2.length) = false := decide_eq_false (by have := HX.out.2.2.2 k hlt; omega)
      have HK := Lib.hid (And.intro hlt hkl)
      generalize l[k].2 = R at *
      clear hlt hk hkl
      go_wp2_with fail
      refine (tree_Of1 A2 R.length c2 _).mono ?_
      rw [hd]
      rintro e W ⟨rfl, rfl⟩
      clear hd hc
      go_wp2
      go_roundw
      case rel => exact ⟨k + 1, by have := HK.out.1; omega, by show _ = _; go_num, by trivial⟩
      case measure => have := HK.out; simp [intOf]; omega
    · obtain rfl : k = j := by omega
      have hd : decide (65536 ≤ l[k].2.length) = true := decide_eq_true HX.out.2.2.1
      clear HX hk hge
      generalize l[k].2 = R at *
      go_wp2_with fail
      refine (tree_Of1 A2 R.length c2 _).mono ?_
      rw [hd]
      rintro e W ⟨rfl, rfl⟩
      go_wp2
      go_ret
      exact ⟨rfl, rfl⟩
set_option maxHeartbeats 800000 in
theorem slices_ContainsFunc_at (c : Nat) (h : LeavesAt w A l) (hl : l.length ≤ 1024) (j : Nat) (hj : j < l.length) (hlong : 65536 ≤ l[j].2.length) (hs : ∀ i (hi : i < j), l[i].2.length < 65536) :
    Calls Try.prog 86 #[.slice A l.length c, longF] w fun e w' => e = .returned (.bool true) ∧ w = w' := by
  have HG := slices_IndexFunc_at c h hl j hj hlong hs
  have h0 : (0 : Int) ≤ (j : Int) := by omega
  clear h hl hlong hs hj
  generalize longF = F at *
  generalize l.length = n at *
  go_enter Try.func86, Try.ntmps86
  go_wp2_with fail
  refine HG.mono ?_
  rintro e W ⟨rfl, rfl⟩
  clear HG
  go_wp2
  go_ret
  exact ⟨rfl, rfl⟩
set_option maxHeartbeats 800000 in
set_option maxRecDepth 20000 in
theorem tree_Of_at {p : Option Addr} (c : Nat) (h : LeavesAt w A l) (hl : l.length ≤ 1024) (j : Nat) (hj : j < l.length) (hlong : 65536 ≤ l[j].2.length) (hs : ∀ i (hi : i < j), l[i].2.length < 65536) :
    Calls Try.prog 39 #[.pointer p, .slice A l.length c] w fun e W => e = .returned (.tuple #[.agg (dA dig0), .int .i64 5]) ∧ Kept w W := by
  have hr1 : Blk (w.alloc (.cells (dA dig0) 46)) w.heap.size 46 (encB dig0.1) := Blk.new w _ _
  have hk1 : Kept w (w.alloc (.cells (dA dig0) 46)) := (Upd.refl _ w).alloc _
  generalize hW1 : w.alloc (.cells (dA dig0) 46) = w1 at *
  obtain ⟨hrb, hs1, hs2⟩ := dig_end dig0 hr1
  have HF : Hid (Kept w (w1.setRow w.heap.size (dA dig0)) ∧ segB (w1.setRow w.heap.size (dA dig0)) ⟨w.heap.size, 0, none⟩ 32 = true ∧ segV (w1.setRow w.heap.size (dA dig0)) ⟨w.heap.size, 0, none⟩ 32 = dA dig0) := ⟨Upd.setRow hk1 _ _ (fun h => absurd h (Nat.lt_irrefl _)), hs1, hs2⟩
  clear hs1 hs2
  have HG := slices_ContainsFunc_at c (h.kept hk1) hl j hj hlong hs
  have hd1 : decide ((l.length : Int) < 1) = false := by rw [decide_eq_false_iff_not]; omega
  have hd1n : decide (l.length < 1) = false := by rw [decide_eq_false_iff_not]; omega
  have hd4 : decide ((1024 : Int) < (l.length : Int)) = false := by rw [decide_eq_false_iff_not]; omega
  have hd4n : decide (1024 < l.length) = false := by rw [decide_eq_false_iff_not]; omega
  unfold longF at HG
  clear hr1 hk1 h hl hj hlong hs
  generalize l.length = n at *
  go_enter Try.func39, Try.ntmps39
  go_wp2_with fail
  refine HG.mono ?_
  rintro e W ⟨rfl, rfl⟩
  clear HG
  go_wp2
  refine bodyPost_ret (v := .tuple #[.agg (dA dig0), .int .i64 5]) ?_ rfl ⟨rfl, HF.out.1⟩
  rw [results_seg2 (P := Try.prog) (fn := Try.f39) (p := 4) (t := 5) (ty := 46) rfl _ _ ⟨w.heap.size, 0, none⟩ 32 _ (.int .i64 5) rfl rfl Try.underlying46 rfl sizeOf46 HF.out.2.1, HF.out.2.2]
set_option maxHeartbeats 800000 in
set_option maxRecDepth 20000 in
theorem ref_Of_bad {p : Option Addr} {n : Nat} (c : Nat) (hn : n < 1 ∨ 1024 < n) :
    Calls Try.prog 40 #[.pointer p, .slice A n c] w fun e W => e = .returned (.tuple #[.agg (dA dig0), .int .i64 2]) ∧ Kept w W := by
  have hr1 : Blk (w.alloc (.cells (dA dig0) 46)) w.heap.size 46 (encB dig0.1) := Blk.new w _ _
  have hk1 : Kept w (w.alloc (.cells (dA dig0) 46)) := (Upd.refl _ w).alloc _
  generalize hW1 : w.alloc (.cells (dA dig0) 46) = w1 at *
  obtain ⟨hrb, hs1, hs2⟩ := dig_end dig0 hr1
  have HF : Hid (Kept w (w1.setRow w.heap.size (dA dig0)) ∧ segB (w1.setRow w.heap.size (dA dig0)) ⟨w.heap.size, 0, none⟩ 32 = true ∧ segV (w1.setRow w.heap.size (dA dig0)) ⟨w.heap.size, 0, none⟩ 32 = dA dig0) := ⟨Upd.setRow hk1 _ _ (fun h => absurd h (Nat.lt_irrefl _)), hs1, hs2⟩
  clear hs1 hs2
  clear hr1 hk1
  by_cases h1 : n < 1
  · have hd1 : decide ((n : Int) < 1) = true := by rw [decide_eq_true_iff]; omega
    clear hn h1
    go_enter Try.func40, Try.ntmps40
    go_wp2
    refine bodyPost_ret (v := .tuple #[.agg (dA dig0), .int .i64 2]) ?_ rfl ⟨rfl, HF.out.1⟩
    rw [results_seg2 (P := Try.prog) (fn := Try.f40) (p := 4) (t := 5) (ty := 46) rfl _ _ ⟨w.heap.size, 0, none⟩ 32 _ (.int .i64 2) rfl rfl Try.underlying46 rfl sizeOf46 HF.out.2.1, HF.out.2.2]
  · have hd1 : decide ((n : Int) < 1) = false := by rw [decide_eq_false_iff_not]; omega
    have hd2 : decide ((1024 : Int) < (n : Int)) = true := by rw [decide_eq_true_iff]; omega
    have hd3 : decide (1024 < n) = true := by rw [decide_eq_true_iff]; omega
    clear hn h1
    go_enter Try.func40, Try.ntmps40
    go_wp2
    refine bodyPost_ret (v := .tuple #[.agg (dA dig0), .int .i64 2]) ?_ rfl ⟨rfl, HF.out.1⟩
    rw [results_seg2 (P := Try.prog) (fn := Try.f40) (p := 4) (t := 5) (ty := 46) rfl _ _ ⟨w.heap.size, 0, none⟩ 32 _ (.int .i64 2) rfl rfl Try.underlying46 rfl sizeOf46 HF.out.2.1, HF.out.2.2]
set_option maxHeartbeats 800000 in
set_option maxRecDepth 20000 in
theorem ref_Of_at {p : Option Addr} (c : Nat) (h : LeavesAt w A l) (hl : l.length ≤ 1024) (j : Nat) (hj : j < l.length) (hlong : 65536 ≤ l[j].2.length) (hs : ∀ i (hi : i < j), l[i].2.length < 65536) :
    Calls Try.prog 40 #[.pointer p, .slice A l.length c] w fun e W => e = .returned (.tuple #[.agg (dA dig0), .int .i64 5]) ∧ Kept w W := by
  have hr1 : Blk (w.alloc (.cells (dA dig0) 46)) w.heap.size 46 (encB dig0.1) := Blk.new w _ _
  have hk1 : Kept w (w.alloc (.cells (dA dig0) 46)) := (Upd.refl _ w).alloc _
  generalize hW1 : w.alloc (.cells (dA dig0) 46) = w1 at *
  obtain ⟨hrb, hs1, hs2⟩ := dig_end dig0 hr1
  have HF : Hid (Kept w (w1.setRow w.heap.size (dA dig0)) ∧ segB (w1.setRow w.heap.size (dA dig0)) ⟨w.heap.size, 0, none⟩ 32 = true ∧ segV (w1.setRow w.heap.size (dA dig0)) ⟨w.heap.size, 0, none⟩ 32 = dA dig0) := ⟨Upd.setRow hk1 _ _ (fun h => absurd h (Nat.lt_irrefl _)), hs1, hs2⟩
  clear hs1 hs2
  have HX := Lib.hid (And.intro (h.kept hk1) (And.intro hl (And.intro hlong hs)))
  have hd1 : decide ((l.length : Int) < 1) = false := by rw [decide_eq_false_iff_not]; omega
  have hd1n : decide (l.length < 1) = false := by rw [decide_eq_false_iff_not]; omega
  have hd4 : decide ((1024 : Int) < (l.length : Int)) = false := by rw [decide_eq_false_iff_not]; omega
  have hd4n : decide (1024 < l.length) = false := by rw [decide_eq_false_iff_not]; omega
  clear hr1 hk1 h hl hlong hs
  go_enter Try.func40, Try.ntmps40
  go_wp2_with fail
  go_loopw [6] (fun u1 wr => ∃ k : Nat, k ≤ j ∧ u1 = .int .i64 k ∧ wr = w1) (fun u1 _ => 2000 - (intOf u1).toNat)
  case atStart => exact ⟨0, Nat.zero_le _, rfl, by trivial⟩
  case round =>
    obtain ⟨k, hk, rfl, hwr⟩ := hrel
    subst hwr
    have hkl : k < l.length := by omega
    have hk' : (k : Int) < (l.length : Int) := by omega
    have hk5 : (k : Int) < 1024 := by have := HX.out.2.1; omega
    obtain ⟨b, off, A2, c2, rfl, hc, _, _⟩ := HX.out.1.get hkl
    rcases Nat.lt_or_ge k j with hlt | hge
    · have hd : decide ((65536 : Int) ≤ (l[k].2.length : Int)) = false := decide_eq_false (by have := HX.out.2.2.2 k hlt; omega)
      have hdn : decide (65536 ≤ l[k].2.length) = false := decide_eq_false (by have := HX.out.2.2.2 k hlt; omega)
      have HK := Lib.hid (And.intro hlt hkl)
      generalize l[k].2 = R at *
      clear hlt hk hkl
      go_wp2_with fail
      go_roundw
      case rel => exact ⟨k + 1, by have := HK.out.1; omega, by show _ = _; go_num, by trivial⟩
      case measure => have := HK.out; have := HX.out.2.1; simp [intOf]; omega
    · obtain rfl : k = j := by omega
      have hd : decide ((65536 : Int) ≤ (l[k].2.length : Int)) = true := decide_eq_true (by have := HX.out.2.2.1; omega)
      have hdn : decide (65536 ≤ l[k].2.length) = true := decide_eq_true HX.out.2.2.1
      clear HX hk hge
      generalize l[k].2 = R at *
      go_wp2
      refine bodyPost_ret (v := .tuple #[.agg (dA dig0), .int .i64 5]) ?_ rfl ⟨rfl, HF.out.1⟩
      rw [results_seg2 (P := Try.prog) (fn := Try.f40) (p := 4) (t := 5) (ty := 46) rfl _ _ ⟨w.heap.size, 0, none⟩ 32 _ (.int .i64 5) rfl rfl Try.underlying46 rfl sizeOf46 HF.out.2.1, HF.out.2.2]
end
/-- the last level's only digest -/
theorem ownp_top {W : World} {B : Nat} {v : Value} {D : List Dig} (ho : OwnP W B v (levelsM shaM D)) (hD : D ≠ []) :
    ∃ m g c g2 c2, depthM D.length = m + 1 ∧ v = .slice (some ⟨g, 0, none⟩) (m + 1) c ∧ W.cell? ⟨g, m, none⟩ = some (.slice (some ⟨g2, 0, none⟩) 1 c2) ∧ segB W ⟨g2, 0, none⟩ 32 = true ∧ segV W ⟨g2, 0, none⟩ 32 = dA (rootM shaM D) := by
  obtain ⟨xs, ho, hxl, hxe⟩ := ho
  obtain ⟨m, hm, hml⟩ := levelsM_top hD
  have hlen : (levelsM shaM D).length = m + 1 := by rw [levelsM_depth _ rfl, hm]
  obtain ⟨hk1, he⟩ := List.getElem?_eq_some_iff.1 hml
  have hk2 : m < xs.length := by rw [hxl]; exact hk1
  obtain ⟨g, c, hv, hg1, hg2, s1, s2⟩ := OwnRows.get slA_size ho hk2
  have hod := hxe m hk2 hk1
  rw [he] at hod
  obtain ⟨g2, cap2, hx2, hb2, hlt2⟩ := World.ownsRow.form hod (by simp)
  have hcell : W.cell? ⟨g, m, none⟩ = some xs[m].v := by
    have hc := World.ownsRow.cells ho (g := g) (by rw [hv]; rfl) m xs[m].v (by
      have := rowsOf_get slA_size xs m 0 hk2 (by omega)
      rw [Nat.mul_one, Nat.add_zero] at this
      rw [this]; rfl)
    rwa [add_none, Nat.zero_add] at hc
  rw [hx2] at hod hcell
  obtain ⟨t1, t2⟩ := OwnD.seg hod (k := 0) (by simp)
  rw [Nat.zero_mul] at t1 t2
  exact ⟨m, g, c, g2, cap2, hm, by rw [hv, hxl, hlen], hcell, t1, t2⟩
set_option maxHeartbeats 1600000 in
set_option maxRecDepth 20000 in
theorem ref_Of {w : World} {B b : Nat} {v : Value} {n0 : Int} {xs0 : List SlC} {L : List Bytes} (h : RefBook w B b v n0 xs0 L) (hB : B ≤ w.heap.size) (hcnt : L.length ≤ 90000) {A : Option Addr} {l : List (SlC × Bytes)} (c : Nat) (hl : ∀ W v', RTo b v w v' W → LeavesAt W A l) (hs : ∀ p ∈ l, p.2.length < 65536) (h1 : 1 ≤ l.length) (h2 : l.length ≤ 1024) :
    Calls Try.prog 40 #[.pointer (some ⟨b, 0, none⟩), .slice A l.length c] w fun e W => e = .returned (.tuple #[.agg (dA (rootM shaM (leafD l))), .int .i64 0]) ∧ ∃ v' n' xs', RefBook W B b v' n' xs' (notesM (notesM L (leafI l)) (insM shaM (leafD l))) ∧ RTo b v w v' W := by
  have hr1 : Blk (w.alloc (.cells (dA dig0) 46)) w.heap.size 46 (encB dig0.1) := Blk.new w _ _
  have hk1 : Kept w (w.alloc (.cells (dA dig0) 46)) := (Upd.refl _ w).alloc _
  generalize hW1 : w.alloc (.cells (dA dig0) 46) = w1 at *
  have HG := ref_Levels (h.kept hk1) (Nat.le_trans hB hk1.size) hcnt c (fun W v' hW => hl W v' ((RTo.kept hk1).trans hW)) hs h1 h2
  have HX := Lib.hid (And.intro (h.kept hk1) (And.intro hr1 (And.intro hk1 (And.intro (hl _ _ (RTo.kept hk1)) (And.intro hs (And.intro h1 h2))))))
  have hd1 : decide ((l.length : Int) < 1) = false := by rw [decide_eq_false_iff_not]; omega
  have hd1n : decide (l.length < 1) = false := by rw [decide_eq_false_iff_not]; omega
  have hd4 : decide ((1024 : Int) < (l.length : Int)) = false := by rw [decide_eq_false_iff_not]; omega
  have hd4n : decide (1024 < l.length) = false := by rw [decide_eq_false_iff_not]; omega
  clear h hB hcnt hl hs h1 h2 hr1 hk1
  go_enter Try.func40, Try.ntmps40
  go_wp2_with fail
  clear hd1 hd1n hd4 hd4n
  go_loopw [6] (fun u1 wr => ∃ k : Nat, k ≤ l.length ∧ u1 = .int .i64 k ∧ wr = w1) (fun u1 _ => 2000 - (intOf u1).toNat)
  case atStart => exact ⟨0, Nat.zero_le _, rfl, by trivial⟩
  case round =>
    obtain ⟨k, hk, rfl, hwr⟩ := hrel
    subst hwr
    rcases Nat.lt_or_ge k l.length with hkl | hge
    · have hk' : (k : Int) < (l.length : Int) := by omega
      have hk5 : (k : Int) < 1024 := by have := HX.out.2.2.2.2.2.2; omega
      obtain ⟨b, off, A2, c2, rfl, hc, _, _⟩ := HX.out.2.2.2.1.get hkl
      have hd : decide ((65536 : Int) ≤ (l[k].2.length : Int)) = false := decide_eq_false (by have := HX.out.2.2.2.2.1 _ (List.getElem_mem hkl); omega)
      have hdn : decide (65536 ≤ l[k].2.length) = false := decide_eq_false (by have := HX.out.2.2.2.2.1 _ (List.getElem_mem hkl); omega)
      have HK := Lib.hid hkl
      generalize l[k].2 = R at *
      clear hk hkl
      go_wp2_with fail
      go_roundw
      case rel => exact ⟨k + 1, by have := HK.out; omega, by show _ = _; go_num, by trivial⟩
      case measure => have := HK.out; have := HX.out.2.2.2.2.2.2; simp [intOf]; omega
    · obtain rfl : k = l.length := by omega
      have hk' : ¬ ((l.length : Int) < (l.length : Int)) := by omega
      have hDn : leafD l ≠ [] := by intro h0; have h2 := leafD_length l; rw [h0] at h2; have := HX.out.2.2.2.2.2.1; simp at h2; omega
      have hDl : (leafD l).length ≤ 1024 := by rw [leafD_length]; exact HX.out.2.2.2.2.2.2
      have HDN := Lib.hid (And.intro hDn hDl)
      clear hk hge hDn hDl
      go_wp2_with fail
      refine HG.mono ?_
      clear HG
      rintro e w5 ⟨v5, rfl, hown, v6, n6, xs6, hb5, ht5⟩
      obtain ⟨m, g, cc, g2, c2, hm, rfl, hcell, s1, s2⟩ := ownp_top hown HDN.out.1
      have hmb : (m : Int) ≤ 1024 := by have := depthM_le _ (leafD l) rfl; have := HDN.out.2; omega
      have hwm : IntKind.i64.wrap (m : Int) = m := by rw [IntKind.wrap_i64]; omega
      have hmi : (m : Int) < (m : Int) + 1 := by omega
      have hr5 := HX.out.2.1.upd ht5.1 (HX.out.1.far HX.out.2.1 (by decide) (by decide))
      obtain ⟨X, hX⟩ : ∃ X, X = rootM shaM (leafD l) := ⟨_, rfl⟩
      rw [← hX] at s2
      obtain ⟨hrb, hs1, hs2⟩ := dig_end X hr5
      have HF : Hid (∃ v' n' xs', RefBook (w5.setRow w.heap.size (dA X)) B b v' n' xs' (notesM (notesM L (leafI l)) (insM shaM (leafD l))) ∧ RTo b v w v' (w5.setRow w.heap.size (dA X))) :=
        ⟨_, _, _, hb5.turn hr5 (by decide) (by decide) (by decide) ((Upd.refl _ _).setRow _ _ fun _ => rfl), ((RTo.kept HX.out.2.2.1).trans ht5).setRow _ (Nat.le_refl _) _ hr5 (by decide)⟩
      have HGG := Lib.hid (And.intro hs1 hs2)
      have HXX := Lib.hid hX
      clear hs1 hs2 hr5 hb5 ht5 hown hm hX HX HDN
      go_wp2
      refine bodyPost_ret (v := .tuple #[.agg (dA X), .int .i64 0]) ?_ rfl (by rw [HXX.out]; exact ⟨rfl, by rw [← HXX.out]; exact HF.out⟩)
      rw [results_seg2 (P := Try.prog) (fn := Try.f40) (p := 4) (t := 5) (ty := 46) rfl _ _ ⟨w.heap.size, 0, none⟩ 32 _ (.int .i64 0) rfl rfl Try.underlying46 rfl sizeOf46 HGG.out.1, HGG.out.2]
set_option maxRecDepth 20000 in
theorem ref_Len {w : World} {B b : Nat} {v : Value} {n0 : Int} {xs0 : List SlC} {L : List Bytes} (h : RefBook w B b v n0 xs0 L) :
    Calls Try.prog 38 #[.pointer (some ⟨b, 0, none⟩)] w fun e W => e = .returned (.int .i64 L.length) ∧ w = W := by
  have hc := h.c0
  obtain ⟨A0, c0, hv0⟩ := OwnRows.form h.row
  rw [hv0, h.len] at hc
  clear h hv0
  go_enter Try.func38, Try.ntmps38
  go_wp2
  go_ret
  exact ⟨rfl, rfl⟩
end Go.Proofs.Ytnncpjekcljfbaa
/- Both books, a list of leaves of the statement's own, and digests in variables. -/
namespace Go.Proofs.Ytnncpjekcljfbaa
open Go.RowKit

def LongIn (Rs : List Bytes) : Prop := ∃ R ∈ Rs, 65536 ≤ R.length
instance (Rs : List Bytes) : Decidable (LongIn Rs) := inferInstanceAs (Decidable (∃ R ∈ Rs, 65536 ≤ R.length))
def ofD (Rs : List Bytes) : Dig := if 1 ≤ Rs.length ∧ Rs.length ≤ 1024 ∧ ¬ LongIn Rs then rootM shaM (Rs.map (leafM shaM)) else dig0
def ofE (Rs : List Bytes) : Int := if 1 ≤ Rs.length ∧ Rs.length ≤ 1024 then (if LongIn Rs then 5 else 0) else 2
def ofN (L Rs : List Bytes) : List Bytes := if 1 ≤ Rs.length ∧ Rs.length ≤ 1024 ∧ ¬ LongIn Rs then notesM (notesM L (Rs.map leafIn)) (insM shaM (Rs.map (leafM shaM))) else L
def upD (D : List Dig) : Dig := if 1 ≤ D.length ∧ D.length ≤ 4 then upM shaM D else dig0
def upE (D : List Dig) : Int := if 1 ≤ D.length ∧ D.length ≤ 4 then 0 else 2
def upN (L : List Bytes) (D : List Dig) : List Bytes := if 1 ≤ D.length ∧ D.length ≤ 4 then noteM L (upIn D) else L
def lfD (R : Bytes) : Dig := if R.length < 65536 then leafM shaM R else dig0
def lfE (R : Bytes) : Int := if R.length < 65536 then 0 else 5
def lfN (L : List Bytes) (R : Bytes) : List Bytes := if R.length < 65536 then noteM L (leafIn R) else L
theorem leafD_map (l : List (SlC × Bytes)) : leafD l = (l.map (·.2)).map (leafM shaM) := by simp [leafD]
theorem leafI_map (l : List (SlC × Bytes)) : leafI l = (l.map (·.2)).map leafIn := by simp [leafI]
theorem insM_length : ∀ (n : Nat) (D : List Dig), D.length = n → (insM shaM D).length ≤ D.length := by
  intro n
  induction n using Nat.strongRecOn with
  | _ n ih =>
    intro D hD
    by_cases h : 1 < D.length
    · rw [insM_more h, List.length_append, List.length_map, List.length_range]
      have h1 : (aboveM shaM D).length = up4 D.length := aboveM_length D
      have h2 := ih _ (by rw [h1, ← hD]; exact up4_lt h) (aboveM shaM D) rfl
      rw [h1] at h2
      unfold up4 at h2 ⊢
      omega
    · rw [insM_one (by omega)]; simp
theorem ofN_length (L Rs : List Bytes) : (ofN L Rs).length ≤ L.length + 2048 := by
  unfold ofN
  split
  · rename_i h
    have h1 := notesM_length (notesM L (Rs.map leafIn)) (insM shaM (Rs.map (leafM shaM)))
    have h2 := notesM_length L (Rs.map leafIn)
    have h3 := insM_length _ (Rs.map (leafM shaM)) rfl
    rw [List.length_map] at h2 h3
    omega
  · omega
theorem upN_length (L : List Bytes) (D : List Dig) : (upN L D).length ≤ L.length + 1 := by unfold upN; split; exact noteM_length; omega
theorem lfN_length (L : List Bytes) (R : Bytes) : (lfN L R).length ≤ L.length + 1 := by unfold lfN; split; exact noteM_length; omega

section
variable {w : World} {A : Option Addr} {l : List (SlC × Bytes)}
theorem long_of (h : LongIn (l.map (·.2))) : ∃ p ∈ l, 65536 ≤ p.2.length := by
  obtain ⟨R, hR, hl⟩ := h
  obtain ⟨p, hp, rfl⟩ := List.mem_map.1 hR
  exact ⟨p, hp, hl⟩
theorem short_of (h : ¬ LongIn (l.map (·.2))) : ∀ p ∈ l, p.2.length < 65536 := fun p hp => by
  rcases Nat.lt_or_ge p.2.length 65536 with h1 | h1
  · exact h1
  · exact absurd ⟨p.2, List.mem_map.2 ⟨p, hp, rfl⟩, h1⟩ h
theorem tree_Of_Z {b r q : Nat} {L : List Bytes} (h : BookL w b r q L) (c : Nat) (hLv : ∀ W, Upd (Book3 b r q) w W → LeavesAt W A l) :
    Calls Try.prog 39 #[.pointer (some ⟨b, 0, none⟩), .slice A l.length c] w fun e W => e = .returned (.tuple #[.agg (dA (ofD (l.map (·.2)))), .int .i64 (ofE (l.map (·.2)))]) ∧ BookL W b r q (ofN L (l.map (·.2))) ∧ Upd (Book3 b r q) w W := by
  unfold ofD ofE ofN
  rw [List.length_map]
  by_cases h1 : 1 ≤ l.length ∧ l.length ≤ 1024
  · rw [if_pos h1]
    by_cases h2 : LongIn (l.map (·.2))
    · obtain ⟨j, hj, h3, h4⟩ := first_long (long_of h2)
      rw [if_pos h2, if_neg (fun h => h.2.2 h2), if_neg (fun h => h.2.2 h2)]
      exact (tree_Of_at c (hLv w (Upd.refl _ _)) h1.2 j hj h3 h4).mono fun e W ⟨he, hu⟩ => ⟨he, h.kept hu, hu.to⟩
    · rw [if_neg h2, if_pos ⟨h1.1, h1.2, h2⟩, if_pos ⟨h1.1, h1.2, h2⟩, ← leafD_map, ← leafI_map]
      exact tree_Of h c hLv h1.1 h1.2 (short_of h2)
  · rw [if_neg h1, if_neg (fun h => h1 ⟨h.1, h.2.1⟩), if_neg (fun h => h1 ⟨h.1, h.2.1⟩)]
    exact (tree_Of_bad c (by omega)).mono fun e W ⟨he, hu⟩ => ⟨he, h.kept hu, hu.to⟩
theorem ref_Of_Z {B b : Nat} {v : Value} {n0 : Int} {xs0 : List SlC} {L : List Bytes} (h : RefBook w B b v n0 xs0 L) (hB : B ≤ w.heap.size) (hcnt : L.length ≤ 90000) (c : Nat) (hl : ∀ W v', RTo b v w v' W → LeavesAt W A l) :
    Calls Try.prog 40 #[.pointer (some ⟨b, 0, none⟩), .slice A l.length c] w fun e W => e = .returned (.tuple #[.agg (dA (ofD (l.map (·.2)))), .int .i64 (ofE (l.map (·.2)))]) ∧ ∃ v' n' xs', RefBook W B b v' n' xs' (ofN L (l.map (·.2))) ∧ RTo b v w v' W := by
  unfold ofD ofE ofN
  rw [List.length_map]
  by_cases h1 : 1 ≤ l.length ∧ l.length ≤ 1024
  · rw [if_pos h1]
    by_cases h2 : LongIn (l.map (·.2))
    · obtain ⟨j, hj, h3, h4⟩ := first_long (long_of h2)
      rw [if_pos h2, if_neg (fun h => h.2.2 h2), if_neg (fun h => h.2.2 h2)]
      exact (ref_Of_at c (hl w v (RTo.kept (Upd.refl _ _))) h1.2 j hj h3 h4).mono fun e W ⟨he, hu⟩ => ⟨he, _, _, _, h.kept hu, RTo.kept hu⟩
    · rw [if_neg h2, if_pos ⟨h1.1, h1.2, h2⟩, if_pos ⟨h1.1, h1.2, h2⟩, ← leafD_map, ← leafI_map]
      exact ref_Of h hB hcnt c hl (short_of h2) h1.1 h1.2
  · rw [if_neg h1, if_neg (fun h => h1 ⟨h.1, h.2.1⟩), if_neg (fun h => h1 ⟨h.1, h.2.1⟩)]
    exact (ref_Of_bad c (by omega)).mono fun e W ⟨he, hu⟩ => ⟨he, _, _, _, h.kept hu, RTo.kept hu⟩
theorem tree_Up_Z {b r q : Nat} {L : List Bytes} (h : BookL w b r q L) {D : List Dig} (c : Nat) (hD : Digs w A D) :
    Calls Try.prog 41 #[.pointer (some ⟨b, 0, none⟩), .slice A D.length c] w fun e W => e = .returned (.tuple #[.agg (dA (upD D)), .int .i64 (upE D)]) ∧ BookL W b r q (upN L D) ∧ Upd (Book3 b r q) w W := by
  unfold upD upE upN
  by_cases h1 : 1 ≤ D.length ∧ D.length ≤ 4
  · rw [if_pos h1, if_pos h1, if_pos h1]
    exact tree_Up h c hD h1.1 h1.2
  · rw [if_neg h1, if_neg h1, if_neg h1]
    exact (tree_Up_no c (by omega)).mono fun e W ⟨he, hu⟩ => ⟨he, h.kept hu, hu.to⟩
theorem ref_Up_Z {B b : Nat} {v : Value} {n0 : Int} {xs0 : List SlC} {L : List Bytes} (h : RefBook w B b v n0 xs0 L) (hB : B ≤ w.heap.size) (hcnt : L.length ≤ 100000) {D : List Dig} (c : Nat) (hD : Digs w A D) :
    Calls Try.prog 42 #[.pointer (some ⟨b, 0, none⟩), .slice A D.length c] w fun e W => e = .returned (.tuple #[.agg (dA (upD D)), .int .i64 (upE D)]) ∧ ∃ v' n' xs', RefBook W B b v' n' xs' (upN L D) ∧ RTo b v w v' W := by
  unfold upD upE upN
  by_cases h1 : 1 ≤ D.length ∧ D.length ≤ 4
  · rw [if_pos h1, if_pos h1, if_pos h1]
    exact ref_Up h hB c hD h1.1 h1.2 hcnt
  · rw [if_neg h1, if_neg h1, if_neg h1]
    exact (ref_Up_no c (by omega)).mono fun e W ⟨he, hu⟩ => ⟨he, _, _, _, h.kept hu, RTo.kept hu⟩
theorem tree_Leaf_Z {b r q : Nat} {L : List Bytes} (h : BookL w b r q L) {R : Bytes} (c : Nat) (hR : Byt w A R) :
    Calls Try.prog 43 #[.pointer (some ⟨b, 0, none⟩), .slice A R.length c] w fun e W => e = .returned (.tuple #[.agg (dA (lfD R)), .int .i64 (lfE R)]) ∧ BookL W b r q (lfN L R) ∧ Upd (Book3 b r q) w W := by
  unfold lfD lfE lfN
  by_cases h1 : R.length < 65536
  · rw [if_pos h1, if_pos h1, if_pos h1]
    exact tree_Leaf h c hR h1
  · rw [if_neg h1, if_neg h1, if_neg h1]
    exact (tree_Leaf_long c (by omega)).mono fun e W ⟨he, hu⟩ => ⟨he, h.kept hu, hu.to⟩
theorem ref_Leaf_Z {B b : Nat} {v : Value} {n0 : Int} {xs0 : List SlC} {L : List Bytes} (h : RefBook w B b v n0 xs0 L) (hB : B ≤ w.heap.size) (hcnt : L.length ≤ 100000) {R : Bytes} (c : Nat) (hR : Byt w A R) :
    Calls Try.prog 44 #[.pointer (some ⟨b, 0, none⟩), .slice A R.length c] w fun e W => e = .returned (.tuple #[.agg (dA (lfD R)), .int .i64 (lfE R)]) ∧ ∃ v' n' xs', RefBook W B b v' n' xs' (lfN L R) ∧ RTo b v w v' W := by
  unfold lfD lfE lfN
  by_cases h1 : R.length < 65536
  · rw [if_pos h1, if_pos h1, if_pos h1]
    exact ref_Leaf h hB c hR h1 hcnt
  · rw [if_neg h1, if_neg h1, if_neg h1]
    exact (ref_Leaf_long c (by omega)).mono fun e W ⟨he, hu⟩ => ⟨he, _, _, _, h.kept hu, RTo.kept hu⟩
end

/-- both books, an own list of leaves, digests in variables -/
structure OfS (w W : World) (b r q : Nat) (L : List Bytes) (c : Nat) (M : List Bytes) (vi : Value) (li : List (SlC × Bytes)) (G : List (Nat × Dig)) : Prop where
  ink : Ink0 w W b r q L
  ref : ∃ B v n xs, RefBook W B c v n xs M ∧ w.heap.size ≤ B ∧ B ≤ c ∧ ∀ k, vi.ownBlock = some k → v.ownBlock ≠ some k
  own : OwnLv W w.heap.size vi li
  dig : ∀ p ∈ G, Blk W p.1 46 (encB p.2.1)
section
variable {w W W' : World} {b r q c : Nat} {L L' M M' : List Bytes} {vi : Value} {li : List (SlC × Bytes)} {G : List (Nat × Dig)}
theorem OfS.kept (h : OfS w W b r q L c M vi li G) (hu : Kept W W') : OfS w W' b r q L c M vi li G := by
  obtain ⟨h1, ⟨B, v, n, xs, h2, h3⟩, h4, h5⟩ := h
  exact ⟨h1.kept hu, ⟨B, v, n, xs, h2.kept hu, h3⟩, h4.kept hu, fun p hp => (h5 p hp).kept hu⟩
theorem OfS.to (h : OfS w W b r q L c M vi li G) (hb : BookL W' b r q L') (hu : Upd (Book3 b r q) W W') : OfS w W' b r q L' c M vi li G := by
  obtain ⟨h1, ⟨B, v, n, xs, h2, h3⟩, h4, h5⟩ := h
  exact ⟨h1.to hb hu, ⟨B, v, n, xs, h2.book h1.book hu, h3⟩, h4.book h1.book hu, fun p hp => (h5 p hp).upd hu (h1.book.not (h5 p hp) (by decide))⟩
theorem OfS.of (h : OfS w W b r q L c M vi li G) : ∃ B v n xs, RefBook W B c v n xs M ∧ B ≤ W.heap.size ∧ (∀ W' v', RTo c v W v' W' → Kept w W') ∧ ∀ W' v' n' xs' M', RefBook W' B c v' n' xs' M' → RTo c v W v' W' → OfS w W' b r q L c M' vi li G := by
  obtain ⟨h1, ⟨B, v, n, xs, h2, h3, h4, h5⟩, h6, h7⟩ := h
  have hfar : ∀ k, (k = c ∨ v.ownBlock = some k) → w.heap.size ≤ k := fun k e => by
    rcases e with rfl | e
    · omega
    · have := (World.ownsRow.lt h2.row k e).1; omega
  refine ⟨B, v, n, xs, h2, by have := h2.lt; omega, fun W' v' ht => h1.upd.then ht.1 (fun k hk e => by have := hfar k e; omega), fun W' v' n' xs' M' hr ht => ⟨?_, ⟨B, v', n', xs', hr, h3, h4, fun k e e2 => ?_⟩, ?_, fun p hp => (h7 p hp).upd ht.1 (h2.far (h7 p hp) (by decide) (by decide))⟩⟩
  · exact h1.step (h1.book.ref h2 ht.1) ht.1 fun k e => .inr (hfar k e)
  · rcases ht.2.1 with e3 | ⟨k', e3, hk'⟩
    · rw [e3] at e2; exact h5 k e e2
    · rw [e3] at e2
      have := Option.some.inj e2
      have := (World.ownsRow.lt h6.1 k e).2
      omega
  · refine ⟨OwnRows.upd h6.1 ht.1 (fun k e e2 => ?_), fun p hp => ⟨(h6.2 p hp).1.upd ht.1 (fun k e => ?_), (h6.2 p hp).2⟩⟩
    · obtain ⟨cur, hc⟩ := own_cells h6.1 e
      rcases e2 with rfl | e2
      · rw [h2.blk] at hc
        simp only [Option.some.injEq, Obj.cells.injEq] at hc
        exact absurd hc.2.1 (by decide)
      · exact h5 k e e2
    · obtain ⟨cur, hc⟩ := (h6.2 p hp).1.block e
      exact h2.far hc (by decide) (by decide)
theorem OfS.var (h : OfS w W b r q L c M vi li G) (d : Dig) : OfS w (W.alloc (.cells (dA d) 46)) b r q L c M vi li ((W.heap.size, d) :: G) := by
  have h2 := h.kept ((Upd.refl (fun _ => False) W).alloc (.cells (dA d) 46))
  refine ⟨h2.ink, h2.ref, h2.own, fun p hp => ?_⟩
  rcases List.mem_cons.1 hp with rfl | hp
  · exact Blk.new W _ _
  · exact h2.dig p hp
theorem OfS.drop (h : OfS w W b r q L c M vi li G) {G' : List (Nat × Dig)} (hs : ∀ p ∈ G', p ∈ G) : OfS w W b r q L c M vi li G' := ⟨h.ink, h.ref, h.own, fun p hp => h.dig p (hs p hp)⟩
theorem OfS.at (h : OfS w W b r q L c M vi li G) {g : Nat} {d : Dig} (hp : (g, d) ∈ G) : segB W ⟨g, 0, none⟩ 32 = true ∧ segV W ⟨g, 0, none⟩ 32 = dA d := dig_at (h.dig _ hp)
theorem OfS.leaves {A : Option Addr} {n k : Nat} (h : OfS w W b r q L c M (.slice A n k) li G) : LeavesAt W A li := h.own.leaves

theorem ofs_Of {A : Option Addr} {n : Nat} {k : Nat} (h : OfS w W b r q L c M (.slice A n k) li G) (hn : n = li.length) :
    Calls Try.prog 39 #[.pointer (some ⟨b, 0, none⟩), .slice A n k] W fun e W' => e = .returned (.tuple #[.agg (dA (ofD (li.map (·.2)))), .int .i64 (ofE (li.map (·.2)))]) ∧ OfS w W' b r q (ofN L (li.map (·.2))) c M (.slice A n k) li G := by
  have := tree_Of_Z h.ink.book k (A := A) (l := li) (fun W' hu => (h.own.book h.ink.book hu).leaves)
  rw [← hn] at this
  exact this.mono fun e W' ⟨he, hb, hu⟩ => ⟨he, h.to hb hu⟩
theorem ofs_RefOf (h : OfS w W b r q L c M vi li G) (hM : M.length ≤ 90000) {A : Option Addr} {l : List (SlC × Bytes)} (k : Nat) (hl : LeavesAt w A l) :
    Calls Try.prog 40 #[.pointer (some ⟨c, 0, none⟩), .slice A l.length k] W fun e W' => e = .returned (.tuple #[.agg (dA (ofD (l.map (·.2)))), .int .i64 (ofE (l.map (·.2)))]) ∧ OfS w W' b r q L c (ofN M (l.map (·.2))) vi li G := by
  obtain ⟨B, v, n, xs, hr, hB, hk, hto⟩ := h.of
  exact (ref_Of_Z hr hB hM k (fun W' v' ht => hl.kept (hk W' v' ht))).mono fun e W' ⟨he, v', n', xs', h1, h2⟩ => ⟨he, hto _ _ _ _ _ h1 h2⟩
theorem ofs_Up (h : OfS w W b r q L c M vi li G) {A : Option Addr} {D : List Dig} (k : Nat) (hD : Digs w A D) :
    Calls Try.prog 41 #[.pointer (some ⟨b, 0, none⟩), .slice A D.length k] W fun e W' => e = .returned (.tuple #[.agg (dA (upD D)), .int .i64 (upE D)]) ∧ OfS w W' b r q (upN L D) c M vi li G :=
  (tree_Up_Z h.ink.book k (hD.kept h.ink.upd)).mono fun _ _ ⟨he, hb, hu⟩ => ⟨he, h.to hb hu⟩
theorem ofs_RefUp (h : OfS w W b r q L c M vi li G) (hM : M.length ≤ 100000) {A : Option Addr} {D : List Dig} (k : Nat) (hD : Digs w A D) :
    Calls Try.prog 42 #[.pointer (some ⟨c, 0, none⟩), .slice A D.length k] W fun e W' => e = .returned (.tuple #[.agg (dA (upD D)), .int .i64 (upE D)]) ∧ OfS w W' b r q L c (upN M D) vi li G := by
  obtain ⟨B, v, n, xs, hr, hB, hk, hto⟩ := h.of
  exact (ref_Up_Z hr hB hM k (hD.kept h.ink.upd)).mono fun e W' ⟨he, v', n', xs', h1, h2⟩ => ⟨he, hto _ _ _ _ _ h1 h2⟩
theorem ofs_Leaf (h : OfS w W b r q L c M vi li G) {A : Option Addr} {R : Bytes} (k : Nat) (hR : Byt W A R) :
    Calls Try.prog 43 #[.pointer (some ⟨b, 0, none⟩), .slice A R.length k] W fun e W' => e = .returned (.tuple #[.agg (dA (lfD R)), .int .i64 (lfE R)]) ∧ OfS w W' b r q (lfN L R) c M vi li G :=
  (tree_Leaf_Z h.ink.book k hR).mono fun _ _ ⟨he, hb, hu⟩ => ⟨he, h.to hb hu⟩
theorem ofs_RefLeaf (h : OfS w W b r q L c M vi li G) (hM : M.length ≤ 100000) {A : Option Addr} {R : Bytes} (k : Nat) (hR : Byt W A R) :
    Calls Try.prog 44 #[.pointer (some ⟨c, 0, none⟩), .slice A R.length k] W fun e W' => e = .returned (.tuple #[.agg (dA (lfD R)), .int .i64 (lfE R)]) ∧ OfS w W' b r q L c (lfN M R) vi li G := by
  obtain ⟨B, v, n, xs, hr, hB, hk, hto⟩ := h.of
  exact (ref_Leaf_Z hr hB hM k hR).mono fun e W' ⟨he, v', n', xs', h1, h2⟩ => ⟨he, hto _ _ _ _ _ h1 h2⟩
theorem ofs_Len (h : OfS w W b r q L c M vi li G) (hL : L.length ≤ 100000) :
    Calls Try.prog 37 #[.pointer (some ⟨b, 0, none⟩)] W fun e W' => e = .returned (.int .i64 L.length) ∧ OfS w W' b r q L c M vi li G := by
  obtain ⟨I, N, n, hb⟩ := h.ink.book
  refine (ink_Len hb).mono fun e W' ⟨he, hu⟩ => ⟨?_, h.kept hu⟩
  rw [he, show IntKind.i64.wrap (L.length : Int) = (L.length : Int) by rw [IntKind.wrap_i64]; omega]
theorem ofs_RefLen (h : OfS w W b r q L c M vi li G) :
    Calls Try.prog 38 #[.pointer (some ⟨c, 0, none⟩)] W fun e W' => e = .returned (.int .i64 M.length) ∧ OfS w W' b r q L c M vi li G := by
  obtain ⟨B, v, n, xs, hr, -⟩ := h.of
  exact (ref_Len hr).mono fun e W' ⟨he, hu⟩ => ⟨he, hu ▸ h⟩
end
end Go.Proofs.Ytnncpjekcljfbaa
