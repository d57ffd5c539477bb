/- tree: levels. -/
import Derived.Test.YtjimamgghkgdeaaTreeC
namespace Go.Proofs.Ytjimamgghkgdeaa
open Go.RowKit

/-- a slice as one cell -/
structure SlC where
  A : Option Addr
  n : Nat
  c : Nat
def SlC.v (x : SlC) : Value := .slice x.A x.n x.c
def slA (x : SlC) : Array Value := #[.slice x.A x.n x.c]
@[simp, go_sem] theorem slA_size (x : SlC) : (slA x).size = 1 := by simp [slA]
@[simp, go_sem] theorem slA_one (x : SlC) : oneB (slA x) = true := by unfold slA oneB; exact (by rfl : _ = _)
theorem ds_info : (Try.prog.info? 35).map (fun i => (i.size, i.bytes, i.zero)) = some (1, 24, some (.slice none 0 0)) := by kernel_rfl
theorem sl_rows : RowType Try.prog slA 1 87 35 24 where
  size := slA_size
  one := slA_one
  slice := Try.underlying87
  info := ⟨.slice none 0 0, ds_info, by simp [Value.cells]⟩
  pos := by omega
@[go_sem ↓] theorem exec_one_sl (ρ : Operand → Value) (dst : Option Tmp) (parts : Array (Nat × Operand)) (ty : TypeId) (pos : String) (after : Array Edge) (guard : Option (Nat × Bool)) :
    execOp ρ ⟨dst, .buildSlice 87 1 parts, ty, pos, after, guard⟩ = sliceRow 87 1 (parts.map fun (i, x) => (i, ρ x)) := rfl
@[go_sem] theorem run_one_sl (A : Option Addr) (n c : Nat) (W : World) : (sliceRow 87 1 #[(0, .slice A n c)]).run Try.prog W = .ok (.value (.slice (some ⟨W.heap.size, 0, none⟩) 1 1)) (W.alloc (.cells (slA ⟨A, n, c⟩) 35)) := by
  obtain ⟨i, hi, h2⟩ := Option.map_eq_some_iff.1 ds_info
  simp only [Prod.mk.injEq] at h2
  have h := run_buildSlice (P := Try.prog) W 87 35 1 #[(0, .slice A n c)] (slA ⟨A, n, c⟩) i (.slice none 0 0) Try.underlying87 hi h2.2.2 (by rw [h2.1]; omega) (by rw [h2.1]; decide) (by
    rw [h2.1]
    have h0 : Array.range (1 * 1) = #[0] := by decide
    rw [h0]
    simp [Instr.fill, Value.cells, slA])
  simp [sliceRow, h, Result.andThen]

/-- levels in rows of the call's own, each in one of its own -/
structure Lev (W : World) (B : Nat) (xs : List SlC) (ls : List (List Dig)) : Prop where
  len : xs.length = ls.length
  row : ∀ i (h : i < xs.length) (h' : i < ls.length), OwnD W B xs[i].v ls[i] ∧ ls[i] ≠ []
  apart : ∀ i j (hi : i < xs.length) (hj : j < xs.length), i ≠ j → xs[i].v.ownBlock ≠ xs[j].v.ownBlock
section
variable {W W' : World} {B : Nat} {xs : List SlC} {ls : List (List Dig)} {S : Nat → Prop}
theorem Lev.upd (h : Lev W B xs ls) (hu : Upd S W W') (hs : ∀ i (hi : i < xs.length) k, xs[i].v.ownBlock = some k → ¬ S k) : Lev W' B xs ls :=
  ⟨h.len, fun i hi hi' => ⟨OwnRows.upd (h.row i hi hi').1 hu (hs i hi), (h.row i hi hi').2⟩, h.apart⟩
theorem Lev.one {x : SlC} {l : List Dig} (h : OwnD W B x.v l) (hl : l ≠ []) : Lev W B [x] [l] :=
  ⟨rfl, fun i hi hi' => by obtain rfl : i = 0 := by simpa using hi
                           exact ⟨h, hl⟩, fun i j hi hj hne => by simp at hi hj; omega⟩
theorem Lev.snoc {x : SlC} {l : List Dig} (h : Lev W B xs ls) (hx : OwnD W B x.v l) (hl : l ≠ []) (hne : ∀ i (hi : i < xs.length), xs[i].v.ownBlock ≠ x.v.ownBlock) : Lev W B (xs ++ [x]) (ls ++ [l]) := by
  refine ⟨by simp [h.len], fun i hi hi' => ?_, fun i j hi hj hij => ?_⟩
  · by_cases hi2 : i < xs.length
    · rw [List.getElem_append_left hi2, List.getElem_append_left (by rw [← h.len]; exact hi2)]
      exact h.row i hi2 _
    · have hi3 : i = xs.length := by simp at hi; omega
      subst hi3
      have e1 : (xs ++ [x])[xs.length] = x := by simp
      have e2 : (ls ++ [l])[xs.length]'hi' = l := by simp [h.len]
      rw [e1, e2]
      exact ⟨hx, hl⟩
  · by_cases hi2 : i < xs.length
    · rw [List.getElem_append_left hi2]
      by_cases hj2 : j < xs.length
      · rw [List.getElem_append_left hj2]
        exact h.apart i j hi2 hj2 hij
      · have hj3 : j = xs.length := by simp at hj; omega
        subst hj3
        have e1 : (xs ++ [x])[xs.length] = x := by simp
        rw [e1]
        exact hne i hi2
    · have hi3 : i = xs.length := by simp at hi; omega
      subst hi3
      have e1 : (xs ++ [x])[xs.length] = x := by simp
      have hj2 : j < xs.length := by simp at hj; omega
      rw [e1, List.getElem_append_left hj2]
      exact fun e => hne j hj2 e.symm
theorem Lev.far (h : Lev W B xs ls) : ∀ i (hi : i < xs.length) k, xs[i].v.ownBlock = some k → B ≤ k ∧ k < W.heap.size := fun i hi k e => World.ownsRow.lt (h.row i hi (by rw [← h.len]; exact hi)).1 k e
end

theorem own_cells {α : Type} {f : α → Array Value} {n t B : Nat} {W : World} {v : Value} {l : List α} (h : OwnRows f n W B t v l) {k : Nat} (hk : v.ownBlock = some k) : ∃ cur, W.heap[k]? = some (.cells cur t (0, 0)) := by
  rcases h.2 with ⟨rfl, _⟩ | ⟨g, cap, cur, rfl, hb, hg, _⟩
  · cases hk
  · cases hk; exact ⟨cur, hg⟩
theorem own_base {α : Type} {f : α → Array Value} {n t B B' : Nat} {W : World} {v : Value} {l : List α} (h : OwnRows f n W B' t v l) (hb : B ≤ B') : OwnRows f n W B t v l :=
  ⟨h.1, h.2.imp id fun ⟨g, cap, cur, hv, hb2, hr⟩ => ⟨g, cap, cur, hv, Nat.le_trans hb hb2, hr⟩⟩
theorem Lev.last {W : World} {B : Nat} {xs : List SlC} {ls : List (List Dig)} {x : SlC} {l : List Dig} (h : Lev W B (xs ++ [x]) (ls ++ [l])) : OwnD W B x.v l ∧ l ≠ [] := by
  have hl : xs.length = ls.length := by simpa using h.len
  have := h.row xs.length (by simp) (by simp [hl])
  have e1 : (xs ++ [x])[xs.length] = x := by simp
  have e2 : (ls ++ [l])[xs.length]'(by simp [hl]) = l := by simp [hl]
  rwa [e1, e2] at this

set_option maxHeartbeats 2000000 in
set_option maxRecDepth 20000 in
theorem tree_levels {w : World} {b r q B : Nat} {L : List Bytes} (h : BookL w b r q L) {x0 : SlC} {D : List Dig} (hx : OwnD w B x0.v D) (hD : D ≠ []) (hl : D.length ≤ 1024) (hB : B ≤ w.heap.size) (hBb : ∀ k, Book3 b r q k → k < B) :
    Calls Try.prog 44 #[.pointer (some ⟨b, 0, none⟩), .slice x0.A x0.n x0.c] w fun e W => ∃ v xs, e = .returned v ∧ OwnRows slA 1 W w.heap.size 35 v xs ∧ Lev W B xs (levelsM shaM D) ∧ BookL W b r q (notesM L (insM shaM D)) ∧ Upd (Book3 b r q) w W := by
  have hb1 := h.kept ((Upd.refl (fun _ => False) w).alloc (.cells (slA x0) 35))
  have hx1 : OwnD (w.alloc (.cells (slA x0) 35)) B x0.v D := OwnRows.alloc hx _
  have hu1 : Upd (Book3 b r q) w (w.alloc (.cells (slA x0) 35)) := (Upd.refl _ w).alloc _
  have ho1 : OwnRows slA 1 (w.alloc (.cells (slA x0) 35)) w.heap.size 35 (.slice (some ⟨w.heap.size, 0, none⟩) 1 1) [x0] :=
    ⟨by simp [rowsOf, slA], .inr ⟨w.heap.size, 1, slA x0, rfl, Nat.le_refl _, heap_alloc_new w _, Nat.le_refl _, by unfold maxLen; omega, by simp, by simp [rowsOf, slA]⟩⟩
  have HX := Lib.hid (And.intro hb1 (And.intro hx1 (And.intro hu1 (And.intro ho1 (And.intro hD (And.intro hl (And.intro hB hBb)))))))
  clear h hb1 hx hx1 hu1 ho1 hD hl hB hBb
  generalize hW1 : w.alloc (.cells (slA x0) 35) = w1 at *
  go_enter Try.func44, Try.ntmps44
  go_wp2_with fail
  go_loopw [1, 5] (fun u v wr => ∃ (xs : List SlC) (x : SlC) (ls : List (List Dig)) (cur : List Dig) (N : List Bytes), u = .slice x.A x.n x.c ∧ OwnRows slA 1 wr w.heap.size 35 v (xs ++ [x]) ∧ Lev wr B (xs ++ [x]) (ls ++ [cur]) ∧ levelsM shaM D = ls ++ levelsM shaM cur ∧ insM shaM D = N ++ insM shaM cur ∧
      BookL wr b r q (notesM L N) ∧ Upd (Book3 b r q) w wr ∧ cur.length ≤ 1024 ∧ cur ≠ [] ∧ ls.length + cur.length ≤ 1024) (fun u _ _ => match u with | .slice _ n _ => n | _ => 0)
  case atStart =>
    obtain ⟨hb1, hx1, hu1, ho1, hD, hl, _⟩ := HX.out
    exact ⟨[], x0, [], D, [], rfl, ho1, Lev.one hx1 hD, rfl, rfl, hb1, hu1, hl, hD, by simpa using hl⟩
  case round =>
    obtain ⟨xs, x, ls, cur, N, rfl, ho, hlev, hls, hins, hb, hu, hcl, hcn, hlc⟩ := hrel
    obtain ⟨A, c, hxv, hcc, hdg⟩ := hlev.last.1.digs
    obtain ⟨xA, xn, xc⟩ := x
    simp only [SlC.v, Value.slice.injEq] at hxv
    obtain ⟨rfl, rfl, rfl⟩ := hxv
    have hB := HX.out.2.2.2.2.2.2.1
    have hBb := HX.out.2.2.2.2.2.2.2
    rcases Nat.lt_or_ge 1 cur.length with h1 | h1
    · have h1' : (1 : Int) < (cur.length : Int) := by omega
      have HQ := Lib.hid (And.intro ho (And.intro hlev (And.intro hls (And.intro hins (And.intro hb (And.intro hu (And.intro hcl (And.intro hlc (And.intro hcc hdg)))))))))
      have HN := Lib.hid h1
      clear ho hlev hls hins hb hu hcl hlc hcc hdg hB hBb h1
      go_wp2_with fail
      obtain ⟨ho, hlev, hls, hins, hb, hu, hcl, hlc, hcc, hdg⟩ := HQ.out
      refine (tree_above hb xc hdg hcc hcl).mono ?_
      rintro e w2 ⟨v2, rfl, hv2, hb2, hu2⟩
      have hB := HX.out.2.2.2.2.2.2.1
      have hBb := HX.out.2.2.2.2.2.2.2
      have hsz := hu.size
      have ho2 := OwnRows.upd ho hu2 (fun i hi e => by have h1 := (World.ownsRow.lt ho i hi).1; have h2 := hBb i e; omega)
      have hlev2 := hlev.upd hu2 (fun i hi k e e2 => by have h1 := (hlev.far i hi k e).1; have h2 := hBb k e2; omega)
      have hu3 := hu.trans hu2
      have hfresh : ∀ k, v2.ownBlock = some k → wr.heap.size ≤ k := fun k e => (World.ownsRow.lt hv2 k e).1
      obtain ⟨A2, c2, rfl, hc2, _⟩ := OwnD.digs hv2
      have hne : ∀ i (hi : i < (xs ++ [(⟨xA, cur.length, xc⟩ : SlC)]).length), (xs ++ [(⟨xA, cur.length, xc⟩ : SlC)])[i].v.ownBlock ≠ (SlC.v ⟨A2, (aboveM shaM cur).length, c2⟩).ownBlock := fun i hi e => by
        obtain ⟨g, _, hg, _, _⟩ := World.ownsRow.form hv2 (by rw [aboveM_length]; unfold up4; have := HN.out; omega)
        have e2 : (SlC.v ⟨A2, (aboveM shaM cur).length, c2⟩).ownBlock = some g := by
          simp only [Value.slice.injEq] at hg
          show (Value.slice A2 (aboveM shaM cur).length c2).ownBlock = some g
          rw [hg.1]; rfl
        have h1 := (hlev.far i hi g (by rw [e, e2])).2
        have h2 := hfresh g e2
        omega
      have hnn : aboveM shaM cur ≠ [] := by
        intro h0
        have h2 : (aboveM shaM cur).length = 0 := by rw [h0]; rfl
        rw [aboveM_length] at h2
        unfold up4 at h2
        have := HN.out
        omega
      have hlev3 := hlev2.snoc (x := ⟨A2, (aboveM shaM cur).length, c2⟩) (own_base hv2 (show B ≤ wr.heap.size by omega)) hnn hne
      have ho3 := ho2.alloc (.cells (slA ⟨A2, (aboveM shaM cur).length, c2⟩) 35)
      have hlev4 := hlev3.upd ((Upd.refl (fun _ => False) w2).alloc (.cells (slA ⟨A2, (aboveM shaM cur).length, c2⟩) 35)) (fun _ _ _ _ h => h)
      have hb3 := hb2.kept ((Upd.refl (fun _ => False) w2).alloc (.cells (slA ⟨A2, (aboveM shaM cur).length, c2⟩) 35))
      have hu4 := hu3.alloc (.cells (slA ⟨A2, (aboveM shaM cur).length, c2⟩) 35)
      have hg4 := heap_alloc_new w2 (.cells (slA ⟨A2, (aboveM shaM cur).length, c2⟩) 35)
      have hsz4 : w.heap.size ≤ (w2.alloc (.cells (slA ⟨A2, (aboveM shaM cur).length, c2⟩) 35)).heap.size := by rw [World.size_alloc]; have := hu3.size; omega
      clear ho2 hlev2 hlev3 hb2 hu3 ho hlev hb hu hu2 hne hfresh hv2
      generalize hWA : w2.alloc (.cells (slA ⟨A2, (aboveM shaM cur).length, c2⟩) 35) = wa at *
      have HZ := Lib.hid (And.intro ho3 (And.intro hlev4 (And.intro hb3 (And.intro hu4 (And.intro hg4 hsz4)))))
      have HE := Lib.hid (And.intro hls (And.intro hins (And.intro hcl hlc)))
      have HXL : Hid ((xs ++ [⟨xA, cur.length, xc⟩] : List SlC).length ≤ 1024) := by
        have hlen := hlev4.len
        show _ ≤ _
        simp only [List.length_append, List.length_singleton] at hlen ⊢
        have := HN.out
        omega
      clear ho3 hlev4 hb3 hu4 hg4 hsz4 hls hins hcl hlc hcc hdg
      have HAL : Hid ((aboveM shaM cur).length = up4 cur.length) := aboveM_length cur
      generalize hAB : aboveM shaM cur = nx at *
      have HAB := Lib.hid hAB
      clear hAB
      go_wp2_with (at_builtin; refine wpList_append_rows sl_rows rfl (.tmp 14) (.tmp 16) rfl rfl HZ.out.1 ⟨A2, nx.length, c2⟩ w2.heap.size 1 _ _ rfl HZ.out.2.2.2.2.1 (by have := HXL.out; unfold maxLen; omega) (by have := HXL.out; omega) HZ.out.2.2.2.2.2 ?_; intro v' w3 hown' hu' hnew)
      go_roundw
      case rel =>
        obtain ⟨ho3, hlev4, hb3, hu4, hg4, hsz4⟩ := HZ.out
        obtain ⟨hls, hins, hcl, hlc⟩ := HE.out
        have hn1 := HN.out
        have hal := HAL.out
        refine ⟨xs ++ [⟨xA, cur.length, xc⟩], ⟨A2, nx.length, c2⟩, ls ++ [cur], nx, N ++ aboveIn cur (up4 cur.length), rfl, hown', ?_, ?_, ?_, ?_, hu4.then hu' (fun i hi e => ?_), ?_, ?_, ?_⟩
        · refine hlev4.upd hu' fun i hi k e e2 => ?_
          obtain ⟨c1, h1⟩ := own_cells (hlev4.row i hi (by rw [← hlev4.len]; exact hi)).1 e
          obtain ⟨c2, h2⟩ := own_cells ho3 e2
          rw [h1] at h2
          cases h2
        · rw [hls, levelsM_more hn1, HAB.out, List.append_assoc]; rfl
        · rw [hins, insM_more hn1, HAB.out, ← List.append_assoc]; rfl
        · rw [notesM_append]
          refine hb3.upd hu' (fun e => ?_) (fun e => ?_) (fun e => ?_)
          · have h1 := (World.ownsRow.lt ho3 _ e).1; have h2 := HX.out.2.2.2.2.2.2.2 b (.inl rfl); have h3 := HX.out.2.2.2.2.2.2.1; omega
          · have h1 := (World.ownsRow.lt ho3 _ e).1; have h2 := HX.out.2.2.2.2.2.2.2 r (.inr (.inl rfl)); have h3 := HX.out.2.2.2.2.2.2.1; omega
          · have h1 := (World.ownsRow.lt ho3 _ e).1; have h2 := HX.out.2.2.2.2.2.2.2 q (.inr (.inr rfl)); have h3 := HX.out.2.2.2.2.2.2.1; omega
        · have := (World.ownsRow.lt ho3 _ e).1; omega
        · unfold up4 at hal; omega
        · intro h0; rw [h0] at hal; unfold up4 at hal; simp at hal; omega
        · rw [List.length_append, List.length_singleton]; unfold up4 at hal; omega
      case measure =>
        have hn1 := HN.out
        have hal := HAL.out
        show nx.length < cur.length
        rw [hal]; exact up4_lt hn1
    · have h1' : decide ((1 : Int) < (cur.length : Int)) = false := by rw [decide_eq_false_iff_not]; omega
      have HF : Hid (OwnRows slA 1 wr w.heap.size 35 u5 (xs ++ [⟨xA, cur.length, xc⟩]) ∧ Lev wr B (xs ++ [⟨xA, cur.length, xc⟩]) (levelsM shaM D) ∧ BookL wr b r q (notesM L (insM shaM D)) ∧ Upd (Book3 b r q) w wr) := by
        refine ⟨ho, ?_, ?_, hu⟩
        · rw [hls, levelsM_one h1]; exact hlev
        · rw [hins, insM_one h1, List.append_nil]; exact hb
      clear ho hlev hls hins hb hu hcl hlc hcc hdg hB hBb h1
      go_wp2
      go_ret
      exact ⟨_, _, rfl, HF.out⟩
end Go.Proofs.Ytjimamgghkgdeaa
