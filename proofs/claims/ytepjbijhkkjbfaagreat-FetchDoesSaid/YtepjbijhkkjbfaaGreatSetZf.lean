import Derived.Test.YtepjbijhkkjbfaaGreatSetZe
import Derived.Laws.MakeOwn
set_option linter.unusedVariables false
set_option linter.unusedSimpArgs false
namespace Go.Proofs.YtepjbijhkkjbfaaGreat
open Go.RowKit
structure SlC where
  A : Option Addr
  n : Nat
  c : Nat
def SlC.v (x : SlC) : Value := .slice x.A x.n x.c
def slA (x : SlC) : Array Value := #[.slice x.A x.n x.c]
@[simp, go_sem] theorem slA_size (x : SlC) : (slA x).size = 1 := by simp [slA]
@[simp, go_sem] theorem slA_one (x : SlC) : oneB (slA x) = true := by unfold slA oneB; exact (by rfl : _ = _)
theorem ds_info : (Tryz.prog.info? 45).map (fun i => (i.size, i.bytes, i.zero)) = some (1, 24, some (.slice none 0 0)) := by kernel_rfl
theorem sl_rows : RowType Tryz.prog slA 1 63 45 24 where
  size := slA_size
  one := slA_one
  slice := Tryz.underlying63
  info := ⟨.slice none 0 0, ds_info, by simp [Value.cells]⟩
  pos := by omega
@[go_sem ↓] theorem exec_one_sl (ρ : Operand → Value) (dst : Option Tmp) (parts : Array (Nat × Operand)) (ty : TypeId) (pos : String) (after : Array Edge) (guard : Option (Nat × Bool)) :
    execOp ρ ⟨dst, .buildSlice 63 1 parts, ty, pos, after, guard⟩ = sliceRow 63 1 (parts.map fun (i, x) => (i, ρ x)) := rfl
@[go_sem] theorem run_one_sl (A : Option Addr) (n c : Nat) (W : World) : (sliceRow 63 1 #[(0, .slice A n c)]).run Tryz.prog W = .ok (.value (.slice (some ⟨W.heap.size, 0, none⟩) 1 1)) (W.alloc (.cells (slA ⟨A, n, c⟩) 45)) := by
  obtain ⟨i, hi, h2⟩ := Option.map_eq_some_iff.1 ds_info; simp only [Prod.mk.injEq] at h2; have h := run_buildSlice (P := Tryz.prog) W 63 45 1 #[(0, .slice A n c)] (slA ⟨A, n, c⟩) i (.slice none 0 0) Tryz.underlying63 hi h2.2.2 (by rw [h2.1]; omega) (by rw [h2.1]; decide) (by
    rw [h2.1]; have h0 : Array.range (1 * 1) = #[0] := by decide
    rw [h0]; simp [Instr.fill, Value.cells, slA])
  simp [sliceRow, h, Result.andThen]
structure Lev (W : World) (B : Nat) (xs : List SlC) (ls : List (List Dig)) : Prop where
  len : xs.length = ls.length
  row : ∀ i (h : i < xs.length) (h' : i < ls.length), OwnD W B xs[i].v ls[i] ∧ ls[i] ≠ []
  apart : ∀ i j (hi : i < xs.length) (hj : j < xs.length), i ≠ j → xs[i].v.ownBlock ≠ xs[j].v.ownBlock
section
variable {W W' : World} {B : Nat} {xs : List SlC} {ls : List (List Dig)} {S : Nat → Prop}
theorem Lev.upd (h : Lev W B xs ls) (hu : Upd S W W') (hs : ∀ i (hi : i < xs.length) k, xs[i].v.ownBlock = some k → ¬ S k) : Lev W' B xs ls :=
  ⟨h.len, fun i hi hi' => ⟨OwnRows.upd (h.row i hi hi').1 hu (hs i hi), (h.row i hi hi').2⟩, h.apart⟩
theorem Lev.one {x : SlC} {l : List Dig} (h : OwnD W B x.v l) (hl : l ≠ []) : Lev W B [x] [l] :=
  ⟨rfl, fun i hi hi' => by obtain rfl : i = 0 := by simpa using hi
                           exact ⟨h, hl⟩, fun i j hi hj hne => by simp at hi hj; omega⟩
theorem Lev.snoc {x : SlC} {l : List Dig} (h : Lev W B xs ls) (hx : OwnD W B x.v l) (hl : l ≠ []) (hne : ∀ i (hi : i < xs.length), xs[i].v.ownBlock ≠ x.v.ownBlock) : Lev W B (xs ++ [x]) (ls ++ [l]) := by
  refine ⟨by simp [h.len], fun i hi hi' => ?_, fun i j hi hj hij => ?_⟩
  · by_cases hi2 : i < xs.length
    · rw [List.getElem_append_left hi2, List.getElem_append_left (by rw [← h.len]; exact hi2)]
      exact h.row i hi2 _
    · have hi3 : i = xs.length := by simp at hi; omega
      subst hi3; have e1 : (xs ++ [x])[xs.length] = x := by simp
      have e2 : (ls ++ [l])[xs.length]'hi' = l := by simp [h.len]
      rw [e1, e2]; exact ⟨hx, hl⟩
  · by_cases hi2 : i < xs.length
    · rw [List.getElem_append_left hi2]
      by_cases hj2 : j < xs.length
      · rw [List.getElem_append_left hj2]
        exact h.apart i j hi2 hj2 hij
      · have hj3 : j = xs.length := by simp at hj; omega
        subst hj3; have e1 : (xs ++ [x])[xs.length] = x := by simp
        rw [e1]; exact hne i hi2
    · have hi3 : i = xs.length := by simp at hi; omega
      subst hi3; have e1 : (xs ++ [x])[xs.length] = x := by simp
      have hj2 : j < xs.length := by simp at hj; omega
      rw [e1, List.getElem_append_left hj2]; exact fun e => hne j hj2 e.symm
theorem Lev.far (h : Lev W B xs ls) : ∀ i (hi : i < xs.length) k, xs[i].v.ownBlock = some k → B ≤ k ∧ k < W.heap.size := fun i hi k e => World.ownsRow.lt (h.row i hi (by rw [← h.len]; exact hi)).1 k e
end
theorem own_cells {α : Type} {f : α → Array Value} {n t B : Nat} {W : World} {v : Value} {l : List α} (h : OwnRows f n W B t v l) {k : Nat} (hk : v.ownBlock = some k) : ∃ cur, W.heap[k]? = some (.cells cur t (0, 0)) := by
  rcases h.2 with ⟨rfl, _⟩ | ⟨g, cap, cur, rfl, hb, hg, _⟩
  · cases hk
  · cases hk; exact ⟨cur, hg⟩
theorem own_base {α : Type} {f : α → Array Value} {n t B B' : Nat} {W : World} {v : Value} {l : List α} (h : OwnRows f n W B' t v l) (hb : B ≤ B') : OwnRows f n W B t v l :=
  ⟨h.1, h.2.imp id fun ⟨g, cap, cur, hv, hb2, hr⟩ => ⟨g, cap, cur, hv, Nat.le_trans hb hb2, hr⟩⟩
theorem Lev.last {W : World} {B : Nat} {xs : List SlC} {ls : List (List Dig)} {x : SlC} {l : List Dig} (h : Lev W B (xs ++ [x]) (ls ++ [l])) : OwnD W B x.v l ∧ l ≠ [] := by
  have hl : xs.length = ls.length := by simpa using h.len
  have := h.row xs.length (by simp) (by simp [hl]); have e1 : (xs ++ [x])[xs.length] = x := by simp
  have e2 : (ls ++ [l])[xs.length]'(by simp [hl]) = l := by simp [hl]
  rwa [e1, e2] at this
set_option maxHeartbeats 2000000 in
set_option maxRecDepth 20000 in
theorem tree_levels {w : World} {b r q B : Nat} {L : List Bytes} (h : BookL w b r q L) {x0 : SlC} {D : List Dig} (hx : OwnD w B x0.v D) (hD : D ≠ []) (hl : D.length ≤ 1024) (hB : B ≤ w.heap.size) (hBb : ∀ k, Book3 b r q k → k < B) :
    Calls Tryz.prog 62 #[.pointer (some ⟨b, 0, none⟩), .slice x0.A x0.n x0.c] w fun e W => ∃ v xs, e = .returned v ∧ OwnRows slA 1 W w.heap.size 45 v xs ∧ Lev W B xs (levelsM shaM D) ∧ BookL W b r q (notesM L (insM shaM D)) ∧ Upd (Book3 b r q) w W := by
  have hb1 := h.kept ((Upd.refl (fun _ => False) w).alloc (.cells (slA x0) 45)); have hx1 : OwnD (w.alloc (.cells (slA x0) 45)) B x0.v D := OwnRows.alloc hx _; have hu1 : Upd (Book3 b r q) w (w.alloc (.cells (slA x0) 45)) := (Upd.refl _ w).alloc _; have ho1 : OwnRows slA 1 (w.alloc (.cells (slA x0) 45)) w.heap.size 45 (.slice (some ⟨w.heap.size, 0, none⟩) 1 1) [x0] :=
    ⟨by simp [rowsOf, slA], .inr ⟨w.heap.size, 1, slA x0, rfl, Nat.le_refl _, heap_alloc_new w _, Nat.le_refl _, by unfold maxLen; omega, by simp, by simp [rowsOf, slA]⟩⟩
  have HX := Lib.hid (And.intro hb1 (And.intro hx1 (And.intro hu1 (And.intro ho1 (And.intro hD (And.intro hl (And.intro hB hBb))))))); clear h hb1 hx hx1 hu1 ho1 hD hl hB hBb; generalize hW1 : w.alloc (.cells (slA x0) 45) = w1 at *
  go_enter Tryz.func62, Tryz.ntmps62
  go_wp2_with fail
  go_loopw [1, 5] (fun u v wr => ∃ (xs : List SlC) (x : SlC) (ls : List (List Dig)) (cur : List Dig) (N : List Bytes), u = .slice x.A x.n x.c ∧ OwnRows slA 1 wr w.heap.size 45 v (xs ++ [x]) ∧ Lev wr B (xs ++ [x]) (ls ++ [cur]) ∧ levelsM shaM D = ls ++ levelsM shaM cur ∧ insM shaM D = N ++ insM shaM cur ∧
      BookL wr b r q (notesM L N) ∧ Upd (Book3 b r q) w wr ∧ cur.length ≤ 1024 ∧ cur ≠ [] ∧ ls.length + cur.length ≤ 1024) (fun u _ _ => match u with | .slice _ n _ => n | _ => 0)
  case atStart =>
    obtain ⟨hb1, hx1, hu1, ho1, hD, hl, _⟩ := HX.out; exact ⟨[], x0, [], D, [], rfl, ho1, Lev.one hx1 hD, rfl, rfl, hb1, hu1, hl, hD, by simpa using hl⟩
  case round =>
    obtain ⟨xs, x, ls, cur, N, rfl, ho, hlev, hls, hins, hb, hu, hcl, hcn, hlc⟩ := hrel; obtain ⟨A, c, hxv, hcc, hdg⟩ := hlev.last.1.digs; obtain ⟨xA, xn, xc⟩ := x; simp only [SlC.v, Value.slice.injEq] at hxv; obtain ⟨rfl, rfl, rfl⟩ := hxv; have hB := HX.out.2.2.2.2.2.2.1; have hBb := HX.out.2.2.2.2.2.2.2; rcases Nat.lt_or_ge 1 cur.length with h1 | h1
    · have h1' : (1 : Int) < (cur.length : Int) := by omega
      have HQ := Lib.hid (And.intro ho (And.intro hlev (And.intro hls (And.intro hins (And.intro hb (And.intro hu (And.intro hcl (And.intro hlc (And.intro hcc hdg))))))))); have HN := Lib.hid h1; clear ho hlev hls hins hb hu hcl hlc hcc hdg hB hBb h1; go_wp2_with fail; obtain ⟨ho, hlev, hls, hins, hb, hu, hcl, hlc, hcc, hdg⟩ := HQ.out; refine (tree_above hb xc hdg hcc hcl).mono ?_; rintro e w2 ⟨v2, rfl, hv2, hb2, hu2⟩; have hB := HX.out.2.2.2.2.2.2.1; have hBb := HX.out.2.2.2.2.2.2.2; have hsz := hu.size; have ho2 := OwnRows.upd ho hu2 (fun i hi e => by have h1 := (World.ownsRow.lt ho i hi).1; have h2 := hBb i e; omega); have hlev2 := hlev.upd hu2 (fun i hi k e e2 => by have h1 := (hlev.far i hi k e).1; have h2 := hBb k e2; omega); have hu3 := hu.trans hu2; have hfresh : ∀ k, v2.ownBlock = some k → wr.heap.size ≤ k := fun k e => (World.ownsRow.lt hv2 k e).1; obtain ⟨A2, c2, rfl, hc2, _⟩ := OwnD.digs hv2; have hne : ∀ i (hi : i < (xs ++ [(⟨xA, cur.length, xc⟩ : SlC)]).length), (xs ++ [(⟨xA, cur.length, xc⟩ : SlC)])[i].v.ownBlock ≠ (SlC.v ⟨A2, (aboveM shaM cur).length, c2⟩).ownBlock := fun i hi e => by
        obtain ⟨g, _, hg, _, _⟩ := World.ownsRow.form hv2 (by rw [aboveM_length]; unfold up4; have := HN.out; omega); have e2 : (SlC.v ⟨A2, (aboveM shaM cur).length, c2⟩).ownBlock = some g := by
          simp only [Value.slice.injEq] at hg; show (Value.slice A2 (aboveM shaM cur).length c2).ownBlock = some g; rw [hg.1]; rfl
        have h1 := (hlev.far i hi g (by rw [e, e2])).2; have h2 := hfresh g e2; omega
      have hnn : aboveM shaM cur ≠ [] := by
        intro h0; have h2 : (aboveM shaM cur).length = 0 := by rw [h0]; rfl
        rw [aboveM_length] at h2; unfold up4 at h2; have := HN.out; omega
      have hlev3 := hlev2.snoc (x := ⟨A2, (aboveM shaM cur).length, c2⟩) (own_base hv2 (show B ≤ wr.heap.size by omega)) hnn hne; have ho3 := ho2.alloc (.cells (slA ⟨A2, (aboveM shaM cur).length, c2⟩) 45); have hlev4 := hlev3.upd ((Upd.refl (fun _ => False) w2).alloc (.cells (slA ⟨A2, (aboveM shaM cur).length, c2⟩) 45)) (fun _ _ _ _ h => h); have hb3 := hb2.kept ((Upd.refl (fun _ => False) w2).alloc (.cells (slA ⟨A2, (aboveM shaM cur).length, c2⟩) 45)); have hu4 := hu3.alloc (.cells (slA ⟨A2, (aboveM shaM cur).length, c2⟩) 45); have hg4 := heap_alloc_new w2 (.cells (slA ⟨A2, (aboveM shaM cur).length, c2⟩) 45); have hsz4 : w.heap.size ≤ (w2.alloc (.cells (slA ⟨A2, (aboveM shaM cur).length, c2⟩) 45)).heap.size := by rw [World.size_alloc]; have := hu3.size; omega
      clear ho2 hlev2 hlev3 hb2 hu3 ho hlev hb hu hu2 hne hfresh hv2; generalize hWA : w2.alloc (.cells (slA ⟨A2, (aboveM shaM cur).length, c2⟩) 45) = wa at *; have HZ := Lib.hid (And.intro ho3 (And.intro hlev4 (And.intro hb3 (And.intro hu4 (And.intro hg4 hsz4))))); have HE := Lib.hid (And.intro hls (And.intro hins (And.intro hcl hlc))); have HXL : Hid ((xs ++ [⟨xA, cur.length, xc⟩] : List SlC).length ≤ 1024) := by
        have hlen := hlev4.len; show _ ≤ _; simp only [List.length_append, List.length_singleton] at hlen ⊢; have := HN.out; omega
      clear ho3 hlev4 hb3 hu4 hg4 hsz4 hls hins hcl hlc hcc hdg; have HAL : Hid ((aboveM shaM cur).length = up4 cur.length) := aboveM_length cur; generalize hAB : aboveM shaM cur = nx at *; have HAB := Lib.hid hAB; clear hAB; go_wp2_with (at_builtin; refine wpList_append_rows sl_rows rfl (.tmp 14) (.tmp 16) rfl rfl HZ.out.1 ⟨A2, nx.length, c2⟩ w2.heap.size 1 _ _ rfl HZ.out.2.2.2.2.1 (by have := HXL.out; unfold maxLen; omega) (by have := HXL.out; omega) HZ.out.2.2.2.2.2 ?_; intro v' w3 hown' hu' hnew)
      go_roundw
      case rel =>
        obtain ⟨ho3, hlev4, hb3, hu4, hg4, hsz4⟩ := HZ.out; obtain ⟨hls, hins, hcl, hlc⟩ := HE.out; have hn1 := HN.out; have hal := HAL.out; refine ⟨xs ++ [⟨xA, cur.length, xc⟩], ⟨A2, nx.length, c2⟩, ls ++ [cur], nx, N ++ aboveIn cur (up4 cur.length), rfl, hown', ?_, ?_, ?_, ?_, hu4.then hu' (fun i hi e => ?_), ?_, ?_, ?_⟩
        · refine hlev4.upd hu' fun i hi k e e2 => ?_
          obtain ⟨c1, h1⟩ := own_cells (hlev4.row i hi (by rw [← hlev4.len]; exact hi)).1 e; obtain ⟨c2, h2⟩ := own_cells ho3 e2; rw [h1] at h2; cases h2
        · rw [hls, levelsM_more hn1, HAB.out, List.append_assoc]; rfl
        · rw [hins, insM_more hn1, HAB.out, ← List.append_assoc]; rfl
        · rw [notesM_append]
          refine hb3.upd hu' (fun e => ?_) (fun e => ?_) (fun e => ?_)
          · have h1 := (World.ownsRow.lt ho3 _ e).1; have h2 := HX.out.2.2.2.2.2.2.2 b (.inl rfl); have h3 := HX.out.2.2.2.2.2.2.1; omega
          · have h1 := (World.ownsRow.lt ho3 _ e).1; have h2 := HX.out.2.2.2.2.2.2.2 r (.inr (.inl rfl)); have h3 := HX.out.2.2.2.2.2.2.1; omega
          · have h1 := (World.ownsRow.lt ho3 _ e).1; have h2 := HX.out.2.2.2.2.2.2.2 q (.inr (.inr rfl)); have h3 := HX.out.2.2.2.2.2.2.1; omega
        · have := (World.ownsRow.lt ho3 _ e).1; omega
        · unfold up4 at hal; omega
        · intro h0; rw [h0] at hal; unfold up4 at hal; simp at hal; omega
        · rw [List.length_append, List.length_singleton]; unfold up4 at hal; omega
      case measure =>
        have hn1 := HN.out; have hal := HAL.out; show nx.length < cur.length; rw [hal]; exact up4_lt hn1
    · have h1' : decide ((1 : Int) < (cur.length : Int)) = false := by rw [decide_eq_false_iff_not]; omega
      have HF : Hid (OwnRows slA 1 wr w.heap.size 45 u5 (xs ++ [⟨xA, cur.length, xc⟩]) ∧ Lev wr B (xs ++ [⟨xA, cur.length, xc⟩]) (levelsM shaM D) ∧ BookL wr b r q (notesM L (insM shaM D)) ∧ Upd (Book3 b r q) w wr) := by
        refine ⟨ho, ?_, ?_, hu⟩
        · rw [hls, levelsM_one h1]; exact hlev
        · rw [hins, insM_one h1, List.append_nil]; exact hb
      clear ho hlev hls hins hb hu hcl hlc hcc hdg hB hBb h1; go_wp2
      go_ret
      exact ⟨_, _, rfl, HF.out⟩
end Go.Proofs.YtepjbijhkkjbfaaGreat
namespace Go.Proofs.YtepjbijhkkjbfaaGreat
open Go.RowKit
theorem run_copy_rows {P : Program} (w : World) (dT sT ty elem : TypeId) (size g o dLen dCap : Nat) (a : Addr) (sLen sCap : Nat) (cur : Array Value) (t : TypeId) (cs : List Value)
    (hu : P.underlying dT = some (.slice elem)) (hs : (P.info? elem).map (·.size) = some size)
    (hg : w.heap[g]? = some (.cells cur t (0, 0))) (hn : cs.length = Nat.min sLen dLen * size)
    (hsrc : ∀ j v, cs[j]? = some v → w.cell? (a.add j) = some v) (hfit : o + cs.length ≤ cur.size) (h1 : ∀ v ∈ cs, v.oneCell' = true) :
    (Builtin.copy_ #[dT, sT] ty #[.slice (some ⟨g, o, none⟩) dLen dCap, .slice (some a) sLen sCap]).run P w =
      .ok (goInt (Nat.min sLen dLen)) (w.setRow g (cur.toList.take o ++ cs ++ cur.toList.drop (o + cs.length)).toArray) := by
  have hl := run_loadCells_list (P := P) w a cs hsrc; have hst := run_storeCells_at P g o t cs 0 cur w hg (by simpa using hfit) h1; cases hq : P.info? elem with
  | none => simp [hq] at hs
  | some i =>
    have hi : i.size = size := by simpa [hq] using hs
    simp only [Nat.add_zero] at hst; simp [Builtin.copy_, run_underlying hu, Builtin.lenOf, Builtin.firstCells, sizeOf, typeInfo, hq, hi, ← hn, hl, hst]
theorem wpList_copy_rows {P : Program} {w : World} {ops : Array Oper} {rest : List Oper} {o : Oper} {a : Act} {Q : Exit → Act → World → Prop} (hgd : o.guard = none) (d s : Operand) (dT sT : TypeId)
    (ho : o.op = .call { callee := .builtin .copy, args := #[d, s], argTypes := #[dT, sT] }) (elem : TypeId) (size : Nat) (hu : P.underlying dT = some (.slice elem)) (hsz : (P.info? elem).map (·.size) = some size)
    (g off dLen dCap : Nat) (ad : Addr) (sLen sCap : Nat) (hd : a.eval d = .slice (some ⟨g, off, none⟩) dLen dCap) (hs : a.eval s = .slice (some ad) sLen sCap)
    (cur : Array Value) (t : TypeId) (hg : w.heap[g]? = some (.cells cur t (0, 0))) (cs : List Value) (hn : cs.length = Nat.min sLen dLen * size)
    (hsrc : ∀ j v, cs[j]? = some v → w.cell? (ad.add j) = some v) (hfit : off + cs.length ≤ cur.size) (h1 : ∀ v ∈ cs, v.oneCell' = true)
    (h : wpList P ops Q rest (a.put o.dst (goInt (Nat.min sLen dLen))) (w.setRow g (cur.toList.take off ++ cs ++ cur.toList.drop (off + cs.length)).toArray)) : wpList P ops Q (o :: rest) a w := by
  refine wpList_plain hgd fun K hK => ?_; have hrun := run_copy_rows (P := P) w dT sT o.type elem size g off dLen dCap ad sLen sCap cur t cs hu hsz hg hn hsrc hfit h1; unfold Oper.wp execOp; simp only [ho, resolve, invoke, builtin, Sem.run_bind, Sem.run_pure, Result.andThen_ok, List.map_toArray, List.map_cons, List.map_nil, hd, hs, hrun]; exact hK _ _ h
theorem step_copy_rows {P : Program} {w : World} {ops : Array Oper} {o : Oper} {a : Act} {K : Act → World → Prop} {Q : Exit → Act → World → Prop} {E : Prop} (hgd : o.guard = none) (d s : Operand) (dT sT : TypeId)
    (ho : o.op = .call { callee := .builtin .copy, args := #[d, s], argTypes := #[dT, sT] }) (elem : TypeId) (size : Nat) (hu : P.underlying dT = some (.slice elem)) (hsz : (P.info? elem).map (·.size) = some size)
    (g off dLen dCap : Nat) (ad : Addr) (sLen sCap : Nat) (hd : a.eval d = .slice (some ⟨g, off, none⟩) dLen dCap) (hs : a.eval s = .slice (some ad) sLen sCap)
    (cur : Array Value) (t : TypeId) (hg : w.heap[g]? = some (.cells cur t (0, 0))) (cs : List Value) (hn : cs.length = Nat.min sLen dLen * size)
    (hsrc : ∀ j v, cs[j]? = some v → w.cell? (ad.add j) = some v) (hfit : off + cs.length ≤ cur.size) (h1 : ∀ v ∈ cs, v.oneCell' = true)
    (h : K (a.put o.dst (goInt (Nat.min sLen dLen))) (w.setRow g (cur.toList.take off ++ cs ++ cur.toList.drop (off + cs.length)).toArray)) : if Region.wanted o (yielded ops a.tmps) = true then o.wp P a w K Q else E := by
  rw [if_pos (by unfold Region.wanted; rw [hgd])]; have hrun := run_copy_rows (P := P) w dT sT o.type elem size g off dLen dCap ad sLen sCap cur t cs hu hsz hg hn hsrc hfit h1; unfold Oper.wp execOp; simp only [ho, resolve, invoke, builtin, Sem.run_bind, Sem.run_pure, Result.andThen_ok, List.map_toArray, List.map_cons, List.map_nil, hd, hs, hrun]; exact h
theorem bits_Mul (x y : Nat) (hx : x < 18446744073709551616) (hy : y < 18446744073709551616) (w : World) :
    Calls Tryz.prog 74 #[.int .u64 x, .int .u64 y] w fun e w' => e = .returned (.tuple #[.int .u64 ((x * y / 18446744073709551616 : Nat) : Int), .int .u64 ((x * y % 18446744073709551616 : Nat) : Int)]) ∧ w = w' := by
  have HM := Lib.hid (bits_Mul64 x y hx hy w); generalize x * y / 18446744073709551616 = h at *; generalize x * y % 18446744073709551616 = l at *; clear hx hy
  go_enter Tryz.func74, Tryz.ntmps74
  go_wp2_with fail; refine HM.out.mono ?_; rintro e w' ⟨rfl, rfl⟩; go_wp2
  go_ret2
  exact ⟨rfl, rfl⟩
def vsD (D : List Dig) : List Value := encB (flatD D)
theorem vsD_length (D : List Dig) : (vsD D).length = D.length * 32 := by rw [vsD, encB_length, flatD_length]
theorem vsD_append (D E : List Dig) : vsD (D ++ E) = vsD D ++ vsD E := by simp [vsD, flatD, encB_append]
theorem vsD_take (D : List Dig) (k : Nat) : (vsD D).take (k * 32) = vsD (D.take k) := by rw [vsD, vsD, flatD_take, encB_take]
theorem vsD_drop (D : List Dig) (k : Nat) : (vsD D).drop (k * 32) = vsD (D.drop k) := by rw [vsD, vsD, flatD_drop, encB_drop]
theorem made_digs (n : Nat) : (madeCells (dA dig0) (n * 32)).toList = vsD (List.replicate n dig0) := by
  have hz : vsD (List.replicate n dig0) = List.replicate (n * 32) (.int .u8 0) := by
    have hf : flatD (List.replicate n dig0) = List.replicate (n * 32) 0 := by
      induction n with
      | zero => rfl
      | succ n ih => rw [List.replicate_succ, show flatD (dig0 :: List.replicate n dig0) = dig0.1 ++ flatD (List.replicate n dig0) by simp [flatD], ih, show dig0.1 = List.replicate 32 0 from rfl, List.replicate_append_replicate]; congr 1; omega
    rw [vsD, hf, encB, List.map_replicate]; rfl
  rw [hz]; apply List.ext_getElem
  · simp [madeCells]
  · intro i h1 h2
    have h3 : ∀ j, j < 32 → (dA dig0)[j]! = Value.int .u8 0 := by
      intro j hj; have he : dA dig0 = (List.replicate 32 (Value.int .u8 0)).toArray := by unfold dA encB dig0; rw [List.map_replicate]; rfl
      rw [getElem!_pos (dA dig0) j (by rw [dA_size]; exact hj)]; simp only [he, List.getElem_toArray, List.getElem_replicate]
    simp only [madeCells, Array.getElem_toList, Array.getElem_map, Array.getElem_range, List.getElem_replicate, dA_size]; exact h3 _ (Nat.mod_lt _ (by omega))
def makeRow (t : TypeId) (l c : Value) : Sem Next := do pure (.value (← Instr.makeSlice t l c))
@[go_sem ↓] theorem exec_make_digs (ρ : Operand → Value) (dst : Option Tmp) (l c : Operand) (ty : TypeId) (pos : String) (after : Array Edge) (guard : Option (Nat × Bool)) :
    execOp ρ ⟨dst, .makeSlice 45 l c, ty, pos, after, guard⟩ = makeRow 45 (ρ l) (ρ c) := rfl
theorem dig_info3 : (Tryz.prog.info? 23).map (fun i => (i.zero, i.size, i.bytes)) = some (some (.agg (dA dig0)), 32, 32) := by kernel_rfl
set_option maxRecDepth 20000 in
theorem run_make_digs (n : Nat) (hn : n ≤ 100000) (W : World) : ∃ W', (makeRow 45 (.int .i64 n) (.int .i64 n)).run Tryz.prog W = .ok (.value (.slice (some ⟨W.heap.size, 0, none⟩) n n)) W' ∧ Blk W' W.heap.size 23 (vsD (List.replicate n dig0)) ∧ Kept W W' := by
  obtain ⟨i, hi, h2⟩ := Option.map_eq_some_iff.1 dig_info3; simp only [Prod.mk.injEq] at h2; have h := run_make (P := Tryz.prog) W 45 23 i (.agg (dA dig0)) Tryz.underlying45 hi h2.1 .i64 .i64 (n : Int) (n : Int) (by omega) (by omega) (by rw [h2.2.2]; omega) (by omega); rw [h2.2.1, Int.toNat_natCast] at h
  change _ = Result.ok _ (W.alloc (.cells (madeCells (dA dig0) (n * 32)) 23)) at h
  refine ⟨W.alloc (.cells (madeCells (dA dig0) (n * 32)) 23), by simp only [makeRow, Sem.run_bind, h, Result.andThen_ok, Sem.run_pure], ?_, (Upd.refl _ W).alloc _⟩; have := Blk.new W 23 (vsD (List.replicate n dig0)); rw [← made_digs, Array.toArray_toList] at this; rw [← made_digs]; exact this
theorem slice_digs_l (W : World) (g len cap l : Nat) (Li : Int) (hL : Li = l) (h1 : l ≤ len) (h3 : l < cap) :
    (Instr.sliceAt 45 (.slice (some ⟨g, 0, none⟩) len cap) (some (.int .i64 Li)) none none).run Tryz.prog W = .ok (.slice (some ⟨g, l * 32, none⟩) (len - l) (cap - l)) W := by
  subst hL; have ht : Tryz.prog.underlying 45 = some (.slice (Tryz.prog.elem 45)) := by rw [ds_elem]; exact Tryz.underlying45
  have := run_slice_l (P := Tryz.prog) (w := W) 45 (some ⟨g, 0, none⟩) len cap ht .i64 (l : Int) (by omega) (by omega); rw [run_sliceAt_slice (h := ht), this, ds_elem, dig_sizeOf]; simp only [Result.andThen, sliced, Int.toNat_natCast, Option.map_some, add_none, Nat.zero_add]; rw [if_neg (by omega)]
theorem slice_digs_h (W : World) (g len cap h : Nat) (Hi : Int) (hH : Hi = h) (h1 : h ≤ cap) (h3 : 0 < cap) :
    (Instr.sliceAt 45 (.slice (some ⟨g, 0, none⟩) len cap) none (some (.int .i64 Hi)) none).run Tryz.prog W = .ok (.slice (some ⟨g, 0, none⟩) h cap) W := by
  subst hH; have ht : Tryz.prog.underlying 45 = some (.slice (Tryz.prog.elem 45)) := by rw [ds_elem]; exact Tryz.underlying45
  have := run_slice_h (P := Tryz.prog) (w := W) 45 (some ⟨g, 0, none⟩) len cap ht .i64 (h : Int) (by omega) (by omega); rw [run_sliceAt_slice (h := ht), this, ds_elem, dig_sizeOf]; simp only [Result.andThen, sliced, Int.toNat_natCast, Option.map_some, add_none, Nat.zero_mul, Nat.sub_zero, Nat.add_zero]; rw [if_neg (by omega)]
def repD (n m : Nat) (d : Dig) : List Dig := List.replicate m d ++ List.replicate (n - m) dig0
theorem copy_vs (D E : List Dig) (o : Nat) : ((vsD D).toArray.toList.take (o * 32) ++ vsD E ++ (vsD D).toArray.toList.drop (o * 32 + (vsD E).length)).toArray = (vsD (D.take o ++ E ++ D.drop (o + E.length))).toArray := by
  rw [List.toList_toArray, vsD_length, ← Nat.add_mul, vsD_take, vsD_drop, vsD_append, vsD_append]
theorem repD_more {n m k : Nat} (d : Dig) (h : m + k ≤ n) : (repD n m d).take m ++ List.replicate k d ++ (repD n m d).drop (m + (List.replicate k d).length) = repD n (m + k) d := by
  have h1 : (List.replicate m d).length = m := List.length_replicate; rw [List.length_replicate, repD, List.take_append_of_le_length (by omega), List.take_of_length_le (by omega), List.replicate_append_replicate, List.drop_append, List.drop_of_length_le (by omega), h1, List.nil_append, List.drop_replicate, repD]
  congr 2; omega
theorem repD_length (n m : Nat) (d : Dig) (h : m ≤ n) : (repD n m d).length = n := by simp [repD]; omega
set_option maxHeartbeats 2000000 in
set_option maxRecDepth 20000 in
theorem digs_Repeat {w : World} {bx ox : Nat} {d : Dig} (hx : w.rangeAt bx ox (encB d.1)) (n : Nat) (h1 : 1 ≤ n) (hn : n ≤ 1024) :
    Calls Tryz.prog 63 #[.slice (some ⟨bx, ox, none⟩) 1 1, .int .i64 n] w fun e W => ∃ v, e = .returned v ∧ OwnD W w.heap.size v (List.replicate n d) ∧ Kept w W := by
  have HM := Lib.hid (bits_Mul 1 n (by omega) (by omega) w); rw [show 1 * n / 18446744073709551616 = 0 by omega, show 1 * n % 18446744073709551616 = n by omega] at HM; obtain ⟨w1, hmk, hb1, hk1⟩ := run_make_digs n (by omega) w; have HX := Lib.hid (And.intro hb1 (And.intro hk1 (And.intro hx (And.intro h1 hn)))); have hn0 : decide ((n : Int) < 0) = false := by rw [decide_eq_false_iff_not]; omega
  have hu1 : IntKind.u64.wrap (n : Int) = (n : Int) := by rw [IntKind.wrap_u64]; omega
  have hi1 : IntKind.i64.wrap (n : Int) = (n : Int) := by rw [IntKind.wrap_i64]; omega
  have hnl : ((n : Nat) : Int) ≤ 1024 := by omega
  have hnp : (1 : Int) ≤ (n : Int) := by omega
  clear hb1 hk1 hx h1 hn
  go_enter Tryz.func63, Tryz.ntmps63
  go_wp2_with fail; refine HM.out.mono ?_; rintro e w' ⟨rfl, rfl⟩; have hb2 : Blk (w1.setRow w.heap.size (((vsD (List.replicate n dig0)).toArray.toList.take 0 ++ vsD [d] ++ (vsD (List.replicate n dig0)).toArray.toList.drop (0 + (vsD [d]).length)).toArray)) w.heap.size 23 (vsD (repD n 1 d)) := by
    have h0 := copy_vs (List.replicate n dig0) [d] 0; rw [Nat.zero_mul] at h0; rw [h0]; have h1 : (List.replicate n dig0).take 0 ++ [d] ++ (List.replicate n dig0).drop (0 + [d].length) = repD n 1 d := by
      simp [repD, List.drop_replicate]
    rw [h1]; exact HX.out.1.setRow _
  have hk2 : Kept w (w1.setRow w.heap.size (((vsD (List.replicate n dig0)).toArray.toList.take 0 ++ vsD [d] ++ (vsD (List.replicate n dig0)).toArray.toList.drop (0 + (vsD [d]).length)).toArray)) := Upd.setRow HX.out.2.1 _ _ (fun h => absurd h (Nat.lt_irrefl _)); generalize hW2 : w1.setRow w.heap.size (((vsD (List.replicate n dig0)).toArray.toList.take 0 ++ vsD [d] ++ (vsD (List.replicate n dig0)).toArray.toList.drop (0 + (vsD [d]).length)).toArray) = w2 at *; have HY := Lib.hid (And.intro hb2 hk2); have HW2 := Lib.hid hW2; clear hb2 hk2 hW2; have hmin : Nat.min 1 n = 1 := by have := HX.out.2.2.2.1; show min 1 n = 1; omega
  have hd1 : vsD [d] = encB d.1 := by simp [vsD, flatD]
  have HMN := Lib.hid (And.intro hmin hd1); clear hmin hd1; go_wp2_with (refine wpList_copy_rows rfl (.tmp 31) (.tmp 32) 45 45 rfl 23 32 Tryz.underlying45 sizeOf23 w.heap.size 0 n n ⟨bx, ox, none⟩ 1 1 rfl rfl (vsD (List.replicate n dig0)).toArray 23 HX.out.1 (vsD [d]) (by rw [vsD_length, HMN.out.1]; rfl) (fun j v hv => by rw [add_none]; rw [HMN.out.2] at hv; exact (HX.out.2.1.cell (HX.out.2.2.1 j v hv) id)) (by have := HX.out.2.2.2.1; rw [vsD_length, List.size_toArray, vsD_length, List.length_replicate, List.length_singleton]; omega) (encB_one _) ?_; rw [HMN.out.1, HW2.out]); clear hmk hn0 hu1 hi1
  go_loopw [8] (fun i wr => ∃ m : Nat, 1 ≤ m ∧ m ≤ n ∧ i = .int .i64 m ∧ Blk wr w.heap.size 23 (vsD (repD n m d)) ∧ Kept w wr) (fun i _ => n - (intOf i).toNat)
  case atStart => exact ⟨1, Nat.le_refl _, HX.out.2.2.2.1, rfl, HY.out.1, HY.out.2⟩
  case round =>
    obtain ⟨m, hm1, hmn, rfl, hb, hk⟩ := hrel; rcases Nat.lt_or_ge m n with hlt | hge
    · have hlt' : (m : Int) < (n : Int) := by omega
      have hm1024 : (m : Int) < 1024 := by omega
      have f1 : ∀ W : World, (Instr.sliceAt 45 (.slice (some ⟨w.heap.size, 0, none⟩) n n) (some (.int .i64 (m : Int))) none none).run Tryz.prog W = .ok (.slice (some ⟨w.heap.size, m * 32, none⟩) (n - m) (n - m)) W := fun W => slice_digs_l W _ n n m _ rfl hmn hlt; have f2 : ∀ W : World, (Instr.sliceAt 45 (.slice (some ⟨w.heap.size, 0, none⟩) n n) none (some (.int .i64 (m : Int))) none).run Tryz.prog W = .ok (.slice (some ⟨w.heap.size, 0, none⟩) m n) W := fun W => slice_digs_h W _ n n m _ rfl hmn (by omega); have HB := Lib.hid (And.intro hb (And.intro hk (And.intro hm1 hlt))); clear hb hk hm1 hmn; go_wp2_with fail; refine wp_region_ord [(0, true), (1, true), (2, true), (3, true), (4, true), (5, true), (6, true), (7, false), (8, false), (9, false)] (by kernel_rfl) (by kernel_rfl) (Kept w) HB.out.2.1.drew ?_; simp only [ordOps, List.getD_cons_zero, List.getD_cons_succ]
      iterate 7 (refine wpOrd_held (fun K hK => ?_); go_simp; first | (apply Exists.intro; refine ⟨fun W hW => ?_, hK _ ?_⟩; (go_simp; first | done | exact rfl); clear hK K) | (refine hK _ ?_; clear hK K))
      have hS : Blk wr.drew w.heap.size 23 (vsD (repD n m d)) ∧ Kept w wr.drew := And.intro HB.out.1.drew HB.out.2.1.drew; generalize wr.drew = wc at *; obtain ⟨k, hk⟩ : ∃ k, k = Nat.min m (n - m) := ⟨_, rfl⟩; have hk2 : k = min m (n - m) := hk; have hlt2 := HB.out.2.2.2; have hm12 := HB.out.2.2.1; have hfit : m + k ≤ n := by omega
      have hb2 := hS.1.setRow (vsD (repD n (m + k) d)); have hcv := copy_vs (repD n m d) (List.replicate k d) m; rw [repD_more d hfit] at hcv; have hkk : Kept w (wc.setRow w.heap.size (vsD (repD n (m + k) d)).toArray) := Upd.setRow hS.2 _ _ (fun h => absurd h (Nat.lt_irrefl _)); have HQ := Lib.hid (And.intro hb2 (And.intro hkk (And.intro (show 0 < k by omega) (And.intro hfit hlt2)))); clear f1 f2 hb2 hkk; refine wpOrd_step (fun K hK => ?_) hS.2; refine step_copy_rows rfl (.tmp 41) (.tmp 44) 45 45 rfl 23 32 Tryz.underlying45 sizeOf23 w.heap.size (m * 32) (n - m) (n - m) ⟨w.heap.size, 0, none⟩ m n rfl rfl (vsD (repD n m d)).toArray 23 hS.1 (vsD (List.replicate k d)) (by rw [vsD_length, List.length_replicate, hk]) (fun j v hv => ?_) ?_ (encB_one _) ?_
      · rw [add_none, Nat.zero_add]
        refine hS.1.cell ?_; have hj := (List.getElem?_eq_some_iff.1 hv).1; rw [vsD_length, List.length_replicate] at hj; have h1 : vsD (repD n m d) = vsD (List.replicate k d) ++ vsD (List.replicate (m - k) d ++ List.replicate (n - m) dig0) := by
          rw [← vsD_append, ← List.append_assoc, List.replicate_append_replicate, show k + (m - k) = m by omega]; rfl
        rw [h1, List.getElem?_append_left (by rw [vsD_length, List.length_replicate]; exact hj)]; exact hv
      · rw [List.size_toArray, vsD_length, vsD_length, List.length_replicate, repD_length n m d (by omega)]; omega
      · rw [hcv, ← hk]
        clear hcv hS hk hk2 hlt2 hm12 hfit; generalize wc.setRow w.heap.size (vsD (repD n (m + k) d)).toArray = wd at *; have hgo : goInt k = .int .i64 (k : Int) := rfl; rw [hgo]; have hk1024 : (m : Int) + (k : Int) ≤ 1024 := by have h1 := HQ.out.2.2.2.1; omega
        have hwr : IntKind.i64.wrap ((m : Int) + (k : Int)) = ((m + k : Nat) : Int) := by rw [IntKind.wrap_i64]; omega
        refine hK _ _ HQ.out.2.1 ?_; clear hK K
        iterate 2 (refine wpOrd_step (fun K hK => ?_) HQ.out.2.1; go_simp; refine hK _ _ HQ.out.2.1 ?_; clear hK K)
        refine wpOrd_nil ?_; go_wp2_with fail
        go_roundw
        case rel =>
          exact ⟨m + k, by have := HB.out.2.2.1; omega, HQ.out.2.2.2.1, by first | rfl | go_num, HQ.out.1, HQ.out.2.1⟩
        case measure => have h1 := HQ.out.2.2.1; have h2 := HQ.out.2.2.2.1; simp [intOf]; omega
    · obtain rfl : m = n := by omega
      have HF : Hid (OwnD wr w.heap.size (.slice (some ⟨w.heap.size, 0, none⟩) m m) (List.replicate m d) ∧ Kept w wr) := by
        refine ⟨⟨by simp [rowsOf_length dA_size], .inr ⟨w.heap.size, m, (vsD (repD m m d)).toArray, by simp, Nat.le_refl _, hb, by simp, by have := HX.out.2.2.2.2; unfold maxLen; omega, by rw [List.size_toArray, vsD_length, repD_length m m d (Nat.le_refl _)], ?_⟩⟩, hk⟩; rw [List.toList_toArray, List.length_replicate, vsD_take, rowsOf_dA]; simp [repD, vsD]
      clear hb hk; go_wp2
      go_ret
      exact ⟨_, rfl, HF.out⟩
end Go.Proofs.YtepjbijhkkjbfaaGreat
namespace Go.Proofs.YtepjbijhkkjbfaaGreat
open Go.RowKit
theorem digs_eq_nil (w : World) (a : Option Addr) (n c n' c' : Nat) : (binOp .eql 45 (.slice a n c) (.slice none n' c')).run Tryz.prog w = .ok (.bool a.isNone) w := Lib.run_eql_slice_nil w _ _ a n c n' c' Tryz.underlying45
attribute [local go_sem] digs_eq_nil
set_option maxHeartbeats 1000000 in
set_option maxRecDepth 20000 in
theorem digs_Clone {w : World} {A : Option Addr} {D : List Dig} (c : Nat) (hD : Digs w A D) (hn : D ≠ []) (hl : D.length ≤ 1024) :
    Calls Tryz.prog 66 #[.slice A D.length c] w fun e W => ∃ v, e = .returned v ∧ OwnD W w.heap.size v D ∧ Kept w W := by
  obtain ⟨i0, hi0, h2⟩ := Option.map_eq_some_iff.1 dig_info3; simp only [Prod.mk.injEq] at h2; rcases hD with h0 | ⟨b, off, rfl, hc⟩
  · exact absurd (List.eq_nil_of_length_eq_zero (by have := flatD_length D; rw [h0] at this; simp at this; omega)) hn
  · have HC := Lib.hid (And.intro hc (And.intro hl (And.intro hi0 h2)))
    clear hc hl hi0 h2 hn
    go_enter Tryz.func66, Tryz.ntmps66
    go_wp2_with (at_builtin; refine wpList_append_own _ rfl (.tmp 5) (.tmp 6) 45 rfl w.heap.size 23 i0 (.agg (dA dig0)) 32 32 Tryz.underlying45 HC.out.2.2.1 HC.out.2.2.2.1 HC.out.2.2.2.2.1 HC.out.2.2.2.2.2 (by simp [Value.cells]) (by decide) _ 0 [] rfl (World.ownsRow_made (base := w.heap.size) (size := 32) (e := 23) w #[] 0 (Nat.le_refl _) (Nat.zero_le _) rfl) ⟨b, off, none⟩ D.length c (vsD D) rfl (by rw [vsD_length]) (fun j u hu => by rw [add_none]; exact Lib.cell?_alloc_some _ (HC.out.1 j u hu)) (encB_one _) (by have := HC.out.2.1; unfold maxLen; omega) (by have := HC.out.2.1; omega) (by simp) ?_; intro v' w' hown hgr hnil); rw [Nat.zero_add, List.nil_append] at hown; have HF : Hid (OwnD w' w.heap.size v' D ∧ Kept w w') := by
      refine ⟨?_, ((Upd.refl (fun _ => False) w).alloc _).then (Upd.of_grown hgr) fun k hk e => by have e2 : some k = some w.heap.size := e; cases e2; omega⟩; unfold OwnD OwnRows; rw [rowsOf_dA]; exact hown
    clear hown hgr hnil; go_wp2
    go_ret
    exact ⟨_, rfl, HF.out⟩
set_option maxHeartbeats 2000000 in
set_option maxRecDepth 20000 in
theorem tree_fresh {w : World} {b r q : Nat} {L : List Bytes} (h : BookL w b r q L) {g2 g6 g3 n : Nat} {d : Dig} (h2 : Blk w g2 33 [.pointer (some ⟨b, 0, none⟩)]) (h6 : Blk w g6 23 (encB d.1)) (h3 : Blk w g3 3 [.int .i64 (n : Int)]) (h1 : 1 ≤ n) (hn : n ≤ 1024) :
    Calls Tryz.prog 61 #[.pointer (some ⟨g2, 0, none⟩), .pointer (some ⟨g6, 0, none⟩), .pointer (some ⟨g3, 0, none⟩)] w fun e W => ∃ v xs, e = .returned v ∧ OwnRows slA 1 W w.heap.size 45 v xs ∧ Lev W w.heap.size xs (levelsM shaM (List.replicate n d)) ∧ BookL W b r q (notesM L (insM shaM (List.replicate n d))) ∧ Upd (Book3 b r q) w W := by
  have f2 : ∀ W, Upd (Book3 b r q) w W → W.cell? ⟨g2, 0, none⟩ = some (.pointer (some ⟨b, 0, none⟩)) := fun W hW => (h2.upd hW (h.not h2 (by decide))).cell rfl; have f3 : ∀ W, Upd (Book3 b r q) w W → W.cell? ⟨g3, 0, none⟩ = some (.int .i64 (n : Int)) := fun W hW => (h3.upd hW (h.not h3 (by decide))).cell rfl; have hs6 := h6.seg 0 32 (encB d.1) (by rw [encB_length, d.2]) (fun j _ => by rw [Nat.zero_add]); have f6 : ∀ W, Upd (Book3 b r q) w W → segB W ⟨g6, 0, none⟩ 32 = true := fun W hW => ((h6.upd hW (h.not h6 (by decide))).seg 0 32 (encB d.1) (by rw [encB_length, d.2]) (fun j _ => by rw [Nat.zero_add])).1; have f6' : ∀ W, Upd (Book3 b r q) w W → segV W ⟨g6, 0, none⟩ 32 = dA d := fun W hW => ((h6.upd hW (h.not h6 (by decide))).seg 0 32 (encB d.1) (by rw [encB_length, d.2]) (fun j _ => by rw [Nat.zero_add])).2; have HX := Lib.hid (And.intro h (And.intro h1 hn)); clear h h1 hn h2 h3 h6 hs6
  go_enter Tryz.func61, Tryz.ntmps61
  go_wp2_with fail; refine wp_region_ord [(0, true), (1, true), (3, true), (2, false), (4, false), (5, false), (6, false)] (by kernel_rfl) (by kernel_rfl) (Upd (Book3 b r q) w) (Upd.refl _ w).drew ?_; simp only [ordOps, List.getD_cons_zero, List.getD_cons_succ]
  iterate 3 (refine wpOrd_held (fun K hK => ?_); go_simp; first | (apply Exists.intro; refine ⟨fun W hW => ?_, hK _ ?_⟩; (go_simp; first | done | exact rfl); clear hK K) | (refine hK _ ?_; clear hK K))
  clear f2 f3 f6 f6'; have hS : Upd (Book3 b r q) w w.drew := (Upd.refl _ w).drew; have HB : Hid (BookL w.drew b r q L ∧ w.drew.heap.size = w.heap.size) := ⟨HX.out.1.kept (Upd.refl _ w).drew, rfl⟩; generalize w.drew = wa at *; refine wpOrd_step (fun K hK => ?_) hS; go_simp; have hS1 := hS.alloc (.cells (dA d) 23); have hr1 : (wa.alloc (.cells (dA d) 23)).rangeAt wa.heap.size 0 (encB d.1) := (Blk.new wa 23 (encB d.1)).range 0 (fun j _ => by rw [Nat.zero_add]); have HB1 : Hid (BookL (wa.alloc (.cells (dA d) 23)) b r q L) := HB.out.1.kept ((Upd.refl _ wa).alloc _); refine hK _ _ hS1 ?_; clear hK K; generalize hWB : wa.alloc (.cells (dA d) 23) = wb at *; refine wpOrd_step (fun K hK => ?_) hS1; go_simp; refine (digs_Repeat hr1 n HX.out.2.1 HX.out.2.2).mono ?_; rintro e wc ⟨v1, rfl, hown, hu1⟩; have hS2 : Upd (Book3 b r q) w wc := hS1.then hu1 fun _ _ h => h.elim; have hb2 := HB1.out.kept hu1; obtain ⟨A, c, hv, hc, hdg⟩ := OwnD.digs hown; rw [List.length_replicate] at hv; subst hv; refine hK _ _ hS2 ?_; clear hK K; refine wpOrd_step (fun K hK => ?_) hS2; go_simp; have hsz : w.heap.size ≤ wb.heap.size := hS1.size; refine (tree_levels (B := w.heap.size) (x0 := ⟨A, n, c⟩) hb2 (own_base hown hsz) (by have := HX.out.2.1; intro h0; have := congrArg List.length h0; simp at this; omega) (by rw [List.length_replicate]; exact HX.out.2.2) hS2.size (fun k hk => HX.out.1.lt k hk)).mono ?_; rintro e wd ⟨v2, xs, rfl, ho, hl, hb3, hu3⟩; have hS3 := hS2.trans hu3; have HF : Hid (OwnRows slA 1 wd w.heap.size 45 v2 xs ∧ Lev wd w.heap.size xs (levelsM shaM (List.replicate n d)) ∧ BookL wd b r q (notesM L (insM shaM (List.replicate n d))) ∧ Upd (Book3 b r q) w wd) := ⟨own_base ho hS2.size, hl, hb3, hS3⟩; refine hK _ _ hS3 ?_; clear hK K; refine wpOrd_step (fun K hK => ?_) hS3; go_simp; refine hK _ _ hS3 ?_; clear hK K ho hl hb3 hu3; refine wpOrd_nil ?_; go_wp2
  go_ret
  exact ⟨_, _, rfl, HF.out⟩
end Go.Proofs.YtepjbijhkkjbfaaGreat
namespace Go.Proofs.YtepjbijhkkjbfaaGreat
open Go.RowKit
def treeV (b : Nat) (n d m : Int) (fv av : Value) : List Value := [.pointer (some ⟨b, 0, none⟩), .int .i64 n, .int .u32 d, .int .i32 m, .int .u32 0, fv, av]
def freshF (g2 g6 g3 : Nat) : Value := .func (.func 61) #[] #[.pointer (some ⟨g2, 0, none⟩), .pointer (some ⟨g6, 0, none⟩), .pointer (some ⟨g3, 0, none⟩)]
set_option maxHeartbeats 2000000 in
set_option maxRecDepth 20000 in
theorem tree_ready1 {w : World} {b r q t : Nat} {L : List Bytes} (h : BookL w b r q L) {g2 g6 g3 n : Nat} {d : Dig} (h2 : Blk w g2 33 [.pointer (some ⟨b, 0, none⟩)]) (h6 : Blk w g6 23 (encB d.1)) (h3 : Blk w g3 3 [.int .i64 (n : Int)]) (h1 : 1 ≤ n) (hn : n ≤ 1024)
    {k m : Int} (ht : Blk w t 130 (treeV b n k m (freshF g2 g6 g3) (.slice none 0 0))) {p : Nat} (hp : Blk w p 89 [.pointer (some ⟨t, 0, none⟩)]) :
    Calls Tryz.prog 76 #[.pointer (some ⟨p, 0, none⟩)] w fun e W => e = .returned (.tuple #[]) ∧ ∃ v xs, Blk W t 130 (treeV b n k m (freshF g2 g6 g3) v) ∧ OwnRows slA 1 W w.heap.size 45 v xs ∧ Lev W w.heap.size xs (levelsM shaM (List.replicate n d)) ∧ BookL W b r q (notesM L (insM shaM (List.replicate n d))) ∧ Upd (fun i => Book3 b r q i ∨ i = t) w W := by
  have hpt : p ≠ t := by rintro rfl; have h5 := hp; unfold Blk at h5 ht; rw [ht] at h5; cases h5
  have f1 : ∀ W, (Upd (fun i => Book3 b r q i ∨ i = t) w W ∧ ∃ av, Blk W t 130 (treeV b n k m (freshF g2 g6 g3) av)) → W.cell? ⟨p, 0, none⟩ = some (.pointer (some ⟨t, 0, none⟩)) := fun W hW => (hp.upd hW.1 (fun e => e.elim (h.not hp (by decide)) hpt)).cell rfl; have f2 : ∀ W, (Upd (fun i => Book3 b r q i ∨ i = t) w W ∧ ∃ av, Blk W t 130 (treeV b n k m (freshF g2 g6 g3) av)) → W.cell? ⟨t, 5, none⟩ = some (.func (.func 61) #[] #[.pointer (some ⟨g2, 0, none⟩), .pointer (some ⟨g6, 0, none⟩), .pointer (some ⟨g3, 0, none⟩)]) := fun W hW => by
    obtain ⟨_, av, hb⟩ := hW; exact hb.cell rfl
  have HX := Lib.hid (And.intro h (And.intro h2 (And.intro h6 (And.intro h3 (And.intro h1 (And.intro hn ht)))))); clear h h2 h6 h3 h1 hn ht hp
  go_enter Tryz.func76, Tryz.ntmps76
  go_wp2_with fail; refine wp_region_ord [(0, true), (1, true), (2, true), (3, true), (4, true), (5, false), (6, false), (7, false), (8, false)] (by kernel_rfl) (by kernel_rfl) (fun W => Upd (fun i => Book3 b r q i ∨ i = t) w W ∧ ∃ av, Blk W t 130 (treeV b n k m (freshF g2 g6 g3) av)) (And.intro (Upd.refl _ w).drew ⟨_, HX.out.2.2.2.2.2.2.drew⟩) ?_; simp only [ordOps, List.getD_cons_zero, List.getD_cons_succ]
  iterate 5 (refine wpOrd_held (fun K hK => ?_); go_simp; first | (apply Exists.intro; refine ⟨fun W hW => ?_, hK _ ?_⟩; (go_simp; first | done | exact rfl); clear hK K) | (refine hK _ ?_; clear hK K))
  clear f1 f2; have hS : Upd (fun i => Book3 b r q i ∨ i = t) w w.drew ∧ ∃ av, Blk w.drew t 130 (treeV b n k m (freshF g2 g6 g3) av) := And.intro (Upd.refl _ w).drew ⟨_, HX.out.2.2.2.2.2.2.drew⟩; have HB : Hid (Kept w w.drew ∧ w.drew.heap.size = w.heap.size) := ⟨(Upd.refl _ w).drew, rfl⟩; generalize w.drew = wa at *; refine wpOrd_step (fun K hK => ?_) hS; go_simp; obtain ⟨h, h2, h6, h3, h1, hn, ht⟩ := HX.out; refine (tree_fresh (h.kept HB.out.1) (h2.kept HB.out.1) (h6.kept HB.out.1) (h3.kept HB.out.1) h1 hn).mono ?_; rintro e wb ⟨v, xs, rfl, ho, hl, hb, hu⟩; have htb := (ht.kept HB.out.1).upd hu ((h.kept HB.out.1).not (ht.kept HB.out.1) (by decide)); have hS1 : Upd (fun i => Book3 b r q i ∨ i = t) w wb ∧ ∃ av, Blk wb t 130 (treeV b n k m (freshF g2 g6 g3) av) := ⟨(HB.out.1.to.trans (hu.mono fun _ _ h => .inl h)), _, htb⟩; have c6 := htb.cell (k := 6) (v := .slice none 0 0) rfl; have z6 := htb.thaw 6; have htc := htb.set 6 v; rw [show (treeV b n k m (freshF g2 g6 g3) (.slice none 0 0)).set 6 v = treeV b n k m (freshF g2 g6 g3) v from rfl] at htc; have hS2 : Upd (fun i => Book3 b r q i ∨ i = t) w (wb.setCell ⟨t, 6, none⟩ v) ∧ ∃ av, Blk (wb.setCell ⟨t, 6, none⟩ v) t 130 (treeV b n k m (freshF g2 g6 g3) av) := ⟨hS1.1.setCell (p := ⟨t, 6, none⟩) _ (fun _ => .inr rfl), _, htc⟩; have hut : Upd (fun i => i = t) wb (wb.setCell ⟨t, 6, none⟩ v) := (Upd.refl _ _).setCell (p := ⟨t, 6, none⟩) _ fun _ => rfl; have HF : Hid (Blk (wb.setCell ⟨t, 6, none⟩ v) t 130 (treeV b n k m (freshF g2 g6 g3) v) ∧ OwnRows slA 1 (wb.setCell ⟨t, 6, none⟩ v) w.heap.size 45 v xs ∧ Lev (wb.setCell ⟨t, 6, none⟩ v) w.heap.size xs (levelsM shaM (List.replicate n d)) ∧ BookL (wb.setCell ⟨t, 6, none⟩ v) b r q (notesM L (insM shaM (List.replicate n d))) ∧ Upd (fun i => Book3 b r q i ∨ i = t) w (wb.setCell ⟨t, 6, none⟩ v)) := by
    rw [HB.out.2] at ho hl; have htlt := ht.lt; refine ⟨htc, OwnRows.upd ho hut (fun i hi e => by have := (World.ownsRow.lt ho i hi).1; omega), hl.upd hut (fun i hi j hj e => by have := (hl.far i hi j hj).1; omega), hb.far htb (by decide) hut, hS2.1⟩
  obtain ⟨A, c, hv⟩ := OwnRows.form ho; subst hv; refine hK _ _ hS1 ?_; clear hK K h h2 h6 h3 h1 hn ht ho hl hb hu htc hut
  iterate 2 (refine wpOrd_step (fun K hK => ?_) hS1; go_simp; refine hK _ _ hS1 ?_; clear hK K)
  refine wpOrd_step (fun K hK => ?_) hS1; go_simp; refine hK _ _ hS2 ?_; clear hK K; refine wpOrd_nil ?_; go_wp2
  go_end0
  exact ⟨rfl, _, xs, HF.out⟩
end Go.Proofs.YtepjbijhkkjbfaaGreat
namespace Go.Proofs.YtepjbijhkkjbfaaGreat
open Go.RowKit
set_option maxRecDepth 100000 in
set_option maxHeartbeats 1600000 in
theorem slow_tree {w : World} {b off : Nat} {pl : Addr} {Q : World → Prop}
    (h0 : w.cell? ⟨b, off, none⟩ = some (.int .u32 0)) (h1 : w.cell? ⟨b, off + 1, none⟩ = some (.int .i32 0)) (f1 : w.frozen? ⟨b, off + 1, none⟩ = false)
    (hf : Calls Tryz.prog 76 #[.pointer (some pl)] (w.setCell ⟨b, off + 1, none⟩ (.int .i32 1)) fun e W => e = .returned (.tuple #[]) ∧ Q W)
    (hq : ∀ W, Q W → W.cell? ⟨b, off, none⟩ = some (.int .u32 0) ∧ W.cell? ⟨b, off + 1, none⟩ = some (.int .i32 1) ∧ W.frozen? ⟨b, off, none⟩ = false ∧ W.frozen? ⟨b, off + 1, none⟩ = false) :
    Calls Tryz.prog 83 #[.pointer (some ⟨b, off, none⟩), .func (.func 76) #[] #[.pointer (some pl)]] w fun e w' => e = .returned (.tuple #[]) ∧ ∃ W, Q W ∧ (W.drew.setCell ⟨b, off, none⟩ (.int .u32 1)).setCell ⟨b, off + 1, none⟩ (.int .i32 0) = w' := by
  have hl : (w.setCell ⟨b, off + 1, none⟩ (.int .i32 1)).cell? ⟨b, off, none⟩ = some (.int .u32 0) := (World.cell?_setCell_other _ ⟨b, off + 1, none⟩ ⟨b, off, none⟩ _ (by simp)).trans h0; have hnot : ∀ (x : Bool) (w : World), (Op.unary .not (.bool x)).run Tryz.prog w = .ok (.bool (!x)) w := fun _ _ => rfl; have HF := Lib.hid hf; have HQ := Lib.hid hq; clear hf hq
  go_enter_defers Tryz.func83, Tryz.ntmps83
  go_wp2_with fail; refine (lock_free ⟨b, off + 1, none⟩ _ h1 f1).mono ?_; rintro e w' ⟨rfl, rfl⟩; generalize w.setCell ⟨b, off + 1, none⟩ (.int .i32 1) = W1 at *; go_wp2_with fail; refine (bool_load _ _ _ _ hl).mono ?_; rintro e w' ⟨rfl, rfl⟩; go_wp2_with fail; refine HF.out.mono ?_; rintro e W ⟨rfl, hW⟩; obtain ⟨q0, q1, q2, q3⟩ := HQ.out W hW; have HW := Lib.hid hW; clear hW; go_wp2_with fail; refine leaves_cons (f := 94) (args := #[.pointer (some ⟨b, off, none⟩), .bool true]) (by simp) (by simp [go_sem]) ?_; refine (store_deferred ⟨b, off, none⟩ (.int .u32 0) .returning _ q0 (by simp [q2])).mono ?_; rintro e u' w'' ⟨rfl, rfl, rfl⟩; refine leaves_cons (f := 93) (args := #[.pointer (some ⟨b, off + 1, none⟩)]) (by simp [settle]) (by simp [go_sem]) ?_; refine (unlock_deferred ⟨b, off + 1, none⟩ _ _ ?_ (by simp [q3])).mono ?_
  · refine (World.cell?_setCell_other _ ⟨b, off, none⟩ ⟨b, off + 1, none⟩ _ (by simp)).trans ?_
    rw [World.cell?_drew]; exact q1
  rintro e u' w'' ⟨rfl, rfl, rfl⟩; simp only [Leaves, settle, results, Tryz.results83]; exact ⟨.tuple #[], by simp, rfl, W, HW.out, rfl⟩
theorem do_tree {w : World} {b off : Nat} {pl : Addr} {Q : World → Prop}
    (h0 : w.cell? ⟨b, off, none⟩ = some (.int .u32 0)) (h1 : w.cell? ⟨b, off + 1, none⟩ = some (.int .i32 0)) (f1 : w.frozen? ⟨b, off + 1, none⟩ = false)
    (hf : Calls Tryz.prog 76 #[.pointer (some pl)] (w.setCell ⟨b, off + 1, none⟩ (.int .i32 1)) fun e W => e = .returned (.tuple #[]) ∧ Q W)
    (hq : ∀ W, Q W → W.cell? ⟨b, off, none⟩ = some (.int .u32 0) ∧ W.cell? ⟨b, off + 1, none⟩ = some (.int .i32 1) ∧ W.frozen? ⟨b, off, none⟩ = false ∧ W.frozen? ⟨b, off + 1, none⟩ = false) :
    Calls Tryz.prog 75 #[.pointer (some ⟨b, off, none⟩), .func (.func 76) #[] #[.pointer (some pl)]] w fun e w' => e = .returned (.tuple #[]) ∧ ∃ W, Q W ∧ (W.drew.setCell ⟨b, off, none⟩ (.int .u32 1)).setCell ⟨b, off + 1, none⟩ (.int .i32 0) = w' := by
  have hnot : ∀ (x : Bool) (w : World), (Op.unary .not (.bool x)).run Tryz.prog w = .ok (.bool (!x)) w := fun _ _ => rfl; have HS := Lib.hid (slow_tree h0 h1 f1 hf hq); have HL := Lib.hid (bool_load _ _ _ _ h0); clear h0 h1 f1 hf hq
  go_enter Tryz.func75, Tryz.ntmps75
  go_wp2_with fail; refine HL.out.mono ?_; rintro e w' ⟨rfl, rfl⟩; go_wp2_with fail; refine HS.out.mono ?_; rintro e w' ⟨rfl, W, hW, rfl⟩; have HW := Lib.hid hW; clear hW HS HL; generalize hE : (W.drew.setCell ⟨b, off, none⟩ (.int .u32 1)).setCell ⟨b, off + 1, none⟩ (.int .i32 0) = w2 at *; have HE := Lib.hid hE; clear hE; go_wp2
  go_end0
  exact ⟨rfl, W, HW.out, HE.out⟩
theorem Blk.ty {W : World} {g t1 t2 : Nat} {v1 v2 : List Value} (h1 : Blk W g t1 v1) (h2 : Blk W g t2 v2) : t1 = t2 := by
  unfold Blk at h1 h2; rw [h1] at h2; simp only [Option.some.injEq, Obj.cells.injEq] at h2; exact h2.2.1
theorem BookL.blkT {W W' : World} {b r q : Nat} {L : List Bytes} (h : BookL W b r q L) {t : Nat} {vs : List Value} (ht : Blk W t 130 vs) (hu : Upd (fun k => k = t) W W') : BookL W' b r q L := h.far ht (by decide) hu
set_option maxHeartbeats 2000000 in
set_option maxRecDepth 20000 in
theorem tree_ready {w : World} {b r q t : Nat} {L : List Bytes} (h : BookL w b r q L) {g2 g6 g3 n : Nat} {d : Dig} (h2 : Blk w g2 33 [.pointer (some ⟨b, 0, none⟩)]) (h6 : Blk w g6 23 (encB d.1)) (h3 : Blk w g3 3 [.int .i64 (n : Int)]) (h1 : 1 ≤ n) (hn : n ≤ 1024)
    (ht : Blk w t 130 (treeV b n 0 0 (freshF g2 g6 g3) (.slice none 0 0))) :
    Calls Tryz.prog 64 #[.pointer (some ⟨t, 0, none⟩)] w fun e W => e = .returned (.tuple #[]) ∧ ∃ v xs, Blk W t 130 (treeV b n 1 0 (freshF g2 g6 g3) v) ∧ OwnRows slA 1 W w.heap.size 45 v xs ∧ Lev W w.heap.size xs (levelsM shaM (List.replicate n d)) ∧ BookL W b r q (notesM L (insM shaM (List.replicate n d))) ∧ Upd (fun i => Book3 b r q i ∨ i = t) w W := by
  have hka : Kept w (w.alloc (.cells #[.pointer (some ⟨t, 0, none⟩)] 89)) := (Upd.refl _ w).alloc _; have hp : Blk (w.alloc (.cells #[.pointer (some ⟨t, 0, none⟩)] 89)) w.heap.size 89 [.pointer (some ⟨t, 0, none⟩)] := Blk.new w _ _; have hsz : w.heap.size ≤ (w.alloc (.cells #[.pointer (some ⟨t, 0, none⟩)] 89)).heap.size := hka.size; have htlt := ht.lt; have HH := Lib.hid (And.intro (h.kept hka) (And.intro (h2.kept hka) (And.intro (h6.kept hka) (And.intro (h3.kept hka) (And.intro h1 (And.intro hn (And.intro (ht.kept hka) (And.intro hp (And.intro hka (And.intro hsz htlt)))))))))); clear h h2 h6 h3 h1 hn ht hka hp hsz htlt; have hmf : ∀ (fn : Fn) (first cap : Array Value) (w : World), (Instr.makeFunc fn first cap).run Tryz.prog w = .ok (.func fn first cap) w := fun _ _ _ _ => rfl
  go_enter Tryz.func64, Tryz.ntmps64
  go_wp2_with fail; generalize w.alloc (.cells #[.pointer (some ⟨t, 0, none⟩)] 89) = w1 at *; obtain ⟨h, h2, h6, h3, h1, hn, ht, hp, hka, hsz, htlt⟩ := HH.out; refine (do_tree (b := t) (off := 2) (pl := ⟨w.heap.size, 0, none⟩) (Q := fun W => ∃ v xs, Blk W t 130 (treeV b n 0 1 (freshF g2 g6 g3) v) ∧ OwnRows slA 1 W w.heap.size 45 v xs ∧ Lev W w.heap.size xs (levelsM shaM (List.replicate n d)) ∧ BookL W b r q (notesM L (insM shaM (List.replicate n d))) ∧ Upd (fun i => Book3 b r q i ∨ i = t) w W) (ht.cell rfl) (ht.cell rfl) (ht.thaw 3) ?_ ?_).mono ?_
  · have ht2 := ht.set 3 (.int .i32 1)
    have hut : Upd (fun i => i = t) w1 (w1.setCell ⟨t, 3, none⟩ (.int .i32 1)) := (Upd.refl _ _).setCell (p := ⟨t, 3, none⟩) _ fun _ => rfl; have ne2 : g2 ≠ t := by rintro rfl; exact absurd (Blk.ty h2 ht) (by decide)
    have ne6 : g6 ≠ t := by rintro rfl; exact absurd (Blk.ty h6 ht) (by decide)
    have ne3 : g3 ≠ t := by rintro rfl; exact absurd (Blk.ty h3 ht) (by decide)
    refine (tree_ready1 (h.blkT ht hut) (h2.upd hut ne2) (h6.upd hut ne6) (h3.upd hut ne3) h1 hn (k := 0) (m := 1) ht2 (hp.upd hut (by omega))).mono ?_; rintro e W ⟨rfl, v, xs, k1, k2, k3, k4, k5⟩; have hs1 : w.heap.size ≤ (w1.setCell ⟨t, 3, none⟩ (.int .i32 1)).heap.size := by have := hut.size; omega
    refine ⟨rfl, v, xs, k1, own_base k2 hs1, ⟨k3.len, fun i hi hi' => ⟨own_base (k3.row i hi hi').1 hs1, (k3.row i hi hi').2⟩, k3.apart⟩, k4, ?_⟩; exact (hka.to.trans (hut.mono fun _ _ e => .inr e)).trans k5
  · rintro W ⟨v, xs, k1, _⟩
    exact ⟨k1.cell rfl, k1.cell rfl, k1.thaw 2, k1.thaw 3⟩
  rintro e w2 ⟨rfl, W, ⟨v, xs, k1, k2, k3, k4, k5⟩, rfl⟩; have m1 : Blk ((W.drew.setCell ⟨t, 2, none⟩ (.int .u32 1)).setCell ⟨t, 2 + 1, none⟩ (.int .i32 0)) t 130 (treeV b n 1 0 (freshF g2 g6 g3) v) := (k1.drew.set 2 (.int .u32 1)).set 3 (.int .i32 0); have hut : Upd (fun i => i = t) W ((W.drew.setCell ⟨t, 2, none⟩ (.int .u32 1)).setCell ⟨t, 2 + 1, none⟩ (.int .i32 0)) := ((Upd.refl (fun i => i = t) W).drew.setCell (p := ⟨t, 2, none⟩) (.int .u32 1) fun _ => rfl).setCell (p := ⟨t, 2 + 1, none⟩) (.int .i32 0) fun _ => rfl; have HF : Hid (∃ v xs, Blk ((W.drew.setCell ⟨t, 2, none⟩ (.int .u32 1)).setCell ⟨t, 2 + 1, none⟩ (.int .i32 0)) t 130 (treeV b n 1 0 (freshF g2 g6 g3) v) ∧ OwnRows slA 1 ((W.drew.setCell ⟨t, 2, none⟩ (.int .u32 1)).setCell ⟨t, 2 + 1, none⟩ (.int .i32 0)) w.heap.size 45 v xs ∧ Lev ((W.drew.setCell ⟨t, 2, none⟩ (.int .u32 1)).setCell ⟨t, 2 + 1, none⟩ (.int .i32 0)) w.heap.size xs (levelsM shaM (List.replicate n d)) ∧ BookL ((W.drew.setCell ⟨t, 2, none⟩ (.int .u32 1)).setCell ⟨t, 2 + 1, none⟩ (.int .i32 0)) b r q (notesM L (insM shaM (List.replicate n d))) ∧ Upd (fun i => Book3 b r q i ∨ i = t) w ((W.drew.setCell ⟨t, 2, none⟩ (.int .u32 1)).setCell ⟨t, 2 + 1, none⟩ (.int .i32 0))) :=
    ⟨v, xs, m1, OwnRows.upd k2 hut (fun i hi e => by have := (World.ownsRow.lt k2 i hi).1; omega), k3.upd hut (fun i hi j hj e => by have := (k3.far i hi j hj).1; omega), k4.blkT k1 hut, k5.trans (hut.mono fun _ _ e => .inr e)⟩
  clear k1 k2 k3 k4 k5 m1 hut HH h h2 h6 h3 h1 hn ht hp hka hsz htlt; generalize (W.drew.setCell ⟨t, 2, none⟩ (.int .u32 1)).setCell ⟨t, 2 + 1, none⟩ (.int .i32 0) = w2 at *; go_wp2
  go_end0
  exact ⟨rfl, HF.out⟩
end Go.Proofs.YtepjbijhkkjbfaaGreat
namespace Go.Proofs.YtepjbijhkkjbfaaGreat
open Go.RowKit
structure TreeI (W : World) (lo hi t b n : Nat) (ls : List (List Dig)) (fv v : Value) (xs : List SlC) : Prop where
  blk : Blk W t 130 (treeV b n 1 0 fv v)
  all : OwnRows slA 1 W lo 45 v xs
  lev : Lev W lo xs ls
  vhi : ∀ k, v.ownBlock = some k → k < hi
  xhi : ∀ i (h : i < xs.length) k, xs[i].v.ownBlock = some k → k < hi
  tlo : lo ≤ t
  thi : t < hi
  sz : hi ≤ W.heap.size
  n1 : 1 ≤ n
  n2 : n ≤ 1024
def TreeAt (W : World) (lo hi t b : Nat) (D : List Dig) : Prop := ∃ fv v xs, TreeI W lo hi t b D.length (levelsM shaM D) fv v xs
section
variable {W W' : World} {lo hi t b n : Nat} {ls : List (List Dig)} {D : List Dig} {fv v : Value} {xs : List SlC} {S : Nat → Prop}
theorem TreeI.upd (h : TreeI W lo hi t b n ls fv v xs) (hu : Upd S W W') (hs : ∀ k, lo ≤ k → k < hi → (∃ cs t', W.heap[k]? = some (.cells cs t' (0, 0)) ∧ t' ≠ 79) → ¬ S k) : TreeI W' lo hi t b n ls fv v xs := by
  refine ⟨h.blk.upd hu (hs t h.tlo h.thi ⟨_, _, h.blk, by decide⟩), OwnRows.upd h.all hu (fun k e => ?_), h.lev.upd hu (fun i hi k e => ?_), h.vhi, h.xhi, h.tlo, h.thi, Nat.le_trans h.sz hu.size, h.n1, h.n2⟩
  · obtain ⟨cur, hc⟩ := own_cells h.all e
    exact hs k (World.ownsRow.lt h.all k e).1 (h.vhi k e) ⟨_, _, hc, by decide⟩
  · obtain ⟨cur, hc⟩ := own_cells (h.lev.row i hi (by rw [← h.lev.len]; exact hi)).1 e
    exact hs k (h.lev.far i hi k e).1 (h.xhi i hi k e) ⟨_, _, hc, by decide⟩
theorem TreeI.kept (h : TreeI W lo hi t b n ls fv v xs) (hu : Kept W W') : TreeI W' lo hi t b n ls fv v xs := h.upd hu fun _ _ _ _ => id
theorem TreeI.book (h : TreeI W lo hi t b n ls fv v xs) {b' r q : Nat} {L : List Bytes} (hb : BookL W b' r q L) (hu : Upd (Book3 b' r q) W W') : TreeI W' lo hi t b n ls fv v xs :=
  h.upd hu fun k _ _ ⟨_, _, hc, ht⟩ => hb.not hc ht
theorem TreeAt.upd (h : TreeAt W lo hi t b D) (hu : Upd S W W') (hs : ∀ k, lo ≤ k → k < hi → (∃ cs t', W.heap[k]? = some (.cells cs t' (0, 0)) ∧ t' ≠ 79) → ¬ S k) : TreeAt W' lo hi t b D := by
  obtain ⟨fv, v, xs, h⟩ := h; exact ⟨fv, v, xs, h.upd hu hs⟩
theorem TreeAt.kept (h : TreeAt W lo hi t b D) (hu : Kept W W') : TreeAt W' lo hi t b D := h.upd hu fun _ _ _ _ => id
end
def treeA (b : Nat) (n : Int) : Array Value := (treeV b n 0 0 .nilFunc (.slice none 0 0)).toArray
@[go_sem ↓] theorem exec_build_tree (ρ : Operand → Value) (dst : Option Tmp) (parts : Array (Nat × Operand)) (ty : TypeId) (pos : String) (after : Array Edge) (guard : Option (Nat × Bool)) :
    execOp ρ ⟨dst, .build 130 parts, ty, pos, after, guard⟩ = buildRow 130 (parts.map fun (i, x) => (i, ρ x)) := rfl
@[go_sem] theorem run_build_tree (b : Nat) (n : Int) (W : World) : (buildRow 130 #[(0, .pointer (some ⟨b, 0, none⟩)), (1, .int .i64 n)]).run Tryz.prog W = .ok (.value (.agg (treeA b n))) W := by
  have H := run_build (P := Tryz.prog) W 130 #[(0, .pointer (some ⟨b, 0, none⟩)), (1, .int .i64 n)] (treeA b n) (by unfold treeA treeV; kernel_rfl); simp [buildRow, H, Result.andThen]
set_option maxHeartbeats 2000000 in
set_option maxRecDepth 20000 in
theorem tree_New {w : World} {b r q : Nat} {L : List Bytes} (h : BookL w b r q L) (n : Nat) (h1 : 1 ≤ n) (hn : n ≤ 1024) :
    Calls Tryz.prog 47 #[.pointer (some ⟨b, 0, none⟩), .int .i64 n] w fun e W => ∃ t, e = .returned (.tuple #[.pointer (some ⟨t, 0, none⟩), .int .i64 0]) ∧ w.heap.size ≤ t ∧ TreeAt W w.heap.size W.heap.size t b (List.replicate n (leafM shaM [])) ∧ BookL W b r q (notesM (noteM L (leafIn [])) (insM shaM (List.replicate n (leafM shaM [])))) ∧ Upd (Book3 b r q) w W := by
  have hb1 := h.kept ((Upd.refl (fun _ => False) w).alloc (.cells #[.pointer (some ⟨b, 0, none⟩)] 33)); have h21 : Blk (w.alloc (.cells #[.pointer (some ⟨b, 0, none⟩)] 33)) w.heap.size 33 [.pointer (some ⟨b, 0, none⟩)] := Blk.new w _ _; have hk1 : Kept w (w.alloc (.cells #[.pointer (some ⟨b, 0, none⟩)] 33)) := (Upd.refl _ w).alloc _; generalize hW1 : w.alloc (.cells #[.pointer (some ⟨b, 0, none⟩)] 33) = w1 at *; have hb2 := hb1.kept ((Upd.refl (fun _ => False) w1).alloc (.cells #[.int .i64 (n : Int)] 3)); have h22 := h21.alloc (.cells #[.int .i64 (n : Int)] 3); have h32 : Blk (w1.alloc (.cells #[.int .i64 (n : Int)] 3)) w1.heap.size 3 [.int .i64 (n : Int)] := Blk.new w1 _ _; have hk2 : Kept w (w1.alloc (.cells #[.int .i64 (n : Int)] 3)) := hk1.alloc _; generalize hW2 : w1.alloc (.cells #[.int .i64 (n : Int)] 3) = w2 at *; have c2 := h22.cell (k := 0) rfl; have c3 := h32.cell (k := 0) rfl; have HX := Lib.hid (And.intro hb2 (And.intro h22 (And.intro h32 (And.intro hk2 (And.intro h1 hn))))); have hn1 : decide ((n : Int) < 1) = false := by rw [decide_eq_false_iff_not]; omega
  have hn2 : decide ((1024 : Int) < (n : Int)) = false := by rw [decide_eq_false_iff_not]; omega
  clear h hb1 h21 hk1 hb2 h22 h32 hk2 h1 hn
  go_enter Tryz.func47, Tryz.ntmps47
  go_wp2_with fail; refine (tree_Leaf (R := []) HX.out.1 0 (.inl rfl) (by simp)).mono ?_; rintro e w3 ⟨rfl, hb3, hu3⟩; obtain ⟨hb2, h22, h32, hk2, h1, hn⟩ := HX.out; have h23 := h22.upd hu3 (hb2.not h22 (by decide)); have h33 := h32.upd hu3 (hb2.not h32 (by decide)); have hk3 : Upd (Book3 b r q) w w3 := hk2.to.trans hu3; clear hb2 h22 h32 hk2 hu3; have hb4 := hb3.kept ((Upd.refl (fun _ => False) w3).alloc (.cells (dA dig0) 23)); have h24 := h23.alloc (.cells (dA dig0) 23); have h34 := h33.alloc (.cells (dA dig0) 23); have h64 : Blk (w3.alloc (.cells (dA dig0) 23)) w3.heap.size 23 (encB dig0.1) := Blk.new w3 _ _; have hk4 : Upd (Book3 b r q) w (w3.alloc (.cells (dA dig0) 23)) := hk3.alloc _; have hs3 := hk3.size; generalize hW4 : w3.alloc (.cells (dA dig0) 23) = w4 at *; have hr4 := (dig_end (leafM shaM []) h64).1; have hu5 : Upd (fun k => k = w3.heap.size) w4 (w4.setRow w3.heap.size (dA (leafM shaM []))) := (Upd.refl _ _).setRow _ _ fun _ => rfl; have hb5 := hb4.far h64 (by decide) hu5; have n2 : w.heap.size ≠ w3.heap.size := fun e => absurd (Blk.ty (e ▸ h24) h64) (by decide); have n3 : w1.heap.size ≠ w3.heap.size := fun e => absurd (Blk.ty (e ▸ h34) h64) (by decide); have h25 := h24.upd hu5 n2; have h35 := h34.upd hu5 n3; have h65 : Blk (w4.setRow w3.heap.size (dA (leafM shaM []))) w3.heap.size 23 (encB (leafM shaM []).1) := h64.setRow _; have hk5 : Upd (fun k => Book3 b r q k ∨ w.heap.size ≤ k) w (w4.setRow w3.heap.size (dA (leafM shaM []))) := (hk4.mono fun _ _ e => .inl e).trans (hu5.mono fun k _ e => .inr (by omega)); generalize hW5 : w4.setRow w3.heap.size (dA (leafM shaM [])) = w5 at *; have c25 := h25.cell (k := 0) rfl; have c35 := h35.cell (k := 0) rfl; have hka : Kept w5 (w5.alloc (.cells (treeA b n) 130)) := (Upd.refl _ _).alloc _; have hb6 := hb5.kept hka; have h26 := h25.kept hka; have h36 := h35.kept hka; have h66 := h65.kept hka; have ht6 : Blk (w5.alloc (.cells (treeA b n) 130)) w5.heap.size 130 (treeV b n 0 0 .nilFunc (.slice none 0 0)) := Blk.new w5 _ _; have hk6 := hk5.alloc (.cells (treeA b n) 130); generalize hW6 : w5.alloc (.cells (treeA b n) 130) = w6 at *; have z6 := ht6.thaw 5; have c6 := ht6.cell (k := 5) rfl; have hst : (store ⟨w5.heap.size, 5, none⟩ (freshF w.heap.size w3.heap.size w1.heap.size)).run Tryz.prog w6 = .ok () (w6.setCell ⟨w5.heap.size, 5, none⟩ (freshF w.heap.size w3.heap.size w1.heap.size)) := by
    rw [run_store _ _ _ _ _ rfl, c6]; simp only [z6]
    rfl
  have hu7 : Upd (fun k => k = w5.heap.size) w6 (w6.setCell ⟨w5.heap.size, 5, none⟩ (freshF w.heap.size w3.heap.size w1.heap.size)) := (Upd.refl _ _).setCell (p := ⟨w5.heap.size, 5, none⟩) _ fun _ => rfl; have hb7 := hb6.far ht6 (by decide) hu7; have l2 := h25.lt; have l3 := h35.lt; have l6 := h65.lt; have h27 := h26.upd hu7 (by omega); have h37 := h36.upd hu7 (by omega); have h67 := h66.upd hu7 (by omega); have ht7 : Blk (w6.setCell ⟨w5.heap.size, 5, none⟩ (freshF w.heap.size w3.heap.size w1.heap.size)) w5.heap.size 130 (treeV b n 0 0 (freshF w.heap.size w3.heap.size w1.heap.size) (.slice none 0 0)) := ht6.set 5 _; have hs5 : w.heap.size ≤ w5.heap.size := by omega
  have hk7 := hk6.trans (hu7.mono fun k _ e => .inr (by omega)); have HZ := Lib.hid (And.intro hb7 (And.intro h27 (And.intro h67 (And.intro h37 (And.intro h1 (And.intro hn (And.intro ht7 (And.intro hk7 hs5)))))))); clear hb3 h23 h33 hk3 hb4 h24 h34 h64 hk4 hs3 hu5 hb5 n2 n3 h25 h35 h65 hk5 hka hb6 h26 h36 h66 ht6 hk6 hu7 hb7 l2 l3 l6 h27 h37 h67 ht7 hk7 h1 hn HX; have hmf : ∀ (fn : Fn) (first cap : Array Value) (w : World), (Instr.makeFunc fn first cap).run Tryz.prog w = .ok (.func fn first cap) w := fun _ _ _ _ => rfl; unfold freshF at *; go_wp2_with fail; obtain ⟨hb7, h27, h67, h37, h1, hn, ht7, hk7, hs5⟩ := HZ.out; have hsz := ht7.lt; have hsz5 := hk7.size; have hs7 := ht7.lt; generalize w6.setCell ⟨w5.heap.size, 5, none⟩ _ = w7 at *; refine (tree_ready hb7 h27 h67 h37 h1 hn ht7).mono ?_; rintro e W ⟨rfl, v, xs, k1, k2, k3, k4, k5⟩; have HY : Hid (w.heap.size ≤ w5.heap.size ∧ TreeAt W w.heap.size W.heap.size w5.heap.size b (List.replicate n (leafM shaM [])) ∧ BookL W b r q (notesM (noteM L (leafIn [])) (insM shaM (List.replicate n (leafM shaM [])))) ∧ Upd (Book3 b r q) w W) := by
    refine ⟨hs5, ⟨_, v, xs, ⟨by rw [List.length_replicate]; exact k1, own_base k2 hsz5, ⟨k3.len, fun i hi hi' => ⟨own_base (k3.row i hi hi').1 hsz5, (k3.row i hi hi').2⟩, k3.apart⟩, fun k e => (World.ownsRow.lt k2 k e).2, fun i hi k e => (k3.far i hi k e).2, hs5, k1.lt, Nat.le_refl _, by rw [List.length_replicate]; exact h1, by rw [List.length_replicate]; exact hn⟩⟩, k4, ?_⟩; exact (hk7.then k5 (fun k hk e => e.elim .inl (fun e => .inr (by omega)))).mono (fun k hk e => e.elim id (fun e => by omega))
  clear hb7 h27 h67 h37 h1 hn ht7 hk7 hs5 k1 k2 k3 k4 k5; go_wp2
  go_ret2
  obtain ⟨y1, y2, y3, y4⟩ := HY.out; exact ⟨_, rfl, y1, y2, y3, y4⟩
end Go.Proofs.YtepjbijhkkjbfaaGreat
