/- The texts of this hand-in, merged: TreeH TreeI TreeJ TreeK TreeL TreeM InkC Eq TreeN TreeO Args TreeP TreeQ TreeR Climb MadeM. -/
import Derived.Test.YtnncpjekcljfbaaSetC
import Derived.Test.YtnncpjekcljfbaaSetA
import Derived.DeepKeys
/- tree: New. -/
namespace Go.Proofs.Ytnncpjekcljfbaa
open Go.RowKit

set_option maxRecDepth 100000 in
set_option maxHeartbeats 1600000 in
/-- doSlow: not yet done, the lock free -/
theorem slow_tree {w : World} {b off : Nat} {pl : Addr} {Q : World → Prop}
    (h0 : w.cell? ⟨b, off, none⟩ = some (.int .u32 0)) (h1 : w.cell? ⟨b, off + 1, none⟩ = some (.int .i32 0)) (f1 : w.frozen? ⟨b, off + 1, none⟩ = false)
    (hf : Calls Try.prog 103 #[.pointer (some pl)] (w.setCell ⟨b, off + 1, none⟩ (.int .i32 1)) fun e W => e = .returned (.tuple #[]) ∧ Q W)
    (hq : ∀ W, Q W → W.cell? ⟨b, off, none⟩ = some (.int .u32 0) ∧ W.cell? ⟨b, off + 1, none⟩ = some (.int .i32 1) ∧ W.frozen? ⟨b, off, none⟩ = false ∧ W.frozen? ⟨b, off + 1, none⟩ = false) :
    Calls Try.prog 115 #[.pointer (some ⟨b, off, none⟩), .func (.func 103) #[] #[.pointer (some pl)]] w fun e w' => e = .returned (.tuple #[]) ∧ ∃ W, Q W ∧ (W.drew.setCell ⟨b, off, none⟩ (.int .u32 1)).setCell ⟨b, off + 1, none⟩ (.int .i32 0) = w' := by
  have hl : (w.setCell ⟨b, off + 1, none⟩ (.int .i32 1)).cell? ⟨b, off, none⟩ = some (.int .u32 0) := (World.cell?_setCell_other _ ⟨b, off + 1, none⟩ ⟨b, off, none⟩ _ (by simp)).trans h0
  have hnot : ∀ (x : Bool) (w : World), (Op.unary .not (.bool x)).run Try.prog w = .ok (.bool (!x)) w := fun _ _ => rfl
  have HF := Lib.hid hf
  have HQ := Lib.hid hq
  clear hf hq
  go_enter_defers Try.func115, Try.ntmps115
  go_wp2_with fail
  refine (lock_free ⟨b, off + 1, none⟩ _ h1 f1).mono ?_
  rintro e w' ⟨rfl, rfl⟩
  generalize w.setCell ⟨b, off + 1, none⟩ (.int .i32 1) = W1 at *
  go_wp2_with fail
  refine (bool_load _ _ _ _ hl).mono ?_
  rintro e w' ⟨rfl, rfl⟩
  go_wp2_with fail
  refine HF.out.mono ?_
  rintro e W ⟨rfl, hW⟩
  obtain ⟨q0, q1, q2, q3⟩ := HQ.out W hW
  have HW := Lib.hid hW
  clear hW
  go_wp2_with fail
  refine leaves_cons (f := 125) (args := #[.pointer (some ⟨b, off, none⟩), .bool true]) (by simp) (by simp [go_sem]) ?_
  refine (store_deferred ⟨b, off, none⟩ (.int .u32 0) .returning _ q0 (by simp [q2])).mono ?_
  rintro e u' w'' ⟨rfl, rfl, rfl⟩
  refine leaves_cons (f := 124) (args := #[.pointer (some ⟨b, off + 1, none⟩)]) (by simp [settle]) (by simp [go_sem]) ?_
  refine (unlock_deferred ⟨b, off + 1, none⟩ _ _ ?_ (by simp [q3])).mono ?_
  · refine (World.cell?_setCell_other _ ⟨b, off, none⟩ ⟨b, off + 1, none⟩ _ (by simp)).trans ?_
    rw [World.cell?_drew]
    exact q1
  rintro e u' w'' ⟨rfl, rfl, rfl⟩
  simp only [Leaves, settle, results, Try.results115]
  exact ⟨.tuple #[], by simp, rfl, W, HW.out, rfl⟩

/-- Do: not yet done, the lock free -/
theorem do_tree {w : World} {b off : Nat} {pl : Addr} {Q : World → Prop}
    (h0 : w.cell? ⟨b, off, none⟩ = some (.int .u32 0)) (h1 : w.cell? ⟨b, off + 1, none⟩ = some (.int .i32 0)) (f1 : w.frozen? ⟨b, off + 1, none⟩ = false)
    (hf : Calls Try.prog 103 #[.pointer (some pl)] (w.setCell ⟨b, off + 1, none⟩ (.int .i32 1)) fun e W => e = .returned (.tuple #[]) ∧ Q W)
    (hq : ∀ W, Q W → W.cell? ⟨b, off, none⟩ = some (.int .u32 0) ∧ W.cell? ⟨b, off + 1, none⟩ = some (.int .i32 1) ∧ W.frozen? ⟨b, off, none⟩ = false ∧ W.frozen? ⟨b, off + 1, none⟩ = false) :
    Calls Try.prog 102 #[.pointer (some ⟨b, off, none⟩), .func (.func 103) #[] #[.pointer (some pl)]] w fun e w' => e = .returned (.tuple #[]) ∧ ∃ W, Q W ∧ (W.drew.setCell ⟨b, off, none⟩ (.int .u32 1)).setCell ⟨b, off + 1, none⟩ (.int .i32 0) = w' := by
  have hnot : ∀ (x : Bool) (w : World), (Op.unary .not (.bool x)).run Try.prog w = .ok (.bool (!x)) w := fun _ _ => rfl
  have HS := Lib.hid (slow_tree h0 h1 f1 hf hq)
  have HL := Lib.hid (bool_load _ _ _ _ h0)
  clear h0 h1 f1 hf hq
  go_enter Try.func102, Try.ntmps102
  go_wp2_with fail
  refine HL.out.mono ?_
  rintro e w' ⟨rfl, rfl⟩
  go_wp2_with fail
  refine HS.out.mono ?_
  rintro e w' ⟨rfl, W, hW, rfl⟩
  have HW := Lib.hid hW
  clear hW HS HL
  generalize hE : (W.drew.setCell ⟨b, off, none⟩ (.int .u32 1)).setCell ⟨b, off + 1, none⟩ (.int .i32 0) = w2 at *
  have HE := Lib.hid hE
  clear hE
  go_wp2
  go_end0
  exact ⟨rfl, W, HW.out, HE.out⟩

theorem Blk.ty {W : World} {g t1 t2 : Nat} {v1 v2 : List Value} (h1 : Blk W g t1 v1) (h2 : Blk W g t2 v2) : t1 = t2 := by
  unfold Blk at h1 h2
  rw [h1] at h2
  simp only [Option.some.injEq, Obj.cells.injEq] at h2
  exact h2.2.1
theorem BookL.blkT {W W' : World} {b r q : Nat} {L : List Bytes} (h : BookL W b r q L) {t : Nat} {vs : List Value} (ht : Blk W t 103 vs) (hu : Upd (fun k => k = t) W W') : BookL W' b r q L := h.far ht (by decide) hu

set_option maxHeartbeats 2000000 in
set_option maxRecDepth 20000 in
theorem tree_ready {w : World} {b r q t : Nat} {L : List Bytes} (h : BookL w b r q L) {g2 g6 g3 n : Nat} {d : Dig} (h2 : Blk w g2 23 [.pointer (some ⟨b, 0, none⟩)]) (h6 : Blk w g6 46 (encB d.1)) (h3 : Blk w g3 3 [.int .i64 (n : Int)]) (h1 : 1 ≤ n) (hn : n ≤ 1024)
    (ht : Blk w t 103 (treeV b n 0 0 (freshF g2 g6 g3) (.slice none 0 0))) :
    Calls Try.prog 79 #[.pointer (some ⟨t, 0, none⟩)] w fun e W => e = .returned (.tuple #[]) ∧ ∃ v xs, Blk W t 103 (treeV b n 1 0 (freshF g2 g6 g3) v) ∧ OwnRows slA 1 W w.heap.size 41 v xs ∧ Lev W w.heap.size xs (levelsM shaM (List.replicate n d)) ∧ BookL W b r q (notesM L (insM shaM (List.replicate n d))) ∧ Upd (fun i => Book3 b r q i ∨ i = t) w W := by
  have hka : Kept w (w.alloc (.cells #[.pointer (some ⟨t, 0, none⟩)] 27)) := (Upd.refl _ w).alloc _
  have hp : Blk (w.alloc (.cells #[.pointer (some ⟨t, 0, none⟩)] 27)) w.heap.size 27 [.pointer (some ⟨t, 0, none⟩)] := Blk.new w _ _
  have hsz : w.heap.size ≤ (w.alloc (.cells #[.pointer (some ⟨t, 0, none⟩)] 27)).heap.size := hka.size
  have htlt := ht.lt
  have HH := Lib.hid (And.intro (h.kept hka) (And.intro (h2.kept hka) (And.intro (h6.kept hka) (And.intro (h3.kept hka) (And.intro h1 (And.intro hn (And.intro (ht.kept hka) (And.intro hp (And.intro hka (And.intro hsz htlt))))))))))
  clear h h2 h6 h3 h1 hn ht hka hp hsz htlt
  have hmf : ∀ (fn : Fn) (first cap : Array Value) (w : World), (Instr.makeFunc fn first cap).run Try.prog w = .ok (.func fn first cap) w := fun _ _ _ _ => rfl
  go_enter Try.func79, Try.ntmps79
  go_wp2_with fail
  generalize w.alloc (.cells #[.pointer (some ⟨t, 0, none⟩)] 27) = w1 at *
  obtain ⟨h, h2, h6, h3, h1, hn, ht, hp, hka, hsz, htlt⟩ := HH.out
  refine (do_tree (b := t) (off := 2) (pl := ⟨w.heap.size, 0, none⟩) (Q := fun W => ∃ v xs, Blk W t 103 (treeV b n 0 1 (freshF g2 g6 g3) v) ∧ OwnRows slA 1 W w.heap.size 41 v xs ∧ Lev W w.heap.size xs (levelsM shaM (List.replicate n d)) ∧ BookL W b r q (notesM L (insM shaM (List.replicate n d))) ∧ Upd (fun i => Book3 b r q i ∨ i = t) w W) (ht.cell rfl) (ht.cell rfl) (ht.thaw 3) ?_ ?_).mono ?_
  · have ht2 := ht.set 3 (.int .i32 1)
    have hut : Upd (fun i => i = t) w1 (w1.setCell ⟨t, 3, none⟩ (.int .i32 1)) := (Upd.refl _ _).setCell (p := ⟨t, 3, none⟩) _ fun _ => rfl
    have ne2 : g2 ≠ t := by rintro rfl; exact absurd (Blk.ty h2 ht) (by decide)
    have ne6 : g6 ≠ t := by rintro rfl; exact absurd (Blk.ty h6 ht) (by decide)
    have ne3 : g3 ≠ t := by rintro rfl; exact absurd (Blk.ty h3 ht) (by decide)
    refine (tree_ready1 (h.blkT ht hut) (h2.upd hut ne2) (h6.upd hut ne6) (h3.upd hut ne3) h1 hn (k := 0) (m := 1) ht2 (hp.upd hut (by omega))).mono ?_
    rintro e W ⟨rfl, v, xs, k1, k2, k3, k4, k5⟩
    have hs1 : w.heap.size ≤ (w1.setCell ⟨t, 3, none⟩ (.int .i32 1)).heap.size := by have := hut.size; omega
    refine ⟨rfl, v, xs, k1, own_base k2 hs1, ⟨k3.len, fun i hi hi' => ⟨own_base (k3.row i hi hi').1 hs1, (k3.row i hi hi').2⟩, k3.apart⟩, k4, ?_⟩
    exact (hka.to.trans (hut.mono fun _ _ e => .inr e)).trans k5
  · rintro W ⟨v, xs, k1, _⟩
    exact ⟨k1.cell rfl, k1.cell rfl, k1.thaw 2, k1.thaw 3⟩
  rintro e w2 ⟨rfl, W, ⟨v, xs, k1, k2, k3, k4, k5⟩, rfl⟩
  have m1 : Blk ((W.drew.setCell ⟨t, 2, none⟩ (.int .u32 1)).setCell ⟨t, 2 + 1, none⟩ (.int .i32 0)) t 103 (treeV b n 1 0 (freshF g2 g6 g3) v) := (k1.drew.set 2 (.int .u32 1)).set 3 (.int .i32 0)
  have hut : Upd (fun i => i = t) W ((W.drew.setCell ⟨t, 2, none⟩ (.int .u32 1)).setCell ⟨t, 2 + 1, none⟩ (.int .i32 0)) := ((Upd.refl (fun i => i = t) W).drew.setCell (p := ⟨t, 2, none⟩) (.int .u32 1) fun _ => rfl).setCell (p := ⟨t, 2 + 1, none⟩) (.int .i32 0) fun _ => rfl
  have HF : Hid (∃ v xs, Blk ((W.drew.setCell ⟨t, 2, none⟩ (.int .u32 1)).setCell ⟨t, 2 + 1, none⟩ (.int .i32 0)) t 103 (treeV b n 1 0 (freshF g2 g6 g3) v) ∧ OwnRows slA 1 ((W.drew.setCell ⟨t, 2, none⟩ (.int .u32 1)).setCell ⟨t, 2 + 1, none⟩ (.int .i32 0)) w.heap.size 41 v xs ∧ Lev ((W.drew.setCell ⟨t, 2, none⟩ (.int .u32 1)).setCell ⟨t, 2 + 1, none⟩ (.int .i32 0)) w.heap.size xs (levelsM shaM (List.replicate n d)) ∧ BookL ((W.drew.setCell ⟨t, 2, none⟩ (.int .u32 1)).setCell ⟨t, 2 + 1, none⟩ (.int .i32 0)) b r q (notesM L (insM shaM (List.replicate n d))) ∧ Upd (fun i => Book3 b r q i ∨ i = t) w ((W.drew.setCell ⟨t, 2, none⟩ (.int .u32 1)).setCell ⟨t, 2 + 1, none⟩ (.int .i32 0))) :=
    ⟨v, xs, m1, OwnRows.upd k2 hut (fun i hi e => by have := (World.ownsRow.lt k2 i hi).1; omega), k3.upd hut (fun i hi j hj e => by have := (k3.far i hi j hj).1; omega), k4.blkT k1 hut, k5.trans (hut.mono fun _ _ e => .inr e)⟩
  clear k1 k2 k3 k4 k5 m1 hut HH h h2 h6 h3 h1 hn ht hp hka hsz htlt
  generalize (W.drew.setCell ⟨t, 2, none⟩ (.int .u32 1)).setCell ⟨t, 2 + 1, none⟩ (.int .i32 0) = w2 at *
  go_wp2
  go_end0
  exact ⟨rfl, HF.out⟩
end Go.Proofs.Ytnncpjekcljfbaa
/- tree: New. -/
namespace Go.Proofs.Ytnncpjekcljfbaa
open Go.RowKit

/-- block t is a tree of n leaves over a book at b, with the levels ls; all that it turns lies from lo on, below hi -/
structure TreeI (W : World) (lo hi t b n : Nat) (ls : List (List Dig)) (fv v : Value) (xs : List SlC) : Prop where
  blk : Blk W t 103 (treeV b n 1 0 fv v)
  all : OwnRows slA 1 W lo 41 v xs
  lev : Lev W lo xs ls
  vhi : ∀ k, v.ownBlock = some k → k < hi
  xhi : ∀ i (h : i < xs.length) k, xs[i].v.ownBlock = some k → k < hi
  tlo : lo ≤ t
  thi : t < hi
  sz : hi ≤ W.heap.size
  n1 : 1 ≤ n
  n2 : n ≤ 1024
/-- .. the digests of its leaves are D -/
def TreeAt (W : World) (lo hi t b : Nat) (D : List Dig) : Prop := ∃ fv v xs, TreeI W lo hi t b D.length (levelsM shaM D) fv v xs
section
variable {W W' : World} {lo hi t b n : Nat} {ls : List (List Dig)} {D : List Dig} {fv v : Value} {xs : List SlC} {S : Nat → Prop}
theorem TreeI.upd (h : TreeI W lo hi t b n ls fv v xs) (hu : Upd S W W') (hs : ∀ k, lo ≤ k → k < hi → (∃ cs t', W.heap[k]? = some (.cells cs t' (0, 0)) ∧ t' ≠ 125) → ¬ S k) : TreeI W' lo hi t b n ls fv v xs := by
  refine ⟨h.blk.upd hu (hs t h.tlo h.thi ⟨_, _, h.blk, by decide⟩), OwnRows.upd h.all hu (fun k e => ?_), h.lev.upd hu (fun i hi k e => ?_), h.vhi, h.xhi, h.tlo, h.thi, Nat.le_trans h.sz hu.size, h.n1, h.n2⟩
  · obtain ⟨cur, hc⟩ := own_cells h.all e
    exact hs k (World.ownsRow.lt h.all k e).1 (h.vhi k e) ⟨_, _, hc, by decide⟩
  · obtain ⟨cur, hc⟩ := own_cells (h.lev.row i hi (by rw [← h.lev.len]; exact hi)).1 e
    exact hs k (h.lev.far i hi k e).1 (h.xhi i hi k e) ⟨_, _, hc, by decide⟩
theorem TreeI.kept (h : TreeI W lo hi t b n ls fv v xs) (hu : Kept W W') : TreeI W' lo hi t b n ls fv v xs := h.upd hu fun _ _ _ _ => id
theorem TreeI.book (h : TreeI W lo hi t b n ls fv v xs) {b' r q : Nat} {L : List Bytes} (hb : BookL W b' r q L) (hu : Upd (Book3 b' r q) W W') : TreeI W' lo hi t b n ls fv v xs :=
  h.upd hu fun _ _ _ ⟨_, _, hc, ht⟩ => hb.not hc ht
theorem TreeAt.upd (h : TreeAt W lo hi t b D) (hu : Upd S W W') (hs : ∀ k, lo ≤ k → k < hi → (∃ cs t', W.heap[k]? = some (.cells cs t' (0, 0)) ∧ t' ≠ 125) → ¬ S k) : TreeAt W' lo hi t b D := by
  obtain ⟨fv, v, xs, h⟩ := h
  exact ⟨fv, v, xs, h.upd hu hs⟩
theorem TreeAt.kept (h : TreeAt W lo hi t b D) (hu : Kept W W') : TreeAt W' lo hi t b D := h.upd hu fun _ _ _ _ => id
theorem TreeAt.book (h : TreeAt W lo hi t b D) {b' r q : Nat} {L : List Bytes} (hb : BookL W b' r q L) (hu : Upd (Book3 b' r q) W W') : TreeAt W' lo hi t b D :=
  h.upd hu fun _ _ _ ⟨_, _, hc, ht⟩ => hb.not hc ht
end

def treeA (b : Nat) (n : Int) : Array Value := (treeV b n 0 0 .nilFunc (.slice none 0 0)).toArray
@[go_sem ↓] theorem exec_build_tree (ρ : Operand → Value) (dst : Option Tmp) (parts : Array (Nat × Operand)) (ty : TypeId) (pos : String) (after : Array Edge) (guard : Option (Nat × Bool)) :
    execOp ρ ⟨dst, .build 103 parts, ty, pos, after, guard⟩ = buildRow 103 (parts.map fun (i, x) => (i, ρ x)) := rfl
@[go_sem] theorem run_build_tree (b : Nat) (n : Int) (W : World) : (buildRow 103 #[(0, .pointer (some ⟨b, 0, none⟩)), (1, .int .i64 n)]).run Try.prog W = .ok (.value (.agg (treeA b n))) W := by
  have H := run_build (P := Try.prog) W 103 #[(0, .pointer (some ⟨b, 0, none⟩)), (1, .int .i64 n)] (treeA b n) (by unfold treeA treeV; kernel_rfl)
  simp [buildRow, H, Result.andThen]

set_option maxHeartbeats 2000000 in
set_option maxRecDepth 20000 in
theorem tree_New {w : World} {b r q : Nat} {L : List Bytes} (h : BookL w b r q L) (n : Nat) (h1 : 1 ≤ n) (hn : n ≤ 1024) :
    Calls Try.prog 21 #[.pointer (some ⟨b, 0, none⟩), .int .i64 n] w fun e W => ∃ t, e = .returned (.tuple #[.pointer (some ⟨t, 0, none⟩), .int .i64 0]) ∧ w.heap.size ≤ t ∧ TreeAt W w.heap.size W.heap.size t b (List.replicate n (leafM shaM [])) ∧ BookL W b r q (notesM (noteM L (leafIn [])) (insM shaM (List.replicate n (leafM shaM [])))) ∧ Upd (Book3 b r q) w W := by
  have hb1 := h.kept ((Upd.refl (fun _ => False) w).alloc (.cells #[.pointer (some ⟨b, 0, none⟩)] 23))
  have h21 : Blk (w.alloc (.cells #[.pointer (some ⟨b, 0, none⟩)] 23)) w.heap.size 23 [.pointer (some ⟨b, 0, none⟩)] := Blk.new w _ _
  have hk1 : Kept w (w.alloc (.cells #[.pointer (some ⟨b, 0, none⟩)] 23)) := (Upd.refl _ w).alloc _
  generalize hW1 : w.alloc (.cells #[.pointer (some ⟨b, 0, none⟩)] 23) = w1 at *
  have hb2 := hb1.kept ((Upd.refl (fun _ => False) w1).alloc (.cells #[.int .i64 (n : Int)] 3))
  have h22 := h21.alloc (.cells #[.int .i64 (n : Int)] 3)
  have h32 : Blk (w1.alloc (.cells #[.int .i64 (n : Int)] 3)) w1.heap.size 3 [.int .i64 (n : Int)] := Blk.new w1 _ _
  have hk2 : Kept w (w1.alloc (.cells #[.int .i64 (n : Int)] 3)) := hk1.alloc _
  generalize hW2 : w1.alloc (.cells #[.int .i64 (n : Int)] 3) = w2 at *
  have c2 := h22.cell (k := 0) rfl
  have c3 := h32.cell (k := 0) rfl
  have HX := Lib.hid (And.intro hb2 (And.intro h22 (And.intro h32 (And.intro hk2 (And.intro h1 hn)))))
  have hn1 : decide ((n : Int) < 1) = false := by rw [decide_eq_false_iff_not]; omega
  have hn2 : decide ((1024 : Int) < (n : Int)) = false := by rw [decide_eq_false_iff_not]; omega
  clear h hb1 h21 hk1 hb2 h22 h32 hk2 h1 hn
  go_enter Try.func21, Try.ntmps21
  go_wp2_with fail
  refine (tree_Leaf (R := []) HX.out.1 0 (.inl rfl) (by simp)).mono ?_
  rintro e w3 ⟨rfl, hb3, hu3⟩
  obtain ⟨hb2, h22, h32, hk2, h1, hn⟩ := HX.out
  have h23 := h22.upd hu3 (hb2.not h22 (by decide))
  have h33 := h32.upd hu3 (hb2.not h32 (by decide))
  have hk3 : Upd (Book3 b r q) w w3 := hk2.to.trans hu3
  clear hb2 h22 h32 hk2 hu3
  have hb4 := hb3.kept ((Upd.refl (fun _ => False) w3).alloc (.cells (dA dig0) 46))
  have h24 := h23.alloc (.cells (dA dig0) 46)
  have h34 := h33.alloc (.cells (dA dig0) 46)
  have h64 : Blk (w3.alloc (.cells (dA dig0) 46)) w3.heap.size 46 (encB dig0.1) := Blk.new w3 _ _
  have hk4 : Upd (Book3 b r q) w (w3.alloc (.cells (dA dig0) 46)) := hk3.alloc _
  have hs3 := hk3.size
  generalize hW4 : w3.alloc (.cells (dA dig0) 46) = w4 at *
  have hr4 := (dig_end (leafM shaM []) h64).1
  have hu5 : Upd (fun k => k = w3.heap.size) w4 (w4.setRow w3.heap.size (dA (leafM shaM []))) := (Upd.refl _ _).setRow _ _ fun _ => rfl
  have hb5 := hb4.far h64 (by decide) hu5
  have n2 : w.heap.size ≠ w3.heap.size := fun e => absurd (Blk.ty (e ▸ h24) h64) (by decide)
  have n3 : w1.heap.size ≠ w3.heap.size := fun e => absurd (Blk.ty (e ▸ h34) h64) (by decide)
  have h25 := h24.upd hu5 n2
  have h35 := h34.upd hu5 n3
  have h65 : Blk (w4.setRow w3.heap.size (dA (leafM shaM []))) w3.heap.size 46 (encB (leafM shaM []).1) := h64.setRow _
  have hk5 : Upd (fun k => Book3 b r q k ∨ w.heap.size ≤ k) w (w4.setRow w3.heap.size (dA (leafM shaM []))) := (hk4.mono fun _ _ e => .inl e).trans (hu5.mono fun k _ e => .inr (by omega))
  generalize hW5 : w4.setRow w3.heap.size (dA (leafM shaM [])) = w5 at *
  have c25 := h25.cell (k := 0) rfl
  have c35 := h35.cell (k := 0) rfl
  have hka : Kept w5 (w5.alloc (.cells (treeA b n) 103)) := (Upd.refl _ _).alloc _
  have hb6 := hb5.kept hka
  have h26 := h25.kept hka
  have h36 := h35.kept hka
  have h66 := h65.kept hka
  have ht6 : Blk (w5.alloc (.cells (treeA b n) 103)) w5.heap.size 103 (treeV b n 0 0 .nilFunc (.slice none 0 0)) := Blk.new w5 _ _
  have hk6 := hk5.alloc (.cells (treeA b n) 103)
  generalize hW6 : w5.alloc (.cells (treeA b n) 103) = w6 at *
  have z6 := ht6.thaw 5
  have c6 := ht6.cell (k := 5) rfl
  have hst : (store ⟨w5.heap.size, 5, none⟩ (freshF w.heap.size w3.heap.size w1.heap.size)).run Try.prog w6 = .ok () (w6.setCell ⟨w5.heap.size, 5, none⟩ (freshF w.heap.size w3.heap.size w1.heap.size)) := by
    rw [run_store _ _ _ _ _ rfl, c6]
    simp only [z6]
    rfl
  have hu7 : Upd (fun k => k = w5.heap.size) w6 (w6.setCell ⟨w5.heap.size, 5, none⟩ (freshF w.heap.size w3.heap.size w1.heap.size)) := (Upd.refl _ _).setCell (p := ⟨w5.heap.size, 5, none⟩) _ fun _ => rfl
  have hb7 := hb6.far ht6 (by decide) hu7
  have l2 := h25.lt
  have l3 := h35.lt
  have l6 := h65.lt
  have h27 := h26.upd hu7 (by omega)
  have h37 := h36.upd hu7 (by omega)
  have h67 := h66.upd hu7 (by omega)
  have ht7 : Blk (w6.setCell ⟨w5.heap.size, 5, none⟩ (freshF w.heap.size w3.heap.size w1.heap.size)) w5.heap.size 103 (treeV b n 0 0 (freshF w.heap.size w3.heap.size w1.heap.size) (.slice none 0 0)) := ht6.set 5 _
  have hs5 : w.heap.size ≤ w5.heap.size := by omega
  have hk7 := hk6.trans (hu7.mono fun k _ e => .inr (by omega))
  have HZ := Lib.hid (And.intro hb7 (And.intro h27 (And.intro h67 (And.intro h37 (And.intro h1 (And.intro hn (And.intro ht7 (And.intro hk7 hs5))))))))
  clear hb3 h23 h33 hk3 hb4 h24 h34 h64 hk4 hs3 hu5 hb5 n2 n3 h25 h35 h65 hk5 hka hb6 h26 h36 h66 ht6 hk6 hu7 hb7 l2 l3 l6 h27 h37 h67 ht7 hk7 h1 hn HX
  have hmf : ∀ (fn : Fn) (first cap : Array Value) (w : World), (Instr.makeFunc fn first cap).run Try.prog w = .ok (.func fn first cap) w := fun _ _ _ _ => rfl
  unfold freshF at *
  go_wp2_with fail
  obtain ⟨hb7, h27, h67, h37, h1, hn, ht7, hk7, hs5⟩ := HZ.out
  have hsz := ht7.lt
  have hsz5 := hk7.size
  have hs7 := ht7.lt
  generalize w6.setCell ⟨w5.heap.size, 5, none⟩ _ = w7 at *
  refine (tree_ready hb7 h27 h67 h37 h1 hn ht7).mono ?_
  rintro e W ⟨rfl, v, xs, k1, k2, k3, k4, k5⟩
  have HY : Hid (w.heap.size ≤ w5.heap.size ∧ TreeAt W w.heap.size W.heap.size w5.heap.size b (List.replicate n (leafM shaM [])) ∧ BookL W b r q (notesM (noteM L (leafIn [])) (insM shaM (List.replicate n (leafM shaM [])))) ∧ Upd (Book3 b r q) w W) := by
    refine ⟨hs5, ⟨_, v, xs, ⟨by rw [List.length_replicate]; exact k1, own_base k2 hsz5, ⟨k3.len, fun i hi hi' => ⟨own_base (k3.row i hi hi').1 hsz5, (k3.row i hi hi').2⟩, k3.apart⟩, fun k e => (World.ownsRow.lt k2 k e).2, fun i hi k e => (k3.far i hi k e).2, hs5, k1.lt, Nat.le_refl _, by rw [List.length_replicate]; exact h1, by rw [List.length_replicate]; exact hn⟩⟩, k4, ?_⟩
    exact (hk7.then k5 (fun k hk e => e.elim .inl (fun e => .inr (by omega)))).mono (fun k hk e => e.elim id (fun e => by omega))
  clear hb7 h27 h67 h37 h1 hn ht7 hk7 hs5 k1 k2 k3 k4 k5
  go_wp2
  go_ret2
  obtain ⟨y1, y2, y3, y4⟩ := HY.out
  exact ⟨_, rfl, y1, y2, y3, y4⟩
end Go.Proofs.Ytnncpjekcljfbaa
/- tree: none, Depth, Leaves, Root, Level. -/
namespace Go.Proofs.Ytnncpjekcljfbaa
open Go.RowKit

theorem tree_none {w : World} {t b : Nat} (hc : w.cell? ⟨t, 0, none⟩ = some (.pointer (some ⟨b, 0, none⟩))) :
    Calls Try.prog 82 #[.pointer (some ⟨t, 0, none⟩)] w fun e w' => e = .returned (.bool false) ∧ w = w' := by
  go_enter Try.func82, Try.ntmps82
  go_wp2
  go_ret
  exact ⟨rfl, rfl⟩
/-- a tree that is none -/
def NoTree (w : World) (p : Option Addr) : Prop := p = none ∨ ∃ t, p = some ⟨t, 0, none⟩ ∧ w.cell? ⟨t, 0, none⟩ = some (.pointer none)
theorem NoTree.kept {w W : World} {p : Option Addr} (h : NoTree w p) (hu : Kept w W) : NoTree W p :=
  h.imp id fun ⟨t, h1, h2⟩ => ⟨t, h1, hu.cell h2 id⟩
theorem tree_none_no {w : World} {p : Option Addr} (h : NoTree w p) :
    Calls Try.prog 82 #[.pointer p] w fun e w' => e = .returned (.bool true) ∧ w = w' := by
  rcases h with rfl | ⟨t, rfl, hc⟩
  · go_enter Try.func82, Try.ntmps82
    go_wp2
    go_ret
    exact ⟨rfl, rfl⟩
  · go_enter Try.func82, Try.ntmps82
    go_wp2
    go_ret
    exact ⟨rfl, rfl⟩

section
variable {W : World} {lo hi t b n : Nat} {ls : List (List Dig)} {fv v : Value} {xs : List SlC}
theorem TreeI.len (h : TreeI W lo hi t b n ls fv v xs) : xs.length = ls.length := h.lev.len
theorem TreeI.form (h : TreeI W lo hi t b n ls fv v xs) : ∃ A c, v = .slice A ls.length c := by
  obtain ⟨A, c, hv⟩ := OwnRows.form h.all
  exact ⟨A, c, by rw [hv, h.len]⟩
/-- a level's cell, and the digests under it -/
theorem TreeI.get (h : TreeI W lo hi t b n ls fv v xs) {k : Nat} {l : List Dig} (hk : ls[k]? = some l) :
    ∃ g c g2 c2, v = .slice (some ⟨g, 0, none⟩) ls.length c ∧ W.cell? ⟨g, k, none⟩ = some (.slice (some ⟨g2, 0, none⟩) l.length c2) ∧ OwnD W lo (.slice (some ⟨g2, 0, none⟩) l.length c2) l ∧ l ≠ [] ∧ lo ≤ g ∧ g < hi ∧ lo ≤ g2 ∧ g2 < hi ∧ g ≠ g2 ∧ g ≠ t ∧ g2 ≠ t ∧ ∃ (hx : k < xs.length), xs[k] = ⟨some ⟨g2, 0, none⟩, l.length, c2⟩ := by
  obtain ⟨hk1, rfl⟩ := List.getElem?_eq_some_iff.1 hk
  have hk2 : k < xs.length := by rw [h.lev.len]; exact hk1
  obtain ⟨g, c, hv, hg1, hg2, s1, s2⟩ := OwnRows.get slA_size h.all hk2
  obtain ⟨ho, hne⟩ := h.lev.row k hk2 hk1
  obtain ⟨A, c2, hx, hcc, _⟩ := ho.digs
  have hne0 : 0 < (ls[k]).length := List.length_pos_iff.2 hne
  obtain ⟨g2, cap2, hx2, hb2, hlt2⟩ := World.ownsRow.form ho hne0
  have hcell : W.cell? ⟨g, k, none⟩ = some xs[k].v := by
    have hc := World.ownsRow.cells h.all (g := g) (by rw [hv]; rfl) k xs[k].v (by
      have := rowsOf_get slA_size xs k 0 hk2 (by omega)
      rw [Nat.mul_one, Nat.add_zero] at this
      rw [this]; rfl)
    rwa [add_none, Nat.zero_add] at hc
  have hob : v.ownBlock = some g := by rw [hv]; rfl
  have hob2 : xs[k].v.ownBlock = some g2 := by rw [hx2]; rfl
  obtain ⟨cur1, h1⟩ := own_cells h.all hob
  obtain ⟨cur2, h2⟩ := own_cells ho hob2
  have hbt := h.blk
  unfold Blk at hbt
  refine ⟨g, c, g2, cap2, by rw [hv, h.len], by rw [hcell, hx2], by rw [← hx2]; exact ho, hne, hg1, h.vhi g hob, hb2, h.xhi k hk2 g2 hob2, ?_, ?_, ?_, hk2, ?_⟩
  · rintro rfl; rw [h1] at h2; cases h2
  · rintro rfl; rw [h1] at hbt; cases hbt
  · rintro rfl; rw [h2] at hbt; cases hbt
  · generalize xs[k] = x at *
    obtain ⟨xA, xn, xc⟩ := x
    simp only [SlC.v, Value.slice.injEq] at hx2
    obtain ⟨rfl, rfl, rfl⟩ := hx2
    rfl
end

theorem tree_Depth {w : World} {lo hi t b : Nat} {D : List Dig} (h : TreeAt w lo hi t b D) :
    Calls Try.prog 33 #[.pointer (some ⟨t, 0, none⟩)] w fun e w' => e = .returned (.int .i64 (depthM D.length)) ∧ w = w' := by
  obtain ⟨fv, v, xs, h⟩ := h
  obtain ⟨A, c, hv⟩ := h.form
  rw [levelsM_depth _ rfl] at hv
  have c0 := h.blk.cell (k := 0) rfl
  have c6 := h.blk.cell (k := 6) rfl
  subst hv
  clear h
  go_enter Try.func33, Try.ntmps33
  go_wp2_with fail
  refine (tree_none c0).mono ?_
  rintro e W ⟨rfl, rfl⟩
  go_wp2
  go_ret
  exact ⟨rfl, rfl⟩
theorem tree_Leaves {w : World} {lo hi t b : Nat} {D : List Dig} (h : TreeAt w lo hi t b D) :
    Calls Try.prog 35 #[.pointer (some ⟨t, 0, none⟩)] w fun e w' => e = .returned (.int .i64 D.length) ∧ w = w' := by
  obtain ⟨fv, v, xs, h⟩ := h
  have c0 := h.blk.cell (k := 0) rfl
  have c1 := h.blk.cell (k := 1) rfl
  clear h
  go_enter Try.func35, Try.ntmps35
  go_wp2_with fail
  refine (tree_none c0).mono ?_
  rintro e W ⟨rfl, rfl⟩
  go_wp2
  go_ret
  exact ⟨rfl, rfl⟩
theorem tree_Depth_no {w : World} {p : Option Addr} (h : NoTree w p) :
    Calls Try.prog 33 #[.pointer p] w fun e w' => e = .returned (.int .i64 0) ∧ w = w' := by
  go_enter Try.func33, Try.ntmps33
  go_wp2_with fail
  refine (tree_none_no h).mono ?_
  rintro e W ⟨rfl, rfl⟩
  go_wp2
  go_ret
  exact ⟨rfl, rfl⟩
theorem tree_Leaves_no {w : World} {p : Option Addr} (h : NoTree w p) :
    Calls Try.prog 35 #[.pointer p] w fun e w' => e = .returned (.int .i64 0) ∧ w = w' := by
  go_enter Try.func35, Try.ntmps35
  go_wp2_with fail
  refine (tree_none_no h).mono ?_
  rintro e W ⟨rfl, rfl⟩
  go_wp2
  go_ret
  exact ⟨rfl, rfl⟩

theorem tree_Level_no {w : World} {p : Option Addr} (h : NoTree w p) (n : Int) :
    Calls Try.prog 28 #[.pointer p, .int .i64 n] w fun e w' => e = .returned (.tuple #[.slice none 0 0, .int .i64 1]) ∧ w = w' := by
  go_enter Try.func28, Try.ntmps28
  go_wp2_with fail
  refine (tree_none_no h).mono ?_
  rintro e W ⟨rfl, rfl⟩
  go_wp2
  go_ret2
  exact ⟨rfl, rfl⟩
theorem tree_Level_out {w : World} {lo hi t b : Nat} {D : List Dig} (h : TreeAt w lo hi t b D) (n : Int) (hn : n < 0 ∨ (depthM D.length : Int) ≤ n) :
    Calls Try.prog 28 #[.pointer (some ⟨t, 0, none⟩), .int .i64 n] w fun e w' => e = .returned (.tuple #[.slice none 0 0, .int .i64 9]) ∧ w = w' := by
  obtain ⟨fv, v, xs, h⟩ := h
  obtain ⟨A, c, hv⟩ := h.form
  rw [levelsM_depth _ rfl] at hv
  have c0 := h.blk.cell (k := 0) rfl
  have c6 := h.blk.cell (k := 6) rfl
  subst hv
  clear h
  by_cases h0 : n < 0
  · have d0 : decide (n < 0) = true := decide_eq_true h0
    clear hn h0
    go_enter Try.func28, Try.ntmps28
    go_wp2_with fail
    refine (tree_none c0).mono ?_
    rintro e W ⟨rfl, rfl⟩
    go_wp2
    go_ret2
    exact ⟨rfl, rfl⟩
  · have d0 : decide (n < 0) = false := decide_eq_false h0
    have d1 : decide ((depthM D.length : Int) ≤ n) = true := decide_eq_true (by omega)
    clear hn h0
    go_enter Try.func28, Try.ntmps28
    go_wp2_with fail
    refine (tree_none c0).mono ?_
    rintro e W ⟨rfl, rfl⟩
    go_wp2
    go_ret2
    exact ⟨rfl, rfl⟩
theorem tree_Level {w : World} {lo hi t b : Nat} {D : List Dig} (h : TreeAt w lo hi t b D) (n : Nat) {l : List Dig} (hn : (levelsM shaM D)[n]? = some l) (hl : l.length ≤ 1024) :
    Calls Try.prog 28 #[.pointer (some ⟨t, 0, none⟩), .int .i64 n] w fun e W => ∃ v, e = .returned (.tuple #[v, .int .i64 0]) ∧ OwnD W w.heap.size v l ∧ Kept w W := by
  obtain ⟨fv, v, xs, h⟩ := h
  obtain ⟨g, c, g2, c2, hv0, hc, ho, hne, -, -, -, -, -, -, -, hx, -⟩ := h.get hn
  rw [levelsM_depth _ rfl] at hv0
  subst hv0
  have c0 := h.blk.cell (k := 0) rfl
  have c6 := h.blk.cell (k := 6) rfl
  have hnl : n < depthM D.length := by rw [← levelsM_depth (H := shaM) _ rfl, ← h.len]; exact hx
  have d0 : decide ((n : Int) < 0) = false := decide_eq_false (by omega)
  have d1 : decide ((depthM D.length : Int) ≤ (n : Int)) = false := decide_eq_false (by omega)
  obtain ⟨A2, c3, hv, hcc, hdg⟩ := ho.digs
  simp only [Value.slice.injEq, true_and] at hv
  obtain ⟨rfl, rfl⟩ := hv
  have HX := Lib.hid (And.intro hdg (And.intro hne hl))
  clear h hdg ho hne hl
  have hni : (n : Int) < (depthM D.length : Int) := by omega
  go_enter Try.func28, Try.ntmps28
  go_wp2_with fail
  refine (tree_none c0).mono ?_
  rintro e W ⟨rfl, rfl⟩
  go_wp2_with fail
  refine (digs_Clone c2 HX.out.1 HX.out.2.1 HX.out.2.2).mono ?_
  rintro e W ⟨v, rfl, hv, hu⟩
  have HY := Lib.hid (And.intro hv hu)
  clear hv hu
  go_wp2
  go_ret2
  exact ⟨_, rfl, HY.out⟩
end Go.Proofs.Ytnncpjekcljfbaa
/- tree: Root. -/
namespace Go.Proofs.Ytnncpjekcljfbaa
open Go.RowKit

theorem levelsM_le (n : Nat) : ∀ {l : List Dig}, l.length = n → ∀ x ∈ levelsM shaM l, x.length ≤ n := by
  induction n using Nat.strongRecOn with
  | ind n ih =>
    intro l hl x hx
    rcases Nat.lt_or_ge 1 l.length with h | h
    · rw [levelsM_more h] at hx
      rcases List.mem_cons.1 hx with rfl | hx
      · omega
      · have h4 := up4_lt h
        have := ih (up4 l.length) (by omega) (aboveM_length l) x hx
        omega
    · rw [levelsM_one h] at hx
      obtain rfl := List.mem_singleton.1 hx
      omega
theorem depthM_le (n : Nat) : ∀ (l : List Dig), l.length = n → depthM n ≤ n + 1 := by
  induction n using Nat.strongRecOn with
  | ind n ih =>
    intro l hl
    rw [depthM]
    split
    · rename_i h
      have h4 := up4_lt h
      have := ih (up4 n) h4 (aboveM shaM l) (by rw [aboveM_length, hl])
      omega
    · omega
theorem levelsM_top {D : List Dig} (h : D ≠ []) : ∃ m, depthM D.length = m + 1 ∧ (levelsM shaM D)[m]? = some [rootM shaM D] := by
  have h1 := levelsM_depth (H := shaM) _ (l := D) rfl
  have h2 := rootM_last (H := shaM) h
  have h3 := levelsM_ne (H := shaM) D
  have h4 : 0 < (levelsM shaM D).length := List.length_pos_iff.2 h3
  rw [List.getLast?_eq_getElem?] at h2
  exact ⟨depthM D.length - 1, by omega, by rw [← h1]; exact h2⟩

/-- a digest's cells among a row of the call's own -/
theorem OwnD.seg {W : World} {B g n c : Nat} {D : List Dig} (h : OwnD W B (.slice (some ⟨g, 0, none⟩) n c) D) {k : Nat} (hk : k < D.length) : segB W ⟨g, k * 32, none⟩ 32 = true ∧ segV W ⟨g, k * 32, none⟩ 32 = dA D[k] := by
  obtain ⟨g1, c1, hv, _, _, h1, h2⟩ := OwnRows.get dA_size h hk
  simp only [Value.slice.injEq, Option.some.injEq, Addr.mk.injEq] at hv
  obtain ⟨⟨rfl, _⟩, _⟩ := hv
  exact ⟨h1, h2⟩

set_option maxHeartbeats 2000000 in
set_option maxRecDepth 20000 in
theorem tree_Root {w : World} {lo hi t b : Nat} {D : List Dig} (h : TreeAt w lo hi t b D) :
    Calls Try.prog 31 #[.pointer (some ⟨t, 0, none⟩)] w fun e W => e = .returned (.tuple #[.agg (dA (rootM shaM D)), .int .i64 0]) ∧ Kept w W := by
  obtain ⟨fv, v, xs, h⟩ := h
  have hne : D ≠ [] := by have := h.n1; intro h0; rw [h0] at this; simp at this
  obtain ⟨m, hm, hml⟩ := levelsM_top hne
  have hmb : (m : Int) ≤ 1024 := by have := depthM_le _ D rfl; have := h.n2; omega
  obtain ⟨g, c, g2, c2, hv0, hc, ho, -, hg1, hg2, hg3, hg4, hg5, hg6, hg7, hx, -⟩ := h.get hml
  rw [levelsM_depth _ rfl] at hv0
  subst hv0
  have c0 := h.blk.cell (k := 0) rfl
  have c6 := h.blk.cell (k := 6) rfl
  have hlt := Nat.lt_of_lt_of_le hg2 h.sz
  have hlt2 := Nat.lt_of_lt_of_le hg4 h.sz
  have hlt3 := Nat.lt_of_lt_of_le h.thi h.sz
  rw [hm] at c6
  simp only [List.length_singleton] at hc
  clear h hne hml hx hm
  generalize rootM shaM D = d at *
  have hr1 : Blk (w.alloc (.cells (dA dig0) 46)) w.heap.size 46 (encB dig0.1) := Blk.new w _ _
  have hk1 : Kept w (w.alloc (.cells (dA dig0) 46)) := (Upd.refl _ w).alloc _
  generalize hW1 : w.alloc (.cells (dA dig0) 46) = w1 at *
  have c0' := hk1.cell c0 id
  have f1 : ∀ W, Upd (fun k => k = w.heap.size) w1 W → W.cell? ⟨t, 6, none⟩ = some (.slice (some ⟨g, 0, none⟩) (m + 1) c) := fun W hW => hW.cell (hk1.cell c6 id) (by show ¬ t = _; have := hg1; omega)
  have f2 : ∀ W, Upd (fun k => k = w.heap.size) w1 W → W.cell? ⟨g, m, none⟩ = some (.slice (some ⟨g2, 0, none⟩) 1 c2) := fun W hW => hW.cell (hk1.cell hc id) (by show ¬ g = _; omega)
  have hu2 : ∀ W, Upd (fun k => k = w.heap.size) w1 W → Upd (fun k => k = w.heap.size) w W := fun W hW => hk1.to.trans hW
  have f3 : ∀ W, Upd (fun k => k = w.heap.size) w1 W → segB W ⟨g2, 0, none⟩ 32 = true ∧ segV W ⟨g2, 0, none⟩ 32 = dA d := fun W hW => by
    have := OwnD.seg (OwnRows.upd ho (hu2 W hW) (fun k e => by cases e; exact Nat.ne_of_lt hlt2)) (k := 0) (by simp)
    rwa [Nat.zero_mul, List.getElem_cons_zero] at this
  have f4 : ∀ W, Upd (fun k => k = w.heap.size) w1 W → segB W ⟨g2, 0, none⟩ 32 = true := fun W hW => (f3 W hW).1
  have f5 : ∀ W, Upd (fun k => k = w.heap.size) w1 W → segV W ⟨g2, 0, none⟩ 32 = dA d := fun W hW => (f3 W hW).2
  clear c0 c6 hc ho f3 hu2
  have HX := Lib.hid (And.intro hr1 hk1)
  clear hr1 hk1
  have hwm : IntKind.i64.wrap (m : Int) = m := by rw [IntKind.wrap_i64]; omega
  have hmi : (m : Int) < (m : Int) + 1 := by omega
  go_enter Try.func31, Try.ntmps31
  go_wp2_with fail
  refine (tree_none c0').mono ?_
  rintro e W ⟨rfl, rfl⟩
  go_wp2_with fail
  refine wp_region_ord [(0, true), (1, true), (2, true), (3, true), (4, true), (5, true), (6, true), (7, true), (8, true), (9, true), (10, true), (11, true), (12, true), (13, true), (14, false), (15, true)] (by kernel_rfl) (by kernel_rfl) (Upd (fun k => k = w.heap.size) w1) (Upd.refl _ w1).drew ?_
  simp only [ordOps, List.getD_cons_zero, List.getD_cons_succ]
  iterate 14 (refine wpOrd_held (fun K hK => ?_); go_simp; first | (apply Exists.intro; refine ⟨fun W hW => ?_, hK _ ?_⟩; (go_simp; first | done | exact rfl); clear hK K) | (refine hK _ ?_; clear hK K))
  refine wpOrd_step (fun K hK => ?_) (Upd.refl _ w1).drew
  obtain ⟨hr1, hk1⟩ := HX.out
  have hrB := (dig_end d hr1.drew)
  obtain ⟨e1, e2, e3⟩ := hrB
  have HY : Hid (Kept w (w1.drew.setRow w.heap.size (dA d)) ∧ segB (w1.drew.setRow w.heap.size (dA d)) ⟨w.heap.size, 0, none⟩ 32 = true ∧ segV (w1.drew.setRow w.heap.size (dA d)) ⟨w.heap.size, 0, none⟩ 32 = dA d) := ⟨Upd.setRow hk1.drew _ _ (fun h => absurd h (Nat.lt_irrefl _)), e2, e3⟩
  have hS1 : Upd (fun k => k = w.heap.size) w1 (w1.drew.setRow w.heap.size (dA d)) := (Upd.refl _ w1).drew.setRow _ _ fun _ => rfl
  clear hr1 hk1 e2 e3 HX
  generalize w1.drew = w2 at *
  go_simp
  refine hK _ _ hS1 ?_
  clear hK K
  iterate 1 (refine wpOrd_held (fun K hK => ?_); go_simp; first | (apply Exists.intro; refine ⟨fun W hW => ?_, hK _ ?_⟩; (go_simp; first | done | exact rfl); clear hK K) | (refine hK _ ?_; clear hK K))
  refine wpOrd_nil ?_
  clear f1 f2 f4 f5
  go_wp2
  refine bodyPost_ret (v := .tuple #[.agg (dA d), .int .i64 0]) ?_ rfl ⟨rfl, HY.out.1⟩
  rw [results_seg2 (P := Try.prog) (fn := Try.f31) (p := 2) (t := 3) (ty := 46) rfl _ _ ⟨w.heap.size, 0, none⟩ 32 _ (.int .i64 0) rfl rfl Try.underlying46 rfl sizeOf46 HY.out.2.1, HY.out.2.2]
theorem tree_Root_no {w : World} {p : Option Addr} (h : NoTree w p) :
    Calls Try.prog 31 #[.pointer p] w fun e W => e = .returned (.tuple #[.agg (dA dig0), .int .i64 1]) ∧ Kept w W := by
  have hr1 : Blk (w.alloc (.cells (dA dig0) 46)) w.heap.size 46 (encB dig0.1) := Blk.new w _ _
  have hk1 : Kept w (w.alloc (.cells (dA dig0) 46)) := (Upd.refl _ w).alloc _
  generalize hW1 : w.alloc (.cells (dA dig0) 46) = w1 at *
  obtain ⟨hrb, hs1, hs2⟩ := dig_end dig0 hr1
  have HF : Hid (Kept w (w1.setRow w.heap.size (dA dig0)) ∧ segB (w1.setRow w.heap.size (dA dig0)) ⟨w.heap.size, 0, none⟩ 32 = true ∧ segV (w1.setRow w.heap.size (dA dig0)) ⟨w.heap.size, 0, none⟩ 32 = dA dig0) := ⟨Upd.setRow hk1 _ _ (fun h => absurd h (Nat.lt_irrefl _)), hs1, hs2⟩
  replace h := h.kept hk1
  clear hr1 hk1 hs1 hs2
  go_enter Try.func31, Try.ntmps31
  go_wp2_with fail
  refine (tree_none_no h).mono ?_
  rintro e W ⟨rfl, rfl⟩
  go_wp2
  refine bodyPost_ret (v := .tuple #[.agg (dA dig0), .int .i64 1]) ?_ rfl ⟨rfl, HF.out.1⟩
  rw [results_seg2 (P := Try.prog) (fn := Try.f31) (p := 2) (t := 3) (ty := 46) rfl _ _ ⟨w.heap.size, 0, none⟩ 32 _ (.int .i64 1) rfl rfl Try.underlying46 rfl sizeOf46 HF.out.2.1, HF.out.2.2]
end Go.Proofs.Ytnncpjekcljfbaa
/- tree: one digest turned in its place. -/
namespace Go.Proofs.Ytnncpjekcljfbaa
open Go.RowKit

theorem rowsOf_set {α : Type} {f : α → Array Value} {n : Nat} (hf : ∀ x, (f x).size = n) (hn : 0 < n) (l : List α) (k : Nat) (x : α) (hk : k < l.length) : rowsOf f (l.set k x) = splice (rowsOf f l) (k * n) (f x).toList := by
  have hlen : k * n + n ≤ l.length * n := by rw [← Nat.succ_mul]; exact Nat.mul_le_mul_right n hk
  apply List.ext_getElem?
  intro j
  rw [splice_get _ _ _ _ (by rw [rowsOf_length hf, Array.length_toList, hf]; exact hlen), Array.length_toList, hf]
  by_cases hj : j < l.length * n
  · have hq : j / n < l.length := Nat.div_lt_of_lt_mul (by rwa [Nat.mul_comm] at hj)
    have hjm : j = (j / n) * n + j % n := by rw [Nat.mul_comm]; exact (Nat.div_add_mod j n).symm
    have hmod : j % n < n := Nat.mod_lt _ hn
    by_cases hkq : j / n = k
    · have hin : k * n ≤ j ∧ j < k * n + n := by rw [hkq] at hjm; omega
      rw [if_pos hin]
      have h1 := rowsOf_get hf (l.set k x) k (j - k * n) (by simpa using hk) (by omega)
      rw [show k * n + (j - k * n) = j by omega] at h1
      rw [h1]
      simp
    · have hout : ¬ (k * n ≤ j ∧ j < k * n + n) := by
        rintro ⟨h1, h2⟩
        apply hkq
        exact Nat.div_eq_of_lt_le h1 (by rw [Nat.succ_mul]; exact h2)
      rw [if_neg hout]
      have h1 := rowsOf_get hf (l.set k x) (j / n) (j % n) (by simpa using hq) hmod
      have h2 := rowsOf_get hf l (j / n) (j % n) hq hmod
      rw [← hjm] at h1 h2
      rw [h1, h2, List.getElem_set_ne (fun e => hkq e.symm)]
  · rw [if_neg (by omega), List.getElem?_eq_none (by rw [rowsOf_length hf, List.length_set]; omega), List.getElem?_eq_none (by rw [rowsOf_length hf]; omega)]

theorem OwnRows.turn {α : Type} {f : α → Array Value} {n t B : Nat} {W : World} {v : Value} {l : List α} (hf : ∀ x, (f x).size = n) (hn : 0 < n) (h : OwnRows f n W B t v l) {k : Nat} (hk : k < l.length) (x : α) :
    ∃ g cur, v.ownBlock = some g ∧ Blk W g t cur ∧ k * n + n ≤ cur.length ∧ OwnRows f n (W.setRow g (splice cur (k * n) (f x).toList).toArray) B t v (l.set k x) := by
  have hlen : k * n + n ≤ l.length * n := by rw [← Nat.succ_mul]; exact Nat.mul_le_mul_right n hk
  rcases h.2 with ⟨_, h0⟩ | ⟨g, cap, cur, rfl, hb, hg, h1, h2, h3, h4⟩
  · omega
  · have hcap : l.length * n ≤ cap * n := Nat.mul_le_mul_right n h1
    refine ⟨g, cur.toList, rfl, hg, by rw [Array.length_toList, h3]; omega, by rw [List.length_set, rowsOf_length hf, List.length_set], .inr ⟨g, cap, (splice cur.toList (k * n) (f x).toList).toArray, by rw [List.length_set], hb, setRow_heap W g cur _ t _ hg, by rw [List.length_set]; exact h1, h2, ?_, ?_⟩⟩
    · simp only [splice, List.size_toArray, List.length_append, List.length_take, List.length_drop, Array.length_toList, hf, h3]; omega
    · rw [rowsOf_set hf hn l k x hk, ← h4, List.length_set]
      apply List.ext_getElem?
      intro j
      have hfx : (f x).toList.length = n := by rw [Array.length_toList, hf]
      have ht : (List.take (l.length * n) cur.toList).length = l.length * n := by rw [List.length_take, show cur.toList.length = cap * n from by rw [Array.length_toList, h3]]; omega
      rw [splice_get _ _ _ _ (by rw [ht, hfx]; exact hlen)]
      by_cases hj : j < l.length * n
      · rw [List.getElem?_take_of_lt hj, List.getElem?_take_of_lt hj]
        show (splice cur.toList (k * n) (f x).toList)[j]? = _
        rw [splice_get _ _ _ _ (by rw [hfx, show cur.toList.length = cap * n from by rw [Array.length_toList, h3]]; omega)]
      · rw [List.getElem?_eq_none (by rw [List.length_take]; omega), if_neg (by rw [hfx]; omega), List.getElem?_eq_none (by rw [ht]; omega)]

theorem TreeI.turn {W : World} {lo hi t b n : Nat} {ls : List (List Dig)} {fv v : Value} {xs : List SlC} (h : TreeI W lo hi t b n ls fv v xs) {k : Nat} {l : List Dig} (hk : ls[k]? = some l) {g2 c2 : Nat} (hx : k < xs.length) (hxk : xs[k] = ⟨some ⟨g2, 0, none⟩, l.length, c2⟩)
    {i : Nat} (hi' : i < l.length) (d : Dig) :
    ∃ cur, Blk W g2 46 cur ∧ i * 32 + 32 ≤ cur.length ∧ TreeI (W.setRow g2 (splice cur (i * 32) (dA d).toList).toArray) lo hi t b n (ls.set k (l.set i d)) fv v xs := by
  obtain ⟨hk1, rfl⟩ := List.getElem?_eq_some_iff.1 hk
  obtain ⟨ho, hne⟩ := h.lev.row k hx hk1
  obtain ⟨g, cur, hg, hb, hc, ho2⟩ := OwnRows.turn dA_size (by omega) ho hi' d
  have hg' : xs[k].v.ownBlock = some g2 := by rw [hxk]; rfl
  rw [hg] at hg'
  obtain rfl : g = g2 := by simpa using hg'
  have hu : Upd (fun k => k = g) W (W.setRow g (splice cur (i * 32) (dA d).toList).toArray) := (Upd.refl _ W).setRow _ _ fun _ => rfl
  have hobt : ∀ j t' vs, Blk W j t' vs → t' ≠ 46 → ¬ j = g := fun j t' vs hj ht e => by subst e; exact ht (Blk.ty hj hb)
  refine ⟨cur, hb, hc, h.blk.upd hu (hobt _ _ _ h.blk (by decide)), OwnRows.upd h.all hu (fun j e => ?_), ⟨by rw [List.length_set]; exact h.lev.len, fun j hj hj' => ?_, h.lev.apart⟩, h.vhi, h.xhi, h.tlo, h.thi, Nat.le_trans h.sz hu.size, h.n1, h.n2⟩
  · obtain ⟨cu, hc⟩ := own_cells h.all e
    exact hobt j _ cu.toList (by unfold Blk; simpa using hc) (by decide)
  · by_cases hjk : j = k
    · subst hjk
      rw [List.getElem_set_self]
      exact ⟨ho2, by intro h0; have := congrArg List.length h0; simp at this; exact hne this⟩
    · rw [List.getElem_set_ne (fun e => hjk e.symm)]
      obtain ⟨h1, h2⟩ := h.lev.row j hj (by rwa [List.length_set] at hj')
      exact ⟨OwnRows.upd h1 hu (fun i hi e => h.lev.apart j k hj hx hjk (by rw [hi, hg, show i = g from e])), h2⟩

theorem setM_more {l : List Dig} (h : 1 < l.length) (i : Nat) (d : Dig) : setM shaM (levelsM shaM l) i d = l.set i d :: setM shaM (levelsM shaM (aboveM shaM l)) (i / 4) (upM shaM (group (l.set i d) (i / 4))) := by
  rw [levelsM_more h]
  cases hx : levelsM shaM (aboveM shaM l) with
  | nil => exact absurd hx (levelsM_ne _)
  | cons a l2 => rfl
theorem setIns_more {l : List Dig} (h : 1 < l.length) (i : Nat) (d : Dig) : setIns shaM (levelsM shaM l) i d = upIn (group (l.set i d) (i / 4)) :: setIns shaM (levelsM shaM (aboveM shaM l)) (i / 4) (upM shaM (group (l.set i d) (i / 4))) := by
  rw [levelsM_more h]
  cases hx : levelsM shaM (aboveM shaM l) with
  | nil => exact absurd hx (levelsM_ne _)
  | cons a l2 => rfl
end Go.Proofs.Ytnncpjekcljfbaa
/- tree: Set. -/
namespace Go.Proofs.Ytnncpjekcljfbaa
open Go.RowKit

theorem levelsM_head (l : List Dig) : ∃ tl, levelsM shaM l = l :: tl ∧ (1 < l.length → tl = levelsM shaM (aboveM shaM l)) ∧ (l.length ≤ 1 → tl = []) := by
  rcases Nat.lt_or_ge 1 l.length with h | h
  · exact ⟨_, levelsM_more h, fun _ => rfl, fun h2 => by omega⟩
  · exact ⟨_, levelsM_one h, fun h2 => by omega, fun _ => rfl⟩

theorem dig_at {W : World} {g : Nat} {d : Dig} (h : Blk W g 46 (encB d.1)) : segB W ⟨g, 0, none⟩ 32 = true ∧ segV W ⟨g, 0, none⟩ 32 = dA d :=
  h.seg 0 32 (encB d.1) (by rw [encB_length, d.2]) (fun j _ => by rw [Nat.zero_add])

/-- what stands while a leaf is being set: k levels are done -/
structure SetI (W0 W : World) (lo hi t b r q n gd m : Nat) (L : List Bytes) (D : List Dig) (i0 : Nat) (d0 : Dig) (fv v : Value) (xs : List SlC) (k : Nat) (done rest : List (List Dig)) (i : Nat) (d : Dig) (N : List Bytes) : Prop where
  tr : TreeI W lo hi t b n (done ++ rest) fv v xs
  k : done.length = k
  m : (done ++ rest).length = m
  lv : setM shaM (levelsM shaM D) i0 d0 = done ++ setM shaM rest i d
  ins : setIns shaM (levelsM shaM D) i0 d0 = N ++ setIns shaM rest i d
  book : BookL W b r q (notesM L N)
  cell : Blk W gd 46 (encB d.1)
  upd : Upd (fun j => Book3 b r q j ∨ (lo ≤ j ∧ j < hi) ∨ j = gd) W0 W

set_option maxHeartbeats 1000000 in
set_option maxRecDepth 20000 in
theorem tree_Set {w : World} {lo hi t b r q : Nat} {L : List Bytes} {D : List Dig} (hb : BookL w b r q L) (h : TreeAt w lo hi t b D) {A : Option Addr} {R : Bytes} (c : Nat) (hR : Byt w A R) (hl : R.length < 65536) (i : Nat) (hi' : i < D.length) :
    Calls Try.prog 25 #[.pointer (some ⟨t, 0, none⟩), .int .i64 i, .slice A R.length c] w fun e W => e = .returned (.int .i64 0) ∧ TreeAt W lo hi t b (D.set i (leafM shaM R)) ∧ BookL W b r q (notesM (noteM L (leafIn R)) (setIns shaM (levelsM shaM D) i (leafM shaM R))) ∧ Upd (fun k => Book3 b r q k ∨ (lo ≤ k ∧ k < hi)) w W := by
  obtain ⟨fv, v, xs, h⟩ := h
  have c0 := h.blk.cell (k := 0) rfl
  have c1 := h.blk.cell (k := 1) rfl
  have d0 : decide ((i : Int) < 0) = false := decide_eq_false (by omega)
  have d1 : decide (D.length ≤ i) = false := decide_eq_false (by omega)
  have HX := Lib.hid (And.intro hb (And.intro h (And.intro hR (And.intro hl hi'))))
  obtain ⟨n, hn⟩ : ∃ n, n = D.length := ⟨_, rfl⟩
  rw [← hn] at c1 d1
  have HN := Lib.hid hn
  clear h hb hR hl hi' hn
  go_enter Try.func25, Try.ntmps25
  go_wp2_with fail
  refine (tree_none c0).mono ?_
  rintro e W ⟨rfl, rfl⟩
  go_wp2_with fail
  refine (tree_Leaf (R := R) HX.out.1 c HX.out.2.2.1 HX.out.2.2.2.1).mono ?_
  rintro e w3 ⟨rfl, hb3, hu3⟩
  obtain ⟨hb, h, -, -, hi'⟩ := HX.out
  have h3 := h.book hb hu3
  clear HX c0 c1 d0 d1
  have hsz3 := hu3.size
  have h4 := h3.kept ((Upd.refl (fun _ => False) w3).alloc (.cells (dA dig0) 46))
  have hb4 := hb3.kept ((Upd.refl (fun _ => False) w3).alloc (.cells (dA dig0) 46))
  have hu4 : Upd (Book3 b r q) w (w3.alloc (.cells (dA dig0) 46)) := hu3.alloc _
  have hd4 : Blk (w3.alloc (.cells (dA dig0) 46)) w3.heap.size 46 (encB dig0.1) := Blk.new w3 _ _
  generalize hW4 : w3.alloc (.cells (dA dig0) 46) = w4 at *
  have hr4 := (dig_end (leafM shaM R) hd4).1
  have hu5 : Upd (fun k => k = w3.heap.size) w4 (w4.setRow w3.heap.size (dA (leafM shaM R))) := (Upd.refl _ _).setRow _ _ fun _ => rfl
  have hd5 : Blk (w4.setRow w3.heap.size (dA (leafM shaM R))) w3.heap.size 46 (encB (leafM shaM R).1) := hd4.setRow _
  have hb5 := hb4.far hd4 (by decide) hu5
  have hgd : hi ≤ w3.heap.size := Nat.le_trans h.sz hsz3
  have h5 := h4.upd hu5 (fun k _ hk _ e => by have e2 : k = w3.heap.size := e; omega)
  have hS0 : SetI w (w4.setRow w3.heap.size (dA (leafM shaM R))) lo hi t b r q n w3.heap.size (levelsM shaM D).length (noteM L (leafIn R)) D i (leafM shaM R) fv v xs 0 [] (levelsM shaM D) i (leafM shaM R) [] :=
    ⟨by rw [HN.out]; exact h5, rfl, rfl, rfl, rfl, hb5, hd5, (hu4.mono fun _ _ e => .inl e).trans (hu5.mono fun _ _ e => .inr (.inr e))⟩
  have hlm : (levelsM shaM D).length ≤ 1025 := by rw [levelsM_depth _ rfl]; have := depthM_le _ D rfl; have := h.n2; omega
  have HY := Lib.hid (And.intro hS0 (And.intro hlm (And.intro hi' (And.intro h.n2 (And.intro hgd hsz3)))))
  obtain ⟨m, hm⟩ : ∃ m, m = (levelsM shaM D).length := ⟨_, rfl⟩
  obtain ⟨Av, cv, hv⟩ := h5.form
  have c5 := h5.blk.cell (k := 6) rfl
  rw [hv, ← hm] at c5
  rw [← hm] at HY hlm
  have c5b := h5.blk.cell (k := 0) rfl
  clear h h3 h4 hb hb3 hb4 hu3 hu4 hd4 hu5 hd5 hb5 h5 hi' hS0 hm
  generalize hW5 : w4.setRow w3.heap.size (dA (leafM shaM R)) = w5 at *
  go_wp2_with fail
  obtain ⟨gd, hgde⟩ : ∃ gd, gd = w3.heap.size := ⟨_, rfl⟩
  rw [← hgde] at HY ⊢
  clear hW4 hW5 hgde c5 c5b
  obtain ⟨L1, hL1⟩ : ∃ L1, L1 = noteM L (leafIn R) := ⟨_, rfl⟩
  obtain ⟨dd, hdd⟩ : ∃ dd, dd = leafM shaM R := ⟨_, rfl⟩
  rw [← hL1, ← hdd] at HY
  have HL := Lib.hid (And.intro hL1 hdd)
  clear hL1 hdd
  go_loopw [1, 41] (fun u v1 wr => ∃ (k : Nat) (done rest : List (List Dig)) (j : Nat) (d : Dig) (N : List Bytes), u = .int .i64 j ∧ v1 = .int .i64 k ∧ SetI w wr lo hi t b r q n gd m L1 D i dd fv v xs k done rest j d N ∧ (rest = [] ∨ ∃ cur, rest = levelsM shaM cur ∧ j < cur.length ∧ cur.length ≤ 1024)) (fun _ v1 _ => 2000 - (intOf v1).toNat)
  case atStart => exact ⟨0, [], _, i, dd, [], rfl, rfl, HY.out.1, .inr ⟨D, rfl, HY.out.2.2.1, HY.out.2.2.2.1⟩⟩
  case round =>
    obtain ⟨k, done, rest, j, d, N, rfl, rfl, hs, hr⟩ := hrel
    rcases hr with rfl | ⟨cur, rfl, hj, hcl⟩
    · have hkm : ¬ ((k : Int) < (m : Int)) := by have h1 := hs.k; have h2 := hs.m; simp at h2; omega
      have HS := Lib.hid hs
      clear hs
      have hfin : Hid (TreeAt wr lo hi t b (D.set i (leafM shaM R)) ∧ BookL wr b r q (notesM (noteM L (leafIn R)) (setIns shaM (levelsM shaM D) i (leafM shaM R))) ∧ Upd (fun k => Book3 b r q k ∨ (lo ≤ k ∧ k < hi)) w wr) := by
        have hs := HS.out
        show _ ∧ _ ∧ _
        rw [← HL.out.1, ← HL.out.2]
        refine ⟨⟨fv, v, xs, ?_⟩, ?_, ?_⟩
        · rw [List.length_set, levelsM_set _ rfl HY.out.2.2.1, hs.lv, ← HN.out]
          have := hs.tr
          simpa [setM] using this
        · rw [hs.ins]
          have := hs.book
          simpa [setIns] using this
        · exact hs.upd.mono fun j hj e => by
            rcases e with e | e | e
            · exact .inl e
            · exact .inr e
            · have := HY.out.2.2.2.2.2; omega
      clear HS
      go_wp2
      go_ret
      exact ⟨rfl, hfin.out⟩
    · obtain ⟨tl, htl, ht1, ht2⟩ := levelsM_head cur
      have hkm : (k : Int) < (m : Int) := by have h1 := hs.k; have h2 := hs.m; rw [htl] at h2; simp at h2; omega
      have hget : (done ++ levelsM shaM cur)[k]? = some cur := by rw [htl, List.getElem?_append_right (by rw [hs.k]; omega), hs.k]; simp
      have hsk : SetI w wr.drew lo hi t b r q n gd m L1 D i dd fv v xs k done (levelsM shaM cur) j d N :=
        ⟨hs.tr.kept (Upd.refl _ wr).drew, hs.k, hs.m, hs.lv, hs.ins, hs.book.kept (Upd.refl _ wr).drew, hs.cell.drew, hs.upd.drew⟩
      obtain ⟨g, c1, g2, c2, hv1, hc, ho, hne, hg1, hg2, hg3, hg4, hg5, hg6, hg7, hx, hxk⟩ := hsk.tr.get hget
      obtain ⟨cs, hbl, hcs, htr⟩ := hsk.tr.turn hget hx hxk hj d
      have c6 := hsk.tr.blk.cell (k := 6) rfl
      rw [hv1, hsk.m] at c6
      obtain ⟨s1, s2⟩ := dig_at hsk.cell
      have hgdg : hi ≤ gd := HY.out.2.2.2.2.1
      have f1 : ∀ W, Upd (fun k => k = g2) wr.drew W → W.cell? ⟨t, 6, none⟩ = some (.slice (some ⟨g, 0, none⟩) m c1) := fun W hW => hW.cell c6 (fun e => hg7 (Eq.symm e))
      have f2 : ∀ W, Upd (fun k => k = g2) wr.drew W → W.cell? ⟨g, k, none⟩ = some (.slice (some ⟨g2, 0, none⟩) cur.length c2) := fun W hW => hW.cell hc (fun e => hg5 e)
      have f3 : ∀ W, Upd (fun k => k = g2) wr.drew W → segB W ⟨gd, 0, none⟩ 32 = true := fun W hW => (dig_at (hsk.cell.upd hW (by omega))).1
      have f4 : ∀ W, Upd (fun k => k = g2) wr.drew W → segV W ⟨gd, 0, none⟩ 32 = dA d := fun W hW => (dig_at (hsk.cell.upd hW (by omega))).2
      have hst := run_storeMid (P := Try.prog) hbl 46 32 (j * 32) sizeOf46 (dA d) (dA_size d) hcs (dA_one d)
      have hu2 : Upd (fun k => k = g2) wr.drew (wr.drew.setRow g2 (splice cs (j * 32) (dA d).toList).toArray) := (Upd.refl _ _).setRow _ _ fun _ => rfl
      have hb2 := hsk.book.far hbl (by decide) hu2
      have hd2 := hsk.cell.upd hu2 (by omega)
      have hup := hsk.upd.trans (hu2.mono fun k _ e => .inr (.inl (by have e2 : k = g2 := e; omega)))
      have hji : (j : Int) < (cur.length : Int) := by omega
      have hj0 : (j : Int) ≤ 1024 := by omega
      have hk0 : (k : Int) ≤ 1100 := by have := HY.out.2.1; omega
      have HS := Lib.hid (And.intro hs (And.intro hb2 (And.intro hd2 (And.intro hup (And.intro htr (And.intro hj (And.intro hcl (And.intro htl (And.intro ht1 (And.intro ht2 hgdg))))))))))
      clear hs hb2 hd2 hup htr hj hcl htl ht1 ht2 hget hsk hc ho hne hg1 hg2 hg3 hg4 hg5 hg6 hg7 hx hxk hbl hcs c6 s1 s2 hgdg hv1
      go_wp2_with fail
      refine wp_region_ord [(0, true), (1, true), (2, true), (3, true), (4, true), (5, true), (6, true), (7, true), (8, true), (9, true), (10, false)] (by kernel_rfl) (by kernel_rfl) (Upd (fun k => k = g2) wr.drew) (Upd.refl _ _) ?_
      simp only [ordOps, List.getD_cons_zero, List.getD_cons_succ]
      iterate 10 (refine wpOrd_held (fun K hK => ?_); go_simp; first | (apply Exists.intro; refine ⟨fun W hW => ?_, hK _ ?_⟩; (go_simp; first | done | exact rfl); clear hK K) | (refine hK _ ?_; clear hK K))
      generalize wr.drew = wd at *
      refine wpOrd_step (fun K hK => ?_) (Upd.refl _ wd)
      go_simp
      refine hK _ _ hu2 ?_
      clear hK K
      refine wpOrd_nil ?_
      clear f1 f2 f3 f4 hst
      generalize wd.setRow g2 (splice cs (j * 32) (dA d).toList).toArray = wb at *
      obtain ⟨hs, hb2, hd2, hup, htr, hj, hcl, htl, ht1, ht2, hgdg⟩ := HS.out
      have hkk := hs.k
      have hmm := hs.m
      have hls : (done ++ levelsM shaM cur).set k (cur.set j d) = (done ++ [cur.set j d]) ++ tl := by
        rw [htl, List.set_append_right _ _ (by omega), hkk, Nat.sub_self, List.set_cons_zero]; simp
      rw [hls] at htr
      have hmt : done.length + 1 + tl.length = m := by rw [htl] at hmm; simp at hmm; omega
      obtain ⟨Av, cv', hv2⟩ := htr.form
      have c6 := htr.blk.cell (k := 6) rfl
      have hmm2 : ((done ++ [cur.set j d]) ++ tl).length = m := by simp; omega
      rw [hv2, hmm2] at c6
      rcases Nat.lt_or_ge 1 cur.length with h1 | h1
      · have htl' := ht1 h1
        have hlm : 0 < tl.length := by rw [htl']; exact List.length_pos_iff.2 (levelsM_ne _)
        have hk1 : (k : Int) + 1 < (m : Int) := by omega
        have hgetb : ((done ++ [cur.set j d]) ++ tl)[k]? = some (cur.set j d) := by
          rw [List.append_assoc, List.getElem?_append_right (by omega), hkk, Nat.sub_self]; rfl
        obtain ⟨g', c1', g2', c2', hv', hc', ho', hne', hg1', hg2', hg3', hg4', hg5', hg6', hg7', hx', hxk'⟩ := htr.get hgetb
        have c6b := htr.blk.cell (k := 6) rfl
        rw [hv', hmm2] at c6b
        have c0b := htr.blk.cell (k := 0) rfl
        obtain ⟨A9, c9, hv9, hcc, hdg⟩ := ho'.digs
        simp only [Value.slice.injEq, true_and] at hv9
        obtain ⟨rfl, rfl⟩ := hv9
        obtain ⟨cs1, hcs1⟩ := own_cells htr.all (k := g') (by rw [hv']; rfl)
        have hlen : (cur.set j d).length = cur.length := List.length_set
        generalize hcu : cur.set j d = cur2 at *
        obtain ⟨j4, hj4⟩ : ∃ j4, j4 = j / 4 := ⟨_, rfl⟩
        have hq : (j : Int) / 4 = (j4 : Int) := by omega
        have hjq : 4 * j4 < cur2.length := by rw [hlen]; omega
        have hcl2 : cur2.length ≤ 100000 := by rw [hlen]; omega
        have hgl : 1 ≤ (group cur2 j4).length ∧ (group cur2 j4).length ≤ 4 := by rw [group_length]; omega
        have hup4 : j4 < (aboveM shaM cur).length ∧ (aboveM shaM cur).length ≤ 1024 := by rw [aboveM_length]; unfold up4; omega
        have hkk1 : (done ++ [cur2]).length = k + 1 := by simp [hkk]
        have HZ0 := Lib.hid (And.intro hjq (And.intro hcl2 (And.intro hgl (And.intro hup4 hkk1))))
        clear hjq hcl2 hgl hup4 hkk1
        have hT : ∀ W, Upd (fun i => Book3 b r q i ∨ i = gd) wb W → W.cell? ⟨t, 6, none⟩ = some (.slice (some ⟨g', 0, none⟩) m c1') := fun W hW => hW.cell c6b (fun e => e.elim (fun e => hb2.not htr.blk (by decide) e) (fun e => by have := htr.thi; have e2 : t = gd := e; omega))
        have hT0 : ∀ W, Upd (fun i => Book3 b r q i ∨ i = gd) wb W → W.cell? ⟨t, 0, none⟩ = some (.pointer (some ⟨b, 0, none⟩)) := fun W hW => hW.cell c0b (fun e => e.elim (fun e => hb2.not htr.blk (by decide) e) (fun e => by have := htr.thi; have e2 : t = gd := e; omega))
        have hTk : ∀ W, Upd (fun i => Book3 b r q i ∨ i = gd) wb W → W.cell? ⟨g', k, none⟩ = some (.slice (some ⟨g2', 0, none⟩) (cur2).length c2') := fun W hW => hW.cell hc' (fun e => e.elim (fun e => hb2.not hcs1 (by decide) e) (fun e => by have e2 : g' = gd := e; omega))
        have HZ := Lib.hid (And.intro hs (And.intro hb2 (And.intro hd2 (And.intro hup (And.intro htr (And.intro hj (And.intro hcl (And.intro htl' (And.intro hgdg (And.intro hcc (And.intro hdg (And.intro hlen (And.intro hj4 (And.intro htl (And.intro hmm2 (And.intro hkk (And.intro h1 hcu)))))))))))))))))
        clear hs hb2 hd2 hup htr hj hcl htl' htl ht1 ht2 hgdg hcc hdg hlen hj4 hmm2 hls hmt hv2 hv' hc' ho' hne' hg1' hg2' hg3' hg4' hg5' hg6' hg7' hx' hxk' c6b c0b hcs1 hgetb hkk hmm h1 hlm HS
        go_wp2_with fail
        refine wp_region_ord [(0, true), (1, true), (2, true), (3, true), (4, true), (5, true), (6, true), (7, true), (8, true), (9, true), (10, true), (11, true), (12, false), (13, false), (14, true), (15, true), (16, true), (17, false)] (by kernel_rfl) (by kernel_rfl) (Upd (fun i => Book3 b r q i ∨ i = gd) wb) (Upd.refl _ wb).drew ?_
        simp only [ordOps, List.getD_cons_zero, List.getD_cons_succ]
        iterate 12 (refine wpOrd_held (fun K hK => ?_); go_simp; first | (apply Exists.intro; refine ⟨fun W hW => ?_, hK _ ?_⟩; (go_simp; first | done | exact rfl); clear hK K) | (refine hK _ ?_; clear hK K))
        clear hT hT0 hTk
        have hwd : Kept wb wb.drew := (Upd.refl _ wb).drew
        have hSd : Upd (fun i => Book3 b r q i ∨ i = gd) wb wb.drew := (Upd.refl _ wb).drew
        generalize wb.drew = we at *
        refine wpOrd_step (fun K hK => ?_) hSd
        go_simp
        have hcc := HZ.out.2.2.2.2.2.2.2.2.2.1
        have hx1 := HZ0.out.1
        have hx2 := HZ0.out.2.1
        have HG := tree_group (w := we) (A := some ⟨g2', 0, none⟩) (D := cur2) c2' j4 hcc hx1 hx2
        obtain ⟨A8, hA8⟩ : ∃ A8 : Option Addr, A8 = (some (⟨g2', 0, none⟩ : Addr)).map (·.add ((4 * j4) * 32)) := ⟨_, rfl⟩
        rw [← hA8] at HG
        have HD8 : Hid (Digs we A8 (group cur2 j4)) := by
          rw [hA8]
          exact Digs.part (HZ.out.2.2.2.2.2.2.2.2.2.2.1.kept hwd) (4 * j4) 4
        refine HG.mono ?_
        clear HG hcc hx1 hx2 hA8
        rintro e W ⟨rfl, rfl⟩
        refine hK _ _ hSd ?_
        clear hK K
        refine wpOrd_step (fun K hK => ?_) hSd
        go_simp
        obtain ⟨hs, hb2, hd2, hup, htr, hj, hcl, htl', hgdg, hcc, hdg, hlen, hj4, htl, hmm2, hkk, h1, hcu⟩ := HZ.out
        have hgl := HZ0.out.2.2.1
        have HU := tree_Up (hb2.kept hwd) (c2' - 4 * j4) HD8.out hgl.1 hgl.2
        refine HU.mono ?_
        clear HU
        rintro e wf ⟨rfl, hbf, huf⟩
        have hSf : Upd (fun i => Book3 b r q i ∨ i = gd) wb wf := hSd.trans (huf.mono fun _ _ e => .inl e)
        have hdf := (hd2.kept hwd).upd huf ((hb2.kept hwd).not (hd2.kept hwd) (by decide))
        have htf := (htr.kept hwd).book (hb2.kept hwd) huf
        obtain ⟨X, hX⟩ : ∃ X, X = upM shaM (group (cur2) j4) := ⟨_, rfl⟩
        rw [← hX]
        have hrB : rowB wf gd 32 = true := rowB_of (show wf.heap[gd]? = some (.cells (encB d.1).toArray 46 (0, 0)) from hdf) (by simp [encB_length, d.2])
        have hug : Upd (fun i => i = gd) wf (wf.setRow gd (dA X)) := (Upd.refl _ _).setRow _ _ fun _ => rfl
        have hdg2 : Blk (wf.setRow gd (dA X)) gd 46 (encB X.1) := hdf.setRow _
        have hbg := hbf.far hdf (by decide) hug
        have htg := htf.upd hug (fun i _ hi _ e => by have e2 : i = gd := e; omega)
        have hSg : Upd (fun i => Book3 b r q i ∨ i = gd) wb (wf.setRow gd (dA X)) := hSf.trans (hug.mono fun _ _ e => .inr e)
        have HT : Hid (SetI w (wf.setRow gd (dA X)) lo hi t b r q n gd m L1 D i dd fv v xs (k + 1) (done ++ [cur2]) tl j4 X (N ++ [upIn (group (cur2) j4)]) ∧ (tl = [] ∨ ∃ cur', tl = levelsM shaM cur' ∧ j4 < cur'.length ∧ cur'.length ≤ 1024)) := by
          refine ⟨⟨htg, HZ0.out.2.2.2.2, hmm2, ?_, ?_, ?_, hdg2, hup.then hSg (fun _ _ e => e.elim .inl (fun e => .inr (.inr e)))⟩, .inr ⟨aboveM shaM cur, htl', HZ0.out.2.2.2.1.1, HZ0.out.2.2.2.1.2⟩⟩
          · rw [hs.lv, setM_more h1, htl', hX, hj4, ← hcu]; simp
          · rw [hs.ins, setIns_more h1, htl', hX, hj4, ← hcu]; simp
          · rw [notesM_append]; exact hbg
        refine hK _ _ hSf ?_
        clear hK K hs hb2 hd2 hup htr hj hcl htl' hgdg hcc hdg hlen hj4 htl hmm2 hkk h1 hX hcu hdf htf hug hdg2 hbg htg huf hbf HZ hgl hwd hSd HZ0
        iterate 3 (refine wpOrd_held (fun K hK => ?_); go_simp; first | (apply Exists.intro; refine ⟨fun W hW => ?_, hK _ ?_⟩; (go_simp; first | done | exact rfl); clear hK K) | (refine hK _ ?_; clear hK K))
        refine wpOrd_step (fun K hK => ?_) hSf
        go_simp
        refine hK _ _ hSg ?_
        clear hK K
        refine wpOrd_nil ?_
        clear hSf hSg
        generalize wf.setRow gd (dA X) = wg at *
        go_wp2
        go_roundw
        case rel => exact ⟨k + 1, _, tl, j4, X, _, rfl, by show _ = _; go_num, HT.out.1, HT.out.2⟩
        case measure => simp [intOf]; omega
      · have htl' := ht2 h1
        have hk1 : ¬ (k : Int) + 1 < (m : Int) := by rw [htl'] at hmt; simp at hmt; omega
        have HT : Hid (SetI w wb lo hi t b r q n gd m L1 D i dd fv v xs (k + 1) (done ++ [cur.set j d]) [] j d N) := by
          rw [htl'] at htr hmm2
          refine ⟨htr, by simp [hkk], hmm2, ?_, ?_, hb2, hd2, hup⟩
          · rw [hs.lv, htl, htl']; simp [setM]
          · rw [hs.ins, htl, htl']; simp [setIns]
        clear hs hb2 hd2 hup htr hj hcl htl ht1 ht2 hgdg htl'
        go_wp2
        go_roundw
        case rel => exact ⟨k + 1, _, [], j, d, N, rfl, by show _ = _; go_num, HT.out, .inl rfl⟩
        case measure => simp [intOf]; omega
end Go.Proofs.Ytnncpjekcljfbaa
/- ink: Len, Clash, Of of a book that is none. -/
namespace Go.Proofs.Ytnncpjekcljfbaa
open Go.RowKit

theorem ink_Len {w : World} {b r q : Nat} {L : List Bytes} {I : List (Dig × Bytes)} {M : List Bytes} {n : Int} (h : BookAt w b r q L I M n) :
    Calls Try.prog 37 #[.pointer (some ⟨b, 0, none⟩)] w fun e W => e = .returned (.int .i64 (IntKind.i64.wrap L.length)) ∧ Kept w W := by
  have f0 : ∀ W, Kept w W → W.cell? ⟨b, 0, none⟩ = some (.map (some r)) := fun W hW => (h.kept hW).c0
  have f1 : ∀ W, Kept w W → W.cell? ⟨b, 1, none⟩ = some (.map (some q)) := fun W hW => (h.kept hW).c1
  have f2 : ∀ W, Kept w W → (Builtin.len_ #[119] 3 #[.map (some r)]).run Try.prog W = .ok (.int .i64 I.length) W := fun W hW => by
    have := run_len_at Try.underlying119 (h.kept hW).ins 3
    rwa [inV, List.length_map] at this
  have f3 : ∀ W, Kept w W → (Builtin.len_ #[120] 3 #[.map (some q)]).run Try.prog W = .ok (.int .i64 M.length) W := fun W hW => by
    have := run_len_at Try.underlying120 (h.kept hW).mor 3
    rwa [moV, List.length_map] at this
  have hc := h.c0
  have hlen : Hid (IntKind.i64.wrap (I.length + M.length) = IntKind.i64.wrap L.length) := by
    show _ = _
    rw [← h.inv.len]; simp
  clear h
  go_enter Try.func37, Try.ntmps37
  go_wp2_with fail
  refine (ink_none hc).mono ?_
  rintro e w' ⟨rfl, rfl⟩
  go_wp2_with fail
  refine wp_region_ord [(0, true), (1, true), (2, true), (3, true), (4, true), (5, true), (6, true), (7, true), (8, true), (9, true), (10, true), (11, true)] (by kernel_rfl) (by kernel_rfl) (Kept w) (Upd.refl _ w).drew ?_
  simp only [ordOps, List.getD_cons_zero, List.getD_cons_succ]
  iterate 12 (refine wpOrd_held (fun K hK => ?_); go_simp; first | (apply Exists.intro; refine ⟨fun W hW => ?_, hK _ ?_⟩; (go_simp; first | done | exact rfl); clear hK K) | (refine hK _ ?_; clear hK K))
  refine wpOrd_nil ?_
  rw [hlen.out]
  clear f0 f1 f2 f3
  have HK : Hid (Kept w w.drew) := (Upd.refl _ w).drew
  generalize w.drew = w1 at *
  go_wp2
  go_ret
  exact ⟨rfl, HK.out⟩

set_option maxRecDepth 20000 in
theorem ink_Clash {w : World} {b r q : Nat} {L : List Bytes} {I : List (Dig × Bytes)} {M : List Bytes} {n : Int} (h : BookAt w b r q L I M n) :
    Calls Try.prog 57 #[.pointer (some ⟨b, 0, none⟩)] w fun e W => e = .returned (.bool (clashB I M)) ∧ Kept w W := by
  have hc := h.c0
  have hc1 := h.c1
  have f2 : (Builtin.len_ #[120] 3 #[.map (some q)]).run Try.prog w = .ok (.int .i64 M.length) w := by
    have := run_len_at Try.underlying120 h.mor 3
    rwa [moV, List.length_map] at this
  have f3 := run_lookup_at dig_enc Try.underlying119 str_zero h.ins (x := dig0) trivial true
  rw [getL_inV] at f3
  have HC : Hid (((findI dig0 I).isSome || decide (0 < M.length)) = clashB I M) := rfl
  clear h
  cases hf : findI dig0 I with
  | none =>
    rw [hf] at HC f3
    change (Instr.lookup 119 (.map (some r)) (.agg (dA dig0)) true).run Try.prog w = .ok (.tuple #[.string ByteArray.empty, .bool false]) w at f3
    go_enter Try.func57, Try.ntmps57
    go_wp2_with fail
    refine (ink_none hc).mono ?_
    rintro e w' ⟨rfl, rfl⟩
    go_wp2
    go_ret
    refine ⟨?_, Upd.refl _ _⟩
    rw [← HC.out]
    simp
  | some x =>
    rw [hf] at HC f3
    change (Instr.lookup 119 (.map (some r)) (.agg (dA dig0)) true).run Try.prog w = .ok (.tuple #[.string (strB x), .bool true]) w at f3
    go_enter Try.func57, Try.ntmps57
    go_wp2_with fail
    refine (ink_none hc).mono ?_
    rintro e w' ⟨rfl, rfl⟩
    go_wp2
    go_ret
    refine ⟨?_, Upd.refl _ _⟩
    rw [← HC.out]
    simp
end Go.Proofs.Ytnncpjekcljfbaa
/- Whole structs and arrays compared, where they are keys. No program is named. -/
namespace Go.Proofs.Ytnncpjekcljfbaa
open Go.RowKit
section
variable {P : Program} {k : TypeId} {κ : Type} [DecidableEq κ] {ok : κ → Prop} {enc : κ → Value}

theorem run_equal_enc (K : KeyEnc P k ok enc) {m : Nat} (hm : m ≤ 10000) (hk : P.keyTypeAt m k = true) (hwide : (match P.underlying k with | some (.array _ _) | some (.struct _) => true | _ => false) = true)
    {x y : κ} (hx : ok x) (hy : ok y) (W : World) : (Op.equal k (enc x) (enc y)).run P W = .ok (decide (x = y)) W := by
  obtain ⟨lx, hlx⟩ := K.key x hx
  obtain ⟨ly, hly⟩ := K.key y hy
  obtain ⟨r, hr, hiff⟩ := run_equal_deep (P := P) W hm hk hwide hlx hly
  rw [hr]
  congr 1
  rw [Bool.eq_iff_iff, hiff, decide_eq_true_eq]
  constructor
  · rintro rfl
    exact K.inj x y hx hy (K.law.inj hlx hly)
  · rintro rfl
    rw [hlx] at hly
    exact Option.some.inj hly

theorem run_eqRow (K : KeyEnc P k ok enc) {m : Nat} (hm : m ≤ 10000) (hk : P.keyTypeAt m k = true) (hwide : (match P.underlying k with | some (.array _ _) | some (.struct _) => true | _ => false) = true)
    (hg : P.eqGuardType P.depth k = false) (cs : κ → Array Value) (henc : ∀ x, enc x = .agg (cs x)) {x y : κ} (hx : ok x) (hy : ok y) (xo yo : Operand) (W : World) :
    (eqRow .eql k xo yo (.agg (cs x)) (.agg (cs y))).run P W = .ok (.value (.bool (decide (x = y)))) W := by
  have h := run_equal_enc K hm hk hwide hx hy W
  rw [henc, henc] at h
  simp only [eqRow, Sem.run_bind, run_eqGuard_agg W .eql k xo yo (cs x) (cs y) hg, Result.andThen_ok, run_eql_struct, Sem.run_pure]
  rw [show (Op.equalIn 10000 k (Value.agg (cs x)) (Value.agg (cs y))).run P W = _ from h]
  rfl
theorem run_neRow (K : KeyEnc P k ok enc) {m : Nat} (hm : m ≤ 10000) (hk : P.keyTypeAt m k = true) (hwide : (match P.underlying k with | some (.array _ _) | some (.struct _) => true | _ => false) = true)
    (hg : P.eqGuardType P.depth k = false) (cs : κ → Array Value) (henc : ∀ x, enc x = .agg (cs x)) {x y : κ} (hx : ok x) (hy : ok y) (xo yo : Operand) (W : World) :
    (eqRow .neq k xo yo (.agg (cs x)) (.agg (cs y))).run P W = .ok (.value (.bool (!decide (x = y)))) W := by
  have h := run_equal_enc K hm hk hwide hx hy W
  rw [henc, henc] at h
  simp only [eqRow, Sem.run_bind, run_eqGuard_agg W .neq k xo yo (cs x) (cs y) hg, Result.andThen_ok, run_neq_struct, Sem.run_pure]
  rw [show (Op.equalIn 10000 k (Value.agg (cs x)) (Value.agg (cs y))).run P W = _ from h]
  rfl
end
end Go.Proofs.Ytnncpjekcljfbaa
/- digests compared; Bring; a tree's root, as the statements ask for it; Set refused. -/
namespace Go.Proofs.Ytnncpjekcljfbaa
open Go.RowKit

theorem encD_eq (d : Dig) : encD d = .agg (dA d) := rfl
@[go_sem] theorem run_eq_dig (x y : Dig) (xo yo : Operand) (W : World) : (eqRow .eql 46 xo yo (.agg (dA x)) (.agg (dA y))).run Try.prog W = .ok (.value (.bool (decide (x = y)))) W :=
  run_eqRow dig_enc (m := 4) (by omega) (by kernel_rfl) (by rw [Try.underlying46]) (by kernel_rfl) dA encD_eq trivial trivial xo yo W
@[go_sem] theorem run_ne_dig (x y : Dig) (xo yo : Operand) (W : World) : (eqRow .neq 46 xo yo (.agg (dA x)) (.agg (dA y))).run Try.prog W = .ok (.value (.bool (!decide (x = y)))) W :=
  run_neRow dig_enc (m := 4) (by omega) (by kernel_rfl) (by rw [Try.underlying46]) (by kernel_rfl) dA encD_eq trivial trivial xo yo W

/-- Bring, below a positive number -/
theorem ref_Bring (i n : Int) (hi : (Lit.int .i64 i).wf = true) (hn : 1 ≤ n) (hn' : n ≤ 4611686018427387904) (w : World) :
    Calls Try.prog 56 #[.int .i64 i, .int .i64 n] w fun e w' => e = .returned (.int .i64 (i % n)) ∧ w = w' := by
  have hx : -9223372036854775808 ≤ i ∧ i ≤ 9223372036854775807 := by simpa [Lit.wf, IntKind.min, IntKind.max, IntKind.signed, IntKind.bits] using hi
  clear hi
  obtain ⟨h1, h2⟩ := hx
  by_cases h0 : 0 ≤ i
  · have hm : 0 ≤ i % n := Int.emod_nonneg _ (by omega)
    go_enter Try.func56, Try.ntmps56
    go_wp2
    go_ret
    exact ⟨rfl, rfl⟩
  · have hlo : -n < i.tmod n := Int.lt_tmod_of_pos i (by omega)
    have HT : Hid (i.tmod n = if n ∣ i then i % n else i % n - n) := by
      have ht := Int.tmod_eq_emod (a := i) (b := n)
      show _ = _
      rw [ht]
      by_cases hd : n ∣ i
      · simp [hd]
      · rw [if_neg (by omega), if_neg hd]; omega
    have hm : 0 ≤ i % n := Int.emod_nonneg _ (by omega)
    have hm' : i % n < n := Int.emod_lt_of_pos _ (by omega)
    have hhi : i.tmod n ≤ 0 := by
      have ht := HT.out
      split at ht
      · rename_i hdv; have := Int.emod_eq_zero_of_dvd hdv; omega
      · omega
    by_cases hd : i.tmod n < 0
    · go_enter Try.func56, Try.ntmps56
      go_wp2
      go_ret
      refine ⟨?_, rfl⟩
      have ht := HT.out
      have : i.tmod n + n = i % n := by
        split at ht <;> omega
      rw [this]; rfl
    · go_enter Try.func56, Try.ntmps56
      go_wp2
      go_ret
      refine ⟨?_, rfl⟩
      have ht := HT.out
      have : i.tmod n = i % n := by
        split at ht <;> omega
      rw [this]; rfl

theorem mod_range (i n : Int) (hn : 1 ≤ n) : 0 ≤ i % n ∧ i % n < n := ⟨Int.emod_nonneg _ (by omega), Int.emod_lt_of_pos _ (by omega)⟩


theorem tree_Set_no {w : World} {p : Option Addr} (h : NoTree w p) (i : Int) (x : Value) :
    Calls Try.prog 25 #[.pointer p, .int .i64 i, x] w fun e w' => e = .returned (.int .i64 1) ∧ w = w' := by
  go_enter Try.func25, Try.ntmps25
  go_wp2_with fail
  refine (tree_none_no h).mono ?_
  rintro e W ⟨rfl, rfl⟩
  go_wp2
  go_ret
  exact ⟨rfl, rfl⟩
theorem tree_Set_out {w : World} {lo hi t b : Nat} {D : List Dig} (h : TreeAt w lo hi t b D) (i : Int) (x : Value) (hi' : i < 0 ∨ (D.length : Int) ≤ i) :
    Calls Try.prog 25 #[.pointer (some ⟨t, 0, none⟩), .int .i64 i, x] w fun e w' => e = .returned (.int .i64 9) ∧ w = w' := by
  obtain ⟨fv, v, xs, h⟩ := h
  have c0 := h.blk.cell (k := 0) rfl
  have c1 := h.blk.cell (k := 1) rfl
  clear h
  generalize D.length = n at *
  by_cases h0 : i < 0
  · have d0 : decide (i < 0) = true := decide_eq_true h0
    clear hi' h0
    go_enter Try.func25, Try.ntmps25
    go_wp2_with fail
    refine (tree_none c0).mono ?_
    rintro e W ⟨rfl, rfl⟩
    go_wp2
    go_ret
    exact ⟨rfl, rfl⟩
  · have d0 : decide (i < 0) = false := decide_eq_false h0
    have d1 : decide ((n : Int) ≤ i) = true := decide_eq_true (by omega)
    clear hi' h0
    go_enter Try.func25, Try.ntmps25
    go_wp2_with fail
    refine (tree_none c0).mono ?_
    rintro e W ⟨rfl, rfl⟩
    go_wp2
    go_ret
    exact ⟨rfl, rfl⟩

end Go.Proofs.Ytnncpjekcljfbaa
/- The statements' world: a book that is new; works. -/
namespace Go.Proofs.Ytnncpjekcljfbaa
open Go.RowKit

/-- a book made behind w, and nothing of w turned -/
structure Ink0 (w W : World) (b r q : Nat) (L : List Bytes) : Prop where
  book : BookL W b r q L
  upd : Kept w W
  far : ∀ k, Book3 b r q k → w.heap.size ≤ k
section
variable {w W W' : World} {b r q : Nat} {L L' : List Bytes} {S : Nat → Prop}
theorem Ink0.step (h : Ink0 w W b r q L) (hb : BookL W' b r q L') (hu : Upd S W W') (hs : ∀ k, S k → Book3 b r q k ∨ w.heap.size ≤ k) : Ink0 w W' b r q L' :=
  ⟨hb, h.upd.then hu (fun k hk e => (hs k e).elim (fun e => by have := h.far k e; omega) (fun e => by omega)), h.far⟩
theorem Ink0.to (h : Ink0 w W b r q L) (hb : BookL W' b r q L') (hu : Upd (Book3 b r q) W W') : Ink0 w W' b r q L' := h.step hb hu fun _ e => .inl e
theorem Ink0.kept (h : Ink0 w W b r q L) (hu : Kept W W') : Ink0 w W' b r q L := h.step (h.book.kept hu) hu fun _ e => e.elim
end
theorem law_book (w : World) : Calls Try.prog 19 #[] w fun e W => ∃ b r q, e = .returned (.pointer (some ⟨b, 0, none⟩)) ∧ Ink0 w W b r q [] := by
  refine (ink_New w).mono ?_
  rintro e W ⟨rfl, h, hu⟩
  exact ⟨_, _, _, rfl, ⟨⟨_, _, _, h⟩, hu, by rintro k (rfl | rfl | rfl) <;> omega⟩⟩

theorem depthM1 : depthM 1 = 1 := by rw [depthM, dif_neg (by omega)]
theorem depthM_up (n m d : Nat) (h1 : 1 < n) (hm : up4 n = m) (hd : depthM m = d) : depthM n = 1 + d := by rw [depthM, dif_pos h1, hm, hd]
theorem depthM2 : depthM 2 = 2 := depthM_up 2 1 1 (by omega) rfl depthM1
theorem depthM5 : depthM 5 = 3 := depthM_up 5 2 2 (by omega) rfl depthM2

/-- one byte, written out, as bytes -/
theorem byt_one {W : World} {B : Nat} {v : Value} {c : UInt8} (h : OwnB W B v [c]) : ∃ A k, v = .slice A 1 k ∧ 1 ≤ k ∧ Byt W A [c] := by
  obtain ⟨A, k, rfl, hk, hb⟩ := h.form
  exact ⟨A, k, rfl, hk, hb⟩

theorem aboveM5 (x : Dig) : ∃ l, aboveM shaM (List.replicate 5 x) = l ∧ l.length = 2 ∧ l[1]? = some (upM shaM [x]) := by
  refine ⟨_, rfl, by rw [aboveM_length, List.length_replicate]; rfl, ?_⟩
  rw [List.getElem?_eq_getElem (by rw [aboveM_length, List.length_replicate]; decide), aboveM_get]
  rfl
theorem lev51 (x : Dig) : (levelsM shaM (List.replicate 5 x))[1]? = some (aboveM shaM (List.replicate 5 x)) := by
  obtain ⟨tl, h1, h2, _⟩ := levelsM_head (List.replicate 5 x)
  rw [h1, h2 (by simp)]
  obtain ⟨tl2, h3, _⟩ := levelsM_head (aboveM shaM (List.replicate 5 x))
  rw [h3]
  rfl

structure WorksS (w W : World) (b r q lo hi t g B : Nat) (L : List Bytes) (x : Dig) (v : Value) (l : List Dig) : Prop where
  ink : Ink0 w W b r q L
  tree : TreeAt W lo hi t b (List.replicate 5 x)
  dig : Blk W g 46 (encB x.1)
  lev : OwnD W B v l
  lo : w.heap.size ≤ lo
  gg : hi ≤ g
  gB : hi ≤ B
theorem WorksS.kept {w W W' : World} {b r q lo hi t g B : Nat} {L : List Bytes} {x : Dig} {v : Value} {l : List Dig} (h : WorksS w W b r q lo hi t g B L x v l) (hu : Kept W W') : WorksS w W' b r q lo hi t g B L x v l :=
  ⟨h.ink.kept hu, h.tree.kept hu, h.dig.kept hu, OwnRows.upd h.lev hu (fun _ _ h => h), h.lo, h.gg, h.gB⟩
theorem TreeAt.sz {W : World} {lo hi t b : Nat} {D : List Dig} (h : TreeAt W lo hi t b D) : hi ≤ W.heap.size := by
  obtain ⟨_, _, _, h⟩ := h; exact h.sz
theorem WorksS.sz {w W : World} {b r q lo hi t g B : Nat} {L : List Bytes} {x : Dig} {v : Value} {l : List Dig} (h : WorksS w W b r q lo hi t g B L x v l) : hi ≤ W.heap.size := h.tree.sz

set_option maxHeartbeats 4000000 in
set_option maxRecDepth 20000 in
theorem law_works (w : World) : Calls Try.prog 22 #[] w fun e W => e = .returned (.bool true) ∧ Kept w W := by
  go_enter Try.func22, Try.ntmps22
  go_wp2_with fail
  refine (law_book w).mono ?_
  rintro e w1 ⟨b, r, q, rfl, hI1⟩
  have HI := Lib.hid hI1
  clear hI1
  go_wp2_with fail
  refine (tree_New HI.out.book 1 (by omega) (by omega)).mono ?_
  rintro e w2 ⟨t1, rfl, ht1, hT1, hb2, hu2⟩
  have HI2 := Lib.hid (HI.out.to hb2 hu2)
  have HT1 := Lib.hid (And.intro ht1 hT1)
  clear HI hb2 hu2 ht1 hT1
  go_wp2_with fail
  refine (tree_New HI2.out.book 5 (by omega) (by omega)).mono ?_
  rintro e w3 ⟨t5, rfl, ht5, hT5, hb3, hu3⟩
  have HI3 := Lib.hid (HI2.out.to hb3 hu3)
  replace HT1 := Lib.hid (HT1.out.2.book HI2.out.book hu3)
  have HT5 := Lib.hid (And.intro (Nat.le_trans HI2.out.upd.size ht5) (And.intro HI2.out.upd.size hT5))
  clear HI2 hb3 hu3 ht5 hT5
  have e1 : ((depthM (List.replicate 1 (leafM shaM [])).length : Nat) : Int) = 1 := by rw [List.length_replicate, depthM1]; rfl
  have e5 : ((depthM (List.replicate 5 (leafM shaM [])).length : Nat) : Int) = 3 := by rw [List.length_replicate, depthM5]; rfl
  have e6 : (((List.replicate 5 (leafM shaM [])).length : Nat) : Int) = 5 := by rw [List.length_replicate]; rfl
  go_wp2_with fail
  refine (tree_Depth HT1.out).mono ?_
  rw [e1]
  rintro e W ⟨rfl, rfl⟩
  go_wp2_with fail
  refine (tree_Depth HT5.out.2.2).mono ?_
  rw [e5]
  rintro e W ⟨rfl, rfl⟩
  go_wp2_with fail
  refine (tree_Leaves HT5.out.2.2).mono ?_
  rw [e6]
  rintro e W ⟨rfl, rfl⟩
  go_wp2_with fail
  refine (tree_Root HT1.out).mono ?_
  rintro e w4 ⟨rfl, hu4⟩
  rw [show List.replicate 1 (leafM shaM []) = [leafM shaM []] from rfl, rootM_one]
  obtain ⟨x, hx⟩ : ∃ x, x = leafM shaM [] := ⟨_, rfl⟩
  rw [← hx]
  have HXX : Hid (x = shaM [0]) := hx
  replace HT5 := Lib.hid (And.intro HT5.out.1 (And.intro HT5.out.2.1 (HT5.out.2.2.kept hu4)))
  replace HI3 := Lib.hid (HI3.out.kept hu4)
  rw [← hx] at HT5 e6
  have hsz4 := hu4.size
  clear HT1 e1 e5 e6 hx hu4
  have hd6 : Blk (w4.alloc (.cells (dA x) 46)) w4.heap.size 46 (encB x.1) := Blk.new w4 _ _
  have hk6 : Kept w4 (w4.alloc (.cells (dA x) 46)) := (Upd.refl _ w4).alloc _
  replace HT5 := Lib.hid (And.intro HT5.out.1 (And.intro HT5.out.2.1 (HT5.out.2.2.kept hk6)))
  replace HI3 := Lib.hid (HI3.out.kept hk6)
  have HD6 := Lib.hid (And.intro hd6 (And.intro (show w3.heap.size ≤ w4.heap.size from hsz4) (show w3.heap.size ≤ (w4.alloc (.cells (dA x) 46)).heap.size from Nat.le_trans hsz4 hk6.size)))
  clear hd6 hk6 hsz4
  go_wp2_with fail
  obtain ⟨g6, hg6⟩ : ∃ g6, g6 = w4.heap.size := ⟨_, rfl⟩
  rw [← hg6] at HD6 ⊢
  clear hg6
  generalize w4.alloc (.cells (dA x) 46) = w5 at *
  obtain ⟨l2, hl2, hl2a, hl2b⟩ := aboveM5 x
  refine (tree_Level HT5.out.2.2 1 (by rw [lev51, hl2]) (by omega)).mono ?_
  rintro e w6 ⟨v8, rfl, hv8, hu6⟩
  replace HD6 := Lib.hid (And.intro (HD6.out.1.kept hu6) HD6.out.2)
  replace HT5 := Lib.hid (And.intro HT5.out.1 (And.intro HT5.out.2.1 (HT5.out.2.2.kept hu6)))
  replace HI3 := Lib.hid (HI3.out.kept hu6)
  obtain ⟨v9, w7, hbs, hB, hk7⟩ := run_bs1 0 w6
  change (sliceRow 35 1 #[(0, .int .u8 0)]).run Try.prog w6 = _ at hbs
  have hv7 := OwnRows.upd hv8 hk7 (fun _ _ h => h)
  replace HD6 := Lib.hid (And.intro (HD6.out.1.kept hk7) HD6.out.2)
  replace HT5 := Lib.hid (And.intro HT5.out.1 (And.intro HT5.out.2.1 (HT5.out.2.2.kept hk7)))
  replace HI3 := Lib.hid (HI3.out.kept hk7)
  obtain ⟨A9, c9, rfl, hc9, hb9⟩ := byt_one hB
  have HV := Lib.hid (And.intro hv7 (And.intro hl2a hl2b))
  have H9 := Lib.hid (And.intro hc9 hb9)
  clear hu6 hB hk7 hv7 hv8 hl2 hl2a hl2b hc9 hb9
  go_wp2_with fail
  refine (sha_Of (R := [0]) c9 H9.out.2 (by simp) H9.out.1).mono ?_
  rintro e w8 ⟨rfl, hu8⟩
  rw [← HXX.out]
  have hS8 : WorksS w w8 b r q w2.heap.size w3.heap.size t5 g6 w5.heap.size _ x v8 l2 :=
    ⟨HI3.out.kept hu8, HT5.out.2.2.kept hu8, HD6.out.1.kept hu8, OwnRows.upd HV.out.1 hu8 (fun _ _ h => h), HT5.out.2.1, HD6.out.2.1, HD6.out.2.2⟩
  have hS9 := hS8.kept ((Upd.refl (fun _ => False) w8).alloc (.cells (dA x) 46))
  have h10 : Blk (w8.alloc (.cells (dA x) 46)) w8.heap.size 46 (encB x.1) := Blk.new w8 _ _
  have h10s : w3.heap.size ≤ w8.heap.size := hS8.sz
  have HV2 := Lib.hid HV.out.2
  clear hbs hS8 HV hu8 HI3 HT5 HD6 H9
  generalize hW9 : w8.alloc (.cells (dA x) 46) = w9 at *
  obtain ⟨v11, w10, hbs, hB, hk7⟩ := run_bs1 1 w9
  change (sliceRow 35 1 #[(0, .int .u8 1)]).run Try.prog w9 = _ at hbs
  have HS := Lib.hid hS9
  have HB := Lib.hid (And.intro hB hk7)
  have H10 := Lib.hid (And.intro h10 h10s)
  clear hS9 hB hk7 h10 h10s
  go_wp2_with fail
  clear hbs hW9
  go_loopw [12, 11] (fun i v wr => ∃ k : Nat, k ≤ 32 ∧ i = .int .i64 k ∧ OwnB wr w9.heap.size v (1 :: x.1.take k) ∧ Kept w9 wr) (fun i _ _ => 32 - (intOf i).toNat)
  case atStart => exact ⟨0, by omega, rfl, HB.out.1, HB.out.2⟩
  case round =>
    obtain ⟨k, hk, rfl, hown, hu⟩ := hrel
    rcases Nat.lt_or_ge k 32 with hlt | hge
    · have hk' : (k : Int) < 32 := by omega
      have hkx : k < x.1.length := by rw [x.2]; exact hlt
      obtain ⟨c, hc⟩ : ∃ c, c = x.1[k] := ⟨_, rfl⟩
      have s1 : wr.cell? ⟨w8.heap.size, k, none⟩ = some (.int .u8 (c.toNat : Int)) := (H10.out.1.kept hu).cell (by rw [encB, List.getElem?_map, List.getElem?_eq_getElem hkx, ← hc]; rfl)
      have HC : Hid ((1 :: x.1.take (k + 1) : Bytes) = (1 :: x.1.take k) ++ [c]) := by show _ = _; rw [List.take_succ_eq_append_getElem hkx, ← hc]; rfl
      obtain ⟨v2, wr2, hbs, hB2, hk2⟩ := run_bs1 c wr
      obtain ⟨A2, c2, rfl, hc2, hb2⟩ := byt_one hB2
      have HR := Lib.hid (And.intro (hown.kept hk2) (And.intro hb2 (And.intro (show Kept w9 wr2 from hu.then hk2 fun _ _ h => h) (show (1 :: x.1.take k : Bytes).length ≤ 33 by rw [List.length_cons, List.length_take]; omega))))
      clear hown hu hB2 hk2 hb2 hc2 hc hkx
      go_wp2_with (at_builtin; refine wpList_append_bytes (R := [c]) rfl (.tmp 62) (.tmp 66) rfl rfl HR.out.1 A2 c2 rfl HR.out.2.1 (by have := HR.out.2.2.2; simp only [List.length_singleton]; omega) HR.out.2.2.1.size ?_; intro v' w3' hown hu3)
      go_roundw
      case rel =>
        refine ⟨k + 1, by omega, by show _ = _; go_num, by rw [HC.out]; exact hown, HR.out.2.2.1.then hu3 fun i hi e => ?_⟩
        have := (HR.out.1.far _ e).1
        omega
      case measure => simp [intOf]; omega
    · obtain rfl : k = 32 := by omega
      rw [show x.1.take 32 = x.1 from List.take_of_length_le (Nat.le_of_eq x.2), show (1 :: x.1 : Bytes) = upIn [x] by simp [upIn]] at hown
      have hS := HS.out.kept hu
      have h10 := H10.out.1.kept hu
      obtain ⟨A3, c3, rfl, hc3, hb3⟩ := hown.form
      obtain ⟨g8, c8, rfl, hg8, hg8l, t1', t2'⟩ := OwnRows.get dA_size hS.lev (k := 1) (by rw [HV2.out.1]; omega)
      have hgg := hS.gg
      have hgB := hS.gB
      have hg10 := H10.out.2
      have hl8 : l2.length = 2 := HV2.out.1
      have hl9 : 1 < l2.length := by omega
      simp only [hl8]
      have hlx : l2[1]? = some (upM shaM [x]) := HV2.out.2
      have hnot : ∀ k cs t', wr.heap[k]? = some (.cells cs t' (0, 0)) → t' ≠ 125 → w3.heap.size ≤ k → ¬ (Book3 b r q k ∨ (w2.heap.size ≤ k ∧ k < w3.heap.size)) := fun k cs t' h1 h2 h3 e => e.elim (fun e => hS.ink.book.not h1 h2 e) (fun e => by omega)
      have n6 := hnot g6 _ _ hS.dig (by decide) hgg
      have n10 := hnot w8.heap.size _ _ h10 (by decide) hg10
      have n8 : ¬ (Book3 b r q g8 ∨ (w2.heap.size ≤ g8 ∧ g8 < w3.heap.size)) := by
        obtain ⟨cur, h1⟩ := own_cells hS.lev (k := g8) rfl
        exact hnot g8 _ _ h1 (by decide) (Nat.le_trans hgB hg8)
      have f1 : ∀ W, Upd (fun k => Book3 b r q k ∨ (w2.heap.size ≤ k ∧ k < w3.heap.size)) wr W → segB W ⟨g6, 0, none⟩ 32 = true := fun W hW => (dig_at (hS.dig.upd hW n6)).1
      have f2 : ∀ W, Upd (fun k => Book3 b r q k ∨ (w2.heap.size ≤ k ∧ k < w3.heap.size)) wr W → segV W ⟨g6, 0, none⟩ 32 = dA x := fun W hW => (dig_at (hS.dig.upd hW n6)).2
      have f3 : ∀ W, Upd (fun k => Book3 b r q k ∨ (w2.heap.size ≤ k ∧ k < w3.heap.size)) wr W → segB W ⟨w8.heap.size, 0, none⟩ 32 = true := fun W hW => (dig_at (h10.upd hW n10)).1
      have f4 : ∀ W, Upd (fun k => Book3 b r q k ∨ (w2.heap.size ≤ k ∧ k < w3.heap.size)) wr W → segV W ⟨w8.heap.size, 0, none⟩ 32 = dA x := fun W hW => (dig_at (h10.upd hW n10)).2
      have f5 : ∀ W, Upd (fun k => Book3 b r q k ∨ (w2.heap.size ≤ k ∧ k < w3.heap.size)) wr W → segB W ⟨g8, 32, none⟩ 32 = true ∧ segV W ⟨g8, 32, none⟩ 32 = dA (upM shaM [x]) := fun W hW => by
        have := OwnD.seg (OwnRows.upd hS.lev hW (fun k e => by cases e; exact n8)) (k := 1) hl9
        rw [Nat.one_mul] at this
        have e2 : l2[1] = upM shaM [x] := by rw [List.getElem?_eq_getElem hl9] at hlx; exact Option.some.inj hlx
        rwa [e2] at this
      have f6 : ∀ W, Upd (fun k => Book3 b r q k ∨ (w2.heap.size ≤ k ∧ k < w3.heap.size)) wr W → segB W ⟨g8, 32, none⟩ 32 = true := fun W hW => (f5 W hW).1
      have f7 : ∀ W, Upd (fun k => Book3 b r q k ∨ (w2.heap.size ≤ k ∧ k < w3.heap.size)) wr W → segV W ⟨g8, 32, none⟩ 32 = dA (upM shaM [x]) := fun W hW => (f5 W hW).2
      have HZ := Lib.hid (And.intro hS (And.intro hc3 hb3))
      clear hS h10 hc3 hb3 hown hu hg8 hg8l t1' t2' hgg hgB hg10 hlx hnot n6 n10 n8 f5 HS HB H10 HV2
      go_wp2_with fail
      refine wp_region_ord [(0, true), (1, true), (2, true), (3, true), (4, true), (5, true), (6, true), (7, true), (8, true), (9, true), (10, true), (11, true), (12, true), (13, true), (14, true), (15, true), (16, true), (17, true), (18, true), (19, true), (20, true), (21, false), (22, true), (23, true), (24, true), (25, true), (26, false), (27, false), (28, true), (29, true), (30, true)] (by kernel_rfl) (by kernel_rfl) (Upd (fun k => Book3 b r q k ∨ (w2.heap.size ≤ k ∧ k < w3.heap.size)) wr) (Upd.refl _ _).drew ?_
      simp only [ordOps, List.getD_cons_zero, List.getD_cons_succ]
      iterate 21 (refine wpOrd_held (fun K hK => ?_); go_simp; first | (apply Exists.intro; refine ⟨fun W hW => ?_, hK _ ?_⟩; (go_simp; first | done | exact rfl); clear hK K) | (refine hK _ ?_; clear hK K))
      clear f1 f2 f3 f4 f6 f7
      have hSd : Upd (fun k => Book3 b r q k ∨ (w2.heap.size ≤ k ∧ k < w3.heap.size)) wr wr.drew := (Upd.refl _ _).drew
      have hkd : Kept wr wr.drew := (Upd.refl _ _).drew
      generalize wr.drew = wd at *
      refine wpOrd_step (fun K hK => ?_) hSd
      go_simp
      have hbd : Byt wd A3 (upIn [x]) := HZ.out.2.2.kept hkd
      have HG := sha_Of (R := upIn [x]) c3 hbd (by simp [upIn, x.2]) HZ.out.2.1
      refine HG.mono ?_
      clear HG hbd
      rintro e we ⟨rfl, hue⟩
      rw [show shaM (upIn [x]) = upM shaM [x] from rfl]
      have hSe : Upd (fun k => Book3 b r q k ∨ (w2.heap.size ≤ k ∧ k < w3.heap.size)) wr we := hSd.then hue (fun _ _ h => h.elim)
      obtain ⟨v7, wf, hbs, hBf, hkf⟩ := run_bs1 7 we
      change (sliceRow 35 1 #[(0, .int .u8 7)]).run Try.prog we = _ at hbs
      have hSf : Upd (fun k => Book3 b r q k ∨ (w2.heap.size ≤ k ∧ k < w3.heap.size)) wr wf := hSe.then hkf (fun _ _ h => h.elim)
      obtain ⟨A7, c7, rfl, hc7, hb7⟩ := byt_one hBf
      have HF := Lib.hid (And.intro ((HZ.out.1.kept hkd).kept hue |>.kept hkf) hb7)
      refine hK _ _ hSe ?_
      clear hK K hkd hue hBf hkf hc7 hb7 HZ hSd
      iterate 4 (refine wpOrd_held (fun K hK => ?_); go_simp; first | (apply Exists.intro; refine ⟨fun W hW => ?_, hK _ ?_⟩; (go_simp; first | done | exact rfl); clear hK K) | (refine hK _ ?_; clear hK K))
      refine wpOrd_step (fun K hK => ?_) hSe
      go_simp
      refine hK _ _ hSf ?_
      clear hK K
      refine wpOrd_step (fun K hK => ?_) hSf
      go_simp
      have HG := tree_Set HF.out.1.ink.book HF.out.1.tree (R := [7]) c7 HF.out.2 (by simp) 4 (by simp)
      refine HG.mono ?_
      rintro e wg ⟨rfl, _, hbg, hug⟩
      have hSg := hSf.trans hug
      have hIg := HF.out.1.ink.step hbg hug (fun k e => e.imp id (fun e => by have := HF.out.1.lo; omega))
      have HK := Lib.hid hIg.upd
      refine hK _ _ hSg ?_
      clear hK K HG hbg hug hIg hbs
      iterate 3 (refine wpOrd_held (fun K hK => ?_); go_simp; first | (apply Exists.intro; refine ⟨fun W hW => ?_, hK _ ?_⟩; (go_simp; first | done | exact rfl); clear hK K) | (refine hK _ ?_; clear hK K))
      refine wpOrd_nil ?_
      clear hSe hSf hSg HF
      go_wp2
      go_ret
      exact ⟨rfl, HK.out⟩
end Go.Proofs.Ytnncpjekcljfbaa
/- Arguments opened: bytes, lists of bytes, of digests, of what is set. -/
namespace Go.Proofs.Ytnncpjekcljfbaa
open Go.ChangeShapes Go.WideShapes Go.ChangeAt Go.RowKit

theorem list_of {α : Type} {p : Nat → α → Prop} (n : Nat) (h : ∀ i, i < n → ∃ x, p i x) : ∃ l : List α, l.length = n ∧ ∀ i (hi : i < l.length), p i l[i] := by
  induction n with
  | zero => exact ⟨[], rfl, fun i hi => absurd hi (Nat.not_lt_zero i)⟩
  | succ n ih =>
    obtain ⟨l, hl, hp⟩ := ih fun i hi => h i (by omega)
    obtain ⟨x, hx⟩ := h n (by omega)
    refine ⟨l ++ [x], by simp [hl], fun i hi => ?_⟩
    by_cases h2 : i < l.length
    · rw [List.getElem_append_left h2]; exact hp i h2
    · have h3 : i = n := by simp at hi; omega
      subst h3
      have e : (l ++ [x])[i]'hi = x := by simp [hl]
      rw [e]; exact hx

theorem byte_of {n : Int} (h : (Lit.int .u8 n).wf = true) : ∃ c : UInt8, n = (c.toNat : Int) := by
  have h2 : 0 ≤ n ∧ n ≤ 255 := by simpa [Lit.wf, IntKind.min, IntKind.max, IntKind.signed, IntKind.bits] using h
  refine ⟨UInt8.ofNat n.toNat, ?_⟩
  have : (UInt8.ofNat n.toNat).toNat = n.toNat % 256 := by simp
  rw [this]
  omega

/-- a slice's cell, and the bytes that it tells -/
def LeafAt (W : World) (x : SlC) (R : Bytes) : Prop := Byt W x.A R ∧ x.n = R.length ∧ R.length ≤ x.c
theorem LeafAt.kept {W W' : World} {x : SlC} {R : Bytes} (h : LeafAt W x R) (hu : Kept W W') : LeafAt W' x R := ⟨h.1.kept hu, h.2⟩
theorem LeafAt.form {W : World} {x : SlC} {R : Bytes} (h : LeafAt W x R) : ∃ A c, x = ⟨A, R.length, c⟩ ∧ R.length ≤ c ∧ Byt W A R := by
  obtain ⟨A, n, c⟩ := x
  obtain ⟨h1, h2, h3⟩ := h
  simp only at h1 h2 h3
  subst h2
  exact ⟨A, c, rfl, h3, h1⟩
theorem SlC.v_eq (x : SlC) : x.v = .slice x.A x.n x.c := rfl

section
variable {H : Type} {enc : TypeId × Value → H} {W : World}
theorem u8_bytes : Try.prog.bytesOf 5 = 1 := by kernel_rfl
theorem bs_cells : Try.prog.cellsOf 35 = 1 := by kernel_rfl
theorem open_bytes {cs : List Value} (h : ReadsAs enc Try.prog W 35 cs) : ∃ x R, cs = [SlC.v x] ∧ LeafAt W x R ∧ R.length ≤ 140737488351232 := by
  obtain ⟨A, n, c, rfl, hle, hmax, hb, hi⟩ := h.slice Try.underlying35 u8_cells (by omega)
  have hx : ∀ i, i < n → ∃ u : UInt8, ∃ b off, A = some ⟨b, off, none⟩ ∧ W.cell? ⟨b, off + i, none⟩ = some (.int .u8 (u.toNat : Int)) := by
    intro i hin
    obtain ⟨b, off, cs', hA, hl', hcell, hr⟩ := hi i hin
    obtain ⟨x, rfl, wx⟩ := hr.int Try.underlying5
    obtain ⟨u, rfl⟩ := byte_of wx
    exact ⟨u, b, off, hA, by simpa using hcell 0 (by omega)⟩
  obtain ⟨R, hRl, hR⟩ := list_of n hx
  subst hRl
  refine ⟨⟨A, R.length, c⟩, R, rfl, ⟨?_, rfl, hle⟩, by rw [u8_bytes] at hb; unfold reachBytes at hb; omega⟩
  rcases Nat.eq_zero_or_pos R.length with h0 | h0
  · exact .inl (List.eq_nil_of_length_eq_zero h0)
  · obtain ⟨b, off, rfl, _⟩ := hR 0 h0
    refine .inr ⟨b, off, rfl, fun j v hv => ?_⟩
    rw [encB, List.getElem?_map] at hv
    obtain ⟨u, hu, rfl⟩ := Option.map_eq_some_iff.1 hv
    obtain ⟨hj, rfl⟩ := List.getElem?_eq_some_iff.1 hu
    obtain ⟨b', off', hA, hc⟩ := hR j hj
    simp only [Option.some.injEq, Addr.mk.injEq, and_true] at hA
    obtain ⟨rfl, rfl⟩ := hA
    exact hc

theorem open_dig {cs : List Value} (h : ReadsAs enc Try.prog W 46 cs) : ∃ d : Dig, cs = encB d.1 := by
  obtain ⟨hl, hi⟩ := h.array Try.underlying46 u8_cells
  rw [dig_cells] at hl
  have hx : ∀ i, i < 32 → ∃ u : UInt8, cs[i]? = some (.int .u8 (u.toNat : Int)) := by
    intro i hin
    obtain ⟨x, hc, wx⟩ := (hi i hin).int Try.underlying5
    obtain ⟨u, rfl⟩ := byte_of wx
    refine ⟨u, ?_⟩
    have := congrArg (·[0]?) hc
    simpa using this
  obtain ⟨R, hRl, hR⟩ := list_of 32 hx
  refine ⟨⟨R, hRl⟩, List.ext_getElem? fun j => ?_⟩
  by_cases hj : j < R.length
  · rw [hR j hj, encB, List.getElem?_map, List.getElem?_eq_getElem hj]; rfl
  · rw [List.getElem?_eq_none (by omega), List.getElem?_eq_none (by rw [encB_length]; show R.length ≤ j; omega)]

theorem open_digs {cs : List Value} (h : ReadsAs enc Try.prog W 41 cs) : ∃ A c D, cs = [.slice A (List.length D) c] ∧ Digs W A D ∧ D.length ≤ c := by
  obtain ⟨A, n, c, rfl, hle, hmax, hb, hi⟩ := h.slice Try.underlying41 dig_cells (by omega)
  have hx : ∀ i, i < n → ∃ d : Dig, ∃ b off, A = some ⟨b, off, none⟩ ∧ ∀ j, j < 32 → W.cell? ⟨b, off + i * 32 + j, none⟩ = (encB d.1)[j]? := by
    intro i hin
    obtain ⟨b, off, cs', hA, hl', hcell, hr⟩ := hi i hin
    obtain ⟨d, rfl⟩ := open_dig hr
    exact ⟨d, b, off, hA, hcell⟩
  obtain ⟨D, hDl, hD⟩ := list_of n hx
  subst hDl
  refine ⟨A, c, D, rfl, ?_, hle⟩
  rcases Nat.eq_zero_or_pos D.length with h0 | h0
  · left; rw [List.eq_nil_of_length_eq_zero h0]; rfl
  · obtain ⟨b, off, rfl, _⟩ := hD 0 h0
    refine .inr ⟨b, off, rfl, fun j v hv => ?_⟩
    have hj : j < D.length * 32 := by have := (List.getElem?_eq_some_iff.1 hv).1; rwa [encB_length, flatD_length] at this
    have hq : j / 32 < D.length := Nat.div_lt_of_lt_mul (by rwa [Nat.mul_comm] at hj)
    have hjm : j = (j / 32) * 32 + j % 32 := by omega
    have hmod : j % 32 < 32 := Nat.mod_lt _ (by omega)
    obtain ⟨b', off', hA, hc⟩ := hD (j / 32) hq
    simp only [Option.some.injEq, Addr.mk.injEq, and_true] at hA
    obtain ⟨rfl, rfl⟩ := hA
    have h2 := hc (j % 32) hmod
    rw [Nat.add_assoc, ← hjm] at h2
    rw [h2]
    rw [← rowsOf_dA, hjm, rowsOf_get dA_size D (j / 32) (j % 32) hq hmod] at hv
    simpa [dA] using hv

/-- a list of leaves in memory -/
def LeavesAt (W : World) (A : Option Addr) (l : List (SlC × Bytes)) : Prop := ∀ i (hi : i < l.length), ∃ b off, A = some ⟨b, off, none⟩ ∧ W.cell? ⟨b, off + i, none⟩ = some (SlC.v l[i].1) ∧ LeafAt W l[i].1 l[i].2 ∧ l[i].2.length ≤ 140737488351232
theorem LeavesAt.kept {W W' : World} {A : Option Addr} {l : List (SlC × Bytes)} (h : LeavesAt W A l) (hu : Kept W W') : LeavesAt W' A l := fun i hi => by
  obtain ⟨b, off, h1, h2, h3, h4⟩ := h i hi
  exact ⟨b, off, h1, hu.cell h2 id, h3.kept hu, h4⟩
theorem open_leaves {cs : List Value} (h : ReadsAs enc Try.prog W 52 cs) : ∃ A c l, cs = [.slice A (List.length l) c] ∧ LeavesAt W A l ∧ l.length ≤ c ∧ l.length ≤ 140737488351232 := by
  obtain ⟨A, n, c, rfl, hle, hmax, hb, hi⟩ := h.slice Try.underlying52 bs_cells (by omega)
  have hx : ∀ i, i < n → ∃ p : SlC × Bytes, ∃ b off, A = some ⟨b, off, none⟩ ∧ W.cell? ⟨b, off + i, none⟩ = some (SlC.v p.1) ∧ LeafAt W p.1 p.2 ∧ p.2.length ≤ 140737488351232 := by
    intro i hin
    obtain ⟨b, off, cs', hA, hl', hcell, hr⟩ := hi i hin
    obtain ⟨x, R, rfl, hx, hl⟩ := open_bytes hr
    exact ⟨(x, R), b, off, hA, by simpa using hcell 0 (by omega), hx, hl⟩
  obtain ⟨l, hl, hp⟩ := list_of n hx
  subst hl
  have hbb : Try.prog.bytesOf 35 = 24 := by kernel_rfl
  exact ⟨A, c, l, rfl, hp, hle, by rw [hbb] at hb; unfold reachBytes at hb; omega⟩

/-- what is set, in memory -/
def SetsAt (W : World) (A : Option Addr) (l : List (Int × SlC × Bytes)) : Prop := ∀ i (hi : i < l.length), ∃ b off, A = some ⟨b, off, none⟩ ∧ W.cell? ⟨b, off + i * 2, none⟩ = some (.int .i64 l[i].1) ∧ W.cell? ⟨b, off + i * 2 + 1, none⟩ = some (SlC.v l[i].2.1) ∧ LeafAt W l[i].2.1 l[i].2.2 ∧ (Lit.int .i64 l[i].1).wf = true ∧ l[i].2.2.length ≤ 140737488351232
theorem SetsAt.kept {W W' : World} {A : Option Addr} {l : List (Int × SlC × Bytes)} (h : SetsAt W A l) (hu : Kept W W') : SetsAt W' A l := fun i hi => by
  obtain ⟨b, off, h1, h2, h3, h4, h5⟩ := h i hi
  exact ⟨b, off, h1, hu.cell h2 id, hu.cell h3 id, h4.kept hu, h5⟩
theorem set_cells : Try.prog.cellsOf 38 = 2 := by kernel_rfl
theorem int_cells : Try.prog.cellsOf 3 = 1 := by kernel_rfl
set_option maxRecDepth 100000 in
theorem open_sets {cs : List Value} (h : ReadsAs enc Try.prog W 22 cs) : ∃ A c l, cs = [.slice A (List.length l) c] ∧ SetsAt W A l ∧ l.length ≤ c ∧ l.length ≤ 140737488351232 := by
  obtain ⟨A, n, c, rfl, hle, hmax, hb, hi⟩ := h.slice Try.underlying22 set_cells (by omega)
  have hx : ∀ i, i < n → ∃ p : Int × SlC × Bytes, ∃ b off, A = some ⟨b, off, none⟩ ∧ W.cell? ⟨b, off + i * 2, none⟩ = some (.int .i64 p.1) ∧ W.cell? ⟨b, off + i * 2 + 1, none⟩ = some (SlC.v p.2.1) ∧ LeafAt W p.2.1 p.2.2 ∧ (Lit.int .i64 p.1).wf = true ∧ p.2.2.length ≤ 140737488351232 := by
    intro i hin
    obtain ⟨b, off, cs', hA, hl', hcell, hr⟩ := hi i hin
    obtain ⟨hl, hf⟩ := hr.struct Try.underlying38
    rw [set_cells] at hl
    match cs', hl with
    | [c0, c1], _ =>
      have e0 := hf 0 _ rfl
      have e1 := hf 1 _ rfl
      try simp only [int_cells, bs_cells, List.drop_zero, List.drop_succ_cons, List.take_succ_cons, List.take_zero] at e0
      try simp only [int_cells, bs_cells, List.drop_zero, List.drop_succ_cons, List.take_succ_cons, List.take_zero] at e1
      obtain ⟨f, h0, w0⟩ := e0.int Try.underlying3
      obtain ⟨x, R, h1, hx, hRl⟩ := open_bytes e1
      obtain rfl := (List.cons.inj h0).1
      obtain rfl := (List.cons.inj h1).1
      exact ⟨(f, x, R), b, off, hA, by simpa using hcell 0 (by omega), by simpa using hcell 1 (by omega), hx, w0, hRl⟩
  obtain ⟨l, hl, hp⟩ := list_of n hx
  subst hl
  have hbb : Try.prog.bytesOf 38 = 32 := by kernel_rfl
  exact ⟨A, c, l, rfl, hp, hle, by rw [hbb] at hb; unfold reachBytes at hb; omega⟩
end

/-- a number of leaves, brought below a bound -/
theorem leaves_of (a : Int) (n : Int) (hn : 1 ≤ n) (_ : n ≤ 1000) : ∃ m : Nat, 1 + a % n = (m : Int) ∧ 1 ≤ m ∧ (m : Int) ≤ n := by
  obtain ⟨h1, h2⟩ := mod_range a n hn
  exact ⟨(1 + a % n).toNat, by omega, by omega, by omega⟩

/-- a level that is there, in a row of its own -/
theorem own_form {W : World} {B : Nat} {v : Value} {l : List Dig} (h : OwnD W B v l) (hl : l ≠ []) : ∃ g c, v = .slice (some ⟨g, 0, none⟩) l.length c ∧ B ≤ g ∧ g < W.heap.size := by
  obtain ⟨g, c, rfl, h1, h2⟩ := World.ownsRow.form h (List.length_pos_iff.2 hl)
  exact ⟨g, c, rfl, h1, h2⟩
theorem levelsM_at {D : List Dig} {m n : Nat} (hD : D.length = n) (hm : m < depthM n) (_ : 1 ≤ n) : ∃ l, (levelsM shaM D)[m]? = some l ∧ l.length ≤ n := by
  have hlt : m < (levelsM shaM D).length := by rw [levelsM_depth _ hD]; exact hm
  exact ⟨_, List.getElem?_eq_getElem hlt, levelsM_le n hD _ (List.getElem_mem hlt)⟩
theorem TreeAt.ne {W : World} {lo hi t b : Nat} {D : List Dig} (h : TreeAt W lo hi t b D) {m : Nat} {l : List Dig} (hm : (levelsM shaM D)[m]? = some l) : l ≠ [] := by
  obtain ⟨_, _, _, h⟩ := h
  obtain ⟨hk, rfl⟩ := List.getElem?_eq_some_iff.1 hm
  exact (h.lev.row m (by rw [h.len]; exact hk) hk).2

/-- the first bytes of a slice -/
theorem slice_u8_h (W : World) (A : Option Addr) (len cap h : Nat) (hh : h ≤ cap) : (Instr.sliceAt 35 (.slice A len cap) none (some (.int .i64 (h : Int))) none).run Try.prog W = .ok (.slice A h cap) W := by
  have ht : Try.prog.underlying 35 = some (.slice (Try.prog.elem 35)) := by rw [bs_elem]; exact Try.underlying35
  have := run_slice_h (P := Try.prog) (w := W) 35 A len cap ht .i64 (h : Int) (by omega) (by omega)
  rw [run_sliceAt_slice (h := ht), this, bs_elem, u8_sizeOf]
  simp only [Result.andThen, sliced, Int.toNat_natCast]
  cases A with
  | none => simp
  | some a =>
    have h0 : a.add 0 = a := by unfold Addr.add; split <;> simp_all
    simp [h0]
theorem min_num (n : Nat) : ∃ k : Nat, k = min n 100 ∧ (if (100 : Int) < (n : Int) then (100 : Int) else (n : Int)) = (k : Int) ∧ (if 100 < n then (100 : Int) else (n : Int)) = (k : Int) := by
  refine ⟨_, rfl, ?_, ?_⟩ <;> split <;> omega
theorem Byt.take {W : World} {A : Option Addr} {R : Bytes} (h : Byt W A R) (k : Nat) : Byt W A (R.take k) := by
  rcases h with rfl | ⟨b, off, rfl, h⟩
  · left; simp
  · refine .inr ⟨b, off, rfl, fun j v hv => h j v ?_⟩
    rw [encB_take] at hv
    have hj := (List.getElem?_eq_some_iff.1 hv).1
    rwa [List.getElem?_take_of_lt (by rw [List.length_take] at hj; omega)] at hv
end Go.Proofs.Ytnncpjekcljfbaa
/- tree: Of. -/
namespace Go.Proofs.Ytnncpjekcljfbaa
open Go.RowKit

attribute [local irreducible] wpOrd
theorem OwnD.book {W W' : World} {B : Nat} {v : Value} {D : List Dig} {b r q : Nat} {L : List Bytes} (h : OwnD W B v D) (hb : BookL W b r q L) (hu : Upd (Book3 b r q) W W') : OwnD W' B v D :=
  OwnRows.upd h hu fun k e => by
    obtain ⟨cur, hc⟩ := own_cells h e
    exact hb.not hc (by decide)

/-- the digests of leaves, and what they are of -/
def leafD (l : List (SlC × Bytes)) : List Dig := l.map fun p => leafM shaM p.2
def leafI (l : List (SlC × Bytes)) : List Bytes := l.map fun p => leafIn p.2
theorem leafD_length (l : List (SlC × Bytes)) : (leafD l).length = l.length := by simp [leafD]
theorem leafD_succ (l : List (SlC × Bytes)) (k : Nat) (h : k < l.length) : leafD (l.take (k + 1)) = leafD (l.take k) ++ [leafM shaM l[k].2] := by
  unfold leafD; rw [List.take_succ_eq_append_getElem h, List.map_append]; rfl
theorem leafI_succ (L : List Bytes) (l : List (SlC × Bytes)) (k : Nat) (h : k < l.length) : notesM L (leafI (l.take (k + 1))) = noteM (notesM L (leafI (l.take k))) (leafIn l[k].2) := by
  unfold leafI; rw [List.take_succ_eq_append_getElem h, List.map_append, notesM_append]; rfl

/-- the function that tells a leaf that is too long -/
def longF : Value := .func (.func 87) #[] #[]
theorem tree_Of1 (A : Option Addr) (n c : Nat) (w : World) : Calls Try.prog 87 #[.slice A n c] w fun e w' => e = .returned (.bool (decide (65536 ≤ n))) ∧ w = w' := by
  go_enter Try.func87, Try.ntmps87
  go_wp2
  go_ret
  refine ⟨?_, rfl⟩
  simp
  omega

/-- a leaf in a list -/
theorem LeavesAt.get {W : World} {A : Option Addr} {l : List (SlC × Bytes)} (h : LeavesAt W A l) {k : Nat} (hk : k < l.length) : ∃ b off A2 c2, A = some ⟨b, off, none⟩ ∧ W.cell? ⟨b, off + k, none⟩ = some (.slice A2 (l[k].2.length) c2) ∧ Byt W A2 l[k].2 ∧ l[k].2.length ≤ c2 := by
  obtain ⟨b, off, h1, h2, h3, _⟩ := h k hk
  obtain ⟨A2, c2, hx, hc, hb⟩ := h3.form
  rw [hx, SlC.v_eq] at h2
  exact ⟨b, off, A2, c2, h1, h2, hb, hc⟩

set_option maxHeartbeats 800000 in
theorem slices_IndexFunc {w : World} {A : Option Addr} {l : List (SlC × Bytes)} (c : Nat) (h : LeavesAt w A l) (hl : l.length ≤ 1024) (hs : ∀ p ∈ l, p.2.length < 65536) :
    Calls Try.prog 107 #[.slice A l.length c, longF] w fun e w' => e = .returned (.int .i64 (-1)) ∧ w = w' := by
  have HX := Lib.hid (And.intro h (And.intro hl hs))
  clear h hl hs
  unfold longF
  go_enter Try.func107, Try.ntmps107
  go_wp2_with fail
  go_loopw [8] (fun u1 wr => ∃ k : Nat, k ≤ l.length ∧ u1 = .int .i64 k ∧ wr = w) (fun u1 _ => 2000 - (intOf u1).toNat)
  case atStart => exact ⟨0, Nat.zero_le _, rfl, by trivial⟩
  case round =>
    obtain ⟨k, hk, rfl, rfl⟩ := hrel
    rcases Nat.lt_or_ge k l.length with hlt | hge
    · have hk' : (k : Int) < (l.length : Int) := by omega
      have hk5 : (k : Int) < 1024 := by have := HX.out.2.1; omega
      obtain ⟨b, off, A2, c2, rfl, hc, _, _⟩ := HX.out.1.get hlt
      have hd : decide (65536 ≤ l[k].2.length) = false := decide_eq_false (by have := HX.out.2.2 _ (List.getElem_mem hlt); omega)
      have HK := Lib.hid hlt
      generalize l[k].2 = R at *
      clear hlt hk
      go_wp2_with fail
      refine (tree_Of1 A2 R.length c2 _).mono ?_
      rw [hd]
      rintro e W ⟨rfl, rfl⟩
      clear hd hc
      go_wp2
      go_roundw
      case rel => exact ⟨k + 1, by have := HK.out; omega, by show _ = _; go_num, by trivial⟩
      case measure => have := HK.out; simp [intOf]; omega
    · obtain rfl : k = l.length := by omega
      have hk' : ¬ ((l.length : Int) < (l.length : Int)) := by omega
      clear hk hge
      go_wp2
      go_ret
      exact ⟨rfl, rfl⟩
theorem slices_ContainsFunc {w : World} {A : Option Addr} {l : List (SlC × Bytes)} (c : Nat) (h : LeavesAt w A l) (hl : l.length ≤ 1024) (hs : ∀ p ∈ l, p.2.length < 65536) :
    Calls Try.prog 86 #[.slice A l.length c, longF] w fun e w' => e = .returned (.bool false) ∧ w = w' := by
  have HX := Lib.hid (And.intro h (And.intro hl hs))
  clear h hl hs
  have HG := slices_IndexFunc c HX.out.1 HX.out.2.1 HX.out.2.2
  generalize longF = F at *
  go_enter Try.func86, Try.ntmps86
  go_wp2_with fail
  refine HG.mono ?_
  rintro e W ⟨rfl, rfl⟩
  clear HG
  go_wp2
  go_ret
  exact ⟨rfl, rfl⟩

/-- the last level's only digest -/
theorem lev_top {W : World} {B lo : Nat} {v : Value} {xs : List SlC} {D : List Dig} (ho : OwnRows slA 1 W lo 41 v xs) (hl : Lev W B xs (levelsM shaM D)) (hD : D ≠ []) :
    ∃ m g c g2 c2, depthM D.length = m + 1 ∧ v = .slice (some ⟨g, 0, none⟩) (m + 1) c ∧ W.cell? ⟨g, m, none⟩ = some (.slice (some ⟨g2, 0, none⟩) 1 c2) ∧ segB W ⟨g2, 0, none⟩ 32 = true ∧ segV W ⟨g2, 0, none⟩ 32 = dA (rootM shaM D) ∧ lo ≤ g ∧ B ≤ g2 := by
  obtain ⟨m, hm, hml⟩ := levelsM_top hD
  have hlen : (levelsM shaM D).length = m + 1 := by rw [levelsM_depth _ rfl, hm]
  obtain ⟨hk1, he⟩ := List.getElem?_eq_some_iff.1 hml
  have hk2 : m < xs.length := by rw [hl.len]; exact hk1
  obtain ⟨g, c, hv, hg1, hg2, s1, s2⟩ := OwnRows.get slA_size ho hk2
  obtain ⟨hod, hne⟩ := hl.row m hk2 hk1
  rw [he] at hod hne
  obtain ⟨g2, cap2, hx2, hb2, hlt2⟩ := World.ownsRow.form hod (by simp)
  have hcell : W.cell? ⟨g, m, none⟩ = some xs[m].v := by
    have hc := World.ownsRow.cells ho (g := g) (by rw [hv]; rfl) m xs[m].v (by
      have := rowsOf_get slA_size xs m 0 hk2 (by omega)
      rw [Nat.mul_one, Nat.add_zero] at this
      rw [this]; rfl)
    rwa [add_none, Nat.zero_add] at hc
  rw [hx2] at hod hcell
  obtain ⟨t1, t2⟩ := OwnD.seg hod (k := 0) (by simp)
  rw [Nat.zero_mul] at t1 t2
  exact ⟨m, g, c, g2, cap2, hm, by rw [hv, hl.len, hlen], hcell, t1, t2, hg1, hb2⟩

set_option maxHeartbeats 1600000 in
set_option maxRecDepth 20000 in
theorem tree_Of {w : World} {b r q : Nat} {L : List Bytes} (h : BookL w b r q L) {A : Option Addr} {l : List (SlC × Bytes)} (c : Nat) (hLv : ∀ W, Upd (Book3 b r q) w W → LeavesAt W A l) (h1 : 1 ≤ l.length) (hl : l.length ≤ 1024) (hs : ∀ p ∈ l, p.2.length < 65536) :
    Calls Try.prog 39 #[.pointer (some ⟨b, 0, none⟩), .slice A l.length c] w fun e W => e = .returned (.tuple #[.agg (dA (rootM shaM (leafD l))), .int .i64 0]) ∧ BookL W b r q (notesM (notesM L (leafI l)) (insM shaM (leafD l))) ∧ Upd (Book3 b r q) w W := by
  have hb1 := h.kept ((Upd.refl (fun _ => False) w).alloc (.cells (dA dig0) 46))
  have hr1 : Blk (w.alloc (.cells (dA dig0) 46)) w.heap.size 46 (encB dig0.1) := Blk.new w _ _
  have hk1 : Kept w (w.alloc (.cells (dA dig0) 46)) := (Upd.refl _ w).alloc _
  have hlt := h.lt
  have hsz1 : w.heap.size ≤ (w.alloc (.cells (dA dig0) 46)).heap.size := hk1.size
  generalize hW1 : w.alloc (.cells (dA dig0) 46) = w1 at *
  have HX := Lib.hid (And.intro hb1 (And.intro hr1 (And.intro hk1 (And.intro hlt (And.intro hsz1 (And.intro hLv hs))))))
  have HL := Lib.hid (And.intro h1 hl)
  have hd1 : decide ((l.length : Int) < 1) = false := by rw [decide_eq_false_iff_not]; omega
  have hd4 : decide ((1024 : Int) < (l.length : Int)) = false := by rw [decide_eq_false_iff_not]; omega
  have hd4n : decide (1024 < l.length) = false := by rw [decide_eq_false_iff_not]; omega
  clear h hb1 hr1 hk1 hlt hsz1 hLv hs h1 hl
  have HG := slices_ContainsFunc c (HX.out.2.2.2.2.2.1 _ HX.out.2.2.1.to) HL.out.2 HX.out.2.2.2.2.2.2
  unfold longF at HG
  go_enter Try.func39, Try.ntmps39
  go_wp2_with fail
  refine HG.mono ?_
  rintro e W ⟨rfl, rfl⟩
  clear HG hd1 hd4 hd4n
  go_wp2_with fail
  go_loopw [26, 6] (fun u1 v wr => ∃ k : Nat, k ≤ l.length ∧ u1 = .int .i64 k ∧ OwnD wr w1.heap.size v (leafD (l.take k)) ∧ BookL wr b r q (notesM L (leafI (l.take k))) ∧ Upd (Book3 b r q) w1 wr) (fun u1 _ _ => 2000 - (intOf u1).toNat)
  case atStart => exact ⟨0, Nat.zero_le _, rfl, OwnRows.nil _ _ _, HX.out.1, Upd.refl _ _⟩
  case round =>
    obtain ⟨k, hk, rfl, hown, hb, hu⟩ := hrel
    rcases Nat.lt_or_ge k l.length with hlt | hge
    · have hk' : (k : Int) < (l.length : Int) := by omega
      have hk5 : (k : Int) < 1024 := by have := HL.out.2; omega
      obtain ⟨bb, off, A2, c2, rfl, hc, hR, hcap⟩ := (HX.out.2.2.2.2.2.1 _ (HX.out.2.2.1.to.trans hu)).get hlt
      have hRl : Hid (l[k].2.length < 65536) := HX.out.2.2.2.2.2.2 _ (List.getElem_mem hlt)
      have hT1 := Lib.hid (leafD_succ l k hlt)
      have hT2 := Lib.hid (leafI_succ L l k hlt)
      have HR := Lib.hid (And.intro hown (And.intro hb (And.intro hu hR)))
      generalize l[k].2 = R at *
      have hRb := HR.out.2.2.2
      clear hown hb hu hR hcap
      have HK := Lib.hid hlt
      clear hlt hk
      go_wp2_with fail
      refine (tree_Leaf HR.out.2.1 c2 hRb hRl.out).mono ?_
      rintro e w2 ⟨rfl, hb2, hu2⟩
      have hown2 := OwnD.book HR.out.1 HR.out.2.1 hu2
      have hu3 := HR.out.2.2.1.trans hu2
      have hsz : w1.heap.size ≤ w2.heap.size := hu3.size
      obtain ⟨X, hX⟩ : ∃ X, X = leafM shaM R := ⟨_, rfl⟩
      rw [← hX] at hT1 ⊢
      clear hX hu2 hRb hc
      generalize hLN : noteM (notesM L (leafI (l.take k))) (leafIn R) = LN at *
      have hown3 := hown2.alloc (.cells (dA X) 46)
      have hb3 := hb2.kept ((Upd.refl _ w2).alloc (.cells (dA X) 46))
      have hu4 := hu3.alloc (.cells (dA X) 46)
      have hs3 : segB (w2.alloc (.cells (dA X) 46)) ⟨w2.heap.size, 0, none⟩ 32 = true := segB_new _ _ _ _ _ rfl (dA_size X)
      have hs4 : segV (w2.alloc (.cells (dA X) 46)) ⟨w2.heap.size, 0, none⟩ 32 = dA X := segV_new _ _ _ _ _ rfl (dA_size X)
      have hsz3 : w1.heap.size ≤ (w2.alloc (.cells (dA X) 46)).heap.size := by rw [World.size_alloc]; omega
      clear hown2 hb2 hu3 hsz
      generalize hWA : w2.alloc (.cells (dA X) 46) = wa at *
      have hown4 := hown3.alloc (.cells (dA X) 46)
      have hb4 := hb3.kept ((Upd.refl _ wa).alloc (.cells (dA X) 46))
      have hu5 := hu4.alloc (.cells (dA X) 46)
      have hg4 := heap_alloc_new wa (.cells (dA X) 46)
      have hsz4 : w1.heap.size ≤ (wa.alloc (.cells (dA X) 46)).heap.size := by rw [World.size_alloc]; omega
      clear hown3 hb3 hu4 hsz3
      generalize hWB : wa.alloc (.cells (dA X) 46) = wb at *
      have HQ := Lib.hid (And.intro hown4 (And.intro hb4 (And.intro hu5 (And.intro hg4 hsz4))))
      have HLN : Hid ((leafD (l.take k)).length ≤ 1024) := by
        show _ ≤ _
        rw [leafD_length, List.length_take]
        have h1 := HL.out.2
        omega
      clear hown4 hb4 hu5 hg4 hsz4
      go_wp2_with (at_builtin; refine wpList_append_rows dig_rows rfl (.tmp 40) (.tmp 42) rfl rfl HQ.out.1 X wa.heap.size 1 _ _ rfl HQ.out.2.2.2.1 (by have := HLN.out; unfold maxLen; omega) (by have := HLN.out; omega) HQ.out.2.2.2.2 ?_; intro v' w3 hown' hu' hnew)
      go_roundw
      case rel =>
        refine ⟨k + 1, by have := HK.out; omega, by show _ = _; go_num, by rw [hT1.out]; exact hown', ?_, HQ.out.2.2.1.then hu' fun i hi e => ?_⟩
        · rw [hT2.out]
          have hf := World.ownsRow.lt HQ.out.1
          have hlt := HX.out.2.2.2.1
          have hs1 := HX.out.2.2.2.2.1
          exact HQ.out.2.1.upd hu' (fun e => by have := (hf _ e).1; have := hlt b (.inl rfl); omega) (fun e => by have := (hf _ e).1; have := hlt r (.inr (.inl rfl)); omega) (fun e => by have := (hf _ e).1; have := hlt q (.inr (.inr rfl)); omega)
        · have := (World.ownsRow.lt HQ.out.1 _ e).1
          omega
      case measure => have := HK.out; simp [intOf]; omega
    · obtain rfl : k = l.length := by omega
      have hk' : ¬ ((l.length : Int) < (l.length : Int)) := by omega
      rw [List.take_length] at hown hb
      have hr := HX.out.2.1.upd hu (HX.out.1.not HX.out.2.1 (by decide))
      have hDn : leafD l ≠ [] := by intro h0; have h2 := leafD_length l; rw [h0] at h2; have := HL.out.1; simp at h2; omega
      have hDl : (leafD l).length ≤ 1024 := by rw [leafD_length]; exact HL.out.2
      generalize hLL : notesM L (leafI l) = LL at *
      generalize hDD : leafD l = D at *
      obtain ⟨g0, c0, rfl, _, _⟩ := own_form hown hDn
      have HY := Lib.hid (And.intro hown (And.intro hb (And.intro (show Upd (Book3 b r q) w wr from HX.out.2.2.1.to.trans hu) (And.intro hr (And.intro hDn (And.intro hDl hu.size))))))
      clear hown hb hu hr hDn hDl hk hge
      go_wp2_with fail
      have hBb : ∀ k, Book3 b r q k → k < w1.heap.size := fun k e => by have h1 := HX.out.2.2.2.1 k e; have h2 := HX.out.2.2.2.2.1; omega
      have HG := tree_levels (x0 := ⟨some ⟨g0, 0, none⟩, D.length, c0⟩) HY.out.2.1 HY.out.1 HY.out.2.2.2.2.1 HY.out.2.2.2.2.2.1 HY.out.2.2.2.2.2.2 hBb
      refine HG.mono ?_
      clear HG
      rintro e w5 ⟨v5, xs5, rfl, ho5, hlev5, hb5, hu5⟩
      obtain ⟨m, g, cc, g2, c2, hm, rfl, hcell, s1, s2, hg1, hg2⟩ := lev_top ho5 hlev5 HY.out.2.2.2.2.1
      have hmb : (m : Int) ≤ 1024 := by have := depthM_le _ D rfl; have := HY.out.2.2.2.2.2.1; omega
      have hwm : IntKind.i64.wrap (m : Int) = m := by rw [IntKind.wrap_i64]; omega
      have hmi : (m : Int) < (m : Int) + 1 := by omega
      have hr5 := HY.out.2.2.2.1.upd hu5 (HY.out.2.1.not HY.out.2.2.2.1 (by decide))
      have hu6 := HY.out.2.2.1.trans hu5
      generalize hX : rootM shaM D = X at *
      obtain ⟨hrb, hs1, hs2⟩ := dig_end X hr5
      have HF : Hid (BookL (w5.setRow w.heap.size (dA X)) b r q (notesM LL (insM shaM D)) ∧ Upd (Book3 b r q) w (w5.setRow w.heap.size (dA X))) :=
        ⟨hb5.far hr5 (by decide) ((Upd.refl _ _).setRow _ _ fun _ => rfl), hu6.setRow _ _ (fun h => absurd h (Nat.lt_irrefl _))⟩
      have HGG := Lib.hid (And.intro hs1 hs2)
      have HXX := Lib.hid hX
      clear hs1 hs2 hr5 hu6 hb5 hu5 hlev5 ho5 hm hg1 hg2 hX HY hBb
      go_wp2
      refine bodyPost_ret (v := .tuple #[.agg (dA X), .int .i64 0]) ?_ rfl (by rw [hLL, hDD, HXX.out]; exact ⟨rfl, HF.out⟩)
      rw [results_seg2 (P := Try.prog) (fn := Try.f39) (p := 4) (t := 5) (ty := 46) rfl _ _ ⟨w.heap.size, 0, none⟩ 32 _ (.int .i64 0) rfl rfl Try.underlying46 rfl sizeOf46 HGG.out.1, HGG.out.2]
/-! ### a leaf that is too long -/
set_option maxHeartbeats 800000 in
set_option maxRecDepth 20000 in
theorem tree_Leaf_long {w : World} {p A : Option Addr} {n : Nat} (c : Nat) (hn : 65536 ≤ n) :
    Calls Try.prog 43 #[.pointer p, .slice A n c] w fun e W => e = .returned (.tuple #[.agg (dA dig0), .int .i64 5]) ∧ Kept w W := by
  have hr1 : Blk (w.alloc (.cells (dA dig0) 46)) w.heap.size 46 (encB dig0.1) := Blk.new w _ _
  have hk1 : Kept w (w.alloc (.cells (dA dig0) 46)) := (Upd.refl _ w).alloc _
  generalize hW1 : w.alloc (.cells (dA dig0) 46) = w1 at *
  obtain ⟨hrb, hs1, hs2⟩ := dig_end dig0 hr1
  have HF : Hid (Kept w (w1.setRow w.heap.size (dA dig0)) ∧ segB (w1.setRow w.heap.size (dA dig0)) ⟨w.heap.size, 0, none⟩ 32 = true ∧ segV (w1.setRow w.heap.size (dA dig0)) ⟨w.heap.size, 0, none⟩ 32 = dA dig0) := ⟨Upd.setRow hk1 _ _ (fun h => absurd h (Nat.lt_irrefl _)), hs1, hs2⟩
  clear hr1 hk1 hs1 hs2
  have hd1 : decide ((65536 : Int) ≤ (n : Int)) = true := by rw [decide_eq_true_iff]; omega
  have hd2 : decide (65536 ≤ n) = true := by rw [decide_eq_true_iff]; omega
  clear hn
  go_enter Try.func43, Try.ntmps43
  go_wp2
  refine bodyPost_ret (v := .tuple #[.agg (dA dig0), .int .i64 5]) ?_ rfl ⟨rfl, HF.out.1⟩
  rw [results_seg2 (P := Try.prog) (fn := Try.f43) (p := 4) (t := 5) (ty := 46) rfl _ _ ⟨w.heap.size, 0, none⟩ 32 _ (.int .i64 5) rfl rfl Try.underlying46 rfl sizeOf46 HF.out.2.1, HF.out.2.2]

set_option maxHeartbeats 800000 in
set_option maxRecDepth 20000 in
theorem tree_Set_long {w : World} {lo hi t b : Nat} {D : List Dig} (h : TreeAt w lo hi t b D) {A : Option Addr} {m : Nat} (c : Nat) (hm : 65536 ≤ m) (i : Nat) (hi' : i < D.length) :
    Calls Try.prog 25 #[.pointer (some ⟨t, 0, none⟩), .int .i64 i, .slice A m c] w fun e W => e = .returned (.int .i64 5) ∧ Kept w W := by
  obtain ⟨fv, v, xs, h⟩ := h
  have c0 := h.blk.cell (k := 0) rfl
  have c1 := h.blk.cell (k := 1) rfl
  have d0 : decide ((i : Int) < 0) = false := decide_eq_false (by omega)
  have d1 : decide (D.length ≤ i) = false := decide_eq_false (by omega)
  have HM := Lib.hid hm
  clear h hm hi'
  generalize D.length = n at *
  go_enter Try.func25, Try.ntmps25
  go_wp2_with fail
  refine (tree_none c0).mono ?_
  rintro e W ⟨rfl, rfl⟩
  go_wp2_with fail
  refine (tree_Leaf_long c HM.out).mono ?_
  rintro e w3 ⟨rfl, hu3⟩
  clear c0 c1 d0 d1
  have HF := Lib.hid (hu3.alloc (.cells (dA dig0) 46))
  clear hu3
  go_wp2
  go_ret
  exact ⟨rfl, HF.out⟩
end Go.Proofs.Ytnncpjekcljfbaa
/- Leaves cut; bytes compared; a row of leaves. -/
namespace Go.Proofs.Ytnncpjekcljfbaa
open Go.RowKit

attribute [local irreducible] wpOrd
theorem Byt.get {W : World} {A : Option Addr} {R : Bytes} (h : Byt W A R) {k : Nat} (hk : k < R.length) : ∃ b off, A = some ⟨b, off, none⟩ ∧ W.cell? ⟨b, off + k, none⟩ = some (.int .u8 (R[k].toNat : Int)) := by
  rcases h with rfl | ⟨b, off, rfl, h⟩
  · simp at hk
  · exact ⟨b, off, rfl, h k _ (by rw [encB, List.getElem?_map, List.getElem?_eq_getElem hk]; rfl)⟩
theorem u8_inj {a b : UInt8} (h : (a.toNat : Int) = (b.toNat : Int)) : a = b := by
  have : a.toNat = b.toNat := by omega
  exact UInt8.toNat_inj.1 this

set_option maxHeartbeats 800000 in
set_option maxRecDepth 20000 in
theorem ref_EqBytes {w : World} {A A2 : Option Addr} {R R2 : Bytes} (c c2 : Nat) (h1 : Byt w A R) (h2 : Byt w A2 R2) (l1 : R.length ≤ 100000) (_l2 : R2.length ≤ 100000) :
    Calls Try.prog 27 #[.slice A R.length c, .slice A2 R2.length c2] w fun e W => e = .returned (.bool (decide (R = R2))) ∧ Kept w W := by
  have HX := Lib.hid (And.intro h1 h2)
  clear h1 h2
  by_cases hll : R.length = R2.length
  · have HL := Lib.hid (And.intro hll l1)
    rw [← hll]
    clear hll l1
    go_enter Try.func27, Try.ntmps27
    go_wp2_with fail
    go_loopw [5] (fun u1 wr => ∃ k : Nat, k ≤ R.length ∧ u1 = .int .i64 k ∧ R.take k = R2.take k ∧ Kept w wr) (fun u1 _ => 200000 - (intOf u1).toNat)
    case atStart => exact ⟨0, Nat.zero_le _, rfl, by trivial, Upd.refl _ _⟩
    case round =>
      obtain ⟨k, hk, rfl, he, hu⟩ := hrel
      rcases Nat.lt_or_ge k R.length with hlt | hge
      · have hlt2 : k < R2.length := by have := HL.out.1; omega
        have hk' : (k : Int) < (R.length : Int) := by omega
        have hw : IntKind.i64.wrap ((k : Int) + 1) = ((k + 1 : Nat) : Int) := by rw [IntKind.wrap_i64]; have := HL.out.2; omega
        obtain ⟨b, off, rfl, hc⟩ := (HX.out.1.kept hu).get hlt
        obtain ⟨b2, off2, rfl, hc2⟩ := (HX.out.2.kept hu).get hlt2
        have HS := Lib.hid (show R[k] = R2[k] → R.take (k + 1) = R2.take (k + 1) from fun e => by rw [List.take_succ_eq_append_getElem hlt, List.take_succ_eq_append_getElem hlt2, he, e])
        have HN := Lib.hid (show R[k] ≠ R2[k] → R ≠ R2 from fun e e2 => e (by subst e2; rfl))
        have f1 : ∀ W, Kept wr W → W.cell? ⟨b, off + k, none⟩ = some (.int .u8 (R[k].toNat : Int)) := fun W hW => hW.cell hc id
        have f2 : ∀ W, Kept wr W → W.cell? ⟨b2, off2 + k, none⟩ = some (.int .u8 (R2[k].toNat : Int)) := fun W hW => hW.cell hc2 id
        generalize R[k] = x at *
        generalize R2[k] = y at *
        have HK := Lib.hid (And.intro hlt (show Kept w wr.drew from hu.drew))
        have hud : Kept wr wr.drew := (Upd.refl _ wr).drew
        clear he hc hc2 hlt hlt2 hk hu
        by_cases hxy : x = y
        · subst hxy
          go_wp2_with fail
          refine wp_region_ord [(0, true), (1, true), (2, true), (3, true), (4, true), (5, true), (6, true), (7, true), (8, true)] (by kernel_rfl) (by kernel_rfl) (Kept wr) hud ?_
          simp only [ordOps, List.getD_cons_zero, List.getD_cons_succ]
          iterate 9 (refine wpOrd_held (fun K hK => ?_); go_simp; first | (apply Exists.intro; refine ⟨fun W hW => ?_, hK _ ?_⟩; (go_simp; first | done | exact rfl); clear hK K) | (refine hK _ ?_; clear hK K))
          refine wpOrd_nil ?_
          clear f1 f2 hud
          go_wp2
          go_roundw
          case rel => exact ⟨k + 1, by have := HK.out.1; omega, by show _ = _; go_num, HS.out (by trivial), HK.out.2⟩
          case measure => have := HK.out.1; have := HL.out.2; simp [intOf]; omega
        · have hne : ¬ ((x.toNat : Int) = (y.toNat : Int)) := fun e => hxy (u8_inj e)
          have hne2 : ¬ (x.toNat = y.toNat) := fun e => hne (by rw [e])
          have hd : decide (R = R2) = false := decide_eq_false (HN.out hxy)
          have HD := Lib.hid hd
          clear hxy hd
          go_wp2_with fail
          refine wp_region_ord [(0, true), (1, true), (2, true), (3, true), (4, true), (5, true), (6, true), (7, true), (8, true)] (by kernel_rfl) (by kernel_rfl) (Kept wr) hud ?_
          simp only [ordOps, List.getD_cons_zero, List.getD_cons_succ]
          iterate 9 (refine wpOrd_held (fun K hK => ?_); go_simp; first | (apply Exists.intro; refine ⟨fun W hW => ?_, hK _ ?_⟩; (go_simp; first | done | exact rfl); clear hK K) | (refine hK _ ?_; clear hK K))
          refine wpOrd_nil ?_
          clear f1 f2 hud
          go_wp2
          go_ret
          exact ⟨by rw [HD.out]; rfl, HK.out.2⟩
      · obtain rfl : k = R.length := by omega
        have hk' : ¬ ((R.length : Int) < (R.length : Int)) := by omega
        have hd : decide (R = R2) = true := decide_eq_true (by
          have h3 : R2.take R.length = R2 := by rw [HL.out.1, List.take_length]
          rwa [List.take_length, h3] at he)
        have HD := Lib.hid (And.intro hd hu)
        clear hd hu he hk hge
        go_wp2
        go_ret
        exact ⟨by rw [HD.out.1]; rfl, HD.out.2⟩
  · have hd : decide (R = R2) = false := decide_eq_false (fun e => hll (by rw [e]))
    have hne : ¬ ((R.length : Int) = (R2.length : Int)) := by omega
    have HD := Lib.hid hd
    clear hd HX
    go_enter Try.func27, Try.ntmps27
    go_wp2
    go_ret
    exact ⟨by rw [HD.out]; rfl, Upd.refl _ _⟩

/-! ### rows of slices of bytes -/
theorem bs_info : (Try.prog.info? 35).map (fun i => (i.size, i.bytes, i.zero)) = some (1, 24, some (.slice none 0 0)) := by kernel_rfl
theorem bs_rows : RowType Try.prog slA 1 52 35 24 where
  size := slA_size
  one := slA_one
  slice := Try.underlying52
  info := ⟨.slice none 0 0, bs_info, by simp [Value.cells]⟩
  pos := by omega
@[go_sem ↓] theorem exec_one_bsl (ρ : Operand → Value) (dst : Option Tmp) (parts : Array (Nat × Operand)) (ty : TypeId) (pos : String) (after : Array Edge) (guard : Option (Nat × Bool)) :
    execOp ρ ⟨dst, .buildSlice 52 1 parts, ty, pos, after, guard⟩ = sliceRow 52 1 (parts.map fun (i, x) => (i, ρ x)) := rfl
@[go_sem] theorem run_one_bsl (A : Option Addr) (n c : Nat) (W : World) : (sliceRow 52 1 #[(0, .slice A n c)]).run Try.prog W = .ok (.value (.slice (some ⟨W.heap.size, 0, none⟩) 1 1)) (W.alloc (.cells (slA ⟨A, n, c⟩) 35)) := by
  obtain ⟨i, hi, h2⟩ := Option.map_eq_some_iff.1 bs_info
  simp only [Prod.mk.injEq] at h2
  have h := run_buildSlice (P := Try.prog) W 52 35 1 #[(0, .slice A n c)] (slA ⟨A, n, c⟩) i (.slice none 0 0) Try.underlying52 hi h2.2.2 (by rw [h2.1]; omega) (by rw [h2.1]; decide) (by
    rw [h2.1]
    have h0 : Array.range (1 * 1) = #[0] := by decide
    rw [h0]
    simp [Instr.fill, Value.cells, slA])
  simp [sliceRow, h, Result.andThen]

abbrev OwnS (W : World) (B : Nat) (v : Value) (xs : List SlC) : Prop := OwnRows slA 1 W B 35 v xs
/-- a row's cell -/
theorem OwnS.cell {W : World} {B : Nat} {v : Value} {xs : List SlC} (h : OwnS W B v xs) {k : Nat} (hk : k < xs.length) : ∃ g c, v = .slice (some ⟨g, 0, none⟩) xs.length c ∧ B ≤ g ∧ g < W.heap.size ∧ W.cell? ⟨g, k, none⟩ = some xs[k].v := by
  obtain ⟨g, c, hv, hg1, hg2, _⟩ := OwnRows.get slA_size h hk
  refine ⟨g, c, hv, hg1, hg2, ?_⟩
  have hc := World.ownsRow.cells h (g := g) (by rw [hv]; rfl) k xs[k].v (by
    have := rowsOf_get slA_size xs k 0 hk (by omega)
    rw [Nat.mul_one, Nat.add_zero] at this
    rw [this]; rfl)
  rwa [add_none, Nat.zero_add] at hc
/-- leaves in a row of one's own -/
theorem OwnS.leaves {W : World} {B : Nat} {A : Option Addr} {n c : Nat} {l : List (SlC × Bytes)} (h : OwnS W B (.slice A n c) (l.map (·.1))) (hl : ∀ p ∈ l, LeafAt W p.1 p.2 ∧ p.2.length ≤ 140737488351232) : LeavesAt W A l := by
  intro i hi
  obtain ⟨g, c2, hv, _, _, hc⟩ := h.cell (k := i) (by simpa using hi)
  simp only [Value.slice.injEq] at hv
  obtain ⟨rfl, _, _⟩ := hv
  refine ⟨g, 0, rfl, ?_, hl _ (List.getElem_mem hi)⟩
  rw [Nat.zero_add, hc]
  simp

/-- a leaf cut to 100 bytes -/
def cutP (p : SlC × Bytes) : SlC × Bytes := (⟨p.1.A, (p.2.take 100).length, p.1.c⟩, p.2.take 100)
def cutL (l : List (SlC × Bytes)) (k : Nat) : List (SlC × Bytes) := (l.take k).map cutP
theorem cutL_length (l : List (SlC × Bytes)) (k : Nat) : (cutL l k).length = min k l.length := by simp [cutL]
theorem cutL_succ (l : List (SlC × Bytes)) (k : Nat) (h : k < l.length) : cutL l (k + 1) = cutL l k ++ [cutP l[k]] := by
  unfold cutL; rw [List.take_succ_eq_append_getElem h, List.map_append]; rfl
theorem cutL_leaf {W : World} {A : Option Addr} {l : List (SlC × Bytes)} (h : LeavesAt W A l) (k : Nat) : ∀ p ∈ cutL l k, LeafAt W p.1 p.2 ∧ p.2.length ≤ 100 := by
  intro p hp
  obtain ⟨x, hx, rfl⟩ := List.mem_map.1 hp
  obtain ⟨i, hi, rfl⟩ := List.getElem_of_mem (List.mem_of_mem_take hx)
  obtain ⟨b, off, h1, h2, h3, _⟩ := h i hi
  obtain ⟨A2, c2, hx2, hc, hb⟩ := h3.form
  unfold cutP
  rw [hx2]
  refine ⟨⟨hb.take 100, rfl, ?_⟩, ?_⟩
  · show ((l[i].2).take 100).length ≤ c2
    rw [List.length_take]; omega
  · show ((l[i].2).take 100).length ≤ 100
    rw [List.length_take]; omega

end Go.Proofs.Ytnncpjekcljfbaa
/- What the tree's functions answer of books that are none, and of too many leaves. -/
namespace Go.Proofs.Ytnncpjekcljfbaa
open Go.RowKit

/-- a book that is none -/
def NoBook (w : World) (p : Option Addr) : Prop := p = none ∨ ∃ b, p = some ⟨b, 0, none⟩ ∧ w.cell? ⟨b, 0, none⟩ = some (.map none)
theorem NoBook.kept {w W : World} {p : Option Addr} (h : NoBook w p) (hu : Kept w W) : NoBook W p :=
  h.imp id fun ⟨b, h1, h2⟩ => ⟨b, h1, hu.cell h2 id⟩
theorem ink_map_none (w : World) : (binOp .eql 119 (.map none) (.map none)).run Try.prog w = .ok (.bool true) w :=
  run_eql_map_nil w _ _ _ none Try.underlying119
attribute [local go_sem] ink_map_none
theorem ink_none_no {w : World} {p : Option Addr} (h : NoBook w p) :
    Calls Try.prog 85 #[.pointer p] w fun e w' => e = .returned (.bool true) ∧ w = w' := by
  rcases h with rfl | ⟨b, rfl, hc⟩
  · go_enter Try.func85, Try.ntmps85
    go_wp2
    go_ret
    exact ⟨rfl, rfl⟩
  · go_enter Try.func85, Try.ntmps85
    go_wp2
    go_ret
    exact ⟨rfl, rfl⟩
set_option maxHeartbeats 800000 in
set_option maxRecDepth 20000 in
theorem ink_Of_no {w : World} {p : Option Addr} (h : NoBook w p) (x : Value) :
    Calls Try.prog 88 #[.pointer p, x] w fun e W => e = .returned (.tuple #[.agg (dA dig0), .int .i64 1]) ∧ Kept w W := by
  have hr1 : Blk (w.alloc (.cells (dA dig0) 46)) w.heap.size 46 (encB dig0.1) := Blk.new w _ _
  have hk1 : Kept w (w.alloc (.cells (dA dig0) 46)) := (Upd.refl _ w).alloc _
  generalize hW1 : w.alloc (.cells (dA dig0) 46) = w1 at *
  obtain ⟨hrb, hs1, hs2⟩ := dig_end dig0 hr1
  have HF : Hid (Kept w (w1.setRow w.heap.size (dA dig0)) ∧ segB (w1.setRow w.heap.size (dA dig0)) ⟨w.heap.size, 0, none⟩ 32 = true ∧ segV (w1.setRow w.heap.size (dA dig0)) ⟨w.heap.size, 0, none⟩ 32 = dA dig0) := ⟨Upd.setRow hk1 _ _ (fun h => absurd h (Nat.lt_irrefl _)), hs1, hs2⟩
  clear hs1 hs2
  have h1 := h.kept hk1
  clear h hr1 hk1
  go_enter Try.func88, Try.ntmps88
  go_wp2_with fail
  refine (ink_none_no h1).mono ?_
  rintro e w1' ⟨rfl, rfl⟩
  go_wp2
  refine bodyPost_ret (v := .tuple #[.agg (dA dig0), .int .i64 1]) ?_ rfl ⟨rfl, HF.out.1⟩
  rw [results_seg2 (P := Try.prog) (fn := Try.f88) (p := 4) (t := 5) (ty := 46) rfl _ _ ⟨w.heap.size, 0, none⟩ 32 _ (.int .i64 1) rfl rfl Try.underlying46 rfl sizeOf46 HF.out.2.1, HF.out.2.2]

set_option maxHeartbeats 800000 in
set_option maxRecDepth 20000 in
theorem tree_Leaf_no {w : World} {p : Option Addr} (h : NoBook w p) (c : Nat) :
    Calls Try.prog 43 #[.pointer p, .slice none 0 c] w fun e W => e = .returned (.tuple #[.agg (dA dig0), .int .i64 1]) ∧ Kept w W := by
  have hr1 : Blk (w.alloc (.cells (dA dig0) 46)) w.heap.size 46 (encB dig0.1) := Blk.new w _ _
  have hk1 : Kept w (w.alloc (.cells (dA dig0) 46)) := (Upd.refl _ w).alloc _
  generalize hW1 : w.alloc (.cells (dA dig0) 46) = w1 at *
  obtain ⟨v0, w2, hbs, hB, hk2⟩ := run_bs1 0 w1
  change (sliceRow 35 1 #[(0, .int .u8 0)]).run Try.prog w1 = _ at hbs
  have HX := Lib.hid (And.intro (h.kept hk1) (And.intro hr1 hk1))
  have HB := Lib.hid (And.intro hB hk2)
  clear h hr1 hk1 hB hk2
  go_enter Try.func43, Try.ntmps43
  go_wp2_with (at_builtin; refine wpList_append_bytes (R := []) rfl (.tmp 11) (.tmp 12) rfl rfl HB.out.1 none c rfl (.inl rfl) (by simp) HB.out.2.size ?_; intro v' w3 hown hu3)
  have hr3 : Blk w3 w.heap.size 46 (encB dig0.1) := (HX.out.2.1.kept HB.out.2).upd hu3 (fun e => by have := (HB.out.1.far _ e).1; have := HX.out.2.1.lt; omega)
  have hk3 : Kept w w3 := (HX.out.2.2.then HB.out.2 fun _ _ h => h).then hu3 (fun i hi e => by have := (HB.out.1.far _ e).1; have := HX.out.2.2.size; omega)
  have h3 : NoBook w3 p := by
    rcases HX.out.1 with h0 | ⟨b, h1, h2⟩
    · exact .inl h0
    · refine .inr ⟨b, h1, hu3.cell (HB.out.2.cell h2 id) (fun e => ?_)⟩
      have h4 := (HB.out.1.far _ e).1
      have h5 : b < w1.heap.size := World.block_lt_of_cell? _ _ h2
      have h6 : w1.heap.size ≤ b := h4
      omega
  refine (ink_Of_no h3 v').mono ?_
  rintro e w4 ⟨rfl, hu4⟩
  have hr4 := hr3.kept hu4
  have hk4 : Kept w w4 := hk3.then hu4 (fun _ _ h => h)
  obtain ⟨hrb, hs1, hs2⟩ := dig_end dig0 hr4
  have HF : Hid (Kept w (w4.setRow w.heap.size (dA dig0)) ∧ segB (w4.setRow w.heap.size (dA dig0)) ⟨w.heap.size, 0, none⟩ 32 = true ∧ segV (w4.setRow w.heap.size (dA dig0)) ⟨w.heap.size, 0, none⟩ 32 = dA dig0) := ⟨Upd.setRow hk4 _ _ (fun h => absurd h (Nat.lt_irrefl _)), hs1, hs2⟩
  clear hs1 hs2
  clear hr4 hk4 hr3 hk3 h3 hu4 hu3 hown HX HB hbs hW1
  go_wp2
  refine bodyPost_ret (v := .tuple #[.agg (dA dig0), .int .i64 1]) ?_ rfl ⟨rfl, HF.out.1⟩
  rw [results_seg2 (P := Try.prog) (fn := Try.f43) (p := 4) (t := 5) (ty := 46) rfl _ _ ⟨w.heap.size, 0, none⟩ 32 _ (.int .i64 1) rfl rfl Try.underlying46 rfl sizeOf46 HF.out.2.1, HF.out.2.2]

set_option maxHeartbeats 1600000 in
set_option maxRecDepth 20000 in
theorem tree_Up_nil {w : World} {p : Option Addr} (h : NoBook w p) {A : Option Addr} {D : List Dig} (c : Nat) (hD : Digs w A D) (h1 : 1 ≤ D.length) (h4 : D.length ≤ 4) :
    Calls Try.prog 41 #[.pointer p, .slice A D.length c] w fun e W => e = .returned (.tuple #[.agg (dA dig0), .int .i64 1]) ∧ Kept w W := by
  have hr1 : Blk (w.alloc (.cells (dA dig0) 46)) w.heap.size 46 (encB dig0.1) := Blk.new w _ _
  have hk1 : Kept w (w.alloc (.cells (dA dig0) 46)) := (Upd.refl _ w).alloc _
  generalize hW1 : w.alloc (.cells (dA dig0) 46) = w1 at *
  have hD1 := hD.kept hk1
  obtain ⟨v0, w2, hbs, hB, hk2⟩ := run_bs1 1 w1
  change (sliceRow 35 1 #[(0, .int .u8 1)]).run Try.prog w1 = _ at hbs
  have HX := Lib.hid (And.intro (h.kept hk1) (And.intro hD1 (And.intro hr1 (And.intro hk1 (And.intro hB hk2)))))
  have HL := Lib.hid (And.intro h1 h4)
  have hd1 : decide ((D.length : Int) < 1) = false := by rw [decide_eq_false_iff_not]; omega
  have hd4 : decide ((4 : Int) < (D.length : Int)) = false := by rw [decide_eq_false_iff_not]; omega
  clear h hD hD1 hr1 hk1 hB hk2 h1 h4
  go_enter Try.func41, Try.ntmps41
  go_wp2_with fail
  go_loopw [21, 6] (fun i v wr => ∃ k : Nat, k ≤ D.length ∧ i = .int .i64 k ∧ OwnB wr w1.heap.size v (1 :: flatD (D.take k)) ∧ Kept w1 wr) (fun i _ _ => D.length - (intOf i).toNat)
  case atStart => exact ⟨0, Nat.zero_le _, rfl, HX.out.2.2.2.2.1, HX.out.2.2.2.2.2⟩
  case round =>
    obtain ⟨k, hk, rfl, hown, hu⟩ := hrel
    rcases Nat.lt_or_ge k D.length with hlt | hge
    · obtain ⟨bd, off, rfl, s1, s2⟩ := (HX.out.2.1.kept hu).get hlt
      have hk' : (k : Int) < (D.length : Int) := by omega
      have hk5 : (k : Int) < 4 := by have := HL.out.2; omega
      have HS : Hid (1 :: flatD (D.take (k + 1)) = (1 :: flatD (D.take k)) ++ D[k].1) := by show _ = _; rw [flatD_snoc D k hlt]; rfl
      have HLN : Hid ((1 :: flatD (D.take k) : Bytes).length ≤ 200) := by
        show _ ≤ _
        rw [List.length_cons, flatD_length, List.length_take]
        have := HL.out.2
        omega
      obtain ⟨d, hd⟩ : ∃ d, d = D[k] := ⟨_, rfl⟩
      rw [← hd] at s2 HS
      clear hd
      have hown2 := hown.kept ((Upd.refl (fun _ => False) wr).alloc (.cells (dA d) 46))
      have hu2 : Kept w1 (wr.alloc (.cells (dA d) 46)) := hu.alloc _
      have hblk : Blk (wr.alloc (.cells (dA d) 46)) wr.heap.size 46 (encB d.1) := Blk.new wr _ _
      have hsl : ∀ W, (Instr.sliceAt 46 (.pointer (some ⟨wr.heap.size, 0, none⟩)) none none none).run Try.prog W = .ok (.slice (some ⟨wr.heap.size, 0, none⟩) 32 32) W := fun W => slice_dig_all W _
      have hbyt : Byt (wr.alloc (.cells (dA d) 46)) (some ⟨wr.heap.size, 0, none⟩) d.1 := .inr ⟨_, _, rfl, hblk.range 0 (fun j _ => by rw [Nat.zero_add])⟩
      generalize hWA : wr.alloc (.cells (dA d) 46) = wa at *
      have HR := Lib.hid (And.intro hown2 (And.intro hu2 hbyt))
      clear hown hu hown2 hu2 hblk hbyt
      generalize flatD (D.take k) = F at *
      go_wp2_with (at_builtin; refine wpList_append_bytes (R := d.1) rfl (.tmp 25) (.tmp 26) rfl rfl HR.out.1 (some ⟨wr.heap.size, 0, none⟩) 32 (by rw [d.2]; rfl) HR.out.2.2 (by have := HLN.out; rw [d.2]; omega) HR.out.2.1.size ?_; intro v' w3 hown hu3)
      go_roundw
      case rel =>
        refine ⟨k + 1, by omega, by go_num, by rw [HS.out]; exact hown, HR.out.2.1.then hu3 fun i hi e => ?_⟩
        have := (HR.out.1.far _ e).1
        omega
      case measure => simp [intOf]; omega
    · obtain rfl : k = D.length := by omega
      have HY := Lib.hid (And.intro (HX.out.1.kept hu) (And.intro (HX.out.2.2.1.kept hu) (show Kept w wr from HX.out.2.2.2.1.then hu fun _ _ h => h)))
      clear hown hu hbs hW1 HX
      go_wp2_with fail
      refine (ink_Of_no HY.out.1 _).mono ?_
      rintro e w4 ⟨rfl, hu4⟩
      have hr4 := HY.out.2.1.kept hu4
      have hk4 : Kept w w4 := HY.out.2.2.then hu4 (fun _ _ h => h)
      obtain ⟨hrb, hs1, hs2⟩ := dig_end dig0 hr4
      have HF : Hid (Kept w (w4.setRow w.heap.size (dA dig0)) ∧ segB (w4.setRow w.heap.size (dA dig0)) ⟨w.heap.size, 0, none⟩ 32 = true ∧ segV (w4.setRow w.heap.size (dA dig0)) ⟨w.heap.size, 0, none⟩ 32 = dA dig0) := ⟨Upd.setRow hk4 _ _ (fun h => absurd h (Nat.lt_irrefl _)), hs1, hs2⟩
      clear hs1 hs2
      clear hr4 hk4 hu4 HY
      go_wp2
      refine bodyPost_ret (v := .tuple #[.agg (dA dig0), .int .i64 1]) ?_ rfl ⟨rfl, HF.out.1⟩
      rw [results_seg2 (P := Try.prog) (fn := Try.f41) (p := 4) (t := 5) (ty := 46) rfl _ _ ⟨w.heap.size, 0, none⟩ 32 _ (.int .i64 1) rfl rfl Try.underlying46 rfl sizeOf46 HF.out.2.1, HF.out.2.2]

/-! ### New -/
set_option maxHeartbeats 800000 in
set_option maxRecDepth 20000 in
theorem tree_New_bad {w : World} {p : Option Addr} (n : Int) (hn : n < 1 ∨ 1024 < n) :
    Calls Try.prog 21 #[.pointer p, .int .i64 n] w fun e W => e = .returned (.tuple #[.pointer none, .int .i64 2]) ∧ Kept w W := by
  have h21 : Blk (w.alloc (.cells #[.pointer p] 23)) w.heap.size 23 [.pointer p] := Blk.new w _ _
  have hk1 : Kept w (w.alloc (.cells #[.pointer p] 23)) := (Upd.refl _ w).alloc _
  generalize hW1 : w.alloc (.cells #[.pointer p] 23) = w1 at *
  have h22 := h21.alloc (.cells #[.int .i64 n] 3)
  have h32 : Blk (w1.alloc (.cells #[.int .i64 n] 3)) w1.heap.size 3 [.int .i64 n] := Blk.new w1 _ _
  have hk2 : Kept w (w1.alloc (.cells #[.int .i64 n] 3)) := hk1.alloc _
  generalize hW2 : w1.alloc (.cells #[.int .i64 n] 3) = w2 at *
  have c2 := h22.cell (k := 0) rfl
  have c3 := h32.cell (k := 0) rfl
  have HX := Lib.hid hk2
  clear hk1 hk2 h21 h22 h32
  by_cases h1 : n < 1
  · have hn1 : decide (n < 1) = true := decide_eq_true h1
    clear hn h1
    go_enter Try.func21, Try.ntmps21
    go_wp2
    go_ret2
    exact ⟨rfl, HX.out⟩
  · have hn1 : decide (n < 1) = false := decide_eq_false h1
    have hn2 : decide (1024 < n) = true := decide_eq_true (by omega)
    clear hn h1
    go_enter Try.func21, Try.ntmps21
    go_wp2
    go_ret2
    exact ⟨rfl, HX.out⟩
set_option maxHeartbeats 800000 in
set_option maxRecDepth 20000 in
theorem tree_New_no {w : World} {p : Option Addr} (h : NoBook w p) (n : Int) (h1 : 1 ≤ n) (h2 : n ≤ 1024) :
    Calls Try.prog 21 #[.pointer p, .int .i64 n] w fun e W => e = .returned (.tuple #[.pointer none, .int .i64 1]) ∧ Kept w W := by
  have h21 : Blk (w.alloc (.cells #[.pointer p] 23)) w.heap.size 23 [.pointer p] := Blk.new w _ _
  have hk1 : Kept w (w.alloc (.cells #[.pointer p] 23)) := (Upd.refl _ w).alloc _
  generalize hW1 : w.alloc (.cells #[.pointer p] 23) = w1 at *
  have h22 := h21.alloc (.cells #[.int .i64 n] 3)
  have h32 : Blk (w1.alloc (.cells #[.int .i64 n] 3)) w1.heap.size 3 [.int .i64 n] := Blk.new w1 _ _
  have hk2 : Kept w (w1.alloc (.cells #[.int .i64 n] 3)) := hk1.alloc _
  generalize hW2 : w1.alloc (.cells #[.int .i64 n] 3) = w2 at *
  have c2 := h22.cell (k := 0) rfl
  have c3 := h32.cell (k := 0) rfl
  have HX := Lib.hid hk2
  clear hk1 hk2 h21 h22 h32
  have hn1 : decide (n < 1) = false := decide_eq_false (by omega)
  have hn2 : decide (1024 < n) = false := decide_eq_false (by omega)
  have HN := Lib.hid (h.kept HX.out)
  clear h h1 h2
  go_enter Try.func21, Try.ntmps21
  go_wp2_with fail
  refine (tree_Leaf_no HN.out 0).mono ?_
  rintro e w3 ⟨rfl, hu3⟩
  have HF := Lib.hid ((HX.out.then hu3 (fun _ _ h => h)).alloc (.cells (dA dig0) 46))
  clear hu3 c2 c3 hn1 hn2
  go_wp2
  go_ret2
  exact ⟨rfl, HF.out⟩

/-! ### Of -/
set_option maxHeartbeats 800000 in
set_option maxRecDepth 20000 in
theorem tree_Of_bad {w : World} {p A : Option Addr} {n : Nat} (c : Nat) (hn : n < 1 ∨ 1024 < n) :
    Calls Try.prog 39 #[.pointer p, .slice A n c] w fun e W => e = .returned (.tuple #[.agg (dA dig0), .int .i64 2]) ∧ Kept w W := by
  have hr1 : Blk (w.alloc (.cells (dA dig0) 46)) w.heap.size 46 (encB dig0.1) := Blk.new w _ _
  have hk1 : Kept w (w.alloc (.cells (dA dig0) 46)) := (Upd.refl _ w).alloc _
  generalize hW1 : w.alloc (.cells (dA dig0) 46) = w1 at *
  obtain ⟨hrb, hs1, hs2⟩ := dig_end dig0 hr1
  have HF : Hid (Kept w (w1.setRow w.heap.size (dA dig0)) ∧ segB (w1.setRow w.heap.size (dA dig0)) ⟨w.heap.size, 0, none⟩ 32 = true ∧ segV (w1.setRow w.heap.size (dA dig0)) ⟨w.heap.size, 0, none⟩ 32 = dA dig0) := ⟨Upd.setRow hk1 _ _ (fun h => absurd h (Nat.lt_irrefl _)), hs1, hs2⟩
  clear hs1 hs2
  clear hr1 hk1
  by_cases h1 : n < 1
  · have hd1 : decide ((n : Int) < 1) = true := by rw [decide_eq_true_iff]; omega
    clear hn h1
    go_enter Try.func39, Try.ntmps39
    go_wp2
    refine bodyPost_ret (v := .tuple #[.agg (dA dig0), .int .i64 2]) ?_ rfl ⟨rfl, HF.out.1⟩
    rw [results_seg2 (P := Try.prog) (fn := Try.f39) (p := 4) (t := 5) (ty := 46) rfl _ _ ⟨w.heap.size, 0, none⟩ 32 _ (.int .i64 2) rfl rfl Try.underlying46 rfl sizeOf46 HF.out.2.1, HF.out.2.2]
  · have hd1 : decide ((n : Int) < 1) = false := by rw [decide_eq_false_iff_not]; omega
    have hd2 : decide ((1024 : Int) < (n : Int)) = true := by rw [decide_eq_true_iff]; omega
    have hd3 : decide (1024 < n) = true := by rw [decide_eq_true_iff]; omega
    clear hn h1
    go_enter Try.func39, Try.ntmps39
    go_wp2
    refine bodyPost_ret (v := .tuple #[.agg (dA dig0), .int .i64 2]) ?_ rfl ⟨rfl, HF.out.1⟩
    rw [results_seg2 (P := Try.prog) (fn := Try.f39) (p := 4) (t := 5) (ty := 46) rfl _ _ ⟨w.heap.size, 0, none⟩ 32 _ (.int .i64 2) rfl rfl Try.underlying46 rfl sizeOf46 HF.out.2.1, HF.out.2.2]

set_option maxHeartbeats 800000 in
theorem slices_IndexFunc_long {w : World} {b off : Nat} {A2 : Option Addr} {m c2 : Nat} (c : Nat) (hc : w.cell? ⟨b, off, none⟩ = some (.slice A2 m c2)) (hm : 65536 ≤ m) :
    Calls Try.prog 107 #[.slice (some ⟨b, off, none⟩) 1 c, longF] w fun e w' => e = .returned (.int .i64 0) ∧ w = w' := by
  have HM := Lib.hid hm
  clear hm
  unfold longF
  go_enter Try.func107, Try.ntmps107
  go_wp2_with fail
  go_loopw [8] (fun u1 wr => u1 = .int .i64 0 ∧ wr = w) (fun u1 _ => 2000 - (intOf u1).toNat)
  case atStart => exact ⟨by trivial, by trivial⟩
  case round =>
    obtain ⟨rfl, rfl⟩ := hrel
    go_wp2_with fail
    refine (tree_Of1 A2 m c2 _).mono ?_
    rw [decide_eq_true HM.out]
    rintro e W ⟨rfl, rfl⟩
    go_wp2
    go_ret
    exact ⟨rfl, rfl⟩
set_option maxHeartbeats 800000 in
theorem slices_ContainsFunc_long {w : World} {b off : Nat} {A2 : Option Addr} {m c2 : Nat} (c : Nat) (hc : w.cell? ⟨b, off, none⟩ = some (.slice A2 m c2)) (hm : 65536 ≤ m) :
    Calls Try.prog 86 #[.slice (some ⟨b, off, none⟩) 1 c, longF] w fun e w' => e = .returned (.bool true) ∧ w = w' := by
  have HG := slices_IndexFunc_long c hc hm
  clear hc hm
  generalize longF = F at *
  go_enter Try.func86, Try.ntmps86
  go_wp2_with fail
  refine HG.mono ?_
  rintro e W ⟨rfl, rfl⟩
  clear HG
  go_wp2
  go_ret
  exact ⟨rfl, rfl⟩
set_option maxHeartbeats 800000 in
set_option maxRecDepth 20000 in
theorem tree_Of_long {w : World} {p : Option Addr} {b off : Nat} {A2 : Option Addr} {m c2 : Nat} (c : Nat) (hc : w.cell? ⟨b, off, none⟩ = some (.slice A2 m c2)) (hm : 65536 ≤ m) :
    Calls Try.prog 39 #[.pointer p, .slice (some ⟨b, off, none⟩) 1 c] w fun e W => e = .returned (.tuple #[.agg (dA dig0), .int .i64 5]) ∧ Kept w W := by
  have hr1 : Blk (w.alloc (.cells (dA dig0) 46)) w.heap.size 46 (encB dig0.1) := Blk.new w _ _
  have hk1 : Kept w (w.alloc (.cells (dA dig0) 46)) := (Upd.refl _ w).alloc _
  generalize hW1 : w.alloc (.cells (dA dig0) 46) = w1 at *
  obtain ⟨hrb, hs1, hs2⟩ := dig_end dig0 hr1
  have HF : Hid (Kept w (w1.setRow w.heap.size (dA dig0)) ∧ segB (w1.setRow w.heap.size (dA dig0)) ⟨w.heap.size, 0, none⟩ 32 = true ∧ segV (w1.setRow w.heap.size (dA dig0)) ⟨w.heap.size, 0, none⟩ 32 = dA dig0) := ⟨Upd.setRow hk1 _ _ (fun h => absurd h (Nat.lt_irrefl _)), hs1, hs2⟩
  clear hs1 hs2
  have HG := slices_ContainsFunc_long c (hk1.cell hc id) hm
  unfold longF at HG
  clear hr1 hk1 hc hm
  go_enter Try.func39, Try.ntmps39
  go_wp2_with fail
  refine HG.mono ?_
  rintro e W ⟨rfl, rfl⟩
  clear HG
  go_wp2
  refine bodyPost_ret (v := .tuple #[.agg (dA dig0), .int .i64 5]) ?_ rfl ⟨rfl, HF.out.1⟩
  rw [results_seg2 (P := Try.prog) (fn := Try.f39) (p := 4) (t := 5) (ty := 46) rfl _ _ ⟨w.heap.size, 0, none⟩ 32 _ (.int .i64 5) rfl rfl Try.underlying46 rfl sizeOf46 HF.out.2.1, HF.out.2.2]
set_option maxHeartbeats 800000 in
set_option maxRecDepth 20000 in
theorem tree_Of_no {w : World} {p : Option Addr} (h : NoBook w p) {b off : Nat} (c cz : Nat) (hc : w.cell? ⟨b, off, none⟩ = some (.slice none 0 cz)) :
    Calls Try.prog 39 #[.pointer p, .slice (some ⟨b, off, none⟩) 1 c] w fun e W => e = .returned (.tuple #[.agg (dA dig0), .int .i64 1]) ∧ Kept w W := by
  have hr1 : Blk (w.alloc (.cells (dA dig0) 46)) w.heap.size 46 (encB dig0.1) := Blk.new w _ _
  have hk1 : Kept w (w.alloc (.cells (dA dig0) 46)) := (Upd.refl _ w).alloc _
  generalize hW1 : w.alloc (.cells (dA dig0) 46) = w1 at *
  have hlv : LeavesAt w1 (some ⟨b, off, none⟩) [((⟨none, 0, cz⟩ : SlC), ([] : Bytes))] := fun i hi => by
    obtain rfl : i = 0 := by simpa using hi
    exact ⟨b, off, rfl, by simpa [SlC.v_eq] using hk1.cell hc id, ⟨.inl rfl, rfl, Nat.zero_le _⟩, by simp⟩
  have HG := slices_ContainsFunc c hlv (by simp) (by simp)
  simp only [List.length_singleton] at HG
  unfold longF at HG
  have hc1 := hk1.cell hc id
  have HX := Lib.hid (And.intro (h.kept hk1) (And.intro hr1 hk1))
  clear hr1 hk1 hc hlv h
  go_enter Try.func39, Try.ntmps39
  go_wp2_with fail
  refine HG.mono ?_
  rintro e W ⟨rfl, rfl⟩
  clear HG
  go_wp2_with fail
  go_loopw [26] (fun u1 wr => u1 = .int .i64 0 ∧ wr = w1) (fun u1 _ => 2000 - (intOf u1).toNat)
  case atStart => exact ⟨by trivial, by trivial⟩
  case round =>
    obtain ⟨rfl, rfl⟩ := hrel
    go_wp2_with fail
    refine (tree_Leaf_no HX.out.1 cz).mono ?_
    rintro e w4 ⟨rfl, hu4⟩
    have hu5 : Kept wr (w4.alloc (.cells (dA dig0) 46)) := hu4.alloc _
    have hr5 := HX.out.2.1.kept hu5
    have hk5 : Kept w (w4.alloc (.cells (dA dig0) 46)) := HX.out.2.2.then hu5 (fun _ _ h => h)
    obtain ⟨hrb, hs1, hs2⟩ := dig_end dig0 hr5
    have HF : Hid (Kept w ((w4.alloc (.cells (dA dig0) 46)).setRow w.heap.size (dA dig0)) ∧ segB ((w4.alloc (.cells (dA dig0) 46)).setRow w.heap.size (dA dig0)) ⟨w.heap.size, 0, none⟩ 32 = true ∧ segV ((w4.alloc (.cells (dA dig0) 46)).setRow w.heap.size (dA dig0)) ⟨w.heap.size, 0, none⟩ 32 = dA dig0) := ⟨Upd.setRow hk5 _ _ (fun h => absurd h (Nat.lt_irrefl _)), hs1, hs2⟩
    clear hs1 hs2
    clear hu4 hu5 hr5 hk5
    go_wp2
    refine bodyPost_ret (v := .tuple #[.agg (dA dig0), .int .i64 1]) ?_ rfl ⟨rfl, HF.out.1⟩
    rw [results_seg2 (P := Try.prog) (fn := Try.f39) (p := 4) (t := 5) (ty := 46) rfl _ _ ⟨w.heap.size, 0, none⟩ 32 _ (.int .i64 1) rfl rfl Try.underlying46 rfl sizeOf46 HF.out.2.1, HF.out.2.2]
end Go.Proofs.Ytnncpjekcljfbaa
/- proof, as plain lists: what Build tells, and how Check climbs. No program is named. -/
namespace Go.Proofs.Ytnncpjekcljfbaa

/-- a leaf's proof: the digests of each level among which its node stands -/
def proofM (D : List Dig) : Nat → Nat → List (List Dig)
  | 0, _ => []
  | k + 1, i => group D (i / 4) :: proofM (aboveM shaM D) k (i / 4)
/-- up from a digest: none where the proof is of another shape, or has another one -/
def climb : Nat → Nat → Dig → List (List Dig) → Option Dig
  | many, _, d, [] => if many = 1 then some d else none
  | many, i, d, l :: p => if many = 1 then none else if l.length = min 4 (many - i + i % 4) ∧ l[i % 4]? = some d then climb (up4 many) (i / 4) (upM shaM l) p else none
/-- what is digested meanwhile -/
def climbIn : Nat → Nat → Dig → List (List Dig) → List Bytes
  | _, _, _, [] => []
  | many, i, d, l :: p => if many = 1 then [] else if l.length = min 4 (many - i + i % 4) ∧ l[i % 4]? = some d then upIn l :: climbIn (up4 many) (i / 4) (upM shaM l) p else []

theorem up4_one {n : Nat} (h1 : 1 ≤ n) : (n = 1 ↔ depthM n = 1) := by
  constructor
  · rintro rfl; exact (by rw [depthM, dif_neg (by omega)])
  · intro h
    rcases Nat.lt_or_ge 1 n with h2 | h2
    · rw [depthM, dif_pos h2] at h
      have : 1 ≤ depthM (up4 n) := by rw [depthM]; split <;> omega
      omega
    · omega
theorem depthM_more {n : Nat} (h : 1 < n) : depthM n = 1 + depthM (up4 n) := by rw [depthM, dif_pos h]
theorem depthM_one : depthM 1 = 1 := by rw [depthM, dif_neg (by omega)]
theorem up4_pos' {n : Nat} (h : 1 ≤ n) : 1 ≤ up4 n := by unfold up4; omega
theorem up4_lt' {n : Nat} (h : 1 < n) : up4 n < n := by unfold up4; omega
theorem place_up {n i : Nat} (h : i < n) : i / 4 < up4 n := by unfold up4; omega

theorem group_len {D : List Dig} {i : Nat} (h : i < D.length) : (group D (i / 4)).length = min 4 (D.length - i + i % 4) := by
  rw [group_length]; omega
theorem group_at {D : List Dig} {i : Nat} (h : i < D.length) : (group D (i / 4))[i % 4]? = D[i]? := by
  have h1 : i % 4 < (group D (i / 4)).length := by rw [group_len h]; omega
  rw [List.getElem?_eq_getElem h1, group_get, List.getElem?_eq_getElem h]
  congr 2
  omega
theorem above_at {D : List Dig} {i : Nat} (h : i < D.length) : (aboveM shaM D)[i / 4]? = some (upM shaM (group D (i / 4))) := by
  have h1 : i / 4 < (aboveM shaM D).length := by rw [aboveM_length]; exact place_up h
  rw [List.getElem?_eq_getElem h1, aboveM_get]

/-- what Build tells fits -/
theorem climb_proof : ∀ (k : Nat) (D : List Dig) (i : Nat), depthM D.length = k + 1 → (h : i < D.length) → climb D.length i D[i] (proofM D k i) = some (rootM shaM D)
  | 0, D, i, hk, h => by
    have h1 : D.length = 1 := (up4_one (by omega)).2 hk
    match D, h1 with
    | [d], _ =>
      have hi : i = 0 := by simpa using h
      subst hi
      simp [proofM, climb, rootM_one]
  | k + 1, D, i, hk, h => by
    have h1 : 1 < D.length := by
      rcases Nat.lt_or_ge 1 D.length with h2 | h2
      · exact h2
      · have h3 : D.length = 1 := by omega
        rw [h3, depthM_one] at hk; omega
    rw [depthM_more h1] at hk
    have h2 : i / 4 < (aboveM shaM D).length := by rw [aboveM_length]; exact place_up h
    have ih := climb_proof k (aboveM shaM D) (i / 4) (by rw [aboveM_length]; omega) h2
    rw [aboveM_length] at ih
    rw [proofM, climb, if_neg (by omega), if_pos ⟨group_len h, by rw [group_at h, List.getElem?_eq_getElem h]⟩, rootM_more h1, ← ih]
    congr 1
    rw [aboveM_get]

/-- what fits is of one shape -/
theorem climb_lens : ∀ (p p' : List (List Dig)) (many i : Nat) (d d' x x' : Dig), climb many i d p = some x → climb many i d' p' = some x' → p.map List.length = p'.map List.length
  | [], [], _, _, _, _, _, _, _, _ => rfl
  | [], l' :: p', many, i, d, d', x, x', h, h' => by
    simp only [climb] at h h'
    by_cases h1 : many = 1
    · rw [if_pos h1] at h'; exact absurd h' (by simp)
    · rw [if_neg h1] at h; exact absurd h (by simp)
  | l :: p, [], many, i, d, d', x, x', h, h' => by
    simp only [climb] at h h'
    by_cases h1 : many = 1
    · rw [if_pos h1] at h; exact absurd h (by simp)
    · rw [if_neg h1] at h'; exact absurd h' (by simp)
  | l :: p, l' :: p', many, i, d, d', x, x', h, h' => by
    rw [climb] at h h'
    by_cases h1 : many = 1
    · rw [if_pos h1] at h; exact absurd h (by simp)
    · rw [if_neg h1] at h h'
      by_cases h2 : l.length = min 4 (many - i + i % 4) ∧ l[i % 4]? = some d
      · by_cases h3 : l'.length = min 4 (many - i + i % 4) ∧ l'[i % 4]? = some d'
        · rw [if_pos h2] at h
          rw [if_pos h3] at h'
          rw [List.map_cons, List.map_cons, h2.1, h3.1, climb_lens p p' _ _ _ _ _ _ h h']
        · rw [if_neg h3] at h'; exact absurd h' (by simp)
      · rw [if_neg h2] at h; exact absurd h (by simp)

/-- what fits the root is the leaf that is there, where unlike inputs have unlike digests -/
theorem climb_just {L : List Bytes} (hin : ∀ a ∈ L, ∀ b ∈ L, shaM a = shaM b → a = b) : ∀ (k : Nat) (D : List Dig) (i : Nat) (d : Dig) (p : List (List Dig)), depthM D.length = k + 1 → (h : i < D.length) → (∀ r ∈ insM shaM D, r ∈ L) → (∀ r ∈ climbIn D.length i d p, r ∈ L) →
    climb D.length i d p = some (rootM shaM D) → D[i] = d
  | 0, D, i, d, p, hk, h, _, _, hc => by
    have h1 : D.length = 1 := (up4_one (by omega)).2 hk
    match D, h1 with
    | [d0], _ =>
      have hi : i = 0 := by simpa using h
      subst hi
      match p, hc with
      | [], hc => simp [climb, rootM_one] at hc; simp [hc]
      | l :: p, hc => simp [climb] at hc
  | k + 1, D, i, d, p, hk, h, hD, hp, hc => by
    have h1 : 1 < D.length := by
      rcases Nat.lt_or_ge 1 D.length with h2 | h2
      · exact h2
      · have h3 : D.length = 1 := by omega
        rw [h3, depthM_one] at hk; omega
    rw [depthM_more h1] at hk
    have h2 : i / 4 < (aboveM shaM D).length := by rw [aboveM_length]; exact place_up h
    match p, hp, hc with
    | [], _, hc => rw [climb, if_neg (by omega)] at hc; exact absurd hc (by simp)
    | l :: p, hp, hc =>
      rw [climb, if_neg (by omega)] at hc
      rw [climbIn, if_neg (by omega)] at hp
      by_cases h3 : l.length = min 4 (D.length - i + i % 4) ∧ l[i % 4]? = some d
      · rw [if_pos h3] at hc hp
        rw [insM_more h1] at hD
        have ih := climb_just hin k (aboveM shaM D) (i / 4) (upM shaM l) p (by rw [aboveM_length]; omega) h2 (fun r hr => hD r (List.mem_append.2 (.inr hr))) (by rw [aboveM_length]; exact fun r hr => hp r (List.mem_cons_of_mem _ hr)) (by rw [aboveM_length, ← rootM_more h1]; exact hc)
        rw [aboveM_get] at ih
        have h4 := upIn_inj (hin _ (hD _ (List.mem_append.2 (.inl (List.mem_map.2 ⟨i / 4, by rw [List.mem_range]; exact place_up h, rfl⟩)))) _ (hp _ (List.mem_cons_self ..)) ih)
        have h5 := group_at h
        rw [h4, h3.2, List.getElem?_eq_getElem h] at h5
        exact (Option.some.inj h5).symm
      · rw [if_neg h3] at hc; exact absurd hc (by simp)
end Go.Proofs.Ytnncpjekcljfbaa
/- What a tree that is made is of, as lists; the chapter's six leaves. No program is named. -/
namespace Go.Proofs.Ytnncpjekcljfbaa

/-- all that a tree is made of was noted -/
def InsIn (L : List Bytes) (D : List Dig) : Prop := ∀ r ∈ insM shaM D, r ∈ L
theorem InsIn.more {L L' : List Bytes} {D : List Dig} (h : InsIn L D) (hs : ∀ r ∈ L, r ∈ L') : InsIn L' D := fun r hr => hs r (h r hr)
theorem InsIn.new (L : List Bytes) (D : List Dig) : InsIn (notesM L (insM shaM D)) D := fun _ hr => mem_notesM.2 (.inr hr)
theorem InsIn.set {L : List Bytes} {D : List Dig} (h : InsIn L D) {i : Nat} (hi : i < D.length) (x : Bytes) (d : Dig) : InsIn (notesM (noteM L x) (setIns shaM (levelsM shaM D) i d)) (D.set i d) := fun r hr => by
  rcases insM_set (H := shaM) _ rfl hi r hr with h1 | h1
  · exact mem_notesM.2 (.inr h1)
  · exact mem_notesM.2 (.inl (mem_noteM.2 (.inl (h r h1))))
theorem noted_set {L : List Bytes} (x : Bytes) (N : List Bytes) : ∀ r, (r ∈ L ∨ r = x) → r ∈ notesM (noteM L x) N := fun _ hr => mem_notesM.2 (.inl (mem_noteM.2 hr))

def six : List Bytes := [[1], [2], [3], [4], [5], [6]]
def sixD : List Dig := six.map (leafM shaM)
theorem depthM6 : depthM 6 = 3 := depthM_up 6 2 2 (by omega) rfl depthM2
theorem leaf56 : leafM shaM [5] ≠ leafM shaM [6] := by decide +kernel
theorem sixD_length : sixD.length = 6 := rfl
theorem proofM_length (D : List Dig) : ∀ k i, (proofM D k i).length = k := by
  intro k
  induction k generalizing D with
  | zero => intro i; rfl
  | succ k ih => intro i; rw [proofM, List.length_cons, ih]
theorem six_facts : ∃ P : List (List Dig), proofM sixD 2 4 = P ∧ P.length = 2 ∧ (∃ a b, P = [a, b] ∧ a.length = 2 ∧ b.length = 2) ∧ climb 6 4 (leafM shaM [5]) P = some (rootM shaM sixD) ∧ climb 6 4 (leafM shaM [6]) P ≠ some (rootM shaM sixD) ∧ climb 6 3 (leafM shaM [5]) P ≠ some (rootM shaM sixD) := by
  have hg : (group sixD 1).length = 2 := by rw [group_length]; rfl
  have h2 : proofM sixD 2 4 = [group sixD 1, group (aboveM shaM sixD) 0] := rfl
  refine ⟨_, rfl, proofM_length _ _ _, ⟨_, _, h2, hg, ?_⟩, ?_, ?_, ?_⟩
  · rw [group_length, aboveM_length]; rfl
  · exact climb_proof 2 sixD 4 depthM6 (by rw [sixD_length]; omega)
  · rw [h2, climb, if_neg (by omega)]
    have h5 : (group sixD 1)[4 % 4]? = some (leafM shaM [5]) := group_at (D := sixD) (i := 4) (by rw [sixD_length]; omega)
    rw [if_neg (fun e => leaf56 (Option.some.inj (h5.symm.trans e.2)))]
    simp
  · rw [h2, climb, if_neg (by omega), if_neg (fun e => by rw [hg] at e; have := e.1; omega)]
    simp
/-- a part that a leaf is in -/
theorem climb_out {D : List Dig} {x : Dig} {k i : Nat} : depthM D.length = k + 1 → (h : i < D.length) → x = D[i] → climb D.length i x (proofM D k i) = some (rootM shaM D) := fun hk h e => by
  subst e; exact climb_proof k D i hk h
end Go.Proofs.Ytnncpjekcljfbaa
