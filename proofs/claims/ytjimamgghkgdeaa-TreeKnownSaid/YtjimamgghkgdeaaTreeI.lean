/- tree: New. -/
import Derived.Test.YtjimamgghkgdeaaTreeH
namespace Go.Proofs.Ytjimamgghkgdeaa
open Go.RowKit

/-- block t is a tree of n leaves over a book at b, with the levels ls; all that it turns lies from lo on, below hi -/
structure TreeI (W : World) (lo hi t b n : Nat) (ls : List (List Dig)) (fv v : Value) (xs : List SlC) : Prop where
  blk : Blk W t 89 (treeV b n 1 0 fv v)
  all : OwnRows slA 1 W lo 35 v xs
  lev : Lev W lo xs ls
  vhi : ∀ k, v.ownBlock = some k → k < hi
  xhi : ∀ i (h : i < xs.length) k, xs[i].v.ownBlock = some k → k < hi
  tlo : lo ≤ t
  thi : t < hi
  sz : hi ≤ W.heap.size
  n1 : 1 ≤ n
  n2 : n ≤ 1024
/-- .. the digests of its leaves are D -/
def TreeAt (W : World) (lo hi t b : Nat) (D : List Dig) : Prop := ∃ fv v xs, TreeI W lo hi t b D.length (levelsM shaM D) fv v xs
section
variable {W W' : World} {lo hi t b n : Nat} {ls : List (List Dig)} {D : List Dig} {fv v : Value} {xs : List SlC} {S : Nat → Prop}
theorem TreeI.upd (h : TreeI W lo hi t b n ls fv v xs) (hu : Upd S W W') (hs : ∀ k, lo ≤ k → k < hi → (∃ cs t', W.heap[k]? = some (.cells cs t' (0, 0)) ∧ t' ≠ 75) → ¬ S k) : TreeI W' lo hi t b n ls fv v xs := by
  refine ⟨h.blk.upd hu (hs t h.tlo h.thi ⟨_, _, h.blk, by decide⟩), OwnRows.upd h.all hu (fun k e => ?_), h.lev.upd hu (fun i hi k e => ?_), h.vhi, h.xhi, h.tlo, h.thi, Nat.le_trans h.sz hu.size, h.n1, h.n2⟩
  · obtain ⟨cur, hc⟩ := own_cells h.all e
    exact hs k (World.ownsRow.lt h.all k e).1 (h.vhi k e) ⟨_, _, hc, by decide⟩
  · obtain ⟨cur, hc⟩ := own_cells (h.lev.row i hi (by rw [← h.lev.len]; exact hi)).1 e
    exact hs k (h.lev.far i hi k e).1 (h.xhi i hi k e) ⟨_, _, hc, by decide⟩
theorem TreeI.kept (h : TreeI W lo hi t b n ls fv v xs) (hu : Kept W W') : TreeI W' lo hi t b n ls fv v xs := h.upd hu fun _ _ _ _ => id
theorem TreeI.book (h : TreeI W lo hi t b n ls fv v xs) {b' r q : Nat} {L : List Bytes} (hb : BookL W b' r q L) (hu : Upd (Book3 b' r q) W W') : TreeI W' lo hi t b n ls fv v xs :=
  h.upd hu fun k _ _ ⟨_, _, hc, ht⟩ => hb.not hc ht
theorem TreeAt.upd (h : TreeAt W lo hi t b D) (hu : Upd S W W') (hs : ∀ k, lo ≤ k → k < hi → (∃ cs t', W.heap[k]? = some (.cells cs t' (0, 0)) ∧ t' ≠ 75) → ¬ S k) : TreeAt W' lo hi t b D := by
  obtain ⟨fv, v, xs, h⟩ := h
  exact ⟨fv, v, xs, h.upd hu hs⟩
theorem TreeAt.kept (h : TreeAt W lo hi t b D) (hu : Kept W W') : TreeAt W' lo hi t b D := h.upd hu fun _ _ _ _ => id
theorem TreeAt.book (h : TreeAt W lo hi t b D) {b' r q : Nat} {L : List Bytes} (hb : BookL W b' r q L) (hu : Upd (Book3 b' r q) W W') : TreeAt W' lo hi t b D :=
  h.upd hu fun k _ _ ⟨_, _, hc, ht⟩ => hb.not hc ht
end

def treeA (b : Nat) (n : Int) : Array Value := (treeV b n 0 0 .nilFunc (.slice none 0 0)).toArray
@[go_sem ↓] theorem exec_build_tree (ρ : Operand → Value) (dst : Option Tmp) (parts : Array (Nat × Operand)) (ty : TypeId) (pos : String) (after : Array Edge) (guard : Option (Nat × Bool)) :
    execOp ρ ⟨dst, .build 89 parts, ty, pos, after, guard⟩ = buildRow 89 (parts.map fun (i, x) => (i, ρ x)) := rfl
@[go_sem] theorem run_build_tree (b : Nat) (n : Int) (W : World) : (buildRow 89 #[(0, .pointer (some ⟨b, 0, none⟩)), (1, .int .i64 n)]).run Try.prog W = .ok (.value (.agg (treeA b n))) W := by
  have H := run_build (P := Try.prog) W 89 #[(0, .pointer (some ⟨b, 0, none⟩)), (1, .int .i64 n)] (treeA b n) (by unfold treeA treeV; kernel_rfl)
  simp [buildRow, H, Result.andThen]

set_option maxHeartbeats 2000000 in
set_option maxRecDepth 20000 in
theorem tree_New {w : World} {b r q : Nat} {L : List Bytes} (h : BookL w b r q L) (n : Nat) (h1 : 1 ≤ n) (hn : n ≤ 1024) :
    Calls Try.prog 15 #[.pointer (some ⟨b, 0, none⟩), .int .i64 n] w fun e W => ∃ t, e = .returned (.tuple #[.pointer (some ⟨t, 0, none⟩), .int .i64 0]) ∧ w.heap.size ≤ t ∧ TreeAt W w.heap.size W.heap.size t b (List.replicate n (leafM shaM [])) ∧ BookL W b r q (notesM (noteM L (leafIn [])) (insM shaM (List.replicate n (leafM shaM [])))) ∧ Upd (Book3 b r q) w W := by
  have hb1 := h.kept ((Upd.refl (fun _ => False) w).alloc (.cells #[.pointer (some ⟨b, 0, none⟩)] 25))
  have h21 : Blk (w.alloc (.cells #[.pointer (some ⟨b, 0, none⟩)] 25)) w.heap.size 25 [.pointer (some ⟨b, 0, none⟩)] := Blk.new w _ _
  have hk1 : Kept w (w.alloc (.cells #[.pointer (some ⟨b, 0, none⟩)] 25)) := (Upd.refl _ w).alloc _
  generalize hW1 : w.alloc (.cells #[.pointer (some ⟨b, 0, none⟩)] 25) = w1 at *
  have hb2 := hb1.kept ((Upd.refl (fun _ => False) w1).alloc (.cells #[.int .i64 (n : Int)] 3))
  have h22 := h21.alloc (.cells #[.int .i64 (n : Int)] 3)
  have h32 : Blk (w1.alloc (.cells #[.int .i64 (n : Int)] 3)) w1.heap.size 3 [.int .i64 (n : Int)] := Blk.new w1 _ _
  have hk2 : Kept w (w1.alloc (.cells #[.int .i64 (n : Int)] 3)) := hk1.alloc _
  generalize hW2 : w1.alloc (.cells #[.int .i64 (n : Int)] 3) = w2 at *
  have c2 := h22.cell (k := 0) rfl
  have c3 := h32.cell (k := 0) rfl
  have HX := Lib.hid (And.intro hb2 (And.intro h22 (And.intro h32 (And.intro hk2 (And.intro h1 hn)))))
  have hn1 : decide ((n : Int) < 1) = false := by rw [decide_eq_false_iff_not]; omega
  have hn2 : decide ((1024 : Int) < (n : Int)) = false := by rw [decide_eq_false_iff_not]; omega
  clear h hb1 h21 hk1 hb2 h22 h32 hk2 h1 hn
  go_enter Try.func15, Try.ntmps15
  go_wp2_with fail
  refine (tree_Leaf (R := []) HX.out.1 0 (.inl rfl) (by simp)).mono ?_
  rintro e w3 ⟨rfl, hb3, hu3⟩
  obtain ⟨hb2, h22, h32, hk2, h1, hn⟩ := HX.out
  have h23 := h22.upd hu3 (hb2.not h22 (by decide))
  have h33 := h32.upd hu3 (hb2.not h32 (by decide))
  have hk3 : Upd (Book3 b r q) w w3 := hk2.to.trans hu3
  clear hb2 h22 h32 hk2 hu3
  have hb4 := hb3.kept ((Upd.refl (fun _ => False) w3).alloc (.cells (dA dig0) 40))
  have h24 := h23.alloc (.cells (dA dig0) 40)
  have h34 := h33.alloc (.cells (dA dig0) 40)
  have h64 : Blk (w3.alloc (.cells (dA dig0) 40)) w3.heap.size 40 (encB dig0.1) := Blk.new w3 _ _
  have hk4 : Upd (Book3 b r q) w (w3.alloc (.cells (dA dig0) 40)) := hk3.alloc _
  have hs3 := hk3.size
  generalize hW4 : w3.alloc (.cells (dA dig0) 40) = w4 at *
  have hr4 := (dig_end (leafM shaM []) h64).1
  have hu5 : Upd (fun k => k = w3.heap.size) w4 (w4.setRow w3.heap.size (dA (leafM shaM []))) := (Upd.refl _ _).setRow _ _ fun _ => rfl
  have hb5 := hb4.far h64 (by decide) hu5
  have n2 : w.heap.size ≠ w3.heap.size := fun e => absurd (Blk.ty (e ▸ h24) h64) (by decide)
  have n3 : w1.heap.size ≠ w3.heap.size := fun e => absurd (Blk.ty (e ▸ h34) h64) (by decide)
  have h25 := h24.upd hu5 n2
  have h35 := h34.upd hu5 n3
  have h65 : Blk (w4.setRow w3.heap.size (dA (leafM shaM []))) w3.heap.size 40 (encB (leafM shaM []).1) := h64.setRow _
  have hk5 : Upd (fun k => Book3 b r q k ∨ w.heap.size ≤ k) w (w4.setRow w3.heap.size (dA (leafM shaM []))) := (hk4.mono fun _ _ e => .inl e).trans (hu5.mono fun k _ e => .inr (by omega))
  generalize hW5 : w4.setRow w3.heap.size (dA (leafM shaM [])) = w5 at *
  have c25 := h25.cell (k := 0) rfl
  have c35 := h35.cell (k := 0) rfl
  have hka : Kept w5 (w5.alloc (.cells (treeA b n) 89)) := (Upd.refl _ _).alloc _
  have hb6 := hb5.kept hka
  have h26 := h25.kept hka
  have h36 := h35.kept hka
  have h66 := h65.kept hka
  have ht6 : Blk (w5.alloc (.cells (treeA b n) 89)) w5.heap.size 89 (treeV b n 0 0 .nilFunc (.slice none 0 0)) := Blk.new w5 _ _
  have hk6 := hk5.alloc (.cells (treeA b n) 89)
  generalize hW6 : w5.alloc (.cells (treeA b n) 89) = w6 at *
  have z6 := ht6.thaw 5
  have c6 := ht6.cell (k := 5) rfl
  have hst : (store ⟨w5.heap.size, 5, none⟩ (freshF w.heap.size w3.heap.size w1.heap.size)).run Try.prog w6 = .ok () (w6.setCell ⟨w5.heap.size, 5, none⟩ (freshF w.heap.size w3.heap.size w1.heap.size)) := by
    rw [run_store _ _ _ _ _ rfl, c6]
    simp only [z6]
    rfl
  have hu7 : Upd (fun k => k = w5.heap.size) w6 (w6.setCell ⟨w5.heap.size, 5, none⟩ (freshF w.heap.size w3.heap.size w1.heap.size)) := (Upd.refl _ _).setCell (p := ⟨w5.heap.size, 5, none⟩) _ fun _ => rfl
  have hb7 := hb6.far ht6 (by decide) hu7
  have l2 := h25.lt
  have l3 := h35.lt
  have l6 := h65.lt
  have h27 := h26.upd hu7 (by omega)
  have h37 := h36.upd hu7 (by omega)
  have h67 := h66.upd hu7 (by omega)
  have ht7 : Blk (w6.setCell ⟨w5.heap.size, 5, none⟩ (freshF w.heap.size w3.heap.size w1.heap.size)) w5.heap.size 89 (treeV b n 0 0 (freshF w.heap.size w3.heap.size w1.heap.size) (.slice none 0 0)) := ht6.set 5 _
  have hs5 : w.heap.size ≤ w5.heap.size := by omega
  have hk7 := hk6.trans (hu7.mono fun k _ e => .inr (by omega))
  have HZ := Lib.hid (And.intro hb7 (And.intro h27 (And.intro h67 (And.intro h37 (And.intro h1 (And.intro hn (And.intro ht7 (And.intro hk7 hs5))))))))
  clear hb3 h23 h33 hk3 hb4 h24 h34 h64 hk4 hs3 hu5 hb5 n2 n3 h25 h35 h65 hk5 hka hb6 h26 h36 h66 ht6 hk6 hu7 hb7 l2 l3 l6 h27 h37 h67 ht7 hk7 h1 hn HX
  have hmf : ∀ (fn : Fn) (first cap : Array Value) (w : World), (Instr.makeFunc fn first cap).run Try.prog w = .ok (.func fn first cap) w := fun _ _ _ _ => rfl
  unfold freshF at *
  go_wp2_with fail
  obtain ⟨hb7, h27, h67, h37, h1, hn, ht7, hk7, hs5⟩ := HZ.out
  have hsz := ht7.lt
  have hsz5 := hk7.size
  have hs7 := ht7.lt
  generalize w6.setCell ⟨w5.heap.size, 5, none⟩ _ = w7 at *
  refine (tree_ready hb7 h27 h67 h37 h1 hn ht7).mono ?_
  rintro e W ⟨rfl, v, xs, k1, k2, k3, k4, k5⟩
  have HY : Hid (w.heap.size ≤ w5.heap.size ∧ TreeAt W w.heap.size W.heap.size w5.heap.size b (List.replicate n (leafM shaM [])) ∧ BookL W b r q (notesM (noteM L (leafIn [])) (insM shaM (List.replicate n (leafM shaM [])))) ∧ Upd (Book3 b r q) w W) := by
    refine ⟨hs5, ⟨_, v, xs, ⟨by rw [List.length_replicate]; exact k1, own_base k2 hsz5, ⟨k3.len, fun i hi hi' => ⟨own_base (k3.row i hi hi').1 hsz5, (k3.row i hi hi').2⟩, k3.apart⟩, fun k e => (World.ownsRow.lt k2 k e).2, fun i hi k e => (k3.far i hi k e).2, hs5, k1.lt, Nat.le_refl _, by rw [List.length_replicate]; exact h1, by rw [List.length_replicate]; exact hn⟩⟩, k4, ?_⟩
    exact (hk7.then k5 (fun k hk e => e.elim .inl (fun e => .inr (by omega)))).mono (fun k hk e => e.elim id (fun e => by omega))
  clear hb7 h27 h67 h37 h1 hn ht7 hk7 hs5 k1 k2 k3 k4 k5
  go_wp2
  go_ret2
  obtain ⟨y1, y2, y3, y4⟩ := HY.out
  exact ⟨_, rfl, y1, y2, y3, y4⟩
end Go.Proofs.Ytjimamgghkgdeaa
