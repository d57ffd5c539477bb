/- tree: New. -/
import Derived.Test.YtjimamgghkgdeaaTreeG
namespace Go.Proofs.Ytjimamgghkgdeaa
open Go.RowKit

set_option maxRecDepth 100000 in
set_option maxHeartbeats 1600000 in
/-- doSlow: not yet done, the lock free -/
theorem slow_tree {w : World} {b off : Nat} {pl : Addr} {Q : World → Prop}
    (h0 : w.cell? ⟨b, off, none⟩ = some (.int .u32 0)) (h1 : w.cell? ⟨b, off + 1, none⟩ = some (.int .i32 0)) (f1 : w.frozen? ⟨b, off + 1, none⟩ = false)
    (hf : Calls Try.prog 62 #[.pointer (some pl)] (w.setCell ⟨b, off + 1, none⟩ (.int .i32 1)) fun e W => e = .returned (.tuple #[]) ∧ Q W)
    (hq : ∀ W, Q W → W.cell? ⟨b, off, none⟩ = some (.int .u32 0) ∧ W.cell? ⟨b, off + 1, none⟩ = some (.int .i32 1) ∧ W.frozen? ⟨b, off, none⟩ = false ∧ W.frozen? ⟨b, off + 1, none⟩ = false) :
    Calls Try.prog 71 #[.pointer (some ⟨b, off, none⟩), .func (.func 62) #[] #[.pointer (some pl)]] w fun e w' => e = .returned (.tuple #[]) ∧ ∃ W, Q W ∧ (W.drew.setCell ⟨b, off, none⟩ (.int .u32 1)).setCell ⟨b, off + 1, none⟩ (.int .i32 0) = w' := by
  have hl : (w.setCell ⟨b, off + 1, none⟩ (.int .i32 1)).cell? ⟨b, off, none⟩ = some (.int .u32 0) := (World.cell?_setCell_other _ ⟨b, off + 1, none⟩ ⟨b, off, none⟩ _ (by simp)).trans h0
  have hnot : ∀ (x : Bool) (w : World), (Op.unary .not (.bool x)).run Try.prog w = .ok (.bool (!x)) w := fun _ _ => rfl
  have HF := Lib.hid hf
  have HQ := Lib.hid hq
  clear hf hq
  go_enter_defers Try.func71, Try.ntmps71
  go_wp2_with fail
  refine (lock_free ⟨b, off + 1, none⟩ _ h1 f1).mono ?_
  rintro e w' ⟨rfl, rfl⟩
  generalize w.setCell ⟨b, off + 1, none⟩ (.int .i32 1) = W1 at *
  go_wp2_with fail
  refine (bool_load _ _ _ _ hl).mono ?_
  rintro e w' ⟨rfl, rfl⟩
  go_wp2_with fail
  refine HF.out.mono ?_
  rintro e W ⟨rfl, hW⟩
  obtain ⟨q0, q1, q2, q3⟩ := HQ.out W hW
  have HW := Lib.hid hW
  clear hW
  go_wp2_with fail
  refine leaves_cons (f := 83) (args := #[.pointer (some ⟨b, off, none⟩), .bool true]) (by simp) (by simp [go_sem]) ?_
  refine (store_deferred ⟨b, off, none⟩ (.int .u32 0) .returning _ q0 (by simp [q2])).mono ?_
  rintro e u' w'' ⟨rfl, rfl, rfl⟩
  refine leaves_cons (f := 82) (args := #[.pointer (some ⟨b, off + 1, none⟩)]) (by simp [settle]) (by simp [go_sem]) ?_
  refine (unlock_deferred ⟨b, off + 1, none⟩ _ _ ?_ (by simp [q3])).mono ?_
  · refine (World.cell?_setCell_other _ ⟨b, off, none⟩ ⟨b, off + 1, none⟩ _ (by simp)).trans ?_
    rw [World.cell?_drew]
    exact q1
  rintro e u' w'' ⟨rfl, rfl, rfl⟩
  simp only [Leaves, settle, results, Try.results71]
  exact ⟨.tuple #[], by simp, rfl, W, HW.out, rfl⟩

/-- Do: not yet done, the lock free -/
theorem do_tree {w : World} {b off : Nat} {pl : Addr} {Q : World → Prop}
    (h0 : w.cell? ⟨b, off, none⟩ = some (.int .u32 0)) (h1 : w.cell? ⟨b, off + 1, none⟩ = some (.int .i32 0)) (f1 : w.frozen? ⟨b, off + 1, none⟩ = false)
    (hf : Calls Try.prog 62 #[.pointer (some pl)] (w.setCell ⟨b, off + 1, none⟩ (.int .i32 1)) fun e W => e = .returned (.tuple #[]) ∧ Q W)
    (hq : ∀ W, Q W → W.cell? ⟨b, off, none⟩ = some (.int .u32 0) ∧ W.cell? ⟨b, off + 1, none⟩ = some (.int .i32 1) ∧ W.frozen? ⟨b, off, none⟩ = false ∧ W.frozen? ⟨b, off + 1, none⟩ = false) :
    Calls Try.prog 61 #[.pointer (some ⟨b, off, none⟩), .func (.func 62) #[] #[.pointer (some pl)]] w fun e w' => e = .returned (.tuple #[]) ∧ ∃ W, Q W ∧ (W.drew.setCell ⟨b, off, none⟩ (.int .u32 1)).setCell ⟨b, off + 1, none⟩ (.int .i32 0) = w' := by
  have hnot : ∀ (x : Bool) (w : World), (Op.unary .not (.bool x)).run Try.prog w = .ok (.bool (!x)) w := fun _ _ => rfl
  have HS := Lib.hid (slow_tree h0 h1 f1 hf hq)
  have HL := Lib.hid (bool_load _ _ _ _ h0)
  clear h0 h1 f1 hf hq
  go_enter Try.func61, Try.ntmps61
  go_wp2_with fail
  refine HL.out.mono ?_
  rintro e w' ⟨rfl, rfl⟩
  go_wp2_with fail
  refine HS.out.mono ?_
  rintro e w' ⟨rfl, W, hW, rfl⟩
  have HW := Lib.hid hW
  clear hW HS HL
  generalize hE : (W.drew.setCell ⟨b, off, none⟩ (.int .u32 1)).setCell ⟨b, off + 1, none⟩ (.int .i32 0) = w2 at *
  have HE := Lib.hid hE
  clear hE
  go_wp2
  go_end0
  exact ⟨rfl, W, HW.out, HE.out⟩

theorem Blk.ty {W : World} {g t1 t2 : Nat} {v1 v2 : List Value} (h1 : Blk W g t1 v1) (h2 : Blk W g t2 v2) : t1 = t2 := by
  unfold Blk at h1 h2
  rw [h1] at h2
  simp only [Option.some.injEq, Obj.cells.injEq] at h2
  exact h2.2.1
theorem BookL.blkT {W W' : World} {b r q : Nat} {L : List Bytes} (h : BookL W b r q L) {t : Nat} {vs : List Value} (ht : Blk W t 89 vs) (hu : Upd (fun k => k = t) W W') : BookL W' b r q L := h.far ht (by decide) hu

set_option maxHeartbeats 2000000 in
set_option maxRecDepth 20000 in
theorem tree_ready {w : World} {b r q t : Nat} {L : List Bytes} (h : BookL w b r q L) {g2 g6 g3 n : Nat} {d : Dig} (h2 : Blk w g2 25 [.pointer (some ⟨b, 0, none⟩)]) (h6 : Blk w g6 40 (encB d.1)) (h3 : Blk w g3 3 [.int .i64 (n : Int)]) (h1 : 1 ≤ n) (hn : n ≤ 1024)
    (ht : Blk w t 89 (treeV b n 0 0 (freshF g2 g6 g3) (.slice none 0 0))) :
    Calls Try.prog 46 #[.pointer (some ⟨t, 0, none⟩)] w fun e W => e = .returned (.tuple #[]) ∧ ∃ v xs, Blk W t 89 (treeV b n 1 0 (freshF g2 g6 g3) v) ∧ OwnRows slA 1 W w.heap.size 35 v xs ∧ Lev W w.heap.size xs (levelsM shaM (List.replicate n d)) ∧ BookL W b r q (notesM L (insM shaM (List.replicate n d))) ∧ Upd (fun i => Book3 b r q i ∨ i = t) w W := by
  have hka : Kept w (w.alloc (.cells #[.pointer (some ⟨t, 0, none⟩)] 27)) := (Upd.refl _ w).alloc _
  have hp : Blk (w.alloc (.cells #[.pointer (some ⟨t, 0, none⟩)] 27)) w.heap.size 27 [.pointer (some ⟨t, 0, none⟩)] := Blk.new w _ _
  have hsz : w.heap.size ≤ (w.alloc (.cells #[.pointer (some ⟨t, 0, none⟩)] 27)).heap.size := hka.size
  have htlt := ht.lt
  have HH := Lib.hid (And.intro (h.kept hka) (And.intro (h2.kept hka) (And.intro (h6.kept hka) (And.intro (h3.kept hka) (And.intro h1 (And.intro hn (And.intro (ht.kept hka) (And.intro hp (And.intro hka (And.intro hsz htlt))))))))))
  clear h h2 h6 h3 h1 hn ht hka hp hsz htlt
  have hmf : ∀ (fn : Fn) (first cap : Array Value) (w : World), (Instr.makeFunc fn first cap).run Try.prog w = .ok (.func fn first cap) w := fun _ _ _ _ => rfl
  go_enter Try.func46, Try.ntmps46
  go_wp2_with fail
  generalize w.alloc (.cells #[.pointer (some ⟨t, 0, none⟩)] 27) = w1 at *
  obtain ⟨h, h2, h6, h3, h1, hn, ht, hp, hka, hsz, htlt⟩ := HH.out
  refine (do_tree (b := t) (off := 2) (pl := ⟨w.heap.size, 0, none⟩) (Q := fun W => ∃ v xs, Blk W t 89 (treeV b n 0 1 (freshF g2 g6 g3) v) ∧ OwnRows slA 1 W w.heap.size 35 v xs ∧ Lev W w.heap.size xs (levelsM shaM (List.replicate n d)) ∧ BookL W b r q (notesM L (insM shaM (List.replicate n d))) ∧ Upd (fun i => Book3 b r q i ∨ i = t) w W) (ht.cell rfl) (ht.cell rfl) (ht.thaw 3) ?_ ?_).mono ?_
  · have ht2 := ht.set 3 (.int .i32 1)
    have hut : Upd (fun i => i = t) w1 (w1.setCell ⟨t, 3, none⟩ (.int .i32 1)) := (Upd.refl _ _).setCell (p := ⟨t, 3, none⟩) _ fun _ => rfl
    have ne2 : g2 ≠ t := by rintro rfl; exact absurd (Blk.ty h2 ht) (by decide)
    have ne6 : g6 ≠ t := by rintro rfl; exact absurd (Blk.ty h6 ht) (by decide)
    have ne3 : g3 ≠ t := by rintro rfl; exact absurd (Blk.ty h3 ht) (by decide)
    refine (tree_ready1 (h.blkT ht hut) (h2.upd hut ne2) (h6.upd hut ne6) (h3.upd hut ne3) h1 hn (k := 0) (m := 1) ht2 (hp.upd hut (by omega))).mono ?_
    rintro e W ⟨rfl, v, xs, k1, k2, k3, k4, k5⟩
    have hs1 : w.heap.size ≤ (w1.setCell ⟨t, 3, none⟩ (.int .i32 1)).heap.size := by have := hut.size; omega
    refine ⟨rfl, v, xs, k1, own_base k2 hs1, ⟨k3.len, fun i hi hi' => ⟨own_base (k3.row i hi hi').1 hs1, (k3.row i hi hi').2⟩, k3.apart⟩, k4, ?_⟩
    exact (hka.to.trans (hut.mono fun _ _ e => .inr e)).trans k5
  · rintro W ⟨v, xs, k1, _⟩
    exact ⟨k1.cell rfl, k1.cell rfl, k1.thaw 2, k1.thaw 3⟩
  rintro e w2 ⟨rfl, W, ⟨v, xs, k1, k2, k3, k4, k5⟩, rfl⟩
  have m1 : Blk ((W.drew.setCell ⟨t, 2, none⟩ (.int .u32 1)).setCell ⟨t, 2 + 1, none⟩ (.int .i32 0)) t 89 (treeV b n 1 0 (freshF g2 g6 g3) v) := (k1.drew.set 2 (.int .u32 1)).set 3 (.int .i32 0)
  have hut : Upd (fun i => i = t) W ((W.drew.setCell ⟨t, 2, none⟩ (.int .u32 1)).setCell ⟨t, 2 + 1, none⟩ (.int .i32 0)) := ((Upd.refl (fun i => i = t) W).drew.setCell (p := ⟨t, 2, none⟩) (.int .u32 1) fun _ => rfl).setCell (p := ⟨t, 2 + 1, none⟩) (.int .i32 0) fun _ => rfl
  have HF : Hid (∃ v xs, Blk ((W.drew.setCell ⟨t, 2, none⟩ (.int .u32 1)).setCell ⟨t, 2 + 1, none⟩ (.int .i32 0)) t 89 (treeV b n 1 0 (freshF g2 g6 g3) v) ∧ OwnRows slA 1 ((W.drew.setCell ⟨t, 2, none⟩ (.int .u32 1)).setCell ⟨t, 2 + 1, none⟩ (.int .i32 0)) w.heap.size 35 v xs ∧ Lev ((W.drew.setCell ⟨t, 2, none⟩ (.int .u32 1)).setCell ⟨t, 2 + 1, none⟩ (.int .i32 0)) w.heap.size xs (levelsM shaM (List.replicate n d)) ∧ BookL ((W.drew.setCell ⟨t, 2, none⟩ (.int .u32 1)).setCell ⟨t, 2 + 1, none⟩ (.int .i32 0)) b r q (notesM L (insM shaM (List.replicate n d))) ∧ Upd (fun i => Book3 b r q i ∨ i = t) w ((W.drew.setCell ⟨t, 2, none⟩ (.int .u32 1)).setCell ⟨t, 2 + 1, none⟩ (.int .i32 0))) :=
    ⟨v, xs, m1, OwnRows.upd k2 hut (fun i hi e => by have := (World.ownsRow.lt k2 i hi).1; omega), k3.upd hut (fun i hi j hj e => by have := (k3.far i hi j hj).1; omega), k4.blkT k1 hut, k5.trans (hut.mono fun _ _ e => .inr e)⟩
  clear k1 k2 k3 k4 k5 m1 hut HH h h2 h6 h3 h1 hn ht hp hka hsz htlt
  generalize (W.drew.setCell ⟨t, 2, none⟩ (.int .u32 1)).setCell ⟨t, 2 + 1, none⟩ (.int .i32 0) = w2 at *
  go_wp2
  go_end0
  exact ⟨rfl, HF.out⟩
end Go.Proofs.Ytjimamgghkgdeaa
