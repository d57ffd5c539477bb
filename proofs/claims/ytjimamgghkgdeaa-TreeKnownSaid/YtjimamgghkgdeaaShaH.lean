/- sha: what is made once. -/
import Derived.Test.YtjimamgghkgdeaaShaG
namespace Go.Proofs.Ytjimamgghkgdeaa
open Go.RowKit

set_option maxHeartbeats 1000000 in
set_option maxRecDepth 20000 in
theorem hash_ready1 {w : World} {g : Nat} {d m : Int} {k st : List Int} {blk : Bytes} {held all : Int} (h : HashAt w g d m k st blk held all) {b o : Nat} (hp : w.cell? ⟨b, o, none⟩ = some (.pointer (some ⟨g, 0, none⟩))) (hb : b ≠ g) :
    Calls Try.prog 73 #[.pointer (some ⟨b, o, none⟩)] w fun e W => e = .returned (.tuple #[]) ∧ HashAt W g d m rootsM startM blk held all ∧ Upd (fun i => i = g) w W := by
  have f1 : ∀ W, Upd (fun i => i = g) w W → W.cell? ⟨b, o, none⟩ = some (.pointer (some ⟨g, 0, none⟩)) := fun W hW => hW.cell hp hb
  have HH := Lib.hid h
  clear h hp
  go_enter Try.func73, Try.ntmps73
  go_wp2_with fail
  refine wp_region_ord [(0, true), (1, true), (2, false), (3, false), (4, false), (5, false), (6, false), (7, false), (8, false), (9, false)] (by kernel_rfl) (by kernel_rfl) (Upd (fun i => i = g) w) ((Upd.refl _ w).drew) ?_
  simp only [ordOps, List.getD_cons_zero, List.getD_cons_succ]
  iterate 2 (refine wpOrd_held (fun K hK => ?_); go_simp; first | (apply Exists.intro; refine ⟨fun W hW => ?_, hK _ ?_⟩; (go_simp; first | done | exact rfl); clear hK K) | (refine hK _ ?_; clear hK K))
  clear f1
  have h0 : Upd (fun i => i = g) w w.drew := (Upd.refl _ w).drew
  have HD : Hid (HashAt w.drew g d m k st blk held all) := Lib.hid ⟨HH.out.b.drew, HH.out.lk, HH.out.ls, HH.out.lb⟩
  generalize w.drew = wa at *
  refine wpOrd_step (fun K hK => ?_) h0
  go_simp
  refine (sha_roots _).mono ?_
  rintro e wb ⟨rfl, hu⟩
  replace HD := Lib.hid (HD.out.kept hu)
  replace h0 := h0.then hu fun _ _ h => h.elim
  clear hu
  refine hK _ _ h0 ?_
  clear hK K
  refine wpOrd_step (fun K hK => ?_) h0
  go_simp
  refine (sha_start _).mono ?_
  rintro e wc ⟨rfl, hu⟩
  replace HD := Lib.hid (HD.out.kept hu)
  replace h0 := h0.then hu fun _ _ h => h.elim
  clear hu
  refine hK _ _ h0 ?_
  clear hK K
  obtain ⟨W1, r1, h2, u1⟩ := HD.out.runK rootsM_length
  obtain ⟨W2, r2, h3, u2⟩ := h2.runS startM_length
  have h1 := h0.trans u1
  have h4 := h1.trans u2
  have HF := Lib.hid (And.intro h3 h4)
  clear h2 h3 u1 u2
  iterate 2 (refine wpOrd_step (fun K hK => ?_) h0; go_simp; refine hK _ _ h0 ?_; clear hK K)
  refine wpOrd_step (fun K hK => ?_) h0
  go_simp
  refine hK _ _ h1 ?_
  clear hK K
  iterate 2 (refine wpOrd_step (fun K hK => ?_) h1; go_simp; refine hK _ _ h1 ?_; clear hK K)
  refine wpOrd_step (fun K hK => ?_) h1
  go_simp
  refine hK _ _ h4 ?_
  clear hK K
  refine wpOrd_nil ?_
  go_wp2
  go_end0
  exact ⟨rfl, HF.out.1, HF.out.2⟩

set_option maxHeartbeats 1000000 in
set_option maxRecDepth 20000 in
theorem hash_ready {w : World} {g : Nat} {k st : List Int} {blk : Bytes} {held all : Int} (h : HashAt w g 0 0 k st blk held all) :
    Calls Try.prog 64 #[.pointer (some ⟨g, 0, none⟩)] w fun e W => e = .returned (.tuple #[]) ∧ HashAt W g 1 0 rootsM startM blk held all ∧ Upd (fun i => i = g) w W := by
  have hlt : g < w.heap.size := h.b.lt
  have h1 : HashAt (w.alloc (.cells #[.pointer (some ⟨g, 0, none⟩)] 104)) g 0 0 k st blk held all := h.kept ((Upd.refl _ w).alloc _)
  have hp : (w.alloc (.cells #[.pointer (some ⟨g, 0, none⟩)] 104)).cell? ⟨w.heap.size, 0, none⟩ = some (.pointer (some ⟨g, 0, none⟩)) := Blk.cell (Blk.new w 104 [.pointer (some ⟨g, 0, none⟩)]) rfl
  have hu : Upd (fun i => i = g) w (w.alloc (.cells #[.pointer (some ⟨g, 0, none⟩)] 104)) := (Upd.refl _ w).alloc _
  have HG := Lib.hid hlt
  have HH := Lib.hid (And.intro h1 (And.intro hp hu))
  clear h h1 hp hu hlt
  have hmf : ∀ (fn : Fn) (first cap : Array Value) (w : World), (Instr.makeFunc fn first cap).run Try.prog w = .ok (.func fn first cap) w := fun _ _ _ _ => rfl
  go_enter Try.func64, Try.ntmps64
  go_wp2_with fail
  obtain ⟨h1, hp, hu⟩ := HH.out
  refine (do_hash (b := g) (off := 1) (pl := ⟨w.heap.size, 0, none⟩) (Q := fun W => HashAt W g 0 1 rootsM startM blk held all ∧ Upd (fun i => i = g) w W) h1.c1 h1.c2 (h1.thaw 2) ?_ ?_).mono ?_
  · have h2 := h1.setM 1
    have hu2 := hu.setCell (p := ⟨g, 2, none⟩) (.int .i32 1) fun _ => rfl
    refine (hash_ready1 h2 (b := w.heap.size) (o := 0) ?_ (by have := HG.out; omega)).mono ?_
    · rw [World.cell?_setCell_other _ _ _ _ (fun e => by have := HG.out; have h3 : g = w.heap.size := congrArg Addr.block e; omega)]
      exact hp
    · rintro e W ⟨rfl, h3, hu3⟩
      exact ⟨rfl, h3, hu2.trans hu3⟩
  · rintro W ⟨h2, _⟩
    exact ⟨h2.c1, h2.c2, h2.thaw 1, h2.thaw 2⟩
  rintro e w2 ⟨rfl, W, ⟨h2, hu2⟩, rfl⟩
  have h3 := ((show HashAt W.drew g 0 1 rootsM startM blk held all from ⟨h2.b.drew, h2.lk, h2.ls, h2.lb⟩).setD 1).setM 0
  have hu3 := (hu2.drew.setCell (p := ⟨g, 1, none⟩) (.int .u32 1) fun _ => rfl).setCell (p := ⟨g, 2, none⟩) (.int .i32 0) fun _ => rfl
  have HF := Lib.hid (And.intro h3 hu3)
  clear h1 hp hu h2 hu2 h3 hu3 HH
  change Hid (HashAt ((W.drew.setCell ⟨g, 1, none⟩ (.int .u32 1)).setCell ⟨g, 1 + 1, none⟩ (.int .i32 0)) g 1 0 rootsM startM blk held all ∧ Upd (fun i => i = g) w ((W.drew.setCell ⟨g, 1, none⟩ (.int .u32 1)).setCell ⟨g, 1 + 1, none⟩ (.int .i32 0))) at HF
  generalize (W.drew.setCell ⟨g, 1, none⟩ (.int .u32 1)).setCell ⟨g, 1 + 1, none⟩ (.int .i32 0) = w2 at *
  go_wp2
  go_end0
  exact ⟨rfl, HF.out.1, HF.out.2⟩

set_option maxHeartbeats 1000000 in
set_option maxRecDepth 20000 in
theorem hash_again {w : World} {g : Nat} {k st : List Int} {blk : Bytes} {held all : Int} (h : HashAt w g 1 0 k st blk held all) :
    Calls Try.prog 64 #[.pointer (some ⟨g, 0, none⟩)] w fun e W => e = .returned (.tuple #[]) ∧ HashAt W g 1 0 k st blk held all ∧ Kept w W := by
  have h1 : HashAt (w.alloc (.cells #[.pointer (some ⟨g, 0, none⟩)] 104)) g 1 0 k st blk held all := h.kept ((Upd.refl _ w).alloc _)
  have hu : Kept w (w.alloc (.cells #[.pointer (some ⟨g, 0, none⟩)] 104)) := (Upd.refl _ w).alloc _
  have HH := Lib.hid (And.intro h1 hu)
  clear h h1 hu
  have hmf : ∀ (fn : Fn) (first cap : Array Value) (w : World), (Instr.makeFunc fn first cap).run Try.prog w = .ok (.func fn first cap) w := fun _ _ _ _ => rfl
  go_enter Try.func64, Try.ntmps64
  go_wp2_with fail
  refine (do_done g 1 _ _ HH.out.1.c1).mono ?_
  rintro e w2 ⟨rfl, rfl⟩
  go_wp2
  go_end0
  exact ⟨rfl, HH.out.1, HH.out.2⟩
end Go.Proofs.Ytjimamgghkgdeaa
