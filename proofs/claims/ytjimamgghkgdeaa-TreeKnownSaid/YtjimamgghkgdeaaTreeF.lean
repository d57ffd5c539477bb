/- tree: slices.Clone of digests; what is there at first. -/
import Derived.Test.YtjimamgghkgdeaaTreeE
namespace Go.Proofs.Ytjimamgghkgdeaa
open Go.RowKit

theorem digs_eq_nil (w : World) (a : Option Addr) (n c n' c' : Nat) : (binOp .eql 35 (.slice a n c) (.slice none n' c')).run Try.prog w = .ok (.bool a.isNone) w := Lib.run_eql_slice_nil w _ _ a n c n' c' Try.underlying35
attribute [local go_sem] digs_eq_nil

set_option maxHeartbeats 1000000 in
set_option maxRecDepth 20000 in
theorem digs_Clone {w : World} {A : Option Addr} {D : List Dig} (c : Nat) (hD : Digs w A D) (hn : D ≠ []) (hl : D.length ≤ 1024) :
    Calls Try.prog 49 #[.slice A D.length c] w fun e W => ∃ v, e = .returned v ∧ OwnD W w.heap.size v D ∧ Kept w W := by
  obtain ⟨i0, hi0, h2⟩ := Option.map_eq_some_iff.1 dig_info3
  simp only [Prod.mk.injEq] at h2
  rcases hD with h0 | ⟨b, off, rfl, hc⟩
  · exact absurd (List.eq_nil_of_length_eq_zero (by have := flatD_length D; rw [h0] at this; simp at this; omega)) hn
  · have HC := Lib.hid (And.intro hc (And.intro hl (And.intro hi0 h2)))
    clear hc hl hi0 h2 hn
    go_enter Try.func49, Try.ntmps49
    go_wp2_with (at_builtin; refine wpList_append_own _ rfl (.tmp 5) (.tmp 6) 35 rfl w.heap.size 40 i0 (.agg (dA dig0)) 32 32 Try.underlying35 HC.out.2.2.1 HC.out.2.2.2.1 HC.out.2.2.2.2.1 HC.out.2.2.2.2.2 (by simp [Value.cells]) (by decide) _ 0 [] rfl (World.ownsRow_made (base := w.heap.size) (size := 32) (e := 40) w #[] 0 (Nat.le_refl _) (Nat.zero_le _) rfl) ⟨b, off, none⟩ D.length c (vsD D) rfl (by rw [vsD_length]) (fun j u hu => by rw [add_none]; exact Lib.cell?_alloc_some _ (HC.out.1 j u hu)) (encB_one _) (by have := HC.out.2.1; unfold maxLen; omega) (by have := HC.out.2.1; omega) (by simp) ?_; intro v' w' hown hgr hnil)
    rw [Nat.zero_add, List.nil_append] at hown
    have HF : Hid (OwnD w' w.heap.size v' D ∧ Kept w w') := by
      refine ⟨?_, ((Upd.refl (fun _ => False) w).alloc _).then (Upd.of_grown hgr) fun k hk e => by have e2 : some k = some w.heap.size := e; cases e2; omega⟩
      unfold OwnD OwnRows
      rw [rowsOf_dA]
      exact hown
    clear hown hgr hnil
    go_wp2
    go_ret
    exact ⟨_, rfl, HF.out⟩

set_option maxHeartbeats 2000000 in
set_option maxRecDepth 20000 in
/-- what a tree is without bytes -/
theorem tree_fresh {w : World} {b r q : Nat} {L : List Bytes} (h : BookL w b r q L) {g2 g6 g3 n : Nat} {d : Dig} (h2 : Blk w g2 25 [.pointer (some ⟨b, 0, none⟩)]) (h6 : Blk w g6 40 (encB d.1)) (h3 : Blk w g3 3 [.int .i64 (n : Int)]) (h1 : 1 ≤ n) (hn : n ≤ 1024) :
    Calls Try.prog 43 #[.pointer (some ⟨g2, 0, none⟩), .pointer (some ⟨g6, 0, none⟩), .pointer (some ⟨g3, 0, none⟩)] w fun e W => ∃ v xs, e = .returned v ∧ OwnRows slA 1 W w.heap.size 35 v xs ∧ Lev W w.heap.size xs (levelsM shaM (List.replicate n d)) ∧ BookL W b r q (notesM L (insM shaM (List.replicate n d))) ∧ Upd (Book3 b r q) w W := by
  have f2 : ∀ W, Upd (Book3 b r q) w W → W.cell? ⟨g2, 0, none⟩ = some (.pointer (some ⟨b, 0, none⟩)) := fun W hW => (h2.upd hW (h.not h2 (by decide))).cell rfl
  have f3 : ∀ W, Upd (Book3 b r q) w W → W.cell? ⟨g3, 0, none⟩ = some (.int .i64 (n : Int)) := fun W hW => (h3.upd hW (h.not h3 (by decide))).cell rfl
  have hs6 := h6.seg 0 32 (encB d.1) (by rw [encB_length, d.2]) (fun j _ => by rw [Nat.zero_add])
  have f6 : ∀ W, Upd (Book3 b r q) w W → segB W ⟨g6, 0, none⟩ 32 = true := fun W hW => ((h6.upd hW (h.not h6 (by decide))).seg 0 32 (encB d.1) (by rw [encB_length, d.2]) (fun j _ => by rw [Nat.zero_add])).1
  have f6' : ∀ W, Upd (Book3 b r q) w W → segV W ⟨g6, 0, none⟩ 32 = dA d := fun W hW => ((h6.upd hW (h.not h6 (by decide))).seg 0 32 (encB d.1) (by rw [encB_length, d.2]) (fun j _ => by rw [Nat.zero_add])).2
  have HX := Lib.hid (And.intro h (And.intro h1 hn))
  clear h h1 hn h2 h3 h6 hs6
  go_enter Try.func43, Try.ntmps43
  go_wp2_with fail
  refine wp_region_ord [(0, true), (1, true), (3, true), (2, false), (4, false), (5, false), (6, false)] (by kernel_rfl) (by kernel_rfl) (Upd (Book3 b r q) w) (Upd.refl _ w).drew ?_
  simp only [ordOps, List.getD_cons_zero, List.getD_cons_succ]
  iterate 3 (refine wpOrd_held (fun K hK => ?_); go_simp; first | (apply Exists.intro; refine ⟨fun W hW => ?_, hK _ ?_⟩; (go_simp; first | done | exact rfl); clear hK K) | (refine hK _ ?_; clear hK K))
  clear f2 f3 f6 f6'
  have hS : Upd (Book3 b r q) w w.drew := (Upd.refl _ w).drew
  have HB : Hid (BookL w.drew b r q L ∧ w.drew.heap.size = w.heap.size) := ⟨HX.out.1.kept (Upd.refl _ w).drew, rfl⟩
  generalize w.drew = wa at *
  refine wpOrd_step (fun K hK => ?_) hS
  go_simp
  have hS1 := hS.alloc (.cells (dA d) 40)
  have hr1 : (wa.alloc (.cells (dA d) 40)).rangeAt wa.heap.size 0 (encB d.1) := (Blk.new wa 40 (encB d.1)).range 0 (fun j _ => by rw [Nat.zero_add])
  have HB1 : Hid (BookL (wa.alloc (.cells (dA d) 40)) b r q L) := HB.out.1.kept ((Upd.refl _ wa).alloc _)
  refine hK _ _ hS1 ?_
  clear hK K
  generalize hWB : wa.alloc (.cells (dA d) 40) = wb at *
  refine wpOrd_step (fun K hK => ?_) hS1
  go_simp
  refine (digs_Repeat hr1 n HX.out.2.1 HX.out.2.2).mono ?_
  rintro e wc ⟨v1, rfl, hown, hu1⟩
  have hS2 : Upd (Book3 b r q) w wc := hS1.then hu1 fun _ _ h => h.elim
  have hb2 := HB1.out.kept hu1
  obtain ⟨A, c, hv, hc, hdg⟩ := OwnD.digs hown
  rw [List.length_replicate] at hv
  subst hv
  refine hK _ _ hS2 ?_
  clear hK K
  refine wpOrd_step (fun K hK => ?_) hS2
  go_simp
  have hsz : w.heap.size ≤ wb.heap.size := hS1.size
  refine (tree_levels (B := w.heap.size) (x0 := ⟨A, n, c⟩) hb2 (own_base hown hsz) (by have := HX.out.2.1; intro h0; have := congrArg List.length h0; simp at this; omega) (by rw [List.length_replicate]; exact HX.out.2.2) hS2.size (fun k hk => HX.out.1.lt k hk)).mono ?_
  rintro e wd ⟨v2, xs, rfl, ho, hl, hb3, hu3⟩
  have hS3 := hS2.trans hu3
  have HF : Hid (OwnRows slA 1 wd w.heap.size 35 v2 xs ∧ Lev wd w.heap.size xs (levelsM shaM (List.replicate n d)) ∧ BookL wd b r q (notesM L (insM shaM (List.replicate n d))) ∧ Upd (Book3 b r q) w wd) := ⟨own_base ho hS2.size, hl, hb3, hS3⟩
  refine hK _ _ hS3 ?_
  clear hK K
  refine wpOrd_step (fun K hK => ?_) hS3
  go_simp
  refine hK _ _ hS3 ?_
  clear hK K ho hl hb3 hu3
  refine wpOrd_nil ?_
  go_wp2
  go_ret
  exact ⟨_, _, rfl, HF.out⟩
end Go.Proofs.Ytjimamgghkgdeaa
