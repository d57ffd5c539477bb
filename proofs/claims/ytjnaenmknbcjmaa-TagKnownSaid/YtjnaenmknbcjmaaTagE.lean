/- The statements' helper works: it answers true. -/
import Derived.Test.YtjnaenmknbcjmaaTagD
namespace Go.Proofs.Ytjnaenmknbcjmaa
open Go.RowKit

theorem tag_New (w : World) :
    Calls Try.prog 15 #[] w fun e w' => ∃ b r, e = .returned (.pointer (some ⟨b, 0, none⟩)) ∧ LedAt w' b r [] 0 ∧ Kept w w' ∧ w.heap.size ≤ b ∧ w.heap.size ≤ r := by
  refine (tag_new_any w).mono ?_
  rintro e w' ⟨rfl, rfl⟩
  exact ⟨_, _, rfl, LedAt.new w, ((Upd.refl _ w).alloc _).alloc _, by omega, Nat.le_refl _⟩

/-- a variable that holds a digest -/
def Box (w : World) (g : Nat) (d : Dig) : Prop := w.heap[g]? = some (.cells (dA d) 28 (0, 0))
theorem Box.lt {w : World} {g : Nat} {d : Dig} (h : Box w g d) : g < w.heap.size := (Array.getElem?_eq_some_iff.1 h).1
theorem Box.s1 {w : World} {g : Nat} {d : Dig} (h : Box w g d) : segB w ⟨g, 0, none⟩ 32 = true := segB_of (seg_block h) (dA_size d)
theorem Box.s2 {w : World} {g : Nat} {d : Dig} (h : Box w g d) : segV w ⟨g, 0, none⟩ 32 = dA d := segV_of (seg_block h) (dA_size d)
theorem Box.new (w : World) (d : Dig) : Box (w.alloc (.cells (dA d) 28)) w.heap.size d := heap_alloc_new w _
theorem Box.new1 (w : World) (o : Obj) (d : Dig) : Box ((w.alloc o).alloc (.cells (dA d) 28)) (w.heap.size + 1) d := by
  have := heap_alloc_new (w.alloc o) (.cells (dA d) 28)
  rw [World.size_alloc] at this
  exact this
theorem Box.upd {S : Nat → Prop} {w w' : World} {g : Nat} {d : Dig} (hu : Upd S w w') (h : Box w g d) (hs : ¬ S g) : Box w' g d := (hu.block g h.lt hs).trans h
theorem Box.ne {w : World} {g b r : Nat} {d : Dig} {L : List Ent} {n : Int} (h : Box w g d) (hL : LedAt w b r L n) : g ≠ b ∧ g ≠ r := by
  constructor
  · rintro rfl; unfold Box at h; rw [hL.blk] at h
    simp only [Option.some.injEq, Obj.cells.injEq] at h
    have h2 := h.2.1
    revert h2; decide
  · rintro rfl; obtain ⟨es, c, hm, _⟩ := hL.map; unfold Box at h; rw [hm] at h; cases h

/-- a slice of ints that the call itself has made -/
theorem Ints.new {w : World} {g t : Nat} {R : List Int} (h : w.heap[g]? = some (.cells ((R.map (Value.int .i64)).toArray) t (0, 0))) : Ints w (some ⟨g, 0, none⟩) R :=
  .inr ⟨g, 0, rfl, fun k hk => by rw [cell_of_row w g _ _ _ _ h]; simp [hk]⟩

set_option maxHeartbeats 2000000 in
theorem law_works (w : World) : Calls Try.prog 31 #[] w fun e w' => e = .returned (.bool true) ∧ Kept w w' := by
  have t1 : (tagM [] 1 2 (digI 1)).2 = 0 := by decide
  have c1 : checkM (tagM [] 1 2 (digI 1)).1 1 2 (digI 1) = true := by decide
  have c2 : checkM (tagM [] 1 2 (digI 1)).1 1 3 (digI 1) = false := by decide
  have c3 : checkM (tagM [] 1 2 (digI 1)).1 2 1 (digI 1) = false := by decide
  have c4 : checkM (tagM [] 1 2 (digI 1)).1 1 2 (digI 2) = false := by decide
  have t2 : (tagM (tagM [] 1 2 (digI 1)).1 31 0 (digI 1)).2 = 0 := by decide
  have c5 : checkM (tagM (tagM [] 1 2 (digI 1)).1 31 0 (digI 1)).1 31 9 (digI 1) = true := by decide
  have t3 : (vecM (tagM (tagM [] 1 2 (digI 1)).1 31 0 (digI 1)).1 1 [2, 3] (digI 2)).2 = 0 := by decide
  have c6 : checkM (vecM (tagM (tagM [] 1 2 (digI 1)).1 31 0 (digI 1)).1 1 [2, 3] (digI 2)).1 1 3 (digI 2) = true := by decide
  have l1 : (vecM (tagM (tagM [] 1 2 (digI 1)).1 31 0 (digI 1)).1 1 [2, 3] (digI 2)).1.length = 4 := by decide
  go_enter Try.func31, Try.ntmps31
  go_wp2_with fail
  refine (tag_New _).mono ?_
  rintro e w1 ⟨b, r, rfl, hL, hu, hb, hr⟩
  have HU := Lib.hid hu
  clear hu
  go_wp2_with (first
    | (go_at_call 17; refine (law_digest _ (by omega) (by omega) _).mono ?_; rintro e w2 ⟨rfl, hu⟩; replace hL := hL.upd hu id id; replace HU := Lib.hid (HU.out.then hu (fun _ _ h => h)); clear hu))
  have hA : Box ((w2.alloc (.cells (dA (digI 1)) 28)).alloc (.cells (dA (digI 2)) 28)) w2.heap.size (digI 1) := (heap_alloc_old _ _ (by simp)).trans (heap_alloc_new w2 _)
  have hB : Box ((w2.alloc (.cells (dA (digI 1)) 28)).alloc (.cells (dA (digI 2)) 28)) (w2.heap.size + 1) (digI 2) := Box.new1 _ _ _
  replace hL := (hL.alloc (.cells (dA (digI 1)) 28)).alloc (.cells (dA (digI 2)) 28)
  replace HU := Lib.hid ((HU.out.alloc (.cells (dA (digI 1)) 28)).alloc (.cells (dA (digI 2)) 28))
  have HN := Lib.hid (And.intro (hA.ne hL) (hB.ne hL))
  generalize (w2.alloc (.cells (dA (digI 1)) 28)).alloc (.cells (dA (digI 2)) 28) = W at *
  generalize w2.heap.size + 1 = gb at *
  generalize w2.heap.size = ga at *
  go_wp2_with (first
    | (go_at_call 18; refine (tag_Tag (by assumption) _ _ _).mono ?_; rintro e w3 ⟨rfl, hL, hu⟩; replace hA := Box.upd hu hA HN.out.1.2; replace hB := Box.upd hu hB HN.out.2.2; have a1 := hA.s1; have a2 := hA.s2; have b1 := hB.s1; have b2 := hB.s2; have la := hA.lt; have lb := hB.lt; replace HU := Lib.hid (HU.out.then hu (fun i hi e => absurd hi (by omega))); clear hu)
    | (go_at_call 25; refine (tag_Check (by assumption) (by omega) (by omega) _ _ _ (by decide) (by decide)).mono ?_; rintro e w3 ⟨rfl, hL, hu⟩; replace hA := Box.upd hu hA HN.out.1.1; replace hB := Box.upd hu hB HN.out.2.1; have a1 := hA.s1; have a2 := hA.s2; have b1 := hB.s1; have b2 := hB.s2; have la := hA.lt; have lb := hB.lt; replace HU := Lib.hid (HU.out.then hu (fun i hi e => absurd hi (by omega))); clear hu))
  have hI : Ints (w3.alloc (.cells #[.int .i64 2, .int .i64 3] 3)) (some ⟨w3.heap.size, 0, none⟩) [2, 3] := Ints.new (R := [2, 3]) (heap_alloc_new _ _)
  refine (tag_Vector (hL.alloc _) 1 (digI 2) _ [2, 3] _ hI).mono ?_
  rintro e w4 ⟨rfl, hL, hu⟩
  replace hu := ((Upd.refl (fun k => k = r) w3).alloc _).trans hu
  replace hA := Box.upd hu hA HN.out.1.2
  replace hB := Box.upd hu hB HN.out.2.2
  have a1 := hA.s1; have a2 := hA.s2; have b1 := hB.s1; have b2 := hB.s2; have la := hA.lt; have lb := hB.lt
  replace HU := Lib.hid (HU.out.then hu (fun i hi e => absurd hi (by omega)))
  clear hu
  go_wp2_with (first
    | (go_at_call 27; refine (tag_Len (by assumption)).mono ?_; rintro e w3 ⟨rfl, rfl⟩)
    | (go_at_call 29; refine (tag_Asked (by assumption)).mono ?_; rintro e w3 ⟨rfl, rfl⟩)
    | (go_at_call 25; refine (tag_Check (by assumption) (by omega) (by omega) _ _ _ (by decide) (by decide)).mono ?_; rintro e w3 ⟨rfl, hL, hu⟩; replace hA := Box.upd hu hA HN.out.1.1; replace hB := Box.upd hu hB HN.out.2.1; have a1 := hA.s1; have a2 := hA.s2; have b1 := hB.s1; have b2 := hB.s2; replace HU := Lib.hid (HU.out.then hu (fun i hi e => absurd hi (by omega))); clear hu))
  go_ret
  exact ⟨rfl, HU.out⟩
end Go.Proofs.Ytjnaenmknbcjmaa
