/- The bag's methods: Drop, Double. -/
import Derived.Test.YtkfekkemfahepaaBagF
namespace Go.Proofs.Ytkfekkemfahepaa
open Go.RowKit

theorem bag_Drop_no {w : World} {B b : Nat} {v : Value} {zs : List (EnvC × Note)} {s l : Int} (h : BagAt w B b v zs s l) (i : Int) (hi : i < 0 ∨ zs.length ≤ i) :
    Calls Try.prog 22 #[.pointer (some ⟨b, 0, none⟩), .int .i64 i] w fun e w' => e = .returned (.int .i64 9) ∧ Kept w w' := by
  have HI := Lib.hid hi
  clear hi
  go_enter Try.func22, Try.ntmps22
  go_wp2_with fail
  refine (bag_Take_no h i HI.out).mono ?_
  rintro e W3 ⟨rfl, hu⟩
  have HU := Lib.hid hu
  clear hu h
  go_wp2
  go_ret
  exact ⟨rfl, HU.out.alloc _⟩
theorem bag_Drop_ok {w : World} {B b : Nat} {v : Value} {zs : List (EnvC × Note)} {s l : Int} (h : BagAt w B b v zs s l) (hB : B ≤ w.heap.size) (hz4 : zs.length ≤ 4096) (h0 : 0 ≤ l) (h1 : l < 4611686018427387904) (i : Nat) (hi : i < zs.length) :
    Calls Try.prog 22 #[.pointer (some ⟨b, 0, none⟩), .int .i64 i] w fun e w' => e = .returned (.int .i64 0) ∧ ∃ v', BagTo w w' B b v v' (zs.eraseIdx i) s (l + 1) := by
  have HB := Lib.hid (And.intro hB hz4)
  clear hB hz4
  go_enter Try.func22, Try.ntmps22
  go_wp2_with fail
  refine (bag_Take_ok h HB.out.1 HB.out.2 i hi).mono ?_
  rintro e W3 ⟨y, v', rfl, hf, hto⟩
  replace hto := hto.kept ((Upd.refl _ W3).alloc (.cells (envA y) 29))
  have p1 := hto.bag.c3
  have p2 := hto.bag.thaw 3
  have HTO := Lib.hid hto
  clear hf hto h HB
  go_wp2_with fail
  refine (atomic_Add h0 h1 p1 p2).mono ?_
  generalize W3.alloc (.cells (envA y) 29) = W4 at *
  rintro e W5 ⟨rfl, rfl⟩
  go_wp2
  go_ret
  have hto := HTO.out
  exact ⟨rfl, v', hto.bag.set3 (l + 1), hto.upd.setCell (p := ⟨b, 3, none⟩) _ fun _ => .inl rfl, hto.new⟩
theorem bag_Double_no {w : World} {B b : Nat} {v : Value} {zs : List (EnvC × Note)} {s l : Int} (h : BagAt w B b v zs s l) (i : Int) (hi : i < 0 ∨ zs.length ≤ i) :
    Calls Try.prog 24 #[.pointer (some ⟨b, 0, none⟩), .int .i64 i] w fun e w' => e = .returned (.int .i64 9) ∧ Kept w w' := by
  have HI := Lib.hid hi
  clear hi
  go_enter Try.func24, Try.ntmps24
  go_wp2_with fail
  refine (bag_Look_no h i HI.out).mono ?_
  rintro e W3 ⟨rfl, hu⟩
  have HU := Lib.hid hu
  clear hu h
  go_wp2
  go_ret
  exact ⟨rfl, HU.out.alloc _⟩
theorem bag_Double_new {w : World} {B b : Nat} {v : Value} {zs : List (EnvC × Note)} {s l : Int} (h : BagAt w B b v zs s l) (hs0 : 0 ≤ s) (hs1 : s < 4611686018427387904) (hB : B ≤ w.heap.size) (h4 : zs.length < 4096) (i : Nat) (hi : i < zs.length) :
    Calls Try.prog 24 #[.pointer (some ⟨b, 0, none⟩), .int .i64 i] w fun e w' => e = .returned (.int .i64 0) ∧ ∃ v' y, (zs[i].2.2.2 ≠ [] → ∃ q, y.A = some ⟨q, 0, none⟩ ∧ w.heap.size ≤ q) ∧ BagTo w w' B b v v' (zs ++ [(y, zs[i].2)]) (s + 1) l := by
  have HS := Lib.hid (And.intro hs0 (And.intro hs1 (And.intro hB (And.intro h4 (h.nm zs[i] (List.getElem_mem hi))))))
  clear hs0 hs1 hB h4
  go_enter Try.func24, Try.ntmps24
  go_wp2_with fail
  refine (bag_Look_ok h i hi).mono ?_
  rintro e W3 ⟨x, rfl, hf, hu⟩
  have HK := Lib.hid (hu.alloc (.cells (envA x) 29))
  have HF := Lib.hid (hf.kept ((Upd.refl _ W3).alloc (.cells (envA x) 29)))
  have H0 := Lib.hid h
  clear hf hu h
  go_wp2_with fail
  generalize W3.alloc (.cells (envA x) 29) = W4 at *
  refine (bag_Put_new (H0.out.kept HK.out) HS.out.1 HS.out.2.1 (Nat.le_trans HS.out.2.2.1 HK.out.size) HF.out.at_ HS.out.2.2.2.2.1 HS.out.2.2.2.2.2.1 HS.out.2.2.2.2.2.2 HS.out.2.2.2.1).mono ?_
  rintro e W5 ⟨rfl, v', y, hfar, hto⟩
  have HT := Lib.hid (((BagTo.refl H0.out).kept HK.out).trans hto)
  have HFAR : Hid (zs[i].2.2.2 ≠ [] → ∃ q, y.A = some ⟨q, 0, none⟩ ∧ w.heap.size ≤ q) := fun hm => by
    obtain ⟨q, q1, q2⟩ := hfar hm
    exact ⟨q, q1, Nat.le_trans HK.out.size q2⟩
  clear hto hfar
  go_wp2
  go_ret
  exact ⟨rfl, v', y, HFAR.out, HT.out⟩
theorem bag_Double_ok {w : World} {B b : Nat} {v : Value} {zs : List (EnvC × Note)} {s l : Int} (h : BagAt w B b v zs s l) (hs0 : 0 ≤ s) (hs1 : s < 4611686018427387904) (hB : B ≤ w.heap.size) (h4 : zs.length < 4096) (i : Nat) (hi : i < zs.length) :
    Calls Try.prog 24 #[.pointer (some ⟨b, 0, none⟩), .int .i64 i] w fun e w' => e = .returned (.int .i64 0) ∧ ∃ v' y, BagTo w w' B b v v' (zs ++ [(y, zs[i].2)]) (s + 1) l := by
  refine (bag_Double_new h hs0 hs1 hB h4 i hi).mono ?_
  rintro e w' ⟨rfl, v', y, _, hto⟩
  exact ⟨rfl, v', y, hto⟩

theorem bag_Double_full {w : World} {B b : Nat} {v : Value} {zs : List (EnvC × Note)} {s l : Int} (h : BagAt w B b v zs s l) (h4 : 4096 ≤ zs.length) (i : Nat) (hi : i < zs.length) :
    Calls Try.prog 24 #[.pointer (some ⟨b, 0, none⟩), .int .i64 i] w fun e w' => e = .returned (.int .i64 7) ∧ Kept w w' := by
  have HS := Lib.hid (And.intro h4 (h.nm zs[i] (List.getElem_mem hi)))
  clear h4
  go_enter Try.func24, Try.ntmps24
  go_wp2_with fail
  refine (bag_Look_ok h i hi).mono ?_
  rintro e W3 ⟨x, rfl, hf, hu⟩
  have HK := Lib.hid (hu.alloc (.cells (envA x) 29))
  have HF := Lib.hid (hf.kept ((Upd.refl _ W3).alloc (.cells (envA x) 29)))
  have H0 := Lib.hid h
  clear hf hu h
  go_wp2_with fail
  generalize W3.alloc (.cells (envA x) 29) = W4 at *
  refine (bag_Put_long (H0.out.kept HK.out) HF.out.at_ HS.out.2.1 HS.out.2.2.1 (.inr HS.out.1)).mono ?_
  rw [if_neg (by have := HS.out.2.2.2; omega)]
  rintro e W5 ⟨rfl, hu⟩
  have HT := Lib.hid (HK.out.then hu fun _ _ h => h)
  clear hu
  go_wp2
  go_ret
  exact ⟨rfl, HT.out⟩
end Go.Proofs.Ytkfekkemfahepaa
