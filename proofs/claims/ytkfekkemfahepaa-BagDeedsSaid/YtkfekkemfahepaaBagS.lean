/- The document's bag: Put that is refused, Look, Double. -/
import Derived.Test.YtkfekkemfahepaaBagR
namespace Go.Proofs.Ytkfekkemfahepaa
open Go.RowKit

theorem refb_Put_no {w : World} {B b : Nat} {v : Value} {zs : List (EnvC × Note)} {s l : Int} (h : RefB w B b v zs s l) {x : EnvC} {m : Note} (hx : NoteAt w x m)
    (hno : (namedB m.1 && namedB m.2.1) = false) :
    Calls Try.prog 16 #[.pointer (some ⟨b, 0, none⟩), .agg (envA x)] w fun e w' => e = .returned (.int .i64 2) ∧ Kept w w' := by
  have hg := EnvAt.new w x
  have hb1 := h.alloc (.cells (envA x) 29)
  have hk : Kept w (w.alloc (.cells (envA x) 29)) := (Upd.refl _ w).alloc _
  have HX := Lib.hid (And.intro hx.f hx.t)
  have HNO := Lib.hid hno
  clear hno hx h
  go_enter Try.func16, Try.ntmps16
  have c0 := hg.c0
  have c1 := hg.c1
  clear hb1
  go_wp2_with fail
  generalize w.alloc (.cells (envA x) 29) = W2 at *
  refine (ref_name _ _).mono ?_
  rw [HX.out.1]
  cases hf : namedB m.1
  · rintro e w' ⟨rfl, rfl⟩
    clear hf
    go_wp2
    go_ret
    exact ⟨rfl, hk⟩
  · rintro e w' ⟨rfl, rfl⟩
    go_wp2_with fail
    refine (ref_name _ _).mono ?_
    rw [HX.out.2, show namedB m.2.1 = false by have := HNO.out; rw [hf] at this; simpa using this]
    rintro e w' ⟨rfl, rfl⟩
    clear hf
    go_wp2
    go_ret
    exact ⟨rfl, hk⟩

theorem refb_Put_long {w : World} {B b : Nat} {v : Value} {zs : List (EnvC × Note)} {s l : Int} (h : RefB w B b v zs s l) {x : EnvC} {m : Note} (hx : NoteAt w x m)
    (h1 : namedB m.1 = true) (h2 : namedB m.2.1 = true) (h3 : 65536 < m.2.2.length) :
    Calls Try.prog 16 #[.pointer (some ⟨b, 0, none⟩), .agg (envA x)] w fun e w' => e = .returned (.int .i64 5) ∧ Kept w w' := by
  have hg := EnvAt.new w x
  have hb1 := h.alloc (.cells (envA x) 29)
  have hk : Kept w (w.alloc (.cells (envA x) 29)) := (Upd.refl _ w).alloc _
  obtain ⟨A0, c0', hv⟩ := h.notes.rows.form
  subst hv
  have HX := Lib.hid (And.intro hx.f (And.intro hx.t (And.intro h1 h2)))
  obtain ⟨R, hR⟩ : ∃ R, R = m.2.2 := ⟨_, rfl⟩
  have hn := hx.n
  rw [← hR] at h3 hn
  clear hx h h1 h2 hR
  have hl := h3
  · have hn2 : (65536 : Int) < (x.n : Nat) := by omega
    clear h3 hn hl
    go_enter Try.func16, Try.ntmps16
    have c0 := hg.c0
    have c1 := hg.c1
    have c2 := hg.c2
    clear hb1
    go_wp2_with fail
    generalize w.alloc (.cells (envA x) 29) = W2 at *
    refine (ref_name _ _).mono ?_
    rw [HX.out.1, HX.out.2.2.1]
    rintro e w' ⟨rfl, rfl⟩
    go_wp2_with fail
    refine (ref_name _ _).mono ?_
    rw [HX.out.2.1, HX.out.2.2.2]
    rintro e w' ⟨rfl, rfl⟩
    go_wp2
    go_ret
    exact ⟨rfl, hk⟩
theorem refb_Look_no {w : World} {B b : Nat} {v : Value} {zs : List (EnvC × Note)} {s l : Int} (h : RefB w B b v zs s l) (i : Int) (hi : i < 0 ∨ zs.length ≤ i) :
    Calls Try.prog 19 #[.pointer (some ⟨b, 0, none⟩), .int .i64 i] w fun e w' => e = .returned (.tuple #[.agg (envA envZ), .int .i64 9]) ∧ Kept w w' := by
  have hg := EnvAt.new w envZ
  have hb1 := h.alloc (.cells (envA envZ) 29)
  have hk : Kept w (w.alloc (.cells (envA envZ) 29)) := (Upd.refl _ w).alloc _
  obtain ⟨A0, c0', hv⟩ := h.notes.rows.form
  subst hv
  have d1 := hb1.c0
  clear h
  have key : i < 0 ∨ (0 ≤ i ∧ (zs.length : Int) ≤ i) := by omega
  clear hi
  rcases key with hi | ⟨hi0, hi⟩
  all_goals
    generalize hW2 : w.alloc (.cells (envA envZ) 29) = W2 at *
    go_enter Try.func19, Try.ntmps19
    have p1 := hg.row
    have HG := Lib.hid (hg.setRow envZ)
    have HK := Lib.hid (hk.setRow (g := w.heap.size) (envA envZ) fun h => by omega)
    clear hb1 hg hk
    go_wp2
    refine bodyPost_ret (v := .tuple #[.agg (envA envZ), .int .i64 9]) ?_ rfl ⟨rfl, HK.out⟩
    rw [results_seg2 (P := Try.prog) (fn := Try.f19) rfl _ _ ⟨w.heap.size, 0, none⟩ 3 _ _ rfl rfl Try.underlying29 rfl sizeOf29 HG.out.s1, HG.out.s2]
    try rfl

theorem refb_Look_ok {w : World} {B b : Nat} {v : Value} {zs : List (EnvC × Note)} {s l : Int} (h : RefB w B b v zs s l) (i : Nat) (hi : i < zs.length) :
    Calls Try.prog 19 #[.pointer (some ⟨b, 0, none⟩), .int .i64 i] w fun e w' => ∃ y, e = .returned (.tuple #[.agg (envA y), .int .i64 0]) ∧ Fresh w.heap.size w' y zs[i].2 ∧ Kept w w' := by
  have hg := EnvAt.new w envZ
  have hb1 := h.alloc (.cells (envA envZ) 29)
  have hk : Kept w (w.alloc (.cells (envA envZ) 29)) := (Upd.refl _ w).alloc _
  obtain ⟨g, c, rfl, hBg, hgl, s1, s2⟩ := hb1.notes.rows.get envP_rows.size hi
  have hn := (hb1.notes.ok zs[i] (List.getElem_mem hi)).at_
  rw [show envP zs[i] = envA zs[i].1 from rfl] at s2
  have d1 := hb1.c0
  have hii : (i : Int) < (zs.length : Nat) := by omega
  clear h
  generalize hz : zs[i] = z at *
  clear hz
  go_enter Try.func19, Try.ntmps19
  clear hb1
  go_wp2_with fail
  generalize w.alloc (.cells (envA envZ) 29) = W2 at *
  refine (ref_Copy hn).mono ?_
  rintro e W3 ⟨y, rfl, hfr, hu⟩
  have hg3 := hg.kept hu
  have p1 := hg3.row
  have HG := Lib.hid (hg3.setRow y)
  have HF : Hid (Fresh w.heap.size W3 y z.2) := hfr.mono hk.size
  have HK : Hid (Kept w W3) := hk.then hu fun _ _ h => h
  have HE := Lib.hid hg3
  clear hg hk hg3 hfr hu hn s1 s2 d1 hi hii hgl
  go_wp2
  refine bodyPost_ret (v := .tuple #[.agg (envA y), .int .i64 0]) ?_ rfl ⟨y, rfl, HF.out.upd ((Upd.refl (fun k => k = w.heap.size) W3).setRow _ fun _ => rfl) (fun k hk cs fr e => by subst hk; rw [HE.out] at e; cases e), HK.out.setRow _ fun h => by omega⟩
  rw [results_seg2 (P := Try.prog) (fn := Try.f19) rfl _ _ ⟨w.heap.size, 0, none⟩ 3 _ _ rfl rfl Try.underlying29 rfl sizeOf29 HG.out.s1, HG.out.s2]
  try rfl
theorem refb_Double_no {w : World} {B b : Nat} {v : Value} {zs : List (EnvC × Note)} {s l : Int} (h : RefB w B b v zs s l) (i : Int) (hi : i < 0 ∨ zs.length ≤ i) :
    Calls Try.prog 25 #[.pointer (some ⟨b, 0, none⟩), .int .i64 i] w fun e w' => e = .returned (.int .i64 9) ∧ Kept w w' := by
  have HI := Lib.hid hi
  clear hi
  go_enter Try.func25, Try.ntmps25
  go_wp2_with fail
  refine (refb_Look_no h i HI.out).mono ?_
  rintro e W3 ⟨rfl, hu⟩
  have HU := Lib.hid hu
  clear hu h
  go_wp2
  go_ret
  exact ⟨rfl, HU.out.alloc _⟩
theorem refb_Double_new {w : World} {B b : Nat} {v : Value} {zs : List (EnvC × Note)} {s l : Int} (h : RefB w B b v zs s l) (hs0 : 0 ≤ s) (hs1 : s < 4611686018427387904) (hB : B ≤ w.heap.size) (h4 : zs.length < 4096) (i : Nat) (hi : i < zs.length) :
    Calls Try.prog 25 #[.pointer (some ⟨b, 0, none⟩), .int .i64 i] w fun e w' => e = .returned (.int .i64 0) ∧ ∃ v' y, (zs[i].2.2.2 ≠ [] → ∃ q, y.A = some ⟨q, 0, none⟩ ∧ w.heap.size ≤ q) ∧ RefTo w w' B b v v' (zs ++ [(y, zs[i].2)]) (s + 1) l := by
  have HS := Lib.hid (And.intro hs0 (And.intro hs1 (And.intro hB (And.intro h4 (h.nm zs[i] (List.getElem_mem hi))))))
  clear hs0 hs1 hB h4
  go_enter Try.func25, Try.ntmps25
  go_wp2_with fail
  refine (refb_Look_ok h i hi).mono ?_
  rintro e W3 ⟨x, rfl, hf, hu⟩
  have HK := Lib.hid (hu.alloc (.cells (envA x) 29))
  have HF := Lib.hid (hf.kept ((Upd.refl _ W3).alloc (.cells (envA x) 29)))
  have H0 := Lib.hid h
  clear hf hu h
  go_wp2_with fail
  generalize W3.alloc (.cells (envA x) 29) = W4 at *
  refine (refb_Put_new (H0.out.kept HK.out) HS.out.1 HS.out.2.1 (Nat.le_trans HS.out.2.2.1 HK.out.size) HF.out.at_ HS.out.2.2.2.2.1 HS.out.2.2.2.2.2.1 HS.out.2.2.2.2.2.2 HS.out.2.2.2.1).mono ?_
  rintro e W5 ⟨rfl, v', y, hfar, hto⟩
  have HT := Lib.hid (((RefTo.refl H0.out).kept HK.out).trans hto)
  have HFAR : Hid (zs[i].2.2.2 ≠ [] → ∃ q, y.A = some ⟨q, 0, none⟩ ∧ w.heap.size ≤ q) := fun hm => by
    obtain ⟨q, q1, q2⟩ := hfar hm
    exact ⟨q, q1, Nat.le_trans HK.out.size q2⟩
  clear hto hfar
  go_wp2
  go_ret
  exact ⟨rfl, v', y, HFAR.out, HT.out⟩

theorem refb_Double_ok {w : World} {B b : Nat} {v : Value} {zs : List (EnvC × Note)} {s l : Int} (h : RefB w B b v zs s l) (hs0 : 0 ≤ s) (hs1 : s < 4611686018427387904) (hB : B ≤ w.heap.size) (h4 : zs.length < 4096) (i : Nat) (hi : i < zs.length) :
    Calls Try.prog 25 #[.pointer (some ⟨b, 0, none⟩), .int .i64 i] w fun e w' => e = .returned (.int .i64 0) ∧ ∃ v' y, RefTo w w' B b v v' (zs ++ [(y, zs[i].2)]) (s + 1) l := by
  refine (refb_Double_new h hs0 hs1 hB h4 i hi).mono ?_
  rintro e w' ⟨rfl, v', y, _, hto⟩
  exact ⟨rfl, v', y, hto⟩
end Go.Proofs.Ytkfekkemfahepaa
