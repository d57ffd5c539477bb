/- The bag's methods: Look, Take. -/
import Derived.Test.YtkfekkemfahepaaBagD
namespace Go.Proofs.Ytkfekkemfahepaa
open Go.RowKit

/-- two results, the first of which lies in memory -/
theorem results_seg2 {P : Program} {fn : Func} {p t : Tmp} {ty : TypeId} (h : fn.results = #[.cell p ty, .tmp t]) (tmps : Array Value) (w : World) (a : Addr) (n : Nat) (d : TypeDesc) (v : Value) (hp : tmps.getD p undef = .pointer (some a)) (ht : tmps.getD t undef = v)
    (hu : P.underlying ty = some d) (hd : (match d with | .struct _ | .array _ _ => true | _ => false) = true) (hi : (P.info? ty).map (·.size) = some n) (hs : segB w a n = true) :
    (results fn tmps).run P w = .ok (.tuple #[.agg (segV w a n), v]) w := by
  have hp' : tmps[p]?.getD undef = .pointer (some a) := by simpa using hp
  have ht' : tmps[t]?.getD undef = v := by simpa using ht
  have h1 := run_loadRow (P := P) ty n d hu hd hi w a hs
  simp only [loadRow, Instr.loadAt, Instr.sureAddr, Sem.run_bind, Sem.run_pure, Result.andThen_ok] at h1
  cases hr : (loadVar ty a).run P w with
  | halt x w' => rw [hr] at h1; simp [Result.andThen] at h1
  | ok v w' =>
    rw [hr] at h1
    simp [Result.andThen] at h1
    obtain ⟨rfl, rfl⟩ := h1
    simp [results, h, hp', ht', asAddr, hr]

theorem bag_Look_no {w : World} {B b : Nat} {v : Value} {zs : List (EnvC × Note)} {s l : Int} (h : BagAt w B b v zs s l) (i : Int) (hi : i < 0 ∨ zs.length ≤ i) :
    Calls Try.prog 18 #[.pointer (some ⟨b, 0, none⟩), .int .i64 i] w fun e w' => e = .returned (.tuple #[.agg (envA envZ), .int .i64 9]) ∧ Kept w w' := by
  have hg := EnvAt.new w envZ
  have hb1 := h.alloc (.cells (envA envZ) 29)
  have hk : Kept w (w.alloc (.cells (envA envZ) 29)) := (Upd.refl _ w).alloc _
  obtain ⟨A0, c0', hv⟩ := h.notes.rows.form
  subst hv
  have d1 := hb1.c1
  clear h
  have key : i < 0 ∨ (0 ≤ i ∧ (zs.length : Int) ≤ i) := by omega
  clear hi
  rcases key with hi | ⟨hi0, hi⟩
  all_goals
    go_enter Try.func18, Try.ntmps18
    go_wp2_with fail
    generalize w.alloc (.cells (envA envZ) 29) = W2 at *
    refine (bag_none hb1).mono ?_
    rintro e w' ⟨rfl, rfl⟩
    have p1 := hg.row
    have HG := Lib.hid (hg.setRow envZ)
    have HK := Lib.hid (hk.setRow (g := w.heap.size) (envA envZ) fun h => by omega)
    clear hb1 hg hk
    go_wp2
    refine bodyPost_ret (v := .tuple #[.agg (envA envZ), .int .i64 9]) ?_ rfl ⟨rfl, HK.out⟩
    rw [results_seg2 (P := Try.prog) (fn := Try.f18) rfl _ _ ⟨w.heap.size, 0, none⟩ 3 _ _ rfl rfl Try.underlying29 rfl sizeOf29 HG.out.s1, HG.out.s2]
    try rfl

theorem bag_Look_ok {w : World} {B b : Nat} {v : Value} {zs : List (EnvC × Note)} {s l : Int} (h : BagAt w B b v zs s l) (i : Nat) (hi : i < zs.length) :
    Calls Try.prog 18 #[.pointer (some ⟨b, 0, none⟩), .int .i64 i] w fun e w' => ∃ y, e = .returned (.tuple #[.agg (envA y), .int .i64 0]) ∧ Fresh w.heap.size w' y zs[i].2 ∧ Kept w w' := by
  have hg := EnvAt.new w envZ
  have hb1 := h.alloc (.cells (envA envZ) 29)
  have hk : Kept w (w.alloc (.cells (envA envZ) 29)) := (Upd.refl _ w).alloc _
  obtain ⟨g, c, rfl, hBg, hgl, s1, s2⟩ := hb1.notes.rows.get envP_rows.size hi
  have hn := (hb1.notes.ok zs[i] (List.getElem_mem hi)).at_
  rw [show envP zs[i] = envA zs[i].1 from rfl] at s2
  have d1 := hb1.c1
  have hii : (i : Int) < (zs.length : Nat) := by omega
  clear h
  generalize hz : zs[i] = z at *
  clear hz
  go_enter Try.func18, Try.ntmps18
  go_wp2_with fail
  generalize w.alloc (.cells (envA envZ) 29) = W2 at *
  refine (bag_none hb1).mono ?_
  rintro e w' ⟨rfl, rfl⟩
  clear hb1
  go_wp2_with fail
  refine (bag_own hn).mono ?_
  rintro e W3 ⟨y, rfl, hfr, hu⟩
  have hg3 := hg.kept hu
  have p1 := hg3.row
  have HG := Lib.hid (hg3.setRow y)
  have HF : Hid (Fresh w.heap.size W3 y z.2) := hfr.mono hk.size
  have HK : Hid (Kept w W3) := hk.then hu fun _ _ h => h
  have HE := Lib.hid hg3
  clear hg hk hg3 hfr hu hn s1 s2 d1 hi hii hgl
  go_wp2
  refine bodyPost_ret (v := .tuple #[.agg (envA y), .int .i64 0]) ?_ rfl ⟨y, rfl, HF.out.upd ((Upd.refl (fun k => k = w.heap.size) W3).setRow _ fun _ => rfl) (fun k hk cs fr e => by subst hk; rw [HE.out] at e; cases e), HK.out.setRow _ fun h => by omega⟩
  rw [results_seg2 (P := Try.prog) (fn := Try.f18) rfl _ _ ⟨w.heap.size, 0, none⟩ 3 _ _ rfl rfl Try.underlying29 rfl sizeOf29 HG.out.s1, HG.out.s2]
  try rfl
end Go.Proofs.Ytkfekkemfahepaa
