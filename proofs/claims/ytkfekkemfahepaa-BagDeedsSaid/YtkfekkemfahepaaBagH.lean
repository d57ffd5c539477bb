/- The bag's methods: Next. -/
import Derived.Test.YtkfekkemfahepaaBagG
namespace Go.Proofs.Ytkfekkemfahepaa
open Go.RowKit

/-- is a number in a set? -/
def inS (set n : Int) : Bool := bits .and .i64 (set / 2 ^ n.toNat) 1 == 1
def hitS (set : Int) (m : Note) : Bool := inS set m.1 && inS set m.2.1

theorem next_in {w : World} {g : Nat} {set : Int} (hc : w.cell? ⟨g, 0, none⟩ = some (.int .i64 set)) (n : Int) (hn : namedB n = true) :
    Calls Try.prog 46 #[.int .i64 n, .pointer (some ⟨g, 0, none⟩)] w fun e w' => e = .returned (.bool (inS set n)) ∧ w = w' := by
  have h1 : 1 ≤ n ∧ n ≤ 34 := by simpa [namedB] using hn
  obtain ⟨h1, h2⟩ := h1
  go_enter Try.func46, Try.ntmps46
  go_wp2
  go_ret
  exact ⟨rfl, rfl⟩

theorem next_both {w : World} {gf gs : Nat} {set : Int} (hf : w.cell? ⟨gf, 0, none⟩ = some (.func (.func 46) #[] #[.pointer (some ⟨gs, 0, none⟩)])) (hc : w.cell? ⟨gs, 0, none⟩ = some (.int .i64 set)) (x : EnvC) (h1 : namedB x.f = true) (h2 : namedB x.t = true) :
    Calls Try.prog 48 #[.agg (envA x), .pointer (some ⟨gf, 0, none⟩)] w fun e w' => e = .returned (.bool (inS set x.f && inS set x.t)) ∧ Kept w w' := by
  have hu : Kept w (w.alloc (.cells (envA x) 29)) := (Upd.refl _ w).alloc _
  have hg := EnvAt.new w x
  have hf' := hu.cell hf id
  have hc' := hu.cell hc id
  have hN := Lib.hid (And.intro h1 h2)
  clear hf hc h1 h2
  obtain ⟨a, ha⟩ : ∃ a, inS set x.f = a := ⟨_, rfl⟩
  obtain ⟨a2, ha2⟩ : ∃ a, inS set x.t = a := ⟨_, rfl⟩
  rw [ha, ha2]
  have HA := Lib.hid (And.intro ha ha2)
  clear ha ha2
  go_enter Try.func48, Try.ntmps48
  go_wp2_with fail
  generalize w.alloc (.cells (envA x) 29) = W2 at *
  have c0 := hg.c0
  have c1 := hg.c1
  refine (next_in hc' _ hN.out.1).mono ?_
  rw [HA.out.1]
  rintro e w' ⟨rfl, rfl⟩
  cases a
  · go_wp2
    go_ret
    exact ⟨rfl, hu⟩
  · go_wp2_with fail
    refine (next_in hc' _ hN.out.2).mono ?_
    rw [HA.out.2]
    rintro e w' ⟨rfl, rfl⟩
    go_wp2
    go_ret
    exact ⟨by simp, hu⟩

def nextM (N : List Note) (set : Int) : Int := match N.findIdx? (hitS set) with | some i => (i : Int) | none => -1

theorem next_index {w : World} {B : Nat} {v : Value} {zs : List (EnvC × Note)} (h : NotesAt w B v zs) (hl : zs.length ≤ 4096) (nm : ∀ z ∈ zs, namedB z.2.1 = true ∧ namedB z.2.2.1 = true) {gf gs : Nat} {set : Int} (hf : w.cell? ⟨gf, 0, none⟩ = some (.func (.func 46) #[] #[.pointer (some ⟨gs, 0, none⟩)])) (hc : w.cell? ⟨gs, 0, none⟩ = some (.int .i64 set)) :
    Calls Try.prog 47 #[v, .func (.func 48) #[] #[.pointer (some ⟨gf, 0, none⟩)]] w fun e w' => e = .returned (.int .i64 (nextM (zs.map (·.2)) set)) ∧ Kept w w' := by
  obtain ⟨A0, c0', hv⟩ := h.rows.form
  subst hv
  have HN := Lib.hid nm
  clear nm
  go_enter Try.func47, Try.ntmps47
  go_wp2_with fail
  go_loopw [8] (fun i wr => ∃ k : Nat, k ≤ zs.length ∧ i = .int .i64 k ∧ (∀ j (hj : j < zs.length), j < k → hitS set zs[j].2 = false) ∧ Kept w wr) (fun i _ => zs.length - (intOf i).toNat)
  case atStart => exact ⟨0, Nat.zero_le _, rfl, fun j _ h => absurd h (Nat.not_lt_zero j), Upd.refl _ _⟩
  case round =>
    obtain ⟨k, hk, rfl, hno, hu⟩ := hrel
    have HNO := Lib.hid hno
    clear hno
    by_cases hlt : k < zs.length
    · obtain ⟨g, c, hv, hBg, hgl, s1, s2⟩ := (h.kept hu).rows.get envP_rows.size hlt
      obtain ⟨hv1, hv2⟩ : A0 = some ⟨g, 0, none⟩ ∧ c0' = c := by simpa using hv
      subst hv1 hv2
      clear hv
      have hm := h.ok zs[k] (List.getElem_mem hlt)
      have hnm := HN.out zs[k] (List.getElem_mem hlt)
      have hhit : Hid (hitS set zs[k].2 = (inS set zs[k].1.f && inS set zs[k].1.t)) := by show _ = _; rw [hm.at_.f, hm.at_.t]; rfl
      rw [← hm.at_.f, ← hm.at_.t] at hnm
      have hf' := hu.cell hf id
      have hc' := hu.cell hc id
      rw [show envP zs[k] = envA zs[k].1 from rfl] at s2
      generalize hz : zs[k].1 = x at *
      have HU := Lib.hid hu
      clear hu hm hz
      go_wp2_with fail
      refine (next_both hf' hc' x hnm.1 hnm.2).mono ?_
      generalize (inS set x.f && inS set x.t) = ans at *
      rintro e w' ⟨rfl, hu⟩
      replace HU := Lib.hid (HU.out.then hu fun _ _ h => h)
      clear hu s1 s2 hf' hc'
      cases ans
      · go_wp2
        go_roundw
        case rel => exact ⟨k + 1, by omega, by go_num, fun j hj hjk => by
          by_cases hjk' : j = k
          · subst hjk'; exact hhit.out
          · exact HNO.out j hj (by omega), HU.out⟩
        case measure => simp [intOf]; omega
      · have hfin : nextM (zs.map (·.2)) set = k := by
          unfold nextM
          have : (zs.map (·.2)).findIdx? (hitS set) = some k := by
            rw [List.findIdx?_eq_some_iff_getElem]
            refine ⟨by simpa using hlt, by simpa using hhit.out, fun j hj => ?_⟩
            have := HNO.out j (by omega) hj
            simpa using this
          rw [this]
        have HF := Lib.hid hfin
        clear hfin
        go_wp2
        go_ret
        exact ⟨by rw [HF.out]; rfl, HU.out⟩
    · obtain rfl : k = zs.length := by omega
      have hfin : nextM (zs.map (·.2)) set = -1 := by
        unfold nextM
        have : (zs.map (·.2)).findIdx? (hitS set) = none := by
          rw [List.findIdx?_eq_none_iff]
          intro m hm
          obtain ⟨z, hz, rfl⟩ := List.mem_map.1 hm
          obtain ⟨j, hj, rfl⟩ := List.mem_iff_getElem.1 hz
          exact HNO.out j hj hj
        rw [this]
      have HF := Lib.hid hfin
      clear hfin
      go_wp2
      go_ret
      exact ⟨by rw [HF.out]; rfl, hu⟩

theorem bag_Next {w : World} {B b : Nat} {v : Value} {zs : List (EnvC × Note)} {s l : Int} (h : BagAt w B b v zs s l) (hl : zs.length ≤ 4096) (set : Int) :
    Calls Try.prog 26 #[.pointer (some ⟨b, 0, none⟩), .int .i64 set] w fun e w' => e = .returned (.int .i64 (nextM (zs.map (·.2)) set)) ∧ Kept w w' := by
  go_enter Try.func26, Try.ntmps26
  have hu1 : Kept w (w.alloc (.cells #[.int .i64 set] 3)) := (Upd.refl _ w).alloc _
  have hc := heap_alloc_new w (.cells #[.int .i64 set] 3)
  go_wp2_with fail
  generalize w.alloc (.cells #[.int .i64 set] 3) = W1 at *
  refine (bag_none (h.kept hu1)).mono ?_
  rintro e w' ⟨rfl, rfl⟩
  have c1 := ((h.kept hu1).alloc (.cells #[.func (.func 46) #[] #[.pointer (some ⟨w.heap.size, 0, none⟩)]] 64)).c1
  have hst : (store ⟨W1.heap.size, 0, none⟩ (.func (.func 46) #[] #[.pointer (some ⟨w.heap.size, 0, none⟩)])).run Try.prog (W1.alloc (.cells #[.nilFunc] 64)) = .ok () (W1.alloc (.cells #[.func (.func 46) #[] #[.pointer (some ⟨w.heap.size, 0, none⟩)]] 64)) := by
    rw [run_store _ _ _ _ _ rfl]
    simp [go_sem]
  have hu2 : Kept w (W1.alloc (.cells #[.func (.func 46) #[] #[.pointer (some ⟨w.heap.size, 0, none⟩)]] 64)) := hu1.alloc _
  have hc2 := heap_alloc_old W1 (.cells #[.func (.func 46) #[] #[.pointer (some ⟨w.heap.size, 0, none⟩)]] 64) (r := w.heap.size) (Array.getElem?_eq_some_iff.1 hc).1
  rw [hc] at hc2
  have hf2 := heap_alloc_new W1 (.cells #[.func (.func 46) #[] #[.pointer (some ⟨w.heap.size, 0, none⟩)]] 64)
  have HX := Lib.hid (And.intro h (And.intro hu2 (And.intro hc2 hf2)))
  clear h hu1 hc hu2 hc2 hf2
  go_wp2_with fail
  generalize W1.alloc (.cells #[.func (.func 46) #[] #[.pointer (some ⟨w.heap.size, 0, none⟩)]] 64) = W2 at *
  obtain ⟨h, hu2, hc2, hf2⟩ := HX.out
  refine (next_index ((h.kept hu2).notes) hl (fun z hz => ⟨(h.nm z hz).1, (h.nm z hz).2.1⟩) (gf := W1.heap.size) (gs := w.heap.size) (set := set) (by rw [cell_of_row _ _ _ _ _ _ hf2]; rfl) (by rw [cell_of_row _ _ _ _ _ _ hc2]; rfl)).mono ?_
  rintro e W3 ⟨rfl, hu3⟩
  have HK := Lib.hid (hu2.then hu3 fun _ _ h => h)
  clear hc2 hf2 hu2 hu3 h HX hst c1
  go_wp2
  go_ret
  exact ⟨rfl, HK.out⟩
end Go.Proofs.Ytkfekkemfahepaa
