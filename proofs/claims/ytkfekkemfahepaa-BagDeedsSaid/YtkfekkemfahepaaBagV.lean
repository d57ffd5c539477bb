/- The statement BagDeeds' three bags: each method's contract over all of them. -/
import Derived.Test.YtkfekkemfahepaaBagU
namespace Go.Proofs.Ytkfekkemfahepaa
open Go.RowKit
theorem map_eraseIdx2 {α β : Type} {f : α → β} : ∀ (l : List α) (i : Nat), (l.eraseIdx i).map f = (l.map f).eraseIdx i
  | [], i => rfl
  | x :: l, 0 => rfl
  | x :: l, i + 1 => by simp [map_eraseIdx2 l i]
section
variable {w W : World} {a r o : Nat} {Na Nr : List Note} {sa la sr lr : Int} {n : Nat} {G : List (Nat × Obj)} {H : List Nat} {Y : List (EnvC × Note)}
theorem TB.aPut (h : TB w W a r o Na sa la Nr sr lr n G H Y) (h0 : 0 ≤ sa) (h1 : sa < 4611686018427387904) (hN : Na.length < 4096) {x : EnvC} {m : Note} (hx : NoteAt W x m) :
    Calls Try.prog 13 #[.pointer (some ⟨a, 0, none⟩), .agg (envA x)] W fun e w' => e = .returned (.int .i64 (putE Na m)) ∧ TB w w' a r o (putN Na m) (sa + oneIf (putE Na m)) (la) Nr sr lr n G H Y := by
  obtain ⟨B, va, za, vr, zr, vo, zo, so, lo, hl, ma, mr, mo, ms⟩ := h.ex
  unfold putN putE
  by_cases hn : (namedB m.1 && namedB m.2.1) = false
  · simp only [if_pos hn]
    refine (bag_Put_no hl.A hx hn).mono ?_
    rintro e w' ⟨rfl, hu⟩
    exact ⟨rfl, by simpa [oneIf] using h.kept hu⟩
  · simp only [if_neg hn]
    have hn1 : namedB m.1 = true ∧ namedB m.2.1 = true := by simpa using hn
    by_cases hlg : 65536 < m.2.2.length
    · simp only [if_pos hlg]
      refine (bag_Put_long hl.A hx hn1.1 hn1.2 (.inl hlg)).mono ?_
      rw [if_pos hlg]
      rintro e w' ⟨rfl, hu⟩
      exact ⟨rfl, by simpa [oneIf] using h.kept hu⟩
    · simp only [if_neg hlg]
      refine (bag_Put_new hl.A h0 h1 hl.sz hx hn1.1 hn1.2 (by omega) (by rw [← ma, List.length_map] at hN; exact hN)).mono ?_
      rintro e w' ⟨rfl, v', y, hfar, hto⟩
      refine ⟨rfl, ?_⟩
      have := h.toA (H' := H) hl ma mr mo ms hto (by rw [List.map_append, ma]) (fun q hq => .inl hq) fun z hz => ?_
      · simpa [oneIf] using this
      · rcases List.mem_append.1 hz with hz | hz
        · exact .inl hz
        · refine .inr fun hne => ?_
          rw [List.mem_singleton.1 hz] at hne ⊢
          obtain ⟨q, q1, q2⟩ := hfar hne
          exact ⟨q, q1, fun e => by have := h.hh q e; omega⟩
theorem TB.aLook (h : TB w W a r o Na sa la Nr sr lr n G H Y) (i : Int) :
    Calls Try.prog 18 #[.pointer (some ⟨a, 0, none⟩), .int .i64 i] W fun e w' => ∃ y qs, e = .returned (.tuple #[.agg (envA y), .int .i64 (errR Na i)]) ∧ TB w w' a r o (Na) (sa) (la) Nr sr lr n G (qs ++ H) ((y, getR Na i) :: Y) ∧ ((getR Na i).2.2 ≠ [] → ∃ q, y.A = some ⟨q, 0, none⟩ ∧ q ∈ qs ∧ w.heap.size ≤ q) := by
  obtain ⟨B, va, za, vr, zr, vo, zo, so, lo, hl, ma, mr, mo, ms⟩ := h.ex
  have hsz := h.k.size
  by_cases hi : inR Na i
  · have hi' := hi
    obtain ⟨i0, i1⟩ := hi'
    obtain ⟨j, rfl⟩ : ∃ j : Nat, i = j := ⟨i.toNat, by omega⟩
    have hj : j < za.length := by rw [← ma, List.length_map] at i1; omega
    have hg : za[j].2 = getR Na (j : Int) := by subst ma; simp [getR, hi, hj]
    refine (bag_Look_ok hl.A j hj).mono ?_
    rintro e w' ⟨y, rfl, hf, hu⟩
    rw [hg] at hf
    rw [errR, if_pos hi]
    by_cases hne : (getR Na (j : Int)).2.2 = []
    · exact ⟨y, [], rfl, (h.kept hu).addY hf, fun e => absurd hne e⟩
    · obtain ⟨q, q1, q2, q3⟩ := hf.far hne
      exact ⟨y, [q], rfl, (h.addH hu q2 q3).addY hf, fun _ => ⟨q, q1, by simp, by omega⟩⟩
  · refine (bag_Look_no hl.A i (by rw [← ma] at hi; unfold inR at hi; rw [List.length_map] at hi; omega)).mono ?_
    rintro e w' ⟨rfl, hu⟩
    rw [errR, if_neg hi, show getR Na i = (0, 0, []) by rw [getR, if_neg hi]]
    exact ⟨envZ, [], rfl, (h.kept hu).addY (Fresh.zero 0 w'), fun e => absurd rfl e⟩
theorem TB.aTake (h : TB w W a r o Na sa la Nr sr lr n G H Y) (hN : Na.length ≤ 4096) (i : Int) :
    Calls Try.prog 20 #[.pointer (some ⟨a, 0, none⟩), .int .i64 i] W fun e w' => ∃ y qs, e = .returned (.tuple #[.agg (envA y), .int .i64 (errR Na i)]) ∧ TB w w' a r o (eraseR Na i) (sa) (la) Nr sr lr n G (qs ++ H) ((y, getR Na i) :: Y) ∧ ((getR Na i).2.2 ≠ [] → ∃ q, y.A = some ⟨q, 0, none⟩ ∧ q ∈ qs ∧ w.heap.size ≤ q) := by
  obtain ⟨B, va, za, vr, zr, vo, zo, so, lo, hl, ma, mr, mo, ms⟩ := h.ex
  have hsz := h.k.size
  by_cases hi : inR Na i
  · have hi' := hi
    obtain ⟨i0, i1⟩ := hi'
    obtain ⟨j, rfl⟩ : ∃ j : Nat, i = j := ⟨i.toNat, by omega⟩
    have hj : j < za.length := by rw [← ma, List.length_map] at i1; omega
    have hg : za[j].2 = getR Na (j : Int) := by subst ma; simp [getR, hi, hj]
    have he : (za.eraseIdx j).map (·.2) = eraseR Na (j : Int) := by rw [map_eraseIdx2, ma, eraseR, if_pos hi]; rfl
    refine (bag_Take_ok hl.A hl.sz (by rw [← ma, List.length_map] at hN; exact hN) j hj).mono ?_
    rintro e w' ⟨y, v', rfl, hf, hto⟩
    rw [hg] at hf
    rw [errR, if_pos hi]
    by_cases hne : (getR Na (j : Int)).2.2 = []
    · exact ⟨y, [], rfl, (h.toA (H' := H) hl ma mr mo ms hto he (fun q hq => .inl hq) fun z hz => .inl (List.mem_of_mem_eraseIdx hz)).addY hf, fun e => absurd hne e⟩
    · obtain ⟨q, q1, q2, q3⟩ := hf.far hne
      exact ⟨y, [q], rfl, (h.toA (H' := q :: H) hl ma mr mo ms hto he (fun p hp => by
        rcases List.mem_cons.1 hp with rfl | hp
        · exact .inr ⟨q2, q3⟩
        · exact .inl hp) fun z hz => .inl (List.mem_of_mem_eraseIdx hz)).addY hf, fun _ => ⟨q, q1, by simp, by omega⟩⟩
  · refine (bag_Take_no hl.A i (by rw [← ma] at hi; unfold inR at hi; rw [List.length_map] at hi; omega)).mono ?_
    rintro e w' ⟨rfl, hu⟩
    rw [errR, if_neg hi, show getR Na i = (0, 0, []) by rw [getR, if_neg hi], show eraseR Na i = Na by rw [eraseR, if_neg hi]]
    exact ⟨envZ, [], rfl, (h.kept hu).addY (Fresh.zero 0 w'), fun e => absurd rfl e⟩
theorem TB.aDrop (h : TB w W a r o Na sa la Nr sr lr n G H Y) (hN : Na.length ≤ 4096) (h0 : 0 ≤ la) (h1 : la < 4611686018427387904) (i : Int) :
    Calls Try.prog 22 #[.pointer (some ⟨a, 0, none⟩), .int .i64 i] W fun e w' => e = .returned (.int .i64 (errR Na i)) ∧ TB w w' a r o (eraseR Na i) (sa) (la + oneIf (errR Na i)) Nr sr lr n G H Y := by
  obtain ⟨B, va, za, vr, zr, vo, zo, so, lo, hl, ma, mr, mo, ms⟩ := h.ex
  by_cases hi : inR Na i
  · have hi' := hi
    obtain ⟨i0, i1⟩ := hi'
    obtain ⟨j, rfl⟩ : ∃ j : Nat, i = j := ⟨i.toNat, by omega⟩
    have hj : j < za.length := by rw [← ma, List.length_map] at i1; omega
    have he : (za.eraseIdx j).map (·.2) = eraseR Na (j : Int) := by rw [map_eraseIdx2, ma, eraseR, if_pos hi]; rfl
    refine (bag_Drop_ok hl.A hl.sz (by rw [← ma, List.length_map] at hN; exact hN) h0 h1 j hj).mono ?_
    rintro e w' ⟨rfl, v', hto⟩
    rw [errR, if_pos hi]
    exact ⟨rfl, h.toA (H' := H) hl ma mr mo ms hto he (fun q hq => .inl hq) fun z hz => .inl (List.mem_of_mem_eraseIdx hz)⟩
  · refine (bag_Drop_no hl.A i (by rw [← ma] at hi; unfold inR at hi; rw [List.length_map] at hi; omega)).mono ?_
    rintro e w' ⟨rfl, hu⟩
    rw [errR, if_neg hi, show eraseR Na i = Na by rw [eraseR, if_neg hi]]
    exact ⟨rfl, by simpa [oneIf] using h.kept hu⟩
theorem TB.aDouble (h : TB w W a r o Na sa la Nr sr lr n G H Y) (hN : Na.length < 4096) (h0 : 0 ≤ sa) (h1 : sa < 4611686018427387904) (i : Int) :
    Calls Try.prog 24 #[.pointer (some ⟨a, 0, none⟩), .int .i64 i] W fun e w' => e = .returned (.int .i64 (errR Na i)) ∧ TB w w' a r o (doubleR Na i) (sa + oneIf (errR Na i)) (la) Nr sr lr n G H Y := by
  obtain ⟨B, va, za, vr, zr, vo, zo, so, lo, hl, ma, mr, mo, ms⟩ := h.ex
  by_cases hi : inR Na i
  · have hi' := hi
    obtain ⟨i0, i1⟩ := hi'
    obtain ⟨j, rfl⟩ : ∃ j : Nat, i = j := ⟨i.toNat, by omega⟩
    have hj : j < za.length := by rw [← ma, List.length_map] at i1; omega
    have hg : za[j].2 = getR Na (j : Int) := by subst ma; simp [getR, hi, hj]
    refine (bag_Double_new hl.A h0 h1 hl.sz (by rw [← ma, List.length_map] at hN; exact hN) j hj).mono ?_
    rintro e w' ⟨rfl, v', y, hfar, hto⟩
    rw [errR, if_pos hi]
    refine ⟨rfl, h.toA (H' := H) hl ma mr mo ms hto (by rw [List.map_append, ma, doubleR, if_pos hi, ← hg]; rfl) (fun q hq => .inl hq) fun z hz => ?_⟩
    rcases List.mem_append.1 hz with hz | hz
    · exact .inl hz
    · refine .inr fun hne => ?_
      rw [List.mem_singleton.1 hz] at hne ⊢
      obtain ⟨q, q1, q2⟩ := hfar hne
      exact ⟨q, q1, fun e => by have := h.hh q e; omega⟩
  · refine (bag_Double_no hl.A i (by rw [← ma] at hi; unfold inR at hi; rw [List.length_map] at hi; omega)).mono ?_
    rintro e w' ⟨rfl, hu⟩
    rw [errR, if_neg hi, show doubleR Na i = Na by rw [doubleR, if_neg hi]]
    exact ⟨rfl, by simpa [oneIf] using h.kept hu⟩
theorem TB.aNext (h : TB w W a r o Na sa la Nr sr lr n G H Y) (hN : Na.length ≤ 4096) (set : Int) : Calls Try.prog 26 #[.pointer (some ⟨a, 0, none⟩), .int .i64 set] W fun e w' => e = .returned (.int .i64 (nextM Na set)) ∧ TB w w' a r o Na sa la Nr sr lr n G H Y := by
  obtain ⟨B, va, za, vr, zr, vo, zo, so, lo, hl, ma, mr, mo, ms⟩ := h.ex
  refine (bag_Next hl.A (by rw [← ma, List.length_map] at hN; exact hN) set).mono ?_
  rintro e w' ⟨rfl, hu⟩
  rw [ma]
  exact ⟨rfl, h.kept hu⟩
theorem TB.aLen (h : TB w W a r o Na sa la Nr sr lr n G H Y) : Calls Try.prog 28 #[.pointer (some ⟨a, 0, none⟩)] W fun e w' => e = .returned (.int .i64 Na.length) ∧ W = w' := by
  obtain ⟨B, va, za, vr, zr, vo, zo, so, lo, hl, ma, mr, mo, ms⟩ := h.ex
  rw [← ma, List.length_map]
  exact bag_Len hl.A
theorem TB.aSent (h : TB w W a r o Na sa la Nr sr lr n G H Y) : Calls Try.prog 30 #[.pointer (some ⟨a, 0, none⟩)] W fun e w' => e = .returned (.int .i64 sa) ∧ W = w' := by
  obtain ⟨B, va, za, vr, zr, vo, zo, so, lo, hl, ma, mr, mo, ms⟩ := h.ex
  exact bag_Sent hl.A
theorem TB.aLost (h : TB w W a r o Na sa la Nr sr lr n G H Y) : Calls Try.prog 32 #[.pointer (some ⟨a, 0, none⟩)] W fun e w' => e = .returned (.int .i64 la) ∧ W = w' := by
  obtain ⟨B, va, za, vr, zr, vo, zo, so, lo, hl, ma, mr, mo, ms⟩ := h.ex
  exact bag_Lost hl.A
theorem TB.rPut (h : TB w W a r o Na sa la Nr sr lr n G H Y) (h0 : 0 ≤ sr) (h1 : sr < 4611686018427387904) (hN : Nr.length < 4096) {x : EnvC} {m : Note} (hx : NoteAt W x m) :
    Calls Try.prog 16 #[.pointer (some ⟨r, 0, none⟩), .agg (envA x)] W fun e w' => e = .returned (.int .i64 (putE Nr m)) ∧ TB w w' a r o Na sa la (putN Nr m) (sr + oneIf (putE Nr m)) (lr) n G H Y := by
  obtain ⟨B, va, za, vr, zr, vo, zo, so, lo, hl, ma, mr, mo, ms⟩ := h.ex
  unfold putN putE
  by_cases hn : (namedB m.1 && namedB m.2.1) = false
  · simp only [if_pos hn]
    refine (refb_Put_no hl.R hx hn).mono ?_
    rintro e w' ⟨rfl, hu⟩
    exact ⟨rfl, by simpa [oneIf] using h.kept hu⟩
  · simp only [if_neg hn]
    have hn1 : namedB m.1 = true ∧ namedB m.2.1 = true := by simpa using hn
    by_cases hlg : 65536 < m.2.2.length
    · simp only [if_pos hlg]
      refine (refb_Put_long hl.R hx hn1.1 hn1.2 hlg).mono ?_
      rintro e w' ⟨rfl, hu⟩
      exact ⟨rfl, by simpa [oneIf] using h.kept hu⟩
    · simp only [if_neg hlg]
      refine (refb_Put_new hl.R h0 h1 hl.sz hx hn1.1 hn1.2 (by omega) (by rw [← mr, List.length_map] at hN; exact hN)).mono ?_
      rintro e w' ⟨rfl, v', y, hfar, hto⟩
      refine ⟨rfl, ?_⟩
      have := h.toR (H' := H) hl ma mr mo ms hto (by rw [List.map_append, mr]) (fun q hq => .inl hq) fun z hz => ?_
      · simpa [oneIf] using this
      · rcases List.mem_append.1 hz with hz | hz
        · exact .inl hz
        · refine .inr fun hne => ?_
          rw [List.mem_singleton.1 hz] at hne ⊢
          obtain ⟨q, q1, q2⟩ := hfar hne
          exact ⟨q, q1, fun e => by have := h.hh q e; omega⟩
theorem TB.rLook (h : TB w W a r o Na sa la Nr sr lr n G H Y) (i : Int) :
    Calls Try.prog 19 #[.pointer (some ⟨r, 0, none⟩), .int .i64 i] W fun e w' => ∃ y qs, e = .returned (.tuple #[.agg (envA y), .int .i64 (errR Nr i)]) ∧ TB w w' a r o Na sa la (Nr) (sr) (lr) n G (qs ++ H) ((y, getR Nr i) :: Y) ∧ ((getR Nr i).2.2 ≠ [] → ∃ q, y.A = some ⟨q, 0, none⟩ ∧ q ∈ qs ∧ w.heap.size ≤ q) := by
  obtain ⟨B, va, za, vr, zr, vo, zo, so, lo, hl, ma, mr, mo, ms⟩ := h.ex
  have hsz := h.k.size
  by_cases hi : inR Nr i
  · have hi' := hi
    obtain ⟨i0, i1⟩ := hi'
    obtain ⟨j, rfl⟩ : ∃ j : Nat, i = j := ⟨i.toNat, by omega⟩
    have hj : j < zr.length := by rw [← mr, List.length_map] at i1; omega
    have hg : zr[j].2 = getR Nr (j : Int) := by subst mr; simp [getR, hi, hj]
    refine (refb_Look_ok hl.R j hj).mono ?_
    rintro e w' ⟨y, rfl, hf, hu⟩
    rw [hg] at hf
    rw [errR, if_pos hi]
    by_cases hne : (getR Nr (j : Int)).2.2 = []
    · exact ⟨y, [], rfl, (h.kept hu).addY hf, fun e => absurd hne e⟩
    · obtain ⟨q, q1, q2, q3⟩ := hf.far hne
      exact ⟨y, [q], rfl, (h.addH hu q2 q3).addY hf, fun _ => ⟨q, q1, by simp, by omega⟩⟩
  · refine (refb_Look_no hl.R i (by rw [← mr] at hi; unfold inR at hi; rw [List.length_map] at hi; omega)).mono ?_
    rintro e w' ⟨rfl, hu⟩
    rw [errR, if_neg hi, show getR Nr i = (0, 0, []) by rw [getR, if_neg hi]]
    exact ⟨envZ, [], rfl, (h.kept hu).addY (Fresh.zero 0 w'), fun e => absurd rfl e⟩
theorem TB.rTake (h : TB w W a r o Na sa la Nr sr lr n G H Y) (hN : Nr.length ≤ 4096) (i : Int) :
    Calls Try.prog 21 #[.pointer (some ⟨r, 0, none⟩), .int .i64 i] W fun e w' => ∃ y qs, e = .returned (.tuple #[.agg (envA y), .int .i64 (errR Nr i)]) ∧ TB w w' a r o Na sa la (eraseR Nr i) (sr) (lr) n G (qs ++ H) ((y, getR Nr i) :: Y) ∧ ((getR Nr i).2.2 ≠ [] → ∃ q, y.A = some ⟨q, 0, none⟩ ∧ q ∈ qs ∧ w.heap.size ≤ q) := by
  obtain ⟨B, va, za, vr, zr, vo, zo, so, lo, hl, ma, mr, mo, ms⟩ := h.ex
  have hsz := h.k.size
  by_cases hi : inR Nr i
  · have hi' := hi
    obtain ⟨i0, i1⟩ := hi'
    obtain ⟨j, rfl⟩ : ∃ j : Nat, i = j := ⟨i.toNat, by omega⟩
    have hj : j < zr.length := by rw [← mr, List.length_map] at i1; omega
    have hg : zr[j].2 = getR Nr (j : Int) := by subst mr; simp [getR, hi, hj]
    have he : (zr.eraseIdx j).map (·.2) = eraseR Nr (j : Int) := by rw [map_eraseIdx2, mr, eraseR, if_pos hi]; rfl
    refine (refb_Take_ok hl.R hl.sz (by rw [← mr, List.length_map] at hN; exact hN) j hj).mono ?_
    rintro e w' ⟨y, v', rfl, hf, hto⟩
    rw [hg] at hf
    rw [errR, if_pos hi]
    by_cases hne : (getR Nr (j : Int)).2.2 = []
    · exact ⟨y, [], rfl, (h.toR (H' := H) hl ma mr mo ms hto he (fun q hq => .inl hq) fun z hz => .inl (List.mem_of_mem_eraseIdx hz)).addY hf, fun e => absurd hne e⟩
    · obtain ⟨q, q1, q2, q3⟩ := hf.far hne
      exact ⟨y, [q], rfl, (h.toR (H' := q :: H) hl ma mr mo ms hto he (fun p hp => by
        rcases List.mem_cons.1 hp with rfl | hp
        · exact .inr ⟨q2, q3⟩
        · exact .inl hp) fun z hz => .inl (List.mem_of_mem_eraseIdx hz)).addY hf, fun _ => ⟨q, q1, by simp, by omega⟩⟩
  · refine (refb_Take_no hl.R i (by rw [← mr] at hi; unfold inR at hi; rw [List.length_map] at hi; omega)).mono ?_
    rintro e w' ⟨rfl, hu⟩
    rw [errR, if_neg hi, show getR Nr i = (0, 0, []) by rw [getR, if_neg hi], show eraseR Nr i = Nr by rw [eraseR, if_neg hi]]
    exact ⟨envZ, [], rfl, (h.kept hu).addY (Fresh.zero 0 w'), fun e => absurd rfl e⟩
theorem TB.rDrop (h : TB w W a r o Na sa la Nr sr lr n G H Y) (hN : Nr.length ≤ 4096) (h0 : 0 ≤ lr) (h1 : lr < 4611686018427387904) (i : Int) :
    Calls Try.prog 23 #[.pointer (some ⟨r, 0, none⟩), .int .i64 i] W fun e w' => e = .returned (.int .i64 (errR Nr i)) ∧ TB w w' a r o Na sa la (eraseR Nr i) (sr) (lr + oneIf (errR Nr i)) n G H Y := by
  obtain ⟨B, va, za, vr, zr, vo, zo, so, lo, hl, ma, mr, mo, ms⟩ := h.ex
  by_cases hi : inR Nr i
  · have hi' := hi
    obtain ⟨i0, i1⟩ := hi'
    obtain ⟨j, rfl⟩ : ∃ j : Nat, i = j := ⟨i.toNat, by omega⟩
    have hj : j < zr.length := by rw [← mr, List.length_map] at i1; omega
    have he : (zr.eraseIdx j).map (·.2) = eraseR Nr (j : Int) := by rw [map_eraseIdx2, mr, eraseR, if_pos hi]; rfl
    refine (refb_Drop_ok hl.R hl.sz (by rw [← mr, List.length_map] at hN; exact hN) h0 h1 j hj).mono ?_
    rintro e w' ⟨rfl, v', hto⟩
    rw [errR, if_pos hi]
    exact ⟨rfl, h.toR (H' := H) hl ma mr mo ms hto he (fun q hq => .inl hq) fun z hz => .inl (List.mem_of_mem_eraseIdx hz)⟩
  · refine (refb_Drop_no hl.R i (by rw [← mr] at hi; unfold inR at hi; rw [List.length_map] at hi; omega)).mono ?_
    rintro e w' ⟨rfl, hu⟩
    rw [errR, if_neg hi, show eraseR Nr i = Nr by rw [eraseR, if_neg hi]]
    exact ⟨rfl, by simpa [oneIf] using h.kept hu⟩
theorem TB.rDouble (h : TB w W a r o Na sa la Nr sr lr n G H Y) (hN : Nr.length < 4096) (h0 : 0 ≤ sr) (h1 : sr < 4611686018427387904) (i : Int) :
    Calls Try.prog 25 #[.pointer (some ⟨r, 0, none⟩), .int .i64 i] W fun e w' => e = .returned (.int .i64 (errR Nr i)) ∧ TB w w' a r o Na sa la (doubleR Nr i) (sr + oneIf (errR Nr i)) (lr) n G H Y := by
  obtain ⟨B, va, za, vr, zr, vo, zo, so, lo, hl, ma, mr, mo, ms⟩ := h.ex
  by_cases hi : inR Nr i
  · have hi' := hi
    obtain ⟨i0, i1⟩ := hi'
    obtain ⟨j, rfl⟩ : ∃ j : Nat, i = j := ⟨i.toNat, by omega⟩
    have hj : j < zr.length := by rw [← mr, List.length_map] at i1; omega
    have hg : zr[j].2 = getR Nr (j : Int) := by subst mr; simp [getR, hi, hj]
    refine (refb_Double_new hl.R h0 h1 hl.sz (by rw [← mr, List.length_map] at hN; exact hN) j hj).mono ?_
    rintro e w' ⟨rfl, v', y, hfar, hto⟩
    rw [errR, if_pos hi]
    refine ⟨rfl, h.toR (H' := H) hl ma mr mo ms hto (by rw [List.map_append, mr, doubleR, if_pos hi, ← hg]; rfl) (fun q hq => .inl hq) fun z hz => ?_⟩
    rcases List.mem_append.1 hz with hz | hz
    · exact .inl hz
    · refine .inr fun hne => ?_
      rw [List.mem_singleton.1 hz] at hne ⊢
      obtain ⟨q, q1, q2⟩ := hfar hne
      exact ⟨q, q1, fun e => by have := h.hh q e; omega⟩
  · refine (refb_Double_no hl.R i (by rw [← mr] at hi; unfold inR at hi; rw [List.length_map] at hi; omega)).mono ?_
    rintro e w' ⟨rfl, hu⟩
    rw [errR, if_neg hi, show doubleR Nr i = Nr by rw [doubleR, if_neg hi]]
    exact ⟨rfl, by simpa [oneIf] using h.kept hu⟩
theorem TB.rNext (h : TB w W a r o Na sa la Nr sr lr n G H Y) (hN : Nr.length ≤ 4096) (set : Int) : Calls Try.prog 27 #[.pointer (some ⟨r, 0, none⟩), .int .i64 set] W fun e w' => e = .returned (.int .i64 (nextM Nr set)) ∧ W = w' := by
  obtain ⟨B, va, za, vr, zr, vo, zo, so, lo, hl, ma, mr, mo, ms⟩ := h.ex
  rw [← mr]
  exact refb_Next hl.R (by rw [← mr, List.length_map] at hN; exact hN) set
theorem TB.rLen (h : TB w W a r o Na sa la Nr sr lr n G H Y) : Calls Try.prog 29 #[.pointer (some ⟨r, 0, none⟩)] W fun e w' => e = .returned (.int .i64 Nr.length) ∧ W = w' := by
  obtain ⟨B, va, za, vr, zr, vo, zo, so, lo, hl, ma, mr, mo, ms⟩ := h.ex
  rw [← mr, List.length_map]
  exact refb_Len hl.R
theorem TB.rSent (h : TB w W a r o Na sa la Nr sr lr n G H Y) : Calls Try.prog 31 #[.pointer (some ⟨r, 0, none⟩)] W fun e w' => e = .returned (.int .i64 sr) ∧ W = w' := by
  obtain ⟨B, va, za, vr, zr, vo, zo, so, lo, hl, ma, mr, mo, ms⟩ := h.ex
  exact refb_Sent hl.R
theorem TB.rLost (h : TB w W a r o Na sa la Nr sr lr n G H Y) : Calls Try.prog 33 #[.pointer (some ⟨r, 0, none⟩)] W fun e w' => e = .returned (.int .i64 lr) ∧ W = w' := by
  obtain ⟨B, va, za, vr, zr, vo, zo, so, lo, hl, ma, mr, mo, ms⟩ := h.ex
  exact refb_Lost hl.R

/-- the other bag -/
theorem TB.oPut (h : TB w W a r o Na sa la Nr sr lr n G H Y) (hn : n < 4096) {x : EnvC} {m : Note} (hx : NoteAt W x m) (h1 : namedB m.1 = true) (h2 : namedB m.2.1 = true) (h3 : m.2.2.length ≤ 65536) :
    Calls Try.prog 13 #[.pointer (some ⟨o, 0, none⟩), .agg (envA x)] W fun e w' => e = .returned (.int .i64 0) ∧ TB w w' a r o Na sa la Nr sr lr (n + 1) G H Y := by
  obtain ⟨B, va, za, vr, zr, vo, zo, so, lo, hl, ma, mr, mo, ms⟩ := h.ex
  refine (bag_Put_new hl.O (by omega) (by omega) hl.sz hx h1 h2 h3 (by omega)).mono ?_
  rintro e w' ⟨rfl, v', y, hfar, hto⟩
  refine ⟨rfl, h.toO (H' := H) hl ma mr mo ms hto ⟨by rw [List.length_append, mo]; rfl, by rw [ms]; rfl⟩ (fun q hq => .inl hq) fun z hz => ?_⟩
  rcases List.mem_append.1 hz with hz | hz
  · exact .inl hz
  · refine .inr fun hne => ?_
    rw [List.mem_singleton.1 hz] at hne ⊢
    obtain ⟨q, q1, q2⟩ := hfar hne
    exact ⟨q, q1, fun e => by have := h.hh q e; omega⟩
end
end Go.Proofs.Ytkfekkemfahepaa
