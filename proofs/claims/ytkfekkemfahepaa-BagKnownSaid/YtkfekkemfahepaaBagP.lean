/- The statements' helper played: a bag to which things happen, the notes that were put, those that were taken. -/
import Derived.Test.YtkfekkemfahepaaBagM
namespace Go.Proofs.Ytkfekkemfahepaa
open Go.RowKit

section
variable {w W : World} {b : Nat} {N : List Note} {s l : Int} {p t : Value} {P T : List Note} {G : List (Nat × Obj)} {Y : List (EnvC × Note)}
theorem envelope_not8 {W : World} {B : Nat} {v : Value} {zs : List (EnvC × Note)} (h : NotesAt W B v zs) : ∀ k, v.ownBlock = some k → ∀ cs fr, W.heap[k]? ≠ some (.cells cs 5 fr) := by
  intro k hk cs fr e
  obtain ⟨_, _, cur, hc⟩ := h.rows.lt hk
  rw [hc] at e; cases e
/-- one more was put -/
theorem LB.appendP (h : LB w W b N s l p P t T G Y) {y : EnvC} {m : Note} {K : Nat} (hy : Fresh K W y m) (hP : P.length < 4096) (g c : Nat) (hg : W.heap[g]? = some (.cells (envA y) 29 (0, 0))) :
    ∃ A' c' W', (Builtin.append_ #[45, 45] 45 #[p, .slice (some ⟨g, 0, none⟩) 1 c]).run Try.prog W = .ok (.slice A' (P.length + 1) c') W' ∧ LB w W' b N s l (.slice A' (P.length + 1) c') (P ++ [m]) t T G Y := by
  obtain ⟨B, v, zs, ps, ts, hl⟩ := h.ex
  have hpl : ps.length = P.length := by rw [← hl.pn, List.length_map]
  obtain ⟨p', W', hr, hrows, hu, hnew⟩ := run_append_cut envP_rows 45 hl.put.rows (y, m) g c _ _ hg (by unfold maxLen; omega) (by omega) hl.sz
  obtain ⟨A', c', hp'⟩ := hrows.form
  rw [List.length_append, List.length_singleton, hpl] at hp'
  have h8 := envelope_not8 hl.put
  have hb := hl.bag.lt
  have hlo := h.lo
  refine ⟨A', c', W', hp' ▸ hr, hp' ▸ ?_⟩
  refine ⟨⟨B, v, zs, ps ++ [(y, m)], ts, hl.n, by rw [List.map_append, hl.pn]; rfl, hl.tn, ⟨hu.heap hl.bag.blk (fun e => by have := (hl.put.rows.lt e).1; omega), hl.bag.notes.upd hu (fun k hk e => (hl.a1 k hk).1 e) h8, hb, hl.bag.nm⟩, ⟨hrows, fun z hz => ?_⟩, hl.took.upd hu (fun k hk e => hl.a2 k e hk) h8, Nat.le_trans hl.sz hu.size, fun k hk => ⟨fun e => ?_, (hl.a1 k hk).2⟩, fun k hk e => ?_, fun q hq => ?_⟩, h.k.then hu (fun i hi e => by have := (hl.put.rows.lt e).1; omega), hlo, fun q hq => hu.heap (h.g q hq) (hl.a3 q hq).2.2.1, fun z hz => (h.y z hz).upd hu h8⟩
  · rcases List.mem_append.1 hz with hz | hz
    · exact (hl.put.ok z hz).upd hu h8
    · rw [List.mem_singleton.1 hz]
      exact (hy.mono (Nat.zero_le _)).upd hu h8
  · exact (hl.a1 k hk).1 (hnew k (hl.bag.notes.rows.lt hk).2.1 e)
  · exact hl.a2 k (hnew k (hl.took.rows.lt e).2.1 hk) e
  · obtain ⟨q1, q2, q3, q4⟩ := hl.a3 q hq
    exact ⟨q1, q2, fun e => q3 (hnew _ (Array.getElem?_eq_some_iff.1 (h.g q hq)).1 e), q4⟩
/-- one more was taken -/
theorem LB.appendT (h : LB w W b N s l p P t T G Y) {y : EnvC} {m : Note} {K : Nat} (hy : Fresh K W y m) (hT : T.length < 4096) (g c : Nat) (hg : W.heap[g]? = some (.cells (envA y) 29 (0, 0))) :
    ∃ A' c' W', (Builtin.append_ #[45, 45] 45 #[t, .slice (some ⟨g, 0, none⟩) 1 c]).run Try.prog W = .ok (.slice A' (T.length + 1) c') W' ∧ LB w W' b N s l p P (.slice A' (T.length + 1) c') (T ++ [m]) G Y := by
  obtain ⟨B, v, zs, ps, ts, hl⟩ := h.ex
  have hpl : ts.length = T.length := by rw [← hl.tn, List.length_map]
  obtain ⟨t', W', hr, hrows, hu, hnew⟩ := run_append_cut envP_rows 45 hl.took.rows (y, m) g c _ _ hg (by unfold maxLen; omega) (by omega) hl.sz
  obtain ⟨A', c', hp'⟩ := hrows.form
  rw [List.length_append, List.length_singleton, hpl] at hp'
  have h8 := envelope_not8 hl.took
  have hb := hl.bag.lt
  have hlo := h.lo
  refine ⟨A', c', W', hp' ▸ hr, hp' ▸ ?_⟩
  refine ⟨⟨B, v, zs, ps, ts ++ [(y, m)], hl.n, hl.pn, by rw [List.map_append, hl.tn]; rfl, ⟨hu.heap hl.bag.blk (fun e => by have := (hl.took.rows.lt e).1; omega), hl.bag.notes.upd hu (fun k hk e => (hl.a1 k hk).2 e) h8, hb, hl.bag.nm⟩, hl.put.upd hu (fun k hk e => hl.a2 k hk e) h8, ⟨hrows, fun z hz => ?_⟩, Nat.le_trans hl.sz hu.size, fun k hk => ⟨(hl.a1 k hk).1, fun e => ?_⟩, fun k hk e => ?_, fun q hq => ?_⟩, h.k.then hu (fun i hi e => by have := (hl.took.rows.lt e).1; omega), hlo, fun q hq => hu.heap (h.g q hq) (hl.a3 q hq).2.2.2, fun z hz => (h.y z hz).upd hu h8⟩
  · rcases List.mem_append.1 hz with hz | hz
    · exact (hl.took.ok z hz).upd hu h8
    · rw [List.mem_singleton.1 hz]
      exact (hy.mono (Nat.zero_le _)).upd hu h8
  · exact (hl.a1 k hk).2 (hnew k (hl.bag.notes.rows.lt hk).2.1 e)
  · exact hl.a2 k hk (hnew k (hl.put.rows.lt hk).2.1 e)
  · obtain ⟨q1, q2, q3, q4⟩ := hl.a3 q hq
    exact ⟨q1, q2, q3, fun e => q4 (hnew _ (Array.getElem?_eq_some_iff.1 (h.g q hq)).1 e)⟩
theorem LB.named (h : LB w W b N s l p P t T G Y) : ∀ m ∈ N, namedB m.1 = true ∧ namedB m.2.1 = true := by
  obtain ⟨B, v, zs, ps, ts, hl⟩ := h.ex
  intro m hm
  rw [← hl.n] at hm
  obtain ⟨z, hz, rfl⟩ := List.mem_map.1 hm
  exact ⟨(hl.bag.nm z hz).1, (hl.bag.nm z hz).2.1⟩
end

/-- what has happened, after k deeds -/
structure Play (k : Nat) (N : List Note) (s l : Int) (P T : List Note) : Prop where
  n : N.length ≤ k
  p : P.length ≤ k
  t : T.length ≤ k
  s1 : s ≤ k
  l0 : 0 ≤ l
  l1 : l ≤ k
  np : ∀ m ∈ N, m ∈ P
  tp : ∀ m ∈ T, m ∈ P
  sum : s - l = T.length + N.length
section
variable {k : Nat} {N : List Note} {s l : Int} {P T : List Note}
theorem Play.s0 (h : Play k N s l P T) : 0 ≤ s := by have := h.sum; have := h.l0; omega
theorem Play.zero : Play 0 [] 0 0 [] [] := ⟨by simp, by simp, by simp, by simp, by simp, by simp, by simp, by simp, by simp⟩
theorem Play.same (h : Play k N s l P T) : Play (k + 1) N s l P T :=
  ⟨Nat.le_succ_of_le h.n, Nat.le_succ_of_le h.p, Nat.le_succ_of_le h.t, by have := h.s1; omega, h.l0, by have := h.l1; omega, h.np, h.tp, h.sum⟩
theorem Play.put (h : Play k N s l P T) (m : Note) : Play (k + 1) (N ++ [m]) (s + 1) l (P ++ [m]) T := by
  refine ⟨by simpa using h.n, by simpa using h.p, Nat.le_succ_of_le h.t, by have := h.s1; omega, h.l0, by have := h.l1; omega, fun x hx => ?_, fun x hx => List.mem_append_left _ (h.tp x hx), by have := h.sum; simp; omega⟩
  rcases List.mem_append.1 hx with hx | hx
  · exact List.mem_append_left _ (h.np x hx)
  · exact List.mem_append_right _ hx
theorem Play.take (h : Play k N s l P T) (i : Nat) (hi : i < N.length) : Play (k + 1) (N.eraseIdx i) s l P (T ++ [N[i]]) := by
  have hl : (N.eraseIdx i).length = N.length - 1 := by rw [List.length_eraseIdx]; simp [hi]
  refine ⟨by have := h.n; omega, Nat.le_succ_of_le h.p, by simpa using h.t, by have := h.s1; omega, h.l0, by have := h.l1; omega, fun x hx => h.np x (List.mem_of_mem_eraseIdx hx), fun x hx => ?_, by have := h.sum; rw [hl]; simp; omega⟩
  rcases List.mem_append.1 hx with hx | hx
  · exact h.tp x hx
  · rw [List.mem_singleton.1 hx]; exact h.np _ (List.getElem_mem hi)
theorem Play.drop (h : Play k N s l P T) (i : Nat) (hi : i < N.length) : Play (k + 1) (N.eraseIdx i) s (l + 1) P T := by
  have hl : (N.eraseIdx i).length = N.length - 1 := by rw [List.length_eraseIdx]; simp [hi]
  exact ⟨by have := h.n; omega, Nat.le_succ_of_le h.p, Nat.le_succ_of_le h.t, by have := h.s1; omega, by have := h.l0; omega, by have := h.l1; omega, fun x hx => h.np x (List.mem_of_mem_eraseIdx hx), h.tp, by have := h.sum; rw [hl]; omega⟩
theorem Play.double (h : Play k N s l P T) (i : Nat) (hi : i < N.length) : Play (k + 1) (N ++ [N[i]]) (s + 1) l P T := by
  refine ⟨by simpa using h.n, Nat.le_succ_of_le h.p, Nat.le_succ_of_le h.t, by have := h.s1; omega, h.l0, by have := h.l1; omega, fun x hx => ?_, h.tp, by have := h.sum; simp; omega⟩
  rcases List.mem_append.1 hx with hx | hx
  · exact h.np x hx
  · rw [List.mem_singleton.1 hx]; exact h.np _ (List.getElem_mem hi)
end
end Go.Proofs.Ytkfekkemfahepaa
