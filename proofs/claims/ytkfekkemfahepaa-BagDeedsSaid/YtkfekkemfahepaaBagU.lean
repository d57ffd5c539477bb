/- The statement BagDeeds' three bags (the program's a, the document's r, another o), its variables, and blocks of bytes that it writes: what each method leaves of all that. -/
import Derived.Test.YtkfekkemfahepaaBagT
import Derived.Test.YtkfekkemfahepaaBagO
namespace Go.Proofs.Ytkfekkemfahepaa
open Go.RowKit

/-- what the methods answer, and what is there then -/
def putE (N : List Note) (m : Note) : Int := if (namedB m.1 && namedB m.2.1) = false then 2 else if 65536 < m.2.2.length then 5 else 0
def putN (N : List Note) (m : Note) : List Note := if putE N m = 0 then N ++ [m] else N
def inR (N : List Note) (i : Int) : Prop := 0 ≤ i ∧ i < N.length
instance (N : List Note) (i : Int) : Decidable (inR N i) := by unfold inR; infer_instance
def errR (N : List Note) (i : Int) : Int := if inR N i then 0 else 9
def getR (N : List Note) (i : Int) : Note := if inR N i then N.getD i.toNat (0, 0, []) else (0, 0, [])
def eraseR (N : List Note) (i : Int) : List Note := if inR N i then N.eraseIdx i.toNat else N
def doubleR (N : List Note) (i : Int) : List Note := if inR N i then N ++ [getR N i] else N
def oneIf (e : Int) : Int := if e = 0 then 1 else 0

theorem errR_in {N : List Note} {i : Nat} (h : i < N.length) : inR N i := ⟨by omega, by omega⟩

/-- where z's bytes lie, if it has any, is no block of H -/
def Off (H : List Nat) (z : EnvC × Note) : Prop := z.2.2.2 ≠ [] → ∃ q, z.1.A = some ⟨q, 0, none⟩ ∧ q ∉ H

structure Lie3 (W : World) (B a : Nat) (va : Value) (za : List (EnvC × Note)) (sa la : Int) (r : Nat) (vr : Value) (zr : List (EnvC × Note)) (sr lr : Int) (o : Nat) (vo : Value) (zo : List (EnvC × Note)) (so lo : Int) (G : List (Nat × Obj)) (H : List Nat) : Prop where
  A : BagAt W B a va za sa la
  R : RefB W B r vr zr sr lr
  O : BagAt W B o vo zo so lo
  sz : B ≤ W.heap.size
  ar : a ≠ r
  ao : a ≠ o
  ro : r ≠ o
  d1 : ∀ k, va.ownBlock = some k → vr.ownBlock ≠ some k
  d2 : ∀ k, va.ownBlock = some k → vo.ownBlock ≠ some k
  d3 : ∀ k, vr.ownBlock = some k → vo.ownBlock ≠ some k
  g : ∀ q ∈ G, (q.1 ≠ a ∧ va.ownBlock ≠ some q.1) ∧ (q.1 ≠ r ∧ vr.ownBlock ≠ some q.1) ∧ (q.1 ≠ o ∧ vo.ownBlock ≠ some q.1)
  ha : ∀ z ∈ za, Off H z
  hr : ∀ z ∈ zr, Off H z
  ho : ∀ z ∈ zo, Off H z

structure TB (w W : World) (a r o : Nat) (Na : List Note) (sa la : Int) (Nr : List Note) (sr lr : Int) (n : Nat) (G : List (Nat × Obj)) (H : List Nat) (Y : List (EnvC × Note)) : Prop where
  ex : ∃ B va za vr zr vo zo so lo, Lie3 W B a va za sa la r vr zr sr lr o vo zo so lo G H ∧ za.map (·.2) = Na ∧ zr.map (·.2) = Nr ∧ zo.length = n ∧ so = n
  k : Kept w W
  l1 : w.heap.size ≤ a
  l2 : w.heap.size ≤ r
  l3 : w.heap.size ≤ o
  gg : ∀ q ∈ G, W.heap[q.1]? = some q.2
  hh : ∀ q ∈ H, q < W.heap.size
  y : ∀ z ∈ Y, Fresh 0 W z.1 z.2

section
variable {w W W' : World} {a r o : Nat} {Na Nr : List Note} {sa la sr lr : Int} {n : Nat} {G : List (Nat × Obj)} {H : List Nat} {Y : List (EnvC × Note)} {B : Nat} {va vr vo v' : Value} {za zr zo z' : List (EnvC × Note)} {so lo s' l' : Int} {N' : List Note} {n' : Nat} {H' : List Nat}
theorem off_old {H' : List Nat} {v : Value} {zs : List (EnvC × Note)} (hn : NotesAt W B v zs) (hH : ∀ q ∈ H', q ∈ H ∨ (W.heap.size ≤ q ∧ q < W'.heap.size)) (h : ∀ z ∈ zs, Off H z) : ∀ z ∈ zs, Off H' z := fun z hz hne => by
  obtain ⟨p, p1, p2⟩ := h z hz hne
  obtain ⟨p', q1, _, q3⟩ := (hn.ok z hz).far hne
  rw [p1] at q1
  simp only [Option.some.injEq, Addr.mk.injEq, and_true] at q1
  refine ⟨p, p1, fun e => ?_⟩
  rcases hH p e with e | e
  · exact p2 e
  · omega
theorem TB.toA (h : TB w W a r o Na sa la Nr sr lr n G H Y) (hl : Lie3 W B a va za sa la r vr zr sr lr o vo zo so lo G H) (ma : za.map (·.2) = Na) (mr : zr.map (·.2) = Nr) (mo : zo.length = n) (ms : so = n) (hto : BagTo W W' B a va v' z' s' l') (hN : z'.map (·.2) = N')
    (hH : ∀ q ∈ H', q ∈ H ∨ (W.heap.size ≤ q ∧ q < W'.heap.size)) (hz : ∀ z ∈ z', z ∈ za ∨ Off H' z) : TB w W' a r o N' s' l' Nr sr lr n G H' Y := by
  have hu := hto.upd
  have h8 := hl.A.not8
  have lb := hl.A.lt
  have lla := hl.A.lt
  have llr := hl.R.lt
  have llo := hl.O.lt
  have k1 := h.l1
  have k2 := h.l2
  have k3 := h.l3
  have hk : ∀ k, k < w.heap.size → ¬ (k = a ∨ va.ownBlock = some k) := fun k hk e => e.elim (by omega) fun e => by have := (hl.A.notes.rows.lt e).1; omega
  have br : ¬ (r = a ∨ va.ownBlock = some r) := fun e => e.elim hl.ar.symm fun e => by have := (hl.A.notes.rows.lt e).1; omega
  have or : ∀ k, vr.ownBlock = some k → ¬ (k = a ∨ va.ownBlock = some k) := fun k hk e => e.elim (fun e => by have := (hl.R.notes.rows.lt hk).1; omega) fun e => hl.d1 k e hk
  have bo : ¬ (o = a ∨ va.ownBlock = some o) := fun e => e.elim hl.ao.symm fun e => by have := (hl.A.notes.rows.lt e).1; omega
  have oo : ∀ k, vo.ownBlock = some k → ¬ (k = a ∨ va.ownBlock = some k) := fun k hk e => e.elim (fun e => by have := (hl.O.notes.rows.lt hk).1; omega) fun e => hl.d2 k e hk
  refine ⟨⟨B, v', z', vr, zr, vo, zo, so, lo, ⟨hto.bag, ⟨hu.heap hl.R.blk br, hl.R.notes.upd hu or h8, hl.R.lt, hl.R.nm⟩, ⟨hu.heap hl.O.blk bo, hl.O.notes.upd hu oo h8, hl.O.lt, hl.O.nm⟩, Nat.le_trans hl.sz hu.size, hl.ar, hl.ao, hl.ro, fun k hk e => hl.d1 k (hto.new k (hl.R.notes.rows.lt e).2.1 hk) e, fun k hk e => hl.d2 k (hto.new k (hl.O.notes.rows.lt e).2.1 hk) e, hl.d3, fun q hq => ⟨⟨(hl.g q hq).1.1, fun e => (hl.g q hq).1.2 (hto.new _ (Array.getElem?_eq_some_iff.1 (h.gg q hq)).1 e)⟩, (hl.g q hq).2.1, (hl.g q hq).2.2⟩, fun z hm => (hz z hm).elim (off_old (W' := W') hl.A.notes hH hl.ha z) id, off_old (W' := W') hl.R.notes hH hl.hr, off_old (W' := W') hl.O.notes hH hl.ho⟩, hN, mr, mo, ms⟩, h.k.then hu (fun i hi e => absurd e (hk i hi)), h.l1, h.l2, h.l3, fun q hq => hu.heap (h.gg q hq) (fun e => e.elim (hl.g q hq).1.1 (hl.g q hq).1.2), fun q hq => (hH q hq).elim (fun e => Nat.lt_of_lt_of_le (h.hh q e) hu.size) (·.2), fun z hz => (h.y z hz).upd hu h8⟩
theorem TB.toR (h : TB w W a r o Na sa la Nr sr lr n G H Y) (hl : Lie3 W B a va za sa la r vr zr sr lr o vo zo so lo G H) (ma : za.map (·.2) = Na) (mr : zr.map (·.2) = Nr) (mo : zo.length = n) (ms : so = n) (hto : RefTo W W' B r vr v' z' s' l') (hN : z'.map (·.2) = N')
    (hH : ∀ q ∈ H', q ∈ H ∨ (W.heap.size ≤ q ∧ q < W'.heap.size)) (hz : ∀ z ∈ z', z ∈ zr ∨ Off H' z) : TB w W' a r o Na sa la N' s' l' n G H' Y := by
  have hu := hto.upd
  have h8 := hl.R.not8
  have lb := hl.R.lt
  have lla := hl.A.lt
  have llr := hl.R.lt
  have llo := hl.O.lt
  have k1 := h.l1
  have k2 := h.l2
  have k3 := h.l3
  have hk : ∀ k, k < w.heap.size → ¬ (k = r ∨ vr.ownBlock = some k) := fun k hk e => e.elim (by omega) fun e => by have := (hl.R.notes.rows.lt e).1; omega
  have ba : ¬ (a = r ∨ vr.ownBlock = some a) := fun e => e.elim hl.ar fun e => by have := (hl.R.notes.rows.lt e).1; omega
  have oa : ∀ k, va.ownBlock = some k → ¬ (k = r ∨ vr.ownBlock = some k) := fun k hk e => e.elim (fun e => by have := (hl.A.notes.rows.lt hk).1; omega) fun e => hl.d1 k hk e
  have bo : ¬ (o = r ∨ vr.ownBlock = some o) := fun e => e.elim hl.ro.symm fun e => by have := (hl.R.notes.rows.lt e).1; omega
  have oo : ∀ k, vo.ownBlock = some k → ¬ (k = r ∨ vr.ownBlock = some k) := fun k hk e => e.elim (fun e => by have := (hl.O.notes.rows.lt hk).1; omega) fun e => hl.d3 k e hk
  refine ⟨⟨B, va, za, v', z', vo, zo, so, lo, ⟨⟨hu.heap hl.A.blk ba, hl.A.notes.upd hu oa h8, hl.A.lt, hl.A.nm⟩, hto.bag, ⟨hu.heap hl.O.blk bo, hl.O.notes.upd hu oo h8, hl.O.lt, hl.O.nm⟩, Nat.le_trans hl.sz hu.size, hl.ar, hl.ao, hl.ro, fun k hk e => hl.d1 k hk (hto.new k (hl.A.notes.rows.lt hk).2.1 e), hl.d2, fun k hk e => hl.d3 k (hto.new k (hl.O.notes.rows.lt e).2.1 hk) e, fun q hq => ⟨(hl.g q hq).1, ⟨(hl.g q hq).2.1.1, fun e => (hl.g q hq).2.1.2 (hto.new _ (Array.getElem?_eq_some_iff.1 (h.gg q hq)).1 e)⟩, (hl.g q hq).2.2⟩, off_old (W' := W') hl.A.notes hH hl.ha, fun z hm => (hz z hm).elim (off_old (W' := W') hl.R.notes hH hl.hr z) id, off_old (W' := W') hl.O.notes hH hl.ho⟩, ma, hN, mo, ms⟩, h.k.then hu (fun i hi e => absurd e (hk i hi)), h.l1, h.l2, h.l3, fun q hq => hu.heap (h.gg q hq) (fun e => e.elim (hl.g q hq).2.1.1 (hl.g q hq).2.1.2), fun q hq => (hH q hq).elim (fun e => Nat.lt_of_lt_of_le (h.hh q e) hu.size) (·.2), fun z hz => (h.y z hz).upd hu h8⟩
theorem TB.toO (h : TB w W a r o Na sa la Nr sr lr n G H Y) (hl : Lie3 W B a va za sa la r vr zr sr lr o vo zo so lo G H) (ma : za.map (·.2) = Na) (mr : zr.map (·.2) = Nr) (mo : zo.length = n) (ms : so = n) (hto : BagTo W W' B o vo v' z' s' l') (hN : z'.length = n' ∧ s' = n')
    (hH : ∀ q ∈ H', q ∈ H ∨ (W.heap.size ≤ q ∧ q < W'.heap.size)) (hz : ∀ z ∈ z', z ∈ zo ∨ Off H' z) : TB w W' a r o Na sa la Nr sr lr n' G H' Y := by
  have hu := hto.upd
  have h8 := hl.O.not8
  have lb := hl.O.lt
  have lla := hl.A.lt
  have llr := hl.R.lt
  have llo := hl.O.lt
  have k1 := h.l1
  have k2 := h.l2
  have k3 := h.l3
  have hk : ∀ k, k < w.heap.size → ¬ (k = o ∨ vo.ownBlock = some k) := fun k hk e => e.elim (by omega) fun e => by have := (hl.O.notes.rows.lt e).1; omega
  have ba : ¬ (a = o ∨ vo.ownBlock = some a) := fun e => e.elim hl.ao fun e => by have := (hl.O.notes.rows.lt e).1; omega
  have oa : ∀ k, va.ownBlock = some k → ¬ (k = o ∨ vo.ownBlock = some k) := fun k hk e => e.elim (fun e => by have := (hl.A.notes.rows.lt hk).1; omega) fun e => hl.d2 k hk e
  have br : ¬ (r = o ∨ vo.ownBlock = some r) := fun e => e.elim hl.ro fun e => by have := (hl.O.notes.rows.lt e).1; omega
  have or : ∀ k, vr.ownBlock = some k → ¬ (k = o ∨ vo.ownBlock = some k) := fun k hk e => e.elim (fun e => by have := (hl.R.notes.rows.lt hk).1; omega) fun e => hl.d3 k hk e
  refine ⟨⟨B, va, za, vr, zr, v', z', s', l', ⟨⟨hu.heap hl.A.blk ba, hl.A.notes.upd hu oa h8, hl.A.lt, hl.A.nm⟩, ⟨hu.heap hl.R.blk br, hl.R.notes.upd hu or h8, hl.R.lt, hl.R.nm⟩, hto.bag, Nat.le_trans hl.sz hu.size, hl.ar, hl.ao, hl.ro, hl.d1, fun k hk e => hl.d2 k hk (hto.new k (hl.A.notes.rows.lt hk).2.1 e), fun k hk e => hl.d3 k hk (hto.new k (hl.R.notes.rows.lt hk).2.1 e), fun q hq => ⟨(hl.g q hq).1, (hl.g q hq).2.1, ⟨(hl.g q hq).2.2.1, fun e => (hl.g q hq).2.2.2 (hto.new _ (Array.getElem?_eq_some_iff.1 (h.gg q hq)).1 e)⟩⟩, off_old (W' := W') hl.A.notes hH hl.ha, off_old (W' := W') hl.R.notes hH hl.hr, fun z hm => (hz z hm).elim (off_old (W' := W') hl.O.notes hH hl.ho z) id⟩, ma, mr, hN.1, hN.2⟩, h.k.then hu (fun i hi e => absurd e (hk i hi)), h.l1, h.l2, h.l3, fun q hq => hu.heap (h.gg q hq) (fun e => e.elim (hl.g q hq).2.2.1 (hl.g q hq).2.2.2), fun q hq => (hH q hq).elim (fun e => Nat.lt_of_lt_of_le (h.hh q e) hu.size) (·.2), fun z hz => (h.y z hz).upd hu h8⟩

theorem TB.kept (h : TB w W a r o Na sa la Nr sr lr n G H Y) (hu : Kept W W') : TB w W' a r o Na sa la Nr sr lr n G H Y := by
  obtain ⟨B, va, za, vr, zr, vo, zo, so, lo, hl, ma, mr, mo, ms⟩ := h.ex
  exact h.toA hl ma mr mo ms ((BagTo.refl hl.A).kept hu) ma (fun q hq => .inl hq) fun z hz => .inl hz
theorem TB.drew (h : TB w W a r o Na sa la Nr sr lr n G H Y) : TB w W.drew a r o Na sa la Nr sr lr n G H Y := h.kept (Upd.refl _ _).drew
theorem TB.less (h : TB w W a r o Na sa la Nr sr lr n G H Y) {G' : List (Nat × Obj)} {H' : List Nat} {Y' : List (EnvC × Note)} (hG : ∀ q ∈ G', q ∈ G) (hH : ∀ q ∈ H', q ∈ H) (hY : ∀ z ∈ Y', z ∈ Y) : TB w W a r o Na sa la Nr sr lr n G' H' Y' := by
  obtain ⟨B, va, za, vr, zr, vo, zo, so, lo, hl, ma, mr, mo, ms⟩ := h.ex
  have hoff : ∀ z, Off H z → Off H' z := fun z hz hn => by
    obtain ⟨q, q1, q2⟩ := hz hn
    exact ⟨q, q1, fun e => q2 (hH q e)⟩
  exact ⟨⟨B, va, za, vr, zr, vo, zo, so, lo, ⟨hl.A, hl.R, hl.O, hl.sz, hl.ar, hl.ao, hl.ro, hl.d1, hl.d2, hl.d3, fun q hq => hl.g q (hG q hq), fun z hz => hoff z (hl.ha z hz), fun z hz => hoff z (hl.hr z hz), fun z hz => hoff z (hl.ho z hz)⟩, ma, mr, mo, ms⟩, h.k, h.l1, h.l2, h.l3, fun q hq => h.gg q (hG q hq), fun q hq => h.hh q (hH q hq), fun z hz => h.y z (hY z hz)⟩
theorem TB.alloc (h : TB w W a r o Na sa la Nr sr lr n G H Y) (ob : Obj) : TB w (W.alloc ob) a r o Na sa la Nr sr lr n ((W.heap.size, ob) :: G) H Y := by
  have hk : Kept W (W.alloc ob) := (Upd.refl _ W).alloc ob
  obtain ⟨B, va, za, vr, zr, vo, zo, so, lo, hl, ma, mr, mo, ms⟩ := h.ex
  have h' := h.kept hk
  refine ⟨⟨B, va, za, vr, zr, vo, zo, so, lo, ⟨hl.A.kept hk, hl.R.kept hk, hl.O.kept hk, Nat.le_trans hl.sz hk.size, hl.ar, hl.ao, hl.ro, hl.d1, hl.d2, hl.d3, fun q hq => ?_, hl.ha, hl.hr, hl.ho⟩, ma, mr, mo, ms⟩, h'.k, h.l1, h.l2, h.l3, fun q hq => ?_, h'.hh, h'.y⟩
  · rcases List.mem_cons.1 hq with rfl | hq
    · have s1 := hl.A.size
      have s2 := hl.R.size
      have s3 := hl.O.size
      dsimp only
      exact ⟨⟨by omega, hl.A.notes.rows.far (.inr (Nat.le_refl _))⟩, ⟨by omega, hl.R.notes.rows.far (.inr (Nat.le_refl _))⟩, ⟨by omega, hl.O.notes.rows.far (.inr (Nat.le_refl _))⟩⟩
    · exact hl.g q hq
  · rcases List.mem_cons.1 hq with rfl | hq
    · exact heap_alloc_new W ob
    · exact h'.gg q hq
theorem TB.addY (h : TB w W a r o Na sa la Nr sr lr n G H Y) {y : EnvC} {m : Note} {K : Nat} (hf : Fresh K W y m) : TB w W a r o Na sa la Nr sr lr n G H ((y, m) :: Y) := by
  refine ⟨h.ex, h.k, h.l1, h.l2, h.l3, h.gg, h.hh, fun z hz => ?_⟩
  rcases List.mem_cons.1 hz with rfl | hz
  · exact hf.mono (Nat.zero_le _)
  · exact h.y z hz
/-- a block of bytes that was not there: no bag has it -/
theorem TB.addH (h : TB w W a r o Na sa la Nr sr lr n G H Y) (hu : Kept W W') {q : Nat} (h1 : W.heap.size ≤ q) (h2 : q < W'.heap.size) : TB w W' a r o Na sa la Nr sr lr n G (q :: H) Y := by
  obtain ⟨B, va, za, vr, zr, vo, zo, so, lo, hl, ma, mr, mo, ms⟩ := h.ex
  exact h.toA hl ma mr mo ms ((BagTo.refl hl.A).kept hu) ma (fun p hp => by
    rcases List.mem_cons.1 hp with rfl | hp
    · exact .inr ⟨h1, h2⟩
    · exact .inl hp) fun z hz => .inl hz
/-- bytes of such a block are written -/
theorem TB.write (h : TB w W a r o Na sa la Nr sr lr n G H Y) {q : Nat} (hq : q ∈ H) (hl0 : w.heap.size ≤ q) {cs : Array Value} (h8 : W.heap[q]? = some (.cells cs 5 (0, 0))) (hG : ∀ p ∈ G, ∀ cs fr, p.2 ≠ .cells cs 5 fr) (hu : Upd (fun k => k = q) W W') : TB w W' a r o Na sa la Nr sr lr n G H [] := by
  obtain ⟨B, va, za, vr, zr, vo, zo, so, lo, hl, ma, mr, mo, ms⟩ := h.ex
  have na : a ≠ q := fun e => by subst e; have := hl.A.blk; rw [h8] at this; cases this
  have nr : r ≠ q := fun e => by subst e; have := hl.R.blk; rw [h8] at this; cases this
  have no : o ≠ q := fun e => by subst e; have := hl.O.blk; rw [h8] at this; cases this
  have hv : ∀ v zs, NotesAt W B v zs → v.ownBlock ≠ some q := fun v zs hn e => by
    obtain ⟨_, _, cur, hc⟩ := hn.rows.lt e
    rw [h8] at hc; cases hc
  have hn : ∀ v zs, NotesAt W B v zs → (∀ z ∈ zs, Off H z) → NotesAt W' B v zs := fun v zs hn ho => ⟨hn.rows.upd hu fun k hk e => by subst e; exact hv v zs hn hk, fun z hz => by
    have hf := hn.ok z hz
    by_cases hne : z.2.2.2 = []
    · exact ⟨⟨hf.at_.f, hf.at_.t, hf.at_.n, .inl hne, hf.at_.len⟩, .inl hne, fun e => absurd hne e⟩
    · obtain ⟨p, p1, p2⟩ := ho z hz hne
      have hpq : p ≠ q := fun e => p2 (by rw [e]; exact hq)
      obtain ⟨b', cs', e1, e2⟩ := hf.own.resolve_left hne
      obtain ⟨b2, off2, e3, e4⟩ := hf.at_.b.resolve_left hne
      obtain ⟨b3, e5, _, e6⟩ := hf.far hne
      rw [p1] at e1 e3 e5
      simp only [Option.some.injEq, Addr.mk.injEq, and_true] at e1 e3 e5
      subst e1 e5
      obtain ⟨e3, e3'⟩ := e3
      subst e3 e3'
      exact ⟨⟨hf.at_.f, hf.at_.t, hf.at_.n, .inr ⟨p, 0, p1, fun k hk => hu.cell (e4 k hk) hpq⟩, hf.at_.len⟩, .inr ⟨p, cs', p1, hu.heap e2 hpq⟩, fun _ => ⟨p, p1, Nat.zero_le _, hu.lt e6⟩⟩⟩
  refine ⟨⟨B, va, za, vr, zr, vo, zo, so, lo, ⟨⟨hu.heap hl.A.blk na, hn _ _ hl.A.notes hl.ha, hl.A.lt, hl.A.nm⟩, ⟨hu.heap hl.R.blk nr, hn _ _ hl.R.notes hl.hr, hl.R.lt, hl.R.nm⟩, ⟨hu.heap hl.O.blk no, hn _ _ hl.O.notes hl.ho, hl.O.lt, hl.O.nm⟩, Nat.le_trans hl.sz hu.size, hl.ar, hl.ao, hl.ro, hl.d1, hl.d2, hl.d3, hl.g, hl.ha, hl.hr, hl.ho⟩, ma, mr, mo, ms⟩, h.k.then hu (fun i hi e => by omega), h.l1, h.l2, h.l3, fun p hp => hu.heap (h.gg p hp) (fun e => ?_), fun p hp => Nat.lt_of_lt_of_le (h.hh p hp) hu.size, by simp⟩
  have := h.gg p hp
  rw [e, h8] at this
  simp only [Option.some.injEq] at this
  exact hG p hp _ _ this.symm
theorem TB.setVar {g : Nat} {x : EnvC} (h : TB w W a r o Na sa la Nr sr lr n ((g, .cells (envA x) 29) :: G) H Y) (y : EnvC) (hg0 : w.heap.size ≤ g) (hG : ∀ q ∈ G, q.1 ≠ g) : TB w (W.setRow g (envA y)) a r o Na sa la Nr sr lr n ((g, .cells (envA y) 29) :: G) H Y := by
  obtain ⟨B, va, za, vr, zr, vo, zo, so, lo, hl, ma, mr, mo, ms⟩ := h.ex
  have hv : EnvAt W g x := h.gg _ List.mem_cons_self
  have hu : Upd (fun k => k = g) W (W.setRow g (envA y)) := (Upd.refl _ _).setRow _ fun _ => rfl
  have h8 : ∀ k, k = g → ∀ cs fr, W.heap[k]? ≠ some (.cells cs 5 fr) := fun k hk cs fr e => by subst hk; rw [hv] at e; cases e
  obtain ⟨⟨a1, a2⟩, ⟨r1, r2⟩, o1, o2⟩ := hl.g _ List.mem_cons_self
  dsimp only at a1 a2 r1 r2 o1 o2
  refine ⟨⟨B, va, za, vr, zr, vo, zo, so, lo, ⟨⟨hu.heap hl.A.blk a1.symm, hl.A.notes.upd hu (fun k hk e => by subst e; exact a2 hk) h8, hl.A.lt, hl.A.nm⟩, ⟨hu.heap hl.R.blk r1.symm, hl.R.notes.upd hu (fun k hk e => by subst e; exact r2 hk) h8, hl.R.lt, hl.R.nm⟩, ⟨hu.heap hl.O.blk o1.symm, hl.O.notes.upd hu (fun k hk e => by subst e; exact o2 hk) h8, hl.O.lt, hl.O.nm⟩, Nat.le_trans hl.sz hu.size, hl.ar, hl.ao, hl.ro, hl.d1, hl.d2, hl.d3, fun q hq => ?_, hl.ha, hl.hr, hl.ho⟩, ma, mr, mo, ms⟩, h.k.then hu (fun i hi e => by omega), h.l1, h.l2, h.l3, fun q hq => ?_, fun q hq => Nat.lt_of_lt_of_le (h.hh q hq) hu.size, fun z hz => (h.y z hz).upd hu h8⟩
  · rcases List.mem_cons.1 hq with rfl | hq
    · exact ⟨⟨a1, a2⟩, ⟨r1, r2⟩, o1, o2⟩
    · exact hl.g q (List.mem_cons_of_mem _ hq)
  · rcases List.mem_cons.1 hq with rfl | hq
    · exact hv.setRow y
    · exact hu.heap (h.gg q (List.mem_cons_of_mem _ hq)) (hG q hq)
theorem TB.var (h : TB w W a r o Na sa la Nr sr lr n G H Y) {g : Nat} {x : EnvC} (hq : (g, .cells (envA x) 29) ∈ G) : EnvAt W g x := h.gg _ hq
end
end Go.Proofs.Ytkfekkemfahepaa
