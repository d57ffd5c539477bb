/- tree: slices.Repeat, slices.Clone of digests. -/
import Derived.Test.YtjimamgghkgdeaaTreeD
import Derived.Laws.MakeOwn
namespace Go.Proofs.Ytjimamgghkgdeaa
open Go.RowKit

/-- copy, of elements of many cells -/
theorem run_copy_rows {P : Program} (w : World) (dT sT ty elem : TypeId) (size g o dLen dCap : Nat) (a : Addr) (sLen sCap : Nat) (cur : Array Value) (t : TypeId) (cs : List Value)
    (hu : P.underlying dT = some (.slice elem)) (hs : (P.info? elem).map (·.size) = some size)
    (hg : w.heap[g]? = some (.cells cur t (0, 0))) (hn : cs.length = Nat.min sLen dLen * size)
    (hsrc : ∀ j v, cs[j]? = some v → w.cell? (a.add j) = some v) (hfit : o + cs.length ≤ cur.size) (h1 : ∀ v ∈ cs, v.oneCell' = true) :
    (Builtin.copy_ #[dT, sT] ty #[.slice (some ⟨g, o, none⟩) dLen dCap, .slice (some a) sLen sCap]).run P w =
      .ok (goInt (Nat.min sLen dLen)) (w.setRow g (cur.toList.take o ++ cs ++ cur.toList.drop (o + cs.length)).toArray) := by
  have hl := run_loadCells_list (P := P) w a cs hsrc
  have hst := run_storeCells_at P g o t cs 0 cur w hg (by simpa using hfit) h1
  cases hq : P.info? elem with
  | none => simp [hq] at hs
  | some i =>
    have hi : i.size = size := by simpa [hq] using hs
    simp only [Nat.add_zero] at hst
    simp [Builtin.copy_, run_underlying hu, Builtin.lenOf, Builtin.firstCells, sizeOf, typeInfo, hq, hi, ← hn, hl, hst]
theorem wpList_copy_rows {P : Program} {w : World} {ops : Array Oper} {rest : List Oper} {o : Oper} {a : Act} {Q : Exit → Act → World → Prop} (hgd : o.guard = none) (d s : Operand) (dT sT : TypeId)
    (ho : o.op = .call { callee := .builtin .copy, args := #[d, s], argTypes := #[dT, sT] }) (elem : TypeId) (size : Nat) (hu : P.underlying dT = some (.slice elem)) (hsz : (P.info? elem).map (·.size) = some size)
    (g off dLen dCap : Nat) (ad : Addr) (sLen sCap : Nat) (hd : a.eval d = .slice (some ⟨g, off, none⟩) dLen dCap) (hs : a.eval s = .slice (some ad) sLen sCap)
    (cur : Array Value) (t : TypeId) (hg : w.heap[g]? = some (.cells cur t (0, 0))) (cs : List Value) (hn : cs.length = Nat.min sLen dLen * size)
    (hsrc : ∀ j v, cs[j]? = some v → w.cell? (ad.add j) = some v) (hfit : off + cs.length ≤ cur.size) (h1 : ∀ v ∈ cs, v.oneCell' = true)
    (h : wpList P ops Q rest (a.put o.dst (goInt (Nat.min sLen dLen))) (w.setRow g (cur.toList.take off ++ cs ++ cur.toList.drop (off + cs.length)).toArray)) : wpList P ops Q (o :: rest) a w := by
  refine wpList_plain hgd fun K hK => ?_
  have hrun := run_copy_rows (P := P) w dT sT o.type elem size g off dLen dCap ad sLen sCap cur t cs hu hsz hg hn hsrc hfit h1
  unfold Oper.wp execOp
  simp only [ho, resolve, invoke, builtin, Sem.run_bind, Sem.run_pure, Result.andThen_ok, List.map_toArray, List.map_cons, List.map_nil, hd, hs, hrun]
  exact hK _ _ h

theorem step_copy_rows {P : Program} {w : World} {ops : Array Oper} {o : Oper} {a : Act} {K : Act → World → Prop} {Q : Exit → Act → World → Prop} {E : Prop} (hgd : o.guard = none) (d s : Operand) (dT sT : TypeId)
    (ho : o.op = .call { callee := .builtin .copy, args := #[d, s], argTypes := #[dT, sT] }) (elem : TypeId) (size : Nat) (hu : P.underlying dT = some (.slice elem)) (hsz : (P.info? elem).map (·.size) = some size)
    (g off dLen dCap : Nat) (ad : Addr) (sLen sCap : Nat) (hd : a.eval d = .slice (some ⟨g, off, none⟩) dLen dCap) (hs : a.eval s = .slice (some ad) sLen sCap)
    (cur : Array Value) (t : TypeId) (hg : w.heap[g]? = some (.cells cur t (0, 0))) (cs : List Value) (hn : cs.length = Nat.min sLen dLen * size)
    (hsrc : ∀ j v, cs[j]? = some v → w.cell? (ad.add j) = some v) (hfit : off + cs.length ≤ cur.size) (h1 : ∀ v ∈ cs, v.oneCell' = true)
    (h : K (a.put o.dst (goInt (Nat.min sLen dLen))) (w.setRow g (cur.toList.take off ++ cs ++ cur.toList.drop (off + cs.length)).toArray)) : if Region.wanted o (yielded ops a.tmps) = true then o.wp P a w K Q else E := by
  rw [if_pos (by unfold Region.wanted; rw [hgd])]
  have hrun := run_copy_rows (P := P) w dT sT o.type elem size g off dLen dCap ad sLen sCap cur t cs hu hsz hg hn hsrc hfit h1
  unfold Oper.wp execOp
  simp only [ho, resolve, invoke, builtin, Sem.run_bind, Sem.run_pure, Result.andThen_ok, List.map_toArray, List.map_cons, List.map_nil, hd, hs, hrun]
  exact h

theorem bits_Mul (x y : Nat) (hx : x < 18446744073709551616) (hy : y < 18446744073709551616) (w : World) :
    Calls Try.prog 60 #[.int .u64 x, .int .u64 y] w fun e w' => e = .returned (.tuple #[.int .u64 ((x * y / 18446744073709551616 : Nat) : Int), .int .u64 ((x * y % 18446744073709551616 : Nat) : Int)]) ∧ w = w' := by
  have HM := Lib.hid (bits_Mul64 x y hx hy w)
  generalize x * y / 18446744073709551616 = h at *
  generalize x * y % 18446744073709551616 = l at *
  clear hx hy
  go_enter Try.func60, Try.ntmps60
  go_wp2_with fail
  refine HM.out.mono ?_
  rintro e w' ⟨rfl, rfl⟩
  go_wp2
  go_ret2
  exact ⟨rfl, rfl⟩

def vsD (D : List Dig) : List Value := encB (flatD D)
theorem vsD_length (D : List Dig) : (vsD D).length = D.length * 32 := by rw [vsD, encB_length, flatD_length]
theorem vsD_append (D E : List Dig) : vsD (D ++ E) = vsD D ++ vsD E := by simp [vsD, flatD, encB_append]
theorem vsD_take (D : List Dig) (k : Nat) : (vsD D).take (k * 32) = vsD (D.take k) := by rw [vsD, vsD, flatD_take, encB_take]
theorem vsD_drop (D : List Dig) (k : Nat) : (vsD D).drop (k * 32) = vsD (D.drop k) := by rw [vsD, vsD, flatD_drop, encB_drop]
theorem made_digs (n : Nat) : (madeCells (dA dig0) (n * 32)).toList = vsD (List.replicate n dig0) := by
  have hz : vsD (List.replicate n dig0) = List.replicate (n * 32) (.int .u8 0) := by
    have hf : flatD (List.replicate n dig0) = List.replicate (n * 32) 0 := by
      induction n with
      | zero => rfl
      | succ n ih => rw [List.replicate_succ, show flatD (dig0 :: List.replicate n dig0) = dig0.1 ++ flatD (List.replicate n dig0) by simp [flatD], ih, show dig0.1 = List.replicate 32 0 from rfl, List.replicate_append_replicate]; congr 1; omega
    rw [vsD, hf, encB, List.map_replicate]; rfl
  rw [hz]
  apply List.ext_getElem
  · simp [madeCells]
  · intro i h1 h2
    have h3 : ∀ j, j < 32 → (dA dig0)[j]! = Value.int .u8 0 := by
      intro j hj
      have he : dA dig0 = (List.replicate 32 (Value.int .u8 0)).toArray := by unfold dA encB dig0; rw [List.map_replicate]; rfl
      rw [getElem!_pos (dA dig0) j (by rw [dA_size]; exact hj)]
      simp only [he, List.getElem_toArray, List.getElem_replicate]
    simp only [madeCells, Array.getElem_toList, Array.getElem_map, Array.getElem_range, List.getElem_replicate, dA_size]
    exact h3 _ (Nat.mod_lt _ (by omega))
def makeRow (t : TypeId) (l c : Value) : Sem Next := do pure (.value (← Instr.makeSlice t l c))
@[go_sem ↓] theorem exec_make_digs (ρ : Operand → Value) (dst : Option Tmp) (l c : Operand) (ty : TypeId) (pos : String) (after : Array Edge) (guard : Option (Nat × Bool)) :
    execOp ρ ⟨dst, .makeSlice 35 l c, ty, pos, after, guard⟩ = makeRow 35 (ρ l) (ρ c) := rfl
theorem dig_info3 : (Try.prog.info? 40).map (fun i => (i.zero, i.size, i.bytes)) = some (some (.agg (dA dig0)), 32, 32) := by kernel_rfl
set_option maxRecDepth 20000 in
theorem run_make_digs (n : Nat) (hn : n ≤ 100000) (W : World) : ∃ W', (makeRow 35 (.int .i64 n) (.int .i64 n)).run Try.prog W = .ok (.value (.slice (some ⟨W.heap.size, 0, none⟩) n n)) W' ∧ Blk W' W.heap.size 40 (vsD (List.replicate n dig0)) ∧ Kept W W' := by
  obtain ⟨i, hi, h2⟩ := Option.map_eq_some_iff.1 dig_info3
  simp only [Prod.mk.injEq] at h2
  have h := run_make (P := Try.prog) W 35 40 i (.agg (dA dig0)) Try.underlying35 hi h2.1 .i64 .i64 (n : Int) (n : Int) (by omega) (by omega) (by rw [h2.2.2]; omega) (by omega)
  rw [h2.2.1, Int.toNat_natCast] at h
  change _ = Result.ok _ (W.alloc (.cells (madeCells (dA dig0) (n * 32)) 40)) at h
  refine ⟨W.alloc (.cells (madeCells (dA dig0) (n * 32)) 40), by simp only [makeRow, Sem.run_bind, h, Result.andThen_ok, Sem.run_pure], ?_, (Upd.refl _ W).alloc _⟩
  have := Blk.new W 40 (vsD (List.replicate n dig0))
  rw [← made_digs, Array.toArray_toList] at this
  rw [← made_digs]
  exact this

theorem slice_digs_l (W : World) (g len cap l : Nat) (Li : Int) (hL : Li = l) (h1 : l ≤ len) (h3 : l < cap) :
    (Instr.sliceAt 35 (.slice (some ⟨g, 0, none⟩) len cap) (some (.int .i64 Li)) none none).run Try.prog W = .ok (.slice (some ⟨g, l * 32, none⟩) (len - l) (cap - l)) W := by
  subst hL
  have ht : Try.prog.underlying 35 = some (.slice (Try.prog.elem 35)) := by rw [ds_elem]; exact Try.underlying35
  have := run_slice_l (P := Try.prog) (w := W) 35 (some ⟨g, 0, none⟩) len cap ht .i64 (l : Int) (by omega) (by omega)
  rw [run_sliceAt_slice (h := ht), this, ds_elem, dig_sizeOf]
  simp only [Result.andThen, sliced, Int.toNat_natCast, Option.map_some, add_none, Nat.zero_add]
  rw [if_neg (by omega)]
theorem slice_digs_h (W : World) (g len cap h : Nat) (Hi : Int) (hH : Hi = h) (h1 : h ≤ cap) (h3 : 0 < cap) :
    (Instr.sliceAt 35 (.slice (some ⟨g, 0, none⟩) len cap) none (some (.int .i64 Hi)) none).run Try.prog W = .ok (.slice (some ⟨g, 0, none⟩) h cap) W := by
  subst hH
  have ht : Try.prog.underlying 35 = some (.slice (Try.prog.elem 35)) := by rw [ds_elem]; exact Try.underlying35
  have := run_slice_h (P := Try.prog) (w := W) 35 (some ⟨g, 0, none⟩) len cap ht .i64 (h : Int) (by omega) (by omega)
  rw [run_sliceAt_slice (h := ht), this, ds_elem, dig_sizeOf]
  simp only [Result.andThen, sliced, Int.toNat_natCast, Option.map_some, add_none, Nat.zero_mul, Nat.sub_zero, Nat.add_zero]
  rw [if_neg (by omega)]
/-- m of them, of n -/
def repD (n m : Nat) (d : Dig) : List Dig := List.replicate m d ++ List.replicate (n - m) dig0
theorem copy_vs (D E : List Dig) (o : Nat) : ((vsD D).toArray.toList.take (o * 32) ++ vsD E ++ (vsD D).toArray.toList.drop (o * 32 + (vsD E).length)).toArray = (vsD (D.take o ++ E ++ D.drop (o + E.length))).toArray := by
  rw [List.toList_toArray, vsD_length, ← Nat.add_mul, vsD_take, vsD_drop, vsD_append, vsD_append]

theorem repD_more {n m k : Nat} (d : Dig) (h : m + k ≤ n) : (repD n m d).take m ++ List.replicate k d ++ (repD n m d).drop (m + (List.replicate k d).length) = repD n (m + k) d := by
  have h1 : (List.replicate m d).length = m := List.length_replicate
  rw [List.length_replicate, repD, List.take_append_of_le_length (by omega), List.take_of_length_le (by omega), List.replicate_append_replicate, List.drop_append, List.drop_of_length_le (by omega), h1, List.nil_append, List.drop_replicate, repD]
  congr 2; omega
theorem repD_length (n m : Nat) (d : Dig) (h : m ≤ n) : (repD n m d).length = n := by simp [repD]; omega

set_option maxHeartbeats 2000000 in
set_option maxRecDepth 20000 in
theorem digs_Repeat {w : World} {bx ox : Nat} {d : Dig} (hx : w.rangeAt bx ox (encB d.1)) (n : Nat) (h1 : 1 ≤ n) (hn : n ≤ 1024) :
    Calls Try.prog 45 #[.slice (some ⟨bx, ox, none⟩) 1 1, .int .i64 n] w fun e W => ∃ v, e = .returned v ∧ OwnD W w.heap.size v (List.replicate n d) ∧ Kept w W := by
  have HM := Lib.hid (bits_Mul 1 n (by omega) (by omega) w)
  rw [show 1 * n / 18446744073709551616 = 0 by omega, show 1 * n % 18446744073709551616 = n by omega] at HM
  obtain ⟨w1, hmk, hb1, hk1⟩ := run_make_digs n (by omega) w
  have HX := Lib.hid (And.intro hb1 (And.intro hk1 (And.intro hx (And.intro h1 hn))))
  have hn0 : decide ((n : Int) < 0) = false := by rw [decide_eq_false_iff_not]; omega
  have hu1 : IntKind.u64.wrap (n : Int) = (n : Int) := by rw [IntKind.wrap_u64]; omega
  have hi1 : IntKind.i64.wrap (n : Int) = (n : Int) := by rw [IntKind.wrap_i64]; omega
  have hnl : ((n : Nat) : Int) ≤ 1024 := by omega
  have hnp : (1 : Int) ≤ (n : Int) := by omega
  clear hb1 hk1 hx h1 hn
  go_enter Try.func45, Try.ntmps45
  go_wp2_with fail
  refine HM.out.mono ?_
  rintro e w' ⟨rfl, rfl⟩
  have hb2 : Blk (w1.setRow w.heap.size (((vsD (List.replicate n dig0)).toArray.toList.take 0 ++ vsD [d] ++ (vsD (List.replicate n dig0)).toArray.toList.drop (0 + (vsD [d]).length)).toArray)) w.heap.size 40 (vsD (repD n 1 d)) := by
    have h0 := copy_vs (List.replicate n dig0) [d] 0
    rw [Nat.zero_mul] at h0
    rw [h0]
    have h1 : (List.replicate n dig0).take 0 ++ [d] ++ (List.replicate n dig0).drop (0 + [d].length) = repD n 1 d := by
      simp [repD, List.drop_replicate]
    rw [h1]
    exact HX.out.1.setRow _
  have hk2 : Kept w (w1.setRow w.heap.size (((vsD (List.replicate n dig0)).toArray.toList.take 0 ++ vsD [d] ++ (vsD (List.replicate n dig0)).toArray.toList.drop (0 + (vsD [d]).length)).toArray)) := Upd.setRow HX.out.2.1 _ _ (fun h => absurd h (Nat.lt_irrefl _))
  generalize hW2 : w1.setRow w.heap.size (((vsD (List.replicate n dig0)).toArray.toList.take 0 ++ vsD [d] ++ (vsD (List.replicate n dig0)).toArray.toList.drop (0 + (vsD [d]).length)).toArray) = w2 at *
  have HY := Lib.hid (And.intro hb2 hk2)
  have HW2 := Lib.hid hW2
  clear hb2 hk2 hW2
  have hmin : Nat.min 1 n = 1 := by have := HX.out.2.2.2.1; show min 1 n = 1; omega
  have hd1 : vsD [d] = encB d.1 := by simp [vsD, flatD]
  have HMN := Lib.hid (And.intro hmin hd1)
  clear hmin hd1
  go_wp2_with (refine wpList_copy_rows rfl (.tmp 31) (.tmp 32) 35 35 rfl 40 32 Try.underlying35 sizeOf40 w.heap.size 0 n n ⟨bx, ox, none⟩ 1 1 rfl rfl (vsD (List.replicate n dig0)).toArray 40 HX.out.1 (vsD [d]) (by rw [vsD_length, HMN.out.1]; rfl) (fun j v hv => by rw [add_none]; rw [HMN.out.2] at hv; exact (HX.out.2.1.cell (HX.out.2.2.1 j v hv) id)) (by have := HX.out.2.2.2.1; rw [vsD_length, List.size_toArray, vsD_length, List.length_replicate, List.length_singleton]; omega) (encB_one _) ?_; rw [HMN.out.1, HW2.out])
  clear hmk hn0 hu1 hi1
  go_loopw [8] (fun i wr => ∃ m : Nat, 1 ≤ m ∧ m ≤ n ∧ i = .int .i64 m ∧ Blk wr w.heap.size 40 (vsD (repD n m d)) ∧ Kept w wr) (fun i _ => n - (intOf i).toNat)
  case atStart => exact ⟨1, Nat.le_refl _, HX.out.2.2.2.1, rfl, HY.out.1, HY.out.2⟩
  case round =>
    obtain ⟨m, hm1, hmn, rfl, hb, hk⟩ := hrel
    rcases Nat.lt_or_ge m n with hlt | hge
    · have hlt' : (m : Int) < (n : Int) := by omega
      have hm1024 : (m : Int) < 1024 := by omega
      have f1 : ∀ W : World, (Instr.sliceAt 35 (.slice (some ⟨w.heap.size, 0, none⟩) n n) (some (.int .i64 (m : Int))) none none).run Try.prog W = .ok (.slice (some ⟨w.heap.size, m * 32, none⟩) (n - m) (n - m)) W := fun W => slice_digs_l W _ n n m _ rfl hmn hlt
      have f2 : ∀ W : World, (Instr.sliceAt 35 (.slice (some ⟨w.heap.size, 0, none⟩) n n) none (some (.int .i64 (m : Int))) none).run Try.prog W = .ok (.slice (some ⟨w.heap.size, 0, none⟩) m n) W := fun W => slice_digs_h W _ n n m _ rfl hmn (by omega)
      have HB := Lib.hid (And.intro hb (And.intro hk (And.intro hm1 hlt)))
      clear hb hk hm1 hmn
      go_wp2_with fail
      refine wp_region_ord [(0, true), (1, true), (2, true), (3, true), (4, true), (5, true), (6, true), (7, false), (8, false), (9, false)] (by kernel_rfl) (by kernel_rfl) (Kept w) HB.out.2.1.drew ?_
      simp only [ordOps, List.getD_cons_zero, List.getD_cons_succ]
      iterate 7 (refine wpOrd_held (fun K hK => ?_); go_simp; first | (apply Exists.intro; refine ⟨fun W hW => ?_, hK _ ?_⟩; (go_simp; first | done | exact rfl); clear hK K) | (refine hK _ ?_; clear hK K))
      have hS : Blk wr.drew w.heap.size 40 (vsD (repD n m d)) ∧ Kept w wr.drew := And.intro HB.out.1.drew HB.out.2.1.drew
      generalize wr.drew = wc at *
      obtain ⟨k, hk⟩ : ∃ k, k = Nat.min m (n - m) := ⟨_, rfl⟩
      have hk2 : k = min m (n - m) := hk
      have hlt2 := HB.out.2.2.2
      have hm12 := HB.out.2.2.1
      have hfit : m + k ≤ n := by omega
      have hb2 := hS.1.setRow (vsD (repD n (m + k) d))
      have hcv := copy_vs (repD n m d) (List.replicate k d) m
      rw [repD_more d hfit] at hcv
      have hkk : Kept w (wc.setRow w.heap.size (vsD (repD n (m + k) d)).toArray) := Upd.setRow hS.2 _ _ (fun h => absurd h (Nat.lt_irrefl _))
      have HQ := Lib.hid (And.intro hb2 (And.intro hkk (And.intro (show 0 < k by omega) (And.intro hfit hlt2))))
      clear f1 f2 hb2 hkk
      refine wpOrd_step (fun K hK => ?_) hS.2
      refine step_copy_rows rfl (.tmp 41) (.tmp 44) 35 35 rfl 40 32 Try.underlying35 sizeOf40 w.heap.size (m * 32) (n - m) (n - m) ⟨w.heap.size, 0, none⟩ m n rfl rfl (vsD (repD n m d)).toArray 40 hS.1 (vsD (List.replicate k d)) (by rw [vsD_length, List.length_replicate, hk]) (fun j v hv => ?_) ?_ (encB_one _) ?_
      · rw [add_none, Nat.zero_add]
        refine hS.1.cell ?_
        have hj := (List.getElem?_eq_some_iff.1 hv).1
        rw [vsD_length, List.length_replicate] at hj
        have h1 : vsD (repD n m d) = vsD (List.replicate k d) ++ vsD (List.replicate (m - k) d ++ List.replicate (n - m) dig0) := by
          rw [← vsD_append, ← List.append_assoc, List.replicate_append_replicate, show k + (m - k) = m by omega]; rfl
        rw [h1, List.getElem?_append_left (by rw [vsD_length, List.length_replicate]; exact hj)]
        exact hv
      · rw [List.size_toArray, vsD_length, vsD_length, List.length_replicate, repD_length n m d (by omega)]; omega
      · rw [hcv, ← hk]
        clear hcv hS hk hk2 hlt2 hm12 hfit
        generalize wc.setRow w.heap.size (vsD (repD n (m + k) d)).toArray = wd at *
        have hgo : goInt k = .int .i64 (k : Int) := rfl
        rw [hgo]
        have hk1024 : (m : Int) + (k : Int) ≤ 1024 := by have h1 := HQ.out.2.2.2.1; omega
        have hwr : IntKind.i64.wrap ((m : Int) + (k : Int)) = ((m + k : Nat) : Int) := by rw [IntKind.wrap_i64]; omega
        refine hK _ _ HQ.out.2.1 ?_
        clear hK K
        iterate 2 (refine wpOrd_step (fun K hK => ?_) HQ.out.2.1; go_simp; refine hK _ _ HQ.out.2.1 ?_; clear hK K)
        refine wpOrd_nil ?_
        go_wp2_with fail
        go_roundw
        case rel =>
          exact ⟨m + k, by have := HB.out.2.2.1; omega, HQ.out.2.2.2.1, by first | rfl | go_num, HQ.out.1, HQ.out.2.1⟩
        case measure => have h1 := HQ.out.2.2.1; have h2 := HQ.out.2.2.2.1; simp [intOf]; omega
    · obtain rfl : m = n := by omega
      have HF : Hid (OwnD wr w.heap.size (.slice (some ⟨w.heap.size, 0, none⟩) m m) (List.replicate m d) ∧ Kept w wr) := by
        refine ⟨⟨by simp [rowsOf_length dA_size], .inr ⟨w.heap.size, m, (vsD (repD m m d)).toArray, by simp, Nat.le_refl _, hb, by simp, by have := HX.out.2.2.2.2; unfold maxLen; omega, by rw [List.size_toArray, vsD_length, repD_length m m d (Nat.le_refl _)], ?_⟩⟩, hk⟩
        rw [List.toList_toArray, List.length_replicate, vsD_take, rowsOf_dA]
        simp [repD, vsD]
      clear hb hk
      go_wp2
      go_ret
      exact ⟨_, rfl, HF.out⟩
end Go.Proofs.Ytjimamgghkgdeaa
