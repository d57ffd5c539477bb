/- The texts of this hand-in, merged: FetL FetN FetO FetS FetT. -/
import Derived.Test.YtnncpjekcljfbaaSetN
import Derived.Test.YtnncpjekcljfbaaSetE
import Derived.Test.YtnncpjekcljfbaaSetD
import Derived.Test.YtnncpjekcljfbaaSetA
/- A fetch: the levels of what there is already. -/
namespace Go.Proofs.Ytnncpjekcljfbaa
open Go.RowKit

attribute [local irreducible] wpOrd
theorem OwnP.more {W W' : World} {B : Nat} {v v' : Value} {xs : List SlC} {P : List (List Dig)} {x : SlC} {l : List Dig} (ho : OwnRows slA 1 W B 41 v xs) (hxl : xs.length = P.length)
    (he : ∀ i (h : i < xs.length) (h' : i < P.length), OwnD W B xs[i].v P[i]) (hx : OwnD W B x.v l) (ho' : OwnRows slA 1 W' B 41 v' (xs ++ [x])) (hu : Upd (fun k => v.ownBlock = some k) W W') : OwnP W' B v' (P ++ [l]) := by
  refine ⟨_, ho', by rw [List.length_append, List.length_append, hxl]; rfl, fun i hi hi' => ?_⟩
  have hfar : ∀ {y : Value} {m : List Dig}, OwnD W B y m → OwnD W' B y m := fun h => OwnRows.upd h hu (fun k e e2 => by
    obtain ⟨c1, h1⟩ := own_cells h e
    obtain ⟨c2, h2⟩ := own_cells ho e2
    rw [h1] at h2
    simp only [Option.some.injEq, Obj.cells.injEq] at h2
    exact absurd h2.2.1 (by decide))
  by_cases hi2 : i < xs.length
  · rw [List.getElem_append_left hi2, List.getElem_append_left (by rw [← hxl]; exact hi2)]
    exact hfar (he i hi2 _)
  · have hi3 : i = xs.length := by simp at hi; omega
    subst hi3
    have e1 : (xs ++ [x])[xs.length] = x := by simp
    have e2 : (P ++ [l])[xs.length]'hi' = l := by simp [hxl]
    rw [e1, e2]
    exact hfar hx

abbrev secs (l : List (SlC × Bytes)) : List Bytes := l.map (·.2)
theorem leafD_secs (l : List (SlC × Bytes)) : leafD l = (secs l).map (leafM shaM) := by simp [leafD, secs]
set_option maxHeartbeats 4000000 in
set_option maxRecDepth 20000 in
theorem fetch_levels {w : World} {b r q : Nat} {L : List Bytes} (h : BookL w b r q L) {A : Option Addr} {l : List (SlC × Bytes)} (c : Nat) (hLv : ∀ W, Upd (Book3 b r q) w W → LeavesAt W A l) (h1 : 1 ≤ l.length) (hl : l.length ≤ 1024) (hs : ∀ p ∈ l, p.2.length < 65536) :
    Calls Try.prog 94 #[.pointer (some ⟨b, 0, none⟩), .slice A l.length c] w fun e W => ∃ v, e = .returned (.tuple #[v, .int .i64 0]) ∧ OwnP W w.heap.size v (levelsM shaM (leafD l)) ∧ (∃ L', BookL W b r q L' ∧ (∀ x ∈ L, x ∈ L') ∧ Noted L' (secs l)) ∧ Upd (Book3 b r q) w W := by
  have HG := tree_New h l.length h1 hl
  have HX := Lib.hid (And.intro hLv (And.intro h1 (And.intro hl hs)))
  clear hLv h1 hl hs h
  obtain ⟨n, hn⟩ : ∃ n, n = l.length := ⟨_, rfl⟩
  rw [← hn] at HG ⊢
  have HNN := Lib.hid hn
  clear hn
  go_enter Try.func94, Try.ntmps94
  go_wp2_with fail
  refine HG.mono ?_
  clear HG
  rintro e w2 ⟨t, rfl, htlo, hT, hb, hu⟩
  have HT := Lib.hid (And.intro hT (And.intro hb hu))
  clear hT hb hu htlo
  go_wp2_with fail
  obtain ⟨lo, hlo⟩ : ∃ lo, lo = w.heap.size := ⟨_, rfl⟩
  obtain ⟨hi, hhi⟩ : ∃ hi, hi = w2.heap.size := ⟨_, rfl⟩
  rw [← hlo, ← hhi] at HT
  replace hlo := Lib.hid hlo
  clear hhi
  go_loopw [27] (fun u1 wr => ∃ (k : Nat) (D : List Dig) (L' : List Bytes), k ≤ n ∧ u1 = .int .i64 k ∧ D.length = n ∧ (∀ j, j < k → D[j]? = (leafD l)[j]?) ∧ TreeAt wr lo hi t b D ∧ BookL wr b r q L' ∧ InsIn L' D ∧ (∀ R ∈ (secs l).take k, leafIn R ∈ L') ∧ (∀ x ∈ L, x ∈ L') ∧ Upd (Book3 b r q) w wr) (fun u1 _ => 2000 - (intOf u1).toNat)
  case atStart =>
    exact ⟨0, _, _, Nat.zero_le _, rfl, List.length_replicate, fun j hj => absurd hj (Nat.not_lt_zero j), HT.out.1, HT.out.2.1, InsIn.new _ _, by simp, fun x hx => mem_notesM.2 (.inl (mem_noteM.2 (.inl hx))), HT.out.2.2⟩
  case round =>
    clear HT
    obtain ⟨k, D, L', hk, rfl, hDn, hDk, hT, hb, hins, hlf, hLL, hu⟩ := hrel
    rcases Nat.lt_or_ge k n with hlt | hge
    · have hk1 : (k : Int) < (n : Int) := by omega
      have hk1024 : (k : Int) ≤ 1024 := by have := HX.out.2.2.1; have := HNN.out; omega
      have hkl : k < l.length := by have := HNN.out; omega
      obtain ⟨g1, o1, A1, c1, hA1, hc1, hR1, -⟩ := (HX.out.1 wr hu).get hkl
      have hRl : l[k].2.length < 65536 := HX.out.2.2.2 _ (List.getElem_mem hkl)
      have hsk : (secs l)[k]? = some l[k].2 := by simp [secs, hkl]
      subst hA1
      generalize l[k].2 = R at *
      have HS := tree_Set hb hT c1 hR1 hRl k (by omega)
      have HQ := Lib.hid (And.intro hDn (And.intro hDk (And.intro hins (And.intro hlf (And.intro hLL (And.intro hu (And.intro hsk hlt)))))))
      clear hDn hDk hT hb hins hlf hLL hu hsk hlt hk hR1 hRl hkl
      go_wp2_with fail
      clear hc1
      refine HS.mono ?_
      clear HS
      rintro e we ⟨rfl, hTe, hbe, hue⟩
      have hSe : Upd (Book3 b r q) w we := HQ.out.2.2.2.2.2.1.then hue (fun i hi e => e.elim id (fun e => by have := hlo.out; omega))
      have HF := Lib.hid (And.intro hTe (And.intro hbe hSe))
      have HG2 := Lib.hid (HQ.out.2.2.1.set (i := k) (by rw [HQ.out.1]; exact HQ.out.2.2.2.2.2.2.2) (leafIn R) (leafM shaM R))
      clear hTe hbe hue hSe
      go_wp2
      go_roundw
      case rel =>
        obtain ⟨hDn, hDk, hins, hlf, hLL, hu, hsk, hlt⟩ := HQ.out
        refine ⟨k + 1, _, _, by omega, by show _ = _; go_num, by rw [List.length_set, hDn], fun j hj => ?_, HF.out.1, HF.out.2.1, HG2.out, fun R' hR' => ?_, fun x hx => mem_notesM.2 (.inl (mem_noteM.2 (.inl (hLL x hx)))), HF.out.2.2⟩
        · by_cases hjk : j = k
          · subst hjk
            rw [List.getElem?_set_self (by omega), leafD_secs, List.getElem?_map, hsk]; rfl
          · rw [List.getElem?_set_ne (fun e => hjk e.symm)]
            exact hDk j (by omega)
        · have hkb : k < (secs l).length := (List.getElem?_eq_some_iff.1 hsk).1
          rw [List.take_succ_eq_append_getElem hkb] at hR'
          rcases List.mem_append.1 hR' with h1 | h1
          · exact mem_notesM.2 (.inl (mem_noteM.2 (.inl (hlf R' h1))))
          · simp only [List.mem_singleton] at h1
            have h2 := (List.getElem?_eq_some_iff.1 hsk).2
            rw [h1, h2]
            exact mem_notesM.2 (.inl (mem_noteM.2 (.inr rfl)))
      case measure => have := HQ.out.2.2.2.2.2.2.2; have := HX.out.2.2.1; have := HNN.out; simp [intOf]; omega
    · obtain rfl : k = n := by omega
      have hk1 : ¬ ((k : Int) < (k : Int)) := by omega
      have hDl : D = leafD l := List.ext_getElem? fun j => by
        rcases Nat.lt_or_ge j k with h1 | h1
        · exact hDk j h1
        · rw [List.getElem?_eq_none (by omega), List.getElem?_eq_none (by rw [leafD_length, ← HNN.out]; exact h1)]
      have hno : Noted L' (secs l) := by
        rw [List.take_of_length_le (by rw [List.length_map, ← HNN.out]; exact Nat.le_refl _)] at hlf
        rw [hDl, leafD_secs] at hins
        exact ⟨hins, hlf⟩
      have HF := Lib.hid (And.intro hb (And.intro hLL (And.intro hno hu)))
      obtain ⟨wo, rfl⟩ : ∃ wo : World, wo = wr := ⟨_, rfl⟩
      have HG := tree_Depth hT
      obtain ⟨dp, hdp⟩ : ∃ dp, dp = depthM D.length := ⟨_, rfl⟩
      rw [← hdp] at HG
      have HD := Lib.hid (And.intro hdp (And.intro (show dp ≤ 1025 by rw [hdp, hDn]; have := depthM_le k D hDn; have := HX.out.2.2.1; have := HNN.out; omega) (And.intro hDn hDl)))
      have HTT := Lib.hid hT
      clear hDn hDk hT hb hins hlf hLL hu hge hk hDl hno hdp
      go_wp2_with fail
      refine HG.mono ?_
      clear HG
      rintro e W ⟨rfl, rfl⟩
      go_wp2_with fail
      go_loopw [42, 11] (fun u v wr => ∃ j : Nat, j ≤ dp ∧ u = .int .i64 j ∧ OwnP wr wo.heap.size v ((levelsM shaM D).take j) ∧ Kept wo wr ∧ TreeAt wr lo hi t b D) (fun u _ _ => 3000 - (intOf u).toNat)
      case atStart => exact ⟨0, Nat.zero_le _, rfl, OwnP.nil _ _, Upd.refl _ _, HTT.out⟩
      case round =>
        obtain ⟨j, hj, rfl, hown, hu, hT⟩ := hrel
        rcases Nat.lt_or_ge j dp with hlt | hge
        · have hj1 : (j : Int) < (dp : Int) := by omega
          have hj5 : (j : Int) ≤ 1025 := by have := HD.out.2.1; omega
          have hjl : j < (levelsM shaM D).length := by rw [levelsM_depth _ rfl, ← HD.out.1]; exact hlt
          obtain ⟨lv, hlv⟩ : ∃ lv, (levelsM shaM D)[j]? = some lv := ⟨_, List.getElem?_eq_getElem hjl⟩
          obtain ⟨lv', e1, e2, e3⟩ := lev_get (D := D) (l := j) (by rw [← HD.out.1]; exact hlt)
          rw [hlv] at e1
          obtain rfl : lv = lv' := Option.some.inj e1
          have hlvl : lv.length ≤ 1024 := by
            rw [e3, HD.out.2.2.1]
            have h1 : 1 ≤ k := by have := HX.out.2.1; have := HNN.out; omega
            exact Nat.le_trans (sizeL_le h1 j) (by have := HX.out.2.2.1; have := HNN.out; omega)
          have HLV := tree_Level hT j hlv hlvl
          have HTK := Lib.hid (show (levelsM shaM D).take (j + 1) = (levelsM shaM D).take j ++ [lv] by
            rw [List.take_succ_eq_append_getElem hjl]
            rw [List.getElem?_eq_getElem hjl] at hlv
            rw [Option.some.inj hlv])
          obtain ⟨xs, ho, hxl, hxe⟩ := hown
          have hxs : xs.length = j := by rw [hxl, List.length_take]; omega
          have HR := Lib.hid (And.intro (And.intro ho (And.intro hxl hxe)) (And.intro hu (And.intro hxs (And.intro hlt hT))))
          clear ho hxl hxe hu hT hlv e1 e2 e3 hjl hj hlt
          go_wp2_with fail
          refine HLV.mono ?_
          clear HLV
          rintro e w4 ⟨v4, rfl, hv4, hu4⟩
          obtain ⟨A4, c4, rfl⟩ := OwnRows.form hv4
          have hk6 : Kept w4 (w4.alloc (.cells (slA ⟨A4, lv.length, c4⟩) 41)) := (Upd.refl _ w4).alloc _
          have hg6 := heap_alloc_new w4 (.cells (slA ⟨A4, lv.length, c4⟩) 41)
          have hu46 : Kept wr (w4.alloc (.cells (slA ⟨A4, lv.length, c4⟩) 41)) := hu4.then hk6 (fun _ _ h => h)
          have H6 := Lib.hid (And.intro (OwnRows.upd HR.out.1.1 hu46 (fun _ _ h => h)) (And.intro (HR.out.2.1.then hu46 (fun _ _ h => h)) (And.intro (fun i hi hi' => OwnRows.upd (HR.out.1.2.2 i hi hi') hu46 (fun _ _ h => h)) (And.intro (HR.out.2.2.2.2.kept hu46) (And.intro (show OwnD (w4.alloc (.cells (slA ⟨A4, lv.length, c4⟩) 41)) wo.heap.size (SlC.v ⟨A4, lv.length, c4⟩) lv from OwnRows.upd (own_base hv4 (HR.out.2.1.size)) hk6 (fun _ _ h => h)) hg6)))))
          clear hv4 hu4 hk6 hg6 hu46
          generalize hW6 : w4.alloc (.cells (slA ⟨A4, lv.length, c4⟩) 41) = w6 at *
          go_wp2_with (at_builtin; refine wpList_append_rows sl_rows rfl (.tmp 54) (.tmp 56) rfl rfl H6.out.1 ⟨A4, lv.length, c4⟩ w4.heap.size 1 _ _ rfl H6.out.2.2.2.2.2 (by have := HR.out.2.2.1; have := HR.out.2.2.2.1; have := HD.out.2.1; unfold maxLen; omega) (by have := HR.out.2.2.1; have := HR.out.2.2.2.1; have := HD.out.2.1; omega) H6.out.2.1.size ?_; intro v' w7 hown' hu' hnew)
          have hlo2 : lo ≤ hi ∧ hi ≤ wo.heap.size := by
            obtain ⟨_, _, _, hT0⟩ := HTT.out
            exact ⟨by have := hT0.tlo; have := hT0.thi; omega, hT0.sz⟩
          have HQ := Lib.hid (And.intro (OwnP.more H6.out.1 HR.out.1.2.1 H6.out.2.2.1 H6.out.2.2.2.2.1 hown' hu') (And.intro (show Kept wo w7 from H6.out.2.1.then hu' (fun i hi e => by have := (World.ownsRow.lt H6.out.1 i e).1; omega)) (H6.out.2.2.2.1.upd hu' (fun k k1 k2 ⟨cs, t', hc, ht'⟩ e => by
            have h1 := (World.ownsRow.lt H6.out.1 k e).1
            omega))))
          have HJ := Lib.hid HR.out.2.2.2.1
          clear hown' hu' hnew H6 HR hW6 hlo2
          go_wp2
          go_roundw
          case rel => exact ⟨j + 1, HJ.out, by show _ = _; go_num, by rw [HTK.out]; exact HQ.out.1, HQ.out.2.1, HQ.out.2.2⟩
          case measure => have := HJ.out; have := HD.out.2.1; simp [intOf]; omega
        · obtain rfl : j = dp := by omega
          have hj1 : ¬ ((j : Int) < (j : Int)) := by omega
          rw [List.take_of_length_le (by rw [levelsM_depth _ rfl, ← HD.out.1]; exact Nat.le_refl _), HD.out.2.2.2] at hown
          have HF2 := Lib.hid (And.intro (hown.base HF.out.2.2.2.size) (And.intro (HF.out.1.kept hu) (show Upd (Book3 b r q) w wr from HF.out.2.2.2.then hu (fun _ _ e => e.elim))))
          clear hown hu hT hge hj
          go_wp2
          go_ret2
          first | exact ⟨_, rfl, HF2.out.1, ⟨L', HF2.out.2.1, HF.out.2.1, HF.out.2.2.1⟩, HF2.out.2.2⟩ | exact ⟨_, rfl, HF2.out.1, L', HF2.out.2.1, HF.out.2.1, HF.out.2.2.1, HF2.out.2.2⟩ | exact ⟨_, rfl, HF2.out.1, L', ⟨HF2.out.2.1, HF.out.2.1, HF.out.2.2.1⟩, HF2.out.2.2⟩
end Go.Proofs.Ytnncpjekcljfbaa
/- A fetch begins: what its first steps are made of. -/
namespace Go.Proofs.Ytnncpjekcljfbaa
open Go.RowKit

/-! ### rows of numbers -/
theorem inA_size (x : Nat) : (inA x).size = 1 := rfl
theorem inA_one (x : Nat) : oneB (inA x) = true := rfl
theorem in_rows : RowType Try.prog inA 1 127 3 8 where
  size := fun _ => rfl
  one := fun _ => rfl
  slice := Try.underlying127
  info := ⟨.int .i64 0, by kernel_rfl, rfl⟩
  pos := by omega
@[go_sem ↓] theorem exec_one_in (ρ : Operand → Value) (dst : Option Tmp) (parts : Array (Nat × Operand)) (ty : TypeId) (pos : String) (after : Array Edge) (guard : Option (Nat × Bool)) :
    execOp ρ ⟨dst, .buildSlice 127 1 parts, ty, pos, after, guard⟩ = sliceRow 127 1 (parts.map fun (i, x) => (i, ρ x)) := rfl
@[go_sem] theorem run_one_in (x : Int) (W : World) : (sliceRow 127 1 #[(0, .int .i64 x)]).run Try.prog W = .ok (.value (.slice (some ⟨W.heap.size, 0, none⟩) 1 1)) (W.alloc (.cells #[.int .i64 x] 3)) :=
  run_sliceRow _ 3 1 (.int .i64 0) #[.int .i64 x] Try.underlying127 (by kernel_rfl) (by omega) (by omega) rfl rfl W

/-! ### the struct -/
abbrev nilV : Value := .slice none 0 0
@[go_sem ↓] theorem exec_build_fet (ρ : Operand → Value) (dst : Option Tmp) (parts : Array (Nat × Operand)) (ty : TypeId) (pos : String) (after : Array Edge) (guard : Option (Nat × Bool)) :
    execOp ρ ⟨dst, .build 131 parts, ty, pos, after, guard⟩ = buildRow 131 (parts.map fun (i, x) => (i, ρ x)) := rfl
def fetA (b : Nat) (root : Dig) (gs m1 m2 : Nat) : Array Value := (fetV b root gs 1 1 m1 m2 nilV nilV).toArray
set_option maxRecDepth 20000 in
@[go_sem] theorem run_build_fet (b gs m1 m2 : Nat) (root : Dig) (W : World) : (buildRow 131 #[(0, .pointer (some ⟨b, 0, none⟩)), (1, .agg (dA root)), (2, .slice (some ⟨gs, 0, none⟩) 1 1), (3, .map (some m1)), (4, .map (some m2))]).run Try.prog W = .ok (.value (.agg (fetA b root gs m1 m2))) W := by
  have H : (Instr.build 131 #[(0, .pointer (some ⟨b, 0, none⟩)), (1, .agg (dA root)), (2, .slice (some ⟨gs, 0, none⟩) 1 1), (3, .map (some m1)), (4, .map (some m2))]).run Try.prog W = .ok (.agg (fetA b root gs m1 m2)) W := by
    obtain ⟨l, hl⟩ := root
    iterate 32 (rcases l with _ | ⟨a, l⟩; · simp at hl)
    rcases l with _ | ⟨a, l⟩
    · exact run_build (P := Try.prog) W _ _ _ (by unfold fetA fetV; kernel_rfl)
    · simp at hl
  simp [buildRow, H, Result.andThen]
theorem fetA_size (b gs m1 m2 : Nat) (root : Dig) : (fetA b root gs m1 m2).size = 38 := by
  simp [fetA, fetV, encB_length, root.2]
theorem fetV_length (b gs m cs m1 m2 : Nat) (root : Dig) (hv ov : Value) : (fetV b root gs m cs m1 m2 hv ov).length = 38 := by
  simp [fetV, encB_length, root.2]
theorem fetV_get {b gs m cs m1 m2 : Nat} {root : Dig} {hv ov : Value} (k : Nat) : (fetV b root gs m cs m1 m2 hv ov)[33 + k]? = [.slice (some ⟨gs, 0, none⟩) m cs, .map (some m1), .map (some m2), hv, ov][k]? := by
  have hl : (encB root.1).length = 32 := by rw [encB_length, root.2]
  rw [fetV, show 33 + k = (32 + k) + 1 by omega, List.getElem?_cons_succ, List.getElem?_append_right (by omega), hl, Nat.add_sub_cancel_left]
theorem fetV_set {b gs m cs m1 m2 gs' m' cs' : Nat} {root : Dig} {hv ov hv' ov' : Value} : (fetV b root gs m cs m1 m2 hv ov).set 33 (.slice (some ⟨gs', 0, none⟩) m' cs') = fetV b root gs' m' cs' m1 m2 hv ov ∧ (fetV b root gs m cs m1 m2 hv ov).set 36 hv' = fetV b root gs m cs m1 m2 hv' ov ∧ (fetV b root gs m cs m1 m2 hv ov).set 37 ov' = fetV b root gs m cs m1 m2 hv ov' := by
  have hl : (encB root.1).length = 32 := by rw [encB_length, root.2]
  have key : ∀ (k : Nat) (v : Value) (T : List Value), (Value.pointer (some ⟨b, 0, none⟩) :: (encB root.1 ++ T)).set (33 + k) v = Value.pointer (some ⟨b, 0, none⟩) :: (encB root.1 ++ T.set k v) := fun k v T => by
    rw [show 33 + k = (32 + k) + 1 by omega, List.set_cons_succ, List.set_append_right _ _ (by omega), hl, Nat.add_sub_cancel_left]
  exact ⟨key 0 _ _, key 3 _ _, key 4 _ _⟩

/-! ### a fetch that begins -/
structure Fet0 (W : World) (B f m1 m2 b : Nat) (root : Dig) (gs j cs : Nat) (hv ov : Value) (n : Nat) : Prop where
  blk : Blk W f 131 (fetV b root gs j cs m1 m2 hv ov)
  szs : OwnRows inA 1 W B 3 (.slice (some ⟨gs, 0, none⟩) j cs) ((List.range j).map (sizeL n))
  k : KAt W m1 (fun _ _ => none)
  m : MAt W m2 (fun _ => none)
  ne : m1 ≠ m2
  bf : B ≤ f
  b1 : B ≤ m1
  b2 : B ≤ m2
theorem MAt.none {W W' : World} {S : Nat → Prop} {m : Nat} (h : MAt W m (fun _ => none)) (hu : Upd S W W') (hs : ¬ S m) : MAt W' m (fun _ => none) := by
  obtain ⟨L, hm, hg⟩ := h
  exact ⟨L, hm.kept (hu.block m hm.lt hs), hg⟩
/-- a block of cells is none of a map -/
theorem cells_ne_map {W : World} {g m : Nat} {cs : Array Value} {t : TypeId} {fr : Nat × Nat} (hg : W.heap[g]? = some (.cells cs t fr)) (hm : ∃ es c, W.heap[m]? = some (.map es c)) : m ≠ g := fun e => by
  obtain ⟨es, c, hm⟩ := hm
  rw [e, hg] at hm; cases hm
theorem cells_ne {W : World} {g m : Nat} {cs cs' : Array Value} {t t' : TypeId} {fr fr' : Nat × Nat} (hg : W.heap[g]? = some (.cells cs t fr)) (hm : W.heap[m]? = some (.cells cs' t' fr')) (ht : t ≠ t') : g ≠ m := fun e => by
  rw [e, hm] at hg
  simp only [Option.some.injEq, Obj.cells.injEq] at hg
  exact ht hg.2.1.symm
section
variable {W W' : World} {B f m1 m2 b gs j cs n : Nat} {root : Dig} {hv ov : Value} {S : Nat → Prop}
theorem Fet0.upd (h : Fet0 W B f m1 m2 b root gs j cs hv ov n) (hu : Upd S W W') (hf : ¬ S f) (hg : ¬ S gs) (h1 : ¬ S m1) (h2 : ¬ S m2) : Fet0 W' B f m1 m2 b root gs j cs hv ov n :=
  ⟨h.blk.upd hu hf, OwnRows.upd h.szs hu (fun k e => by have e2 : some gs = some k := e; cases e2; exact hg), h.k.upd hu h1, h.m.none hu h2, h.ne, h.bf, h.b1, h.b2⟩
theorem Fet0.kept (h : Fet0 W B f m1 m2 b root gs j cs hv ov n) (hu : Kept W W') : Fet0 W' B f m1 m2 b root gs j cs hv ov n := h.upd hu id id id id
theorem Fet0.low (h : Fet0 W B f m1 m2 b root gs j cs hv ov n) {B' : Nat} (hB : B' ≤ B) : Fet0 W B' f m1 m2 b root gs j cs hv ov n :=
  ⟨h.blk, own_base h.szs hB, h.k, h.m, h.ne, Nat.le_trans hB h.bf, Nat.le_trans hB h.b1, Nat.le_trans hB h.b2⟩
theorem Fet0.c (h : Fet0 W B f m1 m2 b root gs j cs hv ov n) : W.cell? ⟨f, 33, none⟩ = some (.slice (some ⟨gs, 0, none⟩) j cs) ∧ W.cell? ⟨f, 36, none⟩ = some hv ∧ W.cell? ⟨f, 37, none⟩ = some ov :=
  ⟨h.blk.cell (fetV_get 0), h.blk.cell (fetV_get 3), h.blk.cell (fetV_get 4)⟩
theorem Fet0.gsB (h : Fet0 W B f m1 m2 b root gs j cs hv ov n) : B ≤ gs ∧ gs < W.heap.size := World.ownsRow.lt h.szs gs rfl
theorem Fet0.gsC (h : Fet0 W B f m1 m2 b root gs j cs hv ov n) : ∃ cur, W.heap[gs]? = some (.cells cur 3 (0, 0)) := own_cells h.szs rfl
theorem Fet0.new (W : World) (b n : Nat) (root : Dig) : Fet0 ((((W.alloc (.cells #[.int .i64 (n : Int)] 3)).alloc (.map #[] 0)).alloc (.map #[] 0)).alloc (.cells (fetA b root W.heap.size (W.heap.size + 1) (W.heap.size + 1 + 1)) 131)) W.heap.size (W.heap.size + 1 + 1 + 1) (W.heap.size + 1) (W.heap.size + 1 + 1) b root W.heap.size 1 1 nilV nilV n := by
  have e1 : (W.alloc (.cells #[.int .i64 (n : Int)] 3)).heap.size = W.heap.size + 1 := World.size_alloc _ _
  have e2 : ((W.alloc (.cells #[.int .i64 (n : Int)] 3)).alloc (.map #[] 0)).heap.size = W.heap.size + 1 + 1 := by rw [World.size_alloc, e1]
  have e3 : (((W.alloc (.cells #[.int .i64 (n : Int)] 3)).alloc (.map #[] 0)).alloc (.map #[] 0)).heap.size = W.heap.size + 1 + 1 + 1 := by rw [World.size_alloc, e2]
  have r1 : OwnRows inA 1 (W.alloc (.cells #[.int .i64 (n : Int)] 3)) W.heap.size 3 (.slice (some ⟨W.heap.size, 0, none⟩) 1 1) [n] :=
    ⟨by simp [rowsOf, inA], .inr ⟨W.heap.size, 1, inA n, rfl, Nat.le_refl _, heap_alloc_new W _, Nat.le_refl _, by unfold maxLen; omega, rfl, by simp [rowsOf, inA]⟩⟩
  have k2 := KAt.new (W.alloc (.cells #[.int .i64 (n : Int)] 3))
  have m3 := MAt.new ((W.alloc (.cells #[.int .i64 (n : Int)] 3)).alloc (.map #[] 0))
  have b4 := Blk.new (((W.alloc (.cells #[.int .i64 (n : Int)] 3)).alloc (.map #[] 0)).alloc (.map #[] 0)) 131 (fetV b root W.heap.size 1 1 (W.heap.size + 1) (W.heap.size + 1 + 1) nilV nilV)
  have u2 : Kept (W.alloc (.cells #[.int .i64 (n : Int)] 3)) ((W.alloc (.cells #[.int .i64 (n : Int)] 3)).alloc (.map #[] 0)) := (Upd.refl _ _).alloc _
  have u3 : Kept ((W.alloc (.cells #[.int .i64 (n : Int)] 3)).alloc (.map #[] 0)) (((W.alloc (.cells #[.int .i64 (n : Int)] 3)).alloc (.map #[] 0)).alloc (.map #[] 0)) := (Upd.refl _ _).alloc _
  have u4 : Kept (((W.alloc (.cells #[.int .i64 (n : Int)] 3)).alloc (.map #[] 0)).alloc (.map #[] 0)) ((((W.alloc (.cells #[.int .i64 (n : Int)] 3)).alloc (.map #[] 0)).alloc (.map #[] 0)).alloc (.cells (fetA b root W.heap.size (W.heap.size + 1) (W.heap.size + 1 + 1)) 131)) := (Upd.refl _ _).alloc _
  have u34 := u3.then u4 (fun _ _ h => h)
  rw [e1] at k2
  rw [e2] at m3
  rw [e3] at b4
  exact ⟨b4, OwnRows.upd r1 (u2.then u34 (fun _ _ h => h)) (fun _ _ => id), k2.upd u34 id, m3.none u4 id, by omega, by omega, by omega, by omega⟩
/-- the row of sizes is turned -/
theorem Fet0.more {cs' gs' : Nat} (h : Fet0 W B f m1 m2 b root gs j cs hv ov n) (hown : OwnRows inA 1 W' B 3 (.slice (some ⟨gs', 0, none⟩) (j + 1) cs') ((List.range (j + 1)).map (sizeL n))) (hu : Upd (fun k => k = gs) W W') :
    Fet0 (W'.setCell ⟨f, 33, none⟩ (.slice (some ⟨gs', 0, none⟩) (j + 1) cs')) B f m1 m2 b root gs' (j + 1) cs' hv ov n ∧ W'.cell? ⟨f, 33, none⟩ = some (.slice (some ⟨gs, 0, none⟩) j cs) ∧ W'.frozen? ⟨f, 33, none⟩ = false := by
  obtain ⟨cur, hcur⟩ := h.gsC
  have b1 : Blk W' f 131 _ := h.blk.upd hu (fun e => cells_ne hcur h.blk (by decide) e.symm)
  have k1 := h.k.upd hu (cells_ne_map hcur h.k.map)
  have q1 := h.m.none hu (cells_ne_map hcur h.m.map)
  have hu2 : Upd (fun k => k = f) W' (W'.setCell ⟨f, 33, none⟩ (.slice (some ⟨gs', 0, none⟩) (j + 1) cs')) := (Upd.refl _ _).setCell (p := ⟨f, 33, none⟩) _ fun _ => rfl
  have b2 := b1.set 33 (.slice (some ⟨gs', 0, none⟩) (j + 1) cs')
  rw [(fetV_set (hv' := hv) (ov' := ov)).1] at b2
  exact ⟨⟨b2, OwnRows.upd hown hu2 (fun k e e2 => by
    obtain ⟨cur2, hc2⟩ := own_cells hown e
    exact cells_ne hc2 b1 (by decide) e2), k1.upd hu2 (cells_ne_map b1 k1.map), q1.none hu2 (cells_ne_map b1 q1.map), h.ne, h.bf, h.b1, h.b2⟩, b1.cell (fetV_get 0), b1.thaw 33⟩
/-- the rows of what there is already are turned -/
theorem Fet0.have' {hv' : Value} (h : Fet0 W B f m1 m2 b root gs j cs hv ov n) (hu : Upd (fun k => hv.ownBlock = some k) W W') (hh : ∀ k, hv.ownBlock = some k → ∃ cur, W.heap[k]? = some (.cells cur 35 (0, 0))) :
    Fet0 (W'.setCell ⟨f, 36, none⟩ hv') B f m1 m2 b root gs j cs hv' ov n ∧ W'.cell? ⟨f, 36, none⟩ = some hv ∧ W'.frozen? ⟨f, 36, none⟩ = false := by
  obtain ⟨cur, hcur⟩ := h.gsC
  have hn : ∀ {g : Nat} {cs : Array Value} {t : TypeId} {fr : Nat × Nat}, W.heap[g]? = some (.cells cs t fr) → t ≠ 35 → ¬ hv.ownBlock = some g := fun hg ht e => by
    obtain ⟨c2, hc2⟩ := hh _ e
    exact cells_ne hg hc2 ht rfl
  have hm : ∀ {g : Nat}, (∃ es c, W.heap[g]? = some (.map es c)) → ¬ hv.ownBlock = some g := fun hg e => by
    obtain ⟨c2, hc2⟩ := hh _ e
    exact cells_ne_map hc2 hg rfl
  have h1 := h.upd hu (hn h.blk (by decide)) (hn hcur (by decide)) (hm h.k.map) (hm h.m.map)
  have hu2 : Upd (fun k => k = f) W' (W'.setCell ⟨f, 36, none⟩ hv') := (Upd.refl _ _).setCell (p := ⟨f, 36, none⟩) _ fun _ => rfl
  have b2 := h1.blk.set 36 hv'
  rw [(fetV_set (gs' := gs) (m' := j) (cs' := cs) (ov' := ov)).2.1] at b2
  obtain ⟨cur', hcur'⟩ := h1.gsC
  exact ⟨⟨b2, OwnRows.upd h1.szs hu2 (fun k e e2 => by
    have e3 : some gs = some k := e
    cases e3
    exact cells_ne hcur' h1.blk (by decide) e2), h1.k.upd hu2 (cells_ne_map h1.blk h1.k.map), h1.m.none hu2 (cells_ne_map h1.blk h1.m.map), h.ne, h.bf, h.b1, h.b2⟩, h1.c.2.1, h1.blk.thaw 36⟩
/-- the levels of what there is already are put -/
theorem Fet0.old {ov' : Value} (h : Fet0 W B f m1 m2 b root gs j cs hv ov n) :
    Fet0 (W.setCell ⟨f, 37, none⟩ ov') B f m1 m2 b root gs j cs hv ov' n ∧ W.frozen? ⟨f, 37, none⟩ = false := by
  obtain ⟨cur, hcur⟩ := h.gsC
  have hu2 : Upd (fun k => k = f) W (W.setCell ⟨f, 37, none⟩ ov') := (Upd.refl _ _).setCell (p := ⟨f, 37, none⟩) _ fun _ => rfl
  have b2 := h.blk.set 37 ov'
  rw [(fetV_set (gs' := gs) (m' := j) (cs' := cs) (hv' := hv)).2.2] at b2
  exact ⟨⟨b2, OwnRows.upd h.szs hu2 (fun k e e2 => by
    have e3 : some gs = some k := e
    cases e3
    exact cells_ne hcur h.blk (by decide) e2), h.k.upd hu2 (cells_ne_map h.blk h.k.map), h.m.none hu2 (cells_ne_map h.blk h.m.map), h.ne, h.bf, h.b1, h.b2⟩, h.blk.thaw 37⟩
/-- all of it -/
theorem Fet0.all {r q : Nat} {O : Option (List Bytes)} (h : Fet0 W B f m1 m2 b root gs (depthM n) cs hv ov n) (ho : OldAt W B n hv ov O) (h1 : 1 ≤ n) (h2 : n ≤ 1024) (hB : ∀ k, Book3 b r q k → k < B) : FetI W B f m1 m2 b r q n root O (fun _ _ => none, fun _ => none) gs cs hv ov :=
  ⟨h.blk, h.szs, h.k, h.m, h.ne, ho, h1, h2, hB, h.bf, h.b1, h.b2⟩
end
/-- copies of leaves: where no block of bytes, or of rows of them, is turned -/
theorem OwnLv.upd2 {W W' : World} {B : Nat} {v : Value} {l : List (SlC × Bytes)} {S : Nat → Prop} (h : OwnLv W B v l) (hu : Upd S W W') (hs : ∀ k, (∃ cs t fr, W.heap[k]? = some (.cells cs t fr) ∧ (t = 35 ∨ t = 5)) → ¬ S k) : OwnLv W' B v l :=
  ⟨OwnRows.upd h.1 hu (fun k e => by obtain ⟨cur, hc⟩ := own_cells h.1 e; exact hs k ⟨_, _, _, hc, .inl rfl⟩), fun p hp => ⟨(h.2 p hp).1.upd hu (fun k e => by obtain ⟨cur, hc⟩ := (h.2 p hp).1.block e; exact hs k ⟨_, _, _, hc, .inr rfl⟩), (h.2 p hp).2⟩⟩

/-! ### how many levels -/
theorem size_depth {n : Nat} : ∀ k, k < depthM n → depthM n = k + depthM (sizeL n k)
  | 0, _ => by rw [Nat.zero_add]; rfl
  | k + 1, h => by
    have ih := size_depth (n := n) k (by omega)
    have h1 : 1 < sizeL n k := by
      rcases Nat.lt_or_ge 1 (sizeL n k) with h1 | h1
      · exact h1
      · have h2 : depthM (sizeL n k) = 1 := by rw [depthM, dif_neg (show ¬ 1 < sizeL n k by omega)]
        omega
    rw [depthM_more h1] at ih
    show _ = _ + depthM (up4 (sizeL n k))
    omega
theorem size_more {n k : Nat} (hk : k < depthM n) (h : 1 < sizeL n k) : k + 1 < depthM n := by
  have h1 := size_depth k hk
  rw [depthM_more h] at h1
  have := depthM_pos (up4 (sizeL n k))
  omega
theorem size_last {n k : Nat} (hk : k < depthM n) (h : ¬ 1 < sizeL n k) : k + 1 = depthM n := by
  have h1 := size_depth k hk
  have h2 : depthM (sizeL n k) = 1 := by rw [depthM, dif_neg h]
  omega

/-! ### leaves that are too long -/
def begF : Value := .func (.func 92) #[] #[]
theorem beg_1 (A : Option Addr) (n c : Nat) (w : World) : Calls Try.prog 92 #[.slice A n c] w fun e w' => e = .returned (.bool (decide (65536 ≤ n))) ∧ w = w' := by
  go_enter Try.func92, Try.ntmps92
  go_wp2
  go_ret
  refine ⟨?_, rfl⟩
  simp
  omega
def longB (l : List (SlC × Bytes)) : Bool := l.any fun p => decide (65536 ≤ p.2.length)
theorem longB_false {l : List (SlC × Bytes)} (h : ∀ k (hk : k < l.length), l[k].2.length < 65536) : longB l = false := by
  rw [longB, List.any_eq_false]
  intro p hp
  obtain ⟨k, hk, rfl⟩ := List.getElem_of_mem hp
  have := h k hk
  simp; omega
theorem longB_true {l : List (SlC × Bytes)} {k : Nat} (hk : k < l.length) (h : 65536 ≤ l[k].2.length) : longB l = true := by
  rw [longB, List.any_eq_true]
  exact ⟨_, List.getElem_mem hk, by simpa using h⟩
set_option maxHeartbeats 800000 in
theorem beg_index {w : World} {A : Option Addr} {l : List (SlC × Bytes)} (c : Nat) (h : LeavesAt w A l) (hl : l.length ≤ 1024) :
    Calls Try.prog 107 #[.slice A l.length c, begF] w fun e w' => ∃ i : Int, e = .returned (.int .i64 i) ∧ decide (0 ≤ i) = longB l ∧ w = w' := by
  have HX := Lib.hid (And.intro h hl)
  clear h hl
  unfold begF
  obtain ⟨n, hn⟩ : ∃ n, n = l.length := ⟨_, rfl⟩
  rw [← hn]
  have HN := Lib.hid hn
  clear hn
  go_enter Try.func107, Try.ntmps107
  go_wp2_with fail
  go_loopw [8] (fun u1 wr => ∃ k : Nat, k ≤ n ∧ u1 = .int .i64 k ∧ (∀ j (hj : j < l.length), j < k → l[j].2.length < 65536) ∧ wr = w) (fun u1 _ => 2000 - (intOf u1).toNat)
  case atStart => exact ⟨0, Nat.zero_le _, rfl, fun j _ hj => absurd hj (Nat.not_lt_zero j), by trivial⟩
  case round =>
    obtain ⟨k, hk, rfl, hsh, rfl⟩ := hrel
    have HS := Lib.hid hsh
    clear hsh
    rcases Nat.lt_or_ge k n with hlt | hge
    · have hk' : (k : Int) < (n : Int) := by omega
      have hkl : k < l.length := by rw [← HN.out]; exact hlt
      have hk5 : (k : Int) < 1024 := by have := HX.out.2; omega
      obtain ⟨b, off, A2, c2, rfl, hc, _, _⟩ := HX.out.1.get hkl
      by_cases hlong : 65536 ≤ l[k].2.length
      · have hd : decide (65536 ≤ l[k].2.length) = true := decide_eq_true hlong
        have HT := Lib.hid (longB_true hkl hlong)
        generalize l[k].2 = R at *
        clear hlt hk hkl hlong
        go_wp2_with fail
        refine (beg_1 A2 R.length c2 _).mono ?_
        rw [hd]
        rintro e W ⟨rfl, rfl⟩
        clear hd hc
        go_wp2
        go_ret
        first | exact ⟨_, rfl, by rw [HT.out]; simp, rfl⟩ | exact ⟨by rw [HT.out]; simp, rfl⟩ | exact ⟨_, rfl, by rw [HT.out]; simp⟩
      · have hd : decide (65536 ≤ l[k].2.length) = false := decide_eq_false hlong
        have HK := Lib.hid (And.intro hlt (show ∀ j (hj : j < l.length), j < k + 1 → l[j].2.length < 65536 from fun j hj h1 => by
          rcases Nat.lt_succ_iff_lt_or_eq.1 h1 with h2 | h2
          · exact HS.out j hj h2
          · subst h2; omega))
        generalize l[k].2 = R at *
        clear hlt hk hkl hlong
        go_wp2_with fail
        refine (beg_1 A2 R.length c2 _).mono ?_
        rw [hd]
        rintro e W ⟨rfl, rfl⟩
        clear hd hc
        go_wp2
        go_roundw
        case rel => exact ⟨k + 1, by have := HK.out.1; omega, by show _ = _; go_num, HK.out.2, by trivial⟩
        case measure => have := HK.out.1; simp [intOf]; omega
    · obtain rfl : k = n := by omega
      have hk' : ¬ ((k : Int) < (k : Int)) := by omega
      have HT := Lib.hid (longB_false (l := l) fun j hj => HS.out j hj (by rw [HN.out]; exact hj))
      clear hk hge
      go_wp2
      go_ret
      first | exact ⟨_, rfl, by rw [HT.out]; simp, rfl⟩ | exact ⟨by rw [HT.out]; simp, rfl⟩
set_option maxHeartbeats 800000 in
theorem beg_contains {w : World} {A : Option Addr} {l : List (SlC × Bytes)} (c : Nat) (h : LeavesAt w A l) (hl : l.length ≤ 1024) :
    Calls Try.prog 86 #[.slice A l.length c, begF] w fun e w' => e = .returned (.bool (longB l)) ∧ w = w' := by
  have HG := beg_index c h hl
  clear h hl
  generalize begF = F at *
  generalize longB l = z at *
  generalize l.length = n at *
  go_enter Try.func86, Try.ntmps86
  go_wp2_with fail
  refine HG.mono ?_
  rintro e W ⟨i, rfl, hz, rfl⟩
  clear HG
  go_wp2
  go_ret
  exact ⟨by rw [← hz]; rfl, rfl⟩
end Go.Proofs.Ytnncpjekcljfbaa
/- A fetch begins: what is refused. -/
namespace Go.Proofs.Ytnncpjekcljfbaa
open Go.RowKit

attribute [local irreducible] wpOrd
set_option maxHeartbeats 1000000 in
set_option maxRecDepth 20000 in
theorem fetch_Begin_arg {w : World} {p : Option Addr} (root : Dig) (n : Int) (A : Option Addr) (m c : Nat) (h : n < 1 ∨ 1024 < n ∨ 0 < m ∧ (m : Int) ≠ n) :
    Calls Try.prog 66 #[.pointer p, .agg (dA root), .int .i64 n, .slice A m c] w fun e W => e = .returned (.tuple #[.pointer none, .int .i64 2]) ∧ Kept w W := by
  have k1 : Kept w (w.alloc (.cells (dA root) 46)) := (Upd.refl _ w).alloc _
  have HK := Lib.hid k1
  clear k1
  by_cases h0 : n < 1
  · have d0 : decide (n < 1) = true := decide_eq_true h0
    clear h h0
    go_enter Try.func66, Try.ntmps66
    go_wp2
    go_ret2
    exact ⟨rfl, HK.out⟩
  · have d0 : decide (n < 1) = false := decide_eq_false h0
    by_cases h1 : 1024 < n
    · have d1 : decide (1024 < n) = true := decide_eq_true h1
      clear h h0 h1
      go_enter Try.func66, Try.ntmps66
      go_wp2
      go_ret2
      exact ⟨rfl, HK.out⟩
    · have d1 : decide (1024 < n) = false := decide_eq_false h1
      have h2 : 0 < m ∧ (m : Int) ≠ n := by rcases h with h | h | h; exact absurd h h0; exact absurd h h1; exact h
      have d2 : decide ((0 : Int) < (m : Int)) = true := decide_eq_true (by omega)
      have d2n : decide (0 < m) = true := decide_eq_true (by omega)
      have d3 : ((m : Int) != n) = true := by simpa using h2.2
      clear h h0 h1 h2
      go_enter Try.func66, Try.ntmps66
      go_wp2
      go_ret2
      exact ⟨rfl, HK.out⟩
section
variable {w : World} {p A : Option Addr} {l : List (SlC × Bytes)}
set_option maxHeartbeats 1000000 in
set_option maxRecDepth 20000 in
theorem fetch_Begin_long (root : Dig) (n : Nat) (h1 : 1 ≤ n) (h2 : n ≤ 1024) (c : Nat) (hn : l.length = n) (hL : LeavesAt w A l) (hl : longB l = true) :
    Calls Try.prog 66 #[.pointer p, .agg (dA root), .int .i64 (n : Int), .slice A l.length c] w fun e W => e = .returned (.tuple #[.pointer none, .int .i64 5]) ∧ Kept w W := by
  have k1 : Kept w (w.alloc (.cells (dA root) 46)) := (Upd.refl _ w).alloc _
  have HK := Lib.hid k1
  have HG := beg_contains c (h := fun i hi => by
    obtain ⟨b, off, e1, e2, e3, e4⟩ := hL i hi
    exact ⟨b, off, e1, k1.cell e2 id, (Quiet.nil w).leaf e3 k1, e4⟩) (hl := by omega)
  rw [hl, hn] at HG
  rw [hn]
  unfold begF at HG
  have d0 : decide ((n : Int) < 1) = false := decide_eq_false (by omega)
  have d0n : decide (n < 1) = false := decide_eq_false (by omega)
  have d1 : decide ((1024 : Int) < (n : Int)) = false := decide_eq_false (by omega)
  have d1n : decide (1024 < n) = false := decide_eq_false (by omega)
  have d2 : decide ((0 : Int) < (n : Int)) = true := decide_eq_true (by omega)
  have d2n : decide (0 < n) = true := decide_eq_true (by omega)
  clear h1 h2 k1 hL hl hn
  go_enter Try.func66, Try.ntmps66
  go_wp2_with fail
  refine HG.mono ?_
  clear HG
  rintro e W ⟨rfl, rfl⟩
  go_wp2
  go_ret2
  exact ⟨rfl, HK.out⟩
set_option maxHeartbeats 1000000 in
set_option maxRecDepth 20000 in
theorem fetch_Begin_no (h : NoBook w p) (root : Dig) (n : Nat) (h1 : 1 ≤ n) (h2 : n ≤ 1024) (c : Nat) (hn : l = [] ∨ l.length = n) (hL : LeavesAt w A l) (hl : longB l = false) :
    Calls Try.prog 66 #[.pointer p, .agg (dA root), .int .i64 (n : Int), .slice A l.length c] w fun e W => e = .returned (.tuple #[.pointer none, .int .i64 1]) ∧ Kept w W := by
  have k1 : Kept w (w.alloc (.cells (dA root) 46)) := (Upd.refl _ w).alloc _
  have HK := Lib.hid k1
  have HG := beg_contains c (h := fun i hi => by
    obtain ⟨b, off, e1, e2, e3, e4⟩ := hL i hi
    exact ⟨b, off, e1, k1.cell e2 id, (Quiet.nil w).leaf e3 k1, e4⟩) (hl := by rcases hn with e | e; rw [e]; simp; omega)
  have HG2 := tree_Leaf_no (h.kept k1) 0
  rw [hl] at HG
  unfold begF at HG
  have d0 : decide ((n : Int) < 1) = false := decide_eq_false (by omega)
  have d0n : decide (n < 1) = false := decide_eq_false (by omega)
  have d1 : decide ((1024 : Int) < (n : Int)) = false := decide_eq_false (by omega)
  have d1n : decide (1024 < n) = false := decide_eq_false (by omega)
  rcases hn with e | e
  · subst e
    simp only [List.length_nil] at HG ⊢
    clear h1 h2 k1 hL hl h
    go_enter Try.func66, Try.ntmps66
    go_wp2_with fail
    refine HG.mono ?_
    clear HG
    rintro e W ⟨rfl, rfl⟩
    go_wp2_with fail
    refine HG2.mono ?_
    clear HG2
    rintro e w2 ⟨rfl, hu⟩
    have hd3 : Blk (w2.alloc (.cells (dA dig0) 46)) w2.heap.size 46 (encB (dig0).1) := Blk.new w2 _ _
    have hk3 : Kept w2 (w2.alloc (.cells (dA dig0) 46)) := (Upd.refl _ w2).alloc _
    have HF : Hid (Kept w (w2.alloc (.cells (dA dig0) 46))) := (HK.out.then hu (fun _ _ h => h)).alloc _
    clear hu hd3 hk3
    go_wp2
    go_ret2
    exact ⟨rfl, HF.out⟩
  · rw [e] at HG ⊢
    have d2 : decide ((0 : Int) < (n : Int)) = true := decide_eq_true (by omega)
    have d2n : decide (0 < n) = true := decide_eq_true (by omega)
    clear h1 h2 k1 hL hl h e
    go_enter Try.func66, Try.ntmps66
    go_wp2_with fail
    refine HG.mono ?_
    clear HG
    rintro e W ⟨rfl, rfl⟩
    go_wp2_with fail
    refine HG2.mono ?_
    clear HG2
    rintro e w2 ⟨rfl, hu⟩
    have hd3 : Blk (w2.alloc (.cells (dA dig0) 46)) w2.heap.size 46 (encB (dig0).1) := Blk.new w2 _ _
    have hk3 : Kept w2 (w2.alloc (.cells (dA dig0) 46)) := (Upd.refl _ w2).alloc _
    have HF : Hid (Kept w (w2.alloc (.cells (dA dig0) 46))) := (HK.out.then hu (fun _ _ h => h)).alloc _
    clear hu hd3 hk3
    go_wp2
    go_ret2
    exact ⟨rfl, HF.out⟩
end
end Go.Proofs.Ytnncpjekcljfbaa
/- A fetch begins. -/
namespace Go.Proofs.Ytnncpjekcljfbaa
open Go.RowKit

attribute [local irreducible] wpOrd
def begS (n : Nat) (O : Option (List Bytes)) (root : Dig) : KM × BM := learnM n O (depthM n - 1) 0 root (fun _ _ => none, fun _ => none)
section
variable {w : World} {b r q : Nat} {L : List Bytes} {A : Option Addr} {l : List (SlC × Bytes)}
set_option maxHeartbeats 4000000 in
set_option maxRecDepth 20000 in
theorem fetch_Begin0 (hb : BookL w b r q L) (root : Dig) (n : Nat) (h1 : 1 ≤ n) (h2 : n ≤ 1024) (c : Nat) :
    Calls Try.prog 66 #[.pointer (some ⟨b, 0, none⟩), .agg (dA root), .int .i64 (n : Int), .slice A 0 c] w fun e W => ∃ f, e = .returned (.tuple #[.pointer (some ⟨f, 0, none⟩), .int .i64 0]) ∧ (∃ B m1 m2 gs cs hv ov, w.heap.size ≤ B ∧ FetI W B f m1 m2 b r q n root none (begS n none root) gs cs hv ov) ∧ (∃ L', BookL W b r q L' ∧ (∀ x ∈ L, x ∈ L')) ∧ Upd (Book3 b r q) w W := by
  have k1 : Kept w (w.alloc (.cells (dA root) 46)) := (Upd.refl _ w).alloc _
  have r1 : Blk (w.alloc (.cells (dA root) 46)) w.heap.size 46 (encB root.1) := Blk.new w _ _
  have HR := Lib.hid (And.intro k1 (And.intro r1 (hb.kept k1)))
  have HG := beg_contains (A := A) (l := []) c (h := fun i hi => absurd hi (Nat.not_lt_zero i)) (w := w.alloc (.cells (dA root) 46)) (hl := by simp)
  rw [show longB [] = false from rfl] at HG
  simp only [List.length_nil] at HG
  unfold begF at HG
  have HG2 : Calls Try.prog 43 #[.pointer (some ⟨b, 0, none⟩), .slice none 0 0] (w.alloc (.cells (dA root) 46)) _ := tree_Leaf (hb.kept k1) (A := none) (R := []) 0 (.inl rfl) (by simp)
  have HN := Lib.hid (And.intro h1 (And.intro h2 hb.lt))
  have d0 : decide ((n : Int) < 1) = false := decide_eq_false (by omega)
  have d0n : decide (n < 1) = false := decide_eq_false (by omega)
  have d1 : decide ((1024 : Int) < (n : Int)) = false := decide_eq_false (by omega)
  have d1n : decide (1024 < n) = false := decide_eq_false (by omega)
  clear h1 h2 hb k1 r1
  -- from the function's start to the loop over sizes; here: HG (ContainsFunc), HG2 (Leaf), HR (root's cell in w1), facts about numbers
  go_enter Try.func66, Try.ntmps66
  go_wp2_with fail
  refine HG.mono ?_
  clear HG
  rintro e W ⟨rfl, rfl⟩
  go_wp2_with fail
  refine HG2.mono ?_
  clear HG2
  rintro e w2 ⟨rfl, hb2, hu2⟩
  have hd3 : Blk (w2.alloc (.cells (dA (leafM shaM [])) 46)) w2.heap.size 46 (encB ((leafM shaM [])).1) := Blk.new w2 _ _
  have hk3 : Kept w2 (w2.alloc (.cells (dA (leafM shaM [])) 46)) := (Upd.refl _ w2).alloc _
  have hrb2 : Blk w2 w.heap.size 46 (encB root.1) := HR.out.2.1.upd hu2 (HR.out.2.2.not HR.out.2.1 (by decide))
  have hr3 := hrb2.kept hk3
  obtain ⟨p1, p2⟩ := dig_at hr3
  have hb3 := hb2.kept hk3
  have hs3 : w.heap.size ≤ (w2.alloc (.cells (dA (leafM shaM [])) 46)).heap.size := (HR.out.1.to.trans (hu2.then hk3 (fun _ _ e => e.elim))).size
  have hu3 : Upd (Book3 b r q) w (w2.alloc (.cells (dA (leafM shaM [])) 46)) := HR.out.1.to.trans (hu2.then hk3 (fun _ _ e => e.elim))
  have HB3 := Lib.hid (And.intro hb3 (And.intro hr3 (And.intro hs3 hu3)))
  clear hb2 hu2 hk3 hd3 hrb2 hr3 hb3 hs3 hu3
  have hmm := @run_makeMap Try.prog
  have hmm2 := fetA_size b
  have hF0 := Fet0.new (w2.alloc (.cells (dA (leafM shaM [])) 46)) b n root
  have hk8 : Kept (w2.alloc (.cells (dA (leafM shaM [])) 46)) (((((w2.alloc (.cells (dA (leafM shaM [])) 46)).alloc (.cells #[.int .i64 (n : Int)] 3)).alloc (.map #[] 0)).alloc (.map #[] 0)).alloc (.cells (fetA b root (w2.alloc (.cells (dA (leafM shaM [])) 46)).heap.size ((w2.alloc (.cells (dA (leafM shaM [])) 46)).heap.size + 1) ((w2.alloc (.cells (dA (leafM shaM [])) 46)).heap.size + 1 + 1)) 131)) := ((((Upd.refl _ _).alloc _).alloc _).alloc _).alloc _
  simp only [World.size_alloc] at hF0 hk8
  have H8 := Lib.hid (And.intro hF0 hk8)
  clear hF0 hk8
  have hw1 := HR.out.2.1.lt
  have hw2 : w.heap.size < w2.heap.size + 1 := by have h1 := HB3.out.2.1.lt; rw [World.size_alloc] at h1; exact h1
  go_wp2_with fail
  generalize (((((w2.alloc (.cells (dA (leafM shaM [])) 46)).alloc (.cells #[.int .i64 (n : Int)] 3)).alloc (.map #[] 0)).alloc (.map #[] 0)).alloc (.cells (fetA b root (w2.heap.size + 1) (w2.heap.size + 1 + 1) (w2.heap.size + 1 + 1 + 1)) 131)) = w8 at *
  generalize w2.heap.size + 1 + 1 + 1 + 1 = f at *
  generalize w2.heap.size + 1 + 1 + 1 = m2 at *
  generalize w2.heap.size + 1 + 1 = m1 at *
  have H9 := Lib.hid (And.intro (H8.out.1.low (show w.heap.size + 1 ≤ _ by omega)) (And.intro (HB3.out.1.kept H8.out.2) (And.intro (HB3.out.2.1.kept H8.out.2) (show Upd (Book3 b r q) w w8 from HB3.out.2.2.2.trans H8.out.2.to))))
  clear H8 HB3 HR hw1 hw2 p1 p2 hmm hmm2 d0 d0n d1 d1n
  -- the loop over sizes; behind it: k, gs, cs, hke : k + 1 = depthM n, hF, hu
  go_loopw [13] (fun u wr => ∃ k gs cs : Nat, k < depthM n ∧ u = .int .i64 (sizeL n k : Int) ∧ Fet0 wr (w.heap.size + 1) f m1 m2 b root gs (k + 1) cs nilV nilV n ∧ Upd (fun j => w.heap.size < j) w8 wr) (fun u _ => (intOf u).toNat)
  case atStart => exact ⟨0, _, _, depthM_pos n, rfl, H9.out.1, Upd.refl _ _⟩
  case round =>
    obtain ⟨k, gs, cs, hk, rfl, hF, hu⟩ := hrel
    have hx := size_more hk
    have hxl := size_last hk
    have hx1 : 1 ≤ sizeL n k ∧ sizeL n k ≤ 1024 := ⟨sizeL_pos HN.out.1 k, Nat.le_trans (sizeL_le HN.out.1 k) HN.out.2.1⟩
    have hkd : k ≤ 1025 := by have := depthM_small HN.out.2.1; omega
    have hxs : sizeL n (k + 1) = up4 (sizeL n k) := rfl
    generalize hxe : sizeL n k = x at *
    replace hxe := Lib.hid hxe
    have HKD := Lib.hid hkd
    by_cases h1x : 1 < x
    · have hd : decide ((1 : Int) < (x : Int)) = true := decide_eq_true (by omega)
      have hdn : decide (1 < x) = true := decide_eq_true (by omega)
      have hx5 : (x : Int) ≤ 1024 := by omega
      have hq : ((x : Int) + 4 - 1).tdiv 4 = ((up4 x : Nat) : Int) := by rw [Int.tdiv_eq_ediv_of_nonneg (by omega)]; unfold up4; omega
      have hq2 : ((x : Int) + 3).tdiv 4 = ((up4 x : Nat) : Int) := by rw [Int.tdiv_eq_ediv_of_nonneg (by omega)]; unfold up4; omega
      have hu5 : ((up4 x : Nat) : Int) ≤ 1024 := by unfold up4; omega
      have c33 := hF.c.1
      have hka : Kept wr (wr.alloc (.cells #[.int .i64 ((up4 x : Nat) : Int)] 3)) := (Upd.refl _ wr).alloc _
      have HQ := Lib.hid (And.intro (hF.kept hka) (And.intro (heap_alloc_new wr (.cells #[.int .i64 ((up4 x : Nat) : Int)] 3)) (And.intro hu (And.intro (hx h1x) (And.intro hk (And.intro h1x (And.intro hx1 hxs)))))))
      clear hF hka hu hx hxl hx1 hk hkd h1x hxs
      go_wp2_with (at_builtin; refine wpList_append_rows in_rows rfl (.tmp 64) (.tmp 66) rfl rfl HQ.out.1.szs (up4 x) wr.heap.size 1 _ _ rfl HQ.out.2.1 (by have := HKD.out; rw [List.length_map, List.length_range]; unfold maxLen; omega) (by have := HKD.out; rw [List.length_map, List.length_range]; omega) (by have h1 := HQ.out.1.gsB; omega) ?_; intro v' w' hown' hu' hnew; obtain ⟨g', c', hv', -, -, -, -⟩ := OwnRows.get (f := inA) (n := 1) (fun _ => rfl) hown' (k := 0) (by simp); rw [List.length_append, List.length_map, List.length_range] at hv'; subst hv'; rw [show (List.range (k + 1)).map (sizeL n) ++ [up4 x] = (List.range (k + 1 + 1)).map (sizeL n) by rw [List.range_succ (n := k + 1), List.map_append, List.map_singleton, HQ.out.2.2.2.2.2.2.2]] at hown'; obtain ⟨hF2, c33, z33⟩ := HQ.out.1.more hown' (hu'.mono fun j _ e => by have e2 : some gs = some j := e; cases e2; rfl))
      have HF2 := Lib.hid (And.intro hF2 (show Upd (fun j => w.heap.size < j) w8 (w'.setCell ⟨f, 33, none⟩ (.slice (some ⟨g', 0, none⟩) (k + 1 + 1) c')) from by
        have hgb := HQ.out.1.gsB.1
        have hfb := HQ.out.1.bf
        have h3 : Upd (fun j => w.heap.size < j) w8 (wr.alloc (.cells #[.int .i64 ((up4 x : Nat) : Int)] 3)) := HQ.out.2.2.1.alloc _
        have h4 := h3.then hu' (fun j _ e => by have e2 : some gs = some j := e; cases e2; omega)
        exact h4.setCell (p := ⟨f, 33, none⟩) _ (fun _ => by show w.heap.size < f; omega)))
      clear hF2 hown' hu' hnew z33
      go_roundw
      case rel => exact ⟨k + 1, g', c', HQ.out.2.2.2.1, by rw [HQ.out.2.2.2.2.2.2.2], HF2.out.1, HF2.out.2⟩
      case measure => have h1 := HQ.out.2.2.2.2.2.1; unfold up4; simp [intOf]; omega
    · have h1d : decide ((1 : Int) < (x : Int)) = false := decide_eq_false (by omega)
      have h1n : decide (1 < x) = false := decide_eq_false (by omega)
      have hke := hxl h1x
      have h5 := HN.out.2.2
      have hfb := hF.bf
      have hbk : BookL wr b r q (noteM L (leafIn [])) := H9.out.2.1.upd hu (fun e => by have := h5 b (.inl rfl); omega) (fun e => by have := h5 r (.inr (.inl rfl)); omega) (fun e => by have := h5 q (.inr (.inr rfl)); omega)
      have hrt := H9.out.2.2.1.upd hu (fun e => Nat.lt_irrefl _ e)
      have huw : Upd (Book3 b r q) w wr := H9.out.2.2.2.then hu (fun j hj e => by omega)
      rw [hke] at hF
      have HT := Lib.hid (And.intro hF (And.intro hbk (And.intro hrt huw)))
      clear hx hxl hx1 hk hkd h1x hxs hF hbk hrt huw h5 hfb H9 hu hke
      have HI := Lib.hid (HT.out.1.all (O := none) (r := r) (q := q) ⟨rfl, rfl⟩ HN.out.1 HN.out.2.1 (fun j hj => by have := HN.out.2.2 j hj; omega))
      -- here: HI : Hid (FetI ..), HT : Hid (.., book, root's cell, upd), of world wr
      obtain ⟨dl, hdl⟩ : ∃ dl, depthM n = dl + 1 := ⟨depthM n - 1, by have := depthM_pos n; omega⟩
      obtain ⟨dp, hdp⟩ : ∃ dp, dp = depthM n := ⟨_, rfl⟩
      have hsub : (dp : Int) - 1 = (dl : Int) := by omega
      have hdl5 : (dl : Int) ≤ 1025 := by have := depthM_small HN.out.2.1; omega
      have hwr : IntKind.i64.wrap (dl : Int) = (dl : Int) := by rw [IntKind.wrap_i64]; omega
      have HDL := Lib.hid (And.intro hdl hdp)
      have f1 : ∀ W, Upd (Maps2 m1 m2) wr W → W.cell? ⟨f, 33, none⟩ = some (.slice (some ⟨gs, 0, none⟩) dp cs) := fun W hW => by rw [HDL.out.2]; exact HI.out.mcell HI.out.c.2.1 hW
      have f2 : ∀ W, Upd (Maps2 m1 m2) wr W → segB W ⟨w.heap.size, 0, none⟩ 32 = true := fun W hW => (HI.out.mseg (by omega) (dig_at HT.out.2.2.1).1 (dig_at HT.out.2.2.1).2 hW).1
      have f3 : ∀ W, Upd (Maps2 m1 m2) wr W → segV W ⟨w.heap.size, 0, none⟩ 32 = dA root := fun W hW => (HI.out.mseg (by omega) (dig_at HT.out.2.2.1).1 (dig_at HT.out.2.2.1).2 hW).2
      clear hdl hdp
      go_wp2_with fail
      refine wp_region_ord [(0, true), (1, true), (2, true), (3, true), (4, true), (5, true), (6, true), (7, true), (8, true), (9, false)] (by kernel_rfl) (by kernel_rfl) (Upd (Maps2 m1 m2) wr) (Upd.refl _ _).drew ?_
      simp only [ordOps, List.getD_cons_zero, List.getD_cons_succ]
      iterate 9 (refine wpOrd_held (fun K hK => ?_); go_simp; first | (apply Exists.intro; refine ⟨fun W hW => ?_, hK _ ?_⟩; (go_simp; first | done | exact rfl); clear hK K) | (refine hK _ ?_; clear hK K))
      clear f1 f2 f3
      have hSd : Upd (Maps2 m1 m2) wr (wr).drew := (Upd.refl _ _).drew
      have hkd : Kept wr (wr).drew := (Upd.refl _ _).drew
      have hID := HI.out.kept hkd
      generalize (wr).drew = wd at *
      refine wpOrd_step (fun K hK => ?_) hSd
      go_simp
      have HG : Calls Try.prog 95 #[.pointer (some ⟨f, 0, none⟩), .agg #[.int .i64 (dl : Int), .int .i64 0], .agg (dA root)] wd _ := fetch_learn hID dl 0 root (by have := HDL.out.1; omega) (by have := sizeL_pos HN.out.1 dl; omega)
      refine HG.mono ?_
      clear HG hID
      rintro e w6 ⟨⟨v, rfl⟩, h6, hu6⟩
      have hS6 := hSd.trans hu6
      refine hK _ _ hS6 ?_
      clear hK K
      have hbb := HN.out.2.2
      have HF := Lib.hid (And.intro h6 (And.intro (HT.out.2.1.upd hS6 (fun e => by have := hbb b (.inl rfl); have := HI.out.b1; have := HI.out.b2; rcases e with e | e <;> omega) (fun e => by have := hbb r (.inr (.inl rfl)); have := HI.out.b1; have := HI.out.b2; rcases e with e | e <;> omega) (fun e => by have := hbb q (.inr (.inr rfl)); have := HI.out.b1; have := HI.out.b2; rcases e with e | e <;> omega)) (show Upd (Book3 b r q) w w6 from HT.out.2.2.2.then hS6 (fun j hj e => by have := HI.out.b1; have := HI.out.b2; rcases e with e | e <;> omega))))
      clear h6 hu6 hS6 hSd hkd hbb
      refine wpOrd_nil ?_
      go_wp2
      go_ret2
      have hb0 : begS n none root = learnM n none dl 0 root (fun _ _ => none, fun _ => none) := by unfold begS; rw [HDL.out.1, Nat.add_sub_cancel]
      first | exact ⟨_, rfl, ⟨w.heap.size + 1, m1, m2, gs, cs, _, _, by omega, by rw [hb0]; exact HF.out.1⟩, ⟨_, HF.out.2.1, fun x hx => mem_noteM.2 (.inl hx)⟩, HF.out.2.2⟩ | exact ⟨f, rfl, ⟨w.heap.size + 1, m1, m2, gs, cs, _, _, by omega, by rw [hb0]; exact HF.out.1⟩, ⟨_, HF.out.2.1, fun x hx => mem_noteM.2 (.inl hx)⟩, HF.out.2.2⟩
end
end Go.Proofs.Ytnncpjekcljfbaa
/- A fetch begins, with what there is already. -/
namespace Go.Proofs.Ytnncpjekcljfbaa
open Go.RowKit

attribute [local irreducible] wpOrd
section
variable {w : World} {b r q : Nat} {L : List Bytes} {A : Option Addr} {l : List (SlC × Bytes)}
set_option maxHeartbeats 4000000 in
set_option maxRecDepth 20000 in
theorem fetch_Begin1 (hb : BookL w b r q L) (root : Dig) (n : Nat) (h1 : 1 ≤ n) (h2 : n ≤ 1024) (c : Nat) (hn : l.length = n) (hLv : ∀ W, Upd (Book3 b r q) w W → LeavesAt W A l) (hs : ∀ p ∈ l, p.2.length < 65536) :
    Calls Try.prog 66 #[.pointer (some ⟨b, 0, none⟩), .agg (dA root), .int .i64 (n : Int), .slice A l.length c] w fun e W => ∃ f, e = .returned (.tuple #[.pointer (some ⟨f, 0, none⟩), .int .i64 0]) ∧ (∃ B m1 m2 gs cs hv ov, w.heap.size ≤ B ∧ FetI W B f m1 m2 b r q n root (some (secs l)) (begS n (some (secs l)) root) gs cs hv ov) ∧ (∃ L', BookL W b r q L' ∧ (∀ x ∈ L, x ∈ L') ∧ Noted L' (secs l)) ∧ Upd (Book3 b r q) w W := by
  have k1 : Kept w (w.alloc (.cells (dA root) 46)) := (Upd.refl _ w).alloc _
  have r1 : Blk (w.alloc (.cells (dA root) 46)) w.heap.size 46 (encB root.1) := Blk.new w _ _
  have HR := Lib.hid (And.intro k1 (And.intro r1 (hb.kept k1)))
  have HG := beg_contains c (hLv _ k1.to) (by omega)
  rw [longB_false (fun k hk => hs _ (List.getElem_mem hk)), hn] at HG
  rw [hn]
  unfold begF at HG
  have HG2 : Calls Try.prog 43 #[.pointer (some ⟨b, 0, none⟩), .slice none 0 0] (w.alloc (.cells (dA root) 46)) _ := tree_Leaf (hb.kept k1) (A := none) (R := []) 0 (.inl rfl) (by simp)
  have HN := Lib.hid (And.intro h1 (And.intro h2 hb.lt))
  have HLV := Lib.hid (And.intro hLv (And.intro hs hn))
  have d0 : decide ((n : Int) < 1) = false := decide_eq_false (by omega)
  have d0n : decide (n < 1) = false := decide_eq_false (by omega)
  have d1 : decide ((1024 : Int) < (n : Int)) = false := decide_eq_false (by omega)
  have d1n : decide (1024 < n) = false := decide_eq_false (by omega)
  have d2 : decide ((0 : Int) < (n : Int)) = true := decide_eq_true (by omega)
  have d2n : decide (0 < n) = true := decide_eq_true (by omega)
  clear h1 h2 hb k1 r1 hLv hs hn
  -- from the function's start to the loop over sizes; here: HG (ContainsFunc), HG2 (Leaf), HR (root's cell in w1), facts about numbers
  go_enter Try.func66, Try.ntmps66
  go_wp2_with fail
  refine HG.mono ?_
  clear HG
  rintro e W ⟨rfl, rfl⟩
  go_wp2_with fail
  refine HG2.mono ?_
  clear HG2
  rintro e w2 ⟨rfl, hb2, hu2⟩
  have hd3 : Blk (w2.alloc (.cells (dA (leafM shaM [])) 46)) w2.heap.size 46 (encB ((leafM shaM [])).1) := Blk.new w2 _ _
  have hk3 : Kept w2 (w2.alloc (.cells (dA (leafM shaM [])) 46)) := (Upd.refl _ w2).alloc _
  have hrb2 : Blk w2 w.heap.size 46 (encB root.1) := HR.out.2.1.upd hu2 (HR.out.2.2.not HR.out.2.1 (by decide))
  have hr3 := hrb2.kept hk3
  obtain ⟨p1, p2⟩ := dig_at hr3
  have hb3 := hb2.kept hk3
  have hs3 : w.heap.size ≤ (w2.alloc (.cells (dA (leafM shaM [])) 46)).heap.size := (HR.out.1.to.trans (hu2.then hk3 (fun _ _ e => e.elim))).size
  have hu3 : Upd (Book3 b r q) w (w2.alloc (.cells (dA (leafM shaM [])) 46)) := HR.out.1.to.trans (hu2.then hk3 (fun _ _ e => e.elim))
  have HB3 := Lib.hid (And.intro hb3 (And.intro hr3 (And.intro hs3 hu3)))
  clear hb2 hu2 hk3 hd3 hrb2 hr3 hb3 hs3 hu3
  have hmm := @run_makeMap Try.prog
  have hmm2 := fetA_size b
  have hF0 := Fet0.new (w2.alloc (.cells (dA (leafM shaM [])) 46)) b n root
  have hk8 : Kept (w2.alloc (.cells (dA (leafM shaM [])) 46)) (((((w2.alloc (.cells (dA (leafM shaM [])) 46)).alloc (.cells #[.int .i64 (n : Int)] 3)).alloc (.map #[] 0)).alloc (.map #[] 0)).alloc (.cells (fetA b root (w2.alloc (.cells (dA (leafM shaM [])) 46)).heap.size ((w2.alloc (.cells (dA (leafM shaM [])) 46)).heap.size + 1) ((w2.alloc (.cells (dA (leafM shaM [])) 46)).heap.size + 1 + 1)) 131)) := ((((Upd.refl _ _).alloc _).alloc _).alloc _).alloc _
  simp only [World.size_alloc] at hF0 hk8
  have H8 := Lib.hid (And.intro hF0 hk8)
  clear hF0 hk8
  have hw1 := HR.out.2.1.lt
  have hw2 : w.heap.size < w2.heap.size + 1 := by have h1 := HB3.out.2.1.lt; rw [World.size_alloc] at h1; exact h1
  go_wp2_with fail
  generalize (((((w2.alloc (.cells (dA (leafM shaM [])) 46)).alloc (.cells #[.int .i64 (n : Int)] 3)).alloc (.map #[] 0)).alloc (.map #[] 0)).alloc (.cells (fetA b root (w2.heap.size + 1) (w2.heap.size + 1 + 1) (w2.heap.size + 1 + 1 + 1)) 131)) = w8 at *
  generalize w2.heap.size + 1 + 1 + 1 + 1 = f at *
  generalize w2.heap.size + 1 + 1 + 1 = m2 at *
  generalize w2.heap.size + 1 + 1 = m1 at *
  have H9 := Lib.hid (And.intro (H8.out.1.low (show w.heap.size + 1 ≤ _ by omega)) (And.intro (HB3.out.1.kept H8.out.2) (And.intro (HB3.out.2.1.kept H8.out.2) (show Upd (Book3 b r q) w w8 from HB3.out.2.2.2.trans H8.out.2.to))))
  clear H8 HB3 HR hw1 hw2 p1 p2 hmm hmm2 d0 d0n d1 d1n
  -- the loop over sizes; behind it: k, gs, cs, hke : k + 1 = depthM n, hF, hu
  go_loopw [13] (fun u wr => ∃ k gs cs : Nat, k < depthM n ∧ u = .int .i64 (sizeL n k : Int) ∧ Fet0 wr (w.heap.size + 1) f m1 m2 b root gs (k + 1) cs nilV nilV n ∧ Upd (fun j => w.heap.size < j) w8 wr) (fun u _ => (intOf u).toNat)
  case atStart => exact ⟨0, _, _, depthM_pos n, rfl, H9.out.1, Upd.refl _ _⟩
  case round =>
    obtain ⟨k, gs, cs, hk, rfl, hF, hu⟩ := hrel
    have hx := size_more hk
    have hxl := size_last hk
    have hx1 : 1 ≤ sizeL n k ∧ sizeL n k ≤ 1024 := ⟨sizeL_pos HN.out.1 k, Nat.le_trans (sizeL_le HN.out.1 k) HN.out.2.1⟩
    have hkd : k ≤ 1025 := by have := depthM_small HN.out.2.1; omega
    have hxs : sizeL n (k + 1) = up4 (sizeL n k) := rfl
    generalize hxe : sizeL n k = x at *
    replace hxe := Lib.hid hxe
    have HKD := Lib.hid hkd
    by_cases h1x : 1 < x
    · have hd : decide ((1 : Int) < (x : Int)) = true := decide_eq_true (by omega)
      have hdn : decide (1 < x) = true := decide_eq_true (by omega)
      have hx5 : (x : Int) ≤ 1024 := by omega
      have hq : ((x : Int) + 4 - 1).tdiv 4 = ((up4 x : Nat) : Int) := by rw [Int.tdiv_eq_ediv_of_nonneg (by omega)]; unfold up4; omega
      have hq2 : ((x : Int) + 3).tdiv 4 = ((up4 x : Nat) : Int) := by rw [Int.tdiv_eq_ediv_of_nonneg (by omega)]; unfold up4; omega
      have hu5 : ((up4 x : Nat) : Int) ≤ 1024 := by unfold up4; omega
      have c33 := hF.c.1
      have hka : Kept wr (wr.alloc (.cells #[.int .i64 ((up4 x : Nat) : Int)] 3)) := (Upd.refl _ wr).alloc _
      have HQ := Lib.hid (And.intro (hF.kept hka) (And.intro (heap_alloc_new wr (.cells #[.int .i64 ((up4 x : Nat) : Int)] 3)) (And.intro hu (And.intro (hx h1x) (And.intro hk (And.intro h1x (And.intro hx1 hxs)))))))
      clear hF hka hu hx hxl hx1 hk hkd h1x hxs
      go_wp2_with (at_builtin; refine wpList_append_rows in_rows rfl (.tmp 64) (.tmp 66) rfl rfl HQ.out.1.szs (up4 x) wr.heap.size 1 _ _ rfl HQ.out.2.1 (by have := HKD.out; rw [List.length_map, List.length_range]; unfold maxLen; omega) (by have := HKD.out; rw [List.length_map, List.length_range]; omega) (by have h1 := HQ.out.1.gsB; omega) ?_; intro v' w' hown' hu' hnew; obtain ⟨g', c', hv', -, -, -, -⟩ := OwnRows.get (f := inA) (n := 1) (fun _ => rfl) hown' (k := 0) (by simp); rw [List.length_append, List.length_map, List.length_range] at hv'; subst hv'; rw [show (List.range (k + 1)).map (sizeL n) ++ [up4 x] = (List.range (k + 1 + 1)).map (sizeL n) by rw [List.range_succ (n := k + 1), List.map_append, List.map_singleton, HQ.out.2.2.2.2.2.2.2]] at hown'; obtain ⟨hF2, c33, z33⟩ := HQ.out.1.more hown' (hu'.mono fun j _ e => by have e2 : some gs = some j := e; cases e2; rfl))
      have HF2 := Lib.hid (And.intro hF2 (show Upd (fun j => w.heap.size < j) w8 (w'.setCell ⟨f, 33, none⟩ (.slice (some ⟨g', 0, none⟩) (k + 1 + 1) c')) from by
        have hgb := HQ.out.1.gsB.1
        have hfb := HQ.out.1.bf
        have h3 : Upd (fun j => w.heap.size < j) w8 (wr.alloc (.cells #[.int .i64 ((up4 x : Nat) : Int)] 3)) := HQ.out.2.2.1.alloc _
        have h4 := h3.then hu' (fun j _ e => by have e2 : some gs = some j := e; cases e2; omega)
        exact h4.setCell (p := ⟨f, 33, none⟩) _ (fun _ => by show w.heap.size < f; omega)))
      clear hF2 hown' hu' hnew z33
      go_roundw
      case rel => exact ⟨k + 1, g', c', HQ.out.2.2.2.1, by rw [HQ.out.2.2.2.2.2.2.2], HF2.out.1, HF2.out.2⟩
      case measure => have h1 := HQ.out.2.2.2.2.2.1; unfold up4; simp [intOf]; omega
    · have h1d : decide ((1 : Int) < (x : Int)) = false := decide_eq_false (by omega)
      have h1n : decide (1 < x) = false := decide_eq_false (by omega)
      have hke := hxl h1x
      have h5 := HN.out.2.2
      have hfb := hF.bf
      have hbk : BookL wr b r q (noteM L (leafIn [])) := H9.out.2.1.upd hu (fun e => by have := h5 b (.inl rfl); omega) (fun e => by have := h5 r (.inr (.inl rfl)); omega) (fun e => by have := h5 q (.inr (.inr rfl)); omega)
      have hrt := H9.out.2.2.1.upd hu (fun e => Nat.lt_irrefl _ e)
      have huw : Upd (Book3 b r q) w wr := H9.out.2.2.2.then hu (fun j hj e => by omega)
      rw [hke] at hF
      have HT := Lib.hid (And.intro hF (And.intro hbk (And.intro hrt huw)))
      clear hx hxl hx1 hk hkd h1x hxs hF hbk hrt huw h5 hfb H9 hu hke
      obtain ⟨wo, rfl⟩ : ∃ wo : World, wo = wr := ⟨_, rfl⟩
      go_wp2_with fail
      clear d2 d2n
      obtain ⟨dp, hdp⟩ : ∃ dp, dp = depthM n := ⟨_, rfl⟩
      go_loopw [75] (fun u wr => ∃ (k : Nat) (hv : Value) (li : List (SlC × Bytes)), k ≤ n ∧ u = .int .i64 (k : Int) ∧ Fet0 wr (w.heap.size + 1) f m1 m2 b root gs (depthM n) cs hv nilV n ∧ OwnLv wr (w.heap.size + 1) hv li ∧ secs li = (secs l).take k ∧ Upd (fun j => w.heap.size < j) wo wr) (fun u _ => 3000 - (intOf u).toNat)
      case atStart => exact ⟨0, nilV, [], Nat.zero_le _, rfl, HT.out.1, OwnLv.nil _ _, rfl, Upd.refl _ _⟩
      case round =>
        clear hdp dp
        obtain ⟨k, hv, li, hk, rfl, hF, hL, hsl, hu⟩ := hrel
        have huw : Upd (Book3 b r q) w wr := HT.out.2.2.2.then hu (fun j hj e => by omega)
        rcases Nat.lt_or_ge k n with hlt | hge
        · have hki : (k : Int) < (n : Int) := by omega
          have hk5 : (k : Int) ≤ 1024 := by have := HN.out.2.1; omega
          have hkl : k < l.length := by rw [HLV.out.2.2]; exact hlt
          obtain ⟨g1, o1, A1, c1, hA1, hc1, hR1, -⟩ := (HLV.out.1 wr huw).get hkl
          have hRl : l[k].2.length < 65536 := HLV.out.2.1 _ (List.getElem_mem hkl)
          have hsk : (secs l).take (k + 1) = (secs l).take k ++ [l[k].2] := by
            rw [List.take_succ_eq_append_getElem (by rw [List.length_map]; exact hkl), List.getElem_map]
          subst hA1
          generalize l[k].2 = R at *
          have hlik : li.length = k := by have := congrArg List.length hsl; rw [List.length_map, List.length_take, List.length_map, HLV.out.2.2] at this; omega
          obtain ⟨A0, m0, c0, rfl⟩ : ∃ A0 m0 c0, hv = .slice A0 m0 c0 := by
            obtain ⟨A', c', h⟩ := OwnRows.form hL.1
            exact ⟨A', _, c', h⟩
          have HQ := Lib.hid (And.intro hu (And.intro hF.gsB (And.intro (show li.length ≤ 1023 by have := HN.out.2.1; omega) (And.intro hRl (And.intro hlt (And.intro hsl (And.intro hL.1 hsk.symm)))))))
          have HFL := Lib.hid (And.intro hF hL)
          have HR1 := Lib.hid hR1
          clear hF hL hsl hu huw hRl hsk hlik hkl hlt hk hR1
          go_wp2_with fail
          clear hc1 hki
          refine wp_region_tree (.take 0 (.take 1 (.take 2 (.take 3 (.take 5 (.two 4 6 (.one 6 (.one 7 (.one 8 (.take 9 (.take 10 (.one 11 .done)))))) (.two 4 7 (.one 7 (.one 8 (.take 9 (.take 10 (.one 11 .done))))) (.one 4 (.one 8 (.take 9 (.take 10 (.one 11 .done)))))))))))) (by kernel_rfl) (by kernel_rfl) (Upd (fun j => j = f ∨ (Value.slice A0 m0 c0).ownBlock = some j) wr) ((Upd.refl _ _).drew) ?_
          simp only [OT.ops, List.getD_cons_zero, List.getD_cons_succ]
          iterate 5 (refine wpOO_held (fun K hK => ?_); go_simp; first | (apply Exists.intro; refine ⟨fun W hW => ?_, hK _ ?_⟩; (go_simp; first | done | exact rfl); clear hK K) | (refine hK _ ?_; clear hK K))
          have hk3 : Kept wr wr.drew := (Upd.refl _ _).drew
          have hS3 : Upd (fun j => j = f ∨ (Value.slice A0 m0 c0).ownBlock = some j) wr wr.drew := hk3.to
          have hF3 := HFL.out.1.kept hk3
          have hL3 := HFL.out.2.kept hk3
          have hB3 : w.heap.size + 1 ≤ wr.drew.heap.size := by have h1 := hF3.gsB; omega
          have d3 : wr.drew.cell? ⟨f, 36, none⟩ = some (.slice A0 m0 c0) := hF3.c.2.1
          have HG3 := bytes_Clone c1 (HR1.out.kept hk3) (by have := HQ.out.2.2.2.1; omega)
          clear hk3
          generalize wr.drew = W3 at *
          refine wpOO_fork (fun K hK => ?_) (fun K hK => ?_) hS3
          · go_simp
            refine hK _ _ hS3 ?_
            clear hK K
            refine wpOO_step (fun K hK => ?_) hS3
            go_simp
            refine HG3.mono ?_
            clear HG3
            rintro e W4 ⟨vy, rfl, hOy, hu4⟩
            obtain ⟨Ay, cy, rfl, -, -⟩ := hOy.form
            have hS4 : Upd (fun j => j = f ∨ (Value.slice A0 m0 c0).ownBlock = some j) wr W4 := hS3.then hu4 fun _ _ h => h.elim
            have hS5 : Upd (fun j => j = f ∨ (Value.slice A0 m0 c0).ownBlock = some j) wr (W4.alloc (.cells (slA ⟨Ay, R.length, cy⟩) 35)) := hS4.alloc _
            have hk5 : Kept W4 (W4.alloc (.cells (slA ⟨Ay, R.length, cy⟩) 35)) := (Upd.refl _ W4).alloc _
            have hF5 := (hF3.kept hu4).kept hk5
            have hL5 := (hL3.kept hu4).kept hk5
            have hg5 := heap_alloc_new W4 (.cells (slA ⟨Ay, R.length, cy⟩) 35)
            have hs5 : w.heap.size + 1 ≤ (W4.alloc (.cells (slA ⟨Ay, R.length, cy⟩) 35)).heap.size := Nat.le_trans hB3 (Nat.le_trans hu4.size hk5.size)
            have hO5 : OwnB (W4.alloc (.cells (slA ⟨Ay, R.length, cy⟩) 35)) (w.heap.size + 1) (SlC.v ⟨Ay, R.length, cy⟩) R := (hOy.low hB3).kept hk5
            have d4 : W4.cell? ⟨f, 36, none⟩ = some (.slice A0 m0 c0) := hu4.cell d3 id
            have d5 : (W4.alloc (.cells (slA ⟨Ay, R.length, cy⟩) 35)).cell? ⟨f, 36, none⟩ = some (.slice A0 m0 c0) := hk5.cell d4 id
            clear hk5 hOy hu4 hF3 hL3 d3 hS3 hB3
            refine hK _ _ hS4 ?_
            clear hK K
            refine wpOO_step (fun K hK => ?_) hS4
            go_simp
            refine hK _ _ hS5 ?_
            clear hK K
            refine wpOO_step (fun K hK => ?_) hS5
            refine step_append_rows bs_rows rfl (.tmp 83) (.tmp 86) rfl rfl hL5.1 ⟨Ay, R.length, cy⟩ W4.heap.size 1 _ _ rfl hg5 (by have := HQ.out.2.2.1; rw [List.length_map]; unfold maxLen; omega) (by have := HQ.out.2.2.1; rw [List.length_map]; omega) hs5 ?_
            intro v' W' hrows hu' hnew
            have hS6 : Upd (fun j => j = f ∨ (Value.slice A0 m0 c0).ownBlock = some j) wr W' := hS5.then hu' fun _ _ h => .inr h
            obtain ⟨hF7, c36, z36⟩ := hF5.have' (hv' := v') hu' (fun j e => own_cells hL5.1 e)
            have hL6 := hL5.snoc hO5 (by have := HQ.out.2.2.2.1; omega) hrows hu'
            refine hK _ _ hS6 ?_
            clear hK K
            iterate 2 (refine wpOO_held (fun K hK => ?_); go_simp; first | (apply Exists.intro; refine ⟨fun W hW => ?_, hK _ ?_⟩; (go_simp; first | done | exact rfl); clear hK K) | (refine hK _ ?_; clear hK K))
            refine wpOO_step (fun K hK => ?_) hS6
            obtain ⟨A', m', c', rfl⟩ : ∃ A' m' c', v' = .slice A' m' c' := by
              obtain ⟨A', c', h⟩ := OwnRows.form hrows
              exact ⟨A', _, c', h⟩
            have hS7 := hS6.setCell (p := ⟨f, 36, none⟩) (.slice A' m' c') fun _ => .inl rfl
            have hu2 : Upd (fun j => j = f) W' (W'.setCell ⟨f, 36, none⟩ (.slice A' m' c')) := (Upd.refl _ _).setCell (p := ⟨f, 36, none⟩) _ fun _ => rfl
            have hfB := hF5.bf
            have hfC := hF5.blk.upd hu' (fun e => by
              obtain ⟨cur, hc⟩ := own_cells hL5.1 e
              exact cells_ne hc hF5.blk (by decide) rfl)
            have hL7 := hL6.upd2 hu2 (fun j ⟨cs', t', fr', hc, ht⟩ e => by
              subst e
              rcases ht with rfl | rfl
              · exact cells_ne hc hfC (by decide) rfl
              · exact cells_ne hc hfC (by decide) rfl)
            have HF := Lib.hid (And.intro hF7 (And.intro hL7 (show Upd (fun j => w.heap.size < j) wo (W'.setCell ⟨f, 36, none⟩ (.slice A' m' c')) from HQ.out.1.then hS7 (fun j hj e => by
              rcases e with e | e
              · omega
              · have := (World.ownsRow.lt HQ.out.2.2.2.2.2.2.1 j e).1; omega))))
            go_simp
            refine hK _ _ hS7 ?_
            clear hK K hS7 hu2 hfB hfC hL7 hF7 c36 z36 hL6 hS6 hrows hu' hnew hS5 hF5 hL5 hg5 hs5 hO5 d4 d5 hS4
            refine wpOO_nil ?_
            generalize (W'.setCell ⟨f, 36, none⟩ (.slice A' m' c')) = W9 at *
            go_wp2
            go_roundw
            case rel => exact ⟨k + 1, _, _, by have := HQ.out.2.2.2.2.1; omega, by show _ = _; go_num, HF.out.1, HF.out.2.1, by have e1 := HQ.out.2.2.2.2.2.1; have e2 := HQ.out.2.2.2.2.2.2.2; rw [← e2, ← e1]; simp [secs], HF.out.2.2⟩
            case measure => have := HQ.out.2.2.2.2.1; have := HN.out.2.1; simp [intOf]; omega
          · go_simp
            refine HG3.mono ?_
            clear HG3
            rintro e W4 ⟨vy, rfl, hOy, hu4⟩
            obtain ⟨Ay, cy, rfl, -, -⟩ := hOy.form
            have hS4 : Upd (fun j => j = f ∨ (Value.slice A0 m0 c0).ownBlock = some j) wr W4 := hS3.then hu4 fun _ _ h => h.elim
            have hS5 : Upd (fun j => j = f ∨ (Value.slice A0 m0 c0).ownBlock = some j) wr (W4.alloc (.cells (slA ⟨Ay, R.length, cy⟩) 35)) := hS4.alloc _
            have hk5 : Kept W4 (W4.alloc (.cells (slA ⟨Ay, R.length, cy⟩) 35)) := (Upd.refl _ W4).alloc _
            have hF5 := (hF3.kept hu4).kept hk5
            have hL5 := (hL3.kept hu4).kept hk5
            have hg5 := heap_alloc_new W4 (.cells (slA ⟨Ay, R.length, cy⟩) 35)
            have hs5 : w.heap.size + 1 ≤ (W4.alloc (.cells (slA ⟨Ay, R.length, cy⟩) 35)).heap.size := Nat.le_trans hB3 (Nat.le_trans hu4.size hk5.size)
            have hO5 : OwnB (W4.alloc (.cells (slA ⟨Ay, R.length, cy⟩) 35)) (w.heap.size + 1) (SlC.v ⟨Ay, R.length, cy⟩) R := (hOy.low hB3).kept hk5
            have d4 : W4.cell? ⟨f, 36, none⟩ = some (.slice A0 m0 c0) := hu4.cell d3 id
            have d5 : (W4.alloc (.cells (slA ⟨Ay, R.length, cy⟩) 35)).cell? ⟨f, 36, none⟩ = some (.slice A0 m0 c0) := hk5.cell d4 id
            clear hk5 hOy hu4 hF3 hL3 d3 hS3 hB3
            refine hK _ _ hS4 ?_
            clear hK K
            refine wpOO_fork (fun K hK => ?_) (fun K hK => ?_) hS4
            · go_simp
              refine hK _ _ hS4 ?_
              clear hK K
              refine wpOO_step (fun K hK => ?_) hS4
              go_simp
              refine hK _ _ hS5 ?_
              clear hK K
              refine wpOO_step (fun K hK => ?_) hS5
              refine step_append_rows bs_rows rfl (.tmp 83) (.tmp 86) rfl rfl hL5.1 ⟨Ay, R.length, cy⟩ W4.heap.size 1 _ _ rfl hg5 (by have := HQ.out.2.2.1; rw [List.length_map]; unfold maxLen; omega) (by have := HQ.out.2.2.1; rw [List.length_map]; omega) hs5 ?_
              intro v' W' hrows hu' hnew
              have hS6 : Upd (fun j => j = f ∨ (Value.slice A0 m0 c0).ownBlock = some j) wr W' := hS5.then hu' fun _ _ h => .inr h
              obtain ⟨hF7, c36, z36⟩ := hF5.have' (hv' := v') hu' (fun j e => own_cells hL5.1 e)
              have hL6 := hL5.snoc hO5 (by have := HQ.out.2.2.2.1; omega) hrows hu'
              refine hK _ _ hS6 ?_
              clear hK K
              iterate 2 (refine wpOO_held (fun K hK => ?_); go_simp; first | (apply Exists.intro; refine ⟨fun W hW => ?_, hK _ ?_⟩; (go_simp; first | done | exact rfl); clear hK K) | (refine hK _ ?_; clear hK K))
              refine wpOO_step (fun K hK => ?_) hS6
              obtain ⟨A', m', c', rfl⟩ : ∃ A' m' c', v' = .slice A' m' c' := by
                obtain ⟨A', c', h⟩ := OwnRows.form hrows
                exact ⟨A', _, c', h⟩
              have hS7 := hS6.setCell (p := ⟨f, 36, none⟩) (.slice A' m' c') fun _ => .inl rfl
              have hu2 : Upd (fun j => j = f) W' (W'.setCell ⟨f, 36, none⟩ (.slice A' m' c')) := (Upd.refl _ _).setCell (p := ⟨f, 36, none⟩) _ fun _ => rfl
              have hfB := hF5.bf
              have hfC := hF5.blk.upd hu' (fun e => by
                obtain ⟨cur, hc⟩ := own_cells hL5.1 e
                exact cells_ne hc hF5.blk (by decide) rfl)
              have hL7 := hL6.upd2 hu2 (fun j ⟨cs', t', fr', hc, ht⟩ e => by
                subst e
                rcases ht with rfl | rfl
                · exact cells_ne hc hfC (by decide) rfl
                · exact cells_ne hc hfC (by decide) rfl)
              have HF := Lib.hid (And.intro hF7 (And.intro hL7 (show Upd (fun j => w.heap.size < j) wo (W'.setCell ⟨f, 36, none⟩ (.slice A' m' c')) from HQ.out.1.then hS7 (fun j hj e => by
                rcases e with e | e
                · omega
                · have := (World.ownsRow.lt HQ.out.2.2.2.2.2.2.1 j e).1; omega))))
              go_simp
              refine hK _ _ hS7 ?_
              clear hK K hS7 hu2 hfB hfC hL7 hF7 c36 z36 hL6 hS6 hrows hu' hnew hS5 hF5 hL5 hg5 hs5 hO5 d4 d5 hS4
              refine wpOO_nil ?_
              generalize (W'.setCell ⟨f, 36, none⟩ (.slice A' m' c')) = W9 at *
              go_wp2
              go_roundw
              case rel => exact ⟨k + 1, _, _, by have := HQ.out.2.2.2.2.1; omega, by show _ = _; go_num, HF.out.1, HF.out.2.1, by have e1 := HQ.out.2.2.2.2.2.1; have e2 := HQ.out.2.2.2.2.2.2.2; rw [← e2, ← e1]; simp [secs], HF.out.2.2⟩
              case measure => have := HQ.out.2.2.2.2.1; have := HN.out.2.1; simp [intOf]; omega
            · go_simp
              refine hK _ _ hS5 ?_
              clear hK K
              refine wpOO_step (fun K hK => ?_) hS5
              go_simp
              refine hK _ _ hS5 ?_
              clear hK K
              refine wpOO_step (fun K hK => ?_) hS5
              refine step_append_rows bs_rows rfl (.tmp 83) (.tmp 86) rfl rfl hL5.1 ⟨Ay, R.length, cy⟩ W4.heap.size 1 _ _ rfl hg5 (by have := HQ.out.2.2.1; rw [List.length_map]; unfold maxLen; omega) (by have := HQ.out.2.2.1; rw [List.length_map]; omega) hs5 ?_
              intro v' W' hrows hu' hnew
              have hS6 : Upd (fun j => j = f ∨ (Value.slice A0 m0 c0).ownBlock = some j) wr W' := hS5.then hu' fun _ _ h => .inr h
              obtain ⟨hF7, c36, z36⟩ := hF5.have' (hv' := v') hu' (fun j e => own_cells hL5.1 e)
              have hL6 := hL5.snoc hO5 (by have := HQ.out.2.2.2.1; omega) hrows hu'
              refine hK _ _ hS6 ?_
              clear hK K
              iterate 2 (refine wpOO_held (fun K hK => ?_); go_simp; first | (apply Exists.intro; refine ⟨fun W hW => ?_, hK _ ?_⟩; (go_simp; first | done | exact rfl); clear hK K) | (refine hK _ ?_; clear hK K))
              refine wpOO_step (fun K hK => ?_) hS6
              obtain ⟨A', m', c', rfl⟩ : ∃ A' m' c', v' = .slice A' m' c' := by
                obtain ⟨A', c', h⟩ := OwnRows.form hrows
                exact ⟨A', _, c', h⟩
              have hS7 := hS6.setCell (p := ⟨f, 36, none⟩) (.slice A' m' c') fun _ => .inl rfl
              have hu2 : Upd (fun j => j = f) W' (W'.setCell ⟨f, 36, none⟩ (.slice A' m' c')) := (Upd.refl _ _).setCell (p := ⟨f, 36, none⟩) _ fun _ => rfl
              have hfB := hF5.bf
              have hfC := hF5.blk.upd hu' (fun e => by
                obtain ⟨cur, hc⟩ := own_cells hL5.1 e
                exact cells_ne hc hF5.blk (by decide) rfl)
              have hL7 := hL6.upd2 hu2 (fun j ⟨cs', t', fr', hc, ht⟩ e => by
                subst e
                rcases ht with rfl | rfl
                · exact cells_ne hc hfC (by decide) rfl
                · exact cells_ne hc hfC (by decide) rfl)
              have HF := Lib.hid (And.intro hF7 (And.intro hL7 (show Upd (fun j => w.heap.size < j) wo (W'.setCell ⟨f, 36, none⟩ (.slice A' m' c')) from HQ.out.1.then hS7 (fun j hj e => by
                rcases e with e | e
                · omega
                · have := (World.ownsRow.lt HQ.out.2.2.2.2.2.2.1 j e).1; omega))))
              go_simp
              refine hK _ _ hS7 ?_
              clear hK K hS7 hu2 hfB hfC hL7 hF7 c36 z36 hL6 hS6 hrows hu' hnew hS5 hF5 hL5 hg5 hs5 hO5 d4 d5 hS4
              refine wpOO_nil ?_
              generalize (W'.setCell ⟨f, 36, none⟩ (.slice A' m' c')) = W9 at *
              go_wp2
              go_roundw
              case rel => exact ⟨k + 1, _, _, by have := HQ.out.2.2.2.2.1; omega, by show _ = _; go_num, HF.out.1, HF.out.2.1, by have e1 := HQ.out.2.2.2.2.2.1; have e2 := HQ.out.2.2.2.2.2.2.2; rw [← e2, ← e1]; simp [secs], HF.out.2.2⟩
              case measure => have := HQ.out.2.2.2.2.1; have := HN.out.2.1; simp [intOf]; omega
        · obtain rfl : k = n := by omega
          have hki : ¬ (k : Int) < (k : Int) := by omega
          have hsl2 : secs li = secs l := by rw [hsl, List.take_of_length_le]; rw [List.length_map, HLV.out.2.2]; exact Nat.le_refl _
          have hbb := HN.out.2.2
          have hbk : BookL wr b r q (noteM L (leafIn [])) := HT.out.2.1.upd hu (fun e => by have := hbb b (.inl rfl); omega) (fun e => by have := hbb r (.inr (.inl rfl)); omega) (fun e => by have := hbb q (.inr (.inr rfl)); omega)
          have hrt := HT.out.2.2.1.upd hu (fun e => Nat.lt_irrefl _ e)
          have HT2 := Lib.hid (And.intro hF (And.intro hL (And.intro hsl2 (And.intro hrt (And.intro huw (And.intro hbk hF.blk.lt))))))
          have HG := fetch_levels hbk c (fun W hW => HLV.out.1 W (huw.trans hW)) (by rw [HLV.out.2.2]; exact HN.out.1) (by rw [HLV.out.2.2]; exact HN.out.2.1) HLV.out.2.1
          rw [HLV.out.2.2] at HG
          have hBs : w.heap.size + 1 ≤ wr.heap.size := by have := hF.gsB; omega
          replace hBs := Lib.hid hBs
          clear hF hL hsl hsl2 hbk hrt huw hu hge hk hbb HT
          go_wp2_with fail
          refine HG.mono ?_
          clear HG
          rintro e w5 ⟨v5, rfl, hP5, ⟨L5, hb5, hLL5, hno5⟩, hu5⟩
          obtain ⟨A5, m5, c5, rfl⟩ : ∃ A' m' c', v5 = .slice A' m' c' := by
            obtain ⟨xs, ho, _⟩ := hP5
            obtain ⟨A', c', h⟩ := OwnRows.form ho
            exact ⟨A', _, c', h⟩
          have hbb := HN.out.2.2
          have hF5 : Fet0 w5 (w.heap.size + 1) f m1 m2 b root gs (depthM k) cs hv nilV k := by
            have h1 := HT2.out.1.bf
            have h2 := HT2.out.1.gsB
            have h3 := HT2.out.1.b1
            have h4 := HT2.out.1.b2
            exact HT2.out.1.upd hu5 (fun e => by have := hbb _ e; omega) (fun e => by have := hbb _ e; omega) (fun e => by have := hbb _ e; omega) (fun e => by have := hbb _ e; omega)
          have hL5 := HT2.out.2.1.book HT2.out.2.2.2.2.2.1 hu5
          obtain ⟨hF6, z37⟩ := hF5.old (ov' := .slice A5 m5 c5)
          have c37 := hF5.c.2.2
          have hu6 : Upd (fun j => j = f) w5 (w5.setCell ⟨f, 37, none⟩ (.slice A5 m5 c5)) := (Upd.refl _ _).setCell (p := ⟨f, 37, none⟩) _ fun _ => rfl
          have hfB := hF5.bf
          have hP6 := hP5.upd hu6 (fun j hj _ e => by have e2 : j = f := e; have := HT2.out.2.2.2.2.2.2; omega)
          have hL6 := hL5.upd2 hu6 (fun j ⟨cs', t', fr', hc, ht⟩ e => by
            subst e
            rcases ht with rfl | rfl
            · exact cells_ne hc hF5.blk (by decide) rfl
            · exact cells_ne hc hF5.blk (by decide) rfl)
          have hb6 := hb5.upd hu6 (fun e => by have := hbb b (.inl rfl); omega) (fun e => by have := hbb r (.inr (.inl rfl)); omega) (fun e => by have := hbb q (.inr (.inr rfl)); omega)
          have hrt6 := (HT2.out.2.2.2.1.upd hu5 (fun e => Nat.lt_irrefl _ (hbb _ e))).upd hu6 (fun e => by omega)
          have huw6 : Upd (Book3 b r q) w (w5.setCell ⟨f, 37, none⟩ (.slice A5 m5 c5)) := (HT2.out.2.2.2.2.1.trans hu5).then hu6 (fun j hj e => by omega)
          have HT := Lib.hid (And.intro trivial (And.intro hb6 (And.intro hrt6 huw6)))
          have HLN := Lib.hid (And.intro hLL5 hno5)
          have hold : OldAt (w5.setCell ⟨f, 37, none⟩ (.slice A5 m5 c5)) (w.heap.size + 1) k hv (.slice A5 m5 c5) (some (secs l)) := by
            refine ⟨by rw [List.length_map]; exact HLV.out.2.2, ⟨li, hL6.1, fun p hp => ⟨(hL6.2 p hp).1.leafAt, ?_⟩, HT2.out.2.2.1⟩, ?_⟩
            · have h1 : p.2 ∈ secs l := by rw [← HT2.out.2.2.1]; exact List.mem_map_of_mem hp
              obtain ⟨p', h2, h3⟩ := List.mem_map.1 h1
              rw [← h3]; exact HLV.out.2.1 p' h2
            · have h1 := hP6.base hBs.out
              rw [leafD_secs] at h1
              exact h1
          have HI := Lib.hid (hF6.all (O := some (secs l)) (r := r) (q := q) hold HN.out.1 HN.out.2.1 (fun j hj => by have := HN.out.2.2 j hj; omega))
          clear hF5 hL5 hF6 hu6 hfB hP6 hL6 hb6 hrt6 huw6 hold hP5 hb5 hLL5 hno5 hu5 hbb HT2 hBs
          go_wp2_with fail
          clear c37 z37
          generalize w5.setCell ⟨f, 37, none⟩ (.slice A5 m5 c5) = w6 at *
          obtain ⟨n, rfl⟩ : ∃ n, n = k := ⟨_, rfl⟩
          -- here: HI : Hid (FetI ..), HT : Hid (.., book, root's cell, upd), of world w6
          obtain ⟨dl, hdl⟩ : ∃ dl, depthM n = dl + 1 := ⟨depthM n - 1, by have := depthM_pos n; omega⟩
          obtain ⟨dp, hdp⟩ : ∃ dp, dp = depthM n := ⟨_, rfl⟩
          have hsub : (dp : Int) - 1 = (dl : Int) := by omega
          have hdl5 : (dl : Int) ≤ 1025 := by have := depthM_small HN.out.2.1; omega
          have hwr : IntKind.i64.wrap (dl : Int) = (dl : Int) := by rw [IntKind.wrap_i64]; omega
          have HDL := Lib.hid (And.intro hdl hdp)
          have f1 : ∀ W, Upd (Maps2 m1 m2) w6 W → W.cell? ⟨f, 33, none⟩ = some (.slice (some ⟨gs, 0, none⟩) dp cs) := fun W hW => by rw [HDL.out.2]; exact HI.out.mcell HI.out.c.2.1 hW
          have f2 : ∀ W, Upd (Maps2 m1 m2) w6 W → segB W ⟨w.heap.size, 0, none⟩ 32 = true := fun W hW => (HI.out.mseg (by omega) (dig_at HT.out.2.2.1).1 (dig_at HT.out.2.2.1).2 hW).1
          have f3 : ∀ W, Upd (Maps2 m1 m2) w6 W → segV W ⟨w.heap.size, 0, none⟩ 32 = dA root := fun W hW => (HI.out.mseg (by omega) (dig_at HT.out.2.2.1).1 (dig_at HT.out.2.2.1).2 hW).2
          clear hdl hdp
          go_wp2_with fail
          refine wp_region_ord [(0, true), (1, true), (2, true), (3, true), (4, true), (5, true), (6, true), (7, true), (8, true), (9, false)] (by kernel_rfl) (by kernel_rfl) (Upd (Maps2 m1 m2) w6) (Upd.refl _ _).drew ?_
          simp only [ordOps, List.getD_cons_zero, List.getD_cons_succ]
          iterate 9 (refine wpOrd_held (fun K hK => ?_); go_simp; first | (apply Exists.intro; refine ⟨fun W hW => ?_, hK _ ?_⟩; (go_simp; first | done | exact rfl); clear hK K) | (refine hK _ ?_; clear hK K))
          clear f1 f2 f3
          have hSd : Upd (Maps2 m1 m2) w6 (w6).drew := (Upd.refl _ _).drew
          have hkd : Kept w6 (w6).drew := (Upd.refl _ _).drew
          have hID := HI.out.kept hkd
          generalize (w6).drew = wd at *
          refine wpOrd_step (fun K hK => ?_) hSd
          go_simp
          have HG : Calls Try.prog 95 #[.pointer (some ⟨f, 0, none⟩), .agg #[.int .i64 (dl : Int), .int .i64 0], .agg (dA root)] wd _ := fetch_learn hID dl 0 root (by have := HDL.out.1; omega) (by have := sizeL_pos HN.out.1 dl; omega)
          refine HG.mono ?_
          clear HG hID
          rintro e w6 ⟨⟨v, rfl⟩, h6, hu6⟩
          have hS6 := hSd.trans hu6
          refine hK _ _ hS6 ?_
          clear hK K
          have hbb := HN.out.2.2
          have HF := Lib.hid (And.intro h6 (And.intro (HT.out.2.1.upd hS6 (fun e => by have := hbb b (.inl rfl); have := HI.out.b1; have := HI.out.b2; rcases e with e | e <;> omega) (fun e => by have := hbb r (.inr (.inl rfl)); have := HI.out.b1; have := HI.out.b2; rcases e with e | e <;> omega) (fun e => by have := hbb q (.inr (.inr rfl)); have := HI.out.b1; have := HI.out.b2; rcases e with e | e <;> omega)) (show Upd (Book3 b r q) w w6 from HT.out.2.2.2.then hS6 (fun j hj e => by have := HI.out.b1; have := HI.out.b2; rcases e with e | e <;> omega))))
          clear h6 hu6 hS6 hSd hkd hbb
          refine wpOrd_nil ?_
          go_wp2
          go_ret2
          have hb0 : begS n (some (secs l)) root = learnM n (some (secs l)) dl 0 root (fun _ _ => none, fun _ => none) := by unfold begS; rw [HDL.out.1, Nat.add_sub_cancel]
          exact ⟨_, rfl, ⟨w.heap.size + 1, m1, m2, gs, cs, _, _, by omega, by rw [hb0]; exact HF.out.1⟩, ⟨L5, HF.out.2.1, fun x hx => HLN.out.1 x (mem_noteM.2 (.inl hx)), HLN.out.2⟩, HF.out.2.2⟩
end
end Go.Proofs.Ytnncpjekcljfbaa
