import Derived.Test.YtepjbijhkkjbfaaGreatSetZp
import Derived.Test.YtepjbijhkkjbfaaGreatSetZh
import Derived.Test.YtepjbijhkkjbfaaGreatSetZg
set_option linter.unusedVariables false
set_option linter.unusedSimpArgs false
namespace Go.Proofs.YtepjbijhkkjbfaaGreat
open Go.RowKit
variable {Tu : Nat → Prop}
attribute [local irreducible] wpOrd
theorem OwnP.more {W W' : World} {B : Nat} {v v' : Value} {xs : List SlC} {P : List (List Dig)} {x : SlC} {l : List Dig} (ho : OwnRows slA 1 W B 45 v xs) (hxl : xs.length = P.length)
    (he : ∀ i (h : i < xs.length) (h' : i < P.length), OwnD W B xs[i].v P[i]) (hx : OwnD W B x.v l) (ho' : OwnRows slA 1 W' B 45 v' (xs ++ [x])) (hu : Upd (fun k => v.ownBlock = some k) W W') : OwnP W' B v' (P ++ [l]) := by
  refine ⟨_, ho', by rw [List.length_append, List.length_append, hxl]; rfl, fun i hi hi' => ?_⟩; have hfar : ∀ {y : Value} {m : List Dig}, OwnD W B y m → OwnD W' B y m := fun h => OwnRows.upd h hu (fun k e e2 => by
    obtain ⟨c1, h1⟩ := own_cells h e; obtain ⟨c2, h2⟩ := own_cells ho e2; rw [h1] at h2; simp only [Option.some.injEq, Obj.cells.injEq] at h2; exact absurd h2.2.1 (by decide))
  by_cases hi2 : i < xs.length
  · rw [List.getElem_append_left hi2, List.getElem_append_left (by rw [← hxl]; exact hi2)]
    exact hfar (he i hi2 _)
  · have hi3 : i = xs.length := by simp at hi; omega
    subst hi3; have e1 : (xs ++ [x])[xs.length] = x := by simp
    have e2 : (P ++ [l])[xs.length]'hi' = l := by simp [hxl]
    rw [e1, e2]; exact hfar hx
abbrev secs (l : List (SlC × Bytes)) : List Bytes := l.map (·.2)
theorem leafD_secs (l : List (SlC × Bytes)) : leafD l = (secs l).map (leafM shaM) := by simp [leafD, secs]
set_option maxHeartbeats 4000000 in
set_option maxRecDepth 20000 in
theorem fetch_levels {w : World} {b r q : Nat} {L : List Bytes} (h : BookL w b r q L) {A : Option Addr} {l : List (SlC × Bytes)} (c : Nat) (hLv : ∀ W, Upd (Book3 b r q) w W → LeavesAt W A l) (h1 : 1 ≤ l.length) (hl : l.length ≤ 1024) (hs : ∀ p ∈ l, p.2.length < 65536) :
    Calls Tryz.prog 26 #[.pointer (some ⟨b, 0, none⟩), .slice A l.length c] w fun e W => ∃ v, e = .returned (.tuple #[v, .int .i64 0]) ∧ OwnP W w.heap.size v (levelsM shaM (leafD l)) ∧ (∃ L', BookL W b r q L' ∧ (∀ x ∈ L, x ∈ L') ∧ Noted L' (secs l)) ∧ Upd (Book3 b r q) w W := by
  have HG := tree_New h l.length h1 hl; have HX := Lib.hid (And.intro hLv (And.intro h1 (And.intro hl hs))); clear hLv h1 hl hs h; obtain ⟨n, hn⟩ : ∃ n, n = l.length := ⟨_, rfl⟩; rw [← hn] at HG ⊢; have HNN := Lib.hid hn; clear hn
  go_enter Tryz.func26, Tryz.ntmps26
  go_wp2_with fail; refine HG.mono ?_; clear HG; rintro e w2 ⟨t, rfl, htlo, hT, hb, hu⟩; have HT := Lib.hid (And.intro hT (And.intro hb hu)); clear hT hb hu htlo; go_wp2_with fail; obtain ⟨lo, hlo⟩ : ∃ lo, lo = w.heap.size := ⟨_, rfl⟩; obtain ⟨hi, hhi⟩ : ∃ hi, hi = w2.heap.size := ⟨_, rfl⟩; rw [← hlo, ← hhi] at HT
  replace hlo := Lib.hid hlo
  clear hhi
  go_loopw [27] (fun u1 wr => ∃ (k : Nat) (D : List Dig) (L' : List Bytes), k ≤ n ∧ u1 = .int .i64 k ∧ D.length = n ∧ (∀ j, j < k → D[j]? = (leafD l)[j]?) ∧ TreeAt wr lo hi t b D ∧ BookL wr b r q L' ∧ InsIn L' D ∧ (∀ R ∈ (secs l).take k, leafIn R ∈ L') ∧ (∀ x ∈ L, x ∈ L') ∧ Upd (Book3 b r q) w wr) (fun u1 _ => 2000 - (intOf u1).toNat)
  case atStart =>
    exact ⟨0, _, _, Nat.zero_le _, rfl, List.length_replicate, fun j hj => absurd hj (Nat.not_lt_zero j), HT.out.1, HT.out.2.1, InsIn.new _ _, by simp, fun x hx => mem_notesM.2 (.inl (mem_noteM.2 (.inl hx))), HT.out.2.2⟩
  case round =>
    clear HT; obtain ⟨k, D, L', hk, rfl, hDn, hDk, hT, hb, hins, hlf, hLL, hu⟩ := hrel; rcases Nat.lt_or_ge k n with hlt | hge
    · have hk1 : (k : Int) < (n : Int) := by omega
      have hk1024 : (k : Int) ≤ 1024 := by have := HX.out.2.2.1; have := HNN.out; omega
      have hkl : k < l.length := by have := HNN.out; omega
      obtain ⟨g1, o1, A1, c1, hA1, hc1, hR1, -⟩ := (HX.out.1 wr hu).get hkl; have hRl : l[k].2.length < 65536 := HX.out.2.2.2 _ (List.getElem_mem hkl); have hsk : (secs l)[k]? = some l[k].2 := by simp [secs, hkl]
      subst hA1; generalize l[k].2 = R at *; have HS := tree_Set hb hT c1 hR1 hRl k (by omega); have HQ := Lib.hid (And.intro hDn (And.intro hDk (And.intro hins (And.intro hlf (And.intro hLL (And.intro hu (And.intro hsk hlt))))))); clear hDn hDk hT hb hins hlf hLL hu hsk hlt hk hR1 hRl hkl; go_wp2_with fail; clear hc1; refine HS.mono ?_; clear HS; rintro e we ⟨rfl, hTe, hbe, hue⟩; have hSe : Upd (Book3 b r q) w we := HQ.out.2.2.2.2.2.1.then hue (fun i hi e => e.elim id (fun e => by have := hlo.out; omega)); have HF := Lib.hid (And.intro hTe (And.intro hbe hSe)); have HG2 := Lib.hid (HQ.out.2.2.1.set (i := k) (by rw [HQ.out.1]; exact HQ.out.2.2.2.2.2.2.2) (leafIn R) (leafM shaM R)); clear hTe hbe hue hSe; go_wp2
      go_roundw
      case rel =>
        obtain ⟨hDn, hDk, hins, hlf, hLL, hu, hsk, hlt⟩ := HQ.out; refine ⟨k + 1, _, _, by omega, by show _ = _; go_num, by rw [List.length_set, hDn], fun j hj => ?_, HF.out.1, HF.out.2.1, HG2.out, fun R' hR' => ?_, fun x hx => mem_notesM.2 (.inl (mem_noteM.2 (.inl (hLL x hx)))), HF.out.2.2⟩
        · by_cases hjk : j = k
          · subst hjk
            rw [List.getElem?_set_self (by omega), leafD_secs, List.getElem?_map, hsk]; rfl
          · rw [List.getElem?_set_ne (fun e => hjk e.symm)]
            exact hDk j (by omega)
        · have hkb : k < (secs l).length := (List.getElem?_eq_some_iff.1 hsk).1
          rw [List.take_succ_eq_append_getElem hkb] at hR'; rcases List.mem_append.1 hR' with h1 | h1
          · exact mem_notesM.2 (.inl (mem_noteM.2 (.inl (hlf R' h1))))
          · simp only [List.mem_singleton] at h1
            have h2 := (List.getElem?_eq_some_iff.1 hsk).2; rw [h1, h2]; exact mem_notesM.2 (.inl (mem_noteM.2 (.inr rfl)))
      case measure => have := HQ.out.2.2.2.2.2.2.2; have := HX.out.2.2.1; have := HNN.out; simp [intOf]; omega
    · obtain rfl : k = n := by omega
      have hk1 : ¬ ((k : Int) < (k : Int)) := by omega
      have hDl : D = leafD l := List.ext_getElem? fun j => by
        rcases Nat.lt_or_ge j k with h1 | h1
        · exact hDk j h1
        · rw [List.getElem?_eq_none (by omega), List.getElem?_eq_none (by rw [leafD_length, ← HNN.out]; exact h1)]
      have hno : Noted L' (secs l) := by
        rw [List.take_of_length_le (by rw [List.length_map, ← HNN.out]; exact Nat.le_refl _)] at hlf; rw [hDl, leafD_secs] at hins; exact ⟨hins, hlf⟩
      have HF := Lib.hid (And.intro hb (And.intro hLL (And.intro hno hu))); obtain ⟨wo, rfl⟩ : ∃ wo : World, wo = wr := ⟨_, rfl⟩; have HG := tree_Depth hT; obtain ⟨dp, hdp⟩ : ∃ dp, dp = depthM D.length := ⟨_, rfl⟩; rw [← hdp] at HG; have HD := Lib.hid (And.intro hdp (And.intro (show dp ≤ 1025 by rw [hdp, hDn]; have := depthM_le k D hDn; have := HX.out.2.2.1; have := HNN.out; omega) (And.intro hDn hDl))); have HTT := Lib.hid hT; clear hDn hDk hT hb hins hlf hLL hu hge hk hDl hno hdp; go_wp2_with fail; refine HG.mono ?_; clear HG; rintro e W ⟨rfl, rfl⟩; go_wp2_with fail
      go_loopw [42, 11] (fun u v wr => ∃ j : Nat, j ≤ dp ∧ u = .int .i64 j ∧ OwnP wr wo.heap.size v ((levelsM shaM D).take j) ∧ Kept wo wr ∧ TreeAt wr lo hi t b D) (fun u _ _ => 3000 - (intOf u).toNat)
      case atStart => exact ⟨0, Nat.zero_le _, rfl, OwnP.nil _ _, Upd.refl _ _, HTT.out⟩
      case round =>
        obtain ⟨j, hj, rfl, hown, hu, hT⟩ := hrel; rcases Nat.lt_or_ge j dp with hlt | hge
        · have hj1 : (j : Int) < (dp : Int) := by omega
          have hj5 : (j : Int) ≤ 1025 := by have := HD.out.2.1; omega
          have hjl : j < (levelsM shaM D).length := by rw [levelsM_depth _ rfl, ← HD.out.1]; exact hlt
          obtain ⟨lv, hlv⟩ : ∃ lv, (levelsM shaM D)[j]? = some lv := ⟨_, List.getElem?_eq_getElem hjl⟩; obtain ⟨lv', e1, e2, e3⟩ := lev_get (D := D) (l := j) (by rw [← HD.out.1]; exact hlt); rw [hlv] at e1; obtain rfl : lv = lv' := Option.some.inj e1; have hlvl : lv.length ≤ 1024 := by
            rw [e3, HD.out.2.2.1]; have h1 : 1 ≤ k := by have := HX.out.2.1; have := HNN.out; omega
            exact Nat.le_trans (sizeL_le h1 j) (by have := HX.out.2.2.1; have := HNN.out; omega)
          have HLV := tree_Level hT j hlv hlvl; have HTK := Lib.hid (show (levelsM shaM D).take (j + 1) = (levelsM shaM D).take j ++ [lv] by
            rw [List.take_succ_eq_append_getElem hjl]; rw [List.getElem?_eq_getElem hjl] at hlv; rw [Option.some.inj hlv])
          obtain ⟨xs, ho, hxl, hxe⟩ := hown; have hxs : xs.length = j := by rw [hxl, List.length_take]; omega
          have HR := Lib.hid (And.intro (And.intro ho (And.intro hxl hxe)) (And.intro hu (And.intro hxs (And.intro hlt hT)))); clear ho hxl hxe hu hT hlv e1 e2 e3 hjl hj hlt; go_wp2_with fail; refine HLV.mono ?_; clear HLV; rintro e w4 ⟨v4, rfl, hv4, hu4⟩; obtain ⟨A4, c4, rfl⟩ := OwnRows.form hv4; have hk6 : Kept w4 (w4.alloc (.cells (slA ⟨A4, lv.length, c4⟩) 45)) := (Upd.refl _ w4).alloc _; have hg6 := heap_alloc_new w4 (.cells (slA ⟨A4, lv.length, c4⟩) 45); have hu46 : Kept wr (w4.alloc (.cells (slA ⟨A4, lv.length, c4⟩) 45)) := hu4.then hk6 (fun _ _ h => h); have H6 := Lib.hid (And.intro (OwnRows.upd HR.out.1.1 hu46 (fun _ _ h => h)) (And.intro (HR.out.2.1.then hu46 (fun _ _ h => h)) (And.intro (fun i hi hi' => OwnRows.upd (HR.out.1.2.2 i hi hi') hu46 (fun _ _ h => h)) (And.intro (HR.out.2.2.2.2.kept hu46) (And.intro (show OwnD (w4.alloc (.cells (slA ⟨A4, lv.length, c4⟩) 45)) wo.heap.size (SlC.v ⟨A4, lv.length, c4⟩) lv from OwnRows.upd (own_base hv4 (HR.out.2.1.size)) hk6 (fun _ _ h => h)) hg6))))); clear hv4 hu4 hk6 hg6 hu46; generalize hW6 : w4.alloc (.cells (slA ⟨A4, lv.length, c4⟩) 45) = w6 at *; go_wp2_with (at_builtin; refine wpList_append_rows sl_rows rfl (.tmp 54) (.tmp 56) rfl rfl H6.out.1 ⟨A4, lv.length, c4⟩ w4.heap.size 1 _ _ rfl H6.out.2.2.2.2.2 (by have := HR.out.2.2.1; have := HR.out.2.2.2.1; have := HD.out.2.1; unfold maxLen; omega) (by have := HR.out.2.2.1; have := HR.out.2.2.2.1; have := HD.out.2.1; omega) H6.out.2.1.size ?_; intro v' w7 hown' hu' hnew); have hlo2 : lo ≤ hi ∧ hi ≤ wo.heap.size := by
            obtain ⟨_, _, _, hT0⟩ := HTT.out; exact ⟨by have := hT0.tlo; have := hT0.thi; omega, hT0.sz⟩
          have HQ := Lib.hid (And.intro (OwnP.more H6.out.1 HR.out.1.2.1 H6.out.2.2.1 H6.out.2.2.2.2.1 hown' hu') (And.intro (show Kept wo w7 from H6.out.2.1.then hu' (fun i hi e => by have := (World.ownsRow.lt H6.out.1 i e).1; omega)) (H6.out.2.2.2.1.upd hu' (fun k k1 k2 ⟨cs, t', hc, ht'⟩ e => by
            have h1 := (World.ownsRow.lt H6.out.1 k e).1; omega))))
          have HJ := Lib.hid HR.out.2.2.2.1; clear hown' hu' hnew H6 HR hW6 hlo2; go_wp2
          go_roundw
          case rel => exact ⟨j + 1, HJ.out, by show _ = _; go_num, by rw [HTK.out]; exact HQ.out.1, HQ.out.2.1, HQ.out.2.2⟩
          case measure => have := HJ.out; have := HD.out.2.1; simp [intOf]; omega
        · obtain rfl : j = dp := by omega
          have hj1 : ¬ ((j : Int) < (j : Int)) := by omega
          rw [List.take_of_length_le (by rw [levelsM_depth _ rfl, ← HD.out.1]; exact Nat.le_refl _), HD.out.2.2.2] at hown; have HF2 := Lib.hid (And.intro (hown.base HF.out.2.2.2.size) (And.intro (HF.out.1.kept hu) (show Upd (Book3 b r q) w wr from HF.out.2.2.2.then hu (fun _ _ e => e.elim)))); clear hown hu hT hge hj; go_wp2
          go_ret2
          first | exact ⟨_, rfl, HF2.out.1, ⟨L', HF2.out.2.1, HF.out.2.1, HF.out.2.2.1⟩, HF2.out.2.2⟩ | exact ⟨_, rfl, HF2.out.1, L', HF2.out.2.1, HF.out.2.1, HF.out.2.2.1, HF2.out.2.2⟩ | exact ⟨_, rfl, HF2.out.1, L', ⟨HF2.out.2.1, HF.out.2.1, HF.out.2.2.1⟩, HF2.out.2.2⟩
end Go.Proofs.YtepjbijhkkjbfaaGreat
namespace Go.Proofs.YtepjbijhkkjbfaaGreat
open Go.RowKit
variable {Tu : Nat → Prop}
theorem in_rows : RowType Tryz.prog inA 1 60 3 8 where
  size := fun _ => rfl
  one := fun _ => rfl
  slice := Tryz.underlying60
  info := ⟨.int .i64 0, by kernel_rfl, rfl⟩
  pos := by omega
@[go_sem ↓] theorem exec_one_in (ρ : Operand → Value) (dst : Option Tmp) (parts : Array (Nat × Operand)) (ty : TypeId) (pos : String) (after : Array Edge) (guard : Option (Nat × Bool)) :
    execOp ρ ⟨dst, .buildSlice 60 1 parts, ty, pos, after, guard⟩ = sliceRow 60 1 (parts.map fun (i, x) => (i, ρ x)) := rfl
@[go_sem] theorem run_one_in (x : Int) (W : World) : (sliceRow 60 1 #[(0, .int .i64 x)]).run Tryz.prog W = .ok (.value (.slice (some ⟨W.heap.size, 0, none⟩) 1 1)) (W.alloc (.cells #[.int .i64 x] 3)) :=
  run_sliceRow _ 3 1 (.int .i64 0) #[.int .i64 x] Tryz.underlying60 (by kernel_rfl) (by omega) (by omega) rfl rfl W
abbrev nilV : Value := .slice none 0 0
@[go_sem ↓] theorem exec_build_fet (ρ : Operand → Value) (dst : Option Tmp) (parts : Array (Nat × Operand)) (ty : TypeId) (pos : String) (after : Array Edge) (guard : Option (Nat × Bool)) :
    execOp ρ ⟨dst, .build 65 parts, ty, pos, after, guard⟩ = buildRow 65 (parts.map fun (i, x) => (i, ρ x)) := rfl
def fetA (b : Nat) (root : Dig) (gs m1 m2 : Nat) : Array Value := (fetV b root gs 1 1 m1 m2 nilV nilV).toArray
set_option maxRecDepth 20000 in
@[go_sem] theorem run_build_fet (b gs m1 m2 : Nat) (root : Dig) (W : World) : (buildRow 65 #[(0, .pointer (some ⟨b, 0, none⟩)), (1, .agg (dA root)), (2, .slice (some ⟨gs, 0, none⟩) 1 1), (3, .map (some m1)), (4, .map (some m2))]).run Tryz.prog W = .ok (.value (.agg (fetA b root gs m1 m2))) W := by
  have H : (Instr.build 65 #[(0, .pointer (some ⟨b, 0, none⟩)), (1, .agg (dA root)), (2, .slice (some ⟨gs, 0, none⟩) 1 1), (3, .map (some m1)), (4, .map (some m2))]).run Tryz.prog W = .ok (.agg (fetA b root gs m1 m2)) W := by
    obtain ⟨l, hl⟩ := root
    iterate 32 (rcases l with _ | ⟨a, l⟩; · simp at hl)
    rcases l with _ | ⟨a, l⟩
    · exact run_build (P := Tryz.prog) W _ _ _ (by unfold fetA fetV; kernel_rfl)
    · simp at hl
  simp [buildRow, H, Result.andThen]
theorem fetA_size (b gs m1 m2 : Nat) (root : Dig) : (fetA b root gs m1 m2).size = 38 := by
  simp [fetA, fetV, encB_length, root.2]
theorem fetV_get {b gs m cs m1 m2 : Nat} {root : Dig} {hv ov : Value} (k : Nat) : (fetV b root gs m cs m1 m2 hv ov)[33 + k]? = [.slice (some ⟨gs, 0, none⟩) m cs, .map (some m1), .map (some m2), hv, ov][k]? := by
  have hl : (encB root.1).length = 32 := by rw [encB_length, root.2]
  rw [fetV, show 33 + k = (32 + k) + 1 by omega, List.getElem?_cons_succ, List.getElem?_append_right (by omega), hl, Nat.add_sub_cancel_left]
theorem fetV_set {b gs m cs m1 m2 gs' m' cs' : Nat} {root : Dig} {hv ov hv' ov' : Value} : (fetV b root gs m cs m1 m2 hv ov).set 33 (.slice (some ⟨gs', 0, none⟩) m' cs') = fetV b root gs' m' cs' m1 m2 hv ov ∧ (fetV b root gs m cs m1 m2 hv ov).set 36 hv' = fetV b root gs m cs m1 m2 hv' ov ∧ (fetV b root gs m cs m1 m2 hv ov).set 37 ov' = fetV b root gs m cs m1 m2 hv ov' := by
  have hl : (encB root.1).length = 32 := by rw [encB_length, root.2]
  have key : ∀ (k : Nat) (v : Value) (T : List Value), (Value.pointer (some ⟨b, 0, none⟩) :: (encB root.1 ++ T)).set (33 + k) v = Value.pointer (some ⟨b, 0, none⟩) :: (encB root.1 ++ T.set k v) := fun k v T => by
    rw [show 33 + k = (32 + k) + 1 by omega, List.set_cons_succ, List.set_append_right _ _ (by omega), hl, Nat.add_sub_cancel_left]
  exact ⟨key 0 _ _, key 3 _ _, key 4 _ _⟩
structure Fet0 (W : World) (B f m1 m2 b : Nat) (root : Dig) (gs j cs : Nat) (hv ov : Value) (n : Nat) : Prop where
  blk : Blk W f 65 (fetV b root gs j cs m1 m2 hv ov)
  szs : OwnRows inA 1 W B 3 (.slice (some ⟨gs, 0, none⟩) j cs) ((List.range j).map (sizeL n))
  k : KAt W m1 (fun _ _ => none)
  m : MAt NoT W m2 (fun _ => none)
  ne : m1 ≠ m2
  bf : B ≤ f
  b1 : B ≤ m1
  b2 : B ≤ m2
theorem MAt.any {Tu' : Nat → Prop} {W : World} {m : Nat} (h : MAt Tu W m (fun _ => none)) : MAt Tu' W m (fun _ => none) := by
  obtain ⟨L, hm, hg⟩ := h; exact ⟨L, hm, fun p => hg p⟩
theorem MAt.none {W W' : World} {S : Nat → Prop} {m : Nat} (h : MAt Tu W m (fun _ => none)) (hu : Upd S W W') (hs : ¬ S m) : MAt Tu W' m (fun _ => none) := by
  obtain ⟨L, hm, hg⟩ := h; exact ⟨L, hm.kept (hu.block m hm.lt hs), hg⟩
theorem cells_ne_map {W : World} {g m : Nat} {cs : Array Value} {t : TypeId} {fr : Nat × Nat} (hg : W.heap[g]? = some (.cells cs t fr)) (hm : ∃ es c, W.heap[m]? = some (.map es c)) : m ≠ g := fun e => by
  obtain ⟨es, c, hm⟩ := hm; rw [e, hg] at hm; cases hm
theorem cells_ne {W : World} {g m : Nat} {cs cs' : Array Value} {t t' : TypeId} {fr fr' : Nat × Nat} (hg : W.heap[g]? = some (.cells cs t fr)) (hm : W.heap[m]? = some (.cells cs' t' fr')) (ht : t ≠ t') : g ≠ m := fun e => by
  rw [e, hm] at hg; simp only [Option.some.injEq, Obj.cells.injEq] at hg; exact ht hg.2.1.symm
section
variable {W W' : World} {B f m1 m2 b gs j cs n : Nat} {root : Dig} {hv ov : Value} {S : Nat → Prop}
theorem Fet0.upd (h : Fet0 W B f m1 m2 b root gs j cs hv ov n) (hu : Upd S W W') (hf : ¬ S f) (hg : ¬ S gs) (h1 : ¬ S m1) (h2 : ¬ S m2) : Fet0 W' B f m1 m2 b root gs j cs hv ov n :=
  ⟨h.blk.upd hu hf, OwnRows.upd h.szs hu (fun k e => by have e2 : some gs = some k := e; cases e2; exact hg), h.k.upd hu h1, h.m.none hu h2, h.ne, h.bf, h.b1, h.b2⟩
theorem Fet0.kept (h : Fet0 W B f m1 m2 b root gs j cs hv ov n) (hu : Kept W W') : Fet0 W' B f m1 m2 b root gs j cs hv ov n := h.upd hu id id id id
theorem Fet0.low (h : Fet0 W B f m1 m2 b root gs j cs hv ov n) {B' : Nat} (hB : B' ≤ B) : Fet0 W B' f m1 m2 b root gs j cs hv ov n :=
  ⟨h.blk, own_base h.szs hB, h.k, h.m, h.ne, Nat.le_trans hB h.bf, Nat.le_trans hB h.b1, Nat.le_trans hB h.b2⟩
theorem Fet0.c (h : Fet0 W B f m1 m2 b root gs j cs hv ov n) : W.cell? ⟨f, 33, none⟩ = some (.slice (some ⟨gs, 0, none⟩) j cs) ∧ W.cell? ⟨f, 36, none⟩ = some hv ∧ W.cell? ⟨f, 37, none⟩ = some ov :=
  ⟨h.blk.cell (fetV_get 0), h.blk.cell (fetV_get 3), h.blk.cell (fetV_get 4)⟩
theorem Fet0.gsB (h : Fet0 W B f m1 m2 b root gs j cs hv ov n) : B ≤ gs ∧ gs < W.heap.size := World.ownsRow.lt h.szs gs rfl
theorem Fet0.gsC (h : Fet0 W B f m1 m2 b root gs j cs hv ov n) : ∃ cur, W.heap[gs]? = some (.cells cur 3 (0, 0)) := own_cells h.szs rfl
theorem Fet0.new (W : World) (b n : Nat) (root : Dig) : Fet0 ((((W.alloc (.cells #[.int .i64 (n : Int)] 3)).alloc (.map #[] 0)).alloc (.map #[] 0)).alloc (.cells (fetA b root W.heap.size (W.heap.size + 1) (W.heap.size + 1 + 1)) 65)) W.heap.size (W.heap.size + 1 + 1 + 1) (W.heap.size + 1) (W.heap.size + 1 + 1) b root W.heap.size 1 1 nilV nilV n := by
  have e1 : (W.alloc (.cells #[.int .i64 (n : Int)] 3)).heap.size = W.heap.size + 1 := World.size_alloc _ _; have e2 : ((W.alloc (.cells #[.int .i64 (n : Int)] 3)).alloc (.map #[] 0)).heap.size = W.heap.size + 1 + 1 := by rw [World.size_alloc, e1]
  have e3 : (((W.alloc (.cells #[.int .i64 (n : Int)] 3)).alloc (.map #[] 0)).alloc (.map #[] 0)).heap.size = W.heap.size + 1 + 1 + 1 := by rw [World.size_alloc, e2]
  have r1 : OwnRows inA 1 (W.alloc (.cells #[.int .i64 (n : Int)] 3)) W.heap.size 3 (.slice (some ⟨W.heap.size, 0, none⟩) 1 1) [n] :=
    ⟨by simp [rowsOf, inA], .inr ⟨W.heap.size, 1, inA n, rfl, Nat.le_refl _, heap_alloc_new W _, Nat.le_refl _, by unfold maxLen; omega, rfl, by simp [rowsOf, inA]⟩⟩
  have k2 := KAt.new (W.alloc (.cells #[.int .i64 (n : Int)] 3)); have m3 := MAt.new (Tu := NoT) ((W.alloc (.cells #[.int .i64 (n : Int)] 3)).alloc (.map #[] 0)); have b4 := Blk.new (((W.alloc (.cells #[.int .i64 (n : Int)] 3)).alloc (.map #[] 0)).alloc (.map #[] 0)) 65 (fetV b root W.heap.size 1 1 (W.heap.size + 1) (W.heap.size + 1 + 1) nilV nilV); have u2 : Kept (W.alloc (.cells #[.int .i64 (n : Int)] 3)) ((W.alloc (.cells #[.int .i64 (n : Int)] 3)).alloc (.map #[] 0)) := (Upd.refl _ _).alloc _; have u3 : Kept ((W.alloc (.cells #[.int .i64 (n : Int)] 3)).alloc (.map #[] 0)) (((W.alloc (.cells #[.int .i64 (n : Int)] 3)).alloc (.map #[] 0)).alloc (.map #[] 0)) := (Upd.refl _ _).alloc _; have u4 : Kept (((W.alloc (.cells #[.int .i64 (n : Int)] 3)).alloc (.map #[] 0)).alloc (.map #[] 0)) ((((W.alloc (.cells #[.int .i64 (n : Int)] 3)).alloc (.map #[] 0)).alloc (.map #[] 0)).alloc (.cells (fetA b root W.heap.size (W.heap.size + 1) (W.heap.size + 1 + 1)) 65)) := (Upd.refl _ _).alloc _; have u34 := u3.then u4 (fun _ _ h => h); rw [e1] at k2; rw [e2] at m3; rw [e3] at b4; exact ⟨b4, OwnRows.upd r1 (u2.then u34 (fun _ _ h => h)) (fun _ _ => id), k2.upd u34 id, m3.none u4 id, by omega, by omega, by omega, by omega⟩
theorem Fet0.more {cs' gs' : Nat} (h : Fet0 W B f m1 m2 b root gs j cs hv ov n) (hown : OwnRows inA 1 W' B 3 (.slice (some ⟨gs', 0, none⟩) (j + 1) cs') ((List.range (j + 1)).map (sizeL n))) (hu : Upd (fun k => k = gs) W W') :
    Fet0 (W'.setCell ⟨f, 33, none⟩ (.slice (some ⟨gs', 0, none⟩) (j + 1) cs')) B f m1 m2 b root gs' (j + 1) cs' hv ov n ∧ W'.cell? ⟨f, 33, none⟩ = some (.slice (some ⟨gs, 0, none⟩) j cs) ∧ W'.frozen? ⟨f, 33, none⟩ = false := by
  obtain ⟨cur, hcur⟩ := h.gsC; have b1 : Blk W' f 65 _ := h.blk.upd hu (fun e => cells_ne hcur h.blk (by decide) e.symm); have k1 := h.k.upd hu (cells_ne_map hcur h.k.map); have q1 := h.m.none hu (cells_ne_map hcur h.m.map); have hu2 : Upd (fun k => k = f) W' (W'.setCell ⟨f, 33, none⟩ (.slice (some ⟨gs', 0, none⟩) (j + 1) cs')) := (Upd.refl _ _).setCell (p := ⟨f, 33, none⟩) _ fun _ => rfl; have b2 := b1.set 33 (.slice (some ⟨gs', 0, none⟩) (j + 1) cs'); rw [(fetV_set (hv' := hv) (ov' := ov)).1] at b2; exact ⟨⟨b2, OwnRows.upd hown hu2 (fun k e e2 => by
    obtain ⟨cur2, hc2⟩ := own_cells hown e; exact cells_ne hc2 b1 (by decide) e2), k1.upd hu2 (cells_ne_map b1 k1.map), q1.none hu2 (cells_ne_map b1 q1.map), h.ne, h.bf, h.b1, h.b2⟩, b1.cell (fetV_get 0), b1.thaw 33⟩
theorem Fet0.have' {hv' : Value} (h : Fet0 W B f m1 m2 b root gs j cs hv ov n) (hu : Upd (fun k => hv.ownBlock = some k) W W') (hh : ∀ k, hv.ownBlock = some k → ∃ cur, W.heap[k]? = some (.cells cur 42 (0, 0))) :
    Fet0 (W'.setCell ⟨f, 36, none⟩ hv') B f m1 m2 b root gs j cs hv' ov n ∧ W'.cell? ⟨f, 36, none⟩ = some hv ∧ W'.frozen? ⟨f, 36, none⟩ = false := by
  obtain ⟨cur, hcur⟩ := h.gsC; have hn : ∀ {g : Nat} {cs : Array Value} {t : TypeId} {fr : Nat × Nat}, W.heap[g]? = some (.cells cs t fr) → t ≠ 42 → ¬ hv.ownBlock = some g := fun hg ht e => by
    obtain ⟨c2, hc2⟩ := hh _ e; exact cells_ne hg hc2 ht rfl
  have hm : ∀ {g : Nat}, (∃ es c, W.heap[g]? = some (.map es c)) → ¬ hv.ownBlock = some g := fun hg e => by
    obtain ⟨c2, hc2⟩ := hh _ e; exact cells_ne_map hc2 hg rfl
  have h1 := h.upd hu (hn h.blk (by decide)) (hn hcur (by decide)) (hm h.k.map) (hm h.m.map); have hu2 : Upd (fun k => k = f) W' (W'.setCell ⟨f, 36, none⟩ hv') := (Upd.refl _ _).setCell (p := ⟨f, 36, none⟩) _ fun _ => rfl; have b2 := h1.blk.set 36 hv'; rw [(fetV_set (gs' := gs) (m' := j) (cs' := cs) (ov' := ov)).2.1] at b2; obtain ⟨cur', hcur'⟩ := h1.gsC; exact ⟨⟨b2, OwnRows.upd h1.szs hu2 (fun k e e2 => by
    have e3 : some gs = some k := e; cases e3
    exact cells_ne hcur' h1.blk (by decide) e2), h1.k.upd hu2 (cells_ne_map h1.blk h1.k.map), h1.m.none hu2 (cells_ne_map h1.blk h1.m.map), h.ne, h.bf, h.b1, h.b2⟩, h1.c.2.1, h1.blk.thaw 36⟩
theorem Fet0.old {ov' : Value} (h : Fet0 W B f m1 m2 b root gs j cs hv ov n) :
    Fet0 (W.setCell ⟨f, 37, none⟩ ov') B f m1 m2 b root gs j cs hv ov' n ∧ W.frozen? ⟨f, 37, none⟩ = false := by
  obtain ⟨cur, hcur⟩ := h.gsC; have hu2 : Upd (fun k => k = f) W (W.setCell ⟨f, 37, none⟩ ov') := (Upd.refl _ _).setCell (p := ⟨f, 37, none⟩) _ fun _ => rfl; have b2 := h.blk.set 37 ov'; rw [(fetV_set (gs' := gs) (m' := j) (cs' := cs) (hv' := hv)).2.2] at b2; exact ⟨⟨b2, OwnRows.upd h.szs hu2 (fun k e e2 => by
    have e3 : some gs = some k := e; cases e3
    exact cells_ne hcur h.blk (by decide) e2), h.k.upd hu2 (cells_ne_map h.blk h.k.map), h.m.none hu2 (cells_ne_map h.blk h.m.map), h.ne, h.bf, h.b1, h.b2⟩, h.blk.thaw 37⟩
theorem Fet0.all {r q : Nat} {O : Option (List Bytes)} (h : Fet0 W B f m1 m2 b root gs (depthM n) cs hv ov n) (ho : OldAt Tu W B n hv ov O) (h1 : 1 ≤ n) (h2 : n ≤ 1024) (hB : ∀ k, Book3 b r q k → k < B) (hT : ∀ k, Tu k → k < B) : FetI Tu W B f m1 m2 b r q n root O (fun _ _ => none, fun _ => none) gs cs hv ov :=
  ⟨h.blk, h.szs, h.k, h.m.any, h.ne, ho, h1, h2, hB, h.bf, h.b1, h.b2, fun k e e2 => by
    have h3 := hT k e2; have h4 := h.bf; have h5 := h.b1; have h6 := h.b2; have h7 := (World.ownsRow.lt h.szs gs rfl).1; rcases e with rfl | rfl | rfl | rfl <;> omega⟩
end
theorem OwnLv.upd2 {W W' : World} {B : Nat} {v : Value} {l : List (SlC × Bytes)} {S : Nat → Prop} (h : OwnLv W B v l) (hu : Upd S W W') (hs : ∀ k, (∃ cs t fr, W.heap[k]? = some (.cells cs t fr) ∧ (t = 42 ∨ t = 5)) → ¬ S k) : OwnLv W' B v l :=
  ⟨OwnRows.upd h.1 hu (fun k e => by obtain ⟨cur, hc⟩ := own_cells h.1 e; exact hs k ⟨_, _, _, hc, .inl rfl⟩), fun p hp => ⟨(h.2 p hp).1.upd hu (fun k e => by obtain ⟨cur, hc⟩ := (h.2 p hp).1.block e; exact hs k ⟨_, _, _, hc, .inr rfl⟩), (h.2 p hp).2⟩⟩
theorem size_depth {n : Nat} : ∀ k, k < depthM n → depthM n = k + depthM (sizeL n k)
  | 0, _ => by rw [Nat.zero_add]; rfl
  | k + 1, h => by
    have ih := size_depth (n := n) k (by omega); have h1 : 1 < sizeL n k := by
      rcases Nat.lt_or_ge 1 (sizeL n k) with h1 | h1
      · exact h1
      · have h2 : depthM (sizeL n k) = 1 := by rw [depthM, dif_neg (show ¬ 1 < sizeL n k by omega)]
        omega
    rw [depthM_more h1] at ih; show _ = _ + depthM (up4 (sizeL n k)); omega
theorem size_more {n k : Nat} (hk : k < depthM n) (h : 1 < sizeL n k) : k + 1 < depthM n := by
  have h1 := size_depth k hk; rw [depthM_more h] at h1; have := depthM_pos (up4 (sizeL n k)); omega
theorem size_last {n k : Nat} (hk : k < depthM n) (h : ¬ 1 < sizeL n k) : k + 1 = depthM n := by
  have h1 := size_depth k hk; have h2 : depthM (sizeL n k) = 1 := by rw [depthM, dif_neg h]
  omega
def begF : Value := .func (.func 23) #[] #[]
theorem beg_1 (A : Option Addr) (n c : Nat) (w : World) : Calls Tryz.prog 23 #[.slice A n c] w fun e w' => e = .returned (.bool (decide (65536 ≤ n))) ∧ w = w' := by
  go_enter Tryz.func23, Tryz.ntmps23
  go_wp2
  go_ret
  refine ⟨?_, rfl⟩; simp; omega
def longB (l : List (SlC × Bytes)) : Bool := l.any fun p => decide (65536 ≤ p.2.length)
theorem longB_false {l : List (SlC × Bytes)} (h : ∀ k (hk : k < l.length), l[k].2.length < 65536) : longB l = false := by
  rw [longB, List.any_eq_false]; intro p hp; obtain ⟨k, hk, rfl⟩ := List.getElem_of_mem hp; have := h k hk; simp; omega
theorem longB_true {l : List (SlC × Bytes)} {k : Nat} (hk : k < l.length) (h : 65536 ≤ l[k].2.length) : longB l = true := by
  rw [longB, List.any_eq_true]; exact ⟨_, List.getElem_mem hk, by simpa using h⟩
set_option maxHeartbeats 800000 in
theorem beg_index {w : World} {A : Option Addr} {l : List (SlC × Bytes)} (c : Nat) (h : LeavesAt w A l) (hl : l.length ≤ 1024) :
    Calls Tryz.prog 45 #[.slice A l.length c, begF] w fun e w' => ∃ i : Int, e = .returned (.int .i64 i) ∧ decide (0 ≤ i) = longB l ∧ w = w' := by
  have HX := Lib.hid (And.intro h hl); clear h hl; unfold begF; obtain ⟨n, hn⟩ : ∃ n, n = l.length := ⟨_, rfl⟩; rw [← hn]; have HN := Lib.hid hn; clear hn
  go_enter Tryz.func45, Tryz.ntmps45
  go_wp2_with fail
  go_loopw [8] (fun u1 wr => ∃ k : Nat, k ≤ n ∧ u1 = .int .i64 k ∧ (∀ j (hj : j < l.length), j < k → l[j].2.length < 65536) ∧ wr = w) (fun u1 _ => 2000 - (intOf u1).toNat)
  case atStart => exact ⟨0, Nat.zero_le _, rfl, fun j _ hj => absurd hj (Nat.not_lt_zero j), by trivial⟩
  case round =>
    obtain ⟨k, hk, rfl, hsh, rfl⟩ := hrel; have HS := Lib.hid hsh; clear hsh; rcases Nat.lt_or_ge k n with hlt | hge
    · have hk' : (k : Int) < (n : Int) := by omega
      have hkl : k < l.length := by rw [← HN.out]; exact hlt
      have hk5 : (k : Int) < 1024 := by have := HX.out.2; omega
      obtain ⟨b, off, A2, c2, rfl, hc, _, _⟩ := HX.out.1.get hkl
      by_cases hlong : 65536 ≤ l[k].2.length
      · have hd : decide (65536 ≤ l[k].2.length) = true := decide_eq_true hlong
        have HT := Lib.hid (longB_true hkl hlong); generalize l[k].2 = R at *; clear hlt hk hkl hlong; go_wp2_with fail; refine (beg_1 A2 R.length c2 _).mono ?_; rw [hd]; rintro e W ⟨rfl, rfl⟩; clear hd hc; go_wp2
        go_ret
        first | exact ⟨_, rfl, by rw [HT.out]; simp, rfl⟩ | exact ⟨by rw [HT.out]; simp, rfl⟩ | exact ⟨_, rfl, by rw [HT.out]; simp⟩
      · have hd : decide (65536 ≤ l[k].2.length) = false := decide_eq_false hlong
        have HK := Lib.hid (And.intro hlt (show ∀ j (hj : j < l.length), j < k + 1 → l[j].2.length < 65536 from fun j hj h1 => by
          rcases Nat.lt_succ_iff_lt_or_eq.1 h1 with h2 | h2
          · exact HS.out j hj h2
          · subst h2; omega))
        generalize l[k].2 = R at *; clear hlt hk hkl hlong; go_wp2_with fail; refine (beg_1 A2 R.length c2 _).mono ?_; rw [hd]; rintro e W ⟨rfl, rfl⟩; clear hd hc; go_wp2
        go_roundw
        case rel => exact ⟨k + 1, by have := HK.out.1; omega, by show _ = _; go_num, HK.out.2, by trivial⟩
        case measure => have := HK.out.1; simp [intOf]; omega
    · obtain rfl : k = n := by omega
      have hk' : ¬ ((k : Int) < (k : Int)) := by omega
      have HT := Lib.hid (longB_false (l := l) fun j hj => HS.out j hj (by rw [HN.out]; exact hj)); clear hk hge; go_wp2
      go_ret
      first | exact ⟨_, rfl, by rw [HT.out]; simp, rfl⟩ | exact ⟨by rw [HT.out]; simp, rfl⟩
set_option maxHeartbeats 800000 in
theorem beg_contains {w : World} {A : Option Addr} {l : List (SlC × Bytes)} (c : Nat) (h : LeavesAt w A l) (hl : l.length ≤ 1024) :
    Calls Tryz.prog 22 #[.slice A l.length c, begF] w fun e w' => e = .returned (.bool (longB l)) ∧ w = w' := by
  have HG := beg_index c h hl; clear h hl; generalize begF = F at *; generalize longB l = z at *; generalize l.length = n at *
  go_enter Tryz.func22, Tryz.ntmps22
  go_wp2_with fail; refine HG.mono ?_; rintro e W ⟨i, rfl, hz, rfl⟩; clear HG; go_wp2
  go_ret
  exact ⟨by rw [← hz]; rfl, rfl⟩
end Go.Proofs.YtepjbijhkkjbfaaGreat
