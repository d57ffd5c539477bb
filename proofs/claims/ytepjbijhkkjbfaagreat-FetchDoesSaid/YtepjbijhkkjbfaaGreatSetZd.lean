import Derived.Test.YtepjbijhkkjbfaaGreatSetZb
import Derived.Test.YtepjbijhkkjbfaaGreatSetZc
set_option linter.unusedVariables false
set_option linter.unusedSimpArgs false
namespace Go.Proofs.YtepjbijhkkjbfaaGreat
open Go.RowKit
theorem Blk.has' {W : World} {g t : Nat} {vs : List Value} (h : Blk W g t vs) {k : Nat} (hk : k < vs.length) : ∃ v, W.cell? ⟨g, k, none⟩ = some v := ⟨vs[k], h.cell (by simp [hk])⟩
theorem results_seg2 {P : Program} {fn : Func} {p t : Tmp} {ty : TypeId} (h : fn.results = #[.cell p ty, .tmp t]) (tmps : Array Value) (w : World) (a : Addr) (n : Nat) (d : TypeDesc) (v : Value) (hp : tmps.getD p undef = .pointer (some a)) (ht : tmps.getD t undef = v)
    (hu : P.underlying ty = some d) (hd : (match d with | .struct _ | .array _ _ => true | _ => false) = true) (hi : (P.info? ty).map (·.size) = some n) (hs : segB w a n = true) :
    (results fn tmps).run P w = .ok (.tuple #[.agg (segV w a n), v]) w := by
  have hp' : tmps[p]?.getD undef = .pointer (some a) := by simpa using hp
  have ht' : tmps[t]?.getD undef = v := by simpa using ht
  have h1 := run_loadRow (P := P) ty n d hu hd hi w a hs; simp only [loadRow, Instr.loadAt, Instr.sureAddr, Sem.run_bind, Sem.run_pure, Result.andThen_ok] at h1; cases hr : (loadVar ty a).run P w with
  | halt x w' => rw [hr] at h1; simp [Result.andThen] at h1
  | ok v w' =>
    rw [hr] at h1; simp [Result.andThen] at h1; obtain ⟨rfl, rfl⟩ := h1; simp [results, h, hp', ht', asAddr, hr]
def sumM (st : List Int) (T : Bytes) (n : Nat) : List Int := if T.length < 56 then takeM st (withLen (tailB T) n) rootsM else takeM (takeM st (tailB T) rootsM) (withLen zb64 n) rootsM
structure SumMem (w W : World) (g gs gb : Nat) (st : List Int) (blk : Bytes) (held n : Nat) (S : List Int) (B : Bytes) : Prop where
  k : Kept w W
  h : HashAt W g 1 0 rootsM st blk held n
  r : Blk W w.heap.size 23 (encB dig0.1)
  s : Blk W gs 153 (wordV S)
  b : Blk W gb 154 (encB B)
  ls : S.length = 8
  lb : B.length = 64
  ne : gs ≠ gb
  gs : w.heap.size < gs
  gb : w.heap.size < gb
  hg : g < w.heap.size
section
variable {w W W' : World} {g gs gb : Nat} {st : List Int} {blk : Bytes} {held n : Nat} {S : List Int} {B : Bytes}
theorem SumMem.kept (h : SumMem w W g gs gb st blk held n S B) (hu : Kept W W') : SumMem w W' g gs gb st blk held n S B :=
  ⟨h.k.trans hu, h.h.kept hu, h.r.kept hu, h.s.kept hu, h.b.kept hu, h.ls, h.lb, h.ne, h.gs, h.gb, h.hg⟩
theorem SumMem.other (h : SumMem w W g gs gb st blk held n S B) {gd : Nat} (h1 : gs < gd) (h2 : gb < gd) (hu : Upd (fun i => i = gd) W W') : SumMem w W' g gs gb st blk held n S B :=
  ⟨h.k.then hu (fun i hi e => by have := h.gs; omega), h.h.upd hu (by have := h.gb; have := h.hg; omega), h.r.upd hu (by have := h.gs; omega), h.s.upd hu (by omega), h.b.upd hu (by omega), h.ls, h.lb, h.ne, h.gs, h.gb, h.hg⟩
theorem outL_step {F : List Int} {k : Nat} (hk : k < 32) : ((outL F).take k ++ List.replicate (32 - k) 0).set k (byteW (F.getD (k / 4) 0 / 2 ^ (24 - 8 * (k % 4)))) = (outL F).take (k + 1) ++ List.replicate (32 - (k + 1)) 0 := by
  have hl : (outL F).length = 32 := by simp [outL]
  have h1 : ((outL F).take k).length = k := by rw [List.length_take]; omega
  rw [List.set_append_right _ _ (by omega), h1, Nat.sub_self, show 32 - k = (32 - (k + 1)) + 1 by omega, List.replicate_succ, List.set_cons_zero, List.take_succ_eq_append_getElem (by omega), List.append_assoc]; simp [outL]
theorem SumMem.drew (h : SumMem w W g gs gb st blk held n S B) : SumMem w W.drew g gs gb st blk held n S B := h.kept (Upd.drew (Upd.refl _ W))
theorem SumMem.turnB (h : SumMem w W g gs gb st blk held n S B) {B' : Bytes} (hl : B'.length = 64) (hb : Blk W' gb 154 (encB B')) (hu : Upd (fun i => i = gb) W W') : SumMem w W' g gs gb st blk held n S B' :=
  ⟨h.k.then hu (fun i hi e => by have := h.gb; omega), h.h.upd hu (by have := h.gb; have := h.hg; omega), h.r.upd hu (by have := h.gb; omega), h.s.upd hu h.ne, hb, h.ls, hl, h.ne, h.gs, h.gb, h.hg⟩
theorem SumMem.turnS (h : SumMem w W g gs gb st blk held n S B) {S' : List Int} (hl : S'.length = 8) (hb : Blk W' gs 153 (wordV S')) (hu : Upd (fun i => i = gs) W W') : SumMem w W' g gs gb st blk held n S' B :=
  ⟨h.k.then hu (fun i hi e => by have := h.gs; omega), h.h.upd hu (by have := h.gs; have := h.hg; omega), h.r.upd hu (by have := h.gs; omega), hb, h.b.upd hu (fun e => h.ne e.symm), hl, h.lb, h.ne, h.gs, h.gb, h.hg⟩
theorem SumMem.putB (h : SumMem w W g gs gb st blk held n S B) {B' : Bytes} (hl : B'.length = 64) : SumMem w (W.setRow gb (b8A B')) g gs gb st blk held n S B' := h.turnB hl (h.b.setRow _) ((Upd.refl _ _).setRow _ _ fun _ => rfl)
theorem SumMem.putS (h : SumMem w W g gs gb st blk held n S B) {S' : List Int} (hl : S'.length = 8) : SumMem w (W.setRow gs (w32A S')) g gs gb st blk held n S' B := h.turnS hl (h.s.setRow _) ((Upd.refl _ _).setRow _ _ fun _ => rfl)
theorem lenB_step {B : Bytes} {n k : Nat} (hB : B.length = 64) (hk : k < 8) :
    (B.take (64 - k) ++ (lenB n).drop (8 - k)).set (63 - k) (byteW (((8 * n : Nat) : Int) / 2 ^ (8 * k))) = B.take (64 - (k + 1)) ++ (lenB n).drop (8 - (k + 1)) := by
  have h1 : (B.take (64 - k)).length = 64 - k := by rw [List.length_take]; omega
  have h2 : B.take (64 - k) = B.take (63 - k) ++ [B[63 - k]'(by omega)] := by
    rw [show 64 - k = (63 - k) + 1 by omega, List.take_succ_eq_append_getElem (by omega)]
  have h3 : (lenB n).drop (8 - (k + 1)) = byteW (((8 * n : Nat) : Int) / 2 ^ (8 * k)) :: (lenB n).drop (8 - k) := by
    rw [List.drop_eq_getElem_cons (by simp; omega), show 8 - (k + 1) + 1 = 8 - k by omega]
    congr 1
    simp only [lenB, List.getElem_map, List.getElem_range]; rw [show 7 - (8 - (k + 1)) = k by omega]
  have h4 : (B.take (63 - k)).length = 63 - k := by rw [List.length_take]; omega
  rw [h2, List.append_assoc, List.set_append_right _ _ (by omega), h4, Nat.sub_self, List.singleton_append, List.set_cons_zero, h3, show 64 - (k + 1) = 63 - k by omega]
theorem encB_set (R : Bytes) (k : Nat) (c : UInt8) : (encB R).set k (.int .u8 (c.toNat : Int)) = encB (R.set k c) := by simp [encB, List.map_set]
theorem SumMem.setB (h : SumMem w W g gs gb st blk held n S B) (k : Nat) (c : UInt8) : SumMem w (W.setCell ⟨gb, k, none⟩ (.int .u8 (c.toNat : Int))) g gs gb st blk held n S (B.set k c) :=
  h.turnB (by simpa using h.lb) (by rw [← encB_set]; exact h.b.set k _) ((Upd.refl _ _).setCell (p := ⟨gb, k, none⟩) _ fun _ => rfl)
theorem SumMem.segS (h : SumMem w W g gs gb st blk held n S B) : segB W ⟨gs, 0, none⟩ 8 = true ∧ segV W ⟨gs, 0, none⟩ 8 = w32A S := h.s.seg 0 8 (wordV S) (by rw [wordV_length, h.ls]) (fun j _ => by rw [Nat.zero_add])
theorem SumMem.isS (h : SumMem w W g gs gb st blk held n S B) : rowB W gs 8 = true := rowB_of h.s (by rw [List.size_toArray, wordV_length, h.ls])
theorem SumMem.range (h : SumMem w W g gs gb st blk held n S B) : W.rangeAt gb 0 (encB B) := h.b.range 0 (fun j _ => by rw [Nat.zero_add])
theorem SumMem.clear (h : SumMem w W g gs gb st blk held n S B) (o : Nat) (ho : o < 64) (ty : TypeId) :
    (Builtin.clear_ #[42] ty #[.slice (some ⟨gb, o, none⟩) (64 - o) (64 - o)]).run Tryz.prog W = .ok (.tuple #[]) (W.setRow gb (b8A (B.take o ++ List.replicate (64 - o) 0))) := by
  have hz : ∀ W : World, (zeroValue 5).run Tryz.prog W = .ok (.int .u8 0) W := fun W => by
    have h : (Tryz.prog.info? 5).map (·.zero) = some (some (.int .u8 0)) := by kernel_rfl
    obtain ⟨i, hi, h2⟩ := Option.map_eq_some_iff.1 h; simp [zeroValue, typeInfo, hi, h2]
  have hst := run_storeCells_at Tryz.prog gb o 154 (List.replicate (64 - o) (.int .u8 0)) 0 (encB B).toArray W h.b (by simp [encB_length, h.lb]; omega) (fun v hv => by rw [List.eq_of_mem_replicate hv]; rfl); have hzc : (Builtin.zeroCells #[Value.int .u8 0] (64 - o)).toList = List.replicate (64 - o) (.int .u8 0) := by
    simp only [Builtin.zeroCells]; apply List.ext_getElem
    · simp
    · intro i h1 h2
      simp [Nat.mod_one]
  obtain ⟨m, hm⟩ : ∃ m, 64 - o = m + 1 := ⟨63 - o, by omega⟩; have he : ((encB B).toArray.toList.take (o + 0) ++ List.replicate (64 - o) (Value.int .u8 0) ++ (encB B).toArray.toList.drop (o + 0 + (List.replicate (64 - o) (Value.int .u8 0)).length)).toArray = b8A (B.take o ++ List.replicate (64 - o) 0) := by
    rw [List.length_replicate, List.drop_of_length_le (by simp [encB_length, h.lb]; omega)]; simp [b8A, encB]
  rw [he] at hst; rw [hm] at hst hzc ⊢; simp [Builtin.clear_, run_underlying Tryz.underlying42, hz, Value.cells, hzc, hst, Result.andThen]
end
set_option maxHeartbeats 4000000 in
set_option maxRecDepth 20000 in
theorem hash_Sum {w : World} {g : Nat} {st : List Int} {blk T : Bytes} {n : Nat} (h : HashAt w g 1 0 rootsM st blk T.length n) (hT : T.length < 64) (hb : blk.take T.length = T) (hn : n ≤ 140737488351232) :
    Calls Tryz.prog 72 #[.pointer (some ⟨g, 0, none⟩)] w fun e W => e = .returned (.tuple #[.agg (dA (outM (sumM st T n))), .int .i64 0]) ∧ Kept w W := by
  obtain ⟨FIN, hF⟩ : ∃ F, F = sumM st T n := ⟨_, rfl⟩; rw [← hF]; have HFIN := Lib.hid hF; clear hF; have hnot : ∀ (x : Bool) (w : World), (Op.unary .not (.bool x)).run Tryz.prog w = .ok (.bool (!x)) w := fun _ _ => rfl; have h1 : HashAt (w.alloc (.cells (dA dig0) 23)) g 1 0 rootsM st blk T.length n := h.kept ((Upd.refl _ w).alloc _); have hk1 : Kept w (w.alloc (.cells (dA dig0) 23)) := (Upd.refl _ w).alloc _; have hr1 : Blk (w.alloc (.cells (dA dig0) 23)) w.heap.size 23 (encB dig0.1) := Blk.new w _ _; have c0 := h1.c0; have HX := Lib.hid (And.intro h1 (And.intro hk1 (And.intro hr1 (And.intro hT (And.intro hb hn))))); have HG := Lib.hid h.b.lt; clear h h1 hk1 hr1 hT hb hn
  go_enter Tryz.func72, Tryz.ntmps72
  go_wp2_with fail; generalize w.alloc (.cells (dA dig0) 23) = w1 at *; clear c0; refine (hash_again HX.out.1).mono ?_; rintro e w2 ⟨rfl, h2, hu2⟩; have hk2 : Kept w w2 := HX.out.2.1.then hu2 fun _ _ h => h; have hr2 := HX.out.2.2.1.kept hu2; have HY := Lib.hid (And.intro h2 (And.intro hk2 hr2)); have f1 : ∀ W, Kept w2 W → segB W ⟨g, 68, none⟩ 8 = true := fun W hW => (h2.kept hW).segS.1; have f2 : ∀ W, Kept w2 W → segV W ⟨g, 68, none⟩ 8 = w32A st := fun W hW => (h2.kept hW).segS.2; have f3 : ∀ W, Kept w2 W → segB W ⟨g, 76, none⟩ 64 = true := fun W hW => (h2.kept hW).segB64.1; have f4 : ∀ W, Kept w2 W → segV W ⟨g, 76, none⟩ 64 = b8A blk := fun W hW => (h2.kept hW).segB64.2; have hls : st.length = 8 := h2.ls; have hlb : blk.length = 64 := h2.lb; clear hu2 h2 hk2 hr2; go_wp2_with fail; refine wp_region_tree (.take 0 (.take 1 (.take 2 (.take 3 (.take 4 (.take 5 (.take 6 (.take 7 (.two 8 9 (.one 9 (.one 10 (.one 11 .done))) (.one 8 (.one 10 (.one 11 .done)))))))))))) (by kernel_rfl) (by kernel_rfl) (Kept w2) ((Upd.refl _ _).drew) ?_; simp only [OT.ops, List.getD_cons_zero, List.getD_cons_succ]
  iterate 8 (refine wpOO_held (fun K hK => ?_); go_simp; first | (apply Exists.intro; refine ⟨fun W hW => ?_, hK _ ?_⟩; (go_simp; first | done | exact rfl); clear hK K) | (refine hK _ ?_; clear hK K))
  clear f1 f2 f3 f4; have HD : Hid (Kept w2 w2.drew) := Lib.hid (Upd.refl _ _).drew; generalize w2.drew = w3 at *; refine wpOO_fork (fun K hK => ?_) (fun K hK => ?_) HD.out
  · go_simp
    refine hK _ _ (HD.out.alloc _) ?_; clear hK K; refine wpOO_step (fun K hK => ?_) (HD.out.alloc _); go_simp; refine hK _ _ ((HD.out.alloc _).alloc _) ?_; clear hK K; refine wpOO_step (fun K hK => ?_) ((HD.out.alloc _).alloc _); go_simp; refine hK _ _ ((HD.out.alloc _).alloc _) ?_; clear hK K; refine wpOO_step (fun K hK => ?_) ((HD.out.alloc _).alloc _); go_simp; refine hK _ _ ((HD.out.alloc _).alloc _) ?_; clear hK K; refine wpOO_nil ?_; have HS : Hid (SumMem w ((w3.alloc (.cells (w32A st) 153)).alloc (.cells (b8A blk) 154)) g w3.heap.size (w3.heap.size + 1) st blk T.length n st blk) := by
      obtain ⟨hh, hk, hr⟩ := HY.out; have hk3 : Kept w w3 := hk.then HD.out fun _ _ h => h; have hh3 := hh.kept HD.out; have hr3 := hr.kept HD.out; have hb := Blk.new (w3.alloc (.cells (w32A st) 153)) 154 (encB blk); rw [World.size_alloc] at hb; exact ⟨(hk3.alloc _).alloc _, hh3.kept (((Upd.refl _ _).alloc _).alloc _), (hr3.alloc _).alloc _, (Blk.new w3 _ (wordV st)).alloc _, hb, hh3.ls, hh3.lb, by omega, hr3.lt, by have := hr3.lt; omega, HG.out⟩
    generalize (w3.alloc (.cells (w32A st) 153)).alloc (.cells (b8A blk) 154) = W5 at *; generalize w3.heap.size + 1 = gb at *; generalize w3.heap.size = gs at *; have HM := Lib.hid HS.out; have hheld := HS.out.h.cheld; have hn := HS.out.h.call; have hl64 : T.length < 64 := HX.out.2.2.2.1; have fsl : ∀ W : World, (Instr.sliceAt 154 (.pointer (some ⟨gb, 0, none⟩)) (some (.int .i64 (T.length : Int))) none none).run Tryz.prog W = .ok (.slice (some ⟨gb, T.length, none⟩) (64 - T.length) (64 - T.length)) W := fun W => by
      have := slice_b64_l W gb 0 T.length _ rfl hl64
      rwa [Nat.zero_add] at this
    have fcl := fun ty => HS.out.clear T.length hl64 ty; have hl1 : (blk.take T.length ++ List.replicate (64 - T.length) 0).length = 64 := by rw [HX.out.2.2.2.2.1]; simp; omega
    have h6 := HS.out.putB hl1; have hheld6 := h6.h.cheld; have c6 := h6.b.cell (k := T.length) (v := .int .u8 0) (by rw [HX.out.2.2.2.2.1, encB_append, List.getElem?_append_right (by rw [encB_length]; omega), encB_length, Nat.sub_self, encB, List.getElem?_map, List.getElem?_replicate, if_pos (by omega)]; rfl); have z6 := h6.b.thaw T.length; have h7 : SumMem w ((W5.setRow gb (b8A (blk.take T.length ++ List.replicate (64 - T.length) 0))).setCell ⟨gb, T.length, none⟩ (.int .u8 128)) g gs gb st blk T.length n st ((blk.take T.length ++ List.replicate (64 - T.length) 0).set T.length 128) := h6.setB T.length 128; have hB2 : (blk.take T.length ++ List.replicate (64 - T.length) 0).set T.length 128 = tailB T := by
      rw [HX.out.2.2.2.2.1, List.set_append_right _ _ (Nat.le_refl _), Nat.sub_self, show 64 - T.length = (63 - T.length) + 1 by omega, List.replicate_succ, List.set_cons_zero]
      rfl
    rw [hB2] at h7; have hheld7 := h7.h.cheld; have H7 := Lib.hid h7; clear h6 h7 hB2 hl1 HS; have hl64' : (T.length : Int) < 64 := by omega
    rcases Nat.lt_or_ge T.length 56 with h56 | h56
    · have h56' : ¬ (56 : Int) ≤ (T.length : Int) := by omega
      have h56b : (T.length : Int) < 56 := by omega
      go_wp2_with fail; generalize (W5.setRow gb (b8A (blk.take T.length ++ List.replicate (64 - T.length) 0))).setCell ⟨gb, T.length, none⟩ (.int .u8 128) = W8 at *; have HE : Hid (SumMem w W8 g gs gb st blk T.length n st (tailB T)) := H7; obtain ⟨B2, hB2⟩ : ∃ B2, B2 = tailB T := ⟨_, rfl⟩; rw [← hB2] at HE; have HB2 := Lib.hid hB2; clear hB2; have HFB : Hid (FIN = takeM st (withLen B2 n) rootsM) := by have := HFIN.out; rw [sumM, if_pos h56, ← HB2.out] at this; exact this
      go_loopw [50] (fun i wr => ∃ k : Nat, k ≤ 8 ∧ i = .int .i64 k ∧ SumMem w wr g gs gb st blk T.length n st (B2.take (64 - k) ++ (lenB n).drop (8 - k))) (fun i _ => 8 - (intOf i).toNat)
      case atStart => exact ⟨0, Nat.zero_le _, rfl, by rw [Nat.sub_zero, Nat.sub_zero, List.take_of_length_le (by rw [HE.out.lb]; omega), List.drop_of_length_le (by simp), List.append_nil]; exact HE.out⟩
      case round =>
        obtain ⟨k, hk, rfl, hm⟩ := hrel; rcases Nat.lt_or_ge k 8 with hk8 | hk8
        · have hk8' : (k : Int) < 8 := by omega
          have ca := hm.h.call; have hn2 := HX.out.2.2.2.2.2; obtain ⟨cv, cc⟩ := hm.b.has' (k := 63 - k) (by rw [encB_length, hm.lb]; omega); have zz := hm.b.thaw (63 - k); have hw : IntKind.i64.wrap (63 - (k : Int)) = ((63 - k : Nat) : Int) := by rw [IntKind.wrap_i64]; omega
          have HM8 := Lib.hid hm; clear hm; go_wp2_with fail
          go_roundw
          case rel =>
            refine ⟨k + 1, by omega, by go_num, ?_⟩; have h1 := HM8.out.setB (63 - k) (byteW (((8 * n : Nat) : Int) / 2 ^ (8 * k))); rw [byteW_val, lenB_step (by rw [HE.out.lb]) hk8] at h1; rw [show (8 : Int) * (n : Int) = ((8 * n : Nat) : Int) by omega]; exact h1
          case measure => simp [intOf]; omega
        · obtain rfl : k = 8 := by omega
          have h9 : SumMem w wr g gs gb st blk T.length n st (withLen B2 n) := hm; have HF := HFB; clear hm; generalize withLen B2 n = B3 at *; have f1 : ∀ W, SumMem w W g gs gb st blk T.length n st B3 → segB W ⟨gs, 0, none⟩ 8 = true := fun W hW => hW.segS.1; have f2 : ∀ W, SumMem w W g gs gb st blk T.length n st B3 → segV W ⟨gs, 0, none⟩ 8 = w32A st := fun W hW => hW.segS.2; go_wp2_with fail; refine wp_region_mild 5 (by kernel_rfl) (by kernel_rfl) (fun W => SumMem w W g gs gb st blk T.length n st B3) h9.drew ?_; simp only [List.take_succ_cons, List.take_zero, List.drop_succ_cons, List.drop_zero]
          iterate 4 (refine wpMild_step (fun K hK => ?_); go_simp; apply Exists.intro; refine ⟨fun W hW => ?_, hK _ ?_⟩; (go_simp; first | done | exact rfl | exact ⟨rfl, hW⟩); clear hK K)
          refine wpMild_step (fun K hK => ?_); go_simp; apply Exists.intro; refine ⟨fun W hW => ?_, hK _ ?_⟩
          · go_simp
            refine (sha_take hW.ls hW.lb hW.h.lk hW.range hW.h.rk).mono ?_; rintro e w' ⟨rfl, hu⟩; exact ⟨rfl, hW.kept hu⟩
          clear hK K; refine wpMild_nil (fun wc hS => ?_); have hts : (takeM st B3 rootsM).length = 8 := takeM_length hS.ls _ _; have hsz : (w32A (takeM st B3 rootsM)).size = 8 := by rw [w32A_size, hts]
          have his := hS.isS; have h10 := hS.putS hts; clear f1 f2 hS h9; rw [← HF.out] at hsz h10 ⊢; have HW := Lib.hid (And.intro h10 hts); clear hts h10; go_wp2_with fail; have hsw : (wc.setRow gs (w32A FIN)).heap.size = wc.heap.size := by simp [World.setRow]
          generalize wc.setRow gs (w32A FIN) = wd at *; have hd0 : Blk (wd.alloc (.cells (dA dig0) 23)) wd.heap.size 23 (encB ((outL FIN).take 0 ++ List.replicate 32 0)) := Blk.new wd _ (encB (List.replicate 32 0)); rw [hsw] at hd0; have hm0 := HW.out.1.kept ((Upd.refl _ wd).alloc (.cells (dA dig0) 23)); have HD0 := Lib.hid (And.intro hm0 hd0); clear hd0 hm0 hsz his; have hne2 : gs < wc.heap.size ∧ gb < wc.heap.size := by rw [← hsw]; exact ⟨HW.out.1.s.lt, HW.out.1.b.lt⟩
          have HGD : Hid (gs < wc.heap.size ∧ gb < wc.heap.size) := hne2; clear hsw hne2; generalize wd.alloc (.cells (dA dig0) 23) = we at *; generalize wc.heap.size = gd at *
          go_loopw [72] (fun i wr => ∃ k : Nat, k ≤ 32 ∧ i = .int .i64 k ∧ SumMem w wr g gs gb st blk T.length n FIN B3 ∧ Blk wr gd 23 (encB ((outL FIN).take k ++ List.replicate (32 - k) 0))) (fun i _ => 32 - (intOf i).toNat)
          case atStart => exact ⟨0, Nat.zero_le _, rfl, HD0.out.1, HD0.out.2⟩
          case round =>
            obtain ⟨k, hk, rfl, hm, hd⟩ := hrel; rcases Nat.lt_or_ge k 32 with hk32 | hk32
            · have hk' : (k : Int) < 32 := by omega
              have hc := hm.s.cell (k := k / 4) (v := .int .u32 (FIN.getD (k / 4) 0)) (by have := hm.ls; simp [wordV, show k / 4 < FIN.length by omega]); have hz := hd.thaw k; obtain ⟨cv, cc⟩ := hd.has' (k := k) (by simp [encB_length, outL]; omega); have HM8 := Lib.hid (And.intro hm hd); clear hm hd; go_wp2_with fail
              go_roundw
              case rel =>
                refine ⟨k + 1, by omega, by go_num, ?_, ?_⟩
                · exact HM8.out.1.other HGD.out.1 HGD.out.2 ((Upd.refl _ _).setCell (p := ⟨gd, k, none⟩) _ fun _ => rfl)
                · have h1 := HM8.out.2.set k (.int .u8 ((byteW (FIN.getD (k / 4) 0 / 2 ^ (24 - 8 * (k % 4)))).toNat : Int))
                  rw [encB_set, outL_step hk32, byteW_val] at h1; exact h1
              case measure => simp [intOf]; omega
            · obtain rfl : k = 32 := by omega
              rw [Nat.sub_self, List.replicate_zero, List.append_nil, List.take_of_length_le (by simp [outL])] at hd; have hsg := hd.seg 0 32 (encB (outL FIN)) (by simp [encB_length, outL]) (fun j _ => by rw [Nat.zero_add]); have hr1 := hm.r; have hrb : rowB wr w.heap.size 32 = true := rowB_of (show wr.heap[w.heap.size]? = some (.cells (encB dig0.1).toArray 23 (0, 0)) from hr1) (by simp [encB_length, dig0]); have hb2 : Blk (wr.setRow w.heap.size (dA (outM FIN))) w.heap.size 23 (encB (outM FIN).1) := hr1.setRow _; have hs2 := hb2.seg 0 32 (encB (outM FIN).1) (by rw [encB_length, (outM FIN).2]) (fun j _ => by rw [Nat.zero_add]); have HK : Hid (Kept w (wr.setRow w.heap.size (dA (outM FIN)))) := Lib.hid (Upd.setRow hm.k _ _ (fun h => absurd h (Nat.lt_irrefl _))); obtain ⟨r1, r2⟩ := hsg; obtain ⟨r3, r4⟩ := hs2
              replace r2 : segV wr ⟨gd, 0, none⟩ 32 = dA (outM FIN) := by rw [r2, ← outM_val]; rfl
              change segV (wr.setRow w.heap.size (dA (outM FIN))) ⟨w.heap.size, 0, none⟩ 32 = dA (outM FIN) at r4
              have HGG := Lib.hid (And.intro r3 r4); clear hd hm hr1 hb2 r3 r4; go_wp2; refine bodyPost_ret (v := .tuple #[.agg (dA (outM FIN)), .int .i64 0]) ?_ rfl ⟨rfl, HK.out⟩; rw [results_seg2 (P := Tryz.prog) (fn := Tryz.f72) (p := 2) (t := 3) (ty := 23) rfl _ _ ⟨w.heap.size, 0, none⟩ 32 _ (.int .i64 0) rfl rfl Tryz.underlying23 rfl sizeOf23 HGG.out.1, HGG.out.2]
    · have h56' : (56 : Int) ≤ (T.length : Int) := by omega
      go_wp2_with fail; generalize (W5.setRow gb (b8A (blk.take T.length ++ List.replicate (64 - T.length) 0))).setCell ⟨gb, T.length, none⟩ (.int .u8 128) = W8 at *; have HE : Hid (SumMem w W8 g gs gb st blk T.length n st (tailB T)) := H7; have HFB0 : Hid (FIN = takeM (takeM st (tailB T) rootsM) (withLen zb64 n) rootsM) := by have := HFIN.out; rw [sumM, if_neg (by omega)] at this; exact this
      generalize tailB T = B1 at *; have f1 : ∀ W, SumMem w W g gs gb st blk T.length n st B1 → segB W ⟨gs, 0, none⟩ 8 = true := fun W hW => hW.segS.1; have f2 : ∀ W, SumMem w W g gs gb st blk T.length n st B1 → segV W ⟨gs, 0, none⟩ 8 = w32A st := fun W hW => hW.segS.2; refine wp_region_mild 5 (by kernel_rfl) (by kernel_rfl) (fun W => SumMem w W g gs gb st blk T.length n st B1) HE.out.drew ?_; simp only [List.take_succ_cons, List.take_zero, List.drop_succ_cons, List.drop_zero]
      iterate 4 (refine wpMild_step (fun K hK => ?_); go_simp; apply Exists.intro; refine ⟨fun W hW => ?_, hK _ ?_⟩; (go_simp; first | done | exact rfl | exact ⟨rfl, hW⟩); clear hK K)
      refine wpMild_step (fun K hK => ?_); go_simp; apply Exists.intro; refine ⟨fun W hW => ?_, hK _ ?_⟩
      · go_simp
        refine (sha_take hW.ls hW.lb hW.h.lk hW.range hW.h.rk).mono ?_; rintro e w' ⟨rfl, hu⟩; exact ⟨rfl, hW.kept hu⟩
      clear hK K; refine wpMild_nil (fun wc hS => ?_); have hts : (takeM st B1 rootsM).length = 8 := takeM_length hS.ls _ _; have hsz : (w32A (takeM st B1 rootsM)).size = 8 := by rw [w32A_size, hts]
      have his := hS.isS; have h10 := hS.putS hts; obtain ⟨S1, hS1⟩ : ∃ S1, S1 = takeM st B1 rootsM := ⟨_, rfl⟩; rw [← hS1] at hsz h10 HFB0 ⊢; have fsl2 : ∀ W : World, (Instr.sliceAt 154 (.pointer (some ⟨gb, 0, none⟩)) none none none).run Tryz.prog W = .ok (.slice (some ⟨gb, 0, none⟩) 64 64) W := fun W => slice_b64_all W gb 0; have fcl2 : ∀ ty, (Builtin.clear_ #[42] ty #[.slice (some ⟨gb, 0, none⟩) 64 64]).run Tryz.prog (wc.setRow gs (w32A S1)) = .ok (.tuple #[]) ((wc.setRow gs (w32A S1)).setRow gb (b8A zb64)) := fun ty => h10.clear 0 (by omega) ty; have HE2 : Hid (SumMem w ((wc.setRow gs (w32A S1)).setRow gb (b8A zb64)) g gs gb st blk T.length n S1 zb64) := h10.putB zb64_length; clear f1 f2 hS hS1 hts h10 fsl fcl HE H7 HM hheld hn hheld6 c6 z6 hheld7; go_wp2_with fail; generalize (wc.setRow gs (w32A S1)).setRow gb (b8A zb64) = W9 at *; obtain ⟨B2, hB2⟩ : ∃ B2, B2 = zb64 := ⟨_, rfl⟩; rw [← hB2] at HFB0 HE2; have HE := HE2; have HFB := HFB0; clear HE2 HFB0 hB2 fsl2 fcl2 hsz his
      go_loopw [50] (fun i wr => ∃ k : Nat, k ≤ 8 ∧ i = .int .i64 k ∧ SumMem w wr g gs gb st blk T.length n S1 (B2.take (64 - k) ++ (lenB n).drop (8 - k))) (fun i _ => 8 - (intOf i).toNat)
      case atStart => exact ⟨0, Nat.zero_le _, rfl, by rw [Nat.sub_zero, Nat.sub_zero, List.take_of_length_le (by rw [HE.out.lb]; omega), List.drop_of_length_le (by simp), List.append_nil]; exact HE.out⟩
      case round =>
        obtain ⟨k, hk, rfl, hm⟩ := hrel; rcases Nat.lt_or_ge k 8 with hk8 | hk8
        · have hk8' : (k : Int) < 8 := by omega
          have ca := hm.h.call; have hn2 := HX.out.2.2.2.2.2; obtain ⟨cv, cc⟩ := hm.b.has' (k := 63 - k) (by rw [encB_length, hm.lb]; omega); have zz := hm.b.thaw (63 - k); have hw : IntKind.i64.wrap (63 - (k : Int)) = ((63 - k : Nat) : Int) := by rw [IntKind.wrap_i64]; omega
          have HM8 := Lib.hid hm; clear hm; go_wp2_with fail
          go_roundw
          case rel =>
            refine ⟨k + 1, by omega, by go_num, ?_⟩; have h1 := HM8.out.setB (63 - k) (byteW (((8 * n : Nat) : Int) / 2 ^ (8 * k))); rw [byteW_val, lenB_step (by rw [HE.out.lb]) hk8] at h1; rw [show (8 : Int) * (n : Int) = ((8 * n : Nat) : Int) by omega]; exact h1
          case measure => simp [intOf]; omega
        · obtain rfl : k = 8 := by omega
          have h9 : SumMem w wr g gs gb st blk T.length n S1 (withLen B2 n) := hm; have HF := HFB; clear hm; generalize withLen B2 n = B3 at *; have f1 : ∀ W, SumMem w W g gs gb st blk T.length n S1 B3 → segB W ⟨gs, 0, none⟩ 8 = true := fun W hW => hW.segS.1; have f2 : ∀ W, SumMem w W g gs gb st blk T.length n S1 B3 → segV W ⟨gs, 0, none⟩ 8 = w32A S1 := fun W hW => hW.segS.2; go_wp2_with fail; refine wp_region_mild 5 (by kernel_rfl) (by kernel_rfl) (fun W => SumMem w W g gs gb st blk T.length n S1 B3) h9.drew ?_; simp only [List.take_succ_cons, List.take_zero, List.drop_succ_cons, List.drop_zero]
          iterate 4 (refine wpMild_step (fun K hK => ?_); go_simp; apply Exists.intro; refine ⟨fun W hW => ?_, hK _ ?_⟩; (go_simp; first | done | exact rfl | exact ⟨rfl, hW⟩); clear hK K)
          refine wpMild_step (fun K hK => ?_); go_simp; apply Exists.intro; refine ⟨fun W hW => ?_, hK _ ?_⟩
          · go_simp
            refine (sha_take hW.ls hW.lb hW.h.lk hW.range hW.h.rk).mono ?_; rintro e w' ⟨rfl, hu⟩; exact ⟨rfl, hW.kept hu⟩
          clear hK K; refine wpMild_nil (fun wc hS => ?_); have hts : (takeM S1 B3 rootsM).length = 8 := takeM_length hS.ls _ _; have hsz : (w32A (takeM S1 B3 rootsM)).size = 8 := by rw [w32A_size, hts]
          have his := hS.isS; have h10 := hS.putS hts; clear f1 f2 hS h9; rw [← HF.out] at hsz h10 ⊢; have HW := Lib.hid (And.intro h10 hts); clear hts h10; go_wp2_with fail; have hsw : (wc.setRow gs (w32A FIN)).heap.size = wc.heap.size := by simp [World.setRow]
          generalize wc.setRow gs (w32A FIN) = wd at *; have hd0 : Blk (wd.alloc (.cells (dA dig0) 23)) wd.heap.size 23 (encB ((outL FIN).take 0 ++ List.replicate 32 0)) := Blk.new wd _ (encB (List.replicate 32 0)); rw [hsw] at hd0; have hm0 := HW.out.1.kept ((Upd.refl _ wd).alloc (.cells (dA dig0) 23)); have HD0 := Lib.hid (And.intro hm0 hd0); clear hd0 hm0 hsz his; have hne2 : gs < wc.heap.size ∧ gb < wc.heap.size := by rw [← hsw]; exact ⟨HW.out.1.s.lt, HW.out.1.b.lt⟩
          have HGD : Hid (gs < wc.heap.size ∧ gb < wc.heap.size) := hne2; clear hsw hne2; generalize wd.alloc (.cells (dA dig0) 23) = we at *; generalize wc.heap.size = gd at *
          go_loopw [72] (fun i wr => ∃ k : Nat, k ≤ 32 ∧ i = .int .i64 k ∧ SumMem w wr g gs gb st blk T.length n FIN B3 ∧ Blk wr gd 23 (encB ((outL FIN).take k ++ List.replicate (32 - k) 0))) (fun i _ => 32 - (intOf i).toNat)
          case atStart => exact ⟨0, Nat.zero_le _, rfl, HD0.out.1, HD0.out.2⟩
          case round =>
            obtain ⟨k, hk, rfl, hm, hd⟩ := hrel; rcases Nat.lt_or_ge k 32 with hk32 | hk32
            · have hk' : (k : Int) < 32 := by omega
              have hc := hm.s.cell (k := k / 4) (v := .int .u32 (FIN.getD (k / 4) 0)) (by have := hm.ls; simp [wordV, show k / 4 < FIN.length by omega]); have hz := hd.thaw k; obtain ⟨cv, cc⟩ := hd.has' (k := k) (by simp [encB_length, outL]; omega); have HM8 := Lib.hid (And.intro hm hd); clear hm hd; go_wp2_with fail
              go_roundw
              case rel =>
                refine ⟨k + 1, by omega, by go_num, ?_, ?_⟩
                · exact HM8.out.1.other HGD.out.1 HGD.out.2 ((Upd.refl _ _).setCell (p := ⟨gd, k, none⟩) _ fun _ => rfl)
                · have h1 := HM8.out.2.set k (.int .u8 ((byteW (FIN.getD (k / 4) 0 / 2 ^ (24 - 8 * (k % 4)))).toNat : Int))
                  rw [encB_set, outL_step hk32, byteW_val] at h1; exact h1
              case measure => simp [intOf]; omega
            · obtain rfl : k = 32 := by omega
              rw [Nat.sub_self, List.replicate_zero, List.append_nil, List.take_of_length_le (by simp [outL])] at hd; have hsg := hd.seg 0 32 (encB (outL FIN)) (by simp [encB_length, outL]) (fun j _ => by rw [Nat.zero_add]); have hr1 := hm.r; have hrb : rowB wr w.heap.size 32 = true := rowB_of (show wr.heap[w.heap.size]? = some (.cells (encB dig0.1).toArray 23 (0, 0)) from hr1) (by simp [encB_length, dig0]); have hb2 : Blk (wr.setRow w.heap.size (dA (outM FIN))) w.heap.size 23 (encB (outM FIN).1) := hr1.setRow _; have hs2 := hb2.seg 0 32 (encB (outM FIN).1) (by rw [encB_length, (outM FIN).2]) (fun j _ => by rw [Nat.zero_add]); have HK : Hid (Kept w (wr.setRow w.heap.size (dA (outM FIN)))) := Lib.hid (Upd.setRow hm.k _ _ (fun h => absurd h (Nat.lt_irrefl _))); obtain ⟨r1, r2⟩ := hsg; obtain ⟨r3, r4⟩ := hs2
              replace r2 : segV wr ⟨gd, 0, none⟩ 32 = dA (outM FIN) := by rw [r2, ← outM_val]; rfl
              change segV (wr.setRow w.heap.size (dA (outM FIN))) ⟨w.heap.size, 0, none⟩ 32 = dA (outM FIN) at r4
              have HGG := Lib.hid (And.intro r3 r4); clear hd hm hr1 hb2 r3 r4; go_wp2; refine bodyPost_ret (v := .tuple #[.agg (dA (outM FIN)), .int .i64 0]) ?_ rfl ⟨rfl, HK.out⟩; rw [results_seg2 (P := Tryz.prog) (fn := Tryz.f72) (p := 2) (t := 3) (ty := 23) rfl _ _ ⟨w.heap.size, 0, none⟩ 32 _ (.int .i64 0) rfl rfl Tryz.underlying23 rfl sizeOf23 HGG.out.1, HGG.out.2]
  · go_simp
    refine hK _ _ (HD.out.alloc _) ?_; clear hK K; refine wpOO_step (fun K hK => ?_) (HD.out.alloc _); go_simp; refine hK _ _ ((HD.out.alloc _).alloc _) ?_; clear hK K; refine wpOO_step (fun K hK => ?_) ((HD.out.alloc _).alloc _); go_simp; refine hK _ _ ((HD.out.alloc _).alloc _) ?_; clear hK K; refine wpOO_step (fun K hK => ?_) ((HD.out.alloc _).alloc _); go_simp; refine hK _ _ ((HD.out.alloc _).alloc _) ?_; clear hK K; refine wpOO_nil ?_; have HS : Hid (SumMem w ((w3.alloc (.cells (b8A blk) 154)).alloc (.cells (w32A st) 153)) g (w3.heap.size + 1) w3.heap.size st blk T.length n st blk) := by
      obtain ⟨hh, hk, hr⟩ := HY.out; have hk3 : Kept w w3 := hk.then HD.out fun _ _ h => h; have hh3 := hh.kept HD.out; have hr3 := hr.kept HD.out; have hb := Blk.new (w3.alloc (.cells (b8A blk) 154)) 153 (wordV st); rw [World.size_alloc] at hb; exact ⟨(hk3.alloc _).alloc _, hh3.kept (((Upd.refl _ _).alloc _).alloc _), (hr3.alloc _).alloc _, hb, (Blk.new w3 _ (encB blk)).alloc _, hh3.ls, hh3.lb, by omega, by have := hr3.lt; omega, hr3.lt, HG.out⟩
    generalize (w3.alloc (.cells (b8A blk) 154)).alloc (.cells (w32A st) 153) = W5 at *; generalize w3.heap.size + 1 = gs at *; generalize w3.heap.size = gb at *; have HM := Lib.hid HS.out; have hheld := HS.out.h.cheld; have hn := HS.out.h.call; have hl64 : T.length < 64 := HX.out.2.2.2.1; have fsl : ∀ W : World, (Instr.sliceAt 154 (.pointer (some ⟨gb, 0, none⟩)) (some (.int .i64 (T.length : Int))) none none).run Tryz.prog W = .ok (.slice (some ⟨gb, T.length, none⟩) (64 - T.length) (64 - T.length)) W := fun W => by
      have := slice_b64_l W gb 0 T.length _ rfl hl64
      rwa [Nat.zero_add] at this
    have fcl := fun ty => HS.out.clear T.length hl64 ty; have hl1 : (blk.take T.length ++ List.replicate (64 - T.length) 0).length = 64 := by rw [HX.out.2.2.2.2.1]; simp; omega
    have h6 := HS.out.putB hl1; have hheld6 := h6.h.cheld; have c6 := h6.b.cell (k := T.length) (v := .int .u8 0) (by rw [HX.out.2.2.2.2.1, encB_append, List.getElem?_append_right (by rw [encB_length]; omega), encB_length, Nat.sub_self, encB, List.getElem?_map, List.getElem?_replicate, if_pos (by omega)]; rfl); have z6 := h6.b.thaw T.length; have h7 : SumMem w ((W5.setRow gb (b8A (blk.take T.length ++ List.replicate (64 - T.length) 0))).setCell ⟨gb, T.length, none⟩ (.int .u8 128)) g gs gb st blk T.length n st ((blk.take T.length ++ List.replicate (64 - T.length) 0).set T.length 128) := h6.setB T.length 128; have hB2 : (blk.take T.length ++ List.replicate (64 - T.length) 0).set T.length 128 = tailB T := by
      rw [HX.out.2.2.2.2.1, List.set_append_right _ _ (Nat.le_refl _), Nat.sub_self, show 64 - T.length = (63 - T.length) + 1 by omega, List.replicate_succ, List.set_cons_zero]
      rfl
    rw [hB2] at h7; have hheld7 := h7.h.cheld; have H7 := Lib.hid h7; clear h6 h7 hB2 hl1 HS; have hl64' : (T.length : Int) < 64 := by omega
    rcases Nat.lt_or_ge T.length 56 with h56 | h56
    · have h56' : ¬ (56 : Int) ≤ (T.length : Int) := by omega
      have h56b : (T.length : Int) < 56 := by omega
      go_wp2_with fail; generalize (W5.setRow gb (b8A (blk.take T.length ++ List.replicate (64 - T.length) 0))).setCell ⟨gb, T.length, none⟩ (.int .u8 128) = W8 at *; have HE : Hid (SumMem w W8 g gs gb st blk T.length n st (tailB T)) := H7; obtain ⟨B2, hB2⟩ : ∃ B2, B2 = tailB T := ⟨_, rfl⟩; rw [← hB2] at HE; have HB2 := Lib.hid hB2; clear hB2; have HFB : Hid (FIN = takeM st (withLen B2 n) rootsM) := by have := HFIN.out; rw [sumM, if_pos h56, ← HB2.out] at this; exact this
      go_loopw [50] (fun i wr => ∃ k : Nat, k ≤ 8 ∧ i = .int .i64 k ∧ SumMem w wr g gs gb st blk T.length n st (B2.take (64 - k) ++ (lenB n).drop (8 - k))) (fun i _ => 8 - (intOf i).toNat)
      case atStart => exact ⟨0, Nat.zero_le _, rfl, by rw [Nat.sub_zero, Nat.sub_zero, List.take_of_length_le (by rw [HE.out.lb]; omega), List.drop_of_length_le (by simp), List.append_nil]; exact HE.out⟩
      case round =>
        obtain ⟨k, hk, rfl, hm⟩ := hrel; rcases Nat.lt_or_ge k 8 with hk8 | hk8
        · have hk8' : (k : Int) < 8 := by omega
          have ca := hm.h.call; have hn2 := HX.out.2.2.2.2.2; obtain ⟨cv, cc⟩ := hm.b.has' (k := 63 - k) (by rw [encB_length, hm.lb]; omega); have zz := hm.b.thaw (63 - k); have hw : IntKind.i64.wrap (63 - (k : Int)) = ((63 - k : Nat) : Int) := by rw [IntKind.wrap_i64]; omega
          have HM8 := Lib.hid hm; clear hm; go_wp2_with fail
          go_roundw
          case rel =>
            refine ⟨k + 1, by omega, by go_num, ?_⟩; have h1 := HM8.out.setB (63 - k) (byteW (((8 * n : Nat) : Int) / 2 ^ (8 * k))); rw [byteW_val, lenB_step (by rw [HE.out.lb]) hk8] at h1; rw [show (8 : Int) * (n : Int) = ((8 * n : Nat) : Int) by omega]; exact h1
          case measure => simp [intOf]; omega
        · obtain rfl : k = 8 := by omega
          have h9 : SumMem w wr g gs gb st blk T.length n st (withLen B2 n) := hm; have HF := HFB; clear hm; generalize withLen B2 n = B3 at *; have f1 : ∀ W, SumMem w W g gs gb st blk T.length n st B3 → segB W ⟨gs, 0, none⟩ 8 = true := fun W hW => hW.segS.1; have f2 : ∀ W, SumMem w W g gs gb st blk T.length n st B3 → segV W ⟨gs, 0, none⟩ 8 = w32A st := fun W hW => hW.segS.2; go_wp2_with fail; refine wp_region_mild 5 (by kernel_rfl) (by kernel_rfl) (fun W => SumMem w W g gs gb st blk T.length n st B3) h9.drew ?_; simp only [List.take_succ_cons, List.take_zero, List.drop_succ_cons, List.drop_zero]
          iterate 4 (refine wpMild_step (fun K hK => ?_); go_simp; apply Exists.intro; refine ⟨fun W hW => ?_, hK _ ?_⟩; (go_simp; first | done | exact rfl | exact ⟨rfl, hW⟩); clear hK K)
          refine wpMild_step (fun K hK => ?_); go_simp; apply Exists.intro; refine ⟨fun W hW => ?_, hK _ ?_⟩
          · go_simp
            refine (sha_take hW.ls hW.lb hW.h.lk hW.range hW.h.rk).mono ?_; rintro e w' ⟨rfl, hu⟩; exact ⟨rfl, hW.kept hu⟩
          clear hK K; refine wpMild_nil (fun wc hS => ?_); have hts : (takeM st B3 rootsM).length = 8 := takeM_length hS.ls _ _; have hsz : (w32A (takeM st B3 rootsM)).size = 8 := by rw [w32A_size, hts]
          have his := hS.isS; have h10 := hS.putS hts; clear f1 f2 hS h9; rw [← HF.out] at hsz h10 ⊢; have HW := Lib.hid (And.intro h10 hts); clear hts h10; go_wp2_with fail; have hsw : (wc.setRow gs (w32A FIN)).heap.size = wc.heap.size := by simp [World.setRow]
          generalize wc.setRow gs (w32A FIN) = wd at *; have hd0 : Blk (wd.alloc (.cells (dA dig0) 23)) wd.heap.size 23 (encB ((outL FIN).take 0 ++ List.replicate 32 0)) := Blk.new wd _ (encB (List.replicate 32 0)); rw [hsw] at hd0; have hm0 := HW.out.1.kept ((Upd.refl _ wd).alloc (.cells (dA dig0) 23)); have HD0 := Lib.hid (And.intro hm0 hd0); clear hd0 hm0 hsz his; have hne2 : gs < wc.heap.size ∧ gb < wc.heap.size := by rw [← hsw]; exact ⟨HW.out.1.s.lt, HW.out.1.b.lt⟩
          have HGD : Hid (gs < wc.heap.size ∧ gb < wc.heap.size) := hne2; clear hsw hne2; generalize wd.alloc (.cells (dA dig0) 23) = we at *; generalize wc.heap.size = gd at *
          go_loopw [72] (fun i wr => ∃ k : Nat, k ≤ 32 ∧ i = .int .i64 k ∧ SumMem w wr g gs gb st blk T.length n FIN B3 ∧ Blk wr gd 23 (encB ((outL FIN).take k ++ List.replicate (32 - k) 0))) (fun i _ => 32 - (intOf i).toNat)
          case atStart => exact ⟨0, Nat.zero_le _, rfl, HD0.out.1, HD0.out.2⟩
          case round =>
            obtain ⟨k, hk, rfl, hm, hd⟩ := hrel; rcases Nat.lt_or_ge k 32 with hk32 | hk32
            · have hk' : (k : Int) < 32 := by omega
              have hc := hm.s.cell (k := k / 4) (v := .int .u32 (FIN.getD (k / 4) 0)) (by have := hm.ls; simp [wordV, show k / 4 < FIN.length by omega]); have hz := hd.thaw k; obtain ⟨cv, cc⟩ := hd.has' (k := k) (by simp [encB_length, outL]; omega); have HM8 := Lib.hid (And.intro hm hd); clear hm hd; go_wp2_with fail
              go_roundw
              case rel =>
                refine ⟨k + 1, by omega, by go_num, ?_, ?_⟩
                · exact HM8.out.1.other HGD.out.1 HGD.out.2 ((Upd.refl _ _).setCell (p := ⟨gd, k, none⟩) _ fun _ => rfl)
                · have h1 := HM8.out.2.set k (.int .u8 ((byteW (FIN.getD (k / 4) 0 / 2 ^ (24 - 8 * (k % 4)))).toNat : Int))
                  rw [encB_set, outL_step hk32, byteW_val] at h1; exact h1
              case measure => simp [intOf]; omega
            · obtain rfl : k = 32 := by omega
              rw [Nat.sub_self, List.replicate_zero, List.append_nil, List.take_of_length_le (by simp [outL])] at hd; have hsg := hd.seg 0 32 (encB (outL FIN)) (by simp [encB_length, outL]) (fun j _ => by rw [Nat.zero_add]); have hr1 := hm.r; have hrb : rowB wr w.heap.size 32 = true := rowB_of (show wr.heap[w.heap.size]? = some (.cells (encB dig0.1).toArray 23 (0, 0)) from hr1) (by simp [encB_length, dig0]); have hb2 : Blk (wr.setRow w.heap.size (dA (outM FIN))) w.heap.size 23 (encB (outM FIN).1) := hr1.setRow _; have hs2 := hb2.seg 0 32 (encB (outM FIN).1) (by rw [encB_length, (outM FIN).2]) (fun j _ => by rw [Nat.zero_add]); have HK : Hid (Kept w (wr.setRow w.heap.size (dA (outM FIN)))) := Lib.hid (Upd.setRow hm.k _ _ (fun h => absurd h (Nat.lt_irrefl _))); obtain ⟨r1, r2⟩ := hsg; obtain ⟨r3, r4⟩ := hs2
              replace r2 : segV wr ⟨gd, 0, none⟩ 32 = dA (outM FIN) := by rw [r2, ← outM_val]; rfl
              change segV (wr.setRow w.heap.size (dA (outM FIN))) ⟨w.heap.size, 0, none⟩ 32 = dA (outM FIN) at r4
              have HGG := Lib.hid (And.intro r3 r4); clear hd hm hr1 hb2 r3 r4; go_wp2; refine bodyPost_ret (v := .tuple #[.agg (dA (outM FIN)), .int .i64 0]) ?_ rfl ⟨rfl, HK.out⟩; rw [results_seg2 (P := Tryz.prog) (fn := Tryz.f72) (p := 2) (t := 3) (ty := 23) rfl _ _ ⟨w.heap.size, 0, none⟩ 32 _ (.int .i64 0) rfl rfl Tryz.underlying23 rfl sizeOf23 HGG.out.1, HGG.out.2]
    · have h56' : (56 : Int) ≤ (T.length : Int) := by omega
      go_wp2_with fail; generalize (W5.setRow gb (b8A (blk.take T.length ++ List.replicate (64 - T.length) 0))).setCell ⟨gb, T.length, none⟩ (.int .u8 128) = W8 at *; have HE : Hid (SumMem w W8 g gs gb st blk T.length n st (tailB T)) := H7; have HFB0 : Hid (FIN = takeM (takeM st (tailB T) rootsM) (withLen zb64 n) rootsM) := by have := HFIN.out; rw [sumM, if_neg (by omega)] at this; exact this
      generalize tailB T = B1 at *; have f1 : ∀ W, SumMem w W g gs gb st blk T.length n st B1 → segB W ⟨gs, 0, none⟩ 8 = true := fun W hW => hW.segS.1; have f2 : ∀ W, SumMem w W g gs gb st blk T.length n st B1 → segV W ⟨gs, 0, none⟩ 8 = w32A st := fun W hW => hW.segS.2; refine wp_region_mild 5 (by kernel_rfl) (by kernel_rfl) (fun W => SumMem w W g gs gb st blk T.length n st B1) HE.out.drew ?_; simp only [List.take_succ_cons, List.take_zero, List.drop_succ_cons, List.drop_zero]
      iterate 4 (refine wpMild_step (fun K hK => ?_); go_simp; apply Exists.intro; refine ⟨fun W hW => ?_, hK _ ?_⟩; (go_simp; first | done | exact rfl | exact ⟨rfl, hW⟩); clear hK K)
      refine wpMild_step (fun K hK => ?_); go_simp; apply Exists.intro; refine ⟨fun W hW => ?_, hK _ ?_⟩
      · go_simp
        refine (sha_take hW.ls hW.lb hW.h.lk hW.range hW.h.rk).mono ?_; rintro e w' ⟨rfl, hu⟩; exact ⟨rfl, hW.kept hu⟩
      clear hK K; refine wpMild_nil (fun wc hS => ?_); have hts : (takeM st B1 rootsM).length = 8 := takeM_length hS.ls _ _; have hsz : (w32A (takeM st B1 rootsM)).size = 8 := by rw [w32A_size, hts]
      have his := hS.isS; have h10 := hS.putS hts; obtain ⟨S1, hS1⟩ : ∃ S1, S1 = takeM st B1 rootsM := ⟨_, rfl⟩; rw [← hS1] at hsz h10 HFB0 ⊢; have fsl2 : ∀ W : World, (Instr.sliceAt 154 (.pointer (some ⟨gb, 0, none⟩)) none none none).run Tryz.prog W = .ok (.slice (some ⟨gb, 0, none⟩) 64 64) W := fun W => slice_b64_all W gb 0; have fcl2 : ∀ ty, (Builtin.clear_ #[42] ty #[.slice (some ⟨gb, 0, none⟩) 64 64]).run Tryz.prog (wc.setRow gs (w32A S1)) = .ok (.tuple #[]) ((wc.setRow gs (w32A S1)).setRow gb (b8A zb64)) := fun ty => h10.clear 0 (by omega) ty; have HE2 : Hid (SumMem w ((wc.setRow gs (w32A S1)).setRow gb (b8A zb64)) g gs gb st blk T.length n S1 zb64) := h10.putB zb64_length; clear f1 f2 hS hS1 hts h10 fsl fcl HE H7 HM hheld hn hheld6 c6 z6 hheld7; go_wp2_with fail; generalize (wc.setRow gs (w32A S1)).setRow gb (b8A zb64) = W9 at *; obtain ⟨B2, hB2⟩ : ∃ B2, B2 = zb64 := ⟨_, rfl⟩; rw [← hB2] at HFB0 HE2; have HE := HE2; have HFB := HFB0; clear HE2 HFB0 hB2 fsl2 fcl2 hsz his
      go_loopw [50] (fun i wr => ∃ k : Nat, k ≤ 8 ∧ i = .int .i64 k ∧ SumMem w wr g gs gb st blk T.length n S1 (B2.take (64 - k) ++ (lenB n).drop (8 - k))) (fun i _ => 8 - (intOf i).toNat)
      case atStart => exact ⟨0, Nat.zero_le _, rfl, by rw [Nat.sub_zero, Nat.sub_zero, List.take_of_length_le (by rw [HE.out.lb]; omega), List.drop_of_length_le (by simp), List.append_nil]; exact HE.out⟩
      case round =>
        obtain ⟨k, hk, rfl, hm⟩ := hrel; rcases Nat.lt_or_ge k 8 with hk8 | hk8
        · have hk8' : (k : Int) < 8 := by omega
          have ca := hm.h.call; have hn2 := HX.out.2.2.2.2.2; obtain ⟨cv, cc⟩ := hm.b.has' (k := 63 - k) (by rw [encB_length, hm.lb]; omega); have zz := hm.b.thaw (63 - k); have hw : IntKind.i64.wrap (63 - (k : Int)) = ((63 - k : Nat) : Int) := by rw [IntKind.wrap_i64]; omega
          have HM8 := Lib.hid hm; clear hm; go_wp2_with fail
          go_roundw
          case rel =>
            refine ⟨k + 1, by omega, by go_num, ?_⟩; have h1 := HM8.out.setB (63 - k) (byteW (((8 * n : Nat) : Int) / 2 ^ (8 * k))); rw [byteW_val, lenB_step (by rw [HE.out.lb]) hk8] at h1; rw [show (8 : Int) * (n : Int) = ((8 * n : Nat) : Int) by omega]; exact h1
          case measure => simp [intOf]; omega
        · obtain rfl : k = 8 := by omega
          have h9 : SumMem w wr g gs gb st blk T.length n S1 (withLen B2 n) := hm; have HF := HFB; clear hm; generalize withLen B2 n = B3 at *; have f1 : ∀ W, SumMem w W g gs gb st blk T.length n S1 B3 → segB W ⟨gs, 0, none⟩ 8 = true := fun W hW => hW.segS.1; have f2 : ∀ W, SumMem w W g gs gb st blk T.length n S1 B3 → segV W ⟨gs, 0, none⟩ 8 = w32A S1 := fun W hW => hW.segS.2; go_wp2_with fail; refine wp_region_mild 5 (by kernel_rfl) (by kernel_rfl) (fun W => SumMem w W g gs gb st blk T.length n S1 B3) h9.drew ?_; simp only [List.take_succ_cons, List.take_zero, List.drop_succ_cons, List.drop_zero]
          iterate 4 (refine wpMild_step (fun K hK => ?_); go_simp; apply Exists.intro; refine ⟨fun W hW => ?_, hK _ ?_⟩; (go_simp; first | done | exact rfl | exact ⟨rfl, hW⟩); clear hK K)
          refine wpMild_step (fun K hK => ?_); go_simp; apply Exists.intro; refine ⟨fun W hW => ?_, hK _ ?_⟩
          · go_simp
            refine (sha_take hW.ls hW.lb hW.h.lk hW.range hW.h.rk).mono ?_; rintro e w' ⟨rfl, hu⟩; exact ⟨rfl, hW.kept hu⟩
          clear hK K; refine wpMild_nil (fun wc hS => ?_); have hts : (takeM S1 B3 rootsM).length = 8 := takeM_length hS.ls _ _; have hsz : (w32A (takeM S1 B3 rootsM)).size = 8 := by rw [w32A_size, hts]
          have his := hS.isS; have h10 := hS.putS hts; clear f1 f2 hS h9; rw [← HF.out] at hsz h10 ⊢; have HW := Lib.hid (And.intro h10 hts); clear hts h10; go_wp2_with fail; have hsw : (wc.setRow gs (w32A FIN)).heap.size = wc.heap.size := by simp [World.setRow]
          generalize wc.setRow gs (w32A FIN) = wd at *; have hd0 : Blk (wd.alloc (.cells (dA dig0) 23)) wd.heap.size 23 (encB ((outL FIN).take 0 ++ List.replicate 32 0)) := Blk.new wd _ (encB (List.replicate 32 0)); rw [hsw] at hd0; have hm0 := HW.out.1.kept ((Upd.refl _ wd).alloc (.cells (dA dig0) 23)); have HD0 := Lib.hid (And.intro hm0 hd0); clear hd0 hm0 hsz his; have hne2 : gs < wc.heap.size ∧ gb < wc.heap.size := by rw [← hsw]; exact ⟨HW.out.1.s.lt, HW.out.1.b.lt⟩
          have HGD : Hid (gs < wc.heap.size ∧ gb < wc.heap.size) := hne2; clear hsw hne2; generalize wd.alloc (.cells (dA dig0) 23) = we at *; generalize wc.heap.size = gd at *
          go_loopw [72] (fun i wr => ∃ k : Nat, k ≤ 32 ∧ i = .int .i64 k ∧ SumMem w wr g gs gb st blk T.length n FIN B3 ∧ Blk wr gd 23 (encB ((outL FIN).take k ++ List.replicate (32 - k) 0))) (fun i _ => 32 - (intOf i).toNat)
          case atStart => exact ⟨0, Nat.zero_le _, rfl, HD0.out.1, HD0.out.2⟩
          case round =>
            obtain ⟨k, hk, rfl, hm, hd⟩ := hrel; rcases Nat.lt_or_ge k 32 with hk32 | hk32
            · have hk' : (k : Int) < 32 := by omega
              have hc := hm.s.cell (k := k / 4) (v := .int .u32 (FIN.getD (k / 4) 0)) (by have := hm.ls; simp [wordV, show k / 4 < FIN.length by omega]); have hz := hd.thaw k; obtain ⟨cv, cc⟩ := hd.has' (k := k) (by simp [encB_length, outL]; omega); have HM8 := Lib.hid (And.intro hm hd); clear hm hd; go_wp2_with fail
              go_roundw
              case rel =>
                refine ⟨k + 1, by omega, by go_num, ?_, ?_⟩
                · exact HM8.out.1.other HGD.out.1 HGD.out.2 ((Upd.refl _ _).setCell (p := ⟨gd, k, none⟩) _ fun _ => rfl)
                · have h1 := HM8.out.2.set k (.int .u8 ((byteW (FIN.getD (k / 4) 0 / 2 ^ (24 - 8 * (k % 4)))).toNat : Int))
                  rw [encB_set, outL_step hk32, byteW_val] at h1; exact h1
              case measure => simp [intOf]; omega
            · obtain rfl : k = 32 := by omega
              rw [Nat.sub_self, List.replicate_zero, List.append_nil, List.take_of_length_le (by simp [outL])] at hd; have hsg := hd.seg 0 32 (encB (outL FIN)) (by simp [encB_length, outL]) (fun j _ => by rw [Nat.zero_add]); have hr1 := hm.r; have hrb : rowB wr w.heap.size 32 = true := rowB_of (show wr.heap[w.heap.size]? = some (.cells (encB dig0.1).toArray 23 (0, 0)) from hr1) (by simp [encB_length, dig0]); have hb2 : Blk (wr.setRow w.heap.size (dA (outM FIN))) w.heap.size 23 (encB (outM FIN).1) := hr1.setRow _; have hs2 := hb2.seg 0 32 (encB (outM FIN).1) (by rw [encB_length, (outM FIN).2]) (fun j _ => by rw [Nat.zero_add]); have HK : Hid (Kept w (wr.setRow w.heap.size (dA (outM FIN)))) := Lib.hid (Upd.setRow hm.k _ _ (fun h => absurd h (Nat.lt_irrefl _))); obtain ⟨r1, r2⟩ := hsg; obtain ⟨r3, r4⟩ := hs2
              replace r2 : segV wr ⟨gd, 0, none⟩ 32 = dA (outM FIN) := by rw [r2, ← outM_val]; rfl
              change segV (wr.setRow w.heap.size (dA (outM FIN))) ⟨w.heap.size, 0, none⟩ 32 = dA (outM FIN) at r4
              have HGG := Lib.hid (And.intro r3 r4); clear hd hm hr1 hb2 r3 r4; go_wp2; refine bodyPost_ret (v := .tuple #[.agg (dA (outM FIN)), .int .i64 0]) ?_ rfl ⟨rfl, HK.out⟩; rw [results_seg2 (P := Tryz.prog) (fn := Tryz.f72) (p := 2) (t := 3) (ty := 23) rfl _ _ ⟨w.heap.size, 0, none⟩ 32 _ (.int .i64 0) rfl rfl Tryz.underlying23 rfl sizeOf23 HGG.out.1, HGG.out.2]
end Go.Proofs.YtepjbijhkkjbfaaGreat
namespace Go.Proofs.YtepjbijhkkjbfaaGreat
open Go.RowKit
theorem shaM_sum {R T : Bytes} {q : Nat} (hT : T = R.drop (64 * q)) (hl : R.length = 64 * q + T.length) (h : T.length < 64) : outM (sumM (absorbN rootsM startM R q) T R.length) = shaM R := by
  rw [shaM_def, sumM]
  split
  · rename_i h56
    rw [pad_short hT hl h56]
  · rename_i h56
    rw [pad_long hT hl (by omega) h]
theorem Byt.lt {W : World} {A : Option Addr} {R : Bytes} (h : Byt W A R) (hn : R ≠ []) : ∀ a, A = some a → a.block < W.heap.size := by
  rintro a rfl; rcases h with rfl | ⟨b, off, e, h⟩
  · exact absurd rfl hn
  · cases e
    have h0 : 0 < R.length := List.length_pos_iff.2 hn; exact World.block_lt_of_cell? _ _ (h 0 _ (by rw [List.getElem?_eq_getElem (by rw [encB_length]; exact h0)]))
set_option maxHeartbeats 1000000 in
set_option maxRecDepth 20000 in
theorem sha_Of {w : World} {A : Option Addr} {R : Bytes} (c : Nat) (hR : Byt w A R) (hl : R.length ≤ 140737488351232) (hcap : R.length ≤ c) :
    Calls Tryz.prog 60 #[.slice A R.length c] w fun e W => e = .returned (.agg (dA (shaM R))) ∧ Kept w W := by
  have hR1 : Byt (w.alloc (.cells (dA dig0) 23)) A R := hR.kept ((Upd.refl _ w).alloc _); have hk1 : Kept w (w.alloc (.cells (dA dig0) 23)) := (Upd.refl _ w).alloc _; have hr1 : Blk (w.alloc (.cells (dA dig0) 23)) w.heap.size 23 (encB dig0.1) := Blk.new w _ _; have hlt := hR.lt; have HX := Lib.hid (And.intro hR1 (And.intro hk1 (And.intro hr1 hlt))); clear hR hR1 hk1 hr1 hlt
  go_enter Tryz.func60, Tryz.ntmps60
  go_wp2_with fail; generalize w.alloc (.cells (dA dig0) 23) = w1 at *; refine (sha_New w1).mono ?_; rintro e w2 ⟨rfl, h2, hu2⟩; have hk2 : Kept w w2 := HX.out.2.1.then hu2 fun _ _ h => h; have hr2 := HX.out.2.2.1.kept hu2; have hR2 := HX.out.1.kept hu2; have hwlt : w.heap.size ≤ w1.heap.size := HX.out.2.1.size; have HY := Lib.hid (And.intro h2 (And.intro hk2 (And.intro hr2 (And.intro hR2 hwlt)))); clear h2 hk2 hr2 hR2 hwlt hu2; have HWG : Hid (w.heap.size < w1.heap.size) := HX.out.2.2.1.lt; generalize w1.heap.size = g at *; go_wp2_with fail; refine (hash_Write HY.out.1 c HY.out.2.2.2.1 (fun hn a ha => by have h1 := HX.out.2.2.2 hn a ha; have h2 := HY.out.2.2.2.2; omega) hl hcap).mono ?_; rintro e w3 ⟨rfl, hu3, q, T, blk, hT, hTl, hT64, hbT, h3⟩; have hg : ∀ i, i < w.heap.size → i = g → False := fun i hi e => by have := HY.out.2.2.2.2; omega
  have hk3 : Kept w w3 := HY.out.2.1.then hu3 hg; have hr3 := HY.out.2.2.1.upd hu3 (by have h1 := HY.out.2.2.1.lt; have h2 := HWG.out; omega); have HZ := Lib.hid (And.intro h3 (And.intro hk3 (And.intro hT64 (And.intro hbT (And.intro (shaM_sum hT hTl hT64) hr3))))); clear hk3 hr3 h3 hu3 hT hTl hT64 hbT hg; go_wp2_with fail; refine (hash_Sum HZ.out.1 HZ.out.2.2.1 HZ.out.2.2.2.1 hl).mono ?_; rw [HZ.out.2.2.2.2.1]; rintro e w4 ⟨rfl, hu4⟩; have hr4 := HZ.out.2.2.2.2.2.kept hu4; have hk4 : Kept w w4 := HZ.out.2.1.then hu4 fun _ _ h => h; generalize hD : shaM R = D at *; have HD := Lib.hid hD; clear hD; have hlt4 := hr4.lt; have hrb : rowB w4 w.heap.size 32 = true := rowB_of (show w4.heap[w.heap.size]? = some (.cells (encB dig0.1).toArray 23 (0, 0)) from hr4) (by simp [encB_length, dig0]); have hb5 : Blk ((w4.setRow w.heap.size (dA D)).alloc (.cells (dA D) 23)) w.heap.size 23 (encB D.1) := (hr4.setRow (encB D.1)).alloc _; have hs5 := hb5.seg 0 32 (encB D.1) (by rw [encB_length, D.2]) (fun j _ => by rw [Nat.zero_add]); have HK : Hid (Kept w ((w4.setRow w.heap.size (dA D)).alloc (.cells (dA D) 23)) ∧ segB ((w4.setRow w.heap.size (dA D)).alloc (.cells (dA D) 23)) ⟨w.heap.size, 0, none⟩ 32 = true ∧ segV ((w4.setRow w.heap.size (dA D)).alloc (.cells (dA D) 23)) ⟨w.heap.size, 0, none⟩ 32 = dA D) :=
    ⟨(Upd.setRow hk4 _ _ (fun h => absurd h (Nat.lt_irrefl _))).alloc _, hs5.1, hs5.2⟩
  clear hr4 hk4 hb5 hs5 hu4; go_wp2; refine bodyPost_ret (v := .agg (dA D)) ?_ rfl ⟨by rw [HD.out], HK.out.1⟩; rw [results_seg (P := Tryz.prog) (fn := Tryz.f60) rfl _ _ ⟨w.heap.size, 0, none⟩ 32 _ rfl Tryz.underlying23 rfl sizeOf23 HK.out.2.1, HK.out.2.2]
end Go.Proofs.YtepjbijhkkjbfaaGreat
