/- sha: Write. -/
import Derived.Test.YtjimamgghkgdeaaShaH
import Derived.Test.YtjimamgghkgdeaaShaP
namespace Go.Proofs.Ytjimamgghkgdeaa
open Go.RowKit

/-- bytes behind an address -/
def Byt (W : World) (A : Option Addr) (R : Bytes) : Prop := R = [] ∨ ∃ b off, A = some ⟨b, off, none⟩ ∧ W.rangeAt b off (encB R)
theorem Byt.upd {W W' : World} {A : Option Addr} {R : Bytes} {S : Nat → Prop} (h : Byt W A R) (hu : Upd S W W') (hs : ∀ a, A = some a → ¬ S a.block) : Byt W' A R := by
  rcases h with rfl | ⟨b, off, rfl, h⟩
  · exact .inl rfl
  · exact .inr ⟨b, off, rfl, fun j v hv => hu.cell (h j v hv) (show ¬ S b from hs ⟨b, off, none⟩ rfl)⟩
theorem Byt.kept {W W' : World} {A : Option Addr} {R : Bytes} (h : Byt W A R) (hu : Kept W W') : Byt W' A R := h.upd hu fun _ _ => id
theorem encB_drop (R : Bytes) (n : Nat) : encB (R.drop n) = (encB R).drop n := by simp [encB]
theorem encB_take (R : Bytes) (n : Nat) : encB (R.take n) = (encB R).take n := by simp [encB]
theorem encB_append (R S : Bytes) : encB (R ++ S) = encB R ++ encB S := by simp [encB]
theorem encB_one (R : Bytes) : ∀ v ∈ encB R, v.oneCell' = true := fun v hv => by obtain ⟨x, _, rfl⟩ := List.mem_map.1 hv; rfl
theorem u8_size1 : (Try.prog.info? 5).map (·.size) = some 1 := by kernel_rfl

theorem bs_elem : Try.prog.elem 32 = 5 := by kernel_rfl
theorem slice_u8_l (W : World) (b o len cap l : Nat) (L : Int) (hL : L = l) (h1 : l ≤ len) :
    (Instr.sliceAt 32 (.slice (some ⟨b, o, none⟩) len cap) (some (.int .i64 L)) none none).run Try.prog W = .ok (.slice (some (if cap = l then ⟨b, o, none⟩ else ⟨b, o + l, none⟩)) (len - l) (cap - l)) W := by
  subst hL
  have ht : Try.prog.underlying 32 = some (.slice (Try.prog.elem 32)) := by rw [bs_elem]; exact Try.underlying32
  have := run_slice_l (P := Try.prog) (w := W) 32 (some ⟨b, o, none⟩) len cap ht .i64 (l : Int) (by omega) (by omega)
  rw [run_sliceAt_slice (h := ht), this, bs_elem, u8_sizeOf]
  simp only [Result.andThen, sliced, Int.toNat_natCast, Nat.mul_one, Option.map_some, add_none]
  split <;> rfl

/-- bytes copied to the block's beginning -/
theorem HashAt.copy {W : World} {g : Nat} {d m : Int} {k st : List Int} {blk : Bytes} {held all : Int} (h : HashAt W g d m k st blk held all) (cs : Bytes) (hc : cs.length ≤ 64) :
    HashAt (W.setRow g ((hashV d m k st blk held all).toArray.toList.take 76 ++ (encB cs ++ (hashV d m k st blk held all).toArray.toList.drop (76 + (encB cs).length))).toArray) g d m k st (cs ++ blk.drop cs.length) held all := by
  refine ⟨?_, h.lk, h.ls, by have := h.lb; simp; omega⟩
  have he : (hashV d m k st blk held all).toArray.toList.take 76 ++ (encB cs ++ (hashV d m k st blk held all).toArray.toList.drop (76 + (encB cs).length)) = hashV d m k st (cs ++ blk.drop cs.length) held all := by
    have h76 : (hashH d m ++ wordV k ++ wordV st).length = 76 := by simp [hashH, h.lk, h.ls]
    have hcl : (encB cs).length = cs.length := encB_length cs
    rw [hash_blk, hash_blk, encB_append, encB_drop, List.toList_toArray, hcl, ← h76, List.take_left, ← List.drop_drop, List.drop_left,
      List.drop_append_of_le_length (by rw [encB_length, h.lb]; exact hc)]
    simp
  rw [he]
  exact h.b.setRow _

set_option maxHeartbeats 4000000 in
set_option maxRecDepth 20000 in
theorem hash_Write {w : World} {g : Nat} (h : HashAt w g 0 0 zw64 zw8 zb64 0 0) {A : Option Addr} {R : Bytes} (c : Nat) (hR : Byt w A R) (hA : R ≠ [] → ∀ a, A = some a → a.block ≠ g) (hl : R.length ≤ 140737488351232) (hcap : R.length ≤ c) :
    Calls Try.prog 54 #[.pointer (some ⟨g, 0, none⟩), .slice A R.length c] w fun e W => e = .returned (.int .i64 0) ∧ Upd (fun i => i = g) w W ∧
      ∃ q T blk, T = R.drop (64 * q) ∧ R.length = 64 * q + T.length ∧ T.length < 64 ∧ blk.take T.length = T ∧ HashAt W g 1 0 rootsM (absorbN rootsM startM R q) blk T.length R.length := by
  have hnot : ∀ (x : Bool) (w : World), (Op.unary .not (.bool x)).run Try.prog w = .ok (.bool (!x)) w := fun _ _ => rfl
  have c0 := h.c0
  have HH := Lib.hid (And.intro h (And.intro hR (And.intro hA hcap)))
  clear h hR hA hcap
  go_enter Try.func54, Try.ntmps54
  go_wp2_with fail
  clear c0
  refine (hash_ready HH.out.1).mono ?_
  rintro e w1 ⟨rfl, h1, hu1⟩
  have ca := h1.call
  have za := h1.thaw 141
  have HW := Lib.hid (And.intro h1 hu1)
  clear h1 hu1
  go_wp2_with fail
  have hall : HashAt (w1.setCell ⟨g, 141, none⟩ (.int .i64 (R.length : Int))) g 1 0 rootsM startM zb64 0 R.length := HW.out.1.setAll _
  have hu2 : Upd (fun i => i = g) w (w1.setCell ⟨g, 141, none⟩ (.int .i64 (R.length : Int))) := HW.out.2.setCell (p := ⟨g, 141, none⟩) _ fun _ => rfl
  have HX := Lib.hid (And.intro hall hu2)
  clear hall hu2 HW ca za
  generalize w1.setCell ⟨g, 141, none⟩ (.int .i64 (R.length : Int)) = w2 at *
  go_loopw [1, 5] (fun v n wr => ∃ (i cn : Nat) (A' : Option Addr) (c' hd : Nat) (blk : Bytes), v = .slice A' (R.length - cn) c' ∧ cn ≤ R.length ∧ R.length - cn ≤ c' ∧ Upd (fun i => i = g) w wr ∧ HashAt wr g 1 0 rootsM (absorbN rootsM startM R i) blk hd R.length ∧
      (cn < R.length → cn = 64 * i ∧ hd = 0 ∧ ∃ b off, A = some ⟨b, off, none⟩ ∧ A' = some ⟨b, off + cn, none⟩) ∧ (cn = R.length → ∃ T, T = R.drop (64 * i) ∧ R.length = 64 * i + T.length ∧ T.length < 64 ∧ hd = T.length ∧ blk.take T.length = T)) (fun v _ _ => match v with | .slice _ n _ => n | _ => 0)
  case atStart =>
    refine ⟨0, 0, A, c, 0, zb64, rfl, Nat.zero_le _, ?_, HX.out.2, ?_, fun h => ⟨rfl, rfl, ?_⟩, fun h => ⟨[], ?_, ?_, by simp, rfl, rfl⟩⟩
    · have := HH.out.2.2.2; omega
    · rw [absorbN_zero]; exact HX.out.1
    · rcases HH.out.2.1 with rfl | ⟨b, off, rfl, _⟩
      · simp at h
      · exact ⟨b, off, rfl, rfl⟩
    · have : R = [] := List.eq_nil_of_length_eq_zero h.symm
      rw [this]; rfl
    · simp only [List.length_nil]; omega
  case round =>
    obtain ⟨i, cn, A', c', hd, blk, rfl, hcn, hcc, hu, hh, hmore, hdone⟩ := hrel
    rcases Nat.lt_or_ge cn R.length with hlt | hge
    · obtain ⟨rfl, rfl, b, off, rfl, rfl⟩ := hmore hlt
      have hbg : b ≠ g := HH.out.2.2.1 (by rintro rfl; simp at hlt) ⟨b, off, none⟩ rfl
      have hRb : ∀ W, Upd (fun i => i = g) w W → W.rangeAt b off (encB R) := fun W hW => by
        rcases HH.out.2.1 with h0 | ⟨b', off', e, h1⟩
        · rw [h0] at hlt; simp at hlt
        · simp only [Option.some.injEq, Addr.mk.injEq, and_true] at e
          obtain ⟨rfl, rfl⟩ := e
          exact fun j v hv => hW.cell (h1 j v hv) (show ¬ b = g from hbg)
      obtain ⟨cs, hcs⟩ : ∃ cs, cs = (R.drop (64 * i)).take 64 := ⟨_, rfl⟩
      have hcl : cs.length = min 64 (R.length - 64 * i) := by rw [hcs]; simp
      have hsrc : ∀ W, Upd (fun i => i = g) w W → ∀ j v, (encB cs)[j]? = some v → W.cell? ((⟨b, off + 64 * i, none⟩ : Addr).add j) = some v := fun W hW j v hv => by
        rw [add_none, Nat.add_assoc]
        refine hRb W hW (64 * i + j) v ?_
        rw [← hv, hcs, encB_take, encB_drop, List.getElem?_take_of_lt, List.getElem?_drop]
        have := (List.getElem?_eq_some_iff.1 hv).1
        rw [encB_length, hcl] at this
        omega
      have f140 : ∀ W, (HashAt W g 1 0 rootsM (absorbN rootsM startM R i) blk 0 R.length ∧ Upd (fun i => i = g) w W) → W.cell? ⟨g, 140, none⟩ = some (.int .i64 0) := fun W hW => hW.1.cheld
      have fsl : ∀ W : World, (Instr.sliceAt 118 (.pointer (some ⟨g, 76, none⟩)) (some (.int .i64 0)) none none).run Try.prog W = .ok (.slice (some ⟨g, 76, none⟩) 64 64) W := fun W => slice_b64_l W g 76 0 0 rfl (by omega)
      have hS0 : HashAt wr.drew g 1 0 rootsM (absorbN rootsM startM R i) blk 0 R.length ∧ Upd (fun i => i = g) w wr.drew := ⟨⟨hh.b.drew, hh.lk, hh.ls, hh.lb⟩, hu.drew⟩
      have HC := Lib.hid (And.intro hcs (And.intro hcl (And.intro hsrc (And.intro hcc hlt))))
      have hpos : (0 : Int) < ((R.length - 64 * i : Nat) : Int) := by exact_mod_cast Nat.sub_pos_of_lt hlt
      clear hcs hcl hsrc hcc hlt hh hu hmore hdone hRb HX
      obtain ⟨m, hm⟩ : ∃ m, m = R.length - 64 * i := ⟨_, rfl⟩
      rw [← hm] at hpos ⊢
      have HM := Lib.hid hm
      clear hm
      have HPOS : Hid (0 < m) := by show 0 < m; exact_mod_cast hpos
      go_wp2_with fail
      refine wp_region_mild 9 (by kernel_rfl) (by kernel_rfl) (fun W => HashAt W g 1 0 rootsM (absorbN rootsM startM R i) blk 0 R.length ∧ Upd (fun i => i = g) w W) hS0 ?_
      simp only [List.take_succ_cons, List.take_zero, List.drop_succ_cons, List.drop_zero]
      iterate 9 (refine wpMild_step (fun K hK => ?_); go_simp; apply Exists.intro; refine ⟨fun W hW => ?_, hK _ ?_⟩; (go_simp; first | done | exact rfl | exact ⟨rfl, hW⟩); clear hK K)
      refine wpMild_nil (fun wb hS => ?_)
      clear f140 fsl hS0
      have hcp := hS.1.copy cs (by have := HC.out.2.1; omega)
      have hcu : Upd (fun i => i = g) w (wb.setRow g ((hashV 1 0 rootsM (absorbN rootsM startM R i) blk 0 R.length).toArray.toList.take 76 ++ (encB cs ++ (hashV 1 0 rootsM (absorbN rootsM startM R i) blk 0 R.length).toArray.toList.drop (76 + (encB cs).length))).toArray) := hS.2.setRow _ _ fun _ => rfl
      refine wpList_copy_own rfl (.tmp 36) (.tmp 37) 32 32 rfl 5 Try.underlying32 u8_size1 g 76 64 64 ⟨b, off + 64 * i, none⟩ m c' rfl rfl (hashV 1 0 rootsM (absorbN rootsM startM R i) blk 0 R.length).toArray 120 hS.1.b (encB cs) ?_ (HC.out.2.2.1 wb hS.2) ?_ (encB_one cs) ?_
      · rw [encB_length, HC.out.2.1, ← HM.out]; show min 64 m = min m 64; omega
      · rw [encB_length]; have := hS.1.len; have := HC.out.2.1; simp only [List.size_toArray]; omega
      have HY := Lib.hid (And.intro hcp hcu)
      clear hcp hcu hS
      generalize wb.setRow g _ = W3 at *
      have hcl : cs.length = min 64 m := by rw [HC.out.2.1, HM.out]
      have hgo : goInt (encB cs).length = .int .i64 (cs.length : Int) := by rw [encB_length]; rfl
      rw [hgo]
      have hle : cs.length ≤ m := by omega
      have fs2 : ∀ W : World, (Instr.sliceAt 32 (.slice (some ⟨b, off + 64 * i, none⟩) m c') (some (.int .i64 (cs.length : Int))) none none).run Try.prog W = .ok (.slice (some (if c' = cs.length then ⟨b, off + 64 * i, none⟩ else ⟨b, off + 64 * i + cs.length, none⟩)) (m - cs.length) (c' - cs.length)) W := fun W => slice_u8_l W b _ m c' cs.length _ rfl hle
      have h140 := HY.out.1.cheld
      have z140 := HY.out.1.thaw 140
      have HL := Lib.hid (And.intro hcl hle)
      clear hcl hle hgo
      obtain ⟨n, hn⟩ : ∃ n, n = cs.length := ⟨_, rfl⟩
      rw [← hn] at fs2 ⊢
      have HN := Lib.hid hn
      clear hn
      have h1 := HY.out.1.setHeld (n : Int)
      have hv1 : Upd (fun i => i = g) w (W3.setCell ⟨g, 140, none⟩ (.int .i64 (n : Int))) := HY.out.2.setCell (p := ⟨g, 140, none⟩) _ fun _ => rfl
      have h140' := h1.cheld
      have HZ := Lib.hid (And.intro h1 hv1)
      clear h1 hv1
      have hn64 : n ≤ 64 := by have := HL.out.1; have := HN.out; omega
      rcases Nat.lt_or_ge n 64 with hlt | hge
      · have hlt' : (n : Int) < 64 := by omega
        have hne : ¬ (n : Int) = 64 := by omega
        go_wp2_with fail
        go_roundw
        case rel =>
          have hnm : n = m := by have := HL.out.1; have := HN.out; omega
          have hcsd : cs = R.drop (64 * i) := by
            rw [HC.out.1, List.take_of_length_le]
            rw [List.length_drop, ← HM.out]; omega
          have hml : m = R.length - 64 * i := HM.out
          refine ⟨i, R.length, some (if c' = n then ⟨b, off + 64 * i, none⟩ else ⟨b, off + 64 * i + n, none⟩), c' - n, n, cs ++ blk.drop cs.length, ?_, Nat.le_refl _, by omega, HZ.out.2, HZ.out.1, fun h => absurd h (Nat.lt_irrefl _), fun _ => ⟨cs, hcsd, ?_, by rw [← HN.out]; exact hlt, HN.out, ?_⟩⟩
          · rw [hnm, Nat.sub_self, Nat.sub_self]
          · have := HC.out.2.2.2.2; have := HN.out; omega
          · rw [List.take_left]
        case measure => have h1 := HL.out.1; have h2 := HN.out; have h3 := HPOS.out; show m - n < m; omega
      · obtain rfl : n = 64 := by omega
        have hcs64 : cs.length = 64 := HN.out.symm
        obtain ⟨A2, hA2⟩ : ∃ A2 : Option Addr, A2 = some (if c' = 64 then ⟨b, off + 64 * i, none⟩ else ⟨b, off + 64 * i + 64, none⟩) := ⟨_, rfl⟩
        have fs3 : ∀ W : World, (Instr.sliceAt 32 (.slice (some ⟨b, off + 64 * i, none⟩) m c') (some (.int .i64 64)) none none).run Try.prog W = .ok (.slice A2 (m - 64) (c' - 64)) W := by rw [hA2]; exact fs2
        have HA2 := Lib.hid hA2
        clear fs2 hA2
        have hb2 : HashAt (W3.setCell ⟨g, 140, none⟩ (.int .i64 64)) g 1 0 rootsM (absorbN rootsM startM R i) cs 64 R.length := by
          have h1 := HZ.out.1
          rw [List.drop_of_length_le (by have := h1.lb; simp [hcs64] at this; omega), List.append_nil] at h1
          exact h1
        have HB := Lib.hid (And.intro hb2 (show Upd (fun i => i = g) w (W3.setCell ⟨g, 140, none⟩ (.int .i64 64)) from HZ.out.2))
        have h64c := hb2.cheld
        clear hb2 hcs64 hge hn64 HZ h140'
        go_wp2_with fail
        generalize W3.setCell ⟨g, 140, none⟩ (.int .i64 64) = W4 at *
        have f68 : ∀ W, (HashAt W g 1 0 rootsM (absorbN rootsM startM R i) cs 64 R.length ∧ Upd (fun i => i = g) w W) → segB W ⟨g, 68, none⟩ 8 = true := fun W hW => hW.1.segS.1
        have f68' : ∀ W, (HashAt W g 1 0 rootsM (absorbN rootsM startM R i) cs 64 R.length ∧ Upd (fun i => i = g) w W) → segV W ⟨g, 68, none⟩ 8 = w32A (absorbN rootsM startM R i) := fun W hW => hW.1.segS.2
        refine wp_region_mild 12 (by kernel_rfl) (by kernel_rfl) (fun W => HashAt W g 1 0 rootsM (absorbN rootsM startM R i) cs 64 R.length ∧ Upd (fun i => i = g) w W) (And.intro ⟨HB.out.1.b.drew, HB.out.1.lk, HB.out.1.ls, HB.out.1.lb⟩ HB.out.2.drew) ?_
        simp only [List.take_succ_cons, List.take_zero, List.drop_succ_cons, List.drop_zero]
        iterate 11 (refine wpMild_step (fun K hK => ?_); go_simp; apply Exists.intro; refine ⟨fun W hW => ?_, hK _ ?_⟩; (go_simp; first | done | exact rfl | exact ⟨rfl, hW⟩); clear hK K)
        refine wpMild_step (fun K hK => ?_)
        go_simp
        apply Exists.intro
        refine ⟨fun W hW => ?_, hK _ ?_⟩
        · go_simp
          refine (sha_take hW.1.ls hW.1.lb hW.1.lk hW.1.rb hW.1.rk).mono ?_
          rintro e w' ⟨rfl, hu⟩
          exact ⟨rfl, hW.1.kept hu, hW.2.then hu fun _ _ h => h.elim⟩
        clear hK K
        refine wpMild_nil (fun wb hS => ?_)
        obtain ⟨W5, r5, h5, u5⟩ := hS.1.runS (takeM_length hS.1.ls cs rootsM)
        have v5 := hS.2.trans u5
        have c5 := h5.cheld
        have z5 := h5.thaw 140
        have HQ := Lib.hid (And.intro (h5.setHeld 0) (v5.setCell (p := ⟨g, 140, none⟩) (.int .i64 0) fun _ => rfl))
        clear f68 f68' hS h5 u5 v5
        go_wp2_with fail
        go_roundw
        case rel =>
          have hm64 : 64 ≤ m := by have h1 := HL.out.2; have h2 := HN.out; omega
          have hml : m = R.length - 64 * i := HM.out
          have hcm : m ≤ c' := by have := HC.out.2.2.2.1; omega
          have hsucc : takeM (absorbN rootsM startM R i) cs rootsM = absorbN rootsM startM R (i + 1) := by rw [absorbN_succ, ← HC.out.1]
          have hq1 := HQ.out.1
          rw [hsucc] at hq1
          refine ⟨i + 1, 64 * (i + 1), A2, c' - 64, 0, cs, ?_, by omega, by omega, HQ.out.2, hq1, fun h => ⟨rfl, rfl, b, off, rfl, ?_⟩, fun h => ⟨[], ?_, ?_, by simp, rfl, rfl⟩⟩
          · congr 1; omega
          · rw [HA2.out, if_neg (by omega)]
            congr 2
          · rw [List.drop_of_length_le (by omega)]
          · simp only [List.length_nil]; omega
        case measure => have h3 := HPOS.out; show m - 64 < m; omega
    · obtain rfl : cn = R.length := by omega
      obtain ⟨T, hT1, hT2, hT3, rfl, hT4⟩ := hdone rfl
      have HF : Hid (∃ q T blk, T = R.drop (64 * q) ∧ R.length = 64 * q + T.length ∧ T.length < 64 ∧ blk.take T.length = T ∧ HashAt wr g 1 0 rootsM (absorbN rootsM startM R q) blk T.length R.length) := ⟨i, T, blk, hT1, hT2, hT3, hT4, hh⟩
      have HU := Lib.hid hu
      clear hu hh hmore hdone hT1 hT2 hT3 hT4
      rw [Nat.sub_self]
      go_wp2
      go_ret
      exact ⟨rfl, HU.out, HF.out⟩
end Go.Proofs.Ytjimamgghkgdeaa
