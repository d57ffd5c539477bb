/- sha: take. -/
import Derived.Test.YtjimamgghkgdeaaShaE
namespace Go.Proofs.Ytjimamgghkgdeaa
open Go.RowKit

/-- take's variables: the state, the result, the words -/
structure TakeMem (w W : World) (st L : List Int) : Prop where
  k : Kept w W
  s : Blk W w.heap.size 117 (st.map (Value.int .u32))
  r : Blk W (w.heap.size + 1) 117 (zw8.map (Value.int .u32))
  l : Blk W (w.heap.size + 1 + 1) 116 (rowW L)
section
variable {w W W' : World} {st L : List Int} {x : Int}
theorem TakeMem.new (w : World) (st : List Int) : TakeMem w (((w.alloc (.cells (w32A st) 117)).alloc (.cells (w32A zw8) 117)).alloc (.cells (w32A zw64) 116)) st [] := by
  refine ⟨(((Upd.refl _ w).alloc _).alloc _).alloc _, ?_, ?_, ?_⟩
  · exact ((Blk.new w _ _).alloc _).alloc _
  · have := (Blk.new (w.alloc (.cells (w32A st) 117)) 117 (zw8.map (Value.int .u32))).alloc (.cells (w32A zw64) 116)
    rwa [World.size_alloc] at this
  · have := Blk.new ((w.alloc (.cells (w32A st) 117)).alloc (.cells (w32A zw8) 117)) 116 (zw64.map (Value.int .u32))
    rw [World.size_alloc, World.size_alloc] at this
    rwa [show rowW [] = zw64.map (Value.int .u32) by simp [rowW, zw64]]
theorem TakeMem.kept (h : TakeMem w W st L) (hu : Kept W W') : TakeMem w W' st L := ⟨h.k.trans hu, h.s.kept hu, h.r.kept hu, h.l.kept hu⟩
theorem TakeMem.drew (h : TakeMem w W st L) : TakeMem w W.drew st L := ⟨h.k.drew, h.s, h.r, h.l⟩
theorem TakeMem.set (h : TakeMem w W st (L ++ [x])) (hl : L.length < 64) (y : Int) : TakeMem w (W.setCell ⟨w.heap.size + 1 + 1, L.length, none⟩ (.int .u32 y)) st (L ++ [y]) := by
  refine ⟨h.k.setCell (p := ⟨w.heap.size + 1 + 1, L.length, none⟩) _ fun hlt => absurd (show w.heap.size + 1 + 1 < w.heap.size from hlt) (by omega), h.s.far _ _ (fun e => by have : w.heap.size = w.heap.size + 1 + 1 := e; omega), h.r.far _ _ (fun e => by have : w.heap.size + 1 = w.heap.size + 1 + 1 := e; omega), ?_⟩
  have := h.l.set L.length (.int .u32 y)
  rwa [rowW_set hl] at this
theorem TakeMem.zero (h : TakeMem w W st L) (hl : L.length < 64) : TakeMem w W st (L ++ [0]) := ⟨h.k, h.s, h.r, by rw [← rowW_zero hl]; exact h.l⟩
theorem TakeMem.last (h : TakeMem w W st (L ++ [x])) : W.cell? ⟨w.heap.size + 1 + 1, L.length, none⟩ = some (.int .u32 x) := by
  refine h.l.cell ?_
  rw [rowW_get (by simp)]
  simp
theorem TakeMem.get (h : TakeMem w W st L) {k : Nat} (hk : k < L.length) : W.cell? ⟨w.heap.size + 1 + 1, k, none⟩ = some (.int .u32 L[k]) := h.l.cell (rowW_get hk)
theorem TakeMem.word (h : TakeMem w W st L) {k : Nat} (hk : k < L.length) : W.cell? ⟨w.heap.size + 1 + 1, k, none⟩ = some (.int .u32 (L.getD k 0)) := by
  rw [h.get hk]; simp [hk]
end

theorem eight {st : List Int} (h : st.length = 8) : ∃ s0 s1 s2 s3 s4 s5 s6 s7, st = [s0, s1, s2, s3, s4, s5, s6, s7] := by
  match st, h with
  | [s0, s1, s2, s3, s4, s5, s6, s7], _ => exact ⟨s0, s1, s2, s3, s4, s5, s6, s7, rfl⟩

set_option maxHeartbeats 4000000 in
set_option maxRecDepth 20000 in
theorem sha_take {w : World} {st K : List Int} {blk : Bytes} {gb ob gk ok : Nat} (hs : st.length = 8) (hb : blk.length = 64) (hK : K.length = 64) (hcb : w.rangeAt gb ob (encB blk)) (hck : w.rangeAt gk ok (K.map (Value.int .u32))) :
    Calls Try.prog 65 #[.agg (w32A st), .pointer (some ⟨gb, ob, none⟩), .pointer (some ⟨gk, ok, none⟩)] w fun e w' => e = .returned (.agg (w32A (takeM st blk K))) ∧ Kept w w' := by
  obtain ⟨s0, s1, s2, s3, s4, s5, s6, s7, rfl⟩ := eight hs
  have HM := Lib.hid (TakeMem.new w [s0, s1, s2, s3, s4, s5, s6, s7])
  have HC := Lib.hid (And.intro hs (And.intro hb (And.intro hK (And.intro hcb hck))))
  clear hs hb hK hcb hck
  go_enter Try.func65, Try.ntmps65
  go_wp2_with fail
  generalize ((w.alloc (.cells (w32A [s0, s1, s2, s3, s4, s5, s6, s7]) 117)).alloc (.cells (w32A zw8) 117)).alloc (.cells (w32A zw64) 116) = W3 at *
  go_loopw [26] (fun i wr => ∃ t : Nat, t ≤ 64 ∧ i = .int .i64 t ∧ TakeMem w wr [s0, s1, s2, s3, s4, s5, s6, s7] (schedN blk t)) (fun i _ => 64 - (intOf i).toNat)
  case atStart => exact ⟨0, Nat.zero_le _, rfl, by rw [schedN_zero]; exact HM.out⟩
  case round =>
    obtain ⟨t, ht, rfl, hm⟩ := hrel
    have HT := Lib.hid hm
    clear hm
    by_cases h64 : t < 64
    · by_cases h16 : t < 16
      · have HL : Hid ((schedN blk t).length = t) := schedN_length blk t
        have HN : Hid (schedN blk (t + 1) = schedN blk t ++ [beM ((blk.drop (4 * t)).take 4)]) := by
          show _ = _
          rw [schedN_succ]; simp [nextW, h16]
        have hm0 := HT.out.zero (by rw [HL.out]; exact h64)
        generalize schedN blk t = L at *
        have HZ := Lib.hid hm0
        clear hm0
        have hsl : ∀ W : World, (Instr.sliceAt 118 (.pointer (some ⟨gb, ob, none⟩)) (some (.int .i64 (4 * (t : Int)))) (some (.int .i64 (4 * (t : Int) + 4))) none).run Try.prog W = .ok (.slice (some ⟨gb, ob + 4 * t, none⟩) 4 (64 - 4 * t)) W := fun W => by
          have := slice_b64 W gb ob (4 * t) (4 * t + 4) (4 * (t : Int)) (4 * (t : Int) + 4) (by omega) (by omega) (by omega) (by omega) (by omega)
          rwa [show 4 * t + 4 - 4 * t = 4 by omega] at this
        go_wp2_with fail
        go_loopw [40] (fun i wr2 => ∃ j : Nat, j ≤ 4 ∧ i = .int .i64 j ∧ TakeMem w wr2 [s0, s1, s2, s3, s4, s5, s6, s7] (L ++ [beM ((blk.drop (4 * t)).take j)])) (fun i _ => 4 - (intOf i).toNat)
        case atStart => exact ⟨0, Nat.zero_le _, rfl, HZ.out⟩
        case round =>
          obtain ⟨j, hj, rfl, hm⟩ := hrel
          by_cases hj4 : j < 4
          · have hb := HC.out.2.1
            have hcb := HC.out.2.2.2.1
            have hkb : 4 * t + j < blk.length := by omega
            have hc : wr.cell? ⟨gb, ob + 4 * t + j, none⟩ = some (.int .u8 (blk[4 * t + j].toNat : Int)) := by
              have := byte_at (range_kept hcb hm.k) hkb
              rwa [← Nat.add_assoc] at this
            have hl := hm.last
            have hz := hm.l.thaw L.length
            have HS : Hid (beM ((blk.drop (4 * t)).take (j + 1)) = bits .or .u32 (beM ((blk.drop (4 * t)).take j) * 256 % 4294967296) ((blk[4 * t + j].toNat : Int) % 4294967296)) := by
              show _ = _
              rw [← beM_snoc, List.take_succ_eq_append_getElem (by simp; omega)]
              simp
            rw [HL.out] at hl hz
            have HT2 := Lib.hid hm
            clear hm
            generalize beM ((blk.drop (4 * t)).take j) = x at *
            generalize blk[4 * t + j] = c at *
            clear hb hcb hkb
            go_wp2_with fail
            go_roundw
            case rel =>
              refine ⟨j + 1, by omega, by go_num, ?_⟩
              have := HT2.out.set (by rw [HL.out]; exact h64) (bits .or .u32 (x * 256 % 4294967296) ((c.toNat : Int) % 4294967296))
              rw [HL.out] at this
              rw [HS.out]
              exact this
            case measure => simp [intOf]; omega
          · obtain rfl : j = 4 := by omega
            have HT2 := Lib.hid hm
            clear hm
            go_wp2_with fail
            go_roundw
            case rel => exact ⟨t + 1, by omega, by go_num, by rw [← HN.out] at HT2; exact HT2.out⟩
            case measure => simp [intOf]; omega
      · have HL : Hid ((schedN blk t).length = t) := schedN_length blk t
        have HN : Hid (schedN blk (t + 1) = schedN blk t ++ [mixW ((schedN blk t).getD (t - 16) 0) ((schedN blk t).getD (t - 15) 0) ((schedN blk t).getD (t - 7) 0) ((schedN blk t).getD (t - 2) 0)]) := by
          show _ = _
          rw [schedN_succ]; simp [nextW, h16]
        have c15 : ∀ W, TakeMem w W [s0, s1, s2, s3, s4, s5, s6, s7] (schedN blk t) → W.cell? ⟨w.heap.size + 1 + 1, t - 15, none⟩ = some (.int .u32 ((schedN blk t).getD (t - 15) 0)) := fun W hW => hW.word (k := t - 15) (by rw [HL.out]; omega)
        have c2 : ∀ W, TakeMem w W [s0, s1, s2, s3, s4, s5, s6, s7] (schedN blk t) → W.cell? ⟨w.heap.size + 1 + 1, t - 2, none⟩ = some (.int .u32 ((schedN blk t).getD (t - 2) 0)) := fun W hW => hW.word (k := t - 2) (by rw [HL.out]; omega)
        have c16 : ∀ W, TakeMem w W [s0, s1, s2, s3, s4, s5, s6, s7] (schedN blk t) → W.cell? ⟨w.heap.size + 1 + 1, t - 16, none⟩ = some (.int .u32 ((schedN blk t).getD (t - 16) 0)) := fun W hW => hW.word (k := t - 16) (by rw [HL.out]; omega)
        have c7 : ∀ W, TakeMem w W [s0, s1, s2, s3, s4, s5, s6, s7] (schedN blk t) → W.cell? ⟨w.heap.size + 1 + 1, t - 7, none⟩ = some (.int .u32 ((schedN blk t).getD (t - 7) 0)) := fun W hW => hW.word (k := t - 7) (by rw [HL.out]; omega)
        generalize schedN blk t = L at *
        generalize L.getD (t - 15) 0 = x15 at *
        generalize L.getD (t - 2) 0 = x2 at *
        generalize L.getD (t - 16) 0 = x16 at *
        generalize L.getD (t - 7) 0 = x7 at *
        have w15 : IntKind.i64.wrap ((t : Int) - 15) = ((t - 15 : Nat) : Int) := by rw [IntKind.wrap_i64]; omega
        have w2 : IntKind.i64.wrap ((t : Int) - 2) = ((t - 2 : Nat) : Int) := by rw [IntKind.wrap_i64]; omega
        have w16 : IntKind.i64.wrap ((t : Int) - 16) = ((t - 16 : Nat) : Int) := by rw [IntKind.wrap_i64]; omega
        have w7 : IntKind.i64.wrap ((t : Int) - 7) = ((t - 7 : Nat) : Int) := by rw [IntKind.wrap_i64]; omega
        have l15 : ((t - 15 : Nat) : Int) < 64 := by omega
        have l2 : ((t - 2 : Nat) : Int) < 64 := by omega
        have l16 : ((t - 16 : Nat) : Int) < 64 := by omega
        have l7 : ((t - 7 : Nat) : Int) < 64 := by omega
        go_wp2_with fail
        refine wp_region_mild_all (by kernel_rfl) (by kernel_rfl) (fun W => TakeMem w W [s0, s1, s2, s3, s4, s5, s6, s7] L) HT.out.drew ?_
        iterate 10 (refine wpMild_step (fun K hK => ?_); go_simp; apply Exists.intro; refine ⟨fun W hW => ?_, hK _ ?_⟩; (go_simp; first | done | exact rfl | exact ⟨rfl, hW⟩); clear hK K)
        refine wpMild_nil (fun wb hS => ?_)
        clear HT
        go_wp2_with fail
        refine wp_region_mild 28 (by kernel_rfl) (by kernel_rfl) (fun W => TakeMem w W [s0, s1, s2, s3, s4, s5, s6, s7] L) hS.drew ?_
        simp only [List.take_succ_cons, List.take_zero, List.drop_succ_cons, List.drop_zero]
        iterate 6 (refine wpMild_step (fun K hK => ?_); go_simp; apply Exists.intro; refine ⟨fun W hW => ?_, hK _ ?_⟩; (go_simp; first | done | exact rfl | exact ⟨rfl, hW⟩); clear hK K)
        refine wpMild_step (fun K hK => ?_)
        go_simp
        apply Exists.intro
        refine ⟨fun W hW => ?_, hK _ ?_⟩
        · go_simp
          refine (sha_ror _ 7 (by simp) _).mono ?_
          rintro e w' ⟨rfl, rfl⟩
          exact ⟨rfl, hW⟩
        clear hK K
        iterate 1 (refine wpMild_step (fun K hK => ?_); go_simp; apply Exists.intro; refine ⟨fun W hW => ?_, hK _ ?_⟩; (go_simp; first | done | exact rfl | exact ⟨rfl, hW⟩); clear hK K)
        refine wpMild_step (fun K hK => ?_)
        go_simp
        apply Exists.intro
        refine ⟨fun W hW => ?_, hK _ ?_⟩
        · go_simp
          refine (sha_ror _ 18 (by simp) _).mono ?_
          rintro e w' ⟨rfl, rfl⟩
          exact ⟨rfl, hW⟩
        clear hK K
        iterate 11 (refine wpMild_step (fun K hK => ?_); go_simp; apply Exists.intro; refine ⟨fun W hW => ?_, hK _ ?_⟩; (go_simp; first | done | exact rfl | exact ⟨rfl, hW⟩); clear hK K)
        refine wpMild_step (fun K hK => ?_)
        go_simp
        apply Exists.intro
        refine ⟨fun W hW => ?_, hK _ ?_⟩
        · go_simp
          refine (sha_ror _ 17 (by simp) _).mono ?_
          rintro e w' ⟨rfl, rfl⟩
          exact ⟨rfl, hW⟩
        clear hK K
        iterate 1 (refine wpMild_step (fun K hK => ?_); go_simp; apply Exists.intro; refine ⟨fun W hW => ?_, hK _ ?_⟩; (go_simp; first | done | exact rfl | exact ⟨rfl, hW⟩); clear hK K)
        refine wpMild_step (fun K hK => ?_)
        go_simp
        apply Exists.intro
        refine ⟨fun W hW => ?_, hK _ ?_⟩
        · go_simp
          refine (sha_ror _ 19 (by simp) _).mono ?_
          rintro e w' ⟨rfl, rfl⟩
          exact ⟨rfl, hW⟩
        clear hK K
        iterate 5 (refine wpMild_step (fun K hK => ?_); go_simp; apply Exists.intro; refine ⟨fun W hW => ?_, hK _ ?_⟩; (go_simp; first | done | exact rfl | exact ⟨rfl, hW⟩); clear hK K)
        refine wpMild_nil (fun wc hS => ?_)
        have hl := (hS.zero (by rw [HL.out]; exact h64)).last
        have hz := hS.l.thaw L.length
        rw [HL.out] at hl hz
        have HT2 := Lib.hid (hS.zero (by rw [HL.out]; exact h64))
        clear hS c15 c2 c16 c7 w15 w2 w16 w7 l15 l2 l16 l7
        go_wp2_with fail
        go_roundw
        case rel =>
          refine ⟨t + 1, by omega, by go_num, ?_⟩
          have := HT2.out.set (by rw [HL.out]; exact h64) (mixW x16 x15 x7 x2)
          rw [HL.out] at this
          rw [HN.out]
          exact this
        case measure => simp [intOf]; omega
    · obtain rfl : t = 64 := by omega
      have HL : Hid ((schedN blk 64).length = 64) := schedN_length blk 64
      have q0 : ∀ W, TakeMem w W [s0, s1, s2, s3, s4, s5, s6, s7] (schedN blk 64) → W.cell? ⟨w.heap.size, 0, none⟩ = some (.int .u32 s0) := fun W hW => hW.s.cell rfl
      have q1 : ∀ W, TakeMem w W [s0, s1, s2, s3, s4, s5, s6, s7] (schedN blk 64) → W.cell? ⟨w.heap.size, 1, none⟩ = some (.int .u32 s1) := fun W hW => hW.s.cell rfl
      have q2 : ∀ W, TakeMem w W [s0, s1, s2, s3, s4, s5, s6, s7] (schedN blk 64) → W.cell? ⟨w.heap.size, 2, none⟩ = some (.int .u32 s2) := fun W hW => hW.s.cell rfl
      have q3 : ∀ W, TakeMem w W [s0, s1, s2, s3, s4, s5, s6, s7] (schedN blk 64) → W.cell? ⟨w.heap.size, 3, none⟩ = some (.int .u32 s3) := fun W hW => hW.s.cell rfl
      have q4 : ∀ W, TakeMem w W [s0, s1, s2, s3, s4, s5, s6, s7] (schedN blk 64) → W.cell? ⟨w.heap.size, 4, none⟩ = some (.int .u32 s4) := fun W hW => hW.s.cell rfl
      have q5 : ∀ W, TakeMem w W [s0, s1, s2, s3, s4, s5, s6, s7] (schedN blk 64) → W.cell? ⟨w.heap.size, 5, none⟩ = some (.int .u32 s5) := fun W hW => hW.s.cell rfl
      have q6 : ∀ W, TakeMem w W [s0, s1, s2, s3, s4, s5, s6, s7] (schedN blk 64) → W.cell? ⟨w.heap.size, 6, none⟩ = some (.int .u32 s6) := fun W hW => hW.s.cell rfl
      have q7 : ∀ W, TakeMem w W [s0, s1, s2, s3, s4, s5, s6, s7] (schedN blk 64) → W.cell? ⟨w.heap.size, 7, none⟩ = some (.int .u32 s7) := fun W hW => hW.s.cell rfl
      generalize hLL : schedN blk 64 = L at *
      have HLL := Lib.hid hLL
      clear hLL
      go_wp2_with fail
      refine wp_region_mild_all (by kernel_rfl) (by kernel_rfl) (fun W => TakeMem w W [s0, s1, s2, s3, s4, s5, s6, s7] L) HT.out.drew ?_
      iterate 24 (refine wpMild_step (fun K hK => ?_); go_simp; apply Exists.intro; refine ⟨fun W hW => ?_, hK _ ?_⟩; (go_simp; first | done | exact rfl | exact ⟨rfl, hW⟩); clear hK K)
      refine wpMild_nil (fun wb hS => ?_)
      clear HT q0 q1 q2 q3 q4 q5 q6 q7
      have HT := Lib.hid hS
      clear hS
      go_wp2_with fail
      go_loopw [108, 13, 14, 15, 16, 17, 18, 19, 20] (fun i a b c d e f g h wr => ∃ (t : Nat) (s : St8), t ≤ 64 ∧ i = .int .i64 t ∧ a = .int .u32 s.a ∧ b = .int .u32 s.b ∧ c = .int .u32 s.c ∧ d = .int .u32 s.d ∧ e = .int .u32 s.e ∧ f = .int .u32 s.f ∧ g = .int .u32 s.g ∧ h = .int .u32 s.h ∧ s = St8.rounds K L t ⟨s0, s1, s2, s3, s4, s5, s6, s7⟩ ∧ TakeMem w wr [s0, s1, s2, s3, s4, s5, s6, s7] L) (fun i _ _ _ _ _ _ _ _ _ => 64 - (intOf i).toNat)
      case atStart => exact ⟨0, ⟨s0, s1, s2, s3, s4, s5, s6, s7⟩, Nat.zero_le _, rfl, rfl, rfl, rfl, rfl, rfl, rfl, rfl, rfl, (rounds_zero _ _ _).symm, HT.out⟩
      case round =>
        obtain ⟨t, s, ht, rfl, rfl, rfl, rfl, rfl, rfl, rfl, rfl, rfl, hs, hm⟩ := hrel
        by_cases h64 : t < 64
        · have HS : Hid (St8.rounds K L (t + 1) ⟨s0, s1, s2, s3, s4, s5, s6, s7⟩ = s.rnd (K.getD t 0) (L.getD t 0)) := by show _ = _; rw [rounds_succ, ← hs]
          have ck : ∀ W, TakeMem w W [s0, s1, s2, s3, s4, s5, s6, s7] L → W.cell? ⟨gk, ok + t, none⟩ = some (.int .u32 (K.getD t 0)) := fun W hW => by
            have := word_at (range_kept HC.out.2.2.2.2 hW.k) (k := t) (by rw [HC.out.2.2.1]; exact h64)
            rw [this]; simp [HC.out.2.2.1, h64]
          have cw : ∀ W, TakeMem w W [s0, s1, s2, s3, s4, s5, s6, s7] L → W.cell? ⟨w.heap.size + 1 + 1, t, none⟩ = some (.int .u32 (L.getD t 0)) := fun W hW => hW.word (by rw [HL.out]; exact h64)
          generalize K.getD t 0 = kt at *
          generalize L.getD t 0 = wt at *
          have HT := Lib.hid hm
          clear hm hs
          go_wp2_with fail
          refine wp_region_mild 29 (by kernel_rfl) (by kernel_rfl) (fun W => TakeMem w W [s0, s1, s2, s3, s4, s5, s6, s7] L) HT.out.drew ?_
          simp only [List.take_succ_cons, List.take_zero, List.drop_succ_cons, List.drop_zero]
          iterate 2 (refine wpMild_step (fun K hK => ?_); go_simp; apply Exists.intro; refine ⟨fun W hW => ?_, hK _ ?_⟩; (go_simp; first | done | exact rfl | exact ⟨rfl, hW⟩); clear hK K)
          refine wpMild_step (fun K hK => ?_)
          go_simp
          apply Exists.intro
          refine ⟨fun W hW => ?_, hK _ ?_⟩
          · go_simp
            refine (sha_ror _ 6 (by simp) _).mono ?_
            rintro e w' ⟨rfl, rfl⟩
            exact ⟨rfl, hW⟩
          clear hK K
          iterate 1 (refine wpMild_step (fun K hK => ?_); go_simp; apply Exists.intro; refine ⟨fun W hW => ?_, hK _ ?_⟩; (go_simp; first | done | exact rfl | exact ⟨rfl, hW⟩); clear hK K)
          refine wpMild_step (fun K hK => ?_)
          go_simp
          apply Exists.intro
          refine ⟨fun W hW => ?_, hK _ ?_⟩
          · go_simp
            refine (sha_ror _ 11 (by simp) _).mono ?_
            rintro e w' ⟨rfl, rfl⟩
            exact ⟨rfl, hW⟩
          clear hK K
          iterate 2 (refine wpMild_step (fun K hK => ?_); go_simp; apply Exists.intro; refine ⟨fun W hW => ?_, hK _ ?_⟩; (go_simp; first | done | exact rfl | exact ⟨rfl, hW⟩); clear hK K)
          refine wpMild_step (fun K hK => ?_)
          go_simp
          apply Exists.intro
          refine ⟨fun W hW => ?_, hK _ ?_⟩
          · go_simp
            refine (sha_ror _ 25 (by simp) _).mono ?_
            rintro e w' ⟨rfl, rfl⟩
            exact ⟨rfl, hW⟩
          clear hK K
          iterate 21 (refine wpMild_step (fun K hK => ?_); go_simp; apply Exists.intro; refine ⟨fun W hW => ?_, hK _ ?_⟩; (go_simp; first | done | exact rfl | exact ⟨rfl, hW⟩); clear hK K)
          refine wpMild_nil (fun wc hS => ?_)
          clear ck cw HT
          have HT := Lib.hid hS
          clear hS
          go_wp2_with fail
          refine (sha_ror _ 2 (by simp) _).mono ?_
          rintro e w' ⟨rfl, rfl⟩
          go_wp2_with fail
          refine (sha_ror _ 13 (by simp) _).mono ?_
          rintro e w' ⟨rfl, rfl⟩
          go_wp2_with fail
          refine (sha_ror _ 22 (by simp) _).mono ?_
          rintro e w' ⟨rfl, rfl⟩
          go_wp2_with fail
          go_roundw
          case rel => exact ⟨t + 1, s.rnd kt wt, by omega, by go_num, rfl, rfl, rfl, rfl, rfl, rfl, rfl, rfl, by rw [HS.out], HT.out⟩
          case measure => simp [intOf]; omega
        · obtain rfl : t = 64 := by omega
          have HF : Hid (s = St8.rounds K L 64 ⟨s0, s1, s2, s3, s4, s5, s6, s7⟩) := hs
          have HT := Lib.hid hm
          clear hs hm
          go_wp2_with fail
          go_loopw [182] (fun i wr => ∃ k : Nat, k ≤ 8 ∧ i = .int .i64 k ∧ Kept w wr ∧ Blk wr w.heap.size 117 ((addTo [s0, s1, s2, s3, s4, s5, s6, s7] s.list k).map (Value.int .u32)) ∧ Blk wr (w.heap.size + 1) 117 (zw8.map (Value.int .u32))) (fun i _ => 8 - (intOf i).toNat)
          case atStart => exact ⟨0, Nat.zero_le _, rfl, HT.out.k, by rw [addTo_zero]; exact HT.out.s, HT.out.r⟩
          case round =>
            obtain ⟨k, hk, rfl, hu, hb, hb1⟩ := hrel
            rcases Nat.lt_or_ge k 8 with h8 | h8
            · have hix := fun W => run_index_w8 s.list rfl k h8 W
              have hc := hb.cell (k := k) (v := .int .u32 ([s0, s1, s2, s3, s4, s5, s6, s7].getD k 0)) (by rw [List.getElem?_map, addTo_get (n := 8) rfl rfl h8]; rfl)
              have hz := hb.thaw k
              have HS : Hid ((addTo [s0, s1, s2, s3, s4, s5, s6, s7] s.list k).set k (([s0, s1, s2, s3, s4, s5, s6, s7].getD k 0 + [s.a, s.b, s.c, s.d, s.e, s.f, s.g, s.h].getD k 0) % 4294967296) = addTo [s0, s1, s2, s3, s4, s5, s6, s7] s.list (k + 1)) := addTo_set (n := 8) rfl rfl h8
              have HB := Lib.hid (And.intro hu (And.intro hb hb1))
              have h8' : (k : Int) < 8 := by omega
              clear hu hb hb1
              rw [show St8.list s = [s.a, s.b, s.c, s.d, s.e, s.f, s.g, s.h] from rfl] at hix
              generalize [s0, s1, s2, s3, s4, s5, s6, s7].getD k 0 = x at *
              generalize [s.a, s.b, s.c, s.d, s.e, s.f, s.g, s.h].getD k 0 = y at *
              go_wp2_with fail
              go_roundw
              case rel =>
                obtain ⟨hu, hb, hb1⟩ := HB.out
                refine ⟨k + 1, by omega, by go_num, hu.setCell (p := ⟨w.heap.size, k, none⟩) _ (fun h => absurd h (Nat.lt_irrefl _)), ?_, hb1.far _ _ (fun e => by have : w.heap.size + 1 = w.heap.size := e; omega)⟩
                have := hb.set k (.int .u32 ((x + y) % 4294967296))
                rwa [← List.map_set, HS.out] at this
              case measure => simp [intOf]; omega
            · obtain rfl : k = 8 := by omega
              rw [addTo_all (n := 8) rfl rfl] at hb
              have HR : Hid (takeM [s0, s1, s2, s3, s4, s5, s6, s7] blk K = addM [s0, s1, s2, s3, s4, s5, s6, s7] s.list) := by
                show _ = _
                rw [takeM_eight, HLL.out, ← HF.out]
              have hl : (addM [s0, s1, s2, s3, s4, s5, s6, s7] s.list).length = 8 := addM_length rfl rfl
              generalize addM [s0, s1, s2, s3, s4, s5, s6, s7] s.list = R at *
              have hsg := hb.seg 0 8 (R.map (Value.int .u32)) (by simpa using hl) (fun j _ => by rw [Nat.zero_add])
              have hrb : rowB wr (w.heap.size + 1) 8 = true := rowB_of (show wr.heap[w.heap.size + 1]? = some (.cells (zw8.map (Value.int .u32)).toArray 117 (0, 0)) from hb1) (by simp [zw8])
              have hb2 : Blk (wr.setRow (w.heap.size + 1) (w32A R)) (w.heap.size + 1) 117 (R.map (Value.int .u32)) := hb1.setRow _
              have hs2 := hb2.seg 0 8 (R.map (Value.int .u32)) (by simpa using hl) (fun j _ => by rw [Nat.zero_add])
              have HK : Hid (Kept w (wr.setRow (w.heap.size + 1) (w32A R))) := Lib.hid (Upd.setRow hu _ _ (fun h => absurd h (by omega)))
              have hsz : (w32A R).size = 8 := by rw [w32A_size]; exact hl
              obtain ⟨r1, r2⟩ := hsg
              obtain ⟨r3, r4⟩ := hs2
              change segV wr ⟨w.heap.size, 0, none⟩ 8 = w32A R at r2
              change segV (wr.setRow (w.heap.size + 1) (w32A R)) ⟨w.heap.size + 1, 0, none⟩ 8 = w32A R at r4
              have HG := Lib.hid (And.intro r3 r4)
              clear hb hb1 hu hb2 hl r3 r4
              go_wp2
              refine bodyPost_ret (v := .agg (w32A R)) ?_ rfl ⟨by rw [HR.out], HK.out⟩
              rw [results_seg (P := Try.prog) (fn := Try.f65) rfl _ _ ⟨w.heap.size + 1, 0, none⟩ 8 _ rfl Try.underlying117 rfl sizeOf117 HG.out.1, HG.out.2]
end Go.Proofs.Ytjimamgghkgdeaa
