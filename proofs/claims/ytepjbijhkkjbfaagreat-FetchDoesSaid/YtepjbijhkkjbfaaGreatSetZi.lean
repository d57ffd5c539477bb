import Derived.Test.YtepjbijhkkjbfaaGreatSetZg
set_option linter.unusedVariables false
set_option linter.unusedSimpArgs false
namespace Go.Proofs.YtepjbijhkkjbfaaGreat
open Go.RowKit
attribute [local irreducible] wpOrd
theorem startM_eq : startM = [1779033703, 3144134277, 1013904242, 2773480762, 1359893119, 2600822924, 528734635, 1541459225] := by decide +kernel
def rootsL : List Int := [1116352408, 1899447441, 3049323471, 3921009573, 961987163, 1508970993, 2453635748, 2870763221, 3624381080, 310598401, 607225278, 1426881987, 1925078388, 2162078206, 2614888103, 3248222580, 3835390401, 4022224774, 264347078, 604807628, 770255983, 1249150122, 1555081692, 1996064986, 2554220882, 2821834349, 2952996808, 3210313671, 3336571891, 3584528711, 113926993, 338241895, 666307205, 773529912, 1294757372, 1396182291, 1695183700, 1986661051, 2177026350, 2456956037, 2730485921, 2820302411, 3259730800, 3345764771, 3516065817, 3600352804, 4094571909, 275423344, 430227734, 506948616, 659060556, 883997877, 958139571, 1322822218, 1537002063, 1747873779, 1955562222, 2024104815, 2227730452, 2361852424, 2428436474, 2756734187, 3204031479, 3329325298]
theorem rootsM_eq : rootsM = rootsL := by decide +kernel
set_option maxRecDepth 20000 in
theorem ref_First (w : World) : Calls Tryz.prog 85 #[] w fun e w' => e = .returned (.agg (w32A startM)) ∧ Kept w w' := by
  rw [startM_eq]; have hk : Kept w (w.alloc (.cells (w32A [1779033703, 3144134277, 1013904242, 2773480762, 1359893119, 2600822924, 528734635, 1541459225]) 153)) := (Upd.refl _ w).alloc _; have s1 : segB (w.alloc (.cells (w32A [1779033703, 3144134277, 1013904242, 2773480762, 1359893119, 2600822924, 528734635, 1541459225]) 153)) ⟨w.heap.size, 0, none⟩ 8 = true := segB_new _ _ _ _ _ rfl (by simp); have s2 : segV (w.alloc (.cells (w32A [1779033703, 3144134277, 1013904242, 2773480762, 1359893119, 2600822924, 528734635, 1541459225]) 153)) ⟨w.heap.size, 0, none⟩ 8 = w32A [1779033703, 3144134277, 1013904242, 2773480762, 1359893119, 2600822924, 528734635, 1541459225] := segV_new _ _ _ _ _ rfl (by simp); have HS := Lib.hid (And.intro hk (And.intro s1 s2)); clear hk s1 s2
  go_enter Tryz.func85, Tryz.ntmps85
  go_wp2; obtain ⟨hk, s1, s2⟩ := HS.out; refine bodyPost_ret (v := .agg (w32A [1779033703, 3144134277, 1013904242, 2773480762, 1359893119, 2600822924, 528734635, 1541459225])) ?_ rfl ⟨rfl, hk⟩; rw [results_seg (P := Tryz.prog) (fn := Tryz.f85) rfl _ _ ⟨w.heap.size, 0, none⟩ 8 _ rfl Tryz.underlying153 rfl sizeOf153 s1, s2]
@[go_sem ↓] theorem exec_build_w64 (ρ : Operand → Value) (dst : Option Tmp) (parts : Array (Nat × Operand)) (ty : TypeId) (pos : String) (after : Array Edge) (guard : Option (Nat × Bool)) :
    execOp ρ ⟨dst, .build 152 parts, ty, pos, after, guard⟩ = buildRow 152 (parts.map fun (i, x) => (i, ρ x)) := rfl
theorem rootsL_length : rootsL.length = 64 := rfl
set_option maxRecDepth 20000 in
@[go_sem] theorem run_build_w64 (W : World) : (buildRow 152 #[(0, .int .u32 1116352408), (1, .int .u32 1899447441), (2, .int .u32 3049323471), (3, .int .u32 3921009573), (4, .int .u32 961987163), (5, .int .u32 1508970993), (6, .int .u32 2453635748), (7, .int .u32 2870763221), (8, .int .u32 3624381080), (9, .int .u32 310598401), (10, .int .u32 607225278), (11, .int .u32 1426881987), (12, .int .u32 1925078388), (13, .int .u32 2162078206), (14, .int .u32 2614888103), (15, .int .u32 3248222580), (16, .int .u32 3835390401), (17, .int .u32 4022224774), (18, .int .u32 264347078), (19, .int .u32 604807628), (20, .int .u32 770255983), (21, .int .u32 1249150122), (22, .int .u32 1555081692), (23, .int .u32 1996064986), (24, .int .u32 2554220882), (25, .int .u32 2821834349), (26, .int .u32 2952996808), (27, .int .u32 3210313671), (28, .int .u32 3336571891), (29, .int .u32 3584528711), (30, .int .u32 113926993), (31, .int .u32 338241895), (32, .int .u32 666307205), (33, .int .u32 773529912), (34, .int .u32 1294757372), (35, .int .u32 1396182291), (36, .int .u32 1695183700), (37, .int .u32 1986661051), (38, .int .u32 2177026350), (39, .int .u32 2456956037), (40, .int .u32 2730485921), (41, .int .u32 2820302411), (42, .int .u32 3259730800), (43, .int .u32 3345764771), (44, .int .u32 3516065817), (45, .int .u32 3600352804), (46, .int .u32 4094571909), (47, .int .u32 275423344), (48, .int .u32 430227734), (49, .int .u32 506948616), (50, .int .u32 659060556), (51, .int .u32 883997877), (52, .int .u32 958139571), (53, .int .u32 1322822218), (54, .int .u32 1537002063), (55, .int .u32 1747873779), (56, .int .u32 1955562222), (57, .int .u32 2024104815), (58, .int .u32 2227730452), (59, .int .u32 2361852424), (60, .int .u32 2428436474), (61, .int .u32 2756734187), (62, .int .u32 3204031479), (63, .int .u32 3329325298)]).run Tryz.prog W = .ok (.value (.agg (w32A rootsL))) W := by
  have H := run_build (P := Tryz.prog) W 152 #[(0, .int .u32 1116352408), (1, .int .u32 1899447441), (2, .int .u32 3049323471), (3, .int .u32 3921009573), (4, .int .u32 961987163), (5, .int .u32 1508970993), (6, .int .u32 2453635748), (7, .int .u32 2870763221), (8, .int .u32 3624381080), (9, .int .u32 310598401), (10, .int .u32 607225278), (11, .int .u32 1426881987), (12, .int .u32 1925078388), (13, .int .u32 2162078206), (14, .int .u32 2614888103), (15, .int .u32 3248222580), (16, .int .u32 3835390401), (17, .int .u32 4022224774), (18, .int .u32 264347078), (19, .int .u32 604807628), (20, .int .u32 770255983), (21, .int .u32 1249150122), (22, .int .u32 1555081692), (23, .int .u32 1996064986), (24, .int .u32 2554220882), (25, .int .u32 2821834349), (26, .int .u32 2952996808), (27, .int .u32 3210313671), (28, .int .u32 3336571891), (29, .int .u32 3584528711), (30, .int .u32 113926993), (31, .int .u32 338241895), (32, .int .u32 666307205), (33, .int .u32 773529912), (34, .int .u32 1294757372), (35, .int .u32 1396182291), (36, .int .u32 1695183700), (37, .int .u32 1986661051), (38, .int .u32 2177026350), (39, .int .u32 2456956037), (40, .int .u32 2730485921), (41, .int .u32 2820302411), (42, .int .u32 3259730800), (43, .int .u32 3345764771), (44, .int .u32 3516065817), (45, .int .u32 3600352804), (46, .int .u32 4094571909), (47, .int .u32 275423344), (48, .int .u32 430227734), (49, .int .u32 506948616), (50, .int .u32 659060556), (51, .int .u32 883997877), (52, .int .u32 958139571), (53, .int .u32 1322822218), (54, .int .u32 1537002063), (55, .int .u32 1747873779), (56, .int .u32 1955562222), (57, .int .u32 2024104815), (58, .int .u32 2227730452), (59, .int .u32 2361852424), (60, .int .u32 2428436474), (61, .int .u32 2756734187), (62, .int .u32 3204031479), (63, .int .u32 3329325298)] (w32A rootsL) (by unfold w32A; kernel_rfl); simp only [buildRow, Sem.run_bind, H, Result.andThen_ok, Sem.run_pure]
attribute [local irreducible] rootsL
set_option maxRecDepth 20000 in
theorem ref_Roots (w : World) : Calls Tryz.prog 95 #[] w fun e w' => e = .returned (.agg (w32A rootsM)) ∧ Kept w w' := by
  rw [rootsM_eq]; have hl := rootsL_length; have hk : Kept w (w.alloc (.cells (w32A rootsL) 152)) := (Upd.refl _ w).alloc _; have s1 : segB (w.alloc (.cells (w32A rootsL) 152)) ⟨w.heap.size, 0, none⟩ 64 = true := segB_new _ _ _ _ _ rfl (by simp [hl]); have s2 : segV (w.alloc (.cells (w32A rootsL) 152)) ⟨w.heap.size, 0, none⟩ 64 = w32A rootsL := segV_new _ _ _ _ _ rfl (by simp [hl]); have HS := Lib.hid (And.intro hk (And.intro s1 s2)); clear hk s1 s2
  go_enter Tryz.func95, Tryz.ntmps95
  go_wp2; obtain ⟨hk, s1, s2⟩ := HS.out; refine bodyPost_ret (v := .agg (w32A rootsL)) ?_ rfl ⟨rfl, hk⟩; rw [results_seg (P := Tryz.prog) (fn := Tryz.f95) rfl _ _ ⟨w.heap.size, 0, none⟩ 64 _ rfl Tryz.underlying152 rfl sizeOf152 s1, s2]
end Go.Proofs.YtepjbijhkkjbfaaGreat
namespace Go.Proofs.YtepjbijhkkjbfaaGreat
open Go.RowKit
attribute [local irreducible] wpOrd
theorem bits_or_comm (k : IntKind) (a b : Int) : bits .or k a b = bits .or k b a := by
  unfold bits; simp [BitVec.or_comm]
theorem ref_ror (x : Int) (n : Nat) (hn : n ∈ [2, 6, 7, 11, 13, 17, 18, 19, 22, 25]) (w : World) : Calls Tryz.prog 97 #[.int .u32 x, .int .i64 n] w fun e w' => e = .returned (.int .u32 (rorM x n)) ∧ Kept w w' := by
  have h : IntKind.i64.wrap (32 - (n : Int)) = ((32 - n : Nat) : Int) ∧ min n 32 = n ∧ min (32 - n) 32 = 32 - n ∧ n ≤ 32 := by
    simp only [List.mem_cons, List.mem_nil_iff, or_false] at hn; rcases hn with rfl | rfl | rfl | rfl | rfl | rfl | rfl | rfl | rfl | rfl <;> exact ⟨by decide, by decide, by decide, by decide⟩
  obtain ⟨h1, h2, h3, h4⟩ := h; have H4 := Lib.hid h4; clear hn h4; unfold rorM; rw [bits_or_comm]; have hu : Kept w w.drew := (Upd.refl _ w).drew
  go_enter Tryz.func97, Tryz.ntmps97
  go_wp2_with fail; refine wp_region_ord [(0, true), (1, true), (2, true), (3, true), (4, true), (5, true), (6, true), (7, true), (8, true)] (by kernel_rfl) (by kernel_rfl) (Kept w) hu ?_; simp only [ordOps, List.getD_cons_zero, List.getD_cons_succ]
  iterate 9 (refine wpOrd_held (fun K hK => ?_); go_simp; first | (apply Exists.intro; refine ⟨fun W hW => ?_, hK _ ?_⟩; (go_simp; first | done | exact rfl); clear hK K) | (refine hK _ ?_; clear hK K))
  refine wpOrd_nil ?_; go_wp2
  go_ret
  exact ⟨rfl, hu⟩
theorem bits_or_u32_nat (a b : Nat) (ha : a < 4294967296) (hb : b < 4294967296) :
    bits .or .u32 (a : Int) (b : Int) = ((a ||| b : Nat) : Int) := by
  have hx : a ||| b < 2 ^ 32 := Nat.or_lt_two_pow (by omega) (by omega)
  have h1 : (BitVec.ofInt 32 (a : Int)).toNat = a := by
    rw [BitVec.ofInt_natCast, BitVec.toNat_ofNat]; exact Nat.mod_eq_of_lt (by omega)
  have h2 : (BitVec.ofInt 32 (b : Int)).toNat = b := by
    rw [BitVec.ofInt_natCast, BitVec.toNat_ofNat]; exact Nat.mod_eq_of_lt (by omega)
  show IntKind.u32.wrap ((BitVec.ofInt 32 (a : Int) ||| BitVec.ofInt 32 (b : Int)).toNat : Int) = _; rw [BitVec.toNat_or, h1, h2, IntKind.wrap_u32]; omega
theorem be4 (c0 c1 c2 c3 : UInt8) : beM [c0, c1, c2, c3] = ((c0.toNat : Int) % 4294967296 * 16777216 + (c1.toNat : Int) % 4294967296 * 65536 + (c2.toNat : Int) % 4294967296 * 256 + (c3.toNat : Int)) % 4294967296 := by
  have lt : ∀ c : UInt8, c.toNat < 256 := fun c => UInt8.toNat_lt c; have step : ∀ (x : Nat) (c : UInt8), x < 16777216 → bits .or .u32 ((x : Int) * 256 % 4294967296) ((c.toNat : Int) % 4294967296) = ((x * 256 + c.toNat : Nat) : Int) := fun x c hx => by
    have hc := lt c; have e1 : (x : Int) * 256 % 4294967296 = ((x * 256 : Nat) : Int) := by omega
    have e2 : (c.toNat : Int) % 4294967296 = (c.toNat : Int) := by omega
    rw [e1, e2, bits_or_u32_nat _ _ (by omega) (by omega)]; have h := Nat.two_pow_add_eq_or_of_lt (i := 8) (b := c.toNat) (by omega) x; have e3 : x * 256 = 2 ^ 8 * x := by omega
    rw [e3, ← h]
  have h0 := lt c0; have h1 := lt c1; have h2 := lt c2; have h3 := lt c3; unfold beM; simp only [List.foldl_cons, List.foldl_nil]; rw [show (0 : Int) = ((0 : Nat) : Int) from rfl, step 0 c0 (by omega), step _ c1 (by omega), step _ c2 (by omega), step _ c3 (by omega)]; omega
theorem take4 {blk : Bytes} {t : Nat} (h : 4 * t + 3 < blk.length) : (blk.drop (4 * t)).take 4 = [blk[4 * t], blk[4 * t + 1], blk[4 * t + 2], blk[4 * t + 3]] := by
  apply List.ext_getElem (by simp; omega); intro i h1 h2; have h3 : i < 4 := by simpa using h2
  have h4 : i = 0 ∨ i = 1 ∨ i = 2 ∨ i = 3 := by omega
  rcases h4 with rfl | rfl | rfl | rfl <;> simp
structure SchedMem (w W : World) (blk : Bytes) (L : List Int) : Prop where
  k : Kept w W
  s : Blk W w.heap.size 154 (encB blk)
  r : Blk W (w.heap.size + 1) 152 (zw64.map (Value.int .u32))
  l : Blk W (w.heap.size + 1 + 1) 152 (rowW L)
section
variable {w W W' : World} {blk : Bytes} {L : List Int} {x : Int}
theorem SchedMem.new (w : World) (blk : Bytes) : SchedMem w (((w.alloc (.cells (b8A blk) 154)).alloc (.cells (w32A zw64) 152)).alloc (.cells (w32A zw64) 152)) blk [] := by
  refine ⟨(((Upd.refl _ w).alloc _).alloc _).alloc _, ?_, ?_, ?_⟩
  · exact ((Blk.new w _ _).alloc _).alloc _
  · have := (Blk.new (w.alloc (.cells (b8A blk) 154)) 152 (zw64.map (Value.int .u32))).alloc (.cells (w32A zw64) 152)
    rwa [World.size_alloc] at this
  · have := Blk.new ((w.alloc (.cells (b8A blk) 154)).alloc (.cells (w32A zw64) 152)) 152 (zw64.map (Value.int .u32))
    rw [World.size_alloc, World.size_alloc] at this
    rwa [show rowW [] = zw64.map (Value.int .u32) by simp [rowW, zw64]]
theorem SchedMem.kept (h : SchedMem w W blk L) (hu : Kept W W') : SchedMem w W' blk L := ⟨h.k.trans hu, h.s.kept hu, h.r.kept hu, h.l.kept hu⟩
theorem SchedMem.drew (h : SchedMem w W blk L) : SchedMem w W.drew blk L := ⟨h.k.drew, h.s, h.r, h.l⟩
theorem SchedMem.set (h : SchedMem w W blk (L ++ [x])) (hl : L.length < 64) (y : Int) : SchedMem w (W.setCell ⟨w.heap.size + 1 + 1, L.length, none⟩ (.int .u32 y)) blk (L ++ [y]) := by
  refine ⟨h.k.setCell (p := ⟨w.heap.size + 1 + 1, L.length, none⟩) _ fun hlt => absurd (show w.heap.size + 1 + 1 < w.heap.size from hlt) (by omega), h.s.far _ _ (fun e => by have : w.heap.size = w.heap.size + 1 + 1 := e; omega), h.r.far _ _ (fun e => by have : w.heap.size + 1 = w.heap.size + 1 + 1 := e; omega), ?_⟩; have := h.l.set L.length (.int .u32 y)
  rwa [rowW_set hl] at this
theorem SchedMem.zero (h : SchedMem w W blk L) (hl : L.length < 64) : SchedMem w W blk (L ++ [0]) := ⟨h.k, h.s, h.r, by rw [← rowW_zero hl]; exact h.l⟩
theorem SchedMem.last (h : SchedMem w W blk (L ++ [x])) : W.cell? ⟨w.heap.size + 1 + 1, L.length, none⟩ = some (.int .u32 x) := by
  refine h.l.cell ?_; rw [rowW_get (by simp)]; simp
theorem SchedMem.word (h : SchedMem w W blk L) {k : Nat} (hk : k < L.length) : W.cell? ⟨w.heap.size + 1 + 1, k, none⟩ = some (.int .u32 (L.getD k 0)) := by
  rw [h.l.cell (rowW_get hk)]; simp [hk]
theorem SchedMem.byte (h : SchedMem w W blk L) {k : Nat} (hk : k < blk.length) : W.cell? ⟨w.heap.size, k, none⟩ = some (.int .u8 (blk[k].toNat : Int)) :=
  h.s.cell (by rw [encB, List.getElem?_map, List.getElem?_eq_getElem hk]; rfl)
end
set_option maxHeartbeats 1600000 in
set_option maxRecDepth 20000 in
theorem ref_Schedule {w : World} {blk : Bytes} (hb : blk.length = 64) :
    Calls Tryz.prog 96 #[.agg (b8A blk)] w fun e w' => e = .returned (.agg (w32A (schedN blk 64))) ∧ Kept w w' := by
  have HM := Lib.hid (SchedMem.new w blk); have HC := Lib.hid hb; clear hb
  go_enter Tryz.func96, Tryz.ntmps96
  go_wp2_with fail; generalize ((w.alloc (.cells (b8A blk) 154)).alloc (.cells (w32A zw64) 152)).alloc (.cells (w32A zw64) 152) = W3 at *
  go_loopw [4] (fun i wr => ∃ t : Nat, t ≤ 16 ∧ i = .int .i64 t ∧ SchedMem w wr blk (schedN blk t)) (fun i _ => 64 - (intOf i).toNat)
  case atStart => exact ⟨0, Nat.zero_le _, rfl, by rw [schedN_zero]; exact HM.out⟩
  case round =>
    obtain ⟨t, ht, rfl, hm⟩ := hrel; have HT := Lib.hid hm; clear hm
    by_cases h16 : t < 16
    · have HL : Hid ((schedN blk t).length = t) := schedN_length blk t
      have HN : Hid (schedN blk (t + 1) = schedN blk t ++ [beM ((blk.drop (4 * t)).take 4)]) := by
        show _ = _; rw [schedN_succ]; simp [nextW, h16]
      generalize schedN blk t = L at *; have hb := HC.out; have f0 : ∀ W, SchedMem w W blk L → W.cell? ⟨w.heap.size, 4 * t, none⟩ = some (.int .u8 (blk[4 * t].toNat : Int)) := fun W hW => hW.byte _; have f1 : ∀ W, SchedMem w W blk L → W.cell? ⟨w.heap.size, 4 * t + 1, none⟩ = some (.int .u8 (blk[4 * t + 1].toNat : Int)) := fun W hW => hW.byte _; have f2 : ∀ W, SchedMem w W blk L → W.cell? ⟨w.heap.size, 4 * t + 2, none⟩ = some (.int .u8 (blk[4 * t + 2].toNat : Int)) := fun W hW => hW.byte _; have f3 : ∀ W, SchedMem w W blk L → W.cell? ⟨w.heap.size, 4 * t + 3, none⟩ = some (.int .u8 (blk[4 * t + 3].toNat : Int)) := fun W hW => hW.byte _; have HB := Lib.hid (show (blk.drop (4 * t)).take 4 = [blk[4 * t], blk[4 * t + 1], blk[4 * t + 2], blk[4 * t + 3]] from take4 (by omega)); generalize blk[4 * t] = c0 at *; generalize blk[4 * t + 1] = c1 at *; generalize blk[4 * t + 2] = c2 at *; generalize blk[4 * t + 3] = c3 at *; clear hb; obtain ⟨q, hq⟩ : ∃ q, q = 4 * t := ⟨_, rfl⟩; obtain ⟨q1, hq1⟩ : ∃ q1, q1 = 4 * t + 1 := ⟨_, rfl⟩; obtain ⟨q2, hq2⟩ : ∃ q2, q2 = 4 * t + 2 := ⟨_, rfl⟩; obtain ⟨q3, hq3⟩ : ∃ q3, q3 = 4 * t + 3 := ⟨_, rfl⟩; rw [← hq] at f0; rw [← hq1] at f1; rw [← hq2] at f2; rw [← hq3] at f3; have wq : IntKind.i64.wrap (4 * (t : Int)) = (q : Int) := by rw [IntKind.wrap_i64]; omega
      have wq1 : IntKind.i64.wrap ((q : Int) + 1) = (q1 : Int) := by rw [IntKind.wrap_i64]; omega
      have wq2 : IntKind.i64.wrap ((q : Int) + 2) = (q2 : Int) := by rw [IntKind.wrap_i64]; omega
      have wq3 : IntKind.i64.wrap ((q : Int) + 3) = (q3 : Int) := by rw [IntKind.wrap_i64]; omega
      have b0 : (q : Int) < 64 := by omega
      have b1 : (q1 : Int) < 64 := by omega
      have b2 : (q2 : Int) < 64 := by omega
      have b3 : (q3 : Int) < 64 := by omega
      have bt : (t : Int) < 64 := by omega
      clear hq hq1 hq2 hq3; go_wp2_with fail; refine wp_region_mild 31 (by kernel_rfl) (by kernel_rfl) (fun W => SchedMem w W blk L) HT.out.drew ?_; simp only [List.take_succ_cons, List.take_zero, List.drop_succ_cons, List.drop_zero]
      iterate 31 (refine wpMild_step (fun K hK => ?_); go_simp; apply Exists.intro; refine ⟨fun W hW => ?_, hK _ ?_⟩; (go_simp; first | done | exact rfl | exact ⟨rfl, hW⟩); clear hK K)
      refine wpMild_nil (fun wc hS => ?_); have hl := (hS.zero (by rw [HL.out]; omega)).last; have hz := hS.l.thaw L.length; rw [HL.out] at hl hz; have HT2 := Lib.hid (hS.zero (by rw [HL.out]; omega)); clear hS f0 f1 f2 f3 wq wq1 wq2 wq3 b0 b1 b2 b3; go_wp2_with fail
      go_roundw
      case rel =>
        refine ⟨t + 1, by omega, by show _ = _; go_num, ?_⟩; have := HT2.out.set (by rw [HL.out]; omega) (beM [c0, c1, c2, c3]); rw [HL.out] at this; rw [HN.out, HB.out]; rw [be4] at this ⊢; exact this
      case measure => simp [intOf]; omega
    · have ht16 : ¬ ((t : Int) < 16) := by omega
      have H16 := Lib.hid (show t = 16 by omega); clear h16 ht; go_wp2_with fail
      go_loopw [5] (fun i wr => ∃ t : Nat, 16 ≤ t ∧ t ≤ 64 ∧ i = .int .i64 t ∧ SchedMem w wr blk (schedN blk t)) (fun i _ => 64 - (intOf i).toNat)
      case atStart => exact ⟨16, by omega, by omega, rfl, by have := HT.out; rwa [H16.out] at this⟩
      case round =>
        clear HT ht16 H16; obtain ⟨t, h16, ht, rfl, hm⟩ := hrel; have HT := Lib.hid hm; clear hm
        by_cases h64 : t < 64
        · have HL : Hid ((schedN blk t).length = t) := schedN_length blk t
          have HN : Hid (schedN blk (t + 1) = schedN blk t ++ [mixW ((schedN blk t).getD (t - 16) 0) ((schedN blk t).getD (t - 15) 0) ((schedN blk t).getD (t - 7) 0) ((schedN blk t).getD (t - 2) 0)]) := by
            show _ = _; rw [schedN_succ]; simp [nextW, show ¬ t < 16 by omega]
          have c15 : ∀ W, SchedMem w W blk (schedN blk t) → W.cell? ⟨w.heap.size + 1 + 1, t - 15, none⟩ = some (.int .u32 ((schedN blk t).getD (t - 15) 0)) := fun W hW => hW.word (k := t - 15) (by rw [HL.out]; omega); have c2 : ∀ W, SchedMem w W blk (schedN blk t) → W.cell? ⟨w.heap.size + 1 + 1, t - 2, none⟩ = some (.int .u32 ((schedN blk t).getD (t - 2) 0)) := fun W hW => hW.word (k := t - 2) (by rw [HL.out]; omega); have c16 : ∀ W, SchedMem w W blk (schedN blk t) → W.cell? ⟨w.heap.size + 1 + 1, t - 16, none⟩ = some (.int .u32 ((schedN blk t).getD (t - 16) 0)) := fun W hW => hW.word (k := t - 16) (by rw [HL.out]; omega); have c7 : ∀ W, SchedMem w W blk (schedN blk t) → W.cell? ⟨w.heap.size + 1 + 1, t - 7, none⟩ = some (.int .u32 ((schedN blk t).getD (t - 7) 0)) := fun W hW => hW.word (k := t - 7) (by rw [HL.out]; omega); generalize schedN blk t = L at *; generalize L.getD (t - 15) 0 = x15 at *; generalize L.getD (t - 2) 0 = x2 at *; generalize L.getD (t - 16) 0 = x16 at *; generalize L.getD (t - 7) 0 = x7 at *; have w15 : IntKind.i64.wrap ((t : Int) - 15) = ((t - 15 : Nat) : Int) := by rw [IntKind.wrap_i64]; omega
          have w2 : IntKind.i64.wrap ((t : Int) - 2) = ((t - 2 : Nat) : Int) := by rw [IntKind.wrap_i64]; omega
          have w16 : IntKind.i64.wrap ((t : Int) - 16) = ((t - 16 : Nat) : Int) := by rw [IntKind.wrap_i64]; omega
          have w7 : IntKind.i64.wrap ((t : Int) - 7) = ((t - 7 : Nat) : Int) := by rw [IntKind.wrap_i64]; omega
          have l15 : ((t - 15 : Nat) : Int) < 64 := by omega
          have l2 : ((t - 2 : Nat) : Int) < 64 := by omega
          have l16 : ((t - 16 : Nat) : Int) < 64 := by omega
          have l7 : ((t - 7 : Nat) : Int) < 64 := by omega
          have lt64 : (t : Int) < 64 := by omega
          go_wp2_with fail; refine wp_region_mild_all (by kernel_rfl) (by kernel_rfl) (fun W => SchedMem w W blk L) HT.out.drew ?_
          iterate 10 (refine wpMild_step (fun K hK => ?_); go_simp; apply Exists.intro; refine ⟨fun W hW => ?_, hK _ ?_⟩; (go_simp; first | done | exact rfl | exact ⟨rfl, hW⟩); clear hK K)
          refine wpMild_nil (fun wb hS => ?_); clear HT; go_wp2_with fail; refine wp_region_mild 29 (by kernel_rfl) (by kernel_rfl) (fun W => SchedMem w W blk L) hS.drew ?_; simp only [List.take_succ_cons, List.take_zero, List.drop_succ_cons, List.drop_zero]
          iterate 6 (refine wpMild_step (fun K hK => ?_); go_simp; apply Exists.intro; refine ⟨fun W hW => ?_, hK _ ?_⟩; (go_simp; first | done | exact rfl | exact ⟨rfl, hW⟩); clear hK K)
          refine wpMild_step (fun K hK => ?_); go_simp; apply Exists.intro; refine ⟨fun W hW => ?_, hK _ ?_⟩
          · go_simp
            refine (ref_ror _ 7 (by simp) _).mono ?_; rintro e w' ⟨rfl, hk⟩; exact ⟨rfl, hW.kept hk⟩
          clear hK K
          iterate 1 (refine wpMild_step (fun K hK => ?_); go_simp; apply Exists.intro; refine ⟨fun W hW => ?_, hK _ ?_⟩; (go_simp; first | done | exact rfl | exact ⟨rfl, hW⟩); clear hK K)
          refine wpMild_step (fun K hK => ?_); go_simp; apply Exists.intro; refine ⟨fun W hW => ?_, hK _ ?_⟩
          · go_simp
            refine (ref_ror _ 18 (by simp) _).mono ?_; rintro e w' ⟨rfl, hk⟩; exact ⟨rfl, hW.kept hk⟩
          clear hK K
          iterate 11 (refine wpMild_step (fun K hK => ?_); go_simp; apply Exists.intro; refine ⟨fun W hW => ?_, hK _ ?_⟩; (go_simp; first | done | exact rfl | exact ⟨rfl, hW⟩); clear hK K)
          refine wpMild_step (fun K hK => ?_); go_simp; apply Exists.intro; refine ⟨fun W hW => ?_, hK _ ?_⟩
          · go_simp
            refine (ref_ror _ 17 (by simp) _).mono ?_; rintro e w' ⟨rfl, hk⟩; exact ⟨rfl, hW.kept hk⟩
          clear hK K
          iterate 1 (refine wpMild_step (fun K hK => ?_); go_simp; apply Exists.intro; refine ⟨fun W hW => ?_, hK _ ?_⟩; (go_simp; first | done | exact rfl | exact ⟨rfl, hW⟩); clear hK K)
          refine wpMild_step (fun K hK => ?_); go_simp; apply Exists.intro; refine ⟨fun W hW => ?_, hK _ ?_⟩
          · go_simp
            refine (ref_ror _ 19 (by simp) _).mono ?_; rintro e w' ⟨rfl, hk⟩; exact ⟨rfl, hW.kept hk⟩
          clear hK K
          iterate 6 (refine wpMild_step (fun K hK => ?_); go_simp; apply Exists.intro; refine ⟨fun W hW => ?_, hK _ ?_⟩; (go_simp; first | done | exact rfl | exact ⟨rfl, hW⟩); clear hK K)
          refine wpMild_nil (fun wc hS => ?_); have hl := (hS.zero (by rw [HL.out]; exact h64)).last; have hz := hS.l.thaw L.length; rw [HL.out] at hl hz; have HT2 := Lib.hid (hS.zero (by rw [HL.out]; exact h64)); clear hS c15 c2 c16 c7 w15 w2 w16 w7 l15 l2 l16 l7; go_wp2_with fail
          go_roundw
          case rel =>
            refine ⟨t + 1, by omega, by omega, by show _ = _; go_num, ?_⟩; have := HT2.out.set (by rw [HL.out]; exact h64) (mixW x16 x15 x7 x2); rw [HL.out] at this; rw [HN.out]; exact this
          case measure => simp [intOf]; omega
        · obtain rfl : t = 64 := by omega
          have HL : Hid ((schedN blk 64).length = 64) := schedN_length blk 64; clear h16 ht h64; generalize hLL : schedN blk 64 = L at *; have HLL := Lib.hid hLL; clear hLL; have hb := HT.out.l; rw [rowW_all HL.out] at hb; have hl := HL.out; have hsg := hb.seg 0 64 (L.map (Value.int .u32)) (by simpa using hl) (fun j _ => by rw [Nat.zero_add]); have hb1 := HT.out.r; have hrb : rowB wr (w.heap.size + 1) 64 = true := rowB_of (show wr.heap[w.heap.size + 1]? = some (.cells (zw64.map (Value.int .u32)).toArray 152 (0, 0)) from hb1) (by simp [zw64]); have hb2 : Blk (wr.setRow (w.heap.size + 1) (w32A L)) (w.heap.size + 1) 152 (L.map (Value.int .u32)) := hb1.setRow _; have hs2 := hb2.seg 0 64 (L.map (Value.int .u32)) (by simpa using hl) (fun j _ => by rw [Nat.zero_add]); have HK : Hid (Kept w (wr.setRow (w.heap.size + 1) (w32A L))) := Lib.hid (Upd.setRow HT.out.k _ _ (fun h => absurd h (by omega))); have hsz : (w32A L).size = 64 := by rw [w32A_size]; exact hl
          obtain ⟨r1, r2⟩ := hsg; obtain ⟨r3, r4⟩ := hs2
          change segV wr ⟨w.heap.size + 1 + 1, 0, none⟩ 64 = w32A L at r2
          change segV (wr.setRow (w.heap.size + 1) (w32A L)) ⟨w.heap.size + 1, 0, none⟩ 64 = w32A L at r4
          have HG := Lib.hid (And.intro r3 r4); clear hb hb1 hb2 hl r3 r4 HT; go_wp2; refine bodyPost_ret (v := .agg (w32A L)) ?_ rfl ⟨by rw [HLL.out], HK.out⟩; rw [results_seg (P := Tryz.prog) (fn := Tryz.f96) rfl _ _ ⟨w.heap.size + 1, 0, none⟩ 64 _ rfl Tryz.underlying152 rfl sizeOf152 HG.out.1, HG.out.2]
end Go.Proofs.YtepjbijhkkjbfaaGreat
namespace Go.Proofs.YtepjbijhkkjbfaaGreat
open Go.RowKit
theorem OwnB.nil (W : World) (B : Nat) : OwnB W B (.slice none 0 0) [] := ⟨rfl, .inl ⟨rfl, rfl⟩⟩
theorem Upd.none {W W' : World} (h : Upd (fun k => (Value.slice none 0 0).ownBlock = some k) W W') : Kept W W' := h.mono fun k _ e => by cases e
set_option maxHeartbeats 400000 in
theorem ref_CopyBytes {w : World} {A : Option Addr} {R : Bytes} (c : Nat) (hR : Byt w A R) (hl : R.length ≤ 140737488351232) :
    Calls Tryz.prog 15 #[.slice A R.length c] w fun e W => ∃ v, e = .returned v ∧ OwnB W w.heap.size v R ∧ Kept w W := by
  have HX := Lib.hid (And.intro hR hl); clear hR hl
  go_enter Tryz.func15, Tryz.ntmps15
  go_wp2_with (at_builtin; refine wpList_append_bytes rfl (.tmp 4) (.tmp 5) rfl rfl (OwnB.nil w w.heap.size) A c rfl HX.out.1 (by have := HX.out.2; simp only [List.length_nil]; omega) (Nat.le_refl _) ?_; intro v' W' hown hu)
  go_ret
  exact ⟨_, rfl, by simpa using hown, hu.none⟩
def headM (R : Bytes) (j : Nat) : Bytes := R ++ (128 :: List.replicate j 0)
theorem headM_length (R : Bytes) (j : Nat) : (headM R j).length = R.length + 1 + j := by simp [headM]; omega
theorem headM_succ (R : Bytes) (j : Nat) : headM R (j + 1) = headM R j ++ [0] := by simp [headM, List.replicate_succ']
theorem headM_all (R : Bytes) : padM R = headM R ((119 - R.length % 64) % 64) ++ lenB R.length := by simp [padM, headM]
theorem lenB_get (n k : Nat) (hk : k < 8) : (lenB n)[k]? = some (byteW ((8 * n : Nat) / 2 ^ (8 * (7 - k)))) := by
  unfold lenB; rw [List.getElem?_map, List.getElem?_range hk]
  rfl
theorem lenB_succ (n k : Nat) (hk : k < 8) : (lenB n).take (k + 1) = (lenB n).take k ++ [byteW ((8 * n : Nat) / 2 ^ (8 * (7 - k)))] := by
  have h1 : k < (lenB n).length := by rw [lenB_length]; exact hk
  rw [List.take_succ_eq_append_getElem h1]; have h2 := lenB_get n k hk; rw [List.getElem?_eq_getElem h1] at h2; rw [Option.some.inj h2]
set_option maxHeartbeats 800000 in
set_option maxRecDepth 20000 in
theorem ref_Padded {w : World} {A : Option Addr} {R : Bytes} (c : Nat) (hR : Byt w A R) (hl : R.length ≤ 140737488351000) :
    Calls Tryz.prog 84 #[.slice A R.length c] w fun e W => ∃ v, e = .returned v ∧ OwnB W w.heap.size v (padM R) ∧ Kept w W := by
  have HX := Lib.hid (And.intro hR hl); clear hR hl
  go_enter Tryz.func84, Tryz.ntmps84
  go_wp2_with fail; refine (ref_CopyBytes c HX.out.1 (by have := HX.out.2; omega)).mono ?_; rintro e w1 ⟨v1, rfl, ho1, hu1⟩; obtain ⟨v2, w2, hbs, hB2, hk2⟩ := run_bs1 128 w1
  change (sliceRow 42 1 #[(0, .int .u8 128)]).run Tryz.prog w1 = _ at hbs
  obtain ⟨A2, c2, rfl, hc2, hb2⟩ := byt_one hB2; have HO := Lib.hid (And.intro (ho1.kept hk2) (And.intro hb2 (show Kept w w2 from hu1.then hk2 fun _ _ h => h))); clear ho1 hu1 hB2 hk2 hb2 hc2; go_wp2_with (at_builtin; refine wpList_append_bytes (R := [128]) rfl (.tmp 7) (.tmp 8) rfl rfl HO.out.1 A2 c2 rfl HO.out.2.1 (by have := HX.out.2; simp only [List.length_singleton]; omega) HO.out.2.2.size ?_; intro v3 w3 hown3 hu3); clear hbs; have HP : Hid (OwnB w3 w.heap.size v3 (headM R 0) ∧ Kept w w3) := ⟨by simpa [headM] using hown3, HO.out.2.2.then hu3 fun i hi e => by have := (HO.out.1.far _ e).1; omega⟩; clear hown3 hu3 HO
  go_loopw [3] (fun v wr => ∃ j : Nat, j ≤ (119 - R.length % 64) % 64 ∧ OwnB wr w.heap.size v (headM R j) ∧ Kept w wr) (fun v _ => match v with | .slice _ n _ => R.length + 200 - n | _ => 0)
  case atStart => exact ⟨0, Nat.zero_le _, HP.out.1, HP.out.2⟩
  case round =>
    clear HP; obtain ⟨j, hj, hown, hu⟩ := hrel; obtain ⟨A3, c3, rfl, hc3, _⟩ := hown.form; have hlen := headM_length R j; have HW := Lib.hid (And.intro hown hu); obtain ⟨m, hm⟩ : ∃ m, m = (headM R j).length % 64 := ⟨_, rfl⟩; have hm2 : ((headM R j).length : Int) % 64 = (m : Int) := by omega
    have hmw : IntKind.i64.wrap (m : Int) = (m : Int) := by rw [IntKind.wrap_i64]; omega
    have HN := Lib.hid (And.intro hlen hm); clear hown hu hc3 hlen hm; rcases Nat.lt_or_ge j ((119 - R.length % 64) % 64) with hlt | hge
    · have hne : ¬ ((m : Int) = 56) := by have := HN.out; omega
      have hne2 : ¬ (m = 56) := by have := HN.out; omega
      have HLT := Lib.hid hlt; obtain ⟨v4, w4, hbs, hB4, hk4⟩ := run_bs1 0 wr
      change (sliceRow 42 1 #[(0, .int .u8 0)]).run Tryz.prog wr = _ at hbs
      obtain ⟨A4, c4, rfl, hc4, hb4⟩ := byt_one hB4; have hh := HW.out.1.kept hk4; have HO := Lib.hid (And.intro hh (And.intro hb4 (show Kept w w4 from HW.out.2.then hk4 fun _ _ h => h))); clear hh hB4 hk4 hb4 hc4 hlt hj; go_wp2_with (at_builtin; refine wpList_append_bytes (R := [0]) rfl (.tmp 14) (.tmp 15) rfl rfl HO.out.1 A4 c4 rfl HO.out.2.1 (by have := HN.out; have := HX.out.2; have := HLT.out; simp only [List.length_singleton]; omega) HO.out.2.2.size ?_; intro v5 w5 hown5 hu5)
      go_roundw
      case rel =>
        refine ⟨j + 1, by have := HLT.out; omega, by rw [headM_succ]; exact hown5, HO.out.2.2.then hu5 fun i hi e => ?_⟩; have := (HO.out.1.far _ e).1; omega
      case measure =>
        obtain ⟨A6, c6, rfl, _, _⟩ := hown5.form; have h1 := HN.out.1; have h2 := HLT.out; simp only [List.length_append, List.length_singleton]; omega
    · obtain rfl : j = (119 - R.length % 64) % 64 := by omega
      have heq : (m : Int) = 56 := by have := HN.out; omega
      have HM := Lib.hid (And.intro HW.out.1 (And.intro HW.out.2 HN.out.1)); obtain ⟨b8, hb8⟩ : ∃ b8, b8 = 8 * R.length := ⟨_, rfl⟩; have hw1 : IntKind.u64.wrap (R.length : Int) = (R.length : Int) := by rw [IntKind.wrap_u64]; have := HX.out.2; omega
      have hw2 : IntKind.u64.wrap (8 * (R.length : Int)) = (b8 : Int) := by rw [IntKind.wrap_u64]; have := HX.out.2; omega
      have H8 := Lib.hid hb8; have HZ := Lib.hid (headM_all R); generalize headM R ((119 - R.length % 64) % 64) = H at *; clear HW HN hge hj hb8; go_wp2_with fail; clear hm2 hmw hw1 hw2 heq
      go_loopw [5, 3] (fun u v wr => ∃ k : Nat, k ≤ 8 ∧ u = .int .i64 (7 - (k : Int)) ∧ OwnB wr w.heap.size v (H ++ (lenB R.length).take k) ∧ Kept w wr) (fun u _ _ => ((intOf u) + 1).toNat)
      case atStart => exact ⟨0, by omega, by simp, by simpa using HM.out.1, HM.out.2.1⟩
      case round =>
        obtain ⟨k, hk, rfl, hown, hu⟩ := hrel; rcases Nat.lt_or_ge k 8 with hlt | hge
        · obtain ⟨i, hi⟩ : ∃ i, i = 7 - k := ⟨_, rfl⟩
          have hik : 7 - (k : Int) = (i : Int) := by omega
          rw [hik]; obtain ⟨ee, hee⟩ : ∃ ee, ee = 8 * i := ⟨_, rfl⟩; have hwe : IntKind.i64.wrap (8 * (i : Int)) = (ee : Int) := by rw [IntKind.wrap_i64]; omega
          have hme : min ee 64 = ee := by omega
          have hi0 : (0 : Int) ≤ (i : Int) := by omega
          have hie : (i : Int) ≤ 7 := by omega
          have HS := Lib.hid (lenB_succ R.length k hlt); rw [show ((8 * R.length : Nat) : Int) = (b8 : Int) by rw [H8.out], show 8 * (7 - k) = ee by omega] at HS; have hby := byteW_val ((b8 : Int) / 2 ^ ee); generalize byteW ((b8 : Int) / 2 ^ ee) = cb at *; obtain ⟨v4, w4, hbs, hB4, hk4⟩ := run_bs1 cb wr; obtain ⟨A4, c4, rfl, hc4, hb4⟩ := byt_one hB4; have HO := Lib.hid (And.intro (hown.kept hk4) (And.intro hb4 (show Kept w w4 from hu.then hk4 fun _ _ h => h))); have HLN := Lib.hid (show (H ++ (lenB R.length).take k).length ≤ 140737488351200 by rw [List.length_append, List.length_take, lenB_length, HM.out.2.2]; have := HX.out.2; omega); have HK := Lib.hid (And.intro hlt (And.intro hi hik)); have hby2 : (b8 : Int) / 2 ^ ee % 256 = (cb.toNat : Int) := hby.symm; clear hown hu hB4 hk4 hb4 hc4 hby hee hi hik hlt hk; go_wp2_with (at_builtin; refine wpList_append_bytes (R := [cb]) rfl (.tmp 25) (.tmp 31) rfl rfl HO.out.1 A4 c4 rfl HO.out.2.1 (by have := HLN.out; simp only [List.length_singleton]; omega) HO.out.2.2.size ?_; intro v5 w5 hown5 hu5)
          go_roundw
          case rel =>
            refine ⟨k + 1, by have := HK.out; omega, by first | trivial | (have := HK.out; omega) | (show _ = _; congr 1; have := HK.out; omega), by rw [HS.out, ← List.append_assoc]; exact hown5, HO.out.2.2.then hu5 fun i hi e => ?_⟩; have := (HO.out.1.far _ e).1; omega
          case measure => have := HK.out; simp [intOf] <;> omega
        · obtain rfl : k = 8 := by omega
          rw [List.take_of_length_le (by rw [lenB_length]; omega), ← HZ.out] at hown; have HF := Lib.hid (And.intro hown hu); have hneg : ¬ ((0 : Int) ≤ 7 - ((8 : Nat) : Int)) := by omega
          clear hown hu hk hge; go_wp2
          go_ret
          exact ⟨_, rfl, HF.out.1, HF.out.2⟩
end Go.Proofs.YtepjbijhkkjbfaaGreat
