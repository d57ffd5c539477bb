/- The texts of this hand-in, merged: RefA RefB RefC RefD RefE RefF RefG RefH RefI. -/
import Derived.Test.YtnncpjekcljfbaaSetD
import Derived.Test.YtnncpjekcljfbaaSetA
import Derived.Test.YtnncpjekcljfbaaSetF
/- The document's digest, first part: the tables, turned words, the schedule. -/
namespace Go.Proofs.Ytnncpjekcljfbaa
open Go.RowKit

attribute [local irreducible] wpOrd
theorem startM_eq : startM = [1779033703, 3144134277, 1013904242, 2773480762, 1359893119, 2600822924, 528734635, 1541459225] := by decide +kernel
def rootsL : List Int := [1116352408, 1899447441, 3049323471, 3921009573, 961987163, 1508970993, 2453635748, 2870763221, 3624381080, 310598401, 607225278, 1426881987, 1925078388, 2162078206, 2614888103, 3248222580, 3835390401, 4022224774, 264347078, 604807628, 770255983, 1249150122, 1555081692, 1996064986, 2554220882, 2821834349, 2952996808, 3210313671, 3336571891, 3584528711, 113926993, 338241895, 666307205, 773529912, 1294757372, 1396182291, 1695183700, 1986661051, 2177026350, 2456956037, 2730485921, 2820302411, 3259730800, 3345764771, 3516065817, 3600352804, 4094571909, 275423344, 430227734, 506948616, 659060556, 883997877, 958139571, 1322822218, 1537002063, 1747873779, 1955562222, 2024104815, 2227730452, 2361852424, 2428436474, 2756734187, 3204031479, 3329325298]
theorem rootsM_eq : rootsM = rootsL := by decide +kernel

set_option maxRecDepth 20000 in
theorem ref_First (w : World) : Calls Try.prog 120 #[] w fun e w' => e = .returned (.agg (w32A startM)) ∧ Kept w w' := by
  rw [startM_eq]
  have hk : Kept w (w.alloc (.cells (w32A [1779033703, 3144134277, 1013904242, 2773480762, 1359893119, 2600822924, 528734635, 1541459225]) 181)) := (Upd.refl _ w).alloc _
  have s1 : segB (w.alloc (.cells (w32A [1779033703, 3144134277, 1013904242, 2773480762, 1359893119, 2600822924, 528734635, 1541459225]) 181)) ⟨w.heap.size, 0, none⟩ 8 = true := segB_new _ _ _ _ _ rfl (by simp)
  have s2 : segV (w.alloc (.cells (w32A [1779033703, 3144134277, 1013904242, 2773480762, 1359893119, 2600822924, 528734635, 1541459225]) 181)) ⟨w.heap.size, 0, none⟩ 8 = w32A [1779033703, 3144134277, 1013904242, 2773480762, 1359893119, 2600822924, 528734635, 1541459225] := segV_new _ _ _ _ _ rfl (by simp)
  have HS := Lib.hid (And.intro hk (And.intro s1 s2))
  clear hk s1 s2
  go_enter Try.func120, Try.ntmps120
  go_wp2
  obtain ⟨hk, s1, s2⟩ := HS.out
  refine bodyPost_ret (v := .agg (w32A [1779033703, 3144134277, 1013904242, 2773480762, 1359893119, 2600822924, 528734635, 1541459225])) ?_ rfl ⟨rfl, hk⟩
  rw [results_seg (P := Try.prog) (fn := Try.f120) rfl _ _ ⟨w.heap.size, 0, none⟩ 8 _ rfl Try.underlying181 rfl sizeOf181 s1, s2]

@[go_sem ↓] theorem exec_build_w64 (ρ : Operand → Value) (dst : Option Tmp) (parts : Array (Nat × Operand)) (ty : TypeId) (pos : String) (after : Array Edge) (guard : Option (Nat × Bool)) :
    execOp ρ ⟨dst, .build 180 parts, ty, pos, after, guard⟩ = buildRow 180 (parts.map fun (i, x) => (i, ρ x)) := rfl
theorem rootsL_length : rootsL.length = 64 := rfl
set_option maxRecDepth 20000 in
@[go_sem] theorem run_build_w64 (W : World) : (buildRow 180 #[(0, .int .u32 1116352408), (1, .int .u32 1899447441), (2, .int .u32 3049323471), (3, .int .u32 3921009573), (4, .int .u32 961987163), (5, .int .u32 1508970993), (6, .int .u32 2453635748), (7, .int .u32 2870763221), (8, .int .u32 3624381080), (9, .int .u32 310598401), (10, .int .u32 607225278), (11, .int .u32 1426881987), (12, .int .u32 1925078388), (13, .int .u32 2162078206), (14, .int .u32 2614888103), (15, .int .u32 3248222580), (16, .int .u32 3835390401), (17, .int .u32 4022224774), (18, .int .u32 264347078), (19, .int .u32 604807628), (20, .int .u32 770255983), (21, .int .u32 1249150122), (22, .int .u32 1555081692), (23, .int .u32 1996064986), (24, .int .u32 2554220882), (25, .int .u32 2821834349), (26, .int .u32 2952996808), (27, .int .u32 3210313671), (28, .int .u32 3336571891), (29, .int .u32 3584528711), (30, .int .u32 113926993), (31, .int .u32 338241895), (32, .int .u32 666307205), (33, .int .u32 773529912), (34, .int .u32 1294757372), (35, .int .u32 1396182291), (36, .int .u32 1695183700), (37, .int .u32 1986661051), (38, .int .u32 2177026350), (39, .int .u32 2456956037), (40, .int .u32 2730485921), (41, .int .u32 2820302411), (42, .int .u32 3259730800), (43, .int .u32 3345764771), (44, .int .u32 3516065817), (45, .int .u32 3600352804), (46, .int .u32 4094571909), (47, .int .u32 275423344), (48, .int .u32 430227734), (49, .int .u32 506948616), (50, .int .u32 659060556), (51, .int .u32 883997877), (52, .int .u32 958139571), (53, .int .u32 1322822218), (54, .int .u32 1537002063), (55, .int .u32 1747873779), (56, .int .u32 1955562222), (57, .int .u32 2024104815), (58, .int .u32 2227730452), (59, .int .u32 2361852424), (60, .int .u32 2428436474), (61, .int .u32 2756734187), (62, .int .u32 3204031479), (63, .int .u32 3329325298)]).run Try.prog W = .ok (.value (.agg (w32A rootsL))) W := by
  have H := run_build (P := Try.prog) W 180 #[(0, .int .u32 1116352408), (1, .int .u32 1899447441), (2, .int .u32 3049323471), (3, .int .u32 3921009573), (4, .int .u32 961987163), (5, .int .u32 1508970993), (6, .int .u32 2453635748), (7, .int .u32 2870763221), (8, .int .u32 3624381080), (9, .int .u32 310598401), (10, .int .u32 607225278), (11, .int .u32 1426881987), (12, .int .u32 1925078388), (13, .int .u32 2162078206), (14, .int .u32 2614888103), (15, .int .u32 3248222580), (16, .int .u32 3835390401), (17, .int .u32 4022224774), (18, .int .u32 264347078), (19, .int .u32 604807628), (20, .int .u32 770255983), (21, .int .u32 1249150122), (22, .int .u32 1555081692), (23, .int .u32 1996064986), (24, .int .u32 2554220882), (25, .int .u32 2821834349), (26, .int .u32 2952996808), (27, .int .u32 3210313671), (28, .int .u32 3336571891), (29, .int .u32 3584528711), (30, .int .u32 113926993), (31, .int .u32 338241895), (32, .int .u32 666307205), (33, .int .u32 773529912), (34, .int .u32 1294757372), (35, .int .u32 1396182291), (36, .int .u32 1695183700), (37, .int .u32 1986661051), (38, .int .u32 2177026350), (39, .int .u32 2456956037), (40, .int .u32 2730485921), (41, .int .u32 2820302411), (42, .int .u32 3259730800), (43, .int .u32 3345764771), (44, .int .u32 3516065817), (45, .int .u32 3600352804), (46, .int .u32 4094571909), (47, .int .u32 275423344), (48, .int .u32 430227734), (49, .int .u32 506948616), (50, .int .u32 659060556), (51, .int .u32 883997877), (52, .int .u32 958139571), (53, .int .u32 1322822218), (54, .int .u32 1537002063), (55, .int .u32 1747873779), (56, .int .u32 1955562222), (57, .int .u32 2024104815), (58, .int .u32 2227730452), (59, .int .u32 2361852424), (60, .int .u32 2428436474), (61, .int .u32 2756734187), (62, .int .u32 3204031479), (63, .int .u32 3329325298)] (w32A rootsL) (by unfold w32A; kernel_rfl)
  simp only [buildRow, Sem.run_bind, H, Result.andThen_ok, Sem.run_pure]
attribute [local irreducible] rootsL
set_option maxRecDepth 20000 in
theorem ref_Roots (w : World) : Calls Try.prog 130 #[] w fun e w' => e = .returned (.agg (w32A rootsM)) ∧ Kept w w' := by
  rw [rootsM_eq]
  have hl := rootsL_length
  have hk : Kept w (w.alloc (.cells (w32A rootsL) 180)) := (Upd.refl _ w).alloc _
  have s1 : segB (w.alloc (.cells (w32A rootsL) 180)) ⟨w.heap.size, 0, none⟩ 64 = true := segB_new _ _ _ _ _ rfl (by simp [hl])
  have s2 : segV (w.alloc (.cells (w32A rootsL) 180)) ⟨w.heap.size, 0, none⟩ 64 = w32A rootsL := segV_new _ _ _ _ _ rfl (by simp [hl])
  have HS := Lib.hid (And.intro hk (And.intro s1 s2))
  clear hk s1 s2
  go_enter Try.func130, Try.ntmps130
  go_wp2
  obtain ⟨hk, s1, s2⟩ := HS.out
  refine bodyPost_ret (v := .agg (w32A rootsL)) ?_ rfl ⟨rfl, hk⟩
  rw [results_seg (P := Try.prog) (fn := Try.f130) rfl _ _ ⟨w.heap.size, 0, none⟩ 64 _ rfl Try.underlying180 rfl sizeOf180 s1, s2]
end Go.Proofs.Ytnncpjekcljfbaa
/- The document's digest: turned words, the schedule. -/
namespace Go.Proofs.Ytnncpjekcljfbaa
open Go.RowKit

attribute [local irreducible] wpOrd
theorem bits_or_comm (k : IntKind) (a b : Int) : bits .or k a b = bits .or k b a := by
  unfold bits
  simp [BitVec.or_comm]
theorem ref_ror (x : Int) (n : Nat) (hn : n ∈ [2, 6, 7, 11, 13, 17, 18, 19, 22, 25]) (w : World) : Calls Try.prog 132 #[.int .u32 x, .int .i64 n] w fun e w' => e = .returned (.int .u32 (rorM x n)) ∧ Kept w w' := by
  have h : IntKind.i64.wrap (32 - (n : Int)) = ((32 - n : Nat) : Int) ∧ min n 32 = n ∧ min (32 - n) 32 = 32 - n ∧ n ≤ 32 := by
    simp only [List.mem_cons, List.mem_nil_iff, or_false] at hn
    rcases hn with rfl | rfl | rfl | rfl | rfl | rfl | rfl | rfl | rfl | rfl <;> exact ⟨by decide, by decide, by decide, by decide⟩
  obtain ⟨h1, h2, h3, h4⟩ := h
  have H4 := Lib.hid h4
  clear hn h4
  unfold rorM
  rw [bits_or_comm]
  have hu : Kept w w.drew := (Upd.refl _ w).drew
  go_enter Try.func132, Try.ntmps132
  go_wp2_with fail
  refine wp_region_ord [(0, true), (1, true), (2, true), (3, true), (4, true), (5, true), (6, true), (7, true), (8, true)] (by kernel_rfl) (by kernel_rfl) (Kept w) hu ?_
  simp only [ordOps, List.getD_cons_zero, List.getD_cons_succ]
  iterate 9 (refine wpOrd_held (fun K hK => ?_); go_simp; first | (apply Exists.intro; refine ⟨fun W hW => ?_, hK _ ?_⟩; (go_simp; first | done | exact rfl); clear hK K) | (refine hK _ ?_; clear hK K))
  refine wpOrd_nil ?_
  go_wp2
  go_ret
  exact ⟨rfl, hu⟩

theorem bits_or_u32_nat (a b : Nat) (ha : a < 4294967296) (hb : b < 4294967296) :
    bits .or .u32 (a : Int) (b : Int) = ((a ||| b : Nat) : Int) := by
  have hx : a ||| b < 2 ^ 32 := Nat.or_lt_two_pow (by omega) (by omega)
  have h1 : (BitVec.ofInt 32 (a : Int)).toNat = a := by
    rw [BitVec.ofInt_natCast, BitVec.toNat_ofNat]; exact Nat.mod_eq_of_lt (by omega)
  have h2 : (BitVec.ofInt 32 (b : Int)).toNat = b := by
    rw [BitVec.ofInt_natCast, BitVec.toNat_ofNat]; exact Nat.mod_eq_of_lt (by omega)
  show IntKind.u32.wrap ((BitVec.ofInt 32 (a : Int) ||| BitVec.ofInt 32 (b : Int)).toNat : Int) = _
  rw [BitVec.toNat_or, h1, h2, IntKind.wrap_u32]
  omega
/-- four bytes as a word, by sums -/
theorem be4 (c0 c1 c2 c3 : UInt8) : beM [c0, c1, c2, c3] = ((c0.toNat : Int) % 4294967296 * 16777216 + (c1.toNat : Int) % 4294967296 * 65536 + (c2.toNat : Int) % 4294967296 * 256 + (c3.toNat : Int)) % 4294967296 := by
  have lt : ∀ c : UInt8, c.toNat < 256 := fun c => UInt8.toNat_lt c
  have step : ∀ (x : Nat) (c : UInt8), x < 16777216 → bits .or .u32 ((x : Int) * 256 % 4294967296) ((c.toNat : Int) % 4294967296) = ((x * 256 + c.toNat : Nat) : Int) := fun x c hx => by
    have hc := lt c
    have e1 : (x : Int) * 256 % 4294967296 = ((x * 256 : Nat) : Int) := by omega
    have e2 : (c.toNat : Int) % 4294967296 = (c.toNat : Int) := by omega
    rw [e1, e2, bits_or_u32_nat _ _ (by omega) (by omega)]
    have h := Nat.two_pow_add_eq_or_of_lt (i := 8) (b := c.toNat) (by omega) x
    have e3 : x * 256 = 2 ^ 8 * x := by omega
    rw [e3, ← h]
  have h0 := lt c0
  have h1 := lt c1
  have h2 := lt c2
  have h3 := lt c3
  unfold beM
  simp only [List.foldl_cons, List.foldl_nil]
  rw [show (0 : Int) = ((0 : Nat) : Int) from rfl, step 0 c0 (by omega), step _ c1 (by omega), step _ c2 (by omega), step _ c3 (by omega)]
  omega
theorem take4 {blk : Bytes} {t : Nat} (h : 4 * t + 3 < blk.length) : (blk.drop (4 * t)).take 4 = [blk[4 * t], blk[4 * t + 1], blk[4 * t + 2], blk[4 * t + 3]] := by
  apply List.ext_getElem (by simp; omega)
  intro i h1 h2
  have h3 : i < 4 := by simpa using h2
  have h4 : i = 0 ∨ i = 1 ∨ i = 2 ∨ i = 3 := by omega
  rcases h4 with rfl | rfl | rfl | rfl <;> simp

/-- Schedule's variables: the block, the result, the words -/
structure SchedMem (w W : World) (blk : Bytes) (L : List Int) : Prop where
  k : Kept w W
  s : Blk W w.heap.size 182 (encB blk)
  r : Blk W (w.heap.size + 1) 180 (zw64.map (Value.int .u32))
  l : Blk W (w.heap.size + 1 + 1) 180 (rowW L)
section
variable {w W W' : World} {blk : Bytes} {L : List Int} {x : Int}
theorem SchedMem.new (w : World) (blk : Bytes) : SchedMem w (((w.alloc (.cells (b8A blk) 182)).alloc (.cells (w32A zw64) 180)).alloc (.cells (w32A zw64) 180)) blk [] := by
  refine ⟨(((Upd.refl _ w).alloc _).alloc _).alloc _, ?_, ?_, ?_⟩
  · exact ((Blk.new w _ _).alloc _).alloc _
  · have := (Blk.new (w.alloc (.cells (b8A blk) 182)) 180 (zw64.map (Value.int .u32))).alloc (.cells (w32A zw64) 180)
    rwa [World.size_alloc] at this
  · have := Blk.new ((w.alloc (.cells (b8A blk) 182)).alloc (.cells (w32A zw64) 180)) 180 (zw64.map (Value.int .u32))
    rw [World.size_alloc, World.size_alloc] at this
    rwa [show rowW [] = zw64.map (Value.int .u32) by simp [rowW, zw64]]
theorem SchedMem.kept (h : SchedMem w W blk L) (hu : Kept W W') : SchedMem w W' blk L := ⟨h.k.trans hu, h.s.kept hu, h.r.kept hu, h.l.kept hu⟩
theorem SchedMem.drew (h : SchedMem w W blk L) : SchedMem w W.drew blk L := ⟨h.k.drew, h.s, h.r, h.l⟩
theorem SchedMem.set (h : SchedMem w W blk (L ++ [x])) (hl : L.length < 64) (y : Int) : SchedMem w (W.setCell ⟨w.heap.size + 1 + 1, L.length, none⟩ (.int .u32 y)) blk (L ++ [y]) := by
  refine ⟨h.k.setCell (p := ⟨w.heap.size + 1 + 1, L.length, none⟩) _ fun hlt => absurd (show w.heap.size + 1 + 1 < w.heap.size from hlt) (by omega), h.s.far _ _ (fun e => by have : w.heap.size = w.heap.size + 1 + 1 := e; omega), h.r.far _ _ (fun e => by have : w.heap.size + 1 = w.heap.size + 1 + 1 := e; omega), ?_⟩
  have := h.l.set L.length (.int .u32 y)
  rwa [rowW_set hl] at this
theorem SchedMem.zero (h : SchedMem w W blk L) (hl : L.length < 64) : SchedMem w W blk (L ++ [0]) := ⟨h.k, h.s, h.r, by rw [← rowW_zero hl]; exact h.l⟩
theorem SchedMem.last (h : SchedMem w W blk (L ++ [x])) : W.cell? ⟨w.heap.size + 1 + 1, L.length, none⟩ = some (.int .u32 x) := by
  refine h.l.cell ?_
  rw [rowW_get (by simp)]
  simp
theorem SchedMem.word (h : SchedMem w W blk L) {k : Nat} (hk : k < L.length) : W.cell? ⟨w.heap.size + 1 + 1, k, none⟩ = some (.int .u32 (L.getD k 0)) := by
  rw [h.l.cell (rowW_get hk)]; simp [hk]
theorem SchedMem.byte (h : SchedMem w W blk L) {k : Nat} (hk : k < blk.length) : W.cell? ⟨w.heap.size, k, none⟩ = some (.int .u8 (blk[k].toNat : Int)) :=
  h.s.cell (by rw [encB, List.getElem?_map, List.getElem?_eq_getElem hk]; rfl)
end

set_option maxHeartbeats 1600000 in
set_option maxRecDepth 20000 in
theorem ref_Schedule {w : World} {blk : Bytes} (hb : blk.length = 64) :
    Calls Try.prog 131 #[.agg (b8A blk)] w fun e w' => e = .returned (.agg (w32A (schedN blk 64))) ∧ Kept w w' := by
  have HM := Lib.hid (SchedMem.new w blk)
  have HC := Lib.hid hb
  clear hb
  go_enter Try.func131, Try.ntmps131
  go_wp2_with fail
  generalize ((w.alloc (.cells (b8A blk) 182)).alloc (.cells (w32A zw64) 180)).alloc (.cells (w32A zw64) 180) = W3 at *
  go_loopw [4] (fun i wr => ∃ t : Nat, t ≤ 16 ∧ i = .int .i64 t ∧ SchedMem w wr blk (schedN blk t)) (fun i _ => 64 - (intOf i).toNat)
  case atStart => exact ⟨0, Nat.zero_le _, rfl, by rw [schedN_zero]; exact HM.out⟩
  case round =>
    obtain ⟨t, ht, rfl, hm⟩ := hrel
    have HT := Lib.hid hm
    clear hm
    by_cases h16 : t < 16
    · have HL : Hid ((schedN blk t).length = t) := schedN_length blk t
      have HN : Hid (schedN blk (t + 1) = schedN blk t ++ [beM ((blk.drop (4 * t)).take 4)]) := by
        show _ = _
        rw [schedN_succ]; simp [nextW, h16]
      generalize schedN blk t = L at *
      have hb := HC.out
      have f0 : ∀ W, SchedMem w W blk L → W.cell? ⟨w.heap.size, 4 * t, none⟩ = some (.int .u8 (blk[4 * t].toNat : Int)) := fun W hW => hW.byte _
      have f1 : ∀ W, SchedMem w W blk L → W.cell? ⟨w.heap.size, 4 * t + 1, none⟩ = some (.int .u8 (blk[4 * t + 1].toNat : Int)) := fun W hW => hW.byte _
      have f2 : ∀ W, SchedMem w W blk L → W.cell? ⟨w.heap.size, 4 * t + 2, none⟩ = some (.int .u8 (blk[4 * t + 2].toNat : Int)) := fun W hW => hW.byte _
      have f3 : ∀ W, SchedMem w W blk L → W.cell? ⟨w.heap.size, 4 * t + 3, none⟩ = some (.int .u8 (blk[4 * t + 3].toNat : Int)) := fun W hW => hW.byte _
      have HB := Lib.hid (show (blk.drop (4 * t)).take 4 = [blk[4 * t], blk[4 * t + 1], blk[4 * t + 2], blk[4 * t + 3]] from take4 (by omega))
      generalize blk[4 * t] = c0 at *
      generalize blk[4 * t + 1] = c1 at *
      generalize blk[4 * t + 2] = c2 at *
      generalize blk[4 * t + 3] = c3 at *
      clear hb
      obtain ⟨q, hq⟩ : ∃ q, q = 4 * t := ⟨_, rfl⟩
      obtain ⟨q1, hq1⟩ : ∃ q1, q1 = 4 * t + 1 := ⟨_, rfl⟩
      obtain ⟨q2, hq2⟩ : ∃ q2, q2 = 4 * t + 2 := ⟨_, rfl⟩
      obtain ⟨q3, hq3⟩ : ∃ q3, q3 = 4 * t + 3 := ⟨_, rfl⟩
      rw [← hq] at f0
      rw [← hq1] at f1
      rw [← hq2] at f2
      rw [← hq3] at f3
      have wq : IntKind.i64.wrap (4 * (t : Int)) = (q : Int) := by rw [IntKind.wrap_i64]; omega
      have wq1 : IntKind.i64.wrap ((q : Int) + 1) = (q1 : Int) := by rw [IntKind.wrap_i64]; omega
      have wq2 : IntKind.i64.wrap ((q : Int) + 2) = (q2 : Int) := by rw [IntKind.wrap_i64]; omega
      have wq3 : IntKind.i64.wrap ((q : Int) + 3) = (q3 : Int) := by rw [IntKind.wrap_i64]; omega
      have b0 : (q : Int) < 64 := by omega
      have b1 : (q1 : Int) < 64 := by omega
      have b2 : (q2 : Int) < 64 := by omega
      have b3 : (q3 : Int) < 64 := by omega
      have bt : (t : Int) < 64 := by omega
      clear hq hq1 hq2 hq3
      go_wp2_with fail
      refine wp_region_mild 31 (by kernel_rfl) (by kernel_rfl) (fun W => SchedMem w W blk L) HT.out.drew ?_
      simp only [List.take_succ_cons, List.take_zero, List.drop_succ_cons, List.drop_zero]
      iterate 31 (refine wpMild_step (fun K hK => ?_); go_simp; apply Exists.intro; refine ⟨fun W hW => ?_, hK _ ?_⟩; (go_simp; first | done | exact rfl | exact ⟨rfl, hW⟩); clear hK K)
      refine wpMild_nil (fun wc hS => ?_)
      have hl := (hS.zero (by rw [HL.out]; omega)).last
      have hz := hS.l.thaw L.length
      rw [HL.out] at hl hz
      have HT2 := Lib.hid (hS.zero (by rw [HL.out]; omega))
      clear hS f0 f1 f2 f3 wq wq1 wq2 wq3 b0 b1 b2 b3
      go_wp2_with fail
      go_roundw
      case rel =>
        refine ⟨t + 1, by omega, by show _ = _; go_num, ?_⟩
        have := HT2.out.set (by rw [HL.out]; omega) (beM [c0, c1, c2, c3])
        rw [HL.out] at this
        rw [HN.out, HB.out]
        rw [be4] at this ⊢
        exact this
      case measure => simp [intOf]; omega
    · have ht16 : ¬ ((t : Int) < 16) := by omega
      have H16 := Lib.hid (show t = 16 by omega)
      clear h16 ht
      go_wp2_with fail
      go_loopw [5] (fun i wr => ∃ t : Nat, 16 ≤ t ∧ t ≤ 64 ∧ i = .int .i64 t ∧ SchedMem w wr blk (schedN blk t)) (fun i _ => 64 - (intOf i).toNat)
      case atStart => exact ⟨16, by omega, by omega, rfl, by have := HT.out; rwa [H16.out] at this⟩
      case round =>
        clear HT ht16 H16
        obtain ⟨t, h16, ht, rfl, hm⟩ := hrel
        have HT := Lib.hid hm
        clear hm
        by_cases h64 : t < 64
        · have HL : Hid ((schedN blk t).length = t) := schedN_length blk t
          have HN : Hid (schedN blk (t + 1) = schedN blk t ++ [mixW ((schedN blk t).getD (t - 16) 0) ((schedN blk t).getD (t - 15) 0) ((schedN blk t).getD (t - 7) 0) ((schedN blk t).getD (t - 2) 0)]) := by
            show _ = _
            rw [schedN_succ]; simp [nextW, show ¬ t < 16 by omega]
          have c15 : ∀ W, SchedMem w W blk (schedN blk t) → W.cell? ⟨w.heap.size + 1 + 1, t - 15, none⟩ = some (.int .u32 ((schedN blk t).getD (t - 15) 0)) := fun W hW => hW.word (k := t - 15) (by rw [HL.out]; omega)
          have c2 : ∀ W, SchedMem w W blk (schedN blk t) → W.cell? ⟨w.heap.size + 1 + 1, t - 2, none⟩ = some (.int .u32 ((schedN blk t).getD (t - 2) 0)) := fun W hW => hW.word (k := t - 2) (by rw [HL.out]; omega)
          have c16 : ∀ W, SchedMem w W blk (schedN blk t) → W.cell? ⟨w.heap.size + 1 + 1, t - 16, none⟩ = some (.int .u32 ((schedN blk t).getD (t - 16) 0)) := fun W hW => hW.word (k := t - 16) (by rw [HL.out]; omega)
          have c7 : ∀ W, SchedMem w W blk (schedN blk t) → W.cell? ⟨w.heap.size + 1 + 1, t - 7, none⟩ = some (.int .u32 ((schedN blk t).getD (t - 7) 0)) := fun W hW => hW.word (k := t - 7) (by rw [HL.out]; omega)
          generalize schedN blk t = L at *
          generalize L.getD (t - 15) 0 = x15 at *
          generalize L.getD (t - 2) 0 = x2 at *
          generalize L.getD (t - 16) 0 = x16 at *
          generalize L.getD (t - 7) 0 = x7 at *
          have w15 : IntKind.i64.wrap ((t : Int) - 15) = ((t - 15 : Nat) : Int) := by rw [IntKind.wrap_i64]; omega
          have w2 : IntKind.i64.wrap ((t : Int) - 2) = ((t - 2 : Nat) : Int) := by rw [IntKind.wrap_i64]; omega
          have w16 : IntKind.i64.wrap ((t : Int) - 16) = ((t - 16 : Nat) : Int) := by rw [IntKind.wrap_i64]; omega
          have w7 : IntKind.i64.wrap ((t : Int) - 7) = ((t - 7 : Nat) : Int) := by rw [IntKind.wrap_i64]; omega
          have l15 : ((t - 15 : Nat) : Int) < 64 := by omega
          have l2 : ((t - 2 : Nat) : Int) < 64 := by omega
          have l16 : ((t - 16 : Nat) : Int) < 64 := by omega
          have l7 : ((t - 7 : Nat) : Int) < 64 := by omega
          have lt64 : (t : Int) < 64 := by omega
          go_wp2_with fail
          refine wp_region_mild_all (by kernel_rfl) (by kernel_rfl) (fun W => SchedMem w W blk L) HT.out.drew ?_
          iterate 10 (refine wpMild_step (fun K hK => ?_); go_simp; apply Exists.intro; refine ⟨fun W hW => ?_, hK _ ?_⟩; (go_simp; first | done | exact rfl | exact ⟨rfl, hW⟩); clear hK K)
          refine wpMild_nil (fun wb hS => ?_)
          clear HT
          go_wp2_with fail
          refine wp_region_mild 29 (by kernel_rfl) (by kernel_rfl) (fun W => SchedMem w W blk L) hS.drew ?_
          simp only [List.take_succ_cons, List.take_zero, List.drop_succ_cons, List.drop_zero]
          iterate 6 (refine wpMild_step (fun K hK => ?_); go_simp; apply Exists.intro; refine ⟨fun W hW => ?_, hK _ ?_⟩; (go_simp; first | done | exact rfl | exact ⟨rfl, hW⟩); clear hK K)
          refine wpMild_step (fun K hK => ?_)
          go_simp
          apply Exists.intro
          refine ⟨fun W hW => ?_, hK _ ?_⟩
          · go_simp
            refine (ref_ror _ 7 (by simp) _).mono ?_
            rintro e w' ⟨rfl, hk⟩
            exact ⟨rfl, hW.kept hk⟩
          clear hK K
          iterate 1 (refine wpMild_step (fun K hK => ?_); go_simp; apply Exists.intro; refine ⟨fun W hW => ?_, hK _ ?_⟩; (go_simp; first | done | exact rfl | exact ⟨rfl, hW⟩); clear hK K)
          refine wpMild_step (fun K hK => ?_)
          go_simp
          apply Exists.intro
          refine ⟨fun W hW => ?_, hK _ ?_⟩
          · go_simp
            refine (ref_ror _ 18 (by simp) _).mono ?_
            rintro e w' ⟨rfl, hk⟩
            exact ⟨rfl, hW.kept hk⟩
          clear hK K
          iterate 11 (refine wpMild_step (fun K hK => ?_); go_simp; apply Exists.intro; refine ⟨fun W hW => ?_, hK _ ?_⟩; (go_simp; first | done | exact rfl | exact ⟨rfl, hW⟩); clear hK K)
          refine wpMild_step (fun K hK => ?_)
          go_simp
          apply Exists.intro
          refine ⟨fun W hW => ?_, hK _ ?_⟩
          · go_simp
            refine (ref_ror _ 17 (by simp) _).mono ?_
            rintro e w' ⟨rfl, hk⟩
            exact ⟨rfl, hW.kept hk⟩
          clear hK K
          iterate 1 (refine wpMild_step (fun K hK => ?_); go_simp; apply Exists.intro; refine ⟨fun W hW => ?_, hK _ ?_⟩; (go_simp; first | done | exact rfl | exact ⟨rfl, hW⟩); clear hK K)
          refine wpMild_step (fun K hK => ?_)
          go_simp
          apply Exists.intro
          refine ⟨fun W hW => ?_, hK _ ?_⟩
          · go_simp
            refine (ref_ror _ 19 (by simp) _).mono ?_
            rintro e w' ⟨rfl, hk⟩
            exact ⟨rfl, hW.kept hk⟩
          clear hK K
          iterate 6 (refine wpMild_step (fun K hK => ?_); go_simp; apply Exists.intro; refine ⟨fun W hW => ?_, hK _ ?_⟩; (go_simp; first | done | exact rfl | exact ⟨rfl, hW⟩); clear hK K)
          refine wpMild_nil (fun wc hS => ?_)
          have hl := (hS.zero (by rw [HL.out]; exact h64)).last
          have hz := hS.l.thaw L.length
          rw [HL.out] at hl hz
          have HT2 := Lib.hid (hS.zero (by rw [HL.out]; exact h64))
          clear hS c15 c2 c16 c7 w15 w2 w16 w7 l15 l2 l16 l7
          go_wp2_with fail
          go_roundw
          case rel =>
            refine ⟨t + 1, by omega, by omega, by show _ = _; go_num, ?_⟩
            have := HT2.out.set (by rw [HL.out]; exact h64) (mixW x16 x15 x7 x2)
            rw [HL.out] at this
            rw [HN.out]
            exact this
          case measure => simp [intOf]; omega
        · obtain rfl : t = 64 := by omega
          have HL : Hid ((schedN blk 64).length = 64) := schedN_length blk 64
          clear h16 ht h64
          generalize hLL : schedN blk 64 = L at *
          have HLL := Lib.hid hLL
          clear hLL
          have hb := HT.out.l
          rw [rowW_all HL.out] at hb
          have hl := HL.out
          have hsg := hb.seg 0 64 (L.map (Value.int .u32)) (by simpa using hl) (fun j _ => by rw [Nat.zero_add])
          have hb1 := HT.out.r
          have hrb : rowB wr (w.heap.size + 1) 64 = true := rowB_of (show wr.heap[w.heap.size + 1]? = some (.cells (zw64.map (Value.int .u32)).toArray 180 (0, 0)) from hb1) (by simp [zw64])
          have hb2 : Blk (wr.setRow (w.heap.size + 1) (w32A L)) (w.heap.size + 1) 180 (L.map (Value.int .u32)) := hb1.setRow _
          have hs2 := hb2.seg 0 64 (L.map (Value.int .u32)) (by simpa using hl) (fun j _ => by rw [Nat.zero_add])
          have HK : Hid (Kept w (wr.setRow (w.heap.size + 1) (w32A L))) := Lib.hid (Upd.setRow HT.out.k _ _ (fun h => absurd h (by omega)))
          have hsz : (w32A L).size = 64 := by rw [w32A_size]; exact hl
          obtain ⟨r1, r2⟩ := hsg
          obtain ⟨r3, r4⟩ := hs2
          change segV wr ⟨w.heap.size + 1 + 1, 0, none⟩ 64 = w32A L at r2
          change segV (wr.setRow (w.heap.size + 1) (w32A L)) ⟨w.heap.size + 1, 0, none⟩ 64 = w32A L at r4
          have HG := Lib.hid (And.intro r3 r4)
          clear hb hb1 hb2 hl r3 r4 HT
          go_wp2
          refine bodyPost_ret (v := .agg (w32A L)) ?_ rfl ⟨by rw [HLL.out], HK.out⟩
          rw [results_seg (P := Try.prog) (fn := Try.f131) rfl _ _ ⟨w.heap.size + 1, 0, none⟩ 64 _ rfl Try.underlying180 rfl sizeOf180 HG.out.1, HG.out.2]
end Go.Proofs.Ytnncpjekcljfbaa
/- The document's digest: Round. -/
namespace Go.Proofs.Ytnncpjekcljfbaa
open Go.RowKit

attribute [local irreducible] wpOrd wpOT
/-- Round's variables: the state, the block, the result -/
structure RndMem (w W : World) (st : List Int) (blk : Bytes) : Prop where
  k : Kept w W
  s : Blk W w.heap.size 181 (st.map (Value.int .u32))
  b : Blk W (w.heap.size + 1) 182 (encB blk)
  r : Blk W (w.heap.size + 1 + 1) 181 (zw8.map (Value.int .u32))
/-- .. and those of the rounds' numbers and the words, in the making: what each has -/
structure RndA (w W : World) (st : List Int) (blk : Bytes) (p q : Option (Nat × List Int)) : Prop where
  m : RndMem w W st blk
  bp : ∀ g l, p = some (g, l) → Blk W g 180 (l.map (Value.int .u32)) ∧ w.heap.size ≤ g
  bq : ∀ g l, q = some (g, l) → Blk W g 180 (l.map (Value.int .u32)) ∧ w.heap.size ≤ g
  ne : ∀ g l h m, p = some (g, l) → q = some (h, m) → g ≠ h
section
variable {w W W' : World} {st : List Int} {blk : Bytes} {p q : Option (Nat × List Int)} {g5 g6 : Nat} {l m : List Int}
theorem RndMem.new (w : World) (st : List Int) (blk : Bytes) : RndMem w (((w.alloc (.cells (w32A st) 181)).alloc (.cells (b8A blk) 182)).alloc (.cells (w32A zw8) 181)) st blk := by
  refine ⟨(((Upd.refl _ w).alloc _).alloc _).alloc _, ?_, ?_, ?_⟩
  · exact ((Blk.new w _ _).alloc _).alloc _
  · have := (Blk.new (w.alloc (.cells (w32A st) 181)) 182 (encB blk)).alloc (.cells (w32A zw8) 181)
    rwa [World.size_alloc] at this
  · have := Blk.new ((w.alloc (.cells (w32A st) 181)).alloc (.cells (b8A blk) 182)) 181 (zw8.map (Value.int .u32))
    rwa [World.size_alloc, World.size_alloc] at this
theorem RndMem.kept (h : RndMem w W st blk) (hu : Kept W W') : RndMem w W' st blk := ⟨h.k.trans hu, h.s.kept hu, h.b.kept hu, h.r.kept hu⟩
theorem RndMem.drew (h : RndMem w W st blk) : RndMem w W.drew st blk := ⟨h.k.drew, h.s, h.b, h.r⟩
/-- a block of another type turned -/
theorem RndMem.far (h : RndMem w W st blk) {g : Nat} {l : List Value} (hg : Blk W g 180 l) (hlo : w.heap.size ≤ g) (cs : Array Value) : RndMem w (W.setRow g cs) st blk := by
  have n1 : w.heap.size ≠ g := fun e => absurd (Blk.ty (e ▸ h.s) hg) (by decide)
  have n2 : w.heap.size + 1 ≠ g := fun e => absurd (Blk.ty (e ▸ h.b) hg) (by decide)
  have n3 : w.heap.size + 1 + 1 ≠ g := fun e => absurd (Blk.ty (e ▸ h.r) hg) (by decide)
  have hu : Upd (fun k => k = g) W (W.setRow g cs) := (Upd.refl _ _).setRow _ _ fun _ => rfl
  exact ⟨Upd.setRow h.k _ _ (fun h => absurd h (by omega)), h.s.upd hu n1, h.b.upd hu n2, h.r.upd hu n3⟩
theorem RndA.kept (h : RndA w W st blk p q) (hu : Kept W W') : RndA w W' st blk p q := ⟨h.m.kept hu, fun g l e => ⟨(h.bp g l e).1.kept hu, (h.bp g l e).2⟩, fun g l e => ⟨(h.bq g l e).1.kept hu, (h.bq g l e).2⟩, h.ne⟩
theorem RndA.alloc5 (h : RndA w W st blk none q) : RndA w (W.alloc (.cells (w32A zw64) 180)) st blk (some (W.heap.size, zw64)) q := by
  have hk : Kept W (W.alloc (.cells (w32A zw64) 180)) := (Upd.refl _ W).alloc _
  refine ⟨h.m.kept hk, fun g l e => ?_, fun g l e => ⟨(h.bq g l e).1.kept hk, (h.bq g l e).2⟩, fun g l h' m e e2 => ?_⟩
  · simp only [Option.some.injEq, Prod.mk.injEq] at e
    obtain ⟨rfl, rfl⟩ := e
    exact ⟨Blk.new W _ _, h.m.k.size⟩
  · simp only [Option.some.injEq, Prod.mk.injEq] at e
    obtain ⟨rfl, rfl⟩ := e
    have := (h.bq _ _ e2).1.lt
    omega
theorem RndA.alloc6 (h : RndA w W st blk p none) : RndA w (W.alloc (.cells (w32A zw64) 180)) st blk p (some (W.heap.size, zw64)) := by
  have hk : Kept W (W.alloc (.cells (w32A zw64) 180)) := (Upd.refl _ W).alloc _
  refine ⟨h.m.kept hk, fun g l e => ⟨(h.bp g l e).1.kept hk, (h.bp g l e).2⟩, fun g l e => ?_, fun g l h' m e e2 => ?_⟩
  · simp only [Option.some.injEq, Prod.mk.injEq] at e
    obtain ⟨rfl, rfl⟩ := e
    exact ⟨Blk.new W _ _, h.m.k.size⟩
  · simp only [Option.some.injEq, Prod.mk.injEq] at e2
    obtain ⟨rfl, rfl⟩ := e2
    have := (h.bp _ _ e).1.lt
    omega
theorem RndA.row5 (h : RndA w W st blk (some (g5, zw64)) q) : rowB W g5 64 = true := rowB_of (show W.heap[g5]? = some (.cells (zw64.map (Value.int .u32)).toArray 180 (0, 0)) from (h.bp _ _ rfl).1) (by simp [zw64])
theorem RndA.row6 (h : RndA w W st blk p (some (g6, zw64))) : rowB W g6 64 = true := rowB_of (show W.heap[g6]? = some (.cells (zw64.map (Value.int .u32)).toArray 180 (0, 0)) from (h.bq _ _ rfl).1) (by simp [zw64])
theorem RndA.store5 (h : RndA w W st blk (some (g5, l)) (some (g6, m))) (K : List Int) : RndA w (W.setRow g5 (w32A K)) st blk (some (g5, K)) (some (g6, m)) := by
  obtain ⟨hb, hlo⟩ := h.bp _ _ rfl
  obtain ⟨hb6, hlo6⟩ := h.bq _ _ rfl
  have hne := h.ne _ _ _ _ rfl rfl
  have hu : Upd (fun k => k = g5) W (W.setRow g5 (w32A K)) := (Upd.refl _ _).setRow _ _ fun _ => rfl
  refine ⟨h.m.far hb hlo _, fun g l e => ?_, fun g l e => ?_, fun g l h' m e e2 => ?_⟩
  · simp only [Option.some.injEq, Prod.mk.injEq] at e
    obtain ⟨rfl, rfl⟩ := e
    exact ⟨hb.setRow _, hlo⟩
  · simp only [Option.some.injEq, Prod.mk.injEq] at e
    obtain ⟨rfl, rfl⟩ := e
    exact ⟨hb6.upd hu (fun e => hne e.symm), hlo6⟩
  · simp only [Option.some.injEq, Prod.mk.injEq] at e e2
    rw [← e.1, ← e2.1]; exact hne
theorem RndA.store6 (h : RndA w W st blk (some (g5, l)) (some (g6, m))) (K : List Int) : RndA w (W.setRow g6 (w32A K)) st blk (some (g5, l)) (some (g6, K)) := by
  obtain ⟨hb, hlo⟩ := h.bp _ _ rfl
  obtain ⟨hb6, hlo6⟩ := h.bq _ _ rfl
  have hne := h.ne _ _ _ _ rfl rfl
  have hu : Upd (fun k => k = g6) W (W.setRow g6 (w32A K)) := (Upd.refl _ _).setRow _ _ fun _ => rfl
  refine ⟨h.m.far hb6 hlo6 _, fun g l e => ?_, fun g l e => ?_, fun g l h' m e e2 => ?_⟩
  · simp only [Option.some.injEq, Prod.mk.injEq] at e
    obtain ⟨rfl, rfl⟩ := e
    exact ⟨hb.upd hu hne, hlo⟩
  · simp only [Option.some.injEq, Prod.mk.injEq] at e
    obtain ⟨rfl, rfl⟩ := e
    exact ⟨hb6.setRow _, hlo6⟩
  · simp only [Option.some.injEq, Prod.mk.injEq] at e e2
    rw [← e.1, ← e2.1]; exact hne
end

/-- .. and s -/
structure RV (w W : World) (st : List Int) (blk : Bytes) (g5 g6 g7 : Nat) (L S : List Int) : Prop where
  a : RndA w W st blk (some (g5, rootsM)) (some (g6, L))
  s : Blk W g7 181 (S.map (Value.int .u32))
  n1 : g7 ≠ w.heap.size
  n3 : g7 ≠ w.heap.size + 1 + 1
  lo : w.heap.size ≤ g7
section
variable {w W W' : World} {st : List Int} {blk : Bytes} {g5 g6 g7 : Nat} {L S S' : List Int}
theorem RV.new (h : RndA w W st blk (some (g5, rootsM)) (some (g6, L))) : RV w (W.alloc (.cells (w32A S) 181)) st blk g5 g6 W.heap.size L S :=
  ⟨h.kept ((Upd.refl _ W).alloc _), Blk.new W _ _, by have := h.m.s.lt; omega, by have := h.m.r.lt; omega, h.m.k.size⟩
theorem RV.kept (h : RV w W st blk g5 g6 g7 L S) (hu : Kept W W') : RV w W' st blk g5 g6 g7 L S := ⟨h.a.kept hu, h.s.kept hu, h.n1, h.n3, h.lo⟩
theorem RV.drew (h : RV w W st blk g5 g6 g7 L S) : RV w W.drew st blk g5 g6 g7 L S := h.kept ((Upd.refl _ W).drew)
theorem RV.turn (h : RV w W st blk g5 g6 g7 L S) (hu : Upd (fun k => k = g7) W W') (hs : Blk W' g7 181 (S'.map (Value.int .u32))) : RV w W' st blk g5 g6 g7 L S' := by
  have n2 : w.heap.size + 1 ≠ g7 := fun e => absurd (Blk.ty (e ▸ h.a.m.b) h.s) (by decide)
  have hlo := h.lo
  refine ⟨⟨⟨h.a.m.k.then hu (fun k hk e => by omega), h.a.m.s.upd hu (fun e => h.n1 e.symm), h.a.m.b.upd hu n2, h.a.m.r.upd hu (fun e => h.n3 e.symm)⟩, fun g l e => ?_, fun g l e => ?_, h.a.ne⟩, hs, h.n1, h.n3, h.lo⟩
  · obtain ⟨h1, h2⟩ := h.a.bp g l e
    exact ⟨h1.upd hu (fun e => absurd (Blk.ty (e ▸ h1) h.s) (by decide)), h2⟩
  · obtain ⟨h1, h2⟩ := h.a.bq g l e
    exact ⟨h1.upd hu (fun e => absurd (Blk.ty (e ▸ h1) h.s) (by decide)), h2⟩
theorem RV.store (h : RV w W st blk g5 g6 g7 L S) (S' : List Int) : RV w (W.setRow g7 (w32A S')) st blk g5 g6 g7 L S' :=
  h.turn ((Upd.refl _ _).setRow _ _ fun _ => rfl) (h.s.setRow _)
theorem RV.set (h : RV w W st blk g5 g6 g7 L S) (k : Nat) (y : Int) : RV w (W.setCell ⟨g7, k, none⟩ (.int .u32 y)) st blk g5 g6 g7 L (S.set k y) :=
  h.turn ((Upd.refl _ _).setCell (p := ⟨g7, k, none⟩) _ fun _ => rfl) (by rw [List.map_set]; exact h.s.set k _)
theorem RV.word (h : RV w W st blk g5 g6 g7 L S) {k : Nat} (hk : k < S.length) : W.cell? ⟨g7, k, none⟩ = some (.int .u32 (S.getD k 0)) := by
  rw [h.s.cell (k := k) (v := .int .u32 (S[k])) (by rw [List.getElem?_map, List.getElem?_eq_getElem hk]; rfl)]; simp [hk]
theorem RV.row (h : RV w W st blk g5 g6 g7 L S) (hl : S.length = 8) : rowB W g7 8 = true := rowB_of (show W.heap[g7]? = some (.cells (S.map (Value.int .u32)).toArray 181 (0, 0)) from h.s) (by simp [hl])
theorem word_in {W : World} {g t : Nat} {S : List Int} (h : Blk W g t (S.map (Value.int .u32))) {k : Nat} (hk : k < S.length) : W.cell? ⟨g, k, none⟩ = some (.int .u32 (S.getD k 0)) := by
  rw [h.cell (k := k) (v := .int .u32 (S[k])) (by rw [List.getElem?_map, List.getElem?_eq_getElem hk]; rfl)]; simp [hk]
theorem addM_comm (a b : List Int) : addM a b = addM b a := by
  unfold addM
  rw [List.zipWith_comm]
  congr 1
  funext x y
  rw [Int.add_comm]
end

set_option maxHeartbeats 1600000 in
set_option maxRecDepth 20000 in
theorem ref_Round {w : World} {st : List Int} {blk : Bytes} (hs : st.length = 8) (hb : blk.length = 64) :
    Calls Try.prog 121 #[.agg (w32A st), .agg (b8A blk)] w fun e w' => e = .returned (.agg (w32A (takeM st blk rootsM))) ∧ Kept w w' := by
  have HF : Hid (RndA w _ st blk none none) := ⟨RndMem.new w st blk, fun _ _ h => (nomatch h), fun _ _ h => (nomatch h), fun _ _ _ _ h => (nomatch h)⟩
  have HB := Lib.hid hb
  have HS := Lib.hid hs
  have hK64 := rootsM_length
  have hL64 := schedN_length blk 64
  clear hb hs
  go_enter Try.func121, Try.ntmps121
  go_wp2_with fail
  generalize ((w.alloc (.cells (w32A st) 181)).alloc (.cells (b8A blk) 182)).alloc (.cells (w32A zw8) 181) = w0 at *
  refine wp_region_tree3 (.take 1 (.three 0 3 4 (.three 2 3 4 (.two 3 4 (.one 4 (.one 5 (.one 6 .done))) (.one 3 (.one 5 (.one 6 .done)))) (.two 2 4 (.one 4 (.one 5 (.one 6 .done))) (.one 2 (.one 5 (.one 6 .done)))) (.two 2 3 (.one 3 (.one 5 (.one 6 .done))) (.one 2 (.one 5 (.one 6 .done))))) (.two 0 4 (.two 2 4 (.one 4 (.one 5 (.one 6 .done))) (.one 2 (.one 5 (.one 6 .done)))) (.one 0 (.one 2 (.one 5 (.one 6 .done))))) (.two 0 3 (.two 2 3 (.one 3 (.one 5 (.one 6 .done))) (.one 2 (.one 5 (.one 6 .done)))) (.one 0 (.one 2 (.one 5 (.one 6 .done))))))) (by kernel_rfl) (by kernel_rfl) (fun W => RndMem w W st blk) HF.out.m.drew ?_
  simp only [OT3.ops, List.getD_cons_zero, List.getD_cons_succ]
  refine wpOT_mono (Q := fun a W => ∃ g5 g6, a = ⟨#[.agg (w32A st), .agg (b8A blk), .pointer (some ⟨w.heap.size, 0, none⟩), .pointer (some ⟨w.heap.size + 1, 0, none⟩), .pointer (some ⟨w.heap.size + 1 + 1, 0, none⟩), .pointer (some ⟨g5, 0, none⟩), .pointer (some ⟨g6, 0, none⟩), undef, undef, undef, undef, undef, undef, undef, undef, undef, undef, undef, .agg (w32A rootsM), .agg (b8A blk), .agg (w32A (schedN blk 64)), undef, undef, undef, undef, undef, undef, undef, undef, undef, undef, undef, undef, undef, undef, undef, undef, undef, undef, undef, undef, undef, undef, undef, undef, undef, undef, undef, undef, undef, undef, undef, undef, undef, undef, undef, undef, undef, undef, undef, undef, undef, undef, undef, undef, undef, undef, undef, undef, undef, undef, undef, undef, undef, undef, undef, undef, undef, undef, undef, undef, undef, undef, undef, undef, undef, undef, undef, undef, undef, undef, undef, undef, undef, undef, undef, undef, undef, undef, undef, undef, undef, undef, undef, undef, undef, undef, undef, undef, undef, undef, undef, undef, undef], []⟩ ∧ RndA w W st blk (some (g5, rootsM)) (some (g6, schedN blk 64))) ?_ _ _ _ ?_
  · rintro a W ⟨g5, g6, rfl, hV⟩
    obtain ⟨s0, s1, s2, s3, s4, s5, s6, s7, rfl⟩ := eight HS.out
    have hT := takeM_eight s0 s1 s2 s3 s4 s5 s6 s7 blk rootsM
    have HT := Lib.hid hT
    generalize hL : schedN blk 64 = L at *
    obtain ⟨t1, t2⟩ := hV.m.s.seg 0 8 ([s0, s1, s2, s3, s4, s5, s6, s7].map (Value.int .u32)) rfl (fun j _ => by rw [Nat.zero_add])
    change segV W ⟨w.heap.size, 0, none⟩ 8 = w32A [s0, s1, s2, s3, s4, s5, s6, s7] at t2
    have HV := Lib.hid (RV.new (S := [s0, s1, s2, s3, s4, s5, s6, s7]) hV)
    have HL := Lib.hid (And.intro hL64 hK64)
    clear hV hT HF hL hL64 hK64 HS
    go_wp2_with fail
    clear t1 t2
    generalize W.heap.size = g7 at *
    generalize W.alloc (.cells (w32A [s0, s1, s2, s3, s4, s5, s6, s7]) 181) = W1 at *
    go_loopw [8] (fun u wr => ∃ (t : Nat) (s : St8), t ≤ 64 ∧ u = .int .i64 t ∧ s = St8.rounds rootsM L t ⟨s0, s1, s2, s3, s4, s5, s6, s7⟩ ∧ RV w wr [s0, s1, s2, s3, s4, s5, s6, s7] blk g5 g6 g7 L s.list) (fun u _ => 64 - (intOf u).toNat)
    case atStart => exact ⟨0, ⟨s0, s1, s2, s3, s4, s5, s6, s7⟩, Nat.zero_le _, rfl, (rounds_zero _ _ _).symm, HV.out⟩
    case round =>
      clear HV
      obtain ⟨t, s, ht, rfl, hs, hv⟩ := hrel
      have HV := Lib.hid hv
      by_cases h64 : t < 64
      · have HS : Hid (St8.rounds rootsM L (t + 1) ⟨s0, s1, s2, s3, s4, s5, s6, s7⟩ = s.rnd (rootsM.getD t 0) (L.getD t 0)) := by show _ = _; rw [rounds_succ, ← hs]
        have ck : ∀ W, RV w W [s0, s1, s2, s3, s4, s5, s6, s7] blk g5 g6 g7 L s.list → W.cell? ⟨g5, t, none⟩ = some (.int .u32 (rootsM.getD t 0)) := fun W hW => word_in (hW.a.bp _ _ rfl).1 (by rw [HL.out.2]; exact h64)
        have cw : ∀ W, RV w W [s0, s1, s2, s3, s4, s5, s6, s7] blk g5 g6 g7 L s.list → W.cell? ⟨g6, t, none⟩ = some (.int .u32 (L.getD t 0)) := fun W hW => word_in (hW.a.bq _ _ rfl).1 (by rw [HL.out.1]; exact h64)
        generalize rootsM.getD t 0 = kt at *
        generalize L.getD t 0 = wt at *
        obtain ⟨a, b, c, d, e, f, g, hh⟩ := s
        have q0 : ∀ W, RV w W [s0, s1, s2, s3, s4, s5, s6, s7] blk g5 g6 g7 L (St8.list ⟨a, b, c, d, e, f, g, hh⟩) → W.cell? ⟨g7, 0, none⟩ = some (.int .u32 a) := fun W hW => hW.s.cell rfl
        have q1 : ∀ W, RV w W [s0, s1, s2, s3, s4, s5, s6, s7] blk g5 g6 g7 L (St8.list ⟨a, b, c, d, e, f, g, hh⟩) → W.cell? ⟨g7, 1, none⟩ = some (.int .u32 b) := fun W hW => hW.s.cell rfl
        have q2 : ∀ W, RV w W [s0, s1, s2, s3, s4, s5, s6, s7] blk g5 g6 g7 L (St8.list ⟨a, b, c, d, e, f, g, hh⟩) → W.cell? ⟨g7, 2, none⟩ = some (.int .u32 c) := fun W hW => hW.s.cell rfl
        have q3 : ∀ W, RV w W [s0, s1, s2, s3, s4, s5, s6, s7] blk g5 g6 g7 L (St8.list ⟨a, b, c, d, e, f, g, hh⟩) → W.cell? ⟨g7, 3, none⟩ = some (.int .u32 d) := fun W hW => hW.s.cell rfl
        have q4 : ∀ W, RV w W [s0, s1, s2, s3, s4, s5, s6, s7] blk g5 g6 g7 L (St8.list ⟨a, b, c, d, e, f, g, hh⟩) → W.cell? ⟨g7, 4, none⟩ = some (.int .u32 e) := fun W hW => hW.s.cell rfl
        have q5 : ∀ W, RV w W [s0, s1, s2, s3, s4, s5, s6, s7] blk g5 g6 g7 L (St8.list ⟨a, b, c, d, e, f, g, hh⟩) → W.cell? ⟨g7, 5, none⟩ = some (.int .u32 f) := fun W hW => hW.s.cell rfl
        have q6 : ∀ W, RV w W [s0, s1, s2, s3, s4, s5, s6, s7] blk g5 g6 g7 L (St8.list ⟨a, b, c, d, e, f, g, hh⟩) → W.cell? ⟨g7, 6, none⟩ = some (.int .u32 g) := fun W hW => hW.s.cell rfl
        have q7 : ∀ W, RV w W [s0, s1, s2, s3, s4, s5, s6, s7] blk g5 g6 g7 L (St8.list ⟨a, b, c, d, e, f, g, hh⟩) → W.cell? ⟨g7, 7, none⟩ = some (.int .u32 hh) := fun W hW => hW.s.cell rfl
        have lt64 : (t : Int) < 64 := by omega
        clear hs hv
        go_wp2_with fail
        refine wp_region_mild_all (by kernel_rfl) (by kernel_rfl) (fun W => RV w W [s0, s1, s2, s3, s4, s5, s6, s7] blk g5 g6 g7 L (St8.list ⟨a, b, c, d, e, f, g, hh⟩)) HV.out.drew ?_
        iterate 18 (refine wpMild_step (fun K hK => ?_); go_simp; apply Exists.intro; refine ⟨fun W hW => ?_, hK _ ?_⟩; (go_simp; first | done | exact rfl | exact ⟨rfl, hW⟩); clear hK K)
        refine wpMild_nil (fun wb hS => ?_)
        clear HV
        go_wp2_with fail
        refine wp_region_mild_all (by kernel_rfl) (by kernel_rfl) (fun W => RV w W [s0, s1, s2, s3, s4, s5, s6, s7] blk g5 g6 g7 L (St8.list ⟨a, b, c, d, e, f, g, hh⟩)) hS.drew ?_
        iterate 3 (refine wpMild_step (fun K hK => ?_); go_simp; apply Exists.intro; refine ⟨fun W hW => ?_, hK _ ?_⟩; (go_simp; first | done | exact rfl | exact ⟨rfl, hW⟩); clear hK K)
        refine wpMild_step (fun K hK => ?_)
        go_simp
        apply Exists.intro
        refine ⟨fun W hW => ?_, hK _ ?_⟩
        · go_simp
          refine (ref_ror _ 6 (by simp) _).mono ?_
          rintro e w' ⟨rfl, hk⟩
          exact ⟨rfl, hW.kept hk⟩
        clear hK K
        iterate 1 (refine wpMild_step (fun K hK => ?_); go_simp; apply Exists.intro; refine ⟨fun W hW => ?_, hK _ ?_⟩; (go_simp; first | done | exact rfl | exact ⟨rfl, hW⟩); clear hK K)
        refine wpMild_step (fun K hK => ?_)
        go_simp
        apply Exists.intro
        refine ⟨fun W hW => ?_, hK _ ?_⟩
        · go_simp
          refine (ref_ror _ 11 (by simp) _).mono ?_
          rintro e w' ⟨rfl, hk⟩
          exact ⟨rfl, hW.kept hk⟩
        clear hK K
        iterate 2 (refine wpMild_step (fun K hK => ?_); go_simp; apply Exists.intro; refine ⟨fun W hW => ?_, hK _ ?_⟩; (go_simp; first | done | exact rfl | exact ⟨rfl, hW⟩); clear hK K)
        refine wpMild_step (fun K hK => ?_)
        go_simp
        apply Exists.intro
        refine ⟨fun W hW => ?_, hK _ ?_⟩
        · go_simp
          refine (ref_ror _ 25 (by simp) _).mono ?_
          rintro e w' ⟨rfl, hk⟩
          exact ⟨rfl, hW.kept hk⟩
        clear hK K
        iterate 20 (refine wpMild_step (fun K hK => ?_); go_simp; apply Exists.intro; refine ⟨fun W hW => ?_, hK _ ?_⟩; (go_simp; first | done | exact rfl | exact ⟨rfl, hW⟩); clear hK K)
        refine wpMild_nil (fun wc hS2 => ?_)
        have HV := Lib.hid hS2
        clear hS hS2
        go_wp2_with fail
        refine (ref_ror _ 2 (by simp) _).mono ?_
        rintro e1 w6 ⟨rfl, hk⟩
        replace HV := Lib.hid (HV.out.kept hk)
        clear hk
        go_wp2_with fail
        refine (ref_ror _ 13 (by simp) _).mono ?_
        rintro e1 w7 ⟨rfl, hk⟩
        replace HV := Lib.hid (HV.out.kept hk)
        clear hk
        go_wp2_with fail
        refine (ref_ror _ 22 (by simp) _).mono ?_
        rintro e1 w8 ⟨rfl, hk⟩
        replace HV := Lib.hid (HV.out.kept hk)
        clear hk
        have hrow := HV.out.row rfl
        have c3 := q3 _ HV.out
        clear ck cw q0 q1 q2 q3 q4 q5 q6 q7
        go_wp2_with fail
        go_roundw
        case rel =>
          refine ⟨t + 1, St8.rnd ⟨a, b, c, d, e, f, g, hh⟩ kt wt, by omega, by show _ = _; go_num, by rw [HS.out], ?_⟩
          have hst := HV.out.store (St8.list (St8.rnd ⟨a, b, c, d, e, f, g, hh⟩ kt wt))
          simp only [St8.list, St8.rnd, St8.big, St8.small, notW, Int.emod_add_emod, Int.add_emod_emod] at hst ⊢
          exact hst
        case measure => simp [intOf]; omega
      · obtain ht64 : t = 64 := by omega
        have HF : Hid (s = St8.rounds rootsM L 64 ⟨s0, s1, s2, s3, s4, s5, s6, s7⟩) := by show _ = _; rw [hs, ht64]
        have hn64 : ¬ ((t : Int) < 64) := by omega
        clear hs hv ht h64 ht64
        go_wp2_with fail
        clear hn64
        go_loopw [17] (fun i wr => ∃ k : Nat, k ≤ 8 ∧ i = .int .i64 k ∧ RV w wr [s0, s1, s2, s3, s4, s5, s6, s7] blk g5 g6 g7 L (addTo s.list [s0, s1, s2, s3, s4, s5, s6, s7] k)) (fun i _ => 8 - (intOf i).toNat)
        case atStart => exact ⟨0, Nat.zero_le _, rfl, by rw [addTo_zero]; exact HV.out⟩
        case round =>
          clear HV
          obtain ⟨k, hk, rfl, hv⟩ := hrel
          rcases Nat.lt_or_ge k 8 with h8 | h8
          · have HSet := Lib.hid (addTo_set (st := s.list) (L := [s0, s1, s2, s3, s4, s5, s6, s7]) (n := 8) rfl rfl h8)
            have c1 : ∀ W, RV w W [s0, s1, s2, s3, s4, s5, s6, s7] blk g5 g6 g7 L (addTo s.list [s0, s1, s2, s3, s4, s5, s6, s7] k) → W.cell? ⟨g7, k, none⟩ = some (.int .u32 (s.list.getD k 0)) := fun W hW => hW.s.cell (by rw [List.getElem?_map, addTo_get (n := 8) rfl rfl h8]; rfl)
            have c2 : ∀ W, RV w W [s0, s1, s2, s3, s4, s5, s6, s7] blk g5 g6 g7 L (addTo s.list [s0, s1, s2, s3, s4, s5, s6, s7] k) → W.cell? ⟨w.heap.size, k, none⟩ = some (.int .u32 ([s0, s1, s2, s3, s4, s5, s6, s7].getD k 0)) := fun W hW => word_in hW.a.m.s (by simpa using h8)
            have HV := Lib.hid hv
            have h8' : (k : Int) < 8 := by omega
            clear hv
            generalize addTo s.list [s0, s1, s2, s3, s4, s5, s6, s7] k = SS at *
            generalize s.list.getD k 0 = x at *
            generalize [s0, s1, s2, s3, s4, s5, s6, s7].getD k 0 = y at *
            go_wp2_with fail
            refine wp_region_mild 9 (by kernel_rfl) (by kernel_rfl) (fun W => RV w W [s0, s1, s2, s3, s4, s5, s6, s7] blk g5 g6 g7 L SS) HV.out.drew ?_
            simp only [List.take_succ_cons, List.take_zero, List.drop_succ_cons, List.drop_zero]
            iterate 9 (refine wpMild_step (fun K hK => ?_); go_simp; apply Exists.intro; refine ⟨fun W hW => ?_, hK _ ?_⟩; (go_simp; first | done | exact rfl | exact ⟨rfl, hW⟩); clear hK K)
            refine wpMild_nil (fun wc hS => ?_)
            have hl := c1 _ hS
            have hz := hS.s.thaw k
            have HV2 := Lib.hid (hS.set k ((x + y) % 4294967296))
            clear hS c1 c2 HV
            go_wp2_with fail
            go_roundw
            case rel => exact ⟨k + 1, by omega, by show _ = _; go_num, by rw [← HSet.out]; exact HV2.out⟩
            case measure => simp [intOf]; omega
          · obtain hk8 : k = 8 := by omega
            have h8' : ¬ ((k : Int) < 8) := by omega
            rw [hk8, addTo_all (n := 8) rfl rfl, addM_comm, HF.out, ← HT.out] at hv
            have hl : (takeM [s0, s1, s2, s3, s4, s5, s6, s7] blk rootsM).length = 8 := takeM_length rfl _ _
            clear hk8 h8 hk
            generalize hR : takeM [s0, s1, s2, s3, s4, s5, s6, s7] blk rootsM = R at *
            have HR := Lib.hid hR
            clear hR
            have hsg := hv.s.seg 0 8 (R.map (Value.int .u32)) (by simpa using hl) (fun j _ => by rw [Nat.zero_add])
            have hb1 := hv.a.m.r
            have hrb : rowB wr (w.heap.size + 1 + 1) 8 = true := rowB_of (show wr.heap[w.heap.size + 1 + 1]? = some (.cells (zw8.map (Value.int .u32)).toArray 181 (0, 0)) from hb1) (by simp [zw8])
            have hb2 : Blk (wr.setRow (w.heap.size + 1 + 1) (w32A R)) (w.heap.size + 1 + 1) 181 (R.map (Value.int .u32)) := hb1.setRow _
            have hs2 := hb2.seg 0 8 (R.map (Value.int .u32)) (by simpa using hl) (fun j _ => by rw [Nat.zero_add])
            have HK : Hid (Kept w (wr.setRow (w.heap.size + 1 + 1) (w32A R))) := Lib.hid (Upd.setRow hv.a.m.k _ _ (fun h => absurd h (by omega)))
            have hsz : (w32A R).size = 8 := by rw [w32A_size]; exact hl
            obtain ⟨r1, r2⟩ := hsg
            obtain ⟨r3, r4⟩ := hs2
            change segV wr ⟨g7, 0, none⟩ 8 = w32A R at r2
            change segV (wr.setRow (w.heap.size + 1 + 1) (w32A R)) ⟨w.heap.size + 1 + 1, 0, none⟩ 8 = w32A R at r4
            have HG := Lib.hid (And.intro r3 r4)
            clear hb1 hb2 hl r3 r4 hv
            go_wp2
            refine bodyPost_ret (v := .agg (w32A R)) ?_ rfl (by rw [HR.out]; exact ⟨rfl, HK.out⟩)
            rw [results_seg (P := Try.prog) (fn := Try.f121) rfl _ _ ⟨w.heap.size + 1 + 1, 0, none⟩ 8 _ rfl Try.underlying181 rfl sizeOf181 HG.out.1, HG.out.2]
  · have b1 : ∀ W, RndMem w W st blk → segB W ⟨w.heap.size + 1, 0, none⟩ 64 = true := fun W hW => (hW.b.seg 0 64 (encB blk) (by rw [encB_length]; exact HB.out) (fun j _ => by rw [Nat.zero_add])).1
    have b2 : ∀ W, RndMem w W st blk → segV W ⟨w.heap.size + 1, 0, none⟩ 64 = b8A blk := fun W hW => (hW.b.seg 0 64 (encB blk) (by rw [encB_length]; exact HB.out) (fun j _ => by rw [Nat.zero_add])).2
    replace HF := Lib.hid (HF.out.kept ((Upd.refl (fun _ => False) w0).drew))
    generalize w0.drew = w0 at *
    iterate 1 (refine wpOT_held (fun K hK => ?_); go_simp; first | (apply Exists.intro; refine ⟨fun W hW => ?_, hK _ ?_⟩; (go_simp; first | done | exact rfl); clear hK K) | (refine hK _ ?_; clear hK K))
    clear b1 b2
    refine wpOT_three ?_ ?_ ?_ HF.out.m
    · skip
      intro K hK
      go_simp
      refine (ref_Roots w0).mono ?_
      rintro e w1n ⟨rfl, hk⟩
      replace HF := Lib.hid (HF.out.kept hk)
      refine hK _ _ HF.out.m ?_
      clear hK K hk
      refine wpOT_three ?_ ?_ ?_ HF.out.m
      · skip
        intro K hK
        go_simp
        refine (ref_Schedule (w := w1n) HB.out).mono ?_
        rintro e w2n ⟨rfl, hk⟩
        replace HF := Lib.hid (HF.out.kept hk)
        refine hK _ _ HF.out.m ?_
        clear hK K hk
        refine wpOT_fork ?_ ?_ HF.out.m
        · skip
          intro K hK
          go_simp
          replace HF := Lib.hid (HF.out.alloc5)
          refine hK _ _ HF.out.m ?_
          clear hK K
          generalize (w2n).heap.size = g5 at *
          generalize (w2n).alloc (.cells (w32A zw64) 180) = w3n at *
          refine wpOT_step ?_ HF.out.m
          intro K hK
          go_simp
          replace HF := Lib.hid (HF.out.alloc6)
          refine hK _ _ HF.out.m ?_
          clear hK K
          generalize (w3n).heap.size = g6 at *
          generalize (w3n).alloc (.cells (w32A zw64) 180) = w4n at *
          have hr5 := HF.out.row5
          have h6 := HF.out.store5 rootsM
          have hr6 := h6.row6
          have h7 := h6.store6 (schedN blk 64)
          refine wpOT_step ?_ HF.out.m
          intro K hK
          go_simp
          refine hK _ _ h6.m ?_
          clear hK K
          refine wpOT_step ?_ h6.m
          intro K hK
          go_simp
          refine hK _ _ h7.m ?_
          clear hK K
          refine wpOT_nil ?_
          exact ⟨g5, g6, rfl, h7⟩
        · skip
          intro K hK
          go_simp
          replace HF := Lib.hid (HF.out.alloc6)
          refine hK _ _ HF.out.m ?_
          clear hK K
          generalize (w2n).heap.size = g6 at *
          generalize (w2n).alloc (.cells (w32A zw64) 180) = w3n at *
          refine wpOT_step ?_ HF.out.m
          intro K hK
          go_simp
          replace HF := Lib.hid (HF.out.alloc5)
          refine hK _ _ HF.out.m ?_
          clear hK K
          generalize (w3n).heap.size = g5 at *
          generalize (w3n).alloc (.cells (w32A zw64) 180) = w4n at *
          have hr5 := HF.out.row5
          have h6 := HF.out.store5 rootsM
          have hr6 := h6.row6
          have h7 := h6.store6 (schedN blk 64)
          refine wpOT_step ?_ HF.out.m
          intro K hK
          go_simp
          refine hK _ _ h6.m ?_
          clear hK K
          refine wpOT_step ?_ h6.m
          intro K hK
          go_simp
          refine hK _ _ h7.m ?_
          clear hK K
          refine wpOT_nil ?_
          exact ⟨g5, g6, rfl, h7⟩
      · skip
        intro K hK
        go_simp
        replace HF := Lib.hid (HF.out.alloc5)
        refine hK _ _ HF.out.m ?_
        clear hK K
        generalize (w1n).heap.size = g5 at *
        generalize (w1n).alloc (.cells (w32A zw64) 180) = w2n at *
        refine wpOT_fork ?_ ?_ HF.out.m
        · skip
          intro K hK
          go_simp
          refine (ref_Schedule (w := w2n) HB.out).mono ?_
          rintro e w3n ⟨rfl, hk⟩
          replace HF := Lib.hid (HF.out.kept hk)
          refine hK _ _ HF.out.m ?_
          clear hK K hk
          refine wpOT_step ?_ HF.out.m
          intro K hK
          go_simp
          replace HF := Lib.hid (HF.out.alloc6)
          refine hK _ _ HF.out.m ?_
          clear hK K
          generalize (w3n).heap.size = g6 at *
          generalize (w3n).alloc (.cells (w32A zw64) 180) = w4n at *
          have hr5 := HF.out.row5
          have h6 := HF.out.store5 rootsM
          have hr6 := h6.row6
          have h7 := h6.store6 (schedN blk 64)
          refine wpOT_step ?_ HF.out.m
          intro K hK
          go_simp
          refine hK _ _ h6.m ?_
          clear hK K
          refine wpOT_step ?_ h6.m
          intro K hK
          go_simp
          refine hK _ _ h7.m ?_
          clear hK K
          refine wpOT_nil ?_
          exact ⟨g5, g6, rfl, h7⟩
        · skip
          intro K hK
          go_simp
          replace HF := Lib.hid (HF.out.alloc6)
          refine hK _ _ HF.out.m ?_
          clear hK K
          generalize (w2n).heap.size = g6 at *
          generalize (w2n).alloc (.cells (w32A zw64) 180) = w3n at *
          refine wpOT_step ?_ HF.out.m
          intro K hK
          go_simp
          refine (ref_Schedule (w := w3n) HB.out).mono ?_
          rintro e w4n ⟨rfl, hk⟩
          replace HF := Lib.hid (HF.out.kept hk)
          refine hK _ _ HF.out.m ?_
          clear hK K hk
          have hr5 := HF.out.row5
          have h6 := HF.out.store5 rootsM
          have hr6 := h6.row6
          have h7 := h6.store6 (schedN blk 64)
          refine wpOT_step ?_ HF.out.m
          intro K hK
          go_simp
          refine hK _ _ h6.m ?_
          clear hK K
          refine wpOT_step ?_ h6.m
          intro K hK
          go_simp
          refine hK _ _ h7.m ?_
          clear hK K
          refine wpOT_nil ?_
          exact ⟨g5, g6, rfl, h7⟩
      · skip
        intro K hK
        go_simp
        replace HF := Lib.hid (HF.out.alloc6)
        refine hK _ _ HF.out.m ?_
        clear hK K
        generalize (w1n).heap.size = g6 at *
        generalize (w1n).alloc (.cells (w32A zw64) 180) = w2n at *
        refine wpOT_fork ?_ ?_ HF.out.m
        · skip
          intro K hK
          go_simp
          refine (ref_Schedule (w := w2n) HB.out).mono ?_
          rintro e w3n ⟨rfl, hk⟩
          replace HF := Lib.hid (HF.out.kept hk)
          refine hK _ _ HF.out.m ?_
          clear hK K hk
          refine wpOT_step ?_ HF.out.m
          intro K hK
          go_simp
          replace HF := Lib.hid (HF.out.alloc5)
          refine hK _ _ HF.out.m ?_
          clear hK K
          generalize (w3n).heap.size = g5 at *
          generalize (w3n).alloc (.cells (w32A zw64) 180) = w4n at *
          have hr5 := HF.out.row5
          have h6 := HF.out.store5 rootsM
          have hr6 := h6.row6
          have h7 := h6.store6 (schedN blk 64)
          refine wpOT_step ?_ HF.out.m
          intro K hK
          go_simp
          refine hK _ _ h6.m ?_
          clear hK K
          refine wpOT_step ?_ h6.m
          intro K hK
          go_simp
          refine hK _ _ h7.m ?_
          clear hK K
          refine wpOT_nil ?_
          exact ⟨g5, g6, rfl, h7⟩
        · skip
          intro K hK
          go_simp
          replace HF := Lib.hid (HF.out.alloc5)
          refine hK _ _ HF.out.m ?_
          clear hK K
          generalize (w2n).heap.size = g5 at *
          generalize (w2n).alloc (.cells (w32A zw64) 180) = w3n at *
          refine wpOT_step ?_ HF.out.m
          intro K hK
          go_simp
          refine (ref_Schedule (w := w3n) HB.out).mono ?_
          rintro e w4n ⟨rfl, hk⟩
          replace HF := Lib.hid (HF.out.kept hk)
          refine hK _ _ HF.out.m ?_
          clear hK K hk
          have hr5 := HF.out.row5
          have h6 := HF.out.store5 rootsM
          have hr6 := h6.row6
          have h7 := h6.store6 (schedN blk 64)
          refine wpOT_step ?_ HF.out.m
          intro K hK
          go_simp
          refine hK _ _ h6.m ?_
          clear hK K
          refine wpOT_step ?_ h6.m
          intro K hK
          go_simp
          refine hK _ _ h7.m ?_
          clear hK K
          refine wpOT_nil ?_
          exact ⟨g5, g6, rfl, h7⟩
    · skip
      intro K hK
      go_simp
      replace HF := Lib.hid (HF.out.alloc5)
      refine hK _ _ HF.out.m ?_
      clear hK K
      generalize (w0).heap.size = g5 at *
      generalize (w0).alloc (.cells (w32A zw64) 180) = w1n at *
      refine wpOT_fork ?_ ?_ HF.out.m
      · skip
        intro K hK
        go_simp
        refine (ref_Roots w1n).mono ?_
        rintro e w2n ⟨rfl, hk⟩
        replace HF := Lib.hid (HF.out.kept hk)
        refine hK _ _ HF.out.m ?_
        clear hK K hk
        refine wpOT_fork ?_ ?_ HF.out.m
        · skip
          intro K hK
          go_simp
          refine (ref_Schedule (w := w2n) HB.out).mono ?_
          rintro e w3n ⟨rfl, hk⟩
          replace HF := Lib.hid (HF.out.kept hk)
          refine hK _ _ HF.out.m ?_
          clear hK K hk
          refine wpOT_step ?_ HF.out.m
          intro K hK
          go_simp
          replace HF := Lib.hid (HF.out.alloc6)
          refine hK _ _ HF.out.m ?_
          clear hK K
          generalize (w3n).heap.size = g6 at *
          generalize (w3n).alloc (.cells (w32A zw64) 180) = w4n at *
          have hr5 := HF.out.row5
          have h6 := HF.out.store5 rootsM
          have hr6 := h6.row6
          have h7 := h6.store6 (schedN blk 64)
          refine wpOT_step ?_ HF.out.m
          intro K hK
          go_simp
          refine hK _ _ h6.m ?_
          clear hK K
          refine wpOT_step ?_ h6.m
          intro K hK
          go_simp
          refine hK _ _ h7.m ?_
          clear hK K
          refine wpOT_nil ?_
          exact ⟨g5, g6, rfl, h7⟩
        · skip
          intro K hK
          go_simp
          replace HF := Lib.hid (HF.out.alloc6)
          refine hK _ _ HF.out.m ?_
          clear hK K
          generalize (w2n).heap.size = g6 at *
          generalize (w2n).alloc (.cells (w32A zw64) 180) = w3n at *
          refine wpOT_step ?_ HF.out.m
          intro K hK
          go_simp
          refine (ref_Schedule (w := w3n) HB.out).mono ?_
          rintro e w4n ⟨rfl, hk⟩
          replace HF := Lib.hid (HF.out.kept hk)
          refine hK _ _ HF.out.m ?_
          clear hK K hk
          have hr5 := HF.out.row5
          have h6 := HF.out.store5 rootsM
          have hr6 := h6.row6
          have h7 := h6.store6 (schedN blk 64)
          refine wpOT_step ?_ HF.out.m
          intro K hK
          go_simp
          refine hK _ _ h6.m ?_
          clear hK K
          refine wpOT_step ?_ h6.m
          intro K hK
          go_simp
          refine hK _ _ h7.m ?_
          clear hK K
          refine wpOT_nil ?_
          exact ⟨g5, g6, rfl, h7⟩
      · skip
        intro K hK
        go_simp
        replace HF := Lib.hid (HF.out.alloc6)
        refine hK _ _ HF.out.m ?_
        clear hK K
        generalize (w1n).heap.size = g6 at *
        generalize (w1n).alloc (.cells (w32A zw64) 180) = w2n at *
        refine wpOT_step ?_ HF.out.m
        intro K hK
        go_simp
        refine (ref_Roots w2n).mono ?_
        rintro e w3n ⟨rfl, hk⟩
        replace HF := Lib.hid (HF.out.kept hk)
        refine hK _ _ HF.out.m ?_
        clear hK K hk
        refine wpOT_step ?_ HF.out.m
        intro K hK
        go_simp
        refine (ref_Schedule (w := w3n) HB.out).mono ?_
        rintro e w4n ⟨rfl, hk⟩
        replace HF := Lib.hid (HF.out.kept hk)
        refine hK _ _ HF.out.m ?_
        clear hK K hk
        have hr5 := HF.out.row5
        have h6 := HF.out.store5 rootsM
        have hr6 := h6.row6
        have h7 := h6.store6 (schedN blk 64)
        refine wpOT_step ?_ HF.out.m
        intro K hK
        go_simp
        refine hK _ _ h6.m ?_
        clear hK K
        refine wpOT_step ?_ h6.m
        intro K hK
        go_simp
        refine hK _ _ h7.m ?_
        clear hK K
        refine wpOT_nil ?_
        exact ⟨g5, g6, rfl, h7⟩
    · skip
      intro K hK
      go_simp
      replace HF := Lib.hid (HF.out.alloc6)
      refine hK _ _ HF.out.m ?_
      clear hK K
      generalize (w0).heap.size = g6 at *
      generalize (w0).alloc (.cells (w32A zw64) 180) = w1n at *
      refine wpOT_fork ?_ ?_ HF.out.m
      · skip
        intro K hK
        go_simp
        refine (ref_Roots w1n).mono ?_
        rintro e w2n ⟨rfl, hk⟩
        replace HF := Lib.hid (HF.out.kept hk)
        refine hK _ _ HF.out.m ?_
        clear hK K hk
        refine wpOT_fork ?_ ?_ HF.out.m
        · skip
          intro K hK
          go_simp
          refine (ref_Schedule (w := w2n) HB.out).mono ?_
          rintro e w3n ⟨rfl, hk⟩
          replace HF := Lib.hid (HF.out.kept hk)
          refine hK _ _ HF.out.m ?_
          clear hK K hk
          refine wpOT_step ?_ HF.out.m
          intro K hK
          go_simp
          replace HF := Lib.hid (HF.out.alloc5)
          refine hK _ _ HF.out.m ?_
          clear hK K
          generalize (w3n).heap.size = g5 at *
          generalize (w3n).alloc (.cells (w32A zw64) 180) = w4n at *
          have hr5 := HF.out.row5
          have h6 := HF.out.store5 rootsM
          have hr6 := h6.row6
          have h7 := h6.store6 (schedN blk 64)
          refine wpOT_step ?_ HF.out.m
          intro K hK
          go_simp
          refine hK _ _ h6.m ?_
          clear hK K
          refine wpOT_step ?_ h6.m
          intro K hK
          go_simp
          refine hK _ _ h7.m ?_
          clear hK K
          refine wpOT_nil ?_
          exact ⟨g5, g6, rfl, h7⟩
        · skip
          intro K hK
          go_simp
          replace HF := Lib.hid (HF.out.alloc5)
          refine hK _ _ HF.out.m ?_
          clear hK K
          generalize (w2n).heap.size = g5 at *
          generalize (w2n).alloc (.cells (w32A zw64) 180) = w3n at *
          refine wpOT_step ?_ HF.out.m
          intro K hK
          go_simp
          refine (ref_Schedule (w := w3n) HB.out).mono ?_
          rintro e w4n ⟨rfl, hk⟩
          replace HF := Lib.hid (HF.out.kept hk)
          refine hK _ _ HF.out.m ?_
          clear hK K hk
          have hr5 := HF.out.row5
          have h6 := HF.out.store5 rootsM
          have hr6 := h6.row6
          have h7 := h6.store6 (schedN blk 64)
          refine wpOT_step ?_ HF.out.m
          intro K hK
          go_simp
          refine hK _ _ h6.m ?_
          clear hK K
          refine wpOT_step ?_ h6.m
          intro K hK
          go_simp
          refine hK _ _ h7.m ?_
          clear hK K
          refine wpOT_nil ?_
          exact ⟨g5, g6, rfl, h7⟩
      · skip
        intro K hK
        go_simp
        replace HF := Lib.hid (HF.out.alloc5)
        refine hK _ _ HF.out.m ?_
        clear hK K
        generalize (w1n).heap.size = g5 at *
        generalize (w1n).alloc (.cells (w32A zw64) 180) = w2n at *
        refine wpOT_step ?_ HF.out.m
        intro K hK
        go_simp
        refine (ref_Roots w2n).mono ?_
        rintro e w3n ⟨rfl, hk⟩
        replace HF := Lib.hid (HF.out.kept hk)
        refine hK _ _ HF.out.m ?_
        clear hK K hk
        refine wpOT_step ?_ HF.out.m
        intro K hK
        go_simp
        refine (ref_Schedule (w := w3n) HB.out).mono ?_
        rintro e w4n ⟨rfl, hk⟩
        replace HF := Lib.hid (HF.out.kept hk)
        refine hK _ _ HF.out.m ?_
        clear hK K hk
        have hr5 := HF.out.row5
        have h6 := HF.out.store5 rootsM
        have hr6 := h6.row6
        have h7 := h6.store6 (schedN blk 64)
        refine wpOT_step ?_ HF.out.m
        intro K hK
        go_simp
        refine hK _ _ h6.m ?_
        clear hK K
        refine wpOT_step ?_ h6.m
        intro K hK
        go_simp
        refine hK _ _ h7.m ?_
        clear hK K
        refine wpOT_nil ?_
        exact ⟨g5, g6, rfl, h7⟩
end Go.Proofs.Ytnncpjekcljfbaa
/- The document's digest: bytes copied, padded. -/
namespace Go.Proofs.Ytnncpjekcljfbaa
open Go.RowKit

theorem OwnB.nil (W : World) (B : Nat) : OwnB W B (.slice none 0 0) [] := ⟨rfl, .inl ⟨rfl, rfl⟩⟩
theorem Upd.none {W W' : World} (h : Upd (fun k => (Value.slice none 0 0).ownBlock = some k) W W') : Kept W W' := h.mono fun k _ e => by cases e
set_option maxHeartbeats 400000 in
theorem ref_CopyBytes {w : World} {A : Option Addr} {R : Bytes} (c : Nat) (hR : Byt w A R) (hl : R.length ≤ 140737488351232) :
    Calls Try.prog 24 #[.slice A R.length c] w fun e W => ∃ v, e = .returned v ∧ OwnB W w.heap.size v R ∧ Kept w W := by
  have HX := Lib.hid (And.intro hR hl)
  clear hR hl
  go_enter Try.func24, Try.ntmps24
  go_wp2_with (at_builtin; refine wpList_append_bytes rfl (.tmp 4) (.tmp 5) rfl rfl (OwnB.nil w w.heap.size) A c rfl HX.out.1 (by have := HX.out.2; simp only [List.length_nil]; omega) (Nat.le_refl _) ?_; intro v' W' hown hu)
  go_ret
  exact ⟨_, rfl, by simpa using hown, hu.none⟩

/-- what is padded, but for the length -/
def headM (R : Bytes) (j : Nat) : Bytes := R ++ (128 :: List.replicate j 0)
theorem headM_length (R : Bytes) (j : Nat) : (headM R j).length = R.length + 1 + j := by simp [headM]; omega
theorem headM_succ (R : Bytes) (j : Nat) : headM R (j + 1) = headM R j ++ [0] := by simp [headM, List.replicate_succ']
theorem headM_all (R : Bytes) : padM R = headM R ((119 - R.length % 64) % 64) ++ lenB R.length := by simp [padM, headM]
theorem lenB_get (n k : Nat) (hk : k < 8) : (lenB n)[k]? = some (byteW ((8 * n : Nat) / 2 ^ (8 * (7 - k)))) := by
  unfold lenB
  rw [List.getElem?_map, List.getElem?_range hk]
  rfl
theorem lenB_succ (n k : Nat) (hk : k < 8) : (lenB n).take (k + 1) = (lenB n).take k ++ [byteW ((8 * n : Nat) / 2 ^ (8 * (7 - k)))] := by
  have h1 : k < (lenB n).length := by rw [lenB_length]; exact hk
  rw [List.take_succ_eq_append_getElem h1]
  have h2 := lenB_get n k hk
  rw [List.getElem?_eq_getElem h1] at h2
  rw [Option.some.inj h2]

set_option maxHeartbeats 800000 in
set_option maxRecDepth 20000 in
theorem ref_Padded {w : World} {A : Option Addr} {R : Bytes} (c : Nat) (hR : Byt w A R) (hl : R.length ≤ 140737488351000) :
    Calls Try.prog 119 #[.slice A R.length c] w fun e W => ∃ v, e = .returned v ∧ OwnB W w.heap.size v (padM R) ∧ Kept w W := by
  have HX := Lib.hid (And.intro hR hl)
  clear hR hl
  go_enter Try.func119, Try.ntmps119
  go_wp2_with fail
  refine (ref_CopyBytes c HX.out.1 (by have := HX.out.2; omega)).mono ?_
  rintro e w1 ⟨v1, rfl, ho1, hu1⟩
  obtain ⟨v2, w2, hbs, hB2, hk2⟩ := run_bs1 128 w1
  change (sliceRow 35 1 #[(0, .int .u8 128)]).run Try.prog w1 = _ at hbs
  obtain ⟨A2, c2, rfl, hc2, hb2⟩ := byt_one hB2
  have HO := Lib.hid (And.intro (ho1.kept hk2) (And.intro hb2 (show Kept w w2 from hu1.then hk2 fun _ _ h => h)))
  clear ho1 hu1 hB2 hk2 hb2 hc2
  go_wp2_with (at_builtin; refine wpList_append_bytes (R := [128]) rfl (.tmp 7) (.tmp 8) rfl rfl HO.out.1 A2 c2 rfl HO.out.2.1 (by have := HX.out.2; simp only [List.length_singleton]; omega) HO.out.2.2.size ?_; intro v3 w3 hown3 hu3)
  clear hbs
  have HP : Hid (OwnB w3 w.heap.size v3 (headM R 0) ∧ Kept w w3) := ⟨by simpa [headM] using hown3, HO.out.2.2.then hu3 fun i hi e => by have := (HO.out.1.far _ e).1; omega⟩
  clear hown3 hu3 HO
  go_loopw [3] (fun v wr => ∃ j : Nat, j ≤ (119 - R.length % 64) % 64 ∧ OwnB wr w.heap.size v (headM R j) ∧ Kept w wr) (fun v _ => match v with | .slice _ n _ => R.length + 200 - n | _ => 0)
  case atStart => exact ⟨0, Nat.zero_le _, HP.out.1, HP.out.2⟩
  case round =>
    clear HP
    obtain ⟨j, hj, hown, hu⟩ := hrel
    obtain ⟨A3, c3, rfl, hc3, _⟩ := hown.form
    have hlen := headM_length R j
    have HW := Lib.hid (And.intro hown hu)
    obtain ⟨m, hm⟩ : ∃ m, m = (headM R j).length % 64 := ⟨_, rfl⟩
    have hm2 : ((headM R j).length : Int) % 64 = (m : Int) := by omega
    have hmw : IntKind.i64.wrap (m : Int) = (m : Int) := by rw [IntKind.wrap_i64]; omega
    have HN := Lib.hid (And.intro hlen hm)
    clear hown hu hc3 hlen hm
    rcases Nat.lt_or_ge j ((119 - R.length % 64) % 64) with hlt | hge
    · have hne : ¬ ((m : Int) = 56) := by have := HN.out; omega
      have hne2 : ¬ (m = 56) := by have := HN.out; omega
      have HLT := Lib.hid hlt
      obtain ⟨v4, w4, hbs, hB4, hk4⟩ := run_bs1 0 wr
      change (sliceRow 35 1 #[(0, .int .u8 0)]).run Try.prog wr = _ at hbs
      obtain ⟨A4, c4, rfl, hc4, hb4⟩ := byt_one hB4
      have hh := HW.out.1.kept hk4
      have HO := Lib.hid (And.intro hh (And.intro hb4 (show Kept w w4 from HW.out.2.then hk4 fun _ _ h => h)))
      clear hh hB4 hk4 hb4 hc4 hlt hj
      go_wp2_with (at_builtin; refine wpList_append_bytes (R := [0]) rfl (.tmp 14) (.tmp 15) rfl rfl HO.out.1 A4 c4 rfl HO.out.2.1 (by have := HN.out; have := HX.out.2; have := HLT.out; simp only [List.length_singleton]; omega) HO.out.2.2.size ?_; intro v5 w5 hown5 hu5)
      go_roundw
      case rel =>
        refine ⟨j + 1, by have := HLT.out; omega, by rw [headM_succ]; exact hown5, HO.out.2.2.then hu5 fun i hi e => ?_⟩
        have := (HO.out.1.far _ e).1
        omega
      case measure =>
        obtain ⟨A6, c6, rfl, _, _⟩ := hown5.form
        have h1 := HN.out.1
        have h2 := HLT.out
        simp only [List.length_append, List.length_singleton]
        omega
    · obtain rfl : j = (119 - R.length % 64) % 64 := by omega
      have heq : (m : Int) = 56 := by have := HN.out; omega
      have HM := Lib.hid (And.intro HW.out.1 (And.intro HW.out.2 HN.out.1))
      obtain ⟨b8, hb8⟩ : ∃ b8, b8 = 8 * R.length := ⟨_, rfl⟩
      have hw1 : IntKind.u64.wrap (R.length : Int) = (R.length : Int) := by rw [IntKind.wrap_u64]; have := HX.out.2; omega
      have hw2 : IntKind.u64.wrap (8 * (R.length : Int)) = (b8 : Int) := by rw [IntKind.wrap_u64]; have := HX.out.2; omega
      have H8 := Lib.hid hb8
      have HZ := Lib.hid (headM_all R)
      generalize headM R ((119 - R.length % 64) % 64) = H at *
      clear HW HN hge hj hb8
      go_wp2_with fail
      clear hm2 hmw hw1 hw2 heq
      go_loopw [5, 3] (fun u v wr => ∃ k : Nat, k ≤ 8 ∧ u = .int .i64 (7 - (k : Int)) ∧ OwnB wr w.heap.size v (H ++ (lenB R.length).take k) ∧ Kept w wr) (fun u _ _ => ((intOf u) + 1).toNat)
      case atStart => exact ⟨0, by omega, by simp, by simpa using HM.out.1, HM.out.2.1⟩
      case round =>
        obtain ⟨k, hk, rfl, hown, hu⟩ := hrel
        rcases Nat.lt_or_ge k 8 with hlt | hge
        · obtain ⟨i, hi⟩ : ∃ i, i = 7 - k := ⟨_, rfl⟩
          have hik : 7 - (k : Int) = (i : Int) := by omega
          rw [hik]
          obtain ⟨ee, hee⟩ : ∃ ee, ee = 8 * i := ⟨_, rfl⟩
          have hwe : IntKind.i64.wrap (8 * (i : Int)) = (ee : Int) := by rw [IntKind.wrap_i64]; omega
          have hme : min ee 64 = ee := by omega
          have hi0 : (0 : Int) ≤ (i : Int) := by omega
          have hie : (i : Int) ≤ 7 := by omega
          have HS := Lib.hid (lenB_succ R.length k hlt)
          rw [show ((8 * R.length : Nat) : Int) = (b8 : Int) by rw [H8.out], show 8 * (7 - k) = ee by omega] at HS
          have hby := byteW_val ((b8 : Int) / 2 ^ ee)
          generalize byteW ((b8 : Int) / 2 ^ ee) = cb at *
          obtain ⟨v4, w4, hbs, hB4, hk4⟩ := run_bs1 cb wr
          obtain ⟨A4, c4, rfl, hc4, hb4⟩ := byt_one hB4
          have HO := Lib.hid (And.intro (hown.kept hk4) (And.intro hb4 (show Kept w w4 from hu.then hk4 fun _ _ h => h)))
          have HLN := Lib.hid (show (H ++ (lenB R.length).take k).length ≤ 140737488351200 by rw [List.length_append, List.length_take, lenB_length, HM.out.2.2]; have := HX.out.2; omega)
          have HK := Lib.hid (And.intro hlt (And.intro hi hik))
          have hby2 : (b8 : Int) / 2 ^ ee % 256 = (cb.toNat : Int) := hby.symm
          clear hown hu hB4 hk4 hb4 hc4 hby hee hi hik hlt hk
          go_wp2_with (at_builtin; refine wpList_append_bytes (R := [cb]) rfl (.tmp 25) (.tmp 31) rfl rfl HO.out.1 A4 c4 rfl HO.out.2.1 (by have := HLN.out; simp only [List.length_singleton]; omega) HO.out.2.2.size ?_; intro v5 w5 hown5 hu5)
          go_roundw
          case rel =>
            refine ⟨k + 1, by have := HK.out; omega, by first | trivial | (have := HK.out; omega) | (show _ = _; congr 1; have := HK.out; omega), by rw [HS.out, ← List.append_assoc]; exact hown5, HO.out.2.2.then hu5 fun i hi e => ?_⟩
            have := (HO.out.1.far _ e).1
            omega
          case measure => have := HK.out; simp [intOf] <;> omega
        · obtain rfl : k = 8 := by omega
          rw [List.take_of_length_le (by rw [lenB_length]; omega), ← HZ.out] at hown
          have HF := Lib.hid (And.intro hown hu)
          have hneg : ¬ ((0 : Int) ≤ 7 - ((8 : Nat) : Int)) := by omega
          clear hown hu hk hge
          go_wp2
          go_ret
          exact ⟨_, rfl, HF.out.1, HF.out.2⟩
end Go.Proofs.Ytnncpjekcljfbaa
/- The document's digest is the program's. -/
namespace Go.Proofs.Ytnncpjekcljfbaa
open Go.RowKit

/-- Of's variables: the result, the state -/
structure OfMem (w W : World) (g4 : Nat) (st : List Int) (v : Value) (P : Bytes) (B : Nat) : Prop where
  k : Kept w W
  r : Blk W w.heap.size 46 (encB dig0.1)
  s : Blk W g4 181 (st.map (Value.int .u32))
  p : OwnB W B v P
  lo : w.heap.size ≤ g4
section
variable {w W W' : World} {g4 B : Nat} {st st' : List Int} {v : Value} {P : Bytes}
theorem OfMem.kept (h : OfMem w W g4 st v P B) (hu : Kept W W') : OfMem w W' g4 st v P B := ⟨h.k.trans hu, h.r.kept hu, h.s.kept hu, h.p.kept hu, h.lo⟩
theorem OwnB.blk {W : World} {B g : Nat} {v : Value} {P : Bytes} (h : OwnB W B v P) (e : v.ownBlock = some g) : ∃ cur, W.heap[g]? = some (.cells cur 5 (0, 0)) := by
  rcases h.2 with ⟨rfl, _⟩ | ⟨g', cap, cur, rfl, hb, hg, _⟩
  · cases e
  · cases e; exact ⟨cur, hg⟩
theorem OfMem.turn (h : OfMem w W g4 st v P B) (cs : List Int) : OfMem w (W.setRow g4 (w32A cs)) g4 cs v P B := by
  have hu : Upd (fun k => k = g4) W (W.setRow g4 (w32A cs)) := (Upd.refl _ _).setRow _ _ fun _ => rfl
  have hlo := h.lo
  refine ⟨Upd.setRow h.k _ _ (fun h => absurd h (by omega)), h.r.upd hu (fun e => absurd (Blk.ty (e ▸ h.r) h.s) (by decide)), h.s.setRow _, h.p.upd hu (fun k e e2 => ?_), h.lo⟩
  obtain ⟨cur, hc⟩ := h.p.blk e
  have e3 : k = g4 := e2
  subst e3
  have h1 := h.s
  unfold Blk at h1
  rw [h1] at hc
  simp only [Option.some.injEq, Obj.cells.injEq] at hc
  exact absurd hc.2.1 (by decide)
/-- another block, with a byte's type of its own, turned -/
theorem OfMem.blk (h : OfMem w W g4 st v P B) {g : Nat} {l : List Value} (hg : Blk W g 182 l) (hlo : w.heap.size ≤ g) (hu : Upd (fun k => k = g) W W') : OfMem w W' g4 st v P B := by
  refine ⟨h.k.then hu (fun k hk e => by omega), h.r.upd hu (fun e => absurd (Blk.ty (e ▸ h.r) hg) (by decide)), h.s.upd hu (fun e => absurd (Blk.ty (e ▸ h.s) hg) (by decide)), h.p.upd hu (fun k e e2 => ?_), h.lo⟩
  obtain ⟨cur, hc⟩ := h.p.blk e
  have e3 : k = g := e2
  subst e3
  unfold Blk at hg
  rw [hg] at hc
  simp only [Option.some.injEq, Obj.cells.injEq] at hc
  exact absurd hc.2.1 (by decide)
end
theorem padM_mod (R : Bytes) : ∃ N, (padM R).length = 64 * N ∧ (padM R).length / 64 = N := by
  have h : (padM R).length = R.length + 1 + (119 - R.length % 64) % 64 + 8 := by simp [padM]; omega
  exact ⟨(padM R).length / 64, by omega, rfl⟩
theorem fillB_block {P : Bytes} {q N k : Nat} (h : P.length = 64 * N) (hq : q < N) (hk : k < 64) : 64 * q + k < P.length := by
  have : 64 * (q + 1) ≤ 64 * N := Nat.mul_le_mul_left 64 hq
  omega

set_option maxHeartbeats 1600000 in
set_option maxRecDepth 20000 in
theorem ref_ShaOf {w : World} {A : Option Addr} {R : Bytes} (c : Nat) (hR : Byt w A R) (hl : R.length ≤ 140737488351000) :
    Calls Try.prog 109 #[.slice A R.length c] w fun e W => e = .returned (.agg (dA (shaM R))) ∧ Kept w W := by
  have hR1 := hR.kept ((Upd.refl (fun _ => False) w).alloc (.cells (dA dig0) 46))
  have hr1 : Blk (w.alloc (.cells (dA dig0) 46)) w.heap.size 46 (encB dig0.1) := Blk.new w _ _
  have hk1 : Kept w (w.alloc (.cells (dA dig0) 46)) := (Upd.refl _ w).alloc _
  generalize hW1 : w.alloc (.cells (dA dig0) 46) = w1 at *
  have HX := Lib.hid (And.intro hR1 (And.intro hr1 (And.intro hk1 hl)))
  clear hR hR1 hr1 hk1 hl
  go_enter Try.func109, Try.ntmps109
  go_wp2_with fail
  refine (ref_Padded c HX.out.1 HX.out.2.2.2).mono ?_
  rintro e w2 ⟨v, rfl, ho, hu2⟩
  have H2 := Lib.hid (And.intro ho (And.intro (HX.out.2.1.kept hu2) (show Kept w w2 from HX.out.2.2.1.then hu2 (fun _ _ h => h))))
  clear ho hu2
  go_wp2_with fail
  refine (ref_First _).mono ?_
  rintro e w3 ⟨rfl, hu3⟩
  have hal : Kept w3 (w3.alloc (.cells (w32A startM) 181)) := (Upd.refl _ w3).alloc _
  have hS : OfMem w (w3.alloc (.cells (w32A startM) 181)) w3.heap.size startM v (padM R) w1.heap.size :=
    ⟨(H2.out.2.2.then hu3 (fun _ _ h => h)).then hal (fun _ _ h => h), (H2.out.2.1.kept hu3).kept hal, Blk.new w3 _ _, (H2.out.1.kept hu3).kept hal, by have := H2.out.2.2.size; have := hu3.size; omega⟩
  have HS := Lib.hid hS
  have HRL := Lib.hid HX.out.2.2.2
  have hs8 := startM_length
  clear hu3 hal hS H2 HX
  go_wp2_with fail
  generalize w3.heap.size = g4 at *
  generalize w3.alloc (.cells (w32A startM) 181) = w4 at *
  clear hs8
  obtain ⟨N, hN, hN2⟩ := padM_mod R
  have hPL := Lib.hid (show ((padM R).length : Int) ≤ 140737488352000 by have h := (show (padM R).length = R.length + 1 + (119 - R.length % 64) % 64 + 8 by simp [padM]; omega); have := HRL.out; omega)
  have hsha : Hid (shaM R = outM (absorbN rootsM startM (padM R) N)) := by show _ = _; rw [shaM, hN2]
  have h0 : absorbN rootsM startM (padM R) 0 = startM := by simp only [absorbN]
  generalize padM R = P at *
  obtain ⟨A0, c0, rfl, _, _⟩ := HS.out.p.form
  have HN := Lib.hid hN
  clear hN hN2
  have H0 := Lib.hid h0
  clear h0
  go_loopw [5] (fun u wr => ∃ q : Nat, q ≤ N ∧ u = .int .i64 (64 * q : Nat) ∧ OfMem w wr g4 (absorbN rootsM startM P q) (.slice A0 P.length c0) P w1.heap.size) (fun u _ => 64 * N + 64 - (intOf u).toNat)
  case atStart => exact ⟨0, Nat.zero_le _, rfl, by rw [H0.out]; exact HS.out⟩
  case round =>
    clear HS
    obtain ⟨q, hq, rfl, hm⟩ := hrel
    have hsl : (absorbN rootsM startM P q).length = 8 := absorbN_length startM_length q
    rcases Nat.lt_or_ge q N with hlt | hge
    · have hnext : absorbN rootsM startM P (q + 1) = takeM (absorbN rootsM startM P q) ((P.drop (64 * q)).take 64) rootsM := by simp only [absorbN]
      have hbl : ((P.drop (64 * q)).take 64).length = 64 := by
        have h1 := HN.out
        have h2 : 64 * (q + 1) ≤ 64 * N := Nat.mul_le_mul_left 64 hlt
        rw [List.length_take, List.length_drop]; omega
      have hget : ∀ k (hk : k < 64), ∃ (h : 64 * q + k < P.length) (h2 : k < ((P.drop (64 * q)).take 64).length), P[64 * q + k] = ((P.drop (64 * q)).take 64)[k] := fun k hk => ⟨fillB_block HN.out hlt hk, by rw [hbl]; exact hk, by simp⟩
      have hPl : P.length = 64 * N := HN.out
      have hNb : 64 * q < P.length := by have := fillB_block HN.out hlt (show 0 < 64 by omega); omega
      have hPb : (P.length : Int) ≤ 140737488352000 := hPL.out
      generalize (P.drop (64 * q)).take 64 = blk at *
      obtain ⟨aq, haq⟩ : ∃ aq, aq = 64 * q := ⟨_, rfl⟩
      rw [← haq] at hget hNb ⊢
      have haqP : (aq : Int) < (P.length : Int) := by omega
      have HH := Lib.hid (And.intro hget (And.intro hbl (And.intro hnext (And.intro hsl (And.intro haq (And.intro hlt hPb))))))
      generalize absorbN rootsM startM P q = st at *
      have hk0 : Kept wr (wr.alloc (.cells (b8A zb64) 182)) := (Upd.refl _ wr).alloc _
      have hb0 : Blk (wr.alloc (.cells (b8A zb64) 182)) wr.heap.size 182 (fillV (fun c : UInt8 => Value.int .u8 (c.toNat : Int)) (.int .u8 0) blk 64 0) := by
        have := Blk.new wr 182 (fillV (fun c : UInt8 => Value.int .u8 (c.toNat : Int)) (.int .u8 0) blk 64 0)
        rwa [show (fillV (fun c : UInt8 => Value.int .u8 (c.toNat : Int)) (.int .u8 0) blk 64 0).toArray = b8A zb64 by simp [fillV, b8A, zb64, encB]] at this
      have HM := Lib.hid (And.intro (hm.kept hk0) (And.intro hb0 hm.k.size))
      clear hm hk0 hb0 hget hbl hnext hsl haq hlt hNb hPl hq hPb
      go_wp2_with fail
      generalize wr.heap.size = g6 at *
      generalize wr.alloc (.cells (b8A zb64) 182) = w5 at *
      go_loopw [7] (fun u wr => ∃ k : Nat, k ≤ 64 ∧ u = .int .i64 k ∧ OfMem w wr g4 st (.slice A0 P.length c0) P w1.heap.size ∧ Blk wr g6 182 (fillV (fun c : UInt8 => Value.int .u8 (c.toNat : Int)) (.int .u8 0) blk 64 k)) (fun u _ => 64 - (intOf u).toNat)
      case atStart => exact ⟨0, Nat.zero_le _, rfl, HM.out.1, HM.out.2.1⟩
      case round =>
        obtain ⟨k, hk, rfl, hm, hb⟩ := hrel
        rcases Nat.lt_or_ge k 64 with h64 | h64
        · obtain ⟨hp1, hp2, hpe⟩ := HH.out.1 k h64
          obtain ⟨A1, c1, hA1, _, hbyt⟩ := hm.p.form
          simp only [Value.slice.injEq] at hA1
          obtain ⟨rfl, -, rfl⟩ := hA1
          obtain ⟨bb, off, rfl, hc⟩ := hbyt.get hp1
          obtain ⟨mm, hmm⟩ : ∃ mm, mm = aq + k := ⟨_, rfl⟩
          rw [hpe, ← hmm] at hc
          have hww : IntKind.i64.wrap ((aq : Int) + (k : Int)) = (mm : Int) := by rw [IntKind.wrap_i64]; have := HH.out.2.2.2.2.2.2; omega
          have hmP : (mm : Int) < (P.length : Int) := by omega
          have hcz := hb.cell (fillV_zero (f := fun c : UInt8 => Value.int .u8 (c.toNat : Int)) (z := .int .u8 0) h64 hp2)
          have hz := hb.thaw k
          have hset := Lib.hid (fillV_set (f := fun c : UInt8 => Value.int .u8 (c.toNat : Int)) (z := .int .u8 0) h64 hp2)
          have HB := Lib.hid (And.intro hm hb)
          generalize blk[k] = cb at *
          have hk6 : (k : Int) < 64 := by omega
          clear hm hb hbyt hpe hp1 hp2 hmm
          go_wp2_with fail
          go_roundw
          case rel =>
            refine ⟨k + 1, by omega, by show _ = _; go_num, HB.out.1.blk HB.out.2 HM.out.2.2 ((Upd.refl _ _).setCell (p := ⟨g6, k, none⟩) _ fun _ => rfl), ?_⟩
            have := HB.out.2.set k (.int .u8 (cb.toNat : Int))
            rwa [hset.out] at this
          case measure => simp [intOf]; omega
        · obtain hk64 : k = 64 := by omega
          have hk6 : ¬ ((k : Int) < 64) := by omega
          rw [hk64, fillV_all _ _ HH.out.2.1] at hb
          obtain ⟨u1, u2⟩ := hb.seg 0 64 (encB blk) (by rw [encB_length]; exact HH.out.2.1) (fun j _ => by rw [Nat.zero_add]; rfl)
          change segV wr ⟨g6, 0, none⟩ 64 = b8A blk at u2
          have hsl := HH.out.2.2.2.1
          obtain ⟨t1, t2⟩ := hm.s.seg 0 8 (st.map (Value.int .u32)) (by simpa using hsl) (fun j _ => by rw [Nat.zero_add])
          change segV wr ⟨g4, 0, none⟩ 8 = w32A st at t2
          have HB := Lib.hid hm
          clear hm hb hk64 h64 hk hsl
          go_wp2_with fail
          refine (ref_Round HH.out.2.2.2.1 HH.out.2.1).mono ?_
          rintro e w6 ⟨rfl, hu6⟩
          have hm6 := HB.out.kept hu6
          have hsl2 : (takeM st blk rootsM).length = 8 := takeM_length HH.out.2.2.2.1 _ _
          have hr4 : rowB w6 g4 8 = true := rowB_of (show w6.heap[g4]? = some (.cells (st.map (Value.int .u32)).toArray 181 (0, 0)) from hm6.s) (by simp [HH.out.2.2.2.1])
          have hsz : (w32A (takeM st blk rootsM)).size = 8 := by rw [w32A_size]; exact hsl2
          have HT := Lib.hid (hm6.turn (takeM st blk rootsM))
          have hwa : IntKind.i64.wrap ((aq : Int) + 64) = ((aq + 64 : Nat) : Int) := by rw [IntKind.wrap_i64]; have := HH.out.2.2.2.2.2.2; omega
          clear hu6 hm6 hsl2 t1 t2 u1 u2 HB
          generalize takeM st blk rootsM = st2 at *
          go_wp2_with fail
          go_roundw
          case rel => exact ⟨q + 1, by have := HH.out.2.2.2.2.2.1; omega, by show _ = _; have := HH.out.2.2.2.2.1; congr 1; omega, by rw [HH.out.2.2.1]; exact HT.out⟩
          case measure => have := HH.out.2.2.2.2; simp [intOf]; omega
    · obtain hqN : q = N := by omega
      obtain ⟨aq, haq⟩ : ∃ aq, aq = 64 * q := ⟨_, rfl⟩
      rw [← haq]
      have haqP : ¬ ((aq : Int) < (P.length : Int)) := by have := HN.out; omega
      rw [hqN] at hm hsl
      have HD := Lib.hid (show shaM R = outM (absorbN rootsM startM P N) from hsha.out)
      generalize absorbN rootsM startM P N = st at *
      have hk0 : Kept wr (wr.alloc (.cells (dA dig0) 46)) := (Upd.refl _ wr).alloc _
      have hb0 : Blk (wr.alloc (.cells (dA dig0) 46)) wr.heap.size 46 (fillV (fun c : UInt8 => Value.int .u8 (c.toNat : Int)) (.int .u8 0) (outL st) 32 0) := by
        have := Blk.new wr 46 (fillV (fun c : UInt8 => Value.int .u8 (c.toNat : Int)) (.int .u8 0) (outL st) 32 0)
        rwa [show (fillV (fun c : UInt8 => Value.int .u8 (c.toNat : Int)) (.int .u8 0) (outL st) 32 0).toArray = dA dig0 by simp [fillV, dA, dig0, encB]] at this
      have hm5 := hm.kept hk0
      have HM := Lib.hid (And.intro hm5.k (And.intro hm5.r (And.intro hm5.s (And.intro hb0 (And.intro hm.k.size (And.intro hm.r.lt hsl))))))
      clear hm hk0 hb0 haq hqN hq hge hm5 hsl
      go_wp2_with fail
      generalize hg8 : wr.heap.size = g8 at *
      generalize wr.alloc (.cells (dA dig0) 46) = w5 at *
      clear haqP
      go_loopw [9] (fun u wr => ∃ k : Nat, k ≤ 32 ∧ u = .int .i64 k ∧ Kept w wr ∧ Blk wr w.heap.size 46 (encB dig0.1) ∧ Blk wr g4 181 (st.map (Value.int .u32)) ∧ Blk wr g8 46 (fillV (fun c : UInt8 => Value.int .u8 (c.toNat : Int)) (.int .u8 0) (outL st) 32 k)) (fun u _ => 64 - (intOf u).toNat)
      case atStart => exact ⟨0, Nat.zero_le _, rfl, HM.out.1, HM.out.2.1, HM.out.2.2.1, HM.out.2.2.2.1⟩
      case round =>
        obtain ⟨k, hk, rfl, hu, hr, hs, hb⟩ := hrel
        rcases Nat.lt_or_ge k 32 with h32 | h32
        · have hkl : k < (outL st).length := by simpa [outL] using h32
          have hval : (outL st)[k] = byteW (st.getD (k / 4) 0 / 2 ^ (24 - 8 * (k % 4))) := by simp [outL]
          have hcz := hb.cell (fillV_zero (f := fun c : UInt8 => Value.int .u8 (c.toNat : Int)) (z := .int .u8 0) h32 hkl)
          have hz := hb.thaw k
          have hset := Lib.hid (fillV_set (f := fun c : UInt8 => Value.int .u8 (c.toNat : Int)) (z := .int .u8 0) h32 hkl)
          have hsl := HM.out.2.2.2.2.2.2
          have hword := word_in hs (k := k / 4) (by omega)
          obtain ⟨q4, hq4⟩ : ∃ q4, q4 = k / 4 := ⟨_, rfl⟩
          obtain ⟨r4, hr4⟩ : ∃ r4, r4 = k % 4 := ⟨_, rfl⟩
          obtain ⟨r8, hr8⟩ : ∃ r8, r8 = 8 * r4 := ⟨_, rfl⟩
          obtain ⟨ee, hee⟩ : ∃ ee, ee = 24 - r8 := ⟨_, rfl⟩
          rw [← hq4] at hword hval
          rw [← hr4, ← hr8, ← hee] at hval
          have d1 : (k : Int) / 4 = (q4 : Int) := by omega
          have d2 : IntKind.i64.wrap (q4 : Int) = (q4 : Int) := by rw [IntKind.wrap_i64]; omega
          have d3 : (k : Int) % 4 = (r4 : Int) := by omega
          have d4 : IntKind.i64.wrap (r4 : Int) = (r4 : Int) := by rw [IntKind.wrap_i64]; omega
          have d5 : IntKind.i64.wrap (8 * (r4 : Int)) = (r8 : Int) := by rw [IntKind.wrap_i64]; omega
          have d6 : IntKind.i64.wrap (24 - (r8 : Int)) = (ee : Int) := by rw [IntKind.wrap_i64]; omega
          have d7 : min ee 32 = ee := by omega
          have d8 : (q4 : Int) < 8 := by omega
          have hby := (byteW_val (st.getD q4 0 / 2 ^ ee)).symm
          rw [← hval] at hby
          generalize (outL st)[k] = cb at *
          generalize st.getD q4 0 = xw at *
          have HB := Lib.hid (And.intro hu (And.intro hr (And.intro hs hb)))
          have hk32 : (k : Int) < 32 := by omega
          clear hu hr hs hb hval hq4 hr4 hr8 hee hsl hkl
          go_wp2_with fail
          go_roundw
          case rel =>
            obtain ⟨hu, hr, hs, hb⟩ := HB.out
            have hg := HM.out.2.2.2.2
            refine ⟨k + 1, by omega, by show _ = _; go_num, hu.setCell (p := ⟨g8, k, none⟩) _ (fun h => absurd (show g8 < w.heap.size from h) (by omega)), hr.far _ _ (fun e => by have : w.heap.size = g8 := e; omega), hs.far _ _ (fun e => by have e2 : g4 = g8 := e; exact absurd (Blk.ty (e2 ▸ hs) hb) (by decide)), ?_⟩
            have := hb.set k (.int .u8 (cb.toNat : Int))
            rwa [hset.out] at this
          case measure => simp [intOf]; omega
        · obtain hk32 : k = 32 := by omega
          have hn32 : ¬ ((k : Int) < 32) := by omega
          rw [hk32, fillV_all _ _ (by simp [outL])] at hb
          obtain ⟨u1, u2⟩ := hb.seg 0 32 (encB (outL st)) (by rw [encB_length]; simp [outL]) (fun j _ => by rw [Nat.zero_add]; rfl)
          rw [show (encB (outL st)).toArray = dA (outM st) by unfold outM dA; rfl] at u2
          rw [← HD.out] at u2
          obtain ⟨hrb, hs1, hs2⟩ := dig_end (shaM R) hr
          have HK : Hid (Kept w (wr.setRow w.heap.size (dA (shaM R)))) := Lib.hid (Upd.setRow hu _ _ (fun h => absurd h (Nat.lt_irrefl _)))
          have HG := Lib.hid (And.intro hs1 hs2)
          clear hu hr hs hb hs1 hs2 hk32 hk h32
          generalize hX : shaM R = X at *
          have HXX := Lib.hid hX
          clear hX
          go_wp2
          refine bodyPost_ret (v := .agg (dA X)) ?_ rfl (by rw [HXX.out]; exact ⟨rfl, HK.out⟩)
          rw [results_seg (P := Try.prog) (fn := Try.f109) rfl _ _ ⟨w.heap.size, 0, none⟩ 32 _ rfl Try.underlying46 rfl sizeOf46 HG.out.1, HG.out.2]
end Go.Proofs.Ytnncpjekcljfbaa
/- The document's book of what was digested. -/
namespace Go.Proofs.Ytnncpjekcljfbaa
open Go.RowKit

theorem OwnB.base {W : World} {B B' : Nat} {v : Value} {R : Bytes} (h : OwnB W B' v R) (hb : B ≤ B') : OwnB W B v R :=
  ⟨h.1, h.2.imp id fun ⟨g, cap, cur, hv, hb2, hr⟩ => ⟨g, cap, cur, hv, Nat.le_trans hb hb2, hr⟩⟩
/-- the document's book: what was noted, in copies -/
structure RefBook (W : World) (B b : Nat) (v : Value) (n : Int) (xs : List SlC) (L : List Bytes) : Prop where
  blk : W.heap[b]? = some (.cells #[v, .int .i64 n] 138 (0, 0))
  row : OwnS W B v xs
  len : xs.length = L.length
  each : ∀ i (h : i < xs.length) (h' : i < L.length), OwnB W B xs[i].v L[i]
  sz : ∀ r ∈ L, r.length ≤ 65536
section
variable {W W' : World} {B b : Nat} {v v' : Value} {n : Int} {xs : List SlC} {L : List Bytes} {S : Nat → Prop}
theorem RefBook.lt (h : RefBook W B b v n xs L) : b < W.heap.size := (Array.getElem?_eq_some_iff.1 h.blk).1
theorem RefBook.kept (h : RefBook W B b v n xs L) (hu : Kept W W') : RefBook W' B b v n xs L :=
  ⟨hu.heap h.blk id, OwnRows.upd h.row hu (fun _ _ h => h), h.len, fun i hi hi' => (h.each i hi hi').kept hu, h.sz⟩
theorem RefBook.c0 (h : RefBook W B b v n xs L) : W.cell? ⟨b, 0, none⟩ = some v := by rw [cell_of_row W b 0 _ _ _ h.blk]; rfl
theorem RefBook.c1 (h : RefBook W B b v n xs L) : W.cell? ⟨b, 1, none⟩ = some (.int .i64 n) := by rw [cell_of_row W b 1 _ _ _ h.blk]; rfl
theorem RefBook.thaw (h : RefBook W B b v n xs L) (o : Nat) : W.frozen? ⟨b, o, none⟩ = false := frozen_of_row W b o _ _ h.blk
theorem RefBook.own_ne (h : RefBook W B b v n xs L) : v.ownBlock ≠ some b := fun e => by
  obtain ⟨cur, hc⟩ := own_cells h.row e
  rw [h.blk] at hc
  simp only [Option.some.injEq, Obj.cells.injEq] at hc
  exact absurd hc.2.1 (by decide)
/-- blocks of another type -/
theorem RefBook.far (h : RefBook W B b v n xs L) {k : Nat} {cs : Array Value} {t : TypeId} {fr : Nat × Nat} (hk : W.heap[k]? = some (.cells cs t fr)) (h1 : t ≠ 138) (h2 : t ≠ 35) : ¬ (k = b ∨ v.ownBlock = some k) := by
  rintro (rfl | e)
  · rw [h.blk] at hk
    simp only [Option.some.injEq, Obj.cells.injEq] at hk
    exact h1 hk.2.1.symm
  · obtain ⟨cur, hc⟩ := own_cells h.row e
    rw [hc] at hk
    simp only [Option.some.injEq, Obj.cells.injEq] at hk
    exact h2 hk.2.1.symm
theorem RefBook.count (h : RefBook W B b v n xs L) (m : Int) : RefBook (W.setCell ⟨b, 1, none⟩ (.int .i64 m)) B b v m xs L := by
  have hu : Upd (fun k => k = b) W (W.setCell ⟨b, 1, none⟩ (.int .i64 m)) := (Upd.refl _ _).setCell (p := ⟨b, 1, none⟩) _ fun _ => rfl
  refine ⟨by rw [heap_setCell_same _ b 1 _ _ _ h.blk]; rfl, OwnRows.upd h.row hu (fun k e e2 => h.own_ne (by rw [e]; exact congrArg some e2)), h.len, fun i hi hi' => (h.each i hi hi').upd hu (fun k e e2 => ?_), h.sz⟩
  obtain ⟨cur, hc⟩ := (h.each i hi hi').blk e
  have e3 : k = b := e2
  subst e3
  rw [h.blk] at hc
  simp only [Option.some.injEq, Obj.cells.injEq] at hc
  exact absurd hc.2.1 (by decide)
theorem RefBook.put (h : RefBook W B b v n xs L) {x : SlC} {R : Bytes} (hr : OwnS W' B v' (xs ++ [x])) (hu : Upd (fun k => v.ownBlock = some k) W W') (hx : OwnB W B x.v R) (hR : R.length ≤ 65536) :
    RefBook (W'.setCell ⟨b, 0, none⟩ v') B b v' n (xs ++ [x]) (L ++ [R]) := by
  have hbk := hu.heap h.blk h.own_ne
  have hu2 : Upd (fun k => k = b) W' (W'.setCell ⟨b, 0, none⟩ v') := (Upd.refl _ _).setCell (p := ⟨b, 0, none⟩) _ fun _ => rfl
  have hby : ∀ {y : Value} {R : Bytes}, OwnB W B y R → OwnB (W'.setCell ⟨b, 0, none⟩ v') B y R := fun ho => by
    refine (ho.upd hu (fun k e e2 => ?_)).upd hu2 (fun k e e2 => ?_)
    · obtain ⟨cur, hc⟩ := ho.blk e
      obtain ⟨cur2, hc2⟩ := own_cells h.row e2
      rw [hc] at hc2
      simp only [Option.some.injEq, Obj.cells.injEq] at hc2
      exact absurd hc2.2.1 (by decide)
    · obtain ⟨cur, hc⟩ := ho.blk e
      have e3 : k = b := e2
      subst e3
      rw [h.blk] at hc
      simp only [Option.some.injEq, Obj.cells.injEq] at hc
      exact absurd hc.2.1 (by decide)
  refine ⟨by rw [heap_setCell_same _ b 0 _ _ _ hbk]; rfl, OwnRows.upd hr hu2 (fun k e e2 => ?_), by rw [List.length_append, List.length_append, h.len]; rfl, fun i hi hi' => ?_, fun r hr => ?_⟩
  · obtain ⟨cur, hc⟩ := own_cells hr e
    have e3 : k = b := e2
    subst e3
    rw [hbk] at hc
    simp only [Option.some.injEq, Obj.cells.injEq] at hc
    exact absurd hc.2.1 (by decide)
  · by_cases hi2 : i < xs.length
    · rw [List.getElem_append_left hi2, List.getElem_append_left (by rw [← h.len]; exact hi2)]
      exact hby (h.each i hi2 _)
    · have hi3 : i = xs.length := by simp at hi; omega
      subst hi3
      have e1 : (xs ++ [x])[xs.length] = x := by simp
      have e2 : (L ++ [R])[xs.length]'hi' = R := by simp [h.len]
      rw [e1, e2]
      exact hby hx
  · rcases List.mem_append.1 hr with h1 | h1
    · exact h.sz r h1
    · simp only [List.mem_singleton] at h1; rw [h1]; exact hR
end
/-- two readings of one row -/
theorem own_uniq {W : World} {B B' : Nat} {v : Value} {xs xs' : List SlC} (h : OwnS W B v xs) (h' : OwnS W B' v xs') : xs = xs' := by
  have hl : xs.length = xs'.length := by
    obtain ⟨A, c, h1⟩ := OwnRows.form h
    obtain ⟨A', c', h2⟩ := OwnRows.form h'
    rw [h1] at h2
    simp only [Value.slice.injEq] at h2
    exact h2.2.1
  apply List.ext_getElem hl
  intro i hi hi'
  obtain ⟨g, c, hv, _, _, _, s1⟩ := OwnRows.get slA_size h hi
  obtain ⟨g', c', hv', _, _, _, s2⟩ := OwnRows.get slA_size h' hi'
  rw [hv] at hv'
  simp only [Value.slice.injEq, Option.some.injEq, Addr.mk.injEq, and_true] at hv'
  rw [hv'.1] at s1
  rw [s1] at s2
  have h3 : (slA xs[i]).toList = (slA xs'[i]).toList := by rw [s2]
  simp only [slA, List.cons.injEq, Value.slice.injEq, and_true] at h3
  generalize xs[i] = x at *
  generalize xs'[i] = x' at *
  obtain ⟨a, b, c⟩ := x
  obtain ⟨a', b', c'⟩ := x'
  simp only at h3
  obtain ⟨rfl, rfl, rfl⟩ := h3
  rfl
theorem own_rebase {W : World} {B B' : Nat} {v : Value} {xs : List SlC} (h : OwnS W B v xs) (hb : ∀ k, v.ownBlock = some k → B' ≤ k) : OwnS W B' v xs :=
  ⟨h.1, h.2.imp id fun ⟨g, cap, cur, hv, _, hr⟩ => ⟨g, cap, cur, hv, hb g (by rw [hv]; rfl), hr⟩⟩
/-- how a row grows: what is new in it is new -/
def Grow (w : World) (v : Value) (W : World) (v' : Value) : Prop := ∀ B0 xs0, B0 ≤ w.heap.size → OwnS w B0 v xs0 → ∃ xs', OwnS W B0 v' xs' ∧ ∀ x ∈ xs', x ∈ xs0 ∨ ∀ k, x.v.ownBlock = some k → w.heap.size ≤ k
theorem Grow.of {w W : World} {v v' : Value} {B B' : Nat} {xs xs' : List SlC} (h0 : OwnS w B v xs) (h1 : OwnS W B' v' xs') (hB : ∀ k, v'.ownBlock = some k → v.ownBlock = some k ∨ w.heap.size ≤ k) (hx : ∀ x ∈ xs', x ∈ xs ∨ ∀ k, x.v.ownBlock = some k → w.heap.size ≤ k) : Grow w v W v' := fun B0 xs0 hB0 hr => by
  obtain rfl := own_uniq h0 hr
  refine ⟨xs', own_rebase h1 fun k e => ?_, hx⟩
  rcases hB k e with e2 | e2
  · exact (World.ownsRow.lt hr k e2).1
  · omega
theorem Grow.trans {w W W' : World} {v v' v'' : Value} (h : Grow w v W v') (h2 : Grow W v' W' v'') (hs : w.heap.size ≤ W.heap.size) : Grow w v W' v'' := fun B0 xs0 hB0 hr => by
  obtain ⟨xs1, h3, h4⟩ := h B0 xs0 hB0 hr
  obtain ⟨xs2, h5, h6⟩ := h2 B0 xs1 (Nat.le_trans hB0 hs) h3
  refine ⟨xs2, h5, fun x hx => ?_⟩
  rcases h6 x hx with h7 | h7
  · exact h4 x h7
  · exact .inr fun k e => Nat.le_trans hs (h7 k e)
theorem Grow.upd {w W W' : World} {v v' : Value} {S : Nat → Prop} (h : Grow w v W v') (hu : Upd S W W') (hs : ∀ B xs, OwnS W B v' xs → ∀ k, v'.ownBlock = some k → ¬ S k) : Grow w v W' v' := fun B0 xs0 hB0 hr => by
  obtain ⟨xs1, h3, h4⟩ := h B0 xs0 hB0 hr
  exact ⟨xs1, OwnRows.upd h3 hu (hs _ _ h3), h4⟩
theorem Grow.refl (w : World) (v : Value) : Grow w v w v := fun _ xs0 _ hr => ⟨xs0, hr, fun _ hx => .inl hx⟩
/-- what a call on the book does to all else -/
def RTo (b : Nat) (v : Value) (w : World) (v' : Value) (W : World) : Prop := Upd (fun k => k = b ∨ v.ownBlock = some k) w W ∧ (v'.ownBlock = v.ownBlock ∨ ∃ k, v'.ownBlock = some k ∧ w.heap.size ≤ k) ∧ Grow w v W v'
theorem RTo.trans {b : Nat} {v v' v'' : Value} {w W W' : World} (h : RTo b v w v' W) (h2 : RTo b v' W v'' W') : RTo b v w v'' W' := by
  refine ⟨h.1.then h2.1 (fun k hk e => e.imp id (fun e => ?_)), ?_, h.2.2.trans h2.2.2 h.1.size⟩
  · rcases h.2.1 with h3 | ⟨k', h3, h4⟩
    · rw [← h3]; exact e
    · rw [h3] at e
      have := Option.some.inj e
      omega
  · rcases h2.2.1 with h3 | ⟨k', h3, h4⟩
    · rcases h.2.1 with h5 | ⟨k'', h5, h6⟩
      · exact .inl (h3.trans h5)
      · exact .inr ⟨k'', h3.trans h5, h6⟩
    · exact .inr ⟨k', h3, Nat.le_trans h.1.size h4⟩
theorem RTo.kept {b : Nat} {v : Value} {w W : World} (hu : Kept w W) : RTo b v w v W := ⟨hu.to, .inl rfl, (Grow.refl w v).upd hu (fun _ _ _ _ _ => id)⟩

/-- a block of another type turned -/
theorem RefBook.turn {W W' : World} {B b : Nat} {v : Value} {n : Int} {xs : List SlC} {L : List Bytes} (h : RefBook W B b v n xs L) {g : Nat} {cs : Array Value} {t : TypeId} {fr : Nat × Nat} (hk : W.heap[g]? = some (.cells cs t fr)) (h1 : t ≠ 138) (h2 : t ≠ 35) (h3 : t ≠ 5) (hu : Upd (fun k => k = g) W W') : RefBook W' B b v n xs L := by
  have hf := h.far hk h1 h2
  refine ⟨hu.heap h.blk (fun e => hf (.inl e.symm)), OwnRows.upd h.row hu (fun k e e2 => hf (.inr (by rw [e]; exact congrArg some e2))), h.len, fun i hi hi' => (h.each i hi hi').upd hu (fun k e e2 => ?_), h.sz⟩
  obtain ⟨cur, hc⟩ := (h.each i hi hi').blk e
  have e3 : k = g := e2
  subst e3
  rw [hk] at hc
  simp only [Option.some.injEq, Obj.cells.injEq] at hc
  exact h3 hc.2.1
theorem noteM_new {L : List Bytes} {R : Bytes} (h : R ∉ L) : noteM L R = L ++ [R] := by unfold noteM; rw [if_neg h]

set_option maxHeartbeats 1600000 in
set_option maxRecDepth 20000 in
theorem ref_BookOf {w : World} {B b : Nat} {v : Value} {n : Int} {xs : List SlC} {L : List Bytes} (h : RefBook w B b v n xs L) (hB : B ≤ w.heap.size) {vr : Value} {R : Bytes} {B' : Nat} (hR : OwnB w B' vr R) (hl : R.length ≤ 65536) (hcnt : L.length ≤ 100000) :
    Calls Try.prog 89 #[.pointer (some ⟨b, 0, none⟩), vr] w fun e W => e = .returned (.tuple #[.agg (dA (shaM R)), .int .i64 0]) ∧ ∃ v' n' xs', RefBook W B b v' n' xs' (noteM L R) ∧ RTo b v w v' W := by
  have HR0 := Lib.hid h.row
  obtain ⟨A, c, rfl, hc, _⟩ := hR.form
  have hk1 : Kept w (w.alloc (.cells (dA dig0) 46)) := (Upd.refl _ w).alloc _
  have h1 := h.kept hk1
  have hR1 := hR.kept hk1
  have hr1 : Blk (w.alloc (.cells (dA dig0) 46)) w.heap.size 46 (encB dig0.1) := Blk.new w _ _
  generalize hW1 : w.alloc (.cells (dA dig0) 46) = w1 at *
  have c1 := h1.c1
  have z1 := h1.thaw 1
  obtain ⟨nn, hnn⟩ : ∃ nn, nn = wrap64 (n + 1) := ⟨_, rfl⟩
  have h2 := h1.count nn
  have hu2 : Upd (fun k => k = b) w1 (w1.setCell ⟨b, 1, none⟩ (.int .i64 nn)) := (Upd.refl _ _).setCell (p := ⟨b, 1, none⟩) _ fun _ => rfl
  have hr2 := hr1.upd hu2 (fun e => h1.far hr1 (by decide) (by decide) (.inl e))
  have hR2 : OwnB (w1.setCell ⟨b, 1, none⟩ (.int .i64 nn)) B' (.slice A R.length c) R := hR1.upd hu2 (fun k e e2 => by
    obtain ⟨cur, hc⟩ := hR1.blk e
    have e3 : k = b := e2
    subst e3
    rw [h1.blk] at hc
    simp only [Option.some.injEq, Obj.cells.injEq] at hc
    exact absurd hc.2.1 (by decide))
  have hU2 : Upd (fun k => k = b ∨ v.ownBlock = some k) w (w1.setCell ⟨b, 1, none⟩ (.int .i64 nn)) := hk1.to.trans (hu2.mono fun k _ e => .inl e)
  have hd1 : decide ((65536 : Int) < (R.length : Int)) = false := decide_eq_false (by omega)
  have hd2 : decide (65536 < R.length) = false := decide_eq_false (by omega)
  have HX := Lib.hid (And.intro h2 (And.intro hr2 (And.intro hR2 (And.intro hU2 (And.intro hl (And.intro hcnt hB))))))
  clear h hR hk1 h1 hR1 hr1 h2 hu2 hr2 hR2 hU2 hl hcnt hB
  go_enter Try.func89, Try.ntmps89
  go_wp2_with fail
  rw [← hnn]
  obtain ⟨A9, c9, hA9, hc9, hby⟩ := HX.out.2.2.1.form
  simp only [Value.slice.injEq] at hA9
  obtain ⟨rfl, -, rfl⟩ := hA9
  clear c1 z1 hd1 hd2 hnn
  refine (ref_ShaOf c hby (by have := HX.out.2.2.2.2.1; omega)).mono ?_
  rintro e w3 ⟨rfl, hu3⟩
  obtain ⟨d, hd⟩ : ∃ d, d = shaM R := ⟨_, rfl⟩
  rw [← hd]
  have HDD := Lib.hid hd
  clear hd hby
  have hd4 : Blk (w3.alloc (.cells (dA d) 46)) w3.heap.size 46 (encB (d).1) := Blk.new w3 _ _
  have hk4 : Kept w3 (w3.alloc (.cells (dA d) 46)) := (Upd.refl _ w3).alloc _
  have hk34 : Kept (w1.setCell ⟨b, 1, none⟩ (.int .i64 nn)) (w3.alloc (.cells (dA d) 46)) := hu3.then hk4 (fun _ _ h => h)
  have HY := Lib.hid (And.intro (HX.out.1.kept hk34) (And.intro (HX.out.2.1.kept hk34) (And.intro (HX.out.2.2.1.kept hk34) (And.intro (show Upd (fun k => k = b ∨ v.ownBlock = some k) w _ from HX.out.2.2.2.1.trans hk34.to) hd4))))
  have HN := Lib.hid (And.intro HX.out.2.2.2.2.1 (And.intro HX.out.2.2.2.2.2.1 HX.out.2.2.2.2.2.2))
  clear hu3 hk34 hd4 hk4 HX
  obtain ⟨A0, c0, hv0⟩ := OwnRows.form HY.out.1.row
  have hxl := HY.out.1.len
  go_wp2_with fail
  generalize w3.heap.size = g6 at *
  generalize w3.alloc (.cells (dA d) 46) = w4 at *
  go_loopw [7] (fun u wr => ∃ i : Nat, i ≤ L.length ∧ u = .int .i64 i ∧ (∀ r ∈ L.take i, r ≠ R) ∧ Kept w4 wr) (fun u _ => 200000 - (intOf u).toNat)
  case atStart => exact ⟨0, Nat.zero_le _, rfl, by simp, Upd.refl _ _⟩
  case round =>
    obtain ⟨i, hi, rfl, hno, hu⟩ := hrel
    have hb := HY.out.1.kept hu
    have hc0 := hb.c0
    rw [hv0, hxl] at hc0
    have hi5 : (i : Int) ≤ 100000 := by have := HN.out.2.1; omega
    rcases Nat.lt_or_ge i L.length with hlt | hge
    · have hi1 : (i : Int) < (L.length : Int) := by omega
      have hix : i < xs.length := by rw [hxl]; exact hlt
      obtain ⟨g, cc, hv, -, -, hcell⟩ := hb.row.cell hix
      rw [hv0] at hv
      simp only [Value.slice.injEq] at hv
      obtain ⟨rfl, -, rfl⟩ := hv
      obtain ⟨Ai, ci, hxi, -, hbi⟩ := (hb.each i hix hlt).form
      rw [hxi] at hcell
      obtain ⟨A9, c9, hA9, -, hbR⟩ := (HY.out.2.2.1.kept hu).form
      simp only [Value.slice.injEq] at hA9
      obtain ⟨rfl, -, rfl⟩ := hA9
      have hLi : L[i].length ≤ 65536 := hb.sz _ (List.getElem_mem hlt)
      have hnext : L[i] ≠ R → ∀ r ∈ L.take (i + 1), r ≠ R := fun hne r hr => by
        rw [List.take_succ_eq_append_getElem hlt] at hr
        rcases List.mem_append.1 hr with h1 | h1
        · exact hno r h1
        · simp only [List.mem_singleton] at h1; rw [h1]; exact hne
      have hmem : L[i] = R → R ∈ L := fun e => e ▸ List.getElem_mem hlt
      have HZ := Lib.hid (And.intro hbi (And.intro hbR (And.intro hLi (And.intro hnext (And.intro hmem (And.intro hlt hu))))))
      generalize L[i] = Li at *
      clear hbi hbR hLi hnext hmem hno hlt hix hxi hb hu hi
      go_wp2_with fail
      refine (ref_EqBytes ci c HZ.out.1 HZ.out.2.1 (by have := HZ.out.2.2.1; omega) (by have := HN.out.1; omega)).mono ?_
      rintro e w5 ⟨rfl, hu5⟩
      have hk5 : Kept w4 w5 := HZ.out.2.2.2.2.2.2.then hu5 (fun _ _ h => h)
      clear hu5 hc0 hcell
      by_cases he : Li = R
      · rw [decide_eq_true he]
        have hd5 := HY.out.2.2.2.2.kept hk5
        have hr5 := HY.out.2.1.kept hk5
        have hb5 := HY.out.1.kept hk5
        obtain ⟨p1, p2⟩ := dig_at hd5
        obtain ⟨hrb, hs1, hs2⟩ := dig_end d hr5
        have HF : Hid (RefBook (w5.setRow w.heap.size (dA d)) B b v nn xs (noteM L R) ∧ RTo b v w v (w5.setRow w.heap.size (dA d))) := by
          have hT := hb5.turn hr5 (by decide) (by decide) (by decide) ((Upd.refl _ w5).setRow w.heap.size (dA d) fun _ => rfl)
          refine ⟨?_, ?_, .inl rfl, Grow.of HR0.out hT.row (fun k e => .inl e) (fun x hx => .inl hx)⟩
          · rw [noteM_mem (HZ.out.2.2.2.2.1 he)]
            exact hT
          · exact (HY.out.2.2.2.1.trans hk5.to).setRow _ _ (fun h => absurd h (Nat.lt_irrefl _))
        have HG := Lib.hid (And.intro hs1 hs2)
        clear hd5 hr5 hb5 hs1 hs2 hk5 he
        go_wp2
        refine bodyPost_ret (v := .tuple #[.agg (dA d), .int .i64 0]) ?_ rfl (by rw [← HDD.out]; exact ⟨rfl, _, _, _, HF.out⟩)
        rw [results_seg2 (P := Try.prog) (fn := Try.f89) (p := 4) (t := 5) (ty := 46) rfl _ _ ⟨w.heap.size, 0, none⟩ 32 _ (.int .i64 0) rfl rfl Try.underlying46 rfl sizeOf46 HG.out.1, HG.out.2]
      · rw [decide_eq_false he]
        have HK := Lib.hid (And.intro (HZ.out.2.2.2.1 he) (And.intro hk5 HZ.out.2.2.2.2.2.1))
        clear he hk5 HZ
        go_wp2
        go_roundw
        case rel => exact ⟨i + 1, by have := HK.out.2.2; omega, by show _ = _; go_num, HK.out.1, HK.out.2.1⟩
        case measure => have := HK.out.2.2; have := HN.out.2.1; simp [intOf]; omega
    · obtain hiL : i = L.length := by omega
      have hi1 : ¬ ((i : Int) < (L.length : Int)) := by omega
      have hnot : R ∉ L := fun hm => hno R (by rw [hiL, List.take_length]; exact hm) rfl
      have HNO := Lib.hid (noteM_new hnot)
      have HU0 := Lib.hid (show Upd (fun k => k = b ∨ v.ownBlock = some k) w wr from HY.out.2.2.2.1.trans hu.to)
      have HB0 := Lib.hid (And.intro hb (And.intro (HY.out.2.2.1.kept hu) (And.intro (HY.out.2.1.kept hu) (HY.out.2.2.2.2.kept hu))))
      have hBs : B ≤ wr.heap.size := by have := HN.out.2.2; have := HU0.out.size; omega
      have HV0 := Lib.hid (show Value.slice A0 L.length c0 = v by rw [hv0, hxl])
      have HXL := Lib.hid hxl
      have HD := Lib.hid (And.intro HB0.out.2.2.2 (And.intro HB0.out.2.2.1 HB0.out.1))
      clear hiL hnot hno hge hi hb hu HY hi5 hxl hv0
      go_wp2_with fail
      clear hi1
      refine wp_region_tree (.take 0 (.take 1 (.take 2 (.take 3 (.take 5 (.two 4 6 (.one 6 (.one 7 (.one 8 (.take 9 (.take 10 (.one 11 .done)))))) (.two 4 7 (.one 7 (.one 8 (.take 9 (.take 10 (.one 11 .done))))) (.one 4 (.one 8 (.take 9 (.take 10 (.one 11 .done)))))))))))) (by kernel_rfl) (by kernel_rfl) (Upd (fun k => k = b ∨ v.ownBlock = some k) wr) ((Upd.refl _ _).drew) ?_
      simp only [OT.ops, List.getD_cons_zero, List.getD_cons_succ]
      iterate 5 (refine wpOO_held (fun K hK => ?_); go_simp; first | (apply Exists.intro; refine ⟨fun W hW => ?_, hK _ ?_⟩; (go_simp; first | done | exact rfl); clear hK K) | (refine hK _ ?_; clear hK K))
      have hS3 : Upd (fun k => k = b ∨ v.ownBlock = some k) wr wr.drew := (Upd.refl _ _).drew
      have hk3 : Kept wr wr.drew := (Upd.refl _ _).drew
      have hN3 := HB0.out.1.kept hk3
      obtain ⟨A9, c9, hA9, -, hbR⟩ := (HB0.out.2.1.kept hk3).form
      simp only [Value.slice.injEq] at hA9
      obtain ⟨rfl, -, rfl⟩ := hA9
      have hB3 : B ≤ wr.drew.heap.size := hBs
      have d3 : wr.drew.cell? ⟨b, 0, none⟩ = some (.slice A0 L.length c0) := by rw [hN3.c0, HV0.out]
      clear hc0 hk3 hBs
      generalize wr.drew = W3 at *
      have HG3 := ref_CopyBytes c hbR (by have := HN.out.1; omega)
      refine wpOO_fork (fun K hK => ?_) (fun K hK => ?_) hS3
      · go_simp
        refine hK _ _ hS3 ?_
        clear hK K
        refine wpOO_step (fun K hK => ?_) hS3
        go_simp
        refine HG3.mono ?_
        clear HG3
        rintro e W4 ⟨vy, rfl, hOy, hu4⟩
        have hfr : ∀ k, vy.ownBlock = some k → w.heap.size ≤ k := fun k e => Nat.le_trans (Nat.le_trans HU0.out.size hS3.size) (hOy.far k e).1
        obtain ⟨Ay, cy, rfl, -, -⟩ := hOy.form
        have HFR := Lib.hid hfr
        clear hfr
        have hS4 : Upd (fun k => k = b ∨ v.ownBlock = some k) wr W4 := hS3.then hu4 fun _ _ h => h.elim
        have hS5 : Upd (fun k => k = b ∨ v.ownBlock = some k) wr (W4.alloc (.cells (slA ⟨Ay, R.length, cy⟩) 35)) := hS4.alloc _
        have hk5 : Kept W4 (W4.alloc (.cells (slA ⟨Ay, R.length, cy⟩) 35)) := (Upd.refl _ W4).alloc _
        have hN5 := (hN3.kept hu4).kept hk5
        have hg5 := heap_alloc_new W4 (.cells (slA ⟨Ay, R.length, cy⟩) 35)
        have hB5 : B ≤ (W4.alloc (.cells (slA ⟨Ay, R.length, cy⟩) 35)).heap.size := Nat.le_trans hB3 (Nat.le_trans hu4.size hk5.size)
        have hO5 : OwnB (W4.alloc (.cells (slA ⟨Ay, R.length, cy⟩) 35)) B (SlC.v ⟨Ay, R.length, cy⟩) R := (OwnB.base hOy hB3).kept hk5
        have d4 : W4.cell? ⟨b, 0, none⟩ = some (.slice A0 L.length c0) := hu4.cell d3 id
        have d5 : (W4.alloc (.cells (slA ⟨Ay, R.length, cy⟩) 35)).cell? ⟨b, 0, none⟩ = some (.slice A0 L.length c0) := hk5.cell d4 id
        clear hk5 hOy hu4 hN3 d3 hS3 hbR hB3
        refine hK _ _ hS4 ?_
        clear hK K
        refine wpOO_step (fun K hK => ?_) hS4
        go_simp
        refine hK _ _ hS5 ?_
        clear hK K
        -- here: the world W5 (a slice's cell made), 4, 6, 7 done
        refine wpOO_step (fun K hK => ?_) hS5
        refine step_append_rows bs_rows rfl (.tmp 45) (.tmp 48) rfl HV0.out hN5.row ⟨Ay, R.length, cy⟩ W4.heap.size 1 _ _ rfl hg5 (by have := HN.out.2.1; have := HXL.out; unfold maxLen; omega) (by have := HN.out.2.1; have := HXL.out; omega) hB5 ?_
        intro v' W' hrows hu' hnew
        have hS6 : Upd (fun k => k = b ∨ v.ownBlock = some k) wr W' := hS5.then hu' fun _ _ h => .inr h
        have hbk := hu'.heap hN5.blk hN5.own_ne
        have hc' : W'.cell? ⟨b, 0, none⟩ = some v := by rw [cell_of_row _ _ _ _ _ _ hbk]; rfl
        have hf' : W'.frozen? ⟨b, 0, none⟩ = false := frozen_of_row W' b 0 _ _ hbk
        refine hK _ _ hS6 ?_
        clear hK K
        iterate 2 (refine wpOO_held (fun K hK => ?_); go_simp; first | (apply Exists.intro; refine ⟨fun W hW => ?_, hK _ ?_⟩; (go_simp; first | done | exact rfl); clear hK K) | (refine hK _ ?_; clear hK K))
        refine wpOO_step (fun K hK => ?_) hS6
        obtain ⟨A', m', c', rfl⟩ : ∃ A' m' c', v' = .slice A' m' c' := by
          obtain ⟨A', c', h⟩ := OwnRows.form hrows
          exact ⟨A', _, c', h⟩
        go_simp
        refine hK _ _ (hS6.setCell (p := ⟨b, 0, none⟩) _ fun _ => .inl rfl) ?_
        clear hK K
        refine wpOO_nil ?_
        have hput := hN5.put hrows hu' hO5 HN.out.1
        have hS7 : Upd (fun k => k = b ∨ v.ownBlock = some k) wr (W'.setCell ⟨b, 0, none⟩ (.slice A' m' c')) := hS6.setCell (p := ⟨b, 0, none⟩) _ fun _ => .inl rfl
        have hd7 := HD.out.1.upd hS7 (HD.out.2.2.far HD.out.1 (by decide) (by decide))
        have hr7 := HD.out.2.1.upd hS7 (HD.out.2.2.far HD.out.2.1 (by decide) (by decide))
        obtain ⟨p1, p2⟩ := dig_at hd7
        obtain ⟨hrb, hs1, hs2⟩ := dig_end d hr7
        have HF : Hid (RefBook ((W'.setCell ⟨b, 0, none⟩ (.slice A' m' c')).setRow w.heap.size (dA d)) B b (.slice A' m' c') nn (xs ++ [(⟨Ay, R.length, cy⟩ : SlC)]) (L ++ [R]) ∧ RTo b v w (.slice A' m' c') ((W'.setCell ⟨b, 0, none⟩ (.slice A' m' c')).setRow w.heap.size (dA d))) := by
          have hT := hput.turn hr7 (by decide) (by decide) (by decide) ((Upd.refl _ _).setRow w.heap.size (dA d) fun _ => rfl)
          refine ⟨hT, ?_, ?_, Grow.of HR0.out hT.row (fun k e => ?_) (fun x hx => ?_)⟩
          · exact (HU0.out.trans hS7).setRow _ _ (fun h => absurd h (Nat.lt_irrefl _))
          · rcases hnew with h1 | h1
            · exact .inl h1
            · refine .inr ⟨_, h1, ?_⟩
              have := HU0.out.size
              have := hS5.size
              omega
          · rcases hnew with h1 | h1
            · rw [h1] at e; exact .inl e
            · rw [h1] at e
              have := Option.some.inj e
              have := HU0.out.size
              have := hS5.size
              exact .inr (by omega)
          · rcases List.mem_append.1 hx with h1 | h1
            · exact .inl h1
            · simp only [List.mem_singleton] at h1
              rw [h1]
              exact .inr HFR.out
        have HG := Lib.hid (And.intro hs1 hs2)
        clear hput hS7 hd7 hr7 hS6 hbk hc' hf' hu' hnew hrows hS5 hN5 hO5 hg5 hB5 hs1 hs2
        generalize (W'.setCell ⟨b, 0, none⟩ (.slice A' m' c')) = W9 at *
        go_wp2
        refine bodyPost_ret (v := .tuple #[.agg (dA d), .int .i64 0]) ?_ rfl (by rw [← HDD.out, HNO.out]; exact ⟨rfl, _, _, _, HF.out⟩)
        rw [results_seg2 (P := Try.prog) (fn := Try.f89) (p := 4) (t := 5) (ty := 46) rfl _ _ ⟨w.heap.size, 0, none⟩ 32 _ (.int .i64 0) rfl rfl Try.underlying46 rfl sizeOf46 HG.out.1, HG.out.2]
      · go_simp
        refine HG3.mono ?_
        clear HG3
        rintro e W4 ⟨vy, rfl, hOy, hu4⟩
        have hfr : ∀ k, vy.ownBlock = some k → w.heap.size ≤ k := fun k e => Nat.le_trans (Nat.le_trans HU0.out.size hS3.size) (hOy.far k e).1
        obtain ⟨Ay, cy, rfl, -, -⟩ := hOy.form
        have HFR := Lib.hid hfr
        clear hfr
        have hS4 : Upd (fun k => k = b ∨ v.ownBlock = some k) wr W4 := hS3.then hu4 fun _ _ h => h.elim
        have hS5 : Upd (fun k => k = b ∨ v.ownBlock = some k) wr (W4.alloc (.cells (slA ⟨Ay, R.length, cy⟩) 35)) := hS4.alloc _
        have hk5 : Kept W4 (W4.alloc (.cells (slA ⟨Ay, R.length, cy⟩) 35)) := (Upd.refl _ W4).alloc _
        have hN5 := (hN3.kept hu4).kept hk5
        have hg5 := heap_alloc_new W4 (.cells (slA ⟨Ay, R.length, cy⟩) 35)
        have hB5 : B ≤ (W4.alloc (.cells (slA ⟨Ay, R.length, cy⟩) 35)).heap.size := Nat.le_trans hB3 (Nat.le_trans hu4.size hk5.size)
        have hO5 : OwnB (W4.alloc (.cells (slA ⟨Ay, R.length, cy⟩) 35)) B (SlC.v ⟨Ay, R.length, cy⟩) R := (OwnB.base hOy hB3).kept hk5
        have d4 : W4.cell? ⟨b, 0, none⟩ = some (.slice A0 L.length c0) := hu4.cell d3 id
        have d5 : (W4.alloc (.cells (slA ⟨Ay, R.length, cy⟩) 35)).cell? ⟨b, 0, none⟩ = some (.slice A0 L.length c0) := hk5.cell d4 id
        clear hk5 hOy hu4 hN3 d3 hS3 hbR hB3
        refine hK _ _ hS4 ?_
        clear hK K
        refine wpOO_fork (fun K hK => ?_) (fun K hK => ?_) hS4
        · go_simp
          refine hK _ _ hS4 ?_
          clear hK K
          refine wpOO_step (fun K hK => ?_) hS4
          go_simp
          refine hK _ _ hS5 ?_
          clear hK K
          -- here: the world W5 (a slice's cell made), 4, 6, 7 done
          refine wpOO_step (fun K hK => ?_) hS5
          refine step_append_rows bs_rows rfl (.tmp 45) (.tmp 48) rfl HV0.out hN5.row ⟨Ay, R.length, cy⟩ W4.heap.size 1 _ _ rfl hg5 (by have := HN.out.2.1; have := HXL.out; unfold maxLen; omega) (by have := HN.out.2.1; have := HXL.out; omega) hB5 ?_
          intro v' W' hrows hu' hnew
          have hS6 : Upd (fun k => k = b ∨ v.ownBlock = some k) wr W' := hS5.then hu' fun _ _ h => .inr h
          have hbk := hu'.heap hN5.blk hN5.own_ne
          have hc' : W'.cell? ⟨b, 0, none⟩ = some v := by rw [cell_of_row _ _ _ _ _ _ hbk]; rfl
          have hf' : W'.frozen? ⟨b, 0, none⟩ = false := frozen_of_row W' b 0 _ _ hbk
          refine hK _ _ hS6 ?_
          clear hK K
          iterate 2 (refine wpOO_held (fun K hK => ?_); go_simp; first | (apply Exists.intro; refine ⟨fun W hW => ?_, hK _ ?_⟩; (go_simp; first | done | exact rfl); clear hK K) | (refine hK _ ?_; clear hK K))
          refine wpOO_step (fun K hK => ?_) hS6
          obtain ⟨A', m', c', rfl⟩ : ∃ A' m' c', v' = .slice A' m' c' := by
            obtain ⟨A', c', h⟩ := OwnRows.form hrows
            exact ⟨A', _, c', h⟩
          go_simp
          refine hK _ _ (hS6.setCell (p := ⟨b, 0, none⟩) _ fun _ => .inl rfl) ?_
          clear hK K
          refine wpOO_nil ?_
          have hput := hN5.put hrows hu' hO5 HN.out.1
          have hS7 : Upd (fun k => k = b ∨ v.ownBlock = some k) wr (W'.setCell ⟨b, 0, none⟩ (.slice A' m' c')) := hS6.setCell (p := ⟨b, 0, none⟩) _ fun _ => .inl rfl
          have hd7 := HD.out.1.upd hS7 (HD.out.2.2.far HD.out.1 (by decide) (by decide))
          have hr7 := HD.out.2.1.upd hS7 (HD.out.2.2.far HD.out.2.1 (by decide) (by decide))
          obtain ⟨p1, p2⟩ := dig_at hd7
          obtain ⟨hrb, hs1, hs2⟩ := dig_end d hr7
          have HF : Hid (RefBook ((W'.setCell ⟨b, 0, none⟩ (.slice A' m' c')).setRow w.heap.size (dA d)) B b (.slice A' m' c') nn (xs ++ [(⟨Ay, R.length, cy⟩ : SlC)]) (L ++ [R]) ∧ RTo b v w (.slice A' m' c') ((W'.setCell ⟨b, 0, none⟩ (.slice A' m' c')).setRow w.heap.size (dA d))) := by
            have hT := hput.turn hr7 (by decide) (by decide) (by decide) ((Upd.refl _ _).setRow w.heap.size (dA d) fun _ => rfl)
            refine ⟨hT, ?_, ?_, Grow.of HR0.out hT.row (fun k e => ?_) (fun x hx => ?_)⟩
            · exact (HU0.out.trans hS7).setRow _ _ (fun h => absurd h (Nat.lt_irrefl _))
            · rcases hnew with h1 | h1
              · exact .inl h1
              · refine .inr ⟨_, h1, ?_⟩
                have := HU0.out.size
                have := hS5.size
                omega
            · rcases hnew with h1 | h1
              · rw [h1] at e; exact .inl e
              · rw [h1] at e
                have := Option.some.inj e
                have := HU0.out.size
                have := hS5.size
                exact .inr (by omega)
            · rcases List.mem_append.1 hx with h1 | h1
              · exact .inl h1
              · simp only [List.mem_singleton] at h1
                rw [h1]
                exact .inr HFR.out
          have HG := Lib.hid (And.intro hs1 hs2)
          clear hput hS7 hd7 hr7 hS6 hbk hc' hf' hu' hnew hrows hS5 hN5 hO5 hg5 hB5 hs1 hs2
          generalize (W'.setCell ⟨b, 0, none⟩ (.slice A' m' c')) = W9 at *
          go_wp2
          refine bodyPost_ret (v := .tuple #[.agg (dA d), .int .i64 0]) ?_ rfl (by rw [← HDD.out, HNO.out]; exact ⟨rfl, _, _, _, HF.out⟩)
          rw [results_seg2 (P := Try.prog) (fn := Try.f89) (p := 4) (t := 5) (ty := 46) rfl _ _ ⟨w.heap.size, 0, none⟩ 32 _ (.int .i64 0) rfl rfl Try.underlying46 rfl sizeOf46 HG.out.1, HG.out.2]
        · go_simp
          refine hK _ _ hS5 ?_
          clear hK K
          refine wpOO_step (fun K hK => ?_) hS5
          go_simp
          refine hK _ _ hS5 ?_
          clear hK K
          -- here: the world W5 (a slice's cell made), 4, 6, 7 done
          refine wpOO_step (fun K hK => ?_) hS5
          refine step_append_rows bs_rows rfl (.tmp 45) (.tmp 48) rfl HV0.out hN5.row ⟨Ay, R.length, cy⟩ W4.heap.size 1 _ _ rfl hg5 (by have := HN.out.2.1; have := HXL.out; unfold maxLen; omega) (by have := HN.out.2.1; have := HXL.out; omega) hB5 ?_
          intro v' W' hrows hu' hnew
          have hS6 : Upd (fun k => k = b ∨ v.ownBlock = some k) wr W' := hS5.then hu' fun _ _ h => .inr h
          have hbk := hu'.heap hN5.blk hN5.own_ne
          have hc' : W'.cell? ⟨b, 0, none⟩ = some v := by rw [cell_of_row _ _ _ _ _ _ hbk]; rfl
          have hf' : W'.frozen? ⟨b, 0, none⟩ = false := frozen_of_row W' b 0 _ _ hbk
          refine hK _ _ hS6 ?_
          clear hK K
          iterate 2 (refine wpOO_held (fun K hK => ?_); go_simp; first | (apply Exists.intro; refine ⟨fun W hW => ?_, hK _ ?_⟩; (go_simp; first | done | exact rfl); clear hK K) | (refine hK _ ?_; clear hK K))
          refine wpOO_step (fun K hK => ?_) hS6
          obtain ⟨A', m', c', rfl⟩ : ∃ A' m' c', v' = .slice A' m' c' := by
            obtain ⟨A', c', h⟩ := OwnRows.form hrows
            exact ⟨A', _, c', h⟩
          go_simp
          refine hK _ _ (hS6.setCell (p := ⟨b, 0, none⟩) _ fun _ => .inl rfl) ?_
          clear hK K
          refine wpOO_nil ?_
          have hput := hN5.put hrows hu' hO5 HN.out.1
          have hS7 : Upd (fun k => k = b ∨ v.ownBlock = some k) wr (W'.setCell ⟨b, 0, none⟩ (.slice A' m' c')) := hS6.setCell (p := ⟨b, 0, none⟩) _ fun _ => .inl rfl
          have hd7 := HD.out.1.upd hS7 (HD.out.2.2.far HD.out.1 (by decide) (by decide))
          have hr7 := HD.out.2.1.upd hS7 (HD.out.2.2.far HD.out.2.1 (by decide) (by decide))
          obtain ⟨p1, p2⟩ := dig_at hd7
          obtain ⟨hrb, hs1, hs2⟩ := dig_end d hr7
          have HF : Hid (RefBook ((W'.setCell ⟨b, 0, none⟩ (.slice A' m' c')).setRow w.heap.size (dA d)) B b (.slice A' m' c') nn (xs ++ [(⟨Ay, R.length, cy⟩ : SlC)]) (L ++ [R]) ∧ RTo b v w (.slice A' m' c') ((W'.setCell ⟨b, 0, none⟩ (.slice A' m' c')).setRow w.heap.size (dA d))) := by
            have hT := hput.turn hr7 (by decide) (by decide) (by decide) ((Upd.refl _ _).setRow w.heap.size (dA d) fun _ => rfl)
            refine ⟨hT, ?_, ?_, Grow.of HR0.out hT.row (fun k e => ?_) (fun x hx => ?_)⟩
            · exact (HU0.out.trans hS7).setRow _ _ (fun h => absurd h (Nat.lt_irrefl _))
            · rcases hnew with h1 | h1
              · exact .inl h1
              · refine .inr ⟨_, h1, ?_⟩
                have := HU0.out.size
                have := hS5.size
                omega
            · rcases hnew with h1 | h1
              · rw [h1] at e; exact .inl e
              · rw [h1] at e
                have := Option.some.inj e
                have := HU0.out.size
                have := hS5.size
                exact .inr (by omega)
            · rcases List.mem_append.1 hx with h1 | h1
              · exact .inl h1
              · simp only [List.mem_singleton] at h1
                rw [h1]
                exact .inr HFR.out
          have HG := Lib.hid (And.intro hs1 hs2)
          clear hput hS7 hd7 hr7 hS6 hbk hc' hf' hu' hnew hrows hS5 hN5 hO5 hg5 hB5 hs1 hs2
          generalize (W'.setCell ⟨b, 0, none⟩ (.slice A' m' c')) = W9 at *
          go_wp2
          refine bodyPost_ret (v := .tuple #[.agg (dA d), .int .i64 0]) ?_ rfl (by rw [← HDD.out, HNO.out]; exact ⟨rfl, _, _, _, HF.out⟩)
          rw [results_seg2 (P := Try.prog) (fn := Try.f89) (p := 4) (t := 5) (ty := 46) rfl _ _ ⟨w.heap.size, 0, none⟩ 32 _ (.int .i64 0) rfl rfl Try.underlying46 rfl sizeOf46 HG.out.1, HG.out.2]
end Go.Proofs.Ytnncpjekcljfbaa
/- The document's tree: Leaf, Up. -/
namespace Go.Proofs.Ytnncpjekcljfbaa
open Go.RowKit

theorem own_not {W : World} {v : Value} {g t : Nat} {vs : List Value} (hb : Blk W g t vs) (ht : t ≠ 35) (B : Nat) (xs : List SlC) (h : OwnS W B v xs) (k : Nat) (e : v.ownBlock = some k) : ¬ k = g := fun e2 => by
  obtain ⟨cur, hc⟩ := own_cells h e
  have h2 : W.heap[k]? = some (.cells vs.toArray t (0, 0)) := by rw [e2]; exact hb
  rw [hc] at h2
  simp only [Option.some.injEq, Obj.cells.injEq] at h2
  exact ht h2.2.1.symm
theorem RTo.setRow {b : Nat} {v v' : Value} {w W : World} (h : RTo b v w v' W) (g : Nat) (hg : w.heap.size ≤ g) (cs : Array Value) {t : Nat} {vs : List Value} (hb : Blk W g t vs) (ht : t ≠ 35) : RTo b v w v' (W.setRow g cs) := ⟨h.1.setRow _ _ (fun h => absurd h (by omega)), h.2.1, h.2.2.upd ((Upd.refl (fun k => k = g) W).setRow g cs fun _ => rfl) (own_not hb ht)⟩
theorem RTo.alloc {b : Nat} {v v' : Value} {w W : World} (h : RTo b v w v' W) (o : Obj) : RTo b v w v' (W.alloc o) := ⟨h.1.alloc _, h.2.1, h.2.2.upd ((Upd.refl (fun _ => False) W).alloc o) (fun _ _ _ _ _ => id)⟩

set_option maxHeartbeats 800000 in
set_option maxRecDepth 20000 in
theorem ref_Leaf {w : World} {B b : Nat} {v : Value} {n : Int} {xs : List SlC} {L : List Bytes} (h : RefBook w B b v n xs L) (hB : B ≤ w.heap.size) {A : Option Addr} {R : Bytes} (c : Nat) (hR : Byt w A R) (hl : R.length < 65536) (hcnt : L.length ≤ 100000) :
    Calls Try.prog 44 #[.pointer (some ⟨b, 0, none⟩), .slice A R.length c] w fun e W => e = .returned (.tuple #[.agg (dA (leafM shaM R)), .int .i64 0]) ∧ ∃ v' n' xs', RefBook W B b v' n' xs' (noteM L (leafIn R)) ∧ RTo b v w v' W := by
  have hr1 : Blk (w.alloc (.cells (dA dig0) 46)) w.heap.size 46 (encB dig0.1) := Blk.new w _ _
  have hk1 : Kept w (w.alloc (.cells (dA dig0) 46)) := (Upd.refl _ w).alloc _
  generalize hW1 : w.alloc (.cells (dA dig0) 46) = w1 at *
  obtain ⟨v0, w2, hbs, hB2, hk2⟩ := run_bs1 0 w1
  change (sliceRow 35 1 #[(0, .int .u8 0)]).run Try.prog w1 = _ at hbs
  have HX := Lib.hid (And.intro h (And.intro (hR.kept hk1) (And.intro hr1 (And.intro hk1 (And.intro hB hcnt)))))
  have HB := Lib.hid (And.intro hB2 hk2)
  clear h hR hr1 hk1 hB2 hk2 hB hcnt
  have hl' : decide ((65536 : Int) ≤ ((R.length : Nat) : Int)) = false := by rw [decide_eq_false_iff_not]; omega
  have HLE := Lib.hid hl
  clear hl
  go_enter Try.func44, Try.ntmps44
  go_wp2_with (at_builtin; refine wpList_append_bytes rfl (.tmp 11) (.tmp 12) rfl rfl HB.out.1 A c rfl (HX.out.2.1.kept HB.out.2) (by have := HLE.out; simp only [List.length_singleton]; omega) HB.out.2.size ?_; intro v' w3 hown hu3)
  have hr3 : Blk w3 w.heap.size 46 (encB dig0.1) := (HX.out.2.2.1.kept HB.out.2).upd hu3 (fun e => by have := (HB.out.1.far _ e).1; have := HX.out.2.2.1.lt; omega)
  have hk3 : Kept w w3 := (HX.out.2.2.2.1.then HB.out.2 fun _ _ h => h).then hu3 (fun i hi e => by have := (HB.out.1.far _ e).1; have := HX.out.2.2.2.1.size; omega)
  have hlen : ((0 : UInt8) :: R).length ≤ 65536 := by have := HLE.out; rw [List.length_cons]; omega
  have HG := ref_BookOf (R := leafIn R) (HX.out.1.kept hk3) (by have := HX.out.2.2.2.2.1; have := hk3.size; omega) hown hlen HX.out.2.2.2.2.2
  rw [show shaM (leafIn R) = leafM shaM R from rfl] at HG
  have HT := Lib.hid (And.intro (HX.out.1.kept hk3) (And.intro hr3 hk3))
  clear hr3 hk3 hown hu3 HX HB hbs hW1 hlen
  generalize hD : leafM shaM R = D at *
  have HDD := Lib.hid hD
  clear hD
  refine HG.mono ?_
  clear HG
  rintro e w4 ⟨rfl, v4, n4, xs4, hb4, ht4⟩
  have hr4 := HT.out.2.1.upd ht4.1 (HT.out.1.far HT.out.2.1 (by decide) (by decide))
  have hto4 := (RTo.kept (b := b) (v := v) HT.out.2.2).trans ht4
  clear ht4 HT
  obtain ⟨hrb, hs1, hs2⟩ := dig_end D hr4
  have HF : Hid (RefBook (w4.setRow w.heap.size (dA D)) B b v4 n4 xs4 (noteM L (leafIn R)) ∧ RTo b v w v4 (w4.setRow w.heap.size (dA D))) :=
    ⟨hb4.turn hr4 (by decide) (by decide) (by decide) ((Upd.refl _ _).setRow _ _ fun _ => rfl), (hto4.setRow _ (Nat.le_refl _) _ hr4 (by decide))⟩
  have HG := Lib.hid (And.intro hs1 hs2)
  clear hb4 hto4 hr4 hs1 hs2
  go_wp2
  refine bodyPost_ret (v := .tuple #[.agg (dA D), .int .i64 0]) ?_ rfl (by rw [HDD.out]; exact ⟨rfl, _, _, _, HF.out⟩)
  rw [results_seg2 (P := Try.prog) (fn := Try.f44) (p := 4) (t := 5) (ty := 46) rfl _ _ ⟨w.heap.size, 0, none⟩ 32 _ (.int .i64 0) rfl rfl Try.underlying46 rfl sizeOf46 HG.out.1, HG.out.2]
set_option maxHeartbeats 800000 in
set_option maxRecDepth 20000 in
theorem ref_Leaf_long {w : World} {p A : Option Addr} {n : Nat} (c : Nat) (hn : 65536 ≤ n) :
    Calls Try.prog 44 #[.pointer p, .slice A n c] w fun e W => e = .returned (.tuple #[.agg (dA dig0), .int .i64 5]) ∧ Kept w W := by
  have hr1 : Blk (w.alloc (.cells (dA dig0) 46)) w.heap.size 46 (encB dig0.1) := Blk.new w _ _
  have hk1 : Kept w (w.alloc (.cells (dA dig0) 46)) := (Upd.refl _ w).alloc _
  generalize hW1 : w.alloc (.cells (dA dig0) 46) = w1 at *
  obtain ⟨hrb, hs1, hs2⟩ := dig_end dig0 hr1
  have HF : Hid (Kept w (w1.setRow w.heap.size (dA dig0)) ∧ segB (w1.setRow w.heap.size (dA dig0)) ⟨w.heap.size, 0, none⟩ 32 = true ∧ segV (w1.setRow w.heap.size (dA dig0)) ⟨w.heap.size, 0, none⟩ 32 = dA dig0) := ⟨Upd.setRow hk1 _ _ (fun h => absurd h (Nat.lt_irrefl _)), hs1, hs2⟩
  clear hs1 hs2
  clear hr1 hk1
  have hd1 : decide ((65536 : Int) ≤ (n : Int)) = true := by rw [decide_eq_true_iff]; omega
  have hd2 : decide (65536 ≤ n) = true := by rw [decide_eq_true_iff]; omega
  clear hn
  go_enter Try.func44, Try.ntmps44
  go_wp2
  refine bodyPost_ret (v := .tuple #[.agg (dA dig0), .int .i64 5]) ?_ rfl ⟨rfl, HF.out.1⟩
  rw [results_seg2 (P := Try.prog) (fn := Try.f44) (p := 4) (t := 5) (ty := 46) rfl _ _ ⟨w.heap.size, 0, none⟩ 32 _ (.int .i64 5) rfl rfl Try.underlying46 rfl sizeOf46 HF.out.2.1, HF.out.2.2]
set_option maxHeartbeats 800000 in
set_option maxRecDepth 20000 in
theorem ref_Up_no {w : World} {p A : Option Addr} {n : Nat} (c : Nat) (hn : n < 1 ∨ 4 < n) :
    Calls Try.prog 42 #[.pointer p, .slice A n c] w fun e W => e = .returned (.tuple #[.agg (dA dig0), .int .i64 2]) ∧ Kept w W := by
  have hr1 : Blk (w.alloc (.cells (dA dig0) 46)) w.heap.size 46 (encB dig0.1) := Blk.new w _ _
  have hk1 : Kept w (w.alloc (.cells (dA dig0) 46)) := (Upd.refl _ w).alloc _
  generalize hW1 : w.alloc (.cells (dA dig0) 46) = w1 at *
  obtain ⟨hrb, hs1, hs2⟩ := dig_end dig0 hr1
  have HF : Hid (Kept w (w1.setRow w.heap.size (dA dig0)) ∧ segB (w1.setRow w.heap.size (dA dig0)) ⟨w.heap.size, 0, none⟩ 32 = true ∧ segV (w1.setRow w.heap.size (dA dig0)) ⟨w.heap.size, 0, none⟩ 32 = dA dig0) := ⟨Upd.setRow hk1 _ _ (fun h => absurd h (Nat.lt_irrefl _)), hs1, hs2⟩
  clear hs1 hs2
  clear hr1 hk1
  rcases hn with hn | hn
  · have hd1 : decide ((n : Int) < 1) = true := by rw [decide_eq_true_iff]; omega
    clear hn
    go_enter Try.func42, Try.ntmps42
    go_wp2
    refine bodyPost_ret (v := .tuple #[.agg (dA dig0), .int .i64 2]) ?_ rfl ⟨rfl, HF.out.1⟩
    rw [results_seg2 (P := Try.prog) (fn := Try.f42) (p := 4) (t := 5) (ty := 46) rfl _ _ ⟨w.heap.size, 0, none⟩ 32 _ (.int .i64 2) rfl rfl Try.underlying46 rfl sizeOf46 HF.out.2.1, HF.out.2.2]
  · have hd1 : decide ((n : Int) < 1) = false := by rw [decide_eq_false_iff_not]; omega
    have hd2 : decide ((4 : Int) < (n : Int)) = true := by rw [decide_eq_true_iff]; omega
    have hd3 : decide (4 < n) = true := by rw [decide_eq_true_iff]; omega
    clear hn
    go_enter Try.func42, Try.ntmps42
    go_wp2
    refine bodyPost_ret (v := .tuple #[.agg (dA dig0), .int .i64 2]) ?_ rfl ⟨rfl, HF.out.1⟩
    rw [results_seg2 (P := Try.prog) (fn := Try.f42) (p := 4) (t := 5) (ty := 46) rfl _ _ ⟨w.heap.size, 0, none⟩ 32 _ (.int .i64 2) rfl rfl Try.underlying46 rfl sizeOf46 HF.out.2.1, HF.out.2.2]
/-- a byte of a digest in memory -/
theorem digs_byte {W : World} {A : Option Addr} {D : List Dig} (h : Digs W A D) {k j : Nat} (hk : k < D.length) (hj : j < 32) : ∃ u, D[k].1[j]? = some u ∧ ∃ b off, A = some ⟨b, off, none⟩ ∧ W.cell? ⟨b, off + k * 32 + j, none⟩ = some (.int .u8 (u.toNat : Int)) := by
  have hjl : j < (D[k].1).length := by rw [D[k].2]; exact hj
  refine ⟨_, List.getElem?_eq_getElem hjl, ?_⟩
  rcases h with h0 | ⟨b, off, rfl, h⟩
  · have h1 := flatD_length D
    rw [h0] at h1; simp at h1; omega
  · refine ⟨b, off, rfl, ?_⟩
    rw [Nat.add_assoc]
    refine h (k * 32 + j) _ ?_
    rw [← rowsOf_dA, rowsOf_get dA_size D k j hk hj]
    simp [dA, encB, List.getElem?_map, List.getElem?_eq_getElem hjl]

set_option maxHeartbeats 1600000 in
set_option maxRecDepth 20000 in
theorem ref_Up {w : World} {B b : Nat} {v : Value} {n : Int} {xs : List SlC} {L : List Bytes} (h : RefBook w B b v n xs L) (hB : B ≤ w.heap.size) {A : Option Addr} {D : List Dig} (c : Nat) (hD : Digs w A D) (h1 : 1 ≤ D.length) (h4 : D.length ≤ 4) (hcnt : L.length ≤ 100000) :
    Calls Try.prog 42 #[.pointer (some ⟨b, 0, none⟩), .slice A D.length c] w fun e W => e = .returned (.tuple #[.agg (dA (upM shaM D)), .int .i64 0]) ∧ ∃ v' n' xs', RefBook W B b v' n' xs' (noteM L (upIn D)) ∧ RTo b v w v' W := by
  have hr1 : Blk (w.alloc (.cells (dA dig0) 46)) w.heap.size 46 (encB dig0.1) := Blk.new w _ _
  have hk1 : Kept w (w.alloc (.cells (dA dig0) 46)) := (Upd.refl _ w).alloc _
  generalize hW1 : w.alloc (.cells (dA dig0) 46) = w1 at *
  obtain ⟨v0, w2, hbs, hB2, hk2⟩ := run_bs1 1 w1
  change (sliceRow 35 1 #[(0, .int .u8 1)]).run Try.prog w1 = _ at hbs
  have HX := Lib.hid (And.intro h (And.intro (hD.kept hk1) (And.intro hr1 (And.intro hk1 (And.intro hB (And.intro hcnt (And.intro hB2 hk2)))))))
  have HDL := Lib.hid (And.intro h1 h4)
  have hd1 : decide ((D.length : Int) < 1) = false := by rw [decide_eq_false_iff_not]; omega
  have hd4 : decide ((4 : Int) < (D.length : Int)) = false := by rw [decide_eq_false_iff_not]; omega
  have hd4n : decide (4 < D.length) = false := by rw [decide_eq_false_iff_not]; omega
  clear h hD hr1 hk1 hB hcnt hB2 hk2 h1 h4
  go_enter Try.func42, Try.ntmps42
  go_wp2_with fail
  clear hbs hd1 hd4 hd4n
  go_loopw [7, 6] (fun u1 v wr => ∃ k : Nat, k ≤ D.length ∧ u1 = .int .i64 k ∧ OwnB wr w1.heap.size v (1 :: flatD (D.take k)) ∧ Kept w1 wr) (fun u1 _ _ => 100 - (intOf u1).toNat)
  case atStart => exact ⟨0, Nat.zero_le _, rfl, HX.out.2.2.2.2.2.2.1, HX.out.2.2.2.2.2.2.2⟩
  case round =>
    obtain ⟨k, hk, rfl, hown, hu⟩ := hrel
    rcases Nat.lt_or_ge k D.length with hlt | hge
    · have hk' : (k : Int) < (D.length : Int) := by omega
      have hk5 : (k : Int) < 4 := by have := HDL.out.2; omega
      have HO := Lib.hid (And.intro hown hu)
      clear hown hu
      have hsn : Hid (1 :: flatD (D.take (k + 1)) = (1 :: flatD (D.take k)) ++ D[k].1) := by show _ = _; rw [flatD_snoc D k hlt]; rfl
      have hFl : Hid ((1 :: flatD (D.take k) : Bytes).length ≤ 200) := by
        show _ ≤ _
        rw [List.length_cons, flatD_length, List.length_take]
        have := HDL.out.2
        omega
      have hby : ∀ W, Kept w1 W → ∀ j, j < 32 → ∃ u, D[k].1[j]? = some u ∧ ∃ b off, A = some ⟨b, off, none⟩ ∧ W.cell? ⟨b, off + k * 32 + j, none⟩ = some (.int .u8 (u.toNat : Int)) := fun W hW j hj => digs_byte (HX.out.2.1.kept hW) hlt hj
      generalize flatD (D.take k) = F at *
      obtain ⟨y, hy⟩ : ∃ y, y = D[k] := ⟨_, rfl⟩
      rw [← hy] at hsn
      rw [← hy] at hby
      replace hby := Lib.hid hby
      have HK := Lib.hid hlt
      clear hy hk
      go_wp2_with fail
      go_loopw [8, 6] (fun u1 v wr => ∃ j : Nat, j ≤ 32 ∧ u1 = .int .i64 j ∧ OwnB wr w1.heap.size v (1 :: F ++ y.1.take j) ∧ Kept w1 wr) (fun u1 _ _ => 100 - (intOf u1).toNat)
      case atStart => exact ⟨0, Nat.zero_le _, rfl, by simpa using HO.out.1, HO.out.2⟩
      case round =>
        obtain ⟨j, hj, rfl, hown, hu⟩ := hrel
        rcases Nat.lt_or_ge j 32 with hjl | hjl
        · have hj' : (j : Int) < 32 := by omega
          have hjy : j < y.1.length := by rw [y.2]; exact hjl
          obtain ⟨u, hu8, bb, off, rfl, hcell⟩ := hby.out _ hu j hjl
          replace hu8 : u = y.1[j] := by rw [List.getElem?_eq_getElem hjy] at hu8; exact (Option.some.inj hu8).symm
          have HC : Hid ((1 :: F ++ y.1.take (j + 1) : Bytes) = (1 :: F ++ y.1.take j) ++ [u]) := by show _ = _; rw [List.take_succ_eq_append_getElem hjy, ← hu8]; simp
          obtain ⟨v2, wr2, hbs, hB2, hk2⟩ := run_bs1 u wr
          obtain ⟨A2, c2, rfl, hc2, hb2⟩ := byt_one hB2
          have HR := Lib.hid (And.intro (hown.kept hk2) (And.intro hb2 (And.intro (show Kept w1 wr2 from hu.then hk2 fun _ _ h => h) (show (1 :: F ++ y.1.take j : Bytes).length ≤ 240 by have := hFl.out; rw [List.length_append, List.length_take]; omega))))
          clear hown hu hB2 hk2 hb2 hc2 hu8 hjy
          go_wp2_with (at_builtin; refine wpList_append_bytes (R := [u]) rfl (.tmp 29) (.tmp 36) rfl rfl HR.out.1 A2 c2 rfl HR.out.2.1 (by have := HR.out.2.2.2; simp only [List.length_singleton]; omega) HR.out.2.2.1.size ?_; intro v' w3' hown hu3)
          go_roundw
          case rel =>
            refine ⟨j + 1, by omega, by show _ = _; go_num, by rw [HC.out]; exact hown, HR.out.2.2.1.then hu3 fun i hi e => ?_⟩
            have := (HR.out.1.far _ e).1
            omega
          case measure => simp [intOf]; omega
        · obtain rfl : j = 32 := by omega
          rw [show y.1.take 32 = y.1 from List.take_of_length_le (Nat.le_of_eq y.2), ← hsn.out] at hown
          clear hjl hj
          have HP := Lib.hid (And.intro hown hu)
          clear hown hu
          go_wp2
          go_roundw
          case rel => exact ⟨k + 1, by have := HK.out; omega, by show _ = _; go_num, HP.out.1, HP.out.2⟩
          case measure => have := HK.out; simp [intOf]; omega
    · obtain rfl : k = D.length := by omega
      have hk' : ¬ ((D.length : Int) < (D.length : Int)) := by omega
      rw [List.take_length] at hown
      have hlen : (1 :: flatD D : Bytes).length ≤ 65536 := by rw [List.length_cons, flatD_length]; have := HDL.out.2; omega
      have hkw : Kept w wr := HX.out.2.2.2.1.then hu (fun _ _ h => h)
      have HG := ref_BookOf (R := upIn D) (HX.out.1.kept hkw) (by have := HX.out.2.2.2.2.1; have := hkw.size; omega) hown hlen HX.out.2.2.2.2.2.1
      rw [show shaM (upIn D) = upM shaM D from rfl] at HG
      have HT := Lib.hid (And.intro (HX.out.1.kept hkw) (And.intro (HX.out.2.2.1.kept hu) hkw))
      clear hown hu hlen hkw hk hge HX hW1
      generalize hDD : upM shaM D = X at *
      have HDD := Lib.hid hDD
      clear hDD
      go_wp2_with fail
      refine HG.mono ?_
      clear HG
      rintro e w4 ⟨rfl, v4, n4, xs4, hb4, ht4⟩
      have hr4 := HT.out.2.1.upd ht4.1 (HT.out.1.far HT.out.2.1 (by decide) (by decide))
      have hto4 := (RTo.kept (b := b) (v := v) HT.out.2.2).trans ht4
      clear ht4 HT
      obtain ⟨hrb, hs1, hs2⟩ := dig_end X hr4
      have HF : Hid (RefBook (w4.setRow w.heap.size (dA X)) B b v4 n4 xs4 (noteM L (upIn D)) ∧ RTo b v w v4 (w4.setRow w.heap.size (dA X))) :=
        ⟨hb4.turn hr4 (by decide) (by decide) (by decide) ((Upd.refl _ _).setRow _ _ fun _ => rfl), (hto4.setRow _ (Nat.le_refl _) _ hr4 (by decide))⟩
      have HG := Lib.hid (And.intro hs1 hs2)
      clear hb4 hto4 hr4 hs1 hs2
      go_wp2
      refine bodyPost_ret (v := .tuple #[.agg (dA X), .int .i64 0]) ?_ rfl (by rw [HDD.out]; exact ⟨rfl, _, _, _, HF.out⟩)
      rw [results_seg2 (P := Try.prog) (fn := Try.f42) (p := 4) (t := 5) (ty := 46) rfl _ _ ⟨w.heap.size, 0, none⟩ 32 _ (.int .i64 0) rfl rfl Try.underlying46 rfl sizeOf46 HG.out.1, HG.out.2]
end Go.Proofs.Ytnncpjekcljfbaa
/- The document's book beside the program's; Fits, LeafFits of both. -/
namespace Go.Proofs.Ytnncpjekcljfbaa
open Go.RowKit

theorem RefBook.book {W W' : World} {B c : Nat} {v : Value} {n : Int} {xs : List SlC} {M : List Bytes} (h : RefBook W B c v n xs M) {b r q : Nat} {L : List Bytes} (hb : BookL W b r q L) (hu : Upd (Book3 b r q) W W') : RefBook W' B c v n xs M :=
  ⟨hu.heap h.blk (hb.not h.blk (by decide)), OwnRows.upd h.row hu (fun k e => by obtain ⟨cur, hc⟩ := own_cells h.row e; exact hb.not hc (by decide)), h.len,
    fun i hi hi' => (h.each i hi hi').upd hu (fun k e => by obtain ⟨cur, hc⟩ := (h.each i hi hi').blk e; exact hb.not hc (by decide)), h.sz⟩
/-- what the document's book turns -/
theorem RefBook.own {W : World} {B c : Nat} {v : Value} {n : Int} {xs : List SlC} {M : List Bytes} (h : RefBook W B c v n xs M) {k : Nat} (hk : k = c ∨ v.ownBlock = some k) : ∃ cs t fr, W.heap[k]? = some (.cells cs t fr) ∧ (t = 138 ∨ t = 35) := by
  rcases hk with rfl | e
  · exact ⟨_, _, _, h.blk, .inl rfl⟩
  · obtain ⟨cur, hc⟩ := own_cells h.row e
    exact ⟨_, _, _, hc, .inr rfl⟩
theorem BookL.ref {W W' : World} {b r q : Nat} {L : List Bytes} (hb : BookL W b r q L) {B c : Nat} {v : Value} {n : Int} {xs : List SlC} {M : List Bytes} (h : RefBook W B c v n xs M) (hu : Upd (fun k => k = c ∨ v.ownBlock = some k) W W') : BookL W' b r q L := by
  have key : ∀ k, (k = c ∨ v.ownBlock = some k) → ¬ Book3 b r q k := fun k e => by
    obtain ⟨cs, t, fr, hc, ht⟩ := h.own e
    exact hb.not hc (by rcases ht with rfl | rfl <;> decide)
  exact hb.upd hu (fun e => key _ e (.inl rfl)) (fun e => key _ e (.inr (.inl rfl))) (fun e => key _ e (.inr (.inr rfl)))
/-- all that is made behind a world -/
abbrev Beh (w : World) : Nat → Prop := fun k => w.heap.size ≤ k
/-- both books, made behind w -/
structure Twin (w W : World) (b r q : Nat) (L : List Bytes) (c : Nat) (M : List Bytes) : Prop where
  ink : Ink0 w W b r q L
  ref : ∃ B v n xs, RefBook W B c v n xs M ∧ w.heap.size ≤ B ∧ B ≤ c
section
variable {w W W' : World} {b r q c : Nat} {L L' M M' : List Bytes}
theorem Twin.kept (h : Twin w W b r q L c M) (hu : Kept W W') : Twin w W' b r q L c M := by
  obtain ⟨h1, B, v, n, xs, h2, h3⟩ := h
  exact ⟨h1.kept hu, B, v, n, xs, h2.kept hu, h3⟩
theorem Twin.to (h : Twin w W b r q L c M) (hb : BookL W' b r q L') (hu : Upd (Book3 b r q) W W') : Twin w W' b r q L' c M ∧ Upd (Beh w) W W' := by
  obtain ⟨h1, B, v, n, xs, h2, h3⟩ := h
  exact ⟨⟨h1.to hb hu, B, v, n, xs, h2.book h1.book hu, h3⟩, hu.mono fun k _ e => h1.far k e⟩
theorem Twin.of (h : Twin w W b r q L c M) : ∃ B v n xs, RefBook W B c v n xs M ∧ B ≤ W.heap.size ∧ ∀ W' v' n' xs' M', RefBook W' B c v' n' xs' M' → RTo c v W v' W' → Twin w W' b r q L c M' ∧ Upd (Beh w) W W' := by
  obtain ⟨h1, B, v, n, xs, h2, h3, h4⟩ := h
  refine ⟨B, v, n, xs, h2, by have := h2.lt; omega, fun W' v' n' xs' M' hr ht => ?_⟩
  have hb : Upd (Beh w) W W' := ht.1.mono fun k _ e => by
    rcases e with rfl | e
    · show _ ≤ _; omega
    · have := (World.ownsRow.lt h2.row k e).1
      show _ ≤ _; omega
  exact ⟨⟨h1.step (h1.book.ref h2 ht.1) hb fun k e => .inr e, B, v', n', xs', hr, h3, h4⟩, hb⟩
end
theorem ref_New (w : World) : Calls Try.prog 20 #[] w fun e W => e = .returned (.pointer (some ⟨w.heap.size, 0, none⟩)) ∧ RefBook W w.heap.size w.heap.size (.slice none 0 0) 0 [] [] ∧ Kept w W := by
  have hk : Kept w (w.alloc (.cells #[.slice none 0 0, .int .i64 0] 138)) := (Upd.refl _ w).alloc _
  have hg := heap_alloc_new w (.cells #[.slice none 0 0, .int .i64 0] 138)
  have HF := Lib.hid (show RefBook (w.alloc (.cells #[.slice none 0 0, .int .i64 0] 138)) w.heap.size w.heap.size (.slice none 0 0) 0 [] [] ∧ Kept w (w.alloc (.cells #[.slice none 0 0, .int .i64 0] 138)) from
    ⟨⟨hg, OwnRows.nil _ _ _, rfl, fun i hi => absurd hi (Nat.not_lt_zero i), fun r hr => by simp at hr⟩, hk⟩)
  clear hk hg
  go_enter Try.func20, Try.ntmps20
  go_wp2
  go_ret
  exact ⟨rfl, HF.out⟩
theorem twin_New {w W : World} {b r q : Nat} {L : List Bytes} (h : Ink0 w W b r q L) : Calls Try.prog 20 #[] W fun e W' => ∃ c, e = .returned (.pointer (some ⟨c, 0, none⟩)) ∧ Twin w W' b r q L c [] := by
  refine (ref_New W).mono ?_
  rintro e W' ⟨rfl, hr, hu⟩
  exact ⟨_, rfl, h.kept hu, _, _, _, _, hr, h.upd.size, Nat.le_refl _⟩

set_option maxHeartbeats 800000 in
set_option maxRecDepth 20000 in
theorem ref_Fits_of {w : World} {p : Option Addr} {x : Value} (d y : Dig) {S : Nat → Prop} {Q : World → Prop}
    (hU : ∀ w1, Kept w w1 → Calls Try.prog 42 #[.pointer p, x] w1 fun e W => e = .returned (.tuple #[.agg (dA y), .int .i64 0]) ∧ Q W ∧ Upd S w1 W) (hS : ∀ k, S k → k < w.heap.size) (hQ : ∀ W W', Q W → Kept W W' → Q W') :
    Calls Try.prog 59 #[.pointer p, .agg (dA d), x] w fun e W => e = .returned (.int .i64 (if y = d then 0 else 100)) ∧ Q W ∧ Upd S w W := by
  have hd1 : Blk (w.alloc (.cells (dA d) 46)) w.heap.size 46 (encB (d).1) := Blk.new w _ _
  have hk1 : Kept w (w.alloc (.cells (dA d) 46)) := (Upd.refl _ w).alloc _
  have HG := hU _ hk1
  have HX := Lib.hid (And.intro hd1 (And.intro hk1 (And.intro hS hQ)))
  have HC : Hid ((y = d ∧ (if y = d then (0 : Int) else 100) = 0) ∨ (decide (y = d) = false ∧ (if y = d then (0 : Int) else 100) = 100)) := by
    by_cases hy : y = d
    · exact .inl ⟨hy, if_pos hy⟩
    · exact .inr ⟨decide_eq_false hy, if_neg hy⟩
  generalize (if y = d then (0 : Int) else 100) = zz at *
  clear hd1 hk1 hU hS hQ
  go_enter Try.func59, Try.ntmps59
  go_wp2_with fail
  refine HG.mono ?_
  clear HG
  rintro e w2 ⟨rfl, hq2, hu2⟩
  have hb2 := HX.out.1.upd hu2 (fun e => absurd (HX.out.2.2.1 _ e) (Nat.lt_irrefl _))
  have hd3 : Blk (w2.alloc (.cells (dA y) 46)) w2.heap.size 46 (encB (y).1) := Blk.new w2 _ _
  have hk3 : Kept w2 (w2.alloc (.cells (dA y) 46)) := (Upd.refl _ w2).alloc _
  obtain ⟨p1, p2⟩ := dig_at (hb2.kept hk3)
  obtain ⟨p3, p4⟩ := dig_at hd3
  have HF : Hid (Q (w2.alloc (.cells (dA y) 46)) ∧ Upd S w (w2.alloc (.cells (dA y) 46))) := ⟨HX.out.2.2.2 _ _ hq2 hk3, (HX.out.2.1.to.trans hu2).alloc _⟩
  clear hb2 hd3 hk3 hq2 hu2 HX
  rcases HC.out with ⟨rfl, rfl⟩ | ⟨hdy, rfl⟩
  · go_wp2
    go_ret
    exact ⟨rfl, HF.out⟩
  · go_wp2
    go_ret
    exact ⟨rfl, HF.out⟩
set_option maxHeartbeats 800000 in
set_option maxRecDepth 20000 in
theorem ref_Fits_no {w : World} {p : Option Addr} {x : Value} (d y : Dig) {z : Int} (hz : z ≠ 0)
    (hU : ∀ w1, Kept w w1 → Calls Try.prog 42 #[.pointer p, x] w1 fun e W => e = .returned (.tuple #[.agg (dA y), .int .i64 z]) ∧ Kept w1 W) :
    Calls Try.prog 59 #[.pointer p, .agg (dA d), x] w fun e W => e = .returned (.int .i64 z) ∧ Kept w W := by
  have hd1 : Blk (w.alloc (.cells (dA d) 46)) w.heap.size 46 (encB (d).1) := Blk.new w _ _
  have hk1 : Kept w (w.alloc (.cells (dA d) 46)) := (Upd.refl _ w).alloc _
  have HG := hU _ hk1
  have HX := Lib.hid hk1
  clear hd1 hk1 hU
  have hdz : decide (z = 0) = false := decide_eq_false hz
  go_enter Try.func59, Try.ntmps59
  go_wp2_with fail
  refine HG.mono ?_
  clear HG
  rintro e w2 ⟨rfl, hu2⟩
  have hd3 : Blk (w2.alloc (.cells (dA y) 46)) w2.heap.size 46 (encB (y).1) := Blk.new w2 _ _
  have hk3 : Kept w2 (w2.alloc (.cells (dA y) 46)) := (Upd.refl _ w2).alloc _
  have HF := Lib.hid (show Kept w (w2.alloc (.cells (dA y) 46)) from (HX.out.then hu2 fun _ _ h => h).alloc _)
  clear hd3 hk3 hu2 HX
  go_wp2
  go_ret
  exact ⟨rfl, HF.out⟩
set_option maxHeartbeats 800000 in
set_option maxRecDepth 20000 in
theorem ref_LeafFits_of {w : World} {p : Option Addr} {x : Value} (d y : Dig) {S : Nat → Prop} {Q : World → Prop}
    (hU : ∀ w1, Kept w w1 → Calls Try.prog 44 #[.pointer p, x] w1 fun e W => e = .returned (.tuple #[.agg (dA y), .int .i64 0]) ∧ Q W ∧ Upd S w1 W) (hS : ∀ k, S k → k < w.heap.size) (hQ : ∀ W W', Q W → Kept W W' → Q W') :
    Calls Try.prog 61 #[.pointer p, .agg (dA d), x] w fun e W => e = .returned (.int .i64 (if y = d then 0 else 100)) ∧ Q W ∧ Upd S w W := by
  have hd1 : Blk (w.alloc (.cells (dA d) 46)) w.heap.size 46 (encB (d).1) := Blk.new w _ _
  have hk1 : Kept w (w.alloc (.cells (dA d) 46)) := (Upd.refl _ w).alloc _
  have HG := hU _ hk1
  have HX := Lib.hid (And.intro hd1 (And.intro hk1 (And.intro hS hQ)))
  have HC : Hid ((y = d ∧ (if y = d then (0 : Int) else 100) = 0) ∨ (decide (y = d) = false ∧ (if y = d then (0 : Int) else 100) = 100)) := by
    by_cases hy : y = d
    · exact .inl ⟨hy, if_pos hy⟩
    · exact .inr ⟨decide_eq_false hy, if_neg hy⟩
  generalize (if y = d then (0 : Int) else 100) = zz at *
  clear hd1 hk1 hU hS hQ
  go_enter Try.func61, Try.ntmps61
  go_wp2_with fail
  refine HG.mono ?_
  clear HG
  rintro e w2 ⟨rfl, hq2, hu2⟩
  have hb2 := HX.out.1.upd hu2 (fun e => absurd (HX.out.2.2.1 _ e) (Nat.lt_irrefl _))
  have hd3 : Blk (w2.alloc (.cells (dA y) 46)) w2.heap.size 46 (encB (y).1) := Blk.new w2 _ _
  have hk3 : Kept w2 (w2.alloc (.cells (dA y) 46)) := (Upd.refl _ w2).alloc _
  obtain ⟨p1, p2⟩ := dig_at (hb2.kept hk3)
  obtain ⟨p3, p4⟩ := dig_at hd3
  have HF : Hid (Q (w2.alloc (.cells (dA y) 46)) ∧ Upd S w (w2.alloc (.cells (dA y) 46))) := ⟨HX.out.2.2.2 _ _ hq2 hk3, (HX.out.2.1.to.trans hu2).alloc _⟩
  clear hb2 hd3 hk3 hq2 hu2 HX
  rcases HC.out with ⟨rfl, rfl⟩ | ⟨hdy, rfl⟩
  · go_wp2
    go_ret
    exact ⟨rfl, HF.out⟩
  · go_wp2
    go_ret
    exact ⟨rfl, HF.out⟩
set_option maxHeartbeats 800000 in
set_option maxRecDepth 20000 in
theorem ref_LeafFits_no {w : World} {p : Option Addr} {x : Value} (d y : Dig) {z : Int} (hz : z ≠ 0)
    (hU : ∀ w1, Kept w w1 → Calls Try.prog 44 #[.pointer p, x] w1 fun e W => e = .returned (.tuple #[.agg (dA y), .int .i64 z]) ∧ Kept w1 W) :
    Calls Try.prog 61 #[.pointer p, .agg (dA d), x] w fun e W => e = .returned (.int .i64 z) ∧ Kept w W := by
  have hd1 : Blk (w.alloc (.cells (dA d) 46)) w.heap.size 46 (encB (d).1) := Blk.new w _ _
  have hk1 : Kept w (w.alloc (.cells (dA d) 46)) := (Upd.refl _ w).alloc _
  have HG := hU _ hk1
  have HX := Lib.hid hk1
  clear hd1 hk1 hU
  have hdz : decide (z = 0) = false := decide_eq_false hz
  go_enter Try.func61, Try.ntmps61
  go_wp2_with fail
  refine HG.mono ?_
  clear HG
  rintro e w2 ⟨rfl, hu2⟩
  have hd3 : Blk (w2.alloc (.cells (dA y) 46)) w2.heap.size 46 (encB (y).1) := Blk.new w2 _ _
  have hk3 : Kept w2 (w2.alloc (.cells (dA y) 46)) := (Upd.refl _ w2).alloc _
  have HF := Lib.hid (show Kept w (w2.alloc (.cells (dA y) 46)) from (HX.out.then hu2 fun _ _ h => h).alloc _)
  clear hd3 hk3 hu2 HX
  go_wp2
  go_ret
  exact ⟨rfl, HF.out⟩
def fitZ (D : List Dig) (d : Dig) : Int := if 1 ≤ D.length ∧ D.length ≤ 4 then (if upM shaM D = d then 0 else 100) else 2
def leafZ (R : Bytes) (d : Dig) : Int := if R.length < 65536 then (if leafM shaM R = d then 0 else 100) else 5
theorem noteM_length {L : List Bytes} {R : Bytes} : (noteM L R).length ≤ L.length + 1 := by unfold noteM; split <;> simp
section
variable {w W : World} {b r q c : Nat} {L M : List Bytes} {A : Option Addr}
theorem twin_Fits (h : Twin w W b r q L c M) {D : List Dig} (k : Nat) (hD : Digs W A D) (d : Dig) :
    Calls Try.prog 58 #[.pointer (some ⟨b, 0, none⟩), .agg (dA d), .slice A D.length k] W fun e W' => e = .returned (.int .i64 (fitZ D d)) ∧ (∃ L', Twin w W' b r q L' c M) ∧ Upd (Beh w) W W' := by
  refine (proof_Fits_any h.ink.book k hD d).mono ?_
  rintro e W' ⟨z, rfl, ⟨L', hb, -, hz⟩, hu⟩
  have hz2 : z = fitZ D d := by
    unfold fitZ
    rcases hz with ⟨h1, h2, h3, -⟩ | ⟨h1, h2⟩
    · rw [if_pos ⟨h1, h2⟩, h3]
    · rw [if_neg h1, h2]
  obtain ⟨h1, h2⟩ := h.to hb hu
  exact ⟨by rw [hz2], ⟨L', h1⟩, h2⟩
theorem twin_LeafFits (h : Twin w W b r q L c M) {R : Bytes} (k : Nat) (hR : Byt W A R) (d : Dig) :
    Calls Try.prog 60 #[.pointer (some ⟨b, 0, none⟩), .agg (dA d), .slice A R.length k] W fun e W' => e = .returned (.int .i64 (leafZ R d)) ∧ (∃ L', Twin w W' b r q L' c M) ∧ Upd (Beh w) W W' := by
  refine (proof_LeafFits_any h.ink.book k hR d).mono ?_
  rintro e W' ⟨z, rfl, ⟨L', hb, -, hz⟩, hu⟩
  have hz2 : z = leafZ R d := by
    unfold leafZ
    rcases hz with ⟨h1, h3, -⟩ | ⟨h1, h2⟩
    · rw [if_pos h1, h3]
    · rw [if_neg (by omega), h2]
  obtain ⟨h1, h2⟩ := h.to hb hu
  exact ⟨by rw [hz2], ⟨L', h1⟩, h2⟩
theorem RefBook.old {B : Nat} {v : Value} {n : Int} {xs : List SlC} (h : RefBook W B c v n xs M) {k : Nat} (hk : k = c ∨ v.ownBlock = some k) : k < W.heap.size := by
  obtain ⟨cs, t, fr, hc, -⟩ := h.own hk
  exact (Array.getElem?_eq_some_iff.1 hc).1
theorem twin_RefFits (h : Twin w W b r q L c M) (hM : M.length ≤ 100000) {D : List Dig} (k : Nat) (hD : Digs W A D) (d : Dig) :
    Calls Try.prog 59 #[.pointer (some ⟨c, 0, none⟩), .agg (dA d), .slice A D.length k] W fun e W' => e = .returned (.int .i64 (fitZ D d)) ∧ (∃ M', M'.length ≤ M.length + 1 ∧ Twin w W' b r q L c M') ∧ Upd (Beh w) W W' := by
  obtain ⟨B, v, n, xs, hr, hB, hto⟩ := h.of
  by_cases hn : 1 ≤ D.length ∧ D.length ≤ 4
  · refine (ref_Fits_of d (upM shaM D) (S := fun k => k = c ∨ v.ownBlock = some k) (Q := fun W' => ∃ v' n' xs', RefBook W' B c v' n' xs' (noteM M (upIn D)) ∧ RTo c v W v' W')
      (fun w1 hu => (ref_Up (hr.kept hu) (Nat.le_trans hB hu.size) k (hD.kept hu) hn.1 hn.2 hM).mono fun e W' ⟨he, v', n', xs', h1, h2⟩ => ⟨he, ⟨v', n', xs', h1, (RTo.kept hu).trans h2⟩, h2.1⟩)
      (fun k e => hr.old e) (fun W1 W2 ⟨v', n', xs', h1, h2⟩ hu => ⟨v', n', xs', h1.kept hu, h2.trans (RTo.kept hu)⟩)).mono ?_
    rintro e W' ⟨rfl, ⟨v', n', xs', h1, h2⟩, -⟩
    obtain ⟨h3, h4⟩ := hto _ _ _ _ _ h1 h2
    exact ⟨by unfold fitZ; rw [if_pos hn], ⟨_, noteM_length, h3⟩, h4⟩
  · refine (ref_Fits_no d dig0 (z := 2) (by decide) (fun _ _ => ref_Up_no k (by omega))).mono ?_
    rintro e W' ⟨rfl, hu⟩
    exact ⟨by unfold fitZ; rw [if_neg hn], ⟨_, Nat.le_succ _, h.kept hu⟩, hu.to⟩
theorem twin_RefLeafFits (h : Twin w W b r q L c M) (hM : M.length ≤ 100000) {R : Bytes} (k : Nat) (hR : Byt W A R) (d : Dig) :
    Calls Try.prog 61 #[.pointer (some ⟨c, 0, none⟩), .agg (dA d), .slice A R.length k] W fun e W' => e = .returned (.int .i64 (leafZ R d)) ∧ (∃ M', M'.length ≤ M.length + 1 ∧ Twin w W' b r q L c M') ∧ Upd (Beh w) W W' := by
  obtain ⟨B, v, n, xs, hr, hB, hto⟩ := h.of
  by_cases hn : R.length < 65536
  · refine (ref_LeafFits_of d (leafM shaM R) (S := fun k => k = c ∨ v.ownBlock = some k) (Q := fun W' => ∃ v' n' xs', RefBook W' B c v' n' xs' (noteM M (leafIn R)) ∧ RTo c v W v' W')
      (fun w1 hu => (ref_Leaf (hr.kept hu) (Nat.le_trans hB hu.size) k (hR.kept hu) hn hM).mono fun e W' ⟨he, v', n', xs', h1, h2⟩ => ⟨he, ⟨v', n', xs', h1, (RTo.kept hu).trans h2⟩, h2.1⟩)
      (fun k e => hr.old e) (fun W1 W2 ⟨v', n', xs', h1, h2⟩ hu => ⟨v', n', xs', h1.kept hu, h2.trans (RTo.kept hu)⟩)).mono ?_
    rintro e W' ⟨rfl, ⟨v', n', xs', h1, h2⟩, -⟩
    obtain ⟨h3, h4⟩ := hto _ _ _ _ _ h1 h2
    exact ⟨by unfold leafZ; rw [if_pos hn], ⟨_, noteM_length, h3⟩, h4⟩
  · refine (ref_LeafFits_no d dig0 (z := 5) (by decide) (fun _ _ => ref_Leaf_long k (by omega))).mono ?_
    rintro e W' ⟨rfl, hu⟩
    exact ⟨by unfold leafZ; rw [if_neg hn], ⟨_, Nat.le_succ _, h.kept hu⟩, hu.to⟩
end
end Go.Proofs.Ytnncpjekcljfbaa
/- Two lists that are alike: Same of layers 9 and 10, EqBytes. -/
namespace Go.Proofs.Ytnncpjekcljfbaa
open Go.RowKit

attribute [local irreducible] wpOrd
set_option maxHeartbeats 800000 in
set_option maxRecDepth 20000 in
theorem ref_EqBytes_same {w : World} {A A2 : Option Addr} {R : Bytes} (c c2 : Nat) (h1 : Byt w A R) (h2 : Byt w A2 R) (hl : R.length ≤ 140737488351232) :
    Calls Try.prog 27 #[.slice A R.length c, .slice A2 R.length c2] w fun e W => e = .returned (.bool true) ∧ Kept w W := by
  have HX := Lib.hid (And.intro h1 (And.intro h2 hl))
  clear h1 h2 hl
  obtain ⟨n, hn⟩ : ∃ n, n = R.length := ⟨_, rfl⟩
  rw [← hn]
  have HN := Lib.hid (And.intro hn (show n ≤ 140737488351232 by rw [hn]; exact HX.out.2.2))
  clear hn
  go_enter Try.func27, Try.ntmps27
  go_wp2_with fail
  go_loopw [5] (fun u1 wr => ∃ k : Nat, k ≤ n ∧ u1 = .int .i64 k ∧ Kept w wr) (fun u1 _ => 140737488360000 - (intOf u1).toNat)
  case atStart => exact ⟨0, Nat.zero_le _, rfl, Upd.refl _ _⟩
  case round =>
    obtain ⟨k, hk, rfl, hu⟩ := hrel
    rcases Nat.lt_or_ge k n with hlt | hge
    · have hl1 : k < R.length := by rw [← HN.out.1]; exact hlt
      have hk' : (k : Int) < (n : Int) := by omega
      have hk5 : (k : Int) ≤ 140737488351232 := by have := HN.out.2; omega
      obtain ⟨b, off, rfl, hc⟩ := (HX.out.1.kept hu).get hl1
      obtain ⟨b2, off2, rfl, hc2⟩ := (HX.out.2.1.kept hu).get hl1
      have f1 : ∀ W, Kept wr W → W.cell? ⟨b, off + k, none⟩ = some (.int .u8 (R[k].toNat : Int)) := fun W hW => hW.cell hc id
      have f2 : ∀ W, Kept wr W → W.cell? ⟨b2, off2 + k, none⟩ = some (.int .u8 (R[k].toNat : Int)) := fun W hW => hW.cell hc2 id
      generalize R[k] = x at *
      have HK := Lib.hid (And.intro hlt (show Kept w wr.drew from hu.drew))
      have hud : Kept wr wr.drew := (Upd.refl _ wr).drew
      clear hc hc2 hlt hl1 hk hu
      go_wp2_with fail
      refine wp_region_ord [(0, true), (1, true), (2, true), (3, true), (4, true), (5, true), (6, true), (7, true), (8, true)] (by kernel_rfl) (by kernel_rfl) (Kept wr) hud ?_
      simp only [ordOps, List.getD_cons_zero, List.getD_cons_succ]
      iterate 9 (refine wpOrd_held (fun K hK => ?_); go_simp; first | (apply Exists.intro; refine ⟨fun W hW => ?_, hK _ ?_⟩; (go_simp; first | done | exact rfl); clear hK K) | (refine hK _ ?_; clear hK K))
      refine wpOrd_nil ?_
      clear f1 f2 hud
      go_wp2
      go_roundw
      case rel => exact ⟨k + 1, by have := HK.out.1; omega, by show _ = _; go_num, HK.out.2⟩
      case measure => have := HK.out.1; have := HN.out.2; simp [intOf]; omega
    · obtain rfl : k = n := by omega
      have hk' : ¬ ((k : Int) < (k : Int)) := by omega
      have HF := Lib.hid hu
      clear hu hge hk
      go_wp2
      go_ret
      exact ⟨rfl, HF.out⟩
set_option maxHeartbeats 800000 in
set_option maxRecDepth 20000 in
theorem ref_Same9 {w : World} {A1 A2 : Option Addr} {D : List Dig} (c1 c2 : Nat) (h1 : Digs w A1 D) (h2 : Digs w A2 D) (hl : D.length ≤ 140737488351232) :
    Calls Try.prog 30 #[.slice A1 D.length c1, .slice A2 D.length c2] w fun e W => e = .returned (.bool true) ∧ Kept w W := by
  have HX := Lib.hid (And.intro h1 (And.intro h2 hl))
  clear h1 h2 hl
  obtain ⟨n, hn⟩ : ∃ n, n = D.length := ⟨_, rfl⟩
  rw [← hn]
  have HN := Lib.hid (And.intro hn (show n ≤ 140737488351232 by rw [hn]; exact HX.out.2.2))
  clear hn
  go_enter Try.func30, Try.ntmps30
  go_wp2_with fail
  go_loopw [5] (fun u1 wr => ∃ k : Nat, k ≤ n ∧ u1 = .int .i64 k ∧ Kept w wr) (fun u1 _ => 140737488360000 - (intOf u1).toNat)
  case atStart => exact ⟨0, Nat.zero_le _, rfl, Upd.refl _ _⟩
  case round =>
    obtain ⟨k, hk, rfl, hu⟩ := hrel
    rcases Nat.lt_or_ge k n with hlt | hge
    · have hl1 : k < D.length := by rw [← HN.out.1]; exact hlt
      have hk' : (k : Int) < (n : Int) := by omega
      have hk5 : (k : Int) ≤ 140737488351232 := by have := HN.out.2; omega
      obtain ⟨ga, oa, hA1, -, -⟩ := (HX.out.1.kept hu).get hl1
      obtain ⟨gb, ob, hA2, -, -⟩ := (HX.out.2.1.kept hu).get hl1
      have hf : ∀ W, Kept wr W → (segB W ⟨ga, oa + k * 32, none⟩ 32 = true ∧ segV W ⟨ga, oa + k * 32, none⟩ 32 = dA D[k]) ∧ (segB W ⟨gb, ob + k * 32, none⟩ 32 = true ∧ segV W ⟨gb, ob + k * 32, none⟩ 32 = dA D[k]) := fun W hW => by
        obtain ⟨g1', o1', e1, s1, s2⟩ := (HX.out.1.kept (hu.then hW fun _ _ h => h)).get hl1
        obtain ⟨g2', o2', e2, s3, s4⟩ := (HX.out.2.1.kept (hu.then hW fun _ _ h => h)).get hl1
        rw [hA1] at e1
        rw [hA2] at e2
        simp only [Option.some.injEq, Addr.mk.injEq, and_true] at e1 e2
        obtain ⟨rfl, rfl⟩ := e1
        obtain ⟨rfl, rfl⟩ := e2
        exact ⟨⟨s1, s2⟩, s3, s4⟩
      generalize D[k] = x at *
      have f1 : ∀ W, Kept wr W → segB W ⟨ga, oa + k * 32, none⟩ 32 = true := fun W hW => (hf W hW).1.1
      have f2 : ∀ W, Kept wr W → segV W ⟨ga, oa + k * 32, none⟩ 32 = dA x := fun W hW => (hf W hW).1.2
      have f3 : ∀ W, Kept wr W → segB W ⟨gb, ob + k * 32, none⟩ 32 = true := fun W hW => (hf W hW).2.1
      have f4 : ∀ W, Kept wr W → segV W ⟨gb, ob + k * 32, none⟩ 32 = dA x := fun W hW => (hf W hW).2.2
      subst hA1 hA2
      have HK := Lib.hid (And.intro hlt (show Kept w wr.drew from hu.drew))
      have hud : Kept wr wr.drew := (Upd.refl _ wr).drew
      clear hf hlt hl1 hk hu
      go_wp2_with fail
      refine wp_region_ord [(0, true), (1, true), (2, true), (3, true), (4, true), (5, true), (6, true), (7, true), (8, true)] (by kernel_rfl) (by kernel_rfl) (Kept wr) hud ?_
      simp only [ordOps, List.getD_cons_zero, List.getD_cons_succ]
      iterate 9 (refine wpOrd_held (fun K hK => ?_); go_simp; first | (apply Exists.intro; refine ⟨fun W hW => ?_, hK _ ?_⟩; (go_simp; first | done | exact rfl); clear hK K) | (refine hK _ ?_; clear hK K))
      refine wpOrd_nil ?_
      clear f1 f2 f3 f4 hud
      go_wp2
      go_roundw
      case rel => exact ⟨k + 1, by have := HK.out.1; omega, by show _ = _; go_num, HK.out.2⟩
      case measure => have := HK.out.1; have := HN.out.2; simp [intOf]; omega
    · obtain rfl : k = n := by omega
      have hk' : ¬ ((k : Int) < (k : Int)) := by omega
      have HF := Lib.hid hu
      clear hu hge hk
      go_wp2
      go_ret
      exact ⟨rfl, HF.out⟩
set_option maxHeartbeats 800000 in
set_option maxRecDepth 20000 in
theorem ref_Same10 {w : World} {A1 A2 : Option Addr} {P1 P2 : List (SlC × List Dig)} (c1 c2 : Nat) (h1 : ProofAt w A1 P1) (h2 : ProofAt w A2 P2) (he : P1.map (·.2) = P2.map (·.2)) (hl : P1.length ≤ 140737488351232) (hd : ∀ p ∈ P1, p.2.length ≤ 140737488351232) :
    Calls Try.prog 51 #[.slice A1 P1.length c1, .slice A2 P2.length c2] w fun e W => e = .returned (.bool true) ∧ Kept w W := by
  have hll : P2.length = P1.length := by have := congrArg List.length he; rw [List.length_map, List.length_map] at this; exact this.symm
  rw [hll]
  have HX := Lib.hid (And.intro h1 (And.intro h2 (And.intro he (And.intro hl (And.intro hd hll)))))
  clear h1 h2 hl he hd hll
  obtain ⟨n, hn⟩ : ∃ n, n = P1.length := ⟨_, rfl⟩
  rw [← hn]
  have HN := Lib.hid (And.intro hn (show n ≤ 140737488351232 by rw [hn]; exact HX.out.2.2.2.1))
  clear hn
  go_enter Try.func51, Try.ntmps51
  go_wp2_with fail
  go_loopw [5] (fun u1 wr => ∃ k : Nat, k ≤ n ∧ u1 = .int .i64 k ∧ Kept w wr) (fun u1 _ => 140737488360000 - (intOf u1).toNat)
  case atStart => exact ⟨0, Nat.zero_le _, rfl, Upd.refl _ _⟩
  case round =>
    obtain ⟨k, hk, rfl, hu⟩ := hrel
    rcases Nat.lt_or_ge k n with hlt | hge
    · have hl1 : k < P1.length := by rw [← HN.out.1]; exact hlt
      have hl2 : k < P2.length := by rw [HX.out.2.2.2.2.2]; exact hl1
      have hk' : (k : Int) < (n : Int) := by omega
      have hk5 : (k : Int) ≤ 140737488351232 := by have := HN.out.2; omega
      obtain ⟨b, off, rfl, hc, hg, hn1, hcc⟩ := (HX.out.1.kept hu) k hl1
      obtain ⟨b2, off2, rfl, hc2, hg2, hn2, hcc2⟩ := (HX.out.2.1.kept hu) k hl2
      have hdl := HX.out.2.2.2.2.1 _ (List.getElem_mem hl1)
      have hpp : P2[k].2 = P1[k].2 := by
        have h := congrArg (·[k]?) HX.out.2.2.1
        simp only [List.getElem?_map, List.getElem?_eq_getElem hl1, List.getElem?_eq_getElem hl2, Option.map_some, Option.some.injEq] at h
        exact h.symm
      rw [hpp] at hg2 hn2
      clear hpp
      generalize P1[k] = p1 at *
      generalize P2[k] = p2 at *
      obtain ⟨⟨x1, m1, z1⟩, D⟩ := p1
      obtain ⟨⟨x2, m2, z2⟩, D2⟩ := p2
      simp only [SlC.v_eq] at hc hc2 hn1 hn2 hg hg2 hdl
      subst hn1 hn2
      have f1 : ∀ W, Kept wr W → W.cell? ⟨b, off + k, none⟩ = some (.slice x1 D.length z1) := fun W hW => hW.cell hc id
      have f2 : ∀ W, Kept wr W → W.cell? ⟨b2, off2 + k, none⟩ = some (.slice x2 D.length z2) := fun W hW => hW.cell hc2 id
      have HK := Lib.hid (And.intro hlt hu)
      have HG := ref_Same9 (w := wr.drew) z1 z2 (hg.kept (show Kept wr wr.drew from (Upd.refl _ wr).drew)) (hg2.kept (show Kept wr wr.drew from (Upd.refl _ wr).drew)) hdl
      have hud : Kept wr wr.drew := (Upd.refl _ wr).drew
      clear hc hc2 hlt hl1 hl2 hk hu hg hg2 hdl hcc hcc2
      go_wp2_with fail
      refine wp_region_ord [(0, true), (1, true), (2, true), (3, true), (4, true), (5, true), (6, true), (7, true), (8, false), (9, true)] (by kernel_rfl) (by kernel_rfl) (Kept wr) hud ?_
      simp only [ordOps, List.getD_cons_zero, List.getD_cons_succ]
      iterate 8 (refine wpOrd_held (fun K hK => ?_); go_simp; first | (apply Exists.intro; refine ⟨fun W hW => ?_, hK _ ?_⟩; (go_simp; first | done | exact rfl); clear hK K) | (refine hK _ ?_; clear hK K))
      refine wpOrd_step (fun K hK => ?_) hud
      go_simp
      refine HG.mono ?_
      clear HG
      rintro e W ⟨rfl, hu2⟩
      have hS : Kept wr W := hud.then hu2 (fun _ _ h => h)
      have HU := Lib.hid (show Kept w W from HK.out.2.then hS (fun _ _ h => h))
      refine hK _ _ hS ?_
      clear hK K hu2 hud
      iterate 1 (refine wpOrd_held (fun K hK => ?_); go_simp; first | (apply Exists.intro; refine ⟨fun W hW => ?_, hK _ ?_⟩; (go_simp; first | done | exact rfl); clear hK K) | (refine hK _ ?_; clear hK K))
      refine wpOrd_nil ?_
      clear f1 f2 hS
      go_wp2
      go_roundw
      case rel => exact ⟨k + 1, by have := HK.out.1; omega, by show _ = _; go_num, HU.out⟩
      case measure => have := HK.out.1; have := HN.out.2; simp [intOf]; omega
    · obtain rfl : k = n := by omega
      have hk' : ¬ ((k : Int) < (k : Int)) := by omega
      have HF := Lib.hid hu
      clear hu hge hk
      go_wp2
      go_ret
      exact ⟨rfl, HF.out⟩
end Go.Proofs.Ytnncpjekcljfbaa
