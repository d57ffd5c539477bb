/- sha: take, its first loop: the schedule. -/
import Derived.Test.YtjimamgghkgdeaaShaD
import Derived.Test.YtjimamgghkgdeaaOrd
namespace Go.Proofs.Ytjimamgghkgdeaa
open Go.RowKit

/-- four bytes as a word -/
def beM (cs : Bytes) : Int := cs.foldl (fun x c => bits .or .u32 (x * 256 % 4294967296) ((c.toNat : Int) % 4294967296)) 0
/-- a word of the schedule, of four earlier ones -/
def mixW (p x q y : Int) : Int :=
  (p + bits .xor .u32 (bits .xor .u32 (rorM x 7) (rorM x 18)) (x / 8) + q + bits .xor .u32 (bits .xor .u32 (rorM y 17) (rorM y 19)) (y / 1024)) % 4294967296
def nextW (blk : Bytes) (L : List Int) : Int :=
  if L.length < 16 then beM ((blk.drop (4 * L.length)).take 4) else mixW (L.getD (L.length - 16) 0) (L.getD (L.length - 15) 0) (L.getD (L.length - 7) 0) (L.getD (L.length - 2) 0)
def schedN (blk : Bytes) : Nat → List Int
  | 0 => []
  | t + 1 => schedN blk t ++ [nextW blk (schedN blk t)]
@[simp] theorem schedN_length (blk : Bytes) (t : Nat) : (schedN blk t).length = t := by
  induction t with
  | zero => rfl
  | succ t ih => simp [schedN, ih]

/-- all bits turned -/
def notW (x : Int) : Int := bits .xor .u32 IntKind.u32.max x
/-- the eight words of a state -/
structure St8 where
  a : Int
  b : Int
  c : Int
  d : Int
  e : Int
  f : Int
  g : Int
  h : Int
def St8.big (s : St8) (k w : Int) : Int :=
  ((((s.h + bits .xor .u32 (bits .xor .u32 (rorM s.e 6) (rorM s.e 11)) (rorM s.e 25)) % 4294967296 + bits .xor .u32 (bits .and .u32 s.e s.f) (bits .and .u32 (notW s.e) s.g)) % 4294967296 + k) % 4294967296 + w) % 4294967296
def St8.small (s : St8) : Int :=
  (bits .xor .u32 (bits .xor .u32 (rorM s.a 2) (rorM s.a 13)) (rorM s.a 22) + bits .xor .u32 (bits .xor .u32 (bits .and .u32 s.a s.b) (bits .and .u32 s.a s.c)) (bits .and .u32 s.b s.c)) % 4294967296
def St8.rnd (s : St8) (k w : Int) : St8 := ⟨(s.big k w + s.small) % 4294967296, s.a, s.b, s.c, (s.d + s.big k w) % 4294967296, s.e, s.f, s.g⟩
def St8.rounds (K W : List Int) : Nat → St8 → St8
  | 0, s => s
  | t + 1, s => (St8.rounds K W t s).rnd (K.getD t 0) (W.getD t 0)
def St8.list (s : St8) : List Int := [s.a, s.b, s.c, s.d, s.e, s.f, s.g, s.h]

/-- the first words, then 0 -/
def rowW (L : List Int) : List Value := L.map (Value.int .u32) ++ List.replicate (64 - L.length) (Value.int .u32 0)
theorem rowW_length {L : List Int} (h : L.length ≤ 64) : (rowW L).length = 64 := by simp [rowW]; omega
theorem rowW_get {L : List Int} {k : Nat} (hk : k < L.length) : (rowW L)[k]? = some (.int .u32 L[k]) := by
  unfold rowW
  rw [List.getElem?_append_left (by simpa using hk)]
  simp [hk]
theorem rowW_at {L : List Int} (h : L.length < 64) : (rowW L)[L.length]? = some (.int .u32 0) := by
  unfold rowW
  rw [List.getElem?_append_right (by simp), List.length_map, Nat.sub_self, List.getElem?_replicate, if_pos (by omega)]
theorem rowW_zero {L : List Int} (h : L.length < 64) : rowW L = rowW (L ++ [0]) := by
  unfold rowW
  rw [show 64 - L.length = (64 - (L ++ [0]).length) + 1 by simp; omega, List.replicate_succ]
  simp
theorem rowW_set {L : List Int} (h : L.length < 64) (x y : Int) : (rowW (L ++ [x])).set L.length (.int .u32 y) = rowW (L ++ [y]) := by
  unfold rowW
  rw [List.map_append, List.map_append, List.append_assoc, List.set_append_right _ _ (by simp)]
  simp
theorem rowW_all {L : List Int} (h : L.length = 64) : rowW L = L.map (Value.int .u32) := by simp [rowW, h]

/-! ### parts of the block -/
theorem b64_len : Try.prog.arrayLen 118 = 64 := by kernel_rfl
theorem b64_elem : Try.prog.elem 118 = 5 := by kernel_rfl
theorem u8_sizeOf (W : World) : (sizeOf 5).run Try.prog W = .ok 1 W := by
  have h : (Try.prog.info? 5).map (·.size) = some 1 := by kernel_rfl
  obtain ⟨i, hi, h2⟩ := Option.map_eq_some_iff.1 h
  simp [sizeOf, typeInfo, hi, h2]
theorem slice_b64 (W : World) (g o l h : Nat) (L H : Int) (hL : L = l) (hH : H = h) (h1 : l ≤ h) (h2 : h ≤ 64) (h3 : l < 64) :
    (Instr.sliceAt 118 (.pointer (some ⟨g, o, none⟩)) (some (.int .i64 L)) (some (.int .i64 H)) none).run Try.prog W = .ok (.slice (some ⟨g, o + l, none⟩) (h - l) (64 - l)) W := by
  subst hL hH
  have := run_sliceAt_array_lh (P := Try.prog) W 118 ⟨g, o, none⟩ (by rw [b64_len, b64_elem]; exact Try.underlying118) .i64 .i64 (l : Int) (h : Int) (by omega) (by omega) (by rw [b64_len]; omega)
  rw [this, b64_elem, u8_sizeOf, b64_len]
  simp only [Result.andThen, slicedAt, Int.toNat_natCast, Nat.mul_one, add_none]
  rw [if_neg (by omega)]
theorem slice_b64_l (W : World) (g o l : Nat) (L : Int) (hL : L = l) (h1 : l < 64) :
    (Instr.sliceAt 118 (.pointer (some ⟨g, o, none⟩)) (some (.int .i64 L)) none none).run Try.prog W = .ok (.slice (some ⟨g, o + l, none⟩) (64 - l) (64 - l)) W := by
  subst hL
  have := run_sliceAt_array_l (P := Try.prog) W 118 ⟨g, o, none⟩ (by rw [b64_len, b64_elem]; exact Try.underlying118) .i64 (l : Int) (by omega) (by rw [b64_len]; omega)
  rw [this, b64_elem, u8_sizeOf, b64_len]
  simp only [Result.andThen, slicedAt, Int.toNat_natCast, Nat.mul_one, add_none]
  rw [if_neg (by omega)]
theorem slice_b64_all (W : World) (g o : Nat) :
    (Instr.sliceAt 118 (.pointer (some ⟨g, o, none⟩)) none none none).run Try.prog W = .ok (.slice (some ⟨g, o, none⟩) 64 64) W := by
  have := run_sliceAt_array_all (P := Try.prog) W 118 ⟨g, o, none⟩ (by rw [b64_len, b64_elem]; exact Try.underlying118)
  rw [this, b64_elem, u8_sizeOf, b64_len]
  simp [Result.andThen, slicedAt, add_none]

@[go_sem ↓] theorem exec_build_w8 (ρ : Operand → Value) (dst : Option Tmp) (parts : Array (Nat × Operand)) (ty : TypeId) (pos : String) (after : Array Edge) (guard : Option (Nat × Bool)) :
    execOp ρ ⟨dst, .build 117 parts, ty, pos, after, guard⟩ = buildRow 117 (parts.map fun (i, x) => (i, ρ x)) := rfl
@[go_sem] theorem run_build_w8 (a b c d e f g h : Int) (W : World) :
    (buildRow 117 #[(0, .int .u32 a), (1, .int .u32 b), (2, .int .u32 c), (3, .int .u32 d), (4, .int .u32 e), (5, .int .u32 f), (6, .int .u32 g), (7, .int .u32 h)]).run Try.prog W = .ok (.value (.agg (w32A [a, b, c, d, e, f, g, h]))) W := by
  have H := run_build (P := Try.prog) W 117 #[(0, .int .u32 a), (1, .int .u32 b), (2, .int .u32 c), (3, .int .u32 d), (4, .int .u32 e), (5, .int .u32 f), (6, .int .u32 g), (7, .int .u32 h)] (w32A [a, b, c, d, e, f, g, h]) (by unfold w32A; kernel_rfl)
  simp [buildRow, H, Result.andThen]
theorem u32_sizeOf : (Try.prog.info? 77).map (·.size) = some 1 := by kernel_rfl
theorem run_index_w8 (L : List Int) (hL : L.length = 8) (i : Nat) (hi : i < 8) (W : World) : (indexRow 117 (.agg (w32A L)) (.int .i64 (i : Int))).run Try.prog W = .ok (.value (.int .u32 (L.getD i 0))) W :=
  run_indexRow 117 77 8 _ Try.underlying117 Try.underlying77 rfl u32_sizeOf W _ i _ hi (by simp [w32A, hL, hi])

/-- the state's words with those of the rounds added -/
def addM (st L : List Int) : List Int := List.zipWith (fun x y => (x + y) % 4294967296) st L
/-- the first k of them -/
def addTo (st L : List Int) (k : Nat) : List Int := (addM st L).take k ++ st.drop k
theorem addM_length {st L : List Int} {n : Nat} (hs : st.length = n) (hl : L.length = n) : (addM st L).length = n := by simp [addM, hs, hl]
theorem addTo_get {st L : List Int} {n k : Nat} (hs : st.length = n) (hl : L.length = n) (hk : k < n) : (addTo st L k)[k]? = some (st.getD k 0) := by
  unfold addTo
  have h1 : ((addM st L).take k).length = k := by rw [List.length_take, addM_length hs hl]; omega
  rw [List.getElem?_append_right (by omega), h1, Nat.sub_self, List.getElem?_drop]
  simp [hs, hk]
theorem addTo_set {st L : List Int} {n k : Nat} (hs : st.length = n) (hl : L.length = n) (hk : k < n) : (addTo st L k).set k ((st.getD k 0 + L.getD k 0) % 4294967296) = addTo st L (k + 1) := by
  unfold addTo
  have h1 : ((addM st L).take k).length = k := by rw [List.length_take, addM_length hs hl]; omega
  have hk1 : k < st.length := by omega
  have hk2 : k < L.length := by omega
  have hk3 : k < (addM st L).length := by rw [addM_length hs hl]; exact hk
  have hd : st.drop k = st[k] :: st.drop (k + 1) := List.drop_eq_getElem_cons hk1
  rw [List.set_append_right _ _ (by omega), h1, Nat.sub_self, List.take_succ_eq_append_getElem hk3, List.append_assoc, hd, List.set_cons_zero]
  simp [addM, hk1, hk2]
theorem addTo_all {st L : List Int} {n : Nat} (hs : st.length = n) (hl : L.length = n) : addTo st L n = addM st L := by
  unfold addTo
  rw [List.take_of_length_le (by rw [addM_length hs hl]; omega), List.drop_of_length_le (by omega), List.append_nil]
theorem addTo_zero (st L : List Int) : addTo st L 0 = st := by simp [addTo]
def takeM (st : List Int) (blk : Bytes) (K : List Int) : List Int :=
  addM st (St8.rounds K (schedN blk 64) 64 ⟨st.getD 0 0, st.getD 1 0, st.getD 2 0, st.getD 3 0, st.getD 4 0, st.getD 5 0, st.getD 6 0, st.getD 7 0⟩).list

theorem takeM_eight (s0 s1 s2 s3 s4 s5 s6 s7 : Int) (blk : Bytes) (K : List Int) : takeM [s0, s1, s2, s3, s4, s5, s6, s7] blk K = addM [s0, s1, s2, s3, s4, s5, s6, s7] (St8.rounds K (schedN blk 64) 64 ⟨s0, s1, s2, s3, s4, s5, s6, s7⟩).list := by
  simp [takeM]
theorem rounds_zero (K W : List Int) (s : St8) : St8.rounds K W 0 s = s := rfl
theorem rounds_succ (K W : List Int) (t : Nat) (s : St8) : St8.rounds K W (t + 1) s = (St8.rounds K W t s).rnd (K.getD t 0) (W.getD t 0) := rfl
theorem schedN_zero (blk : Bytes) : schedN blk 0 = [] := rfl
theorem schedN_succ (blk : Bytes) (t : Nat) : schedN blk (t + 1) = schedN blk t ++ [nextW blk (schedN blk t)] := rfl
theorem takeM_length {st : List Int} (h : st.length = 8) (blk : Bytes) (K : List Int) : (takeM st blk K).length = 8 := addM_length h rfl
attribute [irreducible] takeM St8.rounds schedN
theorem beM_snoc (cs : Bytes) (c : UInt8) : beM (cs ++ [c]) = bits .or .u32 (beM cs * 256 % 4294967296) ((c.toNat : Int) % 4294967296) := by simp [beM]
/-- a byte of a row of bytes -/
theorem byte_at {W : World} {g o : Nat} {R : Bytes} (h : W.rangeAt g o (encB R)) {k : Nat} (hk : k < R.length) : W.cell? ⟨g, o + k, none⟩ = some (.int .u8 (R[k].toNat : Int)) :=
  h k _ (by simp [encB, hk])
theorem word_at {W : World} {g o : Nat} {L : List Int} (h : W.rangeAt g o (L.map (Value.int .u32))) {k : Nat} (hk : k < L.length) : W.cell? ⟨g, o + k, none⟩ = some (.int .u32 L[k]) :=
  h k _ (by simp [hk])
theorem range_kept {W W' : World} {g o : Nat} {cs : List Value} (h : W.rangeAt g o cs) (hu : Kept W W') : W'.rangeAt g o cs := fun j v hv => hu.cell (h j v hv) id
end Go.Proofs.Ytjimamgghkgdeaa
