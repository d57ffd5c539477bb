/- sha.Of is a pure function of the bytes. -/
import Derived.Test.YtjimamgghkgdeaaShaJ
namespace Go.Proofs.Ytjimamgghkgdeaa
open Go.RowKit

theorem shaM_sum {R T : Bytes} {q : Nat} (hT : T = R.drop (64 * q)) (hl : R.length = 64 * q + T.length) (h : T.length < 64) : outM (sumM (absorbN rootsM startM R q) T R.length) = shaM R := by
  rw [shaM_def, sumM]
  split
  · rename_i h56
    rw [pad_short hT hl h56]
  · rename_i h56
    rw [pad_long hT hl (by omega) h]

theorem Byt.lt {W : World} {A : Option Addr} {R : Bytes} (h : Byt W A R) (hn : R ≠ []) : ∀ a, A = some a → a.block < W.heap.size := by
  rintro a rfl
  rcases h with rfl | ⟨b, off, e, h⟩
  · exact absurd rfl hn
  · cases e
    have h0 : 0 < R.length := List.length_pos_iff.2 hn
    exact World.block_lt_of_cell? _ _ (h 0 _ (by rw [List.getElem?_eq_getElem (by rw [encB_length]; exact h0)]))

set_option maxHeartbeats 1000000 in
set_option maxRecDepth 20000 in
theorem sha_Of {w : World} {A : Option Addr} {R : Bytes} (c : Nat) (hR : Byt w A R) (hl : R.length ≤ 140737488351232) (hcap : R.length ≤ c) :
    Calls Try.prog 36 #[.slice A R.length c] w fun e W => e = .returned (.agg (dA (shaM R))) ∧ Kept w W := by
  have hR1 : Byt (w.alloc (.cells (dA dig0) 40)) A R := hR.kept ((Upd.refl _ w).alloc _)
  have hk1 : Kept w (w.alloc (.cells (dA dig0) 40)) := (Upd.refl _ w).alloc _
  have hr1 : Blk (w.alloc (.cells (dA dig0) 40)) w.heap.size 40 (encB dig0.1) := Blk.new w _ _
  have hlt := hR.lt
  have HX := Lib.hid (And.intro hR1 (And.intro hk1 (And.intro hr1 hlt)))
  clear hR hR1 hk1 hr1 hlt
  go_enter Try.func36, Try.ntmps36
  go_wp2_with fail
  generalize w.alloc (.cells (dA dig0) 40) = w1 at *
  refine (sha_New w1).mono ?_
  rintro e w2 ⟨rfl, h2, hu2⟩
  have hk2 : Kept w w2 := HX.out.2.1.then hu2 fun _ _ h => h
  have hr2 := HX.out.2.2.1.kept hu2
  have hR2 := HX.out.1.kept hu2
  have hwlt : w.heap.size ≤ w1.heap.size := HX.out.2.1.size
  have HY := Lib.hid (And.intro h2 (And.intro hk2 (And.intro hr2 (And.intro hR2 hwlt))))
  clear h2 hk2 hr2 hR2 hwlt hu2
  have HWG : Hid (w.heap.size < w1.heap.size) := HX.out.2.2.1.lt
  generalize w1.heap.size = g at *
  go_wp2_with fail
  refine (hash_Write HY.out.1 c HY.out.2.2.2.1 (fun hn a ha => by have h1 := HX.out.2.2.2 hn a ha; have h2 := HY.out.2.2.2.2; omega) hl hcap).mono ?_
  rintro e w3 ⟨rfl, hu3, q, T, blk, hT, hTl, hT64, hbT, h3⟩
  have hg : ∀ i, i < w.heap.size → i = g → False := fun i hi e => by have := HY.out.2.2.2.2; omega
  have hk3 : Kept w w3 := HY.out.2.1.then hu3 hg
  have hr3 := HY.out.2.2.1.upd hu3 (by have h1 := HY.out.2.2.1.lt; have h2 := HWG.out; omega)
  have HZ := Lib.hid (And.intro h3 (And.intro hk3 (And.intro hT64 (And.intro hbT (And.intro (shaM_sum hT hTl hT64) hr3)))))
  clear hk3 hr3 h3 hu3 hT hTl hT64 hbT hg
  go_wp2_with fail
  refine (hash_Sum HZ.out.1 HZ.out.2.2.1 HZ.out.2.2.2.1 hl).mono ?_
  rw [HZ.out.2.2.2.2.1]
  rintro e w4 ⟨rfl, hu4⟩
  have hr4 := HZ.out.2.2.2.2.2.kept hu4
  have hk4 : Kept w w4 := HZ.out.2.1.then hu4 fun _ _ h => h
  generalize hD : shaM R = D at *
  have HD := Lib.hid hD
  clear hD
  have hlt4 := hr4.lt
  have hrb : rowB w4 w.heap.size 32 = true := rowB_of (show w4.heap[w.heap.size]? = some (.cells (encB dig0.1).toArray 40 (0, 0)) from hr4) (by simp [encB_length, dig0])
  have hb5 : Blk ((w4.setRow w.heap.size (dA D)).alloc (.cells (dA D) 40)) w.heap.size 40 (encB D.1) := (hr4.setRow (encB D.1)).alloc _
  have hs5 := hb5.seg 0 32 (encB D.1) (by rw [encB_length, D.2]) (fun j _ => by rw [Nat.zero_add])
  have HK : Hid (Kept w ((w4.setRow w.heap.size (dA D)).alloc (.cells (dA D) 40)) ∧ segB ((w4.setRow w.heap.size (dA D)).alloc (.cells (dA D) 40)) ⟨w.heap.size, 0, none⟩ 32 = true ∧ segV ((w4.setRow w.heap.size (dA D)).alloc (.cells (dA D) 40)) ⟨w.heap.size, 0, none⟩ 32 = dA D) :=
    ⟨(Upd.setRow hk4 _ _ (fun h => absurd h (Nat.lt_irrefl _))).alloc _, hs5.1, hs5.2⟩
  clear hr4 hk4 hb5 hs5 hu4
  go_wp2
  refine bodyPost_ret (v := .agg (dA D)) ?_ rfl ⟨by rw [HD.out], HK.out.1⟩
  rw [results_seg (P := Try.prog) (fn := Try.f36) rfl _ _ ⟨w.heap.size, 0, none⟩ 32 _ rfl Try.underlying40 rfl sizeOf40 HK.out.2.1, HK.out.2.2]
end Go.Proofs.Ytjimamgghkgdeaa
