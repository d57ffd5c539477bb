import Derived.Test.YtepjbijhkkjbfaaGreatSetZv
import Derived.OwnWalk
set_option linter.unusedVariables false
set_option linter.unusedSimpArgs false
namespace Go.Proofs.YtepjbijhkkjbfaaGreat
open Go.RowKit
variable {Tu : Nat → Prop}
attribute [local irreducible] wpOrd
section
variable {w : World} {g c n : Nat} {root : Dig} {O : Option (List Bytes)} {s : KM × BM} {X : RX}
theorem lacksM_zero (s : KM × BM) (p : Nat) : lacksM s 0 p = ((s.1 0 p).isSome && !(s.2 p).isSome) := by
  cases h : s.2 p <;> simp [lacksM, h]
theorem lacksM_succ (s : KM × BM) (l p : Nat) : lacksM s (l + 1) p = ((s.1 (l + 1) p).isSome && !(s.1 l (4 * p)).isSome) := by
  cases h : s.1 l (4 * p) <;> simp [lacksM, h]
set_option maxHeartbeats 1000000 in
set_option maxRecDepth 20000 in
theorem ref_lacks (h : RFet Tu w g c n root O s X) {l p : Nat} (hl : l < depthM n) (hp : p < sizeL n l) :
    Calls Tryz.prog 39 #[.pointer (some ⟨g, 0, none⟩), .int .i64 (l : Int), .int .i64 (p : Int)] w fun e W => e = .returned (.bool (lacksM s l p)) ∧ w = W := by
  have hnot : ∀ (x : Bool) (w : World), (Op.unary .not (.bool x)).run Tryz.prog w = .ok (.bool (!x)) w := fun _ _ => rfl; have hsz := (h.sz l).2; have hdp := depthM_small h.n2; have c34 := h.cells.2.2.1; have c36 := h.cells.2.2.2.2.1; obtain ⟨gk, ck, g1, c1, hkv, q1, q2, -⟩ := h.atK hl hp; rw [hkv] at c34; have hli : (l : Int) < (depthM n : Int) := by omega
  have hpi : (p : Int) < (sizeL n l : Int) := by omega
  have hl5 : (l : Int) ≤ 2000 := by omega
  have hp5 : (p : Int) ≤ 2000 := by omega
  cases l with
  | zero =>
    have hpn : p < n := hp; have hpi2 : (p : Int) < (n : Int) := by omega
    have q3 := (h.atT hpn).1; have hd0 : (0 : Int) < (depthM n : Int) := by omega
    rw [lacksM_zero]; generalize (s.1 0 p).isSome = a at *; generalize (s.2 p).isSome = b at *; clear h hl hp hsz hdp hkv hli hpn; cases a
    ·
      go_enter Tryz.func39, Tryz.ntmps39
      go_wp2
      go_ret
      exact ⟨rfl, rfl⟩
    · cases b
      ·
        go_enter Tryz.func39, Tryz.ntmps39
        go_wp2
        go_ret
        exact ⟨rfl, rfl⟩
      ·
        go_enter Tryz.func39, Tryz.ntmps39
        go_wp2
        go_ret
        exact ⟨rfl, rfl⟩
  | succ l' =>
    have hll : l' < depthM n := by omega
    have hpp : 4 * p < sizeL n l' := by
      have h1 : p < up4 (sizeL n l') := hp; unfold up4 at h1; omega
    have hsz' := (h.sz l').2; obtain ⟨gk', ck', g2, c2, hkv', q3, q4, -⟩ := h.atK hll hpp; rw [hkv] at hkv'; simp only [Value.slice.injEq, Option.some.injEq, Addr.mk.injEq, and_true, true_and] at hkv'; obtain ⟨rfl, rfl⟩ := hkv'; rw [lacksM_succ]; generalize (s.1 (l' + 1) p).isSome = a at *; generalize (s.1 l' (4 * p)).isSome = b at *; have hz : ¬ ((l' + 1 : Nat) : Int) = 0 := by omega
    have hz2 : (((l' + 1 : Nat) : Int) == 0) = false := by simp; omega
    have hl1 : IntKind.i64.wrap (((l' + 1 : Nat) : Int) - 1) = (l' : Int) := by rw [IntKind.wrap_i64]; omega
    have hl2 : ((l' + 1 : Nat) : Int) - 1 = (l' : Int) := by omega
    have hlj : (l' : Int) < (depthM n : Int) := by omega
    obtain ⟨m, hm⟩ : ∃ m, m = 4 * p := ⟨_, rfl⟩; rw [← hm] at hpp q4; have hm1 : IntKind.i64.wrap (4 * (p : Int)) = (m : Int) := by rw [IntKind.wrap_i64]; omega
    have hm2 : 4 * (p : Int) = (m : Int) := by omega
    have hmi : (m : Int) < (sizeL n l' : Int) := by omega
    obtain ⟨lv, hlv⟩ : ∃ lv, lv = l' + 1 := ⟨_, rfl⟩; rw [← hlv] at q1 hli hpi hl5 hz hz2 hl1 hl2 ⊢; clear h hl hp hsz hdp hkv hll hpp hsz' hm hlv; cases a
    ·
      go_enter Tryz.func39, Tryz.ntmps39
      go_wp2
      go_ret
      exact ⟨rfl, rfl⟩
    · cases b
      ·
        go_enter Tryz.func39, Tryz.ntmps39
        go_wp2
        go_ret
        exact ⟨rfl, rfl⟩
      ·
        go_enter Tryz.func39, Tryz.ntmps39
        go_wp2
        go_ret
        exact ⟨rfl, rfl⟩
set_option maxHeartbeats 1000000 in
set_option maxRecDepth 20000 in
theorem ref_Ask (h : RFet Tu w g c n root O s X) :
    Calls Tryz.prog 12 #[.pointer (some ⟨g, 0, none⟩)] w fun e W => e = .returned (askV (askM n s)) ∧ w = W := by
  have hdp := depthM_small h.n2; have hd1 := depthM_pos n; have HX := Lib.hid h; have c33 := h.cells.2.1; have hd5 : (depthM n : Int) ≤ 1025 := by omega
  clear h
  go_enter Tryz.func12, Tryz.ntmps12
  go_wp2_with fail
  go_loopw [5] (fun u wr => ∃ j : Nat, j ≤ depthM n ∧ u = .int .i64 ((j : Int) - 1) ∧ askM n s = askD n s j ∧ w = wr) (fun u _ => (intOf u + 1).toNat)
  case atStart => exact ⟨depthM n, Nat.le_refl _, by show _ = _; go_num, rfl, by trivial⟩
  case round =>
    obtain ⟨j, hj, rfl, hask, rfl⟩ := hrel; cases j with
    | zero =>
      rw [show ((0 : Nat) : Int) - 1 = -1 by omega]; have HA := Lib.hid hask; clear hask hj; go_wp2_with fail
      go_ret3
      exact ⟨by rw [HA.out]; rfl, rfl⟩
    | succ l =>
      rw [show ((l + 1 : Nat) : Int) - 1 = (l : Int) by omega]; have hl0 : (0 : Int) ≤ (l : Int) := by omega
      have hl1 : (l : Int) ≤ 1025 := by omega
      have hli : (l : Int) < (depthM n : Int) := by omega
      have cl := HX.out.size (l := l) (by omega); have hsz : (sizeL n l : Int) ≤ 1024 := by have := (HX.out.sz l).2; omega
      have HA := Lib.hid (And.intro hask hj); clear hask hj; go_wp2_with fail
      go_loopw [6] (fun u wr => ∃ q : Nat, q ≤ sizeL n l ∧ u = .int .i64 (q : Int) ∧ (∀ i, i < q → lacksM s l i = false) ∧ w = wr) (fun u _ => 3000 - (intOf u).toNat)
      case atStart => exact ⟨0, Nat.zero_le _, rfl, fun i hi => absurd hi (Nat.not_lt_zero i), by trivial⟩
      case round =>
        obtain ⟨q, hq, rfl, hlk, rfl⟩ := hrel; rcases Nat.lt_or_ge q (sizeL n l) with hlt | hge
        · have hqi : (q : Int) < (sizeL n l : Int) := by omega
          have hq5 : (q : Int) ≤ 1024 := by omega
          have HG := ref_lacks HX.out (l := l) (p := q) (by have := HA.out.2; omega) hlt; have HK := Lib.hid (And.intro hlk hlt); clear hlk hlt hq; cases hb : lacksM s l q with
          | false =>
            rw [hb] at HG; have HB := Lib.hid hb; clear hb; go_wp2_with fail; refine HG.mono ?_; clear HG; rintro e W ⟨rfl, rfl⟩; go_wp2_with fail
            go_roundw
            case rel =>
              refine ⟨q + 1, HK.out.2, by show _ = _; go_num, fun i hi => ?_, by trivial⟩; rcases Nat.lt_or_ge i q with h1 | h1
              · exact HK.out.1 i h1
              · rw [show i = q by omega]; exact HB.out
            case measure => have := HK.out.2; simp [intOf]; omega
          | true =>
            rw [hb] at HG; have HB := Lib.hid hb; clear hb; go_wp2_with fail; refine HG.mono ?_; clear HG; rintro e W ⟨rfl, rfl⟩; go_wp2_with fail
            go_ret3
            refine ⟨?_, rfl⟩; have h1 := HA.out.1; simp only [askD, askL_some HK.out.1 HK.out.2 HB.out] at h1; rw [h1]; rfl
        · obtain rfl : q = sizeL n l := by omega
          have hqi : ¬ (sizeL n l : Int) < (sizeL n l : Int) := by omega
          have HK := Lib.hid hlk; clear hlk hge hq; go_wp2_with fail
          go_roundw
          case rel =>
            refine ⟨l, by have := HA.out.2; omega, by show _ = _; go_num, ?_, by trivial⟩; have h1 := HA.out.1; simp only [askD, askL_none HK.out] at h1; exact h1
          case measure => simp [intOf] <;> omega
def doneL (n : Nat) (s : KM × BM) : List Bytes := match askM n s with
  | none => bytesM n s.2
  | some _ => []
set_option maxHeartbeats 2000000 in
set_option maxRecDepth 20000 in
theorem ref_Done (h : RFet Tu w g c n root O s X) :
    Calls Tryz.prog 20 #[.pointer (some ⟨g, 0, none⟩)] w fun e W => ∃ A m k l, e = .returned (.tuple #[.slice A m k, .bool (askM n s).isNone]) ∧ m = l.length ∧ OwnLv W w.heap.size (.slice A m k) l ∧ secs l = doneL n s ∧ Kept w W := by
  have HG := ref_Ask h; cases ha : askM n s with
  | some x =>
    have HD := Lib.hid (show doneL n s = [] by unfold doneL; rw [ha]); rw [ha] at HG; unfold askV at HG; clear ha h
    go_enter Tryz.func20, Tryz.ntmps20
    go_wp2_with fail; refine HG.mono ?_; clear HG; rintro e W ⟨rfl, rfl⟩; go_wp2
    go_ret2
    first | exact ⟨none, 0, 0, [], rfl, rfl, OwnLv.nil _ _, HD.out.symm, Upd.refl _ _⟩ | exact ⟨none, 0, 0, rfl, [], rfl, OwnLv.nil _ _, HD.out.symm, Upd.refl _ _⟩
  | none =>
    have HD := Lib.hid (show doneL n s = bytesM n s.2 by unfold doneL; rw [ha]); rw [ha] at HG; unfold askV at HG; have HX := Lib.hid h; have hn2 : (n : Int) ≤ 1024 := by have := h.n2; omega
    clear ha h
    go_enter Tryz.func20, Tryz.ntmps20
    go_wp2_with fail; refine HG.mono ?_; clear HG; rintro e W ⟨rfl, rfl⟩; go_wp2_with fail
    go_loopw [8, 7] (fun i v wr => ∃ (k : Nat) (l : List (SlC × Bytes)), k ≤ n ∧ i = .int .i64 (k : Int) ∧ OwnLv wr w.heap.size v l ∧ l.map (·.2) = bytesM k s.2 ∧ Kept w wr) (fun i _ _ => 3000 - (intOf i).toNat)
    case atStart => exact ⟨0, [], Nat.zero_le _, rfl, OwnLv.nil _ _, rfl, Upd.refl _ _⟩
    case round =>
      obtain ⟨k, l, hk, rfl, hown, hl, hup⟩ := hrel; have c37 := (HX.out.kept hup).cells.2.2.2.2.2.1; rcases Nat.lt_or_ge k n with hlt | hge
      · have hki : (k : Int) < (n : Int) := by omega
        have hk5 : (k : Int) ≤ 1024 := by omega
        have hll : l.length = k := by have := congrArg List.length hl; rw [bytesM_length, List.length_map] at this; exact this
        obtain ⟨⟨⟨xA, xn, xc⟩, q1, hxb, hxl⟩, -⟩ := (HX.out.kept hup).atY hlt; simp only at q1; obtain ⟨R, hR⟩ : ∃ R, R = (s.2 k).getD [] := ⟨_, rfl⟩; rw [← hR] at hxb hxl; have hxn : xn = R.length := hxb.2.1; subst hxn; have HC := ref_CopyBytes xc hxb.1 (by omega); have HQ := Lib.hid (And.intro hown (And.intro hl (And.intro hup (And.intro hlt (And.intro hR (And.intro hxl hll)))))); clear hown hl hup hlt hk hR hxl hll hxb; go_wp2_with fail; refine HC.mono ?_; clear HC; rintro e w3 ⟨v3, rfl, ho3, hu3⟩; obtain ⟨A3, c4, rfl, -, -⟩ := ho3.form; have hl3 := HQ.out.1.kept hu3; have hg := heap_alloc_new w3 (.cells (slA ⟨A3, R.length, c4⟩) 42); have hu4 : Kept w3 (w3.alloc (.cells (slA ⟨A3, R.length, c4⟩) 42)) := (Upd.refl _ w3).alloc _; have hk3 : Kept w w3 := HQ.out.2.2.1.then hu3 (fun _ _ h => h); have H4 := Lib.hid (And.intro (hl3.kept hu4) (And.intro (show OwnB (w3.alloc (.cells (slA ⟨A3, R.length, c4⟩) 42)) w.heap.size (SlC.v ⟨A3, R.length, c4⟩) R from (ho3.low (HQ.out.2.2.1.size)).kept hu4) (And.intro hg (And.intro (hk3.then hu4 (fun _ _ h => h)) (show w.heap.size ≤ (w3.alloc (.cells (slA ⟨A3, R.length, c4⟩) 42)).heap.size from (hk3.then hu4 (fun _ _ h => h)).size))))); have HLN := Lib.hid (show (l.map (·.1)).length ≤ 1023 by rw [List.length_map, HQ.out.2.2.2.2.2.2]; have := HX.out.n2; have := HQ.out.2.2.2.1; omega); clear hl3 ho3 hg hu3 hu4 hk3 q1 c37; go_wp2_with (at_builtin; refine wpList_append_rows bs_rows rfl (.tmp 25) (.tmp 34) rfl rfl H4.out.1.1 ⟨A3, R.length, c4⟩ w3.heap.size 1 _ _ rfl H4.out.2.2.1 (by have := HLN.out; unfold maxLen; omega) (by have := HLN.out; omega) H4.out.2.2.2.2 ?_; intro v' w5 hown' hu' hnew); go_wp2_with fail
        go_roundw
        case rel =>
          refine ⟨k + 1, l ++ [(⟨A3, R.length, c4⟩, R)], HQ.out.2.2.2.1, by show _ = _; go_num, OwnLv.snoc H4.out.1 H4.out.2.1 (by have := HQ.out.2.2.2.2.2.1; omega) hown' hu', ?_, H4.out.2.2.2.1.then hu' fun i hi e => ?_⟩
          · rw [List.map_append, HQ.out.2.1, bytesM_succ, ← HQ.out.2.2.2.2.1]; rfl
          · have := (World.ownsRow.lt H4.out.1.1 _ e).1
            omega
        case measure => have := HQ.out.2.2.2.1; simp [intOf]; omega
      · obtain rfl : k = n := by omega
        have hki : ¬ (k : Int) < (k : Int) := by omega
        obtain ⟨A, cc, hf⟩ := OwnRows.form hown.1; rw [List.length_map] at hf; subst hf; have HF := Lib.hid (And.intro hown (And.intro hl hup)); clear hown hl hup hge hk; go_wp2
        go_ret2
        first | exact ⟨A, _, cc, l, rfl, rfl, HF.out.1, HF.out.2.1.trans HD.out.symm, HF.out.2.2⟩ | exact ⟨A, _, cc, rfl, l, rfl, HF.out.1, HF.out.2.1.trans HD.out.symm, HF.out.2.2⟩
end
end Go.Proofs.YtepjbijhkkjbfaaGreat
namespace Go.Proofs.YtepjbijhkkjbfaaGreat
open Go.RowKit
variable {Tu : Nat → Prop}
attribute [local irreducible] wpOrd
def RBk (Tu : Nat → Prop) (W : World) (c : Nat) (L : List Bytes) (Av : Nat → Prop) : Prop := ∃ B v n0 xs, RefBook W B c v n0 xs L ∧ B ≤ W.heap.size ∧ (¬ Tu c ∧ ¬ Av c) ∧ (∀ k, v.ownBlock = some k → ¬ Tu k ∧ ¬ Av k) ∧ ∀ x ∈ xs, ∀ k, x.v.ownBlock = some k → ¬ Tu k
abbrev rAv (X : RX) : Nat → Prop := fun k => k = X.gy ∨ X.hv.ownBlock = some k
structure RB (Tu : Nat → Prop) (W : World) (g c n : Nat) (root : Dig) (O : Option (List Bytes)) (s : KM × BM) (X : RX) (L : List Bytes) : Prop where
  f : RFet Tu W g c n root O s X
  b : RBk Tu W c L (rAv X)
  hT : ∀ k, Tu k → k < W.heap.size
section
variable {W W' : World} {S Av : Nat → Prop} {g c n : Nat} {root : Dig} {O : Option (List Bytes)} {s s' : KM × BM} {X : RX} {L L' : List Bytes} {B : Nat} {v : Value} {n0 : Int} {xs : List SlC}
theorem RBk.upd (h : RBk Tu W c L Av) (hu : Upd S W W') (hs : ∀ k cs t fr, W.heap[k]? = some (.cells cs t fr) → ¬ Tu k → (t = 88 ∨ (t = 42 ∧ ¬ Av k) ∨ t = 5) → ¬ S k) : RBk Tu W' c L Av := by
  obtain ⟨B, v, n0, xs, hr, hB, hc, hv, hx⟩ := h; refine ⟨B, v, n0, xs, ⟨hu.heap hr.blk (hs _ _ _ _ hr.blk hc.1 (.inl rfl)), OwnRows.upd hr.row hu (fun k e => by obtain ⟨cur, hk⟩ := own_cells hr.row e; exact hs _ _ _ _ hk (hv k e).1 (.inr (.inl ⟨rfl, (hv k e).2⟩))), hr.len, fun i hi hi' => (hr.each i hi hi').upd hu (fun k e => ?_), hr.sz⟩, Nat.le_trans hB hu.size, hc, hv, hx⟩; obtain ⟨cur, hk⟩ := (hr.each i hi hi').blk e; exact hs _ _ _ _ hk (hx _ (List.getElem_mem hi) k e) (.inr (.inr rfl))
theorem RBk.kept (h : RBk Tu W c L Av) (hu : Kept W W') : RBk Tu W' c L Av := h.upd hu fun _ _ _ _ _ _ _ => id
theorem RBk.foreign (h : RBk Tu W c L Av) (hu : Upd S W W') (hS : ∀ k, S k → Tu k) : RBk Tu W' c L Av := h.upd hu fun k _ _ _ _ hT _ e => hT (hS k e)
theorem RBk.rw {K1 K2 : KM} {M1 M2 : BM} (h : RBk Tu W c L (rAv X)) (hf : RF4 Tu W g c n root O K1 K2 M1 M2 X) (hu : Upd (RW X) W W') : RBk Tu W' c L (rAv X) := h.upd hu fun k cs t fr hk hT ht e => by
  rcases hf.rw_type e with ⟨cur, t2, hc, h2⟩ | ⟨rfl, cur, hc⟩
  · rw [hk] at hc
    simp only [Option.some.injEq, Obj.cells.injEq] at hc; obtain ⟨-, rfl, -⟩ := hc; rcases h2 with rfl | rfl <;> rcases ht with h | ⟨h, -⟩ | h <;> exact absurd h (by decide)
  · rw [hk] at hc
    simp only [Option.some.injEq, Obj.cells.injEq] at hc; obtain ⟨-, rfl, -⟩ := hc; rcases ht with h | ⟨-, h⟩ | h
    · exact absurd h (by decide)
    · exact h (.inl rfl)
    · exact absurd h (by decide)
theorem RO.hvb {n : Nat} (h : RO Tu W n X O) : ∀ k, X.hv.ownBlock = some k → ∃ cur, W.heap[k]? = some (.cells cur 42 (0, 0)) := fun k e => by
  cases O with
  | none => rw [h.1] at e; cases e
  | some hs => obtain ⟨-, ⟨li, hy⟩, -⟩ := h; exact own_cells hy.row e
theorem RF4.av {K1 K2 : KM} {M1 M2 : BM} (h : RF4 Tu W g c n root O K1 K2 M1 M2 X) : ∀ k, rAv X k → k < W.heap.size := fun k e => by
  rcases e with rfl | e
  · obtain ⟨li, hy⟩ := h.y
    exact (World.ownsRow.lt hy.row _ rfl).2
  · obtain ⟨cur, hc⟩ := h.o.hvb k e
    exact (Array.getElem?_eq_some_iff.1 hc).1
theorem RF4.bk {K1 K2 : KM} {M1 M2 : BM} (h : RF4 Tu W g c n root O K1 K2 M1 M2 X) (hr : RefBook W B c v n0 xs L) (hc : ¬ rAv X c) (hv : ∀ k, v.ownBlock = some k → ¬ rAv X k) (hu : Upd (fun k => k = c ∨ v.ownBlock = some k) W W') : RF4 Tu W' g c n root O K1 K2 M1 M2 X := by
  have ha : ∀ k, rAv X k → ¬ (k = c ∨ v.ownBlock = some k) := fun k hk e => by
    rcases e with rfl | e
    · exact hc hk
    · exact hv k e hk
  exact h.upd hu (fun t h1 h2 k cs fr hk _ => hr.far hk h2 h1) (ha _ (.inl rfl)) (fun k e _ => ha k (.inr e))
theorem RBk.run (h : RBk Tu W c L Av) (hT : ∀ k, Tu k → k < W.heap.size) (hA : ∀ k, Av k → k < W.heap.size) : ∃ B v n0 xs, RefBook W B c v n0 xs L ∧ B ≤ W.heap.size ∧ (¬ Tu c ∧ ¬ Av c) ∧ (∀ k, v.ownBlock = some k → ¬ Tu k ∧ ¬ Av k) ∧
    ∀ W' v' n' xs' L', RefBook W' B c v' n' xs' L' → RTo c v W v' W' → RBk Tu W' c L' Av := by
  obtain ⟨B, v, n0, xs, hr, hB, hc, hv, hx⟩ := h; refine ⟨B, v, n0, xs, hr, hB, hc, hv, fun W' v' n' xs' L' hr' ht => ⟨B, v', n', xs', hr', Nat.le_trans hB ht.1.size, hc, fun k e => ?_, fun x hx' k e => ?_⟩⟩
  · rcases ht.2.1 with e2 | ⟨k', e2, hk'⟩
    · rw [e2] at e; exact hv k e
    · rw [e2] at e
      obtain rfl := Option.some.inj e; exact ⟨fun e3 => by have := hT _ e3; omega, fun e3 => by have := hA _ e3; omega⟩
  · obtain ⟨ys, hy, hyx⟩ := ht.2.2 B xs hB hr.row
    obtain rfl := own_uniq hr'.row hy; rcases hyx x hx' with h1 | h1
    · exact hx x h1 k e
    · exact fun e3 => by have h2 := h1 k e; have h3 := hT k e3; omega
theorem RB.rw (h : RB Tu W g c n root O s X L) (hf : RFet Tu W' g c n root O s' X) (hu : Upd (RW X) W W') : RB Tu W' g c n root O s' X L := ⟨hf, h.b.rw h.f hu, fun k e => Nat.lt_of_lt_of_le (h.hT k e) hu.size⟩
theorem RF4.other {K1 K2 : KM} {M1 M2 : BM} {Tu' : Nat → Prop} (h : RF4 Tu W g c n root O K1 K2 M1 M2 X) (hS : ∀ k, Tu' k → Tu k ∨ W.heap.size ≤ k) : RF4 Tu' W g c n root O K1 K2 M1 M2 X := by
  have hn : ∀ {k : Nat}, k < W.heap.size → ¬ Tu k → ¬ Tu' k := fun hk h1 e => (hS _ e).elim h1 fun e2 => by omega
  have ho : ∀ {α : Type} {f : α → Array Value} {m B t : Nat} {v : Value} {l : List α}, OwnRows f m W B t v l → (∀ k, v.ownBlock = some k → ¬ Tu k) → ∀ k, v.ownBlock = some k → ¬ Tu' k := fun h1 h2 k e => hn (World.ownsRow.lt h1 k e).2 (h2 k e); have hL : ∀ {v : Value} {Rs : List Bytes} {li : List (SlC × Bytes)}, RL Tu W v Rs li → RL Tu' W v Rs li := fun h1 => ⟨h1.row, ho h1.row h1.nT, fun p hp => ⟨(h1.leaf p hp).1, (h1.leaf p hp).2.1, fun k e => hn ((h1.leaf p hp).1.far k e).2 ((h1.leaf p hp).2.2 k e)⟩, h1.all⟩; obtain ⟨st, k, d, t, ⟨li, hy⟩, o, n1, n2⟩ := h; refine ⟨⟨st.blk, hn st.blk.lt st.gT, st.szs, hn (World.ownsRow.lt st.szs _ rfl).2 st.szT, st.kr, ho st.kr st.kT, st.kl, st.dr, ho st.dr st.dT, st.dl⟩, ⟨k.row, fun l hl => ho (k.row l hl) (k.nT l hl), k.ne, k.gt⟩, ⟨d.row, fun l hl => ho (d.row l hl) (d.nT l hl), d.ne⟩, ⟨t.row, hn (World.ownsRow.lt t.row _ rfl).2 t.nT⟩, ⟨li, hL hy⟩, ?_, n1, n2⟩; cases O with
  | none => exact o
  | some hs =>
    obtain ⟨a1, ⟨li2, a2⟩, a3, a4, a5⟩ := o; exact ⟨a1, ⟨li2, hL a2⟩, ⟨a3.row, ho a3.row a3.vT, a3.len, a3.each, fun i hi => ho (a3.each i hi (by rw [← a3.len]; exact hi)) (a3.nT i hi)⟩, a4, a5⟩
theorem RBk.other {Tu' : Nat → Prop} (h : RBk Tu W c L Av) (hS : ∀ k, Tu' k → Tu k ∨ W.heap.size ≤ k) : RBk Tu' W c L Av := by
  have hn : ∀ {k : Nat}, k < W.heap.size → ¬ Tu k → ¬ Tu' k := fun hk h1 e => (hS _ e).elim h1 fun e2 => by omega
  obtain ⟨B, v, n0, xs, hr, hB, hc, hv, hx⟩ := h; refine ⟨B, v, n0, xs, hr, hB, ⟨hn hr.lt hc.1, hc.2⟩, fun k e => ⟨hn (World.ownsRow.lt hr.row k e).2 (hv k e).1, (hv k e).2⟩, fun x hx' k e => ?_⟩; obtain ⟨i, hi, rfl⟩ := List.getElem_of_mem hx'; exact hn ((hr.each i hi (by rw [← hr.len]; exact hi)).far k e).2 (hx _ (List.getElem_mem hi) k e)
theorem RB.step {Tu' : Nat → Prop} (h : RB Tu W g c n root O s X L) (hu : Upd S W W') (hS : ∀ k, k < W.heap.size → S k → Tu k) (h1 : ∀ k, Tu k → Tu' k) (h2 : ∀ k, Tu' k → Tu k ∨ W.heap.size ≤ k) (h3 : ∀ k, Tu' k → k < W'.heap.size) : RB Tu' W' g c n root O s X L :=
  ⟨(h.f.other h2).foreign (hu.mono (T := fun k => Tu k) hS) h1, (h.b.other h2).foreign (hu.mono (T := fun k => Tu k) hS) h1, h3⟩
end
section
variable {W : World} {c B : Nat} {v : Value} {n0 : Int} {xs : List SlC} {L : List Bytes} {A : Option Addr}
theorem rk_Fits (hr : RefBook W B c v n0 xs L) (hB : B ≤ W.heap.size) (hM : L.length ≤ 100000) {D : List Dig} (k : Nat) (hD : Digs W A D) (d : Dig) :
    Calls Tryz.prog 42 #[.pointer (some ⟨c, 0, none⟩), .agg (dA d), .slice A D.length k] W fun e W' => e = .returned (.int .i64 (fitZ D d)) ∧ ∃ L' v' n' xs', L'.length ≤ L.length + 1 ∧ RefBook W' B c v' n' xs' L' ∧ RTo c v W v' W' := by
  by_cases hn : 1 ≤ D.length ∧ D.length ≤ 4
  · refine (ref_Fits_of d (upM shaM D) (S := fun k => k = c ∨ v.ownBlock = some k) (Q := fun W' => ∃ v' n' xs', RefBook W' B c v' n' xs' (noteM L (upIn D)) ∧ RTo c v W v' W')
      (fun w1 hu => (ref_Up (hr.kept hu) (Nat.le_trans hB hu.size) k (hD.kept hu) hn.1 hn.2 hM).mono fun e W' ⟨he, v', n', xs', h1, h2⟩ => ⟨he, ⟨v', n', xs', h1, (RTo.kept hu).trans h2⟩, h2.1⟩)
      (fun k e => hr.old e) (fun W1 W2 ⟨v', n', xs', h1, h2⟩ hu => ⟨v', n', xs', h1.kept hu, h2.trans (RTo.kept hu)⟩)).mono ?_
    rintro e W' ⟨rfl, ⟨v', n', xs', h1, h2⟩, -⟩; exact ⟨by unfold fitZ; rw [if_pos hn], _, v', n', xs', noteM_length, h1, h2⟩
  · refine (ref_Fits_no d dig0 (z := 2) (by decide) (fun _ _ => ref_Up_no k (by omega))).mono ?_
    rintro e W' ⟨rfl, hu⟩; exact ⟨by unfold fitZ; rw [if_neg hn], _, _, _, _, Nat.le_succ _, hr.kept hu, RTo.kept hu⟩
theorem rk_LeafFits (hr : RefBook W B c v n0 xs L) (hB : B ≤ W.heap.size) (hM : L.length ≤ 100000) {R : Bytes} (k : Nat) (hR : Byt W A R) (d : Dig) :
    Calls Tryz.prog 44 #[.pointer (some ⟨c, 0, none⟩), .agg (dA d), .slice A R.length k] W fun e W' => e = .returned (.int .i64 (leafZ R d)) ∧ ∃ L' v' n' xs', L'.length ≤ L.length + 1 ∧ RefBook W' B c v' n' xs' L' ∧ RTo c v W v' W' := by
  by_cases hn : R.length < 65536
  · refine (ref_LeafFits_of d (leafM shaM R) (S := fun k => k = c ∨ v.ownBlock = some k) (Q := fun W' => ∃ v' n' xs', RefBook W' B c v' n' xs' (noteM L (leafIn R)) ∧ RTo c v W v' W')
      (fun w1 hu => (ref_Leaf (hr.kept hu) (Nat.le_trans hB hu.size) k (hR.kept hu) hn hM).mono fun e W' ⟨he, v', n', xs', h1, h2⟩ => ⟨he, ⟨v', n', xs', h1, (RTo.kept hu).trans h2⟩, h2.1⟩)
      (fun k e => hr.old e) (fun W1 W2 ⟨v', n', xs', h1, h2⟩ hu => ⟨v', n', xs', h1.kept hu, h2.trans (RTo.kept hu)⟩)).mono ?_
    rintro e W' ⟨rfl, ⟨v', n', xs', h1, h2⟩, -⟩; exact ⟨by unfold leafZ; rw [if_pos hn], _, v', n', xs', noteM_length, h1, h2⟩
  · refine (ref_LeafFits_no d dig0 (z := 5) (by decide) (fun _ _ => ref_Leaf_long k (by omega))).mono ?_
    rintro e W' ⟨rfl, hu⟩; exact ⟨by unfold leafZ; rw [if_neg hn], _, _, _, _, Nat.le_succ _, hr.kept hu, RTo.kept hu⟩
end
section
variable {w : World} {g c n : Nat} {root : Dig} {O : Option (List Bytes)} {s : KM × BM} {X : RX} {L : List Bytes} {A : Option Addr} {R : Bytes}
theorem leafE_Z {p : Nat} (hp : p < n) (h : lacksM s 0 p = true) : leafE n s p R = leafZ R ((s.1 0 p).getD dig0) := by
  unfold leafE leafZ; rw [if_neg (by omega), if_neg (by simp [h]), Int.toNat_natCast]
  by_cases hR : R.length < 65536
  · rw [if_neg (by omega), if_pos hR]
  · rw [if_pos (by omega), if_neg hR]
theorem leafS_no (place : Int) (h : leafE n s place R ≠ 0) : leafS n s place R = s := by unfold leafS; rw [if_neg h]
set_option maxHeartbeats 2000000 in
set_option maxRecDepth 20000 in
theorem ref_FLeaf (h : RB Tu w g c n root O s X L) (hM : L.length ≤ 90000) (place : Int) (k : Nat) (hR : ∀ W', Upd (fun k => ¬ Tu k) w W' → Byt W' A R) (hlen : R.length ≤ 140737488351232) :
    Calls Tryz.prog 17 #[.pointer (some ⟨g, 0, none⟩), .int .i64 place, .slice A R.length k] w fun e W => e = .returned (.int .i64 (leafE n s place R)) ∧ (∃ L', L'.length ≤ L.length + 1 ∧ RB Tu W g c n root O (leafS n s place R) X L') ∧ Upd (fun k => ¬ Tu k) w W := by
  have hnot : ∀ (x : Bool) (w : World), (Op.unary .not (.bool x)).run Tryz.prog w = .ok (.bool (!x)) w := fun _ _ => rfl; have c33 := h.f.cells.2.1; have c0s := h.f.size (depthM_pos n); have hdp : (0 : Int) < (depthM n : Int) := by have := depthM_pos n; omega
  rw [show sizeL n 0 = n from rfl] at c0s; have HX := Lib.hid h; have HR := Lib.hid (And.intro hR (And.intro hlen hM)); have hn2 : (n : Int) ≤ 1024 := by have := h.f.n2; omega
  clear h hR hlen hM
  by_cases h0 : place < 0
  · have d0 : decide (place < 0) = true := decide_eq_true h0
    have h1 : leafE n s place R = 9 := by unfold leafE; rw [if_pos (by omega)]
    have HE := Lib.hid (And.intro h1 (leafS_no (n := n) (s := s) (R := R) place (by rw [h1]; decide))); clear h0 h1
    go_enter Tryz.func17, Tryz.ntmps17
    go_wp2
    go_ret
    exact ⟨by rw [HE.out.1]; rfl, ⟨L, Nat.le_succ _, by rw [HE.out.2]; exact HX.out⟩, Upd.refl _ _⟩
  · have d0 : decide (place < 0) = false := decide_eq_false h0
    by_cases hpn : (n : Int) ≤ place
    · have d1 : decide ((n : Int) ≤ place) = true := decide_eq_true hpn
      have h1 : leafE n s place R = 9 := by unfold leafE; rw [if_pos (by omega)]
      have HE := Lib.hid (And.intro h1 (leafS_no (n := n) (s := s) (R := R) place (by rw [h1]; decide))); clear h0 h1 hpn
      go_enter Tryz.func17, Tryz.ntmps17
      go_wp2
      go_ret
      exact ⟨by rw [HE.out.1]; rfl, ⟨L, Nat.le_succ _, by rw [HE.out.2]; exact HX.out⟩, Upd.refl _ _⟩
    · obtain ⟨p, rfl⟩ : ∃ p : Nat, place = p := ⟨place.toNat, by omega⟩
      have d1 : decide ((n : Int) ≤ (p : Int)) = false := decide_eq_false hpn; have hp : p < n := by omega
      have hpi : (p : Int) < (n : Int) := by omega
      have HG := ref_lacks HX.out.f (l := 0) (p := p) (depthM_pos n) hp; have HP := Lib.hid hp; clear h0 hpn hp; have hl0 : ((0 : Nat) : Int) = 0 := rfl; cases hlk : lacksM s 0 p with
      | false =>
        rw [hlk] at HG; have h1 : leafE n s (p : Int) R = 220 := leafE_no HP.out hlk; have HE := Lib.hid (And.intro h1 (leafS_no (n := n) (s := s) (R := R) (p : Int) (by rw [h1]; decide))); clear h1 hlk
        go_enter Tryz.func17, Tryz.ntmps17
        go_wp2_with fail; refine HG.mono ?_; rintro e W ⟨rfl, rfl⟩; clear HG; go_wp2
        go_ret
        exact ⟨by rw [HE.out.1]; rfl, ⟨L, Nat.le_succ _, by rw [HE.out.2]; exact HX.out⟩, Upd.refl _ _⟩
      | true =>
        rw [hlk] at HG; have h1 := leafE_Z (R := R) HP.out hlk; obtain ⟨z, hz⟩ : ∃ z, z = leafZ R ((s.1 0 p).getD dig0) := ⟨_, rfl⟩; have HE := Lib.hid (And.intro (h1.trans hz.symm) hlk); clear h1 hlk; obtain ⟨B, v, n0, xs, hr, hB, hcT, hvT, hto⟩ := HX.out.b.run HX.out.hT HX.out.f.av; have hS0 := fun W (hW : Upd (fun k => k = c ∨ v.ownBlock = some k) w W) => HX.out.f.bk hr hcT.2 (fun k e => (hvT k e).2) hW; obtain ⟨gk2, ck2, gd, cd, cur, hdv, r1, r2, r3, r4, -⟩ := HX.out.f.atD (l := 0) (p := p) (depthM_pos n) HP.out; obtain ⟨cu2, hcu2⟩ := slice_block HX.out.f.st.dr hdv; have hf1 := hr.far hcu2 (by decide) (by decide); have hf2 := hr.far r4 (by decide) (by decide); have f0 : ∀ W, Upd (fun k => k = c ∨ v.ownBlock = some k) w W → W.cell? ⟨g, 0, none⟩ = some (.pointer (some ⟨c, 0, none⟩)) := fun W hW => (hS0 W hW).cells.1; have f1 : ∀ W, Upd (fun k => k = c ∨ v.ownBlock = some k) w W → W.cell? ⟨g, 35, none⟩ = some (.slice (some ⟨gk2, 0, none⟩) (depthM n) ck2) := fun W hW => by rw [(hS0 W hW).cells.2.2.2.1, hdv]
        have f2 : ∀ W, Upd (fun k => k = c ∨ v.ownBlock = some k) w W → W.cell? ⟨gk2, 0, none⟩ = some (.slice (some ⟨gd, 0, none⟩) n cd) := fun W hW => hW.cell r1 hf1; have f3 : ∀ W, Upd (fun k => k = c ∨ v.ownBlock = some k) w W → segB W ⟨gd, p * 32, none⟩ 32 = true := fun W hW => (seg_kept (by omega) r2 r3 hW hf2).1; have f4 : ∀ W, Upd (fun k => k = c ∨ v.ownBlock = some k) w W → segV W ⟨gd, p * 32, none⟩ 32 = dA ((s.1 0 p).getD dig0) := fun W hW => (seg_kept (by omega) r2 r3 hW hf2).2; obtain ⟨d, hd⟩ : ∃ d, d = (s.1 0 p).getD dig0 := ⟨_, rfl⟩; rw [← hd] at hz f4; have hkd : Kept w w.drew := (Upd.refl _ w).drew; have hu1 : Upd (fun k => k = c ∨ v.ownBlock = some k) w w.drew := hkd.to; have HGL := rk_LeafFits (hr.kept hkd) (Nat.le_trans hB hkd.size) (by have := HR.out.2.2; omega) k (HR.out.1 _ hkd.to) d; rw [← hz] at HGL; have HTO := Lib.hid (And.intro hto (And.intro hS0 (show ∀ k, (k = c ∨ v.ownBlock = some k) → ¬ Tu k from fun k e => by
          rcases e with rfl | e
          · exact hcT.1
          · exact (hvT k e).1)))
        clear hr hB hcT hvT hto hS0 hdv r1 r2 r3 r4 hcu2 hf1 hf2 hkd hd hz
        go_enter Tryz.func17, Tryz.ntmps17
        go_wp2_with fail; refine HG.mono ?_; rintro e W ⟨rfl, rfl⟩; clear HG c33 c0s; have hdpn : 0 < depthM n := depthM_pos n; go_wp2_with fail; refine wp_region_ord [(0, true), (1, true), (2, true), (3, true), (4, true), (5, true), (6, true), (7, true), (8, true), (9, true), (10, true), (11, true), (12, true), (13, true), (14, false), (15, true)] (by kernel_rfl) (by kernel_rfl) (Upd (fun k => k = c ∨ v.ownBlock = some k) w) hu1 ?_; simp only [ordOps, List.getD_cons_zero, List.getD_cons_succ]
        iterate 14 (refine wpOrd_held (fun K hK => ?_); go_simp; first | (apply Exists.intro; refine ⟨fun W hW => ?_, hK _ ?_⟩; (go_simp; first | done | exact rfl); clear hK K) | (refine hK _ ?_; clear hK K))
        clear f0 f1 f2 f3 f4; generalize hwd : w.drew = wd at *; refine wpOrd_step (fun K hK => ?_) hu1; go_simp; refine HGL.mono ?_; clear HGL; rintro e w2 ⟨rfl, L2, v2, n2, xs2, hL2, hr2, ht2⟩; have ht3 : RTo c v w v2 w2 := (RTo.kept (show Kept w wd by rw [← hwd]; exact (Upd.refl _ w).drew)).trans ht2; have hSe := hu1.trans ht2.1; have H2 := Lib.hid (And.intro (show RB Tu w2 g c n root O s X L2 from ⟨HTO.out.2.1 _ ht3.1, HTO.out.1 _ _ _ _ _ hr2 ht3, fun k e => Nat.lt_of_lt_of_le (HX.out.hT k e) ht3.1.size⟩) (And.intro hL2 (show Upd (fun k => ¬ Tu k) w w2 from ht3.1.mono fun k _ e => HTO.out.2.2 k e))); refine hK _ _ hSe ?_; clear hK K hSe hu1 hL2 hr2 ht2 ht3 HTO hwd
        iterate 1 (refine wpOrd_held (fun K hK => ?_); go_simp; first | (apply Exists.intro; refine ⟨fun W hW => ?_, hK _ ?_⟩; (go_simp; first | done | exact rfl); clear hK K) | (refine hK _ ?_; clear hK K))
        refine wpOrd_nil ?_
        by_cases hz0 : z = 0
        · have hz00 : z = 0 := hz0
          subst hz00; have HZ := Lib.hid (show R.length < 65536 by
            have h1 := HE.out.1; unfold leafE at h1; rcases Nat.lt_or_ge R.length 65536 with h2 | h2
            · exact h2
            · rw [if_neg (by have := HP.out; omega), if_neg (by simp [HE.out.2]), if_pos h2] at h1; exact absurd h1 (by decide))
          clear hz0; obtain ⟨q1, q2, q3⟩ := H2.out.1.f.atT HP.out; have q3 := q3 R; have c36 := H2.out.1.f.cells.2.2.2.2.1; have hu5 : Upd (RW X) w2 (w2.setCell ⟨X.gt, p, none⟩ (.bool true)) := (Upd.refl _ w2).setCell (p := ⟨X.gt, p, none⟩) _ fun _ => .inr (.inr (.inl rfl)); have H5 := Lib.hid (And.intro q3 (And.intro (H2.out.1.b.rw H2.out.1.f hu5) (And.intro (show ∀ k, Tu k → k < (w2.setCell ⟨X.gt, p, none⟩ (.bool true)).heap.size from fun k e => Nat.lt_of_lt_of_le (H2.out.1.hT k e) hu5.size) (And.intro H2.out.2.1 (show Upd (fun k => ¬ Tu k) w (w2.setCell ⟨X.gt, p, none⟩ (.bool true)) from H2.out.2.2.trans (hu5.mono fun k _ e => H2.out.1.f.rwT e)))))); clear q3 hu5 H2; go_wp2_with fail; clear q1 q2 c36; generalize hW5 : w2.setCell ⟨X.gt, p, none⟩ (.bool true) = w5 at *; clear hW5; have c37 := H5.out.1.cells.2.2.2.2.2.1; have hgy : X.gy ≠ g := by
            obtain ⟨li, hy⟩ := H5.out.1.y; obtain ⟨cy, hcy⟩ := own_cells hy.row (k := X.gy) rfl; exact cells_ne hcy H5.out.1.st.blk (by decide)
          have f0 : ∀ W, Upd (fun k => k = X.gy) w5 W → W.cell? ⟨g, 37, none⟩ = some (.slice (some ⟨X.gy, 0, none⟩) n X.cy) := fun W hW => hW.cell c37 fun e => hgy (show X.gy = g from (show g = X.gy from e).symm); have hu5 : Upd (fun k => k = X.gy) w5 w5.drew := (Upd.refl _ w5).drew; have hkd : Kept w5 w5.drew := (Upd.refl _ w5).drew; have HG := ref_CopyBytes k (HR.out.1 _ (H5.out.2.2.2.2.then hkd fun _ _ e => e.elim)) HR.out.2.1; have H6 := Lib.hid (And.intro (H5.out.1.kept hkd) (And.intro (H5.out.2.1.kept hkd) (And.intro (show ∀ k, Tu k → k < w5.drew.heap.size from H5.out.2.2.1) (And.intro H5.out.2.2.2.1 (show Upd (fun k => ¬ Tu k) w w5.drew from H5.out.2.2.2.2.drew))))); clear c37 hgy hkd H5; go_wp2_with fail; refine wp_region_ord [(0, true), (1, true), (2, true), (3, true), (4, true), (5, true), (6, false), (7, true), (8, false)] (by kernel_rfl) (by kernel_rfl) (Upd (fun k => k = X.gy) w5) hu5 ?_; simp only [ordOps, List.getD_cons_zero, List.getD_cons_succ]
          iterate 6 (refine wpOrd_held (fun K hK => ?_); go_simp; first | (apply Exists.intro; refine ⟨fun W hW => ?_, hK _ ?_⟩; (go_simp; first | done | exact rfl); clear hK K) | (refine hK _ ?_; clear hK K))
          clear f0; generalize w5.drew = wd at *; refine wpOrd_step (fun K hK => ?_) hu5; go_simp; refine HG.mono ?_; clear HG; rintro e w6 ⟨vy, rfl, hoy, hu6⟩; obtain ⟨Ay, ky, rfl, -, -⟩ := hoy.form; have hSe := hu5.then hu6 (fun _ _ e => e.elim); obtain ⟨⟨x0, y1, -, -⟩, y2, y3⟩ := (H6.out.1.kept hu6).atY HP.out; have y3 := y3 ⟨Ay, R.length, ky⟩ R (hoy.low (Nat.zero_le _)) HZ.out (fun k e e2 => by have h1 := (hoy.far k e).1; have h2 := H6.out.2.2.1 k e2; omega); have hS7 : Upd (fun k => k = X.gy) w5 (w6.setCell ⟨X.gy, p, none⟩ (.slice Ay R.length ky)) := hSe.setCell (p := ⟨X.gy, p, none⟩) _ fun _ => rfl; have hu7 : Upd (RW X) wd (w6.setCell ⟨X.gy, p, none⟩ (.slice Ay R.length ky)) := (hu6.to (S := RW X)).setCell (p := ⟨X.gy, p, none⟩) _ fun _ => .inr (.inr (.inr rfl)); have HF := Lib.hid (And.intro y3 (And.intro (H6.out.2.1.rw H6.out.1 hu7) (And.intro (show ∀ k, Tu k → k < (w6.setCell ⟨X.gy, p, none⟩ (.slice Ay R.length ky)).heap.size from fun k e => Nat.lt_of_lt_of_le (H6.out.2.2.1 k e) hu7.size) (And.intro H6.out.2.2.2.1 (show Upd (fun k => ¬ Tu k) w (w6.setCell ⟨X.gy, p, none⟩ (.slice Ay R.length ky)) from H6.out.2.2.2.2.trans (hu7.mono fun k _ e => H6.out.1.rwT e)))))); simp only at y3; refine hK _ _ hSe ?_; clear hK K hoy y3 H6 hu7
          iterate 1 (refine wpOrd_held (fun K hK => ?_); go_simp; first | (apply Exists.intro; refine ⟨fun W hW => ?_, hK _ ?_⟩; (go_simp; first | done | exact rfl); clear hK K) | (refine hK _ ?_; clear hK K))
          refine wpOrd_step (fun K hK => ?_) hSe; go_simp; refine hK _ _ hS7 ?_; clear hK K y1 y2 hSe hS7 hu6 hu5; refine wpOrd_nil ?_; go_wp2
          go_ret
          exact ⟨by rw [HE.out.1]; rfl, ⟨L2, HF.out.2.2.2.1, by unfold leafS; rw [HE.out.1, if_pos rfl]; exact ⟨HF.out.1, HF.out.2.1, HF.out.2.2.1⟩⟩, HF.out.2.2.2.2⟩
        · have hdz : (z != 0) = true := by simpa using hz0
          have HNZ := Lib.hid hz0; clear hz0; go_wp2
          go_ret
          exact ⟨by rw [HE.out.1]; rfl, ⟨L2, H2.out.2.1, by rw [leafS_no _ (by rw [HE.out.1]; exact HNZ.out)]; exact H2.out.1⟩, H2.out.2.2⟩
end
end Go.Proofs.YtepjbijhkkjbfaaGreat
