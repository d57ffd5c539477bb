/- Whole structs and arrays compared, where they are keys. No program is named. -/
import Derived.Test.YtjimamgghkgdeaaKey
import Derived.Test.YtjimamgghkgdeaaMap
import Derived.DeepKeys
namespace Go.Proofs.Ytjimamgghkgdeaa
open Go.RowKit
section
variable {P : Program} {k : TypeId} {κ : Type} [DecidableEq κ] {ok : κ → Prop} {enc : κ → Value}

theorem run_equal_enc (K : KeyEnc P k ok enc) {m : Nat} (hm : m ≤ 10000) (hk : P.keyTypeAt m k = true) (hwide : (match P.underlying k with | some (.array _ _) | some (.struct _) => true | _ => false) = true)
    {x y : κ} (hx : ok x) (hy : ok y) (W : World) : (Op.equal k (enc x) (enc y)).run P W = .ok (decide (x = y)) W := by
  obtain ⟨lx, hlx⟩ := K.key x hx
  obtain ⟨ly, hly⟩ := K.key y hy
  obtain ⟨r, hr, hiff⟩ := run_equal_deep (P := P) W hm hk hwide hlx hly
  rw [hr]
  congr 1
  rw [Bool.eq_iff_iff, hiff, decide_eq_true_eq]
  constructor
  · rintro rfl
    exact K.inj x y hx hy (K.law.inj hlx hly)
  · rintro rfl
    rw [hlx] at hly
    exact Option.some.inj hly

theorem run_eqRow (K : KeyEnc P k ok enc) {m : Nat} (hm : m ≤ 10000) (hk : P.keyTypeAt m k = true) (hwide : (match P.underlying k with | some (.array _ _) | some (.struct _) => true | _ => false) = true)
    (hg : P.eqGuardType P.depth k = false) (cs : κ → Array Value) (henc : ∀ x, enc x = .agg (cs x)) {x y : κ} (hx : ok x) (hy : ok y) (xo yo : Operand) (W : World) :
    (eqRow .eql k xo yo (.agg (cs x)) (.agg (cs y))).run P W = .ok (.value (.bool (decide (x = y)))) W := by
  have h := run_equal_enc K hm hk hwide hx hy W
  rw [henc, henc] at h
  simp only [eqRow, Sem.run_bind, run_eqGuard_agg W .eql k xo yo (cs x) (cs y) hg, Result.andThen_ok, run_eql_struct, Sem.run_pure]
  rw [show (Op.equalIn 10000 k (Value.agg (cs x)) (Value.agg (cs y))).run P W = _ from h]
  rfl
theorem run_neRow (K : KeyEnc P k ok enc) {m : Nat} (hm : m ≤ 10000) (hk : P.keyTypeAt m k = true) (hwide : (match P.underlying k with | some (.array _ _) | some (.struct _) => true | _ => false) = true)
    (hg : P.eqGuardType P.depth k = false) (cs : κ → Array Value) (henc : ∀ x, enc x = .agg (cs x)) {x y : κ} (hx : ok x) (hy : ok y) (xo yo : Operand) (W : World) :
    (eqRow .neq k xo yo (.agg (cs x)) (.agg (cs y))).run P W = .ok (.value (.bool (!decide (x = y)))) W := by
  have h := run_equal_enc K hm hk hwide hx hy W
  rw [henc, henc] at h
  simp only [eqRow, Sem.run_bind, run_eqGuard_agg W .neq k xo yo (cs x) (cs y) hg, Result.andThen_ok, run_neq_struct, Sem.run_pure]
  rw [show (Op.equalIn 10000 k (Value.agg (cs x)) (Value.agg (cs y))).run P W = _ from h]
  rfl
end
end Go.Proofs.Ytjimamgghkgdeaa
