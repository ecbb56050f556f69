/- Contracts: law0.Low. -/
import Derived.Test.YtjjlfbpmbleabaaDoorE15
set_option linter.unusedVariables false
set_option linter.unusedSimpArgs false
set_option maxRecDepth 100000
namespace Go.Hog
open Go.RowKit Rp Go.Proofs
theorem low0 {w : World} {f : View} (hv : On f w) {x n : Int} (hn : 0 < n ∧ n ≤ 9223372036854775807) :
    Con Tryd.prog 15 [i64 x, i64 n] w (Ret w f fun _ v => v = i64 (lowV x n)) := by
  refine enterC hv Tryd.call15 Tryd.func15 ?_
  have h := lowV_lt x hn.1
  have hm := Int.emod_nonneg x (show (18446744073709551616 : Int) ≠ 0 by decide)
  have hm2 := Int.emod_lt_of_pos x (show (0 : Int) < 18446744073709551616 by decide)
  have w1 : IntKind.u64.wrap n = n := by rw [wrap_u64]; omega
  have w2 : (x % 18446744073709551616).tmod n = lowV x n := by unfold lowV; exact Int.tmod_eq_emod_of_nonneg hm
  have w3 : IntKind.i64.wrap (lowV x n) = lowV x n := wrap_in (by omega)
  have w4 : n ≠ 0 := by omega
  refine sgE ?_
  refine sg ?_
  refine cvI (x % 18446744073709551616) (wrap_u64 x) ?_
  refine cvI n w1 ?_
  refine remK (lowV x n) w4 w2 ?_
  refine cvI (lowV x n) w3 ?_
  refine runE ?_
  refine ew_ret ?_
  exact ret1 rfl
end Go.Hog
