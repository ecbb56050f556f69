/- Contracts: scan.Has, Places, found, Text, Tree; the document's places. -/
import Derived.Test.YthaleeajeibgeaaS18
import Derived.Test.YthaleeajeibgeaaF14
import Derived.Test.YthaleeajeibgeaaE21
set_option linter.unusedVariables false
set_option linter.unusedSimpArgs false
set_option maxRecDepth 100000
set_option maxHeartbeats 1000000
namespace Go.Hog
open Go.RowKit Rp Go.Proofs
theorem scanHas {w : World} {f : View} (hv : On f w) (hm : ML f) {s u : Str} (hs : s.length < 4294967281) : Con Try.prog 48 [str s, str u] w (Ret w f fun _ v => v = .bool (decide (hasL s u))) := by
  refine enterC hv Try.call48 Try.func48 ?_
  refine sgE ?_
  refine sg ?_
  refine neS (fun h => ?_) (fun h => ?_)
  · refine callV (.bool (Lib.contains s u)) (vs := [str s, str u]) (fun w g hs' _ hon => containsC hon (hm.mono hs') hs) ?_
    refine runE ?_
    refine ew_ret ?_
    refine ret1 (show Value.bool (Lib.contains s u) = .bool (decide (hasL s u)) from ?_)
    unfold Lib.contains hasL
    congr 1
    exact decide_eq_decide.2 ⟨fun h2 => ⟨h, h2⟩, fun h2 => h2.2⟩
  · refine runE ?_
    refine ew_ret ?_
    exact ret1 (bF fun h2 => h h2.1)
theorem hash_le (s : Str) : (hashL s).length ≤ LB := by
  unfold hashL
  split
  · exact Nat.le_trans (List.length_take_le _ _) (by decide)
  · exact Nat.zero_le _
end Go.Hog
