/- The library's ReplaceAll and Count. -/
import Derived.Test.YtdidefhdcinecaaGreatDoorEW
set_option linter.unusedVariables false
set_option linter.unusedSimpArgs false
namespace Go.Hog
open Go.RowKit Rp Go.Proofs
theorem conBelow {P : Program} {k : Nat} {vs : List Value} {w : World} {f : View} {v : Value} (hcf : ∀ args w, (callFunc k args).run P w = .ok (.enter k args) w) (hv : On f w) (h : Calls P k vs.toArray w fun e w' => e = .returned v ∧ Below w.heap.size w w') : Con P k vs w (Ret w f fun _ v' => v' = v) := by
  refine ⟨hcf, h.mono ?_⟩
  rintro e w' ⟨he, hb⟩
  exact ⟨v, f, he, hb, Sub.refl _, fun _ _ => rfl, fun i o hi => by
    have h1 := hv i o hi
    rw [hb.block i (Array.getElem?_eq_some_iff.1 h1).1]; exact h1, rfl⟩
theorem replaceAllC {w : World} {f : View} (hv : On f w) (hm : ML f) {s o n : Str} (hs : s.length < 4294967281) (h1 : 1 ≤ o.length) (hlen : s.length + Lib.count s o * n.length ≤ 140737488355328) : Con Tryz.prog 25 [str s, str o, str n] w (Ret w f fun _ v => v = str (Lib.replaceAll s o n)) := by
  obtain ⟨m, hm⟩ := hm
  exact conBelow Tryz.call25 hv (Tryz.strings_ReplaceAll ⟨⟨s⟩⟩ ⟨⟨o⟩⟩ ⟨⟨n⟩⟩ m w hs (hv.cell hm) h1 hlen)
theorem countC {w : World} {f : View} (hv : On f w) (hm : ML f) {s o : Str} (hs : s.length < 4294967281) (h1 : 1 ≤ o.length) : Con Tryz.prog 26 [str s, str o] w (Ret w f fun _ v => v = i64 (Lib.count s o : Nat)) := by
  obtain ⟨m, hm⟩ := hm
  exact conStill Tryz.call26 hv (Tryz.strings_Count_any ⟨⟨s⟩⟩ ⟨⟨o⟩⟩ m w hs (hv.cell hm) h1)
end Go.Hog
