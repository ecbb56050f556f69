/- The engine, part 25: the library's search in texts, as contracts of ours. -/
import Derived.Test.YtidhmfmbifdbkaaSH
import Derived.Test.YtidhmfmbifdbkaaE24
import Derived.Lib.IndexMore
set_option linter.unusedVariables false
set_option linter.unusedSimpArgs false
namespace Go.Hog
open Go.RowKit Rp Go.Proofs
/-- The library's own variable holds some number. -/
def ML (f : View) : Prop := ∃ m, f.cell? ⟨0, 0, none⟩ = some (i64 m)
theorem ML.mono {f g : View} (hs : Sub f g) (h : ML f) : ML g := let ⟨m, hm⟩ := h; ⟨m, hs.cell hm⟩
theorem ML.ofShape {w : World} (h : w.ShapedOpen Try.prog) : ML (whole w) := by
  obtain ⟨m, hm⟩ := Try.laysM219.s1_3 w h
  refine ⟨m, ?_⟩
  simp only [World.cell?, View.cell?, whole] at hm ⊢
  exact hm
theorem indexByteC {w : World} {f : View} (hv : On f w) {s : Str} {c : UInt8} : Con Try.prog 50 [str s, .int .u8 (c.toNat : Int)] w (Ret w f fun _ v => v = i64 (Lib.indexByte s c)) := by
  have e : ((c.toNat : Int).toNat).toUInt8 = c := by simp
  have h := Try.strings_IndexByte ⟨⟨s⟩⟩ (c.toNat : Int) w
  rw [e] at h
  exact conStill Try.call50 hv h
theorem indexC {w : World} {f : View} (hv : On f w) (hm : ML f) {s u : Str} (hs : s.length < 4294967281) : Con Try.prog 25 [str s, str u] w (Ret w f fun _ v => v = i64 (Lib.index s u)) := by
  obtain ⟨m, hm⟩ := hm
  exact conStill Try.call25 hv (Try.strings_Index ⟨⟨s⟩⟩ ⟨⟨u⟩⟩ m w hs (hv.cell hm))
theorem containsC {w : World} {f : View} (hv : On f w) (hm : ML f) {s u : Str} (hs : s.length < 4294967281) : Con Try.prog 33 [str s, str u] w (Ret w f fun _ v => v = .bool (Lib.contains s u)) := by
  obtain ⟨m, hm⟩ := hm
  exact conStill Try.call33 hv (Try.strings_Contains ⟨⟨s⟩⟩ ⟨⟨u⟩⟩ m w hs (hv.cell hm))
end Go.Hog
