/- The engine, part 25: the library's search in texts, as contracts of ours. -/
import Derived.Test.YthaleeajeibgeaaSH
import Derived.Test.YthaleeajeibgeaaE24
import Derived.Lib.IndexMore
set_option linter.unusedVariables false
set_option linter.unusedSimpArgs false
namespace Go.Hog
open Go.RowKit Rp Go.Proofs
/-- The library's own variable holds some number. -/
def ML (f : View) : Prop := ∃ m, f.cell? ⟨0, 0, none⟩ = some (i64 m)
theorem ML.mono {f g : View} (hs : Sub f g) (h : ML f) : ML g := let ⟨m, hm⟩ := h; ⟨m, hs.cell hm⟩
theorem ML.ofShape {w : World} (h : w.ShapedOpen Try.prog) : ML (whole w) := by
  obtain ⟨m, hm⟩ := Try.laysM219.s1_3 w h
  refine ⟨m, ?_⟩
  simp only [World.cell?, View.cell?, whole] at hm ⊢
  exact hm
theorem indexByteC {w : World} {f : View} (hv : On f w) {s : Str} {c : UInt8} : Con Try.prog 57 [str s, .int .u8 (c.toNat : Int)] w (Ret w f fun _ v => v = i64 (Lib.indexByte s c)) := by
  have e : ((c.toNat : Int).toNat).toUInt8 = c := by simp
  have h := Try.strings_IndexByte ⟨⟨s⟩⟩ (c.toNat : Int) w
  rw [e] at h
  exact conStill Try.call57 hv h
theorem indexC {w : World} {f : View} (hv : On f w) (hm : ML f) {s u : Str} (hs : s.length < 4294967281) : Con Try.prog 60 [str s, str u] w (Ret w f fun _ v => v = i64 (Lib.index s u)) := by
  obtain ⟨m, hm⟩ := hm
  exact conStill Try.call60 hv (Try.strings_Index ⟨⟨s⟩⟩ ⟨⟨u⟩⟩ m w hs (hv.cell hm))
theorem containsC {w : World} {f : View} (hv : On f w) (hm : ML f) {s u : Str} (hs : s.length < 4294967281) : Con Try.prog 55 [str s, str u] w (Ret w f fun _ v => v = .bool (Lib.contains s u)) := by
  obtain ⟨m, hm⟩ := hm
  exact conStill Try.call55 hv (Try.strings_Contains ⟨⟨s⟩⟩ ⟨⟨u⟩⟩ m w hs (hv.cell hm))
theorem conDrew {P : Program} {k : Nat} {vs : List Value} {w : World} {f : View} {v : Value} (hcf : ∀ args w, (callFunc k args).run P w = .ok (.enter k args) w) (hv : On f w) (h : Calls P k vs.toArray w fun e w' => e = .returned v ∧ ∃ n, w' = w.drewN n) : Con P k vs w (Ret w f fun _ v' => v' = v) := by
  refine ⟨hcf, h.mono ?_⟩
  rintro e w' ⟨he, n, rfl⟩
  exact ⟨v, f, he, ⟨rfl, rfl, rfl, Nat.le_refl _, fun _ _ => rfl⟩, Sub.refl _, fun _ _ => rfl, fun i o hi => hv i o hi, rfl⟩
theorem cutC {w : World} {f : View} (hv : On f w) (hm : ML f) {s u : Str} (hs : s.length < 4294967281) : Con Try.prog 37 [str s, str u] w (Ret w f fun _ v => v = .tuple #[str (Lib.cut s u).1, str (Lib.cut s u).2.1, .bool (Lib.cut s u).2.2]) := by
  obtain ⟨m, hm⟩ := hm
  exact conDrew Try.call37 hv (Try.strings_Cut ⟨⟨s⟩⟩ ⟨⟨u⟩⟩ m w hs (hv.cell hm))
end Go.Hog
