/- Contracts: slices.Sort of at most twelve texts; slices.Compact. -/
import Derived.Test.YtidhmfmbifdbkaaF11
import Derived.Test.YtidhmfmbifdbkaaE18
set_option linter.unusedVariables false
set_option linter.unusedSimpArgs false
set_option maxRecDepth 100000
set_option maxHeartbeats 1000000
namespace Go.Hog
open Go.RowKit Rp Go.Proofs
theorem pdqS {w : World} {f : View} {A : Option Addr} {c : Nat} {l : List Str} {q : Int} (hlim : l.length ≤ 12) (hv : On f w) (hg : Given f [sRow A c l] w) :
    Con Try.prog 45 [.slice A l.length c, i64 0, i64 (l.length : Nat), i64 q] w (RetM w f [sRow A c l] fun _ L' _ => L' = [sRow A c (sortS l)]) := by
  refine enterM hv hg Try.call45 Try.func45 ?_
  have hl2 : l.length ≤ 1000000 := by omega
  refine sgE ?_
  refine sgE ?_
  refine bk ?_
  refine lp (σ := Unit) (fun _ => [(2, i64 (l.length : Nat)), (1, i64 0), (0, .slice A l.length c)]) (fun _ => f) (fun _ => [sRow A c l]) (fun _ => True) (fun _ => 0) () trivial ?_
  intro _ ρ _
  refine bk (sg ?_)
  refine subE ((l.length : Nat) : Int) ?_
  refine sq (sg ?_)
  refine leE (fun h => ?_) (fun h => ?_)
  case refine_2 => omega
  refine cT (sg ?_)
  refine callM0 (vs := [.slice A l.length c, i64 0, i64 (l.length : Nat)]) [sRow A c l] (fun w hon hgi => insertionS hl2 hon hgi) (fun v g L' hs hR => ?_)
  subst hR
  refine runE ?_
  refine ew_ret ?_
  exact ret0Mr rfl
theorem len64 {w : World} {f : View} (hv : On f w) {x : Nat} (hx : x < 256) : Con Try.prog 63 [.int .u64 (x : Int)] w (Ret w f fun _ v => ∃ n, v = i64 n) := by
  refine enterC hv Try.call63 Try.func63 ?_
  have w1 : IntKind.u8.wrap (x : Int) = x := by rw [wrap_u8]; omega
  refine sgE ?_
  refine sq (sg ?_)
  refine geE (fun h => ?_) (fun h => ?_)
  · omega
  refine cFs ?_
  refine sq (sg ?_)
  refine geE (fun h => ?_) (fun h => ?_)
  · omega
  refine cFs ?_
  refine sq (sg ?_)
  refine geE (fun h => ?_) (fun h => ?_)
  · omega
  refine cFs ?_
  refine sg ?_
  refine cvI (x : Int) w1 ?_
  refine ixSx 256 x hx fun b => ?_
  have hb := b.toNat_lt
  have w2 : IntKind.i64.wrap (b.toNat : Int) = b.toNat := wrap_in (by omega)
  refine cvI (b.toNat : Int) w2 ?_
  refine addE (b.toNat : Int) ?_
  refine ew_ret ?_
  exact ret1 ⟨_, rfl⟩
theorem lenB {w : World} {f : View} (hv : On f w) {x : Nat} (hx : x < 256) : Con Try.prog 46 [.int .u64 (x : Int)] w (Ret w f fun _ v => ∃ n, v = i64 n) := by
  refine enterC hv Try.call46 Try.func46 ?_
  refine sgE ?_
  refine sq (cFs ?_)
  refine sg ?_
  refine callO (vs := [.int .u64 (x : Int)]) (fun w g hs _ hon => len64 hon hx) (fun v g hR => ?_)
  obtain ⟨n, rfl⟩ := hR
  refine runE ?_
  refine ew_ret ?_
  exact ret1 ⟨_, rfl⟩
theorem sortC {w : World} {f : View} {A : Option Addr} {c : Nat} {l : List Str} (hlim : l.length ≤ 12) (hv : On f w) (hg : Given f [sRow A c l] w) :
    Con Try.prog 36 [.slice A l.length c] w (RetM w f [sRow A c l] fun _ L' _ => L' = [sRow A c (sortS l)]) := by
  refine enterM hv hg Try.call36 Try.func36 ?_
  have w1 : IntKind.u64.wrap (l.length : Int) = l.length := by rw [wrap_u64]; omega
  refine sgE ?_
  refine rg ?_
  refine cvI (l.length : Int) w1 ?_
  refine callO (vs := [.int .u64 (l.length : Int)]) (fun w g hs _ hon => lenB hon (show l.length < 256 by omega)) (fun v g hR => ?_)
  obtain ⟨n, rfl⟩ := hR
  refine callM0 (vs := [.slice A l.length c, i64 0, i64 (l.length : Nat), i64 n]) [sRow A c l] (fun w hon hgi => pdqS hlim hon hgi) (fun v g L' hs hR => ?_)
  subst hR
  refine runE ?_
  exact ret0M rfl
end Go.Hog
