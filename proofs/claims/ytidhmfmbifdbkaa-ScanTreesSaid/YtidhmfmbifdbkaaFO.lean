/- Contracts: what was answered is written over. -/
import Derived.Test.YtidhmfmbifdbkaaF4
import Derived.Test.YtidhmfmbifdbkaaE10
import Derived.Test.YtidhmfmbifdbkaaH1
set_option linter.unusedVariables false
set_option linter.unusedSimpArgs false
set_option maxRecDepth 100000
set_option maxHeartbeats 1000000
namespace Go.Hog
open Go.RowKit Rp Go.Proofs
theorem overTs {w : World} {f : View} {A : Option Addr} {n c : Nat} {xs : List Value} (hv : On f w) (hlim : n ≤ 1000000) (hg : Given f [.row A n c 9 1 xs] w) :
    Con Try.prog 21 [.slice A n c] w (RetM w f [.row A n c 9 1 xs] (fun _ L' _ => L' = [])) := by
  refine enterM hv hg Try.call21 Try.func21 ?_
  refine sqJ (σ := List Value) (fun _ => [(0, .slice A n c)]) (fun _ => f) (fun s => [.row A n c 9 1 s]) (fun _ => True) ?_ ?_
  case refine_2 =>
    rintro ys ρ _
    refine rg ?_
    refine bsl fun b => ?_
    refine app 0 (fun A' c' => ?_) (hi := rfl) (hlim := by show (n + 1) * 16 ≤ _; omega)
    refine dropH ?_
    refine runE ?_
    exact ret0M rfl
  refine sgE ?_
  refine bk ?_
  refine lp (σ := Nat × List Value) (fun s => [(2, i64 s.1), (0, .slice A n c)]) (fun _ => f) (fun s => [.row A n c 9 1 s.2]) (fun s => s.1 ≤ n) (fun s => n - s.1) (0, xs) (Nat.zero_le _) ?_
  rintro ⟨k, ys⟩ ρ hk
  replace hk : k ≤ n := hk
  show EW _ _ _ _ _ (ups ρ [(2, i64 k), (0, .slice A n c)]) f [.row A n c 9 1 ys]
  refine sq (sg ?_)
  refine ltE (fun h => ?_) (fun h => ?_)
  case refine_2 =>
    refine cFx ?_
    exact jn ys trivial
  have h1 : k < n := by omega
  refine erowF 0 fun hrow => ?_
  obtain ⟨g, rfl⟩ := hrow.2.2.2.1 (by omega)
  refine cTs (sq (bk ?_))
  refine rg ?_
  refine ix k h1 ?_
  refine stR 0 (o := 0 + k * 1) (vs := [str [111, 118, 101, 114]]) (xs := ys) (by rw [hrow.1]; simp; omega) ?_
  refine rw_end ?_
  refine rg ?_
  refine addE ((k + 1 : Nat) : Int) ?_
  exact nxs (k + 1, putL ys (0 + k * 1) [str [111, 118, 101, 114]]) h1 (by show n - (k + 1) < n - k; omega)
theorem overIs {w : World} {f : View} {A : Option Addr} {n c : Nat} {xs : List Value} (hv : On f w) (hlim : n ≤ 1000000) (hg : Given f [.row A n c 3 1 xs] w) :
    Con Try.prog 20 [.slice A n c] w (RetM w f [.row A n c 3 1 xs] (fun _ L' _ => L' = [])) := by
  refine enterM hv hg Try.call20 Try.func20 ?_
  refine sqJ (σ := List Value) (fun _ => [(0, .slice A n c)]) (fun _ => f) (fun s => [.row A n c 3 1 s]) (fun _ => True) ?_ ?_
  case refine_2 =>
    rintro ys ρ _
    refine rg ?_
    refine bsl fun b => ?_
    refine app 0 (fun A' c' => ?_) (hi := rfl) (hlim := by show (n + 1) * 8 ≤ _; omega)
    refine dropH ?_
    refine runE ?_
    exact ret0M rfl
  refine sgE ?_
  refine bk ?_
  refine lp (σ := Nat × List Value) (fun s => [(2, i64 s.1), (0, .slice A n c)]) (fun _ => f) (fun s => [.row A n c 3 1 s.2]) (fun s => s.1 ≤ n) (fun s => n - s.1) (0, xs) (Nat.zero_le _) ?_
  rintro ⟨k, ys⟩ ρ hk
  replace hk : k ≤ n := hk
  show EW _ _ _ _ _ (ups ρ [(2, i64 k), (0, .slice A n c)]) f [.row A n c 3 1 ys]
  refine sq (sg ?_)
  refine ltE (fun h => ?_) (fun h => ?_)
  case refine_2 =>
    refine cFx ?_
    exact jn ys trivial
  have h1 : k < n := by omega
  refine erowF 0 fun hrow => ?_
  obtain ⟨g, rfl⟩ := hrow.2.2.2.1 (by omega)
  refine cTs (sq (bk ?_))
  refine rg ?_
  refine ix k h1 ?_
  refine stR 0 (o := 0 + k * 1) (vs := [i64 (-999)]) (xs := ys) (by rw [hrow.1]; simp; omega) ?_
  refine rw_end ?_
  refine rg ?_
  refine addE ((k + 1 : Nat) : Int) ?_
  exact nxs (k + 1, putL ys (0 + k * 1) [i64 (-999)]) h1 (by show n - (k + 1) < n - k; omega)
end Go.Hog
