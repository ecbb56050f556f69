/- Contract: OverTexts on a block of one's own. -/
import Derived.Test.YtnjaclggjmfkfaaF28
import Derived.Test.YtnjaclggjmfkfaaMM
set_option linter.unusedVariables false
set_option linter.unusedSimpArgs false
set_option maxRecDepth 100000
set_option maxHeartbeats 1000000
namespace Go.Hog
open Go.RowKit Rp Go.Proofs
theorem overTB {w : World} {f : View} {b n : Nat} {cs : List Value} (hv : On f w) (hlim : n ≤ 1000000) (hn : n ≤ cs.length) (hg : Given f [.blk b (.cells ⟨cs⟩ 9)] w) :
    Con Try.prog 14 [.slice (some ⟨b, 0, none⟩) n n] w (RetM w f [.blk b (.cells ⟨cs⟩ 9)] (fun _ L' _ => L' = [])) := by
  refine enterM hv hg Try.call14 Try.func14 ?_
  refine sqJ (σ := List Value) (fun _ => [(0, .slice (some ⟨b, 0, none⟩) n n)]) (fun _ => f) (fun s => [.blk b (.cells ⟨s⟩ 9)]) (fun s => n ≤ s.length) ?_ ?_
  case refine_2 =>
    rintro ys ρ hys
    replace hys : n ≤ ys.length := hys
    have q1 : (ys.take n).length = n * 1 := by rw [List.length_take]; omega
    have q2 : (n + 1) * 16 ≤ 140737488355328 := by omega
    refine rg ?_
    refine bsl fun b2 => ?_
    refine appG (nn := n) (c := n) (mm := 1) (sz := 1) (olds := ys.take n) (news := [str [111, 118, 101, 114]]) q1 (fun w hw h0 => ⟨b, 0, rfl, fun j u hj => ?_⟩) (fun hA => ?_) (by omega) rfl (fun w hw h0 => hw.rowAll (i := 0) rfl h0) (fun u hu => by simp at hu; subst hu; rfl) (by omega) (fun A' c' => ?_) (hlim := q2)
    · have h1 : w.heap[b]? = some (.cells ⟨ys⟩ 9) := hw.own (.blk b _) (by simp)
      rw [Nat.zero_add]
      exact blk_cell h1 (by rw [List.getElem?_take] at hj; split at hj; exact hj; cases hj)
    · cases hA
    refine rwL (L' := []) (fun _ h => h.sublist (List.nil_sublist _)) ?_
    refine runE ?_
    exact ret0M rfl
  refine sgE ?_
  refine bk ?_
  refine lp (σ := Nat × List Value) (fun s => [(2, i64 s.1), (0, .slice (some ⟨b, 0, none⟩) n n)]) (fun _ => f) (fun s => [.blk b (.cells ⟨s.2⟩ 9)]) (fun s => s.1 ≤ n ∧ n ≤ s.2.length) (fun s => n - s.1) (0, cs) ⟨Nat.zero_le _, hn⟩ ?_
  rintro ⟨k, ys⟩ ρ ⟨hk, hys⟩
  replace hk : k ≤ n := hk
  replace hys : n ≤ ys.length := hys
  show EW _ _ _ _ _ (ups ρ [(2, i64 k), (0, .slice (some ⟨b, 0, none⟩) n n)]) f [.blk b (.cells ⟨ys⟩ 9)]
  refine sq (sg ?_)
  refine ltE (fun h => ?_) (fun h => ?_)
  case refine_2 =>
    refine cFx ?_
    exact jn ys hys
  have h1 : k < n := by omega
  have q3 : Nat.ble (0 + k * 1 + 1) ys.length = true := by rw [Nat.ble_eq]; omega
  refine cTs (sq (bk ?_))
  refine rg ?_
  refine ix k h1 ?_
  refine st 0 (o := 0 + k * 1) (vs := [str [111, 118, 101, 114]]) (cs := ys) (cs' := putL ys (0 + k * 1) [str [111, 118, 101, 114]]) ?_ (hl := q3)
  refine rw_end ?_
  refine rg ?_
  refine addE ((k + 1 : Nat) : Int) ?_
  refine nxs (k + 1, putL ys (0 + k * 1) [str [111, 118, 101, 114]]) ⟨h1, ?_⟩ (by show n - (k + 1) < n - k; omega)
  show n ≤ (putL ys (0 + k * 1) [str [111, 118, 101, 114]]).length
  rw [putL_length _ _ _ (by simp; omega)]
  exact hys
end Go.Hog
