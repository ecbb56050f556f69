/- The engine, part 26: two truths compared. -/
import Derived.Test.YtidhmfmbifdbkaaF34
import Derived.Laws.Small
set_option linter.unusedVariables false
set_option linter.unusedSimpArgs false
namespace Go.Hog
open Go.RowKit Rp Go.Proofs
def isBool (P : Program) (t : TypeId) : Bool := match P.underlying t with | some .bool => true | _ => false
theorem und_isBool {P : Program} {t : TypeId} (h : isBool P t = true) : P.underlying t = some .bool := by
  unfold isBool at h
  split at h
  · rename_i hu; exact hu
  · cases h
theorem eqBo {P : Program} {n : Nat} {B : Bs} {f : View} {L : List HE} {ρ : Env} {K : Kon} {ops : Array Oper} {m : Md} {l l0 : List Oper} {ρ0 : Env} {d : Nat} {x y : Operand} {t t2 ty : TypeId} {pos : String} {af : Array Edge} {gd : Option (Nat × Bool)} {a b : Bool}
    (k : RW m P n B ops K l (up ρ d (.bool (a == b))) f L) (hrun : runP P ops l0 ρ0 = (⟨some d, .binOp .eql t x y t2, ty, pos, af, gd⟩ :: l, ρ) := by rfl) (hg : wantedE ops ρ ⟨some d, .binOp .eql t x y t2, ty, pos, af, gd⟩ = true := by rfl)
    (hx : ev ρ x = .bool a := by rfl) (hy : ev ρ y = .bool b := by rfl) (he : isBool P t = true := by rfl) : RW m P n B ops K l0 ρ0 f L := by
  refine rw_runP l0 ρ0 ?_
  rw [hrun]
  exact rw_y hg (fun w hw => by
    have := run_equal_bool (P := P) w t a b (und_isBool he)
    simp [execOp, eqGuard, hx, hy, binOp, this]) k
theorem foundL_sub {names : List Str} {p : Str → Bool} {s : Str} (h : s ∈ foundL names p) : s ∈ names := (foundL_mem.1 h).1
end Go.Hog
