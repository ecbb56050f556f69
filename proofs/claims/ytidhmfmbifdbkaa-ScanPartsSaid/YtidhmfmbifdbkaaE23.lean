/- The engine, part 23: min. -/
import Derived.Test.YtidhmfmbifdbkaaE22
set_option linter.unusedVariables false
set_option linter.unusedSimpArgs false
namespace Go.Hog
open Go.RowKit Rp Go.Proofs
section
variable {P : Program} {n : Nat} {B : Bs} {f : View} {L : List HE} {ρ : Env} {K : Kon} {ops : Array Oper} {m : Md} {l l0 : List Oper} {ρ0 : Env} {d : Nat} {x y : Operand} {ty : TypeId} {pos : String} {af : Array Edge} {gd : Option (Nat × Bool)} {at_ : Array TypeId} {kk k2 : IntKind} {a b : Int}
theorem minI (r : Int) (hr : (if b < a then b else a) = r) (k : RW m P n B ops K l (up ρ d (.int kk r)) f L) (hrun : runP P ops l0 ρ0 = (⟨some d, .call ⟨.builtin .min, ⟨[x, y]⟩, at_⟩, ty, pos, af, gd⟩ :: l, ρ) := by rfl) (hg : wantedE ops ρ ⟨some d, .call ⟨.builtin .min, ⟨[x, y]⟩, at_⟩, ty, pos, af, gd⟩ = true := by rfl)
    (hx : ev ρ x = .int kk a := by rfl) (hy : ev ρ y = .int k2 b := by rfl) : RW m P n B ops K l0 ρ0 f L := by
  refine rw_runP l0 ρ0 ?_
  rw [hrun]
  subst hr
  exact rw_y hg (fun w _ => by simp [execOp, resolve, invoke, builtin, Builtin.min_, Builtin.min2, hx, hy]) k
end
end Go.Hog
