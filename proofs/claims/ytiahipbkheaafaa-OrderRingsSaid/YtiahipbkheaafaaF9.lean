/- Contracts: the laws of chapter 10. -/
import Derived.Test.YtiahipbkheaafaaF8
set_option linter.unusedVariables false
set_option linter.unusedSimpArgs false
set_option maxRecDepth 100000
set_option maxHeartbeats 1000000
namespace Go.Hog
open Go.RowKit Rp Go.Proofs

section
variable {P : Program} {n : Nat} {B : Bs} {f : View} {L : List HE} {ρ : Env} {K : Kon} {ops : Array Oper} {m : Md} {l l0 : List Oper} {ρ0 : Env} {d : Nat} {x y : Operand} {t ty t2 : TypeId} {pos : String} {af : Array Edge} {gd : Option (Nat × Bool)}
theorem neB (p q : Bool) (k : RW m P n B ops K l (up ρ d (.bool (p != q))) f L) (hrun : runP P ops l0 ρ0 = (⟨some d, .binOp .neq t x y t2, ty, pos, af, gd⟩ :: l, ρ) := by rfl) (hg : wantedE ops ρ ⟨some d, .binOp .neq t x y t2, ty, pos, af, gd⟩ = true := by rfl) (hx : ev ρ x = .bool p := by rfl) (hy : ev ρ y = .bool q := by rfl) (ht : P.underlying t = some .bool := by rfl) : RW m P n B ops K l0 ρ0 f L := by
  refine rw_runP l0 ρ0 ?_
  rw [hrun]
  have he : ∀ w, (Op.equalIn Op.maxDepth t (.bool p) (.bool q)).run P w = .ok (p == q) w := fun w => by
    rw [show Op.maxDepth = 9999 + 1 from rfl]
    unfold Op.equalIn
    simp [run_und ht]
  exact rw_y hg (fun w _ => by simp [execOp, eqGuard, binOp, hx, hy, Op.equal, he]; cases p <;> cases q <;> rfl) k
end
theorem refGo_nodup {a : List Item} : ∀ (k : Nat) (o l : List Str), refGo a k o = some l → o.Nodup → l.Nodup
  | 0, o, l, h, ho => by
    simp only [refGo, Option.some.injEq] at h
    subst h; exact ho
  | k + 1, o, l, h, ho => by
    simp only [refGo] at h
    have hs := bestJ_spec a o a.length (Nat.le_refl _)
    split at h
    · cases h
    · rename_i j hj
      rw [hj] at hs
      refine refGo_nodup k _ l h (List.nodup_append.2 ⟨ho, by simp, fun x hx y hy e => ?_⟩)
      have : y = (a.getD j dI).name := by simpa using hy
      subst this
      subst e
      exact hs.2.1.1 hx
theorem refOf_nodup {a : List Item} {l : List Str} (h : refOf a = some l) : l.Nodup := by
  unfold refOf at h
  split at h
  · exact refGo_nodup _ _ _ h List.nodup_nil
  · cases h
theorem refOf_mem {a : List Item} {l : List Str} (h : refOf a = some l) {s : Str} (hs : s ∈ names a) : s ∈ l := by
  obtain ⟨h1, h2⟩ := refOf_sub h
  have h3 := refOf_nodup h
  refine Classical.byContradiction fun hn => ?_
  have h5 := (List.nodup_cons.2 ⟨hn, h3⟩).length_le_of_subset (l₂ := names a) (fun t ht => by
    rcases List.mem_cons.1 ht with rfl | ht
    · exact hs
    · exact h1 t ht)
  simp [names, h2] at h5
  omega
theorem fit_of {a : List Item} (h : ¬ GreatI a) : Fit a := by
  unfold GreatI at h
  refine ⟨?_, fun x hx => ?_⟩
  · have : ¬ 10 < a.length := fun e => h (.inl e)
    omega
  · have h2 : ¬ GreatT x.refs 12 100 := fun e => h (.inr ⟨x, hx, .inr (.inl e)⟩)
    have : ¬ (12 : Int) < x.refs.length := fun e => h2 (.inl e)
    omega
end Go.Hog
