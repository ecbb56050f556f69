/- E23 S15, in one text. -/
import Derived.Test.YtnjaclggjmfkfaaMP
import Derived.Test.YtnjaclggjmfkfaaG11
set_option linter.unusedVariables false
set_option linter.unusedSimpArgs false
namespace Go.Hog
open Go.RowKit Rp Go.Proofs
section
variable {P : Program} {n : Nat} {B : Bs} {f : View} {L : List HE} {ρ : Env} {K : Kon} {ops : Array Oper} {m : Md} {l l0 : List Oper} {ρ0 : Env} {d : Nat} {x y : Operand} {ty : TypeId} {pos : String} {af : Array Edge} {gd : Option (Nat × Bool)} {at_ : Array TypeId} {kk k2 : IntKind} {a b : Int}
theorem minI (r : Int) (hr : (if b < a then b else a) = r) (k : RW m P n B ops K l (up ρ d (.int kk r)) f L) (hrun : runP P ops l0 ρ0 = (⟨some d, .call ⟨.builtin .min, ⟨[x, y]⟩, at_⟩, ty, pos, af, gd⟩ :: l, ρ) := by rfl) (hg : wantedE ops ρ ⟨some d, .call ⟨.builtin .min, ⟨[x, y]⟩, at_⟩, ty, pos, af, gd⟩ = true := by rfl)
    (hx : ev ρ x = .int kk a := by rfl) (hy : ev ρ y = .int k2 b := by rfl) : RW m P n B ops K l0 ρ0 f L := by
  refine rw_runP l0 ρ0 ?_
  rw [hrun]
  subst hr
  exact rw_y hg (fun w _ => by simp [execOp, resolve, invoke, builtin, Builtin.min_, Builtin.min2, hx, hy]) k
end
end Go.Hog

set_option linter.unusedVariables false
set_option linter.unusedSimpArgs false
namespace Go.Hog
theorem layL_at {n : Nat} {R : List Str} (hn : 1 ≤ n) {i : Nat} (hi : i + 1 < (layL n R).length) : ∃ (h : i < R.length) (h2 : i < (layL n R).length), (layL n R)[i] = [R[i]] := by
  have hl := layL_len (R := R) hn
  have h : i < R.length := by omega
  refine ⟨h, by omega, ?_⟩
  unfold layL
  by_cases hc : R.length ≤ n
  · simp only [if_pos hc, List.getElem_map]
  · have hi2 : i < ((R.take (n - 1)).map fun s => [s]).length := by simp; omega
    simp only [if_neg hc]
    rw [List.getElem_append_left hi2]
    simp
theorem layL_ne {n : Nat} {R : List Str} (hn : 1 ≤ n) : ∀ l ∈ layL n R, 0 < l.length := by
  unfold layL
  intro l hl
  split at hl
  · obtain ⟨x, hx, rfl⟩ := List.mem_map.1 hl
    simp
  · rcases List.mem_append.1 hl with hl | hl
    · obtain ⟨x, hx, rfl⟩ := List.mem_map.1 hl
      simp
    · rw [List.mem_singleton] at hl
      subst hl
      rw [sortS_len, List.length_drop]; omega
theorem layL_strict {n : Nat} {R : List Str} (hnd : R.Nodup) : ∀ l ∈ layL n R, l.Pairwise (· < ·) := by
  unfold layL
  intro l hl
  split at hl
  · obtain ⟨x, hx, rfl⟩ := List.mem_map.1 hl
    exact List.pairwise_singleton _ _
  · rcases List.mem_append.1 hl with hl | hl
    · obtain ⟨x, hx, rfl⟩ := List.mem_map.1 hl
      exact List.pairwise_singleton _ _
    · rw [List.mem_singleton] at hl
      subst hl
      exact sortS_strict (hnd.sublist (List.drop_sublist _ _))
theorem sum_ones (l : List Str) : ((l.map fun s => [s]).map List.length).sum = l.length := by
  induction l with
  | nil => rfl
  | cons x l ih => simp only [List.map_cons, List.sum_cons, ih, List.length_cons, List.length_nil]; omega
theorem layL_sum {n : Nat} {R : List Str} : ((layL n R).map List.length).sum = R.length := by
  unfold layL
  split
  · exact sum_ones R
  · rw [List.map_append, List.sum_append, sum_ones]
    simp [sortS_len]
    omega
theorem layL_mem {n : Nat} {R : List Str} {s : Str} (h : s ∈ R) : ∃ l ∈ layL n R, s ∈ l := by
  unfold layL
  split
  · exact ⟨[s], List.mem_map.2 ⟨s, h, rfl⟩, by simp⟩
  · have : s ∈ R.take (n - 1) ++ R.drop (n - 1) := by rw [List.take_append_drop]; exact h
    rcases List.mem_append.1 this with h1 | h1
    · exact ⟨[s], List.mem_append_left _ (List.mem_map.2 ⟨s, h1, rfl⟩), by simp⟩
    · exact ⟨sortS (R.drop (n - 1)), List.mem_append_right _ (by simp), sortS_mem.2 h1⟩
theorem sum_snocL {ls : List (List Str)} {k : Nat} (h : k < ls.length) : ((ls.take (k + 1)).map List.length).sum = ((ls.take k).map List.length).sum + ls[k].length := by
  rw [List.take_add_one, List.getElem?_eq_getElem h, List.map_append, List.sum_append]
  simp
theorem sum_le {ls : List (List Str)} {c : Nat} (h : ∀ l ∈ ls, l.length ≤ c) : ∀ k, ((ls.take k).map List.length).sum ≤ c * k
  | 0 => by simp
  | k + 1 => by
    by_cases hk : k < ls.length
    · rw [sum_snocL hk]
      have h1 := sum_le h k
      have h2 := h _ (List.getElem_mem hk)
      rw [Nat.mul_succ]
      omega
    · have h1 := sum_le h k
      rw [List.take_of_length_le (by omega)] at h1 ⊢
      rw [Nat.mul_succ]
      omega
end Go.Hog
