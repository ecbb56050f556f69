/- The engine, part 27: rows of what takes so many cells. -/
import Derived.Test.YtdidefhdcinecaaGreatDoorEY
set_option linter.unusedVariables false
set_option linter.unusedSimpArgs false
namespace Go.Hog
open Go.RowKit Rp Go.Proofs
/-! ### Lists of what takes so many cells -/
section
variable {α : Type} {enc : α → List Value} {q : Nat}
theorem flat_len (h : ∀ x, (enc x).length = q) : ∀ l : List α, (l.flatMap enc).length = l.length * q
  | [] => by simp
  | x :: l => by simp [List.flatMap_cons, h, flat_len h l, Nat.add_mul, Nat.add_comm]
theorem flat_cell (h : ∀ x, (enc x).length = q) : ∀ (l : List α) (k j : Nat) (hk : k < l.length), j < q → (l.flatMap enc)[k * q + j]? = (enc l[k])[j]?
  | x :: l, 0, j, hk, hj => by
    rw [List.flatMap_cons, Nat.zero_mul, Nat.zero_add, List.getElem?_append_left (by rw [h]; exact hj)]
    rfl
  | x :: l, k + 1, j, hk, hj => by
    rw [List.flatMap_cons, List.getElem?_append_right (by rw [h, Nat.add_mul]; omega), h]
    rw [show (k + 1) * q + j - q = k * q + j by rw [Nat.add_mul]; omega]
    exact flat_cell h l k j (by simpa using hk) hj
theorem putL_left (us xs : List Value) : ∀ (vs : List Value), us.length = vs.length → putL (vs ++ xs) 0 us = us ++ xs := by
  induction us with
  | nil => intro vs h; obtain rfl : vs = [] := List.eq_nil_of_length_eq_zero h.symm; cases xs <;> rfl
  | cons u us ih =>
    intro vs h
    rcases vs with _ | ⟨v, vs⟩
    · simp at h
    · simp only [List.cons_append, putL]
      rw [ih vs (by simpa using h)]
theorem putL_past (pre : List Value) : ∀ (xs : List Value) (o : Nat) (us : List Value), putL (pre ++ xs) (pre.length + o) us = pre ++ putL xs o us := by
  induction pre with
  | nil => intro xs o us; simp
  | cons p pre ih =>
    intro xs o us
    rcases us with _ | ⟨u, us⟩
    · rw [show putL xs o [] = xs by cases xs <;> cases o <;> rfl]
      simp [putL]
    · rw [List.cons_append, List.length_cons, show pre.length + 1 + o = (pre.length + o) + 1 by omega]
      simp only [putL, List.cons_append]
      rw [ih]
theorem flat_put (h : ∀ x, (enc x).length = q) : ∀ (l : List α) (k : Nat) (x : α), k < l.length → putL (l.flatMap enc) (k * q) (enc x) = (l.set k x).flatMap enc
  | y :: l, 0, x, hk => by
    rw [List.flatMap_cons, List.set_cons_zero, List.flatMap_cons, Nat.zero_mul, putL_left _ _ _ (by rw [h, h])]
  | y :: l, k + 1, x, hk => by
    rw [List.flatMap_cons, List.set_cons_succ, List.flatMap_cons, show (k + 1) * q = (enc y).length + k * q by rw [h, Nat.add_mul]; omega, putL_past, flat_put h l k x (by simpa using hk)]
theorem flat_take (h : ∀ x, (enc x).length = q) (l : List α) (k : Nat) : (l.flatMap enc).take (k * q) = (l.take k).flatMap enc := by
  by_cases hk : k ≤ l.length
  · have h1 : l.flatMap enc = (l.take k).flatMap enc ++ (l.drop k).flatMap enc := by rw [← List.flatMap_append, List.take_append_drop]
    have h2 : ((l.take k).flatMap enc).length = k * q := by rw [flat_len h, List.length_take, Nat.min_eq_left hk]
    rw [h1, ← h2, List.take_left]
  · rw [List.take_of_length_le (show l.length ≤ k by omega), List.take_of_length_le (by rw [flat_len h]; exact Nat.mul_le_mul_right _ (by omega))]
theorem putL_front (ys zs : List Value) (j : Nat) (vs : List Value) (h : j + vs.length ≤ ys.length) : putL (ys ++ zs) j vs = putL ys j vs ++ zs := by
  rw [← putL_eq _ _ _ (by rw [List.length_append]; omega), ← putL_eq _ _ _ h, List.take_append_of_le_length (by omega), List.drop_append_of_le_length h, List.append_assoc, List.append_assoc, List.append_assoc]
theorem flat_putAt (h : ∀ x, (enc x).length = q) : ∀ (l : List α) (k j : Nat) (vs : List Value) (x : α) (hk : k < l.length), j + vs.length ≤ q → putL (enc l[k]) j vs = enc x → putL (l.flatMap enc) (k * q + j) vs = (l.set k x).flatMap enc
  | y :: l, 0, j, vs, x, hk, hj, he => by
    rw [List.flatMap_cons, List.set_cons_zero, List.flatMap_cons, Nat.zero_mul, Nat.zero_add, putL_front _ _ _ _ (by rw [h]; exact hj)]
    rw [← he]; rfl
  | y :: l, k + 1, j, vs, x, hk, hj, he => by
    rw [List.flatMap_cons, List.set_cons_succ, List.flatMap_cons, show (k + 1) * q + j = (enc y).length + (k * q + j) by rw [h, Nat.add_mul]; omega, putL_past, flat_putAt h l k j vs x (by simpa using hk) hj he]
end
end Go.Hog
