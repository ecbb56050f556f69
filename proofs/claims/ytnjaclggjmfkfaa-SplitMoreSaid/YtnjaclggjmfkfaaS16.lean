/- Plain words: more layers. -/
import Derived.Test.YtnjaclggjmfkfaaG12
set_option linter.unusedVariables false
set_option linter.unusedSimpArgs false
namespace Go.Hog
theorem layL_one {n : Nat} {R : List Str} (hn : 1 ≤ n) {i : Nat} (hi : i < (layL n R).length) (hin : i < n - 1) : ∃ (h : i < R.length), (layL n R)[i] = [R[i]] := by
  have hl := layL_len (R := R) hn
  have h : i < R.length := by omega
  refine ⟨h, ?_⟩
  unfold layL
  by_cases hc : R.length ≤ n
  · simp only [if_pos hc, List.getElem_map]
  · have hi2 : i < ((R.take (n - 1)).map fun s => [s]).length := by simp; omega
    simp only [if_neg hc]
    rw [List.getElem_append_left hi2]
    simp
theorem layL_last {n : Nat} {R : List Str} (hn : 1 ≤ n) (hl : (layL n R).length = n) : ∃ (h : n - 1 < (layL n R).length), (layL n R)[n - 1].length + n = R.length + 1 ∧ ∀ s ∈ (layL n R)[n - 1], s ∈ R.drop (n - 1) := by
  have hl2 := layL_len (R := R) hn
  have h : n - 1 < (layL n R).length := by omega
  refine ⟨h, ?_⟩
  by_cases hc : R.length ≤ n
  · have he : R.length = n := by omega
    have e : (layL n R)[n - 1] = [R[n - 1]'(by omega)] := by
      simp only [layL, if_pos hc, List.getElem_map]
    rw [e]
    refine ⟨by simp; omega, fun s hs => ?_⟩
    rw [List.mem_singleton] at hs
    subst hs
    have := List.drop_eq_getElem_cons (l := R) (i := n - 1) (by omega)
    exact this ▸ List.mem_cons_self
  · have hi2 : ((R.take (n - 1)).map fun s => [s]).length = n - 1 := by simp; omega
    have e : (layL n R)[n - 1] = sortS (R.drop (n - 1)) := by
      have h3 : layL n R = (R.take (n - 1)).map (fun s => [s]) ++ [sortS (R.drop (n - 1))] := by unfold layL; rw [if_neg hc]
      simp only [h3]
      rw [List.getElem_append_right (by omega)]
      simp
    rw [e]
    refine ⟨by rw [sortS_len, List.length_drop]; omega, fun s hs => sortS_mem.1 hs⟩
theorem idxP_ge {α : Type} {p : α → Bool} {l : List α} {q : Nat} (h1 : ∃ x ∈ l, p x = true) (h2 : ∀ j (hj : j < l.length), j < q → p l[j] = false) : (q : Int) ≤ idxP p l := by
  have h3 := idxP_neg.2 h1
  unfold idxP at *
  cases h : l.findIdx? p with
  | none => rw [h] at h3; exact absurd h3 (by decide)
  | some k =>
    obtain ⟨h4, h5, _⟩ := List.findIdx?_eq_some_iff_getElem.1 h
    show (q : Int) ≤ (k : Int)
    rcases Nat.lt_or_ge k q with h6 | h6
    · rw [h2 k h4 h6] at h5; cases h5
    · omega
theorem place_far {m m2 : Nat} {R : List Str} (hm : 1 ≤ m) (hmm : m ≤ m2) (hnd : R.Nodup) {s : Str} (hs : s ∈ R.drop (m - 1)) : ((m - 1 : Nat) : Int) ≤ placeL (layL m2 R) s := by
  unfold placeL
  obtain ⟨l, h1, h2⟩ := layL_mem (n := m2) (List.mem_of_mem_drop hs)
  refine idxP_ge ⟨l, h1, decide_eq_true h2⟩ fun j hj hjm => ?_
  obtain ⟨h3, h4⟩ := layL_one (by omega) hj (by omega)
  rw [h4]
  refine decide_eq_false fun h5 => ?_
  rw [List.mem_singleton] at h5
  obtain ⟨k, hk, e⟩ := List.getElem_of_mem hs
  rw [List.getElem_drop] at e
  have hk2 : m - 1 + k < R.length := by rw [List.length_drop] at hk; omega
  have := List.pairwise_iff_getElem.1 hnd j (m - 1 + k) h3 hk2 (by omega)
  exact this (by rw [e, h5])
end Go.Hog
