/- Plain facts: the place of the first one. -/

set_option linter.unusedVariables false
set_option linter.unusedSimpArgs false
namespace Go.Hog
def idxP {α : Type} (p : α → Bool) (l : List α) : Int := match l.findIdx? p with | none => -1 | some k => k
theorem idxP_at {α : Type} {p : α → Bool} {l : List α} {k : Nat} (h : k < l.length) (hp : p l[k] = true) (hb : ∀ j (hj : j < l.length), j < k → p l[j] = false) : idxP p l = k := by
  unfold idxP
  rw [List.findIdx?_eq_some_iff_getElem.2 ⟨h, hp, fun j hj => by rw [hb j (by omega) hj]; simp⟩]
theorem idxP_no {α : Type} {p : α → Bool} {l : List α} (h : ∀ j (hj : j < l.length), p l[j] = false) : idxP p l = -1 := by
  unfold idxP
  rw [List.findIdx?_eq_none_iff.2 (fun x hx => by obtain ⟨j, hj, rfl⟩ := List.getElem_of_mem hx; exact h j hj)]
theorem idxP_nn {α : Type} {p : α → Bool} {l : List α} : 0 ≤ idxP p l ↔ ∃ x ∈ l, p x = true := by
  unfold idxP
  cases h : l.findIdx? p with
  | none =>
    rw [List.findIdx?_eq_none_iff] at h
    constructor
    · intro h2; exact absurd h2 (by decide)
    · rintro ⟨x, hx, h2⟩
      rw [h x hx] at h2; cases h2
  | some k =>
    obtain ⟨h1, h2, _⟩ := List.findIdx?_eq_some_iff_getElem.1 h
    constructor
    · intro _; exact ⟨_, List.getElem_mem h1, h2⟩
    · intro _; exact Int.natCast_nonneg k
end Go.Hog
