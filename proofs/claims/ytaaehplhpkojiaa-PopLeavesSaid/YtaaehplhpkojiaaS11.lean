/- Plain words: who has a score. -/
import Derived.Test.YtaaehplhpkojiaaS10
set_option linter.unusedVariables false
set_option linter.unusedSimpArgs false
namespace Go.Hog
open Classical in
theorem sc_lt {a : List Item} {s : Str} (hs : s ∈ names a) : sc a s < a.length := by
  rw [sc_eq]
  obtain ⟨x, hx, rfl⟩ := List.mem_map.1 hs
  refine Nat.lt_of_le_of_ne (List.length_filter_le _ _) fun e => ?_
  have := (List.length_filter_eq_length_iff.1 e) x hx
  simp at this
theorem rch_other {a : List Item} {n s : Str} (h : Rch a [n] s) : n ≠ s → ∃ y ∈ a, y.name ≠ s ∧ s ∈ y.refs := by
  induction h with
  | @base s h1 h2 =>
    intro hne
    rw [List.mem_singleton] at h1
    exact absurd h1.symm hne
  | @step s r x h1 h2 h3 h4 ih =>
    intro hne
    by_cases e : s = r
    · subst e; exact ih hne
    · exact ⟨x, getI_mem h2, by rw [getI_name h2]; exact e, h3⟩
open Classical in
theorem sc_pos {a : List Item} (hnd : (names a).Nodup) {s : Str} (hs : s ∈ names a) : 0 < sc a s ↔ ∃ y ∈ a, y.name ≠ s ∧ s ∈ y.refs := by
  rw [sc_eq, List.length_pos_iff_exists_mem]
  constructor
  · rintro ⟨x, hx⟩
    have h2 := (List.mem_filter.1 hx).2
    simp only [decide_eq_true_eq] at h2
    exact rch_other h2.2 h2.1
  · rintro ⟨y, hy, hne, hr⟩
    refine ⟨y, List.mem_filter.2 ⟨hy, ?_⟩⟩
    simp only [decide_eq_true_eq]
    exact ⟨hne, .step (.base (by simp) (by rw [getI_of hnd hy]; rfl)) (getI_of hnd hy) hr (getI_some.2 hs)⟩
theorem sc_pos_at {a : List Item} (hnd : (names a).Nodup) {i : Nat} (hi : i < a.length) : 0 < sc a a[i].name ↔ ∃ j, ∃ (hj : j < a.length), j ≠ i ∧ a[i].name ∈ a[j].refs := by
  rw [sc_pos hnd (List.mem_map.2 ⟨a[i], List.getElem_mem hi, rfl⟩)]
  constructor
  · rintro ⟨y, hy, hne, hr⟩
    obtain ⟨j, hj, rfl⟩ := List.getElem_of_mem hy
    exact ⟨j, hj, fun e => by subst e; exact hne rfl, hr⟩
  · rintro ⟨j, hj, hne, hr⟩
    exact ⟨a[j], List.getElem_mem hj, fun e => hne ((names_ne hnd hi hj).1 e).symm, hr⟩
theorem sc_more_e {a : List Item} {x0 : Item} (hnd : (names a).Nodup) (hn : x0.name ∉ names a) (hr : ∀ x ∈ a, x0.name ∉ x.refs) {s : Str} (hs : s ∈ names a) : ∃ e : Nat, e ≤ 1 ∧ sc (a ++ [x0]) s = sc a s + e ∧ (s ∈ x0.refs → e = 1) := by
  classical
  have h := sc_more hnd hn hr hs
  by_cases hR : Rch (a ++ [x0]) [x0.name] s
  · rw [if_pos hR] at h
    exact ⟨1, Nat.le_refl _, h, fun _ => rfl⟩
  · rw [if_neg hR] at h
    exact ⟨0, by omega, h, fun h2 => absurd (rch_ref hn hs h2) hR⟩
end Go.Hog
