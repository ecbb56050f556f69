/- Plain words: one item more, whom nobody refers to. -/
import Derived.Test.YtaaehplhpkojiaaS9
set_option linter.unusedVariables false
set_option linter.unusedSimpArgs false
namespace Go.Hog
section
variable {a : List Item} {x0 : Item}
theorem getI_app (s : Str) (h : s ≠ x0.name) : getI (a ++ [x0]) s = getI a s := by
  unfold getI
  rw [List.find?_append]
  have : List.find? (fun i : Item => i.name == s) [x0] = none := by
    simp [Ne.symm h]
  rw [this, Option.or_none]
theorem getI_more (hn : x0.name ∉ names a) : getI (a ++ [x0]) x0.name = some x0 := by
  have h1 : getI a x0.name = none := by
    cases h : getI a x0.name with
    | none => rfl
    | some y => exact absurd (getI_some.1 (by rw [h]; rfl)) hn
  unfold getI at h1 ⊢
  rw [List.find?_append, h1]
  simp
theorem rch_app {S : List Str} {s : Str} (hn : x0.name ∉ names a) (h : Rch a S s) : Rch (a ++ [x0]) S s := by
  have hg : ∀ s x, getI a s = some x → getI (a ++ [x0]) s = some x := fun s x h => by
    have : s ≠ x0.name := fun e => hn (e ▸ getI_some.1 (by rw [h]; rfl))
    rw [getI_app s this, h]
  have hi : ∀ s, (getI a s).isSome = true → (getI (a ++ [x0]) s).isSome = true := fun s h => by
    obtain ⟨x, hx⟩ := Option.isSome_iff_exists.1 h
    rw [hg s x hx]; rfl
  induction h with
  | base h1 h2 => exact .base h1 (hi _ h2)
  | step h1 h2 h3 h4 ih => exact .step ih (hg _ _ h2) h3 (hi _ h4)
theorem rch_old {s : Str} {S : List Str} (hS : x0.name ∉ S) (hr : ∀ x ∈ a, x0.name ∉ x.refs) (h : Rch (a ++ [x0]) S s) : s ≠ x0.name ∧ Rch a S s := by
  induction h with
  | @base s h1 h2 =>
    have hne : s ≠ x0.name := fun e => hS (e ▸ h1)
    exact ⟨hne, .base h1 (by rwa [getI_app s hne] at h2)⟩
  | @step s r x h1 h2 h3 h4 ih =>
    rw [getI_app s ih.1] at h2
    have hne : r ≠ x0.name := fun e => hr x (getI_mem h2) (e ▸ h3)
    exact ⟨hne, .step ih.2 h2 h3 (by rwa [getI_app r hne] at h4)⟩
theorem names_more (hnd : (names a).Nodup) (hn : x0.name ∉ names a) : (names (a ++ [x0])).Nodup := by
  unfold names at *
  rw [List.map_append]
  refine List.nodup_append.2 ⟨hnd, by simp, fun p hp q hq e => ?_⟩
  simp at hq
  subst hq
  exact hn (e ▸ hp)
open Classical in
theorem sc_more (hnd : (names a).Nodup) (hn : x0.name ∉ names a) (hr : ∀ x ∈ a, x0.name ∉ x.refs) {s : Str} (hs : s ∈ names a) : sc (a ++ [x0]) s = sc a s + (if Rch (a ++ [x0]) [x0.name] s then 1 else 0) := by
  have hne : x0.name ≠ s := fun e => hn (e ▸ hs)
  rw [sc_eq, sc_eq, List.filter_append, List.length_append]
  congr 1
  · refine congrArg List.length (List.filter_congr fun x hx => ?_)
    have hx2 : x0.name ∉ [x.name] := fun e => hn (by rw [List.mem_singleton] at e; rw [e]; exact List.mem_map.2 ⟨x, hx, rfl⟩)
    have : Rch (a ++ [x0]) [x.name] s ↔ Rch a [x.name] s := ⟨fun h => (rch_old hx2 hr h).2, fun h => rch_app hn h⟩
    simp only [this]
  · by_cases h : Rch (a ++ [x0]) [x0.name] s
    · rw [if_pos h]
      simp [h, hne]
    · rw [if_neg h]
      simp [h]
open Classical in
theorem sc_none (hn : x0.name ∉ names a) (hr : ∀ x ∈ a, x0.name ∉ x.refs) : sc (a ++ [x0]) x0.name = 0 := by
  rw [sc_eq]
  refine List.length_eq_zero_iff.2 (List.filter_eq_nil_iff.2 fun x hx => ?_)
  simp only [decide_eq_true_eq]
  rintro ⟨h1, h2⟩
  rcases List.mem_append.1 hx with hx | hx
  · have hx2 : x0.name ∉ [x.name] := fun e => hn (by rw [List.mem_singleton] at e; rw [e]; exact List.mem_map.2 ⟨x, hx, rfl⟩)
    exact (rch_old hx2 hr h2).1 rfl
  · rw [List.mem_singleton] at hx
    subst hx
    exact h1 rfl
theorem rch_self (hn : x0.name ∉ names a) : Rch (a ++ [x0]) [x0.name] x0.name := .base (by simp) (by rw [getI_more hn]; rfl)
theorem rch_ref (hn : x0.name ∉ names a) {s : Str} (hs : s ∈ names a) (h : s ∈ x0.refs) : Rch (a ++ [x0]) [x0.name] s :=
  .step (rch_self hn) (getI_more hn) h (getI_some.2 (by unfold names at *; rw [List.map_append]; exact List.mem_append_left _ hs))
end
/-- The rank with an item more that refers to all. -/
theorem rank_more {a : List Item} {n : Str} (hnd : (names a).Nodup) (hn : n ∉ names a) (hr : ∀ x ∈ a, n ∉ x.refs) : rankL (a ++ [⟨n, names a, []⟩]) = rankL a ++ [n] := by
  have hn' : (⟨n, names a, []⟩ : Item).name ∉ names a := hn
  have hr' : ∀ x ∈ a, (⟨n, names a, []⟩ : Item).name ∉ x.refs := hr
  have hnd2 := names_more hnd hn'
  unfold rankL
  rw [if_pos hnd, if_pos hnd2]
  have hs1 : ∀ x ∈ a, plOf (a ++ [⟨n, names a, []⟩]) x = ((plOf a x).1 + 1, (plOf a x).2) := fun x hx => by
    have hm : x.name ∈ names a := List.mem_map.2 ⟨x, hx, rfl⟩
    unfold plOf
    rw [sc_more hnd hn' hr' hm, if_pos (rch_ref hn' hm hm)]
    rfl
  have hs0 : plOf (a ++ [⟨n, names a, []⟩]) ⟨n, names a, []⟩ = (0, n) := by
    unfold plOf
    have := sc_none hn' hr'
    show ((sc _ n : Int), n) = _
    rw [show sc (a ++ [⟨n, names a, []⟩]) n = 0 from this]
    rfl
  have e : (rankP a).map (fun p => (p.1 + 1, p.2)) ++ [((0 : Int), n)] = rankP (a ++ [⟨n, names a, []⟩]) := by
    refine rankP_of ?_ ?_
    · rw [List.map_append, List.map_cons, List.map_nil, hs0]
      refine List.Perm.append_right _ ?_
      rw [List.map_congr_left hs1]
      have := (rankP_perm a).map (fun p : Pl => (p.1 + 1, p.2))
      rw [List.map_map] at this
      exact this
    · refine List.pairwise_append.2 ⟨?_, List.pairwise_singleton _ _, fun p hp q hq => ?_⟩
      · refine List.pairwise_map.2 ((sortBy_sorted plSO (a.map (plOf a))).imp fun {p q} h h2 => h ?_)
        unfold plLt Abv at *
        rcases h2 with h2 | ⟨h2, h3⟩
        · exact .inl (by simpa using h2)
        · exact .inr ⟨by simpa using h2, h3⟩
      · rw [List.mem_singleton] at hq
        subst hq
        obtain ⟨p0, hp0, rfl⟩ := List.mem_map.1 hp
        obtain ⟨x, hx, rfl⟩ := List.mem_map.1 ((rankP_perm a).mem_iff.1 hp0)
        rintro (h | ⟨h, _⟩)
        · have : ((sc a x.name : Nat) : Int) + 1 < 0 := h
          omega
        · have : (0 : Int) = ((sc a x.name : Nat) : Int) + 1 := h
          omega
  rw [← e, List.map_append, List.map_map]
  rfl
end Go.Hog
