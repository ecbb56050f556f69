/- Plain facts: where one text stands in another; which names' hashes are found. -/
import Derived.Test.YtdidefhdcinecaaGreatDoorF30
import Derived.Test.YtdidefhdcinecaaGreatDoorFY
import Derived.Lib.IndexLaws
set_option linter.unusedVariables false
set_option linter.unusedSimpArgs false
namespace Go.Hog
def hasL (s u : Str) : Prop := u ≠ [] ∧ 0 ≤ Lib.index s u
instance (s u : Str) : Decidable (hasL s u) := by unfold hasL; infer_instance
def occs (s u : Str) (k : Nat) : List Int := ((List.range k).filter (Lib.occAt s u)).map (fun i : Nat => (i : Int))
def placesI (s u : Str) : List Int := if u = [] then [] else occs s u (s.length + 1)
theorem occ_drop (s u : Str) (a j : Nat) : Lib.occAt (s.drop a) u j = Lib.occAt s u (a + j) := by
  unfold Lib.occAt; rw [List.drop_drop]
theorem least {p : Nat → Bool} : ∀ j, p j = true → ∃ k, k ≤ j ∧ p k = true ∧ ∀ i, i < k → p i = false := by
  intro j
  induction j using Nat.strongRecOn with
  | _ j ih =>
    intro h
    by_cases hex : ∃ i, i < j ∧ p i = true
    · obtain ⟨i, hi, hp⟩ := hex
      obtain ⟨k, hk, h1, h2⟩ := ih i hi hp
      exact ⟨k, by omega, h1, h2⟩
    · refine ⟨j, Nat.le_refl _, h, fun i hi => ?_⟩
      cases e : p i with
      | false => rfl
      | true => exact absurd ⟨i, hi, e⟩ hex
theorem index_neg {s u : Str} (h : Lib.index s u < 0) : ∀ j, j ≤ s.length → Lib.occAt s u j = false := by
  intro j hj
  cases hb : Lib.occAt s u j with
  | false => rfl
  | true =>
    obtain ⟨k, hk, h1, h2⟩ := least (p := Lib.occAt s u) j hb
    have := Lib.index_first (show k ≤ s.length by omega) h1 h2
    omega
theorem index_pos {s u : Str} {i : Nat} (h : Lib.index s u = i) : i ≤ s.length ∧ Lib.occAt s u i = true ∧ ∀ j, j < i → Lib.occAt s u j = false := by
  by_cases hex : ∃ j, j ≤ s.length ∧ Lib.occAt s u j = true
  · obtain ⟨j, hj, hb⟩ := hex
    obtain ⟨k, hk, h1, h2⟩ := least (p := Lib.occAt s u) j hb
    have h3 := Lib.index_first (show k ≤ s.length by omega) h1 h2
    have : k = i := by omega
    subst this
    exact ⟨by omega, h1, h2⟩
  · have h3 := Lib.index_none (s := s) (sub := u) fun j hj => by
      cases e : Lib.occAt s u j with
      | false => rfl
      | true => exact absurd ⟨j, hj, e⟩ hex
    omega
theorem filter_none {p : Nat → Bool} (a : Nat) : ∀ d, (∀ j, a ≤ j → j < a + d → p j = false) → (List.range (a + d)).filter p = (List.range a).filter p
  | 0, _ => rfl
  | d + 1, h => by
    rw [show a + (d + 1) = (a + d) + 1 by omega, List.range_succ, List.filter_append, filter_none a d fun j h1 h2 => h j h1 (by omega), List.filter_cons_of_neg (by rw [h (a + d) (by omega) (by omega)]; simp)]
    simp
theorem occs_len (s u : Str) (k : Nat) : (occs s u k).length ≤ k := by
  unfold occs
  rw [List.length_map]
  exact Nat.le_trans (List.length_filter_le _ _) (by simp)
theorem occs_none {s u : Str} {a b : Nat} (hab : a ≤ b) (h : ∀ j, a ≤ j → j < b → Lib.occAt s u j = false) : occs s u b = occs s u a := by
  obtain ⟨d, rfl⟩ := Nat.exists_eq_add_of_le hab
  unfold occs
  rw [filter_none a d h]
theorem occs_hit {s u : Str} {a : Nat} (h : Lib.occAt s u a = true) : occs s u (a + 1) = occs s u a ++ [(a : Int)] := by
  unfold occs
  rw [List.range_succ, List.filter_append, List.filter_cons_of_pos (by rw [h]), List.map_append]
  rfl
theorem occs_skip {s u : Str} {a : Nat} (h : Lib.occAt s u a = false) : occs s u (a + 1) = occs s u a := occs_none (Nat.le_succ a) fun j h1 h2 => by
  have : j = a := by omega
  subst this; exact h
theorem occ_far {s u : Str} (hu : u ≠ []) {j : Nat} (h : s.length < j + u.length) : Lib.occAt s u j = false := by
  cases e : Lib.occAt s u j with
  | false => rfl
  | true =>
    rcases Lib.occAt_room e with h2 | h2
    · omega
    · exact absurd h2 hu
theorem occ_iff {s u : Str} (hu : u ≠ []) {j : Nat} : Lib.occAt s u j = true ↔ j + u.length ≤ s.length ∧ (s.drop j).take u.length = u := by
  constructor
  · intro h
    rcases Lib.occAt_room h with h2 | h2
    · exact ⟨h2, by rw [Lib.occAt_iff_take s u j h2] at h; simpa using h⟩
    · exact absurd h2 hu
  · rintro ⟨h1, h2⟩
    rw [Lib.occAt_iff_take s u j h1, h2]; simp
theorem mem_occs {s u : Str} {k : Nat} {x : Int} : x ∈ occs s u k ↔ ∃ j : Nat, x = j ∧ j < k ∧ Lib.occAt s u j = true := by
  unfold occs
  rw [List.mem_map]
  constructor
  · rintro ⟨j, hj, rfl⟩
    rw [List.mem_filter, List.mem_range] at hj
    exact ⟨j, rfl, hj.1, hj.2⟩
  · rintro ⟨j, rfl, h1, h2⟩
    exact ⟨j, by rw [List.mem_filter, List.mem_range]; exact ⟨h1, h2⟩, rfl⟩
theorem mem_places {s u : Str} {x : Int} : x ∈ placesI s u ↔ ∃ j : Nat, x = j ∧ u ≠ [] ∧ j + u.length ≤ s.length ∧ (s.drop j).take u.length = u := by
  unfold placesI
  split
  · rename_i h
    constructor
    · intro h2; cases h2
    · rintro ⟨_, _, h2, _⟩; exact absurd h h2
  · rename_i h
    rw [mem_occs]
    constructor
    · rintro ⟨j, rfl, h1, h2⟩
      exact ⟨j, rfl, h, (occ_iff h).1 h2⟩
    · rintro ⟨j, rfl, _, h2, h3⟩
      exact ⟨j, rfl, by omega, (occ_iff h).2 ⟨h2, h3⟩⟩
theorem hasL_iff {s u : Str} : hasL s u ↔ u ≠ [] ∧ ∃ j : Nat, j + u.length ≤ s.length ∧ (s.drop j).take u.length = u := by
  unfold hasL
  constructor
  · rintro ⟨h1, h2⟩
    obtain ⟨i, hi⟩ : ∃ i : Nat, Lib.index s u = i := ⟨(Lib.index s u).toNat, by omega⟩
    exact ⟨h1, i, (occ_iff h1).1 (index_pos hi).2.1⟩
  · rintro ⟨h1, j, h2⟩
    refine ⟨h1, ?_⟩
    have h3 := (occ_iff h1).2 h2
    by_cases e : Lib.index s u < 0
    · have := index_neg e j (by have := h2.1; omega)
      rw [this] at h3; cases h3
    · omega
theorem places_has {s u : Str} : 0 < (placesI s u).length ↔ hasL s u := by
  rw [List.length_pos_iff_exists_mem, hasL_iff]
  constructor
  · rintro ⟨x, hx⟩
    obtain ⟨j, _, h1, h2⟩ := mem_places.1 hx
    exact ⟨h1, j, h2⟩
  · rintro ⟨h1, j, h2⟩
    exact ⟨j, mem_places.2 ⟨j, rfl, h1, h2⟩⟩
theorem places_len (s u : Str) : (placesI s u).length ≤ s.length + 1 := by
  unfold placesI
  split
  · simp
  · exact occs_len _ _ _
def foundL (names : List Str) (p : Str → Bool) : List Str := dd (sortS (names.filter fun n => decide (nameOk n) && p (hashL n)))
theorem foundL_mem {names : List Str} {p : Str → Bool} {s : Str} : s ∈ foundL names p ↔ s ∈ names ∧ nameOk s ∧ p (hashL s) = true := by
  unfold foundL
  rw [dd_mem (sortS_sorted _), sortS_mem, List.mem_filter]
  simp
theorem foundL_strict (names : List Str) (p : Str → Bool) : (foundL names p).Pairwise (· < ·) := dd_sorted (sortS_sorted _)
theorem strict_uniq {l m : List Str} (hl : l.Pairwise (· < ·)) (hm : m.Pairwise (· < ·)) (h : ∀ s, s ∈ l ↔ s ∈ m) : l = m :=
  sorted_uniq ((List.perm_ext_iff_of_nodup (strict_nodup hl) (strict_nodup hm)).2 h) (strict_sorted hl) (strict_sorted hm)
theorem foundL_eq {names : List Str} {p : Str → Bool} {l : List Str} (hl : l.Pairwise (· < ·)) (h : ∀ s, s ∈ l ↔ s ∈ names ∧ nameOk s ∧ p (hashL s) = true) : l = foundL names p :=
  strict_uniq hl (foundL_strict _ _) fun s => by rw [h, foundL_mem]
theorem ddN_len (l : List Str) : (dd l).length ≤ l.length := ddN_le l _
theorem foundL_len (names : List Str) (p : Str → Bool) : (foundL names p).length ≤ names.length := by
  unfold foundL
  refine Nat.le_trans (ddN_len _) ?_
  rw [sortS_len]
  exact List.length_filter_le _ _
def treeHas (t : List Node) (h : Str) : Bool := decide (∃ x ∈ t, hasL x.data h)
def treeL (t : List Node) (names : List Str) : List Str := foundL names (treeHas t)
def textL (s : Str) (names : List Str) : List Str := foundL names fun h => decide (hasL s h)
end Go.Hog
