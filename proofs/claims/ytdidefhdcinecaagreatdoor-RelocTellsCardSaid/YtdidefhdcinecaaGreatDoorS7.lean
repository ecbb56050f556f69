/- Plain words: what is reached. -/
import Derived.Test.YtdidefhdcinecaaGreatDoorFY
import Derived.Test.YtdidefhdcinecaaGreatDoorS1
set_option linter.unusedVariables false
set_option linter.unusedSimpArgs false
namespace Go.Hog
/-- What is reached from some names, going on over what is there. -/
inductive Rch (a : List Item) (S : List Str) : Str → Prop
  | base {s : Str} : s ∈ S → (getI a s).isSome = true → Rch a S s
  | step {s r : Str} {x : Item} : Rch a S s → getI a s = some x → r ∈ x.refs → (getI a r).isSome = true → Rch a S r
theorem getI_name {a : List Item} {s : Str} {x : Item} (h : getI a s = some x) : x.name = s := by
  have := List.find?_some h
  simpa using this
theorem getI_mem {a : List Item} {s : Str} {x : Item} (h : getI a s = some x) : x ∈ a := List.mem_of_find?_eq_some h
theorem getI_some {a : List Item} {s : Str} : (getI a s).isSome = true ↔ s ∈ names a := by
  cases h : getI a s with
  | none =>
    simp only [Option.isSome_none, Bool.false_eq_true, false_iff]
    intro hs
    obtain ⟨x, hx, e⟩ := List.mem_map.1 hs
    exact getI_none.1 h x hx e
  | some x =>
    simp only [Option.isSome_some, true_iff]
    exact List.mem_map.2 ⟨x, getI_mem h, getI_name h⟩
theorem Rch.there {a : List Item} {S : List Str} {s : Str} (h : Rch a S s) : (getI a s).isSome = true := by
  cases h with
  | base _ h => exact h
  | step _ _ _ h => exact h
theorem Rch.names {a : List Item} {S : List Str} {s : Str} (h : Rch a S s) : s ∈ names a := getI_some.1 h.there
open Classical in
noncomputable def reachL (a : List Item) (S : List Str) : List Str := (dd (sortS (names a))).filter fun s => decide (Rch a S s)
theorem reachL_mem {a : List Item} {S : List Str} {s : Str} : s ∈ reachL a S ↔ Rch a S s := by
  unfold reachL
  rw [List.mem_filter, dd_mem (sortS_sorted _), sortS_mem]
  simp only [decide_eq_true_eq]
  exact ⟨fun h => h.2, fun h => ⟨h.names, h⟩⟩
theorem reachL_sorted (a : List Item) (S : List Str) : (reachL a S).Pairwise (· < ·) := (dd_sorted (sortS_sorted _)).sublist List.filter_sublist
theorem strict_uniq {l m : List Str} (h1 : l.Pairwise (· < ·)) (h2 : m.Pairwise (· < ·)) (h : ∀ s, s ∈ l ↔ s ∈ m) : l = m := by
  refine sorted_uniq ?_ (strict_sorted h1) (strict_sorted h2)
  exact (List.perm_ext_iff_of_nodup (strict_nodup h1) (strict_nodup h2)).2 h
theorem sortS_strict {l : List Str} (h : l.Nodup) : (sortS l).Pairwise (· < ·) := by
  have hs := sortS_sorted l
  have hn : (sortS l).Nodup := (sortS_perm l).nodup_iff.2 h
  refine List.pairwise_iff_getElem.2 fun i j hi hj hij => ?_
  have h1 := List.pairwise_iff_getElem.1 hs i j hi hj hij
  have h2 := List.pairwise_iff_getElem.1 hn i j hi hj hij
  exact Decidable.byContradiction fun h3 => h2 (strEq h3 h1)
/-- Where a search stands. -/
structure RI (a : List Item) (S todo found : List Str) : Prop where
  nd : found.Nodup
  sub : ∀ t ∈ found, Rch a S t
  todoR : ∀ t ∈ todo, (getI a t).isSome = true → Rch a S t
  closS : ∀ s ∈ S, (getI a s).isSome = true → s ∈ found ∨ s ∈ todo
  closR : ∀ s ∈ found, ∀ x, getI a s = some x → ∀ r ∈ x.refs, (getI a r).isSome = true → r ∈ found ∨ r ∈ todo
theorem RI.start (a : List Item) (S : List Str) : RI a S S [] :=
  ⟨List.nodup_nil, fun _ h => (by cases h), fun t h1 h2 => Rch.base h1 h2, fun s h1 _ => Or.inr h1, fun _ h => (by cases h)⟩
theorem RI.len {a : List Item} {S todo found : List Str} (h : RI a S todo found) : found.length ≤ a.length := by
  have := h.nd.length_le_of_subset (l₂ := names a) (fun s hs => (h.sub s hs).names)
  simpa [names] using this
theorem RI.skip {a : List Item} {S todo found : List Str} {s : Str} (h : RI a S (s :: todo) found) (hs : (getI a s).isSome = true → s ∈ found) : RI a S todo found := by
  refine ⟨h.nd, h.sub, fun t ht => h.todoR t (List.mem_cons_of_mem _ ht), fun t ht hi => ?_, fun t ht x hx r hr hi => ?_⟩
  · rcases h.closS t ht hi with h1 | h1
    · exact .inl h1
    · rcases List.mem_cons.1 h1 with rfl | h1
      · exact .inl (hs hi)
      · exact .inr h1
  · rcases h.closR t ht x hx r hr hi with h1 | h1
    · exact .inl h1
    · rcases List.mem_cons.1 h1 with rfl | h1
      · exact .inl (hs hi)
      · exact .inr h1
theorem RI.take {a : List Item} {S todo found : List Str} {s : Str} {x : Item} (h : RI a S (s :: todo) found) (hx : getI a s = some x) (hn : s ∉ found) : RI a S (todo ++ x.refs) (found ++ [s]) := by
  have hs : Rch a S s := h.todoR s (by simp) (by rw [hx]; rfl)
  refine ⟨?_, fun t ht => ?_, fun t ht hi => ?_, fun t ht hi => ?_, fun t ht y hy r hr hi => ?_⟩
  · refine List.nodup_append.2 ⟨h.nd, by simp, fun p hp q hq e => ?_⟩
    rw [List.mem_singleton] at hq
    subst hq e
    exact hn hp
  · rcases List.mem_append.1 ht with ht | ht
    · exact h.sub t ht
    · rw [List.mem_singleton] at ht; subst ht; exact hs
  · rcases List.mem_append.1 ht with ht | ht
    · exact h.todoR t (List.mem_cons_of_mem _ ht) hi
    · exact .step hs hx ht hi
  · rcases h.closS t ht hi with h1 | h1
    · exact .inl (List.mem_append_left _ h1)
    · rcases List.mem_cons.1 h1 with rfl | h1
      · exact .inl (by simp)
      · exact .inr (List.mem_append_left _ h1)
  · rcases List.mem_append.1 ht with ht | ht
    · rcases h.closR t ht y hy r hr hi with h1 | h1
      · exact .inl (List.mem_append_left _ h1)
      · rcases List.mem_cons.1 h1 with rfl | h1
        · exact .inl (by simp)
        · exact .inr (List.mem_append_left _ h1)
    · rw [List.mem_singleton] at ht
      subst ht
      rw [hx] at hy
      injection hy with hy
      subst hy
      exact .inr (List.mem_append_right _ hr)
theorem RI.mem {a : List Item} {S found : List Str} (h : RI a S [] found) (s : Str) : s ∈ found ↔ Rch a S s := by
  refine ⟨h.sub s, fun hs => ?_⟩
  induction hs with
  | base h1 h2 =>
    rcases h.closS _ h1 h2 with h3 | h3
    · exact h3
    · cases h3
  | step h1 h2 h3 h4 ih =>
    rcases h.closR _ ih _ h2 _ h3 h4 with h5 | h5
    · exact h5
    · cases h5
theorem RI.fin {a : List Item} {S found : List Str} (h : RI a S [] found) : sortS found = reachL a S :=
  strict_uniq (sortS_strict h.nd) (reachL_sorted a S) fun s => by rw [sortS_mem, h.mem, reachL_mem]
/-- The search, to be run. -/
def runR (a : List Item) : Nat → List Str → List Str → Option (List Str)
  | _, [], found => some found
  | 0, _ :: _, _ => none
  | k + 1, s :: todo, found => match getI a s with
    | none => runR a k todo found
    | some x => if s ∈ found then runR a k todo found else runR a k (todo ++ x.refs) (found ++ [s])
theorem runR_spec {a : List Item} {S : List Str} : ∀ (k : Nat) (todo found r : List Str), RI a S todo found → runR a k todo found = some r → RI a S [] r
  | k, [], found, r, h, e => by
    cases k <;> (simp only [runR, Option.some.injEq] at e; subst e; exact h)
  | 0, _ :: _, _, _, _, e => by simp [runR] at e
  | k + 1, s :: todo, found, r, h, e => by
    simp only [runR] at e
    cases hx : getI a s with
    | none =>
      rw [hx] at e
      exact runR_spec k _ _ _ (h.skip (fun hi => by rw [hx] at hi; cases hi)) e
    | some x =>
      rw [hx] at e
      simp only at e
      split at e
      · rename_i hin
        exact runR_spec k _ _ _ (h.skip (fun _ => hin)) e
      · rename_i hin
        exact runR_spec k _ _ _ (h.take hx hin) e
theorem reachL_run {a : List Item} {S r : List Str} (k : Nat) (h : runR a k S [] = some r) : reachL a S = sortS r := (runR_spec k S [] r (.start a S) h).fin.symm
end Go.Hog
