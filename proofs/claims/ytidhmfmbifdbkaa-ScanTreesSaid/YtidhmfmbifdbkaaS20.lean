/- Plain facts: what a tree's names are, counted; paths do not count; a hash put in is found. -/
import Derived.Test.YtidhmfmbifdbkaaS19
import Derived.Test.YtidhmfmbifdbkaaF33
set_option linter.unusedVariables false
set_option linter.unusedSimpArgs false
namespace Go.Hog
open Go.RowKit Rp
theorem treeHas_iff {t : List Node} {h : Str} : treeHas t h = true ↔ ∃ x ∈ t, hasL x.data h := by
  unfold treeHas
  exact decide_eq_true_iff
theorem treeHas_congr {t u : List Node} (h : t.map (·.data) = u.map (·.data)) : treeHas t = treeHas u := by
  have key : ∀ (l : List Node) (s : Str), (∃ x ∈ l, hasL x.data s) ↔ ∃ d ∈ l.map (·.data), hasL d s := fun l s =>
    ⟨fun ⟨x, hx, h⟩ => ⟨_, List.mem_map.2 ⟨x, hx, rfl⟩, h⟩, fun ⟨d, hd, h⟩ => by obtain ⟨x, hx, rfl⟩ := List.mem_map.1 hd; exact ⟨x, hx, h⟩⟩
  funext s
  rw [Bool.eq_iff_iff, treeHas_iff, treeHas_iff, key, key, h]
theorem treeL_congr {t u : List Node} (h : t.map (·.data) = u.map (·.data)) (names : List Str) : treeL t names = treeL u names := by
  unfold treeL
  rw [treeHas_congr h]
theorem treeL_mem {t : List Node} {names : List Str} {s : Str} : s ∈ treeL t names ↔ s ∈ names ∧ treeHas t (hashL s) = true := by
  unfold treeL
  rw [foundL_mem]
  exact ⟨fun ⟨h1, _, h2⟩ => ⟨h1, h2⟩, fun ⟨h1, h2⟩ => ⟨h1, treeHas_ok h2, h2⟩⟩
/-- How many names are counted, of the first k. -/
def CI (t : List Node) (names : List Str) (k n : Nat) : Prop := ∃ D : List Str, D.length = n ∧ D.Nodup ∧ ∀ s, s ∈ D ↔ s ∈ names.take k ∧ treeHas t (hashL s) = true
theorem CI.start (t : List Node) (names : List Str) : CI t names 0 0 := ⟨[], rfl, List.nodup_nil, fun s => by simp⟩
theorem CI.hit {t : List Node} {names : List Str} {k n : Nat} (h : CI t names k n) (hk : k < names.length) (h1 : treeHas t (hashL names[k]) = true) (h2 : names[k] ∉ names.take k) : CI t names (k + 1) (n + 1) := by
  obtain ⟨D, h3, h4, h5⟩ := h
  refine ⟨names[k] :: D, by simp [h3], List.nodup_cons.2 ⟨fun e => h2 ((h5 _).1 e).1, h4⟩, fun s => ?_⟩
  rw [List.mem_cons, h5, (List.take_append_getElem hk).symm, List.mem_append, List.mem_singleton]
  constructor
  · rintro (rfl | ⟨h6, h7⟩)
    · exact ⟨.inr rfl, h1⟩
    · exact ⟨.inl h6, h7⟩
  · rintro ⟨h6 | h6, h7⟩
    · exact .inr ⟨h6, h7⟩
    · exact .inl h6
theorem CI.miss {t : List Node} {names : List Str} {k n : Nat} (h : CI t names k n) (hk : k < names.length) (h1 : treeHas t (hashL names[k]) = false ∨ names[k] ∈ names.take k) : CI t names (k + 1) n := by
  obtain ⟨D, h3, h4, h5⟩ := h
  refine ⟨D, h3, h4, fun s => ?_⟩
  rw [h5, (List.take_append_getElem hk).symm, List.mem_append, List.mem_singleton]
  constructor
  · rintro ⟨h6, h7⟩; exact ⟨.inl h6, h7⟩
  · rintro ⟨h6 | rfl, h7⟩
    · exact ⟨h6, h7⟩
    · rcases h1 with h1 | h1
      · rw [h1] at h7; cases h7
      · exact ⟨h1, h7⟩
theorem CI.fin {t : List Node} {names : List Str} {n : Nat} (h : CI t names names.length n) : (treeL t names).length = n := by
  obtain ⟨D, h3, h4, h5⟩ := h
  rw [← h3]
  refine List.Perm.length_eq ((List.perm_ext_iff_of_nodup (strict_nodup (foundL_strict _ _)) h4).2 fun s => ?_)
  rw [h5, List.take_length]
  exact treeL_mem
theorem put_has {d h : Str} {p : Nat} (hp : p ≤ d.length) (hh : h ≠ []) : hasL (d.take p ++ h ++ d.drop p) h := by
  refine hasL_iff.2 ⟨hh, p, ?_, ?_⟩
  · rw [List.length_append, List.length_append, List.length_take, List.length_drop]; omega
  · have e : (d.take p).length = p := by rw [List.length_take]; omega
    have e2 : (d.take p ++ h ++ d.drop p).drop p = h ++ d.drop p := by
      rw [List.append_assoc]
      conv => lhs; arg 1; rw [← e]
      exact List.drop_left
    rw [e2, List.take_left]
def okN (x : Node) : Prop := x.path.length ≤ LB ∧ x.data.length ≤ LB ∧ -9223372036854775808 ≤ x.kind ∧ x.kind ≤ 9223372036854775807
theorem nodes_rw {g : View} : ∀ {l : List Node}, (∀ x ∈ l, okN x) → Rw g l (l.flatMap nodeC)
  | [], _ => Rw.nil g
  | x :: l, h => by
    obtain ⟨h1, h2, h3, h4⟩ := h x (List.mem_cons_self ..)
    exact (Rw.one (show rp g x (nodeC x) from ⟨rfl, h1, h2, h3, h4⟩)).append (nodes_rw (l := l) fun y hy => h y (List.mem_cons_of_mem _ hy))
end Go.Hog
