/- F32 FT FO F33, in one text. -/
import Derived.Test.YtdidefhdcinecaaDoorF31
import Derived.Test.YtdidefhdcinecaaDoorMD
import Derived.Test.YtdidefhdcinecaaDoorMG
import Derived.Test.YtdidefhdcinecaaDoorMF
set_option linter.unusedVariables false
set_option linter.unusedSimpArgs false
set_option maxRecDepth 100000
set_option maxHeartbeats 1000000
namespace Go.Hog
open Go.RowKit Rp Go.Proofs
theorem ins_strict {out : List Str} {x : Str} {k : Nat} (h : out.Pairwise (· < ·)) (hk : k ≤ out.length) (h1 : ∀ y ∈ out.drop k, x < y) (h2 : k = 0 ∨ ∃ h : k - 1 < out.length, out[k - 1] < x) : (out.take k ++ [x] ++ out.drop k).Pairwise (· < ·) := by
  have ht : ∀ a ∈ out.take k, a < x := by
    intro a ha
    obtain ⟨j, hj, rfl⟩ := List.getElem_of_mem ha
    rw [List.length_take] at hj
    rw [List.getElem_take]
    rcases h2 with rfl | ⟨h3, h4⟩
    · omega
    · by_cases e : j = k - 1
      · subst e; exact h4
      · exact List.lt_trans (List.pairwise_iff_getElem.1 h j (k - 1) (by omega) h3 (by omega)) h4
  refine List.pairwise_append.2 ⟨List.pairwise_append.2 ⟨h.sublist (List.take_sublist _ _), List.pairwise_singleton _ _, fun a ha b hb => ?_⟩, h.sublist (List.drop_sublist _ _), fun a ha b hb => ?_⟩
  · rw [List.mem_singleton] at hb
    subst hb; exact ht a ha
  · rcases List.mem_append.1 ha with ha | ha
    · exact List.lt_trans (ht a ha) (h1 b hb)
    · rw [List.mem_singleton] at ha
      subst ha; exact h1 b hb
theorem ins_mem {out : List Str} {x s : Str} {k : Nat} : s ∈ out.take k ++ [x] ++ out.drop k ↔ s = x ∨ s ∈ out := by
  have h : s ∈ out ↔ s ∈ out.take k ∨ s ∈ out.drop k := by rw [← List.mem_append, List.take_append_drop]
  rw [List.mem_append, List.mem_append, List.mem_singleton, h]
  constructor
  · rintro ((h | h) | h)
    · exact .inr (.inl h)
    · exact .inl h
    · exact .inr (.inr h)
  · rintro (h | h | h)
    · exact .inl (.inr h)
    · exact .inl (.inl h)
    · exact .inr h
def InsD (names : List Str) (is : List Bool) (k : Nat) (o : List Str) : Prop := o.Pairwise (· < ·) ∧ ∀ s, s ∈ o ↔ ∃ j, j < k ∧ names[j]? = some s ∧ is[j]? = some true
theorem InsD.keep {names : List Str} {is : List Bool} {i : Nat} {o : List Str} (h : InsD names is i o) (hs : ∀ s, names[i]? = some s → is[i]? = some true → s ∈ o) : InsD names is (i + 1) o := by
  refine ⟨h.1, fun s => ?_⟩
  rw [h.2]
  constructor
  · rintro ⟨j, hj, h1⟩; exact ⟨j, by omega, h1⟩
  · rintro ⟨j, hj, h1, h2⟩
    by_cases e : j = i
    · subst e; exact (h.2 s).1 (hs s h1 h2)
    · exact ⟨j, by omega, h1, h2⟩
theorem InsD.step {names : List Str} {is : List Bool} {i k : Nat} {o : List Str} {x : Str} (h : InsD names is i o) (hx : names[i]? = some x) (hb : is[i]? = some true) (hk : k ≤ o.length) (h1 : ∀ y ∈ o.drop k, x < y) (h2 : k = 0 ∨ ∃ h : k - 1 < o.length, o[k - 1] < x) : InsD names is (i + 1) (o.take k ++ [x] ++ o.drop k) := by
  refine ⟨ins_strict h.1 hk h1 h2, fun s => ?_⟩
  rw [ins_mem, h.2]
  constructor
  · rintro (rfl | ⟨j, hj, h3⟩)
    · exact ⟨i, by omega, hx, hb⟩
    · exact ⟨j, by omega, h3⟩
  · rintro ⟨j, hj, h3, h4⟩
    by_cases e : j = i
    · subst e; rw [hx] at h3; injection h3 with h3; exact .inl h3.symm
    · exact .inr ⟨j, by omega, h3, h4⟩
end Go.Hog

set_option linter.unusedVariables false
set_option linter.unusedSimpArgs false
set_option maxRecDepth 100000
set_option maxHeartbeats 1000000
namespace Go.Hog
open Go.RowKit Rp Go.Proofs
end Go.Hog

set_option linter.unusedVariables false
set_option linter.unusedSimpArgs false
set_option maxRecDepth 100000
set_option maxHeartbeats 1000000
namespace Go.Hog
open Go.RowKit Rp Go.Proofs
end Go.Hog

set_option linter.unusedVariables false
set_option linter.unusedSimpArgs false
set_option maxRecDepth 100000
set_option maxHeartbeats 1000000
namespace Go.Hog
open Go.RowKit Rp Go.Proofs
def boolV (b : Bool) : Value := .bool b
theorem put_bool (l : List Bool) (o : Nat) (b : Bool) (h : o < l.length) : putL (l.map boolV) (0 + o * 1) [.bool b] = (l.set o b).map boolV := by
  rw [show 0 + o * 1 = o by omega, putL1 _ _ _ (by simpa using h), List.map_set]
  rfl
theorem Sl.ofBools {g : View} {A : Option Addr} {c e n : Nat} {l : List Bool} (h : (HE.row A n c e 1 (l.map boolV)).seen g) (hn : n = l.length) (hl : l.length ≤ LB) : Sl g A c l :=
  Sl.ofRow h hn rfl hl fun j hj => by
    show ((l.map boolV).drop (j * 1)).take 1 = [.bool l[j]]
    rw [Nat.mul_one, List.drop_eq_getElem_cons (by simpa using hj)]
    simp [boolV]
/-- How far the document's Tree has come: name i, at the nodes ahead of k. -/
def BI (t : List Node) (names : List Str) (i k : Nat) (bs : List Bool) : Prop := bs.length = names.length ∧ ∀ j (h : j < names.length), bs[j]? = some (if j < i then treeHas t (hashL names[j]) else if j = i then treeHas (t.take k) (hashL names[j]) else false)
theorem BI.start (t : List Node) (names : List Str) : BI t names 0 0 (List.replicate names.length false) := by
  refine ⟨by simp, fun j hj => ?_⟩
  rw [List.getElem?_replicate, if_pos hj]
  simp [treeHas]
theorem BI.next {t : List Node} {names : List Str} {i : Nat} {bs : List Bool} (h : BI t names i t.length bs) : BI t names (i + 1) 0 bs := by
  refine ⟨h.1, fun j hj => ?_⟩
  rw [h.2 j hj]
  by_cases h1 : j < i
  · rw [if_pos h1, if_pos (by omega)]
  · rw [if_neg h1]
    by_cases h2 : j = i
    · rw [if_pos h2, if_pos (by omega), List.take_length]
    · rw [if_neg h2, if_neg (by omega)]
      split
      · simp [treeHas]
      · rfl
theorem BI.step {t : List Node} {names : List Str} {i k : Nat} {bs : List Bool} (h : BI t names i k bs) (hi : i < names.length) (hk : k < t.length) {b : Bool} (hb : b = treeHas (t.take (k + 1)) (hashL names[i])) : BI t names i (k + 1) (bs.set i b) := by
  refine ⟨by rw [List.length_set]; exact h.1, fun j hj => ?_⟩
  rw [List.getElem?_set, h.2 j hj]
  by_cases h2 : i = j
  · subst h2
    rw [if_pos rfl, if_pos (by rw [h.1]; exact hi), if_neg (Nat.lt_irrefl _), if_pos rfl, hb]
  · rw [if_neg h2]
    by_cases h1 : j < i
    · rw [if_pos h1, if_pos h1]
    · rw [if_neg h1, if_neg h1, if_neg (fun e => h2 e.symm), if_neg (fun e => h2 e.symm)]
theorem treeHas_ok {t : List Node} {s : Str} (h : treeHas t (hashL s) = true) : nameOk s := by
  unfold treeHas at h
  obtain ⟨x, _, h1, _⟩ := of_decide_eq_true h
  by_cases e : nameOk s
  · exact e
  · exact absurd (hash_no e) h1
theorem BI.fin {t : List Node} {names : List Str} {bs : List Bool} (h : BI t names names.length 0 bs) {o : List Str} (ho : InsD names bs names.length o) : o = treeL t names := by
  refine foundL_eq ho.1 fun s => ?_
  rw [ho.2]
  constructor
  · rintro ⟨j, hj, h1, h2⟩
    rw [h.2 j hj, if_pos hj] at h2
    injection h2 with h2
    rw [List.getElem?_eq_getElem hj] at h1
    injection h1 with h1
    rw [h1] at h2
    exact ⟨h1 ▸ List.getElem_mem hj, treeHas_ok h2, h2⟩
  · rintro ⟨h1, _, h2⟩
    obtain ⟨j, hj, rfl⟩ := List.getElem_of_mem h1
    refine ⟨j, hj, List.getElem?_eq_getElem hj, ?_⟩
    rw [h.2 j hj, if_pos hj, h2]
theorem textTree (s : Str) (names : List Str) : treeL [⟨[], 0, s⟩] names = textL s names := by
  have e : treeHas [⟨[], 0, s⟩] = fun h => decide (hasL s h) := by funext h; unfold treeHas; simp
  unfold treeL textL
  rw [e]
end Go.Hog
