/- Plain words: sorting of texts. -/
import Derived.Test.YtdidefhdcinecaaGreatDoorMF
import Derived.Test.YtdidefhdcinecaaGreatDoorMA
set_option linter.unusedVariables false
set_option linter.unusedSimpArgs false
namespace Go.Hog
theorem strSO : SO (fun x y : Str => x < y) := ⟨fun h => List.lt_asymm h, fun h1 h2 => List.lt_trans h1 h2, fun {a b c} h1 h2 h3 => by
    have h1' : b ≤ a := h1
    have h2' : c ≤ b := h2
    exact (List.le_trans h2' h1') h3⟩
theorem strEq {x y : Str} (h1 : ¬ x < y) (h2 : ¬ y < x) : x = y := List.le_antisymm (List.not_lt.1 h2) (List.not_lt.1 h1)
def SortedS (l : List Str) : Prop := l.Pairwise fun a b => ¬ b < a
theorem sorted_uniq : ∀ {l m : List Str}, l.Perm m → SortedS l → SortedS m → l = m
  | [], m, hp, _, _ => by rw [List.nil_perm.1 hp]
  | a :: l, [], hp, _, _ => by simp at hp
  | a :: l, b :: m, hp, h1, h2 => by
    have ha := List.pairwise_cons.1 h1
    have hb := List.pairwise_cons.1 h2
    have e : a = b := by
      refine strEq ?_ ?_
      · rcases List.mem_cons.1 (hp.mem_iff.1 (List.mem_cons_self (a := a) (l := l))) with e | e
        · subst e; exact List.lt_irrefl _
        · exact hb.1 a e
      · rcases List.mem_cons.1 (hp.mem_iff.2 (List.mem_cons_self (a := b) (l := m))) with e | e
        · subst e; exact List.lt_irrefl _
        · exact ha.1 b e
    subst e
    rw [sorted_uniq ((List.perm_cons a).1 hp) ha.2 hb.2]
/-- Into a sorted list, behind all that are not above. -/
def insS (x : Str) : List Str → List Str
  | [] => [x]
  | y :: l => if x < y then x :: y :: l else y :: insS x l
def sortS : List Str → List Str
  | [] => []
  | x :: l => insS x (sortS l)
theorem insS_perm (x : Str) : ∀ l, (insS x l).Perm (x :: l)
  | [] => List.Perm.refl _
  | y :: l => by
    unfold insS
    split
    · exact List.Perm.refl _
    · exact ((insS_perm x l).cons y).trans (.swap _ _ _)
theorem insS_sorted {x : Str} : ∀ {l : List Str}, SortedS l → SortedS (insS x l)
  | [], _ => by simp [insS, SortedS]
  | y :: l, h => by
    have hy := List.pairwise_cons.1 h
    unfold insS
    split
    · rename_i hlt
      refine List.pairwise_cons.2 ⟨fun z hz => ?_, h⟩
      rcases List.mem_cons.1 hz with rfl | hz
      · exact strSO.asym hlt
      · exact fun hzx => hy.1 z hz (strSO.trans hzx hlt)
    · rename_i hlt
      refine List.pairwise_cons.2 ⟨fun z hz => ?_, insS_sorted hy.2⟩
      rcases List.mem_cons.1 ((insS_perm x l).mem_iff.1 hz) with rfl | hz
      · exact hlt
      · exact hy.1 z hz
theorem sortS_perm : ∀ l, (sortS l).Perm l
  | [] => List.Perm.refl _
  | x :: l => (insS_perm x _).trans ((sortS_perm l).cons x)
theorem sortS_sorted : ∀ l, SortedS (sortS l)
  | [] => List.Pairwise.nil
  | x :: l => insS_sorted (sortS_sorted l)
theorem sortS_of {l m : List Str} (hp : m.Perm l) (hs : SortedS m) : m = sortS l := sorted_uniq (hp.trans (sortS_perm l).symm) hs (sortS_sorted l)
theorem sortS_len (l : List Str) : (sortS l).length = l.length := (sortS_perm l).length_eq
theorem sortS_mem {l : List Str} {s : Str} : s ∈ sortS l ↔ s ∈ l := (sortS_perm l).mem_iff
theorem sortS_congr {l m : List Str} (h : l.Perm m) : sortS l = sortS m := sortS_of ((sortS_perm l).trans h) (sortS_sorted l)
/-- Where insertion sort stands: at place j of the first i + 1. -/
structure InsI (m : List Str) (i j : Nat) : Prop where
  ord : ∀ p q, p < q → q ≤ i → q ≠ j → ¬ at_ m q < at_ m p
  le : j ≤ i
theorem InsI.start {m : List Str} {i : Nat} (h : ∀ p q, p < q → q < i → ¬ at_ m q < at_ m p) : InsI m i i := ⟨fun p q h1 h2 h3 => h p q h1 (by omega), Nat.le_refl _⟩
theorem InsI.stop {m : List Str} {i j : Nat} (h : InsI m i j) (hs : j = 0 ∨ ¬ at_ m j < at_ m (j - 1)) : ∀ p q, p < q → q < i + 1 → ¬ at_ m q < at_ m p := by
  intro p q h1 h2
  by_cases hq : q = j
  · subst hq
    rcases hs with hs | hs
    · omega
    · by_cases hp : p = q - 1
      · subst hp; exact hs
      · exact strSO.ntrans hs (h.ord p (q - 1) (by omega) (by omega) (by omega))
  · exact h.ord p q h1 (by omega) hq
theorem InsI.step {m : List Str} {i j : Nat} (h : InsI m i j) (hi : i < m.length) (hj : 0 < j) (hlt : at_ m j < at_ m (j - 1)) : InsI (swapL m j (j - 1)) i (j - 1) := by
  have hle := h.le
  have hat : ∀ k, k ≤ i → at_ (swapL m j (j - 1)) k = if k = j - 1 then at_ m j else if k = j then at_ m (j - 1) else at_ m k := fun k hk => swapL_at (by omega) (by omega) (by omega)
  refine ⟨fun p q h1 h2 h3 => ?_, by omega⟩
  rw [hat p (by omega), hat q h2]
  rw [if_neg h3]
  by_cases hqj : q = j
  · subst hqj
    rw [if_pos rfl]
    by_cases hp : p = q - 1
    · rw [if_pos hp]; exact strSO.asym hlt
    · rw [if_neg hp, if_neg (by omega)]
      exact h.ord p (q - 1) (by omega) (by omega) (by omega)
  · rw [if_neg hqj]
    by_cases hp : p = j - 1
    · rw [if_pos hp]; exact h.ord j q (by omega) h2 hqj
    · rw [if_neg hp]
      by_cases hp2 : p = j
      · rw [if_pos hp2]; exact h.ord (j - 1) q (by omega) h2 hqj
      · rw [if_neg hp2]; exact h.ord p q h1 h2 hqj
theorem sorted_at {m : List Str} (h : ∀ p q, p < q → q < m.length → ¬ at_ m q < at_ m p) : SortedS m := by
  refine List.pairwise_iff_getElem.2 fun i j hi hj hij => ?_
  have := h i j hij hj
  rwa [at_get hi, at_get hj] at this
theorem snocInd {α : Type} {P : List α → Prop} (h0 : P []) (h1 : ∀ l x, P l → P (l ++ [x])) (l : List α) : P l := by
  have : ∀ r : List α, P r.reverse := by
    intro r
    induction r with
    | nil => exact h0
    | cons x r ih => rw [List.reverse_cons]; exact h1 _ _ ih
  have := this l.reverse
  rwa [List.reverse_reverse] at this
end Go.Hog
