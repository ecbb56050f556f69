/- Plain words: sorting by any order; chapter 21's rank. -/
import Derived.Test.YtaaehplhpkojiaaF20
set_option linter.unusedVariables false
set_option linter.unusedSimpArgs false
set_option linter.unusedSectionVars false
namespace Go.Hog
section
variable {α : Type} {lt : α → α → Prop}
def SBy (lt : α → α → Prop) (l : List α) : Prop := l.Pairwise fun a b => ¬ lt b a
theorem sby_uniq (irr : ∀ a, ¬ lt a a) (eq_of : ∀ a b, ¬ lt a b → ¬ lt b a → a = b) : ∀ {l m : List α}, l.Perm m → SBy lt l → SBy lt m → l = m
  | [], m, hp, _, _ => by rw [List.nil_perm.1 hp]
  | a :: l, [], hp, _, _ => by simp at hp
  | a :: l, b :: m, hp, h1, h2 => by
    have ha := List.pairwise_cons.1 h1
    have hb := List.pairwise_cons.1 h2
    have e : a = b := by
      refine eq_of _ _ ?_ ?_
      · rcases List.mem_cons.1 (hp.mem_iff.1 (List.mem_cons_self (a := a) (l := l))) with e | e
        · subst e; exact irr _
        · exact hb.1 a e
      · rcases List.mem_cons.1 (hp.mem_iff.2 (List.mem_cons_self (a := b) (l := m))) with e | e
        · subst e; exact irr _
        · exact ha.1 b e
    subst e
    rw [sby_uniq irr eq_of ((List.perm_cons a).1 hp) ha.2 hb.2]
variable [DecidableRel lt]
def insBy (lt : α → α → Prop) [DecidableRel lt] (x : α) : List α → List α
  | [] => [x]
  | y :: l => if lt x y then x :: y :: l else y :: insBy lt x l
def sortBy (lt : α → α → Prop) [DecidableRel lt] : List α → List α
  | [] => []
  | x :: l => insBy lt x (sortBy lt l)
theorem insBy_perm (x : α) : ∀ l, (insBy lt x l).Perm (x :: l)
  | [] => List.Perm.refl _
  | y :: l => by
    unfold insBy
    split
    · exact List.Perm.refl _
    · exact ((insBy_perm x l).cons y).trans (.swap _ _ _)
theorem insBy_sorted (so : SO lt) {x : α} : ∀ {l : List α}, SBy lt l → SBy lt (insBy lt x l)
  | [], _ => by simp [insBy, SBy]
  | y :: l, h => by
    have hy := List.pairwise_cons.1 h
    unfold insBy
    split
    · rename_i hlt
      refine List.pairwise_cons.2 ⟨fun z hz => ?_, h⟩
      rcases List.mem_cons.1 hz with rfl | hz
      · exact so.asym hlt
      · exact fun hzx => hy.1 z hz (so.trans hzx hlt)
    · rename_i hlt
      refine List.pairwise_cons.2 ⟨fun z hz => ?_, insBy_sorted so hy.2⟩
      rcases List.mem_cons.1 ((insBy_perm x l).mem_iff.1 hz) with rfl | hz
      · exact hlt
      · exact hy.1 z hz
theorem sortBy_perm : ∀ l, (sortBy lt l).Perm l
  | [] => List.Perm.refl _
  | x :: l => (insBy_perm x _).trans ((sortBy_perm l).cons x)
theorem sortBy_sorted (so : SO lt) : ∀ l, SBy lt (sortBy lt l)
  | [] => List.Pairwise.nil
  | x :: l => insBy_sorted so (sortBy_sorted so l)
/-- Into a sorted list at place k: behind it all are above, ahead of it none is. -/
theorem sby_insert (so : SO lt) {l : List α} {k : Nat} {x : α} (hs : SBy lt l) (hk : k ≤ l.length) (h1 : ∀ y ∈ l.drop k, lt x y) (h2 : k = 0 ∨ ∃ h : k - 1 < l.length, ¬ lt x l[k - 1]) : SBy lt (l.take k ++ [x] ++ l.drop k) := by
  have hpre : ∀ y ∈ l.take k, ¬ lt x y := fun y hy => by
    rcases h2 with h2 | ⟨h2, h3⟩
    · subst h2; simp at hy
    · obtain ⟨j, hj, rfl⟩ := List.getElem_of_mem hy
      have hjk : j < k := by simp at hj; omega
      rw [List.getElem_take]
      by_cases hje : j = k - 1
      · subst hje; exact h3
      · exact so.ntrans h3 (List.pairwise_iff_getElem.1 hs j (k - 1) (by omega) h2 (by omega))
  rw [List.append_assoc]
  refine List.pairwise_append.2 ⟨hs.sublist (List.take_sublist _ _), List.pairwise_cons.2 ⟨fun y hy => so.asym (h1 y hy), hs.sublist (List.drop_sublist _ _)⟩, fun y hy z hz => ?_⟩
  rcases List.mem_cons.1 hz with rfl | hz
  · exact hpre y hy
  · have hs' : SBy lt (l.take k ++ l.drop k) := by rwa [List.take_append_drop]
    exact (List.pairwise_append.1 hs').2.2 y hy z hz
theorem insert_perm {l : List α} (k : Nat) (x : α) : (l.take k ++ [x] ++ l.drop k).Perm (x :: l) := by
  have h1 : (l.take k ++ [x] ++ l.drop k).Perm ([x] ++ l.take k ++ l.drop k) := (List.perm_append_comm).append_right _
  refine h1.trans ?_
  rw [List.append_assoc, List.take_append_drop]
  exact List.Perm.refl _
end
theorem plEq (a b : Pl) (h1 : ¬ plLt a b) (h2 : ¬ plLt b a) : a = b := by
  have a1 : ¬ b.1 < a.1 := fun e => h1 (.inl e)
  have a2 : ¬ a.1 < b.1 := fun e => h2 (.inl e)
  have e1 : a.1 = b.1 := by omega
  have e2 : a.2 = b.2 := strEq (fun e => h1 (.inr ⟨e1, e⟩)) (fun e => h2 (.inr ⟨e1.symm, e⟩))
  exact Prod.ext e1 e2
noncomputable def plOf (a : List Item) (x : Item) : Pl := ((sc a x.name : Int), x.name)
noncomputable def rankP (a : List Item) : List Pl := sortBy plLt (a.map (plOf a))
theorem rankP_of {a : List Item} {l : List Pl} (hp : l.Perm (a.map (plOf a))) (hs : SBy plLt l) : l = rankP a :=
  sby_uniq plIrr plEq (hp.trans (sortBy_perm _).symm) hs (sortBy_sorted plSO _)
noncomputable def rankL (a : List Item) : List Str := if (names a).Nodup then (rankP a).map Prod.snd else []
end Go.Hog
