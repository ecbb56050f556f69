/- Plain words: the order items are handed in does not matter; the rank's steps. -/
import Derived.Test.YtaaehplhpkojiaaG6
set_option linter.unusedVariables false
set_option linter.unusedSimpArgs false
namespace Go.Hog
theorem name_inj {a : List Item} (hnd : (names a).Nodup) {x y : Item} (hx : x ∈ a) (hy : y ∈ a) (h : x.name = y.name) : x = y := by
  obtain ⟨i, hi, rfl⟩ := List.getElem_of_mem hx
  obtain ⟨j, hj, rfl⟩ := List.getElem_of_mem hy
  have := (names_ne hnd hj hi).1 h
  subst this
  rfl
theorem getI_of {a : List Item} (hnd : (names a).Nodup) {x : Item} (hx : x ∈ a) : getI a x.name = some x := by
  cases h : getI a x.name with
  | none => exact absurd rfl (getI_none.1 h x hx)
  | some y => rw [name_inj hnd hx (getI_mem h) (getI_name h).symm]
theorem names_perm {a b : List Item} (hp : a.Perm b) : (names a).Perm (names b) := hp.map _
theorem getI_perm {a b : List Item} (hp : a.Perm b) (hnd : (names a).Nodup) (s : Str) : getI a s = getI b s := by
  have hnd2 : (names b).Nodup := (names_perm hp).nodup_iff.1 hnd
  cases h : getI a s with
  | none =>
    refine (getI_none.2 fun x hx => getI_none.1 h x (hp.mem_iff.2 hx)).symm
  | some x =>
    have h1 := getI_of hnd2 (hp.mem_iff.1 (getI_mem h))
    rw [getI_name h] at h1
    exact h1.symm
theorem rch_congr {a b : List Item} {S : List Str} (h : ∀ s, getI a s = getI b s) {s : Str} (hr : Rch a S s) : Rch b S s := by
  induction hr with
  | base h1 h2 => exact .base h1 (by rw [← h]; exact h2)
  | step h1 h2 h3 h4 ih => exact .step ih (by rw [← h]; exact h2) h3 (by rw [← h]; exact h4)
theorem rch_perm {a b : List Item} (hp : a.Perm b) (hnd : (names a).Nodup) {S : List Str} (s : Str) : Rch a S s ↔ Rch b S s :=
  ⟨rch_congr (getI_perm hp hnd), rch_congr fun s => (getI_perm hp hnd s).symm⟩
open Classical in
theorem sc_eq (a : List Item) (s : Str) : sc a s = (a.filter fun x => decide (x.name ≠ s ∧ Rch a [x.name] s)).length := by
  unfold sc scN
  rw [List.take_length]
  refine congrArg List.length (List.filter_congr fun x _ => ?_)
  simp only [reachL_mem]
open Classical in
theorem sc_perm {a b : List Item} (hp : a.Perm b) (hnd : (names a).Nodup) (s : Str) : sc a s = sc b s := by
  rw [sc_eq, sc_eq, (hp.filter _).length_eq]
  refine congrArg List.length (List.filter_congr fun x _ => ?_)
  simp only [rch_perm hp hnd]
theorem rankL_perm {a b : List Item} (hp : a.Perm b) (hnd : (names a).Nodup) : rankL b = rankL a := by
  have hnd2 : (names b).Nodup := (names_perm hp).nodup_iff.1 hnd
  unfold rankL
  rw [if_pos hnd, if_pos hnd2]
  refine congrArg (List.map Prod.snd) (rankP_of ?_ (sortBy_sorted plSO _))
  refine (sortBy_perm _).trans ?_
  have e : b.map (plOf b) = b.map (plOf a) := List.map_congr_left fun x _ => by unfold plOf; rw [sc_perm hp hnd]
  rw [e]
  exact (hp.map _).symm
theorem rankP_perm (a : List Item) : (rankP a).Perm (a.map (plOf a)) := sortBy_perm _
theorem rank_len {a : List Item} (hnd : (names a).Nodup) : (rankL a).length = a.length := by
  unfold rankL
  rw [if_pos hnd, List.length_map, (rankP_perm a).length_eq, List.length_map]
theorem scores_len {a : List Item} (hnd : (names a).Nodup) : (scoresL a).length = a.length := by
  unfold scoresL
  rw [if_pos hnd, List.length_map]
theorem rank_perm {a : List Item} (hnd : (names a).Nodup) : (rankL a).Perm (names a) := by
  unfold rankL
  rw [if_pos hnd]
  refine ((rankP_perm a).map _).trans ?_
  rw [List.map_map]
  exact List.Perm.refl _
/-- Each is above the next. -/
theorem rank_step {a : List Item} (hnd : (names a).Nodup) {i : Nat} (h0 : 0 < i) (hi : i < (rankL a).length) : Abv (sc a (rankL a)[i - 1]) (rankL a)[i - 1] (sc a (rankL a)[i]) (rankL a)[i] := by
  have hnr : (rankL a).Nodup := (rank_perm hnd).nodup_iff.2 hnd
  have hne : (rankL a)[i - 1] ≠ (rankL a)[i] := List.pairwise_iff_getElem.1 hnr (i - 1) i (by omega) hi (by omega)
  have hR : rankL a = (rankP a).map Prod.snd := by unfold rankL; rw [if_pos hnd]
  have hlen : (rankL a).length = (rankP a).length := by rw [hR, List.length_map]
  have key : ∀ j (hj : j < (rankL a).length) (hj2 : j < (rankP a).length), (rankP a)[j] = ((sc a (rankL a)[j] : Int), (rankL a)[j]) := fun j hj hj2 => by
    have hm : (rankP a)[j] ∈ a.map (plOf a) := (rankP_perm a).mem_iff.1 (List.getElem_mem hj2)
    obtain ⟨x, hx, e⟩ := List.mem_map.1 hm
    have e2 : (rankL a)[j] = (rankP a)[j].2 := by simp only [hR, List.getElem_map]
    rw [e2, ← e]
    rfl
  have h1 := List.pairwise_iff_getElem.1 (sortBy_sorted plSO (a.map (plOf a))) (i - 1) i (show i - 1 < (rankP a).length by omega) (show i < (rankP a).length by omega) (by omega)
  have k1 := key (i - 1) (by omega) (by omega)
  have k2 := key i hi (by omega)
  change ¬ plLt (rankP a)[i] (rankP a)[i - 1] at h1
  rw [k1, k2] at h1
  refine Classical.byContradiction fun hn => ?_
  have := plEq ((sc a (rankL a)[i - 1] : Int), (rankL a)[i - 1]) ((sc a (rankL a)[i] : Int), (rankL a)[i]) hn h1
  exact hne (congrArg Prod.snd this)
end Go.Hog
