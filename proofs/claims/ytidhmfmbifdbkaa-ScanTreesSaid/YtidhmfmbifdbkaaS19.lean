/- Plain facts: what stands in two texts that are put together. -/
import Derived.Test.YtidhmfmbifdbkaaS18
set_option linter.unusedVariables false
set_option linter.unusedSimpArgs false
namespace Go.Hog
theorem occs_congr {s s' u : Str} {k : Nat} (h : ∀ j, j < k → Lib.occAt s u j = Lib.occAt s' u j) : occs s u k = occs s' u k := by
  unfold occs
  congr 1
  refine List.filter_congr fun j hj => h j (List.mem_range.1 hj)
theorem occs_add (s u : Str) (p q : Nat) : occs s u (p + q) = occs s u p ++ (occs (s.drop p) u q).map (fun x => x + (p : Int)) := by
  unfold occs
  rw [List.range_add, List.filter_append, List.map_append, List.filter_map, List.map_map, List.map_map]
  congr 1
  have e : (Lib.occAt s u ∘ fun x => p + x) = Lib.occAt (s.drop p) u := by
    funext j
    exact (occ_drop s u p j).symm
  rw [e]
  refine List.map_congr_left fun j _ => ?_
  show ((p + j : Nat) : Int) = (j : Int) + (p : Int)
  omega
theorem occ_pre {s r u : Str} (hu : u ≠ []) {j : Nat} (h : j + u.length ≤ s.length) : Lib.occAt (s ++ r) u j = Lib.occAt s u j := by
  rw [Bool.eq_iff_iff, occ_iff hu, occ_iff hu, List.drop_append_of_le_length (by omega), List.take_append_of_le_length (by rw [List.length_drop]; omega), List.length_append]
  constructor
  · rintro ⟨_, h2⟩; exact ⟨h, h2⟩
  · rintro ⟨_, h2⟩; exact ⟨by omega, h2⟩
theorem occs_sorted (s u : Str) (k : Nat) : (occs s u k).Pairwise (· < ·) := by
  unfold occs
  rw [List.pairwise_map]
  refine ((List.pairwise_lt_range (n := k)).sublist List.filter_sublist).imp fun {a b} h => ?_
  omega
/-- What stands over both. -/
def overL (a b u : Str) : Str := a.drop (a.length + 1 - u.length) ++ b.take (min b.length (u.length - 1))
theorem parts {a b u : Str} (hu : u ≠ []) : ∃ Y O : List Int, placesI (a ++ b) u = placesI a u ++ O ++ Y ∧ O.length = (placesI (overL a b u) u).length ∧ Y.length = (placesI b u).length := by
  have hl : 0 < u.length := List.length_pos_iff.2 hu
  have e1 : ∀ s : Str, placesI s u = occs s u (s.length + 1) := fun s => if_neg hu
  obtain ⟨lo, hlo⟩ : ∃ lo, a.length + 1 - u.length = lo := ⟨_, rfl⟩
  have hlm : lo ≤ a.length := by omega
  have z1 : placesI (a ++ b) u = occs (a ++ b) u (a.length + (b.length + 1)) := by
    rw [e1, List.length_append]; congr 1
  have z2 : occs (a ++ b) u a.length = occs (a ++ b) u (lo + (a.length - lo)) := by congr 1; omega
  have z3 : occs (a ++ b) u lo = placesI a u := by
    rw [e1, occs_none (a := lo) (b := a.length + 1) (by omega) fun j h1 h2 => occ_far hu (by omega)]
    exact occs_congr fun j hj => occ_pre hu (by omega)
  have hov : overL a b u = a.drop lo ++ b.take (min b.length (u.length - 1)) := by unfold overL; rw [hlo]
  have hdr : (a ++ b).drop lo = a.drop lo ++ b := List.drop_append_of_le_length hlm
  have hol : (overL a b u).length = (a.length - lo) + min b.length (u.length - 1) := by
    rw [hov, List.length_append, List.length_drop, List.length_take]; omega
  have z4 : occs ((a ++ b).drop lo) u (a.length - lo) = placesI (overL a b u) u := by
    rw [e1, occs_none (a := a.length - lo) (b := (overL a b u).length + 1) (by omega) fun j h1 h2 => occ_far hu (by omega)]
    refine occs_congr fun j hj => ?_
    by_cases hb : b.length ≤ u.length - 1
    · rw [hdr, hov, List.take_of_length_le (by omega)]
    · have hsp : (a ++ b).drop lo = overL a b u ++ b.drop (min b.length (u.length - 1)) := by
        rw [hdr, hov, List.append_assoc, List.take_append_drop]
      rw [hsp]
      exact occ_pre hu (by omega)
  refine ⟨(occs b u (b.length + 1)).map (fun x => x + (a.length : Int)), (placesI (overL a b u) u).map (fun x => x + (lo : Int)), ?_, by rw [List.length_map], by rw [List.length_map, e1]⟩
  rw [z1, occs_add, z2, occs_add, z3, z4, List.drop_left]
theorem places_sorted (s u : Str) : (placesI s u).Pairwise (· < ·) := by
  unfold placesI
  split
  · exact List.Pairwise.nil
  · exact occs_sorted _ _ _
end Go.Hog
