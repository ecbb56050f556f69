/- Contracts: slices.Compact of texts. -/
import Derived.Test.YthaleeajeibgeaaF12
set_option linter.unusedVariables false
set_option linter.unusedSimpArgs false
set_option maxRecDepth 100000
set_option maxHeartbeats 1000000
namespace Go.Hog
open Go.RowKit Rp Go.Proofs
def ddN (l : List Str) : Nat → List Str
  | 0 => []
  | k + 1 => if 0 < k ∧ at_ l k = at_ l (k - 1) then ddN l k else ddN l k ++ [at_ l k]
def dd (l : List Str) : List Str := ddN l l.length
theorem ddN_le (l : List Str) : ∀ k, (ddN l k).length ≤ k
  | 0 => Nat.le_refl _
  | k + 1 => by
    unfold ddN
    have := ddN_le l k
    split
    · omega
    · simp; omega
theorem take_at {l : List Str} {k : Nat} (h : k < l.length) : l.take (k + 1) = l.take k ++ [at_ l k] := by
  rw [List.take_add_one, List.getElem?_eq_getElem h, at_get h]; rfl
theorem ddN_full {l : List Str} : ∀ k, k ≤ l.length → (ddN l k).length = k → ddN l k = l.take k
  | 0, _, _ => by simp [ddN]
  | k + 1, hk, h => by
    unfold ddN at h ⊢
    have hle := ddN_le l k
    split at h
    · omega
    · rename_i hn
      rw [if_neg hn, ddN_full k (by omega) (by simpa using h), take_at (by omega)]
theorem ddN_no {l : List Str} : ∀ k, k ≤ l.length → (∀ p, 0 < p → p < k → at_ l p ≠ at_ l (p - 1)) → ddN l k = l.take k
  | 0, _, _ => by simp [ddN]
  | k + 1, hk, h => by
    unfold ddN
    rw [if_neg (fun e => h k e.1 (by omega) e.2), ddN_no k (by omega) (fun p h1 h2 => h p h1 (by omega)), take_at (by omega)]
theorem ddN_spec {l : List Str} (hs : SortedS l) : ∀ k, k ≤ l.length → (∀ s, s ∈ ddN l k ↔ ∃ p, p < k ∧ at_ l p = s) ∧ (ddN l k).Pairwise (· < ·)
  | 0, _ => ⟨fun s => by simp [ddN], List.Pairwise.nil⟩
  | k + 1, hk => by
    obtain ⟨h1, h2⟩ := ddN_spec hs k (by omega)
    have hle : ∀ p q, p < q → q < l.length → ¬ at_ l q < at_ l p := fun p q hp hq => by
      rw [at_get hq, at_get (by omega : p < l.length)]
      exact List.pairwise_iff_getElem.1 hs p q (by omega) hq hp
    unfold ddN
    split
    · rename_i he
      refine ⟨fun s => ?_, h2⟩
      rw [h1]
      constructor
      · rintro ⟨p, hp, e⟩; exact ⟨p, by omega, e⟩
      · rintro ⟨p, hp, e⟩
        by_cases hpk : p = k
        · subst hpk; exact ⟨p - 1, by omega, he.2.symm.trans e⟩
        · exact ⟨p, by omega, e⟩
    · rename_i hn
      refine ⟨fun s => ?_, ?_⟩
      · rw [List.mem_append, h1, List.mem_singleton]
        constructor
        · rintro (⟨p, hp, e⟩ | e)
          · exact ⟨p, by omega, e⟩
          · exact ⟨k, by omega, e.symm⟩
        · rintro ⟨p, hp, e⟩
          by_cases hpk : p = k
          · subst hpk; exact .inr e.symm
          · exact .inl ⟨p, by omega, e⟩
      · refine List.pairwise_append.2 ⟨h2, by simp, fun s hs' x hx => ?_⟩
        rw [List.mem_singleton] at hx
        subst hx
        obtain ⟨p, hp, rfl⟩ := (h1 s).1 hs'
        have hk0 : 0 < k := by omega
        have hne : at_ l k ≠ at_ l (k - 1) := fun e => hn ⟨hk0, e⟩
        have hlt : at_ l (k - 1) < at_ l k := by
          refine Decidable.byContradiction fun h => hne (strEq (hle (k - 1) k (by omega) (by omega)) h)
        by_cases hpk : p = k - 1
        · subst hpk; exact hlt
        · refine Decidable.byContradiction fun h => ?_
          exact strSO.ntrans (hle p (k - 1) (by omega) (by omega)) h hlt
theorem dd_sorted {l : List Str} (hs : SortedS l) : (dd l).Pairwise (· < ·) := (ddN_spec hs _ (Nat.le_refl _)).2
theorem dd_mem {l : List Str} (hs : SortedS l) {s : Str} : s ∈ dd l ↔ s ∈ l := by
  unfold dd
  rw [(ddN_spec hs _ (Nat.le_refl _)).1]
  constructor
  · rintro ⟨p, hp, rfl⟩
    rw [at_get hp]
    exact List.getElem_mem _
  · intro h
    obtain ⟨p, hp, e⟩ := List.getElem_of_mem h
    exact ⟨p, hp, by rw [at_get hp, e]⟩
theorem strict_nodup {l : List Str} (h : l.Pairwise (· < ·)) : l.Nodup := h.imp fun {a b} hab e => by subst e; exact List.lt_irrefl _ hab
theorem strict_sorted {l : List Str} (h : l.Pairwise (· < ·)) : SortedS l := h.imp fun {a b} hab => strSO.asym hab
theorem dd_len {l : List Str} (hs : SortedS l) : (dd l).length = l.length ↔ l.Nodup := by
  constructor
  · intro h
    have : dd l = l := by
      have := ddN_full l.length (Nat.le_refl _) h
      rwa [List.take_length] at this
    rw [← this]
    exact strict_nodup (dd_sorted hs)
  · intro h
    have : dd l = l := by
      have := ddN_no (l := l) l.length (Nat.le_refl _) (fun p h1 h2 e => by
        rw [at_get h2, at_get (by omega : p - 1 < l.length)] at e
        exact List.pairwise_iff_getElem.1 h (p - 1) p (by omega) h2 (by omega) e.symm)
      rwa [List.take_length] at this
    rw [this]
theorem dd_short {l : List Str} (h : l.length < 2) : dd l = l := by
  have := ddN_no (l := l) l.length (Nat.le_refl _) (fun p h1 h2 => by omega)
  rwa [List.take_length] at this
theorem sRow_take {A : Option Addr} {c k : Nat} {m l : List Str} (h : m.take k = l) (hk : k = l.length) : [HE.row A k c 9 1 ((m.map str).take (k * 1))] = [sRow A c l] := by
  subst hk
  rw [Nat.mul_one, ← List.map_take, h]
  rfl
end Go.Hog
