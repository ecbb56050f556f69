/- F2 F3 F4, in one text. -/
import Derived.Test.YtdidefhdcinecaaGreatDoorF1
import Derived.Test.YtdidefhdcinecaaGreatDoorMC
import Derived.Test.YtdidefhdcinecaaGreatDoorS1
set_option linter.unusedVariables false
set_option linter.unusedSimpArgs false
set_option maxRecDepth 100000
namespace Go.Hog
open Go.RowKit Rp Go.Proofs

theorem greatItems {w : World} {f : View} (hv : On f w) {A : Option Addr} {c : Nat} {a : List Item} (ha : Sl f A c a) :
    Con Tryz.prog 7 [.slice A a.length c] w (Ret w f fun _ v => v = .bool (decide (GreatI a))) := by
  refine enterC hv Tryz.call7 Tryz.func7 ?_
  have hlim := ha.len_lt
  refine sgE (sq (sgE (bk ?_)))
  refine lpn a.length (fun k => [(3, i64 k), (0, .slice A a.length c)]) (fun k => ∀ j (h : j < a.length), j < k → ¬ (100 < a[j].name.length ∨ GreatT a[j].refs 12 100 ∨ GreatN a[j].tree 30)) (fun j h hj => by omega) ?_
  intro k ρ hk hi
  refine sq (sg ?_)
  refine lt (fun h => ?_) (fun h => ?_)
  · refine leE (fun h2 => ?_) (fun h2 => ?_)
    · have h1 : k < a.length := by omega
      obtain ⟨b1, o1, A1, c1, A2, c2, rfl, hc, _, hr, ht⟩ := ha.item h1
      refine cTs (sq (bk (sg ?_)))
      refine ix k h1 ?_
      refine ldv hc.1 ?_
      refine gt (fun h3 => ?_) (fun h3 => ?_)
      · refine runE ?_
        refine cT (rr ?_)
        exact ret1 (bT (.inr ⟨a[k], List.getElem_mem h1, .inl (by omega)⟩))
      refine ix k h1 ?_
      refine ldv hc.2.1 ?_
      refine callB (p := GreatT a[k].refs 12 100) (fun w g hs _ hon => greatTexts hon (hr.mono hs)) (fun h4 => ?_) (fun h4 => ?_)
      · refine runE ?_
        refine cT (rr ?_)
        exact ret1 (bT (.inr ⟨a[k], List.getElem_mem h1, .inr (.inl h4)⟩))
      refine ix k h1 ?_
      refine ldv hc.2.2.1 ?_
      refine callBE (p := GreatN a[k].tree 30) (fun w g hs _ hon => greatNodes hon (ht.mono hs)) (fun h5 => ?_) (fun h5 => ?_)
      · refine cT (rr ?_)
        exact ret1 (bT (.inr ⟨a[k], List.getElem_mem h1, .inr (.inr h5)⟩))
      · refine cFs (rg ?_)
        refine addE ((k + 1 : Nat) : Int) ?_
        refine nx fun j hj hjk => ?_
        by_cases e : j = k
        · subst e
          rintro (h | h | h)
          · omega
          · exact h4 h
          · exact h5 h
        · exact hi j hj (by omega)
    · refine cFx (sg ?_)
      refine gtE (fun h3 => ?_) (fun h3 => ?_)
      · refine ew_ret ?_
        exact ret1 (bT (.inl (by omega)))
      · omega
  · refine runE ?_
    refine cFx (sg ?_)
    refine gtE (fun h3 => ?_) (fun h3 => ?_)
    · refine ew_ret ?_
      exact ret1 (bT (.inl (by omega)))
    · refine ew_ret ?_
      refine ret1 (bF ?_)
      rintro (h4 | ⟨s, hs, h4⟩)
      · omega
      · obtain ⟨j, hj, rfl⟩ := List.getElem_of_mem hs
        exact hi j hj (by omega) h4

def idxI (l : List Str) (s : Str) : Int := if s ∈ l then (l.idxOf s : Int) else -1
theorem idxI_at {l : List Str} {s : Str} {k : Nat} (h : k < l.length) (hs : l[k] = s) (hb : ∀ j (hj : j < l.length), j < k → l[j] ≠ s) : idxI l s = k := by
  have hm : s ∈ l := hs ▸ List.getElem_mem h
  unfold idxI
  rw [if_pos hm]
  have h1 : l.idxOf s < l.length := List.idxOf_lt_length_of_mem hm
  have h2 : l[l.idxOf s] = s := List.getElem_idxOf h1
  have h3 : ¬ l.idxOf s < k := fun h => hb _ h1 h h2
  have h4 : ¬ k < l.idxOf s := fun h => by
    have := List.not_of_lt_findIdx (p := (· == s)) (xs := l) h
    simp [hs] at this
  omega
theorem idxI_no {l : List Str} {s : Str} (h : s ∉ l) : idxI l s = -1 := by unfold idxI; rw [if_neg h]

end Go.Hog

set_option linter.unusedVariables false
set_option linter.unusedSimpArgs false
set_option maxRecDepth 100000
namespace Go.Hog
open Go.RowKit Rp Go.Proofs

end Go.Hog

set_option linter.unusedVariables false
set_option linter.unusedSimpArgs false
set_option maxRecDepth 100000
set_option maxHeartbeats 400000
namespace Go.Hog
open Go.RowKit Rp Go.Proofs

theorem Sl.ofTexts {g : View} {A : Option Addr} {c e : Nat} {l : List Str} {n : Nat} (h : (HE.row A n c e 1 (l.map str)).seen g) (hn : n = l.length) (hb : ∀ s ∈ l, s.length ≤ LB) (hl : l.length ≤ LB) : Sl g A c l :=
  Sl.ofRow h hn rfl hl fun j hj => ⟨by
    show ((l.map str).drop (j * 1)).take 1 = _
    rw [Nat.mul_one, ← List.map_drop, ← List.map_take, List.drop_eq_getElem_cons hj]
    rfl, hb _ (List.getElem_mem hj)⟩
theorem slot_eq {o o' : Option Nat} (h : o' = o) : i64 (slotJ o) = i64 (slotJ o') := by rw [h]
theorem row_snoc {A : Option Addr} {c : Nat} {e : TypeId} {l : List Str} {x : Str} : [HE.row A (l ++ [x]).length c e 1 ((l ++ [x]).map str)] = [HE.row A (l.length + 1) c e 1 (l.map str ++ [str x])] := by simp
theorem sl_snoc {α : Type} {A : Option Addr} {c : Nat} {l : List α} {x : α} : Value.slice A (l.length + 1) c = Value.slice A (l ++ [x]).length c := by simp
theorem slotJ_none : slotJ none = -1 := rfl
theorem slotJ_some (j : Nat) : slotJ (some j) = j := rfl
end Go.Hog

