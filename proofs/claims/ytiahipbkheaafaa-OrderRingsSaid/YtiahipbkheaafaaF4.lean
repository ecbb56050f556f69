/- Contracts: chapter 10's own answer, whole. -/
import Derived.Test.YtiahipbkheaafaaF3
set_option linter.unusedVariables false
set_option linter.unusedSimpArgs false
set_option maxRecDepth 100000
set_option maxHeartbeats 400000
namespace Go.Hog
open Go.RowKit Rp Go.Proofs

theorem Sl.ofTexts {g : View} {A : Option Addr} {c e : Nat} {l : List Str} {n : Nat} (h : (HE.row A n c e 1 (l.map str)).seen g) (hn : n = l.length) (hb : ∀ s ∈ l, s.length ≤ LB) (hl : l.length ≤ LB) : Sl g A c l :=
  Sl.ofRow h hn rfl hl fun j hj => ⟨by
    show ((l.map str).drop (j * 1)).take 1 = _
    rw [Nat.mul_one, ← List.map_drop, ← List.map_take, List.drop_eq_getElem_cons hj]
    rfl, hb _ (List.getElem_mem hj)⟩
theorem slot_eq {o o' : Option Nat} (h : o' = o) : i64 (slotJ o) = i64 (slotJ o') := by rw [h]
theorem row_snoc {A : Option Addr} {c : Nat} {e : TypeId} {l : List Str} {x : Str} : [HE.row A (l ++ [x]).length c e 1 ((l ++ [x]).map str)] = [HE.row A (l.length + 1) c e 1 (l.map str ++ [str x])] := by simp
theorem sl_snoc {α : Type} {A : Option Addr} {c : Nat} {l : List α} {x : α} : Value.slice A (l.length + 1) c = Value.slice A (l ++ [x]).length c := by simp
theorem slotJ_none : slotJ none = -1 := rfl
theorem slotJ_some (j : Nat) : slotJ (some j) = j := rfl
theorem of10 {w : World} {f : View} (hv : On f w) {A : Option Addr} {c : Nat} {a : List Item} (ha : Sl f A c a) (hsm : a.length ≤ 1000000) :
    Con Try.prog 10 [.slice A a.length c] w (Ret w f fun g v => ∃ A' c', v = .tuple #[.slice A' ((refOf a).getD []).length c', .bool (refOf a).isSome] ∧ Sl g A' c' ((refOf a).getD [])) := by
  refine enterC hv Try.call10 Try.func10 ?_
  have hlim := ha.len_lt
  refine sgE (sq (sg ?_))
  refine callB (p := (names a).Nodup) (fun w g hs _ hon => unlike10 hon (ha.mono hs)) (fun hnd => ?_) (fun hnd => ?_)
  case refine_2 =>
    refine runE ?_
    refine cT (rr ?_)
    have hr : refOf a = none := by unfold refOf; rw [if_neg hnd]
    refine ret2 ?_
    rw [hr]
    exact ⟨none, 0, rfl, Sl.nil _⟩
  have hr : refOf a = refGo a a.length [] := by unfold refOf; rw [if_pos hnd]
  refine runE ?_
  refine cFs (sgE (sq (bk ?_)))
  refine enilrow 9 1 ?_
  refine lp (σ := List Str × Option Addr × Nat) (fun s => [(4, .slice s.2.1 s.1.length s.2.2), (0, .slice A a.length c)]) (fun _ => f) (fun s => [.row s.2.1 s.1.length s.2.2 9 1 (s.1.map str)])
    (fun s => refGo a (a.length - s.1.length) s.1 = refOf a ∧ s.1.length ≤ a.length ∧ ∀ t ∈ s.1, t.length ≤ LB) (fun s => a.length - s.1.length) ([], none, 0) ⟨hr.symm, Nat.zero_le _, fun t h => by cases h⟩ ?_
  rintro ⟨out, A4, c4⟩ ρ ⟨hgo, hol, hob⟩
  refine sq (sg ?_)
  refine ltE (fun h => ?_) (fun h => ?_)
  · have h0 : out.length < a.length := by
      have h' : (out.length : Int) < (a.length : Int) := h
      omega
    refine cTs (bk (sgE ?_))
    refine sq (sgE (bk ?_))
    refine lpn a.length (fun k => [(6, i64 k), (5, i64 (slotJ (bestJ a out k))), (4, .slice A4 out.length c4), (0, .slice A a.length c)]) (fun k => True) trivial ?_
    intro k ρ hk _
    refine sq (sg ?_)
    refine ltE (fun h => ?_) (fun h => ?_)
    · have h1 : k < a.length := by omega
      obtain ⟨b1, o1, A1, c1, A2, c2, rfl, hc, hn, hrf, htr⟩ := ha.item h1
      have hD : a.getD k dI = a[k] := by simp [h1]
      refine cTs (sq (bk ?_))
      refine sQ ?_
      refine ix k h1 ?_
      refine ldv hc.1 ?_
      refine callB (p := a[k].name ∈ out) (fun w g hs hsn hon => has10 hon (Sl.ofTexts (hsn _ (List.mem_singleton.2 rfl)) rfl hob (by unfold LB; omega))) (fun h2 => ?_) (fun h2 => ?_)
      · refine runE ?_
        refine cFs (rg ?_)
        refine addE ((k + 1 : Nat) : Int) ?_
        have hb : bestJ a out (k + 1) = bestJ a out k := by
          simp only [bestJ]
          rw [hD, if_neg (fun hc => hc.1 h2)]
        exact nx trivial (ha := ⟨rfl, slot_eq hb, rfl, rfl, trivial⟩)
      · refine ix k h1 ?_
        refine ldvA hc ?_
        refine callB (p := ReadyI a a[k] out) (fun w g hs hsn hon => ready10 hon (ha.mono hs) (hrf.mono hs) (Sl.ofTexts (hsn _ (List.mem_singleton.2 rfl)) rfl hob (by unfold LB; omega))) (fun h3 => ?_) (fun h3 => ?_)
        · have hcand : CandI a out a[k] := ⟨h2, h3⟩
          refine lt (fun h4 => ?_) (fun h4 => ?_)
          · have hbk : bestJ a out k = none := by
              cases e : bestJ a out k with
              | none => rfl
              | some j => rw [e] at h4; simp only [slotJ] at h4; omega
            refine runE ?_
            refine cT (rgE ?_)
            refine rg ?_
            refine addE ((k + 1 : Nat) : Int) ?_
            have hb : bestJ a out (k + 1) = some k := by simp only [bestJ]; rw [hD, if_pos hcand, hbk]
            exact nx trivial (ha := ⟨rfl, slot_eq hb, rfl, rfl, trivial⟩)
          · obtain ⟨j, hbk⟩ : ∃ j, bestJ a out k = some j := by
              cases e : bestJ a out k with
              | none => rw [e] at h4; simp only [slotJ] at h4; omega
              | some j => exact ⟨j, rfl⟩
            have hjk : j < a.length := by have := bestJ_lt hbk; omega
            obtain ⟨b2, o2, A3, c3, A5, c5, e2, hc2, _, _, _⟩ := ha.item hjk
            cases e2
            have hDj : a.getD j dI = a[j] := by simp [hjk]
            refine ix k h1 ?_
            refine ldv hc.1 ?_
            refine ix j hjk (hi := by rw [hbk]; rfl) ?_
            refine ldv hc2.1 ?_
            refine ltSE (fun h5 => ?_) (fun h5 => ?_)
            · refine cT (rgE ?_)
              refine rg ?_
              refine addE ((k + 1 : Nat) : Int) ?_
              have hb : bestJ a out (k + 1) = some k := by simp only [bestJ]; rw [hD, if_pos hcand, hbk]; simp only; rw [hDj, if_pos h5]
              exact nx trivial (ha := ⟨rfl, slot_eq hb, rfl, rfl, trivial⟩)
            · refine cFs (rg ?_)
              refine addE ((k + 1 : Nat) : Int) ?_
              have hb : bestJ a out (k + 1) = bestJ a out k := by simp only [bestJ]; rw [hD, if_pos hcand, hbk]; simp only; rw [hDj, if_neg h5]
              exact nx trivial (ha := ⟨rfl, slot_eq hb, rfl, rfl, trivial⟩)
        · refine runE ?_
          refine cFs (rg ?_)
          refine addE ((k + 1 : Nat) : Int) ?_
          have hb : bestJ a out (k + 1) = bestJ a out k := by
            simp only [bestJ]
            rw [hD, if_neg (fun hc => h3 hc.2)]
          exact nx trivial (ha := ⟨rfl, slot_eq hb, rfl, rfl, trivial⟩)
    · have hka : k = a.length := by omega
      subst hka
      refine cFx (sq (sg ?_))
      refine ltE (fun h2 => ?_) (fun h2 => ?_)
      · have hbk : bestJ a out a.length = none := by
          cases e : bestJ a out a.length with
          | none => rfl
          | some j => rw [e] at h2; simp only [slotJ] at h2; omega
        refine cT (rr ?_)
        have hrr : refOf a = none := by
          rw [← hgo]
          obtain ⟨m, hm⟩ : ∃ m, a.length - out.length = m + 1 := ⟨a.length - out.length - 1, by omega⟩
          show refGo a (a.length - out.length) out = none
          rw [hm, refGo, hbk]
        refine ret2 ?_
        rw [hrr]
        exact ⟨none, 0, rfl, Sl.nil _⟩
      · obtain ⟨j, hbk⟩ : ∃ j, bestJ a out a.length = some j := by
          cases e : bestJ a out a.length with
          | none => rw [e] at h2; simp only [slotJ] at h2; omega
          | some j => exact ⟨j, rfl⟩
        have hj := bestJ_lt hbk
        obtain ⟨b1, o1, A1, c1, A2, c2, rfl, hc, hn, hrf, htr⟩ := ha.item hj
        have hDj : a.getD j dI = a[j] := by simp [hj]
        refine cFs (rg ?_)
        refine ix j hj (hi := by rw [hbk]; rfl) ?_
        refine ldv hc.1 ?_
        refine bsl fun b3 => ?_
        refine app 0 (fun A' c' => ?_) (hlim := by show (out.length + 1) * 16 ≤ _; omega)
        refine runE ?_
        refine nxs (out ++ [a[j].name], A', c') ⟨?_, ?_, ?_⟩ ?_ (hh := ?_) (ha := ?_)
        · rw [← hgo]
          obtain ⟨m, hm⟩ : ∃ m, a.length - out.length = m + 1 := ⟨a.length - out.length - 1, by omega⟩
          show refGo a (a.length - (out ++ [a[j].name]).length) _ = refGo a (a.length - out.length) out
          rw [hm, refGo, hbk]
          simp only
          rw [hDj, List.length_append, List.length_singleton]
          congr 1
          omega
        · simp; omega
        · intro t ht
          rcases List.mem_append.1 ht with ht | ht
          · exact hob t ht
          · simp at ht; subst ht; exact hn
        · simp; omega
        · exact row_snoc
        · exact ⟨sl_snoc, rfl, trivial⟩
  · have h0 : out.length = a.length := by
      have h' : ¬ (out.length : Int) < (a.length : Int) := h
      have h2 : out.length ≤ a.length := hol
      omega
    refine cFx ?_
    refine efrz 0 fun g hg hs => ?_
    refine rr ?_
    have hrr : refOf a = some out := by
      rw [← hgo]
      show refGo a (a.length - out.length) out = _
      rw [h0, Nat.sub_self, refGo]
    refine ret2 ?_
    rw [hrr]
    exact ⟨A4, c4, rfl, Sl.ofTexts hs rfl hob (by show out.length ≤ LB; unfold LB; omega)⟩
end Go.Hog

