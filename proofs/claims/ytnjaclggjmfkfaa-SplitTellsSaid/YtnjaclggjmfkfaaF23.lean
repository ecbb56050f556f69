/- Contracts: the document's scores and rank. (Printed by gen_f23.py.) -/
import Derived.Test.YtnjaclggjmfkfaaF22
import Derived.Test.YtnjaclggjmfkfaaMM
import Derived.Test.YtnjaclggjmfkfaaE21
set_option linter.unusedVariables false
set_option linter.unusedSimpArgs false
set_option maxRecDepth 100000
set_option maxHeartbeats 1000000
namespace Go.Hog
open Go.RowKit Rp Go.Proofs
theorem reachB {f : View} {A : Option Addr} {c : Nat} {a : List Item} (ha : Sl f A c a) {S : List Str} : ∀ u ∈ reachL a S, u.length ≤ LB := fun u hu => by
  obtain ⟨y, hy, e⟩ := List.mem_map.1 (reachL_mem.1 hu).names
  obtain ⟨j, hj, rfl⟩ := List.getElem_of_mem hy
  obtain ⟨_, _, _, _, _, _, _, _, hn, _⟩ := ha.item hj
  rw [← e]; exact hn
theorem reachLen (a : List Item) (S : List Str) : (reachL a S).length ≤ a.length := by
  have := (strict_nodup (reachL_sorted a S)).length_le_of_subset (l₂ := names a) (fun s hs => (reachL_mem.1 hs).names)
  rwa [namesLen] at this
theorem names_ne {a : List Item} (hnd : (names a).Nodup) {i k : Nat} (hi : i < a.length) (hk : k < a.length) : a[k].name = a[i].name ↔ i = k := by
  constructor
  · intro h
    refine Decidable.byContradiction fun hne => ?_
    have h1 : i < (names a).length := by rw [namesLen]; exact hi
    have h2 : k < (names a).length := by rw [namesLen]; exact hk
    have e1 : (names a)[i] = a[i].name := by simp [names]
    have e2 : (names a)[k] = a[k].name := by simp [names]
    rcases Nat.lt_or_gt_of_ne hne with hlt | hlt
    · exact List.pairwise_iff_getElem.1 hnd i k h1 h2 hlt (by rw [e1, e2, h])
    · exact List.pairwise_iff_getElem.1 hnd k i h2 h1 hlt (by rw [e1, e2, h])
  · intro h; subst h; rfl
theorem put_num (l : List Int) (o : Nat) (n : Int) (h : o < l.length) : putL (l.map numV) o [i64 n] = (l.set o n).map numV := by
  rw [putL1 _ _ _ (by simpa using h), List.map_set]
  rfl
theorem rep0 (a : List Item) : List.replicate a.length (0 : Int) = a.map (fun x => (scN a 0 x.name : Int)) := by
  apply List.ext_getElem
  · simp
  · intro i h1 h2
    simp [scN]
theorem ref21Scores {w : World} {f : View} (hv : On f w) {A : Option Addr} {c : Nat} {a : List Item} (ha : Sl f A c a) (hfit : FitT a) (h12 : a.length ≤ 12) :
    Con Try.prog 39 [.slice A a.length c] w (RetM w f [] fun _ L' v => ∃ A' c', v = .slice A' (scoresL a).length c' ∧ L' = [iRow A' c' (scoresL a)]) := by
  refine enterM (L := []) hv (Given.nil _ _) Try.call39 Try.func39 ?_
  refine sgE ?_
  refine sq (sg ?_)
  refine callB (p := (names a).Nodup) (vs := [.slice A a.length c]) (fun w g hs _ hon => unlike10 hon (ha.mono hs)) (fun hnd => ?_) (fun hnd => ?_)
  case refine_2 =>
    refine runE ?_
    refine cT (sgE ?_)
    refine enilrow 3 1 ?_
    refine ew_ret ?_
    have e : scoresL a = [] := by unfold scoresL; rw [if_neg hnd]
    rw [e]
    exact ret1M ⟨none, 0, rfl, rfl⟩
  refine runE ?_
  refine cFs ?_
  have hsl : scoresL a = a.map (fun x => (sc a x.name : Int)) := by unfold scoresL; rw [if_pos hnd]
  have hmk : 8 * a.length ≤ 140737488355328 ∧ a.length ≤ 140737488355328 := by omega
  refine efg [(0, .slice A a.length c)] [] fun ρ => ?_
  refine sg ?_
  refine mks a.length hmk fun b3 => ?_
  refine runE ?_
  refine efg [(3, .slice (some ⟨b3, 0, none⟩) a.length a.length), (0, .slice A a.length c)] [.row (some ⟨b3, 0, none⟩) a.length a.length 3 1 ((List.replicate a.length (0 : Int)).map numV)] (hh := by rw [List.map_replicate]; rfl) fun ρ => ?_
  refine sqJ (σ := List Int × View) (fun _ => [(3, .slice (some ⟨b3, 0, none⟩) a.length a.length)]) (fun s => s.2) (fun s => [.row (some ⟨b3, 0, none⟩) a.length a.length 3 1 (s.1.map numV)]) (fun s => s.1 = scoresL a) ?_ ?_
  case refine_2 =>
    rintro ⟨s, g⟩ ρ hs
    replace hs : s = scoresL a := hs
    subst hs
    refine sgE ?_
    refine ew_ret ?_
    refine ret1M ⟨some ⟨b3, 0, none⟩, a.length, ?_, ?_⟩
    · rw [hsl, List.length_map]; rfl
    · unfold iRow
      rw [hsl, List.length_map]
  refine sgE ?_
  refine bk ?_
  refine lp (σ := Nat × List Int × View) (fun s => [(4, i64 s.1), (3, .slice (some ⟨b3, 0, none⟩) a.length a.length), (0, .slice A a.length c)]) (fun s => s.2.2) (fun s => [.row (some ⟨b3, 0, none⟩) a.length a.length 3 1 (s.2.1.map numV)]) (fun s => s.1 ≤ a.length ∧ Sub f s.2.2 ∧ s.2.1 = a.map (fun x => (scN a s.1 x.name : Int))) (fun s => a.length - s.1) (0, List.replicate a.length 0, f) ⟨Nat.zero_le _, Sub.refl _, rep0 a⟩ ?_
  rintro ⟨k, out, g⟩ ρ ⟨hk, hsub, hout⟩
  replace hk : k ≤ a.length := hk
  replace hsub : Sub f g := hsub
  replace hout : out = a.map (fun x => (scN a k x.name : Int)) := hout
  have hol : out.length = a.length := by rw [hout, List.length_map]
  show EW _ _ _ _ _ (ups ρ [(4, i64 k), (3, .slice (some ⟨b3, 0, none⟩) a.length a.length), (0, .slice A a.length c)]) g [.row (some ⟨b3, 0, none⟩) a.length a.length 3 1 (out.map numV)]
  refine sq (sg ?_)
  refine ltE (fun h => ?_) (fun h => ?_)
  case refine_2 =>
    refine cFx ?_
    have e : k = a.length := by omega
    subst e
    exact jn (out, g) (by rw [hsl, hout]; rfl)
  have h1 : k < a.length := by omega
  have ha1 := ha.mono hsub
  obtain ⟨b1, o1, A1, c1, A2, c2, rfl, hc, hn, hr, ht⟩ := ha1.item h1
  generalize hnm : a[k].name = nm at hc hn
  refine cTs (sq (bk (sg ?_)))
  refine ix k h1 ?_
  refine ldv hc.1 ?_
  refine bsl fun b25 => ?_
  refine rfrz 0 fun g2 hs2 hsn2 => ?_
  have hS : Sl g2 (some ⟨b25, 0, none⟩) 1 [nm] := Sl.ofTexts (l := [nm]) hsn2 rfl (by simpa using hn) (by simp [LB])
  have ha2 := ha1.mono hs2
  have hS1 : [nm].length ≤ 1000 := by simp
  have hcr : ∀ w, On g2 w → Con Try.prog 48 [.slice (some ⟨b1, o1, none⟩) a.length c, .slice (some ⟨b25, 0, none⟩) 1 1] w (RetM w g2 [] fun _ => reachR a [nm]) := fun w hon => ref9Reach hon ha2 hfit h12 hS hS1
  refine callM (vs := [.slice (some ⟨b1, o1, none⟩) a.length c, .slice (some ⟨b25, 0, none⟩) 1 1]) [] [.row (some ⟨b3, 0, none⟩) a.length a.length 3 1 (out.map numV)] (fun w hon hgi => hcr w hon) (fun v g3 L' hs3 hR => ?_)
  obtain ⟨A5, c5, rfl, rfl⟩ := hR
  have ha3 := ha2.mono hs3
  have hrB := reachB ha (S := [nm])
  have hrL : (reachL a [nm]).length ≤ LB := by have := reachLen a [nm]; unfold LB; omega
  have hsc : ∀ u, scN a (k + 1) u = scN a k u + (if nm ≠ u ∧ u ∈ reachL a [nm] then 1 else 0) := fun u => by rw [scN_succ h1, hnm]
  generalize hl : reachL a [nm] = l at *
  refine runE ?_
  refine sgE ?_
  refine efg [(6, i64 0), (5, .slice A5 l.length c5), (4, i64 k), (3, .slice (some ⟨b3, 0, none⟩) a.length a.length), (0, .slice (some ⟨b1, o1, none⟩) a.length c)] [sRow A5 c5 l, .row (some ⟨b3, 0, none⟩) a.length a.length 3 1 (out.map numV)] fun ρ => ?_
  refine bk ?_
  refine lp (σ := Nat × List Int) (fun s => [(6, i64 s.1), (5, .slice A5 l.length c5), (4, i64 k), (3, .slice (some ⟨b3, 0, none⟩) a.length a.length), (0, .slice (some ⟨b1, o1, none⟩) a.length c)]) (fun _ => g3) (fun s => [sRow A5 c5 l, .row (some ⟨b3, 0, none⟩) a.length a.length 3 1 (s.2.map numV)])
    (fun s => s.1 ≤ a.length ∧ s.2.length = a.length ∧ ∀ j (hj : j < a.length), s.2[j]? = some (if j < s.1 then (scN a (k + 1) a[j].name : Int) else (scN a k a[j].name : Int))) (fun s => a.length - s.1) (0, out) ⟨Nat.zero_le _, hol, fun j hj => by rw [hout]; simp [hj]⟩ ?_
  rintro ⟨i, o2⟩ ρ ⟨hi, ho1, ho2⟩
  replace hi : i ≤ a.length := hi
  replace ho1 : o2.length = a.length := ho1
  replace ho2 : ∀ j (hj : j < a.length), o2[j]? = some (if j < i then (scN a (k + 1) a[j].name : Int) else (scN a k a[j].name : Int)) := ho2
  show EW _ _ _ _ _ (ups ρ [(6, i64 i), (5, .slice A5 l.length c5), (4, i64 k), (3, .slice (some ⟨b3, 0, none⟩) a.length a.length), (0, .slice (some ⟨b1, o1, none⟩) a.length c)]) g3 [sRow A5 c5 l, .row (some ⟨b3, 0, none⟩) a.length a.length 3 1 (o2.map numV)]
  refine sq (sg ?_)
  refine ltE (fun h => ?_) (fun h => ?_)
  case refine_2 =>
    refine ewL (L' := [.row (some ⟨b3, 0, none⟩) a.length a.length 3 1 (o2.map numV)]) (fun _ h => h.sublist (.cons _ (List.Sublist.refl _))) ?_
    refine cFx ?_
    have e : i = a.length := by omega
    subst e
    refine rg ?_
    refine addE ((k + 1 : Nat) : Int) ?_
    refine nxs (k + 1, o2, g3) ⟨h1, (hsub.trans hs2).trans hs3, ?_⟩ (by show a.length - (k + 1) < a.length - k; omega)
    show o2 = a.map (fun x => (scN a (k + 1) x.name : Int))
    apply List.ext_getElem?
    intro j
    by_cases hj : j < a.length
    · rw [ho2 j hj, if_pos hj]
      simp [hj]
    · rw [List.getElem?_eq_none (by omega), List.getElem?_eq_none (by simp; omega)]
  have hi1 : i < a.length := by omega
  obtain ⟨b1', o1', B1, d1, B2, d2, hA, hic, hin, _, _⟩ := ha3.item hi1
  injection hA with hA
  injection hA with hA1 hA2
  subst hA1 hA2
  refine cTs (bkJ (σ := List Int) (fun _ => [(6, i64 i), (5, .slice A5 l.length c5), (4, i64 k), (3, .slice (some ⟨b3, 0, none⟩) a.length a.length), (0, .slice (some ⟨b1, o1, none⟩) a.length c)]) (fun _ => g3) (fun s => [sRow A5 c5 l, .row (some ⟨b3, 0, none⟩) a.length a.length 3 1 (s.map numV)]) (fun s => s.length = a.length ∧ ∀ j (hj : j < a.length), s[j]? = some (if j < i + 1 then (scN a (k + 1) a[j].name : Int) else (scN a k a[j].name : Int))) ?_ ?_)
  case refine_2 =>
    rintro s ρ ⟨hs1, hs2⟩
    refine rg ?_
    refine addE ((i + 1 : Nat) : Int) ?_
    exact nxs (i + 1, s) ⟨hi1, hs1, hs2⟩ (by show a.length - (i + 1) < a.length - i; omega)
  have hkeep : ¬ (nm ≠ a[i].name ∧ a[i].name ∈ l) → ∀ j (hj : j < a.length), o2[j]? = some (if j < i + 1 then (scN a (k + 1) a[j].name : Int) else (scN a k a[j].name : Int)) := fun hn j hj => by
    rw [ho2 j hj]
    by_cases e : j = i
    · subst e
      rw [if_neg (Nat.lt_irrefl _), if_pos (Nat.lt_succ_self _), hsc, if_neg hn, Nat.add_zero]
    · by_cases h2 : j < i
      · rw [if_pos h2, if_pos (by omega)]
      · rw [if_neg h2, if_neg (by omega)]
  have hne : nm ≠ a[i].name ↔ i ≠ k := by
    rw [← hnm]
    exact not_congr (names_ne hnd hi1 h1)
  have hseen : ∀ g', Sub g3 g' → (∀ e ∈ [sRow A5 c5 l, HE.row (some ⟨b3, 0, none⟩) a.length a.length 3 1 (o2.map numV)], e.seen g') → Sl g' A5 c5 l := fun g' _ he => Sl.ofTexts (l := l) (he (sRow A5 c5 l) (List.mem_cons_self ..)) rfl hrB hrL
  have hcr2 : ∀ w g', Sub g3 g' → (∀ e ∈ [sRow A5 c5 l, HE.row (some ⟨b3, 0, none⟩) a.length a.length 3 1 (o2.map numV)], e.seen g') → On g' w → Con Try.prog 49 [.slice A5 l.length c5, str a[i].name] w (Ret w g' fun _ v => v = .bool (decide (a[i].name ∈ l))) := fun w g' hs he hon => hasR21 hon (hseen g' hs he)
  refine sq (rg ?_)
  refine neI (fun hik => ?_) (fun hik => ?_)
  case refine_2 =>
    refine runE ?_
    refine cFs ?_
    exact jn o2 ⟨ho1, hkeep (fun h => hik (by have := hne.1 h.1; omega))⟩
  refine ix i hi1 ?_
  refine ldv hic.1 ?_
  refine callBE hcr2 (fun hm => ?_) (fun hm => ?_)
  case refine_2 =>
    refine cFs ?_
    exact jn o2 ⟨ho1, hkeep (fun h => hm h.2)⟩
  have hoi : o2[i]? = some (scN a k a[i].name : Int) := by rw [ho2 i hi1, if_neg (Nat.lt_irrefl _)]
  have hcell : (o2.map numV)[0 + i * 1]? = some (i64 (scN a k a[i].name : Int)) := by
    rw [Nat.zero_add, Nat.mul_one, List.getElem?_map, hoi]; rfl
  have hst : (0 + i * 1) + 1 ≤ (o2.map numV).length := by rw [List.length_map]; omega
  have hlow : scN a k a[i].name ≤ 12 := by
    have := scN_le a k a[i].name
    omega
  refine cT (rg ?_)
  refine ix i hi1 ?_
  refine ldr 1 hcell ?_
  refine add ((scN a k a[i].name + 1 : Nat) : Int) ?_
  refine ix i hi1 ?_
  refine stR 1 hst ?_
  refine runE ?_
  refine jn (o2.set i ((scN a k a[i].name + 1 : Nat) : Int)) ⟨by show (o2.set i _).length = _; rw [List.length_set]; exact ho1, ?_⟩ (hh := ?_)
  · show ∀ j (hj : j < a.length), (o2.set i ((scN a k a[i].name + 1 : Nat) : Int))[j]? = some (if j < i + 1 then (scN a (k + 1) a[j].name : Int) else (scN a k a[j].name : Int))
    intro j hj
    rw [List.getElem?_set]
    by_cases e : i = j
    · subst e
      rw [if_pos rfl, if_pos (by omega), if_pos (Nat.lt_succ_self _), hsc, if_pos ⟨hne.2 (by omega), hm⟩]
    · rw [if_neg e, ho2 j hj]
      by_cases h2 : j < i
      · rw [if_pos h2, if_pos (by omega)]
      · rw [if_neg h2, if_neg (by omega)]
  · show [_, HE.row _ _ _ _ 1 ((o2.set i ((scN a k a[i].name + 1 : Nat) : Int)).map numV)] = [_, HE.row _ _ _ _ 1 _]
    rw [← put_num o2 i _ (by omega)]
    show _ = [_, HE.row _ _ _ _ 1 (putL (o2.map numV) (0 + i * 1) [i64 ((scN a k a[i].name + 1 : Nat) : Int)])]
    rw [Nat.zero_add, Nat.mul_one]
end Go.Hog
