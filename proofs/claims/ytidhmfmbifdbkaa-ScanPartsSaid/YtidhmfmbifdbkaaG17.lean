/- ScanParts answers true. -/
import Derived.Test.YtidhmfmbifdbkaaE26
import Derived.Test.YtidhmfmbifdbkaaE23
import Derived.Test.YtidhmfmbifdbkaaS19
set_option linter.unusedVariables false
set_option linter.unusedSimpArgs false
set_option maxRecDepth 100000
set_option maxHeartbeats 1000000
namespace Go.Hog
open Go.RowKit Rp Go.Proofs
theorem scanParts {w : World} {f : View} (hv : On f w) (hm : ML f) {a b u : Str} (ha0 : a.length ≤ LB) (hb0 : b.length ≤ LB) (hu0 : u.length ≤ LB) :
    Con Try.prog 3 [str a, str b, str u] w (Ret w f fun _ v => v = .bool true) := by
  refine enterC hv Try.call3 Try.func3 ?_
  refine sgE ?_
  refine sq (sg ?_)
  refine Go.Hog.gt (fun g1 => ?_) (fun g1 => ?_)
  · refine runE ?_
    refine cT (sg ?_)
    refine callV (.bool true) (vs := []) (fun w g hs _ hon => awake8 hon (hm.mono hs)) ?_
    refine runE ?_
    refine ew_ret ?_
    exact ret1 rfl
  refine Go.Hog.gt (fun g2 => ?_) (fun g2 => ?_)
  · refine runE ?_
    refine cT (sg ?_)
    refine callV (.bool true) (vs := []) (fun w g hs _ hon => awake8 hon (hm.mono hs)) ?_
    refine runE ?_
    refine ew_ret ?_
    exact ret1 rfl
  refine Go.Hog.gt (fun g3 => ?_) (fun g3 => ?_)
  · refine runE ?_
    refine cT (sg ?_)
    refine callV (.bool true) (vs := []) (fun w g hs _ hon => awake8 hon (hm.mono hs)) ?_
    refine runE ?_
    refine ew_ret ?_
    exact ret1 rfl
  refine eqSE (fun hu => ?_) (fun hu => ?_)
  · refine cT (sg ?_)
    refine callV (.bool true) (vs := []) (fun w g hs _ hon => awake8 hon (hm.mono hs)) ?_
    refine runE ?_
    refine ew_ret ?_
    exact ret1 rfl
  refine cFs ?_
  have hl : 0 < u.length := List.length_pos_iff.2 hu
  have hab : (a ++ b).length = a.length + b.length := List.length_append
  have hplx := places_len a u
  have hply := places_len b u
  have hplz := places_len (a ++ b) u
  refine efg [(0, str a), (1, str b), (2, str u)] [] fun ρ => ?_
  refine sg ?_
  refine callMo (vs := [str a, str u]) (R := fun L' v => ∃ A' c', v = .slice A' (placesI a u).length c' ∧ L' = [iRow A' c' (placesI a u)]) (fun w g hs hsn hon => scanPlaces hon (hm.mono hs) (by omega)) (fun v L' hR => ?_)
  obtain ⟨A7, c7, rfl, rfl⟩ := hR
  refine callMo (vs := [str b, str u]) (R := fun L' v => ∃ A' c', v = .slice A' (placesI b u).length c' ∧ L' = [iRow A' c' (placesI b u)]) (fun w g hs hsn hon => scanPlaces hon (hm.mono hs) (by omega)) (fun v L' hR => ?_)
  obtain ⟨A8, c8, rfl, rfl⟩ := hR
  refine cat (s := a) (u := b) (by omega) ?_
  refine callMo (vs := [str (a ++ b), str u]) (R := fun L' v => ∃ A' c', v = .slice A' (placesI (a ++ b) u).length c' ∧ L' = [iRow A' c' (placesI (a ++ b) u)]) (fun w g hs hsn hon => scanPlaces hon (hm.mono hs) (by omega)) (fun v L' hR => ?_)
  obtain ⟨A9, c9, rfl, rfl⟩ := hR
  refine runE ?_
  obtain ⟨Y, O, hz, hO, hY⟩ := parts (a := a) (b := b) hu
  have hzs := places_sorted (a ++ b) u
  have hzm : ∀ x ∈ placesI (a ++ b) u, ∃ j : Nat, x = j ∧ j + u.length ≤ (a ++ b).length ∧ ((a ++ b).drop j).take u.length = u := fun x hx => by
    obtain ⟨j, h1, _, h2, h3⟩ := mem_places.1 hx
    exact ⟨j, h1, h2, h3⟩
  have hxm : ∀ n ∈ placesI a u, -9223372036854775808 ≤ n ∧ n ≤ 9223372036854775807 := fun n hn => by
    obtain ⟨j, rfl, _, h2, _⟩ := mem_places.1 hn
    omega
  have hzb : ∀ n ∈ placesI (a ++ b) u, -9223372036854775808 ≤ n ∧ n ≤ 9223372036854775807 := fun n hn => by
    obtain ⟨j, rfl, _, h2, _⟩ := mem_places.1 hn
    omega
  have hov : a.drop (a.length + 1 - u.length) ++ b.take (min b.length (u.length - 1)) = overL a b u := rfl
  have hol : (overL a b u).length ≤ 400 := by
    rw [← hov, List.length_append, List.length_drop, List.length_take]; omega
  have hpo := places_len (overL a b u) u
  refine efg [(7, .slice A7 (placesI a u).length c7), (8, .slice A8 (placesI b u).length c8), (9, .slice A9 (placesI (a ++ b) u).length c9), (0, str a), (1, str b), (2, str u)] [iRow A9 c9 (placesI (a ++ b) u), iRow A8 c8 (placesI b u), iRow A7 c7 (placesI a u)] fun ρ => ?_
  refine sQ ?_
  refine sub ((a.length : Int) - (u.length : Int)) ?_
  refine add ((a.length : Int) - (u.length : Int) + 1) ?_
  refine maxI (a := 0) (b := (a.length : Int) - (u.length : Int) + 1) ((a.length + 1 - u.length : Nat) : Int) (by split <;> omega) ?_
  refine slSL (s := a) (a.length + 1 - u.length) (by omega) ?_
  refine sub ((u.length - 1 : Nat) : Int) ?_
  refine minI (a := (b.length : Nat)) (b := (u.length - 1 : Nat)) ((min b.length (u.length - 1) : Nat) : Int) (by split <;> omega) ?_
  refine slSH (s := b) (min b.length (u.length - 1)) (Nat.min_le_left _ _) ?_
  refine cat (s := a.drop (a.length + 1 - u.length)) (u := b.take (min b.length (u.length - 1))) (by rw [List.length_drop, List.length_take]; omega) ?_
  rw [hov]
  refine runE ?_
  refine efg [(10, str (overL a b u)), (7, .slice A7 (placesI a u).length c7), (8, .slice A8 (placesI b u).length c8), (9, .slice A9 (placesI (a ++ b) u).length c9), (0, str a), (1, str b), (2, str u)] [iRow A9 c9 (placesI (a ++ b) u), iRow A8 c8 (placesI b u), iRow A7 c7 (placesI a u)] fun ρ => ?_
  refine sg ?_
  refine add (((placesI a u).length + (placesI b u).length : Nat) : Int) ?_
  refine callMo (vs := [str (overL a b u), str u]) (R := fun L' v => ∃ A' c', v = .slice A' (placesI (overL a b u) u).length c' ∧ L' = [iRow A' c' (placesI (overL a b u) u)]) (fun w g hs hsn hon => scanPlaces hon (hm.mono hs) (by omega)) (fun v L' hR => ?_)
  obtain ⟨A67, c67, rfl, rfl⟩ := hR
  have hzl : (placesI (a ++ b) u).length = (placesI a u).length + (placesI b u).length + (placesI (overL a b u) u).length := by
    rw [hz, List.length_append, List.length_append]; omega
  have hzt : (placesI (a ++ b) u).take (placesI a u).length = placesI a u := by
    rw [hz, List.append_assoc, List.take_left]
  refine addE (((placesI (a ++ b) u).length : Nat) : Int) ?_
  refine ewL (L' := [iRow A9 c9 (placesI (a ++ b) u), iRow A7 c7 (placesI a u)]) (fun _ h => h.sublist (.cons _ (.cons_cons _ (.cons _ (List.Sublist.refl _))))) ?_
  generalize hzz : placesI (a ++ b) u = z at hzs hzm hzb hzl hzt hplz
  generalize hxx : placesI a u = x at hxm hzl hzt hplx
  refine efg [(11, i64 (z.length : Nat)), (7, .slice A7 x.length c7), (9, .slice A9 z.length c9), (0, str a), (1, str b), (2, str u)] [iRow A9 c9 z, iRow A7 c7 x] fun ρ => ?_
  refine sq (sg ?_)
  refine neIE (fun h => absurd rfl h) (fun _ => ?_)
  refine cFs ?_
  refine erowF 0 fun hrow => ?_
  have hzc := hrow.2.1
  refine sqJ (σ := Unit) (fun _ => [(7, .slice A7 x.length c7), (9, .slice A9 z.length c9)]) (fun _ => f) (fun _ => [iRow A9 c9 z, iRow A7 c7 x]) (fun _ => True) ?_ ?_
  case refine_2 =>
    rintro ⟨⟩ ρ _
    refine sg ?_
    refine minI (a := (x.length : Nat)) (b := (z.length : Nat)) ((x.length : Nat) : Int) (by split <;> omega) ?_
    refine slH x.length (show x.length ≤ c9 by omega) ?_
    refine callV (.bool true) (vs := [.slice A7 x.length c7, .slice A9 x.length c9]) (fun w g' hs' hsn hon => ?_) ?_
    · have h1 : Sl g' A9 c9 z := Sl.ofInts (hsn _ (.head _)) hzb (by unfold LB; omega)
      have h2 := h1.take x.length
      rw [hzt] at h2
      exact sameI hon (Sl.ofInts (hsn _ (.tail _ (.head _))) hxm (by unfold LB; omega)) h2
    refine callV (.bool true) (vs := []) (fun w g hs _ hon => awake8 hon (hm.mono hs)) ?_
    refine runE ?_
    refine ew_ret ?_
    exact ret1 rfl
  refine sgE (bk ?_)
  refine lpn z.length (fun i => [(12, i64 i), (7, .slice A7 x.length c7), (9, .slice A9 z.length c9), (0, str a), (1, str b), (2, str u)]) (fun _ => True) trivial ?_
  intro i ρ hi _
  refine sq (sg ?_)
  refine ltE (fun h => ?_) (fun h => ?_)
  case refine_2 =>
    refine cFx ?_
    exact jn () trivial
  have h1 : i < z.length := by omega
  obtain ⟨j, hj, hj1, hj2⟩ := hzm _ (List.getElem_mem h1)
  rw [hab] at hj1
  have hci : (z.map numV)[0 + i * 1]? = some (i64 (j : Int)) := by
    rw [show 0 + i * 1 = i by omega, List.getElem?_map, List.getElem?_eq_getElem h1, hj]; rfl
  have htk : ((a ++ b).take (j + u.length)).drop j = u := by
    rw [List.drop_take, show j + u.length - j = u.length by omega]; exact hj2
  have hj1 : j + u.length ≤ (a ++ b).length := by omega
  obtain ⟨b9, rfl⟩ := hrow.2.2.2.1 (by omega)
  have n1 : ¬ ((j : Int) < 0) := by omega
  have n2 : ¬ (((a.length + b.length : Nat) : Int) < ((j + u.length : Nat) : Int)) := by omega
  refine cTs (sq (bk (sQ ?_)))
  refine Go.Hog.gt (fun h0 => ?_) (fun h0 => ?_)
  · have h2 : i - 1 < z.length := by omega
    obtain ⟨j', hj', _, _⟩ := hzm _ (List.getElem_mem h2)
    have hci' : (z.map numV)[0 + (i - 1) * 1]? = some (i64 (j' : Int)) := by
      rw [show 0 + (i - 1) * 1 = i - 1 by omega, List.getElem?_map, List.getElem?_eq_getElem h2, hj']; rfl
    have hlt := List.pairwise_iff_getElem.1 hzs (i - 1) i h2 h1 (by omega)
    rw [hj, hj'] at hlt
    have n3 : ¬ ((j : Int) ≤ (j' : Int)) := by omega
    refine sub ((i - 1 : Nat) : Int) ?_
    refine ix (i - 1) h2 ?_
    refine ldr 0 hci' ?_
    refine ix i h1 ?_
    refine ldr 0 hci ?_
    refine Go.Hog.ge (fun h => absurd h n3) (fun _ => ?_)
    refine rfg [(82, .bool true), (92, .bool false), (12, i64 i), (9, .slice (some ⟨b9, 0, none⟩) z.length c9), (7, .slice A7 x.length c7), (0, str a), (1, str b), (2, str u)] [iRow (some ⟨b9, 0, none⟩) c9 z, iRow A7 c7 x] fun ρ => ?_
    refine ix i h1 ?_
    refine ldr 0 hci ?_
    refine Go.Hog.lt (fun h => absurd h n1) (fun _ => ?_)
    refine rfg [(94, .bool false), (99, .bool false), (12, i64 i), (9, .slice (some ⟨b9, 0, none⟩) z.length c9), (7, .slice A7 x.length c7), (0, str a), (1, str b), (2, str u)] [iRow (some ⟨b9, 0, none⟩) c9 z, iRow A7 c7 x] fun ρ => ?_
    refine ix i h1 ?_
    refine ldr 0 hci ?_
    refine add ((j + u.length : Nat) : Int) ?_
    refine add ((a.length + b.length : Nat) : Int) ?_
    refine Go.Hog.gt (fun h => absurd h n2) (fun _ => ?_)
    refine rfg [(101, .bool false), (114, .bool false), (12, i64 i), (9, .slice (some ⟨b9, 0, none⟩) z.length c9), (7, .slice A7 x.length c7), (0, str a), (1, str b), (2, str u)] [iRow (some ⟨b9, 0, none⟩) c9 z, iRow A7 c7 x] fun ρ => ?_
    refine cat (s := a) (u := b) (by omega) ?_
    refine ix i h1 ?_
    refine ldr 0 hci ?_
    refine ix i h1 ?_
    refine ldr 0 hci ?_
    refine add ((j + u.length : Nat) : Int) ?_
    refine slSB (s := a ++ b) j (j + u.length) (by omega) hj1 ?_
    rw [htk]
    refine neSE (fun h => absurd rfl h) (fun _ => ?_)
    refine cFs (rg ?_)
    refine addE ((i + 1 : Nat) : Int) ?_
    exact nx trivial
  · refine rfg [(81, .bool false), (12, i64 i), (9, .slice (some ⟨b9, 0, none⟩) z.length c9), (7, .slice A7 x.length c7), (0, str a), (1, str b), (2, str u)] [iRow (some ⟨b9, 0, none⟩) c9 z, iRow A7 c7 x] fun ρ => ?_
    refine ix i h1 ?_
    refine ldr 0 hci ?_
    refine Go.Hog.lt (fun h => absurd h n1) (fun _ => ?_)
    refine rfg [(94, .bool false), (99, .bool false), (12, i64 i), (9, .slice (some ⟨b9, 0, none⟩) z.length c9), (7, .slice A7 x.length c7), (0, str a), (1, str b), (2, str u)] [iRow (some ⟨b9, 0, none⟩) c9 z, iRow A7 c7 x] fun ρ => ?_
    refine ix i h1 ?_
    refine ldr 0 hci ?_
    refine add ((j + u.length : Nat) : Int) ?_
    refine add ((a.length + b.length : Nat) : Int) ?_
    refine Go.Hog.gt (fun h => absurd h n2) (fun _ => ?_)
    refine rfg [(101, .bool false), (114, .bool false), (12, i64 i), (9, .slice (some ⟨b9, 0, none⟩) z.length c9), (7, .slice A7 x.length c7), (0, str a), (1, str b), (2, str u)] [iRow (some ⟨b9, 0, none⟩) c9 z, iRow A7 c7 x] fun ρ => ?_
    refine cat (s := a) (u := b) (by omega) ?_
    refine ix i h1 ?_
    refine ldr 0 hci ?_
    refine ix i h1 ?_
    refine ldr 0 hci ?_
    refine add ((j + u.length : Nat) : Int) ?_
    refine slSB (s := a ++ b) j (j + u.length) (by omega) hj1 ?_
    rw [htk]
    refine neSE (fun h => absurd rfl h) (fun _ => ?_)
    refine cFs (rg ?_)
    refine addE ((i + 1 : Nat) : Int) ?_
    exact nx trivial
end Go.Hog
