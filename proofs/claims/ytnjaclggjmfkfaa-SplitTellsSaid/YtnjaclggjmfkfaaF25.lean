/- Contracts: split.unlike, split.rising. -/
import Derived.Test.YtnjaclggjmfkfaaMO
import Derived.Test.YtnjaclggjmfkfaaF24
set_option linter.unusedVariables false
set_option linter.unusedSimpArgs false
set_option maxRecDepth 100000
set_option maxHeartbeats 1000000
namespace Go.Hog
open Go.RowKit Rp Go.Proofs
theorem splitUnlike {w : World} {f : View} (hv : On f w) {A : Option Addr} {c : Nat} {a : List Item} (ha : Sl f A c a) (h12 : a.length ≤ 12) :
    Con Try.prog 21 [.slice A a.length c] w (Ret w f fun _ v => v = .bool (decide (names a).Nodup)) := by
  refine enterC hv Try.call21 Try.func21 ?_
  have hsm : a.length ≤ 1000000 := by omega
  have hn12 : (names a).length ≤ 12 := by rw [namesLen]; exact h12
  have hsl : (sortS (names a)).length ≤ 1000000 := by rw [sortS_len]; omega
  refine sgE ?_
  refine sg ?_
  refine callM0 (vs := [.slice A a.length c]) [] (fun w hon hgi => itemNames hon ha hsm) (fun v g L' hs hR => ?_)
  obtain ⟨A3, c3, rfl, rfl⟩ := hR
  refine runE ?_
  refine efg [(0, .slice A a.length c), (3, .slice A3 (names a).length c3)] [sRow A3 c3 (names a)] fun ρ => ?_
  refine sg ?_
  refine callM0 (vs := [.slice A3 (names a).length c3]) [sRow A3 c3 (names a)] (fun w hon hgi => sortC hn12 hon hgi) (fun v g2 L' hs2 hR => ?_)
  subst hR
  refine runE ?_
  rw [← sortS_len (names a)]
  refine efg [(0, .slice A a.length c), (3, .slice A3 (sortS (names a)).length c3)] [sRow A3 c3 (sortS (names a))] fun ρ => ?_
  refine sg ?_
  refine callM0 (vs := [.slice A3 (sortS (names a)).length c3]) [sRow A3 c3 (sortS (names a))] (fun w hon hgi => compactS hsl hon hgi) (fun v g3 L' hs3 hR => ?_)
  obtain ⟨rfl, rfl⟩ := hR
  refine eqIE (fun h => ?_) (fun h => ?_)
  · refine ew_ret ?_
    exact ret1 (bT ((unlike_iff a).1 h))
  · refine ew_ret ?_
    exact ret1 (bF (fun e => h ((unlike_iff a).2 e)))

def initR (b : Nat) (l : List Str) (A : Option Addr) (c : Nat) (_ : View) (L' : List HE) (v : Value) : Prop := ∃ l', L' = sobj b l' A c ∧ Hp (fun x y : Str => x < y) l'.length l' ∧ l'.Perm l
theorem initRest {b : Nat} {l : List Str} {A : Option Addr} {c : Nat} {f : View} {w : World} (hlim : l.length ≤ 1000000) (hv : On f w) (hg : Given f (sobj b l A c) w) :
    Con Try.prog 37 [srv b] w (RetM w f (sobj b l A c) (initR b l A c)) := heapInit (restC b) hlim hv hg
theorem splitRising {w : World} {f : View} (hv : On f w) {A : Option Addr} {c : Nat} {a : List Str} (ha : Sl f A c a) (hsm : a.length ≤ 1000) :
    Con Try.prog 22 [.slice A a.length c] w (RetM w f [] fun _ L' v => ∃ A' c', v = .slice A' (sortS a).length c' ∧ L' = [sRow A' c' (sortS a)]) := by
  refine enterM (L := []) hv (Given.nil _ _) Try.call22 Try.func22 ?_
  have hsm2 : a.length ≤ 1000000 := by omega
  refine sgE ?_
  refine sg ?_
  refine callM0 (vs := [.slice A a.length c]) [] (fun w hon hgi => cloneS hon ha hsm2) (fun v g L' hs hR => ?_)
  obtain ⟨A6, c6, rfl, rfl⟩ := hR
  refine alloc fun b3 => ?_
  refine stE 0 ?_
  refine efg [(3, .pointer (some ⟨b3, 0, none⟩))] (sobj b3 a A6 c6) fun ρ => ?_
  refine sg ?_
  refine callM0 (vs := [srv b3]) (sobj b3 a A6 c6) (fun w hon hgi => initRest hsm2 hon hgi) (fun v g2 L' hs2 hR => ?_)
  obtain ⟨l, rfl, hh, hp⟩ := hR
  refine runE ?_
  refine sgE ?_
  refine enilrow 9 1 ?_
  refine eperm (L' := sobj b3 l A6 c6 ++ [sRow none 0 []]) (List.perm_append_comm (l₁ := [sRow none 0 []])) ?_
  refine efg [(4, .slice none 0 0), (3, .pointer (some ⟨b3, 0, none⟩))] (sobj b3 l A6 c6 ++ [sRow none 0 []]) fun ρ => ?_
  refine sqJ (σ := List Str × Option Addr × Nat × View) (fun s => [(4, .slice s.2.1 s.1.length s.2.2.1)]) (fun s => s.2.2.2) (fun s => [sRow s.2.1 s.2.2.1 s.1]) (fun s => s.1 = sortS a) ?_ ?_
  case refine_2 =>
    rintro ⟨out, A7, c7, g2⟩ ρ ho
    replace ho : out = sortS a := ho
    subst ho
    refine sgE ?_
    refine ew_ret ?_
    exact ret1M ⟨A7, c7, rfl, rfl⟩
  refine bk ?_
  refine lp (σ := List Str × List Str × Option Addr × Nat × View) (fun s => [(4, .slice s.2.2.1 s.1.length s.2.2.2.1), (3, .pointer (some ⟨b3, 0, none⟩))]) (fun s => s.2.2.2.2) (fun s => sobj b3 s.2.1 A6 c6 ++ [.row s.2.2.1 s.1.length s.2.2.2.1 9 1 (s.1.map str)]) (fun s => Hp (fun x y : Str => x < y) s.2.1.length s.2.1 ∧ (s.1 ++ s.2.1).Perm a ∧ SortedS s.1 ∧ ∀ x ∈ s.1, ∀ y ∈ s.2.1, ¬ y < x) (fun s => s.2.1.length) ([], l, none, 0, g2) ⟨hh, hp, List.Pairwise.nil, fun x hx => by cases hx⟩ ?_
  rintro ⟨out, l2, A7, c7, g3⟩ ρ ⟨hh2, hp2, hs3, hlt2⟩
  replace hh2 : Hp (fun x y : Str => x < y) l2.length l2 := hh2
  replace hp2 : (out ++ l2).Perm a := hp2
  replace hs3 : SortedS out := hs3
  replace hlt2 : ∀ x ∈ out, ∀ y ∈ l2, ¬ y < x := hlt2
  have htot := hp2.length_eq
  rw [List.length_append] at htot
  show EW _ _ _ _ _ (ups ρ [(4, .slice A7 out.length c7), (3, .pointer (some ⟨b3, 0, none⟩))]) g3 (sobj b3 l2 A6 c6 ++ [.row A7 out.length c7 9 1 (out.map str)])
  refine sq (sg ?_)
  refine ldo 0 ?_
  have hcl : ∀ w, On g3 w → Given g3 (sobj b3 l2 A6 c6) w → Con Try.prog 38 [.slice A6 l2.length c6] w (RetM w g3 (sobj b3 l2 A6 c6) (lenSR b3 l2 A6 c6)) := fun w hon hgi => lenRest hon hgi
  apply callM (sobj b3 l2 A6 c6) [HE.row A7 out.length c7 9 1 (out.map str)] hcl
  intro v g4 L' hs4 hR
  obtain ⟨rfl, rfl⟩ := hR
  refine gtE (fun h => ?_) (fun h => ?_)
  case refine_2 =>
    have h0 : l2 = [] := List.eq_nil_of_length_eq_zero (by omega)
    subst h0
    rw [List.append_nil] at hp2
    refine ewL (L' := [.row A7 out.length c7 9 1 (out.map str)]) (fun _ h => h.sublist (List.sublist_append_right _ _)) ?_
    refine cFx ?_
    exact jn (out, A7, c7, g4) (sortS_of hp2 hs3)
  have h0 : 0 < l2.length := by omega
  have hlim : l2.length ≤ 1000000 := by omega
  refine cTs (bk ?_)
  refine efg [(4, .slice A7 out.length c7), (3, .pointer (some ⟨b3, 0, none⟩))] (sobj b3 l2 A6 c6 ++ [.row A7 out.length c7 9 1 (out.map str)]) fun ρ => ?_
  refine rg ?_
  refine callM (vs := [srv b3]) (sobj b3 l2 A6 c6) [.row A7 out.length c7 9 1 (out.map str)] (fun w hon hgi => popRest h0 hlim hh2 hon hgi) (fun v g5 L' hs5 hR => ?_)
  obtain ⟨x, l3, rfl, rfl, hh3, hp3, hmin⟩ := hR
  refine bsl fun b42 => ?_
  refine app 2 (fun A8 c8 => ?_) (hi := rfl) (hlim := by show (out.length + 1) * 16 ≤ _; omega)
  refine runE ?_
  have hl3 := hp3.length_eq
  rw [List.length_cons] at hl3
  refine nxs (out ++ [x], l3, A8, c8, g5) ⟨hh3, ?_, ?_, ?_⟩ (by show l3.length < l2.length; omega) (hh := ?_) (ha := ?_)
  · show ((out ++ [x]) ++ l3).Perm _
    rw [List.append_assoc]
    exact ((hp3.symm).append_left out).trans hp2
  · show SortedS (out ++ [x])
    refine List.pairwise_append.2 ⟨hs3, List.pairwise_singleton _ _, fun o ho y hy => ?_⟩
    rw [List.mem_singleton] at hy
    subst hy
    exact hlt2 o ho y (hp3.mem_iff.2 (by simp))
  · show ∀ o ∈ out ++ [x], ∀ y ∈ l3, ¬ y < o
    intro o ho y hy
    have hy2 : y ∈ l2 := hp3.mem_iff.2 (List.mem_cons_of_mem _ hy)
    rcases List.mem_append.1 ho with ho | ho
    · exact hlt2 o ho y hy2
    · rw [List.mem_singleton] at ho
      subst ho
      exact hmin y hy2
  · show sobj b3 l3 A6 c6 ++ [HE.row A8 (out ++ [x]).length c8 _ 1 ((out ++ [x]).map str)] = _
    rw [List.length_append, List.map_append]
    rfl
  · refine ⟨?_, rfl, trivial⟩
    show Value.slice A8 (out.length + 1) c8 = .slice A8 (out ++ [x]).length c8
    rw [List.length_append]
    rfl
end Go.Hog
