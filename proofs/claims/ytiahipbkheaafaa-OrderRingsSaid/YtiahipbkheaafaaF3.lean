/- Contracts: chapter 10's own answer. -/
import Derived.Test.YtiahipbkheaafaaF2
set_option linter.unusedVariables false
set_option linter.unusedSimpArgs false
set_option maxRecDepth 100000
namespace Go.Hog
open Go.RowKit Rp Go.Proofs

theorem unlike10 {w : World} {f : View} (hv : On f w) {A : Option Addr} {c : Nat} {a : List Item} (ha : Sl f A c a) :
    Con Try.prog 15 [.slice A a.length c] w (Ret w f fun _ v => v = .bool (decide (names a).Nodup)) := by
  refine enterC hv Try.call15 Try.func15 ?_
  have hlim := ha.len_lt
  have hnd : (names a).Nodup ↔ ∀ i j (hi : i < a.length) (hj : j < a.length), j < i → a[j].name ≠ a[i].name := by
    unfold names
    rw [List.Nodup, List.pairwise_iff_getElem]
    simp only [List.length_map, List.getElem_map]
    exact ⟨fun h i j hi hj hji => h j i hj hi hji, fun h i j hi hj hij => h j i hj hi hij⟩
  refine sgE (sq (sgE (bk ?_)))
  refine lpn a.length (fun k => [(3, i64 k), (0, .slice A a.length c)]) (fun k => ∀ i j (hi : i < a.length) (hj : j < a.length), i < k → j < i → a[j].name ≠ a[i].name) (fun i j hi hj h => by omega) ?_
  intro k ρ hk hi
  refine sq (sg ?_)
  refine ltE (fun h => ?_) (fun h => ?_)
  · have h1 : k < a.length := by omega
    refine cTs (sq (bk (sgE (bk ?_))))
    refine lpn k (fun j => [(4, i64 j), (3, i64 k), (0, .slice A a.length c)]) (fun m => ∀ j (hj : j < a.length), j < m → a[j].name ≠ a[k].name) (fun j hj h => by omega) ?_
    intro m ρ hm hin
    refine sq (sg ?_)
    refine ltE (fun h => ?_) (fun h => ?_)
    · have h2 : m < a.length := by omega
      obtain ⟨b1, o1, A1, c1, A2, c2, rfl, hc, _, _, _⟩ := ha.item h1
      obtain ⟨b2, o2, A3, c3, A4, c4, e2, hc2, _, _, _⟩ := ha.item h2
      cases e2
      refine cTs (sq (bk (sQ ?_)))
      refine ix m h2 ?_
      refine ldv hc2.1 ?_
      refine ix k h1 ?_
      refine ldv hc.1 ?_
      refine eqSE (fun h3 => ?_) (fun h3 => ?_)
      · refine cT (rr ?_)
        exact ret1 (bF fun hn => hnd.1 hn k m h1 h2 (by omega) h3)
      · refine cFs (rg ?_)
        refine addE ((m + 1 : Nat) : Int) ?_
        refine nx fun j hj hjm => ?_
        by_cases e : j = m
        · subst e; exact h3
        · exact hin j hj (by omega)
    · refine cFx (rg ?_)
      refine addE ((k + 1 : Nat) : Int) ?_
      refine nx fun i j hi2 hj2 hik hji => ?_
      by_cases e : i = k
      · subst e; exact hin j hj2 (by omega)
      · exact hi i j hi2 hj2 (by omega) hji
  · refine cFx (rr ?_)
    exact ret1 (bT (hnd.2 fun i j hi2 hj2 hji => hi i j hi2 hj2 (by omega) hji))

theorem get9 {w : World} {f : View} (hv : On f w) {A : Option Addr} {c : Nat} {a : List Item} {s : Str} (ha : Sl f A c a) :
    Con Try.prog 31 [.slice A a.length c, str s] w (Ret w f fun g v => ∃ cs, rp g ((getI a s).getD dI) cs ∧ v = .tuple #[.agg ⟨cs⟩, .bool (getI a s).isSome]) := by
  refine enterC hv Try.call31 Try.func31 ?_
  have hlim := ha.len_lt
  refine sg (alloc fun b0 => ?_)
  refine runE ?_
  refine sq (sgE (bk ?_))
  refine lpn a.length (fun k => [(6, i64 k), (4, .pointer (some ⟨b0, 0, none⟩)), (0, .slice A a.length c), (1, str s)]) (fun k => ∀ j (h : j < a.length), j < k → a[j].name ≠ s) (fun j h hj => by omega) ?_
  intro k ρ hk hi
  refine sq (sg ?_)
  refine ltE (fun h => ?_) (fun h => ?_)
  · have h1 : k < a.length := by omega
    obtain ⟨b1, o1, A1, c1, A2, c2, rfl, hc, hn, hr, ht⟩ := ha.item h1
    refine cTs (sq (bk (sg ?_)))
    refine ix k h1 ?_
    refine ldv hc.1 ?_
    refine eqSE (fun h3 => ?_) (fun h3 => ?_)
    · refine cT (sg ?_)
      refine ix k h1 ?_
      refine ldvA hc ?_
      refine stE 0 ?_
      refine ew_ret ?_
      have hg := getI_at h1 h3 hi
      refine retA2 0 (v := .bool true) ⟨_, ?_, by rw [hg]; rfl⟩
      rw [hg]
      exact ⟨A1, c1, A2, c2, rfl, hn, hr, ht⟩
    · refine cFs (rg ?_)
      refine addE ((k + 1 : Nat) : Int) ?_
      refine nx fun j hj hjk => ?_
      by_cases e : j = k
      · subst e; exact h3
      · exact hi j hj (by omega)
  · refine cFx (sg ?_)
    have hg : getI a s = none := by
      rw [getI_none]
      intro i him
      obtain ⟨j, hj, rfl⟩ := List.getElem_of_mem him
      exact hi j hj (by omega)
    refine bld ?_
    refine stE 0 ?_
    refine ew_ret ?_
    refine retA2 0 (v := .bool false) ⟨_, ?_, by rw [hg]; rfl⟩
    rw [hg]
    exact ⟨none, 0, none, 0, rfl, Nat.zero_le _, Sl.nil _, Sl.nil _⟩

theorem ready10 {w : World} {f : View} (hv : On f w) {A A1 A2 A3 : Option Addr} {c c1 c2 c3 : Nat} {a : List Item} {x : Item} {d : List Str} (ha : Sl f A c a) (hr : Sl f A1 c1 x.refs) (hd : Sl f A3 c3 d) :
    Con Try.prog 27 [.slice A a.length c, .agg ⟨[str x.name, .slice A1 x.refs.length c1, .slice A2 x.tree.length c2]⟩, .slice A3 d.length c3] w (Ret w f fun _ v => v = .bool (decide (ReadyI a x d))) := by
  refine enterC hv Try.call27 Try.func27 ?_
  have hlim := hr.len_lt
  refine sg (box fun b0 => ?_)
  refine runE ?_
  refine sq (sgE (bk ?_))
  refine lpn x.refs.length (fun k => [(7, i64 k), (4, .pointer (some ⟨b0, 0, none⟩)), (0, .slice A a.length c), (2, .slice A3 d.length c3)]) (fun k => ∀ j (h : j < x.refs.length), j < k → (getI a x.refs[j]).isSome = true → x.refs[j] ≠ x.name → x.refs[j] ∈ d) (fun j h hj => by omega) ?_
  intro k ρ hk hi
  refine sq (sg ?_)
  refine ldo 0 ?_
  refine ltE (fun h => ?_) (fun h => ?_)
  · have h1 : k < x.refs.length := by omega
    obtain ⟨b1, o1, rfl, cc, _⟩ := hr.text h1
    refine cTs (sq (bk (sg ?_)))
    refine ldo 0 ?_
    refine ix k h1 ?_
    refine ldv cc ?_
    refine callO (fun w g hs _ hon => get9 hon (ha.mono hs)) (fun v g hR => ?_)
    obtain ⟨cs, hcs, rfl⟩ := hR
    obtain ⟨B1, d1, B2, d2, rfl, _⟩ := hcs
    refine alloc fun b2 => ?_
    refine st 0 ?_
    refine run (dropH ?_)
    refine rw_end ?_
    cases hg : (getI a x.refs[k]).isSome with
    | false =>
      refine sQ (runE ?_)
      refine cFs (rg ?_)
      refine addE ((k + 1 : Nat) : Int) ?_
      refine nx fun j hj hjk h4 h5 => ?_
      by_cases e : j = k
      · subst e; rw [hg] at h4; cases h4
      · exact hi j hj (by omega) h4 h5
    | true =>
      refine sQ ?_
      refine ldo 0 ?_
      refine ix k h1 ?_
      refine ldv cc ?_
      refine ldo 0 ?_
      refine neS (fun h3 => ?_) (fun h3 => ?_)
      · refine ldo 0 ?_
        refine ix k h1 ?_
        refine ldv cc ?_
        refine callBE (p := x.refs[k] ∈ d) (fun w g hs _ hon => has10 hon (hd.mono hs)) (fun h4 => ?_) (fun h4 => ?_)
        · refine cFs (rg ?_)
          refine addE ((k + 1 : Nat) : Int) ?_
          refine nx fun j hj hjk h6 h5 => ?_
          by_cases e : j = k
          · subst e; exact h4
          · exact hi j hj (by omega) h6 h5
        · refine cT (rr ?_)
          exact ret1 (bF fun hn => h4 (hn _ (List.getElem_mem h1) hg h3))
      · refine runE ?_
        refine cFs (rg ?_)
        refine addE ((k + 1 : Nat) : Int) ?_
        refine nx fun j hj hjk h6 h5 => ?_
        by_cases e : j = k
        · subst e; exact absurd h5 h3
        · exact hi j hj (by omega) h6 h5
  · refine cFx (rr ?_)
    refine ret1 (bT fun r hm => ?_)
    obtain ⟨j, hj, rfl⟩ := List.getElem_of_mem hm
    exact hi j hj (by omega)
end Go.Hog
