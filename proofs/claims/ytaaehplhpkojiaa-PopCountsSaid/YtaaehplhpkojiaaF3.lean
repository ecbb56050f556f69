/- Contracts: chapter 10's own answer. -/
import Derived.Test.YtaaehplhpkojiaaF2
set_option linter.unusedVariables false
set_option linter.unusedSimpArgs false
set_option maxRecDepth 100000
namespace Go.Hog
open Go.RowKit Rp Go.Proofs

theorem unlike10 {w : World} {f : View} (hv : On f w) {A : Option Addr} {c : Nat} {a : List Item} (ha : Sl f A c a) :
    Con Try.prog 20 [.slice A a.length c] w (Ret w f fun _ v => v = .bool (decide (names a).Nodup)) := by
  refine enterC hv Try.call20 Try.func20 ?_
  have hlim := ha.len_lt
  have hnd : (names a).Nodup ↔ ∀ i j (hi : i < a.length) (hj : j < a.length), j < i → a[j].name ≠ a[i].name := by
    unfold names
    rw [List.Nodup, List.pairwise_iff_getElem]
    simp only [List.length_map, List.getElem_map]
    exact ⟨fun h i j hi hj hji => h j i hj hi hji, fun h i j hi hj hij => h j i hj hi hij⟩
  refine sgE (sq (sgE (bk ?_)))
  refine lpn a.length (fun k => [(3, i64 k), (0, .slice A a.length c)]) (fun k => ∀ i j (hi : i < a.length) (hj : j < a.length), i < k → j < i → a[j].name ≠ a[i].name) (fun i j hi hj h => by omega) ?_
  intro k ρ hk hi
  refine sq (sg ?_)
  refine ltE (fun h => ?_) (fun h => ?_)
  · have h1 : k < a.length := by omega
    refine cTs (sq (bk (sgE (bk ?_))))
    refine lpn k (fun j => [(4, i64 j), (3, i64 k), (0, .slice A a.length c)]) (fun m => ∀ j (hj : j < a.length), j < m → a[j].name ≠ a[k].name) (fun j hj h => by omega) ?_
    intro m ρ hm hin
    refine sq (sg ?_)
    refine ltE (fun h => ?_) (fun h => ?_)
    · have h2 : m < a.length := by omega
      obtain ⟨b1, o1, A1, c1, A2, c2, rfl, hc, _, _, _⟩ := ha.item h1
      obtain ⟨b2, o2, A3, c3, A4, c4, e2, hc2, _, _, _⟩ := ha.item h2
      cases e2
      refine cTs (sq (bk (sQ ?_)))
      refine ix m h2 ?_
      refine ldv hc2.1 ?_
      refine ix k h1 ?_
      refine ldv hc.1 ?_
      refine eqSE (fun h3 => ?_) (fun h3 => ?_)
      · refine cT (rr ?_)
        exact ret1 (bF fun hn => hnd.1 hn k m h1 h2 (by omega) h3)
      · refine cFs (rg ?_)
        refine addE ((m + 1 : Nat) : Int) ?_
        refine nx fun j hj hjm => ?_
        by_cases e : j = m
        · subst e; exact h3
        · exact hin j hj (by omega)
    · refine cFx (rg ?_)
      refine addE ((k + 1 : Nat) : Int) ?_
      refine nx fun i j hi2 hj2 hik hji => ?_
      by_cases e : i = k
      · subst e; exact hin j hj2 (by omega)
      · exact hi i j hi2 hj2 (by omega) hji
  · refine cFx (rr ?_)
    exact ret1 (bT (hnd.2 fun i j hi2 hj2 hji => hi i j hi2 hj2 (by omega) hji))

theorem get9 {w : World} {f : View} (hv : On f w) {A : Option Addr} {c : Nat} {a : List Item} {s : Str} (ha : Sl f A c a) :
    Con Try.prog 41 [.slice A a.length c, str s] w (Ret w f fun g v => ∃ cs, rp g ((getI a s).getD dI) cs ∧ v = .tuple #[.agg ⟨cs⟩, .bool (getI a s).isSome]) := by
  refine enterC hv Try.call41 Try.func41 ?_
  have hlim := ha.len_lt
  refine sg (alloc fun b0 => ?_)
  refine runE ?_
  refine sq (sgE (bk ?_))
  refine lpn a.length (fun k => [(6, i64 k), (4, .pointer (some ⟨b0, 0, none⟩)), (0, .slice A a.length c), (1, str s)]) (fun k => ∀ j (h : j < a.length), j < k → a[j].name ≠ s) (fun j h hj => by omega) ?_
  intro k ρ hk hi
  refine sq (sg ?_)
  refine ltE (fun h => ?_) (fun h => ?_)
  · have h1 : k < a.length := by omega
    obtain ⟨b1, o1, A1, c1, A2, c2, rfl, hc, hn, hr, ht⟩ := ha.item h1
    refine cTs (sq (bk (sg ?_)))
    refine ix k h1 ?_
    refine ldv hc.1 ?_
    refine eqSE (fun h3 => ?_) (fun h3 => ?_)
    · refine cT (sg ?_)
      refine ix k h1 ?_
      refine ldvA hc ?_
      refine stE 0 ?_
      refine ew_ret ?_
      have hg := getI_at h1 h3 hi
      refine retA2 0 (v := .bool true) ⟨_, ?_, by rw [hg]; rfl⟩
      rw [hg]
      exact ⟨A1, c1, A2, c2, rfl, hn, hr, ht⟩
    · refine cFs (rg ?_)
      refine addE ((k + 1 : Nat) : Int) ?_
      refine nx fun j hj hjk => ?_
      by_cases e : j = k
      · subst e; exact h3
      · exact hi j hj (by omega)
  · refine cFx (sg ?_)
    have hg : getI a s = none := by
      rw [getI_none]
      intro i him
      obtain ⟨j, hj, rfl⟩ := List.getElem_of_mem him
      exact hi j hj (by omega)
    refine bld ?_
    refine stE 0 ?_
    refine ew_ret ?_
    refine retA2 0 (v := .bool false) ⟨_, ?_, by rw [hg]; rfl⟩
    rw [hg]
    exact ⟨none, 0, none, 0, rfl, Nat.zero_le _, Sl.nil _, Sl.nil _⟩

end Go.Hog
