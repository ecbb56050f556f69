/- Contracts: slices.Sort of a few texts. -/
import Derived.Test.YtidhmfmbifdbkaaS6
import Derived.Test.YtidhmfmbifdbkaaE17
import Derived.Test.YtidhmfmbifdbkaaH1
import Derived.Test.YtidhmfmbifdbkaaF4
set_option linter.unusedVariables false
set_option linter.unusedSimpArgs false
set_option maxRecDepth 100000
set_option maxHeartbeats 1000000
namespace Go.Hog
open Go.RowKit Rp Go.Proofs
theorem putL1 : ∀ (xs : List Value) (o : Nat) (v : Value), o < xs.length → putL xs o [v] = xs.set o v
  | [], o, v, h => by simp at h
  | x :: xs, 0, v, h => by cases xs <;> rfl
  | x :: xs, o + 1, v, h => by
    simp only [putL, List.set_cons_succ]
    rw [putL1 xs o v (by simpa using h)]
theorem putLs (l : List Str) (o : Nat) (s : Str) (h : o < l.length) : putL (l.map str) o [str s] = (l.set o s).map str := by
  rw [putL1 _ _ _ (by simpa using h), List.map_set]
theorem isNaNS {w : World} {f : View} (hv : On f w) {s : Str} : Con Try.prog 70 [str s] w (Ret w f fun _ v => v = .bool false) := by
  refine enterC hv Try.call70 Try.func70 ?_
  refine sgE ?_
  refine sg ?_
  refine neS (fun h => absurd rfl h) (fun _ => ?_)
  refine runE ?_
  refine ew_ret ?_
  exact ret1 rfl
theorem lessS {w : World} {f : View} (hv : On f w) {s u : Str} : Con Try.prog 59 [str s, str u] w (Ret w f fun _ v => v = .bool (decide (s < u))) := by
  refine enterC hv Try.call59 Try.func59 ?_
  refine sgE ?_
  refine sg ?_
  refine callV (.bool false) (vs := [str s]) (fun w g hs _ hon => isNaNS hon) ?_
  refine ltS (fun h => ?_) (fun h => ?_)
  · refine runE ?_
    refine ew_ret ?_
    exact ret1 (bT h)
  · refine runE ?_
    refine ew_ret ?_
    exact ret1 (bF h)
def sRow (A : Option Addr) (c : Nat) (l : List Str) : HE := .row A l.length c 9 1 (l.map str)
theorem insertionS {w : World} {f : View} {A : Option Addr} {c : Nat} {l : List Str} (hlim : l.length ≤ 1000000) (hv : On f w) (hg : Given f [sRow A c l] w) :
    Con Try.prog 53 [.slice A l.length c, i64 0, i64 (l.length : Nat)] w (RetM w f [sRow A c l] fun _ L' _ => L' = [sRow A c (sortS l)]) := by
  refine enterM hv hg Try.call53 Try.func53 ?_
  refine sg ?_
  refine addE ((1 : Nat) : Int) ?_
  refine bk ?_
  refine lp (σ := Nat × List Str) (fun s => [(6, i64 s.1), (2, i64 (l.length : Nat)), (1, i64 0), (0, .slice A l.length c)]) (fun _ => f) (fun s => [.row A l.length c 9 1 (s.2.map str)]) (fun s => 1 ≤ s.1 ∧ s.2.Perm l ∧ (∀ p q, p < q → q < s.1 → q < l.length → ¬ at_ s.2 q < at_ s.2 p)) (fun s => l.length + 1 - s.1) (1, l) ⟨Nat.le_refl _, List.Perm.refl _, fun p q h1 h2 _ => by omega⟩ ?_
  rintro ⟨i, m⟩ ρ ⟨hi1, hp, ho⟩
  replace hi1 : 1 ≤ i := hi1
  replace hp : m.Perm l := hp
  replace ho : ∀ p q, p < q → q < i → q < l.length → ¬ at_ m q < at_ m p := ho
  show EW _ _ _ _ _ (ups ρ [(6, i64 i), (2, i64 (l.length : Nat)), (1, i64 0), (0, .slice A l.length c)]) f [.row A l.length c 9 1 (m.map str)]
  refine sq (sg ?_)
  refine ltE (fun h => ?_) (fun h => ?_)
  case refine_2 =>
    refine cFx ?_
    refine ret0M ?_
    have hs : SortedS m := sorted_at fun p q h1 h2 => ho p q h1 (by have := hp.length_eq; omega) (by have := hp.length_eq; omega)
    have e := sortS_of hp hs
    subst e
    show [HE.row A l.length c _ 1 _] = [HE.row A (sortS l).length c _ 1 _]
    rw [sortS_len]
  have h1 : i < l.length := by omega
  refine erowF 0 fun hrow => ?_
  obtain ⟨b, rfl⟩ := hrow.2.2.2.1 (by omega)
  refine cTs (bkJ (σ := List Str) (fun _ => [(6, i64 i), (2, i64 (l.length : Nat)), (1, i64 0), (0, .slice (some ⟨b, 0, none⟩) l.length c)]) (fun _ => f) (fun s => [.row (some ⟨b, 0, none⟩) l.length c 9 1 (s.map str)]) (fun s => s.Perm l ∧ (∀ p q, p < q → q < i + 1 → ¬ at_ s q < at_ s p)) ?_ ?_)
  case refine_2 =>
    rintro m2 ρ ⟨hp2, ho2⟩
    refine rg ?_
    refine addE ((i + 1 : Nat) : Int) ?_
    exact nxs (i + 1, m2) ⟨by omega, hp2, fun p q a1 a2 _ => ho2 p q a1 a2⟩ (by show l.length + 1 - (i + 1) < l.length + 1 - i; omega)
  refine sgE ?_
  refine bk ?_
  refine lp (σ := Nat × List Str) (fun s => [(7, i64 s.1), (6, i64 i), (2, i64 (l.length : Nat)), (1, i64 0), (0, .slice (some ⟨b, 0, none⟩) l.length c)]) (fun _ => f) (fun s => [.row (some ⟨b, 0, none⟩) l.length c 9 1 (s.2.map str)]) (fun s => s.2.Perm l ∧ InsI s.2 i s.1) (fun s => s.1) (i, m) ⟨hp, .start fun p q a1 a2 => ho p q a1 a2 (by omega)⟩ ?_
  rintro ⟨j, m2⟩ ρ ⟨hp2, hI⟩
  replace hp2 : m2.Perm l := hp2
  replace hI : InsI m2 i j := hI
  have hjl := hI.le
  have hml := hp2.length_eq
  show EW _ _ _ _ _ (ups ρ [(7, i64 j), (6, i64 i), (2, i64 (l.length : Nat)), (1, i64 0), (0, .slice (some ⟨b, 0, none⟩) l.length c)]) f [.row (some ⟨b, 0, none⟩) l.length c 9 1 (m2.map str)]
  have hc : ∀ k, k < l.length → (m2.map str)[0 + k * 1]? = some (str (at_ m2 k)) := fun k hk => by
    have hk2 : k < m2.length := by omega
    simp [at_get hk2, hk2]
  refine sq (sQ ?_)
  refine Go.Hog.gt (fun hj => ?_) (fun hj => ?_)
  case refine_2 =>
    refine runE ?_
    refine cFx ?_
    exact jn m2 ⟨hp2, hI.stop (.inl (by omega))⟩
  have hj0 : 0 < j := by omega
  have hjL : j < l.length := by omega
  have hj1L : j - 1 < l.length := by omega
  refine ix j hjL ?_
  refine ldr 0 (hc j hjL) ?_
  refine sub ((j - 1 : Nat) : Int) ?_
  refine ix (j - 1) hj1L ?_
  refine ldr 0 (hc (j - 1) hj1L) ?_
  refine callB (p := at_ m2 j < at_ m2 (j - 1)) (vs := [str (at_ m2 j), str (at_ m2 (j - 1))]) (fun w g hs _ hon => lessS hon) (fun hlt => ?_) (fun hlt => ?_)
  case refine_2 =>
    refine runE ?_
    refine cFx ?_
    exact jn m2 ⟨hp2, hI.stop (.inr hlt)⟩
  refine runE ?_
  have e1 : putL (putL (m2.map str) (0 + j * 1) [str (at_ m2 (j - 1))]) (0 + (j - 1) * 1) [str (at_ m2 j)] = (swapL m2 j (j - 1)).map str := by
    rw [show 0 + j * 1 = j by omega, show 0 + (j - 1) * 1 = j - 1 by omega, putLs _ _ _ (by omega), putLs _ _ _ (by simp; omega)]
    rfl
  have q1 : 0 + j * 1 + [str (at_ m2 (j - 1))].length ≤ (m2.map str).length := by simp; omega
  have q2 : 0 + (j - 1) * 1 + [str (at_ m2 j)].length ≤ (putL (m2.map str) (0 + j * 1) [str (at_ m2 (j - 1))]).length := by
    rw [putL_length _ _ _ q1]; simp; omega
  refine cTs (sq (bk ?_))
  refine efg [(7, i64 j), (6, i64 i), (2, i64 (l.length : Nat)), (1, i64 0), (0, .slice (some ⟨b, 0, none⟩) l.length c)] [.row (some ⟨b, 0, none⟩) l.length c 9 1 (m2.map str)] fun ρ => ?_
  have hh0 : ∀ {L : List HE}, HeldL f [] f L := HeldL.none (Sub.refl _)
  refine eA [0, 1, 2, 3, 4, 5, 6, 7, 8, 10, 11, 12] [] (List.nil_sublist _) ?_
  refine an_takeH [0, 1, 2, 3, 4, 5, 6, 7, 8, 10, 11, 12] hh0 ?_
  refine sub ((j - 1 : Nat) : Int) ?_
  refine sub ((j - 1 : Nat) : Int) ?_
  refine ix (j - 1) hj1L ?_
  refine ix j hjL ?_
  refine rw_end ?_
  refine an_have (α := Unit) (lsA 18 [0, 1, 2, 3, 4, 5, 6, 7, 8, 9, 10, 11, 12, 13]) (fun _ => [(33, .slice (some ⟨b, 0, none⟩) l.length c), (34, i64 j), (35, .slice (some ⟨b, 0, none⟩) l.length c), (37, i64 (j - 1 : Nat)), (42, str (at_ m2 (j - 1))), (46, str (at_ m2 j)), (7, i64 j), (6, i64 i), (2, i64 (l.length : Nat)), (1, i64 0), (0, .slice (some ⟨b, 0, none⟩) l.length c)]) (fun _ => f) (fun _ => [.row (some ⟨b, 0, none⟩) l.length c 9 1 (m2.map str)]) ?_ (fun T => ?_)
  · intro _ ρ
    refine an_run1 14 ?_
    refine ix j hjL ?_
    refine aH hh0 ?_
    refine an_run1 15 ?_
    refine stR 0 (o := 0 + j * 1) (vs := [str (at_ m2 (j - 1))]) q1 ?_
    refine aH hh0 ?_
    refine an_run1 16 ?_
    refine ix (j - 1) hj1L ?_
    refine aH hh0 ?_
    refine an_run1 17 ?_
    refine stR 0 (o := 0 + (j - 1) * 1) (vs := [str (at_ m2 j)]) q2 ?_
    refine aH hh0 ?_
    refine an_done ?_
    refine efg [(7, i64 j), (6, i64 i), (2, i64 (l.length : Nat)), (1, i64 0), (0, .slice (some ⟨b, 0, none⟩) l.length c)] [.row (some ⟨b, 0, none⟩) l.length c 9 1 (putL (putL (m2.map str) (0 + j * 1) [str (at_ m2 (j - 1))]) (0 + (j - 1) * 1) [str (at_ m2 j)])] fun ρ => ?_
    rw [e1]
    refine rg ?_
    refine subE ((j - 1 : Nat) : Int) ?_
    exact nxs (j - 1, swapL m2 j (j - 1)) ⟨(swapL_perm (by omega) (by omega)).trans hp2, hI.step (by omega) hj0 hlt⟩ (by show j - 1 < j; omega)
  refine an_run2 9 13 ?_ ?_
  · refine ldr 0 (hc (j - 1) hj1L) ?_
    refine aH hh0 ?_
    refine an_run1 13 ?_
    refine ldr 0 (hc j hjL) ?_
    refine aH hh0 ?_
    exact an_use T ()
  · refine ldr 0 (hc j hjL) ?_
    refine aH hh0 ?_
    refine an_run1 9 ?_
    refine ldr 0 (hc (j - 1) hj1L) ?_
    refine aH hh0 ?_
    exact an_use T ()
end Go.Hog
