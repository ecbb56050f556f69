/- Contracts: pop.Scores, pop.Above; pop.ranking is a heap of places. -/
import Derived.Test.YtaaehplhpkojiaaF17
import Derived.Test.YtaaehplhpkojiaaH1
set_option linter.unusedVariables false
set_option linter.unusedSimpArgs false
set_option maxRecDepth 100000
set_option maxHeartbeats 1000000
namespace Go.Hog
open Go.RowKit Rp Go.Proofs
def numV (n : Int) : Value := i64 n
def iRow (A : Option Addr) (c : Nat) (l : List Int) : HE := .row A l.length c 3 1 (l.map numV)
noncomputable def scoresL (a : List Item) : List Int := if (names a).Nodup then a.map (fun x => (sc a x.name : Int)) else []
theorem popScores {w : World} {f : View} (hv : On f w) {A : Option Addr} {c : Nat} {a : List Item} (ha : Sl f A c a) (hfit : FitT a) (h12 : a.length ≤ 12) :
    Con Try.prog 10 [.slice A a.length c] w (RetM w f [] fun _ L' v => ∃ A' c', v = .slice A' (scoresL a).length c' ∧ L' = [iRow A' c' (scoresL a)]) := by
  refine enterM (L := []) hv (Given.nil _ _) Try.call10 Try.func10 ?_
  refine sgE ?_
  refine sq (sg ?_)
  refine callB (p := (names a).Nodup) (vs := [.slice A a.length c]) (fun w g hs _ hon => popUnlike hon (ha.mono hs) h12) (fun hnd => ?_) (fun hnd => ?_)
  case refine_2 =>
    refine runE ?_
    refine cT (sgE ?_)
    refine enilrow 3 1 ?_
    refine ew_ret ?_
    have e : scoresL a = [] := by unfold scoresL; rw [if_neg hnd]
    rw [e]
    exact ret1M ⟨none, 0, rfl, rfl⟩
  refine runE ?_
  refine cFs ?_
  refine efg [(0, .slice A a.length c)] [] fun ρ => ?_
  refine sg ?_
  refine callM0 (vs := [.slice A a.length c]) [] (fun w hon hgi => popScores0 hon ha hfit h12) (fun v g L' hs hR => ?_)
  obtain ⟨b3, ks, rfl, rfl, hks, hz⟩ := hR
  refine runE ?_
  refine sgE ?_
  refine enilrow 3 1 ?_
  refine efg [(4, .slice none 0 0), (3, .map (some b3)), (0, .slice A a.length c)] [iRow none 0 [], .mp b3 (mapF ks (gN (sc a)))] fun ρ => ?_
  have ha1 := ha.mono hs
  have hzr : ∀ r, r ∉ ks → gN (sc a) r = i64 0 := fun r hn => by unfold gN; rw [hz r hn]; rfl
  refine sqJ (σ := Option Addr × Nat) (fun s => [(4, .slice s.1 a.length s.2)]) (fun _ => g) (fun s => [.row s.1 a.length s.2 3 1 ((a.map fun x => (sc a x.name : Int)).map numV)]) (fun _ => True) ?_ ?_
  case refine_2 =>
    rintro ⟨A', c'⟩ ρ _
    refine sgE ?_
    refine ew_ret ?_
    have e : scoresL a = a.map (fun x => (sc a x.name : Int)) := by unfold scoresL; rw [if_pos hnd]
    rw [e]
    refine ret1M ⟨A', c', ?_, ?_⟩
    · rw [List.length_map]; rfl
    · unfold iRow; rw [List.length_map]
  refine sgE ?_
  refine bk ?_
  refine lp (σ := Nat × Option Addr × Nat) (fun s => [(14, i64 s.1), (13, i64 (a.length : Nat)), (12, .slice A a.length c), (4, .slice s.2.1 s.1 s.2.2), (3, .map (some b3)), (0, .slice A a.length c)]) (fun _ => g) (fun s => [.row s.2.1 s.1 s.2.2 3 1 (((a.take s.1).map fun x => (sc a x.name : Int)).map numV), .mp b3 (mapF ks (gN (sc a)))]) (fun s => s.1 ≤ a.length) (fun s => a.length - s.1) (0, none, 0) (Nat.zero_le _) ?_
  rintro ⟨k, A', c'⟩ ρ hk
  replace hk : k ≤ a.length := hk
  show EW _ _ _ _ _ (ups ρ [(14, i64 k), (13, i64 (a.length : Nat)), (12, .slice A a.length c), (4, .slice A' k c'), (3, .map (some b3)), (0, .slice A a.length c)]) g [.row A' k c' 3 1 (((a.take k).map fun x => (sc a x.name : Int)).map numV), .mp b3 (mapF ks (gN (sc a)))]
  refine sg ?_
  refine ltE (fun h => ?_) (fun h => ?_)
  case refine_2 =>
    refine sq ?_
    have e : k = a.length := by omega
    subst e
    rw [List.take_length]
    refine ewL (L' := [.row A' a.length c' 3 1 ((a.map fun x => (sc a x.name : Int)).map numV)]) (fun _ h => h.sublist (.cons_cons _ (.cons _ (List.Sublist.refl _)))) ?_
    refine cFx ?_
    exact jn (A', c') trivial
  have h1 : k < a.length := by omega
  obtain ⟨b1, o1, A1, c1, A2, c2, rfl, hc, hn, hr, ht⟩ := ha1.item h1
  refine sq (cTs (sq (bk (sg ?_))))
  refine ix k h1 ?_
  refine ldvA hc ?_
  refine alloc fun bi => ?_
  refine stE 0 ?_
  refine rg ?_
  refine ldo 0 ?_
  refine lkA 2 (hzr a[k].name) ?_
  refine bsl fun b2 => ?_
  refine app 1 (fun A3 c3 => ?_) (hlim := by show (k + 1) * 8 ≤ _; omega)
  refine runE ?_
  refine edropH ?_
  refine rg ?_
  refine addE ((k + 1 : Nat) : Int) ?_
  refine nxs (k + 1, A3, c3) h1 (by show a.length - (k + 1) < a.length - k; omega) (hh := ?_)
  show [HE.row A3 (k + 1) c3 _ 1 (((a.take (k + 1)).map fun x => (sc a x.name : Int)).map numV), _] = _
  rw [List.take_add_one, List.getElem?_eq_getElem h1, List.map_append, List.map_append]
  rfl
def Abv (a : Int) (x : Str) (b : Int) (y : Str) : Prop := b < a ∨ a = b ∧ x < y
instance (a : Int) (x : Str) (b : Int) (y : Str) : Decidable (Abv a x b y) := by unfold Abv; infer_instance
theorem popAbove {w : World} {f : View} (hv : On f w) {a b : Int} {x y : Str} :
    Con Try.prog 16 [i64 a, str x, i64 b, str y] w (Ret w f fun _ v => v = .bool (decide (Abv a x b y))) := by
  refine enterC hv Try.call16 Try.func16 ?_
  refine sgE ?_
  refine sg ?_
  refine Go.Hog.gt (fun h1 => ?_) (fun h1 => ?_)
  · refine runE ?_
    refine ew_ret ?_
    exact ret1 (bT (.inl h1))
  refine eqI (fun h2 => ?_) (fun h2 => ?_)
  · refine ltSE (fun h3 => ?_) (fun h3 => ?_)
    · refine ew_ret ?_
      exact ret1 (bT (.inr ⟨h2, h3⟩))
    · refine ew_ret ?_
      exact ret1 (bF (fun e => by rcases e with e | e; exact h1 e; exact h3 e.2))
  · refine runE ?_
    refine ew_ret ?_
    exact ret1 (bF (fun e => by rcases e with e | e; exact h1 e; exact h2 e.1))
theorem refAbove {w : World} {f : View} (hv : On f w) {a b : Int} {x y : Str} :
    Con Try.prog 17 [i64 a, str x, i64 b, str y] w (Ret w f fun _ v => v = .bool (decide (Abv a x b y))) := by
  refine enterC hv Try.call17 Try.func17 ?_
  refine sgE ?_
  refine sg ?_
  refine Go.Hog.gt (fun h1 => ?_) (fun h1 => ?_)
  · refine runE ?_
    refine ew_ret ?_
    exact ret1 (bT (.inl h1))
  refine eqI (fun h2 => ?_) (fun h2 => ?_)
  · refine ltSE (fun h3 => ?_) (fun h3 => ?_)
    · refine ew_ret ?_
      exact ret1 (bT (.inr ⟨h2, h3⟩))
    · refine ew_ret ?_
      exact ret1 (bF (fun e => by rcases e with e | e; exact h1 e; exact h3 e.2))
  · refine runE ?_
    refine ew_ret ?_
    exact ret1 (bF (fun e => by rcases e with e | e; exact h1 e; exact h2 e.1))
end Go.Hog
