/- PopRanks answers true. -/
import Derived.Test.YtaaehplhpkojiaaS9
set_option linter.unusedVariables false
set_option linter.unusedSimpArgs false
set_option maxRecDepth 100000
set_option maxHeartbeats 1000000
namespace Go.Hog
open Go.RowKit Rp Go.Proofs
theorem takeRev {α : Type} {l : List α} {k : Nat} (h : k < l.length) : l.reverse.take (k + 1) = l.reverse.take k ++ [l[l.length - 1 - k]] := by
  rw [List.take_add_one, List.getElem?_eq_getElem (by simpa using h)]
  simp
theorem fitT_perm {l l' : List Item} (hp : l.Perm l') (h : FitT l) : FitT l' := ⟨hp.length_eq ▸ h.1, fun x hx => h.2 x (hp.mem_iff.2 hx)⟩
theorem scoresAt {a : List Item} (hnd : (names a).Nodup) {i : Nat} (h : i < (scoresL a).length) (h2 : i < a.length) : (scoresL a)[i] = (sc a a[i].name : Int) := by
  have e : scoresL a = a.map (fun x => (sc a x.name : Int)) := by unfold scoresL; rw [if_pos hnd]
  simp only [e, List.getElem_map]
theorem sameTextsN {w : World} {g : View} (hon : On g w) {A B : Option Addr} {c c2 m n : Nat} {l : List Str} (h1 : Sl g A c l) (h2 : Sl g B c2 l) (hm : m = l.length) (hn : n = l.length) :
    Con Try.prog 14 [.slice A m c, .slice B n c2] w (Ret w g fun _ v => v = .bool true) := by
  subst hm hn
  have := sameTexts hon h1 h2
  simpa using this
theorem popRanks {w : World} {f : View} (hv : On f w) {A : Option Addr} {c : Nat} {a : List Item} (ha : Sl f A c a) :
    Con Try.prog 5 [.slice A a.length c] w (Ret w f fun _ v => v = .bool true) := by
  refine enterC hv Try.call5 Try.func5 ?_
  have hlim := ha.len_lt
  refine sgE ?_
  refine sq (sg ?_)
  refine callB (p := GreatI a) (vs := [.slice A a.length c]) (fun w g hs _ hon => greatItems hon (ha.mono hs)) (fun hgr => ?_) (fun hgr => ?_)
  · refine runE ?_
    refine cT (sg ?_)
    refine callV (.bool true) (vs := []) (fun w g hs _ hon => awake21 hon) ?_
    refine runE ?_
    refine ew_ret ?_
    exact ret1 rfl
  refine callB (p := (names a).Nodup) (vs := [.slice A a.length c]) (fun w g hs _ hon => unlike10 hon (ha.mono hs)) (fun hnd => ?_) (fun hnd => ?_)
  case refine_2 =>
    refine runE ?_
    refine cT (sg ?_)
    refine callV (.bool true) (vs := []) (fun w g hs _ hon => awake21 hon) ?_
    refine runE ?_
    refine ew_ret ?_
    exact ret1 rfl
  refine runE ?_
  refine cFs ?_
  have hfit := fitT_of hgr
  have h12 : a.length ≤ 12 := by have := ten_of hgr; omega
  refine sgE ?_
  refine sqJ (σ := List Value × Option Addr × Nat) (fun s => [(3, .slice s.2.1 a.length s.2.2), (0, .slice A a.length c)]) (fun _ => f) (fun s => [.row s.2.1 a.length s.2.2 38 3 s.1]) (fun s => Rw f a.reverse s.1) ?_ ?_
  · refine sg ?_
    refine subE ((a.length : Int) - 1 - (0 : Nat)) ?_
    refine enilrow 38 3 ?_
    refine bk ?_
    refine lp (σ := Nat × List Value × Option Addr × Nat) (fun s => [(4, i64 ((a.length : Int) - 1 - s.1)), (3, .slice s.2.2.1 s.1 s.2.2.2), (0, .slice A a.length c)]) (fun _ => f) (fun s => [.row s.2.2.1 s.1 s.2.2.2 38 3 s.2.1]) (fun s => s.1 ≤ a.length ∧ Rw f (a.reverse.take s.1) s.2.1) (fun s => a.length - s.1) (0, [], none, 0) ⟨Nat.zero_le _, Rw.nil f⟩ ?_
    rintro ⟨k, xs, A3, c3⟩ ρ ⟨hk, hrw⟩
    replace hk : k ≤ a.length := hk
    replace hrw : Rw f (a.reverse.take k) xs := hrw
    show EW _ _ _ _ _ (ups ρ [(4, i64 ((a.length : Int) - 1 - k)), (3, .slice A3 k c3), (0, .slice A a.length c)]) f [.row A3 k c3 38 3 xs]
    refine sq (sg ?_)
    refine geE (fun h => ?_) (fun h => ?_)
    case refine_2 =>
      refine cFx ?_
      have e : k = a.length := by omega
      subst e
      rw [show a.reverse.take a.length = a.reverse by rw [← List.length_reverse, List.take_length]] at hrw
      exact jn (xs, A3, c3) hrw
    have h1 : k < a.length := by omega
    have h2 : a.length - 1 - k < a.length := by omega
    obtain ⟨b1, o1, A1, c1, A2, c2, rfl, hc, hn, hr, ht⟩ := ha.item h2
    refine cTs (sq (bk (rg ?_)))
    refine ix (a.length - 1 - k) h2 ?_ (hi := by omega)
    refine ldvA hc ?_
    refine bsl fun b2 => ?_
    refine app 0 (fun A' c' => ?_) (hlim := by show (k + 1) * 64 ≤ _; omega)
    refine runE ?_
    refine rg ?_
    refine subE ((a.length : Int) - 1 - (k + 1 : Nat)) ?_
    refine nxs (k + 1, xs ++ [str a[a.length - 1 - k].name, .slice A1 a[a.length - 1 - k].refs.length c1, .slice A2 a[a.length - 1 - k].tree.length c2], A', c') ⟨h1, ?_⟩ (by show a.length - (k + 1) < a.length - k; omega)
    show Rw f (a.reverse.take (k + 1)) _
    rw [takeRev h1]
    exact hrw.snoc ⟨A1, c1, A2, c2, rfl, hn, hr, ht⟩
  rintro ⟨xs, A3, c3⟩ ρ hrw
  replace hrw : Rw f a.reverse xs := hrw
  refine efrz 0 fun g hs hsn => ?_
  have hb : Sl g A3 c3 a.reverse := (hrw.mono hs).sl hsn (by simp) (by rw [List.length_reverse]; exact ha.lim)
  show EW _ _ _ _ _ (ups ρ [(3, .slice A3 a.length c3), (0, .slice A a.length c)]) g []
  have ha1 := ha.mono hs
  have hfr : FitT a.reverse := fitT_perm a.reverse_perm.symm hfit
  have h12r : a.reverse.length ≤ 12 := by rw [List.length_reverse]; exact h12
  refine sg ?_
  refine callM0 (vs := [.slice A a.length c]) [] (fun w hon hgi => popScores hon ha1 hfit h12) (fun v g1 L' hs1 hR => ?_)
  obtain ⟨As, cs, rfl, rfl⟩ := hR
  have ha2 := ha1.mono hs1
  refine callM (vs := [.slice A a.length c]) [] [iRow As cs (scoresL a)] (fun w hon hgi => popRank hon ha2 hfit h12) (fun v g2 L' hs2 hR => ?_)
  obtain ⟨Ar, cr, rfl, rfl⟩ := hR
  refine runE ?_
  refine efrzA [] [sRow Ar cr (rankL a), iRow As cs (scoresL a)] (List.Perm.refl _) fun g3 hs3 hq => ?_
  have hsR := hq _ (.head _)
  have hsS := hq _ (.tail _ (.head _))
  have hsb := scoresL_b h12
  have hrb : ∀ s ∈ rankL a, s.length ≤ LB := fun s hs => namesLe ha (rankL_sub a s hs)
  have hsl2 : (scoresL a).length ≤ LB := by have := scoresL_len a; unfold LB; omega
  have hrl2 : (rankL a).length ≤ LB := by have := rankL_len a; unfold LB; omega
  have tS : Sl g3 As cs (scoresL a) := Sl.ofNumV hsS rfl hsb hsl2
  have tR : Sl g3 Ar cr (rankL a) := Sl.ofTexts hsR rfl hrb hrl2
  have ha3 := (ha2.mono hs2).mono hs3
  have hb3 := ((hb.mono hs1).mono hs2).mono hs3
  obtain ⟨R, hR0, hRl, hstep, hperm, hrev⟩ : ∃ R, rankL a = R ∧ R.length = a.length ∧ (∀ i (h0 : 0 < i) (hi : i < R.length), Abv (sc a R[i - 1]) R[i - 1] (sc a R[i]) R[i]) ∧ R.Perm (names a) ∧ rankL a.reverse = R := ⟨rankL a, rfl, rank_len hnd, fun i h0 hi => rank_step hnd h0 hi, rank_perm hnd, rankL_perm a.reverse_perm.symm hnd⟩
  obtain ⟨S, hS, hSl, hat⟩ : ∃ S, scoresL a = S ∧ S.length = a.length ∧ ∀ i (h : i < S.length) (h2 : i < a.length), S[i] = (sc a a[i].name : Int) := ⟨scoresL a, rfl, scores_len hnd, fun i h h2 => scoresAt hnd h h2⟩
  refine efg [(3, .slice A3 a.length c3), (5, .slice As (scoresL a).length cs), (6, .slice Ar (rankL a).length cr), (0, .slice A a.length c)] [] fun ρ => ?_
  rw [hR0] at tR hrb hrl2 ⊢
  rw [hS] at tS hsb hsl2 ⊢
  clear hsR hsS hq
  refine sq (sg ?_)
  refine neI (fun h => ?_) (fun _ => ?_)
  · exact absurd (by show ((R.length : Nat) : Int) = a.length; rw [hRl]) h
  refine neI (fun h => ?_) (fun _ => ?_)
  · exact absurd (by show ((S.length : Nat) : Int) = a.length; rw [hSl]) h
  have hcr : ∀ w, On g3 w → Con Try.prog 11 [.slice A3 a.length c3] w (RetM w g3 [] fun _ L' v => ∃ A' c', v = .slice A' R.length c' ∧ L' = [sRow A' c' R]) := fun w hon => by
    have := popRank hon hb3 hfr h12r
    rwa [hrev, List.length_reverse] at this
  refine callM0 (vs := [.slice A3 a.length c3]) [] (fun w hon hgi => hcr w hon) (fun v g4 L' hs4 hR => ?_)
  obtain ⟨Ab, cb, rfl, rfl⟩ := hR
  have tR4 := tR.mono hs4
  have tS4 := tS.mono hs4
  have ha4 := ha3.mono hs4
  refine callB (p := R = R) (vs := [.slice Ab R.length cb, .slice Ar R.length cr]) (fun w g hs hsn hon => sameTexts hon (Sl.ofTexts (hsn (sRow Ab cb R) (.head _)) rfl hrb hrl2) (tR4.mono hs)) (fun _ => ?_) (fun h => absurd rfl h)
  refine rwL (L' := []) (fun _ h => h.sublist (List.nil_sublist _)) ?_
  refine runE ?_
  refine cFs ?_
  refine efg [(5, .slice As S.length cs), (6, .slice Ar R.length cr), (0, .slice A a.length c)] [] fun ρ => ?_
  refine sgE ?_
  refine sqJ (σ := Unit) (fun _ => []) (fun _ => g4) (fun _ => []) (fun _ => True) ?_ ?_
  case refine_2 =>
    rintro ⟨⟩ ρ _
    refine sg ?_
    refine callV (.bool true) (vs := []) (fun w g hs _ hon => awake21 hon) ?_
    refine runE ?_
    refine ew_ret ?_
    exact ret1 rfl
  refine sgE ?_
  refine bk ?_
  refine lp (σ := Nat × Int) (fun s => [(8, i64 s.1), (7, i64 s.2), (5, .slice As S.length cs), (6, .slice Ar R.length cr), (0, .slice A a.length c)]) (fun _ => g4) (fun _ => []) (fun s => s.1 ≤ R.length ∧ (0 < s.1 → ∃ j, ∃ (hj : j < a.length), s.2 = (j : Nat) ∧ R[s.1 - 1]? = some a[j].name) ∧ (s.1 = 0 → s.2 = -1)) (fun s => R.length - s.1) (0, -1) ⟨Nat.zero_le _, fun h => by omega, fun _ => rfl⟩ ?_
  rintro ⟨i, t7⟩ ρ ⟨hi, hprev, hz⟩
  replace hi : i ≤ R.length := hi
  replace hprev : 0 < i → ∃ j, ∃ (hj : j < a.length), t7 = (j : Nat) ∧ R[i - 1]? = some a[j].name := hprev
  replace hz : i = 0 → t7 = -1 := hz
  show EW _ _ _ _ _ (ups ρ [(8, i64 i), (7, i64 t7), (5, .slice As S.length cs), (6, .slice Ar R.length cr), (0, .slice A a.length c)]) g4 []
  refine sq (sg ?_)
  refine ltE (fun h => ?_) (fun h => ?_)
  case refine_2 =>
    refine cFx ?_
    exact jn () trivial
  have h1 : i < R.length := by omega
  obtain ⟨b6, o6, rfl, hc6, _⟩ := tR4.text h1
  refine cTs (sq (bk ?_))
  refine sgE ?_
  refine sqJ (σ := Nat) (fun j => [(9, i64 j), (8, i64 i), (7, i64 t7), (5, .slice As S.length cs), (6, .slice (some ⟨b6, o6, none⟩) R.length cr), (0, .slice A a.length c)]) (fun _ => g4) (fun _ => []) (fun j => ∃ (hj : j < a.length), a[j].name = R[i]) ?_ ?_
  · refine sgE ?_
    refine bk ?_
    refine lp (σ := Nat × Int) (fun s => [(10, i64 s.1), (9, i64 s.2), (8, i64 i), (7, i64 t7), (5, .slice As S.length cs), (6, .slice (some ⟨b6, o6, none⟩) R.length cr), (0, .slice A a.length c)]) (fun _ => g4) (fun _ => []) (fun s => s.1 ≤ a.length ∧ ((∃ j, ∃ (hj : j < a.length), s.2 = (j : Nat) ∧ a[j].name = R[i]) ∨ (∀ j (hj : j < a.length), j < s.1 → a[j].name ≠ R[i]))) (fun s => a.length - s.1) (0, -1) ⟨Nat.zero_le _, .inr fun j hj h => by omega⟩ ?_
    rintro ⟨m, t9⟩ ρ ⟨hm, hf⟩
    replace hm : m ≤ a.length := hm
    replace hf : (∃ j, ∃ (hj : j < a.length), t9 = (j : Nat) ∧ a[j].name = R[i]) ∨ (∀ j (hj : j < a.length), j < m → a[j].name ≠ R[i]) := hf
    show EW _ _ _ _ _ (ups ρ [(10, i64 m), (9, i64 t9), (8, i64 i), (7, i64 t7), (5, .slice As S.length cs), (6, .slice (some ⟨b6, o6, none⟩) R.length cr), (0, .slice A a.length c)]) g4 []
    refine sq (sg ?_)
    refine ltE (fun h => ?_) (fun h => ?_)
    case refine_2 =>
      refine cFx ?_
      have hin : R[i] ∈ names a := hperm.mem_iff.1 (List.getElem_mem h1)
      obtain ⟨x, hx, hxn⟩ := List.mem_map.1 hin
      obtain ⟨jx, hjx, rfl⟩ := List.getElem_of_mem hx
      rcases hf with ⟨j, hj, rfl, e⟩ | hf
      · exact jn j ⟨hj, e⟩
      · exact absurd hxn (hf jx hjx (by omega))
    have h2 : m < a.length := by omega
    obtain ⟨b1, o1, A1, c1, A2, c2, rfl, hc, hn, hr, ht⟩ := ha4.item h2
    refine cTs (bkJ (σ := Int) (fun s => [(10, i64 m), (9, i64 s), (8, i64 i), (7, i64 t7), (5, .slice As S.length cs), (6, .slice (some ⟨b6, o6, none⟩) R.length cr), (0, .slice (some ⟨b1, o1, none⟩) a.length c)]) (fun _ => g4) (fun _ => []) (fun s => (∃ j, ∃ (hj : j < a.length), s = (j : Nat) ∧ a[j].name = R[i]) ∨ (∀ j (hj : j < a.length), j < m + 1 → a[j].name ≠ R[i])) ?_ ?_)
    case refine_2 =>
      rintro s ρ hs
      refine rg ?_
      refine addE ((m + 1 : Nat) : Int) ?_
      exact nxs (m + 1, s) ⟨h2, hs⟩ (by show a.length - (m + 1) < a.length - m; omega)
    refine sQ ?_
    refine ix m h2 ?_
    refine ldv hc.1 ?_
    refine ix i h1 ?_
    refine ldv hc6 ?_
    refine eqSE (fun e => ?_) (fun e => ?_)
    · refine cT (rgE ?_)
      exact jn (m : Int) (.inl ⟨m, h2, rfl, e⟩)
    · refine cFs ?_
      refine jn t9 ?_
      rcases hf with hf | hf
      · exact .inl hf
      · refine .inr fun j hj hjm => ?_
        by_cases ej : j = m
        · subst ej; exact e
        · exact hf j hj (by omega)
  rintro j ρ ⟨hj, hjn⟩
  have hjS : j < S.length := by omega
  obtain ⟨b5, o5, rfl, hc5, _, _⟩ := tS4.num hjS
  obtain ⟨b1, o1, A1, c1, A2, c2, rfl, hc, hn, hr, ht⟩ := ha4.item hj
  have h9 : ¬ ((j : Nat) : Int) < 0 := by omega
  refine sq (sQ ?_)
  refine Go.Hog.lt (fun h => absurd h h9) (fun _ => ?_)
  refine Go.Hog.ge (fun h7 => ?_) (fun h7 => ?_)
  · have hi0 : 0 < i := by
      rcases Nat.eq_zero_or_pos i with h0 | h0
      · have := hz h0; omega
      · exact h0
    obtain ⟨j7, hj7, rfl, hR7⟩ := hprev hi0
    have hi1 : i - 1 < R.length := by omega
    have hR7' : R[i - 1] = a[j7].name := by rw [List.getElem?_eq_getElem hi1] at hR7; exact Option.some.inj hR7
    have hj7S : j7 < S.length := by omega
    obtain ⟨b51, o51, e51, hc51, _, _⟩ := tS4.num hj7S
    obtain ⟨b11, o11, A11, c11, A21, c21, e11, hc11, hn1, hr1, ht1⟩ := ha4.item hj7
    injection e51 with e51
    injection e51 with e51 e52
    subst e51 e52
    injection e11 with e11
    injection e11 with e11 e12
    subst e11 e12
    have hab := hstep i hi0 h1
    refine ix j7 hj7S ?_
    refine ldv hc51 ?_
    refine ix j7 hj7 ?_
    refine ldv hc11.1 ?_
    refine ix j hjS ?_
    refine ldv hc5 ?_
    refine ix j hj ?_
    refine ldv hc.1 ?_
    refine callB (p := Abv S[j7] a[j7].name S[j] a[j].name) (vs := [i64 S[j7], str a[j7].name, i64 S[j], str a[j].name]) (fun w g hs _ hon => popAbove hon) (fun _ => ?_) (fun h => ?_)
    case refine_2 =>
      refine absurd ?_ h
      rw [hat j7 hj7S hj7, hat j hjS hj, ← hR7', hjn]
      exact hab
    refine runE ?_
    refine cFs ?_
    refine rgE ?_
    refine rg ?_
    refine addE ((i + 1 : Nat) : Int) ?_
    exact nxs (i + 1, (j : Int)) ⟨h1, fun _ => ⟨j, hj, rfl, by show R[i + 1 - 1]? = _; rw [Nat.add_sub_cancel, List.getElem?_eq_getElem h1, hjn]⟩, fun h => by exact absurd h (Nat.succ_ne_zero _)⟩ (by show R.length - (i + 1) < R.length - i; omega)
  · refine runE ?_
    refine cFs ?_
    refine rgE ?_
    refine rg ?_
    refine addE ((i + 1 : Nat) : Int) ?_
    exact nxs (i + 1, (j : Int)) ⟨h1, fun _ => ⟨j, hj, rfl, by show R[i + 1 - 1]? = _; rw [Nat.add_sub_cancel, List.getElem?_eq_getElem h1, hjn]⟩, fun h => by exact absurd h (Nat.succ_ne_zero _)⟩ (by show R.length - (i + 1) < R.length - i; omega)
end Go.Hog
