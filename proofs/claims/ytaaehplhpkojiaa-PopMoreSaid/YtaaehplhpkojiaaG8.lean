/- PopMore answers true. -/
import Derived.Test.YtaaehplhpkojiaaS10
import Derived.Test.YtaaehplhpkojiaaG7
set_option linter.unusedVariables false
set_option linter.unusedSimpArgs false
set_option maxRecDepth 100000
set_option maxHeartbeats 1000000
namespace Go.Hog
open Go.RowKit Rp Go.Proofs
theorem rowNamesM {A : Option Addr} {c : Nat} {e : TypeId} {a : List Item} {k : Nat} (h : k < a.length) : [HE.row A (k + 1) c e 1 ((names (a.take (k + 1))).map str)] = [HE.row A (k + 1) c e 1 ((names (a.take k)).map str ++ [str a[k].name])] := by
  unfold names
  rw [List.take_add_one, List.getElem?_eq_getElem h, List.map_append, List.map_append]
  rfl
theorem popMore {w : World} {f : View} (hv : On f w) {A : Option Addr} {c : Nat} {a : List Item} {n : Str} (ha : Sl f A c a) (hnl : n.length ≤ LB) :
    Con Try.prog 6 [.slice A a.length c, str n] w (Ret w f fun _ v => v = .bool true) := by
  refine enterC hv Try.call6 Try.func6 ?_
  have hlim := ha.len_lt
  refine sgE ?_
  refine sq (sg ?_)
  refine callB (p := GreatI a) (vs := [.slice A a.length c]) (fun w g hs _ hon => greatItems hon (ha.mono hs)) (fun hgr => ?_) (fun hgr => ?_)
  · refine runE ?_
    refine cT (sg ?_)
    refine callV (.bool true) (vs := []) (fun w g hs _ hon => awake21 hon) ?_
    refine runE ?_
    refine ew_ret ?_
    exact ret1 rfl
  refine Go.Hog.gt (fun h9 => ?_) (fun h9 => ?_)
  · refine runE ?_
    refine cT (sg ?_)
    refine callV (.bool true) (vs := []) (fun w g hs _ hon => awake21 hon) ?_
    refine runE ?_
    refine ew_ret ?_
    exact ret1 rfl
  refine Go.Hog.gt (fun h100 => ?_) (fun h100 => ?_)
  · refine runE ?_
    refine cT (sg ?_)
    refine callV (.bool true) (vs := []) (fun w g hs _ hon => awake21 hon) ?_
    refine runE ?_
    refine ew_ret ?_
    exact ret1 rfl
  refine callB (p := (names a).Nodup) (vs := [.slice A a.length c]) (fun w g hs _ hon => unlike10 hon (ha.mono hs)) (fun hnd => ?_) (fun hnd => ?_)
  case refine_2 =>
    refine runE ?_
    refine cT (sg ?_)
    refine callV (.bool true) (vs := []) (fun w g hs _ hon => awake21 hon) ?_
    refine runE ?_
    refine ew_ret ?_
    exact ret1 rfl
  refine runE ?_
  refine cFs ?_
  have hfit := fitT_of hgr
  have hsm : a.length ≤ 9 := by omega
  have h12 : a.length ≤ 12 := by omega
  refine efg [(1, str n), (0, .slice A a.length c)] [] fun ρ => ?_
  refine sgE ?_
  refine sqJ (σ := Option Addr × Nat) (fun s => [(5, .slice s.1 a.length s.2), (1, str n), (0, .slice A a.length c)]) (fun _ => f) (fun s => [.row s.1 a.length s.2 9 1 ((names a).map str)]) (fun _ => ∀ x ∈ a, x.name ≠ n ∧ n ∉ x.refs) ?_ ?_
  · refine sgE ?_
    refine enilrow 9 1 ?_
    refine bk ?_
    refine lp (σ := Nat × Option Addr × Nat) (fun s => [(6, i64 s.1), (5, .slice s.2.1 s.1 s.2.2), (1, str n), (0, .slice A a.length c)]) (fun _ => f) (fun s => [.row s.2.1 s.1 s.2.2 9 1 ((names (a.take s.1)).map str)]) (fun s => s.1 ≤ a.length ∧ ∀ x ∈ a.take s.1, x.name ≠ n ∧ n ∉ x.refs) (fun s => a.length - s.1) (0, none, 0) ⟨Nat.zero_le _, by simp⟩ ?_
    rintro ⟨k, A3, c3⟩ ρ ⟨hk, hok⟩
    replace hk : k ≤ a.length := hk
    replace hok : ∀ x ∈ a.take k, x.name ≠ n ∧ n ∉ x.refs := hok
    show EW _ _ _ _ _ (ups ρ [(6, i64 k), (5, .slice A3 k c3), (1, str n), (0, .slice A a.length c)]) f [.row A3 k c3 9 1 ((names (a.take k)).map str)]
    refine sq (sg ?_)
    refine ltE (fun h => ?_) (fun h => ?_)
    case refine_2 =>
      refine cFx ?_
      have e : k = a.length := by omega
      subst e
      rw [List.take_length] at hok ⊢
      exact jn (A3, c3) hok
    have h1 : k < a.length := by omega
    obtain ⟨b1, o1, A1, c1, A2, c2, rfl, hc, hn, hr, ht⟩ := ha.item h1
    refine cTs (sq (bk (sq (sg ?_))))
    refine ix k h1 ?_
    refine ldv hc.1 ?_
    refine eqS (fun e1 => ?_) (fun e1 => ?_)
    · refine runE ?_
      refine cT (sg ?_)
      refine callV (.bool true) (vs := []) (fun w g hs _ hon => awake21 hon) ?_
      refine runE ?_
      refine ew_ret ?_
      exact ret1 rfl
    refine ix k h1 ?_
    refine ldv hc.2.1 ?_
    refine callB (p := n ∈ a[k].refs) (fun w g hs _ hon => hasL21 hon (hr.mono hs)) (fun e3 => ?_) (fun e3 => ?_)
    · refine runE ?_
      refine cT (sg ?_)
      refine callV (.bool true) (vs := []) (fun w g hs _ hon => awake21 hon) ?_
      refine runE ?_
      refine ew_ret ?_
      exact ret1 rfl
    refine runE ?_
    refine cFs (rg ?_)
    refine ix k h1 ?_
    refine ldv hc.1 ?_
    refine bsl fun b2 => ?_
    refine app 0 (fun A' c' => ?_) (hlim := by show (k + 1) * 16 ≤ _; omega)
    refine runE ?_
    refine rg ?_
    refine addE ((k + 1 : Nat) : Int) ?_
    have htk : a.take (k + 1) = a.take k ++ [a[k]] := by rw [List.take_add_one, List.getElem?_eq_getElem h1]; rfl
    refine nxs (k + 1, A', c') ⟨h1, ?_⟩ (by show a.length - (k + 1) < a.length - k; omega) (hh := rowNamesM h1)
    show ∀ x ∈ a.take (k + 1), x.name ≠ n ∧ n ∉ x.refs
    rw [htk]
    intro x hx
    rcases List.mem_append.1 hx with hx | hx
    · exact hok x hx
    · rw [List.mem_singleton] at hx
      subst hx
      exact ⟨e1, e3⟩
  rintro ⟨A3, c3⟩ ρ hok
  replace hok : ∀ x ∈ a, x.name ≠ n ∧ n ∉ x.refs := hok
  refine efrz 0 fun g hs hsn => ?_
  show EW _ _ _ _ _ (ups ρ [(5, .slice A3 a.length c3), (1, str n), (0, .slice A a.length c)]) g []
  have hnb : ∀ s ∈ names a, s.length ≤ LB := fun s hs => namesLe ha hs
  have hnm : Sl g A3 c3 (names a) := (Rw.texts hnb).sl hsn (namesLen a).symm (by rw [namesLen]; exact ha.lim)
  have ha1 := ha.mono hs
  have hnn : n ∉ names a := fun h => by
    obtain ⟨x, hx, e⟩ := List.mem_map.1 h
    exact (hok x hx).1 e
  have hnr : ∀ x ∈ a, n ∉ x.refs := fun x hx => (hok x hx).2
  refine sg ?_
  refine callM0 (vs := [.slice A a.length c]) [] (fun w hon hgi => popScores hon ha1 hfit h12) (fun v g1 L' hs1 hR => ?_)
  obtain ⟨As, cs, rfl, rfl⟩ := hR
  have ha2 := ha1.mono hs1
  refine callM (vs := [.slice A a.length c]) [] [iRow As cs (scoresL a)] (fun w hon hgi => popRank hon ha2 hfit h12) (fun v g2 L' hs2 hR => ?_)
  obtain ⟨Ar, cr, rfl, rfl⟩ := hR
  refine runE ?_
  refine efrzA [] [sRow Ar cr (rankL a), iRow As cs (scoresL a)] (List.Perm.refl _) fun g3 hs3 hq => ?_
  have tS : Sl g3 As cs (scoresL a) := Sl.ofNumV (hq _ (.tail _ (.head _))) rfl (scoresL_b h12) (by have := scoresL_len a; unfold LB; omega)
  have tR : Sl g3 Ar cr (rankL a) := Sl.ofTexts (hq _ (.head _)) rfl (fun s hs => namesLe ha (rankL_sub a s hs)) (by have := rankL_len a; unfold LB; omega)
  have ha3 := (ha2.mono hs2).mono hs3
  have hnm3 := ((hnm.mono hs1).mono hs2).mono hs3
  refine efg [(7, .slice As (scoresL a).length cs), (8, .slice Ar (rankL a).length cr), (5, .slice A3 a.length c3), (1, str n), (0, .slice A a.length c)] [] fun ρ => ?_
  obtain ⟨xs, hxs, hcs⟩ := ha3.cells
  refine sg ?_
  refine nilrow 38 3 ?_
  refine appV 0 hxs.len hcs hxs.ones (fun A' c' => ?_) (hlim := by show (0 + a.length) * 64 ≤ _; omega)
  refine bld ?_
  refine bsl fun b2 => ?_
  refine app 0 (fun A9 c9 => ?_) (hlim := by show (0 + a.length + 1) * 64 ≤ _; omega)
  refine runE ?_
  refine efrz 0 fun g4 hs4 hsn4 => ?_
  have hw4 : Rw g4 (a ++ [⟨n, names a, []⟩]) ([] ++ xs ++ [str n, .slice A3 a.length c3, .slice none 0 0]) :=
    (((Rw.nil g4).append (hxs.mono hs4)).append (Rw.one (show rp g4 (⟨n, names a, []⟩ : Item) [str n, .slice A3 a.length c3, .slice none 0 0] from ⟨A3, c3, none, 0, by simp [namesLen], hnl, hnm3.mono hs4, Sl.nil _⟩)))
  have hb : Sl g4 A9 c9 (a ++ [⟨n, names a, []⟩]) := hw4.sl hsn4 (by simp) (by simp [LB]; omega)
  have hfb : FitT (a ++ [⟨n, names a, []⟩]) := ⟨by simp; omega, fun x hx => by
    rcases List.mem_append.1 hx with hx | hx
    · exact hfit.2 x hx
    · rw [List.mem_singleton] at hx; subst hx; simp [namesLen]; omega⟩
  have h12b : (a ++ [(⟨n, names a, []⟩ : Item)]).length ≤ 12 := by simp; omega
  have tS4 := tS.mono hs4
  have tR4 := tR.mono hs4
  have hbl : (a ++ [(⟨n, names a, []⟩ : Item)]).length = 0 + a.length + 1 := by simp
  obtain ⟨S, T, hS, hT, hSl, hTlen, hTl, hTi⟩ : ∃ S T, scoresL a = S ∧ scoresL (a ++ [(⟨n, names a, []⟩ : Item)]) = T ∧ S.length = a.length ∧ T.length = a.length + 1 ∧ (∀ (h : a.length < T.length), T[a.length] = 0) ∧ ∀ k (h : k < a.length) (h1 : k < T.length) (h2 : k < S.length), T[k] = S[k] + 1 := by
    have hnd2 := names_more (x0 := ⟨n, names a, []⟩) hnd hnn
    have hT0 : (scoresL (a ++ [⟨n, names a, []⟩])).length = a.length + 1 := by rw [scores_len hnd2]; simp
    have hTl : ∀ (h : a.length < (scoresL (a ++ [⟨n, names a, []⟩])).length), (scoresL (a ++ [⟨n, names a, []⟩]))[a.length] = 0 := fun h => by
      rw [scoresAt hnd2 h (by simp)]
      have e : (a ++ [(⟨n, names a, []⟩ : Item)])[a.length]'(by simp) = ⟨n, names a, []⟩ := by simp
      rw [e]
      have := sc_none (x0 := ⟨n, names a, []⟩) hnn hnr
      show ((sc _ n : Nat) : Int) = 0
      rw [show sc (a ++ [⟨n, names a, []⟩]) n = 0 from this]; rfl
    have hTi : ∀ k (h : k < a.length) (h1 : k < (scoresL (a ++ [⟨n, names a, []⟩])).length) (h2 : k < (scoresL a).length), (scoresL (a ++ [⟨n, names a, []⟩]))[k] = (scoresL a)[k] + 1 := fun k h h1 h2 => by
      rw [scoresAt hnd2 h1 (by simp; omega), scoresAt hnd h2 h]
      have e : (a ++ [(⟨n, names a, []⟩ : Item)])[k]'(by simp; omega) = a[k] := by simp [h]
      rw [e]
      have hm : a[k].name ∈ names a := List.mem_map.2 ⟨a[k], List.getElem_mem h, rfl⟩
      rw [sc_more (x0 := ⟨n, names a, []⟩) hnd hnn hnr hm, if_pos (rch_ref (x0 := ⟨n, names a, []⟩) hnn hm hm)]
      omega
    exact ⟨_, _, rfl, rfl, scores_len hnd, hT0, hTl, hTi⟩
  have hrk := rank_more hnd hnn hnr
  generalize ea2 : a ++ [(⟨n, names a, []⟩ : Item)] = a2 at hb hfb h12b hbl hT hrk
  refine efg [(9, .slice A9 (0 + a.length + 1) c9), (7, .slice As (scoresL a).length cs), (8, .slice Ar (rankL a).length cr), (1, str n), (0, .slice A a.length c)] [] fun ρ => ?_
  rw [show 0 + a.length + 1 = a.length + 1 by omega]
  have hcs2 : ∀ w, On g4 w → Con Try.prog 10 [.slice A9 (a.length + 1) c9] w (RetM w g4 [] fun _ L' v => ∃ A' c', v = .slice A' (scoresL a2).length c' ∧ L' = [iRow A' c' (scoresL a2)]) := fun w hon => by
    have := popScores hon hb hfb h12b
    rwa [hbl, show 0 + a.length + 1 = a.length + 1 by omega] at this
  refine sg ?_
  refine callM0 (vs := [.slice A9 (a.length + 1) c9]) [] (fun w hon hgi => hcs2 w hon) (fun v g5 L' hs5 hR => ?_)
  obtain ⟨At, ct, rfl, rfl⟩ := hR
  have hb5 := hb.mono hs5
  have hcr2 : ∀ w, On g5 w → Con Try.prog 11 [.slice A9 (a.length + 1) c9] w (RetM w g5 [] fun _ L' v => ∃ A' c', v = .slice A' (rankL a2).length c' ∧ L' = [sRow A' c' (rankL a2)]) := fun w hon => by
    have := popRank hon hb5 hfb h12b
    rwa [hbl, show 0 + a.length + 1 = a.length + 1 by omega] at this
  refine callM (vs := [.slice A9 (a.length + 1) c9]) [] [iRow At ct (scoresL a2)] (fun w hon hgi => hcr2 w hon) (fun v g6 L' hs6 hR => ?_)
  obtain ⟨Au, cu, rfl, rfl⟩ := hR
  refine runE ?_
  refine efrzA [] [sRow Au cu (rankL a2), iRow At ct (scoresL a2)] (List.Perm.refl _) fun g7 hs7 hq2 => ?_
  have tT : Sl g7 At ct (scoresL a2) := Sl.ofNumV (hq2 _ (.tail _ (.head _))) rfl (scoresL_b h12b) (by have := scoresL_len a2; unfold LB; omega)
  have tU : Sl g7 Au cu (rankL a2) := Sl.ofTexts (hq2 _ (.head _)) rfl (fun s hs => by
    rw [hrk] at hs
    rcases List.mem_append.1 hs with hs | hs
    · exact namesLe ha (rankL_sub a s hs)
    · rw [List.mem_singleton] at hs; subst hs; exact hnl) (by have := rankL_len a2; unfold LB; omega)
  have tS7 := ((tS4.mono hs5).mono hs6).mono hs7
  have tR7 := ((tR4.mono hs5).mono hs6).mono hs7
  obtain ⟨R, hR0, hRl⟩ : ∃ R, rankL a = R ∧ R.length = a.length := ⟨rankL a, rfl, rank_len hnd⟩
  rw [hrk, hR0] at tU
  rw [hR0] at tR7
  rw [hS] at tS7
  rw [hT] at tT
  have hUl : (R ++ [n]).length = a.length + 1 := by simp [hRl]
  refine efg [(10, .slice At T.length ct), (11, .slice Au (R ++ [n]).length cu), (7, .slice As S.length cs), (8, .slice Ar R.length cr), (1, str n), (0, .slice A a.length c)] [] (ha := by rw [← hT, ← hR0, ← hrk, ← hS]; exact ⟨rfl, rfl, rfl, rfl, rfl, rfl, trivial⟩) fun ρ => ?_
  have hlT : a.length < T.length := by omega
  have hlU : R.length < (R ++ [n]).length := by simp
  obtain ⟨bt, ot, rfl, hct, _, _⟩ := tT.num hlT
  obtain ⟨bu, ou, rfl, hcu, _⟩ := tU.text hlU
  have hUn : (R ++ [n])[R.length] = n := by simp
  refine sq (sg ?_)
  refine neI (fun h => ?_) (fun _ => ?_)
  · exact absurd (by show ((S.length : Nat) : Int) = a.length; rw [hSl]) h
  refine add ((a.length + 1 : Nat) : Int) ?_
  refine neI (fun h => ?_) (fun _ => ?_)
  · exact absurd (by show ((T.length : Nat) : Int) = (a.length + 1 : Nat); rw [hTlen]) h
  refine ix a.length hlT ?_
  refine ldv hct ?_
  refine neI (fun h => ?_) (fun _ => ?_)
  · exact absurd (hTl hlT) h
  refine add ((R.length + 1 : Nat) : Int) ?_
  refine neI (fun h => ?_) (fun _ => ?_)
  · exact absurd (by show (((R ++ [n]).length : Nat) : Int) = (R.length + 1 : Nat); simp) h
  refine ix R.length hlU ?_
  refine ldv hcu ?_
  refine neSE (fun h => ?_) (fun _ => ?_)
  · exact absurd hUn h
  refine cFs ?_
  refine efg [(10, .slice (some ⟨bt, ot, none⟩) T.length ct), (11, .slice (some ⟨bu, ou, none⟩) (R ++ [n]).length cu), (7, .slice As S.length cs), (8, .slice Ar R.length cr), (0, .slice A a.length c)] [] fun ρ => ?_
  refine sqJ (σ := Unit) (fun _ => [(11, .slice (some ⟨bu, ou, none⟩) (R ++ [n]).length cu), (8, .slice Ar R.length cr)]) (fun _ => g7) (fun _ => []) (fun _ => True) ?_ ?_
  case refine_2 =>
    rintro ⟨⟩ ρ _
    have hkc : R.length ≤ cu := by have := tU.cap; simp at this; omega
    have tU2 : Sl g7 (some ⟨bu, ou, none⟩) cu R := by have := tU.take R.length; rwa [List.take_left] at this
    refine sg ?_
    refine slH R.length hkc ?_
    refine callB (p := R = R) (vs := [.slice (some ⟨bu, ou, none⟩) R.length cu, .slice Ar R.length cr]) (fun w g hs hsn hon => sameTexts hon (tU2.mono hs) (tR7.mono hs)) (fun _ => ?_) (fun h => absurd rfl h)
    refine callV (.bool true) (vs := []) (fun w g hs _ hon => awake21 hon) ?_
    refine runE ?_
    refine ew_ret ?_
    exact ret1 rfl
  refine sgE ?_
  refine bk ?_
  refine lpn a.length (fun k => [(12, i64 k), (10, .slice (some ⟨bt, ot, none⟩) T.length ct), (11, .slice (some ⟨bu, ou, none⟩) (R ++ [n]).length cu), (7, .slice As S.length cs), (8, .slice Ar R.length cr), (0, .slice A a.length c)]) (fun _ => True) trivial ?_
  intro k ρ hk _
  refine sq (sg ?_)
  refine ltE (fun h => ?_) (fun h => ?_)
  case refine_2 =>
    refine cFx ?_
    exact jn () trivial
  have h1 : k < a.length := by omega
  have hkS : k < S.length := by omega
  have hkT : k < T.length := by omega
  obtain ⟨b7, o7, rfl, hc7, _, _⟩ := tS7.num hkS
  obtain ⟨bx, ox, ex, hcx, hx1, hx2⟩ := tT.num hkT
  injection ex with ex
  injection ex with ex1 ex2
  subst ex1 ex2
  have hTk := hTi k h1 hkT hkS
  refine cTs (sq (bk (sQ ?_)))
  refine ix k hkT ?_
  refine ldv hcx ?_
  refine ix k hkS ?_
  refine ldv hc7 ?_
  refine add (S[k] + 1) ?_
  refine neIE (fun h => absurd hTk h) (fun _ => ?_)
  refine cFs (rg ?_)
  refine addE ((k + 1 : Nat) : Int) ?_
  exact nx trivial
end Go.Hog
