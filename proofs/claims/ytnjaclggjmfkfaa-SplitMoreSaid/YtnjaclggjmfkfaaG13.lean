/- SplitMore answers true. -/
import Derived.Test.YtnjaclggjmfkfaaS16
set_option linter.unusedVariables false
set_option linter.unusedSimpArgs false
set_option maxRecDepth 100000
set_option maxHeartbeats 1000000
namespace Go.Hog
open Go.RowKit Rp Go.Proofs
theorem splitMore {w : World} {f : View} (hv : On f w) {A : Option Addr} {c : Nat} {a : List Item} {x y : Int} (ha : Sl f A c a) (hx : -9223372036854775808 ≤ x ∧ x ≤ 9223372036854775807) (hy : -9223372036854775808 ≤ y ∧ y ≤ 9223372036854775807) :
    Con Try.prog 5 [.slice A a.length c, i64 x, i64 y] w (Ret w f fun _ v => v = .bool true) := by
  refine enterC hv Try.call5 Try.func5 ?_
  have hlim := ha.len_lt
  refine sgE ?_
  refine sq (sg ?_)
  refine callB (p := GreatI a) (vs := [.slice A a.length c]) (fun w g hs _ hon => greatItems hon (ha.mono hs)) (fun hgr => ?_) (fun hgr => ?_)
  · refine runE ?_
    refine cT (sg ?_)
    refine callV (.bool true) (vs := []) (fun w g hs _ hon => awake22 hon) ?_
    refine runE ?_
    refine ew_ret ?_
    exact ret1 rfl
  refine callB (p := (names a).Nodup) (vs := [.slice A a.length c]) (fun w g hs _ hon => unlike10 hon (ha.mono hs)) (fun hnd => ?_) (fun hnd => ?_)
  case refine_2 =>
      refine runE ?_
      refine cT (sg ?_)
      refine callV (.bool true) (vs := []) (fun w g hs _ hon => awake22 hon) ?_
      refine runE ?_
      refine ew_ret ?_
      exact ret1 rfl
  refine runE ?_
  refine cFs ?_
  have hfit := fitT_of hgr
  have h12 : a.length ≤ 12 := by have := ten_of hgr; omega
  obtain ⟨m, hm, hm1, hm2⟩ : ∃ m : Nat, 1 + lowV x 12 = m ∧ 1 ≤ m ∧ m ≤ 12 := by
    have := lowV_lt x (show (0 : Int) < 12 by omega)
    exact ⟨(1 + lowV x 12).toNat, by omega, by omega⟩
  obtain ⟨m2, hmm, hmm1, hmm2⟩ : ∃ m2 : Nat, (m : Int) + lowV y 12 = m2 ∧ m ≤ m2 ∧ m2 ≤ 24 := by
    have := lowV_lt y (show (0 : Int) < 12 by omega)
    exact ⟨((m : Int) + lowV y 12).toNat, by omega, by omega⟩
  refine efg [(1, i64 x), (2, i64 y), (0, .slice A a.length c)] [] fun ρ => ?_
  refine sg ?_
  refine callV (i64 (lowV x 12)) (vs := [i64 x, i64 12]) (fun w g hs _ hon => low0 hon ⟨by omega, by omega⟩) ?_
  refine addE (m : Int) ?_
  refine sg ?_
  refine callV (i64 (lowV y 12)) (vs := [i64 y, i64 12]) (fun w g hs _ hon => low0 hon ⟨by omega, by omega⟩) ?_
  refine addE (m2 : Int) ?_
  have hok : layOk a (m : Int) := ⟨by omega, by omega, hnd⟩
  have hok2 : layOk a (m2 : Int) := ⟨by omega, by omega, hnd⟩
  refine efg [(1, i64 m), (7, i64 m2), (0, .slice A a.length c)] [] fun ρ => ?_
  refine sg ?_
  refine callM0 (vs := [.slice A a.length c, i64 m]) [] (fun w hon hgi => splitLayers hon ha hfit h12) (fun v g L' hs hR => ?_)
  obtain ⟨A8, c8, rfl, hsl8⟩ := layR_sl (g := g) ha h12 hR
  refine runE ?_
  refine efrzA [] L' (List.Perm.refl _) fun g3 hs3 hq => ?_
  have tL := hsl8 g3 hq
  have ha3 := (ha.mono hs).mono hs3
  have hE : layersE a (m : Int) = 0 := by unfold layersE; rw [if_pos hok]
  have hE2 : layersE a (m2 : Int) = 0 := by unfold layersE; rw [if_pos hok2]
  obtain ⟨R, hR0, hRl, hRn, hRp⟩ : ∃ R, rankL a = R ∧ R.length = a.length ∧ R.Nodup ∧ R.Perm (names a) := ⟨_, rfl, rank_len hnd, (rank_perm hnd).nodup_iff.2 hnd, rank_perm hnd⟩
  obtain ⟨ls, hls, hls2⟩ : ∃ ls, layersL a (m : Int) = ls ∧ ls = layL m R := ⟨_, rfl, by unfold layersL; rw [if_pos hok, hR0, Int.toNat_natCast]⟩
  obtain ⟨lt, hlt, hlt2⟩ : ∃ lt, layersL a (m2 : Int) = lt ∧ lt = layL m2 R := ⟨_, rfl, by unfold layersL; rw [if_pos hok2, hR0, Int.toNat_natCast]⟩
  rw [hls] at tL ⊢
  rw [hE]
  refine efg [(8, .slice A8 ls.length c8), (9, i64 0), (1, i64 m), (7, i64 m2), (0, .slice A a.length c)] [] fun ρ => ?_
  refine sg ?_
  refine callM0 (vs := [.slice A a.length c, i64 m2]) [] (fun w hon hgi => splitLayers hon ha3 hfit h12) (fun v g4 L' hs4 hR => ?_)
  obtain ⟨A10, c10, rfl, hsl10⟩ := layR_sl (g := g4) ha3 h12 hR
  refine runE ?_
  refine efrzA [] L' (List.Perm.refl _) fun g5 hs5 hq2 => ?_
  have tT := hsl10 g5 hq2
  rw [hlt] at tT ⊢
  rw [hE2]
  have tL5 := (tL.mono hs4).mono hs5
  have ha5 := (ha3.mono hs4).mono hs5
  have hlen : ls.length = min m a.length := by rw [hls2, layL_len hm1, hRl]
  have hlen2 : lt.length = min m2 a.length := by rw [hlt2, layL_len (by omega), hRl]
  refine efg [(8, .slice A8 ls.length c8), (10, .slice A10 lt.length c10), (9, i64 0), (11, i64 0), (1, i64 m), (7, i64 m2), (0, .slice A a.length c)] [] fun ρ => ?_
  refine sq (sg ?_)
  refine neI (fun h => absurd rfl h) (fun _ => ?_)
  refine neI (fun h => absurd rfl h) (fun _ => ?_)
  have hmin : (if ((a.length : Nat) : Int) < (m : Int) then ((a.length : Nat) : Int) else (m : Int)) = ((ls.length : Nat) : Int) := by
    rw [hlen]; split <;> omega
  have hmin2 : (if ((a.length : Nat) : Int) < (m2 : Int) then ((a.length : Nat) : Int) else (m2 : Int)) = ((lt.length : Nat) : Int) := by
    rw [hlen2]; split <;> omega
  refine minI ((ls.length : Nat) : Int) hmin ?_
  refine neI (fun h => absurd rfl h) (fun _ => ?_)
  refine minI ((lt.length : Nat) : Int) hmin2 ?_
  refine neIE (fun h => absurd rfl h) (fun _ => ?_)
  refine cFs ?_
  have hone : ∀ i (h : i < ls.length), i < m - 1 → ∃ (h2 : i < lt.length), ls[i].length = 1 ∧ ls[i] = lt[i] := fun i h hi => by
    subst hls2 hlt2
    obtain ⟨h3, h4⟩ := layL_one hm1 h hi
    have h5 : i < (layL m2 R).length := by omega
    obtain ⟨h6, h7⟩ := layL_one (by omega) h5 (by omega)
    exact ⟨h5, by rw [h4]; rfl, by rw [h4, h7]⟩
  have hlast : ls.length = m → ∃ (h : m - 1 < ls.length), ls[m - 1].length + m = a.length + 1 ∧ ∀ s ∈ ls[m - 1], ((m - 1 : Nat) : Int) ≤ placeL lt s := fun h => by
    subst hls2 hlt2
    obtain ⟨h3, h4, h5⟩ := layL_last hm1 h
    exact ⟨h3, by omega, fun s hs => place_far hm1 hmm1 hRn (h5 s hs)⟩
  have hst : ∀ l ∈ ls, l.Pairwise (· < ·) := by rw [hls2]; exact layL_strict hRn
  refine efg [(8, .slice A8 ls.length c8), (10, .slice A10 lt.length c10), (1, i64 m), (0, .slice A a.length c)] [] fun ρ => ?_
  refine sqJ (σ := Unit) (fun _ => [(8, .slice A8 ls.length c8), (10, .slice A10 lt.length c10), (1, i64 m), (0, .slice A a.length c)]) (fun _ => g5) (fun _ => []) (fun _ => True) ?_ ?_
  · refine sgE ?_
    refine bk ?_
    refine lpn ls.length (fun k => [(12, i64 k), (8, .slice A8 ls.length c8), (10, .slice A10 lt.length c10), (1, i64 m), (0, .slice A a.length c)]) (fun _ => True) trivial ?_
    intro k ρ hk _
    refine sq (sg ?_)
    refine sub ((m : Int) - 1) ?_
    refine Go.Hog.lt (fun h1 => ?_) (fun h1 => ?_)
    case refine_2 =>
      refine runE ?_
      refine cFx ?_
      exact jn () trivial
    refine ltE (fun h => ?_) (fun h => ?_)
    case refine_2 =>
      refine cFx ?_
      exact jn () trivial
    have hkl : k < ls.length := by omega
    obtain ⟨hkt, h1l, hee⟩ := hone k hkl (by omega)
    obtain ⟨b1, o1, A1, c1, rfl, hc1, hs1⟩ := tL5.list hkl
    obtain ⟨b2, o2, A2, c2, rfl, hc2, hs2⟩ := tT.list hkt
    rw [← hee] at hc2 hs2
    have hnn : ¬ ((ls[k].length : Nat) : Int) ≠ 1 := by omega
    refine cTs (sq (bk (sQ ?_)))
    refine ix k hkl ?_
    refine ldv hc1 ?_
    refine neI (fun h => absurd h hnn) (fun _ => ?_)
    refine ix k hkl ?_
    refine ldv hc1 ?_
    refine ix k hkt ?_
    refine ldv hc2 ?_
    refine callB (p := ls[k] = ls[k]) (vs := [.slice A1 ls[k].length c1, .slice A2 ls[k].length c2]) (fun w g hs hsn hon => sameTexts hon (hs1.mono hs) (hs2.mono hs)) (fun _ => ?_) (fun h => absurd rfl h)
    refine runE ?_
    refine cFs (rg ?_)
    refine addE ((k + 1 : Nat) : Int) ?_
    exact nx trivial
  rintro ⟨⟩ ρ _
  refine sqJ (σ := Unit) (fun _ => []) (fun _ => g5) (fun _ => []) (fun _ => True) ?_ ?_
  case refine_2 =>
    rintro ⟨⟩ ρ _
    refine sg ?_
    refine callV (.bool true) (vs := []) (fun w g hs _ hon => awake22 hon) ?_
    refine runE ?_
    refine ew_ret ?_
    exact ret1 rfl
  refine sg ?_
  refine eqI (fun hlm => ?_) (fun hlm => ?_)
  case refine_2 =>
    refine runE ?_
    refine cFs ?_
    exact jn () trivial
  obtain ⟨hml, hll, hfar⟩ := hlast (by omega)
  obtain ⟨b1, o1, A1, c1, rfl, hc1, hs1⟩ := tL5.list hml
  have hsq := hst _ (List.getElem_mem hml)
  generalize hq13 : ls[m - 1] = q at hll hfar hc1 hs1 hsq
  have hql : ((q.length : Nat) : Int) = (a.length : Nat) - (m : Int) + 1 := by omega
  refine runE ?_
  refine cT (sg ?_)
  refine sub ((m - 1 : Nat) : Int) ?_
  refine ix (m - 1) hml ?_
  refine ldv hc1 ?_
  refine runE ?_
  refine efg [(13, .slice A1 q.length c1), (10, .slice A10 lt.length c10), (1, i64 m), (0, .slice A a.length c)] [] fun ρ => ?_
  refine sq (sg ?_)
  refine sub ((a.length : Nat) - (m : Int)) ?_
  refine add ((a.length : Nat) - (m : Int) + 1) ?_
  refine neIE (fun h => absurd hql h) (fun _ => ?_)
  refine cFs ?_
  refine sgE ?_
  refine bk ?_
  refine lpn q.length (fun k => [(14, i64 k), (13, .slice A1 q.length c1), (10, .slice A10 lt.length c10), (1, i64 m)]) (fun _ => True) trivial ?_
  intro k ρ hk _
  refine sq (sg ?_)
  refine ltE (fun h => ?_) (fun h => ?_)
  case refine_2 =>
    refine cFx ?_
    exact jn () trivial
  have hkq : k < q.length := by omega
  obtain ⟨b2, o2, rfl, hc2, _⟩ := hs1.text hkq
  have hpl := hfar q[k] (List.getElem_mem hkq)
  have hpn : ¬ placeL lt q[k] < (m : Int) - 1 := by omega
  refine cTs (sq (bk (sQ ?_)))
  refine Go.Hog.gt (fun hk0 => ?_) (fun hk0 => ?_)
  · have hk1 : k - 1 < q.length := by omega
    obtain ⟨b3, o3, e3, hc3, _⟩ := hs1.text hk1
    injection e3 with e3
    injection e3 with e31 e32
    subst e31 e32
    have hlt9 := List.pairwise_iff_getElem.1 hsq (k - 1) k hk1 hkq (by omega)
    refine sub ((k - 1 : Nat) : Int) ?_
    refine ix (k - 1) hk1 ?_
    refine ldv hc3 ?_
    refine ix k hkq ?_
    refine ldv hc2 ?_
    refine geS (fun h => absurd hlt9 h) (fun _ => ?_)
    refine ix k hkq ?_
    refine ldv hc2 ?_
    refine callV (i64 (placeL lt q[k])) (vs := [.slice A10 lt.length c10, str q[k]]) (fun w g hs hsn hon => splitPlace hon (tT.mono hs)) ?_
    refine sub ((m : Int) - 1) ?_
    refine ltE (fun h => absurd h hpn) (fun _ => ?_)
    refine cFs (rg ?_)
    refine addE ((k + 1 : Nat) : Int) ?_
    exact nx trivial
  · refine ix k hkq ?_
    refine ldv hc2 ?_
    refine callV (i64 (placeL lt q[k])) (vs := [.slice A10 lt.length c10, str q[k]]) (fun w g hs hsn hon => splitPlace hon (tT.mono hs)) ?_
    refine sub ((m : Int) - 1) ?_
    refine ltE (fun h => absurd h hpn) (fun _ => ?_)
    refine cFs (rg ?_)
    refine addE ((k + 1 : Nat) : Int) ?_
    exact nx trivial
end Go.Hog
