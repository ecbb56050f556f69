/- SplitOnce answers true. -/
import Derived.Test.YtnjaclggjmfkfaaMQ
import Derived.Test.YtnjaclggjmfkfaaMH
set_option linter.unusedVariables false
set_option linter.unusedSimpArgs false
set_option maxRecDepth 100000
set_option maxHeartbeats 1000000
namespace Go.Hog
open Go.RowKit Rp Go.Proofs
theorem idxP_neg {α : Type} {p : α → Bool} {l : List α} : 0 ≤ idxP p l ↔ ∃ x ∈ l, p x = true := by
  unfold idxP
  cases h : l.findIdx? p with
  | none =>
    rw [List.findIdx?_eq_none_iff] at h
    constructor
    · intro h2; exact absurd h2 (by decide)
    · rintro ⟨x, hx, h2⟩
      rw [h x hx] at h2; cases h2
  | some k =>
    obtain ⟨h1, h2, _⟩ := List.findIdx?_eq_some_iff_getElem.1 h
    constructor
    · intro _; exact ⟨_, List.getElem_mem h1, h2⟩
    · intro _; exact Int.natCast_nonneg k
theorem splitOnce {w : World} {f : View} (hv : On f w) {A : Option Addr} {c : Nat} {a : List Item} {x : Int} (ha : Sl f A c a) (hx : -9223372036854775808 ≤ x ∧ x ≤ 9223372036854775807) :
    Con Try.prog 4 [.slice A a.length c, i64 x] w (Ret w f fun _ v => v = .bool true) := by
  refine enterC hv Try.call4 Try.func4 ?_
  have hlim := ha.len_lt
  refine sgE ?_
  refine sq (sg ?_)
  refine callB (p := GreatI a) (vs := [.slice A a.length c]) (fun w g hs _ hon => greatItems hon (ha.mono hs)) (fun hgr => ?_) (fun hgr => ?_)
  · refine runE ?_
    refine cT (sg ?_)
    refine callV (.bool true) (vs := []) (fun w g hs _ hon => awake22 hon) ?_
    refine runE ?_
    refine ew_ret ?_
    exact ret1 rfl
  refine callB (p := (names a).Nodup) (vs := [.slice A a.length c]) (fun w g hs _ hon => unlike10 hon (ha.mono hs)) (fun hnd => ?_) (fun hnd => ?_)
  case refine_2 =>
      refine runE ?_
      refine cT (sg ?_)
      refine callV (.bool true) (vs := []) (fun w g hs _ hon => awake22 hon) ?_
      refine runE ?_
      refine ew_ret ?_
      exact ret1 rfl
  refine runE ?_
  refine cFs ?_
  have hfit := fitT_of hgr
  have h12 : a.length ≤ 12 := by have := ten_of hgr; omega
  obtain ⟨m, hm, hm1⟩ : ∃ m : Nat, 1 + lowV x 127 = m ∧ 1 ≤ m ∧ m ≤ 127 := by
    have := lowV_lt x (show (0 : Int) < 127 by omega)
    exact ⟨(1 + lowV x 127).toNat, by omega, by omega⟩
  refine efg [(1, i64 x), (0, .slice A a.length c)] [] fun ρ => ?_
  refine sg ?_
  refine callV (i64 (lowV x 127)) (vs := [i64 x, i64 127]) (fun w g hs _ hon => low0 hon ⟨by omega, by omega⟩) ?_
  refine addE (m : Int) ?_
  have hok : layOk a (m : Int) := ⟨by omega, by omega, hnd⟩
  refine efg [(1, i64 m), (0, .slice A a.length c)] [] fun ρ => ?_
  refine sg ?_
  refine callM0 (vs := [.slice A a.length c, i64 m]) [] (fun w hon hgi => splitLayers hon ha hfit h12) (fun v g L' hs hR => ?_)
  obtain ⟨A5, c5, rfl, hsl5⟩ := layR_sl (g := g) ha h12 hR
  refine runE ?_
  refine efrzA [] L' (List.Perm.refl _) fun g3 hs3 hq => ?_
  have tL := hsl5 g3 hq
  have ha3 := (ha.mono hs).mono hs3
  have hE : layersE a (m : Int) = 0 := by unfold layersE; rw [if_pos hok]
  have hll12 := layersL_len (n := (m : Int)) h12
  obtain ⟨R, hR0, hRl, hRn, hRp⟩ : ∃ R, rankL a = R ∧ R.length = a.length ∧ R.Nodup ∧ R.Perm (names a) := ⟨_, rfl, rank_len hnd, (rank_perm hnd).nodup_iff.2 hnd, rank_perm hnd⟩
  obtain ⟨ls, hls, hls2⟩ : ∃ ls, layersL a (m : Int) = ls ∧ ls = layL m R := ⟨_, rfl, by unfold layersL; rw [if_pos hok, hR0, Int.toNat_natCast]⟩
  rw [hls] at tL hll12 ⊢
  rw [hE]
  have hlen : ls.length = min m a.length := by rw [hls2, layL_len hm1.1, hRl]
  refine efg [(5, .slice A5 ls.length c5), (6, i64 0), (1, i64 m), (0, .slice A a.length c)] [] fun ρ => ?_
  refine sq (sg ?_)
  refine neI (fun h => absurd rfl h) (fun _ => ?_)
  have g1 : ¬ (m : Int) < ((ls.length : Nat) : Int) := by omega
  have g2 : ¬ ((a.length : Nat) : Int) < ((ls.length : Nat) : Int) := by omega
  refine Go.Hog.gt (fun h => absurd h g1) (fun _ => ?_)
  refine Go.Hog.gt (fun h => absurd h g2) (fun _ => ?_)
  have hmin : (if ((a.length : Nat) : Int) < (m : Int) then ((a.length : Nat) : Int) else (m : Int)) = ((ls.length : Nat) : Int) := by
    rw [hlen]; split <;> omega
  refine minI ((ls.length : Nat) : Int) hmin ?_
  refine neIE (fun h => absurd rfl h) (fun _ => ?_)
  refine cFs ?_
  refine sgE ?_
  refine efg [(7, i64 (0 : Nat)), (5, .slice A5 ls.length c5), (0, .slice A a.length c)] [] fun ρ => ?_
  refine sg ?_
  refine callM0 (vs := [.slice A a.length c]) [] (fun w hon hgi => popRank hon ha3 hfit h12) (fun v g4 L' hs4 hR2 => ?_)
  rw [hR0] at hR2
  obtain ⟨A8, c8, rfl, rfl⟩ := hR2
  refine runE ?_
  refine efrz 0 fun g5 hs5 hsn5 => ?_
  have tR : Sl g5 A8 c8 R := Sl.ofTexts (l := R) hsn5 rfl (fun s hs => namesLe ha (hRp.mem_iff.1 hs)) (by unfold LB; omega)
  have tL5 := (tL.mono hs4).mono hs5
  have ha5 := (ha3.mono hs4).mono hs5
  have hne : ∀ l ∈ ls, 0 < l.length := by rw [hls2]; exact layL_ne hm1.1
  have hst : ∀ l ∈ ls, l.Pairwise (· < ·) := by rw [hls2]; exact layL_strict hRn
  have hat : ∀ i, i + 1 < ls.length → ∃ (h : i < R.length) (h2 : i < ls.length), ls[i] = [R[i]] := by
    intro i hi
    subst hls2
    exact layL_at hm1.1 hi
  have hsum : (ls.map List.length).sum = a.length := by rw [hls2, layL_sum, hRl]
  have hle : ∀ l ∈ ls, l.length ≤ 12 := fun l hl => by
    rw [hls2] at hl
    have := layL_small l hl
    omega
  have hmem : ∀ s ∈ names a, 0 ≤ placeL ls s := fun s hs => by
    unfold placeL
    rw [idxP_neg]
    obtain ⟨l, h1, h2⟩ := layL_mem (n := m) (hRp.mem_iff.2 hs)
    exact ⟨l, hls2 ▸ h1, decide_eq_true h2⟩
  refine efg [(7, i64 (0 : Nat)), (5, .slice A5 ls.length c5), (8, .slice A8 R.length c8), (0, .slice A a.length c)] [] fun ρ => ?_
  refine sqJ (σ := Unit) (fun _ => [(7, i64 (a.length : Nat)), (5, .slice A5 ls.length c5), (0, .slice A a.length c)]) (fun _ => g5) (fun _ => []) (fun _ => True) ?_ ?_
  case refine_2 =>
    rintro ⟨⟩ ρ _
    refine sqJ (σ := Unit) (fun _ => [(7, i64 (a.length : Nat)), (0, .slice A a.length c)]) (fun _ => g5) (fun _ => []) (fun _ => True) ?_ ?_
    · refine sgE ?_
      refine bk ?_
      refine lpn a.length (fun k => [(11, i64 k), (7, i64 (a.length : Nat)), (5, .slice A5 ls.length c5), (0, .slice A a.length c)]) (fun _ => True) trivial ?_
      intro k ρ hk _
      refine sq (sg ?_)
      refine ltE (fun h => ?_) (fun h => ?_)
      case refine_2 =>
        refine cFx ?_
        exact jn () trivial
      have h1 : k < a.length := by omega
      obtain ⟨b1, o1, A1, c1, A2, c2, rfl, hc, hn, hr, ht⟩ := ha5.item h1
      have hpl := hmem a[k].name (List.mem_map.2 ⟨a[k], List.getElem_mem h1, rfl⟩)
      have hpn : ¬ placeL ls a[k].name < 0 := by omega
      refine cTs (sq (bk (sg ?_)))
      refine ix k h1 ?_
      refine ldv hc.1 ?_
      refine callV (i64 (placeL ls a[k].name)) (vs := [.slice A5 ls.length c5, str a[k].name]) (fun w g hs hsn hon => splitPlace hon (tL5.mono hs)) ?_
      refine ltE (fun h => absurd h hpn) (fun _ => ?_)
      refine cFs (rg ?_)
      refine addE ((k + 1 : Nat) : Int) ?_
      exact nx trivial
    rintro ⟨⟩ ρ _
    refine sg ?_
    refine eqI (fun _ => ?_) (fun h => absurd rfl h)
    refine callV (.bool true) (vs := []) (fun w g hs _ hon => awake22 hon) ?_
    refine runE ?_
    refine ew_ret ?_
    exact ret1 rfl
  refine sgE ?_
  refine bk ?_
  refine lpn ls.length (fun i => [(9, i64 i), (7, i64 ((((ls.take i).map List.length).sum : Nat) : Int)), (5, .slice A5 ls.length c5), (8, .slice A8 R.length c8), (0, .slice A a.length c)]) (fun _ => True) trivial ?_
  intro i ρ hi _
  have hb1 := sum_le hle i
  refine sq (sg ?_)
  refine ltE (fun h => ?_) (fun h => ?_)
  case refine_2 =>
    refine cFx ?_
    have e : i = ls.length := by omega
    subst e
    rw [List.take_length, hsum]
    exact jn () trivial
  have h1 : i < ls.length := by omega
  obtain ⟨b5, o5, A51, c51, rfl, hc5, hsl⟩ := tL5.list h1
  have hn1 := hne _ (List.getElem_mem h1)
  have hs1 := hst _ (List.getElem_mem h1)
  have hl1 := hle _ (List.getElem_mem h1)
  have hsn := sum_snocL h1
  have hnz : ¬ ((ls[i].length : Nat) : Int) = 0 := by omega
  refine cTs (sq (bk ?_))
  refine sg ?_
  refine ix i h1 ?_
  refine ldv hc5 ?_
  refine addE ((((ls.take (i + 1)).map List.length).sum : Nat) : Int) ?_ (hr := ⟨by rw [hsn]; push_cast; omega, by omega, by rw [hsn]; omega⟩)
  refine efg [(9, i64 i), (7, i64 ((((ls.take (i + 1)).map List.length).sum : Nat) : Int)), (5, .slice (some ⟨b5, o5, none⟩) ls.length c5), (8, .slice A8 R.length c8), (0, .slice A a.length c)] [] fun ρ => ?_
  refine sqJ (σ := Unit) (fun _ => [(9, i64 i), (7, i64 ((((ls.take (i + 1)).map List.length).sum : Nat) : Int)), (5, .slice (some ⟨b5, o5, none⟩) ls.length c5), (8, .slice A8 R.length c8), (0, .slice A a.length c)]) (fun _ => g5) (fun _ => []) (fun _ => True) ?_ ?_
  · refine sQ ?_
    refine ix i h1 ?_
    refine ldv hc5 ?_
    refine eqI (fun h => absurd h hnz) (fun _ => ?_)
    refine add ((i + 1 : Nat) : Int) ?_
    refine Go.Hog.lt (fun hlt => ?_) (fun hlt => ?_)
    case refine_2 =>
      refine runE ?_
      refine cFs ?_
      exact jn () trivial
    obtain ⟨hiR, _, hli⟩ := hat i (by omega)
    obtain ⟨b8, o8, rfl, hc8, _⟩ := tR.text hiR
    have hli1 : ls[i].length = 1 := by rw [hli]; rfl
    have h0l : 0 < ls[i].length := by omega
    obtain ⟨b9, o9, rfl, hc9, _⟩ := hsl.text h0l
    have hx0 : ls[i][0] = R[i] := by simp [hli]
    have hnn : ¬ ((ls[i].length : Nat) : Int) ≠ 1 := by omega
    have hge : ¬ ((R.length : Nat) : Int) ≤ (i : Nat) := by omega
    refine ix i h1 ?_
    refine ldv hc5 ?_
    refine neI (fun h => absurd h hnn) (fun _ => ?_)
    refine Go.Hog.ge (fun h => absurd h hge) (fun _ => ?_)
    refine ix i h1 ?_
    refine ldv hc5 ?_
    refine ix 0 h0l ?_
    refine ldv hc9 ?_
    refine ix i hiR ?_
    refine ldv hc8 ?_
    refine neSE (fun h => absurd hx0 h) (fun _ => ?_)
    refine cFs ?_
    exact jn () trivial
  rintro ⟨⟩ ρ _
  refine sgE ?_
  refine bk ?_
  refine lp (σ := Nat) (fun j => [(10, i64 j), (9, i64 i), (7, i64 ((((ls.take (i + 1)).map List.length).sum : Nat) : Int)), (5, .slice (some ⟨b5, o5, none⟩) ls.length c5), (8, .slice A8 R.length c8), (0, .slice A a.length c)]) (fun _ => g5) (fun _ => []) (fun j => 1 ≤ j ∧ j ≤ ls[i].length) (fun j => ls[i].length - j) 1 ⟨Nat.le_refl _, hn1⟩ ?_
  rintro j ρ ⟨hj1, hj2⟩
  refine sq (sg ?_)
  refine ix i h1 ?_
  refine ldv hc5 ?_
  refine ltE (fun h => ?_) (fun h => ?_)
  case refine_2 =>
    refine cFx ?_
    refine rg ?_
    refine addE ((i + 1 : Nat) : Int) ?_
    exact nx trivial
  have hjl : j < ls[i].length := by omega
  have hjl1 : j - 1 < ls[i].length := by omega
  obtain ⟨b9, o9, rfl, hc9, _⟩ := hsl.text hjl
  obtain ⟨b10, o10, e10, hc10, _⟩ := hsl.text hjl1
  injection e10 with e10
  injection e10 with e11 e12
  subst e11 e12
  have hlt := List.pairwise_iff_getElem.1 hs1 (j - 1) j hjl1 hjl (by omega)
  refine cTs (sq (bk (sQ ?_)))
  refine ix i h1 ?_
  refine ldv hc5 ?_
  refine sub ((j - 1 : Nat) : Int) ?_
  refine ix (j - 1) hjl1 ?_
  refine ldv hc10 ?_
  refine ix i h1 ?_
  refine ldv hc5 ?_
  refine ix j hjl ?_
  refine ldv hc9 ?_
  refine geSE (fun h => absurd hlt h) (fun _ => ?_)
  refine cFs (rg ?_)
  refine addE ((j + 1 : Nat) : Int) ?_
  exact nxs (j + 1) ⟨by omega, hjl⟩ (by show ls[i].length - (j + 1) < ls[i].length - j; omega)
end Go.Hog
