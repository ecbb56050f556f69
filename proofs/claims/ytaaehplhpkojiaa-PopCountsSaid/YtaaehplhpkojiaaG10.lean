/- PopCounts answers true. -/
import Derived.Test.YtaaehplhpkojiaaS12
import Derived.Test.YtaaehplhpkojiaaG7
set_option linter.unusedVariables false
set_option linter.unusedSimpArgs false
set_option maxRecDepth 100000
set_option maxHeartbeats 1000000
namespace Go.Hog
open Go.RowKit Rp Go.Proofs
theorem sum_snoc {a : List Item} (f : Item → Nat) {k : Nat} (h : k < a.length) : ((a.take (k + 1)).map f).sum = ((a.take k).map f).sum + f a[k] := by
  rw [List.take_add_one, List.getElem?_eq_getElem h, List.map_append, List.sum_append]
  simp
theorem popCounts {w : World} {f : View} (hv : On f w) {A : Option Addr} {c : Nat} {a : List Item} (ha : Sl f A c a) :
    Con Try.prog 4 [.slice A a.length c] w (Ret w f fun _ v => v = .bool true) := by
  refine enterC hv Try.call4 Try.func4 ?_
  have hlim := ha.len_lt
  refine sgE ?_
  refine sq (sg ?_)
  refine callB (p := GreatI a) (vs := [.slice A a.length c]) (fun w g hs _ hon => greatItems hon (ha.mono hs)) (fun hgr => ?_) (fun hgr => ?_)
  · refine runE ?_
    refine cT (sg ?_)
    refine callV (.bool true) (vs := []) (fun w g hs _ hon => awake21 hon) ?_
    refine runE ?_
    refine ew_ret ?_
    exact ret1 rfl
  refine callB (p := (names a).Nodup) (vs := [.slice A a.length c]) (fun w g hs _ hon => unlike10 hon (ha.mono hs)) (fun hnd => ?_) (fun hnd => ?_)
  case refine_2 =>
      refine runE ?_
      refine cT (sg ?_)
      refine callV (.bool true) (vs := []) (fun w g hs _ hon => awake21 hon) ?_
      refine runE ?_
      refine ew_ret ?_
      exact ret1 rfl
  refine runE ?_
  refine cFs ?_
  have hfit := fitT_of hgr
  have h12 : a.length ≤ 12 := by have := ten_of hgr; omega
  refine efg [(0, .slice A a.length c)] [] fun ρ => ?_
  refine sg ?_
  refine callM0 (vs := [.slice A a.length c]) [] (fun w hon hgi => popScores hon ha hfit h12) (fun v g1 L' hs1 hR => ?_)
  obtain ⟨As, cs, rfl, rfl⟩ := hR
  refine runE ?_
  refine efrzA [] [iRow As cs (scoresL a)] (List.Perm.refl _) fun g3 hs3 hq => ?_
  have tS : Sl g3 As cs (scoresL a) := Sl.ofNumV (hq _ (.head _)) rfl (scoresL_b h12) (by have := scoresL_len a; unfold LB; omega)
  have ha3 := (ha.mono hs1).mono hs3
  obtain ⟨S, hS, hSl, hat⟩ : ∃ S, scoresL a = S ∧ S.length = a.length ∧ ∀ i (h : i < S.length) (h2 : i < a.length), S[i] = (sc a a[i].name : Int) := ⟨scoresL a, rfl, scores_len hnd, fun i h h2 => scoresAt hnd h h2⟩
  rw [hS] at tS ⊢
  refine efg [(3, .slice As S.length cs), (0, .slice A a.length c)] [] fun ρ => ?_
  refine sq (sg ?_)
  refine neIE (fun h => ?_) (fun _ => ?_)
  · exact absurd (by show ((S.length : Nat) : Int) = a.length; rw [hSl]) h
  refine cFs ?_
  refine sgE ?_
  refine sqJ (σ := Nat × View) (fun s => [(4, i64 s.1), (5, i64 s.1)]) (fun s => s.2) (fun _ => []) (fun _ => True) ?_ ?_
  case refine_2 =>
    rintro ⟨p, g⟩ ρ _
    refine sg ?_
    refine eqI (fun _ => ?_) (fun h => absurd rfl h)
    refine callV (.bool true) (vs := []) (fun w g hs _ hon => awake21 hon) ?_
    refine runE ?_
    refine ew_ret ?_
    exact ret1 rfl
  refine sgE ?_
  refine bk ?_
  refine lp (σ := Nat × Nat × Nat × View) (fun s => [(6, i64 s.1), (5, i64 s.2.2.1), (4, i64 s.2.1), (3, .slice As S.length cs), (0, .slice A a.length c)]) (fun s => s.2.2.2) (fun _ => []) (fun s => s.1 ≤ a.length ∧ Sub g3 s.2.2.2 ∧ s.2.1 = ((a.take s.1).map fun x => sc a x.name).sum ∧ s.2.2.1 = ((a.take s.1).map fun x => (reachL a [x.name]).length - 1).sum ∧ s.2.1 ≤ 12 * s.1 ∧ s.2.2.1 ≤ 12 * s.1) (fun s => a.length - s.1) (0, 0, 0, g3) ⟨Nat.zero_le _, Sub.refl _, by simp, by simp, Nat.zero_le _, Nat.zero_le _⟩ ?_
  rintro ⟨i, p, q, g⟩ ρ ⟨hi, hsub, hp, hq1, hpb, hqb⟩
  replace hi : i ≤ a.length := hi
  replace hsub : Sub g3 g := hsub
  replace hp : p = ((a.take i).map fun x => sc a x.name).sum := hp
  replace hq1 : q = ((a.take i).map fun x => (reachL a [x.name]).length - 1).sum := hq1
  replace hpb : p ≤ 12 * i := hpb
  replace hqb : q ≤ 12 * i := hqb
  show EW _ _ _ _ _ (ups ρ [(6, i64 i), (5, i64 q), (4, i64 p), (3, .slice As S.length cs), (0, .slice A a.length c)]) g []
  refine sq (sg ?_)
  refine ltE (fun h => ?_) (fun h => ?_)
  case refine_2 =>
    refine cFx ?_
    have e : i = a.length := by omega
    subst e
    rw [List.take_length] at hp hq1
    have e2 : q = p := by rw [hp, hq1]; exact (sums_eq hnd).symm
    subst e2
    exact jn (q, g) trivial
  have h1 : i < a.length := by omega
  have hiS : i < S.length := by omega
  have ha4 := ha3.mono hsub
  have tS4 := tS.mono hsub
  obtain ⟨bs, os, rfl, hcs, _, _⟩ := tS4.num hiS
  obtain ⟨b1, o1, A1, c1, A2, c2, rfl, hc, hn, hr, ht⟩ := ha4.item h1
  have hSi := hat i hiS h1
  have hscb : sc a a[i].name ≤ 12 := by have := scN_le a a.length a[i].name; unfold sc; omega
  have hrl : (reachL a [a[i].name]).length ≤ 12 := by have := reachLen a [a[i].name]; omega
  have hr0 : 0 < (reachL a [a[i].name]).length := List.length_pos_of_mem (reachL_mem.2 (rch_me (List.mem_map.2 ⟨a[i], List.getElem_mem h1, rfl⟩)))
  have hcs' := hcs
  rw [hSi] at hcs'
  refine cTs (sq (bk (sg ?_)))
  refine ix i hiS ?_
  refine ldv hcs' ?_
  refine addE ((p + sc a a[i].name : Nat) : Int) ?_
  refine sg ?_
  refine ix i h1 ?_
  refine ldv hc.1 ?_
  refine bsl fun b42 => ?_
  refine rfrz 0 fun g5 hs5 hsn5 => ?_
  have hSn : Sl g5 (some ⟨b42, 0, none⟩) 1 [a[i].name] := Sl.ofTexts (l := [a[i].name]) hsn5 rfl (by simpa using hn) (by simp [LB])
  have ha5 := ha4.mono hs5
  have hS1 : [a[i].name].length ≤ 1000 := by simp
  have hcr : ∀ w, On g5 w → Con Try.prog 21 [.slice (some ⟨b1, o1, none⟩) a.length c, .slice (some ⟨b42, 0, none⟩) 1 1] w (RetM w g5 [] fun _ => reachR a [a[i].name]) := fun w hon => closureReach hon ha5 hfit h12 hSn hS1
  refine callM (vs := [.slice (some ⟨b1, o1, none⟩) a.length c, .slice (some ⟨b42, 0, none⟩) 1 1]) [] [] (fun w hon hgi => hcr w hon) (fun v g6 L' hs6 hR => ?_)
  obtain ⟨Ar, cr, rfl, rfl⟩ := hR
  refine rwL (L' := []) (fun _ h => h.sublist (List.nil_sublist _)) ?_
  refine add ((q + (reachL a [a[i].name]).length : Nat) : Int) ?_
  refine subE ((q + ((reachL a [a[i].name]).length - 1) : Nat) : Int) ?_
  refine efg [(6, i64 i), (5, i64 ((q + ((reachL a [a[i].name]).length - 1) : Nat) : Int)), (4, i64 ((p + sc a a[i].name : Nat) : Int)), (3, .slice (some ⟨bs, os, none⟩) S.length cs), (0, .slice (some ⟨b1, o1, none⟩) a.length c)] [] fun ρ => ?_
  have hp2 := sum_snoc (fun x : Item => sc a x.name) h1
  have hq2 := sum_snoc (fun x : Item => (reachL a [x.name]).length - 1) h1
  generalize hP : p + sc a a[i].name = p2
  generalize hQ : q + ((reachL a [a[i].name]).length - 1) = q2
  refine sgE ?_
  refine bk ?_
  refine lp (σ := Nat × View) (fun s => [(7, i64 s.1), (6, i64 i), (5, i64 q2), (4, i64 p2), (3, .slice (some ⟨bs, os, none⟩) S.length cs), (0, .slice (some ⟨b1, o1, none⟩) a.length c)]) (fun s => s.2) (fun _ => []) (fun s => s.1 ≤ a.length ∧ Sub g3 s.2) (fun s => a.length - s.1) (0, g6) ⟨Nat.zero_le _, (hsub.trans hs5).trans hs6⟩ ?_
  rintro ⟨j, g7⟩ ρ ⟨hj, hsub7⟩
  replace hj : j ≤ a.length := hj
  replace hsub7 : Sub g3 g7 := hsub7
  show EW _ _ _ _ _ (ups ρ [(7, i64 j), (6, i64 i), (5, i64 q2), (4, i64 p2), (3, .slice (some ⟨bs, os, none⟩) S.length cs), (0, .slice (some ⟨b1, o1, none⟩) a.length c)]) g7 []
  refine sq (sg ?_)
  refine ltE (fun h => ?_) (fun h => ?_)
  case refine_2 =>
    refine cFx ?_
    refine rg ?_
    refine addE ((i + 1 : Nat) : Int) ?_
    refine nxs (i + 1, p2, q2, g7) ⟨h1, hsub7, ?_, ?_, ?_, ?_⟩ (by show a.length - (i + 1) < a.length - i; omega)
    · show p2 = ((a.take (i + 1)).map fun x => sc a x.name).sum
      rw [hp2, ← hp, hP]
    · show q2 = ((a.take (i + 1)).map fun x => (reachL a [x.name]).length - 1).sum
      rw [hq2, ← hq1, hQ]
    · show p2 ≤ 12 * (i + 1)
      omega
    · show q2 ≤ 12 * (i + 1)
      omega
  have h2 : j < a.length := by omega
  have ha7 := ha3.mono hsub7
  have tS7 := tS.mono hsub7
  have hjS : j < S.length := by omega
  obtain ⟨b7, o7, A71, c71, A72, c72, e7, hc7, hn7, hr7, ht7⟩ := ha7.item h1
  injection e7 with e7
  injection e7 with e71 e72
  subst e71 e72
  obtain ⟨b8, o8, A81, c81, A82, c82, e8, hc8, hn8, hr8, ht8⟩ := ha7.item h2
  injection e8 with e8
  injection e8 with e81 e82
  subst e81 e82
  obtain ⟨b9, o9, e9, hcs9, _, _⟩ := tS7.num hiS
  injection e9 with e9
  injection e9 with e91 e92
  subst e91 e92
  obtain ⟨b10, o10, e10, hcs10, _, _⟩ := tS7.num hjS
  injection e10 with e10
  injection e10 with e101 e102
  subst e101 e102
  have hSj := hat j hjS h2
  refine cTs (bkJ (σ := View) (fun _ => [(7, i64 j), (6, i64 i), (5, i64 q2), (4, i64 p2), (3, .slice (some ⟨bs, os, none⟩) S.length cs), (0, .slice (some ⟨b1, o1, none⟩) a.length c)]) (fun s => s) (fun _ => []) (fun s => Sub g3 s) ?_ ?_)
  case refine_2 =>
    rintro g8 ρ hs8
    refine rg ?_
    refine addE ((j + 1 : Nat) : Int) ?_
    exact nxs (j + 1, g8) ⟨h2, hs8⟩ (by show a.length - (j + 1) < a.length - j; omega)
  refine sq (sQ ?_)
  refine eqI (fun hij => ?_) (fun hij => ?_)
  · refine runE ?_
    refine cTx ?_
    exact jn g7 hsub7
  refine ix i h1 ?_
  refine ldv hc7.2.1 ?_
  refine ix j h2 ?_
  refine ldv hc8.1 ?_
  refine callB (p := a[j].name ∈ a[i].refs) (vs := [.slice A71 a[i].refs.length c71, str a[j].name]) (fun w g hs _ hon => hasL21 hon (hr7.mono hs)) (fun hin => ?_) (fun hin => ?_)
  case refine_2 =>
    refine runE ?_
    refine cTx ?_
    exact jn g7 hsub7
  refine runE ?_
  refine cFs ?_
  refine efg [(7, i64 j), (6, i64 i), (5, i64 q2), (4, i64 p2), (3, .slice (some ⟨bs, os, none⟩) S.length cs), (0, .slice (some ⟨b1, o1, none⟩) a.length c)] [] fun ρ => ?_
  have hni : a[i] ∈ a := List.getElem_mem h1
  have hnj : a[j].name ∈ names a := List.mem_map.2 ⟨a[j], List.getElem_mem h2, rfl⟩
  have hring := sc_ring hnd hni hnj hin
  have habove := sc_above hnd hni hnj hin
  have hrB := reachB ha7 (S := [a[j].name])
  have hrL : (reachL a [a[j].name]).length ≤ LB := by have := reachLen a [a[j].name]; unfold LB; omega
  have hS8 : [a[j].name].length ≤ 1000 := by simp
  refine sA [0, 1, 2, 3, 4, 5, 8, 9, 10, 11, 12] [] (List.nil_sublist _) ?_
  refine an_takeH [0, 1, 2, 3, 4, 5, 8, 9, 10, 11, 12] HeldL.same ?_
  refine ix j h2 ?_
  refine ldv hc8.1 ?_
  refine ix i h1 ?_
  refine ldv hc7.1 ?_
  refine rw_end ?_
  refine an_run1 6 ?_
  refine bsl fun b2 => ?_
  refine rfrz 0 fun g8 hs8 hsn8 => ?_
  have hSn8 : Sl g8 (some ⟨b2, 0, none⟩) 1 [a[j].name] := Sl.ofTexts (l := [a[j].name]) hsn8 rfl (by simpa using hn8) (by simp [LB])
  have ha8 := ha7.mono hs8
  have hcr8 : ∀ w, On g8 w → Con Try.prog 21 [.slice (some ⟨b1, o1, none⟩) a.length c, .slice (some ⟨b2, 0, none⟩) 1 1] w (RetM w g8 [] fun _ => reachR a [a[j].name]) := fun w hon => closureReach hon ha8 hfit h12 hSn8 hS8
  refine aH (HeldL.none hs8) ?_
  refine an_run1 7 ?_
  refine callM (vs := [.slice (some ⟨b1, o1, none⟩) a.length c, .slice (some ⟨b2, 0, none⟩) 1 1]) [] [] (fun w hon hgi => hcr8 w hon) (fun v g9 L' hs9 hR => ?_)
  obtain ⟨Aq, cq, rfl, rfl⟩ := hR
  refine rfrz 0 fun g10 hs10 hsn10 => ?_
  have hsub10 : Sub g7 g10 := (hs8.trans hs9).trans hs10
  have tQ : Sl g10 Aq cq (reachL a [a[j].name]) := Sl.ofTexts hsn10 rfl hrB hrL
  refine aH (HeldL.none hsub10) ?_
  refine an_run1 13 ?_
  have tS10 := tS7.mono hsub10
  have hmi : (a[i].name ∈ reachL a [a[j].name]) ↔ Rch a [a[j].name] a[i].name := reachL_mem
  refine callB (p := a[i].name ∈ reachL a [a[j].name]) (vs := [.slice Aq (reachL a [a[j].name]).length cq, str a[i].name]) (fun w g hs _ hon => hasL21 hon (tQ.mono hs)) (fun hm => ?_) (fun hm => ?_)
  · refine aH (HeldL.none hsub10) ?_
    refine an_done ?_
    have hcsi := hsub10.cell hcs9
    have hcsj := hsub10.cell hcs10
    have e := hring (hmi.1 hm)
    have e2 : S[i] = S[j] := by rw [hSi, hSj, e]
    refine cT (sQ ?_)
    refine ix i hiS ?_
    refine ldv hcsi ?_
    refine ix j hjS ?_
    refine ldv hcsj ?_
    refine neIE (fun h => absurd e2 h) (fun _ => ?_)
    refine cFs ?_
    exact jn g10 (hsub7.trans hsub10)
  · refine aH (HeldL.none hsub10) ?_
    refine an_done ?_
    have hcsi := hsub10.cell hcs9
    have hcsj := hsub10.cell hcs10
    have e := habove (fun h => hm (hmi.2 h))
    have e2 : ¬ S[j] < S[i] + 1 := by rw [hSi, hSj]; omega
    have e3 : S[i] + 1 = S[i] + 1 ∧ -9223372036854775808 ≤ S[i] + 1 ∧ S[i] + 1 ≤ 9223372036854775807 := by rw [hSi]; omega
    refine cF (sQ ?_)
    refine ix j hjS ?_
    refine ldv hcsj ?_
    refine ix i hiS ?_
    refine ldv hcsi ?_
    refine add (S[i] + 1) ?_ (hr := e3)
    refine ltE (fun h => absurd h e2) (fun _ => ?_)
    refine cFs ?_
    exact jn g10 (hsub7.trans hsub10)
end Go.Hog
