/- PopLeaves answers true. -/
import Derived.Test.YtaaehplhpkojiaaS11
import Derived.Test.YtaaehplhpkojiaaG7
import Derived.Test.YtaaehplhpkojiaaFL
set_option linter.unusedVariables false
set_option linter.unusedSimpArgs false
set_option maxRecDepth 100000
set_option maxHeartbeats 1000000
namespace Go.Hog
open Go.RowKit Rp Go.Proofs
section
variable {P : Program} {n : Nat} {B : Bs} {f : View} {L : List HE} {ρ : Env} {K : Kon} {ops : Array Oper} {m : Md} {l l0 : List Oper} {ρ0 : Env} {d : Nat} {x y : Operand} {t ty t2 : TypeId} {pos : String} {af : Array Edge} {gd : Option (Nat × Bool)}
theorem neBB (p q : Bool) (k : RW m P n B ops K l (up ρ d (.bool (p != q))) f L) (hrun : runP P ops l0 ρ0 = (⟨some d, .binOp .neq t x y t2, ty, pos, af, gd⟩ :: l, ρ) := by rfl) (hg : wantedE ops ρ ⟨some d, .binOp .neq t x y t2, ty, pos, af, gd⟩ = true := by rfl) (hx : ev ρ x = .bool p := by rfl) (hy : ev ρ y = .bool q := by rfl) (ht : P.underlying t = some .bool := by rfl) : RW m P n B ops K l0 ρ0 f L := by
  refine rw_runP l0 ρ0 ?_
  rw [hrun]
  have he : ∀ w, (Op.equalIn Op.maxDepth t (.bool p) (.bool q)).run P w = .ok (p == q) w := fun w => by
    rw [show Op.maxDepth = 9999 + 1 from rfl]
    unfold Op.equalIn
    simp [run_und ht]
  exact rw_y hg (fun w _ => by simp [execOp, eqGuard, binOp, hx, hy, Op.equal, he]; cases p <;> cases q <;> rfl) k
end
def sMore : Str := [109, 111, 114, 101]
theorem popLeaves {w : World} {f : View} (hv : On f w) {A : Option Addr} {c : Nat} {a : List Item} {x : Int} (ha : Sl f A c a) (hx : -9223372036854775808 ≤ x ∧ x ≤ 9223372036854775807) :
    Con Try.prog 7 [.slice A a.length c, i64 x] w (Ret w f fun _ v => v = .bool true) := by
  refine enterC hv Try.call7 Try.func7 ?_
  have hlim := ha.len_lt
  refine sgE ?_
  refine sq (sg ?_)
  refine callB (p := GreatI a) (vs := [.slice A a.length c]) (fun w g hs _ hon => greatItems hon (ha.mono hs)) (fun hgr => ?_) (fun hgr => ?_)
  · refine runE ?_
    refine cT (sg ?_)
    refine callV (.bool true) (vs := []) (fun w g hs _ hon => awake21 hon) ?_
    refine runE ?_
    refine ew_ret ?_
    exact ret1 rfl
  refine Go.Hog.gt (fun h9 => ?_) (fun h9 => ?_)
  · refine runE ?_
    refine cT (sg ?_)
    refine callV (.bool true) (vs := []) (fun w g hs _ hon => awake21 hon) ?_
    refine runE ?_
    refine ew_ret ?_
    exact ret1 rfl
  refine eqI (fun h0 => ?_) (fun h0 => ?_)
  · refine runE ?_
    refine cT (sg ?_)
    refine callV (.bool true) (vs := []) (fun w g hs _ hon => awake21 hon) ?_
    refine runE ?_
    refine ew_ret ?_
    exact ret1 rfl
  refine callB (p := (names a).Nodup) (vs := [.slice A a.length c]) (fun w g hs _ hon => unlike10 hon (ha.mono hs)) (fun hnd => ?_) (fun hnd => ?_)
  case refine_2 =>
      refine runE ?_
      refine cT (sg ?_)
      refine callV (.bool true) (vs := []) (fun w g hs _ hon => awake21 hon) ?_
      refine runE ?_
      refine ew_ret ?_
      exact ret1 rfl
  refine runE ?_
  refine cFs ?_
  have hfit := fitT_of hgr
  have hsm : a.length ≤ 9 := by omega
  have h12 : a.length ≤ 12 := by omega
  have hpos : 0 < a.length := by
    rcases Nat.eq_zero_or_pos a.length with e | e
    · exact absurd (by show ((a.length : Nat) : Int) = 0; rw [e]; rfl) h0
    · exact e
  refine efg [(1, i64 x), (0, .slice A a.length c)] [] fun ρ => ?_
  refine sg ?_
  refine callV (i64 (lowV x a.length)) (vs := [i64 x, i64 (a.length : Nat)]) (fun w g hs _ hon => low0 hon ⟨by omega, by omega⟩) ?_
  refine runE ?_
  obtain ⟨m, hm, hml⟩ : ∃ m : Nat, lowV x a.length = m ∧ m < a.length := by
    have := lowV_lt x (show (0 : Int) < a.length by omega)
    exact ⟨(lowV x a.length).toNat, by omega, by omega⟩
  rw [hm]
  refine efg [(1, i64 m), (0, .slice A a.length c)] [] fun ρ => ?_
  refine sqJ (σ := Unit) (fun s => [(1, i64 m), (0, .slice A a.length c)]) (fun _ => f) (fun s => []) (fun _ => ∀ x ∈ a, x.name ≠ sMore ∧ sMore ∉ x.refs) ?_ ?_
  · refine sgE ?_
    refine bk ?_
    refine lpn a.length (fun k => [(5, i64 k), (1, i64 m), (0, .slice A a.length c)]) (fun k => ∀ x ∈ a.take k, x.name ≠ sMore ∧ sMore ∉ x.refs) (by simp) ?_
    intro k ρ hk hok
    refine sq (sg ?_)
    refine ltE (fun h => ?_) (fun h => ?_)
    case refine_2 =>
      refine cFx ?_
      have e : k = a.length := by omega
      subst e
      rw [List.take_length] at hok
      exact jn () hok
    have h1 : k < a.length := by omega
    obtain ⟨b1, o1, A1, c1, A2, c2, rfl, hc, hn, hr, ht⟩ := ha.item h1
    refine cTs (sq (bk (sg ?_)))
    refine ix k h1 ?_
    refine ldv hc.1 ?_
    refine eqS (u := sMore) (fun e1 => ?_) (fun e1 => ?_)
    · refine runE ?_
      refine cT (sg ?_)
      refine callV (.bool true) (vs := []) (fun w g hs _ hon => awake21 hon) ?_
      refine runE ?_
      refine ew_ret ?_
      exact ret1 rfl
    refine ix k h1 ?_
    refine ldv hc.2.1 ?_
    refine callB (p := sMore ∈ a[k].refs) (fun w g hs _ hon => hasL21 hon (hr.mono hs)) (fun e3 => ?_) (fun e3 => ?_)
    · refine runE ?_
      refine cT (sg ?_)
      refine callV (.bool true) (vs := []) (fun w g hs _ hon => awake21 hon) ?_
      refine runE ?_
      refine ew_ret ?_
      exact ret1 rfl
    refine runE ?_
    refine cFs ?_
    refine rg ?_
    refine addE ((k + 1 : Nat) : Int) ?_
    have htk : a.take (k + 1) = a.take k ++ [a[k]] := by rw [List.take_add_one, List.getElem?_eq_getElem h1]; rfl
    refine nx ?_
    rw [htk]
    intro x hx
    rcases List.mem_append.1 hx with hx | hx
    · exact hok x hx
    · rw [List.mem_singleton] at hx
      subst hx
      exact ⟨e1, e3⟩
  rintro ⟨⟩ ρ hok
  replace hok : ∀ x ∈ a, x.name ≠ sMore ∧ sMore ∉ x.refs := hok
  have hnn : sMore ∉ names a := fun h => by
    obtain ⟨x, hx, e⟩ := List.mem_map.1 h
    exact (hok x hx).1 e
  have hnr : ∀ x ∈ a, sMore ∉ x.refs := fun x hx => (hok x hx).2
  refine sg ?_
  refine callM0 (vs := [.slice A a.length c]) [] (fun w hon hgi => popScores hon ha hfit h12) (fun v g1 L' hs1 hR => ?_)
  obtain ⟨As, cs, rfl, rfl⟩ := hR
  refine runE ?_
  refine efrzA [] [iRow As cs (scoresL a)] (List.Perm.refl _) fun g3 hs3 hq => ?_
  have tS : Sl g3 As cs (scoresL a) := Sl.ofNumV (hq _ (.head _)) rfl (scoresL_b h12) (by have := scoresL_len a; unfold LB; omega)
  have ha3 := (ha.mono hs1).mono hs3
  refine efg [(6, .slice As (scoresL a).length cs), (1, i64 m), (0, .slice A a.length c)] [] fun ρ => ?_
  obtain ⟨ys, hys, hcy⟩ := ha3.cells
  obtain ⟨b1, o1, A1, c1, A2, c2, rfl, hc, hn, hr, ht⟩ := ha3.item hml
  have q1 : a.length ≤ a.length ∧ a.length ≤ c := ⟨Nat.le_refl _, ha.cap⟩
  have q2 : (a.length + 1) * 64 ≤ 140737488355328 := by omega
  generalize hnm : a[m].name = nm at hc hn
  refine sA [0, 1, 2, 3, 4, 5, 6, 7, 8, 9, 10, 12] [] (List.nil_sublist _) ?_
  refine an_takeH [0, 1, 2, 3, 4, 5, 6, 7, 8, 9, 10] HeldL.same ?_
  refine slM a.length a.length q1 ?_
  refine ix m hml ?_
  refine ldv hc.1 ?_
  refine rw_end ?_
  refine an_run1 11 ?_
  refine bsl fun b2 => ?_
  refine aH (HeldL.none (Sub.refl _)) ?_
  refine an_takeH [12] (HeldL.none (Sub.refl _)) ?_
  refine bld ?_
  refine rw_end ?_
  refine an_run1 13 ?_
  refine bsl fun b3 => ?_
  refine aH (HeldL.none (Sub.refl _)) ?_
  refine an_run1 14 ?_
  refine appG (nn := a.length) (c := a.length) (mm := 1) (sz := 3) (olds := ys) (news := [str sMore, .slice (some ⟨b2, 0, none⟩) 1 1, .slice none 0 0]) hys.len (fun w hw h0 => ?_) (fun hA => ?_) (by omega) rfl (fun w hw h0 => hw.rowAll (i := 0) rfl h0) (fun u hu => by simp at hu; rcases hu with rfl | rfl | rfl <;> rfl) (by omega) (fun A9 c9 => ?_) (hlim := q2)
  · obtain ⟨b, o, e, hcc⟩ := hcy h0
    exact ⟨b, o, e, fun j u hj => hw.on.cell (hcc.get j u hj)⟩
  · cases hA
  refine aH (HeldL.none (Sub.refl _)) ?_
  refine an_takeU [15] ?_
  refine an_done ?_
  refine efg [(7, .slice A9 (a.length + 1) c9), (6, .slice As (scoresL a).length cs), (1, i64 m), (0, .slice (some ⟨b1, o1, none⟩) a.length c)] [.row A9 (a.length + 1) c9 38 3 (ys ++ [str sMore, .slice (some ⟨b2, 0, none⟩) 1 1, .slice none 0 0]), .row (some ⟨b3, 0, none⟩) 1 1 38 3 [str sMore, .slice (some ⟨b2, 0, none⟩) 1 1, .slice none 0 0], .row (some ⟨b2, 0, none⟩) 1 1 9 1 [str nm]] fun ρ => ?_
  refine efrzA [] [.row A9 (a.length + 1) c9 38 3 (ys ++ [str sMore, .slice (some ⟨b2, 0, none⟩) 1 1, .slice none 0 0]), .row (some ⟨b3, 0, none⟩) 1 1 38 3 [str sMore, .slice (some ⟨b2, 0, none⟩) 1 1, .slice none 0 0], .row (some ⟨b2, 0, none⟩) 1 1 9 1 [str nm]] (List.Perm.refl _) fun g4 hs4 hq2 => ?_
  have hnm4 : Sl g4 (some ⟨b2, 0, none⟩) 1 [nm] := Sl.ofTexts (l := [nm]) (hq2 _ (.tail _ (.tail _ (.head _)))) rfl (by simpa using hn) (by simp [LB])
  have hw4 : Rw g4 (a ++ [⟨sMore, [nm], []⟩]) (ys ++ [str sMore, .slice (some ⟨b2, 0, none⟩) 1 1, .slice none 0 0]) :=
    (hys.mono hs4).append (Rw.one (show rp g4 (⟨sMore, [nm], []⟩ : Item) [str sMore, .slice (some ⟨b2, 0, none⟩) 1 1, .slice none 0 0] from ⟨some ⟨b2, 0, none⟩, 1, none, 0, rfl, by simp [sMore, LB], hnm4, Sl.nil _⟩))
  have hb : Sl g4 A9 c9 (a ++ [⟨sMore, [nm], []⟩]) := hw4.sl (hq2 _ (.head _)) (by simp) (by simp [LB]; omega)
  have hfb : FitT (a ++ [⟨sMore, [nm], []⟩]) := ⟨by simp; omega, fun x hx => by
    rcases List.mem_append.1 hx with hx | hx
    · exact hfit.2 x hx
    · rw [List.mem_singleton] at hx; subst hx; simp⟩
  have h12b : (a ++ [(⟨sMore, [nm], []⟩ : Item)]).length ≤ 12 := by simp; omega
  have hbl : (a ++ [(⟨sMore, [nm], []⟩ : Item)]).length = a.length + 1 := by simp
  have ha4 := ha3.mono hs4
  have tS4 := tS.mono hs4
  obtain ⟨S, T, hS, hT, hSl, hTlen, hTl, hTm, hTi, hSi⟩ : ∃ S T, scoresL a = S ∧ scoresL (a ++ [(⟨sMore, [nm], []⟩ : Item)]) = T ∧ S.length = a.length ∧ T.length = a.length + 1 ∧ (∀ (h : a.length < T.length), T[a.length] = 0) ∧ (∀ (h : m < T.length) (h2 : m < S.length), T[m] = S[m] + 1) ∧ (∀ k (h : k < a.length) (h1 : k < T.length) (h2 : k < S.length), S[k] ≤ T[k] ∧ T[k] ≤ S[k] + 1)
      ∧ ∀ k (h : k < a.length) (h2 : k < S.length), 0 ≤ S[k] ∧ S[k] < a.length ∧ (0 < S[k] ↔ ∃ j, ∃ (hj : j < a.length), j ≠ k ∧ a[k].name ∈ a[j].refs) := by
    have hnd2 := names_more (x0 := ⟨sMore, [nm], []⟩) hnd hnn
    have hT0 : (scoresL (a ++ [⟨sMore, [nm], []⟩])).length = a.length + 1 := by rw [scores_len hnd2]; simp
    have key : ∀ k (h : k < a.length) (h1 : k < (scoresL (a ++ [(⟨sMore, [nm], []⟩ : Item)])).length) (h2 : k < (scoresL a).length), ∃ e : Nat, e ≤ 1 ∧ (scoresL (a ++ [(⟨sMore, [nm], []⟩ : Item)]))[k] = (scoresL a)[k] + e ∧ (a[k].name ∈ [nm] → e = 1) := fun k h h1 h2 => by
      have hm : a[k].name ∈ names a := List.mem_map.2 ⟨a[k], List.getElem_mem h, rfl⟩
      obtain ⟨e, he1, he2, he3⟩ := sc_more_e (x0 := ⟨sMore, [nm], []⟩) hnd hnn hnr hm
      refine ⟨e, he1, ?_, he3⟩
      rw [scoresAt hnd2 h1 (by simp; omega), scoresAt hnd h2 h]
      have e5 : (a ++ [(⟨sMore, [nm], []⟩ : Item)])[k]'(by simp; omega) = a[k] := by simp [h]
      rw [e5, he2]
      omega
    refine ⟨_, _, rfl, rfl, scores_len hnd, hT0, fun h => ?_, fun h h2 => ?_, fun k h h1 h2 => ?_, fun k h h2 => ?_⟩
    · rw [scoresAt hnd2 h (by simp)]
      have e : (a ++ [(⟨sMore, [nm], []⟩ : Item)])[a.length]'(by simp) = ⟨sMore, [nm], []⟩ := by simp
      rw [e]
      have := sc_none (x0 := ⟨sMore, [nm], []⟩) hnn hnr
      show ((sc _ sMore : Nat) : Int) = 0
      rw [show sc (a ++ [⟨sMore, [nm], []⟩]) sMore = 0 from this]; rfl
    · obtain ⟨e, he1, he2, he3⟩ := key m hml h h2
      have := he3 (by rw [hnm]; exact List.mem_singleton.2 rfl)
      omega
    · obtain ⟨e, he1, he2, he3⟩ := key k h h1 h2
      omega
    · rw [scoresAt hnd h2 h]
      have hm2 : a[k].name ∈ names a := List.mem_map.2 ⟨a[k], List.getElem_mem h, rfl⟩
      have h3 := sc_lt hm2
      refine ⟨by omega, by omega, ?_⟩
      rw [← sc_pos_at hnd h]
      omega
  have hsT := scoresL_b h12b
  have hsTl := scoresL_len (a ++ [(⟨sMore, [nm], []⟩ : Item)])
  generalize ea2 : a ++ [(⟨sMore, [nm], []⟩ : Item)] = a2 at hb hfb h12b hbl hT hsT hsTl
  rw [hS] at tS4 ⊢
  have hcs2 : ∀ w, On g4 w → Con Try.prog 10 [.slice A9 (a.length + 1) c9] w (RetM w g4 [] fun _ L' v => ∃ A' c', v = .slice A' T.length c' ∧ L' = [iRow A' c' T]) := fun w hon => by
    have := popScores hon hb hfb h12b
    rwa [hbl, hT] at this
  refine sg ?_
  refine callM0 (vs := [.slice A9 (a.length + 1) c9]) [] (fun w hon hgi => hcs2 w hon) (fun v g5 L' hs5 hR => ?_)
  obtain ⟨At, ct, rfl, rfl⟩ := hR
  refine runE ?_
  refine efrzA [] [iRow At ct T] (List.Perm.refl _) fun g7 hs7 hq3 => ?_
  rw [hT] at hsT hsTl
  have tT : Sl g7 At ct T := Sl.ofNumV (hq3 _ (.head _)) rfl hsT (by unfold LB; omega)
  have tS7 := (tS4.mono hs5).mono hs7
  have ha7 := (ha4.mono hs5).mono hs7
  refine efg [(8, .slice At T.length ct), (6, .slice As S.length cs), (1, i64 m), (0, .slice (some ⟨b1, o1, none⟩) a.length c)] [] fun ρ => ?_
  have hlT : a.length < T.length := by omega
  have hmT : m < T.length := by omega
  have hmS : m < S.length := by omega
  obtain ⟨bt, ot, rfl, hct, _, _⟩ := tT.num hlT
  obtain ⟨bs, os, rfl, hcs, hsm1, hsm2⟩ := tS7.num hmS
  obtain ⟨bx, ox, ex, hctm, _, _⟩ := tT.num hmT
  injection ex with ex
  injection ex with ex1 ex2
  subst ex1 ex2
  refine sq (sQ ?_)
  refine neI (fun h => ?_) (fun _ => ?_)
  · exact absurd (by show ((S.length : Nat) : Int) = a.length; rw [hSl]) h
  refine add ((a.length + 1 : Nat) : Int) ?_
  refine neI (fun h => ?_) (fun _ => ?_)
  · exact absurd (by show ((T.length : Nat) : Int) = (a.length + 1 : Nat); rw [hTlen]) h
  refine ix m hmT ?_
  refine ldv hctm ?_
  refine ix m hmS ?_
  refine ldv hcs ?_
  have hTmm := hTm hmT hmS
  refine add (S[m] + 1) ?_
  refine neI (fun h => absurd hTmm h) (fun _ => ?_)
  refine ix a.length hlT ?_
  refine ldv hct ?_
  refine neIE (fun h => absurd (hTl hlT) h) (fun _ => ?_)
  refine cFs ?_
  refine efg [(8, .slice (some ⟨bt, ot, none⟩) T.length ct), (6, .slice (some ⟨bs, os, none⟩) S.length cs), (0, .slice (some ⟨b1, o1, none⟩) a.length c)] [] fun ρ => ?_
  refine sqJ (σ := Unit) (fun _ => []) (fun _ => g7) (fun _ => []) (fun _ => True) ?_ ?_
  case refine_2 =>
    rintro ⟨⟩ ρ _
    refine sg ?_
    refine callV (.bool true) (vs := []) (fun w g hs _ hon => awake21 hon) ?_
    refine runE ?_
    refine ew_ret ?_
    exact ret1 rfl
  refine sgE ?_
  refine bk ?_
  refine lpn a.length (fun k => [(9, i64 k), (8, .slice (some ⟨bt, ot, none⟩) T.length ct), (6, .slice (some ⟨bs, os, none⟩) S.length cs), (0, .slice (some ⟨b1, o1, none⟩) a.length c)]) (fun _ => True) trivial ?_
  intro i ρ hi _
  refine sq (sg ?_)
  refine ltE (fun h => ?_) (fun h => ?_)
  case refine_2 =>
    refine cFx ?_
    exact jn () trivial
  have h1 : i < a.length := by omega
  obtain ⟨bi, oi, Ai1, ci1, Ai2, ci2, ei, hci, hni, hri, hti⟩ := ha7.item h1
  injection ei with ei
  injection ei with ei1 ei2
  subst ei1 ei2
  refine cTs (sq (bk ?_))
  refine sgE ?_
  refine sqJ (σ := Bool) (fun s => [(10, .bool s), (9, i64 i), (8, .slice (some ⟨bt, ot, none⟩) T.length ct), (6, .slice (some ⟨bs, os, none⟩) S.length cs), (0, .slice (some ⟨b1, o1, none⟩) a.length c)]) (fun _ => g7) (fun _ => []) (fun s => s = decide (0 < S[i]'(by omega))) ?_ ?_
  · refine sgE ?_
    refine bk ?_
    refine lp (σ := Nat × Bool) (fun s => [(11, i64 s.1), (10, .bool s.2), (9, i64 i), (8, .slice (some ⟨bt, ot, none⟩) T.length ct), (6, .slice (some ⟨bs, os, none⟩) S.length cs), (0, .slice (some ⟨b1, o1, none⟩) a.length c)]) (fun _ => g7) (fun _ => []) (fun s => s.1 ≤ a.length ∧ (s.2 = true ↔ ∃ j, ∃ (hj : j < a.length), j < s.1 ∧ j ≠ i ∧ a[i].name ∈ a[j].refs)) (fun s => a.length - s.1) (0, false) ⟨Nat.zero_le _, by simp⟩ ?_
    rintro ⟨j, b⟩ ρ ⟨hj, hb2⟩
    replace hj : j ≤ a.length := hj
    replace hb2 : b = true ↔ ∃ j', ∃ (hj : j' < a.length), j' < j ∧ j' ≠ i ∧ a[i].name ∈ a[j'].refs := hb2
    show EW _ _ _ _ _ (ups ρ [(11, i64 j), (10, .bool b), (9, i64 i), (8, .slice (some ⟨bt, ot, none⟩) T.length ct), (6, .slice (some ⟨bs, os, none⟩) S.length cs), (0, .slice (some ⟨b1, o1, none⟩) a.length c)]) g7 []
    refine sq (sg ?_)
    refine ltE (fun h => ?_) (fun h => ?_)
    case refine_2 =>
      refine cFx ?_
      refine jn b ?_
      have e : j = a.length := by omega
      subst e
      have h3 := (hSi i h1 (by omega)).2.2
      rw [Bool.eq_iff_iff, hb2, decide_eq_true_eq, h3]
      exact ⟨fun ⟨j, hj, _, h5, h6⟩ => ⟨j, hj, h5, h6⟩, fun ⟨j, hj, h5, h6⟩ => ⟨j, hj, hj, h5, h6⟩⟩
    have h2 : j < a.length := by omega
    obtain ⟨bj, oj, Aj1, cj1, Aj2, cj2, ej, hcj, hnj, hrj, htj⟩ := ha7.item h2
    injection ej with ej
    injection ej with ej1 ej2
    subst ej1 ej2
    refine cTs (bkJ (σ := Bool) (fun s => [(11, i64 j), (10, .bool s), (9, i64 i), (8, .slice (some ⟨bt, ot, none⟩) T.length ct), (6, .slice (some ⟨bs, os, none⟩) S.length cs), (0, .slice (some ⟨b1, o1, none⟩) a.length c)]) (fun _ => g7) (fun _ => []) (fun s => (s = true ↔ ∃ j', ∃ (hj : j' < a.length), j' < j + 1 ∧ j' ≠ i ∧ a[i].name ∈ a[j'].refs)) ?_ ?_)
    case refine_2 =>
      rintro s ρ hs
      refine rg ?_
      refine addE ((j + 1 : Nat) : Int) ?_
      exact nxs (j + 1, s) ⟨h2, hs⟩ (by show a.length - (j + 1) < a.length - j; omega)
    have hskip : ¬ (j ≠ i ∧ a[i].name ∈ a[j].refs) → ((∃ j', ∃ (hj : j' < a.length), j' < j ∧ j' ≠ i ∧ a[i].name ∈ a[j'].refs) ↔ ∃ j', ∃ (hj : j' < a.length), j' < j + 1 ∧ j' ≠ i ∧ a[i].name ∈ a[j'].refs) := fun hn => by
      constructor
      · rintro ⟨p, q1, q2, q3, q4⟩
        exact ⟨p, q1, by omega, q3, q4⟩
      · rintro ⟨p, q1, q2, q3, q4⟩
        refine ⟨p, q1, ?_, q3, q4⟩
        rcases Nat.lt_or_ge p j with h5 | h5
        · exact h5
        · have e : p = j := by omega
          subst e
          exact absurd ⟨q3, q4⟩ hn
    refine rq ?_
    cases b with
    | true =>
      refine runE ?_
      refine jn true ?_
      obtain ⟨p, q1, q2, q3, q4⟩ := hb2.1 rfl
      exact ⟨fun _ => ⟨p, q1, by omega, q3, q4⟩, fun _ => rfl⟩
    | false =>
      refine neI (fun hji => ?_) (fun hji => ?_)
      case refine_2 =>
        refine runE ?_
        refine jn false ?_
        rw [hb2]
        exact hskip fun e => hji (by have := e.1; omega)
      refine ix j h2 ?_
      refine ldv hcj.2.1 ?_
      refine ix i h1 ?_
      refine ldv hci.1 ?_
      refine callB (p := a[i].name ∈ a[j].refs) (vs := [.slice Aj1 a[j].refs.length cj1, str a[i].name]) (fun w g hs _ hon => hasL21 hon (hrj.mono hs)) (fun hin => ?_) (fun hin => ?_)
      · refine runE ?_
        refine jn true ?_
        exact ⟨fun _ => ⟨j, h2, Nat.lt_succ_self _, by omega, hin⟩, fun _ => rfl⟩
      · refine runE ?_
        refine jn false ?_
        rw [hb2]
        exact hskip fun e => hin e.2
  rintro b ρ hb2
  have hiS : i < S.length := by omega
  have hiT : i < T.length := by omega
  replace hb2 : b = decide (0 < S[i]) := hb2
  obtain ⟨hS1, hS2, _⟩ := hSi i h1 hiS
  obtain ⟨hT1, hT2⟩ := hTi i h1 hiT hiS
  obtain ⟨by1, oy1, ey1, hcsi, _, hSb⟩ := tS7.num hiS
  injection ey1 with ey
  injection ey with ey1 ey2
  subst ey1 ey2
  obtain ⟨by2, oy2, ey3, hcti, _, _⟩ := tT.num hiT
  injection ey3 with ey
  injection ey with ey3 ey4
  subst ey3 ey4
  subst hb2
  have n1 : ¬ S[i] < 0 := by omega
  have n2 : ¬ ((a.length : Nat) : Int) ≤ S[i] := by omega
  have n3 : ¬ T[i] < S[i] := by omega
  have n4 : ¬ S[i] + 1 < T[i] := by omega
  refine sQ ?_
  refine ix i hiS ?_
  refine ldv hcsi ?_
  refine Go.Hog.lt (fun h => absurd h n1) (fun _ => ?_)
  refine ix i hiS ?_
  refine ldv hcsi ?_
  refine Go.Hog.ge (fun h => absurd h n2) (fun _ => ?_)
  refine ix i hiS ?_
  refine ldv hcsi ?_
  refine Go.Hog.gt (fun hg => ?_) (fun hg => ?_)
  · refine neBB (decide (0 < S[i])) true ?_
    rw [show (decide (0 < S[i]) != true) = false by rw [decide_eq_true hg]; rfl]
    refine ix i hiT ?_
    refine ldv hcti ?_
    refine ix i hiS ?_
    refine ldv hcsi ?_
    refine Go.Hog.lt (fun h => absurd h n3) (fun _ => ?_)
    refine ix i hiT ?_
    refine ldv hcti ?_
    refine ix i hiS ?_
    refine ldv hcsi ?_
    refine add (S[i] + 1) ?_
    refine gtE (fun h => absurd h n4) (fun _ => ?_)
    refine cFs (rg ?_)
    refine addE ((i + 1 : Nat) : Int) ?_
    exact nx trivial
  · refine neBB (decide (0 < S[i])) false ?_
    rw [show (decide (0 < S[i]) != false) = false by rw [decide_eq_false hg]; rfl]
    refine ix i hiT ?_
    refine ldv hcti ?_
    refine ix i hiS ?_
    refine ldv hcsi ?_
    refine Go.Hog.lt (fun h => absurd h n3) (fun _ => ?_)
    refine ix i hiT ?_
    refine ldv hcti ?_
    refine ix i hiS ?_
    refine ldv hcsi ?_
    refine add (S[i] + 1) ?_
    refine gtE (fun h => absurd h n4) (fun _ => ?_)
    refine cFs (rg ?_)
    refine addE ((i + 1 : Nat) : Int) ?_
    exact nx trivial
end Go.Hog
