/- RelocBack answers true. -/
import Derived.Test.YtdidefhdcinecaaGreatDoorF67
set_option linter.unusedVariables false
set_option linter.unusedSimpArgs false
set_option maxRecDepth 100000
set_option maxHeartbeats 1000000
namespace Go.Hog
open Go.RowKit Rp Go.Proofs
theorem toE_first {o n : Str} {a : List Item} : (valE o a ≠ 0 → toE o n a = valE o a) ∧ (valE o a = 0 → (toE o n a = 11 ↔ (¬ prefixOk n ∨ n.length ≠ o.length))) := by
  refine ⟨fun h => if_pos h, fun h => ?_⟩
  unfold toE
  rw [if_neg (Classical.not_not.2 h)]
  constructor
  · intro h2
    by_cases hp : ¬ prefixOk n ∨ n.length ≠ o.length
    · exact hp
    · rw [if_neg hp] at h2
      split at h2
      · cases h2
      · split at h2 <;> cases h2
  · intro h2
    rw [if_pos h2]
structure Like (R a : List Item) : Prop where
  len : R.length = a.length
  names : names R = names a
  refs : ∀ i (h : i < R.length) (h2 : i < a.length), R[i].refs = a[i].refs
  tree : ∀ i (h : i < R.length) (h2 : i < a.length), R[i].tree.length = a[i].tree.length
  node : ∀ i (h : i < R.length) (h2 : i < a.length) j (h3 : j < R[i].tree.length) (h4 : j < a[i].tree.length), R[i].tree[j].path = a[i].tree[j].path ∧ R[i].tree[j].kind = a[i].tree[j].kind ∧ R[i].tree[j].data.length = a[i].tree[j].data.length
theorem like_map (o n : Str) (a : List Item) : Like (a.map (swI o n)) a := by
  refine ⟨List.length_map _, ?_, fun i h h2 => ?_, fun i h h2 => ?_, fun i h h2 j h3 h4 => ?_⟩
  · unfold Go.Hog.names
    rw [List.map_map]
    rfl
  · rw [List.getElem_map]; rfl
  · rw [List.getElem_map]
    show (a[i].tree.map (swN o n)).length = _
    rw [List.length_map]
  · have e : (a.map (swI o n))[i].tree[j] = swN o n (a[i].tree[j]) := by simp [swI]
    rw [e]
    exact ⟨rfl, rfl, swS_len _ _ _⟩
theorem back_facts {o n : Str} {a : List Item} (h : toE o n a = 0) : toE n o (toR o n a) = 0 ∧ toR n o (toR o n a) = a ∧ (o ≠ n → cntI o (toR o n a) = 0) ∧ cntI n (toR o n a) = cntI o a ∧ valE n (toR o n a) = 0 ∧ Like (toR o n a) a := by
  obtain ⟨h1, h2, h3, h4⟩ := to_back h
  rw [toR_zero h]
  exact ⟨h1, by rw [toR_zero h1, h2], h3, h4, (toE_zero.1 h).2.2.2.2, like_map o n a⟩
theorem relocBackT {w : World} {f : View} (hv : On f w) (hm : ML f) {o n : Str} (ho : o.length ≤ LB) (hn : n.length ≤ LB) {A : Option Addr} {c : Nat} {a : List Item} (ha : Sl f A c a) :
    Con Tryz.prog 4 [str o, str n, .slice A a.length c] w (Ret w f fun _ v => v = .bool true) := by
  refine enterC hv Tryz.call4 Tryz.func4 ?_
  refine sgE ?_
  refine sq (sg ?_)
  refine gt (fun h => ?_) (fun h => ?_)
  · refine runE ?_
    refine cT (sg ?_)
    refine callV (.bool true) (vs := []) (fun w g hs _ hon => awake25 hon (hm.mono hs)) ?_
    refine runE ?_
    refine ew_ret ?_
    exact ret1 rfl
  refine gt (fun h => ?_) (fun h => ?_)
  · refine runE ?_
    refine cT (sg ?_)
    refine callV (.bool true) (vs := []) (fun w g hs _ hon => awake25 hon (hm.mono hs)) ?_
    refine runE ?_
    refine ew_ret ?_
    exact ret1 rfl
  refine callB (p := GreatI a) (vs := [.slice A a.length c]) (fun w g hs _ hon => greatItems hon (ha.mono hs)) (fun h1 => ?_) (fun h1 => ?_)
  · refine runE ?_
    refine cT (sg ?_)
    refine callV (.bool true) (vs := []) (fun w g hs _ hon => awake25 hon (hm.mono hs)) ?_
    refine runE ?_
    refine ew_ret ?_
    exact ret1 rfl
  obtain ⟨h10, hroom⟩ := great_room h1
  refine runE ?_
  refine cFs ?_
  refine efg [(0, str o), (1, str n), (2, .slice A a.length c)] [] (fun ρ => ?_)
  have hT := to_con hm ho hn ha hroom
  have hB := toR_itB (o := o) (n := n) ha.itB
  have hL := toR_len o n a
  have hM := room_to hroom o n
  have hR1 := fun h => toR_bad (o := o) (n := n) (a := a) h
  have hF := toE_first (o := o) (n := n) (a := a)
  have hK := fun h => back_facts (o := o) (n := n) (a := a) h
  obtain ⟨E, R, hE, hR⟩ := to_ex f o n a
  rw [← hE, ← hR] at hT
  rw [← hR] at hB hL hR1 hM hK
  rw [← hE] at hR1 hF hK
  clear hE hR
  refine sg ?_
  refine callM0 (vs := [str o, str n, .slice A a.length c]) [] (fun w hon hgi => hT w f (Sub.refl _) hon) (fun v g1 L' hs1 hRR => ?_)
  obtain ⟨its, A7, c7, hi, rfl, rfl⟩ := hRR
  refine rfrzA [] _ (List.Perm.refl _) fun g2 hs2 hsn => ?_
  obtain ⟨hsl, hil⟩ := to_sl hsn hi hB (by unfold LB; omega)
  rw [hil]
  refine runE ?_
  have hm2 := hm.mono (hs1.trans hs2)
  have ha2 := ha.mono (hs1.trans hs2)
  refine efg [(7, .slice A7 R.length c7), (8, i64 E), (0, str o), (1, str n), (2, .slice A a.length c)] [] (fun ρ => ?_)
  refine sq (sg ?_)
  refine neIE (fun h => ?_) (fun h => ?_)
  · have hR0 := hR1 h
    refine cT ?_
    refine sq (sg ?_)
    refine callV (i64 (valE o a)) (vs := [str o, .slice A a.length c]) (fun w g h1 h2 h3 => closureValidate h3 (hm2.mono h1) ho (ha2.mono h1)) ?_
    refine neIE (fun hv1 => ?_) (fun hv1 => ?_)
    · refine cT (sg ?_)
      refine callV (i64 (valE o a)) (vs := [str o, .slice A a.length c]) (fun w g h1 h2 h3 => closureValidate h3 (hm2.mono h1) ho (ha2.mono h1)) ?_
      refine eqI (fun _ => ?_) (fun h => absurd (hF.1 hv1) h)
      rw [hR0]
      refine eqI (fun _ => ?_) (fun h => absurd rfl h)
      refine callV (.bool true) (vs := []) (fun w g hs _ hon => awake25 hon (hm2.mono hs)) ?_
      refine runE ?_
      refine ew_ret ?_
      exact ret1 rfl
    · have hF2 := hF.2 (Classical.not_not.1 hv1)
      refine cFs ?_
      refine efg [(7, .slice A7 R.length c7), (8, i64 E), (0, str o), (1, str n)] [] (fun ρ => ?_)
      have fin : ∀ {n' : Nat}, True := fun {_} => trivial
      refine sg ?_
      refine eqI (fun h11 => ?_) (fun h11 => ?_)
      · have hF3 := hF2.1 h11
        refine callB (p := prefixOk n) (vs := [str n]) (fun w g h1 h2 h3 => closurePrefix h3 (hm2.mono h1) hn) (fun h2 => ?_) (fun h2 => ?_)
        · refine neI (fun h3 => ?_) (fun h3 => ?_)
          · refine run ?_
            refine eqBo2 true rfl ?_
            rw [hR0]
            refine eqI (fun _ => ?_) (fun h => absurd rfl h)
            refine callV (.bool true) (vs := []) (fun w g hs _ hon => awake25 hon (hm2.mono hs)) ?_
            refine runE ?_
            refine ew_ret ?_
            exact ret1 rfl
          · exact absurd hF3 (by rintro (h | h); exact h h2; exact h (by omega))
        · refine run ?_
          refine eqBo2 true rfl ?_
          rw [hR0]
          refine eqI (fun _ => ?_) (fun h => absurd rfl h)
          refine callV (.bool true) (vs := []) (fun w g hs _ hon => awake25 hon (hm2.mono hs)) ?_
          refine runE ?_
          refine ew_ret ?_
          exact ret1 rfl
      · refine callB (p := prefixOk n) (vs := [str n]) (fun w g h1 h2 h3 => closurePrefix h3 (hm2.mono h1) hn) (fun h2 => ?_) (fun h2 => absurd (hF2.2 (.inl h2)) h11)
        refine neI (fun h3 => ?_) (fun h3 => ?_)
        · exact absurd (hF2.2 (.inr fun e => h3 (by rw [e]))) h11
        refine run ?_
        refine eqBo2 true rfl ?_
        rw [hR0]
        refine eqI (fun _ => ?_) (fun h => absurd rfl h)
        refine callV (.bool true) (vs := []) (fun w g hs _ hon => awake25 hon (hm2.mono hs)) ?_
        refine runE ?_
        refine ew_ret ?_
        exact ret1 rfl
  obtain ⟨q1, q2, q3, q4, q5, q6⟩ := hK (Classical.not_not.1 h)
  refine cFs ?_
  have hT := to_con hm2 hn ho hsl hM
  rw [q1, q2] at hT
  clear hK hR1 hF
  refine sg ?_
  refine callM0 (vs := [str n, str o, .slice A7 R.length c7]) [] (fun w hon hgi => hT w g2 (Sub.refl _) hon) (fun v g3 L' hs3 hRR => ?_)
  obtain ⟨its2, A9, c9, hi2, rfl, rfl⟩ := hRR
  refine rfrzA [] _ (List.Perm.refl _) fun g4 hs4 hsn2 => ?_
  obtain ⟨hsl2, hil2⟩ := to_sl hsn2 hi2 ha.itB (by unfold LB; omega)
  rw [hil2]
  refine runE ?_
  have hm4 := hm2.mono (hs3.trans hs4)
  have ha4 := ha2.mono (hs3.trans hs4)
  have hR4 := hsl.mono (hs3.trans hs4)
  refine efg [(9, .slice A9 a.length c9), (10, i64 0), (7, .slice A7 R.length c7), (0, str o), (1, str n), (2, .slice A a.length c)] [] (fun ρ => ?_)
  have hnlR : (names R).length = R.length := List.length_map _
  have hnla : (names a).length = a.length := List.length_map _
  have hnbR : ∀ z ∈ names a, z.length ≤ LB := fun z hz => by
    obtain ⟨y, hy, rfl⟩ := List.mem_map.1 hz
    exact (ha.itB y hy).name
  have hna : (names a).length ≤ LB := by rw [hnla]; unfold LB; omega
  have hRl := q6.len
  obtain ⟨N, k1, k2, k3⟩ : ∃ N : Nat, (∀ (w : World) (g : View), Sub g4 g → On g w → Con Tryz.prog 15 [.slice A7 R.length c7, str n] w (Ret w g fun _ v => v = i64 (N : Nat))) ∧ (∀ (w : World) (g : View), Sub g4 g → On g w → Con Tryz.prog 15 [.slice A a.length c, str o] w (Ret w g fun _ v => v = i64 (N : Nat))) ∧ (o ≠ n → ∀ (w : World) (g : View), Sub g4 g → On g w → Con Tryz.prog 15 [.slice A7 R.length c7, str o] w (Ret w g fun _ v => v = i64 0)) := by
    refine ⟨cntI o a, fun w g hs hon => ?_, fun w g hs hon => relocCount hon (hm4.mono hs) (ha4.mono hs) hroom.1, fun hne w g hs hon => ?_⟩
    · have := relocCount (u := n) hon (hm4.mono hs) (hR4.mono hs) hM.1
      rw [q4] at this
      exact this
    · have := relocCount (u := o) hon (hm4.mono hs) (hR4.mono hs) hM.1
      rw [q3 hne] at this
      exact this
  clear q3 q4
  refine sqJ (σ := View) (fun _ => [(7, .slice A7 R.length c7), (2, .slice A a.length c)]) (fun g => g) (fun _ => []) (fun g => Sub g4 g) ?_ ?_
  · refine sg ?_
    refine neI (fun h => absurd rfl h) (fun _ => ?_)
    refine callV (.bool (decide (a = a))) (vs := [.slice A9 a.length c9, .slice A a.length c]) (fun w g h1 h2 h3 => sameItems h3 (hsl2.mono h1) (ha4.mono h1)) ?_
    rw [decide_eq_true rfl]
    refine callV (i64 (valE n R)) (vs := [str n, .slice A7 R.length c7]) (fun w g h1 h2 h3 => closureValidate h3 (hm4.mono h1) hn (hR4.mono h1)) ?_
    rw [q5]
    refine neI (fun h => absurd rfl h) (fun _ => ?_)
    refine callM0 (vs := [.slice A7 R.length c7]) [] (fun w hon hgi => itemNames hon hR4 (by omega)) (fun v g5 L' hs5 hRR => ?_)
    rw [q6.names] at hRR
    obtain ⟨A5, c5, rfl, rfl⟩ := hRR
    refine rfrz 0 fun g6 hs6 hq6 => ?_
    have hn6 : Sl g6 A5 c5 (names a) := Sl.ofTexts hq6 rfl hnbR hna
    refine callM0 (vs := [.slice A a.length c]) [] (fun w hon hgi => itemNames hon (ha4.mono (hs5.trans hs6)) (by omega)) (fun v g7 L' hs7 hRR => ?_)
    obtain ⟨A6, c6, rfl, rfl⟩ := hRR
    refine rfrz 0 fun g8 hs8 hq8 => ?_
    have hn8 : Sl g8 A6 c6 (names a) := Sl.ofTexts hq8 rfl hnbR hna
    have hs48 := (hs5.trans hs6).trans (hs7.trans hs8)
    refine callV (.bool (decide (names a = names a))) (vs := [.slice A5 (names a).length c5, .slice A6 (names a).length c6]) (fun w g h1 h2 h3 => sameTexts h3 ((hn6.mono (hs7.trans hs8)).mono h1) (hn8.mono h1)) ?_
    rw [decide_eq_true rfl]
    have hm8 := hm4.mono hs48
    have ha8 := ha4.mono hs48
    have hR8 := hR4.mono hs48
    refine neS (fun hne => ?_) (fun hne => ?_)
    · refine callV (i64 0) (vs := [.slice A7 R.length c7, str o]) (fun w g h1 h2 h3 => k3 hne w g (hs48.trans h1) h3) ?_
      refine neI (fun h => absurd rfl h) (fun _ => ?_)
      refine callV (i64 (N : Nat)) (vs := [.slice A7 R.length c7, str n]) (fun w g h1 h2 h3 => k1 w g (hs48.trans h1) h3) ?_
      refine callV (i64 (N : Nat)) (vs := [.slice A a.length c, str o]) (fun w g h1 h2 h3 => k2 w g (hs48.trans h1) h3) ?_
      refine neI (fun h => absurd rfl h) (fun _ => ?_)
      refine runE ?_
      refine cFs ?_
      exact jn g8 hs48
    · refine callV (i64 (N : Nat)) (vs := [.slice A7 R.length c7, str n]) (fun w g h1 h2 h3 => k1 w g (hs48.trans h1) h3) ?_
      refine callV (i64 (N : Nat)) (vs := [.slice A a.length c, str o]) (fun w g h1 h2 h3 => k2 w g (hs48.trans h1) h3) ?_
      refine neI (fun h => absurd rfl h) (fun _ => ?_)
      refine runE ?_
      refine cFs ?_
      exact jn g8 hs48
  rintro g5 ρ hs5
  replace hs5 : Sub g4 g5 := hs5
  have hm5 := hm4.mono hs5
  have ha5 := ha4.mono hs5
  have hR5 := hR4.mono hs5
  refine sqJ (σ := Unit) (fun _ => []) (fun _ => g5) (fun _ => []) (fun _ => True) ?_ ?_
  case refine_2 =>
    rintro ⟨⟩ ρ _
    refine sg ?_
    refine callV (.bool true) (vs := []) (fun w g hs _ hon => awake25 hon (hm5.mono hs)) ?_
    refine runE ?_
    refine ew_ret ?_
    exact ret1 rfl
  refine sgE (bk ?_)
  refine lpn R.length (fun i => [(11, i64 i), (7, .slice A7 R.length c7), (2, .slice A a.length c)]) (fun _ => True) trivial ?_
  intro i ρ hi' _
  refine sq (sg ?_)
  refine ltE (fun h => ?_) (fun h => ?_)
  case refine_2 =>
    refine cFx ?_
    exact jn () trivial
  have hiR : i < R.length := by omega
  have hia : i < a.length := by omega
  obtain ⟨b1, o1, A3, c3, A4, c4, rfl, hc1, hn1, hr1, ht1⟩ := hR5.item hiR
  obtain ⟨b2, o2, A5, c5, A6, c6, rfl, hc2, hn2, hr2, ht2⟩ := ha5.item hia
  have hrf := q6.refs i hiR hia
  have htr := q6.tree i hiR hia
  have hnd := q6.node i hiR hia
  generalize R[i] = x at hc1 hn1 hr1 ht1 hrf htr hnd
  generalize a[i] = y at hc2 hn2 hr2 ht2 hrf htr hnd
  rw [hrf] at hc1 hr1
  refine cTs (sq (bk ?_))
  refine sq (sQ ?_)
  refine ix i hiR ?_
  refine ldv hc1.2.1 ?_
  refine ix i hia ?_
  refine ldv hc2.2.1 ?_
  refine callV (.bool (decide (y.refs = y.refs))) (vs := [.slice A3 y.refs.length c3, .slice A5 y.refs.length c5]) (fun w g h1 h2 h3 => sameTexts h3 (hr1.mono h1) (hr2.mono h1)) ?_
  rw [decide_eq_true rfl]
  refine ix i hiR ?_
  refine ldv hc1.2.2.1 ?_
  refine ix i hia ?_
  refine ldv hc2.2.2.1 ?_
  refine neI (fun h => absurd (show ((x.tree.length : Nat) : Int) = (y.tree.length : Nat) by rw [htr]) h) (fun _ => ?_)
  refine runE ?_
  refine cFs ?_
  refine efg [(11, i64 i), (7, .slice (some ⟨b1, o1, none⟩) R.length c7), (2, .slice (some ⟨b2, o2, none⟩) a.length c)] [] (fun ρ => ?_)
  refine sgE (bk ?_)
  refine lpn x.tree.length (fun j => [(12, i64 j), (11, i64 i), (7, .slice (some ⟨b1, o1, none⟩) R.length c7), (2, .slice (some ⟨b2, o2, none⟩) a.length c)]) (fun _ => True) trivial ?_
  intro j ρ hj _
  refine sq (sg ?_)
  refine ix i hiR ?_
  refine ldv hc1.2.2.1 ?_
  refine ltE (fun h => ?_) (fun h => ?_)
  case refine_2 =>
    refine cFx ?_
    refine rg ?_
    refine addE ((i + 1 : Nat) : Int) ?_
    exact nx trivial
  have htl := ht1.len_lt
  have hjx : j < x.tree.length := by omega
  have hjy : j < y.tree.length := by omega
  obtain ⟨b3, o3, rfl, hc3, _⟩ := ht1.node hjx
  obtain ⟨b4, o4, rfl, hc4, _⟩ := ht2.node hjy
  obtain ⟨w1, w2, w3⟩ := hnd j hjx hjy
  generalize x.tree[j] = u at hc3 w1 w2 w3
  generalize y.tree[j] = v at hc4 w1 w2 w3
  refine cTs (sq (bk ?_))
  refine sA [2, 3, 4, 6, 7, 10, 11, 12, 14, 15] [] (List.nil_sublist _) ?_
  refine an_takeU [0, 1, 5, 8, 9, 13] ?_
  refine an_takeH [2, 3, 4, 6, 7, 10, 11, 12, 14, 15] (HeldL.none (Sub.refl _)) ?_
  refine ix i hiR ?_
  refine ldv hc1.2.2.1 ?_
  refine ix j hjx ?_
  refine ldvA hc3 ?_
  refine ix i hia ?_
  refine ldv hc2.2.2.1 ?_
  refine ix j hjy ?_
  refine ldvA hc4 ?_
  refine rw_end ?_
  refine an_have (α := Nat × Nat) (lsA 20 [0, 1, 2, 3, 4, 5, 6, 7, 8, 9, 10, 11, 12, 13, 14, 15, 16, 17]) (fun s => [(13, .pointer (some ⟨s.1, 0, none⟩)), (14, .pointer (some ⟨s.2, 0, none⟩)), (174, .agg ⟨nodeC u⟩), (182, .agg ⟨nodeC v⟩), (12, i64 j), (11, i64 i), (7, .slice (some ⟨b1, o1, none⟩) R.length c7), (2, .slice (some ⟨b2, o2, none⟩) a.length c)]) (fun _ => g5) (fun s => [.blk s.1 (.cells ⟨[str [], .int .i64 0, str []]⟩ 46), .blk s.2 (.cells ⟨[str [], .int .i64 0, str []]⟩ 46)]) ?_ (fun T => ?_)
  · rintro ⟨b13, b14⟩ ρ
    refine an_run1 18 ?_
    refine st 0 ?_
    refine aH (HeldL.none (Sub.refl _)) ?_
    refine an_run1 19 ?_
    refine st 1 ?_
    refine aH (HeldL.none (Sub.refl _)) ?_
    refine an_done ?_
    refine efg [(13, .pointer (some ⟨b13, 0, none⟩)), (14, .pointer (some ⟨b14, 0, none⟩)), (12, i64 j), (11, i64 i), (7, .slice (some ⟨b1, o1, none⟩) R.length c7), (2, .slice (some ⟨b2, o2, none⟩) a.length c)] [.blk b13 (.cells ⟨nodeC u⟩ 46), .blk b14 (.cells ⟨nodeC v⟩ 46)] (fun ρ => ?_)
    refine sg ?_
    refine ldo 0 ?_
    refine ldo 1 ?_
    refine neS (fun h => absurd w1 h) (fun _ => ?_)
    refine ldo 0 ?_
    refine ldo 1 ?_
    refine neI (fun h => absurd w2 h) (fun _ => ?_)
    refine ldo 0 ?_
    refine ldo 1 ?_
    refine neI (fun h => absurd (show ((u.data.length : Nat) : Int) = (v.data.length : Nat) by rw [w3]) h) (fun _ => ?_)
    refine runE ?_
    refine cFs ?_
    refine edropH (edropH ?_)
    refine rg ?_
    refine addE ((j + 1 : Nat) : Int) ?_
    exact nx trivial
  refine an_run2 16 17 ?_ ?_
  · refine alloc fun b13 => ?_
    refine aH (HeldL.none (Sub.refl _)) ?_
    refine an_run1 17 ?_
    refine alloc fun b14 => ?_
    refine aH (HeldL.none (Sub.refl _)) ?_
    refine an_perm (.swap _ _ _) ?_
    exact an_use T (b13, b14)
  · refine alloc fun b14 => ?_
    refine aH (HeldL.none (Sub.refl _)) ?_
    refine an_run1 16 ?_
    refine alloc fun b13 => ?_
    refine aH (HeldL.none (Sub.refl _)) ?_
    exact an_use T (b13, b14)
end Go.Hog
