/- ScanTrees answers true. -/
import Derived.Test.YtidhmfmbifdbkaaE26
import Derived.Test.YtidhmfmbifdbkaaE27
import Derived.Test.YtidhmfmbifdbkaaS20
set_option linter.unusedVariables false
set_option linter.unusedSimpArgs false
set_option maxRecDepth 100000
set_option maxHeartbeats 1000000
namespace Go.Hog
open Go.RowKit Rp Go.Proofs
theorem scanTrees {w : World} {f : View} (hv : On f w) (hm : ML f) {A : Option Addr} {c : Nat} {t : List Node} (ht : Sl f A c t) {A2 : Option Addr} {c2 : Nat} {names : List Str} (hn : Sl f A2 c2 names) {x y : Int} (hx : -9223372036854775808 ≤ x ∧ x ≤ 9223372036854775807) (hy : -9223372036854775808 ≤ y ∧ y ≤ 9223372036854775807) :
    Con Try.prog 5 [.slice A t.length c, .slice A2 names.length c2, i64 x, i64 y] w (Ret w f fun _ v => v = .bool true) := by
  refine enterC hv Try.call5 Try.func5 ?_
  refine sgE ?_
  refine sq (sg ?_)
  refine callB (p := GreatN t 30) (vs := [.slice A t.length c, i64 30]) (fun w g hs _ hon => greatNodes hon (ht.mono hs)) (fun h1 => ?_) (fun h1 => ?_)
  · refine runE ?_
    refine cT (sg ?_)
    refine callV (.bool true) (vs := []) (fun w g hs _ hon => awake8 hon (hm.mono hs)) ?_
    refine runE ?_
    refine ew_ret ?_
    exact ret1 rfl
  refine callB (p := GreatT names 8 100) (vs := [.slice A2 names.length c2, i64 8, i64 100]) (fun w g hs _ hon => greatTexts hon (hn.mono hs)) (fun h2 => ?_) (fun h2 => ?_)
  · refine runE ?_
    refine cT (sg ?_)
    refine callV (.bool true) (vs := []) (fun w g hs _ hon => awake8 hon (hm.mono hs)) ?_
    refine runE ?_
    refine ew_ret ?_
    exact ret1 rfl
  refine eqI (fun h3 => ?_) (fun h3 => ?_)
  · refine runE ?_
    refine cT (sg ?_)
    refine callV (.bool true) (vs := []) (fun w g hs _ hon => awake8 hon (hm.mono hs)) ?_
    refine runE ?_
    refine ew_ret ?_
    exact ret1 rfl
  refine eqIE (fun h4 => ?_) (fun h4 => ?_)
  · refine cT (sg ?_)
    refine callV (.bool true) (vs := []) (fun w g hs _ hon => awake8 hon (hm.mono hs)) ?_
    refine runE ?_
    refine ew_ret ?_
    exact ret1 rfl
  refine cFs ?_
  have h8 : names.length ≤ 8 := by
    by_cases e : (8 : Int) < names.length
    · exact absurd (.inl e) h2
    · omega
  have h12 : names.length ≤ 12 := by omega
  have hnb : ∀ z ∈ names, z.length ≤ LB := fun z hz => by
    by_cases e : (100 : Int) < z.length
    · exact absurd (.inr ⟨z, hz, e⟩) h2
    · unfold LB; omega
  have ht30 : t.length ≤ 30 := by
    by_cases e : (30 : Int) < t.length
    · exact absurd (.inl e) h1
    · omega
  have hd5 : ∀ z ∈ t, z.data.length ≤ 500 := fun z hz => by
    by_cases e : 500 < z.data.length
    · exact absurd (.inr ⟨z, hz, .inr e⟩) h1
    · omega
  have hd : ∀ z ∈ t, z.data.length < 4294967281 := fun z hz => by have := hd5 z hz; omega
  have ht0 : 0 < t.length := by omega
  have hn0 : 0 < names.length := by omega
  have hok : ∀ z ∈ t, okN z := fun z hz => by
    obtain ⟨k, hk, rfl⟩ := List.getElem_of_mem hz
    obtain ⟨_, _, _, _, h5⟩ := ht.node hk
    exact h5
  have htb : ∀ p : Str → Bool, ∀ z ∈ foundL names p, z.length ≤ LB := fun p z hz => hnb z (foundL_sub hz)
  have htL : ∀ p : Str → Bool, (foundL names p).length ≤ LB := fun p => Nat.le_trans (Nat.le_trans (foundL_len _ _) h12) (by decide)
  have hhl : ∀ z : Str, (hashL z).length ≤ 8 := fun z => by
    unfold hashL
    split
    · exact List.length_take_le _ _
    · exact Nat.zero_le _
  refine efg [(0, .slice A t.length c), (1, .slice A2 names.length c2), (2, i64 x), (3, i64 y)] [] fun ρ => ?_
  refine sg ?_
  refine callM0 (vs := [.slice A t.length c, .slice A2 names.length c2]) [] (fun w hon hgi => scanTree hon hm ht hd hn h12) (fun v g L' hs hR => ?_)
  obtain ⟨A9, c9, rfl, rfl⟩ := hR
  refine runE ?_
  refine efrz 0 fun g1 hs1 hq9 => ?_
  have hm1 := (hm.mono hs).mono hs1
  have hn1 := (hn.mono hs).mono hs1
  have ht1 := (ht.mono hs).mono hs1
  have hl9 : Sl g1 A9 c9 (treeL t names) := Sl.ofTexts hq9 rfl (htb _) (htL _)
  clear hm hn ht hs hs1 hq9
  refine sgE ?_
  refine efg [(10, i64 (0 : Nat)), (9, .slice A9 (treeL t names).length c9), (0, .slice A t.length c), (1, .slice A2 names.length c2), (2, i64 x), (3, i64 y)] [] fun ρ => ?_
  refine sqJ (σ := Unit) (fun _ => [(10, i64 ((treeL t names).length : Nat)), (9, .slice A9 (treeL t names).length c9), (0, .slice A t.length c), (1, .slice A2 names.length c2), (2, i64 x), (3, i64 y)]) (fun _ => g1) (fun _ => []) (fun _ => True) ?_ ?_
  · refine sgE (bk ?_)
    refine lp (σ := Nat × Nat) (fun s => [(11, i64 s.1), (10, i64 s.2), (9, .slice A9 (treeL t names).length c9), (0, .slice A t.length c), (1, .slice A2 names.length c2), (2, i64 x), (3, i64 y)]) (fun _ => g1) (fun _ => []) (fun s => s.1 ≤ names.length ∧ s.2 ≤ s.1 ∧ CI t names s.1 s.2) (fun s => names.length - s.1) (0, 0) ⟨Nat.zero_le _, Nat.le_refl _, CI.start t names⟩ ?_
    rintro ⟨i, n⟩ ρ ⟨hi, hni, hci⟩
    replace hi : i ≤ names.length := hi
    replace hni : n ≤ i := hni
    replace hci : CI t names i n := hci
    show EW _ _ _ _ _ (ups ρ [(11, i64 i), (10, i64 n), (9, .slice A9 (treeL t names).length c9), (0, .slice A t.length c), (1, .slice A2 names.length c2), (2, i64 x), (3, i64 y)]) g1 []
    refine sq (sg ?_)
    refine ltE (fun h => ?_) (fun h => ?_)
    case refine_2 =>
      refine cFx ?_
      have e : i = names.length := by omega
      subst e
      have e2 := hci.fin
      rw [← e2]
      exact jn () trivial
    have hi1 : i < names.length := by omega
    obtain ⟨b1, o1, rfl, hcn, hxl⟩ := hn1.text hi1
    refine cTs (sq (bk ?_))
    refine sgE ?_
    refine efg [(12, .bool false), (13, .bool false), (11, i64 i), (10, i64 n), (9, .slice A9 (treeL t names).length c9), (0, .slice A t.length c), (1, .slice (some ⟨b1, o1, none⟩) names.length c2), (2, i64 x), (3, i64 y)] [] fun ρ => ?_
    refine sqJ (σ := Unit) (fun _ => [(12, .bool (treeHas t (hashL names[i]))), (13, .bool false), (11, i64 i), (10, i64 n), (9, .slice A9 (treeL t names).length c9), (0, .slice A t.length c), (1, .slice (some ⟨b1, o1, none⟩) names.length c2), (2, i64 x), (3, i64 y)]) (fun _ => g1) (fun _ => []) (fun _ => True) ?_ ?_
    · refine sgE (bk ?_)
      refine lpn t.length (fun j => [(14, i64 j), (12, .bool (treeHas (t.take j) (hashL names[i]))), (13, .bool false), (11, i64 i), (10, i64 n), (9, .slice A9 (treeL t names).length c9), (0, .slice A t.length c), (1, .slice (some ⟨b1, o1, none⟩) names.length c2), (2, i64 x), (3, i64 y)]) (fun _ => True) trivial ?_ (ha := ⟨rfl, by show Value.bool false = .bool (treeHas [] _); simp [treeHas], rfl, rfl, rfl, rfl, rfl, rfl, rfl, rfl, trivial⟩)
      intro j ρ hj _
      have hstep : ∀ (hj1 : j < t.length), treeHas (t.take (j + 1)) (hashL names[i]) = (treeHas (t.take j) (hashL names[i]) || decide (hasL t[j].data (hashL names[i]))) := fun hj1 => by
        rw [Bool.eq_iff_iff, treeHas_iff, Bool.or_eq_true, treeHas_iff, decide_eq_true_iff, (List.take_append_getElem hj1).symm]
        constructor
        · rintro ⟨z, hz, h5⟩
          rcases List.mem_append.1 hz with hz | hz
          · exact .inl ⟨z, hz, h5⟩
          · rw [List.mem_singleton] at hz
            subst hz; exact .inr h5
        · rintro (⟨z, hz, h5⟩ | h5)
          · exact ⟨z, List.mem_append_left _ hz, h5⟩
          · exact ⟨_, List.mem_append_right _ (List.mem_singleton.2 rfl), h5⟩
      have hall : j = t.length → treeHas (t.take j) (hashL names[i]) = treeHas t (hashL names[i]) := fun e => by rw [e, List.take_length]
      generalize hb : treeHas (t.take j) (hashL names[i]) = bb at hstep hall
      refine sq (sg ?_)
      refine ltE (fun h => ?_) (fun h => ?_)
      case refine_2 =>
        refine cFx ?_
        rw [hall (by omega)]
        exact jn () trivial (ha := ⟨rfl, rfl, rfl, rfl, rfl, rfl, rfl, rfl, rfl, trivial⟩)
      have hj1 : j < t.length := by omega
      have hstep := hstep hj1
      obtain ⟨b0, o0, rfl, hct, _⟩ := ht1.node hj1
      have hdj := hd _ (List.getElem_mem hj1)
      refine cTs (sq (bk (rq ?_)))
      cases bb with
      | true =>
        refine runE ?_
        refine rg ?_
        refine addE ((j + 1 : Nat) : Int) ?_
        exact nx trivial (ha := ⟨rfl, by show Value.bool true = .bool _; rw [hstep]; rfl, rfl, rfl, rfl, rfl, rfl, rfl, rfl, rfl, trivial⟩)
      | false =>
        refine ix j hj1 ?_
        refine ldv hct.2.2.1 ?_
        refine ix i hi1 ?_
        refine ldv hcn ?_
        refine callV (str (hashL names[i])) (vs := [str names[i]]) (fun w g hs _ hon => itemHash hon hxl) ?_
        refine callV (.bool (decide (hasL t[j].data (hashL names[i])))) (vs := [str t[j].data, str (hashL names[i])]) (fun w g hs hsn hon => scanHas hon (hm1.mono hs) hdj) ?_
        refine runE ?_
        refine rg ?_
        refine addE ((j + 1 : Nat) : Int) ?_
        exact nx trivial (ha := ⟨rfl, by show Value.bool _ = .bool _; rw [hstep]; rfl, rfl, rfl, rfl, rfl, rfl, rfl, rfl, rfl, trivial⟩)
    rintro ⟨⟩ ρ _
    refine sqJ (σ := Unit) (fun _ => [(12, .bool (treeHas t (hashL names[i]))), (13, .bool (decide (names[i] ∈ names.take i))), (11, i64 i), (10, i64 n), (9, .slice A9 (treeL t names).length c9), (0, .slice A t.length c), (1, .slice (some ⟨b1, o1, none⟩) names.length c2), (2, i64 x), (3, i64 y)]) (fun _ => g1) (fun _ => []) (fun _ => True) ?_ ?_
    · refine sgE (bk ?_)
      refine lpn i (fun j => [(15, i64 j), (13, .bool (decide (names[i] ∈ names.take j))), (12, .bool (treeHas t (hashL names[i]))), (11, i64 i), (10, i64 n), (9, .slice A9 (treeL t names).length c9), (0, .slice A t.length c), (1, .slice (some ⟨b1, o1, none⟩) names.length c2), (2, i64 x), (3, i64 y)]) (fun _ => True) trivial ?_ (ha := ⟨rfl, by show Value.bool false = .bool (decide (names[i] ∈ [])); simp, rfl, rfl, rfl, rfl, rfl, rfl, rfl, rfl, trivial⟩)
      intro j ρ hj _
      have hstep : ∀ (hj1 : j < names.length), decide (names[i] ∈ names.take (j + 1)) = (decide (names[i] ∈ names.take j) || decide (names[j] = names[i])) := fun hj1 => by
        rw [Bool.eq_iff_iff, Bool.or_eq_true, decide_eq_true_iff, decide_eq_true_iff, decide_eq_true_iff, (List.take_append_getElem hj1).symm, List.mem_append, List.mem_singleton]
        exact ⟨fun h => h.imp id Eq.symm, fun h => h.imp id Eq.symm⟩
      have hall : j = i → decide (names[i] ∈ names.take j) = decide (names[i] ∈ names.take i) := fun e => by rw [e]
      generalize hb : decide (names[i] ∈ names.take j) = bb at hstep hall
      refine sq (sg ?_)
      refine ltE (fun h => ?_) (fun h => ?_)
      case refine_2 =>
        refine cFx ?_
        rw [hall (by omega)]
        exact jn () trivial (ha := ⟨rfl, rfl, rfl, rfl, rfl, rfl, rfl, rfl, rfl, trivial⟩)
      have hj1 : j < names.length := by omega
      have hji : j < i := by omega
      have hstep := hstep hj1
      obtain ⟨b2, o2, e2, hcj, _⟩ := hn1.text hj1
      injection e2 with e2
      injection e2 with e2 e3
      subst e2 e3
      refine cTs (sq (bk (rq ?_)))
      cases bb with
      | true =>
        refine runE ?_
        refine rg ?_
        refine addE ((j + 1 : Nat) : Int) ?_
        exact nx trivial (ha := ⟨rfl, by show Value.bool true = .bool _; rw [hstep]; rfl, rfl, rfl, rfl, rfl, rfl, rfl, rfl, rfl, trivial⟩)
      | false =>
        refine ix j hj1 ?_
        refine ldv hcj ?_
        refine ix i hi1 ?_
        refine ldv hcn ?_
        refine eqSE (fun he => ?_) (fun he => ?_)
        · refine rg ?_
          refine addE ((j + 1 : Nat) : Int) ?_
          exact nx trivial (ha := ⟨rfl, by show Value.bool true = .bool _; rw [hstep, decide_eq_true he]; rfl, rfl, rfl, rfl, rfl, rfl, rfl, rfl, rfl, trivial⟩)
        · refine rg ?_
          refine addE ((j + 1 : Nat) : Int) ?_
          exact nx trivial (ha := ⟨rfl, by show Value.bool false = .bool _; rw [hstep, decide_eq_false he]; rfl, rfl, rfl, rfl, rfl, rfl, rfl, rfl, rfl, trivial⟩)
    rintro ⟨⟩ ρ _
    show EW _ _ _ _ _ (ups ρ [(12, .bool (treeHas t (hashL names[i]))), (13, .bool (decide (names[i] ∈ names.take i))), (11, i64 i), (10, i64 n), (9, .slice A9 (treeL t names).length c9), (0, .slice A t.length c), (1, .slice (some ⟨b1, o1, none⟩) names.length c2), (2, i64 x), (3, i64 y)]) g1 []
    refine sg ?_
    cases hb1 : treeHas t (hashL names[i]) with
    | false =>
      refine runE ?_
      refine cFs (rg ?_)
      refine addE ((i + 1 : Nat) : Int) ?_
      exact nxs (i + 1, n) ⟨hi1, by show n ≤ i + 1; omega, hci.miss hi1 (.inl hb1)⟩ (by show names.length - (i + 1) < names.length - i; omega)
    | true =>
      by_cases hb2 : names[i] ∈ names.take i
      · rw [decide_eq_true hb2]
        refine runE ?_
        refine cFs (rg ?_)
        refine addE ((i + 1 : Nat) : Int) ?_
        exact nxs (i + 1, n) ⟨hi1, by show n ≤ i + 1; omega, hci.miss hi1 (.inr hb2)⟩ (by show names.length - (i + 1) < names.length - i; omega)
      · rw [decide_eq_false hb2]
        refine runE ?_
        refine cT (rg ?_)
        refine addE ((n + 1 : Nat) : Int) ?_
        refine rg ?_
        refine addE ((i + 1 : Nat) : Int) ?_
        exact nxs (i + 1, n + 1) ⟨hi1, by show n + 1 ≤ i + 1; omega, hci.hit hi1 hb1 hb2⟩ (by show names.length - (i + 1) < names.length - i; omega)
  rintro ⟨⟩ ρ _
  refine sq (sg ?_)
  refine neIE (fun h => absurd rfl h) (fun _ => ?_)
  refine cFs ?_
  refine efg [(9, .slice A9 (treeL t names).length c9), (0, .slice A t.length c), (1, .slice A2 names.length c2), (2, i64 x), (3, i64 y)] [] fun ρ => ?_
  refine sg ?_
  refine nilrow 40 3 ?_
  obtain ⟨xs, hxs, hcs⟩ := ht1.cells
  have exs := nodes_cells t hxs
  subst exs
  refine appV 0 hxs.len hcs hxs.ones (fun A' c' => ?_) (hlim := by show (0 + t.length) * 40 ≤ _; omega)
  refine runE ?_
  refine efg [(16, .slice A' t.length c'), (9, .slice A9 (treeL t names).length c9), (0, .slice A t.length c), (1, .slice A2 names.length c2), (2, i64 x), (3, i64 y)] [nRow A' c' t] (hh := by show [HE.row A' (0 + t.length) c' _ 3 ([] ++ t.flatMap nodeC)] = _; rw [Nat.zero_add]; rfl) (ha := ⟨by show Value.slice A' (0 + t.length) c' = _; rw [Nat.zero_add], rfl, rfl, rfl, rfl, rfl, trivial⟩) fun ρ => ?_
  refine erowF 0 fun hrow => ?_
  obtain ⟨b6, rfl⟩ := hrow.2.2.2.1 ht0
  obtain ⟨b1, o1, rfl, hcn0, hxl0⟩ := hn1.text hn0
  refine sqJ (σ := List Node) (fun _ => [(16, .slice (some ⟨b6, 0, none⟩) t.length c'), (9, .slice A9 (treeL t names).length c9), (0, .slice A t.length c), (1, .slice (some ⟨b1, o1, none⟩) names.length c2), (2, i64 x), (3, i64 y)]) (fun _ => g1) (fun us => [nRow (some ⟨b6, 0, none⟩) c' us]) (fun us => us.map (·.data) = t.map (·.data) ∧ ∀ z ∈ us, okN z) ?_ ?_
  · refine sgE (bk ?_)
    refine lp (σ := Nat × List Node) (fun s => [(17, i64 s.1), (16, .slice (some ⟨b6, 0, none⟩) t.length c'), (9, .slice A9 (treeL t names).length c9), (0, .slice A t.length c), (1, .slice (some ⟨b1, o1, none⟩) names.length c2), (2, i64 x), (3, i64 y)]) (fun _ => g1) (fun s => [nRow (some ⟨b6, 0, none⟩) c' s.2]) (fun s => s.1 ≤ t.length ∧ s.2.map (·.data) = t.map (·.data) ∧ ∀ z ∈ s.2, okN z) (fun s => t.length - s.1) (0, t) ⟨Nat.zero_le _, rfl, hok⟩ ?_
    rintro ⟨k, us⟩ ρ ⟨hk, hu1, hu2⟩
    replace hk : k ≤ t.length := hk
    replace hu1 : us.map (·.data) = t.map (·.data) := hu1
    replace hu2 : ∀ z ∈ us, okN z := hu2
    have hul : us.length = t.length := by have := congrArg List.length hu1; simpa using this
    show EW _ _ _ _ _ (ups ρ [(17, i64 k), (16, .slice (some ⟨b6, 0, none⟩) t.length c'), (9, .slice A9 (treeL t names).length c9), (0, .slice A t.length c), (1, .slice (some ⟨b1, o1, none⟩) names.length c2), (2, i64 x), (3, i64 y)]) g1 [nRow (some ⟨b6, 0, none⟩) c' us]
    refine sq (sg ?_)
    refine ltE (fun h => ?_) (fun h => ?_)
    case refine_2 =>
      refine cFx ?_
      exact jn us ⟨hu1, hu2⟩
    have hk1 : k < t.length := by omega
    have hku : k < us.length := by omega
    have hput : putL (us.flatMap nodeC) (0 + k * 3 + 0) [str (hashL names[0])] = (us.set k ⟨hashL names[0], us[k].kind, us[k].data⟩).flatMap nodeC := by
      rw [show 0 + k * 3 + 0 = k * 3 + 0 by omega]
      exact flat_putAt (enc := nodeC) (q := 3) (fun _ => rfl) us k 0 [str (hashL names[0])] ⟨hashL names[0], us[k].kind, us[k].data⟩ hku (by show 0 + 1 ≤ 3; omega) rfl
    have hfl : (us.flatMap nodeC).length = us.length * 3 := flat_len (enc := nodeC) (q := 3) (fun _ => rfl) us
    refine cTs (sq (bk (rg ?_)))
    refine ix 0 hn0 ?_
    refine ldv hcn0 ?_
    refine callV (str (hashL names[0])) (vs := [str names[0]]) (fun w g hs _ hon => itemHash hon hxl0) ?_
    refine ix k hk1 ?_
    refine stR 0 (o := 0 + k * 3 + 0) (vs := [str (hashL names[0])]) (xs := us.flatMap nodeC) (by rw [hfl]; show 0 + k * 3 + 0 + 1 ≤ _; omega) ?_
    refine rw_end ?_
    refine rg ?_
    refine addE ((k + 1 : Nat) : Int) ?_
    refine nxs (k + 1, us.set k ⟨hashL names[0], us[k].kind, us[k].data⟩) ⟨hk1, ?_, fun z hz => ?_⟩ (by show t.length - (k + 1) < t.length - k; omega) (hh := ?_)
    · show (us.set k _).map (·.data) = _
      rw [← hu1, List.map_set]
      have e5 : us[k].data = (us.map (·.data))[k]'(by simpa using hku) := by simp
      show (us.map (·.data)).set k us[k].data = _
      rw [e5, List.set_getElem_self]
    · rcases List.mem_or_eq_of_mem_set hz with hz | rfl
      · exact hu2 z hz
      · obtain ⟨_, h6, h7, h8⟩ := hu2 _ (List.getElem_mem hku)
        exact ⟨hash_le _, h6, h7, h8⟩
    · show [nRow _ c' (us.set k _)] = _
      unfold nRow
      rw [← hput, List.length_set]; rfl
  rintro us ρ ⟨hu1, hu2⟩
  replace hu1 : us.map (·.data) = t.map (·.data) := hu1
  replace hu2 : ∀ z ∈ us, okN z := hu2
  have hul : us.length = t.length := by have := congrArg List.length hu1; simpa using this
  have hu0 : 0 < us.length := by omega
  have hud : ∀ z ∈ us, z.data.length ≤ 500 := fun z hz => by
    have h5 : z.data ∈ us.map (·.data) := List.mem_map.2 ⟨z, hz, rfl⟩
    rw [hu1] at h5
    obtain ⟨z2, hz2, e⟩ := List.mem_map.1 h5
    rw [← e]; exact hd5 z2 hz2
  have e0 : treeL us names = treeL t names := treeL_congr hu1 names
  show EW _ _ _ _ _ (ups ρ [(16, .slice (some ⟨b6, 0, none⟩) t.length c'), (9, .slice A9 (treeL t names).length c9), (0, .slice A t.length c), (1, .slice (some ⟨b1, o1, none⟩) names.length c2), (2, i64 x), (3, i64 y)]) g1 [nRow (some ⟨b6, 0, none⟩) c' us]
  refine sq (sg ?_)
  refine callMo (vs := [.slice (some ⟨b6, 0, none⟩) t.length c', .slice (some ⟨b1, o1, none⟩) names.length c2]) (R := fun L' v => ∃ A' c', v = .slice A' (treeL t names).length c' ∧ L' = [sRow A' c' (treeL t names)]) (fun w g hs hsn hon => ?_) (fun v L' hR => ?_)
  · have hsl : Sl g (some ⟨b6, 0, none⟩) c' us := (nodes_rw hu2).sl (hsn _ (.head _)) rfl (by unfold LB; omega)
    have := scanTree hon (hm1.mono hs) hsl (fun z hz => by have := hud z hz; omega) (hn1.mono hs) h12
    rwa [e0, hul] at this
  obtain ⟨A26, c26, rfl, rfl⟩ := hR
  refine callV (.bool true) (vs := [.slice A26 (treeL t names).length c26, .slice A9 (treeL t names).length c9]) (fun w g' hs' hsn hon => sameT hon (Sl.ofTexts (hsn _ (.head _)) rfl (htb _) (htL _)) (hl9.mono hs')) ?_
  refine runE ?_
  refine cFs ?_
  refine ewL (L' := [nRow (some ⟨b6, 0, none⟩) c' us]) (fun _ h => h.sublist (.cons _ (List.Sublist.refl _))) ?_
  obtain ⟨q, hq, hq1⟩ : ∃ q : Nat, lowV x (names.length : Nat) = q ∧ q < names.length := by
    have := lowV_lt x (show (0 : Int) < (names.length : Nat) by omega)
    exact ⟨(lowV x (names.length : Nat)).toNat, by omega, by omega⟩
  obtain ⟨b2, o2, e2, hcq, hxq⟩ := hn1.text hq1
  injection e2 with e2
  injection e2 with e2 e3
  subst e2 e3
  refine efg [(16, .slice (some ⟨b6, 0, none⟩) t.length c'), (0, .slice A t.length c), (1, .slice (some ⟨b1, o1, none⟩) names.length c2), (2, i64 x), (3, i64 y)] [nRow (some ⟨b6, 0, none⟩) c' us] fun ρ => ?_
  refine sg ?_
  refine callV (i64 (q : Int)) (vs := [i64 x, i64 (names.length : Nat)]) (fun w g hs _ hon => by rw [← hq]; exact low0 hon ⟨by omega, by omega⟩) ?_
  refine ix q hq1 ?_
  refine ldv hcq ?_
  refine runE ?_
  generalize hnm : names[q] = nm at hcq hxq
  have hnmem : nm ∈ names := hnm ▸ List.getElem_mem hq1
  refine efg [(18, str nm), (16, .slice (some ⟨b6, 0, none⟩) t.length c'), (0, .slice A t.length c), (1, .slice (some ⟨b1, o1, none⟩) names.length c2), (3, i64 y)] [nRow (some ⟨b6, 0, none⟩) c' us] fun ρ => ?_
  refine sq (sg ?_)
  refine callV (str (hashL nm)) (vs := [str nm]) (fun w g hs _ hon => itemHash hon hxq) ?_
  refine eqSE (fun he => ?_) (fun he => ?_)
  · refine cT (sg ?_)
    refine callV (.bool true) (vs := []) (fun w g hs _ hon => awake8 hon (hm1.mono hs)) ?_
    refine runE ?_
    refine ew_ret ?_
    exact ret1 rfl
  refine cFs ?_
  obtain ⟨b0, o0, rfl, hct, _⟩ := ht1.node ht0
  have hd0 := hd5 _ (List.getElem_mem ht0)
  refine sg ?_
  refine ix 0 ht0 ?_
  refine ldv hct.2.2.1 ?_
  refine runE ?_
  generalize hdd : t[0].data = d at hd0 hct
  obtain ⟨p, hp, hp1⟩ : ∃ p : Nat, lowV y ((d.length + 1 : Nat) : Int) = p ∧ p ≤ d.length := by
    have := lowV_lt y (show (0 : Int) < ((d.length + 1 : Nat) : Int) by omega)
    exact ⟨(lowV y ((d.length + 1 : Nat) : Int)).toNat, by omega, by omega⟩
  refine sg ?_
  refine add ((d.length + 1 : Nat) : Int) ?_
  refine callV (i64 (p : Int)) (vs := [i64 y, i64 ((d.length + 1 : Nat) : Int)]) (fun w g hs _ hon => by rw [← hp]; exact low0 hon ⟨by omega, by omega⟩) ?_
  refine runE ?_
  have h8l := hhl nm
  have hput : putL (us.flatMap nodeC) (0 + 0 * 3 + 2) [str (d.take p ++ hashL nm ++ d.drop p)] = (us.set 0 ⟨us[0].path, us[0].kind, d.take p ++ hashL nm ++ d.drop p⟩).flatMap nodeC :=
    flat_putAt (enc := nodeC) (q := 3) (fun _ => rfl) us 0 2 [str (d.take p ++ hashL nm ++ d.drop p)] ⟨us[0].path, us[0].kind, d.take p ++ hashL nm ++ d.drop p⟩ hu0 (by show 2 + 1 ≤ 3; omega) rfl
  have hfl : (us.flatMap nodeC).length = us.length * 3 := flat_len (enc := nodeC) (q := 3) (fun _ => rfl) us
  have hnl : (d.take p ++ hashL nm ++ d.drop p).length ≤ 508 := by
    rw [List.length_append, List.length_append, List.length_take, List.length_drop]; omega
  refine efg [(20, i64 p), (19, str d), (18, str nm), (16, .slice (some ⟨b6, 0, none⟩) t.length c'), (1, .slice (some ⟨b1, o1, none⟩) names.length c2)] [nRow (some ⟨b6, 0, none⟩) c' us] fun ρ => ?_
  refine sA [3, 9] [] (List.nil_sublist _) ?_
  refine an_takeU [0, 1, 2, 4, 7, 8] ?_
  refine an_takeH [3, 9] (HeldL.none (Sub.refl _)) ?_
  refine slSH (s := d) p hp1 ?_
  refine slSL (s := d) p hp1 ?_
  refine rw_end ?_
  refine an_run1 5 ?_
  refine callV (str (hashL nm)) (vs := [str nm]) (fun w g hs _ hon => itemHash hon hxq) ?_
  refine aH (HeldL.none (Sub.refl _)) ?_
  refine an_run1 6 ?_
  refine cat (s := d.take p) (u := hashL nm) (by rw [List.length_take]; omega) ?_
  refine aH (HeldL.none (Sub.refl _)) ?_
  refine an_run1 10 ?_
  refine cat (s := d.take p ++ hashL nm) (u := d.drop p) (by rw [List.length_append, List.length_take, List.length_drop]; omega) ?_
  refine aH (HeldL.none (Sub.refl _)) ?_
  refine an_run1 11 ?_
  refine ix 0 ht0 ?_
  refine aH (HeldL.none (Sub.refl _)) ?_
  refine an_takeU [12] ?_
  refine an_run1 13 ?_
  refine stR 0 (o := 0 + 0 * 3 + 2) (vs := [str (d.take p ++ hashL nm ++ d.drop p)]) (xs := us.flatMap nodeC) (by rw [hfl]; show 0 + 0 * 3 + 2 + 1 ≤ _; omega) ?_
  refine aH (HeldL.none (Sub.refl _)) ?_
  refine an_done ?_
  generalize hvv : us.set 0 ⟨us[0].path, us[0].kind, d.take p ++ hashL nm ++ d.drop p⟩ = vv at hput
  have hvl : vv.length = t.length := by rw [← hvv, List.length_set]; exact hul
  have hvm : ∀ z ∈ vv, z ∈ us ∨ z = ⟨us[0].path, us[0].kind, d.take p ++ hashL nm ++ d.drop p⟩ := fun z hz => by
    rw [← hvv] at hz
    exact List.mem_or_eq_of_mem_set hz
  have hvd : ∀ z ∈ vv, z.data.length ≤ 508 := fun z hz => by
    rcases hvm z hz with hz | rfl
    · have := hud z hz; omega
    · exact hnl
  have hvo : ∀ z ∈ vv, okN z := fun z hz => by
    rcases hvm z hz with hz | rfl
    · exact hu2 z hz
    · obtain ⟨h5, _, h7, h8⟩ := hu2 _ (List.getElem_mem hu0)
      exact ⟨h5, by show (d.take p ++ hashL nm ++ d.drop p).length ≤ LB; unfold LB; omega, h7, h8⟩
  have hvh : nm ∈ treeL vv names := treeL_mem.2 ⟨hnmem, treeHas_iff.2 ⟨⟨us[0].path, us[0].kind, d.take p ++ hashL nm ++ d.drop p⟩, by rw [← hvv]; exact List.mem_set hu0 _, put_has hp1 he⟩⟩
  refine efg [(18, str nm), (16, .slice (some ⟨b6, 0, none⟩) t.length c'), (1, .slice (some ⟨b1, o1, none⟩) names.length c2)] [nRow (some ⟨b6, 0, none⟩) c' vv] (hh := by
    show [HE.row _ us.length _ _ _ (putL _ _ _)] = _
    unfold nRow
    rw [hput, hvl, hul]) fun ρ => ?_
  refine sgE ?_
  refine sg ?_
  refine callMo (vs := [.slice (some ⟨b6, 0, none⟩) t.length c', .slice (some ⟨b1, o1, none⟩) names.length c2]) (R := fun L' v => ∃ A' c', v = .slice A' (treeL vv names).length c' ∧ L' = [sRow A' c' (treeL vv names)]) (fun w g hs hsn hon => ?_) (fun v L' hR => ?_)
  · have hsl : Sl g (some ⟨b6, 0, none⟩) c' vv := (nodes_rw hvo).sl (hsn _ (.head _)) rfl (by unfold LB; omega)
    have := scanTree hon (hm1.mono hs) hsl (fun z hz => by have := hvd z hz; omega) (hn1.mono hs) h12
    rwa [hvl] at this
  obtain ⟨A22, c22, rfl, rfl⟩ := hR
  refine runE ?_
  have hml : (treeL vv names).length ≤ 12 := Nat.le_trans (foundL_len _ _) h12
  generalize hmo : treeL vv names = mo at hvh hml
  refine ewL (L' := [sRow A22 c22 mo]) (fun _ h => h.sublist (.cons_cons _ (.cons _ (List.Sublist.refl _)))) ?_
  refine efg [(22, .slice A22 mo.length c22), (21, .bool false), (18, str nm)] [sRow A22 c22 mo] fun ρ => ?_
  refine sqJ (σ := Unit) (fun _ => [(21, .bool (decide (nm ∈ mo)))]) (fun _ => g1) (fun _ => []) (fun _ => True) ?_ ?_
  case refine_2 =>
    rintro ⟨⟩ ρ _
    rw [decide_eq_true hvh]
    refine sg ?_
    refine callV (.bool true) (vs := []) (fun w g hs _ hon => awake8 hon (hm1.mono hs)) ?_
    refine runE ?_
    refine ew_ret ?_
    exact ret1 rfl
  refine sgE (bk ?_)
  refine erowF 0 fun hrow2 => ?_
  refine lpn mo.length (fun j => [(23, i64 j), (21, .bool (decide (nm ∈ mo.take j))), (22, .slice A22 mo.length c22), (18, str nm)]) (fun _ => True) trivial ?_ (ha := ⟨rfl, by show Value.bool false = .bool (decide (nm ∈ [])); simp, rfl, rfl, trivial⟩)
  intro j ρ hj _
  have hstep : ∀ (hj1 : j < mo.length), decide (nm ∈ mo.take (j + 1)) = (decide (nm ∈ mo.take j) || decide (mo[j] = nm)) := fun hj1 => by
    rw [Bool.eq_iff_iff, Bool.or_eq_true, decide_eq_true_iff, decide_eq_true_iff, decide_eq_true_iff, (List.take_append_getElem hj1).symm, List.mem_append, List.mem_singleton]
    exact ⟨fun h => h.imp id Eq.symm, fun h => h.imp id Eq.symm⟩
  have hall : j = mo.length → decide (nm ∈ mo.take j) = decide (nm ∈ mo) := fun e => by rw [e, List.take_length]
  generalize hb : decide (nm ∈ mo.take j) = bb at hstep hall
  refine sq (sg ?_)
  refine ltE (fun h => ?_) (fun h => ?_)
  case refine_2 =>
    refine ewL (L' := []) (fun _ h => h.sublist (List.nil_sublist _)) ?_
    refine cFx ?_
    rw [hall (by omega)]
    exact jn () trivial
  have hj1 : j < mo.length := by omega
  have hstep := hstep hj1
  obtain ⟨b22, rfl⟩ := hrow2.2.2.2.1 (by omega)
  have hcj : (mo.map str)[0 + j * 1]? = some (str mo[j]) := by simp [hj1]
  refine cTs (sq (bk (rg ?_)))
  cases bb with
  | true =>
    refine runE ?_
    refine rg ?_
    refine addE ((j + 1 : Nat) : Int) ?_
    exact nx trivial (ha := ⟨rfl, by show Value.bool true = .bool _; rw [hstep]; rfl, rfl, rfl, trivial⟩)
  | false =>
    refine ix j hj1 ?_
    refine ldr 0 hcj ?_
    refine eqSE (fun he => ?_) (fun he => ?_)
    · refine rg ?_
      refine addE ((j + 1 : Nat) : Int) ?_
      exact nx trivial (ha := ⟨rfl, by show Value.bool true = .bool _; rw [hstep, decide_eq_true he]; rfl, rfl, rfl, trivial⟩)
    · refine rg ?_
      refine addE ((j + 1 : Nat) : Int) ?_
      exact nx trivial (ha := ⟨rfl, by show Value.bool false = .bool _; rw [hstep, decide_eq_false he]; rfl, rfl, rfl, trivial⟩)
end Go.Hog
