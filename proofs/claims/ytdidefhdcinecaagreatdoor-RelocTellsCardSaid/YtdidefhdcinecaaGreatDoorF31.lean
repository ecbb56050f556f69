/- Contracts: scan.Has, Places, found, Text, Tree; the document's places. -/
import Derived.Test.YtdidefhdcinecaaGreatDoorS18
import Derived.Test.YtdidefhdcinecaaGreatDoorF14
import Derived.Test.YtdidefhdcinecaaGreatDoorEY
set_option linter.unusedVariables false
set_option linter.unusedSimpArgs false
set_option maxRecDepth 100000
set_option maxHeartbeats 1000000
namespace Go.Hog
open Go.RowKit Rp Go.Proofs
theorem scanHas {w : World} {f : View} (hv : On f w) (hm : ML f) {s u : Str} (hs : s.length < 4294967281) : Con Tryz.prog 41 [str s, str u] w (Ret w f fun _ v => v = .bool (decide (hasL s u))) := by
  refine enterC hv Tryz.call41 Tryz.func41 ?_
  refine sgE ?_
  refine sg ?_
  refine neS (fun h => ?_) (fun h => ?_)
  · refine callV (.bool (Lib.contains s u)) (vs := [str s, str u]) (fun w g hs' _ hon => containsC hon (hm.mono hs') hs) ?_
    refine runE ?_
    refine ew_ret ?_
    refine ret1 (show Value.bool (Lib.contains s u) = .bool (decide (hasL s u)) from ?_)
    unfold Lib.contains hasL
    congr 1
    exact decide_eq_decide.2 ⟨fun h2 => ⟨h, h2⟩, fun h2 => h2.2⟩
  · refine runE ?_
    refine ew_ret ?_
    exact ret1 (bF fun h2 => h h2.1)
theorem scanPlaces {w : World} {f : View} (hv : On f w) (hm : ML f) {s u : Str} (hs : s.length < 4294967281) :
    Con Tryz.prog 31 [str s, str u] w (RetM w f [] fun _ L' v => ∃ A' c', v = .slice A' (placesI s u).length c' ∧ L' = [iRow A' c' (placesI s u)]) := by
  refine enterM (L := []) hv (Given.nil _ _) Tryz.call31 Tryz.func31 ?_
  refine sgE ?_
  refine enilrow 3 1 ?_
  refine sq (sg ?_)
  refine eqSE (fun h => ?_) (fun h => ?_)
  · refine cT (rr ?_)
    refine ret1M (show ∃ A' c', Value.slice none 0 0 = .slice A' (placesI s u).length c' ∧ [HE.row none 0 0 3 1 []] = [iRow A' c' (placesI s u)] from ?_)
    unfold placesI
    rw [if_pos h]
    exact ⟨none, 0, rfl, rfl⟩
  have hpl : placesI s u = occs s u (s.length + 1) := if_neg h
  rw [hpl]
  refine cFs ?_
  refine sgE ?_
  refine sgE ?_
  refine efg [(6, i64 (0 : Nat)), (5, .slice none 0 0), (0, str s), (1, str u)] [iRow none 0 []] fun ρ => ?_
  refine bk ?_
  refine lp (σ := Nat × Option Addr × Nat) (fun x => [(6, i64 x.1), (5, .slice x.2.1 (occs s u x.1).length x.2.2), (0, str s), (1, str u)]) (fun _ => f) (fun x => [iRow x.2.1 x.2.2 (occs s u x.1)]) (fun x => x.1 ≤ s.length) (fun x => s.length + 1 - x.1) (0, none, 0) (Nat.zero_le _) ?_
  rintro ⟨a, A', c'⟩ ρ ha
  replace ha : a ≤ s.length := ha
  have hol := occs_len s u a
  show EW _ _ _ _ _ (ups ρ [(6, i64 a), (5, .slice A' (occs s u a).length c'), (0, str s), (1, str u)]) f [iRow A' c' (occs s u a)]
  refine sq (bk (sg ?_))
  refine slSL a ha ?_
  have hd : (s.drop a).length < 4294967281 := by rw [List.length_drop]; omega
  refine callV (i64 (Lib.index (s.drop a) u)) (vs := [str (s.drop a), str u]) (fun w g hs' _ hon => indexC hon (hm.mono hs') hd) ?_
  refine runE ?_
  refine sq (sg ?_)
  refine ltE (fun h1 => ?_) (fun h1 => ?_)
  · refine cT (rr ?_)
    have e : occs s u (s.length + 1) = occs s u a := occs_none (by omega) fun j h2 h3 => by
      have := index_neg h1 (j - a) (by rw [List.length_drop]; omega)
      rwa [occ_drop, show a + (j - a) = j by omega] at this
    rw [e]
    exact ret1M ⟨A', c', rfl, rfl⟩
  obtain ⟨i, hi⟩ : ∃ i : Nat, Lib.index (s.drop a) u = i := ⟨(Lib.index (s.drop a) u).toNat, by omega⟩
  obtain ⟨_, hocc, hno⟩ := index_pos hi
  rw [occ_drop] at hocc
  have hroom := (occ_iff h).1 hocc
  have hu1 : 0 < u.length := List.length_pos_iff.2 h
  rw [hi]
  have e3 : occs s u (a + i) = occs s u a := occs_none (by omega) fun j h2 h3 => by
    have := hno (j - a) (by omega)
    rwa [occ_drop, show a + (j - a) = j by omega] at this
  have e2 : occs s u (a + i + 1) = occs s u a ++ [((a + i : Nat) : Int)] := by
    rw [occs_hit hocc, e3]
  refine cFs ?_
  refine sg ?_
  refine addE ((a + i : Nat) : Int) ?_
  refine rg ?_
  refine bsl fun b2 => ?_
  refine app 0 (fun A3 c3 => ?_) (hi := rfl) (hlim := by show ((occs s u a).length + 1) * 8 ≤ _; omega)
  refine runE ?_
  refine rg ?_
  refine addE ((a + i + 1 : Nat) : Int) ?_
  refine nxs (a + i + 1, A3, c3) (by show a + i + 1 ≤ s.length; omega) (by show s.length + 1 - (a + i + 1) < s.length + 1 - a; omega) (hh := ?_) (ha := ⟨rfl, ?_, rfl, rfl, trivial⟩)
  · show [iRow A3 c3 (occs s u (a + i + 1))] = _
    rw [e2]; unfold iRow
    rw [List.length_append, List.map_append]; rfl
  · show Value.slice A3 ((occs s u a).length + 1) c3 = .slice A3 (occs s u (a + i + 1)).length c3
    rw [e2, List.length_append]; rfl
theorem ref8Places {w : World} {f : View} (hv : On f w) {s u : Str} (hs : s.length < 4294967281) (hu : u.length ≤ LB) :
    Con Tryz.prog 32 [str s, str u] w (RetM w f [] fun _ L' v => ∃ A' c', v = .slice A' (placesI s u).length c' ∧ L' = [iRow A' c' (placesI s u)]) := by
  refine enterM (L := []) hv (Given.nil _ _) Tryz.call32 Tryz.func32 ?_
  have hu0 : u.length ≤ 140737488355328 := hu
  refine sgE ?_
  refine sgE ?_
  refine enilrow 3 1 ?_
  refine sqJ (σ := Option Addr × Nat) (fun x => [(5, .slice x.1 (placesI s u).length x.2)]) (fun _ => f) (fun x => [iRow x.1 x.2 (placesI s u)]) (fun _ => True) ?_ ?_
  case refine_2 =>
    rintro ⟨A', c'⟩ ρ _
    refine sgE ?_
    refine ew_ret ?_
    exact ret1M ⟨A', c', rfl, rfl⟩
  refine sgE ?_
  refine bk ?_
  refine lp (σ := Nat × Option Addr × Nat) (fun x => [(6, i64 x.1), (5, .slice x.2.1 (occs s u x.1).length x.2.2), (0, str s), (1, str u)]) (fun _ => f) (fun x => [iRow x.2.1 x.2.2 (occs s u x.1)]) (fun x => x.1 ≤ s.length + 1 ∧ (u = [] → x.1 = 0)) (fun x => s.length + 2 - x.1) (0, none, 0) ⟨Nat.zero_le _, fun _ => rfl⟩ ?_
  rintro ⟨a, A', c'⟩ ρ ⟨ha, ha0⟩
  replace ha : a ≤ s.length + 1 := ha
  replace ha0 : u = [] → a = 0 := ha0
  have hol := occs_len s u a
  show EW _ _ _ _ _ (ups ρ [(6, i64 a), (5, .slice A' (occs s u a).length c'), (0, str s), (1, str u)]) f [iRow A' c' (occs s u a)]
  refine sq (sg ?_)
  refine add ((a + u.length : Nat) : Int) ?_
  refine le (fun h1 => ?_) (fun h1 => ?_)
  case refine_2 =>
    refine runE ?_
    refine cFx ?_
    have e : placesI s u = occs s u a := by
      unfold placesI
      split
      · rename_i h
        rw [ha0 h]; rfl
      · rename_i h
        by_cases e : a = s.length + 1
        · rw [e]
        · exact occs_none (by omega) fun j h2 h3 => occ_far h (by omega)
    exact jn (A', c') trivial (hh := by rw [e]) (ha := ⟨by show Value.slice A' (occs s u a).length c' = _; rw [e], trivial⟩)
  refine neSE (fun h => ?_) (fun h => ?_)
  case refine_2 =>
    have h : u = [] := by
      by_cases e : u = []
      · exact e
      · exact absurd e h
    refine cFx ?_
    have e : placesI s u = occs s u a := by
      unfold placesI
      rw [if_pos h, ha0 h]; rfl
    exact jn (A', c') trivial (hh := by rw [e]) (ha := ⟨by show Value.slice A' (occs s u a).length c' = _; rw [e], trivial⟩)
  have h2 : a + u.length ≤ s.length := by omega
  have hu1 : 0 < u.length := List.length_pos_iff.2 h
  refine cTs (sq (bk (sg ?_)))
  refine add ((a + u.length : Nat) : Int) ?_
  refine slSB a (a + u.length) (by omega) h2 ?_
  have htk : (s.take (a + u.length)).drop a = (s.drop a).take u.length := by rw [List.drop_take]; congr 1; omega
  rw [htk]
  refine eqSE (fun h3 => ?_) (fun h3 => ?_)
  · have e2 : occs s u (a + 1) = occs s u a ++ [(a : Int)] := occs_hit ((occ_iff h).2 ⟨h2, h3⟩)
    refine cT (rg ?_)
    refine bsl fun b2 => ?_
    refine app 0 (fun A3 c3 => ?_) (hi := rfl) (hlim := by show ((occs s u a).length + 1) * 8 ≤ _; omega)
    refine runE ?_
    refine rg ?_
    refine addE ((a + 1 : Nat) : Int) ?_
    refine nxs (a + 1, A3, c3) ⟨by show a + 1 ≤ s.length + 1; omega, fun e => absurd e h⟩ (by show s.length + 2 - (a + 1) < s.length + 2 - a; omega) (hh := ?_) (ha := ⟨rfl, ?_, rfl, rfl, trivial⟩)
    · show [iRow A3 c3 (occs s u (a + 1))] = _
      rw [e2]; unfold iRow
      rw [List.length_append, List.map_append]; rfl
    · show Value.slice A3 ((occs s u a).length + 1) c3 = .slice A3 (occs s u (a + 1)).length c3
      rw [e2, List.length_append]; rfl
  · have e2 : occs s u (a + 1) = occs s u a := occs_skip (by
      cases e : Lib.occAt s u a with
      | false => rfl
      | true => exact absurd ((occ_iff h).1 e).2 h3)
    refine cFs (rg ?_)
    refine addE ((a + 1 : Nat) : Int) ?_
    refine nxs (a + 1, A', c') ⟨by show a + 1 ≤ s.length + 1; omega, fun e => absurd e h⟩ (by show s.length + 2 - (a + 1) < s.length + 2 - a; omega) (hh := by show [iRow A' c' (occs s u (a + 1))] = _; rw [e2]) (ha := ⟨rfl, by show Value.slice A' (occs s u a).length c' = .slice A' (occs s u (a + 1)).length c'; rw [e2], rfl, rfl, trivial⟩)
theorem indexFuncN {w : World} {f : View} (hv : On f w) {A : Option Addr} {c : Nat} {a : List Node} (ha : Sl f A c a) {kf : Nat} {fi ca : List Value} {p : Node → Bool}
    (hp : ∀ w g, Sub f g → On g w → ∀ x ∈ a, Con Tryz.prog kf (fi ++ [.agg ⟨nodeC x⟩] ++ ca) w (Ret w g fun _ v => v = .bool (p x))) :
    Con Tryz.prog 83 [.slice A a.length c, .func (.func kf) ⟨fi⟩ ⟨ca⟩] w (Ret w f fun _ v => v = i64 (idxP p a)) := by
  refine enterC hv Tryz.call83 Tryz.func83 ?_
  have hlim := ha.len_lt
  refine sgE ?_
  refine sqJ (σ := Unit) (fun _ => []) (fun _ => f) (fun _ => []) (fun _ => idxP p a = -1) ?_ ?_
  case refine_2 =>
    intro _ ρ h
    replace h : idxP p a = -1 := h
    refine sgE ?_
    refine ew_ret ?_
    exact ret1 (by rw [h])
  refine sgE ?_
  refine bk ?_
  refine lpn a.length (fun k => [(8, i64 k), (7, i64 (a.length : Nat)), (1, .func (.func kf) ⟨fi⟩ ⟨ca⟩), (0, .slice A a.length c)]) (fun k => ∀ j (hj : j < a.length), j < k → p a[j] = false) (fun j _ h => by omega) ?_
  intro k ρ hk hb
  refine sg ?_
  refine ltE (fun h => ?_) (fun h => ?_)
  case refine_2 =>
    refine sq (cFx ?_)
    exact jn () (idxP_no fun j hj => hb j hj (by omega))
  have h1 : k < a.length := by omega
  obtain ⟨b1, o1, rfl, hc, _⟩ := ha.node h1
  refine sq (cTs (sq (bk (sgE ?_))))
  refine sg ?_
  refine ix k h1 ?_
  refine ldvA hc ?_
  refine callBF (p := p a[k] = true) (vs := [.agg ⟨nodeC a[k]⟩]) (fun w g hs _ hon => ?_) (fun hpt => ?_) (fun hpf => ?_)
  · have := hp w g hs hon a[k] (List.getElem_mem h1)
    simpa using this
  · refine runE ?_
    refine cT (sgE ?_)
    refine ew_ret ?_
    exact ret1 (by rw [idxP_at h1 hpt hb])
  · refine runE ?_
    refine cFs (rg ?_)
    refine addE ((k + 1 : Nat) : Int) ?_
    refine nx (fun j hj hjk => ?_)
    by_cases e : j = k
    · subst e; simpa using hpf
    · exact hb j hj (by omega)
theorem containsFuncN {w : World} {f : View} (hv : On f w) {A : Option Addr} {c : Nat} {a : List Node} (ha : Sl f A c a) {kf : Nat} {fi ca : List Value} {p : Node → Bool}
    (hp : ∀ w g, Sub f g → On g w → ∀ x ∈ a, Con Tryz.prog kf (fi ++ [.agg ⟨nodeC x⟩] ++ ca) w (Ret w g fun _ v => v = .bool (p x))) :
    Con Tryz.prog 63 [.slice A a.length c, .func (.func kf) ⟨fi⟩ ⟨ca⟩] w (Ret w f fun _ v => v = .bool (decide (∃ x ∈ a, p x = true))) := by
  refine enterC hv Tryz.call63 Tryz.func63 ?_
  refine sgE ?_
  refine sg ?_
  refine callV (i64 (idxP p a)) (vs := [.slice A a.length c, .func (.func kf) ⟨fi⟩ ⟨ca⟩]) (fun w g hs _ hon => indexFuncN hon (ha.mono hs) fun w' g' hs' hon' x hx => hp w' g' (hs.trans hs') hon' x hx) ?_
  refine geE (fun h => ?_) (fun h => ?_)
  · refine ew_ret ?_
    exact ret1 (bT (idxP_nn.1 h))
  · refine ew_ret ?_
    exact ret1 (bF fun e => h (idxP_nn.2 e))
theorem hash_le (s : Str) : (hashL s).length ≤ LB := by
  unfold hashL
  split
  · exact Nat.le_trans (List.length_take_le _ _) (by decide)
  · exact Nat.zero_le _
theorem scanFound {w : World} {f : View} (hv : On f w) {A : Option Addr} {c : Nat} {names : List Str} (hn : Sl f A c names) (h12 : names.length ≤ 12) {kf : Nat} {fi ca : List Value} {p : Str → Bool}
    (hp : ∀ w g, Sub f g → On g w → ∀ h : Str, h.length ≤ LB → Con Tryz.prog kf (fi ++ [str h] ++ ca) w (Ret w g fun _ v => v = .bool (p h))) :
    Con Tryz.prog 61 [.slice A names.length c, .func (.func kf) ⟨fi⟩ ⟨ca⟩] w (RetM w f [] fun _ L' v => ∃ A' c', v = .slice A' (foundL names p).length c' ∧ L' = [sRow A' c' (foundL names p)]) := by
  refine enterM (L := []) hv (Given.nil _ _) Tryz.call61 Tryz.func61 ?_
  refine sgE ?_
  refine sgE ?_
  refine enilrow 9 1 ?_
  generalize hq : (fun n => decide (nameOk n) && p (hashL n)) = q
  have hfl : foundL names p = dd (sortS (names.filter q)) := by rw [← hq]; rfl
  rw [hfl]
  refine efg [(5, .slice none 0 0), (0, .slice A names.length c), (1, .func (.func kf) ⟨fi⟩ ⟨ca⟩)] [sRow none 0 []] fun ρ => ?_
  refine sqJ (σ := Option Addr × Nat) (fun s => [(5, .slice s.1 (names.filter q).length s.2)]) (fun _ => f) (fun s => [sRow s.1 s.2 (names.filter q)]) (fun _ => True) ?_ ?_
  case refine_2 =>
    rintro ⟨A', c'⟩ ρ _
    generalize hl : names.filter q = l
    have hl12 : l.length ≤ 12 := by rw [← hl]; exact Nat.le_trans (List.length_filter_le _ _) h12
    show EW _ _ _ _ _ (ups ρ [(5, .slice A' l.length c')]) f [sRow A' c' l]
    refine sg ?_
    refine callM0 (vs := [.slice A' l.length c']) [sRow A' c' l] (fun w hon hgi => sortC hl12 hon hgi) (fun v g L' hs hR => ?_)
    subst hR
    refine runE ?_
    refine efg [(5, .slice A' (sortS l).length c')] [sRow A' c' (sortS l)] (ha := ⟨by show Value.slice A' l.length c' = _; rw [sortS_len], trivial⟩) fun ρ => ?_
    refine sg ?_
    refine callM0 (vs := [.slice A' (sortS l).length c']) [sRow A' c' (sortS l)] (fun w hon hgi => compactS (by rw [sortS_len]; omega) hon hgi) (fun v g L' hs hR => ?_)
    obtain ⟨rfl, rfl⟩ := hR
    refine runE ?_
    refine ew_ret ?_
    exact ret1M ⟨A', c', rfl, rfl⟩
  refine sgE ?_
  refine bk ?_
  refine lp (σ := Nat × Option Addr × Nat) (fun s => [(10, i64 s.1), (9, i64 (names.length : Nat)), (8, .slice A names.length c), (5, .slice s.2.1 ((names.take s.1).filter q).length s.2.2), (1, .func (.func kf) ⟨fi⟩ ⟨ca⟩)]) (fun _ => f) (fun s => [sRow s.2.1 s.2.2 ((names.take s.1).filter q)]) (fun s => s.1 ≤ names.length) (fun s => names.length - s.1) (0, none, 0) (Nat.zero_le _) ?_
  rintro ⟨k, A', c'⟩ ρ hk
  replace hk : k ≤ names.length := hk
  show EW _ _ _ _ _ (ups ρ [(10, i64 k), (9, i64 (names.length : Nat)), (8, .slice A names.length c), (5, .slice A' ((names.take k).filter q).length c'), (1, .func (.func kf) ⟨fi⟩ ⟨ca⟩)]) f [sRow A' c' ((names.take k).filter q)]
  refine sg ?_
  refine ltE (fun h => ?_) (fun h => ?_)
  case refine_2 =>
    refine sq (cFx ?_)
    have e : k = names.length := by omega
    subst e
    rw [List.take_length]
    exact jn (A', c') trivial
  have h1 : k < names.length := by omega
  have hm : ((names.take k).filter q).length ≤ 12 := Nat.le_trans (List.length_filter_le _ _) (by rw [List.length_take]; omega)
  have htk : names.take (k + 1) = names.take k ++ [names[k]] := (List.take_append_getElem h1).symm
  obtain ⟨b1, o1, rfl, hc, hl⟩ := hn.text h1
  generalize hx : names[k] = x at hc hl htk
  have hqx : q x = (decide (nameOk x) && p (hashL x)) := by rw [← hq]
  refine sq (cTs (sq (bk (sg ?_))))
  refine ix k h1 ?_
  refine ldv hc ?_
  refine runE ?_
  have skip : q x = false → (names.take (k + 1)).filter q = (names.take k).filter q := fun h2 => by rw [htk, List.filter_append, List.filter_cons_of_neg (by rw [h2]; simp)]; simp
  have hit : q x = true → (names.take (k + 1)).filter q = (names.take k).filter q ++ [x] := fun h2 => by rw [htk, List.filter_append, List.filter_cons_of_pos h2]; rfl
  generalize hm1 : (names.take k).filter q = m at hm skip hit
  generalize hm2 : (names.take (k + 1)).filter q = m2 at skip hit
  refine efg [(7, str x), (10, i64 k), (9, i64 (names.length : Nat)), (8, .slice (some ⟨b1, o1, none⟩) names.length c), (5, .slice A' m.length c'), (1, .func (.func kf) ⟨fi⟩ ⟨ca⟩)] [sRow A' c' m] fun ρ => ?_
  refine sg ?_
  refine callB (p := nameOk x) (vs := [str x]) (fun w g hs _ hon => itemName hon hl) (fun hok => ?_) (fun hok => ?_)
  case refine_2 =>
    have e := skip (by rw [hqx, decide_eq_false hok]; rfl)
    refine runE ?_
    refine cFs (rg ?_)
    refine addE ((k + 1 : Nat) : Int) ?_
    refine nxs (k + 1, A', c') h1 (by show names.length - (k + 1) < names.length - k; omega) (hh := by show [sRow A' c' ((names.take (k + 1)).filter q)] = _; rw [hm2, e]) (ha := ⟨rfl, rfl, rfl, by show Value.slice A' m.length c' = .slice A' ((names.take (k + 1)).filter q).length c'; rw [hm2, e], rfl, trivial⟩)
  refine callV (str (hashL x)) (vs := [str x]) (fun w g hs _ hon => itemHash hon hl) ?_
  refine callBF (p := p (hashL x) = true) (vs := [str (hashL x)]) (fun w g hs _ hon => ?_) (fun hpt => ?_) (fun hpf => ?_)
  · have := hp w g hs hon (hashL x) (hash_le x)
    simpa using this
  · have e := hit (by rw [hqx, decide_eq_true hok, hpt]; rfl)
    refine runE ?_
    refine cT (rg ?_)
    refine bsl fun b2 => ?_
    refine app 0 (fun A3 c3 => ?_) (hi := rfl) (hlim := by show (m.length + 1) * 16 ≤ _; omega)
    refine runE ?_
    refine rg ?_
    refine addE ((k + 1 : Nat) : Int) ?_
    refine nxs (k + 1, A3, c3) h1 (by show names.length - (k + 1) < names.length - k; omega) (hh := ?_) (ha := ⟨rfl, rfl, rfl, ?_, rfl, trivial⟩)
    · show [sRow A3 c3 ((names.take (k + 1)).filter q)] = _
      rw [hm2, e]; unfold sRow
      rw [List.length_append, List.map_append]; rfl
    · show Value.slice A3 (m.length + 1) c3 = .slice A3 ((names.take (k + 1)).filter q).length c3
      rw [hm2, e, List.length_append]; rfl
  · have e := skip (by rw [hqx]; simp [Bool.eq_false_iff.2 (fun h => hpf h)])
    refine runE ?_
    refine cFs (rg ?_)
    refine addE ((k + 1 : Nat) : Int) ?_
    refine nxs (k + 1, A', c') h1 (by show names.length - (k + 1) < names.length - k; omega) (hh := by show [sRow A' c' ((names.take (k + 1)).filter q)] = _; rw [hm2, e]) (ha := ⟨rfl, rfl, rfl, by show Value.slice A' m.length c' = .slice A' ((names.take (k + 1)).filter q).length c'; rw [hm2, e], rfl, trivial⟩)
theorem scanTreeClo2 {w : World} {f : View} (hv : On f w) (hm : ML f) {x : Node} {h : Str} {b : Nat} (hb : f.cell? ⟨b, 0, none⟩ = some (str h)) (hs : x.data.length < 4294967281) : Con Tryz.prog 64 [.agg ⟨nodeC x⟩, .pointer (some ⟨b, 0, none⟩)] w (Ret w f fun _ v => v = .bool (decide (hasL x.data h))) := by
  refine enterC hv Tryz.call64 Tryz.func64 ?_
  refine sg ?_
  refine box (vs := nodeC x) fun b2 => ?_
  refine runE ?_
  refine sg ?_
  refine ldo 0 ?_
  refine ldv hb ?_
  refine callV (.bool (decide (hasL x.data h))) (vs := [str x.data, str h]) (fun w g hs' _ hon => scanHas hon (hm.mono hs') hs) ?_
  refine runE ?_
  refine edropH ?_
  refine ew_ret ?_
  exact ret1 rfl
theorem scanTreeClo {w : World} {f : View} (hv : On f w) (hm : ML f) {A : Option Addr} {c : Nat} {t : List Node} (ht : Sl f A c t) (hd : ∀ x ∈ t, x.data.length < 4294967281) {h : Str} {b : Nat} (hb : f.cell? ⟨b, 0, none⟩ = some (.slice A t.length c)) : Con Tryz.prog 62 [str h, .pointer (some ⟨b, 0, none⟩)] w (Ret w f fun _ v => v = .bool (treeHas t h)) := by
  refine enterC hv Tryz.call62 Tryz.func62 ?_
  refine sg ?_
  refine box fun b2 => ?_
  refine runE ?_
  refine sg ?_
  refine ldv hb ?_
  refine callV (.bool (treeHas t h)) (vs := [.slice A t.length c, .func (.func 64) ⟨[]⟩ ⟨[.pointer (some ⟨b2, 0, none⟩)]⟩]) (fun w g hs' hsn hon => ?_) ?_
  · have h1 := containsFuncN (p := fun x => decide (hasL x.data h)) (kf := 64) (fi := []) (ca := [.pointer (some ⟨b2, 0, none⟩)]) hon (ht.mono hs') fun w' g' hs2 hon' x hx => scanTreeClo2 hon' ((hm.mono hs').mono hs2) (Sub.cell hs2 (blk_seen (hsn _ (.head _)))) (hd x hx)
    have e : (decide (∃ x ∈ t, decide (hasL x.data h) = true)) = treeHas t h := by unfold treeHas; simp
    rw [← e]
    exact h1
  refine runE ?_
  refine edropH ?_
  refine ew_ret ?_
  exact ret1 rfl
theorem scanTree {w : World} {f : View} (hv : On f w) (hm : ML f) {A : Option Addr} {c : Nat} {t : List Node} (ht : Sl f A c t) (hd : ∀ x ∈ t, x.data.length < 4294967281) {A2 : Option Addr} {c2 : Nat} {names : List Str} (hn : Sl f A2 c2 names) (h12 : names.length ≤ 12) :
    Con Tryz.prog 38 [.slice A t.length c, .slice A2 names.length c2] w (RetM w f [] fun _ L' v => ∃ A' c', v = .slice A' (treeL t names).length c' ∧ L' = [sRow A' c' (treeL t names)]) := by
  refine enterM (L := []) hv (Given.nil _ _) Tryz.call38 Tryz.func38 ?_
  refine sg ?_
  refine box fun b2 => ?_
  refine runE ?_
  refine sg ?_
  refine callMo (vs := [.slice A2 names.length c2, .func (.func 62) ⟨[]⟩ ⟨[.pointer (some ⟨b2, 0, none⟩)]⟩]) (R := fun L' v => ∃ A' c', v = .slice A' (treeL t names).length c' ∧ L' = [sRow A' c' (treeL t names)]) (fun w g hs' hsn hon => ?_) (fun v L' hR => ?_)
  · refine scanFound hon (hn.mono hs') h12 fun w' g' hs2 hon' h hh => ?_
    exact scanTreeClo hon' ((hm.mono hs').mono hs2) ((ht.mono hs').mono hs2) hd (Sub.cell hs2 (blk_seen (hsn _ (.head _))))
  obtain ⟨A', c', rfl, rfl⟩ := hR
  refine runE ?_
  refine ewL (L' := [sRow A' c' (treeL t names)]) (fun _ h => h.sublist (.cons_cons _ (.cons _ (List.Sublist.refl _)))) ?_
  refine ew_ret ?_
  exact ret1M ⟨A', c', rfl, rfl⟩
end Go.Hog
