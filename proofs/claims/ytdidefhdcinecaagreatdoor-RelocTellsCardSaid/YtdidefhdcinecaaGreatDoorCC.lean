/- F54 S25 F55, in one text. -/
import Derived.Test.YtdidefhdcinecaaGreatDoorCA
import Derived.Test.YtdidefhdcinecaaGreatDoorF15
set_option linter.unusedVariables false
set_option linter.unusedSimpArgs false
set_option maxRecDepth 100000
set_option maxHeartbeats 1000000
namespace Go.Hog
open Go.RowKit Rp Go.Proofs
theorem equalS {w : World} {f : View} (hv : On f w) {A B : Option Addr} {c c2 : Nat} {a b : List Str} (ha : Sl f A c a) (hb : Sl f B c2 b) :
    Con Tryz.prog 37 [.slice A a.length c, .slice B b.length c2] w (Ret w f fun _ v => v = .bool (decide (a = b))) := by
  refine enterC hv Tryz.call37 Tryz.func37 ?_
  have hlim := ha.len_lt
  refine sgE (sq (sg ?_))
  refine neIE (fun h => ?_) (fun h => ?_)
  · refine cT (rr ?_)
    exact ret1 (bF (by rintro rfl; exact h rfl))
  refine cFs (sq (sgE (bk ?_)))
  refine lpn a.length (fun k => [(13, i64 k), (12, i64 (a.length : Nat)), (0, .slice A a.length c), (1, .slice B b.length c2)]) (fun k => a.take k = b.take k) rfl ?_
  intro k ρ hk hi
  refine sg ?_
  refine ltE (fun h => ?_) (fun h => ?_)
  · have h1 : k < a.length := by omega
    have h2 : k < b.length := by omega
    obtain ⟨b1, o1, rfl, c1, _⟩ := ha.text h1
    obtain ⟨b2, o2, rfl, c2, _⟩ := hb.text h2
    refine sq (cTs (sq (bk (sgE (sQ ?_)))))
    refine ix k h1 ?_
    refine ldv c1 ?_
    refine ix k h2 ?_
    refine ldv c2 ?_
    refine neSE (fun h => ?_) (fun h => ?_)
    · refine cT (rr ?_)
      exact ret1 (bF (by rintro rfl; exact h rfl))
    · refine cFs (rg ?_)
      refine addE ((k + 1 : Nat) : Int) ?_
      exact nx (take_eq hi h1 h2 (Classical.not_not.1 h))
  · refine sq (cFx (rr ?_))
    exact ret1 (bT (take_all hi (by omega) (by omega)))
theorem containsFuncI {w : World} {f : View} (hv : On f w) {A : Option Addr} {c : Nat} {a : List Item} (ha : Sl f A c a) {kf : Nat} {fi ca : List Value} {p : Item → Bool}
    (hp : ∀ w g, Sub f g → On g w → ∀ x cs, rp g x cs → Con Tryz.prog kf (fi ++ [.agg ⟨cs⟩] ++ ca) w (Ret w g fun _ v => v = .bool (p x))) :
    Con Tryz.prog 57 [.slice A a.length c, .func (.func kf) ⟨fi⟩ ⟨ca⟩] w (Ret w f fun _ v => v = .bool (a.any p)) := by
  refine enterC hv Tryz.call57 Tryz.func57 ?_
  refine sgE ?_
  refine sg ?_
  refine callV (i64 (idxP p a)) (vs := [.slice A a.length c, .func (.func kf) ⟨fi⟩ ⟨ca⟩]) (fun w g hs _ hon => indexFuncI hon (ha.mono hs) fun w' g' hs' hon' => hp w' g' (hs.trans hs') hon') ?_
  refine geE (fun h => ?_) (fun h => ?_)
  · refine ew_ret ?_
    refine ret1 (show Value.bool true = .bool (a.any p) from ?_)
    obtain ⟨x, hx, h2⟩ := idxP_nn.1 h
    rw [List.any_eq_true.2 ⟨x, hx, h2⟩]
  · refine ew_ret ?_
    refine ret1 (show Value.bool false = .bool (a.any p) from ?_)
    cases e : a.any p with
    | false => rfl
    | true =>
      obtain ⟨x, hx, h2⟩ := List.any_eq_true.1 e
      exact absurd (idxP_nn.2 ⟨x, hx, h2⟩) h
theorem namedClo {w : World} {f : View} (hv : On f w) {x y : Item} {cs : List Value} (hy : rp f y cs) {b : Nat} (hb : f.cell? ⟨b, 0, none⟩ = some (str x.name)) (hx : x.name.length ≤ LB) :
    Con Tryz.prog 54 [.agg ⟨cs⟩, .pointer (some ⟨b, 0, none⟩)] w (Ret w f fun _ v => v = .bool (decide (hashL y.name = hashL x.name))) := by
  obtain ⟨A1, c1, A2, c2, rfl, hn, _, _⟩ := hy
  refine enterC hv Tryz.call54 Tryz.func54 ?_
  refine sg ?_
  refine box (vs := [str y.name, .slice A1 y.refs.length c1, .slice A2 y.tree.length c2]) fun b2 => ?_
  refine runE ?_
  refine efrz 0 fun g hs hq => ?_
  have k0 : g.cell? ⟨b2, 0, none⟩ = some (str y.name) := blk_seen hq
  refine efg [(2, .pointer (some ⟨b2, 0, none⟩)), (1, .pointer (some ⟨b, 0, none⟩))] [] (fun ρ => ?_)
  refine sQ ?_
  refine ldv k0 ?_
  refine callV (str (hashL y.name)) (vs := [str y.name]) (fun w g h1 h2 h3 => itemHash h3 hn) ?_
  refine ldv (Sub.cell hs hb) ?_
  refine callV (str (hashL x.name)) (vs := [str x.name]) (fun w g h1 h2 h3 => itemHash h3 hx) ?_
  refine eqSE (fun h => ?_) (fun h => ?_)
  · refine ew_ret ?_
    exact ret1 (bT h)
  · refine ew_ret ?_
    exact ret1 (bF h)
theorem closureNamed {w : World} {f : View} (hv : On f w) {x : Item} {cs : List Value} (hx : rp f x cs) {A : Option Addr} {c : Nat} {t : List Item} (ht : Sl f A c t) :
    Con Tryz.prog 35 [.agg ⟨cs⟩, .slice A t.length c] w (Ret w f fun _ v => v = .bool (namedB x t)) := by
  obtain ⟨A1, c1, A2, c2, rfl, hn, _, _⟩ := hx
  refine enterC hv Tryz.call35 Tryz.func35 ?_
  have hlim := ht.len_lt
  refine sg ?_
  refine box (vs := [str x.name, .slice A1 x.refs.length c1, .slice A2 x.tree.length c2]) fun b2 => ?_
  refine runE ?_
  refine efrz 0 fun g hs hq => ?_
  have k0 : g.cell? ⟨b2, 0, none⟩ = some (str x.name) := blk_seen hq
  refine sgE ?_
  refine efg [(5, .func (.func 54) ⟨[]⟩ ⟨[.pointer (some ⟨b2, 0, none⟩)]⟩), (2, .pointer (some ⟨b2, 0, none⟩)), (1, .slice A t.length c)] [] (fun ρ => ?_)
  have hcf : ∀ (w' : World) g', Sub g g' → On g' w' → Con Tryz.prog 57 [.slice A t.length c, .func (.func 54) ⟨[]⟩ ⟨[.pointer (some ⟨b2, 0, none⟩)]⟩] w' (Ret w' g' fun _ v => v = .bool (t.any fun y => decide (hashL y.name = hashL x.name))) := fun w' g' h1 h3 =>
    containsFuncI h3 ((ht.mono hs).mono h1) fun w2 g2 hs2 hon2 y cs hy => namedClo hon2 hy (Sub.cell hs2 (Sub.cell h1 k0)) hn
  have hd : namedB x t = (decide (nameOk x.name) && (match t.getLast? with | none => true | some l => decide (l.name < x.name)) && !(t.any fun y => decide (hashL y.name = hashL x.name))) := rfl
  generalize (t.any fun y => decide (hashL y.name = hashL x.name)) = an at hcf hd
  refine sQ ?_
  refine ldv k0 ?_
  refine callB (p := nameOk x.name) (vs := [str x.name]) (fun w g hs _ hon => itemName hon hn) (fun h1 => ?_) (fun h1 => ?_)
  case refine_2 =>
    refine runE ?_
    refine ew_ret ?_
    exact ret1 (show Value.bool false = .bool (namedB x t) by rw [hd, decide_eq_false h1]; rfl)
  rw [decide_eq_true h1, Bool.true_and] at hd
  refine eqI (fun h2 => ?_) (fun h2 => ?_)
  · have h0 : t = [] := List.length_eq_zero_iff.1 (by omega)
    have hg : t.getLast? = none := by rw [h0]; rfl
    rw [hg] at hd
    refine callV (.bool an) (vs := [.slice A t.length c, .func (.func 54) ⟨[]⟩ ⟨[.pointer (some ⟨b2, 0, none⟩)]⟩]) (fun w g h1 h2 h3 => hcf w g h1 h3) ?_
    refine runE ?_
    refine ew_ret ?_
    exact ret1 (show Value.bool (!an) = .bool (namedB x t) by rw [hd]; rfl)
  rcases List.eq_nil_or_concat t with e | ⟨t0, l, e⟩
  · exfalso; apply h2; rw [e]; rfl
  rw [List.concat_eq_append] at e
  have hl1 : t.length = t0.length + 1 := by rw [e]; simp
  have hlast : t.getLast? = some l := by rw [e]; simp
  have hlt : t0.length < t.length := by omega
  have htl : t[t0.length]'hlt = l := by simp [e]
  obtain ⟨b3, o3, A3, c3, A4, c4, rfl, hc3, hn3, _, _⟩ := (ht.mono hs).item hlt
  rw [htl] at hc3
  rw [hlast] at hd
  refine sub ((t0.length : Nat) : Int) ?_
  refine ix t0.length hlt ?_
  refine ldv hc3.1 ?_
  refine ldv k0 ?_
  refine ltS (fun h3 => ?_) (fun h3 => ?_)
  case refine_2 =>
    refine runE ?_
    refine ew_ret ?_
    exact ret1 (show Value.bool false = .bool (namedB x t) by rw [hd]; show _ = Value.bool (decide (l.name < x.name) && !an); rw [decide_eq_false h3]; rfl)
  refine callV (.bool an) (vs := [.slice (some ⟨b3, o3, none⟩) t.length c, .func (.func 54) ⟨[]⟩ ⟨[.pointer (some ⟨b2, 0, none⟩)]⟩]) (fun w g h1 h2 h3 => hcf w g h1 h3) ?_
  refine runE ?_
  refine ew_ret ?_
  exact ret1 (show Value.bool (!an) = .bool (namedB x t) by rw [hd]; show _ = Value.bool (decide (l.name < x.name) && !an); rw [decide_eq_true h3]; rfl)
end Go.Hog

set_option linter.unusedVariables false
set_option linter.unusedSimpArgs false
namespace Go.Hog
open Go.RowKit Rp
theorem val1_stays {a : List Item} {k : Nat} (h : val1 a k ≠ 0) : ∀ m, k ≤ m → val1 a m = val1 a k
  | m, hm => by
    rcases Nat.lt_or_eq_of_le hm with h1 | h1
    · obtain ⟨m, rfl⟩ : ∃ j, m = j + 1 := ⟨m - 1, by omega⟩
      have ih := val1_stays h m (by omega)
      show (if val1 a m ≠ 0 then val1 a m else _) = _
      rw [if_pos (by rw [ih]; exact h), ih]
    · rw [← h1]
theorem val1_step {a : List Item} {k : Nat} (h : val1 a k = 0) (hk : k < a.length) : val1 a (k + 1) = if namedB a[k] (a.take k) = false then 6 else if treeOk a[k].tree = false then 7 else 0 := by
  show (if val1 a k ≠ 0 then _ else match a[k]? with | none => (0 : Int) | some x => if namedB x (a.take k) = false then 6 else if treeOk x.tree = false then 7 else 0) = _
  rw [if_neg (by rw [h]; simp), List.getElem?_eq_getElem hk]
theorem val1_zero {a : List Item} : ∀ {k : Nat}, k ≤ a.length → (val1 a k = 0 ↔ ∀ i (hi : i < a.length), i < k → namedB a[i] (a.take i) = true ∧ treeOk a[i].tree = true)
  | 0, _ => ⟨fun _ i _ h => by simp at h, fun _ => rfl⟩
  | k + 1, hk => by
    have ih := val1_zero (a := a) (k := k) (by omega)
    constructor
    · intro h
      have h0 : val1 a k = 0 := by
        by_cases e : val1 a k = 0
        · exact e
        · have := val1_stays e (k + 1) (by omega)
          rw [this] at h; exact h
      rw [val1_step h0 (by omega)] at h
      intro i hi hik
      by_cases e : i = k
      · subst e
        split at h
        · cases h
        · split at h
          · cases h
          · rename_i h1 h2
            exact ⟨by simpa using h1, by simpa using h2⟩
      · exact (ih.1 h0) i hi (by omega)
    · intro h
      have h0 := ih.2 fun i hi hik => h i hi (by omega)
      obtain ⟨h1, h2⟩ := h k (by omega) (by omega)
      rw [val1_step h0 (by omega), h1, h2]; rfl
theorem good_data {x : Node} (h : goodN x = true) : x.data.length ≤ 400 := by
  unfold goodN at h
  simp only [Bool.and_eq_true, decide_eq_true_eq] at h
  exact h.1.2
theorem tree_good {t : List Node} (h : treeOk t = true) : ∀ x ∈ t, goodN x = true := by
  intro x hx
  unfold treeOk at h
  simp only [Bool.and_eq_true] at h
  have h2 := h.1.2
  unfold mayT at h2
  rw [Bool.and_eq_true, List.all_eq_true] at h2
  obtain ⟨i, hi, rfl⟩ := List.getElem_of_mem hx
  have h3 := h2.2 i (List.mem_range.2 hi)
  unfold badAt at h3
  rw [List.getElem?_eq_getElem hi] at h3
  simp only [Bool.not_eq_true', Bool.or_eq_false_iff, Bool.not_eq_false'] at h3
  exact h3.1.2
/-- What valid is. -/
structure ValidI (pre : Str) (a : List Item) : Prop where
  pre : prefixOk pre
  len : a.length ≤ 8
  each : ∀ i (hi : i < a.length), namedB a[i] (a.take i) = true ∧ treeOk a[i].tree = true
  refs : ∀ x ∈ a, x.refs = treeL x.tree (names a)
theorem valE_zero {pre : Str} {a : List Item} : valE pre a = 0 ↔ ValidI pre a := by
  unfold valE
  constructor
  · intro h
    split at h
    · cases h
    split at h
    · cases h
    split at h
    · rename_i h3; exact absurd h h3
    split at h
    · rename_i h1 h2 h3 h4
      exact ⟨Classical.not_not.1 h1, by omega, fun i hi => (val1_zero (Nat.le_refl _)).1 (Classical.not_not.1 h3) i hi hi, fun x hx => by have := List.all_eq_true.1 h4 x hx; exact of_decide_eq_true this⟩
    · cases h
  · intro h
    have h3 : val1 a a.length = 0 := (val1_zero (Nat.le_refl _)).2 fun i hi _ => h.each i hi
    have h4 : a.all (refsOk a) = true := List.all_eq_true.2 fun x hx => decide_eq_true (h.refs x hx)
    have h2 := h.len
    rw [if_neg (Classical.not_not.2 h.pre), if_neg (by omega), if_neg (Classical.not_not.2 h3), if_pos h4]
end Go.Hog

set_option linter.unusedVariables false
set_option linter.unusedSimpArgs false
set_option maxRecDepth 100000
set_option maxHeartbeats 1000000
namespace Go.Hog
open Go.RowKit Rp Go.Proofs
theorem closureValidate {w : World} {f : View} (hv : On f w) (hm : ML f) {s : Str} (hs : s.length ≤ LB) {A : Option Addr} {c : Nat} {a : List Item} (ha : Sl f A c a) :
    Con Tryz.prog 18 [str s, .slice A a.length c] w (Ret w f fun _ v => v = i64 (valE s a)) := by
  refine enterC hv Tryz.call18 Tryz.func18 ?_
  have hlim := ha.len_lt
  refine sgE ?_
  refine sqJ (σ := Unit) (fun _ => [(1, .slice A a.length c)]) (fun _ => f) (fun _ => []) (fun _ => prefixOk s ∧ a.length ≤ 8) ?_ ?_
  · refine bk (sg ?_)
    refine callB (p := prefixOk s) (vs := [str s]) (fun w g h1 h2 h3 => closurePrefix h3 (hm.mono h1) hs) (fun h1 => ?_) (fun h1 => ?_)
    case refine_2 =>
      refine runE ?_
      refine cT (rr ?_)
      exact ret1 (show Value.int .i64 11 = i64 (valE s a) by unfold valE; rw [if_pos h1])
    refine runE ?_
    refine cF (sg ?_)
    refine gtE (fun h2 => ?_) (fun h2 => ?_)
    · refine cT (rr ?_)
      exact ret1 (show Value.int .i64 3 = i64 (valE s a) by unfold valE; rw [if_neg (Classical.not_not.2 h1), if_pos (show 8 < a.length by omega)])
    · refine cFs ?_
      exact jn () ⟨h1, by omega⟩
  rintro ⟨⟩ ρ ⟨hpre, h8⟩
  have hE : valE s a = if val1 a a.length ≠ 0 then val1 a a.length else if a.all (refsOk a) then 0 else 8 := by
    unfold valE
    rw [if_neg (Classical.not_not.2 hpre), if_neg (by omega)]
  refine sqJ (σ := Unit) (fun _ => [(1, .slice A a.length c)]) (fun _ => f) (fun _ => []) (fun _ => val1 a a.length = 0) ?_ ?_
  · refine sgE (bk ?_)
    refine lpn a.length (fun k => [(20, i64 k), (19, i64 (a.length : Nat)), (18, .slice A a.length c), (1, .slice A a.length c)]) (fun k => val1 a k = 0) rfl ?_
    intro k ρ hk hi
    refine sg ?_
    refine ltE (fun h => ?_) (fun h => ?_)
    case refine_2 =>
      refine sq (cFx ?_)
      have e : k = a.length := by omega
      subst e
      exact jn () hi
    have h1 : k < a.length := by omega
    have hst := val1_step hi h1
    have hbad : val1 a (k + 1) ≠ 0 → valE s a = val1 a (k + 1) := fun h => by
      have := val1_stays h a.length (by omega)
      rw [hE, this, if_pos h]
    obtain ⟨b1, o1, A3, c3, A4, c4, rfl, hc1, hn1, hr1, ht1⟩ := ha.item h1
    have htk := ha.take k
    have htl : (a.take k).length = k := by rw [List.length_take]; omega
    have hkc : k ≤ c := by have := ha.cap; omega
    generalize a[k] = x at hst hc1 hn1 hr1 ht1
    have hrx : rp f x [str x.name, .slice A3 x.refs.length c3, .slice A4 x.tree.length c4] := ⟨A3, c3, A4, c4, rfl, hn1, hr1, ht1⟩
    refine sq (cTs (sq (bk (sg ?_))))
    refine ix k h1 ?_
    refine ldvA hc1 ?_
    refine alloc fun b6 => ?_
    refine st 0 ?_
    refine runE ?_
    refine efg [(6, .pointer (some ⟨b6, 0, none⟩)), (5, i64 k), (20, i64 k), (19, i64 (a.length : Nat)), (18, .slice (some ⟨b1, o1, none⟩) a.length c), (1, .slice (some ⟨b1, o1, none⟩) a.length c)] [.blk b6 (.cells ⟨[str x.name, .slice A3 x.refs.length c3, .slice A4 x.tree.length c4]⟩ 44)] (fun ρ => ?_)
    refine sqJ (σ := Unit) (fun _ => [(6, .pointer (some ⟨b6, 0, none⟩)), (20, i64 k), (19, i64 (a.length : Nat)), (18, .slice (some ⟨b1, o1, none⟩) a.length c), (1, .slice (some ⟨b1, o1, none⟩) a.length c)]) (fun _ => f) (fun _ => [.blk b6 (.cells ⟨[str x.name, .slice A3 x.refs.length c3, .slice A4 x.tree.length c4]⟩ 44)]) (fun _ => namedB x (a.take k) = true) ?_ ?_
    · refine sQ ?_
      refine ldoA 0 ?_
      refine slH k hkc ?_
      refine callV (.bool (namedB x (a.take k))) (vs := [.agg ⟨[str x.name, .slice A3 x.refs.length c3, .slice A4 x.tree.length c4]⟩, .slice (some ⟨b1, o1, none⟩) k c]) (fun w g' h1 h2 h3 => ?_) ?_
      · have := closureNamed h3 (Rp.mono h1 hrx) (htk.mono h1)
        rwa [htl] at this
      cases hnb : namedB x (a.take k) with
      | false =>
        rw [hnb, if_pos rfl] at hst
        have := hbad (by rw [hst]; decide)
        refine runE ?_
        refine cT (sgE ?_)
        refine edropH ?_
        refine ew_ret ?_
        exact ret1 (show Value.int .i64 6 = i64 (valE s a) by rw [this, hst])
      | true =>
        refine runE ?_
        refine cFs ?_
        exact jn () rfl
    rintro ⟨⟩ ρ hnb
    rw [hnb, if_neg (by decide)] at hst
    refine sg ?_
    refine ldo 0 ?_
    refine callV (.bool (treeOk x.tree)) (vs := [.slice A4 x.tree.length c4]) (fun w g' h1 h2 h3 => itemTree h3 (hm.mono h1) (ht1.mono h1)) ?_
    cases htb : treeOk x.tree with
    | false =>
      rw [htb, if_pos rfl] at hst
      have := hbad (by rw [hst]; decide)
      refine runE ?_
      refine cT (sgE ?_)
      refine edropH ?_
      refine ew_ret ?_
      exact ret1 (show Value.int .i64 7 = i64 (valE s a) by rw [this, hst])
    | true =>
      rw [htb, if_neg (by decide)] at hst
      refine runE ?_
      refine cFs ?_
      refine edropH ?_
      refine rg ?_
      refine addE ((k + 1 : Nat) : Int) ?_
      exact nx hst
  rintro ⟨⟩ ρ h0
  rw [if_neg (Classical.not_not.2 h0)] at hE
  have hall := (val1_zero (Nat.le_refl _)).1 h0
  refine sg ?_
  refine callMo (vs := [.slice A a.length c]) (R := fun L' v => ∃ A' c', v = .slice A' (names a).length c' ∧ L' = [sRow A' c' (names a)]) (fun w g hs' _ hon => itemNames hon (ha.mono hs') (by omega)) (fun v L' hR => ?_)
  obtain ⟨A7, c7, rfl, rfl⟩ := hR
  have hnl : (names a).length = a.length := List.length_map _
  have hnb : ∀ z ∈ names a, z.length ≤ LB := fun z hz => by
    obtain ⟨y, hy, rfl⟩ := List.mem_map.1 hz
    obtain ⟨j, hj, rfl⟩ := List.getElem_of_mem hy
    obtain ⟨_, _, _, _, _, _, _, _, hn, _, _⟩ := ha.item hj
    exact hn
  refine rfrz 0 fun g hs1 hq => ?_
  have hns : Sl g A7 c7 (names a) := Sl.ofTexts hq rfl hnb (by rw [hnl]; exact hlim)
  have ha1 := ha.mono hs1
  have hmg := hm.mono hs1
  refine runE ?_
  refine efg [(7, .slice A7 (names a).length c7), (1, .slice A a.length c)] [] (fun ρ => ?_)
  refine sqJ (σ := View) (fun _ => []) (fun g' => g') (fun _ => []) (fun _ => a.all (refsOk a) = true) ?_ ?_
  case refine_2 =>
    rintro g2 ρ hall2
    refine sgE ?_
    refine ew_ret ?_
    exact ret1 (show Value.int .i64 0 = i64 (valE s a) by rw [hE, if_pos hall2])
  refine sgE (bk ?_)
  refine lp (σ := Nat × View) (fun s => [(40, i64 s.1), (39, i64 (a.length : Nat)), (38, .slice A a.length c), (7, .slice A7 (names a).length c7)]) (fun s => s.2) (fun _ => []) (fun s => s.1 ≤ a.length ∧ Sub g s.2 ∧ (a.take s.1).all (refsOk a) = true) (fun s => a.length - s.1) (0, g) ⟨Nat.zero_le _, Sub.refl _, rfl⟩ ?_
  rintro ⟨k, g2⟩ ρ ⟨hk, hs2, hi⟩
  replace hk : k ≤ a.length := hk
  replace hs2 : Sub g g2 := hs2
  replace hi : (a.take k).all (refsOk a) = true := hi
  show EW _ _ _ _ _ (ups ρ [(40, i64 k), (39, i64 (a.length : Nat)), (38, .slice A a.length c), (7, .slice A7 (names a).length c7)]) g2 []
  refine sg ?_
  refine ltE (fun h => ?_) (fun h => ?_)
  case refine_2 =>
    refine sq (cFx ?_)
    have e : k = a.length := by omega
    subst e
    rw [List.take_length] at hi
    exact jn g2 hi
  have h1 : k < a.length := by omega
  obtain ⟨b1, o1, A3, c3, A4, c4, rfl, hc1, hn1, hr1, ht1⟩ := (ha1.mono hs2).item h1
  have hdat : ∀ z ∈ a[k].tree, z.data.length < 4294967281 := fun z hz => by
    have := good_data (tree_good (hall k h1 h1).2 z hz)
    omega
  have htk : (a.take (k + 1)).all (refsOk a) = ((a.take k).all (refsOk a) && refsOk a a[k]) := by
    rw [(List.take_append_getElem h1).symm, List.all_append]; simp
  have hno : refsOk a a[k] = false → a.all (refsOk a) = false := fun h => by
    rw [← Bool.not_eq_true]
    intro h3
    rw [List.all_eq_true.1 h3 _ (List.getElem_mem h1)] at h
    cases h
  generalize a[k] = x at hc1 hn1 hr1 ht1 hdat htk hno
  refine sq (cTs (sq (bk (sg ?_))))
  refine ix k h1 ?_
  refine ldvA hc1 ?_
  refine alloc fun b9 => ?_
  refine st 0 ?_
  refine rfrz 0 fun g3 hs3 hq9 => ?_
  have k1 : g3.cell? ⟨b9, 1, none⟩ = some (.slice A3 x.refs.length c3) := blk_seen hq9
  have k2 : g3.cell? ⟨b9, 2, none⟩ = some (.slice A4 x.tree.length c4) := blk_seen hq9
  refine runE ?_
  refine efg [(9, .pointer (some ⟨b9, 0, none⟩)), (40, i64 k), (39, i64 (a.length : Nat)), (38, .slice (some ⟨b1, o1, none⟩) a.length c), (7, .slice A7 (names a).length c7)] [] (fun ρ => ?_)
  have hsg := hs2.trans hs3
  refine sA [1, 3] [] (List.nil_sublist _) ?_
  refine an_takeU [0, 2, 4] ?_
  refine an_takeH [1, 3] (HeldL.none (Sub.refl _)) ?_
  refine ldv k1 ?_
  refine ldv k2 ?_
  refine rw_end ?_
  refine an_run1 5 ?_
  refine callM0 (vs := [.slice A4 x.tree.length c4, .slice A7 (names a).length c7]) [] (fun w hon hgi => scanTree hon (hmg.mono hsg) (ht1.mono hs3) hdat (hns.mono hsg) (by rw [hnl]; omega)) (fun v g4 L' hs4 hR => ?_)
  obtain ⟨A9, c9, rfl, rfl⟩ := hR
  refine aH (HeldL.none hs4) ?_
  refine an_run1 6 ?_
  have htb : ∀ z ∈ treeL x.tree (names a), z.length ≤ LB := fun z hz => by
    unfold treeL at hz
    exact hnb z (foundL_mem.1 hz).1
  have htL : (treeL x.tree (names a)).length ≤ LB := Nat.le_trans (foundL_len _ _) (by rw [hnl]; exact Nat.le_trans h8 (by decide))
  refine callV (.bool (decide (x.refs = treeL x.tree (names a)))) (vs := [.slice A3 x.refs.length c3, .slice A9 (treeL x.tree (names a)).length c9]) (fun w g' h1 h2 h3 => equalS h3 ((hr1.mono hs3).mono (hs4.trans h1)) (Sl.ofTexts (h2 _ (.head _)) rfl htb htL)) ?_
  refine a0 ?_
  have hro : refsOk a x = decide (x.refs = treeL x.tree (names a)) := rfl
  rw [← hro]
  cases hb : refsOk a x with
  | false =>
    refine an_takeU [7] ?_
    refine an_done ?_
    refine ewL (L' := []) (fun _ h => h.sublist (List.nil_sublist _)) ?_
    refine cT (sgE ?_)
    refine ew_ret ?_
    exact ret1 (show Value.int .i64 8 = i64 (valE s a) by rw [hE, hno hb]; rfl)
  | true =>
    refine an_takeU [7] ?_
    refine an_done ?_
    refine ewL (L' := []) (fun _ h => h.sublist (List.nil_sublist _)) ?_
    refine cFs ?_
    refine rg ?_
    refine addE ((k + 1 : Nat) : Int) ?_
    exact nxs (k + 1, g4) ⟨h1, hsg.trans hs4, by rw [htk, hi, hb]; rfl⟩ (by show a.length - (k + 1) < a.length - k; omega)
end Go.Hog
