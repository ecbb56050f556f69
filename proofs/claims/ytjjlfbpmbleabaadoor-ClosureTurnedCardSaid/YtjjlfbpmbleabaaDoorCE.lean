/- S27 S28 F57 E33, in one text. -/
import Derived.Test.YtjjlfbpmbleabaaDoorCC
import Derived.Test.YtjjlfbpmbleabaaDoorCD
import Derived.Test.YtjjlfbpmbleabaaDoorMG
import Derived.Test.YtjjlfbpmbleabaaDoorMH
set_option linter.unusedVariables false
set_option linter.unusedSimpArgs false
namespace Go.Hog
open Go.RowKit Rp
theorem val1_vals (a : List Item) : ∀ k, val1 a k = 0 ∨ val1 a k = 6 ∨ val1 a k = 7
  | 0 => .inl rfl
  | k + 1 => by
    show (if val1 a k ≠ 0 then val1 a k else _) = 0 ∨ (if val1 a k ≠ 0 then val1 a k else _) = 6 ∨ (if val1 a k ≠ 0 then val1 a k else _) = 7
    split
    · exact val1_vals a k
    · split
      · exact .inl rfl
      · split
        · exact .inr (.inl rfl)
        · split
          · exact .inr (.inr rfl)
          · exact .inl rfl
theorem valE_eleven {pre : Str} {a : List Item} : valE pre a = 11 ↔ ¬ prefixOk pre := by
  unfold valE
  constructor
  · intro h
    by_cases hp : prefixOk pre
    · exfalso
      rw [if_neg (Classical.not_not.2 hp)] at h
      split at h
      · cases h
      · split at h
        · rcases val1_vals a a.length with e | e | e <;> rw [e] at h <;> cases h
        · split at h <;> cases h
    · exact hp
  · intro h
    rw [if_pos h]
theorem named_last {x l : Item} {t : List Item} (h : namedB x (t ++ [l]) = true) : l.name < x.name := by
  unfold namedB at h
  rw [List.getLast?_append] at h
  simp only [List.getLast?_singleton, Option.some_or, Bool.and_eq_true, decide_eq_true_eq] at h
  exact h.1.2
theorem named_name {x : Item} {t : List Item} (h : namedB x t = true) : nameOk x.name := by
  unfold namedB at h
  simp only [Bool.and_eq_true, decide_eq_true_eq] at h
  exact h.1.1
theorem named_hash {x : Item} {t : List Item} (h : namedB x t = true) : ∀ y ∈ t, hashL y.name ≠ hashL x.name := by
  unfold namedB at h
  simp only [Bool.and_eq_true, Bool.not_eq_true', List.any_eq_false, decide_eq_true_eq] at h
  exact h.2
theorem ValidI.names_ok {pre : Str} {a : List Item} (h : ValidI pre a) : ∀ s ∈ names a, nameOk s := fun s hs => by
  obtain ⟨x, hx, rfl⟩ := List.mem_map.1 hs
  obtain ⟨i, hi, rfl⟩ := List.getElem_of_mem hx
  exact named_name (h.each i hi).1
theorem ValidI.rising {pre : Str} {a : List Item} (h : ValidI pre a) : (names a).Pairwise (· < ·) := by
  have hl : (names a).length = a.length := List.length_map _
  refine adj_pairwise fun i hi h0 => ?_
  have hia : i < a.length := by omega
  have h1 : i - 1 < a.length := by omega
  have hn := (h.each i hia).1
  have et : a.take i = a.take (i - 1) ++ [a[i - 1]] := by
    have := (List.take_append_getElem h1).symm
    rwa [show i - 1 + 1 = i by omega] at this
  rw [et] at hn
  have := named_last hn
  simpa [names] using this
theorem ValidI.hash {pre : Str} {a : List Item} (h : ValidI pre a) {i j : Nat} (hi : i < a.length) (hji : j < i) : hashL (a[j]'(by omega)).name ≠ hashL a[i].name :=
  named_hash (h.each i hi).1 _ (List.mem_iff_getElem.2 ⟨j, by rw [List.length_take]; omega, by rw [List.getElem_take]⟩)
theorem ValidI.refs_in {pre : Str} {a : List Item} (h : ValidI pre a) {x : Item} (hx : x ∈ a) : ∀ r ∈ x.refs, r ∈ names a := fun r hr => by
  rw [h.refs x hx] at hr
  exact (foundL_mem.1 hr).1
theorem ValidI.refs_rise {pre : Str} {a : List Item} (h : ValidI pre a) {x : Item} (hx : x ∈ a) : x.refs.Pairwise (· < ·) := by
  rw [h.refs x hx]
  exact foundL_strict _ _
theorem ValidI.refs_len {pre : Str} {a : List Item} (h : ValidI pre a) {x : Item} (hx : x ∈ a) : x.refs.length ≤ 8 := by
  rw [h.refs x hx]
  have h1 := foundL_len (names a) (treeHas x.tree)
  have hl : (names a).length = a.length := List.length_map _
  have := h.len
  show (foundL (names a) (treeHas x.tree)).length ≤ 8
  omega
end Go.Hog

set_option linter.unusedVariables false
set_option linter.unusedSimpArgs false
namespace Go.Hog
open Go.RowKit Rp
theorem names_take (a : List Item) (i : Nat) : names (a.take i) = (names a).take i := List.map_take
theorem val1_of {a : List Item} (h1 : ∀ s ∈ names a, nameOk s) (h2 : (names a).Pairwise (· < ·)) (h3 : (names a).Pairwise fun s u => hashL s ≠ hashL u) (h4 : ∀ x ∈ a, treeOk x.tree = true) : val1 a a.length = 0 := by
  refine (val1_zero (Nat.le_refl _)).2 fun i hi _ => ⟨?_, h4 _ (List.getElem_mem hi)⟩
  have hl : (names a).length = a.length := List.length_map _
  have hn : ∀ j (hj : j < a.length), (names a)[j]'(by omega) = a[j].name := fun j hj => by simp [names]
  have hin : ∀ y ∈ a.take i, ∃ j, ∃ hj : j < a.length, j < i ∧ y = a[j] := fun y hy => by
    obtain ⟨j, hj, rfl⟩ := List.getElem_of_mem hy
    rw [List.length_take] at hj
    exact ⟨j, by omega, by omega, by rw [List.getElem_take]⟩
  unfold namedB
  rw [Bool.and_eq_true, Bool.and_eq_true]
  refine ⟨⟨decide_eq_true (h1 _ (List.mem_map.2 ⟨_, List.getElem_mem hi, rfl⟩)), ?_⟩, ?_⟩
  · split
    · rfl
    · rename_i l hl2
      obtain ⟨j, hj, hji, rfl⟩ := hin l (List.mem_of_getLast? hl2)
      have := List.pairwise_iff_getElem.1 h2 j i (by omega) (by omega) hji
      rw [hn j hj, hn i hi] at this
      exact decide_eq_true this
  · rw [Bool.not_eq_true', List.any_eq_false]
    intro y hy
    obtain ⟨j, hj, hji, rfl⟩ := hin y hy
    have := List.pairwise_iff_getElem.1 h3 j i (by omega) (by omega) hji
    rw [hn j hj, hn i hi] at this
    simpa using this
theorem ValidI.hashes {pre : Str} {a : List Item} (h : ValidI pre a) : (names a).Pairwise fun s u => hashL s ≠ hashL u := by
  have hl : (names a).length = a.length := List.length_map _
  refine List.pairwise_iff_getElem.2 fun i j hi hj hij => ?_
  have := h.hash (i := j) (j := i) (by omega) hij
  simpa [names] using this
theorem valE_eight {pre : Str} {a : List Item} (hp : prefixOk pre) (h8 : a.length ≤ 8) (hv : val1 a a.length = 0) {x : Item} (hx : x ∈ a) (hr : x.refs ≠ treeL x.tree (names a)) : valE pre a = 8 := by
  unfold valE
  rw [if_neg (Classical.not_not.2 hp), if_neg (by omega), if_neg (by rw [hv]; simp), if_neg]
  intro h
  have := List.all_eq_true.1 h x hx
  exact hr (of_decide_eq_true this)
theorem valE_zero_of {pre : Str} {a : List Item} (hp : prefixOk pre) (h8 : a.length ≤ 8) (hv : val1 a a.length = 0) (hr : ∀ x ∈ a, x.refs = treeL x.tree (names a)) : valE pre a = 0 := by
  unfold valE
  rw [if_neg (Classical.not_not.2 hp), if_neg (by omega), if_neg (by rw [hv]; simp), if_pos]
  exact List.all_eq_true.2 fun x hx => decide_eq_true (hr x hx)
theorem names_sub {a b : List Item} (hs : b.Sublist a) : (names b).Sublist (names a) := hs.map _
theorem ValidI.val1_sub {pre : Str} {a b : List Item} (h : ValidI pre a) (hs : b.Sublist a) : val1 b b.length = 0 :=
  val1_of (fun s hs2 => h.names_ok s ((names_sub hs).subset hs2)) (h.rising.sublist (names_sub hs)) (h.hashes.sublist (names_sub hs)) fun x hx => by
    obtain ⟨i, hi, rfl⟩ := List.getElem_of_mem (hs.subset hx)
    exact (h.each i hi).2
theorem treeL_sub {t : List Node} {l m : List Str} (hs : ∀ s ∈ m, s ∈ l) (hin : ∀ s ∈ treeL t l, s ∈ m) : treeL t l = treeL t m :=
  foundL_eq (foundL_strict _ _) fun s => by
    refine ⟨fun h => ⟨hin s h, (foundL_mem.1 h).2⟩, fun h => foundL_mem.2 ⟨hs s h.1, h.2⟩⟩
theorem ValidI.sub_zero {pre pre2 : Str} {a b : List Item} (h : ValidI pre a) (hp : prefixOk pre2) (hs : b.Sublist a) (hr : ∀ x ∈ b, ∀ r ∈ x.refs, r ∈ names b) : valE pre2 b = 0 := by
  refine valE_zero_of hp (Nat.le_trans hs.length_le h.len) (h.val1_sub hs) fun x hx => ?_
  have e := h.refs x (hs.subset hx)
  have := hr x hx
  rw [e] at this
  rw [e]
  exact treeL_sub (fun s hs2 => (names_sub hs).subset hs2) this
theorem ValidI.sub_eight {pre pre2 : Str} {a b : List Item} (h : ValidI pre a) (hp : prefixOk pre2) (hs : b.Sublist a) {x : Item} (hx : x ∈ b) {r : Str} (hr : r ∈ x.refs) (hn : r ∉ names b) : valE pre2 b = 8 :=
  valE_eight hp (Nat.le_trans hs.length_le h.len) (h.val1_sub hs) hx fun e => by
    rw [e] at hr
    exact hn (foundL_mem.1 hr).1
theorem ValidI.name_uniq {pre : Str} {a : List Item} (h : ValidI pre a) {x y : Item} (hx : x ∈ a) (hy : y ∈ a) (e : x.name = y.name) : x = y := by
  obtain ⟨i, hi, rfl⟩ := List.getElem_of_mem hx
  obtain ⟨j, hj, rfl⟩ := List.getElem_of_mem hy
  have hl : (names a).length = a.length := List.length_map _
  have hlt : ∀ i j (hi : i < a.length) (hj : j < a.length), i < j → a[i].name < a[j].name := fun i j hi hj hij => by
    have := List.pairwise_iff_getElem.1 h.rising i j (by omega) (by omega) hij
    simpa [names] using this
  rcases Nat.lt_trichotomy i j with h1 | h1 | h1
  · have := hlt i j hi hj h1
    rw [e] at this
    exact absurd this (List.lt_irrefl _)
  · subst h1; rfl
  · have := hlt j i hj hi h1
    rw [e] at this
    exact absurd this (List.lt_irrefl _)
theorem ValidI.get_of {pre : Str} {a : List Item} (h : ValidI pre a) {x : Item} (hx : x ∈ a) : getI a x.name = some x := by
  obtain ⟨y, hy⟩ := Option.isSome_iff_exists.1 (getI_some.2 (List.mem_map.2 ⟨x, hx, rfl⟩) : (getI a x.name).isSome = true)
  rw [hy, h.name_uniq (getI_mem hy) hx (getI_name hy)]
/-- An item with other references. -/
theorem names_set {a : List Item} {k : Nat} (hk : k < a.length) (rs : List Str) : names (a.set k { a[k] with refs := rs }) = names a := by
  unfold names
  rw [List.map_set]
  refine List.ext_getElem (by simp) fun i h1 h2 => ?_
  rw [List.getElem_set]
  split
  · rename_i e; subst e; simp
  · rfl
theorem ValidI.set_eight {pre : Str} {a : List Item} (h : ValidI pre a) {k : Nat} (hk : k < a.length) {rs : List Str} (hne : rs ≠ a[k].refs) : valE pre (a.set k { a[k] with refs := rs }) = 8 := by
  have hn := names_set hk rs
  refine valE_eight (x := { a[k] with refs := rs }) h.pre (by rw [List.length_set]; exact h.len) (val1_of ?_ ?_ ?_ ?_) ?_ ?_
  · rw [hn]; exact h.names_ok
  · rw [hn]; exact h.rising
  · rw [hn]; exact h.hashes
  · intro x hx
    rcases List.mem_or_eq_of_mem_set hx with h1 | rfl
    · obtain ⟨i, hi, rfl⟩ := List.getElem_of_mem h1
      exact (h.each i hi).2
    · exact (h.each k hk).2
  · exact List.mem_iff_getElem.2 ⟨k, by simpa using hk, by simp⟩
  · rw [hn]
    show rs ≠ treeL a[k].tree (names a)
    rw [← h.refs _ (List.getElem_mem hk)]
    exact hne
/-- One item less. -/
theorem ValidI.less {pre : Str} {a : List Item} (h : ValidI pre a) {k : Nat} (hk : k < a.length) :
    valE pre (a.take k ++ a.drop (k + 1)) = if ∃ x ∈ a.take k ++ a.drop (k + 1), a[k].name ∈ x.refs then 8 else 0 := by
  have hsub : (a.take k ++ a.drop (k + 1)).Sublist a := by
    conv => rhs; rw [← List.take_append_drop k a]
    exact (List.Sublist.refl _).append (List.drop_sublist_drop_left a (Nat.le_succ k))
  have hsplit : a = a.take k ++ a[k] :: a.drop (k + 1) := by
    conv => lhs; rw [← List.take_append_drop k a, List.drop_eq_getElem_cons hk]
  have hni : a[k].name ∉ names (a.take k ++ a.drop (k + 1)) := fun hin => by
    have hnd := h.rising
    rw [hsplit] at hnd
    have h2 : (names (a.take k ++ a[k] :: a.drop (k + 1))) = names (a.take k) ++ a[k].name :: names (a.drop (k + 1)) := by unfold names; rw [List.map_append, List.map_cons]
    rw [h2] at hnd
    have h3 : names (a.take k ++ a.drop (k + 1)) = names (a.take k) ++ names (a.drop (k + 1)) := by unfold names; rw [List.map_append]
    rw [h3] at hin
    rw [List.pairwise_append] at hnd
    obtain ⟨_, h5, h6⟩ := hnd
    rcases List.mem_append.1 hin with h7 | h7
    · exact List.lt_irrefl _ (h6 _ h7 _ (.head _))
    · exact List.lt_irrefl _ ((List.pairwise_cons.1 h5).1 _ h7)
  split
  · rename_i hx
    obtain ⟨x, hx, hr⟩ := hx
    exact h.sub_eight h.pre hsub hx hr hni
  · rename_i hx
    refine h.sub_zero h.pre hsub fun x hx2 r hr => ?_
    have h1 := h.refs_in (hsub.subset hx2) r hr
    have hne : r ≠ a[k].name := fun e => hx ⟨x, hx2, e ▸ hr⟩
    obtain ⟨y, hy, rfl⟩ := List.mem_map.1 h1
    refine List.mem_map.2 ⟨y, ?_, rfl⟩
    rw [hsplit] at hy
    rcases List.mem_append.1 hy with h2 | h2
    · exact List.mem_append_left _ h2
    · rcases List.mem_cons.1 h2 with rfl | h2
      · exact absurd rfl hne
      · exact List.mem_append_right _ h2
/-- What is reached, of a closure. -/
def someOf (a : List Item) (r : List Str) : List Item := a.filter fun x => decide (x.name ∈ r)
theorem someOf_sub (a : List Item) (r : List Str) : (someOf a r).Sublist a := List.filter_sublist
theorem ValidI.some_names {pre : Str} {a : List Item} (h : ValidI pre a) (S : List Str) : names (someOf a (reachL a S)) = reachL a S :=
  strict_uniq (h.rising.sublist (names_sub (someOf_sub _ _))) (reachL_sorted a S) fun s => by
    constructor
    · intro hs
      obtain ⟨x, hx, rfl⟩ := List.mem_map.1 hs
      exact of_decide_eq_true (List.mem_filter.1 hx).2
    · intro hs
      obtain ⟨x, hx, rfl⟩ := List.mem_map.1 (reachL_mem.1 hs).names
      exact List.mem_map.2 ⟨x, List.mem_filter.2 ⟨hx, decide_eq_true hs⟩, rfl⟩
theorem ValidI.some_closed {pre : Str} {a : List Item} (h : ValidI pre a) (S : List Str) : ∀ x ∈ someOf a (reachL a S), ∀ r ∈ x.refs, r ∈ names (someOf a (reachL a S)) := fun x hx r hr => by
  rw [h.some_names, reachL_mem]
  obtain ⟨h1, h2⟩ := List.mem_filter.1 hx
  exact .step (reachL_mem.1 (of_decide_eq_true h2)) (h.get_of h1) hr (getI_some.2 (h.refs_in h1 r hr))
theorem ValidI.some_val {pre other : Str} {a : List Item} (h : ValidI pre a) (S : List Str) : valE other (someOf a (reachL a S)) = if prefixOk other then 0 else 11 := by
  split
  · rename_i hp
    exact h.sub_zero hp (someOf_sub _ _) (h.some_closed S)
  · rename_i hp
    exact valE_eleven.2 hp
theorem reach_all {a : List Item} (h : (names a).Pairwise (· < ·)) : reachL a (names a) = names a :=
  strict_uniq (reachL_sorted _ _) h fun s => by
    rw [reachL_mem]
    exact ⟨fun h => h.names, fun h => .base h (getI_some.2 h)⟩
theorem ValidI.some_reach {pre : Str} {a : List Item} (h : ValidI pre a) (S : List Str) : reachL (someOf a (reachL a S)) (reachL a S) = reachL a S := by
  have e := h.some_names S
  have := reach_all (a := someOf a (reachL a S)) (h.rising.sublist (names_sub (someOf_sub _ _)))
  rwa [e] at this
end Go.Hog

set_option linter.unusedVariables false
set_option linter.unusedSimpArgs false
set_option maxRecDepth 100000
set_option maxHeartbeats 1000000
namespace Go.Hog
open Go.RowKit Rp Go.Proofs
theorem itemRisingT {w : World} {f : View} (hv : On f w) {A : Option Addr} {c : Nat} {a : List Str} (ha : Sl f A c a) (h1 : ∀ s ∈ a, nameOk s) (h2 : a.Pairwise (· < ·)) : Con Tryd.prog 35 [.slice A a.length c] w (Ret w f fun _ v => v = .bool true) := by
  refine enterC hv Tryd.call35 Tryd.func35 ?_
  have hlim := ha.len_lt
  refine sgE ?_
  refine sqJ (σ := Unit) (fun _ => []) (fun _ => f) (fun _ => []) (fun _ => True) ?_ ?_
  case refine_2 =>
    rintro ⟨⟩ ρ _
    refine sgE ?_
    refine ew_ret ?_
    exact ret1 rfl
  refine sgE (bk ?_)
  refine lpn a.length (fun k => [(7, i64 k), (6, i64 (a.length : Nat)), (5, .slice A a.length c), (0, .slice A a.length c)]) (fun k => True) trivial ?_
  intro k ρ hk _
  refine sg ?_
  refine ltE (fun h => ?_) (fun h => ?_)
  case refine_2 =>
    refine sq (cFx ?_)
    exact jn () trivial
  have hk1 : k < a.length := by omega
  obtain ⟨b1, o1, rfl, hc, hl⟩ := ha.text hk1
  refine sq (cTs (sq (bk (sg ?_))))
  refine ix k hk1 ?_
  refine ldv hc ?_
  refine runE ?_
  have hno := h1 _ (List.getElem_mem hk1)
  refine efg [(3, i64 k), (4, str a[k]), (7, i64 k), (6, i64 (a.length : Nat)), (5, .slice (some ⟨b1, o1, none⟩) a.length c), (0, .slice (some ⟨b1, o1, none⟩) a.length c)] [] fun ρ => ?_
  refine sg ?_
  refine callB (p := nameOk a[k]) (vs := [str a[k]]) (fun w g hs _ hon => itemName hon hl) (fun hn => ?_) (fun hn => absurd hno hn)
  refine Go.Hog.gt (fun h0 => ?_) (fun h0 => ?_)
  · have hk2 : k - 1 < a.length := by omega
    obtain ⟨b2, o2, e2, hc2, _⟩ := ha.text hk2
    injection e2 with e2
    injection e2 with e2 e3
    subst e2 e3
    refine sub ((k - 1 : Nat) : Int) ?_
    refine ix (k - 1) hk2 ?_
    refine ldv hc2 ?_
    refine geS (fun h3 => absurd (List.pairwise_iff_getElem.1 h2 (k - 1) k hk2 hk1 (by omega)) h3) (fun h3 => ?_)
    refine runE ?_
    refine cFs (rg ?_)
    refine addE ((k + 1 : Nat) : Int) ?_
    exact nx trivial
  · refine runE ?_
    refine cFs (rg ?_)
    refine addE ((k + 1 : Nat) : Int) ?_
    exact nx trivial
theorem itemMayT {w : World} {f : View} (hv : On f w) (hm : ML f) {x : Item} {cs : List Value} (hx : rp f x cs) (h1 : nameOk x.name) (h2 : x.refs.length ≤ 8) (h3 : ∀ s ∈ x.refs, nameOk s) (h4 : x.refs.Pairwise (· < ·)) (h5 : treeOk x.tree = true) :
    Con Tryd.prog 18 [.agg ⟨cs⟩] w (Ret w f fun _ v => v = .bool true) := by
  obtain ⟨A1, c1, A2, c2, rfl, hn, hr, ht⟩ := hx
  refine enterC hv Tryd.call18 Tryd.func18 ?_
  refine sg ?_
  refine box (vs := [str x.name, .slice A1 x.refs.length c1, .slice A2 x.tree.length c2]) fun b1 => ?_
  refine runE ?_
  refine sg ?_
  refine ldo 0 ?_
  refine callB (p := nameOk x.name) (vs := [str x.name]) (fun w g hs _ hon => itemName hon hn) (fun _ => ?_) (fun h => absurd h1 h)
  refine ldo 0 ?_
  refine le (fun _ => ?_) (fun h => absurd (show (x.refs.length : Int) ≤ 8 by omega) h)
  refine ldo 0 ?_
  refine callV (.bool true) (vs := [.slice A1 x.refs.length c1]) (fun w g k1 k2 k3 => itemRisingT k3 (hr.mono k1) h3 h4) ?_
  refine ldo 0 ?_
  refine callV (.bool (treeOk x.tree)) (vs := [.slice A2 x.tree.length c2]) (fun w g k1 k2 k3 => itemTree k3 (hm.mono k1) (ht.mono k1)) ?_
  rw [h5]
  refine runE ?_
  refine edropH ?_
  refine ew_ret ?_
  exact ret1 rfl
end Go.Hog

set_option linter.unusedVariables false
set_option linter.unusedSimpArgs false
namespace Go.Hog
open Go.RowKit Rp
theorem putL_one {xs : List Value} {o : Nat} {v : Value} (h : o < xs.length) : putL xs o [v] = xs.set o v := by
  rw [← putL_eq _ _ _ (show o + 1 ≤ xs.length from h), List.set_eq_take_append_cons_drop, if_pos h]
  simp
theorem Rw.set1 {α : Type} [Rp α] {g : View} {l : List α} {xs : List Value} (h : Rw g l xs) {k i : Nat} (hk : k < l.length) (hi : i < sz α) {v : Value} {x : α} (hx : ∀ cs, rp g l[k] cs → rp g x (cs.set i v)) : Rw g (l.set k x) (putL xs (k * sz α + i) [v]) := by
  have hl := h.len
  have hk1 : k * sz α + sz α ≤ l.length * sz α := by rw [← Nat.succ_mul]; exact Nat.mul_le_mul_right _ hk
  have ho : k * sz α + i < xs.length := by omega
  rw [putL_one ho]
  refine ⟨by rw [List.length_set, List.length_set, hl], fun j hj => ?_⟩
  rw [List.length_set] at hj
  have h0 := h.at_ j hj
  by_cases e : j = k
  · subst e
    rw [List.getElem_set_self]
    have e2 : ((xs.set (j * sz α + i) v).drop (j * sz α)).take (sz α) = ((xs.drop (j * sz α)).take (sz α)).set i v := by
      refine List.ext_getElem? fun q => ?_
      simp only [List.getElem?_take, List.getElem?_drop, List.getElem?_set, List.length_take, List.length_drop]
      by_cases hq : q < sz α
      · by_cases e3 : i = q
        · subst e3
          rw [if_pos hq, if_pos rfl, if_pos rfl, if_pos (by omega), if_pos (by omega)]
        · rw [if_pos hq, if_neg (by omega), if_neg e3, if_pos hq]
      · rw [if_neg hq, if_neg (by omega), if_neg hq]
    rw [e2]
    exact hx _ h0
  · rw [List.getElem_set_ne (by omega)]
    have e2 : ((xs.set (k * sz α + i) v).drop (j * sz α)).take (sz α) = (xs.drop (j * sz α)).take (sz α) := by
      refine List.ext_getElem? fun q => ?_
      simp only [List.getElem?_take, List.getElem?_drop, List.getElem?_set]
      by_cases hq : q < sz α
      · have hne : ¬ k * sz α + i = j * sz α + q := by
          rcases Nat.lt_or_gt_of_ne e with h1 | h1
          · have : j * sz α + sz α ≤ k * sz α := by rw [← Nat.succ_mul]; exact Nat.mul_le_mul_right _ h1
            omega
          · have : k * sz α + sz α ≤ j * sz α := by rw [← Nat.succ_mul]; exact Nat.mul_le_mul_right _ h1
            omega
        rw [if_pos hq, if_pos hq, if_neg hne]
      · rw [if_neg hq, if_neg hq]
    rw [e2]
    exact h0
theorem Rw.refs {g : View} {a : List Item} {xs : List Value} (h : Rw g a xs) {k : Nat} (hk : k < a.length) {rs : List Str} {A' : Option Addr} {c' : Nat} (hs : Sl g A' c' rs) :
    Rw g (a.set k { a[k] with refs := rs }) (putL xs (k * 3 + 1) [.slice A' rs.length c']) := by
  refine Rw.set1 (i := 1) h hk (show 1 < 3 by decide) fun cs hcs => ?_
  obtain ⟨A1, c1, A2, c2, rfl, h1, h2, h3⟩ := hcs
  exact ⟨A', c', A2, c2, rfl, h1, hs, h3⟩
theorem Rw.tree {g : View} {a : List Item} {xs : List Value} (h : Rw g a xs) {k : Nat} (hk : k < a.length) {t : List Node} {A' : Option Addr} {c' : Nat} (hs : Sl g A' c' t) :
    Rw g (a.set k { a[k] with tree := t }) (putL xs (k * 3 + 2) [.slice A' t.length c']) := by
  refine Rw.set1 (i := 2) h hk (show 2 < 3 by decide) fun cs hcs => ?_
  obtain ⟨A1, c1, A2, c2, rfl, h1, h2, h3⟩ := hcs
  exact ⟨A1, c1, A', c', rfl, h1, h2, hs⟩
theorem Rw.data {g : View} {t : List Node} {xs : List Value} (h : Rw g t xs) {k : Nat} (hk : k < t.length) {s : Str} (hs : s.length ≤ LB) :
    Rw g (t.set k { t[k] with data := s }) (putL xs (k * 3 + 2) [str s]) := by
  refine Rw.set1 (i := 2) h hk (show 2 < 3 by decide) fun cs hcs => ?_
  obtain ⟨rfl, h1, h2, h3⟩ := hcs
  exact ⟨rfl, h1, hs, h3⟩
end Go.Hog
