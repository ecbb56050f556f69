/- Plain: a text swapped for another one of its length. -/
import Derived.Test.YtdidefhdcinecaaGreatDoorS18
import Derived.Test.YtdidefhdcinecaaGreatDoorF36
import Derived.Lib.Replace
set_option linter.unusedVariables false
set_option linter.unusedSimpArgs false
namespace Go.Hog
open Go.RowKit Rp
/-- Swapped from the left; so many bytes ahead are passed over. -/
def swG (o n : Str) : Nat → Str → Str
  | _, [] => []
  | k + 1, _ :: t => swG o n k t
  | 0, c :: t => if o.isPrefixOf (c :: t) then n ++ swG o n (o.length - 1) t else c :: swG o n 0 t
def cnG (o : Str) : Nat → Str → Nat
  | _, [] => 0
  | k + 1, _ :: t => cnG o k t
  | 0, c :: t => if o.isPrefixOf (c :: t) then 1 + cnG o (o.length - 1) t else cnG o 0 t
theorem swG_drop (o n : Str) : ∀ (s : Str) (k : Nat), swG o n k s = swG o n 0 (s.drop k)
  | [], k => by cases k <;> rfl
  | c :: t, 0 => rfl
  | c :: t, k + 1 => by
    show swG o n k t = _
    rw [swG_drop o n t k]
    rfl
theorem cnG_drop (o : Str) : ∀ (s : Str) (k : Nat), cnG o k s = cnG o 0 (s.drop k)
  | [], k => by cases k <;> rfl
  | c :: t, 0 => rfl
  | c :: t, k + 1 => by
    show cnG o k t = _
    rw [cnG_drop o t k]
    rfl
theorem swG_hit {o n s : Str} (ho : o ≠ []) (h : o.isPrefixOf s = true) : swG o n 0 s = n ++ swG o n 0 (s.drop o.length) := by
  cases s with
  | nil =>
    cases o with
    | nil => exact absurd rfl ho
    | cons => cases h
  | cons c t =>
    show (if o.isPrefixOf (c :: t) then _ else _) = _
    rw [if_pos h, swG_drop]
    have : 0 < o.length := List.length_pos_iff.2 ho
    obtain ⟨m, hm⟩ : ∃ m, o.length = m + 1 := ⟨o.length - 1, by omega⟩
    rw [hm]
    rfl
theorem cnG_hit {o s : Str} (ho : o ≠ []) (h : o.isPrefixOf s = true) : cnG o 0 s = 1 + cnG o 0 (s.drop o.length) := by
  cases s with
  | nil =>
    cases o with
    | nil => exact absurd rfl ho
    | cons => cases h
  | cons c t =>
    show (if o.isPrefixOf (c :: t) then _ else _) = _
    rw [if_pos h, cnG_drop]
    have : 0 < o.length := List.length_pos_iff.2 ho
    obtain ⟨m, hm⟩ : ∃ m, o.length = m + 1 := ⟨o.length - 1, by omega⟩
    rw [hm]
    rfl
theorem swG_miss {o n : Str} {c : UInt8} {t : Str} (h : o.isPrefixOf (c :: t) = false) : swG o n 0 (c :: t) = c :: swG o n 0 t := by
  show (if o.isPrefixOf (c :: t) then _ else _) = _
  rw [if_neg (by rw [h]; decide)]
theorem cnG_miss {o : Str} {c : UInt8} {t : Str} (h : o.isPrefixOf (c :: t) = false) : cnG o 0 (c :: t) = cnG o 0 t := by
  show (if o.isPrefixOf (c :: t) then _ else _) = _
  rw [if_neg (by rw [h]; decide)]
theorem swG_skip {o n : Str} : ∀ (i : Nat) {s : Str}, i ≤ s.length → (∀ j, j < i → Lib.occAt s o j = false) → swG o n 0 s = s.take i ++ swG o n 0 (s.drop i)
  | 0, s, _, _ => rfl
  | i + 1, [], h, _ => by simp at h
  | i + 1, c :: t, h, hn => by
    have h0 : o.isPrefixOf (c :: t) = false := hn 0 (by omega)
    rw [swG_miss h0, swG_skip i (by simpa using h) (fun j hj => by
      have := hn (j + 1) (by omega)
      exact this)]
    rfl
theorem cnG_skip {o : Str} : ∀ (i : Nat) {s : Str}, i ≤ s.length → (∀ j, j < i → Lib.occAt s o j = false) → cnG o 0 s = cnG o 0 (s.drop i)
  | 0, s, _, _ => rfl
  | i + 1, [], h, _ => by simp at h
  | i + 1, c :: t, h, hn => by
    have h0 : o.isPrefixOf (c :: t) = false := hn 0 (by omega)
    rw [cnG_miss h0, cnG_skip i (by simpa using h) (fun j hj => by
      have := hn (j + 1) (by omega)
      exact this)]
    rfl
theorem index_m1 {s u : Str} (h : Lib.index s u < 0) : Lib.index s u = -1 := by
  have := Lib.index_ge s u
  omega
theorem count_sw {o : Str} (ho : o ≠ []) : ∀ (k : Nat) (s : Str), s.length ≤ k → Lib.count s o = cnG o 0 s ∧ ∀ n, Lib.replaceK o n (Lib.count s o) s = swG o n 0 s
  | k, s, hk => by
    by_cases hi : Lib.index s o < 0
    · have hno := index_neg hi
      have hm := index_m1 hi
      rw [Lib.count_miss hm]
      have e1 := cnG_skip (o := o) s.length (Nat.le_refl _) (fun j hj => hno j (by omega))
      have e2 := fun n => swG_skip (o := o) (n := n) s.length (Nat.le_refl _) (fun j hj => hno j (by omega))
      rw [List.drop_length] at e1
      refine ⟨by rw [e1]; rfl, fun n => ?_⟩
      have := e2 n
      rw [List.drop_length, List.take_length] at this
      rw [this]
      show s = s ++ []
      simp
    · obtain ⟨i, hi⟩ : ∃ i : Nat, Lib.index s o = i := ⟨(Lib.index s o).toNat, by omega⟩
      obtain ⟨h1, h2, h3⟩ := index_pos hi
      have hol : 0 < o.length := List.length_pos_iff.2 ho
      have hroom := (occ_iff ho).1 h2
      have hpre : o.isPrefixOf (s.drop i) = true := h2
      have e1 := cnG_skip (o := o) i h1 h3
      rw [cnG_hit ho hpre, List.drop_drop] at e1
      have hlen : (s.drop (i + o.length)).length < s.length := by rw [List.length_drop]; omega
      cases k with
      | zero => omega
      | succ k =>
        obtain ⟨ih1, ih2⟩ := count_sw ho k (s.drop (i + o.length)) (by omega)
        rw [Lib.count_hit ho hi]
        refine ⟨by rw [e1, ih1], fun n => ?_⟩
        have e2 := swG_skip (o := o) (n := n) i h1 h3
        rw [swG_hit ho hpre, List.drop_drop] at e2
        rw [e2, Nat.add_comm, Lib.replaceK_hit o n _ s i hi, ih2]
        simp
theorem swG_self {o : Str} (ho : o ≠ []) : ∀ (s : Str) (k : Nat), swG o o k s = s.drop k
  | [], k => by cases k <;> rfl
  | c :: t, k + 1 => swG_self ho t k
  | c :: t, 0 => by
    by_cases h : o.isPrefixOf (c :: t) = true
    · rw [swG_hit ho h]
      have h2 := List.prefix_iff_eq_take.1 (List.isPrefixOf_iff_prefix.1 h)
      have hol : 0 < o.length := List.length_pos_iff.2 ho
      obtain ⟨m, hm⟩ : ∃ m, o.length = m + 1 := ⟨o.length - 1, by omega⟩
      rw [← swG_drop]
      have e : swG o o o.length (c :: t) = swG o o m t := by rw [hm]; rfl
      rw [e, swG_self ho t m]
      show o ++ t.drop m = c :: t
      conv => lhs; lhs; rw [h2]
      rw [hm]
      simp
    · rw [swG_miss (eq_false_of_ne_true h), swG_self ho t 0]
      rfl
theorem replaceAll_sw {s o n : Str} (ho : o ≠ []) : Lib.replaceAll s o n = swG o n 0 s := by
  unfold Lib.replaceAll Lib.replace
  by_cases e : o = n
  · subst e
    rw [if_pos (by simp), swG_self ho]
    rfl
  · rw [if_neg (by simpa using e)]
    have : Lib.replaceNum s o (-1) = Lib.count s o := by unfold Lib.replaceNum; rw [if_pos (.inl (by decide))]
    rw [this]
    exact (count_sw ho s.length s (Nat.le_refl _)).2 n
theorem count_cnG {s o : Str} (ho : o ≠ []) : Lib.count s o = cnG o 0 s := (count_sw ho s.length s (Nat.le_refl _)).1
theorem pre_len {o s : Str} (h : o.isPrefixOf s = true) : o.length ≤ s.length := (List.isPrefixOf_iff_prefix.1 h).length_le
theorem swG_len {o n : Str} (ho : o ≠ []) (hl : n.length = o.length) : ∀ (s : Str) (k : Nat), (swG o n k s).length = s.length - k
  | [], k => by cases k <;> simp [swG]
  | c :: t, k + 1 => by
    show (swG o n k t).length = _
    rw [swG_len ho hl t k]
    simp
  | c :: t, 0 => by
    by_cases h : o.isPrefixOf (c :: t) = true
    · have h2 := pre_len h
      have hol : 0 < o.length := List.length_pos_iff.2 ho
      show (if o.isPrefixOf (c :: t) then _ else _ : Str).length = _
      rw [if_pos h, List.length_append, swG_len ho hl t (o.length - 1)]
      simp at h2 ⊢
      omega
    · rw [swG_miss (eq_false_of_ne_true h), List.length_cons, swG_len ho hl t 0]
      simp
/-- How often a text stands in another one. -/
def ocN (u : Str) : Str → Nat
  | [] => 0
  | c :: t => (if u.isPrefixOf (c :: t) then 1 else 0) + ocN u t
theorem ocN_filter {u : Str} (hu : u ≠ []) : ∀ (s : Str) (d : Nat), d = s.length + 1 → ((List.range d).filter (Lib.occAt s u)).length = ocN u s
  | [], d, hd => by
    subst hd
    show ((List.range 1).filter (Lib.occAt [] u)).length = 0
    have : Lib.occAt [] u 0 = false := by
      cases u with
      | nil => exact absurd rfl hu
      | cons => rfl
    simp [List.range_succ, this]
  | c :: t, d, hd => by
    have hd : d = t.length + 1 + 1 := hd
    subst hd
    rw [List.range_succ_eq_map, List.filter_cons, List.filter_map, ]
    have ih := ocN_filter hu t (t.length + 1) rfl
    have e : (Lib.occAt (c :: t) u ∘ Nat.succ) = Lib.occAt t u := by
      funext j
      rfl
    rw [e]
    show (if Lib.occAt (c :: t) u 0 = true then _ else _ : List Nat).length = (if u.isPrefixOf (c :: t) then 1 else 0) + ocN u t
    have e0 : Lib.occAt (c :: t) u 0 = u.isPrefixOf (c :: t) := rfl
    rw [e0]
    split
    · rw [List.length_cons, List.length_map, ih]; omega
    · rw [List.length_map, ih]; omega
theorem places_ocN {s u : Str} (hu : u ≠ []) : (placesI s u).length = ocN u s := by
  unfold placesI
  rw [if_neg hu]
  unfold occs
  rw [List.length_map]
  exact ocN_filter hu s _ rfl
theorem ocN_le (u : Str) : ∀ s : Str, ocN u s ≤ s.length
  | [] => Nat.le_refl _
  | c :: t => by
    show (if u.isPrefixOf (c :: t) then 1 else 0) + ocN u t ≤ t.length + 1
    have := ocN_le u t
    split <;> omega
theorem cnG_le {o : Str} : ∀ (s : Str) (k : Nat), cnG o k s ≤ s.length
  | [], k => by cases k <;> simp [cnG]
  | c :: t, k + 1 => by
    have := cnG_le (o := o) t k
    show cnG o k t ≤ t.length + 1
    omega
  | c :: t, 0 => by
    show (if o.isPrefixOf (c :: t) then _ else _) ≤ t.length + 1
    have h1 := cnG_le (o := o) t (o.length - 1)
    have h2 := cnG_le (o := o) t 0
    split <;> omega
/-- Texts that begin with '/' and have no other. -/
structure Pf (u : Str) : Prop where
  ex : ∃ p, u = 47 :: p ∧ (47 : UInt8) ∉ p
theorem Pf.ne {u : Str} (h : Pf u) : u ≠ [] := by
  obtain ⟨p, rfl, _⟩ := h.ex
  simp
theorem prefix_pf {u : Str} (h : prefixOk u) : Pf u := by
  obtain ⟨h1, h2, h3, h4⟩ := h
  cases u with
  | nil => cases h3
  | cons c p =>
    have hc : c = 47 := by simpa using h3
    subst hc
    exact ⟨p, rfl, fun h => absurd (h4 47 h) (by decide)⟩
theorem noslash_pre {o n : Str} (ho : Pf o) (hn : Pf n) : ∀ (t r : Str), (47 : UInt8) ∉ r → r.isPrefixOf (swG o n 0 t) = r.isPrefixOf t
  | t, [], _ => by cases t <;> simp
  | [], x :: r, _ => rfl
  | d :: u, x :: r, hr => by
    have hx : x ≠ 47 := fun e => hr (by rw [e]; exact .head _)
    by_cases h : o.isPrefixOf (d :: u) = true
    · obtain ⟨p, rfl, hp⟩ := ho.ex
      obtain ⟨q, rfl, hq⟩ := hn.ex
      rw [swG_hit (by simp) h]
      have hd : (47 : UInt8) = d := by
        have h2 : ((47 : UInt8) == d && p.isPrefixOf u) = true := h
        simp only [Bool.and_eq_true, beq_iff_eq] at h2
        exact h2.1
      subst hd
      show (x == 47 && _) = (x == 47 && _)
      rw [beq_false_of_ne hx]
      rfl
    · rw [swG_miss (eq_false_of_ne_true h)]
      show (x == d && r.isPrefixOf (swG o n 0 u)) = (x == d && r.isPrefixOf u)
      rw [noslash_pre ho hn u r fun h2 => hr (.tail _ h2)]
theorem miss_pre {o n r : Str} (ho : Pf o) (hn : Pf n) (hr : Pf r) (c : UInt8) (t : Str) : r.isPrefixOf (c :: swG o n 0 t) = r.isPrefixOf (c :: t) := by
  obtain ⟨p, rfl, hp⟩ := hr.ex
  show ((47 : UInt8) == c && p.isPrefixOf (swG o n 0 t)) = ((47 : UInt8) == c && p.isPrefixOf t)
  rw [noslash_pre ho hn t p hp]
theorem ocN_skip {u : Str} (hu : Pf u) : ∀ (y X : Str), (47 : UInt8) ∉ y → ocN u (y ++ X) = ocN u X
  | [], X, _ => rfl
  | d :: y, X, h => by
    obtain ⟨p, rfl, hp⟩ := hu.ex
    have hd : (47 : UInt8) ≠ d := fun e => h (by rw [e]; exact .head _)
    have e : (47 :: p : Str).isPrefixOf (d :: (y ++ X)) = false := by
      show ((47 : UInt8) == d && _) = false
      rw [beq_false_of_ne hd]; rfl
    show (if (47 :: p : Str).isPrefixOf (d :: (y ++ X)) then 1 else 0) + ocN (47 :: p) (y ++ X) = _
    rw [e, ocN_skip hu y X fun h2 => h (.tail _ h2)]
    simp
theorem ocN_pf {u : Str} (hu : Pf u) (X : Str) : ocN u (u ++ X) = 1 + ocN u X := by
  obtain ⟨p, rfl, hp⟩ := hu.ex
  have e : (47 :: p : Str).isPrefixOf ((47 :: p) ++ X) = true := List.isPrefixOf_iff_prefix.2 (List.prefix_append _ _)
  show (if (47 :: p : Str).isPrefixOf ((47 :: p) ++ X) then 1 else 0) + ocN (47 :: p) (p ++ X) = _
  rw [e, ocN_skip hu p X hp]
  rfl
theorem ocN_other {u v : Str} (hu : Pf u) (hv : Pf v) (hl : u.length = v.length) (hne : u ≠ v) (X : Str) : ocN u (v ++ X) = ocN u X := by
  obtain ⟨q, rfl, hq⟩ := hv.ex
  have e : u.isPrefixOf ((47 :: q) ++ X) = false := by
    cases h : u.isPrefixOf ((47 :: q) ++ X) with
    | false => rfl
    | true =>
      have h2 := List.prefix_iff_eq_take.1 (List.isPrefixOf_iff_prefix.1 h)
      rw [hl, List.take_left] at h2
      exact absurd h2 hne
  show (if u.isPrefixOf ((47 :: q) ++ X) then 1 else 0) + ocN u (q ++ X) = _
  rw [e, ocN_skip hu q X hq]
  simp
theorem hit_split {o s : Str} (h : o.isPrefixOf s = true) : s = o ++ s.drop o.length := by
  have h2 := List.prefix_iff_eq_take.1 (List.isPrefixOf_iff_prefix.1 h)
  conv => lhs; rw [← List.take_append_drop o.length s, ← h2]
theorem ocN_miss {u : Str} {c : UInt8} {t : Str} (h : u.isPrefixOf (c :: t) = false) : ocN u (c :: t) = ocN u t := by
  show (if u.isPrefixOf (c :: t) then 1 else 0) + ocN u t = _
  rw [h]; simp
theorem ocN_zero {u : Str} {c : UInt8} {t : Str} (h : ocN u (c :: t) = 0) : u.isPrefixOf (c :: t) = false ∧ ocN u t = 0 := by
  have h2 : (if u.isPrefixOf (c :: t) then 1 else 0) + ocN u t = 0 := h
  cases e : u.isPrefixOf (c :: t) with
  | false => rw [e] at h2; simp at h2; exact ⟨rfl, h2⟩
  | true => rw [e] at h2; simp at h2
theorem ocN_dropz {u : Str} : ∀ (s : Str) (k : Nat), ocN u s = 0 → ocN u (s.drop k) = 0
  | [], k, h => by simpa using h
  | c :: t, 0, h => h
  | c :: t, k + 1, h => ocN_dropz t k (ocN_zero h).2
/-- An induction over a text, by the places of another one. -/
theorem swInd {o : Str} (ho : o ≠ []) {P : Str → Prop} (h0 : P []) (h1 : ∀ X, P X → P (o ++ X)) (h2 : ∀ c t, o.isPrefixOf (c :: t) = false → P t → P (c :: t)) : ∀ (k : Nat) (s : Str), s.length ≤ k → P s
  | k, [], _ => h0
  | 0, c :: t, h => by simp at h
  | k + 1, c :: t, h => by
    by_cases e : o.isPrefixOf (c :: t) = true
    · have hol : 0 < o.length := List.length_pos_iff.2 ho
      rw [hit_split e]
      refine h1 _ (swInd ho h0 h1 h2 k _ ?_)
      rw [List.length_drop]
      simp at h ⊢
      omega
    · exact h2 c t (eq_false_of_ne_true e) (swInd ho h0 h1 h2 k t (by simpa using h))
theorem pre_app (o X : Str) : o.isPrefixOf (o ++ X) = true := List.isPrefixOf_iff_prefix.2 (List.prefix_append _ _)
theorem swG_app {o n : Str} (ho : o ≠ []) (X : Str) : swG o n 0 (o ++ X) = n ++ swG o n 0 X := by
  rw [swG_hit ho (pre_app o X), List.drop_left]
theorem sw_steps {a b c : Str} (ha : Pf a) (hb : Pf b) {s : Str} (h : ocN b s = 0) (hab : a.length = b.length) (hne : a ≠ b) : swG b c 0 (swG a b 0 s) = swG a c 0 s := by
  refine swInd (P := fun s => ocN b s = 0 → swG b c 0 (swG a b 0 s) = swG a c 0 s) ha.ne (fun _ => rfl) (fun X ih hz => ?_) (fun d t hm ih hz => ?_) s.length s (Nat.le_refl _) h
  · rw [ocN_other hb ha hab.symm (Ne.symm hne)] at hz
    rw [swG_app ha.ne, swG_app hb.ne, swG_app ha.ne, ih hz]
  · obtain ⟨h1, h2⟩ := ocN_zero hz
    rw [swG_miss hm, swG_miss hm, swG_miss (by rw [miss_pre ha hb hb]; exact h1), ih h2]
theorem sw_back {a b : Str} (ha : Pf a) (hb : Pf b) {s : Str} (h : ocN b s = 0) (hab : a.length = b.length) (hne : a ≠ b) : swG b a 0 (swG a b 0 s) = s := by
  rw [sw_steps ha hb h hab hne, swG_self ha.ne]
  rfl
theorem sw_gone {a b : Str} (ha : Pf a) (hb : Pf b) (hab : a.length = b.length) (hne : a ≠ b) (s : Str) : ocN a (swG a b 0 s) = 0 := by
  refine swInd (P := fun s => ocN a (swG a b 0 s) = 0) ha.ne rfl (fun X ih => ?_) (fun d t hm ih => ?_) s.length s (Nat.le_refl _)
  · rw [swG_app ha.ne, ocN_other ha hb hab hne, ih]
  · rw [swG_miss hm, ocN_miss (by rw [miss_pre ha hb ha]; exact hm), ih]
theorem sw_there {a b : Str} (ha : Pf a) (hb : Pf b) (hab : a.length = b.length) (hne : a ≠ b) {s : Str} (h : ocN b s = 0) : ocN b (swG a b 0 s) = ocN a s := by
  refine swInd (P := fun s => ocN b s = 0 → ocN b (swG a b 0 s) = ocN a s) ha.ne (fun _ => rfl) (fun X ih hz => ?_) (fun d t hm ih hz => ?_) s.length s (Nat.le_refl _) h
  · rw [ocN_other hb ha hab.symm (Ne.symm hne)] at hz
    rw [swG_app ha.ne, ocN_pf hb, ocN_pf ha, ih hz]
  · obtain ⟨h1, h2⟩ := ocN_zero hz
    rw [swG_miss hm, ocN_miss (by rw [miss_pre ha hb hb]; exact h1), ocN_miss hm, ih h2]
theorem sw_other {a b u : Str} (ha : Pf a) (hb : Pf b) (hu : Pf u) (hab : a.length = b.length) (hua : u.length = a.length) (h1 : u ≠ a) (h2 : u ≠ b) (s : Str) : ocN u (swG a b 0 s) = ocN u s := by
  refine swInd (P := fun s => ocN u (swG a b 0 s) = ocN u s) ha.ne rfl (fun X ih => ?_) (fun d t hm ih => ?_) s.length s (Nat.le_refl _)
  · rw [swG_app ha.ne, ocN_other hu hb (hua.trans hab) h2, ocN_other hu ha hua h1, ih]
  · rw [swG_miss hm]
    show (if u.isPrefixOf (d :: swG a b 0 t) then 1 else 0) + ocN u (swG a b 0 t) = (if u.isPrefixOf (d :: t) then 1 else 0) + ocN u t
    rw [miss_pre ha hb hu, ih]
theorem cn_ocN {a : Str} (ha : Pf a) (s : Str) : cnG a 0 s = ocN a s := by
  refine swInd (P := fun s => cnG a 0 s = ocN a s) ha.ne rfl (fun X ih => ?_) (fun d t hm ih => ?_) s.length s (Nat.le_refl _)
  · rw [cnG_hit ha.ne (pre_app a X), List.drop_left, ocN_pf ha, ih]
  · rw [cnG_miss hm, ocN_miss hm, ih]
theorem sw_none {a b : Str} (ha : a ≠ []) {s : Str} (h : ocN a s = 0) : swG a b 0 s = s := by
  induction s with
  | nil => rfl
  | cons c t ih =>
    obtain ⟨h1, h2⟩ := ocN_zero h
    rw [swG_miss h1, ih h2]
theorem has_ocN {s u : Str} (hu : u ≠ []) : hasL s u ↔ 0 < ocN u s := by
  rw [← places_has, places_ocN hu]
end Go.Hog
