/- Plain words: how the order comes about, taken from a heap, is chapter 10's own. -/
import Derived.Test.YtiahipbkheaafaaS3
import Derived.Test.YtiahipbkheaafaaS2
set_option linter.unusedVariables false
namespace Go.Hog
/-- How many wait for one still, when those in o are out. -/
def leftE (es : List (Str × Str)) (o : List Str) (s : Str) : Nat := (es.filter fun e => decide (e.2 = s ∧ e.1 ∉ o)).length
theorem leftE_nil (es : List (Str × Str)) (s : Str) : leftE es [] s = cntE es s := by simp [leftE, cntE]
theorem leftE_le (es : List (Str × Str)) (o : List Str) (s : Str) : leftE es o s ≤ es.length := List.length_filter_le _ _
theorem leftE_snoc {o : List Str} {n : Str} (hn : n ∉ o) (s : Str) : ∀ es : List (Str × Str), leftE es (o ++ [n]) s + (bkE es n).count s = leftE es o s
  | [] => rfl
  | (r, t) :: es => by
    have ih := leftE_snoc hn s es
    unfold leftE bkE at *
    by_cases h1 : r = n
    · subst h1
      by_cases h2 : t = s
      · subst h2
        simp [hn] at ih ⊢
        omega
      · simp [h2] at ih ⊢
        exact ih
    · by_cases h2 : t = s
      · subst h2
        by_cases h3 : r ∈ o
        · simp [h1, h3] at ih ⊢
          exact ih
        · simp [h1, h3] at ih ⊢
          omega
      · simp [h1, h2] at ih ⊢
        exact ih
theorem leftE_zero {es : List (Str × Str)} {o : List Str} {s : Str} : leftE es o s = 0 ↔ ∀ r, (r, s) ∈ es → r ∈ o := by
  unfold leftE
  rw [List.length_eq_zero_iff, List.filter_eq_nil_iff]
  constructor
  · intro h r hr
    have := h (r, s) hr
    simpa using this
  · rintro h ⟨r, t⟩ he
    simp only [decide_eq_true_eq, not_and, Classical.not_not]
    rintro rfl
    exact h r he
theorem mem_names {l : List Item} {s : Str} : s ∈ names l ↔ (getI l s).isSome = true := by
  unfold names getI
  rw [List.find?_isSome]
  simp
theorem name_inj {l : List Item} (hnd : (names l).Nodup) {x y : Item} (hx : x ∈ l) (hy : y ∈ l) (h : x.name = y.name) : x = y := by
  obtain ⟨i, hi, rfl⟩ := List.getElem_of_mem hx
  obtain ⟨j, hj, rfl⟩ := List.getElem_of_mem hy
  have := (List.getElem_inj (h₀ := by simpa [names] using hi) (h₁ := by simpa [names] using hj) hnd).1 (by simpa [names] using h)
  subst this
  rfl
theorem mem_edges_all {l : List Item} {e : Str × Str} : e ∈ edges l l.length ↔ ∃ x ∈ l, e ∈ edg l x x.refs := by
  unfold edges
  rw [List.take_length, List.mem_flatMap]
theorem ready_iff {l : List Item} (hnd : (names l).Nodup) {x : Item} (hx : x ∈ l) (o : List Str) : ReadyI l x o ↔ leftE (edges l l.length) o x.name = 0 := by
  rw [leftE_zero]
  constructor
  · intro h r hr
    obtain ⟨y, hy, he⟩ := mem_edges_all.1 hr
    obtain ⟨h1, h2, h3, h4⟩ := mem_edg.1 he
    have := name_inj hnd hx hy h4
    subst this
    exact h r h1 (mem_names.1 h2) h3
  · intro h r hr hs hne
    exact h r (mem_edges_all.2 ⟨x, hx, mem_edg.2 ⟨hr, mem_names.2 hs, hne, rfl⟩⟩)
theorem bestJ_spec (l : List Item) (o : List Str) : ∀ k, k ≤ l.length → match bestJ l o k with
    | none => ∀ i, i < k → ¬ CandI l o (l.getD i dI)
    | some j => j < k ∧ CandI l o (l.getD j dI) ∧ ∀ i, i < k → CandI l o (l.getD i dI) → ¬ (l.getD i dI).name < (l.getD j dI).name
  | 0, _ => fun i hi => by omega
  | k + 1, hk => by
    have ih := bestJ_spec l o k (by omega)
    simp only [bestJ]
    by_cases hc : CandI l o (l.getD k dI)
    · rw [if_pos hc]
      cases hb : bestJ l o k with
      | none =>
        rw [hb] at ih
        refine ⟨by omega, hc, fun i hi hci => ?_⟩
        by_cases e : i = k
        · subst e; exact List.lt_irrefl _
        · exact absurd hci (ih i (by omega))
      | some j =>
        rw [hb] at ih
        obtain ⟨h1, h2, h3⟩ := ih
        by_cases hl : (l.getD k dI).name < (l.getD j dI).name
        · simp only [if_pos hl]
          refine ⟨by omega, hc, fun i hi hci => ?_⟩
          by_cases e : i = k
          · subst e; exact List.lt_irrefl _
          · exact fun h4 => h3 i (by omega) hci (List.lt_trans h4 hl)
        · simp only [if_neg hl]
          refine ⟨by omega, h2, fun i hi hci => ?_⟩
          by_cases e : i = k
          · subst e; exact hl
          · exact h3 i (by omega) hci
    · rw [if_neg hc]
      cases hb : bestJ l o k with
      | none =>
        rw [hb] at ih
        intro i hi
        by_cases e : i = k
        · subst e; exact hc
        · exact ih i (by omega)
      | some j =>
        rw [hb] at ih
        obtain ⟨h1, h2, h3⟩ := ih
        refine ⟨by omega, h2, fun i hi hci => ?_⟩
        by_cases e : i = k
        · subst e; exact absurd hci hc
        · exact h3 i (by omega) hci
theorem str_eq {x y : Str} (h1 : ¬ x < y) (h2 : ¬ y < x) : x = y := List.le_antisymm (List.not_lt.1 h2) (List.not_lt.1 h1)
/-- What holds whenever the heap is looked at. -/
structure OI (a : List Item) (o : List Str) (cnt : Str → Int) (h : List Str) : Prop where
  cnt_ : ∀ s, cnt s = (leftE (edges a a.length) o s : Nat)
  nd : h.Nodup
  mem : ∀ s, s ∈ h ↔ s ∈ names a ∧ s ∉ o ∧ leftE (edges a a.length) o s = 0
  ond : o.Nodup
  osub : ∀ s ∈ o, s ∈ names a
  done : ∀ s ∈ o, leftE (edges a a.length) o s = 0
  go : refGo a (a.length - o.length) o = refOf a
theorem OI.len {a : List Item} {o : List Str} {cnt : Str → Int} {h : List Str} (hi : OI a o cnt h) : o.length + h.length ≤ a.length := by
  have h1 : (o ++ h).Nodup := List.nodup_append.2 ⟨hi.ond, hi.nd, fun x hx y hy e => by subst e; exact ((hi.mem x).1 hy).2.1 hx⟩
  have h2 := h1.length_le_of_subset (l₂ := names a) (fun s hs => by
    rcases List.mem_append.1 hs with hs | hs
    · exact hi.osub s hs
    · exact ((hi.mem s).1 hs).1)
  simpa [names] using h2
theorem cand_at {a : List Item} (hnd : (names a).Nodup) {o : List Str} {i : Nat} (h : i < a.length) : CandI a o (a.getD i dI) ↔ a[i].name ∉ o ∧ leftE (edges a a.length) o a[i].name = 0 := by
  have e : a.getD i dI = a[i] := by simp [h]
  rw [e]
  unfold CandI
  rw [ready_iff hnd (List.getElem_mem h)]
theorem OI.empty {a : List Item} (hnd : (names a).Nodup) {o : List Str} {cnt : Str → Int} (hi : OI a o cnt []) : refOf a = if o.length < a.length then none else some o := by
  have hl := hi.len
  rw [← hi.go]
  split
  · rename_i hlt
    obtain ⟨m, hm⟩ : ∃ m, a.length - o.length = m + 1 := ⟨a.length - o.length - 1, by omega⟩
    rw [hm, refGo]
    have hs := bestJ_spec a o a.length (Nat.le_refl _)
    cases hb : bestJ a o a.length with
    | none => rfl
    | some j =>
      rw [hb] at hs
      obtain ⟨h1, h2, _⟩ := hs
      have h3 := (cand_at hnd h1).1 h2
      have := (hi.mem a[j].name).2 ⟨List.mem_map.2 ⟨a[j], List.getElem_mem _, rfl⟩, h3⟩
      cases this
  · rename_i hlt
    rw [show a.length - o.length = 0 by omega, refGo]
/-- One is taken: the next of chapter 10. -/
theorem OI.best {a : List Item} (hnd : (names a).Nodup) {o : List Str} {cnt : Str → Int} {h h' : List Str} {x : Str} (hi : OI a o cnt h) (hp : h.Perm (x :: h')) (hmin : ∀ y ∈ h, ¬ y < x) :
    refGo a (a.length - (o ++ [x]).length) (o ++ [x]) = refOf a := by
  have hl := hi.len
  have hx : x ∈ h := hp.mem_iff.2 (List.mem_cons_self)
  have hpos : 0 < h.length := List.length_pos_of_mem hx
  obtain ⟨m, hm⟩ : ∃ m, a.length - o.length = m + 1 := ⟨a.length - o.length - 1, by omega⟩
  rw [← hi.go, hm, refGo]
  obtain ⟨h1, h2, h3⟩ := (hi.mem x).1 hx
  obtain ⟨y, hy, rfl⟩ := List.mem_map.1 h1
  obtain ⟨i, hil, rfl⟩ := List.getElem_of_mem hy
  have hci := (cand_at hnd hil).2 ⟨h2, h3⟩
  have hs := bestJ_spec a o a.length (Nat.le_refl _)
  cases hb : bestJ a o a.length with
  | none => rw [hb] at hs; exact absurd hci (hs i hil)
  | some j =>
    rw [hb] at hs
    obtain ⟨h4, h5, h6⟩ := hs
    have ej : a.getD j dI = a[j] := by simp [h4]
    have ei : a.getD i dI = a[i] := by simp [hil]
    have h7 := (cand_at hnd h4).1 h5
    have h8 := h6 i hil hci
    rw [ei, ej] at h8
    have h9 := hmin a[j].name ((hi.mem _).2 ⟨List.mem_map.2 ⟨a[j], List.getElem_mem _, rfl⟩, h7⟩)
    have e := str_eq h8 h9
    simp only [ej, ← e, List.length_append, List.length_singleton]
    rw [show a.length - (o.length + 1) = m by omega]
/-- While those that waited for n are told. -/
structure OJ (a : List Item) (o : List Str) (n : Str) (m : Nat) (cnt : Str → Int) (h : List Str) : Prop where
  cnt_ : ∀ s, cnt s = (leftE (edges a a.length) o s : Nat) - (((bkE (edges a a.length) n).take m).count s : Nat)
  nd : h.Nodup
  mem : ∀ s, s ∈ h ↔ s ∈ names a ∧ s ∉ o ∧ s ≠ n ∧ cnt s = 0
theorem OI.start {a : List Item} {o : List Str} {cnt : Str → Int} {h h' : List Str} {n : Str} (hi : OI a o cnt h) (hp : h.Perm (n :: h')) : OJ a o n 0 cnt h' := by
  have hnd : (n :: h').Nodup := hp.nodup_iff.1 hi.nd
  refine ⟨fun s => by rw [hi.cnt_]; simp, (List.nodup_cons.1 hnd).2, fun s => ?_⟩
  have h1 := hi.mem s
  have h2 := hi.cnt_ s
  rw [hp.mem_iff, List.mem_cons] at h1
  have h3 : s ∈ h' → s ≠ n := fun hs e => (List.nodup_cons.1 hnd).1 (e ▸ hs)
  constructor
  · intro hs
    obtain ⟨a1, a2, a3⟩ := h1.1 (.inr hs)
    exact ⟨a1, a2, h3 hs, by rw [h2, a3]; rfl⟩
  · rintro ⟨a1, a2, a3, a4⟩
    rcases h1.2 ⟨a1, a2, by omega⟩ with e | e
    · exact absurd e a3
    · exact e
theorem bk_mem {a : List Item} {n s : Str} (h : s ∈ bkE (edges a a.length) n) : s ∈ names a ∧ s ≠ n := by
  obtain ⟨x, hx, he⟩ := mem_edges_all.1 (mem_bkE.1 h)
  obtain ⟨h1, h2, h3, h4⟩ := mem_edg.1 he
  rw [show s = x.name from h4]
  exact ⟨List.mem_map.2 ⟨x, hx, rfl⟩, fun e => h3 e.symm⟩
/-- One of those that waited: its count, ahead of being told. -/
theorem OJ.pos {a : List Item} {o : List Str} {n : Str} {m : Nat} {cnt : Str → Int} {h : List Str} (hj : OJ a o n m cnt h) (hno : n ∉ o) (hm : m < (bkE (edges a a.length) n).length) :
    1 ≤ cnt (bkE (edges a a.length) n)[m] ∧ cnt (bkE (edges a a.length) n)[m] ≤ (edges a a.length).length := by
  rw [hj.cnt_]
  have h1 := leftE_snoc hno (bkE (edges a a.length) n)[m] (edges a a.length)
  have h2 : ((bkE (edges a a.length) n).take (m + 1)).count (bkE (edges a a.length) n)[m] = ((bkE (edges a a.length) n).take m).count (bkE (edges a a.length) n)[m] + 1 := by
    rw [List.take_add_one, List.getElem?_eq_getElem hm, List.count_append]
    simp
  have h3 := (List.take_sublist (m + 1) (bkE (edges a a.length) n)).count_le (bkE (edges a a.length) n)[m]
  have h4 := leftE_le (edges a a.length) o (bkE (edges a a.length) n)[m]
  omega
theorem OJ.step {a : List Item} {o : List Str} {n : Str} {m : Nat} {cnt : Str → Int} {h h2 : List Str} {b : Str} (hj : OJ a o n m cnt h) (hno : n ∉ o) (hdone : ∀ s ∈ o, leftE (edges a a.length) o s = 0) (hm : m < (bkE (edges a a.length) n).length) (hb : (bkE (edges a a.length) n)[m] = b)
    (hh : h2.Perm (if cnt b - 1 = 0 then b :: h else h)) : OJ a o n (m + 1) (fun s => if s = b then cnt b - 1 else cnt s) h2 := by
  have hpos := hj.pos hno hm
  rw [hb] at hpos
  have hbm : b ∈ bkE (edges a a.length) n := hb ▸ List.getElem_mem hm
  have hbn := bk_mem hbm
  have hbo : b ∉ o := fun hbo => by
    have h1 := leftE_snoc hno b (edges a a.length)
    have h2 := hdone b hbo
    have h3 : 0 < (bkE (edges a a.length) n).count b := List.count_pos_iff.2 hbm
    omega
  have hbh : b ∉ h := fun hb2 => by
    have := ((hj.mem b).1 hb2).2.2.2
    omega
  refine ⟨fun s => ?_, ?_, fun s => ?_⟩
  · rw [List.take_add_one, List.getElem?_eq_getElem hm, List.count_append, hb]
    by_cases e : s = b
    · subst e
      simp only [if_true]
      rw [hj.cnt_]
      simp
      omega
    · rw [if_neg e, hj.cnt_]
      have : ¬ b = s := fun e2 => e e2.symm
      simp [this]
  · rw [hh.nodup_iff]
    split
    · exact List.nodup_cons.2 ⟨hbh, hj.nd⟩
    · exact hj.nd
  · rw [hh.mem_iff]
    by_cases e : s = b
    · subst e
      simp only [if_true]
      by_cases hz : cnt s - 1 = 0
      · rw [if_pos hz]
        simp [hbn, hbo, hz]
      · rw [if_neg hz]
        simp [hz, hbh]
    · rw [if_neg e]
      have h1 := hj.mem s
      split
      · rw [List.mem_cons, ← h1]
        simp [e]
      · exact h1
theorem OJ.fin {a : List Item} (hnd : (names a).Nodup) {o : List Str} {n : Str} {cnt0 cnt : Str → Int} {h0 h' h : List Str} (hi : OI a o cnt0 h0) (hp : h0.Perm (n :: h')) (hmin : ∀ y ∈ h0, ¬ y < n) (hj : OJ a o n (bkE (edges a a.length) n).length cnt h) : OI a (o ++ [n]) cnt h := by
  have hn0 := (hi.mem n).1 (hp.mem_iff.2 (List.mem_cons_self))
  have hc : ∀ s, cnt s = (leftE (edges a a.length) (o ++ [n]) s : Nat) := fun s => by
    rw [hj.cnt_, List.take_length]
    have := leftE_snoc hn0.2.1 s (edges a a.length)
    omega
  refine ⟨hc, hj.nd, fun s => ?_, List.nodup_append.2 ⟨hi.ond, by simp, fun x hx y hy e => ?_⟩, fun s hs => ?_, fun s hs => ?_, hi.best hnd hp hmin⟩
  · rw [hj.mem, List.mem_append, hc]
    simp only [List.mem_singleton, not_or, Int.natCast_eq_zero]
    constructor
    · rintro ⟨a1, a2, a3, a4⟩; exact ⟨a1, ⟨a2, a3⟩, a4⟩
    · rintro ⟨a1, ⟨a2, a3⟩, a4⟩; exact ⟨a1, a2, a3, a4⟩
  · have : y = n := by simpa using hy
    subst this
    subst e
    exact hn0.2.1 hx
  · rcases List.mem_append.1 hs with hs | hs
    · exact hi.osub s hs
    · have : s = n := by simpa using hs
      subst this
      exact hn0.1
  · have h1 := leftE_snoc hn0.2.1 s (edges a a.length)
    rcases List.mem_append.1 hs with hs | hs
    · have := hi.done s hs
      omega
    · have : s = n := by simpa using hs
      subst this
      have := hn0.2.2
      omega
theorem OI.init {a : List Item} (hnd : (names a).Nodup) {h : List Str} (hn : h.Nodup) (hm : ∀ s, s ∈ h ↔ s ∈ names a ∧ cntE (edges a a.length) s = 0) : OI a [] (fun s => (cntE (edges a a.length) s : Nat)) h := by
  refine ⟨fun s => by rw [leftE_nil], hn, fun s => ?_, List.nodup_nil, fun s hs => (by cases hs), fun s hs => (by cases hs), ?_⟩
  · rw [hm, leftE_nil]
    simp
  · unfold refOf
    rw [if_pos hnd]
    rfl
theorem OJ.len {a : List Item} {o : List Str} {n : Str} {m : Nat} {cnt : Str → Int} {h : List Str} (hj : OJ a o n m cnt h) : h.length ≤ a.length := by
  have h2 := hj.nd.length_le_of_subset (l₂ := names a) (fun s hs => ((hj.mem s).1 hs).1)
  simpa [names] using h2
end Go.Hog
