/- Plain words: what chapter 10's answer is, by the next name alone; perms, an item more. -/
import Derived.Test.YtiahipbkheaafaaF9
set_option linter.unusedVariables false
set_option linter.unusedSimpArgs false
namespace Go.Hog
/-- What the next name is. -/
def IsNext (l : List Item) (o : List Str) : Option Str → Prop
  | none => ∀ x ∈ l, ¬ CandI l o x
  | some s => (∃ x ∈ l, CandI l o x ∧ x.name = s) ∧ ∀ x ∈ l, CandI l o x → ¬ x.name < s
def nextN (l : List Item) (o : List Str) : Option Str := (bestJ l o l.length).map fun j => (l.getD j dI).name
theorem getD_mem {l : List Item} {i : Nat} (h : i < l.length) : l.getD i dI ∈ l := by
  rw [List.getD_eq_getElem?_getD, List.getElem?_eq_getElem h]
  exact List.getElem_mem h
theorem nextN_is (l : List Item) (o : List Str) : IsNext l o (nextN l o) := by
  have h := bestJ_spec l o l.length (Nat.le_refl _)
  have hin : ∀ x ∈ l, ∃ i, i < l.length ∧ l.getD i dI = x := fun x hx => by
    obtain ⟨i, hi, e⟩ := List.getElem_of_mem hx
    exact ⟨i, hi, by simp [hi, e]⟩
  unfold nextN
  cases hb : bestJ l o l.length with
  | none =>
    rw [hb] at h
    intro x hx
    obtain ⟨i, hi, rfl⟩ := hin x hx
    exact h i hi
  | some j =>
    rw [hb] at h
    obtain ⟨h1, h2, h3⟩ := h
    refine ⟨⟨_, getD_mem h1, h2, rfl⟩, fun x hx hc => ?_⟩
    obtain ⟨i, hi, rfl⟩ := hin x hx
    exact h3 i hi hc
theorem IsNext.uniq {l : List Item} {o : List Str} : ∀ {a b : Option Str}, IsNext l o a → IsNext l o b → a = b
  | none, none, _, _ => rfl
  | none, some s, h1, ⟨⟨x, hx, hc, _⟩, _⟩ => absurd hc (h1 x hx)
  | some s, none, ⟨⟨x, hx, hc, _⟩, _⟩, h2 => absurd hc (h2 x hx)
  | some s, some t, ⟨⟨x, hx, hc, e1⟩, h1⟩, ⟨⟨y, hy, hd, e2⟩, h2⟩ => by
    have a1 := h1 y hy hd
    have a2 := h2 x hx hc
    rw [e2] at a1
    rw [e1] at a2
    rw [str_eq a1 a2]
theorem nextN_eq {l : List Item} {o : List Str} {a : Option Str} (h : IsNext l o a) : nextN l o = a := (nextN_is l o).uniq h
theorem refGo_succ (l : List Item) (k : Nat) (o : List Str) : refGo l (k + 1) o = match nextN l o with | none => none | some s => refGo l k (o ++ [s]) := by
  unfold nextN
  rw [refGo]
  cases bestJ l o l.length <;> rfl
/-! ### In which order items are handed in does not matter. -/
theorem isNext_perm {l l' : List Item} (hp : l.Perm l') {o : List Str} {a : Option Str} (h : IsNext l o a) : IsNext l' o a := by
  have hg : ∀ r, (getI l' r).isSome = (getI l r).isSome := fun r => by
    have h1 := @mem_names l r
    have h2 := @mem_names l' r
    have h3 : r ∈ names l' ↔ r ∈ names l := (hp.map _).mem_iff.symm
    rw [Bool.eq_iff_iff, ← h1, ← h2, h3]
  have hc : ∀ x, CandI l' o x ↔ CandI l o x := fun x => by
    unfold CandI ReadyI
    simp only [hg]
  cases a with
  | none => exact fun x hx hcx => h x (hp.mem_iff.2 hx) ((hc x).1 hcx)
  | some s =>
    obtain ⟨⟨x, hx, hcx, e⟩, h2⟩ := h
    exact ⟨⟨x, hp.mem_iff.1 hx, (hc x).2 hcx, e⟩, fun y hy hcy => h2 y (hp.mem_iff.2 hy) ((hc y).1 hcy)⟩
theorem refGo_perm {l l' : List Item} (hp : l.Perm l') : ∀ (k : Nat) (o : List Str), refGo l' k o = refGo l k o
  | 0, _ => rfl
  | k + 1, o => by
    rw [refGo_succ, refGo_succ, nextN_eq (isNext_perm hp (nextN_is l o))]
    cases nextN l o with
    | none => rfl
    | some s => exact refGo_perm hp k _
theorem refOf_perm {l l' : List Item} (hp : l.Perm l') : refOf l' = refOf l := by
  unfold refOf
  rw [refGo_perm hp, hp.length_eq]
  have : (names l').Nodup ↔ (names l).Nodup := ((hp.map _).nodup_iff).symm
  by_cases h : (names l).Nodup
  · rw [if_pos h, if_pos (this.2 h)]
  · rw [if_neg h, if_neg (fun e => h (this.1 e))]
/-! ### Each behind all that it refers to. -/
theorem refGo_pre {l : List Item} : ∀ (k : Nat) (o r : List Str), refGo l k o = some r → o <+: r
  | 0, o, r, h => by
    simp only [refGo, Option.some.injEq] at h
    subst h; exact List.prefix_refl _
  | k + 1, o, r, h => by
    rw [refGo_succ] at h
    cases hn : nextN l o with
    | none => rw [hn] at h; cases h
    | some s =>
      rw [hn] at h
      exact (List.prefix_append _ _).trans (refGo_pre k _ _ h)
/-- All that stand are behind all that they refer to. -/
def BehindI (l : List Item) (r : List Str) : Prop := ∀ p (hp : p < r.length), ∀ x ∈ l, x.name = r[p] → ∀ q ∈ x.refs, q ∈ names l → q ≠ x.name → q ∈ r.take p
theorem refGo_behind {l : List Item} (hnd : (names l).Nodup) : ∀ (k : Nat) (o r : List Str), refGo l k o = some r → BehindI l o → BehindI l r
  | 0, o, r, h, ho => by
    simp only [refGo, Option.some.injEq] at h
    subst h; exact ho
  | k + 1, o, r, h, ho => by
    rw [refGo_succ] at h
    have hi := nextN_is l o
    cases hn : nextN l o with
    | none => rw [hn] at h; cases h
    | some s =>
      rw [hn] at h hi
      obtain ⟨⟨y, hy, hcy, hys⟩, _⟩ := hi
      refine refGo_behind hnd k _ _ h fun p hp x hx hxp q hq hql hqn => ?_
      by_cases hpo : p < o.length
      · rw [List.getElem_append_left hpo] at hxp
        rw [List.take_append_of_le_length (by omega)]
        exact ho p hpo x hx hxp q hq hql hqn
      · have hpe : p = o.length := by simp at hp; omega
        subst hpe
        have hxs : x.name = s := by rw [hxp]; simp
        have : x = y := name_inj hnd hx hy (hxs.trans hys.symm)
        subst this
        rw [List.take_left]
        exact hcy.2 q hq (mem_names.1 hql) hqn
theorem refOf_behind {l : List Item} {r : List Str} (h : refOf l = some r) : BehindI l r := by
  unfold refOf at h
  split at h
  · rename_i hnd
    exact refGo_behind hnd _ _ _ h fun p hp => by simp at hp
  · cases h
theorem idx_behind {l : List Item} {r : List Str} (h : refOf l = some r) {x : Item} (hx : x ∈ l) {q : Str} (hq : q ∈ x.refs) (hqn : q ≠ x.name) : ¬ idxI r x.name < idxI r q := by
  have hb := refOf_behind h
  have hxm : x.name ∈ r := refOf_mem h (List.mem_map.2 ⟨x, hx, rfl⟩)
  have hi : r.idxOf x.name < r.length := List.idxOf_lt_length_of_mem hxm
  unfold idxI
  rw [if_pos hxm]
  by_cases hqr : q ∈ r
  · rw [if_pos hqr]
    have hql : q ∈ names l := (refOf_sub h).1 q hqr
    have := hb _ hi x hx (List.getElem_idxOf hi).symm q hq hql hqn
    have h2 : r.idxOf q < r.idxOf x.name := by
      obtain ⟨j, hj, e⟩ := List.getElem_of_mem this
      have hjl : j < r.idxOf x.name := by
        rw [List.length_take] at hj; omega
      have hjr : j < r.length := by omega
      have e2 : r[j] = q := by rw [← e]; simp
      by_cases hc : r.idxOf q ≤ j
      · omega
      · have := List.not_of_lt_findIdx (xs := r) (p := (· == q)) (i := j) (by show j < r.idxOf q; omega)
        simp [e2] at this
    omega
  · rw [if_neg hqr]
    omega
/-! ### An item more -/
theorem names_cons (x : Item) (l : List Item) : names (x :: l) = x.name :: names l := rfl
theorem refGo_last {l : List Item} {s : Str} {tr : List Node} (hnd : (names l).Nodup) (hs : s ∉ names l) (hr : ∀ x ∈ l, s ∉ x.refs) :
    ∀ (k : Nat) (o : List Str), o.Nodup → (∀ x ∈ o, x ∈ names l) → o.length + k = l.length → refGo (⟨s, names l, tr⟩ :: l) (k + 1) o = (refGo l k o).map (· ++ [s]) := by
  have hg : ∀ r, r ≠ s → (getI (⟨s, names l, tr⟩ :: l) r).isSome = (getI l r).isSome := fun r hr => by
    rw [Bool.eq_iff_iff, ← mem_names, ← mem_names, names_cons]
    simp [hr]
  have hc : ∀ o, ∀ x ∈ l, (CandI (⟨s, names l, tr⟩ :: l) o x ↔ CandI l o x) := fun o x hx => by
    unfold CandI ReadyI
    refine and_congr_right fun _ => forall_congr' fun r => forall_congr' fun hrx => ?_
    rw [hg r (fun e => hr x hx (e ▸ hrx))]
  have hl : ∀ o : List Str, CandI (⟨s, names l, tr⟩ :: l) o ⟨s, names l, tr⟩ → ∀ x ∈ names l, x ∈ o := fun o h x hx => by
    have := h.2 x hx
    refine this ?_ (fun e => hs (by
      have e' : x = s := e
      exact e' ▸ hx))
    rw [← mem_names, names_cons]
    exact List.mem_cons_of_mem _ hx
  intro k
  induction k with
  | zero =>
    intro o hon hos hlen
    have hall : ∀ x ∈ names l, x ∈ o := by
      intro x hx
      refine Decidable.byContradiction fun hxo => ?_
      have h1 : (x :: o).Nodup := List.nodup_cons.2 ⟨hxo, hon⟩
      have h2 := h1.length_le_of_subset (l₂ := names l) (fun y hy => by
        rcases List.mem_cons.1 hy with rfl | hy
        · exact hx
        · exact hos y hy)
      simp [names] at h2
      omega
    have hnx : IsNext (⟨s, names l, tr⟩ :: l) o (some s) := by
      refine ⟨⟨⟨s, names l, tr⟩, by simp, ⟨fun h => hs (hos s h), fun r hr _ _ => hall r hr⟩, rfl⟩, fun x hx hcx => ?_⟩
      rcases List.mem_cons.1 hx with rfl | hx
      · exact List.lt_irrefl _
      · exact absurd (hall _ (List.mem_map.2 ⟨x, hx, rfl⟩)) hcx.1
    rw [refGo_succ, nextN_eq hnx]
    rfl
  | succ k ih =>
    intro o hon hos hlen
    have hno : ¬ ∀ x ∈ names l, x ∈ o := fun h => by
      have := hnd.length_le_of_subset (l₂ := o) h
      simp [names] at this
      omega
    have hi := nextN_is l o
    have hi2 : IsNext (⟨s, names l, tr⟩ :: l) o (nextN l o) := by
      cases hn : nextN l o with
      | none =>
        rw [hn] at hi
        intro x hx hcx
        rcases List.mem_cons.1 hx with rfl | hx
        · exact hno (hl o hcx)
        · exact hi x hx ((hc o x hx).1 hcx)
      | some t =>
        rw [hn] at hi
        obtain ⟨⟨x, hx, hcx, e⟩, h2⟩ := hi
        refine ⟨⟨x, List.mem_cons_of_mem _ hx, (hc o x hx).2 hcx, e⟩, fun y hy hcy => ?_⟩
        rcases List.mem_cons.1 hy with rfl | hy
        · exact absurd (hl o hcy) hno
        · exact h2 y hy ((hc o y hy).1 hcy)
    rw [refGo_succ, nextN_eq hi2, refGo_succ l k]
    cases hn : nextN l o with
    | none => rfl
    | some t =>
      rw [hn] at hi
      obtain ⟨⟨x, hx, hcx, e⟩, _⟩ := hi
      have hto : t ∉ o := e ▸ hcx.1
      refine ih (o ++ [t]) ?_ ?_ (by simp; omega)
      · rw [List.nodup_append]
        exact ⟨hon, by simp, fun a ha b hb e2 => hto (by rw [List.mem_singleton] at hb; rw [← hb, ← e2]; exact ha)⟩
      · intro y hy
        rcases List.mem_append.1 hy with hy | hy
        · exact hos y hy
        · simp at hy
          subst hy
          exact List.mem_map.2 ⟨x, hx, e⟩
theorem refOf_last {l : List Item} {s : Str} {tr : List Node} (hnd : (names l).Nodup) (hs : s ∉ names l) (hr : ∀ x ∈ l, s ∉ x.refs) : refOf (⟨s, names l, tr⟩ :: l) = (refOf l).map (· ++ [s]) := by
  unfold refOf
  rw [if_pos hnd, if_pos (show (names (⟨s, names l, tr⟩ :: l)).Nodup from List.nodup_cons.2 ⟨hs, hnd⟩)]
  exact refGo_last hnd hs hr l.length [] List.nodup_nil (fun _ h => by cases h) (by simp)
theorem names_app (l m : List Item) : names (l ++ m) = names l ++ names m := List.map_append
theorem refGo_first {l : List Item} (hs : ([] : Str) ∉ names l) (hr : ∀ x ∈ l, ([] : Str) ∉ x.refs) :
    ∀ (k : Nat) (o : List Str), refGo (l ++ [dI]) k ([] :: o) = (refGo l k o).map (fun r => [] :: r)
  | 0, o => rfl
  | k + 1, o => by
    have hg : ∀ r : Str, r ≠ [] → (getI (l ++ [dI]) r).isSome = (getI l r).isSome := fun r hr => by
      rw [Bool.eq_iff_iff, ← mem_names, ← mem_names, names_app]
      have : names [dI] = [[]] := rfl
      rw [this]
      simp [hr]
    have hne : ∀ x ∈ l, x.name ≠ [] := fun x hx e => hs (List.mem_map.2 ⟨x, hx, e⟩)
    have hc : ∀ x ∈ l, (CandI (l ++ [dI]) ([] :: o) x ↔ CandI l o x) := fun x hx => by
      unfold CandI ReadyI
      refine and_congr ?_ (forall_congr' fun r => forall_congr' fun hrx => ?_)
      · simp [hne x hx]
      · have hr0 : r ≠ [] := fun e => hr x hx (e ▸ hrx)
        rw [hg r hr0]
        simp [hr0]
    have hd : ¬ CandI (l ++ [dI]) ([] :: o) dI := fun h => h.1 (by simp [dI])
    have hi := nextN_is l o
    have hi2 : IsNext (l ++ [dI]) ([] :: o) (nextN l o) := by
      cases hn : nextN l o with
      | none =>
        rw [hn] at hi
        intro x hx hcx
        rcases List.mem_append.1 hx with hx | hx
        · exact hi x hx ((hc x hx).1 hcx)
        · simp at hx; subst hx; exact hd hcx
      | some t =>
        rw [hn] at hi
        obtain ⟨⟨x, hx, hcx, e⟩, h2⟩ := hi
        refine ⟨⟨x, List.mem_append_left _ hx, (hc x hx).2 hcx, e⟩, fun y hy hcy => ?_⟩
        rcases List.mem_append.1 hy with hy | hy
        · exact h2 y hy ((hc y hy).1 hcy)
        · simp at hy; subst hy; exact absurd hcy hd
    rw [refGo_succ, nextN_eq hi2, refGo_succ l k]
    cases hn : nextN l o with
    | none => rfl
    | some t =>
      have := refGo_first hs hr k (o ++ [t])
      simpa using this
theorem refOf_first {l : List Item} (hnd : (names l).Nodup) (hs : ([] : Str) ∉ names l) (hr : ∀ x ∈ l, ([] : Str) ∉ x.refs) : refOf (l ++ [dI]) = (refOf l).map (fun r => [] :: r) := by
  have hnd2 : (names (l ++ [dI])).Nodup := by
    rw [names_app, List.nodup_append]
    refine ⟨hnd, by simp [names], fun a ha b hb e => ?_⟩
    simp [names, dI] at hb
    subst hb
    exact hs (e ▸ ha)
  unfold refOf
  rw [if_pos hnd, if_pos hnd2]
  have hnx : IsNext (l ++ [dI]) [] (some []) := by
    refine ⟨⟨dI, by simp, ⟨by simp, fun r hr => by simp [dI] at hr⟩, rfl⟩, fun x _ _ => ?_⟩
    exact List.not_lt_nil _
  rw [List.length_append, show [dI].length = 1 from rfl, refGo_succ, nextN_eq hnx]
  exact refGo_first hs hr l.length []
end Go.Hog
