/- Plain words: what refers to what, as a list. -/
import Derived.Test.YtiahipbkheaafaaS1
set_option linter.unusedVariables false
namespace Go.Hog
def isEdge (l : List Item) (x : Item) (r : Str) : Bool := decide (r ∈ names l ∧ r ≠ x.name)
def edg (l : List Item) (x : Item) (rs : List Str) : List (Str × Str) := (rs.filter fun r => isEdge l x r).map fun r => (r, x.name)
def edges (l : List Item) (k : Nat) : List (Str × Str) := (l.take k).flatMap fun x => edg l x x.refs
def cntE (es : List (Str × Str)) (s : Str) : Nat := (es.filter fun e => decide (e.2 = s)).length
def bkE (es : List (Str × Str)) (r : Str) : List Str := (es.filter fun e => decide (e.1 = r)).map (·.2)
def ksE (es : List (Str × Str)) : List Str := es.foldl (fun ks e => if e.1 ∈ ks then ks else ks ++ [e.1]) []
theorem edg_snoc {l : List Item} {x : Item} {rs : List Str} {r : Str} (h : isEdge l x r = true) : edg l x (rs ++ [r]) = edg l x rs ++ [(r, x.name)] := by simp [edg, List.filter_append, h]
theorem edg_snoc_no {l : List Item} {x : Item} {rs : List Str} {r : Str} (h : isEdge l x r = false) : edg l x (rs ++ [r]) = edg l x rs := by simp [edg, List.filter_append, h]
theorem edges_succ {l : List Item} {k : Nat} (h : k < l.length) : edges l (k + 1) = edges l k ++ edg l l[k] l[k].refs := by
  unfold edges
  rw [List.take_add_one, List.getElem?_eq_getElem h]
  simp only [Option.toList, List.flatMap_append, List.flatMap_cons, List.flatMap_nil, List.append_nil]
theorem cntE_snoc (es : List (Str × Str)) (r n s : Str) : cntE (es ++ [(r, n)]) s = if s = n then cntE es s + 1 else cntE es s := by
  unfold cntE
  rw [List.filter_append]
  by_cases h : s = n
  · subst h; simp
  · have : ¬ n = s := fun e => h e.symm
    simp [this, h]
theorem bkE_snoc (es : List (Str × Str)) (r n s : Str) : bkE (es ++ [(r, n)]) s = if s = r then bkE es s ++ [n] else bkE es s := by
  unfold bkE
  rw [List.filter_append]
  by_cases h : s = r
  · subst h; simp
  · have : ¬ r = s := fun e => h e.symm
    simp [this, h]
theorem ksE_snoc (es : List (Str × Str)) (r n : Str) : ksE (es ++ [(r, n)]) = if r ∈ ksE es then ksE es else ksE es ++ [r] := by
  unfold ksE
  rw [List.foldl_append]
  rfl
theorem snoc_ind {α : Type} {P : List α → Prop} (h0 : P []) (h1 : ∀ l x, P l → P (l ++ [x])) (l : List α) : P l := by
  have : ∀ r : List α, P r.reverse := fun r => by
    induction r with
    | nil => exact h0
    | cons x r ih => rw [List.reverse_cons]; exact h1 _ _ ih
  have h := this l.reverse
  rwa [List.reverse_reverse] at h
theorem ksE_spec (es : List (Str × Str)) : (ksE es).Nodup ∧ ∀ r, r ∈ ksE es ↔ ∃ e ∈ es, e.1 = r := by
  refine snoc_ind (P := fun es => (ksE es).Nodup ∧ ∀ r, r ∈ ksE es ↔ ∃ e ∈ es, e.1 = r) ?_ ?_ es
  · simp [ksE]
  · rintro es ⟨r, n⟩ ih
    rw [ksE_snoc]
    split
    · rename_i h
      refine ⟨ih.1, fun s => ?_⟩
      rw [ih.2]
      constructor
      · rintro ⟨e, he, rfl⟩; exact ⟨e, by simp [he], rfl⟩
      · rintro ⟨e, he, rfl⟩
        rcases List.mem_append.1 he with he | he
        · exact ⟨e, he, rfl⟩
        · have : e = (r, n) := by simpa using he
          subst this
          exact (ih.2 r).1 h
    · rename_i h
      refine ⟨List.nodup_append.2 ⟨ih.1, by simp, fun a ha b hb => ?_⟩, fun s => ?_⟩
      · have : b = r := by simpa using hb
        subst this
        exact fun e => h (e ▸ ha)
      · rw [List.mem_append, ih.2]
        constructor
        · rintro (⟨e, he, rfl⟩ | hs)
          · exact ⟨e, by simp [he], rfl⟩
          · have : s = r := by simpa using hs
            exact ⟨(r, n), by simp, this.symm⟩
        · rintro ⟨e, he, rfl⟩
          rcases List.mem_append.1 he with he | he
          · exact .inl ⟨e, he, rfl⟩
          · have : e = (r, n) := by simpa using he
            subst this
            exact .inr (by simp)
theorem bkE_nil {es : List (Str × Str)} {r : Str} (h : r ∉ ksE es) : bkE es r = [] := by
  unfold bkE
  have : es.filter (fun e => decide (e.1 = r)) = [] := by
    rw [List.filter_eq_nil_iff]
    intro e he
    simp only [decide_eq_true_eq]
    exact fun h2 => h (((ksE_spec es).2 r).2 ⟨e, he, h2⟩)
  rw [this]; rfl
theorem cntE_le (es : List (Str × Str)) (s : Str) : cntE es s ≤ es.length := List.length_filter_le _ _
theorem bkE_le (es : List (Str × Str)) (s : Str) : (bkE es s).length ≤ es.length := by unfold bkE; rw [List.length_map]; exact List.length_filter_le _ _
theorem edg_le (l : List Item) (x : Item) (rs : List Str) : (edg l x rs).length ≤ rs.length := by unfold edg; rw [List.length_map]; exact List.length_filter_le _ _
/-- Of moderate size. -/
def Fit (l : List Item) : Prop := l.length ≤ 1000 ∧ ∀ x ∈ l, x.refs.length ≤ 1000
theorem edges_le {l : List Item} (h : Fit l) : ∀ k, k ≤ l.length → (edges l k).length ≤ 1000 * k
  | 0, _ => by simp [edges]
  | k + 1, hk => by
    rw [edges_succ (by omega), List.length_append]
    have h1 := edges_le h k (by omega)
    have h2 := edg_le l l[k] l[k].refs
    have h3 := h.2 l[k] (List.getElem_mem _)
    omega
theorem mem_bkE {es : List (Str × Str)} {r s : Str} : s ∈ bkE es r ↔ (r, s) ∈ es := by
  unfold bkE
  simp only [List.mem_map, List.mem_filter, decide_eq_true_eq]
  constructor
  · rintro ⟨⟨a, b⟩, ⟨h1, rfl⟩, rfl⟩; exact h1
  · intro h; exact ⟨(r, s), ⟨h, rfl⟩, rfl⟩
theorem mem_edg {l : List Item} {x : Item} {rs : List Str} {e : Str × Str} : e ∈ edg l x rs ↔ e.1 ∈ rs ∧ e.1 ∈ names l ∧ e.1 ≠ x.name ∧ e.2 = x.name := by
  unfold edg isEdge
  simp only [List.mem_map, List.mem_filter, decide_eq_true_eq]
  constructor
  · rintro ⟨r, ⟨h1, h2, h3⟩, rfl⟩; exact ⟨h1, h2, h3, rfl⟩
  · obtain ⟨r, n⟩ := e
    rintro ⟨h1, h2, h3, rfl⟩; exact ⟨r, ⟨h1, h2, h3⟩, rfl⟩
theorem mem_edges {l : List Item} {k : Nat} {e : Str × Str} (h : e ∈ edges l k) : ∃ x ∈ l, e ∈ edg l x x.refs := by
  unfold edges at h
  obtain ⟨x, hx, he⟩ := List.mem_flatMap.1 h
  exact ⟨x, List.mem_of_mem_take hx, he⟩
end Go.Hog
