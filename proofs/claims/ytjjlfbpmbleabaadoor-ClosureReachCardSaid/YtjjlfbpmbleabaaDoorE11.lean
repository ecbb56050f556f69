/- The engine, part 11: rows of several cells each. -/
import Derived.Test.YtjjlfbpmbleabaaDoorE10
set_option linter.unusedVariables false
set_option linter.unusedSimpArgs false
namespace Go.Hog
open Go.RowKit Rp
/-- Cells that are a list's. -/
structure Rw {α : Type} [Rp α] (g : View) (l : List α) (xs : List Value) : Prop where
  len : xs.length = l.length * sz α
  at_ : ∀ j (hj : j < l.length), rp g l[j] ((xs.drop (j * sz α)).take (sz α))
theorem Rw.nil {α : Type} [Rp α] (g : View) : Rw g ([] : List α) [] := ⟨by simp, fun j hj => by simp at hj⟩
theorem Rw.mono {α : Type} [Rp α] {g g' : View} {l : List α} {xs : List Value} (hs : Sub g g') (h : Rw g l xs) : Rw g' l xs := ⟨h.len, fun j hj => Rp.mono hs (h.at_ j hj)⟩
theorem Rw.append {α : Type} [Rp α] {g : View} {l m : List α} {xs ys : List Value} (h : Rw g l xs) (h2 : Rw g m ys) : Rw g (l ++ m) (xs ++ ys) := by
  refine ⟨by rw [List.length_append, List.length_append, h.len, h2.len, Nat.add_mul], fun j hj => ?_⟩
  have hl := h.len
  by_cases hlt : j < l.length
  · have h3 : j * sz α + sz α ≤ l.length * sz α := by rw [← Nat.succ_mul]; exact Nat.mul_le_mul_right _ hlt
    rw [List.drop_append_of_le_length (by omega), List.take_append_of_le_length (by rw [List.length_drop]; omega), List.getElem_append_left hlt]
    exact h.at_ j hlt
  · have h3 : l.length * sz α ≤ j * sz α := Nat.mul_le_mul_right _ (by omega)
    have h5 := h2.at_ (j - l.length) (by simp at hj; omega)
    rw [List.getElem_append_right (by omega), List.drop_append, List.drop_eq_nil_of_le (by omega), List.nil_append]
    rw [Nat.sub_mul, ← hl] at h5
    exact h5
theorem Rw.one {α : Type} [Rp α] {g : View} {x : α} {cs : List Value} (hx : rp g x cs) : Rw g [x] cs := by
  have h2 : cs.length = sz α := Rp.len hx
  refine ⟨by rw [h2]; simp, fun j hj => ?_⟩
  have : j = 0 := by simp at hj; exact hj
  subst this
  simpa [← h2] using hx
theorem Rw.snoc {α : Type} [Rp α] {g : View} {l : List α} {xs : List Value} {x : α} {cs : List Value} (h : Rw g l xs) (hx : rp g x cs) : Rw g (l ++ [x]) (xs ++ cs) := h.append (Rw.one hx)
theorem Rw.ones {α : Type} [Rp α] {g : View} {l : List α} {xs : List Value} (h : Rw g l xs) : ∀ u ∈ xs, u.oneCell' = true := by
  intro u hu
  obtain ⟨k, hk, rfl⟩ := List.getElem_of_mem hu
  have hp : 0 < sz α := Rp.pos
  have hkl : k / sz α < l.length := by
    rw [Nat.div_lt_iff_lt_mul hp, ← h.len]; exact hk
  refine Rp.one (h.at_ (k / sz α) hkl) _ ?_
  have e : k / sz α * sz α + k % sz α = k := by rw [Nat.mul_comm]; exact Nat.div_add_mod _ _
  refine List.mem_iff_getElem?.2 ⟨k % sz α, ?_⟩
  rw [List.getElem?_take, if_pos (Nat.mod_lt _ hp), List.getElem?_drop, e, List.getElem?_eq_getElem hk]
/-- A frozen row of such cells. -/
theorem Rw.sl {α : Type} [Rp α] {g : View} {A : Option Addr} {n c e sz : Nat} {xs : List Value} {l : List α} (hr : Rw g l xs) (h : (HE.row A n c e sz xs).seen g) (hn : n = l.length) (hl : l.length ≤ LB) (hsz : sz = Rp.sz α := by rfl) : Sl g A c l :=
  Sl.ofRow h hn hsz hl hr.at_
theorem Rw.texts {g : View} {l : List Str} (hb : ∀ s ∈ l, s.length ≤ LB) : Rw g l (l.map str) := by
  refine ⟨by rw [List.length_map]; exact (Nat.mul_one _).symm, fun j hj => ?_⟩
  show ((l.map str).drop (j * 1)).take 1 = _ ∧ _
  refine ⟨?_, hb _ (List.getElem_mem hj)⟩
  rw [Nat.mul_one, ← List.map_drop, ← List.map_take, List.drop_eq_getElem_cons hj]
  rfl
/-- What a slice of the view shows as cells. -/
theorem Sl.cells {α : Type} [Rp α] {f : View} {A : Option Addr} {c : Nat} {l : List α} (h : Sl f A c l) : ∃ xs, Rw f l xs ∧ (0 < l.length → ∃ b o, A = some ⟨b, o, none⟩ ∧ Cells f b o xs) := by
  have key : ∀ k, k ≤ l.length → ∃ xs, Rw f (l.take k) xs ∧ ∀ b o, A = some ⟨b, o, none⟩ → Cells f b o xs := by
    intro k
    induction k with
    | zero => exact fun _ => ⟨[], by simpa using Rw.nil f, fun _ _ _ => trivial⟩
    | succ k ih =>
      intro hk
      obtain ⟨xs, h1, h2⟩ := ih (by omega)
      obtain ⟨b, o, e, cs, h3, h4⟩ := h.at_ k (by omega)
      refine ⟨xs ++ cs, ?_, fun b' o' e' => ?_⟩
      · rw [List.take_add_one, List.getElem?_eq_getElem (by omega)]
        exact h1.snoc h3
      · rw [e] at e'
        injection e' with e'
        injection e' with e1 e2
        subst e1 e2
        refine (h2 _ _ e).append ?_
        rw [h1.len, List.length_take, Nat.min_eq_left (by omega)]
        exact h4
  obtain ⟨xs, h1, h2⟩ := key l.length (Nat.le_refl _)
  rw [List.take_length] at h1
  refine ⟨xs, h1, fun h0 => ?_⟩
  obtain ⟨b, o, e, _⟩ := h.at_ 0 h0
  exact ⟨b, o, e, h2 b o e⟩
/-- A part of a slice. -/
theorem Sl.take {α : Type} [Rp α] {f : View} {A : Option Addr} {c : Nat} {l : List α} (h : Sl f A c l) (k : Nat) : Sl f A c (l.take k) :=
  ⟨Nat.le_trans (List.length_take_le' _ _) h.cap, Nat.le_trans (List.length_take_le' _ _) h.lim, h.top, fun j hj => by
    have hj' : j < l.length := Nat.lt_of_lt_of_le hj (List.length_take_le' _ _)
    have := h.at_ j hj'
    simpa using this⟩
theorem Sl.recap {α : Type} [Rp α] {f : View} {A : Option Addr} {c c' : Nat} {l : List α} (h : Sl f A c l) (h1 : l.length ≤ c') (h2 : c' ≤ c) : Sl f A c' l :=
  ⟨h1, h.lim, Nat.le_trans h2 h.top, h.at_⟩
theorem Sl.drop {α : Type} [Rp α] {f : View} {b o c : Nat} {l : List α} (h : Sl f (some ⟨b, o, none⟩) c l) (k : Nat) (hk : k ≤ l.length) : Sl f (some ⟨b, o + k * sz α, none⟩) (c - k) (l.drop k) := by
  refine ⟨by rw [List.length_drop]; have := h.cap; omega, by rw [List.length_drop]; have := h.lim; omega, by have := h.top; omega, fun j hj => ?_⟩
  rw [List.length_drop] at hj
  obtain ⟨b', o', e, cs, h1, h2⟩ := h.at_ (k + j) (by omega)
  injection e with e
  injection e with e1 e2
  subst e1 e2
  refine ⟨_, _, rfl, cs, by simpa using h1, ?_⟩
  rw [Nat.add_assoc, ← Nat.add_mul]
  exact h2
end Go.Hog
