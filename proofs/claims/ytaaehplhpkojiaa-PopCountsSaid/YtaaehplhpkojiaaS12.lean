/- Plain words: counting who reaches whom, both ways. -/
import Derived.Test.YtaaehplhpkojiaaS9
set_option linter.unusedVariables false
set_option linter.unusedSimpArgs false
namespace Go.Hog
open Classical in
/-- Who reaches s; whom n reaches. -/
noncomputable def toL (a : List Item) (s : Str) : List Str := (names a).filter fun n => decide (Rch a [n] s)
open Classical in
noncomputable def frL (a : List Item) (n : Str) : List Str := (names a).filter fun s => decide (Rch a [n] s)
theorem toL_mem {a : List Item} {s n : Str} : n ∈ toL a s ↔ n ∈ names a ∧ Rch a [n] s := by
  unfold toL
  rw [List.mem_filter]
  simp
theorem frL_mem {a : List Item} {s n : Str} : s ∈ frL a n ↔ s ∈ names a ∧ Rch a [n] s := by
  unfold frL
  rw [List.mem_filter]
  simp
theorem rch_me {a : List Item} {s : Str} (hs : s ∈ names a) : Rch a [s] s := .base (by simp) (getI_some.2 hs)
theorem rch_trans {a : List Item} {S : List Str} {v s : Str} (h1 : Rch a S v) (h2 : Rch a [v] s) : Rch a S s := by
  induction h2 with
  | @base s h h' =>
    rw [List.mem_singleton] at h
    subst h; exact h1
  | step _ h3 h4 h5 ih => exact .step ih h3 h4 h5
open Classical in
theorem sc_toL {a : List Item} (hnd : (names a).Nodup) {s : Str} (hs : s ∈ names a) : sc a s + 1 = (toL a s).length := by
  have h1 : sc a s = ((names a).filter fun n => decide (n ≠ s ∧ Rch a [n] s)).length := by
    rw [sc_eq]
    unfold names
    rw [List.filter_map, List.length_map]
    rfl
  have hn : (toL a s).Nodup := hnd.filter _
  have hm : s ∈ toL a s := toL_mem.2 ⟨hs, rch_me hs⟩
  have h2 : (toL a s).erase s = (names a).filter fun n => decide (n ≠ s ∧ Rch a [n] s) := by
    rw [hn.erase_eq_filter]
    unfold toL
    rw [List.filter_filter]
    refine List.filter_congr fun x _ => ?_
    by_cases h3 : x = s <;> by_cases h4 : Rch a [x] s <;> simp [h3, h4]
  have h3 := List.length_erase_of_mem hm
  rw [h2, ← h1] at h3
  have h4 : 0 < (toL a s).length := List.length_pos_of_mem hm
  omega
theorem frL_len {a : List Item} (hnd : (names a).Nodup) (n : Str) : (reachL a [n]).length = (frL a n).length := by
  have h1 : (reachL a [n]).Nodup := strict_nodup (reachL_sorted a [n])
  have h2 : (frL a n).Nodup := hnd.filter _
  refine ((List.perm_ext_iff_of_nodup h1 h2).2 fun s => ?_).length_eq
  rw [reachL_mem, frL_mem]
  exact ⟨fun h => ⟨h.names, h⟩, fun h => h.2⟩
theorem sum_zero {α : Type} (m : List α) : (m.map fun _ => 0).sum = 0 := by
  induction m with
  | nil => rfl
  | cons x m ih => rw [List.map_cons, List.sum_cons, ih]
theorem sum_cons_if {α : Type} (p : α → Bool) (f : α → Nat) (m : List α) : (m.filter p).length + (m.map f).sum = (m.map fun x => (if p x = true then 1 else 0) + f x).sum := by
  induction m with
  | nil => rfl
  | cons x m ih =>
    rw [List.map_cons, List.sum_cons, List.map_cons, List.sum_cons, ← ih]
    by_cases h : p x = true
    · rw [List.filter_cons_of_pos h, List.length_cons, if_pos h]; omega
    · rw [List.filter_cons_of_neg h, if_neg h]; omega
theorem both_ways {α β : Type} (P : α → β → Bool) (l : List β) (m : List α) : (l.map fun y => (m.filter fun x => P x y).length).sum = (m.map fun x => (l.filter fun y => P x y).length).sum := by
  induction l with
  | nil => exact (sum_zero m).symm
  | cons y l ih =>
    rw [List.map_cons, List.sum_cons, ih, sum_cons_if]
    refine congrArg List.sum (List.map_congr_left fun x _ => ?_)
    by_cases h : P x y = true
    · rw [List.filter_cons_of_pos (p := fun y => P x y) h, List.length_cons, if_pos h]; omega
    · rw [List.filter_cons_of_neg (p := fun y => P x y) h, if_neg h]; omega
theorem sum_less {α : Type} (f h g k : α → Nat) (l : List α) (h1 : ∀ x ∈ l, f x + 1 = g x) (h2 : ∀ x ∈ l, h x + 1 = k x) : (l.map g).sum + (l.map h).sum = (l.map k).sum + (l.map f).sum := by
  induction l with
  | nil => rfl
  | cons x l ih =>
    simp only [List.map_cons, List.sum_cons]
    have i1 := h1 x (by simp)
    have i2 := h2 x (by simp)
    have := ih (fun y hy => h1 y (List.mem_cons_of_mem _ hy)) (fun y hy => h2 y (List.mem_cons_of_mem _ hy))
    omega
open Classical in
theorem sums_eq {a : List Item} (hnd : (names a).Nodup) : (a.map fun x => sc a x.name).sum = (a.map fun x => (reachL a [x.name]).length - 1).sum := by
  have hm : ∀ x ∈ a, x.name ∈ names a := fun x hx => List.mem_map.2 ⟨x, hx, rfl⟩
  have h1 : ((names a).map fun s => (toL a s).length).sum = ((names a).map fun n => (frL a n).length).sum := both_ways (fun n s => decide (Rch a [n] s)) (names a) (names a)
  unfold names at h1
  rw [List.map_map, List.map_map] at h1
  have h2 := sum_less (fun x : Item => sc a x.name) (fun x : Item => (reachL a [x.name]).length - 1) (fun x : Item => (toL a x.name).length) (fun x : Item => (frL a x.name).length) a (fun x hx => sc_toL hnd (hm x hx)) (fun x hx => by
    have h3 : x.name ∈ reachL a [x.name] := reachL_mem.2 (rch_me (hm x hx))
    have h4 := List.length_pos_of_mem h3
    have := frL_len hnd x.name
    show (reachL a [x.name]).length - 1 + 1 = (frL a x.name).length
    omega)
  have h1' : (a.map fun x : Item => (toL a x.name).length).sum = (a.map fun x : Item => (frL a x.name).length).sum := h1
  omega
theorem sc_ring {a : List Item} (hnd : (names a).Nodup) {x : Item} {v : Str} (hx : x ∈ a) (hv : v ∈ names a) (hr : v ∈ x.refs) (h : Rch a [v] x.name) : sc a x.name = sc a v := by
  have hu : x.name ∈ names a := List.mem_map.2 ⟨x, hx, rfl⟩
  have h1 := sc_toL hnd hu
  have h2 := sc_toL hnd hv
  have e : toL a x.name = toL a v := by
    unfold toL
    refine List.filter_congr fun n _ => ?_
    have : Rch a [n] x.name ↔ Rch a [n] v := ⟨fun h3 => .step h3 (getI_of hnd hx) hr (getI_some.2 hv), fun h3 => rch_trans h3 h⟩
    exact decide_eq_decide.2 this
  rw [e] at h1
  omega
theorem sc_above {a : List Item} (hnd : (names a).Nodup) {x : Item} {v : Str} (hx : x ∈ a) (hv : v ∈ names a) (hr : v ∈ x.refs) (h : ¬ Rch a [v] x.name) : sc a x.name + 1 ≤ sc a v := by
  have hu : x.name ∈ names a := List.mem_map.2 ⟨x, hx, rfl⟩
  have h1 := sc_toL hnd hu
  have h2 := sc_toL hnd hv
  have hn : (toL a x.name).Nodup := hnd.filter _
  have hvn : v ∉ toL a x.name := fun e => h (toL_mem.1 e).2
  have h3 := (List.nodup_cons.2 ⟨hvn, hn⟩).length_le_of_subset (l₂ := toL a v) (fun n hn => by
    rcases List.mem_cons.1 hn with rfl | hn
    · exact toL_mem.2 ⟨hv, rch_me hv⟩
    · obtain ⟨h4, h5⟩ := toL_mem.1 hn
      exact toL_mem.2 ⟨h4, .step h5 (getI_of hnd hx) hr (getI_some.2 hv)⟩)
  rw [List.length_cons] at h3
  omega
end Go.Hog
