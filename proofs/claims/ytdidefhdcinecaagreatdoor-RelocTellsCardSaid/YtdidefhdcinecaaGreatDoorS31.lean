/- Plain: a closure put under another prefix. -/
import Derived.Test.YtdidefhdcinecaaGreatDoorS30
import Derived.Test.YtdidefhdcinecaaGreatDoorCC
set_option linter.unusedVariables false
set_option linter.unusedSimpArgs false
namespace Go.Hog
open Go.RowKit Rp
def swS (s o n : Str) : Str := if o = [] ∨ n.length ≠ o.length then s else swG o n 0 s
def cnS (s o n : Str) : Nat := if o = [] ∨ n.length ≠ o.length then 0 else cnG o 0 s
def swN (o n : Str) (z : Node) : Node := { z with data := swS z.data o n }
def swI (o n : Str) (x : Item) : Item := { x with tree := x.tree.map (swN o n) }
def cntT (u : Str) (t : List Node) : Nat := (t.map fun z => (placesI z.data u).length).sum
def cntI (u : Str) (a : List Item) : Nat := (a.map fun x => cntT u x.tree).sum
def toE (o n : Str) (a : List Item) : Int :=
  if valE o a ≠ 0 then valE o a else if ¬ prefixOk n ∨ n.length ≠ o.length then 11 else if n ≠ o ∧ 0 < cntI n a then 9 else if valE n (a.map (swI o n)) ≠ 0 then 8 else 0
def toR (o n : Str) (a : List Item) : List Item := if toE o n a = 0 then a.map (swI o n) else []
theorem toE_zero {o n : Str} {a : List Item} : toE o n a = 0 ↔ valE o a = 0 ∧ prefixOk n ∧ n.length = o.length ∧ (n ≠ o → cntI n a = 0) ∧ valE n (a.map (swI o n)) = 0 := by
  unfold toE
  constructor
  · intro h
    by_cases h1 : valE o a = 0
    · rw [if_neg (Classical.not_not.2 h1)] at h
      by_cases h2 : ¬ prefixOk n ∨ n.length ≠ o.length
      · rw [if_pos h2] at h; cases h
      · rw [if_neg h2] at h
        by_cases h3 : n ≠ o ∧ 0 < cntI n a
        · rw [if_pos h3] at h; cases h
        · rw [if_neg h3] at h
          by_cases h4 : valE n (a.map (swI o n)) = 0
          · refine ⟨h1, ?_, ?_, fun h5 => ?_, h4⟩
            · exact Classical.not_not.1 fun h6 => h2 (.inl h6)
            · exact Classical.not_not.1 fun h6 => h2 (.inr h6)
            · by_cases h6 : cntI n a = 0
              · exact h6
              · exact absurd ⟨h5, by omega⟩ h3
          · rw [if_pos h4] at h; cases h
    · rw [if_pos h1] at h
      exact absurd h h1
  · rintro ⟨h1, h2, h3, h4, h5⟩
    rw [if_neg (Classical.not_not.2 h1), if_neg (by rintro (h | h); exact h h2; exact h h3), if_neg (by rintro ⟨h6, h7⟩; rw [h4 h6] at h7; omega), if_neg (Classical.not_not.2 h5)]
theorem toR_zero {o n : Str} {a : List Item} (h : toE o n a = 0) : toR o n a = a.map (swI o n) := if_pos h
theorem toR_bad {o n : Str} {a : List Item} (h : toE o n a ≠ 0) : toR o n a = [] := if_neg h
theorem swS_pf {o n s : Str} (ho : Pf o) (hl : n.length = o.length) : swS s o n = swG o n 0 s := if_neg (by rintro (h | h); exact ho.ne h; exact h hl)
theorem swS_len (s o n : Str) : (swS s o n).length = s.length := by
  unfold swS
  split
  · rfl
  · rename_i h
    rw [swG_len (fun e => h (.inl e)) (by
      by_cases e : n.length = o.length
      · exact e
      · exact absurd (.inr e) h)]
    omega
theorem sum_zero {l : List Nat} : l.sum = 0 ↔ ∀ x ∈ l, x = 0 := List.sum_eq_zero_iff_forall_eq_nat
theorem cntT_zero {u : Str} (hu : u ≠ []) {t : List Node} : cntT u t = 0 ↔ ∀ z ∈ t, ocN u z.data = 0 := by
  unfold cntT
  rw [sum_zero]
  constructor
  · intro h z hz
    rw [← places_ocN hu]
    exact h _ (List.mem_map.2 ⟨z, hz, rfl⟩)
  · intro h x hx
    obtain ⟨z, hz, rfl⟩ := List.mem_map.1 hx
    rw [places_ocN hu]
    exact h z hz
theorem cntI_zero {u : Str} (hu : u ≠ []) {a : List Item} : cntI u a = 0 ↔ ∀ x ∈ a, ∀ z ∈ x.tree, ocN u z.data = 0 := by
  unfold cntI
  rw [sum_zero]
  constructor
  · intro h x hx
    exact (cntT_zero hu).1 (h _ (List.mem_map.2 ⟨x, hx, rfl⟩))
  · intro h y hy
    obtain ⟨x, hx, rfl⟩ := List.mem_map.1 hy
    exact (cntT_zero hu).2 (h x hx)
theorem map_same {α : Type} {l : List α} {p : α → α} (h : ∀ x ∈ l, p x = x) : l.map p = l := by
  conv => rhs; rw [← List.map_id l]
  exact List.map_congr_left h
theorem cntI_map {u v : Str} (hu : u ≠ []) (hv : v ≠ []) {p : Node → Node} {a : List Item} (h : ∀ x ∈ a, ∀ z ∈ x.tree, ocN u (p z).data = ocN v z.data) : cntI u (a.map fun x => { x with tree := x.tree.map p }) = cntI v a := by
  unfold cntI
  rw [List.map_map]
  refine congrArg List.sum (List.map_congr_left fun x hx => ?_)
  show cntT u (x.tree.map p) = cntT v x.tree
  unfold cntT
  rw [List.map_map]
  refine congrArg List.sum (List.map_congr_left fun z hz => ?_)
  show (placesI (p z).data u).length = _
  rw [places_ocN hu, places_ocN hv]
  exact h x hx z hz
theorem swI_map {p q r : Node → Node} {a : List Item} (h : ∀ x ∈ a, ∀ z ∈ x.tree, q (p z) = r z) : (a.map fun x => { x with tree := x.tree.map p }).map (fun x => { x with tree := x.tree.map q }) = a.map (fun x => { x with tree := x.tree.map r } : Item → Item) := by
  rw [List.map_map]
  refine List.map_congr_left fun x hx => ?_
  show ({ x with tree := (x.tree.map p).map q } : Item) = { x with tree := x.tree.map r }
  rw [List.map_map]
  congr 1
  exact List.map_congr_left fun z hz => h x hx z hz
theorem swI_same {p : Node → Node} {a : List Item} (h : ∀ x ∈ a, ∀ z ∈ x.tree, p z = z) : a.map (fun x => { x with tree := x.tree.map p } : Item → Item) = a := by
  refine map_same fun x hx => ?_
  show ({ x with tree := x.tree.map p } : Item) = x
  rw [map_same fun z hz => h x hx z hz]
theorem node_data {z : Node} {s : Str} (h : s = z.data) : ({ z with data := s } : Node) = z := by rw [h]
theorem swN_self {o : Str} (ho : Pf o) (z : Node) : swN o o z = z := node_data (by rw [swS_pf ho rfl, swG_self ho.ne]; rfl)
theorem valE_pre {o n : Str} {a : List Item} (h : valE o a = 0) (hn : prefixOk n) : valE n a = 0 := by
  obtain ⟨_, h2, h3, h4⟩ := valE_zero.1 h
  exact valE_zero.2 ⟨hn, h2, h3, h4⟩
theorem valE_pf {o : Str} {a : List Item} (h : valE o a = 0) : prefixOk o := (valE_zero.1 h).pre
/-- Put under another prefix and back. -/
theorem to_back {o n : Str} {a : List Item} (h : toE o n a = 0) : toE n o (a.map (swI o n)) = 0 ∧ (a.map (swI o n)).map (swI n o) = a ∧ (o ≠ n → cntI o (a.map (swI o n)) = 0) ∧ cntI n (a.map (swI o n)) = cntI o a := by
  obtain ⟨h1, h2, h3, h4, h5⟩ := toE_zero.1 h
  have hop := valE_pf h1
  have ho := prefix_pf hop
  have hn := prefix_pf h2
  have hz : n ≠ o → ∀ x ∈ a, ∀ z ∈ x.tree, ocN n z.data = 0 := fun hne => (cntI_zero hn.ne).1 (h4 hne)
  have hb : (a.map (swI o n)).map (swI n o) = a := by
    have e := swI_map (p := swN o n) (q := swN n o) (r := id) (a := a) fun x hx z hz2 => by
      by_cases e : n = o
      · subst e
        rw [swN_self ho, swN_self ho]; rfl
      · show ({ z with data := swS (swS z.data o n) n o } : Node) = z
        refine node_data ?_
        rw [swS_pf ho h3, swS_pf hn h3.symm, sw_back ho hn (hz e x hx z hz2) h3.symm (Ne.symm e)]
    refine e.trans (swI_same fun x _ z _ => rfl)
  have hgone : o ≠ n → cntI o (a.map (swI o n)) = 0 := fun hne => by
    refine (cntI_zero ho.ne).2 fun x hx z hz2 => ?_
    obtain ⟨y, hy, rfl⟩ := List.mem_map.1 hx
    obtain ⟨u, hu, rfl⟩ := List.mem_map.1 hz2
    show ocN o (swS u.data o n) = 0
    rw [swS_pf ho h3]
    exact sw_gone ho hn h3.symm hne _
  refine ⟨?_, hb, hgone, ?_⟩
  · refine toE_zero.2 ⟨h5, hop, h3.symm, hgone, ?_⟩
    rw [hb]; exact h1
  · refine cntI_map hn.ne ho.ne fun x hx z hz2 => ?_
    show ocN n (swS z.data o n) = ocN o z.data
    rw [swS_pf ho h3]
    by_cases e : n = o
    · subst e
      rw [swG_self ho.ne]; rfl
    · exact sw_there ho hn h3.symm (Ne.symm e) (hz e x hx z hz2)
theorem swI_none {o n : Str} {a : List Item} (ho : Pf o) (h : cntI o a = 0) : a.map (swI o n) = a := by
  refine swI_same (p := swN o n) fun x hx z hz => node_data ?_
  have := (cntI_zero ho.ne).1 h x hx z hz
  unfold swS
  split
  · rfl
  · exact sw_none ho.ne this
theorem to_none {o n : Str} {a : List Item} (h1 : cntI o a = 0) (h2 : cntI n a = 0) :
    toE o n a = (if valE o a = 0 ∧ (¬ prefixOk n ∨ n.length ≠ o.length) then 11 else valE o a) ∧ (toE o n a = 0 → a.map (swI o n) = a) := by
  by_cases hv : valE o a = 0
  · have ho := prefix_pf (valE_pf hv)
    have hs := swI_none (n := n) ho h1
    refine ⟨?_, fun _ => hs⟩
    unfold toE
    rw [if_neg (Classical.not_not.2 hv)]
    by_cases hp : ¬ prefixOk n ∨ n.length ≠ o.length
    · rw [if_pos hp, if_pos ⟨hv, hp⟩]
    · rw [if_neg hp, if_neg (by rintro ⟨_, h⟩; omega), hs, if_neg (Classical.not_not.2 (valE_pre hv (Classical.not_not.1 fun h => hp (.inl h)))), if_neg (by rintro ⟨_, h⟩; exact hp h), hv]
  · refine ⟨?_, fun h => absurd (toE_zero.1 h).1 hv⟩
    unfold toE
    rw [if_pos hv, if_neg (by rintro ⟨h, _⟩; exact hv h)]
theorem to_steps {a b c : Str} {l : List Item} (h1 : toE a b l = 0) (h2 : toE b c (l.map (swI a b)) = 0) : toE a c l = 0 ∧ (l.map (swI a b)).map (swI b c) = l.map (swI a c) := by
  obtain ⟨p1, p2, p3, p4, p5⟩ := toE_zero.1 h1
  obtain ⟨q1, q2, q3, q4, q5⟩ := toE_zero.1 h2
  have ha := prefix_pf (valE_pf p1)
  have hb := prefix_pf p2
  have hc := prefix_pf q2
  have hz : b ≠ a → ∀ x ∈ l, ∀ z ∈ x.tree, ocN b z.data = 0 := fun hne => (cntI_zero hb.ne).1 (p4 hne)
  have he : (l.map (swI a b)).map (swI b c) = l.map (swI a c) := by
    refine swI_map (p := swN a b) (q := swN b c) (r := swN a c) fun x hx z hz2 => ?_
    by_cases e : b = a
    · subst e
      rw [swN_self ha]
    · show ({ z with data := swS (swS z.data a b) b c } : Node) = { z with data := swS z.data a c }
      rw [swS_pf ha p3, swS_pf hb q3, swS_pf ha (q3.trans p3), sw_steps ha hb (hz e x hx z hz2) p3.symm (Ne.symm e)]
  refine ⟨toE_zero.2 ⟨p1, q2, q3.trans p3, fun hne => ?_, ?_⟩, he⟩
  · by_cases e : c = b
    · subst e
      exact p4 hne
    · have h3 := (cntI_zero hc.ne).1 (q4 e)
      refine (cntI_zero hc.ne).2 fun x hx z hz2 => ?_
      have h4 : ocN c (swS z.data a b) = 0 := h3 (swI a b x) (List.mem_map.2 ⟨x, hx, rfl⟩) (swN a b z) (List.mem_map.2 ⟨z, hz2, rfl⟩)
      rw [swS_pf ha p3, sw_other ha hb hc p3.symm (q3.trans p3) hne e] at h4
      exact h4
  · rw [← he]; exact q5
theorem toE_second {b c : Str} {l : List Item} (hv : valE b l = 0) (h : toE b c l ≠ 0) : toE b c l = 11 ∨ toE b c l = 9 ∨ toE b c l = 8 := by
  unfold toE at h ⊢
  rw [if_neg (Classical.not_not.2 hv)] at h ⊢
  split
  · exact .inl rfl
  · split
    · exact .inr (.inl rfl)
    · split
      · exact .inr (.inr rfl)
      · rename_i h2 h3 h4
        rw [if_neg h2, if_neg h3, if_neg h4] at h
        exact absurd rfl h
end Go.Hog
