/- F62 F63, in one text. -/
import Derived.Test.YtdidefhdcinecaaDoorFX
import Derived.Test.YtdidefhdcinecaaDoorF15
import Derived.Test.YtdidefhdcinecaaDoorE27
import Derived.Test.YtdidefhdcinecaaDoorMD
set_option linter.unusedVariables false
set_option linter.unusedSimpArgs false
set_option maxRecDepth 100000
set_option maxHeartbeats 1000000
namespace Go.Hog
open Go.RowKit Rp Go.Proofs
/-- An item whose lists are one's own. -/
abbrev JI := Item × Option Addr × Nat × Option Addr × Nat
def jC (r : JI) : List Value := itemC r.1 r.2.1 r.2.2.1 r.2.2.2.1 r.2.2.2.2
def jS (r : JI) : HE := sRow r.2.1 r.2.2.1 r.1.refs
def jN (r : JI) : HE := nRow r.2.2.2.1 r.2.2.2.2 r.1.tree
def jR : List JI → List HE
  | [] => []
  | r :: l => jS r :: jN r :: jR l
def jRow (A : Option Addr) (c : Nat) (l : List JI) : HE := .row A l.length c 41 3 (l.flatMap jC)
theorem jC_len (r : JI) : (jC r).length = 3 := rfl
theorem jR_append : ∀ (l m : List JI), jR (l ++ m) = jR l ++ jR m
  | [], m => rfl
  | r :: l, m => by show jS r :: jN r :: jR (l ++ m) = _; rw [jR_append l m]; rfl
end Go.Hog

set_option linter.unusedVariables false
set_option linter.unusedSimpArgs false
set_option maxRecDepth 100000
namespace Go.Hog
open Go.RowKit Rp Go.Proofs
def NdB (x : Node) : Prop := x.path.length ≤ LB ∧ x.data.length ≤ LB ∧ -9223372036854775808 ≤ x.kind ∧ x.kind ≤ 9223372036854775807
structure ItB (x : Item) : Prop where
  name : x.name.length ≤ LB
  refsN : x.refs.length ≤ LB
  refs : ∀ z ∈ x.refs, z.length ≤ LB
  treeN : x.tree.length ≤ LB
  tree : ∀ z ∈ x.tree, NdB z
theorem Rw.nodes {g : View} : ∀ {l : List Node}, (∀ x ∈ l, NdB x) → Rw g l (l.flatMap nodeC)
  | [], _ => Rw.nil g
  | x :: l, h => by
    have h1 : Rw g [x] (nodeC x) := Rw.one ⟨rfl, h x (.head _)⟩
    exact h1.append (Rw.nodes fun y hy => h y (.tail _ hy))
theorem Sl.ofNodes {g : View} {A : Option Addr} {c : Nat} {l : List Node} (h : (nRow A c l).seen g) (hb : ∀ x ∈ l, NdB x) (hl : l.length ≤ LB) : Sl g A c l := (Rw.nodes hb).sl h rfl hl
theorem Sl.textsB {g : View} {A : Option Addr} {c : Nat} {l : List Str} (h : Sl g A c l) : ∀ z ∈ l, z.length ≤ LB := fun z hz => by
  obtain ⟨k, hk, rfl⟩ := List.getElem_of_mem hz
  obtain ⟨_, _, _, _, h⟩ := h.text hk
  exact h
theorem Sl.nodesB {g : View} {A : Option Addr} {c : Nat} {l : List Node} (h : Sl g A c l) : ∀ z ∈ l, NdB z := fun z hz => by
  obtain ⟨k, hk, rfl⟩ := List.getElem_of_mem hz
  obtain ⟨_, _, _, _, h⟩ := h.node hk
  exact h
theorem Sl.itB {g : View} {A : Option Addr} {c : Nat} {a : List Item} (h : Sl g A c a) : ∀ x ∈ a, ItB x := fun x hx => by
  obtain ⟨k, hk, rfl⟩ := List.getElem_of_mem hx
  obtain ⟨_, _, _, _, _, _, _, _, hn, hr, ht⟩ := h.item hk
  exact ⟨hn, hr.lim, hr.textsB, ht.lim, ht.nodesB⟩
theorem itB_dI : ItB dI := ⟨by decide, by decide, fun z hz => (by cases hz), by decide, fun z hz => (by cases hz)⟩
theorem jC_rp {g : View} {r : JI} (hS : (jS r).seen g) (hN : (jN r).seen g) (h : ItB r.1) : rp g r.1 (jC r) :=
  ⟨_, _, _, _, rfl, h.name, Sl.ofTexts hS rfl h.refs h.refsN, Sl.ofNodes hN h.tree h.treeN⟩
end Go.Hog
