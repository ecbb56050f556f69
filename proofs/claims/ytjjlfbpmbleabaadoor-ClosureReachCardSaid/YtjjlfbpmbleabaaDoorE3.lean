/- The engine, part 3: what reads as what; loads, own blocks, calls, returns. -/
import Derived.Test.YtjjlfbpmbleabaaDoorE2
import Derived.Laws.World
set_option linter.unusedVariables false
set_option linter.unusedSimpArgs false
namespace Go.Hog
open Go.RowKit

/-! ### What reads as what -/
def Cells (f : View) (b o : Nat) : List Value → Prop
  | [] => True
  | v :: vs => f.cell? ⟨b, o, none⟩ = some v ∧ Cells f b (o + 1) vs
theorem Cells.mono {f g : View} (h : Sub f g) {b : Nat} : ∀ {vs : List Value} {o : Nat}, Cells f b o vs → Cells g b o vs
  | [], _, _ => trivial
  | _ :: _, _, hc => ⟨h.cell hc.1, Cells.mono h hc.2⟩
theorem Cells.get {f : View} {b : Nat} : ∀ {vs : List Value} {o : Nat}, Cells f b o vs → ∀ j v, vs[j]? = some v → f.cell? ⟨b, o + j, none⟩ = some v
  | [], _, _, j, v, hj => by simp at hj
  | u :: vs, o, hc, 0, v, hj => by simp at hj; subst hj; exact hc.1
  | u :: vs, o, hc, j + 1, v, hj => by
    have := Cells.get hc.2 j v (by simpa using hj)
    rwa [show o + 1 + j = o + (j + 1) by omega] at this
theorem Cells.of {f : View} {b : Nat} : ∀ {vs : List Value} {o : Nat}, (∀ j v, vs[j]? = some v → f.cell? ⟨b, o + j, none⟩ = some v) → Cells f b o vs
  | [], _, _ => trivial
  | u :: vs, o, h => ⟨h 0 u rfl, Cells.of fun j v hj => by
    have := h (j + 1) v (by simpa using hj)
    rwa [show o + (j + 1) = o + 1 + j by omega] at this⟩
theorem Cells.append {f : View} {b : Nat} {us vs : List Value} {o : Nat} (h1 : Cells f b o us) (h2 : Cells f b (o + us.length) vs) : Cells f b o (us ++ vs) := by
  refine Cells.of fun j v hj => ?_
  by_cases hlt : j < us.length
  · rw [List.getElem?_append_left hlt] at hj
    exact h1.get j v hj
  · rw [List.getElem?_append_right (by omega)] at hj
    have := h2.get _ v hj
    rwa [show o + us.length + (j - us.length) = o + j by omega] at this
theorem Cells.left {f : View} {b : Nat} {us vs : List Value} {o : Nat} (h : Cells f b o (us ++ vs)) : Cells f b o us :=
  Cells.of fun j v hj => h.get j v (by rw [List.getElem?_append_left (List.getElem?_eq_some_iff.1 hj).1]; exact hj)
theorem Cells.right {f : View} {b : Nat} {us vs : List Value} {o : Nat} (h : Cells f b o (us ++ vs)) : Cells f b (o + us.length) vs :=
  Cells.of fun j v hj => by
    have := h.get (us.length + j) v (by rw [List.getElem?_append_right (by omega)]; simpa using hj)
    rwa [show o + (us.length + j) = o + us.length + j by omega] at this

def LB : Nat := 140737488355328
class Rp (α : Type) where
  sz : Nat
  pos : 0 < sz
  rp : View → α → List Value → Prop
  len : ∀ {f x cs}, rp f x cs → cs.length = sz
  mono : ∀ {f g x cs}, Sub f g → rp f x cs → rp g x cs
  one : ∀ {f x cs}, rp f x cs → ∀ u ∈ cs, u.oneCell' = true
open Rp
structure Sl {α : Type} [Rp α] (f : View) (A : Option Addr) (c : Nat) (l : List α) : Prop where
  cap : l.length ≤ c
  lim : l.length ≤ LB
  top : c ≤ maxLen
  at_ : ∀ j (h : j < l.length), ∃ b o, A = some ⟨b, o, none⟩ ∧ ∃ cs, rp f l[j] cs ∧ Cells f b (o + j * sz α) cs
theorem Sl.mono {α : Type} [Rp α] {f g : View} {A : Option Addr} {c : Nat} {l : List α} (hs : Sub f g) (h : Sl f A c l) : Sl g A c l :=
  ⟨h.cap, h.lim, h.top, fun j hj => let ⟨b, o, e, cs, h1, h2⟩ := h.at_ j hj; ⟨b, o, e, cs, Rp.mono hs h1, h2.mono hs⟩⟩
theorem Sl.nil {α : Type} [Rp α] (f : View) : Sl f none 0 ([] : List α) := ⟨Nat.le_refl _, Nat.zero_le _, Nat.zero_le _, fun _ h => by cases h⟩
theorem Sl.len_lt {α : Type} [Rp α] {f : View} {A : Option Addr} {c : Nat} {l : List α} (h : Sl f A c l) : l.length ≤ 140737488355328 := h.lim
instance : Rp Str where
  sz := 1
  pos := by omega
  rp := fun _ s cs => cs = [str s] ∧ s.length ≤ LB
  len := fun h => by rw [h.1]; rfl
  mono := fun _ h => h
  one := fun h u hu => by rw [h.1] at hu; simp at hu; subst hu; rfl
instance : Rp Int where
  sz := 1
  pos := by omega
  rp := fun _ n cs => cs = [.int .i64 n] ∧ -9223372036854775808 ≤ n ∧ n ≤ 9223372036854775807
  len := fun h => by rw [h.1]; rfl
  mono := fun _ h => h
  one := fun h u hu => by rw [h.1] at hu; simp at hu; subst hu; rfl
instance : Rp Bool where
  sz := 1
  pos := by omega
  rp := fun _ n cs => cs = [.bool n]
  len := fun h => by rw [h]; rfl
  mono := fun _ h => h
  one := fun h u hu => by rw [h] at hu; simp at hu; subst hu; rfl
instance : Rp UInt8 where
  sz := 1
  pos := by omega
  rp := fun _ n cs => cs = [.int .u8 (n.toNat : Int)]
  len := fun h => by rw [h]; rfl
  mono := fun _ h => h
  one := fun h u hu => by rw [h] at hu; simp at hu; subst hu; rfl
instance {α : Type} [Rp α] : Rp (List α) where
  sz := 1
  pos := by omega
  rp := fun f l cs => ∃ A c, cs = [.slice A l.length c] ∧ Sl f A c l
  len := fun ⟨A, c, h, _⟩ => by rw [h]; rfl
  mono := fun hs ⟨A, c, h, h2⟩ => ⟨A, c, h, h2.mono hs⟩
  one := fun ⟨A, c, h, _⟩ u hu => by rw [h] at hu; simp at hu; subst hu; rfl
structure Node where
  path : Str
  kind : Int
  data : Str
  deriving DecidableEq
structure Item where
  name : Str
  refs : List Str
  tree : List Node
  deriving DecidableEq
instance : Rp Node where
  sz := 3
  pos := by omega
  rp := fun _ x cs => cs = [str x.path, .int .i64 x.kind, str x.data] ∧ x.path.length ≤ LB ∧ x.data.length ≤ LB ∧ -9223372036854775808 ≤ x.kind ∧ x.kind ≤ 9223372036854775807
  len := fun h => by rw [h.1]; rfl
  mono := fun _ h => h
  one := fun h u hu => by rw [h.1] at hu; simp at hu; rcases hu with rfl | rfl | rfl <;> rfl
instance : Rp Item where
  sz := 3
  pos := by omega
  rp := fun f x cs => ∃ A1 c1 A2 c2, cs = [str x.name, .slice A1 x.refs.length c1, .slice A2 x.tree.length c2] ∧ x.name.length ≤ LB ∧ Sl f A1 c1 x.refs ∧ Sl f A2 c2 x.tree
  len := fun ⟨A1, c1, A2, c2, h, _⟩ => by rw [h]; rfl
  mono := fun hs ⟨A1, c1, A2, c2, h, h0, h1, h2⟩ => ⟨A1, c1, A2, c2, h, h0, h1.mono hs, h2.mono hs⟩
  one := fun ⟨A1, c1, A2, c2, h, _⟩ u hu => by rw [h] at hu; simp at hu; rcases hu with rfl | rfl | rfl <;> rfl

/-! ### St's moves -/
section
variable {B : Bs} {w w' : World} {f g : View} {L : List HE}
theorem add_plain (b o j : Nat) : (⟨b, o, none⟩ : Addr).add j = ⟨b, o + j, none⟩ := by unfold Addr.add; split <;> simp_all
theorem St.fresh (h : St B f L w) {i : Nat} (hi : w.heap.size ≤ i) : f i = none := by
  cases e : f i with
  | none => rfl
  | some o =>
    have := h.on i o e
    rw [Array.getElem?_eq_none hi] at this
    cases this
theorem St.fp (h : St B f L w) {e : HE} (he : e ∈ L) {b : Nat} (hb : e.fp = some b) : b < w.heap.size := HE.fp_in (h.own e he) hb
/-- A world that has only grown. -/
theorem St.grow (h : St B f L w) (hb : Below w.heap.size w w') : St B f L w' :=
  ⟨hb.os.trans h.os, hb.tape.trans h.tape, hb.output.trans h.output, Nat.le_trans h.size hb.size, fun i hi hX => (hb.block i (Nat.lt_of_lt_of_le hi h.size)).trans (h.keep i hi hX), h.ext, h.old,
    fun i o e => by
      have h1 := h.on i o e
      rw [hb.block i (Array.getElem?_eq_some_iff.1 h1).1]; exact h1,
    fun e he => HE.holds_of (h.own e he) fun b hb' => hb.block b (h.fp he hb'), h.mine, h.off, h.apart⟩
theorem St.view (h : St B f L w) (hs : Sub f g) (hold : ∀ i, i < B.w.heap.size → g i = f i) (hon : On g w) (hoff : ∀ e ∈ L, ∀ b, e.fp = some b → g b = none) : St B g L w :=
  ⟨h.os, h.tape, h.output, h.size, h.keep, h.ext.trans hs, fun i hi => (hold i hi).trans (h.old i hi), hon, h.own, h.mine, hoff, h.apart⟩
theorem St.cons (h : St B f L w) {e : HE} (he : e.holds w) (hm : ∀ b, e.fp = some b → B.w.heap.size ≤ b ∨ b ∈ B.X) (hf : ∀ b, e.fp = some b → f b = none) (hn : ∀ b, e.fp = some b → ∀ x ∈ L, x.fp ≠ some b) : St B f (e :: L) w :=
  ⟨h.os, h.tape, h.output, h.size, h.keep, h.ext, h.old, h.on, fun x hx => by rcases List.mem_cons.1 hx with rfl | hx; exact he; exact h.own x hx,
    fun x hx => by rcases List.mem_cons.1 hx with rfl | hx; exact hm; exact h.mine x hx,
    fun x hx => by rcases List.mem_cons.1 hx with rfl | hx; exact hf; exact h.off x hx, List.Pairwise.cons (fun x hx b hb hb' => hn b hb x hx hb') h.apart⟩
theorem St.alloc (h : St B f L w) (o : Obj) : St B f L (w.alloc o) := h.grow ((Below.refl _ _).alloc (Nat.le_refl _) o)
theorem heap_new (w : World) (o : Obj) : (w.alloc o).heap[w.heap.size]? = some o := heap_alloc_new w o
theorem St.new (h : St B f L w) {o : Obj} {e : HE} (he : e.holds (w.alloc o)) (hb : e.fp = some w.heap.size) : St B f (e :: L) (w.alloc o) := by
  refine (h.alloc o).cons he ?_ ?_ ?_
  · intro b hb'
    rw [hb] at hb'; injection hb' with hb'; subst hb'
    exact .inl h.size
  · intro b hb'
    rw [hb] at hb'; injection hb' with hb'; subst hb'
    exact h.fresh (Nat.le_refl _)
  · intro b hb' x hx hx'
    rw [hb] at hb'; injection hb' with hb'; subst hb'
    have := h.fp hx hx'
    omega
theorem St.sub {L' : List HE} (h : St B f L w) (hs : ∀ e ∈ L', e ∈ L) (ha : Apart L') : St B f L' w :=
  ⟨h.os, h.tape, h.output, h.size, h.keep, h.ext, h.old, h.on, fun e he => h.own e (hs e he), fun e he => h.mine e (hs e he), fun e he => h.off e (hs e he), ha⟩
theorem St.sublist {L' : List HE} (h : St B f L w) (hs : L'.Sublist L) : St B f L' w := h.sub (fun e he => hs.subset he) (h.apart.sublist hs)
theorem apart_perm {L L' : List HE} (h : L.Perm L') (ha : Apart L) : Apart L' :=
  (h.pairwise_iff (fun {x y} hxy b hb hb' => hxy b hb' hb)).1 ha
theorem St.perm {L' : List HE} (h : St B f L w) (hp : L.Perm L') : St B f L' w := h.sub (fun e he => hp.mem_iff.2 he) (apart_perm hp h.apart)
/-- The block of entry i is written; the entry says now what stands there. -/
theorem St.set {i : Nat} {e e' : HE} (h : St B f L w) (hi : L[i]? = some e) (hos : w'.os = w.os) (htape : w'.tape = w.tape) (hout : w'.output = w.output) (hsize : w.heap.size ≤ w'.heap.size)
    (hsame : ∀ k, k < w.heap.size → e.fp ≠ some k → w'.heap[k]? = w.heap[k]?) (he' : e'.holds w') (hfp : ∀ b, e'.fp = some b → e.fp = some b ∨ w.heap.size ≤ b) : St B f (L.set i e') w' := by
  have hmem : e ∈ L := List.mem_of_getElem? hi
  have hold : ∀ k, k < B.w.heap.size → k ∉ B.X → w'.heap[k]? = w.heap[k]? := fun k hk hX => hsame k (Nat.lt_of_lt_of_le hk h.size) fun hk' => by
    rcases h.mine e hmem k hk' with h1 | h1
    · omega
    · exact hX h1
  have hlt : i < L.length := (List.getElem?_eq_some_iff.1 hi).1
  -- an entry that is another one
  have hother : ∀ j x, j ≠ i → L[j]? = some x → ∀ b, x.fp = some b → e.fp ≠ some b := by
    intro j x hj hx b hb hb'
    rcases Nat.lt_or_gt_of_ne hj with hlt' | hgt
    · have hjl : j < L.length := (List.getElem?_eq_some_iff.1 hx).1
      have := List.pairwise_iff_getElem.1 h.apart j i hjl hlt hlt'
      rw [(List.getElem?_eq_some_iff.1 hx).2, (List.getElem?_eq_some_iff.1 hi).2] at this
      exact this b hb hb'
    · have hjl : j < L.length := (List.getElem?_eq_some_iff.1 hx).1
      have := List.pairwise_iff_getElem.1 h.apart i j hlt hjl hgt
      rw [(List.getElem?_eq_some_iff.1 hx).2, (List.getElem?_eq_some_iff.1 hi).2] at this
      exact this b hb' hb
  have hnew : ∀ b, e'.fp = some b → ∀ j x, j ≠ i → L[j]? = some x → x.fp ≠ some b := by
    intro b hb j x hj hx hxb
    rcases hfp b hb with h1 | h1
    · exact hother j x hj hx b hxb h1
    · have := h.fp (List.mem_of_getElem? hx) hxb; omega
  have hcase : ∀ x ∈ L.set i e', x = e' ∨ ∃ j, j ≠ i ∧ L[j]? = some x := by
    intro x hx
    obtain ⟨j, hj⟩ := List.mem_iff_getElem?.1 hx
    rw [List.getElem?_set] at hj
    split at hj
    · injection hj with hj; exact .inl hj.symm
    · rename_i hij; exact .inr ⟨j, fun e => hij e.symm, hj⟩
  refine ⟨hos.trans h.os, htape.trans h.tape, hout.trans h.output, Nat.le_trans h.size hsize, fun k hk hX => (hold k hk hX).trans (h.keep k hk hX), h.ext, h.old, ?_, ?_, ?_, ?_, ?_⟩
  · intro k o hk
    have h1 := h.on k o hk
    rw [hsame k (Array.getElem?_eq_some_iff.1 h1).1 fun hk' => by have := h.off e hmem k hk'; rw [hk] at this; cases this]
    exact h1
  · intro x hx
    rcases hcase x hx with rfl | ⟨j, hj, hx⟩
    · exact he'
    · exact HE.holds_of (h.own x (List.mem_of_getElem? hx)) fun b hb => hsame b (h.fp (List.mem_of_getElem? hx) hb) (hother j x hj hx b hb)
  · intro x hx b hb
    rcases hcase x hx with rfl | ⟨j, hj, hx⟩
    · rcases hfp b hb with h1 | h1
      · exact h.mine e hmem b h1
      · exact .inl (Nat.le_trans h.size h1)
    · exact h.mine x (List.mem_of_getElem? hx) b hb
  · intro x hx b hb
    rcases hcase x hx with rfl | ⟨j, hj, hx⟩
    · rcases hfp b hb with h1 | h1
      · exact h.off e hmem b h1
      · exact h.fresh h1
    · exact h.off x (List.mem_of_getElem? hx) b hb
  · refine List.pairwise_iff_getElem.2 fun j k hj hk hjk b hb hb' => ?_
    rw [List.length_set] at hj hk
    rw [List.getElem_set] at hb hb'
    by_cases hji : i = j
    · subst hji
      rw [if_pos rfl] at hb
      rw [if_neg (by omega)] at hb'
      exact hnew b hb k _ (by omega) (List.getElem?_eq_getElem hk) hb'
    · rw [if_neg hji] at hb
      by_cases hki : i = k
      · subst hki
        rw [if_pos rfl] at hb'
        exact hnew b hb' j _ (Ne.symm hji) (List.getElem?_eq_getElem hj) hb
      · rw [if_neg hki] at hb'
        exact List.pairwise_iff_getElem.1 h.apart j k hj hk hjk b hb hb'
end
end Go.Hog
