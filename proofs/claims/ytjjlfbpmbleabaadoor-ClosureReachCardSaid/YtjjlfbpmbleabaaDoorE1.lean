/- The engine, part 1: environments of slots, views (parts of a heap), own blocks, and the weakest preconditions over them. -/
import Derived.Calls
import Derived.Tactics
import Derived.OrdersHeld
import Derived.Deep.Quiet
import Derived.Below
import Derived.Maps.AppendAt
import Derived.KernelRfl
set_option linter.unusedVariables false
set_option linter.unusedSimpArgs false
namespace Go.Hog
open Go.RowKit

/-! ### Environments -/
abbrev Env := Nat → Value
def up (ρ : Env) (d : Nat) (v : Value) : Env := fun t => bif Nat.beq t d then v else ρ t
def putO (ρ : Env) (d : Option Nat) (v : Value) : Env := match d with | some d => up ρ d v | none => ρ
def ev (ρ : Env) : Operand → Value
  | .tmp t => ρ t
  | .const v => v
  | .global g => .pointer (some ⟨g, 0, none⟩)
  | .func f => .func (.func f) #[] #[]
def nthV : List Value → Nat → Value
  | [], _ => undef
  | v :: _, 0 => v
  | _ :: l, t + 1 => nthV l t
def ups (ρ : Env) : List (Nat × Value) → Env
  | [] => ρ
  | p :: l => up (ups ρ l) p.1 p.2
def Agree (ρ : Env) : List (Nat × Value) → Prop
  | [] => True
  | p :: l => ρ p.1 = p.2 ∧ Agree ρ l
theorem beq_no {t d : Nat} (h : t ≠ d) : Nat.beq t d = false := by
  cases e : Nat.beq t d with
  | false => rfl
  | true => exact absurd (Nat.eq_of_beq_eq_true e) h
theorem up_same {ρ : Env} {d : Nat} {v : Value} (h : ρ d = v) : up ρ d v = ρ := by
  funext t
  unfold up
  by_cases e : t = d
  · subst e; simp [h]
  · rw [beq_no e]; rfl
theorem up_eq (ρ : Env) (d : Nat) (v : Value) : up ρ d v d = v := by simp [up]
theorem up_ne (ρ : Env) {d t : Nat} (v : Value) (h : t ≠ d) : up ρ d v t = ρ t := by
  simp [up, beq_no h]
theorem ups_agree {ρ : Env} : ∀ {l : List (Nat × Value)}, Agree ρ l → ups ρ l = ρ
  | [], _ => rfl
  | p :: l, h => by
    show up (ups ρ l) p.1 p.2 = ρ
    rw [ups_agree h.2]
    exact up_same h.1

structure Fr (n : Nat) (a : Act) (ρ : Env) : Prop where
  size : a.tmps.size = n
  defers : a.defers = []
  get : ∀ t, a.tmps.getD t undef = ρ t
theorem Fr.eval {n : Nat} {a : Act} {ρ : Env} (h : Fr n a ρ) : a.eval = ev ρ := by
  funext x
  cases x with
  | tmp t => exact h.get t
  | _ => rfl
def dOk (n : Nat) : Option Nat → Bool
  | none => true
  | some d => Nat.blt d n
theorem Fr.put {n : Nat} {a : Act} {ρ : Env} (h : Fr n a ρ) {d : Option Nat} (hd : dOk n d = true) (v : Value) : Fr n (a.put d v) (putO ρ d v) := by
  cases d with
  | none => exact h
  | some d =>
    have hlt : d < n := by
      have : Nat.blt d n = true := hd
      simpa [Nat.blt_eq] using this
    refine ⟨by simp [Act.put, h.size], h.defers, fun t => ?_⟩
    have hg := h.get t
    have hs := h.size
    by_cases e : t = d
    · subst e
      simp [Act.put, putO, up, hs, hlt]
    · have hb : Nat.beq t d = false := beq_no e
      simp only [Act.put, putO, up, hb, cond_false]
      rw [← hg]
      simp [Array.getElem?_setIfInBounds_ne (Ne.symm e)]
def yieldedE (ops : Array Oper) (ρ : Env) (j : Nat) : Option Bool :=
  match (ops[j]?).bind (·.dst) with
  | some d => (match ρ d with | .bool b => some b | _ => none)
  | none => none
def wantedE (ops : Array Oper) (ρ : Env) (o : Oper) : Bool :=
  match o.guard with
  | none => true
  | some (j, want) => (match yieldedE ops ρ j with | some b => b == want | none => false)
theorem Fr.wanted {n : Nat} {a : Act} {ρ : Env} (h : Fr n a ρ) (ops : Array Oper) (o : Oper) : Region.wanted o (yielded ops a.tmps) = wantedE ops ρ o := by
  unfold Region.wanted wantedE
  cases hg : o.guard with
  | none => rfl
  | some p =>
    obtain ⟨j, want⟩ := p
    unfold yielded yieldedE
    simp only
    cases hd : (ops[j]?).bind (·.dst) with
    | none => simp
    | some d =>
      have hv := h.get d
      simp only [Option.bind_some]
      by_cases hlt : d < a.tmps.size
      · have e1 : a.tmps[d]? = some (ρ d) := by
          rw [Array.getElem?_eq_getElem hlt]
          congr 1
          rw [← hv]
          simp [hlt]
        rw [e1]
        cases ρ d <;> simp
      · have e1 : a.tmps[d]? = none := Array.getElem?_eq_none (Nat.le_of_not_lt hlt)
        have e2 : ρ d = undef := by
          rw [← hv]; simp [e1]
        rw [e1, e2]
        rfl
def opsOk (n : Nat) : List Oper → Bool
  | [] => true
  | o :: l => dOk n o.dst && opsOk n l
def codeOk (n : Nat) : Code → Bool
  | .region _ ops _ => opsOk n ops.toList
  | .seq a b => codeOk n a && codeOk n b
  | .cond _ a b => codeOk n a && codeOk n b
  | .block _ c => codeOk n c
  | .loop c => codeOk n c
  | _ => true

/-! ### Views: what is known of the heap, and does not turn -/
def View := Nat → Option Obj
def Sub (f g : View) : Prop := ∀ i o, f i = some o → g i = some o
def On (f : View) (w : World) : Prop := ∀ i o, f i = some o → w.heap[i]? = some o
def whole (w : World) : View := fun i => w.heap[i]?
def View.cell? (f : View) (a : Addr) : Option Value :=
  match f a.block with
  | some (.cells c _ _) => if a.spot.isSome then none else c[a.off]?
  | _ => none
theorem Sub.refl (f : View) : Sub f f := fun _ _ h => h
theorem Sub.trans {f g h : View} (a : Sub f g) (b : Sub g h) : Sub f h := fun i o e => b i o (a i o e)
theorem on_whole (w : World) : On (whole w) w := fun _ _ h => h
theorem Sub.on {f g : View} {w : World} (a : Sub f g) (b : On g w) : On f w := fun i o e => b i o (a i o e)
theorem Sub.cell {f g : View} (h : Sub f g) {a : Addr} {v : Value} (hc : f.cell? a = some v) : g.cell? a = some v := by
  unfold View.cell? at *
  split at hc
  · rename_i c t fr hf
    rw [h _ _ hf]; exact hc
  · cases hc
theorem On.cell {f : View} {w : World} (h : On f w) {a : Addr} {v : Value} (hc : f.cell? a = some v) : w.cell? a = some v := by
  unfold View.cell? at hc
  unfold World.cell?
  split at hc
  · rename_i c t fr hf
    rw [h _ _ hf]; exact hc
  · cases hc

/-! ### Own blocks -/
inductive HE where
  | blk (b : Nat) (o : Obj)
  | row (A : Option Addr) (n c : Nat) (e sz : Nat) (xs : List Value)
  | mp (b : Nat) (m : List (Value × Value))
def HE.fp : HE → Option Nat
  | .blk b _ => some b
  | .row A _ _ _ _ _ => A.map (·.block)
  | .mp b _ => some b
def HE.holds (w : World) : HE → Prop
  | .blk b o => w.heap[b]? = some o
  | .row A n c e sz xs => w.ownsRow 0 e sz (.slice A n c) n xs
  | .mp b m => ∃ es clk, w.heap[b]? = some (.map es clk) ∧ es.toList.map (fun e => (e.key, e.val)) = m
theorem HE.holds_of {w w' : World} {e : HE} (h : e.holds w) (hb : ∀ b, e.fp = some b → w'.heap[b]? = w.heap[b]?) : e.holds w' := by
  cases e with
  | blk b o => exact (hb b rfl).trans h
  | row A n c e sz xs =>
    obtain ⟨h1, h2⟩ := h
    refine ⟨h1, ?_⟩
    rcases h2 with h2 | ⟨g, cap, cur, hv, hg, hh, r⟩
    · exact .inl h2
    · have : A = some ⟨g, 0, none⟩ := by injection hv
      exact .inr ⟨g, cap, cur, hv, hg, by rw [hb g (by simp [HE.fp, this])]; exact hh, r⟩
  | mp b m =>
    obtain ⟨es, clk, h2, h3⟩ := h
    exact ⟨es, clk, by rw [hb b rfl]; exact h2, h3⟩
theorem HE.fp_in {w : World} {e : HE} (h : e.holds w) {b : Nat} (hb : e.fp = some b) : b < w.heap.size := by
  cases e with
  | blk b' o =>
    have : b' = b := by simpa [HE.fp] using hb
    subst this
    exact (Array.getElem?_eq_some_iff.1 h).1
  | row A n c e sz xs =>
    obtain ⟨h1, h2⟩ := h
    rcases h2 with ⟨h2, _⟩ | ⟨g, cap, cur, hv, hg, hh, r⟩
    · have : A = none := by injection h2
      subst this
      simp [HE.fp] at hb
    · have : A = some ⟨g, 0, none⟩ := by injection hv
      subst this
      have : g = b := by simpa [HE.fp] using hb
      subst this
      exact (Array.getElem?_eq_some_iff.1 hh).1
  | mp b' m =>
    have : b' = b := by simpa [HE.fp] using hb
    subst this
    obtain ⟨es, clk, h2, h3⟩ := h
    exact (Array.getElem?_eq_some_iff.1 h2).1

def Apart (L : List HE) : Prop := L.Pairwise (fun x y => ∀ b, x.fp = some b → y.fp ≠ some b)
/-- Where a function began: the world, the view, the blocks that it was given to write in. -/
structure Bs where
  w : World
  f : View
  X : List Nat
structure St (B : Bs) (f : View) (L : List HE) (w : World) : Prop where
  os : w.os = B.w.os
  tape : w.tape = B.w.tape
  output : w.output = B.w.output
  size : B.w.heap.size ≤ w.heap.size
  keep : ∀ i, i < B.w.heap.size → i ∉ B.X → w.heap[i]? = B.w.heap[i]?
  ext : Sub B.f f
  old : ∀ i, i < B.w.heap.size → f i = B.f i
  on : On f w
  own : ∀ e ∈ L, e.holds w
  mine : ∀ e ∈ L, ∀ b, e.fp = some b → B.w.heap.size ≤ b ∨ b ∈ B.X
  off : ∀ e ∈ L, ∀ b, e.fp = some b → f b = none
  apart : Apart L
theorem St.drawn {B : Bs} {f : View} {L : List HE} {w : World} (h : St B f L w) (k : Nat) : St B f L { w with drawn := k } :=
  ⟨h.os, h.tape, h.output, h.size, h.keep, h.ext, h.old, h.on, fun e he => HE.holds_of (w' := { w with drawn := k }) (h.own e he) fun b _ => rfl, h.mine, h.off, h.apart⟩
/-- A start: what is given to write in stands apart from the view. -/
structure Given (f : View) (L : List HE) (w : World) : Prop where
  own : ∀ e ∈ L, e.holds w
  off : ∀ e ∈ L, ∀ b, e.fp = some b → f b = none
  apart : Apart L
def fps (L : List HE) : List Nat := L.filterMap (·.fp)
theorem mem_fps {L : List HE} {e : HE} {b : Nat} (he : e ∈ L) (hb : e.fp = some b) : b ∈ fps L := List.mem_filterMap.2 ⟨e, he, hb⟩
theorem Given.nil (f : View) (w : World) : Given f [] w := ⟨fun _ h => (by cases h), fun _ h => (by cases h), List.Pairwise.nil⟩
theorem St.start {w : World} {f : View} {L : List HE} (h : On f w) (g : Given f L w) : St ⟨w, f, fps L⟩ f L w :=
  ⟨rfl, rfl, rfl, Nat.le_refl _, fun _ _ _ => rfl, Sub.refl _, fun _ _ => rfl, h, g.own, fun e he b hb => .inr (mem_fps he hb), g.off, g.apart⟩
theorem St.below {B : Bs} {f : View} {L : List HE} {w : World} (h : St B f L w) (hX : B.X = []) : Below B.w.heap.size B.w w :=
  ⟨h.os, h.tape, h.output, h.size, fun i hi => h.keep i hi (by rw [hX]; simp)⟩

/-! ### The judgements -/
abbrev Post := Exit → Env → View → List HE → Prop
abbrev Kon := Env → View → List HE → Prop
def Qs (n : Nat) (B : Bs) (Q : Post) : Exit → Act → World → Prop := fun e a w => ∃ ρ f L, Fr n a ρ ∧ St B f L w ∧ Q e ρ f L
def onlyN (K : Kon) : Post
  | .normal, ρ, f, L => K ρ f L
  | _, _, _, _ => False
structure EW (P : Program) (n : Nat) (B : Bs) (c : Code) (Q : Post) (ρ : Env) (f : View) (L : List HE) : Prop where
  out : ∀ w, St B f L w → ∀ a, Fr n a ρ → codeOk n c = true → c.wp P (Qs n B Q) a w
inductive Md | s | q | v
def Md.calls : Md → Bool | .v => false | _ => true
structure SW (P : Program) (n : Nat) (B : Bs) (ops : Array Oper) (K : Kon) (l : List Oper) (ρ : Env) (f : View) (L : List HE) : Prop where
  out : ∀ w, St B f L w → ∀ a, Fr n a ρ → opsOk n l = true → wpList P ops (Qs n B (onlyN K)) l a w
structure QW (P : Program) (n : Nat) (B : Bs) (ops : Array Oper) (K : Kon) (l : List Oper) (ρ : Env) (f : View) (L : List HE) : Prop where
  out : (∃ w, St B f L w) → ∀ a, Fr n a ρ → opsOk n l = true → wpQuiet P ops (St B f L) (fun a' => ∃ ρ', Fr n a' ρ' ∧ K ρ' f L) l a
/-- Operations that yield a value each, in every world of a class. -/
def wpVal (P : Program) (ops : Array Oper) (C : World → Prop) (Q : Act → Prop) : List Oper → Act → Prop
  | [], a => Q a
  | o :: l, a => ∃ v, YieldsIf P ops C o v a ∧ wpVal P ops C Q l (a.put o.dst v)
structure VW (P : Program) (n : Nat) (B : Bs) (ops : Array Oper) (K : Kon) (l : List Oper) (ρ : Env) (f : View) (L : List HE) : Prop where
  out : (∃ w, St B f L w) → ∀ a, Fr n a ρ → opsOk n l = true → wpVal P ops (St B f L) (fun a' => ∃ ρ', Fr n a' ρ' ∧ K ρ' f L) l a
def RW (m : Md) (P : Program) (n : Nat) (B : Bs) (ops : Array Oper) (K : Kon) (l : List Oper) (ρ : Env) (f : View) (L : List HE) : Prop :=
  match m with
  | .s => SW P n B ops K l ρ f L
  | .q => QW P n B ops K l ρ f L
  | .v => VW P n B ops K l ρ f L

section
variable {P : Program} {n : Nat} {B : Bs} {f : View} {L : List HE} {ρ : Env} {Q : Post} {K : Kon} {ops : Array Oper} {m : Md} {o : Oper} {l : List Oper}

theorem rw_end (h : K ρ f L) : RW m P n B ops K [] ρ f L := by
  cases m with
  | s => exact ⟨fun w hw a ha _ => ⟨ρ, f, L, ha, hw, h⟩⟩
  | q => exact ⟨fun _ a ha _ => ⟨ρ, ha, h⟩⟩
  | v => exact ⟨fun _ a ha _ => ⟨ρ, ha, h⟩⟩
theorem rw_skip (hg : wantedE ops ρ o = false) (k : RW m P n B ops K l (putO ρ o.dst undef) f L) : RW m P n B ops K (o :: l) ρ f L := by
  cases m with
  | s =>
    refine ⟨fun w hw a ha hok => ?_⟩
    have hok' : dOk n o.dst = true ∧ opsOk n l = true := by simpa [opsOk] using hok
    unfold wpList
    rw [ha.wanted, hg, if_neg (by simp)]
    exact k.out w hw _ (ha.put hok'.1 _) hok'.2
  | q =>
    refine ⟨fun hne a ha hok => ?_⟩
    have hok' : dOk n o.dst = true ∧ opsOk n l = true := by simpa [opsOk] using hok
    unfold wpQuiet
    rw [ha.wanted, hg, if_neg (by simp)]
    exact k.out hne _ (ha.put hok'.1 _) hok'.2
  | v =>
    refine ⟨fun hne a ha hok => ?_⟩
    have hok' : dOk n o.dst = true ∧ opsOk n l = true := by simpa [opsOk] using hok
    exact ⟨undef, .inr ⟨by rw [ha.wanted, hg], rfl⟩, k.out hne _ (ha.put hok'.1 _) hok'.2⟩
/-- One operation that only yields a value. -/
def Yd (P : Program) (ρ : Env) (o : Oper) (C : World → Prop) (v : Value) : Prop := ∀ w, C w → (execOp (ev ρ) o).run P w = .ok (.value v) w
theorem rw_y {v : Value} (hg : wantedE ops ρ o = true) (hy : Yd P ρ o (St B f L) v) (k : RW m P n B ops K l (putO ρ o.dst v) f L) : RW m P n B ops K (o :: l) ρ f L := by
  cases m with
  | s =>
    refine ⟨fun w hw a ha hok => ?_⟩
    have hok' : dOk n o.dst = true ∧ opsOk n l = true := by simpa [opsOk] using hok
    unfold wpList
    rw [ha.wanted, hg, if_pos rfl]
    refine .inl ?_
    unfold Oper.wp
    rw [ha.eval, hy w hw]
    exact k.out w hw _ (ha.put hok'.1 _) hok'.2
  | q =>
    refine ⟨fun hne a ha hok => ?_⟩
    have hok' : dOk n o.dst = true ∧ opsOk n l = true := by simpa [opsOk] using hok
    unfold wpQuiet
    rw [ha.wanted, hg, if_pos rfl]
    refine ⟨v, fun w hw => ?_, k.out hne _ (ha.put hok'.1 _) hok'.2⟩
    unfold Oper.quietAt
    rw [ha.eval, hy w hw]
    exact ⟨rfl, rfl⟩
  | v =>
    refine ⟨fun hne a ha hok => ?_⟩
    have hok' : dOk n o.dst = true ∧ opsOk n l = true := by simpa [opsOk] using hok
    exact ⟨v, .inl ⟨by rw [ha.wanted, hg], fun w hw => by rw [ha.eval]; exact hy w hw⟩, k.out hne _ (ha.put hok'.1 _) hok'.2⟩
/-- One operation that does something to the world. -/
theorem sw_do (hg : wantedE ops ρ o = true)
    (h : ∀ w, St B f L w → ∃ r w', (execOp (ev ρ) o).run P w = .ok r w' ∧ ((∃ v, r = .value v ∧ ∃ f' L', St B f' L' w' ∧ RW .s P n B ops K l (putO ρ o.dst v) f' L') ∨ (r = .skip ∧ ∃ f' L', St B f' L' w' ∧ RW .s P n B ops K l (putO ρ o.dst undef) f' L'))) :
    RW .s P n B ops K (o :: l) ρ f L := by
  refine ⟨fun w hw a ha hok => ?_⟩
  have hok' : dOk n o.dst = true ∧ opsOk n l = true := by simpa [opsOk] using hok
  unfold wpList
  rw [ha.wanted, hg, if_pos rfl]
  refine .inl ?_
  unfold Oper.wp
  obtain ⟨r, w', hr, hk⟩ := h w hw
  rw [ha.eval, hr]
  rcases hk with ⟨v, rfl, f', L', hs, k⟩ | ⟨rfl, f', L', hs, k⟩
  · exact k.out w' hs _ (ha.put hok'.1 _) hok'.2
  · exact k.out w' hs _ (ha.put hok'.1 _) hok'.2
/-- A call of a Go function. -/
theorem sw_call {fn : Nat} {args : Array Value} (hg : wantedE ops ρ o = true) (hr : ∀ w, (execOp (ev ρ) o).run P w = .ok (.enter fn args) w)
    (h : ∀ w, St B f L w → Calls P fn args w fun e w' => ∃ v f' L', e = .returned v ∧ St B f' L' w' ∧ RW .s P n B ops K l (putO ρ o.dst v) f' L') :
    RW .s P n B ops K (o :: l) ρ f L := by
  refine ⟨fun w hw a ha hok => ?_⟩
  have hok' : dOk n o.dst = true ∧ opsOk n l = true := by simpa [opsOk] using hok
  unfold wpList
  rw [ha.wanted, hg, if_pos rfl]
  refine .inl ?_
  unfold Oper.wp
  rw [ha.eval, hr w]
  refine Calls.mono (h w hw) ?_
  rintro e w' ⟨v, f', L', rfl, hs, k⟩
  exact k.out w' hs _ (ha.put hok'.1 _) hok'.2
/-- A call in a quiet walk: one value, whatever the world of the class. -/
theorem qw_call {fn : Nat} {args : Array Value} (v : Value) (hg : wantedE ops ρ o = true) (hr : ∀ w, (execOp (ev ρ) o).run P w = .ok (.enter fn args) w)
    (h : ∀ w, St B f L w → Calls P fn args w fun e w' => e = .returned v ∧ St B f L w') (k : RW m P n B ops K l (putO ρ o.dst v) f L)
    (hcm : m.calls = true := by rfl) : RW m P n B ops K (o :: l) ρ f L := by
  cases m with
  | v => cases hcm
  | s => exact sw_call hg hr fun w hw => (h w hw).mono fun e w' ⟨he, hs⟩ => ⟨v, f, L, he, hs, k⟩
  | q =>
    refine ⟨fun hne a ha hok => ?_⟩
    have hok' : dOk n o.dst = true ∧ opsOk n l = true := by simpa [opsOk] using hok
    unfold wpQuiet
    rw [ha.wanted, hg, if_pos rfl]
    refine ⟨v, fun w hw => ?_, k.out hne _ (ha.put hok'.1 _) hok'.2⟩
    unfold Oper.quietAt
    rw [ha.eval, hr w]
    exact ⟨rfl, h w hw⟩

/-- What holds of every world of the class may be had. -/
theorem rw_have {p : Prop} (h : ∀ w, St B f L w → p) (k : p → RW m P n B ops K l ρ f L) : RW m P n B ops K l ρ f L := by
  cases m with
  | s => exact ⟨fun w hw a ha hok => (k (h w hw)).out w hw a ha hok⟩
  | q => exact ⟨fun hne a ha hok => by obtain ⟨w, hw⟩ := hne; exact (k (h w hw)).out ⟨w, hw⟩ a ha hok⟩
  | v => exact ⟨fun hne a ha hok => by obtain ⟨w, hw⟩ := hne; exact (k (h w hw)).out ⟨w, hw⟩ a ha hok⟩
theorem ew_have {c : Code} {p : Prop} (h : ∀ w, St B f L w → p) (k : p → EW P n B c Q ρ f L) : EW P n B c Q ρ f L :=
  ⟨fun w hw a ha hok => (k (h w hw)).out w hw a ha hok⟩

/-! ### Code -/
def thenQ (K : Kon) (Q : Post) : Post
  | .normal => K
  | e => Q e
def blkQ (id : Nat) (Q : Post) : Post
  | .exit i => bif Nat.beq i id then Q .normal else Q (.exit i)
  | e => Q e
theorem qs_mono {Q Q' : Post} (h : ∀ e ρ f L, Q e ρ f L → Q' e ρ f L) (e : Exit) (a : Act) (w : World) (hq : Qs n B Q e a w) : Qs n B Q' e a w := by
  obtain ⟨ρ, f, L, h1, h2, h3⟩ := hq
  exact ⟨ρ, f, L, h1, h2, h _ _ _ _ h3⟩
theorem ew_seq {x y : Code} (h : EW P n B x (thenQ (EW P n B y Q) Q) ρ f L) : EW P n B (.seq x y) Q ρ f L := by
  refine ⟨fun w hw a ha hok => ?_⟩
  have hok' : codeOk n x = true ∧ codeOk n y = true := by simpa [codeOk] using hok
  refine wp_seq (wp_mono (h.out w hw a ha hok'.1) ?_)
  rintro e a' w' ⟨ρ', f', L', h1, h2, h3⟩
  cases e with
  | normal => exact h3.out w' h2 a' h1 hok'.2
  | _ => exact ⟨ρ', f', L', h1, h2, h3⟩
theorem ew_skip (h : Q .normal ρ f L) : EW P n B .skip Q ρ f L := ⟨fun w hw a ha _ => wp_skip ⟨ρ, f, L, ha, hw, h⟩⟩
theorem ew_exit {id : Nat} (h : Q (.exit id) ρ f L) : EW P n B (.exit id) Q ρ f L := ⟨fun w hw a ha _ => wp_exit ⟨ρ, f, L, ha, hw, h⟩⟩
theorem ew_ret (h : Q .ret ρ f L) : EW P n B .ret Q ρ f L := ⟨fun w hw a ha _ => wp_ret ⟨ρ, f, L, ha, hw, h⟩⟩
theorem ew_block {id : Nat} {c : Code} (h : EW P n B c (blkQ id Q) ρ f L) : EW P n B (.block id c) Q ρ f L := by
  refine ⟨fun w hw a ha hok => wp_block (wp_mono (h.out w hw a ha hok) ?_)⟩
  rintro e a' w' ⟨ρ', f', L', h1, h2, h3⟩
  cases e with
  | exit i =>
    by_cases hi : i = id
    · subst hi
      simp only [Exit.inBlock, if_true]
      simp only [blkQ, Nat.beq_refl, cond_true] at h3
      exact ⟨ρ', f', L', h1, h2, h3⟩
    · have hb : Nat.beq i id = false := beq_no hi
      simp only [Exit.inBlock, if_neg hi]
      simp only [blkQ, hb, cond_false] at h3
      exact ⟨ρ', f', L', h1, h2, h3⟩
  | _ => exact ⟨ρ', f', L', h1, h2, h3⟩
theorem ew_condT {c : Operand} {x y : Code} (hc : ev ρ c = .bool true) (h : EW P n B x Q ρ f L) : EW P n B (.cond c x y) Q ρ f L := by
  refine ⟨fun w hw a ha hok => ?_⟩
  have hok' : codeOk n x = true ∧ codeOk n y = true := by simpa [codeOk] using hok
  exact wp_cond_true (by rw [ha.eval]; exact hc) (h.out w hw a ha hok'.1)
theorem ew_condF {c : Operand} {x y : Code} (hc : ev ρ c = .bool false) (h : EW P n B y Q ρ f L) : EW P n B (.cond c x y) Q ρ f L := by
  refine ⟨fun w hw a ha hok => ?_⟩
  have hok' : codeOk n x = true ∧ codeOk n y = true := by simpa [codeOk] using hok
  exact wp_cond_false (by rw [ha.eval]; exact hc) (h.out w hw a ha hok'.2)
theorem ew_reg {id : Nat} {ops : Array Oper} (h : RW .s P n B ops (Q .normal) ops.toList ρ f L) : EW P n B (.region id ops false) Q ρ f L := by
  refine ⟨fun w hw a ha hok => wp_mono (wp_region_list (h.out w hw a ha hok)) ?_⟩
  rintro e a' w' ⟨ρ', f', L', h1, h2, h3⟩
  cases e with
  | normal => exact ⟨ρ', f', L', h1, h2, h3⟩
  | _ => exact h3.elim
theorem ew_regq {id : Nat} {ops : Array Oper} (hm : P.follows .mixedOrders = true) (hB : Region.lexB .any ops = true) (h : RW .q P n B ops (Q .normal) ops.toList ρ f L) :
    EW P n B (.region id ops true) Q ρ f L := by
  refine ⟨fun w hw a ha hok => wp_region_quiet (C := St B f L) hm hB (hw.drawn _) ?_⟩
  have hq := h.out ⟨_, hw⟩ a ha hok
  have key : ∀ (l : List Oper) (a : Act) (Q1 Q2 : Act → Prop), (∀ a, Q1 a → Q2 a) → wpQuiet P ops (St B f L) Q1 l a → wpQuiet P ops (St B f L) Q2 l a := by
    intro l
    induction l with
    | nil => intro a Q1 Q2 h12 h1; exact h12 a h1
    | cons o l ih =>
      intro a Q1 Q2 h12 h1
      unfold wpQuiet at h1 ⊢
      split at h1
      · rename_i hw; rw [if_pos hw]
        obtain ⟨v, hv, hk⟩ := h1
        exact ⟨v, hv, ih _ _ _ h12 hk⟩
      · rename_i hw; rw [if_neg hw]
        exact ih _ _ _ h12 h1
  refine key _ _ _ _ ?_ hq
  rintro a' ⟨ρ', h1, h3⟩ w' hw'
  exact ⟨ρ', f, L, h1, hw', h3⟩
/-- A loop: what holds of a state σ at every round's head. -/
theorem ew_loop {σ : Type} (slots : σ → List (Nat × Value)) (vw : σ → View) (hp : σ → List HE) (Inv : σ → Prop) (μ : σ → Nat) {c : Code} (s0 : σ)
    (ha : Agree ρ (slots s0)) (hv : vw s0 = f) (hh : hp s0 = L) (hi : Inv s0)
    (round : ∀ s ρ', Inv s → EW P n B c (thenQ (fun ρ'' f'' L'' => ∃ s', Agree ρ'' (slots s') ∧ vw s' = f'' ∧ hp s' = L'' ∧ Inv s' ∧ μ s' < μ s) Q) (ups ρ' (slots s)) (vw s) (hp s)) :
    EW P n B (.loop c) Q ρ f L := by
  subst hv hh
  refine ⟨fun w hw a hfr hok => ?_⟩
  -- the measure is told by the state: by strong induction on it
  have key : ∀ (k : Nat) (s : σ), μ s = k → Inv s → ∀ (w : World) (a : Act) (ρ : Env), St B (vw s) (hp s) w → Fr n a ρ → Agree ρ (slots s) →
      ∀ (b : Frame) (kk : List Item) (cs : List Frame), ∃ e a' w', Qs n B Q e a' w' ∧ Arrives P (lone (b.at a (.code c :: .inLoop c :: kk)) cs w) b kk cs e a' w' := by
    intro k
    induction k using Nat.strongRecOn with
    | _ k ih =>
      intro s hk hI w a ρ hw hfr hag b kk cs
      have hr := round s ρ hI
      rw [ups_agree hag] at hr
      obtain ⟨e, a₁, w₁, hq, harr⟩ := hr.out w hw a hfr hok b (.inLoop c :: kk) cs
      obtain ⟨ρ', f', L', h1, h2, h3⟩ := hq
      cases e with
      | normal =>
        obtain ⟨s', hag', hv', hh', hI', hlt⟩ := h3
        subst hv' hh'
        obtain ⟨e₂, a₂, w₂, hq₂, harr₂⟩ := ih (μ s') (hk ▸ hlt) s' rfl hI' w₁ a₁ ρ' h2 h1 hag' b kk cs
        exact ⟨e₂, a₂, w₂, hq₂, .of_steps (Steps.trans harr (.one step_inLoop)) harr₂⟩
      | exit id => exact ⟨_, a₁, w₁, ⟨ρ', f', L', h1, h2, h3⟩, .pass (x := .inLoop c) rfl (fun _ _ => .inl (by simp)) harr⟩
      | goto l => exact ⟨_, a₁, w₁, ⟨ρ', f', L', h1, h2, h3⟩, .pass (x := .inLoop c) rfl (fun _ _ => .inl (by simp)) harr⟩
      | ret => exact ⟨_, a₁, w₁, ⟨ρ', f', L', h1, h2, h3⟩, .pass (x := .inLoop c) rfl (fun _ _ => .inl (by simp)) harr⟩
      | panic ch => exact ⟨_, a₁, w₁, ⟨ρ', f', L', h1, h2, h3⟩, .pass (x := .inLoop c) rfl (fun _ _ => .inl (by simp)) harr⟩
      | outgrown => exact ⟨_, a₁, w₁, ⟨ρ', f', L', h1, h2, h3⟩, .pass (x := .inLoop c) rfl (fun _ _ => .inl (by simp)) harr⟩
  intro b kk cs
  obtain ⟨e, a', w', hq, harr⟩ := key _ s0 rfl hi w a ρ hw hfr ha b kk cs
  exact ⟨e, a', w', hq, .of_steps (.one step_loop) harr⟩

/-! ### The function as a whole -/
/-- What a function hands back that writes nothing: a value, and a view that has grown by new blocks alone. -/
def Ret (w : World) (f : View) (R : View → Value → Prop) : Ending → World → Prop :=
  fun e w' => ∃ v g, e = .returned v ∧ Below w.heap.size w w' ∧ Sub f g ∧ (∀ i, i < w.heap.size → g i = f i) ∧ On g w' ∧ R g v
/-- What one hands back that writes in what it is given. -/
def RetM (w : World) (f : View) (L : List HE) (R : View → List HE → Value → Prop) : Ending → World → Prop :=
  fun e w' => ∃ v g L', e = .returned v ∧ St ⟨w, f, fps L⟩ g L' w' ∧ R g L' v
def retQ (P : Program) (fn : Func) (B : Bs) (R : Ending → World → Prop) : Post
  | .normal, ρ, f, L => ∀ w, St B f L w → ∀ tmps : Array Value, (∀ t, tmps.getD t undef = ρ t) → ∃ v, (results fn tmps).run P w = .ok v w ∧ R (.returned v) w
  | .ret, ρ, f, L => ∀ w, St B f L w → ∀ tmps : Array Value, (∀ t, tmps.getD t undef = ρ t) → ∃ v, (results fn tmps).run P w = .ok v w ∧ R (.returned v) w
  | _, _, _, _ => False
theorem getD_init (vs : List Value) (k t : Nat) : (vs.toArray ++ Array.replicate k undef).getD t undef = nthV vs t := by
  have e : (vs.toArray ++ Array.replicate k undef).getD t undef = ((vs ++ List.replicate k undef)[t]?).getD undef := by
    simp [← List.toArray_replicate]
  rw [e]
  clear e
  induction vs generalizing t with
  | nil =>
    simp only [List.nil_append, nthV]
    by_cases h : t < k
    · simp [h]
    · rw [List.getElem?_eq_none (by simp; omega)]; rfl
  | cons v vs ih =>
    cases t with
    | zero => simp [nthV]
    | succ t => simpa [nthV] using ih t
theorem enter {k : Nat} {fn : Func} {c : Code} {vs : List Value} {w : World} {f : View} {L : List HE} {R : Ending → World → Prop} (hf : P.funcs[k]? = some fn) (hb : fn.body = some c)
    (hok : codeOk fn.ntmps c = true) (hn : Nat.ble vs.length fn.ntmps = true) (hv : On f w) (hL : Given f L w)
    (h : EW P fn.ntmps ⟨w, f, fps L⟩ c (retQ P fn ⟨w, f, fps L⟩ R) (nthV vs) f L) : Calls P k vs.toArray w R := by
  refine calls_of_wp hf hb (wp_mono (h.out w (St.start hv hL) _ ⟨?_, rfl, fun t => getD_init vs _ t⟩ hok) ?_)
  · have : vs.length ≤ fn.ntmps := by simpa [Nat.ble_eq] using hn
    simp; omega
  · rintro e a' w' ⟨ρ', f', L', h1, h2, h3⟩
    cases e with
    | normal =>
      obtain ⟨v, hr, hR⟩ := h3 w' h2 a'.tmps h1.get
      exact ⟨h1.defers, v, hr, hR⟩
    | ret =>
      obtain ⟨v, hr, hR⟩ := h3 w' h2 a'.tmps h1.get
      exact ⟨h1.defers, v, hr, hR⟩
    | _ => exact h3.elim
end
end Go.Hog
