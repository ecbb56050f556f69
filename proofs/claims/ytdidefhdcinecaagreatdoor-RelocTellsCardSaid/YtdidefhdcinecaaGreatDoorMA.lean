/- E1 E2 E3, in one text. -/
import Derived.Calls
import Derived.Tactics
import Derived.OrdersHeld
import Derived.Deep.Quiet
import Derived.Below
import Derived.Maps.AppendAt
import Derived.KernelRfl
import Derived.Laws.Strings
import Derived.Laws.Slices
import Derived.IntWalk
import Derived.Laws.World
set_option linter.unusedVariables false
set_option linter.unusedSimpArgs false
namespace Go.Hog
open Go.RowKit

/-! ### Environments -/
abbrev Env := Nat → Value
def up (ρ : Env) (d : Nat) (v : Value) : Env := fun t => bif Nat.beq t d then v else ρ t
def putO (ρ : Env) (d : Option Nat) (v : Value) : Env := match d with | some d => up ρ d v | none => ρ
def ev (ρ : Env) : Operand → Value
  | .tmp t => ρ t
  | .const v => v
  | .global g => .pointer (some ⟨g, 0, none⟩)
  | .func f => .func (.func f) #[] #[]
def nthV : List Value → Nat → Value
  | [], _ => undef
  | v :: _, 0 => v
  | _ :: l, t + 1 => nthV l t
def ups (ρ : Env) : List (Nat × Value) → Env
  | [] => ρ
  | p :: l => up (ups ρ l) p.1 p.2
def Agree (ρ : Env) : List (Nat × Value) → Prop
  | [] => True
  | p :: l => ρ p.1 = p.2 ∧ Agree ρ l
theorem beq_no {t d : Nat} (h : t ≠ d) : Nat.beq t d = false := by
  cases e : Nat.beq t d with
  | false => rfl
  | true => exact absurd (Nat.eq_of_beq_eq_true e) h
theorem up_same {ρ : Env} {d : Nat} {v : Value} (h : ρ d = v) : up ρ d v = ρ := by
  funext t
  unfold up
  by_cases e : t = d
  · subst e; simp [h]
  · rw [beq_no e]; rfl
theorem up_eq (ρ : Env) (d : Nat) (v : Value) : up ρ d v d = v := by simp [up]
theorem up_ne (ρ : Env) {d t : Nat} (v : Value) (h : t ≠ d) : up ρ d v t = ρ t := by
  simp [up, beq_no h]
theorem ups_agree {ρ : Env} : ∀ {l : List (Nat × Value)}, Agree ρ l → ups ρ l = ρ
  | [], _ => rfl
  | p :: l, h => by
    show up (ups ρ l) p.1 p.2 = ρ
    rw [ups_agree h.2]
    exact up_same h.1

structure Fr (n : Nat) (a : Act) (ρ : Env) : Prop where
  size : a.tmps.size = n
  defers : a.defers = []
  get : ∀ t, a.tmps.getD t undef = ρ t
theorem Fr.eval {n : Nat} {a : Act} {ρ : Env} (h : Fr n a ρ) : a.eval = ev ρ := by
  funext x
  cases x with
  | tmp t => exact h.get t
  | _ => rfl
def dOk (n : Nat) : Option Nat → Bool
  | none => true
  | some d => Nat.blt d n
theorem Fr.put {n : Nat} {a : Act} {ρ : Env} (h : Fr n a ρ) {d : Option Nat} (hd : dOk n d = true) (v : Value) : Fr n (a.put d v) (putO ρ d v) := by
  cases d with
  | none => exact h
  | some d =>
    have hlt : d < n := by
      have : Nat.blt d n = true := hd
      simpa [Nat.blt_eq] using this
    refine ⟨by simp [Act.put, h.size], h.defers, fun t => ?_⟩
    have hg := h.get t
    have hs := h.size
    by_cases e : t = d
    · subst e
      simp [Act.put, putO, up, hs, hlt]
    · have hb : Nat.beq t d = false := beq_no e
      simp only [Act.put, putO, up, hb, cond_false]
      rw [← hg]
      simp [Array.getElem?_setIfInBounds_ne (Ne.symm e)]
def yieldedE (ops : Array Oper) (ρ : Env) (j : Nat) : Option Bool :=
  match (ops[j]?).bind (·.dst) with
  | some d => (match ρ d with | .bool b => some b | _ => none)
  | none => none
def wantedE (ops : Array Oper) (ρ : Env) (o : Oper) : Bool :=
  match o.guard with
  | none => true
  | some (j, want) => (match yieldedE ops ρ j with | some b => b == want | none => false)
theorem Fr.wanted {n : Nat} {a : Act} {ρ : Env} (h : Fr n a ρ) (ops : Array Oper) (o : Oper) : Region.wanted o (yielded ops a.tmps) = wantedE ops ρ o := by
  unfold Region.wanted wantedE
  cases hg : o.guard with
  | none => rfl
  | some p =>
    obtain ⟨j, want⟩ := p
    unfold yielded yieldedE
    simp only
    cases hd : (ops[j]?).bind (·.dst) with
    | none => simp
    | some d =>
      have hv := h.get d
      simp only [Option.bind_some]
      by_cases hlt : d < a.tmps.size
      · have e1 : a.tmps[d]? = some (ρ d) := by
          rw [Array.getElem?_eq_getElem hlt]
          congr 1
          rw [← hv]
          simp [hlt]
        rw [e1]
        cases ρ d <;> simp
      · have e1 : a.tmps[d]? = none := Array.getElem?_eq_none (Nat.le_of_not_lt hlt)
        have e2 : ρ d = undef := by
          rw [← hv]; simp [e1]
        rw [e1, e2]
        rfl
def opsOk (n : Nat) : List Oper → Bool
  | [] => true
  | o :: l => dOk n o.dst && opsOk n l
def codeOk (n : Nat) : Code → Bool
  | .region _ ops _ => opsOk n ops.toList
  | .seq a b => codeOk n a && codeOk n b
  | .cond _ a b => codeOk n a && codeOk n b
  | .block _ c => codeOk n c
  | .loop c => codeOk n c
  | _ => true

/-! ### Views: what is known of the heap, and does not turn -/
def View := Nat → Option Obj
def Sub (f g : View) : Prop := ∀ i o, f i = some o → g i = some o
def On (f : View) (w : World) : Prop := ∀ i o, f i = some o → w.heap[i]? = some o
def whole (w : World) : View := fun i => w.heap[i]?
def View.cell? (f : View) (a : Addr) : Option Value :=
  match f a.block with
  | some (.cells c _ _) => if a.spot.isSome then none else c[a.off]?
  | _ => none
theorem Sub.refl (f : View) : Sub f f := fun _ _ h => h
theorem Sub.trans {f g h : View} (a : Sub f g) (b : Sub g h) : Sub f h := fun i o e => b i o (a i o e)
theorem on_whole (w : World) : On (whole w) w := fun _ _ h => h
theorem Sub.on {f g : View} {w : World} (a : Sub f g) (b : On g w) : On f w := fun i o e => b i o (a i o e)
theorem Sub.cell {f g : View} (h : Sub f g) {a : Addr} {v : Value} (hc : f.cell? a = some v) : g.cell? a = some v := by
  unfold View.cell? at *
  split at hc
  · rename_i c t fr hf
    rw [h _ _ hf]; exact hc
  · cases hc
theorem On.cell {f : View} {w : World} (h : On f w) {a : Addr} {v : Value} (hc : f.cell? a = some v) : w.cell? a = some v := by
  unfold View.cell? at hc
  unfold World.cell?
  split at hc
  · rename_i c t fr hf
    rw [h _ _ hf]; exact hc
  · cases hc

/-! ### Own blocks -/
inductive HE where
  | blk (b : Nat) (o : Obj)
  | row (A : Option Addr) (n c : Nat) (e sz : Nat) (xs : List Value)
  | mp (b : Nat) (m : List (Value × Value))
def HE.fp : HE → Option Nat
  | .blk b _ => some b
  | .row A _ _ _ _ _ => A.map (·.block)
  | .mp b _ => some b
def HE.holds (w : World) : HE → Prop
  | .blk b o => w.heap[b]? = some o
  | .row A n c e sz xs => w.ownsRow 0 e sz (.slice A n c) n xs
  | .mp b m => ∃ es clk, w.heap[b]? = some (.map es clk) ∧ es.toList.map (fun e => (e.key, e.val)) = m
theorem HE.holds_of {w w' : World} {e : HE} (h : e.holds w) (hb : ∀ b, e.fp = some b → w'.heap[b]? = w.heap[b]?) : e.holds w' := by
  cases e with
  | blk b o => exact (hb b rfl).trans h
  | row A n c e sz xs =>
    obtain ⟨h1, h2⟩ := h
    refine ⟨h1, ?_⟩
    rcases h2 with h2 | ⟨g, cap, cur, hv, hg, hh, r⟩
    · exact .inl h2
    · have : A = some ⟨g, 0, none⟩ := by injection hv
      exact .inr ⟨g, cap, cur, hv, hg, by rw [hb g (by simp [HE.fp, this])]; exact hh, r⟩
  | mp b m =>
    obtain ⟨es, clk, h2, h3⟩ := h
    exact ⟨es, clk, by rw [hb b rfl]; exact h2, h3⟩
theorem HE.fp_in {w : World} {e : HE} (h : e.holds w) {b : Nat} (hb : e.fp = some b) : b < w.heap.size := by
  cases e with
  | blk b' o =>
    have : b' = b := by simpa [HE.fp] using hb
    subst this
    exact (Array.getElem?_eq_some_iff.1 h).1
  | row A n c e sz xs =>
    obtain ⟨h1, h2⟩ := h
    rcases h2 with ⟨h2, _⟩ | ⟨g, cap, cur, hv, hg, hh, r⟩
    · have : A = none := by injection h2
      subst this
      simp [HE.fp] at hb
    · have : A = some ⟨g, 0, none⟩ := by injection hv
      subst this
      have : g = b := by simpa [HE.fp] using hb
      subst this
      exact (Array.getElem?_eq_some_iff.1 hh).1
  | mp b' m =>
    have : b' = b := by simpa [HE.fp] using hb
    subst this
    obtain ⟨es, clk, h2, h3⟩ := h
    exact (Array.getElem?_eq_some_iff.1 h2).1

def Apart (L : List HE) : Prop := L.Pairwise (fun x y => ∀ b, x.fp = some b → y.fp ≠ some b)
/-- Where a function began: the world, the view, the blocks that it was given to write in. -/
structure Bs where
  w : World
  f : View
  X : List Nat
structure St (B : Bs) (f : View) (L : List HE) (w : World) : Prop where
  os : w.os = B.w.os
  tape : w.tape = B.w.tape
  output : w.output = B.w.output
  size : B.w.heap.size ≤ w.heap.size
  keep : ∀ i, i < B.w.heap.size → i ∉ B.X → w.heap[i]? = B.w.heap[i]?
  ext : Sub B.f f
  old : ∀ i, i < B.w.heap.size → f i = B.f i
  on : On f w
  own : ∀ e ∈ L, e.holds w
  mine : ∀ e ∈ L, ∀ b, e.fp = some b → B.w.heap.size ≤ b ∨ b ∈ B.X
  off : ∀ e ∈ L, ∀ b, e.fp = some b → f b = none
  apart : Apart L
theorem St.drawn {B : Bs} {f : View} {L : List HE} {w : World} (h : St B f L w) (k : Nat) : St B f L { w with drawn := k } :=
  ⟨h.os, h.tape, h.output, h.size, h.keep, h.ext, h.old, h.on, fun e he => HE.holds_of (w' := { w with drawn := k }) (h.own e he) fun b _ => rfl, h.mine, h.off, h.apart⟩
/-- A start: what is given to write in stands apart from the view. -/
structure Given (f : View) (L : List HE) (w : World) : Prop where
  own : ∀ e ∈ L, e.holds w
  off : ∀ e ∈ L, ∀ b, e.fp = some b → f b = none
  apart : Apart L
def fps (L : List HE) : List Nat := L.filterMap (·.fp)
theorem mem_fps {L : List HE} {e : HE} {b : Nat} (he : e ∈ L) (hb : e.fp = some b) : b ∈ fps L := List.mem_filterMap.2 ⟨e, he, hb⟩
theorem Given.nil (f : View) (w : World) : Given f [] w := ⟨fun _ h => (by cases h), fun _ h => (by cases h), List.Pairwise.nil⟩
theorem St.start {w : World} {f : View} {L : List HE} (h : On f w) (g : Given f L w) : St ⟨w, f, fps L⟩ f L w :=
  ⟨rfl, rfl, rfl, Nat.le_refl _, fun _ _ _ => rfl, Sub.refl _, fun _ _ => rfl, h, g.own, fun e he b hb => .inr (mem_fps he hb), g.off, g.apart⟩
theorem St.below {B : Bs} {f : View} {L : List HE} {w : World} (h : St B f L w) (hX : B.X = []) : Below B.w.heap.size B.w w :=
  ⟨h.os, h.tape, h.output, h.size, fun i hi => h.keep i hi (by rw [hX]; simp)⟩

/-! ### The judgements -/
abbrev Post := Exit → Env → View → List HE → Prop
abbrev Kon := Env → View → List HE → Prop
def Qs (n : Nat) (B : Bs) (Q : Post) : Exit → Act → World → Prop := fun e a w => ∃ ρ f L, Fr n a ρ ∧ St B f L w ∧ Q e ρ f L
def onlyN (K : Kon) : Post
  | .normal, ρ, f, L => K ρ f L
  | _, _, _, _ => False
structure EW (P : Program) (n : Nat) (B : Bs) (c : Code) (Q : Post) (ρ : Env) (f : View) (L : List HE) : Prop where
  out : ∀ w, St B f L w → ∀ a, Fr n a ρ → codeOk n c = true → c.wp P (Qs n B Q) a w
inductive Md | s | q | v
def Md.calls : Md → Bool | .v => false | _ => true
structure SW (P : Program) (n : Nat) (B : Bs) (ops : Array Oper) (K : Kon) (l : List Oper) (ρ : Env) (f : View) (L : List HE) : Prop where
  out : ∀ w, St B f L w → ∀ a, Fr n a ρ → opsOk n l = true → wpList P ops (Qs n B (onlyN K)) l a w
structure QW (P : Program) (n : Nat) (B : Bs) (ops : Array Oper) (K : Kon) (l : List Oper) (ρ : Env) (f : View) (L : List HE) : Prop where
  out : (∃ w, St B f L w) → ∀ a, Fr n a ρ → opsOk n l = true → wpQuiet P ops (St B f L) (fun a' => ∃ ρ', Fr n a' ρ' ∧ K ρ' f L) l a
/-- Operations that yield a value each, in every world of a class. -/
def wpVal (P : Program) (ops : Array Oper) (C : World → Prop) (Q : Act → Prop) : List Oper → Act → Prop
  | [], a => Q a
  | o :: l, a => ∃ v, YieldsIf P ops C o v a ∧ wpVal P ops C Q l (a.put o.dst v)
structure VW (P : Program) (n : Nat) (B : Bs) (ops : Array Oper) (K : Kon) (l : List Oper) (ρ : Env) (f : View) (L : List HE) : Prop where
  out : (∃ w, St B f L w) → ∀ a, Fr n a ρ → opsOk n l = true → wpVal P ops (St B f L) (fun a' => ∃ ρ', Fr n a' ρ' ∧ K ρ' f L) l a
def RW (m : Md) (P : Program) (n : Nat) (B : Bs) (ops : Array Oper) (K : Kon) (l : List Oper) (ρ : Env) (f : View) (L : List HE) : Prop :=
  match m with
  | .s => SW P n B ops K l ρ f L
  | .q => QW P n B ops K l ρ f L
  | .v => VW P n B ops K l ρ f L

section
variable {P : Program} {n : Nat} {B : Bs} {f : View} {L : List HE} {ρ : Env} {Q : Post} {K : Kon} {ops : Array Oper} {m : Md} {o : Oper} {l : List Oper}

theorem rw_end (h : K ρ f L) : RW m P n B ops K [] ρ f L := by
  cases m with
  | s => exact ⟨fun w hw a ha _ => ⟨ρ, f, L, ha, hw, h⟩⟩
  | q => exact ⟨fun _ a ha _ => ⟨ρ, ha, h⟩⟩
  | v => exact ⟨fun _ a ha _ => ⟨ρ, ha, h⟩⟩
theorem rw_skip (hg : wantedE ops ρ o = false) (k : RW m P n B ops K l (putO ρ o.dst undef) f L) : RW m P n B ops K (o :: l) ρ f L := by
  cases m with
  | s =>
    refine ⟨fun w hw a ha hok => ?_⟩
    have hok' : dOk n o.dst = true ∧ opsOk n l = true := by simpa [opsOk] using hok
    unfold wpList
    rw [ha.wanted, hg, if_neg (by simp)]
    exact k.out w hw _ (ha.put hok'.1 _) hok'.2
  | q =>
    refine ⟨fun hne a ha hok => ?_⟩
    have hok' : dOk n o.dst = true ∧ opsOk n l = true := by simpa [opsOk] using hok
    unfold wpQuiet
    rw [ha.wanted, hg, if_neg (by simp)]
    exact k.out hne _ (ha.put hok'.1 _) hok'.2
  | v =>
    refine ⟨fun hne a ha hok => ?_⟩
    have hok' : dOk n o.dst = true ∧ opsOk n l = true := by simpa [opsOk] using hok
    exact ⟨undef, .inr ⟨by rw [ha.wanted, hg], rfl⟩, k.out hne _ (ha.put hok'.1 _) hok'.2⟩
/-- One operation that only yields a value. -/
def Yd (P : Program) (ρ : Env) (o : Oper) (C : World → Prop) (v : Value) : Prop := ∀ w, C w → (execOp (ev ρ) o).run P w = .ok (.value v) w
theorem rw_y {v : Value} (hg : wantedE ops ρ o = true) (hy : Yd P ρ o (St B f L) v) (k : RW m P n B ops K l (putO ρ o.dst v) f L) : RW m P n B ops K (o :: l) ρ f L := by
  cases m with
  | s =>
    refine ⟨fun w hw a ha hok => ?_⟩
    have hok' : dOk n o.dst = true ∧ opsOk n l = true := by simpa [opsOk] using hok
    unfold wpList
    rw [ha.wanted, hg, if_pos rfl]
    refine .inl ?_
    unfold Oper.wp
    rw [ha.eval, hy w hw]
    exact k.out w hw _ (ha.put hok'.1 _) hok'.2
  | q =>
    refine ⟨fun hne a ha hok => ?_⟩
    have hok' : dOk n o.dst = true ∧ opsOk n l = true := by simpa [opsOk] using hok
    unfold wpQuiet
    rw [ha.wanted, hg, if_pos rfl]
    refine ⟨v, fun w hw => ?_, k.out hne _ (ha.put hok'.1 _) hok'.2⟩
    unfold Oper.quietAt
    rw [ha.eval, hy w hw]
    exact ⟨rfl, rfl⟩
  | v =>
    refine ⟨fun hne a ha hok => ?_⟩
    have hok' : dOk n o.dst = true ∧ opsOk n l = true := by simpa [opsOk] using hok
    exact ⟨v, .inl ⟨by rw [ha.wanted, hg], fun w hw => by rw [ha.eval]; exact hy w hw⟩, k.out hne _ (ha.put hok'.1 _) hok'.2⟩
/-- One operation that does something to the world. -/
theorem sw_do (hg : wantedE ops ρ o = true)
    (h : ∀ w, St B f L w → ∃ r w', (execOp (ev ρ) o).run P w = .ok r w' ∧ ((∃ v, r = .value v ∧ ∃ f' L', St B f' L' w' ∧ RW .s P n B ops K l (putO ρ o.dst v) f' L') ∨ (r = .skip ∧ ∃ f' L', St B f' L' w' ∧ RW .s P n B ops K l (putO ρ o.dst undef) f' L'))) :
    RW .s P n B ops K (o :: l) ρ f L := by
  refine ⟨fun w hw a ha hok => ?_⟩
  have hok' : dOk n o.dst = true ∧ opsOk n l = true := by simpa [opsOk] using hok
  unfold wpList
  rw [ha.wanted, hg, if_pos rfl]
  refine .inl ?_
  unfold Oper.wp
  obtain ⟨r, w', hr, hk⟩ := h w hw
  rw [ha.eval, hr]
  rcases hk with ⟨v, rfl, f', L', hs, k⟩ | ⟨rfl, f', L', hs, k⟩
  · exact k.out w' hs _ (ha.put hok'.1 _) hok'.2
  · exact k.out w' hs _ (ha.put hok'.1 _) hok'.2
/-- A call of a Go function. -/
theorem sw_call {fn : Nat} {args : Array Value} (hg : wantedE ops ρ o = true) (hr : ∀ w, (execOp (ev ρ) o).run P w = .ok (.enter fn args) w)
    (h : ∀ w, St B f L w → Calls P fn args w fun e w' => ∃ v f' L', e = .returned v ∧ St B f' L' w' ∧ RW .s P n B ops K l (putO ρ o.dst v) f' L') :
    RW .s P n B ops K (o :: l) ρ f L := by
  refine ⟨fun w hw a ha hok => ?_⟩
  have hok' : dOk n o.dst = true ∧ opsOk n l = true := by simpa [opsOk] using hok
  unfold wpList
  rw [ha.wanted, hg, if_pos rfl]
  refine .inl ?_
  unfold Oper.wp
  rw [ha.eval, hr w]
  refine Calls.mono (h w hw) ?_
  rintro e w' ⟨v, f', L', rfl, hs, k⟩
  exact k.out w' hs _ (ha.put hok'.1 _) hok'.2
/-- A call in a quiet walk: one value, whatever the world of the class. -/
theorem qw_call {fn : Nat} {args : Array Value} (v : Value) (hg : wantedE ops ρ o = true) (hr : ∀ w, (execOp (ev ρ) o).run P w = .ok (.enter fn args) w)
    (h : ∀ w, St B f L w → Calls P fn args w fun e w' => e = .returned v ∧ St B f L w') (k : RW m P n B ops K l (putO ρ o.dst v) f L)
    (hcm : m.calls = true := by rfl) : RW m P n B ops K (o :: l) ρ f L := by
  cases m with
  | v => cases hcm
  | s => exact sw_call hg hr fun w hw => (h w hw).mono fun e w' ⟨he, hs⟩ => ⟨v, f, L, he, hs, k⟩
  | q =>
    refine ⟨fun hne a ha hok => ?_⟩
    have hok' : dOk n o.dst = true ∧ opsOk n l = true := by simpa [opsOk] using hok
    unfold wpQuiet
    rw [ha.wanted, hg, if_pos rfl]
    refine ⟨v, fun w hw => ?_, k.out hne _ (ha.put hok'.1 _) hok'.2⟩
    unfold Oper.quietAt
    rw [ha.eval, hr w]
    exact ⟨rfl, h w hw⟩

/-- What holds of every world of the class may be had. -/
theorem rw_have {p : Prop} (h : ∀ w, St B f L w → p) (k : p → RW m P n B ops K l ρ f L) : RW m P n B ops K l ρ f L := by
  cases m with
  | s => exact ⟨fun w hw a ha hok => (k (h w hw)).out w hw a ha hok⟩
  | q => exact ⟨fun hne a ha hok => by obtain ⟨w, hw⟩ := hne; exact (k (h w hw)).out ⟨w, hw⟩ a ha hok⟩
  | v => exact ⟨fun hne a ha hok => by obtain ⟨w, hw⟩ := hne; exact (k (h w hw)).out ⟨w, hw⟩ a ha hok⟩
theorem ew_have {c : Code} {p : Prop} (h : ∀ w, St B f L w → p) (k : p → EW P n B c Q ρ f L) : EW P n B c Q ρ f L :=
  ⟨fun w hw a ha hok => (k (h w hw)).out w hw a ha hok⟩

/-! ### Code -/
def thenQ (K : Kon) (Q : Post) : Post
  | .normal => K
  | e => Q e
def blkQ (id : Nat) (Q : Post) : Post
  | .exit i => bif Nat.beq i id then Q .normal else Q (.exit i)
  | e => Q e
theorem qs_mono {Q Q' : Post} (h : ∀ e ρ f L, Q e ρ f L → Q' e ρ f L) (e : Exit) (a : Act) (w : World) (hq : Qs n B Q e a w) : Qs n B Q' e a w := by
  obtain ⟨ρ, f, L, h1, h2, h3⟩ := hq
  exact ⟨ρ, f, L, h1, h2, h _ _ _ _ h3⟩
theorem ew_seq {x y : Code} (h : EW P n B x (thenQ (EW P n B y Q) Q) ρ f L) : EW P n B (.seq x y) Q ρ f L := by
  refine ⟨fun w hw a ha hok => ?_⟩
  have hok' : codeOk n x = true ∧ codeOk n y = true := by simpa [codeOk] using hok
  refine wp_seq (wp_mono (h.out w hw a ha hok'.1) ?_)
  rintro e a' w' ⟨ρ', f', L', h1, h2, h3⟩
  cases e with
  | normal => exact h3.out w' h2 a' h1 hok'.2
  | _ => exact ⟨ρ', f', L', h1, h2, h3⟩
theorem ew_skip (h : Q .normal ρ f L) : EW P n B .skip Q ρ f L := ⟨fun w hw a ha _ => wp_skip ⟨ρ, f, L, ha, hw, h⟩⟩
theorem ew_exit {id : Nat} (h : Q (.exit id) ρ f L) : EW P n B (.exit id) Q ρ f L := ⟨fun w hw a ha _ => wp_exit ⟨ρ, f, L, ha, hw, h⟩⟩
theorem ew_ret (h : Q .ret ρ f L) : EW P n B .ret Q ρ f L := ⟨fun w hw a ha _ => wp_ret ⟨ρ, f, L, ha, hw, h⟩⟩
theorem ew_block {id : Nat} {c : Code} (h : EW P n B c (blkQ id Q) ρ f L) : EW P n B (.block id c) Q ρ f L := by
  refine ⟨fun w hw a ha hok => wp_block (wp_mono (h.out w hw a ha hok) ?_)⟩
  rintro e a' w' ⟨ρ', f', L', h1, h2, h3⟩
  cases e with
  | exit i =>
    by_cases hi : i = id
    · subst hi
      simp only [Exit.inBlock, if_true]
      simp only [blkQ, Nat.beq_refl, cond_true] at h3
      exact ⟨ρ', f', L', h1, h2, h3⟩
    · have hb : Nat.beq i id = false := beq_no hi
      simp only [Exit.inBlock, if_neg hi]
      simp only [blkQ, hb, cond_false] at h3
      exact ⟨ρ', f', L', h1, h2, h3⟩
  | _ => exact ⟨ρ', f', L', h1, h2, h3⟩
theorem ew_condT {c : Operand} {x y : Code} (hc : ev ρ c = .bool true) (h : EW P n B x Q ρ f L) : EW P n B (.cond c x y) Q ρ f L := by
  refine ⟨fun w hw a ha hok => ?_⟩
  have hok' : codeOk n x = true ∧ codeOk n y = true := by simpa [codeOk] using hok
  exact wp_cond_true (by rw [ha.eval]; exact hc) (h.out w hw a ha hok'.1)
theorem ew_condF {c : Operand} {x y : Code} (hc : ev ρ c = .bool false) (h : EW P n B y Q ρ f L) : EW P n B (.cond c x y) Q ρ f L := by
  refine ⟨fun w hw a ha hok => ?_⟩
  have hok' : codeOk n x = true ∧ codeOk n y = true := by simpa [codeOk] using hok
  exact wp_cond_false (by rw [ha.eval]; exact hc) (h.out w hw a ha hok'.2)
theorem ew_reg {id : Nat} {ops : Array Oper} (h : RW .s P n B ops (Q .normal) ops.toList ρ f L) : EW P n B (.region id ops false) Q ρ f L := by
  refine ⟨fun w hw a ha hok => wp_mono (wp_region_list (h.out w hw a ha hok)) ?_⟩
  rintro e a' w' ⟨ρ', f', L', h1, h2, h3⟩
  cases e with
  | normal => exact ⟨ρ', f', L', h1, h2, h3⟩
  | _ => exact h3.elim
theorem ew_regq {id : Nat} {ops : Array Oper} (hm : P.follows .mixedOrders = true) (hB : Region.lexB .any ops = true) (h : RW .q P n B ops (Q .normal) ops.toList ρ f L) :
    EW P n B (.region id ops true) Q ρ f L := by
  refine ⟨fun w hw a ha hok => wp_region_quiet (C := St B f L) hm hB (hw.drawn _) ?_⟩
  have hq := h.out ⟨_, hw⟩ a ha hok
  have key : ∀ (l : List Oper) (a : Act) (Q1 Q2 : Act → Prop), (∀ a, Q1 a → Q2 a) → wpQuiet P ops (St B f L) Q1 l a → wpQuiet P ops (St B f L) Q2 l a := by
    intro l
    induction l with
    | nil => intro a Q1 Q2 h12 h1; exact h12 a h1
    | cons o l ih =>
      intro a Q1 Q2 h12 h1
      unfold wpQuiet at h1 ⊢
      split at h1
      · rename_i hw; rw [if_pos hw]
        obtain ⟨v, hv, hk⟩ := h1
        exact ⟨v, hv, ih _ _ _ h12 hk⟩
      · rename_i hw; rw [if_neg hw]
        exact ih _ _ _ h12 h1
  refine key _ _ _ _ ?_ hq
  rintro a' ⟨ρ', h1, h3⟩ w' hw'
  exact ⟨ρ', f, L, h1, hw', h3⟩
/-- A loop: what holds of a state σ at every round's head. -/
theorem ew_loop {σ : Type} (slots : σ → List (Nat × Value)) (vw : σ → View) (hp : σ → List HE) (Inv : σ → Prop) (μ : σ → Nat) {c : Code} (s0 : σ)
    (ha : Agree ρ (slots s0)) (hv : vw s0 = f) (hh : hp s0 = L) (hi : Inv s0)
    (round : ∀ s ρ', Inv s → EW P n B c (thenQ (fun ρ'' f'' L'' => ∃ s', Agree ρ'' (slots s') ∧ vw s' = f'' ∧ hp s' = L'' ∧ Inv s' ∧ μ s' < μ s) Q) (ups ρ' (slots s)) (vw s) (hp s)) :
    EW P n B (.loop c) Q ρ f L := by
  subst hv hh
  refine ⟨fun w hw a hfr hok => ?_⟩
  -- the measure is told by the state: by strong induction on it
  have key : ∀ (k : Nat) (s : σ), μ s = k → Inv s → ∀ (w : World) (a : Act) (ρ : Env), St B (vw s) (hp s) w → Fr n a ρ → Agree ρ (slots s) →
      ∀ (b : Frame) (kk : List Item) (cs : List Frame), ∃ e a' w', Qs n B Q e a' w' ∧ Arrives P (lone (b.at a (.code c :: .inLoop c :: kk)) cs w) b kk cs e a' w' := by
    intro k
    induction k using Nat.strongRecOn with
    | _ k ih =>
      intro s hk hI w a ρ hw hfr hag b kk cs
      have hr := round s ρ hI
      rw [ups_agree hag] at hr
      obtain ⟨e, a₁, w₁, hq, harr⟩ := hr.out w hw a hfr hok b (.inLoop c :: kk) cs
      obtain ⟨ρ', f', L', h1, h2, h3⟩ := hq
      cases e with
      | normal =>
        obtain ⟨s', hag', hv', hh', hI', hlt⟩ := h3
        subst hv' hh'
        obtain ⟨e₂, a₂, w₂, hq₂, harr₂⟩ := ih (μ s') (hk ▸ hlt) s' rfl hI' w₁ a₁ ρ' h2 h1 hag' b kk cs
        exact ⟨e₂, a₂, w₂, hq₂, .of_steps (Steps.trans harr (.one step_inLoop)) harr₂⟩
      | exit id => exact ⟨_, a₁, w₁, ⟨ρ', f', L', h1, h2, h3⟩, .pass (x := .inLoop c) rfl (fun _ _ => .inl (by simp)) harr⟩
      | goto l => exact ⟨_, a₁, w₁, ⟨ρ', f', L', h1, h2, h3⟩, .pass (x := .inLoop c) rfl (fun _ _ => .inl (by simp)) harr⟩
      | ret => exact ⟨_, a₁, w₁, ⟨ρ', f', L', h1, h2, h3⟩, .pass (x := .inLoop c) rfl (fun _ _ => .inl (by simp)) harr⟩
      | panic ch => exact ⟨_, a₁, w₁, ⟨ρ', f', L', h1, h2, h3⟩, .pass (x := .inLoop c) rfl (fun _ _ => .inl (by simp)) harr⟩
      | outgrown => exact ⟨_, a₁, w₁, ⟨ρ', f', L', h1, h2, h3⟩, .pass (x := .inLoop c) rfl (fun _ _ => .inl (by simp)) harr⟩
  intro b kk cs
  obtain ⟨e, a', w', hq, harr⟩ := key _ s0 rfl hi w a ρ hw hfr ha b kk cs
  exact ⟨e, a', w', hq, .of_steps (.one step_loop) harr⟩

/-! ### The function as a whole -/
/-- What a function hands back that writes nothing: a value, and a view that has grown by new blocks alone. -/
def Ret (w : World) (f : View) (R : View → Value → Prop) : Ending → World → Prop :=
  fun e w' => ∃ v g, e = .returned v ∧ Below w.heap.size w w' ∧ Sub f g ∧ (∀ i, i < w.heap.size → g i = f i) ∧ On g w' ∧ R g v
/-- What one hands back that writes in what it is given. -/
def RetM (w : World) (f : View) (L : List HE) (R : View → List HE → Value → Prop) : Ending → World → Prop :=
  fun e w' => ∃ v g L', e = .returned v ∧ St ⟨w, f, fps L⟩ g L' w' ∧ R g L' v
def retQ (P : Program) (fn : Func) (B : Bs) (R : Ending → World → Prop) : Post
  | .normal, ρ, f, L => ∀ w, St B f L w → ∀ tmps : Array Value, (∀ t, tmps.getD t undef = ρ t) → ∃ v, (results fn tmps).run P w = .ok v w ∧ R (.returned v) w
  | .ret, ρ, f, L => ∀ w, St B f L w → ∀ tmps : Array Value, (∀ t, tmps.getD t undef = ρ t) → ∃ v, (results fn tmps).run P w = .ok v w ∧ R (.returned v) w
  | _, _, _, _ => False
theorem getD_init (vs : List Value) (k t : Nat) : (vs.toArray ++ Array.replicate k undef).getD t undef = nthV vs t := by
  have e : (vs.toArray ++ Array.replicate k undef).getD t undef = ((vs ++ List.replicate k undef)[t]?).getD undef := by
    simp [← List.toArray_replicate]
  rw [e]
  clear e
  induction vs generalizing t with
  | nil =>
    simp only [List.nil_append, nthV]
    by_cases h : t < k
    · simp [h]
    · rw [List.getElem?_eq_none (by simp; omega)]; rfl
  | cons v vs ih =>
    cases t with
    | zero => simp [nthV]
    | succ t => simpa [nthV] using ih t
theorem enter {k : Nat} {fn : Func} {c : Code} {vs : List Value} {w : World} {f : View} {L : List HE} {R : Ending → World → Prop} (hf : P.funcs[k]? = some fn) (hb : fn.body = some c)
    (hok : codeOk fn.ntmps c = true) (hn : Nat.ble vs.length fn.ntmps = true) (hv : On f w) (hL : Given f L w)
    (h : EW P fn.ntmps ⟨w, f, fps L⟩ c (retQ P fn ⟨w, f, fps L⟩ R) (nthV vs) f L) : Calls P k vs.toArray w R := by
  refine calls_of_wp hf hb (wp_mono (h.out w (St.start hv hL) _ ⟨?_, rfl, fun t => getD_init vs _ t⟩ hok) ?_)
  · have : vs.length ≤ fn.ntmps := by simpa [Nat.ble_eq] using hn
    simp; omega
  · rintro e a' w' ⟨ρ', f', L', h1, h2, h3⟩
    cases e with
    | normal =>
      obtain ⟨v, hr, hR⟩ := h3 w' h2 a'.tmps h1.get
      exact ⟨h1.defers, v, hr, hR⟩
    | ret =>
      obtain ⟨v, hr, hR⟩ := h3 w' h2 a'.tmps h1.get
      exact ⟨h1.defers, v, hr, hR⟩
    | _ => exact h3.elim
end
end Go.Hog

set_option linter.unusedVariables false
set_option linter.unusedSimpArgs false
namespace Go.Hog
open Go.RowKit

abbrev Str := List UInt8
@[reducible] def str (l : Str) : Value := .string ⟨⟨l⟩⟩
@[reducible] def i64 (n : Int) : Value := .int .i64 n
theorem bytesLess_eq : ∀ (x y : Str), Op.bytesLess x y = decide (x < y)
  | [], [] => by simp [Op.bytesLess]
  | _ :: _, [] => by simp [Op.bytesLess]
  | [], _ :: _ => by simp [Op.bytesLess]
  | a :: x, b :: y => by
    rw [Op.bytesLess, bytesLess_eq x y]
    simp only [List.cons_lt_cons_iff]
    by_cases h1 : a < b <;> by_cases h2 : a = b <;> by_cases h3 : x < y <;> simp [h1, h2, h3]
theorem toList_str (l : Str) : (ByteArray.mk ⟨l⟩).toList = l := ByteArray.toList_mk l

section
variable {P : Program}
theorem run_und {t : TypeId} {d : TypeDesc} (h : P.underlying t = some d) (w : World) : (underlying t).run P w = .ok d w := by
  simp [underlying, program, h, Sem.run, bind, Sem.bind, pure]
theorem run_size {t : TypeId} {i : TypeInfo} (h : P.info? t = some i) (w : World) : (sizeOf t).run P w = .ok i.size w := by
  simp [sizeOf, typeInfo, program, h, Sem.run, bind, Sem.bind, pure]
theorem run_info {t : TypeId} {i : TypeInfo} (h : P.info? t = some i) (w : World) : (typeInfo t).run P w = .ok i w := by
  simp [typeInfo, program, h, Sem.run, bind, Sem.bind, pure]
end

/-! ### The plain operations, by reckoning -/
def aggB (P : Program) (t : TypeId) : Bool :=
  match P.underlying t with
  | some (.struct _) => true
  | some (.array _ _) => true
  | some _ => false
  | none => true
def lenV (P : Program) (t : TypeId) (v : Value) : Option Value :=
  match P.underlying t, v with
  | some .string, .string ⟨⟨s⟩⟩ => some (.int .i64 (s.length : Nat))
  | some (.slice _), .slice _ n _ => some (.int .i64 (n : Nat))
  | _, _ => none
def fieldV (P : Program) (s : TypeId) (i : Nat) (v : Value) : Option Value :=
  match P.underlying s with
  | some (.struct fs) =>
    (match fs[i]? with
     | some fd =>
       (match P.info? fd.type, v with
        | some ti, .pointer (some ⟨b, off, none⟩) => bif Nat.beq ti.size 0 then none else some (.pointer (some ⟨b, off + fd.offset, none⟩))
        | _, _ => none)
     | none => none)
  | _ => none
def ifaceV (P : Program) (t : TypeId) (v : Value) : Option Value :=
  match P.underlying t with
  | some (.interface _) => none
  | some _ => some (.iface t v)
  | none => none
def assertV (P : Program) (a : TypeId) (ok : Bool) (v : Value) : Option Value :=
  match P.underlying a, v with
  | some (.interface _), _ => none
  | some _, .iface t v => bif Nat.beq t a then some (bif ok then .tuple #[v, .bool true] else v) else none
  | _, _ => none
def pureV (P : Program) (ρ : Env) (op : Op) : Option Value :=
  match op with
  | .move x => some (ev ρ x)
  | .assign x => some (ev ρ x)
  | .pick c a b => (match ev ρ c with | .bool true => some (ev ρ a) | .bool false => some (ev ρ b) | _ => none)
  | .call ⟨.builtin .len, ⟨[x]⟩, ⟨[t]⟩⟩ => lenV P t (ev ρ x)
  | .fieldAddr s x i => fieldV P s i (ev ρ x)
  | .extract x i => (match ev ρ x with | .tuple vs => vs[i]? | _ => none)
  | .unOp .not _ x => (match ev ρ x with | .bool b => some (.bool (!b)) | _ => none)
  | .nilCheck x => (match ev ρ x with | .pointer (some a) => some (.pointer (some a)) | _ => none)
  | .makeInterface t x => ifaceV P t (ev ρ x)
  | .typeAssert x _ a ok => assertV P a ok (ev ρ x)
  | .makeFunc fn a b => some (.func fn ⟨a.toList.map (ev ρ)⟩ ⟨b.toList.map (ev ρ)⟩)
  | _ => none
theorem pureV_ok {P : Program} {ρ : Env} {o : Oper} {v : Value} (h : pureV P ρ o.op = some v) (w : World) : (execOp (ev ρ) o).run P w = .ok (.value v) w := by
  obtain ⟨dst, op, type, pos, after, guard⟩ := o
  simp only at h
  unfold pureV at h
  split at h
  · injection h with h; subst h; simp [execOp]
  · injection h with h; subst h; simp [execOp]
  · split at h
    · rename_i e; injection h with h; subst h; simp [execOp, e, asBool]
    · rename_i e; injection h with h; subst h; simp [execOp, e, asBool]
    · cases h
  · rename_i x t
    unfold lenV at h
    split at h
    · rename_i e1 e2; injection h with h; subst h
      simp [execOp, resolve, invoke, builtin, Builtin.len_, run_und e1, e2, goInt]
      rfl
    · rename_i e1 e2; injection h with h; subst h
      simp [execOp, resolve, invoke, builtin, Builtin.len_, run_und e1, e2, goInt]
    · cases h
  · rename_i s x i
    unfold fieldV at h
    split at h
    · rename_i fs e1
      split at h
      · rename_i fd e2
        split at h
        · rename_i ti b off e3 e4
          cases hz : Nat.beq ti.size 0 with
          | true => rw [hz] at h; cases h
          | false =>
            rw [hz] at h; injection h with h; subst h
            have hne : ti.size ≠ 0 := fun e => by rw [e] at hz; cases hz
            have ha : (⟨b, off, none⟩ : Addr).add fd.offset = ⟨b, off + fd.offset, none⟩ := by unfold Addr.add; split <;> simp_all
            simp [execOp, Instr.fieldAt, run_und e1, e2, Instr.sureAddr, e4, fieldPlace, run_size e3, hne, ha]
        · cases h
      · cases h
    · cases h
  · split at h
    · rename_i e; simp [execOp, Instr.extract, e, h]
    · cases h
  · split at h
    · rename_i e; injection h with h; subst h; simp [execOp, Op.unary, e]
    · cases h
  · split at h
    · rename_i e; injection h with h; subst h; simp [execOp, e]
    · cases h
  · rename_i t x
    unfold ifaceV at h
    split at h
    · cases h
    · rename_i d hd e1; injection h with h; subst h
      simp only [execOp, Instr.makeInterface, Sem.run_bind, run_und e1, Result.andThen_ok]
      cases d <;> first | (exact absurd rfl (hd _)) | simp
    · cases h
  · rename_i x xt a ok
    unfold assertV at h
    split at h
    · cases h
    · rename_i d t v hd e1 e2
      cases hb : Nat.beq t a with
      | false => rw [hb] at h; cases h
      | true =>
        rw [hb] at h
        have ht : t = a := Nat.eq_of_beq_eq_true hb
        subst ht
        simp only [execOp, Instr.typeAssert, Sem.run_bind, run_und e1, Result.andThen_ok, e2]
        cases ok <;> (injection h with h; subst h; cases d <;> first | (exact absurd rfl (hd _)) | simp)
    · cases h
  · injection h with h; subst h
    simp only [execOp, Instr.makeFunc, Sem.run_bind, Sem.run_pure, Result.andThen_ok]
    congr 3 <;> (apply Array.ext'; simp)
  · cases h
def runP (P : Program) (ops : Array Oper) : List Oper → Env → List Oper × Env
  | [], ρ => ([], ρ)
  | o :: l, ρ =>
    bif wantedE ops ρ o then
      (match pureV P ρ o.op with
       | some v => runP P ops l (putO ρ o.dst v)
       | none => (o :: l, ρ))
    else runP P ops l (putO ρ o.dst undef)

section
variable {P : Program} {n : Nat} {B : Bs} {f : View} {L : List HE} {ρ : Env} {Q : Post} {K : Kon} {ops : Array Oper} {m : Md} {o : Oper} {l l0 : List Oper} {ρ0 : Env}
theorem rw_runP : ∀ (l : List Oper) (ρ : Env), RW m P n B ops K (runP P ops l ρ).1 (runP P ops l ρ).2 f L → RW m P n B ops K l ρ f L
  | [], _, h => h
  | o :: l, ρ, h => by
    unfold runP at h
    cases hg : wantedE ops ρ o with
    | false =>
      rw [hg] at h
      exact rw_skip hg (rw_runP l _ h)
    | true =>
      rw [hg] at h
      simp only [cond_true] at h
      cases hp : pureV P ρ o.op with
      | none => rw [hp] at h; exact h
      | some v =>
        rw [hp] at h
        exact rw_y hg (fun w _ => pureV_ok hp w) (rw_runP l _ h)
/-- The plain operations, one after the other, as far as it goes. -/
theorem run {l' : List Oper} {ρ' : Env} (k : RW m P n B ops K l' ρ' f L) (h : runP P ops l ρ = (l', ρ') := by rfl) : RW m P n B ops K l ρ f L :=
  rw_runP l ρ (by rw [h]; exact k)
/-- The same to the region's end. -/
theorem runE {ρ' : Env} (k : K ρ' f L) (h : runP P ops l ρ = ([], ρ') := by rfl) : RW m P n B ops K l ρ f L :=
  rw_runP l ρ (by rw [h]; exact rw_end k)

/-! ### Whole numbers -/
theorem wrap_in {r : Int} (h : -9223372036854775808 ≤ r ∧ r ≤ 9223372036854775807) : IntKind.i64.wrap r = r :=
  IntWalk.i64_in r h
section
variable {d : Nat} {x y : Operand} {a b : Int} {t ty t2 : TypeId} {pos : String} {af : Array Edge} {gd : Option (Nat × Bool)}
theorem add (r : Int) (k : RW m P n B ops K l (up ρ d (.int .i64 r)) f L) (hrun : runP P ops l0 ρ0 = (⟨some d, .binOp .add t x y t2, ty, pos, af, gd⟩ :: l, ρ) := by rfl) (hg : wantedE ops ρ ⟨some d, .binOp .add t x y t2, ty, pos, af, gd⟩ = true := by rfl) (hx : ev ρ x = .int .i64 a := by rfl) (hy : ev ρ y = .int .i64 b := by rfl) (hr : a + b = r ∧ -9223372036854775808 ≤ r ∧ r ≤ 9223372036854775807 := by omega) : RW m P n B ops K l0 ρ0 f L := by
  refine rw_runP l0 ρ0 ?_
  rw [hrun]
  exact rw_y hg (fun w _ => by simp [execOp, eqGuard, binOp, hx, hy, Op.intArith, hr.1, wrap_in hr.2]) k
theorem sub (r : Int) (k : RW m P n B ops K l (up ρ d (.int .i64 r)) f L) (hrun : runP P ops l0 ρ0 = (⟨some d, .binOp .sub t x y t2, ty, pos, af, gd⟩ :: l, ρ) := by rfl) (hg : wantedE ops ρ ⟨some d, .binOp .sub t x y t2, ty, pos, af, gd⟩ = true := by rfl) (hx : ev ρ x = .int .i64 a := by rfl) (hy : ev ρ y = .int .i64 b := by rfl) (hr : a - b = r ∧ -9223372036854775808 ≤ r ∧ r ≤ 9223372036854775807 := by omega) : RW m P n B ops K l0 ρ0 f L := by
  refine rw_runP l0 ρ0 ?_
  rw [hrun]
  exact rw_y hg (fun w _ => by simp [execOp, eqGuard, binOp, hx, hy, Op.intArith, hr.1, wrap_in hr.2]) k
theorem mul (r : Int) (k : RW m P n B ops K l (up ρ d (.int .i64 r)) f L) (hrun : runP P ops l0 ρ0 = (⟨some d, .binOp .mul t x y t2, ty, pos, af, gd⟩ :: l, ρ) := by rfl) (hg : wantedE ops ρ ⟨some d, .binOp .mul t x y t2, ty, pos, af, gd⟩ = true := by rfl) (hx : ev ρ x = .int .i64 a := by rfl) (hy : ev ρ y = .int .i64 b := by rfl) (hr : a * b = r ∧ -9223372036854775808 ≤ r ∧ r ≤ 9223372036854775807 := by omega) : RW m P n B ops K l0 ρ0 f L := by
  refine rw_runP l0 ρ0 ?_
  rw [hrun]
  exact rw_y hg (fun w _ => by simp [execOp, eqGuard, binOp, hx, hy, Op.intArith, hr.1, wrap_in hr.2]) k
theorem quo (r : Int) (hb : b ≠ 0) (hr : a.tdiv b = r ∧ -9223372036854775808 ≤ r ∧ r ≤ 9223372036854775807) (k : RW m P n B ops K l (up ρ d (.int .i64 r)) f L) (hrun : runP P ops l0 ρ0 = (⟨some d, .binOp .quo t x y t2, ty, pos, af, gd⟩ :: l, ρ) := by rfl) (hg : wantedE ops ρ ⟨some d, .binOp .quo t x y t2, ty, pos, af, gd⟩ = true := by rfl) (hx : ev ρ x = .int .i64 a := by rfl) (hy : ev ρ y = .int .i64 b := by rfl) : RW m P n B ops K l0 ρ0 f L := by
  refine rw_runP l0 ρ0 ?_
  rw [hrun]
  exact rw_y hg (fun w _ => by simp [execOp, eqGuard, binOp, hx, hy, Op.intDiv, hb, hr.1, wrap_in hr.2]) k
theorem rem (r : Int) (hb : b ≠ 0) (hr : a.tmod b = r) (k : RW m P n B ops K l (up ρ d (.int .i64 r)) f L) (hrun : runP P ops l0 ρ0 = (⟨some d, .binOp .rem t x y t2, ty, pos, af, gd⟩ :: l, ρ) := by rfl) (hg : wantedE ops ρ ⟨some d, .binOp .rem t x y t2, ty, pos, af, gd⟩ = true := by rfl) (hx : ev ρ x = .int .i64 a := by rfl) (hy : ev ρ y = .int .i64 b := by rfl) : RW m P n B ops K l0 ρ0 f L := by
  refine rw_runP l0 ρ0 ?_
  rw [hrun]
  exact rw_y hg (fun w _ => by simp [execOp, eqGuard, binOp, hx, hy, Op.intDiv, hb, hr]) k
/-- A comparison: both ways. -/
theorem cmpI {kk : IntKind} {op : BinOp} (hg : wantedE ops ρ ⟨some d, .binOp op t x y t2, ty, pos, af, gd⟩ = true) (p : Prop) [Decidable p] (hx : ev ρ x = .int kk a) (hy : ev ρ y = .int kk b) (hs : op ≠ .shl ∧ op ≠ .shr ∧ (Op.intCmp op a b = pure (.bool (decide p))) ∧ (binOp op t (.int kk a) (.int kk b) = Op.intCmp op a b))
    (T : p → RW m P n B ops K l (up ρ d (.bool true)) f L) (F : ¬ p → RW m P n B ops K l (up ρ d (.bool false)) f L) :
    RW m P n B ops K (⟨some d, .binOp op t x y t2, ty, pos, af, gd⟩ :: l) ρ f L := by
  have hy' : Yd P ρ ⟨some d, .binOp op t x y t2, ty, pos, af, gd⟩ (St B f L) (.bool (decide p)) := fun w _ => by
    simp [execOp, eqGuard, hx, hy, hs.2.2.1, hs.2.2.2]
  by_cases h : p
  · rw [decide_eq_true h] at hy'
    exact rw_y hg hy' (T h)
  · rw [decide_eq_false h] at hy'
    exact rw_y hg hy' (F h)
variable {kk : IntKind}
theorem lt (T : a < b → RW m P n B ops K l (up ρ d (.bool true)) f L) (F : ¬ a < b → RW m P n B ops K l (up ρ d (.bool false)) f L) (hrun : runP P ops l0 ρ0 = (⟨some d, .binOp .lss t x y t2, ty, pos, af, gd⟩ :: l, ρ) := by rfl) (hg : wantedE ops ρ ⟨some d, .binOp .lss t x y t2, ty, pos, af, gd⟩ = true := by rfl) (hx : ev ρ x = .int kk a := by rfl) (hy : ev ρ y = .int kk b := by rfl) : RW m P n B ops K l0 ρ0 f L := by
  refine rw_runP l0 ρ0 ?_
  rw [hrun]
  exact cmpI hg (a < b) hx hy ⟨by simp, by simp, rfl, by simp [binOp]⟩ T F
theorem le (T : a ≤ b → RW m P n B ops K l (up ρ d (.bool true)) f L) (F : ¬ a ≤ b → RW m P n B ops K l (up ρ d (.bool false)) f L) (hrun : runP P ops l0 ρ0 = (⟨some d, .binOp .leq t x y t2, ty, pos, af, gd⟩ :: l, ρ) := by rfl) (hg : wantedE ops ρ ⟨some d, .binOp .leq t x y t2, ty, pos, af, gd⟩ = true := by rfl) (hx : ev ρ x = .int kk a := by rfl) (hy : ev ρ y = .int kk b := by rfl) : RW m P n B ops K l0 ρ0 f L := by
  refine rw_runP l0 ρ0 ?_
  rw [hrun]
  exact cmpI hg (a ≤ b) hx hy ⟨by simp, by simp, rfl, by simp [binOp]⟩ T F
theorem gt (T : b < a → RW m P n B ops K l (up ρ d (.bool true)) f L) (F : ¬ b < a → RW m P n B ops K l (up ρ d (.bool false)) f L) (hrun : runP P ops l0 ρ0 = (⟨some d, .binOp .gtr t x y t2, ty, pos, af, gd⟩ :: l, ρ) := by rfl) (hg : wantedE ops ρ ⟨some d, .binOp .gtr t x y t2, ty, pos, af, gd⟩ = true := by rfl) (hx : ev ρ x = .int kk a := by rfl) (hy : ev ρ y = .int kk b := by rfl) : RW m P n B ops K l0 ρ0 f L := by
  refine rw_runP l0 ρ0 ?_
  rw [hrun]
  exact cmpI hg (b < a) hx hy ⟨by simp, by simp, rfl, by simp [binOp]⟩ T F
theorem ge (T : b ≤ a → RW m P n B ops K l (up ρ d (.bool true)) f L) (F : ¬ b ≤ a → RW m P n B ops K l (up ρ d (.bool false)) f L) (hrun : runP P ops l0 ρ0 = (⟨some d, .binOp .geq t x y t2, ty, pos, af, gd⟩ :: l, ρ) := by rfl) (hg : wantedE ops ρ ⟨some d, .binOp .geq t x y t2, ty, pos, af, gd⟩ = true := by rfl) (hx : ev ρ x = .int kk a := by rfl) (hy : ev ρ y = .int kk b := by rfl) : RW m P n B ops K l0 ρ0 f L := by
  refine rw_runP l0 ρ0 ?_
  rw [hrun]
  exact cmpI hg (b ≤ a) hx hy ⟨by simp, by simp, rfl, by simp [binOp]⟩ T F
theorem eqI (T : a = b → RW m P n B ops K l (up ρ d (.bool true)) f L) (F : ¬ a = b → RW m P n B ops K l (up ρ d (.bool false)) f L) (hrun : runP P ops l0 ρ0 = (⟨some d, .binOp .eql t x y t2, ty, pos, af, gd⟩ :: l, ρ) := by rfl) (hg : wantedE ops ρ ⟨some d, .binOp .eql t x y t2, ty, pos, af, gd⟩ = true := by rfl) (hx : ev ρ x = .int kk a := by rfl) (hy : ev ρ y = .int kk b := by rfl) : RW m P n B ops K l0 ρ0 f L := by
  refine rw_runP l0 ρ0 ?_
  rw [hrun]
  exact cmpI hg (a = b) hx hy ⟨by simp, by simp, rfl, by simp [binOp]⟩ T F
theorem neI (T : a ≠ b → RW m P n B ops K l (up ρ d (.bool true)) f L) (F : ¬ a ≠ b → RW m P n B ops K l (up ρ d (.bool false)) f L) (hrun : runP P ops l0 ρ0 = (⟨some d, .binOp .neq t x y t2, ty, pos, af, gd⟩ :: l, ρ) := by rfl) (hg : wantedE ops ρ ⟨some d, .binOp .neq t x y t2, ty, pos, af, gd⟩ = true := by rfl) (hx : ev ρ x = .int kk a := by rfl) (hy : ev ρ y = .int kk b := by rfl) : RW m P n B ops K l0 ρ0 f L := by
  refine rw_runP l0 ρ0 ?_
  rw [hrun]
  exact cmpI hg (a ≠ b) hx hy ⟨by simp, by simp, by simp only [Op.intCmp]; congr 2; by_cases h : a = b <;> simp [h], by simp [binOp]⟩ T F
/-! ### Texts -/
variable {s u : Str}
theorem cmpS {op : BinOp} (hg : wantedE ops ρ ⟨some d, .binOp op t x y t2, ty, pos, af, gd⟩ = true) (p : Prop) [Decidable p] (hx : ev ρ x = str s) (hy : ev ρ y = str u) (hs : binOp op t (str s) (str u) = pure (.bool (decide p)))
    (T : p → RW m P n B ops K l (up ρ d (.bool true)) f L) (F : ¬ p → RW m P n B ops K l (up ρ d (.bool false)) f L) :
    RW m P n B ops K (⟨some d, .binOp op t x y t2, ty, pos, af, gd⟩ :: l) ρ f L := by
  have hy' : Yd P ρ ⟨some d, .binOp op t x y t2, ty, pos, af, gd⟩ (St B f L) (.bool (decide p)) := fun w _ => by
    simp [execOp, eqGuard, hx, hy, hs]
  by_cases h : p
  · rw [decide_eq_true h] at hy'
    exact rw_y hg hy' (T h)
  · rw [decide_eq_false h] at hy'
    exact rw_y hg hy' (F h)
theorem eqS (T : s = u → RW m P n B ops K l (up ρ d (.bool true)) f L) (F : ¬ s = u → RW m P n B ops K l (up ρ d (.bool false)) f L) (hrun : runP P ops l0 ρ0 = (⟨some d, .binOp .eql t x y t2, ty, pos, af, gd⟩ :: l, ρ) := by rfl) (hg : wantedE ops ρ ⟨some d, .binOp .eql t x y t2, ty, pos, af, gd⟩ = true := by rfl) (hx : ev ρ x = str s := by rfl) (hy : ev ρ y = str u := by rfl) : RW m P n B ops K l0 ρ0 f L := by
  refine rw_runP l0 ρ0 ?_
  rw [hrun]
  exact cmpS hg (s = u) hx hy (by rw [binOp_string_eql, toList_str, toList_str]; congr 2; by_cases h : s = u <;> simp [h]) T F
theorem neS (T : s ≠ u → RW m P n B ops K l (up ρ d (.bool true)) f L) (F : ¬ s ≠ u → RW m P n B ops K l (up ρ d (.bool false)) f L) (hrun : runP P ops l0 ρ0 = (⟨some d, .binOp .neq t x y t2, ty, pos, af, gd⟩ :: l, ρ) := by rfl) (hg : wantedE ops ρ ⟨some d, .binOp .neq t x y t2, ty, pos, af, gd⟩ = true := by rfl) (hx : ev ρ x = str s := by rfl) (hy : ev ρ y = str u := by rfl) : RW m P n B ops K l0 ρ0 f L := by
  refine rw_runP l0 ρ0 ?_
  rw [hrun]
  exact cmpS hg (s ≠ u) hx hy (by rw [binOp_string_neq, toList_str, toList_str]; congr 2; by_cases h : s = u <;> simp [h]) T F
theorem ltS (T : s < u → RW m P n B ops K l (up ρ d (.bool true)) f L) (F : ¬ s < u → RW m P n B ops K l (up ρ d (.bool false)) f L) (hrun : runP P ops l0 ρ0 = (⟨some d, .binOp .lss t x y t2, ty, pos, af, gd⟩ :: l, ρ) := by rfl) (hg : wantedE ops ρ ⟨some d, .binOp .lss t x y t2, ty, pos, af, gd⟩ = true := by rfl) (hx : ev ρ x = str s := by rfl) (hy : ev ρ y = str u := by rfl) : RW m P n B ops K l0 ρ0 f L := by
  refine rw_runP l0 ρ0 ?_
  rw [hrun]
  exact cmpS hg (s < u) hx hy (by rw [binOp_string_lss, toList_str, toList_str, bytesLess_eq]) T F
theorem le_or {s u : Str} : (decide (s < u) || s == u) = decide (¬ u < s) := by
  by_cases h1 : s < u
  · have := List.lt_asymm h1
    simp [h1, this]
  · by_cases h2 : s = u
    · subst h2; simp [h1]
    · have h3 : u < s := Std.lt_of_le_of_ne h1 (Ne.symm h2)
      simp [h1, h2, h3]
theorem geS (T : ¬ s < u → RW m P n B ops K l (up ρ d (.bool true)) f L) (F : ¬ ¬ s < u → RW m P n B ops K l (up ρ d (.bool false)) f L) (hrun : runP P ops l0 ρ0 = (⟨some d, .binOp .geq t x y t2, ty, pos, af, gd⟩ :: l, ρ) := by rfl) (hg : wantedE ops ρ ⟨some d, .binOp .geq t x y t2, ty, pos, af, gd⟩ = true := by rfl) (hx : ev ρ x = str s := by rfl) (hy : ev ρ y = str u := by rfl) : RW m P n B ops K l0 ρ0 f L := by
  refine rw_runP l0 ρ0 ?_
  rw [hrun]
  exact cmpS hg (¬ s < u) hx hy (by simp only [binOp, Op.stringOp, toList_str, bytesLess_eq]; congr 2; by_cases h : s < u <;> simp [h]) T F
theorem leS (T : ¬ u < s → RW m P n B ops K l (up ρ d (.bool true)) f L) (F : ¬ ¬ u < s → RW m P n B ops K l (up ρ d (.bool false)) f L) (hrun : runP P ops l0 ρ0 = (⟨some d, .binOp .leq t x y t2, ty, pos, af, gd⟩ :: l, ρ) := by rfl) (hg : wantedE ops ρ ⟨some d, .binOp .leq t x y t2, ty, pos, af, gd⟩ = true := by rfl) (hx : ev ρ x = str s := by rfl) (hy : ev ρ y = str u := by rfl) : RW m P n B ops K l0 ρ0 f L := by
  refine rw_runP l0 ρ0 ?_
  rw [hrun]
  exact cmpS hg (¬ u < s) hx hy (by simp only [binOp, Op.stringOp, toList_str, bytesLess_eq]; rw [le_or]) T F
theorem gtS (T : u < s → RW m P n B ops K l (up ρ d (.bool true)) f L) (F : ¬ u < s → RW m P n B ops K l (up ρ d (.bool false)) f L) (hrun : runP P ops l0 ρ0 = (⟨some d, .binOp .gtr t x y t2, ty, pos, af, gd⟩ :: l, ρ) := by rfl) (hg : wantedE ops ρ ⟨some d, .binOp .gtr t x y t2, ty, pos, af, gd⟩ = true := by rfl) (hx : ev ρ x = str s := by rfl) (hy : ev ρ y = str u := by rfl) : RW m P n B ops K l0 ρ0 f L := by
  refine rw_runP l0 ρ0 ?_
  rw [hrun]
  exact cmpS hg (u < s) hx hy (by simp only [binOp, Op.stringOp, toList_str, bytesLess_eq]; rw [le_or]; congr 2; by_cases h : u < s <;> simp [h]) T F
/-- 's + u'. -/
theorem cat (hl : s.length + u.length ≤ 9223372036854775807) (k : RW m P n B ops K l (up ρ d (str (s ++ u))) f L) (hrun : runP P ops l0 ρ0 = (⟨some d, .binOp .add t x y t2, ty, pos, af, gd⟩ :: l, ρ) := by rfl) (hg : wantedE ops ρ ⟨some d, .binOp .add t x y t2, ty, pos, af, gd⟩ = true := by rfl) (hx : ev ρ x = str s := by rfl) (hy : ev ρ y = str u := by rfl) : RW m P n B ops K l0 ρ0 f L := by
  refine rw_runP l0 ρ0 ?_
  rw [hrun]
  exact rw_y hg (fun w _ => by
    have h1 : ¬ (((ByteArray.mk ⟨s⟩).size + (ByteArray.mk ⟨u⟩).size : Nat) : Int) > IntKind.i64.max := by
      show ¬ ((s.length + u.length : Nat) : Int) > 9223372036854775807
      omega
    have h2 : (ByteArray.mk ⟨s⟩) ++ (ByteArray.mk ⟨u⟩) = ByteArray.mk ⟨s ++ u⟩ := by
      apply ByteArray.ext
      simp
    simp only [execOp, eqGuard, hx, hy, binOp, Op.stringOp, if_neg h1, h2]
    simp) k
/-- 's[i]' of a text. -/
theorem ixS {ki : IntKind} {i : Int} (j : Nat) (c : UInt8) (hc : s[j]? = some c) (k : RW m P n B ops K l (up ρ d (.int .u8 (c.toNat : Int))) f L) (hrun : runP P ops l0 ρ0 = (⟨some d, .index t x y, ty, pos, af, gd⟩ :: l, ρ) := by rfl) (hg : wantedE ops ρ ⟨some d, .index t x y, ty, pos, af, gd⟩ = true := by rfl) (hx : ev ρ x = str s := by rfl) (hy : ev ρ y = .int ki i := by rfl) (ht : P.underlying t = some .string := by rfl) (hi : i = j := by rfl) : RW m P n B ops K l0 ρ0 f L := by
  refine rw_runP l0 ρ0 ?_
  rw [hrun]
  exact rw_y hg (fun w _ => by
    subst hi
    have h1 : (ByteArray.mk ⟨s⟩)[j]? = some c := by
      have hlt : j < s.length := (List.getElem?_eq_some_iff.1 hc).1
      rw [ByteArray.getElem?_lt' _ _ (by exact hlt)]
      have := (List.getElem?_eq_some_iff.1 hc).2
      congr 1
    simp [execOp, Instr.index, asIntOf, hx, hy, run_und ht, h1]) k
end
end
-- E VERSIONS
section
variable {P : Program} {n : Nat} {B : Bs} {f : View} {L : List HE} {ρ : Env} {Q : Post} {K : Kon} {ops : Array Oper} {m : Md} {o : Oper} {l l0 : List Oper} {ρ0 : Env}
variable {d : Nat} {x y : Operand} {a b : Int} {t ty t2 : TypeId} {pos : String} {af : Array Edge} {gd : Option (Nat × Bool)}
variable {kk : IntKind}
variable {s u : Str}
theorem addE (r : Int) {ρE : Env} (k : K ρE f L) (hrun : runP P ops l0 ρ0 = (⟨some d, .binOp .add t x y t2, ty, pos, af, gd⟩ :: l, ρ) := by rfl) (hg : wantedE ops ρ ⟨some d, .binOp .add t x y t2, ty, pos, af, gd⟩ = true := by rfl) (hx : ev ρ x = .int .i64 a := by rfl) (hy : ev ρ y = .int .i64 b := by rfl) (hr : a + b = r ∧ -9223372036854775808 ≤ r ∧ r ≤ 9223372036854775807 := by omega) (hE : runP P ops l (up ρ d (.int .i64 r)) = ([], ρE) := by rfl) : RW m P n B ops K l0 ρ0 f L :=
  add (r := r) (k := runE k hE) (hrun := hrun) (hg := hg) (hx := hx) (hy := hy) (hr := hr)
theorem subE (r : Int) {ρE : Env} (k : K ρE f L) (hrun : runP P ops l0 ρ0 = (⟨some d, .binOp .sub t x y t2, ty, pos, af, gd⟩ :: l, ρ) := by rfl) (hg : wantedE ops ρ ⟨some d, .binOp .sub t x y t2, ty, pos, af, gd⟩ = true := by rfl) (hx : ev ρ x = .int .i64 a := by rfl) (hy : ev ρ y = .int .i64 b := by rfl) (hr : a - b = r ∧ -9223372036854775808 ≤ r ∧ r ≤ 9223372036854775807 := by omega) (hE : runP P ops l (up ρ d (.int .i64 r)) = ([], ρE) := by rfl) : RW m P n B ops K l0 ρ0 f L :=
  sub (r := r) (k := runE k hE) (hrun := hrun) (hg := hg) (hx := hx) (hy := hy) (hr := hr)
theorem mulE (r : Int) {ρE : Env} (k : K ρE f L) (hrun : runP P ops l0 ρ0 = (⟨some d, .binOp .mul t x y t2, ty, pos, af, gd⟩ :: l, ρ) := by rfl) (hg : wantedE ops ρ ⟨some d, .binOp .mul t x y t2, ty, pos, af, gd⟩ = true := by rfl) (hx : ev ρ x = .int .i64 a := by rfl) (hy : ev ρ y = .int .i64 b := by rfl) (hr : a * b = r ∧ -9223372036854775808 ≤ r ∧ r ≤ 9223372036854775807 := by omega) (hE : runP P ops l (up ρ d (.int .i64 r)) = ([], ρE) := by rfl) : RW m P n B ops K l0 ρ0 f L :=
  mul (r := r) (k := runE k hE) (hrun := hrun) (hg := hg) (hx := hx) (hy := hy) (hr := hr)
theorem quoE (r : Int) (hb : b ≠ 0) (hr : a.tdiv b = r ∧ -9223372036854775808 ≤ r ∧ r ≤ 9223372036854775807) {ρE : Env} (k : K ρE f L) (hrun : runP P ops l0 ρ0 = (⟨some d, .binOp .quo t x y t2, ty, pos, af, gd⟩ :: l, ρ) := by rfl) (hg : wantedE ops ρ ⟨some d, .binOp .quo t x y t2, ty, pos, af, gd⟩ = true := by rfl) (hx : ev ρ x = .int .i64 a := by rfl) (hy : ev ρ y = .int .i64 b := by rfl) (hE : runP P ops l (up ρ d (.int .i64 r)) = ([], ρE) := by rfl) : RW m P n B ops K l0 ρ0 f L :=
  quo (r := r) (hb := hb) (hr := hr) (k := runE k hE) (hrun := hrun) (hg := hg) (hx := hx) (hy := hy)
theorem remE (r : Int) (hb : b ≠ 0) (hr : a.tmod b = r) {ρE : Env} (k : K ρE f L) (hrun : runP P ops l0 ρ0 = (⟨some d, .binOp .rem t x y t2, ty, pos, af, gd⟩ :: l, ρ) := by rfl) (hg : wantedE ops ρ ⟨some d, .binOp .rem t x y t2, ty, pos, af, gd⟩ = true := by rfl) (hx : ev ρ x = .int .i64 a := by rfl) (hy : ev ρ y = .int .i64 b := by rfl) (hE : runP P ops l (up ρ d (.int .i64 r)) = ([], ρE) := by rfl) : RW m P n B ops K l0 ρ0 f L :=
  rem (r := r) (hb := hb) (hr := hr) (k := runE k hE) (hrun := hrun) (hg := hg) (hx := hx) (hy := hy)
theorem ltE {ρT ρF : Env} (T : a < b → K ρT f L) (F : ¬ a < b → K ρF f L) (hrun : runP P ops l0 ρ0 = (⟨some d, .binOp .lss t x y t2, ty, pos, af, gd⟩ :: l, ρ) := by rfl) (hg : wantedE ops ρ ⟨some d, .binOp .lss t x y t2, ty, pos, af, gd⟩ = true := by rfl) (hx : ev ρ x = .int kk a := by rfl) (hy : ev ρ y = .int kk b := by rfl) (hT : runP P ops l (up ρ d (.bool true)) = ([], ρT) := by rfl) (hF : runP P ops l (up ρ d (.bool false)) = ([], ρF) := by rfl) : RW m P n B ops K l0 ρ0 f L :=
  lt (T := fun h => runE (T h) hT) (F := fun h => runE (F h) hF) (hrun := hrun) (hg := hg) (hx := hx) (hy := hy)
theorem leE {ρT ρF : Env} (T : a ≤ b → K ρT f L) (F : ¬ a ≤ b → K ρF f L) (hrun : runP P ops l0 ρ0 = (⟨some d, .binOp .leq t x y t2, ty, pos, af, gd⟩ :: l, ρ) := by rfl) (hg : wantedE ops ρ ⟨some d, .binOp .leq t x y t2, ty, pos, af, gd⟩ = true := by rfl) (hx : ev ρ x = .int kk a := by rfl) (hy : ev ρ y = .int kk b := by rfl) (hT : runP P ops l (up ρ d (.bool true)) = ([], ρT) := by rfl) (hF : runP P ops l (up ρ d (.bool false)) = ([], ρF) := by rfl) : RW m P n B ops K l0 ρ0 f L :=
  le (T := fun h => runE (T h) hT) (F := fun h => runE (F h) hF) (hrun := hrun) (hg := hg) (hx := hx) (hy := hy)
theorem gtE {ρT ρF : Env} (T : b < a → K ρT f L) (F : ¬ b < a → K ρF f L) (hrun : runP P ops l0 ρ0 = (⟨some d, .binOp .gtr t x y t2, ty, pos, af, gd⟩ :: l, ρ) := by rfl) (hg : wantedE ops ρ ⟨some d, .binOp .gtr t x y t2, ty, pos, af, gd⟩ = true := by rfl) (hx : ev ρ x = .int kk a := by rfl) (hy : ev ρ y = .int kk b := by rfl) (hT : runP P ops l (up ρ d (.bool true)) = ([], ρT) := by rfl) (hF : runP P ops l (up ρ d (.bool false)) = ([], ρF) := by rfl) : RW m P n B ops K l0 ρ0 f L :=
  gt (T := fun h => runE (T h) hT) (F := fun h => runE (F h) hF) (hrun := hrun) (hg := hg) (hx := hx) (hy := hy)
theorem geE {ρT ρF : Env} (T : b ≤ a → K ρT f L) (F : ¬ b ≤ a → K ρF f L) (hrun : runP P ops l0 ρ0 = (⟨some d, .binOp .geq t x y t2, ty, pos, af, gd⟩ :: l, ρ) := by rfl) (hg : wantedE ops ρ ⟨some d, .binOp .geq t x y t2, ty, pos, af, gd⟩ = true := by rfl) (hx : ev ρ x = .int kk a := by rfl) (hy : ev ρ y = .int kk b := by rfl) (hT : runP P ops l (up ρ d (.bool true)) = ([], ρT) := by rfl) (hF : runP P ops l (up ρ d (.bool false)) = ([], ρF) := by rfl) : RW m P n B ops K l0 ρ0 f L :=
  ge (T := fun h => runE (T h) hT) (F := fun h => runE (F h) hF) (hrun := hrun) (hg := hg) (hx := hx) (hy := hy)
theorem eqIE {ρT ρF : Env} (T : a = b → K ρT f L) (F : ¬ a = b → K ρF f L) (hrun : runP P ops l0 ρ0 = (⟨some d, .binOp .eql t x y t2, ty, pos, af, gd⟩ :: l, ρ) := by rfl) (hg : wantedE ops ρ ⟨some d, .binOp .eql t x y t2, ty, pos, af, gd⟩ = true := by rfl) (hx : ev ρ x = .int kk a := by rfl) (hy : ev ρ y = .int kk b := by rfl) (hT : runP P ops l (up ρ d (.bool true)) = ([], ρT) := by rfl) (hF : runP P ops l (up ρ d (.bool false)) = ([], ρF) := by rfl) : RW m P n B ops K l0 ρ0 f L :=
  eqI (T := fun h => runE (T h) hT) (F := fun h => runE (F h) hF) (hrun := hrun) (hg := hg) (hx := hx) (hy := hy)
theorem neIE {ρT ρF : Env} (T : a ≠ b → K ρT f L) (F : ¬ a ≠ b → K ρF f L) (hrun : runP P ops l0 ρ0 = (⟨some d, .binOp .neq t x y t2, ty, pos, af, gd⟩ :: l, ρ) := by rfl) (hg : wantedE ops ρ ⟨some d, .binOp .neq t x y t2, ty, pos, af, gd⟩ = true := by rfl) (hx : ev ρ x = .int kk a := by rfl) (hy : ev ρ y = .int kk b := by rfl) (hT : runP P ops l (up ρ d (.bool true)) = ([], ρT) := by rfl) (hF : runP P ops l (up ρ d (.bool false)) = ([], ρF) := by rfl) : RW m P n B ops K l0 ρ0 f L :=
  neI (T := fun h => runE (T h) hT) (F := fun h => runE (F h) hF) (hrun := hrun) (hg := hg) (hx := hx) (hy := hy)
theorem eqSE {ρT ρF : Env} (T : s = u → K ρT f L) (F : ¬ s = u → K ρF f L) (hrun : runP P ops l0 ρ0 = (⟨some d, .binOp .eql t x y t2, ty, pos, af, gd⟩ :: l, ρ) := by rfl) (hg : wantedE ops ρ ⟨some d, .binOp .eql t x y t2, ty, pos, af, gd⟩ = true := by rfl) (hx : ev ρ x = str s := by rfl) (hy : ev ρ y = str u := by rfl) (hT : runP P ops l (up ρ d (.bool true)) = ([], ρT) := by rfl) (hF : runP P ops l (up ρ d (.bool false)) = ([], ρF) := by rfl) : RW m P n B ops K l0 ρ0 f L :=
  eqS (T := fun h => runE (T h) hT) (F := fun h => runE (F h) hF) (hrun := hrun) (hg := hg) (hx := hx) (hy := hy)
theorem neSE {ρT ρF : Env} (T : s ≠ u → K ρT f L) (F : ¬ s ≠ u → K ρF f L) (hrun : runP P ops l0 ρ0 = (⟨some d, .binOp .neq t x y t2, ty, pos, af, gd⟩ :: l, ρ) := by rfl) (hg : wantedE ops ρ ⟨some d, .binOp .neq t x y t2, ty, pos, af, gd⟩ = true := by rfl) (hx : ev ρ x = str s := by rfl) (hy : ev ρ y = str u := by rfl) (hT : runP P ops l (up ρ d (.bool true)) = ([], ρT) := by rfl) (hF : runP P ops l (up ρ d (.bool false)) = ([], ρF) := by rfl) : RW m P n B ops K l0 ρ0 f L :=
  neS (T := fun h => runE (T h) hT) (F := fun h => runE (F h) hF) (hrun := hrun) (hg := hg) (hx := hx) (hy := hy)
theorem ltSE {ρT ρF : Env} (T : s < u → K ρT f L) (F : ¬ s < u → K ρF f L) (hrun : runP P ops l0 ρ0 = (⟨some d, .binOp .lss t x y t2, ty, pos, af, gd⟩ :: l, ρ) := by rfl) (hg : wantedE ops ρ ⟨some d, .binOp .lss t x y t2, ty, pos, af, gd⟩ = true := by rfl) (hx : ev ρ x = str s := by rfl) (hy : ev ρ y = str u := by rfl) (hT : runP P ops l (up ρ d (.bool true)) = ([], ρT) := by rfl) (hF : runP P ops l (up ρ d (.bool false)) = ([], ρF) := by rfl) : RW m P n B ops K l0 ρ0 f L :=
  ltS (T := fun h => runE (T h) hT) (F := fun h => runE (F h) hF) (hrun := hrun) (hg := hg) (hx := hx) (hy := hy)
theorem geSE {ρT ρF : Env} (T : ¬ s < u → K ρT f L) (F : ¬ ¬ s < u → K ρF f L) (hrun : runP P ops l0 ρ0 = (⟨some d, .binOp .geq t x y t2, ty, pos, af, gd⟩ :: l, ρ) := by rfl) (hg : wantedE ops ρ ⟨some d, .binOp .geq t x y t2, ty, pos, af, gd⟩ = true := by rfl) (hx : ev ρ x = str s := by rfl) (hy : ev ρ y = str u := by rfl) (hT : runP P ops l (up ρ d (.bool true)) = ([], ρT) := by rfl) (hF : runP P ops l (up ρ d (.bool false)) = ([], ρF) := by rfl) : RW m P n B ops K l0 ρ0 f L :=
  geS (T := fun h => runE (T h) hT) (F := fun h => runE (F h) hF) (hrun := hrun) (hg := hg) (hx := hx) (hy := hy)
theorem leSE {ρT ρF : Env} (T : ¬ u < s → K ρT f L) (F : ¬ ¬ u < s → K ρF f L) (hrun : runP P ops l0 ρ0 = (⟨some d, .binOp .leq t x y t2, ty, pos, af, gd⟩ :: l, ρ) := by rfl) (hg : wantedE ops ρ ⟨some d, .binOp .leq t x y t2, ty, pos, af, gd⟩ = true := by rfl) (hx : ev ρ x = str s := by rfl) (hy : ev ρ y = str u := by rfl) (hT : runP P ops l (up ρ d (.bool true)) = ([], ρT) := by rfl) (hF : runP P ops l (up ρ d (.bool false)) = ([], ρF) := by rfl) : RW m P n B ops K l0 ρ0 f L :=
  leS (T := fun h => runE (T h) hT) (F := fun h => runE (F h) hF) (hrun := hrun) (hg := hg) (hx := hx) (hy := hy)
theorem gtSE {ρT ρF : Env} (T : u < s → K ρT f L) (F : ¬ u < s → K ρF f L) (hrun : runP P ops l0 ρ0 = (⟨some d, .binOp .gtr t x y t2, ty, pos, af, gd⟩ :: l, ρ) := by rfl) (hg : wantedE ops ρ ⟨some d, .binOp .gtr t x y t2, ty, pos, af, gd⟩ = true := by rfl) (hx : ev ρ x = str s := by rfl) (hy : ev ρ y = str u := by rfl) (hT : runP P ops l (up ρ d (.bool true)) = ([], ρT) := by rfl) (hF : runP P ops l (up ρ d (.bool false)) = ([], ρF) := by rfl) : RW m P n B ops K l0 ρ0 f L :=
  gtS (T := fun h => runE (T h) hT) (F := fun h => runE (F h) hF) (hrun := hrun) (hg := hg) (hx := hx) (hy := hy)
theorem catE (hl : s.length + u.length ≤ 9223372036854775807) {ρE : Env} (k : K ρE f L) (hrun : runP P ops l0 ρ0 = (⟨some d, .binOp .add t x y t2, ty, pos, af, gd⟩ :: l, ρ) := by rfl) (hg : wantedE ops ρ ⟨some d, .binOp .add t x y t2, ty, pos, af, gd⟩ = true := by rfl) (hx : ev ρ x = str s := by rfl) (hy : ev ρ y = str u := by rfl) (hE : runP P ops l (up ρ d (str (s ++ u))) = ([], ρE) := by rfl) : RW m P n B ops K l0 ρ0 f L :=
  cat (hl := hl) (k := runE k hE) (hrun := hrun) (hg := hg) (hx := hx) (hy := hy)
theorem ixSE {ki : IntKind} {i : Int} (j : Nat) (c : UInt8) (hc : s[j]? = some c) {ρE : Env} (k : K ρE f L) (hrun : runP P ops l0 ρ0 = (⟨some d, .index t x y, ty, pos, af, gd⟩ :: l, ρ) := by rfl) (hg : wantedE ops ρ ⟨some d, .index t x y, ty, pos, af, gd⟩ = true := by rfl) (hx : ev ρ x = str s := by rfl) (hy : ev ρ y = .int ki i := by rfl) (ht : P.underlying t = some .string := by rfl) (hi : i = j := by rfl) (hE : runP P ops l (up ρ d (.int .u8 (c.toNat : Int))) = ([], ρE) := by rfl) : RW m P n B ops K l0 ρ0 f L :=
  ixS (j := j) (c := c) (hc := hc) (k := runE k hE) (hrun := hrun) (hg := hg) (hx := hx) (hy := hy) (ht := ht) (hi := hi)
end
-- END E VERSIONS
end Go.Hog

set_option linter.unusedVariables false
set_option linter.unusedSimpArgs false
namespace Go.Hog
open Go.RowKit

/-! ### What reads as what -/
def Cells (f : View) (b o : Nat) : List Value → Prop
  | [] => True
  | v :: vs => f.cell? ⟨b, o, none⟩ = some v ∧ Cells f b (o + 1) vs
theorem Cells.mono {f g : View} (h : Sub f g) {b : Nat} : ∀ {vs : List Value} {o : Nat}, Cells f b o vs → Cells g b o vs
  | [], _, _ => trivial
  | _ :: _, _, hc => ⟨h.cell hc.1, Cells.mono h hc.2⟩
theorem Cells.get {f : View} {b : Nat} : ∀ {vs : List Value} {o : Nat}, Cells f b o vs → ∀ j v, vs[j]? = some v → f.cell? ⟨b, o + j, none⟩ = some v
  | [], _, _, j, v, hj => by simp at hj
  | u :: vs, o, hc, 0, v, hj => by simp at hj; subst hj; exact hc.1
  | u :: vs, o, hc, j + 1, v, hj => by
    have := Cells.get hc.2 j v (by simpa using hj)
    rwa [show o + 1 + j = o + (j + 1) by omega] at this
theorem Cells.of {f : View} {b : Nat} : ∀ {vs : List Value} {o : Nat}, (∀ j v, vs[j]? = some v → f.cell? ⟨b, o + j, none⟩ = some v) → Cells f b o vs
  | [], _, _ => trivial
  | u :: vs, o, h => ⟨h 0 u rfl, Cells.of fun j v hj => by
    have := h (j + 1) v (by simpa using hj)
    rwa [show o + (j + 1) = o + 1 + j by omega] at this⟩
theorem Cells.append {f : View} {b : Nat} {us vs : List Value} {o : Nat} (h1 : Cells f b o us) (h2 : Cells f b (o + us.length) vs) : Cells f b o (us ++ vs) := by
  refine Cells.of fun j v hj => ?_
  by_cases hlt : j < us.length
  · rw [List.getElem?_append_left hlt] at hj
    exact h1.get j v hj
  · rw [List.getElem?_append_right (by omega)] at hj
    have := h2.get _ v hj
    rwa [show o + us.length + (j - us.length) = o + j by omega] at this
theorem Cells.left {f : View} {b : Nat} {us vs : List Value} {o : Nat} (h : Cells f b o (us ++ vs)) : Cells f b o us :=
  Cells.of fun j v hj => h.get j v (by rw [List.getElem?_append_left (List.getElem?_eq_some_iff.1 hj).1]; exact hj)
theorem Cells.right {f : View} {b : Nat} {us vs : List Value} {o : Nat} (h : Cells f b o (us ++ vs)) : Cells f b (o + us.length) vs :=
  Cells.of fun j v hj => by
    have := h.get (us.length + j) v (by rw [List.getElem?_append_right (by omega)]; simpa using hj)
    rwa [show o + (us.length + j) = o + us.length + j by omega] at this

def LB : Nat := 140737488355328
class Rp (α : Type) where
  sz : Nat
  pos : 0 < sz
  rp : View → α → List Value → Prop
  len : ∀ {f x cs}, rp f x cs → cs.length = sz
  mono : ∀ {f g x cs}, Sub f g → rp f x cs → rp g x cs
  one : ∀ {f x cs}, rp f x cs → ∀ u ∈ cs, u.oneCell' = true
open Rp
structure Sl {α : Type} [Rp α] (f : View) (A : Option Addr) (c : Nat) (l : List α) : Prop where
  cap : l.length ≤ c
  lim : l.length ≤ LB
  top : c ≤ maxLen
  at_ : ∀ j (h : j < l.length), ∃ b o, A = some ⟨b, o, none⟩ ∧ ∃ cs, rp f l[j] cs ∧ Cells f b (o + j * sz α) cs
theorem Sl.mono {α : Type} [Rp α] {f g : View} {A : Option Addr} {c : Nat} {l : List α} (hs : Sub f g) (h : Sl f A c l) : Sl g A c l :=
  ⟨h.cap, h.lim, h.top, fun j hj => let ⟨b, o, e, cs, h1, h2⟩ := h.at_ j hj; ⟨b, o, e, cs, Rp.mono hs h1, h2.mono hs⟩⟩
theorem Sl.nil {α : Type} [Rp α] (f : View) : Sl f none 0 ([] : List α) := ⟨Nat.le_refl _, Nat.zero_le _, Nat.zero_le _, fun _ h => by cases h⟩
theorem Sl.len_lt {α : Type} [Rp α] {f : View} {A : Option Addr} {c : Nat} {l : List α} (h : Sl f A c l) : l.length ≤ 140737488355328 := h.lim
instance : Rp Str where
  sz := 1
  pos := by omega
  rp := fun _ s cs => cs = [str s] ∧ s.length ≤ LB
  len := fun h => by rw [h.1]; rfl
  mono := fun _ h => h
  one := fun h u hu => by rw [h.1] at hu; simp at hu; subst hu; rfl
instance : Rp Int where
  sz := 1
  pos := by omega
  rp := fun _ n cs => cs = [.int .i64 n] ∧ -9223372036854775808 ≤ n ∧ n ≤ 9223372036854775807
  len := fun h => by rw [h.1]; rfl
  mono := fun _ h => h
  one := fun h u hu => by rw [h.1] at hu; simp at hu; subst hu; rfl
instance : Rp Bool where
  sz := 1
  pos := by omega
  rp := fun _ n cs => cs = [.bool n]
  len := fun h => by rw [h]; rfl
  mono := fun _ h => h
  one := fun h u hu => by rw [h] at hu; simp at hu; subst hu; rfl
instance : Rp UInt8 where
  sz := 1
  pos := by omega
  rp := fun _ n cs => cs = [.int .u8 (n.toNat : Int)]
  len := fun h => by rw [h]; rfl
  mono := fun _ h => h
  one := fun h u hu => by rw [h] at hu; simp at hu; subst hu; rfl
instance {α : Type} [Rp α] : Rp (List α) where
  sz := 1
  pos := by omega
  rp := fun f l cs => ∃ A c, cs = [.slice A l.length c] ∧ Sl f A c l
  len := fun ⟨A, c, h, _⟩ => by rw [h]; rfl
  mono := fun hs ⟨A, c, h, h2⟩ => ⟨A, c, h, h2.mono hs⟩
  one := fun ⟨A, c, h, _⟩ u hu => by rw [h] at hu; simp at hu; subst hu; rfl
structure Node where
  path : Str
  kind : Int
  data : Str
  deriving DecidableEq
structure Item where
  name : Str
  refs : List Str
  tree : List Node
  deriving DecidableEq
instance : Rp Node where
  sz := 3
  pos := by omega
  rp := fun _ x cs => cs = [str x.path, .int .i64 x.kind, str x.data] ∧ x.path.length ≤ LB ∧ x.data.length ≤ LB ∧ -9223372036854775808 ≤ x.kind ∧ x.kind ≤ 9223372036854775807
  len := fun h => by rw [h.1]; rfl
  mono := fun _ h => h
  one := fun h u hu => by rw [h.1] at hu; simp at hu; rcases hu with rfl | rfl | rfl <;> rfl
instance : Rp Item where
  sz := 3
  pos := by omega
  rp := fun f x cs => ∃ A1 c1 A2 c2, cs = [str x.name, .slice A1 x.refs.length c1, .slice A2 x.tree.length c2] ∧ x.name.length ≤ LB ∧ Sl f A1 c1 x.refs ∧ Sl f A2 c2 x.tree
  len := fun ⟨A1, c1, A2, c2, h, _⟩ => by rw [h]; rfl
  mono := fun hs ⟨A1, c1, A2, c2, h, h0, h1, h2⟩ => ⟨A1, c1, A2, c2, h, h0, h1.mono hs, h2.mono hs⟩
  one := fun ⟨A1, c1, A2, c2, h, _⟩ u hu => by rw [h] at hu; simp at hu; rcases hu with rfl | rfl | rfl <;> rfl

/-! ### St's moves -/
section
variable {B : Bs} {w w' : World} {f g : View} {L : List HE}
theorem add_plain (b o j : Nat) : (⟨b, o, none⟩ : Addr).add j = ⟨b, o + j, none⟩ := by unfold Addr.add; split <;> simp_all
theorem St.fresh (h : St B f L w) {i : Nat} (hi : w.heap.size ≤ i) : f i = none := by
  cases e : f i with
  | none => rfl
  | some o =>
    have := h.on i o e
    rw [Array.getElem?_eq_none hi] at this
    cases this
theorem St.fp (h : St B f L w) {e : HE} (he : e ∈ L) {b : Nat} (hb : e.fp = some b) : b < w.heap.size := HE.fp_in (h.own e he) hb
/-- A world that has only grown. -/
theorem St.grow (h : St B f L w) (hb : Below w.heap.size w w') : St B f L w' :=
  ⟨hb.os.trans h.os, hb.tape.trans h.tape, hb.output.trans h.output, Nat.le_trans h.size hb.size, fun i hi hX => (hb.block i (Nat.lt_of_lt_of_le hi h.size)).trans (h.keep i hi hX), h.ext, h.old,
    fun i o e => by
      have h1 := h.on i o e
      rw [hb.block i (Array.getElem?_eq_some_iff.1 h1).1]; exact h1,
    fun e he => HE.holds_of (h.own e he) fun b hb' => hb.block b (h.fp he hb'), h.mine, h.off, h.apart⟩
theorem St.view (h : St B f L w) (hs : Sub f g) (hold : ∀ i, i < B.w.heap.size → g i = f i) (hon : On g w) (hoff : ∀ e ∈ L, ∀ b, e.fp = some b → g b = none) : St B g L w :=
  ⟨h.os, h.tape, h.output, h.size, h.keep, h.ext.trans hs, fun i hi => (hold i hi).trans (h.old i hi), hon, h.own, h.mine, hoff, h.apart⟩
theorem St.cons (h : St B f L w) {e : HE} (he : e.holds w) (hm : ∀ b, e.fp = some b → B.w.heap.size ≤ b ∨ b ∈ B.X) (hf : ∀ b, e.fp = some b → f b = none) (hn : ∀ b, e.fp = some b → ∀ x ∈ L, x.fp ≠ some b) : St B f (e :: L) w :=
  ⟨h.os, h.tape, h.output, h.size, h.keep, h.ext, h.old, h.on, fun x hx => by rcases List.mem_cons.1 hx with rfl | hx; exact he; exact h.own x hx,
    fun x hx => by rcases List.mem_cons.1 hx with rfl | hx; exact hm; exact h.mine x hx,
    fun x hx => by rcases List.mem_cons.1 hx with rfl | hx; exact hf; exact h.off x hx, List.Pairwise.cons (fun x hx b hb hb' => hn b hb x hx hb') h.apart⟩
theorem St.alloc (h : St B f L w) (o : Obj) : St B f L (w.alloc o) := h.grow ((Below.refl _ _).alloc (Nat.le_refl _) o)
theorem heap_new (w : World) (o : Obj) : (w.alloc o).heap[w.heap.size]? = some o := heap_alloc_new w o
theorem St.new (h : St B f L w) {o : Obj} {e : HE} (he : e.holds (w.alloc o)) (hb : e.fp = some w.heap.size) : St B f (e :: L) (w.alloc o) := by
  refine (h.alloc o).cons he ?_ ?_ ?_
  · intro b hb'
    rw [hb] at hb'; injection hb' with hb'; subst hb'
    exact .inl h.size
  · intro b hb'
    rw [hb] at hb'; injection hb' with hb'; subst hb'
    exact h.fresh (Nat.le_refl _)
  · intro b hb' x hx hx'
    rw [hb] at hb'; injection hb' with hb'; subst hb'
    have := h.fp hx hx'
    omega
theorem St.sub {L' : List HE} (h : St B f L w) (hs : ∀ e ∈ L', e ∈ L) (ha : Apart L') : St B f L' w :=
  ⟨h.os, h.tape, h.output, h.size, h.keep, h.ext, h.old, h.on, fun e he => h.own e (hs e he), fun e he => h.mine e (hs e he), fun e he => h.off e (hs e he), ha⟩
theorem St.sublist {L' : List HE} (h : St B f L w) (hs : L'.Sublist L) : St B f L' w := h.sub (fun e he => hs.subset he) (h.apart.sublist hs)
theorem apart_perm {L L' : List HE} (h : L.Perm L') (ha : Apart L) : Apart L' :=
  (h.pairwise_iff (fun {x y} hxy b hb hb' => hxy b hb' hb)).1 ha
theorem St.perm {L' : List HE} (h : St B f L w) (hp : L.Perm L') : St B f L' w := h.sub (fun e he => hp.mem_iff.2 he) (apart_perm hp h.apart)
/-- The block of entry i is written; the entry says now what stands there. -/
theorem St.set {i : Nat} {e e' : HE} (h : St B f L w) (hi : L[i]? = some e) (hos : w'.os = w.os) (htape : w'.tape = w.tape) (hout : w'.output = w.output) (hsize : w.heap.size ≤ w'.heap.size)
    (hsame : ∀ k, k < w.heap.size → e.fp ≠ some k → w'.heap[k]? = w.heap[k]?) (he' : e'.holds w') (hfp : ∀ b, e'.fp = some b → e.fp = some b ∨ w.heap.size ≤ b) : St B f (L.set i e') w' := by
  have hmem : e ∈ L := List.mem_of_getElem? hi
  have hold : ∀ k, k < B.w.heap.size → k ∉ B.X → w'.heap[k]? = w.heap[k]? := fun k hk hX => hsame k (Nat.lt_of_lt_of_le hk h.size) fun hk' => by
    rcases h.mine e hmem k hk' with h1 | h1
    · omega
    · exact hX h1
  have hlt : i < L.length := (List.getElem?_eq_some_iff.1 hi).1
  -- an entry that is another one
  have hother : ∀ j x, j ≠ i → L[j]? = some x → ∀ b, x.fp = some b → e.fp ≠ some b := by
    intro j x hj hx b hb hb'
    rcases Nat.lt_or_gt_of_ne hj with hlt' | hgt
    · have hjl : j < L.length := (List.getElem?_eq_some_iff.1 hx).1
      have := List.pairwise_iff_getElem.1 h.apart j i hjl hlt hlt'
      rw [(List.getElem?_eq_some_iff.1 hx).2, (List.getElem?_eq_some_iff.1 hi).2] at this
      exact this b hb hb'
    · have hjl : j < L.length := (List.getElem?_eq_some_iff.1 hx).1
      have := List.pairwise_iff_getElem.1 h.apart i j hlt hjl hgt
      rw [(List.getElem?_eq_some_iff.1 hx).2, (List.getElem?_eq_some_iff.1 hi).2] at this
      exact this b hb' hb
  have hnew : ∀ b, e'.fp = some b → ∀ j x, j ≠ i → L[j]? = some x → x.fp ≠ some b := by
    intro b hb j x hj hx hxb
    rcases hfp b hb with h1 | h1
    · exact hother j x hj hx b hxb h1
    · have := h.fp (List.mem_of_getElem? hx) hxb; omega
  have hcase : ∀ x ∈ L.set i e', x = e' ∨ ∃ j, j ≠ i ∧ L[j]? = some x := by
    intro x hx
    obtain ⟨j, hj⟩ := List.mem_iff_getElem?.1 hx
    rw [List.getElem?_set] at hj
    split at hj
    · injection hj with hj; exact .inl hj.symm
    · rename_i hij; exact .inr ⟨j, fun e => hij e.symm, hj⟩
  refine ⟨hos.trans h.os, htape.trans h.tape, hout.trans h.output, Nat.le_trans h.size hsize, fun k hk hX => (hold k hk hX).trans (h.keep k hk hX), h.ext, h.old, ?_, ?_, ?_, ?_, ?_⟩
  · intro k o hk
    have h1 := h.on k o hk
    rw [hsame k (Array.getElem?_eq_some_iff.1 h1).1 fun hk' => by have := h.off e hmem k hk'; rw [hk] at this; cases this]
    exact h1
  · intro x hx
    rcases hcase x hx with rfl | ⟨j, hj, hx⟩
    · exact he'
    · exact HE.holds_of (h.own x (List.mem_of_getElem? hx)) fun b hb => hsame b (h.fp (List.mem_of_getElem? hx) hb) (hother j x hj hx b hb)
  · intro x hx b hb
    rcases hcase x hx with rfl | ⟨j, hj, hx⟩
    · rcases hfp b hb with h1 | h1
      · exact h.mine e hmem b h1
      · exact .inl (Nat.le_trans h.size h1)
    · exact h.mine x (List.mem_of_getElem? hx) b hb
  · intro x hx b hb
    rcases hcase x hx with rfl | ⟨j, hj, hx⟩
    · rcases hfp b hb with h1 | h1
      · exact h.off e hmem b h1
      · exact h.fresh h1
    · exact h.off x (List.mem_of_getElem? hx) b hb
  · refine List.pairwise_iff_getElem.2 fun j k hj hk hjk b hb hb' => ?_
    rw [List.length_set] at hj hk
    rw [List.getElem_set] at hb hb'
    by_cases hji : i = j
    · subst hji
      rw [if_pos rfl] at hb
      rw [if_neg (by omega)] at hb'
      exact hnew b hb k _ (by omega) (List.getElem?_eq_getElem hk) hb'
    · rw [if_neg hji] at hb
      by_cases hki : i = k
      · subst hki
        rw [if_pos rfl] at hb'
        exact hnew b hb' j _ (Ne.symm hji) (List.getElem?_eq_getElem hj) hb
      · rw [if_neg hki] at hb'
        exact List.pairwise_iff_getElem.1 h.apart j k hj hk hjk b hb hb'
end
end Go.Hog
