/- E8 E9, in one text. -/
import Derived.Test.YtdidefhdcinecaaGreatDoorMC
set_option linter.unusedVariables false
set_option linter.unusedSimpArgs false
namespace Go.Hog
open Go.RowKit Rp

section
variable {P : Program} {ops : Array Oper} {Q Q1 Q2 : Exit → Act → World → Prop} {S : World → Prop} {nd : Nat → Bool}
/-- Whatever comes up next; behind what is marked, S holds. -/
def anyT (P : Program) (ops : Array Oper) (Q : Exit → Act → World → Prop) (S : World → Prop) (nd : Nat → Bool) : Nat → Array Bool → Act → World → Prop
  | 0, listed, a, w => Region.ready .any ops listed = [] ∧ Q .normal a w
  | k + 1, listed, a, w => (Region.ready .any ops listed = [] → Q .normal a w) ∧ ∀ i ∈ Region.ready .any ops listed, wpOp P ops Q i (fun a' w' => (S w → nd i = true → S w') ∧ anyT P ops Q S nd k (listed.setIfInBounds i true) a' w') a w
theorem anyT_any : ∀ (k : Nat) (listed : Array Bool) (a : Act) (w : World), anyT P ops Q S nd k listed a w → wpAny P .any ops Q k listed a w
  | 0, _, _, _, h => h
  | k + 1, _, _, _, h => ⟨h.1, fun i hi => wpOp_mono (fun a' w' h' => anyT_any k _ a' w' h'.2) (h.2 i hi)⟩
theorem anyT_end {listed : Array Bool} {a : Act} {w : World} (hr : Region.ready .any ops listed = []) (h : Q .normal a w) : ∀ k, anyT P ops Q S nd k listed a w
  | 0 => ⟨hr, h⟩
  | _ + 1 => ⟨fun _ => h, by rw [hr]; simp⟩
def Closed (ops : Array Oper) (listed : Array Bool) : Prop := ∀ j oj, ops[j]? = some oj → listed.getD j false = true → ∀ e ∈ oj.after, Region.binds .any e = true → listed.getD e.on false = true
theorem Closed.set {listed : Array Bool} {j : Nat} (h : Closed ops listed) (hj : j ∈ Region.ready .any ops listed) : Closed ops (listed.setIfInBounds j true) := by
  intro m om hm hl e he hb
  by_cases hjm : j = m
  · subst hjm
    obtain ⟨_, o, ho, hall⟩ := mem_ready.1 hj
    rw [hm] at ho
    injection ho with ho
    subst ho
    exact getD_set_true (hall e he hb)
  · rw [getD_set_ne false hjm] at hl
    exact getD_set_true (h m om hm hl e he hb)
theorem Closed.start (k : Nat) : Closed ops (Array.replicate k false) := by
  intro j oj hj hl
  rw [Array.getD_eq_getD_getElem?] at hl
  rcases Nat.lt_or_ge j k with h | h
  · simp [h] at hl
  · simp [h] at hl
def Met (ops : Array Oper) (i j : Nat) : Prop := ∃ listed, Closed ops listed ∧ listed.getD i true = false ∧ j ∈ Region.ready .any ops listed
/-- One that yields under a condition Si may be taken first, if Si lasts behind all that may come ahead of it. -/
theorem anyT_take {Si : World → Prop} {i : Nat} {oi : Oper} {v : Value} (hi : ops[i]? = some oi) (hsel : Region.noSelect ops = true) (hQ : ∀ c a w, ¬ Q (.panic c) a w) :
    ∀ (k : Nat) (listed : Array Bool) (a : Act) (w : World),
      (∀ j oj, ops[j]? = some oj → j ≠ i → listed.getD j true = false → (∀ e ∈ oj.after, Region.binds .any e = true → e.on ≠ i) → oi.apart ops oj = true ∧ (Met ops i j → ∀ w w', Si w → (S w → nd j = true → S w') → Si w')) →
      Closed ops listed → i ∈ Region.ready .any ops listed → YieldsIf P ops Si oi v a → Si w →
      anyT P ops Q S nd k (listed.setIfInBounds i true) (a.put oi.dst v) w → anyT P ops Q S nd (k + 1) listed a w
  | k, listed, a, w, hfree, hcl, hr, hy, hSi, H => by
    refine ⟨fun h => (by rw [h] at hr; cases hr), fun j hj => ?_⟩
    by_cases hji : j = i
    · subst hji
      exact hy.wpOp hi hSi ⟨fun h _ => h, H⟩
    obtain ⟨hun, oj, hoj, hall⟩ := mem_ready.1 hj
    have hnot : ∀ e ∈ oj.after, Region.binds .any e = true → e.on ≠ i := fun e he hb heq => by
      have h1 := hall e he hb
      have h0 := (mem_ready.1 hr).1
      rw [heq] at h1
      rcases Nat.lt_or_ge i listed.size with h' | h'
      · simp [h'] at h0 h1
        rw [h0] at h1
        cases h1
      · simp [Array.getElem?_eq_none h'] at h1
    obtain ⟨hap, hlast⟩ := hfree j oj hoj hji hun hnot
    cases k with
    | zero =>
      have := ready_mono hj hji
      rw [H.1] at this
      cases this
    | succ k =>
      have h1 := H.2 j (ready_mono hj hji)
      have h2 := wpOp_putIf hoj hap (fun cs b => Region.noSelect_spec hsel i oi cs b hi) (fun cs b => Region.noSelect_spec hsel j oj cs b hoj) (fun c a w hq => absurd hq (hQ c _ _)) hy h1
      refine wpOp_mono (fun a' w' h3 => ?_) h2
      obtain ⟨hy', hnd, hrest⟩ := h3
      have hfree' : ∀ m om, ops[m]? = some om → m ≠ i → (listed.setIfInBounds j true).getD m true = false → (∀ e ∈ om.after, Region.binds .any e = true → e.on ≠ i) → oi.apart ops om = true ∧ (Met ops i m → ∀ w w', Si w → (S w → nd m = true → S w') → Si w') := fun m om hm hmi hum hno => by
        refine hfree m om hm hmi ?_ hno
        by_cases hjm : j = m
        · subst hjm; exact hun
        · rw [getD_set_ne true hjm] at hum; exact hum
      refine ⟨hnd, ?_⟩
      refine anyT_take hi hsel hQ k (listed.setIfInBounds j true) a' w' hfree' (hcl.set hj) (ready_mono hr (Ne.symm hji)) hy' (hlast ⟨listed, hcl, (mem_ready.1 hr).1, hj⟩ w w' hSi hnd) ?_
      rw [Array.setIfInBounds_comm _ _ hji]
      exact hrest

/-! ### The check on a region -/
def plainO : Op → Bool
  | .move _ => true
  | .assign _ => true
  | _ => false
def waitsOn (ops : Array Oper) : Nat → Nat → Nat → Bool
  | 0, _, _ => false
  | k + 1, j, i => match ops[j]? with | some o => o.after.any fun e => Region.binds .any e && (Nat.beq e.on i || waitsOn ops k e.on i) | none => false
def plainAt (ops : Array Oper) (i : Nat) : Bool := match ops[i]? with | some o => plainO o.op | none => true
/-- Must S be shown behind number j? -/
def ndB (ops : Array Oper) (n : Nat) (j : Nat) : Bool := Nat.blt j n || (List.range n).any fun i => !plainAt ops i && !waitsOn ops 3 j i
def lexT (ops : Array Oper) (n : Nat) : Nat → Nat → Array Bool → Bool
  | 0, _, listed => (Region.ready .any ops listed).isEmpty
  | g + 1, k, listed => (bif Nat.blt k n then (Region.ready .any ops listed).contains k && Region.free .any ops listed k else decide (Region.ready .any ops listed = [k])) && lexT ops n g (k + 1) (listed.setIfInBounds k true)
def drawB (ops : Array Oper) (n : Nat) : Bool := Region.noSelect ops && Nat.ble n ops.size && lexT ops n ops.size 0 (Array.replicate ops.size false)
theorem getD_both {listed : Array Bool} {i : Nat} (h : listed.getD i true = false) : listed.getD i false = false := by
  rcases Nat.lt_or_ge i listed.size with h' | h'
  · simp [h'] at h ⊢; exact h
  · simp [Array.getElem?_eq_none h'] at h
theorem waitsOn_listed {listed : Array Bool} (hcl : Closed ops listed) : ∀ (k j i : Nat) (oj : Oper), ops[j]? = some oj → (∀ e ∈ oj.after, Region.binds .any e = true → listed.getD e.on false = true) → waitsOn ops k j i = true → listed.getD i false = true
  | 0, j, i, oj, hj, hall, h => by simp [waitsOn] at h
  | k + 1, j, i, oj, hj, hall, h => by
    simp only [waitsOn, hj] at h
    obtain ⟨e, he, hb⟩ := Array.any_eq_true'.1 h
    simp only [Bool.and_eq_true, Bool.or_eq_true] at hb
    obtain ⟨hb, h1 | h1⟩ := hb
    · rw [← Nat.eq_of_beq_eq_true h1]
      exact hall e he hb
    · have hl := hall e he hb
      cases ho : ops[e.on]? with
      | none =>
        cases k with
        | zero => simp [waitsOn] at h1
        | succ k => simp [waitsOn, ho] at h1
      | some o => exact waitsOn_listed hcl k e.on i o ho (fun e' he' hb' => hcl _ _ ho hl e' he' hb') h1
theorem nd_of {n i j : Nat} {oi : Oper} (hin : i < n) (hi : ops[i]? = some oi) (hp : plainO oi.op = false) (h : Met ops i j) : ndB ops n j = true := by
  obtain ⟨listed, hcl, hun, hr⟩ := h
  obtain ⟨_, oj, hoj, hall⟩ := mem_ready.1 hr
  unfold ndB
  rw [Bool.or_eq_true]
  refine .inr (List.any_eq_true.2 ⟨i, List.mem_range.2 hin, ?_⟩)
  have hw : waitsOn ops 3 j i = false := by
    cases e : waitsOn ops 3 j i with
    | false => rfl
    | true =>
      have := waitsOn_listed hcl 3 j i oj hoj hall e
      rw [getD_both hun] at this
      cases this
  rw [hw]
  unfold plainAt
  rw [hi]
  simp only [hp]
  rfl
theorem plain_any {o : Oper} {v : Value} {a : Act} {w : World} (hp : plainO o.op = true) (hS : S w) (h : YieldsIf P ops S o v a) : YieldsIf P ops (fun _ => True) o v a := by
  rcases h with ⟨h1, h2⟩ | h
  · refine .inl ⟨h1, fun w' _ => ?_⟩
    have h3 := h2 w hS
    obtain ⟨dst, op, type, pos, after, guard⟩ := o
    simp only at hp
    unfold plainO at hp
    split at hp
    · simp [execOp] at h3 ⊢; exact h3
    · simp [execOp] at h3 ⊢; exact h3
    · cases hp
  · exact .inr h
theorem anyT_prefix {n : Nat} {Qa : Act → Prop} {w : World} (hsel : Region.noSelect ops = true) (hQ : ∀ c a w, ¬ Q (.panic c) a w) (hS : S w) :
    ∀ (l : List Oper) (k : Nat) (listed : Array Bool) (a : Act), (∀ j, j < l.length → l[j]? = ops[k + j]?) → k + l.length = n → n ≤ ops.size → lexT ops n (ops.size - k) k listed = true → Closed ops listed → wpVal P ops S Qa l a →
      (∀ a' listed', Qa a' → lexT ops n (ops.size - n) n listed' = true → anyT P ops Q S (ndB ops n) (ops.size - n) listed' a' w) → anyT P ops Q S (ndB ops n) (ops.size - k) listed a w
  | [], k, listed, a, hl, hk, hn, hB, hcl, h, hK => by
    have : k = n := by simpa using hk
    subst this
    exact hK a listed h hB
  | o :: l, k, listed, a, hl, hk, hn, hB, hcl, h, hK => by
    have h0 : ops[k]? = some o := by simpa using (hl 0 (by simp)).symm
    simp only [List.length_cons] at hk hl
    have hkn : k < n := by omega
    obtain ⟨g, hg⟩ : ∃ g, ops.size - k = g + 1 := ⟨ops.size - k - 1, by omega⟩
    rw [hg] at hB ⊢
    simp only [lexT, Bool.and_eq_true] at hB
    rw [show Nat.blt k n = true by simpa [Nat.blt_eq] using hkn] at hB
    simp only [cond_true, Bool.and_eq_true] at hB
    obtain ⟨⟨hr, hf⟩, hB'⟩ := hB
    obtain ⟨v, hy, h'⟩ := h
    have hr' : k ∈ Region.ready .any ops listed := by simpa using hr
    have hrest : anyT P ops Q S (ndB ops n) g (listed.setIfInBounds k true) (a.put o.dst v) w := by
      have := anyT_prefix hsel hQ hS l (k + 1) (listed.setIfInBounds k true) (a.put o.dst v) (fun j hj => by have := hl (j + 1) (by omega); rw [show k + 1 + j = k + (j + 1) by omega]; simpa using this) (by omega) hn (by rw [show ops.size - (k + 1) = g by omega]; exact hB') (hcl.set hr') h' hK
      rwa [show ops.size - (k + 1) = g by omega] at this
    by_cases hp : plainO o.op = true
    · exact anyT_take (Si := fun _ => True) h0 hsel hQ g listed a w (fun j oj hj hjk hun hno => ⟨Region.free_spec h0 hf j oj hj hjk hun hno, fun _ _ _ _ _ => trivial⟩) hcl hr' (plain_any hp hS hy) trivial hrest
    · have hp' : plainO o.op = false := by simpa using hp
      exact anyT_take (Si := S) h0 hsel hQ g listed a w (fun j oj hj hjk hun hno => ⟨Region.free_spec h0 hf j oj hj hjk hun hno, fun hm w1 w2 h1 h2 => h2 h1 (nd_of hkn h0 hp' hm)⟩) hcl hr' hy hS hrest
theorem one_of_list {i : Nat} {o : Oper} {a : Act} {w : World} (hi : ops[i]? = some o) (h1 : ∀ e a w, Q1 e a w → e = .normal) (h : wpList P ops Q1 [o] a w) : wpOp P ops Q2 i (fun a' w' => Q1 .normal a' w') a w := by
  have hno : ¬ LetsOut Q1 := fun ⟨a, w, h⟩ => by cases h1 _ _ _ h
  unfold wpOp
  simp only [hi]
  unfold wpList at h
  split at h
  · rename_i hw
    rw [if_pos hw]
    rcases h with h | ⟨_, h⟩
    · refine .inl ?_
      unfold Oper.wp at h ⊢
      generalize (execOp a.eval o).run P w = r at h ⊢
      cases r with
      | ok nx w' =>
        cases nx <;> simp only [Oper.upon, wpList] at h ⊢ <;> try exact h
        refine Calls.mono h fun e w'' he => ?_
        cases e with
        | returned u => exact he
        | panicked c => cases h1 _ _ _ he
        | outgrown => exact absurd he hno
      | halt x w' =>
        cases x <;> simp only [Oper.upon] at h ⊢
        cases h1 _ _ _ h
    · exact absurd h hno
  · rename_i hw
    rw [if_neg hw]
    exact h
end

section
variable {P : Program} {n : Nat} {B : Bs} {f : View} {L : List HE} {ρ : Env} {Q : Post} {K : Kon} {ops : Array Oper}
structure HeldL (f0 : View) (L0 : List HE) (f : View) (L : List HE) : Prop where
  view : Sub f0 f
  ents : ∀ e ∈ L0, e ∈ L
/-- The operations behind the first ones, each by itself, and what must last behind it. -/
def tailK (P : Program) (n : Nat) (B : Bs) (ops : Array Oper) (Kf : Kon) (f0 : View) (L0 : List HE) (nd : Nat → Bool) : Nat → List Oper → Kon
  | _, [] => Kf
  | k, o :: l => fun ρ f L => RW .s P n B ops (fun ρ' f' L' => (nd k = true → HeldL f0 L0 f' L') ∧ tailK P n B ops Kf f0 L0 nd (k + 1) l ρ' f' L') [o] ρ f L
theorem held_class {f0 : View} {L0 : List HE} {w0 w : World} (h0 : St B f0 L0 w0) (h : St B f L w) (hh : HeldL f0 L0 f L) : St B f0 L0 w :=
  ⟨h.os, h.tape, h.output, h.size, h.keep, h0.ext, h0.old, hh.view.on h.on, fun e he => h.own e (hh.ents e he), h0.mine, h0.off, h0.apart⟩
theorem anyT_tail {f0 : View} {L0 : List HE} {w0 : World} {n0 : Nat} (h0 : St B f0 L0 w0) : ∀ (l : List Oper) (k : Nat) (listed : Array Bool) (a : Act) (w : World) (ρ : Env) (f : View) (L : List HE),
    (∀ j, l[j]? = ops[k + j]?) → n0 ≤ k → lexT ops n0 l.length k listed = true → St B f L w → Fr n a ρ → opsOk n l = true → tailK P n B ops (Q .normal) f0 L0 (ndB ops n0) k l ρ f L →
    anyT P ops (Qs n B Q) (fun w => St B f0 L0 w) (ndB ops n0) l.length listed a w
  | [], k, listed, a, w, ρ, f, L, hl, hk, hB, hw, ha, hok, h => by
    exact anyT_end (by simpa [lexT] using hB) ⟨ρ, f, L, ha, hw, h⟩ 0
  | o :: l, k, listed, a, w, ρ, f, L, hl, hk, hB, hw, ha, hok, h => by
    have hi : ops[k]? = some o := by simpa using (hl 0).symm
    have hok' : dOk n o.dst = true ∧ opsOk n l = true := by simpa [opsOk] using hok
    simp only [List.length_cons, lexT, Bool.and_eq_true] at hB
    rw [show Nat.blt k n0 = false by cases e : Nat.blt k n0 with | false => rfl | true => have : k < n0 := by simpa [Nat.blt_eq] using e
                                                                                          omega] at hB
    simp only [cond_false, decide_eq_true_eq] at hB
    obtain ⟨hr, hB'⟩ := hB
    refine ⟨fun h1 => (by rw [hr] at h1; cases h1), fun i hi' => ?_⟩
    rw [hr] at hi'
    have : i = k := by simpa using hi'
    subst this
    have h1 := SW.out h w hw a ha (by simp [opsOk, hok'.1])
    refine wpOp_mono ?_ (one_of_list hi (fun e a w hq => by obtain ⟨_, _, _, _, _, h3⟩ := hq; cases e with | normal => rfl | _ => exact h3.elim) h1)
    rintro a' w' ⟨ρ', f', L', ha', hw', hnd, hk'⟩
    exact ⟨fun _ hn => held_class h0 hw' (hnd hn), anyT_tail h0 l (i + 1) _ a' w' ρ' f' L' (fun j => by have := hl (j + 1); rw [show i + 1 + j = i + (j + 1) by omega]; simpa using this) (by omega) hB' hw' ha' hok'.2 hk'⟩
theorem opsOk_take {n : Nat} : ∀ {l : List Oper} (k : Nat), opsOk n l = true → opsOk n (l.take k) = true ∧ opsOk n (l.drop k) = true
  | [], k, h => by simp [opsOk]
  | o :: l, 0, h => ⟨rfl, h⟩
  | o :: l, k + 1, h => by
    have h' : dOk n o.dst = true ∧ opsOk n l = true := by simpa [opsOk] using h
    have := opsOk_take k h'.2
    exact ⟨by simp [opsOk, h'.1, this.1], this.2⟩
theorem wpVal_mono {C : World → Prop} {Qa Qb : Act → Prop} (h : ∀ a, Qa a → Qb a) : ∀ (l : List Oper) (a : Act), wpVal P ops C Qa l a → wpVal P ops C Qb l a
  | [], a, hq => h a hq
  | o :: l, a, ⟨v, hy, hq⟩ => ⟨v, hy, wpVal_mono h l _ hq⟩
/-- A region that draws: the first n0 yield values, in worlds in which L0 is as it was; the others come one after the other. -/
theorem ew_draw {id : Nat} (n0 : Nat) (L0 : List HE) (hL0 : L0.Sublist L) (hm : P.follows .mixedOrders = true) (hB : drawB ops n0 = true)
    (h : RW .v P n B ops (fun ρ' _ _ => tailK P n B ops (Q .normal) f L0 (ndB ops n0) n0 (ops.toList.drop n0) ρ' f L) (ops.toList.take n0) ρ f L0) : EW P n B (.region id ops true) Q ρ f L := by
  refine ⟨fun w hw a ha hok => wp_mono (Q := Qs n B (onlyN (Q .normal))) (wp_region_any hm (anyT_any (S := fun w => St B f L0 w) (nd := ndB ops n0) _ _ _ _ ?_)) ?_⟩
  case refine_2 =>
    rintro e a' w' ⟨ρ', f', L', h1, h2, h3⟩
    cases e with
    | normal => exact ⟨ρ', f', L', h1, h2, h3⟩
    | _ => exact h3.elim
  simp only [drawB, Bool.and_eq_true, Nat.ble_eq] at hB
  obtain ⟨⟨hsel, hn⟩, hlex⟩ := hB
  have hw1 : St B f L { w with drawn := w.drawn + 1 } := hw.drawn _
  have h0 : St B f L0 { w with drawn := w.drawn + 1 } := hw1.sublist hL0
  have hok' := opsOk_take n0 (show opsOk n ops.toList = true from hok)
  have hq := VW.out h ⟨_, h0⟩ a ha hok'.1
  have hlen : (ops.toList.take n0).length = n0 := by simp; omega
  have := anyT_prefix (Q := Qs n B (onlyN (Q .normal))) (n := n0) hsel (fun c a w hq => by obtain ⟨_, _, _, _, _, h3⟩ := hq; exact h3) (S := fun w => St B f L0 w) h0 (ops.toList.take n0) 0 (Array.replicate ops.size false) a (fun j hj => by rw [hlen] at hj; simp [hj]) (by rw [hlen, Nat.zero_add]) hn (by simpa using hlex) (Closed.start _) hq ?_
  · simpa using this
  · rintro a' listed' ⟨ρ', ha', hk'⟩ hlex'
    have hd : (ops.toList.drop n0).length = ops.size - n0 := by simp
    rw [← hd] at hlex' ⊢
    exact anyT_tail (Q := onlyN (Q .normal)) h0 (ops.toList.drop n0) n0 listed' a' _ ρ' f L (fun j => by simp [List.getElem?_drop]) (Nat.le_refl _) hlex' hw1 ha' hok'.2 hk'
end
end Go.Hog

set_option linter.unusedVariables false
set_option linter.unusedSimpArgs false
namespace Go.Hog
open Go.RowKit Rp

/-! ### Methods -/
section
variable {P : Program} {n : Nat} {B : Bs} {f : View} {L : List HE} {ρ : Env} {Q : Post} {K : Kon} {ops : Array Oper} {m : Md} {l l0 : List Oper} {ρ0 : Env}
variable {d : Nat} {x y : Operand} {t ty e : TypeId} {pos : String} {af : Array Edge} {gd : Option (Nat × Bool)} {b o : Nat} {v : Value} {vs cs : List Value}
/-- A method of an interface value: which function it is, with what, and what that comes to. -/
def ConI (P : Program) (recv : Value) (name : String) (args : List Value) (w : World) (R : Ending → World → Prop) : Prop :=
  ∃ k vs, (callMethod recv name ⟨args⟩).run P w = .ok (.enter k ⟨vs⟩) w ∧ Calls P k ⟨vs⟩ w R
theorem run_inv {recv : Operand} {name : String} {args : Array Operand} {at_ : Array TypeId} (ha : args.toList.map (ev ρ) = vs) (w : World) :
    (execOp (ev ρ) ⟨some d, .call ⟨.invoke recv name, args, at_⟩, ty, pos, af, gd⟩).run P w = (callMethod (ev ρ recv) name ⟨vs⟩).run P w := by
  have e1 : args.map (ev ρ) = ⟨vs⟩ := by apply Array.ext'; simpa using ha
  simp only [execOp, resolve, e1, Sem.run_bind, Sem.run_pure, Result.andThen_ok, Go.invoke]
  have e2 : (#[ev ρ recv] ++ (⟨vs⟩ : Array Value))[0]? = some (ev ρ recv) := by simp
  have e3 : (#[ev ρ recv] ++ (⟨vs⟩ : Array Value)).extract 1 (#[ev ρ recv] ++ (⟨vs⟩ : Array Value)).size = ⟨vs⟩ := by apply Array.ext'; simp
  rw [e2]
  simp only
  rw [e3]
/-- A call through an interface that writes in the first entries L1. -/
theorem inv (L1 L2 : List HE) {recv : Operand} {name : String} {args : Array Operand} {at_ : Array TypeId} {rv : Value} {R : View → List HE → Value → Prop} (h : ∀ w, On f w → Given f L1 w → ConI P rv name vs w (RetM w f L1 R))
    (kk : ∀ v g L', Sub f g → R g L' v → RW .s P n B ops K l (up ρ d v) g (L' ++ L2))
    (hrun : runP P ops l0 ρ0 = (⟨some d, .call ⟨.invoke recv name, args, at_⟩, ty, pos, af, gd⟩ :: l, ρ) := by rfl) (hg : wantedE ops ρ ⟨some d, .call ⟨.invoke recv name, args, at_⟩, ty, pos, af, gd⟩ = true := by rfl) (hr : ev ρ recv = rv := by rfl) (ha : args.toList.map (ev ρ) = vs := by rfl) :
    RW .s P n B ops K l0 ρ0 f (L1 ++ L2) := by
  refine rw_runP l0 ρ0 ?_
  rw [hrun]
  refine ⟨fun w hw a ha' hok => ?_⟩
  have hok' : dOk n (some d) = true ∧ opsOk n l = true := by simpa [opsOk] using hok
  obtain ⟨k, us, h1, h2⟩ := h w hw.on hw.given
  unfold wpList
  rw [ha'.wanted, hg, if_pos rfl]
  refine .inl ?_
  unfold Oper.wp
  rw [ha'.eval, run_inv ha, hr, h1, Oper.upon_enter]
  refine Calls.mono h2 ?_
  rintro en w' ⟨v, g, L', rfl, hs, hR⟩
  exact SW.out (kk v g L' hs.ext hR) w' (hw.merge hs) _ (ha'.put hok'.1 _) hok'.2

theorem inv0 (L1 : List HE) {recv : Operand} {name : String} {args : Array Operand} {at_ : Array TypeId} {rv : Value} {R : View → List HE → Value → Prop} (h : ∀ w, On f w → Given f L1 w → ConI P rv name vs w (RetM w f L1 R))
    (kk : ∀ v g L', Sub f g → R g L' v → RW .s P n B ops K l (up ρ d v) g L')
    (hrun : runP P ops l0 ρ0 = (⟨some d, .call ⟨.invoke recv name, args, at_⟩, ty, pos, af, gd⟩ :: l, ρ) := by rfl) (hg : wantedE ops ρ ⟨some d, .call ⟨.invoke recv name, args, at_⟩, ty, pos, af, gd⟩ = true := by rfl) (hr : ev ρ recv = rv := by rfl) (ha : args.toList.map (ev ρ) = vs := by rfl) :
    RW .s P n B ops K l0 ρ0 f L1 := by
  have := inv (B := B) (n := n) (K := K) L1 [] h (fun v g L' h1 h2 => by rw [List.append_nil]; exact kk v g L' h1 h2) hrun hg hr ha
  rwa [List.append_nil] at this
theorem callM0 (L1 : List HE) {k : Nat} {args : Array Operand} {at_ : Array TypeId} {R : View → List HE → Value → Prop} (h : ∀ w, On f w → Given f L1 w → Con P k vs w (RetM w f L1 R))
    (kk : ∀ v g L', Sub f g → R g L' v → RW .s P n B ops K l (up ρ d v) g L')
    (hrun : runP P ops l0 ρ0 = (⟨some d, .call ⟨.value (.func k), args, at_⟩, ty, pos, af, gd⟩ :: l, ρ) := by rfl) (hg : wantedE ops ρ ⟨some d, .call ⟨.value (.func k), args, at_⟩, ty, pos, af, gd⟩ = true := by rfl) (ha : args.toList.map (ev ρ) = vs := by rfl) :
    RW .s P n B ops K l0 ρ0 f L1 := by
  have := callM (B := B) (n := n) (K := K) L1 [] h (fun v g L' h1 h2 => by rw [List.append_nil]; exact kk v g L' h1 h2) hrun hg ha
  rwa [List.append_nil] at this

/-! ### Maps -/
def mapF (ks : List Str) (g : Str → Value) : List (Value × Value) := ks.map fun s => (str s, g s)
def updF (g : Str → Value) (s : Str) (v : Value) : Str → Value := fun u => if u = s then v else g u
theorem beq_str (a b : Str) : ((⟨⟨a⟩⟩ : ByteArray) == ⟨⟨b⟩⟩) = decide (a = b) := by
  show (Array.instBEq.beq (⟨a⟩ : Array UInt8) ⟨b⟩) = _
  by_cases h : a = b
  · subst h; simp
  · rw [decide_eq_false h]
    rw [beq_eq_false_iff_ne]
    intro h2; injection h2 with h2; exact h h2
theorem run_gobj {w : World} {r : Nat} {es : Array MapEntry} {clk : Nat} (hb : w.heap[r]? = some (.map es clk)) : (getObj r).run P w = .ok (.map es clk) w := by
  simp [getObj, Sem.run, hb]
theorem run_sobj {w : World} {r : Nat} {es : Array MapEntry} {clk : Nat} (o : Obj) (hb : w.heap[r]? = some (.map es clk)) : (setObj r o).run P w = .ok () { w with heap := w.heap.setIfInBounds r o } := by
  simp [setObj, Sem.run, hb]
theorem findNow_str (g : Str → Value) (s : Str) : ∀ (es : List MapEntry) (ks : List Str) (i : Nat), es.map (fun e => (e.key, e.val)) = mapF ks g → Instr.findNow .string (str s) es i = some (if s ∈ ks then some (i + ks.idxOf s, g s) else none)
  | [], ks, i, h => by
    have : ks = [] := by simpa [mapF] using h.symm
    subst this
    simp [Instr.findNow]
  | e :: es, [], i, h => by simp [mapF] at h
  | e :: es, k :: ks, i, h => by
    simp only [mapF, List.map_cons, List.cons.injEq, Prod.mk.injEq] at h
    obtain ⟨⟨h1, h2⟩, h3⟩ := h
    unfold Instr.findNow
    rw [h1, h2]
    by_cases hs : s = k
    · subst hs
      simp [Instr.sameNow, beq_str]
    · simp only [Instr.sameNow, beq_str, decide_eq_false hs]
      rw [findNow_str g s es ks (i + 1) h3]
      have hks : (k == s) = false := by simpa using fun e => hs e.symm
      by_cases hm : s ∈ ks
      · simp [hs, hm, List.idxOf_cons, hks]
        omega
      · simp [hs, hm]
def mapS (P : Program) (t : TypeId) : Option (TypeId × TypeId × Value) :=
  match P.underlying t with
  | some (.map ke ee) => (match P.underlying ke with | some .string => ((P.info? ee).bind (·.zero)).map fun z => (ke, ee, z) | _ => none)
  | _ => none
theorem mapS_spec {ke ee : TypeId} {z : Value} (h : mapS P t = some (ke, ee, z)) : P.underlying t = some (.map ke ee) ∧ P.underlying ke = some .string ∧ ∀ w, (zeroValue ee).run P w = .ok z w := by
  unfold mapS at h
  split at h
  · rename_i k e1 h1
    split at h
    · rename_i h2
      obtain ⟨z', hz, h3⟩ := Option.map_eq_some_iff.1 h
      injection h3 with h3 h4
      injection h4 with h4 h5
      subst h3 h4 h5
      obtain ⟨i, hi, hz⟩ := Option.bind_eq_some_iff.1 hz
      exact ⟨h1, h2, fun w => by simp [zeroValue, run_info hi, hz]⟩
    · cases h
  · cases h
theorem run_checkKey {ke : TypeId} (h : P.underlying ke = some .string) (em : Bool) (s : Str) (w : World) : (Instr.checkKey em 10000 ke (str s)).run P w = .ok () w := by
  unfold Instr.checkKey
  simp [run_und h]
theorem run_findKey {ke : TypeId} (h : P.underlying ke = some .string) {es : List MapEntry} {ks : List Str} {g : Str → Value} (he : es.map (fun e => (e.key, e.val)) = mapF ks g) (s : Str) (w : World) :
    (Instr.findKey ke (str s) es).run P w = .ok (if s ∈ ks then some (ks.idxOf s, g s) else none) w := by
  unfold Instr.findKey
  simp only [Sem.run_bind, run_und h, Result.andThen_ok, findNow_str g s es ks 0 he, Nat.zero_add]
  simp
theorem run_lookup_str {ke ee : TypeId} {z : Value} (h : mapS P t = some (ke, ee, z)) {es : Array MapEntry} {clk : Nat} {w : World} {ks : List Str} {g : Str → Value} (hb : w.heap[b]? = some (.map es clk)) (he : es.toList.map (fun e => (e.key, e.val)) = mapF ks g) (s : Str) (c : Bool) :
    (Instr.lookup t (.map (some b)) (str s) c).run P w = .ok (bif c then .tuple #[if s ∈ ks then g s else z, .bool (decide (s ∈ ks))] else if s ∈ ks then g s else z) w := by
  obtain ⟨h1, h2, h3⟩ := mapS_spec h
  unfold Instr.lookup
  by_cases hs : s ∈ ks
  · cases c <;> simp [run_und h1, run_gobj hb, run_checkKey h2, run_findKey h2 he, hs]
  · cases c <;> simp [run_und h1, run_gobj hb, run_checkKey h2, run_findKey h2 he, hs, h3]
theorem set_at (w : World) (r : Nat) (o : Obj) (h : r < w.heap.size) : ({ w with heap := w.heap.setIfInBounds r o } : World).heap[r]? = some o := by simp [h]
theorem run_update_in {ke ee : TypeId} {z : Value} (h : mapS P t = some (ke, ee, z)) {es : Array MapEntry} {clk : Nat} {w : World} {ks : List Str} {g : Str → Value} (hb : w.heap[b]? = some (.map es clk)) (he : es.toList.map (fun e => (e.key, e.val)) = mapF ks g) (hnd : ks.Nodup) {s : Str} (hs : s ∈ ks) (u : Value) :
    ∃ es', (Instr.mapUpdate t (.map (some b)) (str s) u).run P w = .ok () { w with heap := w.heap.setIfInBounds b (.map es' clk) } ∧ es'.toList.map (fun e => (e.key, e.val)) = mapF ks (updF g s u) := by
  obtain ⟨h1, h2, h3⟩ := mapS_spec h
  have hlen : es.size = ks.length := by
    have := congrArg List.length he
    simpa [mapF] using this
  have hi : ks.idxOf s < ks.length := List.idxOf_lt_length_of_mem hs
  have hik : ks[ks.idxOf s] = s := List.getElem_idxOf hi
  have hk : ∀ j (hj : j < es.size) (hj' : j < ks.length), es[j].key = str ks[j] ∧ es[j].val = g ks[j] := fun j hj hj' => by
    have := congrArg (fun l => l[j]?) he
    simp [mapF, hj, hj'] at this
    exact this
  refine ⟨es.modify (ks.idxOf s) fun e => { e with key := str s, val := u }, ?_, ?_⟩
  · unfold Instr.mapUpdate
    have hkey : ((es[ks.idxOf s]?).map (·.key)).getD (str s) = str s := by
      rw [Array.getElem?_eq_getElem (by omega)]
      have := (hk (ks.idxOf s) (by omega) hi).1
      rw [hik] at this
      simpa using this
    have hst : ∀ w, (Instr.keyThatStays (str s) (str s)).run P w = .ok (str s) w := fun w => by
      unfold Instr.keyThatStays
      simp [Instr.sameBits, beq_str]
    simp only [Sem.run_bind, run_und h1, Result.andThen_ok, run_gobj hb, run_checkKey h2, run_findKey h2 he, if_pos hs, hkey, hst, run_sobj _ hb]
  · apply List.ext_getElem
    · simp [mapF, hlen]
    · intro j hj hj'
      have hj1 : j < es.size := by simpa using hj
      have hj2 : j < ks.length := by omega
      simp only [List.getElem_map, Array.getElem_toList, mapF, Array.getElem_modify]
      by_cases hji : ks.idxOf s = j
      · subst hji
        rw [if_pos rfl]
        simp [hik, updF]
      · rw [if_neg hji]
        have hne : ks[j] ≠ s := fun e => hji (by
          have := hnd.idxOf_getElem j hj2
          rw [e] at this
          exact this)
        have := hk j hj1 hj2
        simp [this.1, this.2, updF, hne]
theorem run_update_out {ke ee : TypeId} {z : Value} (h : mapS P t = some (ke, ee, z)) {es : Array MapEntry} {clk : Nat} {w : World} {ks : List Str} {g : Str → Value} (hb : w.heap[b]? = some (.map es clk)) (he : es.toList.map (fun e => (e.key, e.val)) = mapF ks g) {s : Str} (hs : s ∉ ks) (u : Value) :
    ∃ es', (Instr.mapUpdate t (.map (some b)) (str s) u).run P w = .ok () { w with heap := w.heap.setIfInBounds b (.map es' (clk + 1)) } ∧ es'.toList.map (fun e => (e.key, e.val)) = mapF (ks ++ [s]) (updF g s u) := by
  obtain ⟨h1, h2, h3⟩ := mapS_spec h
  refine ⟨es.push { key := str s, val := u, born := clk }, ?_, ?_⟩
  · unfold Instr.mapUpdate
    simp only [Sem.run_bind, run_und h1, Result.andThen_ok, run_gobj hb, run_checkKey h2, run_findKey h2 he, if_neg hs, run_sobj _ hb]
  · simp only [Array.toList_push, List.map_append, he, List.map_cons, List.map_nil, mapF]
    congr 1
    · apply List.map_congr_left
      intro x hx
      have : x ≠ s := fun e => hs (e ▸ hx)
      simp [updF, this]
    · simp [updF]
variable {ks : List Str} {g : Str → Value} {s : Str} {ke ee : TypeId} {z : Value} {c : Bool}
def lkR (c : Bool) (v : Value) (is : Bool) : Value := bif c then .tuple #[v, .bool is] else v
/-- A look into a map (entry i). -/
theorem lkI (i : Nat) (hs : s ∈ ks) (k : RW m P n B ops K l (up ρ d (lkR c (g s) true)) f L) (hrun : runP P ops l0 ρ0 = (⟨some d, .lookup t x y c, ty, pos, af, gd⟩ :: l, ρ) := by rfl) (hg : wantedE ops ρ ⟨some d, .lookup t x y c, ty, pos, af, gd⟩ = true := by rfl)
    (hi : L[i]? = some (.mp b (mapF ks g)) := by rfl) (hx : ev ρ x = .map (some b) := by rfl) (hy : ev ρ y = str s := by rfl) (ht : mapS P t = some (ke, ee, z) := by rfl) : RW m P n B ops K l0 ρ0 f L := by
  refine rw_runP l0 ρ0 ?_
  rw [hrun]
  exact rw_y hg (fun w hw => by
    obtain ⟨es, clk, hb, he⟩ : ∃ es clk, w.heap[b]? = some (.map es clk) ∧ es.toList.map (fun e => (e.key, e.val)) = mapF ks g := hw.own _ (List.mem_of_getElem? hi)
    have := run_lookup_str ht hb he s c
    simp only [execOp, hx, hy, Sem.run_bind, this, Result.andThen_ok]
    simp [lkR, hs]) k
theorem lkO (i : Nat) (hs : s ∉ ks) (k : RW m P n B ops K l (up ρ d (lkR c z false)) f L) (hrun : runP P ops l0 ρ0 = (⟨some d, .lookup t x y c, ty, pos, af, gd⟩ :: l, ρ) := by rfl) (hg : wantedE ops ρ ⟨some d, .lookup t x y c, ty, pos, af, gd⟩ = true := by rfl)
    (hi : L[i]? = some (.mp b (mapF ks g)) := by rfl) (hx : ev ρ x = .map (some b) := by rfl) (hy : ev ρ y = str s := by rfl) (ht : mapS P t = some (ke, ee, z) := by rfl) : RW m P n B ops K l0 ρ0 f L := by
  refine rw_runP l0 ρ0 ?_
  rw [hrun]
  exact rw_y hg (fun w hw => by
    obtain ⟨es, clk, hb, he⟩ : ∃ es clk, w.heap[b]? = some (.map es clk) ∧ es.toList.map (fun e => (e.key, e.val)) = mapF ks g := hw.own _ (List.mem_of_getElem? hi)
    have := run_lookup_str ht hb he s c
    simp only [execOp, hx, hy, Sem.run_bind, this, Result.andThen_ok]
    simp [lkR, hs]) k
/-- A look into a map that is only read. -/
theorem lkVI (hm : (HE.mp b (mapF ks g)).seen f) (hs : s ∈ ks) (k : RW m P n B ops K l (up ρ d (lkR c (g s) true)) f L) (hrun : runP P ops l0 ρ0 = (⟨some d, .lookup t x y c, ty, pos, af, gd⟩ :: l, ρ) := by rfl) (hg : wantedE ops ρ ⟨some d, .lookup t x y c, ty, pos, af, gd⟩ = true := by rfl)
    (hx : ev ρ x = .map (some b) := by rfl) (hy : ev ρ y = str s := by rfl) (ht : mapS P t = some (ke, ee, z) := by rfl) : RW m P n B ops K l0 ρ0 f L := by
  refine rw_runP l0 ρ0 ?_
  rw [hrun]
  obtain ⟨es, clk, hf, he⟩ := hm
  exact rw_y hg (fun w hw => by
    have := run_lookup_str ht (hw.on _ _ hf) he s c
    simp only [execOp, hx, hy, Sem.run_bind, this, Result.andThen_ok]
    simp [lkR, hs]) k
theorem lkVO (hm : (HE.mp b (mapF ks g)).seen f) (hs : s ∉ ks) (k : RW m P n B ops K l (up ρ d (lkR c z false)) f L) (hrun : runP P ops l0 ρ0 = (⟨some d, .lookup t x y c, ty, pos, af, gd⟩ :: l, ρ) := by rfl) (hg : wantedE ops ρ ⟨some d, .lookup t x y c, ty, pos, af, gd⟩ = true := by rfl)
    (hx : ev ρ x = .map (some b) := by rfl) (hy : ev ρ y = str s := by rfl) (ht : mapS P t = some (ke, ee, z) := by rfl) : RW m P n B ops K l0 ρ0 f L := by
  refine rw_runP l0 ρ0 ?_
  rw [hrun]
  obtain ⟨es, clk, hf, he⟩ := hm
  exact rw_y hg (fun w hw => by
    have := run_lookup_str ht (hw.on _ _ hf) he s c
    simp only [execOp, hx, hy, Sem.run_bind, this, Result.andThen_ok]
    simp [lkR, hs]) k
theorem St.mapped {w : World} {i : Nat} {m : List (Value × Value)} {es' : Array MapEntry} {clk : Nat} {ks' : List Str} {g' : Str → Value} (hw : St B f L w) (hi : L[i]? = some (.mp b m)) (he : es'.toList.map (fun e => (e.key, e.val)) = mapF ks' g') :
    St B f (L.set i (.mp b (mapF ks' g'))) { w with heap := w.heap.setIfInBounds b (.map es' clk) } := by
  have hlt : b < w.heap.size := hw.fp (List.mem_of_getElem? hi) rfl
  refine hw.set (w' := { w with heap := w.heap.setIfInBounds b (.map es' clk) }) hi rfl rfl rfl (by simp) (fun k' _ hk' => ?_) ⟨es', clk, set_at _ _ _ hlt, he⟩ (fun b' hb' => .inl hb')
  have hne : b ≠ k' := fun e0 => hk' (by rw [e0]; rfl)
  simp [Array.getElem?_setIfInBounds_ne hne]
/-- A key that is there gets a new value. -/
theorem muI (i : Nat) (hs : s ∈ ks) (hnd : ks.Nodup) {u : Operand} {uv : Value} (k : RW .s P n B ops K l ρ f (L.set i (.mp b (mapF ks (updF g s uv))))) (hrun : runP P ops l0 ρ0 = (⟨none, .mapUpdate t x y u, ty, pos, af, gd⟩ :: l, ρ) := by rfl) (hg : wantedE ops ρ ⟨none, .mapUpdate t x y u, ty, pos, af, gd⟩ = true := by rfl)
    (hi : L[i]? = some (.mp b (mapF ks g)) := by rfl) (hx : ev ρ x = .map (some b) := by rfl) (hy : ev ρ y = str s := by rfl) (hu : ev ρ u = uv := by rfl) (ht : mapS P t = some (ke, ee, z) := by rfl) : RW .s P n B ops K l0 ρ0 f L := by
  refine rw_runP l0 ρ0 ?_
  rw [hrun]
  refine sw_do hg fun w hw => ?_
  obtain ⟨es, clk, hb, he⟩ : ∃ es clk, w.heap[b]? = some (.map es clk) ∧ es.toList.map (fun e => (e.key, e.val)) = mapF ks g := hw.own _ (List.mem_of_getElem? hi)
  obtain ⟨es', h1, h2⟩ := run_update_in ht hb he hnd hs uv
  exact ⟨_, _, by simp only [execOp, hx, hy, hu, Sem.run_bind, h1, Result.andThen_ok]; rfl, .inr ⟨rfl, f, _, hw.mapped hi h2, k⟩⟩
/-- A new key. -/
theorem muO (i : Nat) (hs : s ∉ ks) {u : Operand} {uv : Value} (k : RW .s P n B ops K l ρ f (L.set i (.mp b (mapF (ks ++ [s]) (updF g s uv))))) (hrun : runP P ops l0 ρ0 = (⟨none, .mapUpdate t x y u, ty, pos, af, gd⟩ :: l, ρ) := by rfl) (hg : wantedE ops ρ ⟨none, .mapUpdate t x y u, ty, pos, af, gd⟩ = true := by rfl)
    (hi : L[i]? = some (.mp b (mapF ks g)) := by rfl) (hx : ev ρ x = .map (some b) := by rfl) (hy : ev ρ y = str s := by rfl) (hu : ev ρ u = uv := by rfl) (ht : mapS P t = some (ke, ee, z) := by rfl) : RW .s P n B ops K l0 ρ0 f L := by
  refine rw_runP l0 ρ0 ?_
  rw [hrun]
  refine sw_do hg fun w hw => ?_
  obtain ⟨es, clk, hb, he⟩ : ∃ es clk, w.heap[b]? = some (.map es clk) ∧ es.toList.map (fun e => (e.key, e.val)) = mapF ks g := hw.own _ (List.mem_of_getElem? hi)
  obtain ⟨es', h1, h2⟩ := run_update_out ht hb he hs uv
  exact ⟨_, _, by simp only [execOp, hx, hy, hu, Sem.run_bind, h1, Result.andThen_ok]; rfl, .inr ⟨rfl, f, _, hw.mapped hi h2, k⟩⟩

/-! ### Slices of slices -/
/-- 'xs[:hi]'. -/
theorem slH {A : Option Addr} {nn cc sz : Nat} {hi : Operand} {hv : Int} {ki : IntKind} (j : Nat) (hj : j ≤ cc) (k : RW m P n B ops K l (up ρ d (.slice A j cc)) f L)
    (hrun : runP P ops l0 ρ0 = (⟨some d, .slice t x none (some hi) none, ty, pos, af, gd⟩ :: l, ρ) := by rfl) (hg : wantedE ops ρ ⟨some d, .slice t x none (some hi) none, ty, pos, af, gd⟩ = true := by rfl)
    (hx : ev ρ x = .slice A nn cc := by rfl) (hy : ev ρ hi = .int ki hv := by rfl) (he : elemT P t = some e := by rfl) (hz : sizeT P e = some sz := by rfl) (hh : hv = j := by rfl) : RW m P n B ops K l0 ρ0 f L := by
  refine rw_runP l0 ρ0 ?_
  rw [hrun]
  subst hh
  exact rw_y hg (fun w hw => by
    have h1 : (0 : Int) ≤ (j : Int) ∧ (j : Int) ≤ (cc : Int) := ⟨by omega, by omega⟩
    have hA : Option.map (fun x => x.add 0) A = A := by cases A <;> simp [Addr.add]
    simp [execOp, Instr.sliceAt, Instr.slice, Instr.sliceBounds, Instr.sliceBound, hx, hy, asIntOf, run_und (und_elemT he), run_sizeT hz, h1, hj, hA]) k
end

/-! ### Rows, shortened -/
theorem St.cut {B : Bs} {f : View} {L : List HE} {w : World} {i nn c sz m : Nat} {A : Option Addr} {e : TypeId} {xs : List Value} (h : St B f L w) (hi : L[i]? = some (.row A nn c e sz xs)) (hm : m ≤ nn) : St B f (L.set i (.row A m c e sz (xs.take (m * sz)))) w := by
  have hown : w.ownsRow 0 e sz (.slice A nn c) nn xs := h.own _ (List.mem_of_getElem? hi)
  refine h.set hi rfl rfl rfl (Nat.le_refl _) (fun _ _ _ => rfl) ?_ (fun b' hb' => .inl hb')
  obtain ⟨h1, h2⟩ := hown
  have hmz : m * sz ≤ nn * sz := Nat.mul_le_mul_right _ hm
  refine ⟨by rw [List.length_take, h1]; omega, ?_⟩
  rcases h2 with ⟨h2, h3⟩ | ⟨g, cap, cur, hv, hg, hh, r1, r2, r3, r4⟩
  · injection h2 with h4 h5 h6
    subst h3 h4 h6
    have : m = 0 := by omega
    subst this
    exact .inl ⟨rfl, rfl⟩
  · injection hv with h4 h5 h6
    subst h4 h6
    exact .inr ⟨g, c, cur, rfl, hg, hh, by omega, r2, r3, by rw [← r4, List.take_take, Nat.min_eq_left hmz]⟩
theorem rcut {P : Program} {n : Nat} {B : Bs} {f : View} {L : List HE} {ρ : Env} {K : Kon} {ops : Array Oper} {l : List Oper} (i m : Nat) {A : Option Addr} {nn c sz : Nat} {e : TypeId} {xs : List Value} (hm : m ≤ nn) (k : RW .s P n B ops K l ρ f (L.set i (.row A m c e sz (xs.take (m * sz))))) (hi : L[i]? = some (.row A nn c e sz xs) := by rfl) : RW .s P n B ops K l ρ f L := rwL (fun _ h => h.cut hi hm) k
theorem ercut {P : Program} {n : Nat} {B : Bs} {f : View} {L : List HE} {ρ : Env} {Q : Post} {co : Code} (i m : Nat) {A : Option Addr} {nn c sz : Nat} {e : TypeId} {xs : List Value} (hm : m ≤ nn) (k : EW P n B co Q ρ f (L.set i (.row A m c e sz (xs.take (m * sz))))) (hi : L[i]? = some (.row A nn c e sz xs) := by rfl) : EW P n B co Q ρ f L := ewL (fun _ h => h.cut hi hm) k
/-! ### Regions that draw, in use -/
section
variable {P : Program} {n : Nat} {B : Bs} {f : View} {L : List HE} {ρ : Env} {Q : Post} {K Kf : Kon} {ops : Array Oper} {f0 : View} {L0 : List HE} {nd : Nat → Bool} {kk : Nat} {l ls : List Oper} {o : Oper}
theorem tk (h : RW .s P n B ops (fun ρ' f' L' => (nd kk = true → HeldL f0 L0 f' L') ∧ tailK P n B ops Kf f0 L0 nd (kk + 1) l ρ' f' L') [o] ρ f L) (he : ls = o :: l := by rfl) : tailK P n B ops Kf f0 L0 nd kk ls ρ f L := by
  subst he; exact h
theorem tkE (h : Kf ρ f L) (he : ls = [] := by rfl) : tailK P n B ops Kf f0 L0 nd kk ls ρ f L := by
  subst he; exact h
/-- Behind one of a tail: what must last, and the next. -/
theorem hn (hh : HeldL f0 L0 f L) (h : tailK P n B ops Kf f0 L0 nd (kk + 1) l ρ f L) : RW .s P n B ops (fun ρ' f' L' => (nd kk = true → HeldL f0 L0 f' L') ∧ tailK P n B ops Kf f0 L0 nd (kk + 1) l ρ' f' L') [] ρ f L := rw_end ⟨fun _ => hh, h⟩
theorem hn0 (h : tailK P n B ops Kf f0 L0 nd (kk + 1) l ρ f L) (hh : nd kk = false := by kernel_rfl) : RW .s P n B ops (fun ρ' f' L' => (nd kk = true → HeldL f0 L0 f' L') ∧ tailK P n B ops Kf f0 L0 nd (kk + 1) l ρ' f' L') [] ρ f L := rw_end ⟨fun h1 => (by rw [hh] at h1; cases h1), h⟩
/-- A plain one of a tail. -/
theorem hp {ρE : Env} (h : tailK P n B ops Kf f0 L0 nd (kk + 1) l ρE f L) (he : ls = o :: l := by rfl) (hrun : runP P ops [o] ρ = ([], ρE) := by rfl) (hh : nd kk = false := by kernel_rfl) : tailK P n B ops Kf f0 L0 nd kk ls ρ f L :=
  tk (runE ⟨fun h1 => (by rw [hh] at h1; cases h1), h⟩ hrun) he
end

/-! ### Where ways meet -/
section
variable {P : Program} {n : Nat} {B : Bs} {f : View} {L : List HE} {ρ : Env} {Q : Post} {c c' : Code}
structure JnS {σ : Type} (slots : σ → List (Nat × Value)) (vw : σ → View) (hp : σ → List HE) (Inv : σ → Prop) (ρ'' : Env) (f'' : View) (L'' : List HE) : Prop where
  out : ∃ s, Agree ρ'' (slots s) ∧ vw s = f'' ∧ hp s = L'' ∧ Inv s
theorem sqJ {σ : Type} (slots : σ → List (Nat × Value)) (vw : σ → View) (hp : σ → List HE) (Inv : σ → Prop) (h1 : EW P n B c (thenQ (JnS slots vw hp Inv) Q) ρ f L)
    (h2 : ∀ s ρ', Inv s → EW P n B c' Q (ups ρ' (slots s)) (vw s) (hp s)) : EW P n B (.seq c c') Q ρ f L := by
  refine ew_seq ⟨fun w hw a ha hok => wp_mono (h1.out w hw a ha hok) ?_⟩
  rintro e a' w' ⟨ρ1, f1, L1, h3, h4, h5⟩
  refine ⟨ρ1, f1, L1, h3, h4, ?_⟩
  cases e with
  | normal =>
    obtain ⟨s, hag, rfl, rfl, hi⟩ := h5.out
    have := h2 s ρ1 hi
    rw [ups_agree hag] at this
    exact this
  | _ => exact h5
theorem jn {σ : Type} {slots : σ → List (Nat × Value)} {vw : σ → View} {hp : σ → List HE} {Inv : σ → Prop} (s : σ) (hi : Inv s) (hv : vw s = f := by rfl) (hh : hp s = L := by rfl) (ha : Agree ρ (slots s) := by first | exact trivial | exact ⟨rfl, trivial⟩ | exact ⟨rfl, rfl, trivial⟩ | exact ⟨rfl, rfl, rfl, trivial⟩ | exact ⟨rfl, rfl, rfl, rfl, trivial⟩ | exact ⟨rfl, rfl, rfl, rfl, rfl, trivial⟩ | exact ⟨rfl, rfl, rfl, rfl, rfl, rfl, trivial⟩ | exact ⟨rfl, rfl, rfl, rfl, rfl, rfl, rfl, trivial⟩ | exact ⟨rfl, rfl, rfl, rfl, rfl, rfl, rfl, rfl, trivial⟩) : JnS slots vw hp Inv ρ f L := ⟨⟨s, ha, hv, hh, hi⟩⟩
/-- A block after which ways meet. -/
theorem bkJ {σ : Type} {id : Nat} (slots : σ → List (Nat × Value)) (vw : σ → View) (hp : σ → List HE) (Inv : σ → Prop) (h1 : EW P n B c (blkQ id (thenQ (JnS slots vw hp Inv) Q)) ρ f L)
    (h2 : ∀ s ρ', Inv s → EW P n B c' Q (ups ρ' (slots s)) (vw s) (hp s)) : EW P n B (.seq (.block id c) c') Q ρ f L := sqJ slots vw hp Inv (ew_block h1) h2
end
end Go.Hog
