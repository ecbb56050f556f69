/- The engine, part 8: regions that draw their order and do something to the world. -/
import Derived.Test.YtjjlfbpmbleabaaDoorE7
set_option linter.unusedVariables false
set_option linter.unusedSimpArgs false
namespace Go.Hog
open Go.RowKit Rp

section
variable {P : Program} {ops : Array Oper} {Q Q1 Q2 : Exit → Act → World → Prop} {S : World → Prop} {nd : Nat → Bool}
/-- Whatever comes up next; behind what is marked, S holds. -/
def anyT (P : Program) (ops : Array Oper) (Q : Exit → Act → World → Prop) (S : World → Prop) (nd : Nat → Bool) : Nat → Array Bool → Act → World → Prop
  | 0, listed, a, w => Region.ready .any ops listed = [] ∧ Q .normal a w
  | k + 1, listed, a, w => (Region.ready .any ops listed = [] → Q .normal a w) ∧ ∀ i ∈ Region.ready .any ops listed, wpOp P ops Q i (fun a' w' => (S w → nd i = true → S w') ∧ anyT P ops Q S nd k (listed.setIfInBounds i true) a' w') a w
theorem anyT_any : ∀ (k : Nat) (listed : Array Bool) (a : Act) (w : World), anyT P ops Q S nd k listed a w → wpAny P .any ops Q k listed a w
  | 0, _, _, _, h => h
  | k + 1, _, _, _, h => ⟨h.1, fun i hi => wpOp_mono (fun a' w' h' => anyT_any k _ a' w' h'.2) (h.2 i hi)⟩
theorem anyT_end {listed : Array Bool} {a : Act} {w : World} (hr : Region.ready .any ops listed = []) (h : Q .normal a w) : ∀ k, anyT P ops Q S nd k listed a w
  | 0 => ⟨hr, h⟩
  | _ + 1 => ⟨fun _ => h, by rw [hr]; simp⟩
def Closed (ops : Array Oper) (listed : Array Bool) : Prop := ∀ j oj, ops[j]? = some oj → listed.getD j false = true → ∀ e ∈ oj.after, Region.binds .any e = true → listed.getD e.on false = true
theorem Closed.set {listed : Array Bool} {j : Nat} (h : Closed ops listed) (hj : j ∈ Region.ready .any ops listed) : Closed ops (listed.setIfInBounds j true) := by
  intro m om hm hl e he hb
  by_cases hjm : j = m
  · subst hjm
    obtain ⟨_, o, ho, hall⟩ := mem_ready.1 hj
    rw [hm] at ho
    injection ho with ho
    subst ho
    exact getD_set_true (hall e he hb)
  · rw [getD_set_ne false hjm] at hl
    exact getD_set_true (h m om hm hl e he hb)
theorem Closed.start (k : Nat) : Closed ops (Array.replicate k false) := by
  intro j oj hj hl
  rw [Array.getD_eq_getD_getElem?] at hl
  rcases Nat.lt_or_ge j k with h | h
  · simp [h] at hl
  · simp [h] at hl
def Met (ops : Array Oper) (i j : Nat) : Prop := ∃ listed, Closed ops listed ∧ listed.getD i true = false ∧ j ∈ Region.ready .any ops listed
/-- One that yields under a condition Si may be taken first, if Si lasts behind all that may come ahead of it. -/
theorem anyT_take {Si : World → Prop} {i : Nat} {oi : Oper} {v : Value} (hi : ops[i]? = some oi) (hsel : Region.noSelect ops = true) (hQ : ∀ c a w, ¬ Q (.panic c) a w) :
    ∀ (k : Nat) (listed : Array Bool) (a : Act) (w : World),
      (∀ j oj, ops[j]? = some oj → j ≠ i → listed.getD j true = false → (∀ e ∈ oj.after, Region.binds .any e = true → e.on ≠ i) → oi.apart ops oj = true ∧ (Met ops i j → ∀ w w', Si w → (S w → nd j = true → S w') → Si w')) →
      Closed ops listed → i ∈ Region.ready .any ops listed → YieldsIf P ops Si oi v a → Si w →
      anyT P ops Q S nd k (listed.setIfInBounds i true) (a.put oi.dst v) w → anyT P ops Q S nd (k + 1) listed a w
  | k, listed, a, w, hfree, hcl, hr, hy, hSi, H => by
    refine ⟨fun h => (by rw [h] at hr; cases hr), fun j hj => ?_⟩
    by_cases hji : j = i
    · subst hji
      exact hy.wpOp hi hSi ⟨fun h _ => h, H⟩
    obtain ⟨hun, oj, hoj, hall⟩ := mem_ready.1 hj
    have hnot : ∀ e ∈ oj.after, Region.binds .any e = true → e.on ≠ i := fun e he hb heq => by
      have h1 := hall e he hb
      have h0 := (mem_ready.1 hr).1
      rw [heq] at h1
      rcases Nat.lt_or_ge i listed.size with h' | h'
      · simp [h'] at h0 h1
        rw [h0] at h1
        cases h1
      · simp [Array.getElem?_eq_none h'] at h1
    obtain ⟨hap, hlast⟩ := hfree j oj hoj hji hun hnot
    cases k with
    | zero =>
      have := ready_mono hj hji
      rw [H.1] at this
      cases this
    | succ k =>
      have h1 := H.2 j (ready_mono hj hji)
      have h2 := wpOp_putIf hoj hap (fun cs b => Region.noSelect_spec hsel i oi cs b hi) (fun cs b => Region.noSelect_spec hsel j oj cs b hoj) (fun c a w hq => absurd hq (hQ c _ _)) hy h1
      refine wpOp_mono (fun a' w' h3 => ?_) h2
      obtain ⟨hy', hnd, hrest⟩ := h3
      have hfree' : ∀ m om, ops[m]? = some om → m ≠ i → (listed.setIfInBounds j true).getD m true = false → (∀ e ∈ om.after, Region.binds .any e = true → e.on ≠ i) → oi.apart ops om = true ∧ (Met ops i m → ∀ w w', Si w → (S w → nd m = true → S w') → Si w') := fun m om hm hmi hum hno => by
        refine hfree m om hm hmi ?_ hno
        by_cases hjm : j = m
        · subst hjm; exact hun
        · rw [getD_set_ne true hjm] at hum; exact hum
      refine ⟨hnd, ?_⟩
      refine anyT_take hi hsel hQ k (listed.setIfInBounds j true) a' w' hfree' (hcl.set hj) (ready_mono hr (Ne.symm hji)) hy' (hlast ⟨listed, hcl, (mem_ready.1 hr).1, hj⟩ w w' hSi hnd) ?_
      rw [Array.setIfInBounds_comm _ _ hji]
      exact hrest

/-! ### The check on a region -/
def plainO : Op → Bool
  | .move _ => true
  | .assign _ => true
  | _ => false
def waitsOn (ops : Array Oper) : Nat → Nat → Nat → Bool
  | 0, _, _ => false
  | k + 1, j, i => match ops[j]? with | some o => o.after.any fun e => Region.binds .any e && (Nat.beq e.on i || waitsOn ops k e.on i) | none => false
def plainAt (ops : Array Oper) (i : Nat) : Bool := match ops[i]? with | some o => plainO o.op | none => true
/-- Must S be shown behind number j? -/
def ndB (ops : Array Oper) (n : Nat) (j : Nat) : Bool := Nat.blt j n || (List.range n).any fun i => !plainAt ops i && !waitsOn ops 3 j i
def lexT (ops : Array Oper) (n : Nat) : Nat → Nat → Array Bool → Bool
  | 0, _, listed => (Region.ready .any ops listed).isEmpty
  | g + 1, k, listed => (bif Nat.blt k n then (Region.ready .any ops listed).contains k && Region.free .any ops listed k else decide (Region.ready .any ops listed = [k])) && lexT ops n g (k + 1) (listed.setIfInBounds k true)
def drawB (ops : Array Oper) (n : Nat) : Bool := Region.noSelect ops && Nat.ble n ops.size && lexT ops n ops.size 0 (Array.replicate ops.size false)
theorem getD_both {listed : Array Bool} {i : Nat} (h : listed.getD i true = false) : listed.getD i false = false := by
  rcases Nat.lt_or_ge i listed.size with h' | h'
  · simp [h'] at h ⊢; exact h
  · simp [Array.getElem?_eq_none h'] at h
theorem waitsOn_listed {listed : Array Bool} (hcl : Closed ops listed) : ∀ (k j i : Nat) (oj : Oper), ops[j]? = some oj → (∀ e ∈ oj.after, Region.binds .any e = true → listed.getD e.on false = true) → waitsOn ops k j i = true → listed.getD i false = true
  | 0, j, i, oj, hj, hall, h => by simp [waitsOn] at h
  | k + 1, j, i, oj, hj, hall, h => by
    simp only [waitsOn, hj] at h
    obtain ⟨e, he, hb⟩ := Array.any_eq_true'.1 h
    simp only [Bool.and_eq_true, Bool.or_eq_true] at hb
    obtain ⟨hb, h1 | h1⟩ := hb
    · rw [← Nat.eq_of_beq_eq_true h1]
      exact hall e he hb
    · have hl := hall e he hb
      cases ho : ops[e.on]? with
      | none =>
        cases k with
        | zero => simp [waitsOn] at h1
        | succ k => simp [waitsOn, ho] at h1
      | some o => exact waitsOn_listed hcl k e.on i o ho (fun e' he' hb' => hcl _ _ ho hl e' he' hb') h1
theorem nd_of {n i j : Nat} {oi : Oper} (hin : i < n) (hi : ops[i]? = some oi) (hp : plainO oi.op = false) (h : Met ops i j) : ndB ops n j = true := by
  obtain ⟨listed, hcl, hun, hr⟩ := h
  obtain ⟨_, oj, hoj, hall⟩ := mem_ready.1 hr
  unfold ndB
  rw [Bool.or_eq_true]
  refine .inr (List.any_eq_true.2 ⟨i, List.mem_range.2 hin, ?_⟩)
  have hw : waitsOn ops 3 j i = false := by
    cases e : waitsOn ops 3 j i with
    | false => rfl
    | true =>
      have := waitsOn_listed hcl 3 j i oj hoj hall e
      rw [getD_both hun] at this
      cases this
  rw [hw]
  unfold plainAt
  rw [hi]
  simp only [hp]
  rfl
theorem plain_any {o : Oper} {v : Value} {a : Act} {w : World} (hp : plainO o.op = true) (hS : S w) (h : YieldsIf P ops S o v a) : YieldsIf P ops (fun _ => True) o v a := by
  rcases h with ⟨h1, h2⟩ | h
  · refine .inl ⟨h1, fun w' _ => ?_⟩
    have h3 := h2 w hS
    obtain ⟨dst, op, type, pos, after, guard⟩ := o
    simp only at hp
    unfold plainO at hp
    split at hp
    · simp [execOp] at h3 ⊢; exact h3
    · simp [execOp] at h3 ⊢; exact h3
    · cases hp
  · exact .inr h
theorem anyT_prefix {n : Nat} {Qa : Act → Prop} {w : World} (hsel : Region.noSelect ops = true) (hQ : ∀ c a w, ¬ Q (.panic c) a w) (hS : S w) :
    ∀ (l : List Oper) (k : Nat) (listed : Array Bool) (a : Act), (∀ j, j < l.length → l[j]? = ops[k + j]?) → k + l.length = n → n ≤ ops.size → lexT ops n (ops.size - k) k listed = true → Closed ops listed → wpVal P ops S Qa l a →
      (∀ a' listed', Qa a' → lexT ops n (ops.size - n) n listed' = true → anyT P ops Q S (ndB ops n) (ops.size - n) listed' a' w) → anyT P ops Q S (ndB ops n) (ops.size - k) listed a w
  | [], k, listed, a, hl, hk, hn, hB, hcl, h, hK => by
    have : k = n := by simpa using hk
    subst this
    exact hK a listed h hB
  | o :: l, k, listed, a, hl, hk, hn, hB, hcl, h, hK => by
    have h0 : ops[k]? = some o := by simpa using (hl 0 (by simp)).symm
    simp only [List.length_cons] at hk hl
    have hkn : k < n := by omega
    obtain ⟨g, hg⟩ : ∃ g, ops.size - k = g + 1 := ⟨ops.size - k - 1, by omega⟩
    rw [hg] at hB ⊢
    simp only [lexT, Bool.and_eq_true] at hB
    rw [show Nat.blt k n = true by simpa [Nat.blt_eq] using hkn] at hB
    simp only [cond_true, Bool.and_eq_true] at hB
    obtain ⟨⟨hr, hf⟩, hB'⟩ := hB
    obtain ⟨v, hy, h'⟩ := h
    have hr' : k ∈ Region.ready .any ops listed := by simpa using hr
    have hrest : anyT P ops Q S (ndB ops n) g (listed.setIfInBounds k true) (a.put o.dst v) w := by
      have := anyT_prefix hsel hQ hS l (k + 1) (listed.setIfInBounds k true) (a.put o.dst v) (fun j hj => by have := hl (j + 1) (by omega); rw [show k + 1 + j = k + (j + 1) by omega]; simpa using this) (by omega) hn (by rw [show ops.size - (k + 1) = g by omega]; exact hB') (hcl.set hr') h' hK
      rwa [show ops.size - (k + 1) = g by omega] at this
    by_cases hp : plainO o.op = true
    · exact anyT_take (Si := fun _ => True) h0 hsel hQ g listed a w (fun j oj hj hjk hun hno => ⟨Region.free_spec h0 hf j oj hj hjk hun hno, fun _ _ _ _ _ => trivial⟩) hcl hr' (plain_any hp hS hy) trivial hrest
    · have hp' : plainO o.op = false := by simpa using hp
      exact anyT_take (Si := S) h0 hsel hQ g listed a w (fun j oj hj hjk hun hno => ⟨Region.free_spec h0 hf j oj hj hjk hun hno, fun hm w1 w2 h1 h2 => h2 h1 (nd_of hkn h0 hp' hm)⟩) hcl hr' hy hS hrest
theorem one_of_list {i : Nat} {o : Oper} {a : Act} {w : World} (hi : ops[i]? = some o) (h1 : ∀ e a w, Q1 e a w → e = .normal) (h : wpList P ops Q1 [o] a w) : wpOp P ops Q2 i (fun a' w' => Q1 .normal a' w') a w := by
  have hno : ¬ LetsOut Q1 := fun ⟨a, w, h⟩ => by cases h1 _ _ _ h
  unfold wpOp
  simp only [hi]
  unfold wpList at h
  split at h
  · rename_i hw
    rw [if_pos hw]
    rcases h with h | ⟨_, h⟩
    · refine .inl ?_
      unfold Oper.wp at h ⊢
      generalize (execOp a.eval o).run P w = r at h ⊢
      cases r with
      | ok nx w' =>
        cases nx <;> simp only [Oper.upon, wpList] at h ⊢ <;> try exact h
        refine Calls.mono h fun e w'' he => ?_
        cases e with
        | returned u => exact he
        | panicked c => cases h1 _ _ _ he
        | outgrown => exact absurd he hno
      | halt x w' =>
        cases x <;> simp only [Oper.upon] at h ⊢
        cases h1 _ _ _ h
    · exact absurd h hno
  · rename_i hw
    rw [if_neg hw]
    exact h
end

section
variable {P : Program} {n : Nat} {B : Bs} {f : View} {L : List HE} {ρ : Env} {Q : Post} {K : Kon} {ops : Array Oper}
structure HeldL (f0 : View) (L0 : List HE) (f : View) (L : List HE) : Prop where
  view : Sub f0 f
  ents : ∀ e ∈ L0, e ∈ L
/-- The operations behind the first ones, each by itself, and what must last behind it. -/
def tailK (P : Program) (n : Nat) (B : Bs) (ops : Array Oper) (Kf : Kon) (f0 : View) (L0 : List HE) (nd : Nat → Bool) : Nat → List Oper → Kon
  | _, [] => Kf
  | k, o :: l => fun ρ f L => RW .s P n B ops (fun ρ' f' L' => (nd k = true → HeldL f0 L0 f' L') ∧ tailK P n B ops Kf f0 L0 nd (k + 1) l ρ' f' L') [o] ρ f L
theorem held_class {f0 : View} {L0 : List HE} {w0 w : World} (h0 : St B f0 L0 w0) (h : St B f L w) (hh : HeldL f0 L0 f L) : St B f0 L0 w :=
  ⟨h.os, h.tape, h.output, h.size, h.keep, h0.ext, h0.old, hh.view.on h.on, fun e he => h.own e (hh.ents e he), h0.mine, h0.off, h0.apart⟩
theorem anyT_tail {f0 : View} {L0 : List HE} {w0 : World} {n0 : Nat} (h0 : St B f0 L0 w0) : ∀ (l : List Oper) (k : Nat) (listed : Array Bool) (a : Act) (w : World) (ρ : Env) (f : View) (L : List HE),
    (∀ j, l[j]? = ops[k + j]?) → n0 ≤ k → lexT ops n0 l.length k listed = true → St B f L w → Fr n a ρ → opsOk n l = true → tailK P n B ops (Q .normal) f0 L0 (ndB ops n0) k l ρ f L →
    anyT P ops (Qs n B Q) (fun w => St B f0 L0 w) (ndB ops n0) l.length listed a w
  | [], k, listed, a, w, ρ, f, L, hl, hk, hB, hw, ha, hok, h => by
    exact anyT_end (by simpa [lexT] using hB) ⟨ρ, f, L, ha, hw, h⟩ 0
  | o :: l, k, listed, a, w, ρ, f, L, hl, hk, hB, hw, ha, hok, h => by
    have hi : ops[k]? = some o := by simpa using (hl 0).symm
    have hok' : dOk n o.dst = true ∧ opsOk n l = true := by simpa [opsOk] using hok
    simp only [List.length_cons, lexT, Bool.and_eq_true] at hB
    rw [show Nat.blt k n0 = false by cases e : Nat.blt k n0 with | false => rfl | true => have : k < n0 := by simpa [Nat.blt_eq] using e
                                                                                          omega] at hB
    simp only [cond_false, decide_eq_true_eq] at hB
    obtain ⟨hr, hB'⟩ := hB
    refine ⟨fun h1 => (by rw [hr] at h1; cases h1), fun i hi' => ?_⟩
    rw [hr] at hi'
    have : i = k := by simpa using hi'
    subst this
    have h1 := SW.out h w hw a ha (by simp [opsOk, hok'.1])
    refine wpOp_mono ?_ (one_of_list hi (fun e a w hq => by obtain ⟨_, _, _, _, _, h3⟩ := hq; cases e with | normal => rfl | _ => exact h3.elim) h1)
    rintro a' w' ⟨ρ', f', L', ha', hw', hnd, hk'⟩
    exact ⟨fun _ hn => held_class h0 hw' (hnd hn), anyT_tail h0 l (i + 1) _ a' w' ρ' f' L' (fun j => by have := hl (j + 1); rw [show i + 1 + j = i + (j + 1) by omega]; simpa using this) (by omega) hB' hw' ha' hok'.2 hk'⟩
theorem opsOk_take {n : Nat} : ∀ {l : List Oper} (k : Nat), opsOk n l = true → opsOk n (l.take k) = true ∧ opsOk n (l.drop k) = true
  | [], k, h => by simp [opsOk]
  | o :: l, 0, h => ⟨rfl, h⟩
  | o :: l, k + 1, h => by
    have h' : dOk n o.dst = true ∧ opsOk n l = true := by simpa [opsOk] using h
    have := opsOk_take k h'.2
    exact ⟨by simp [opsOk, h'.1, this.1], this.2⟩
theorem wpVal_mono {C : World → Prop} {Qa Qb : Act → Prop} (h : ∀ a, Qa a → Qb a) : ∀ (l : List Oper) (a : Act), wpVal P ops C Qa l a → wpVal P ops C Qb l a
  | [], a, hq => h a hq
  | o :: l, a, ⟨v, hy, hq⟩ => ⟨v, hy, wpVal_mono h l _ hq⟩
/-- A region that draws: the first n0 yield values, in worlds in which L0 is as it was; the others come one after the other. -/
theorem ew_draw {id : Nat} (n0 : Nat) (L0 : List HE) (hL0 : L0.Sublist L) (hm : P.follows .mixedOrders = true) (hB : drawB ops n0 = true)
    (h : RW .v P n B ops (fun ρ' _ _ => tailK P n B ops (Q .normal) f L0 (ndB ops n0) n0 (ops.toList.drop n0) ρ' f L) (ops.toList.take n0) ρ f L0) : EW P n B (.region id ops true) Q ρ f L := by
  refine ⟨fun w hw a ha hok => wp_mono (Q := Qs n B (onlyN (Q .normal))) (wp_region_any hm (anyT_any (S := fun w => St B f L0 w) (nd := ndB ops n0) _ _ _ _ ?_)) ?_⟩
  case refine_2 =>
    rintro e a' w' ⟨ρ', f', L', h1, h2, h3⟩
    cases e with
    | normal => exact ⟨ρ', f', L', h1, h2, h3⟩
    | _ => exact h3.elim
  simp only [drawB, Bool.and_eq_true, Nat.ble_eq] at hB
  obtain ⟨⟨hsel, hn⟩, hlex⟩ := hB
  have hw1 : St B f L { w with drawn := w.drawn + 1 } := hw.drawn _
  have h0 : St B f L0 { w with drawn := w.drawn + 1 } := hw1.sublist hL0
  have hok' := opsOk_take n0 (show opsOk n ops.toList = true from hok)
  have hq := VW.out h ⟨_, h0⟩ a ha hok'.1
  have hlen : (ops.toList.take n0).length = n0 := by simp; omega
  have := anyT_prefix (Q := Qs n B (onlyN (Q .normal))) (n := n0) hsel (fun c a w hq => by obtain ⟨_, _, _, _, _, h3⟩ := hq; exact h3) (S := fun w => St B f L0 w) h0 (ops.toList.take n0) 0 (Array.replicate ops.size false) a (fun j hj => by rw [hlen] at hj; simp [hj]) (by rw [hlen, Nat.zero_add]) hn (by simpa using hlex) (Closed.start _) hq ?_
  · simpa using this
  · rintro a' listed' ⟨ρ', ha', hk'⟩ hlex'
    have hd : (ops.toList.drop n0).length = ops.size - n0 := by simp
    rw [← hd] at hlex' ⊢
    exact anyT_tail (Q := onlyN (Q .normal)) h0 (ops.toList.drop n0) n0 listed' a' _ ρ' f L (fun j => by simp [List.getElem?_drop]) (Nat.le_refl _) hlex' hw1 ha' hok'.2 hk'
end
end Go.Hog
