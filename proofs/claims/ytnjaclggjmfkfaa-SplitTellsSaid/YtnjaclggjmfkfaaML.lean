/- F18 F19, in one text. -/
import Derived.Test.YtnjaclggjmfkfaaF17
import Derived.Test.YtnjaclggjmfkfaaMF
set_option linter.unusedVariables false
set_option linter.unusedSimpArgs false
set_option maxRecDepth 100000
set_option maxHeartbeats 1000000
namespace Go.Hog
open Go.RowKit Rp Go.Proofs
def numV (n : Int) : Value := i64 n
def iRow (A : Option Addr) (c : Nat) (l : List Int) : HE := .row A l.length c 3 1 (l.map numV)
noncomputable def scoresL (a : List Item) : List Int := if (names a).Nodup then a.map (fun x => (sc a x.name : Int)) else []
def Abv (a : Int) (x : Str) (b : Int) (y : Str) : Prop := b < a ∨ a = b ∧ x < y
instance (a : Int) (x : Str) (b : Int) (y : Str) : Decidable (Abv a x b y) := by unfold Abv; infer_instance
theorem popAbove {w : World} {f : View} (hv : On f w) {a b : Int} {x y : Str} :
    Con Try.prog 43 [i64 a, str x, i64 b, str y] w (Ret w f fun _ v => v = .bool (decide (Abv a x b y))) := by
  refine enterC hv Try.call43 Try.func43 ?_
  refine sgE ?_
  refine sg ?_
  refine Go.Hog.gt (fun h1 => ?_) (fun h1 => ?_)
  · refine runE ?_
    refine ew_ret ?_
    exact ret1 (bT (.inl h1))
  refine eqI (fun h2 => ?_) (fun h2 => ?_)
  · refine ltSE (fun h3 => ?_) (fun h3 => ?_)
    · refine ew_ret ?_
      exact ret1 (bT (.inr ⟨h2, h3⟩))
    · refine ew_ret ?_
      exact ret1 (bF (fun e => by rcases e with e | e; exact h1 e; exact h3 e.2))
  · refine runE ?_
    refine ew_ret ?_
    exact ret1 (bF (fun e => by rcases e with e | e; exact h1 e; exact h2 e.1))
theorem refAbove {w : World} {f : View} (hv : On f w) {a b : Int} {x y : Str} :
    Con Try.prog 40 [i64 a, str x, i64 b, str y] w (Ret w f fun _ v => v = .bool (decide (Abv a x b y))) := by
  refine enterC hv Try.call40 Try.func40 ?_
  refine sgE ?_
  refine sg ?_
  refine Go.Hog.gt (fun h1 => ?_) (fun h1 => ?_)
  · refine runE ?_
    refine ew_ret ?_
    exact ret1 (bT (.inl h1))
  refine eqI (fun h2 => ?_) (fun h2 => ?_)
  · refine ltSE (fun h3 => ?_) (fun h3 => ?_)
    · refine ew_ret ?_
      exact ret1 (bT (.inr ⟨h2, h3⟩))
    · refine ew_ret ?_
      exact ret1 (bF (fun e => by rcases e with e | e; exact h1 e; exact h3 e.2))
  · refine runE ?_
    refine ew_ret ?_
    exact ret1 (bF (fun e => by rcases e with e | e; exact h1 e; exact h2 e.1))
end Go.Hog

set_option linter.unusedVariables false
set_option linter.unusedSimpArgs false
set_option maxRecDepth 100000
set_option maxHeartbeats 1000000
namespace Go.Hog
open Go.RowKit Rp Go.Proofs
section
variable {P : Program}
def methQ (P : Program) (T : TypeId) (name : String) : Option (FuncId × Bool) := (P.info? T).bind fun i => (i.methods.find? (·.name == name)).bind fun m => match m.path with | ⟨[]⟩ => m.func | _ => none
theorem methQ_spec {T : TypeId} {name : String} {r : FuncId × Bool} (h : methQ P T name = some r) : ∃ i m, P.info? T = some i ∧ i.methods.find? (·.name == name) = some m ∧ m.path = #[] ∧ m.func = some r := by
  unfold methQ at h
  obtain ⟨i, h1, h⟩ := Option.bind_eq_some_iff.1 h
  obtain ⟨m, h2, h⟩ := Option.bind_eq_some_iff.1 h
  split at h
  · rename_i h3
    exact ⟨i, m, h1, h2, h3, h⟩
  · cases h
theorem run_methQ {T e : TypeId} {name : String} {k : FuncId} {v : Value} {args : Array Value} {w : World} (hm : methQ P T name = some (k, true)) (hT : P.underlying T = some (.pointer e)) (hcf : ∀ args w, (callFunc k args).run P w = .ok (.enter k args) w) :
    (callMethod (.iface T v) name args).run P w = .ok (.enter k (#[v] ++ args)) w := by
  obtain ⟨i, m, h1, h2, h3, h4⟩ := methQ_spec hm
  unfold callMethod
  have hf : ∀ fuel, (method (fuel + 1) T v name).run P w = .ok (k, v) w := fun fuel => by
    unfold method
    simp only [Sem.run_bind, run_info h1, Result.andThen_ok, h2, h3, follow, Sem.run_pure, h4]
    simp [receiverAt, run_und hT, Place.get]
  have hp : (program).run P w = .ok P w := by simp [program, Sem.run]
  simp only [Sem.run_bind, hp, Result.andThen_ok]
  rw [show P.types.size + Made.depth = (P.types.size + 99) + 1 from rfl, hf]
  simp only [Result.andThen_ok, hcf]
end
abbrev Pl := Int × Str
def plC (p : Pl) : List Value := [i64 p.1, str p.2]
def plLt (p q : Pl) : Prop := Abv p.1 p.2 q.1 q.2
instance : DecidableRel plLt := fun p q => by unfold plLt; infer_instance
theorem plSO : SO plLt where
  asym := fun {a b} h1 h2 => by
    rcases h1 with h1 | ⟨h1, h1'⟩ <;> rcases h2 with h2 | ⟨h2, h2'⟩
    · omega
    · omega
    · omega
    · exact strSO.asym h1' h2'
  trans := fun {a b c} h1 h2 => by
    rcases h1 with h1 | ⟨h1, h1'⟩ <;> rcases h2 with h2 | ⟨h2, h2'⟩
    · exact .inl (by omega)
    · exact .inl (by omega)
    · exact .inl (by omega)
    · exact .inr ⟨by omega, strSO.trans h1' h2'⟩
  ntrans := fun {a b c} h1 h2 h3 => by
    have a1 : ¬ b.1 < a.1 := fun e => h1 (.inl e)
    have a2 : ¬ c.1 < b.1 := fun e => h2 (.inl e)
    rcases h3 with h3 | ⟨h3, h3'⟩
    · omega
    · have e1 : a.1 = b.1 := by omega
      have e2 : b.1 = c.1 := by omega
      exact strSO.ntrans (fun e => h1 (.inr ⟨e1, e⟩)) (fun e => h2 (.inr ⟨e2, e⟩)) h3'
theorem plIrr (a : Pl) : ¬ plLt a a := fun h => plSO.asym h h
/-! ### Lists of what takes so many cells -/
section
variable {α : Type} {enc : α → List Value} {q : Nat}
theorem flat_len (h : ∀ x, (enc x).length = q) : ∀ l : List α, (l.flatMap enc).length = l.length * q
  | [] => by simp
  | x :: l => by simp [List.flatMap_cons, h, flat_len h l, Nat.add_mul, Nat.add_comm]
theorem flat_cell (h : ∀ x, (enc x).length = q) : ∀ (l : List α) (k j : Nat) (hk : k < l.length), j < q → (l.flatMap enc)[k * q + j]? = (enc l[k])[j]?
  | x :: l, 0, j, hk, hj => by
    rw [List.flatMap_cons, Nat.zero_mul, Nat.zero_add, List.getElem?_append_left (by rw [h]; exact hj)]
    rfl
  | x :: l, k + 1, j, hk, hj => by
    rw [List.flatMap_cons, List.getElem?_append_right (by rw [h, Nat.add_mul]; omega), h]
    rw [show (k + 1) * q + j - q = k * q + j by rw [Nat.add_mul]; omega]
    exact flat_cell h l k j (by simpa using hk) hj
theorem putL_left (us xs : List Value) : ∀ (vs : List Value), us.length = vs.length → putL (vs ++ xs) 0 us = us ++ xs := by
  induction us with
  | nil => intro vs h; obtain rfl : vs = [] := List.eq_nil_of_length_eq_zero h.symm; cases xs <;> rfl
  | cons u us ih =>
    intro vs h
    rcases vs with _ | ⟨v, vs⟩
    · simp at h
    · simp only [List.cons_append, putL]
      rw [ih vs (by simpa using h)]
theorem putL_past (pre : List Value) : ∀ (xs : List Value) (o : Nat) (us : List Value), putL (pre ++ xs) (pre.length + o) us = pre ++ putL xs o us := by
  induction pre with
  | nil => intro xs o us; simp
  | cons p pre ih =>
    intro xs o us
    rcases us with _ | ⟨u, us⟩
    · rw [show putL xs o [] = xs by cases xs <;> cases o <;> rfl]
      simp [putL]
    · rw [List.cons_append, List.length_cons, show pre.length + 1 + o = (pre.length + o) + 1 by omega]
      simp only [putL, List.cons_append]
      rw [ih]
theorem flat_put (h : ∀ x, (enc x).length = q) : ∀ (l : List α) (k : Nat) (x : α), k < l.length → putL (l.flatMap enc) (k * q) (enc x) = (l.set k x).flatMap enc
  | y :: l, 0, x, hk => by
    rw [List.flatMap_cons, List.set_cons_zero, List.flatMap_cons, Nat.zero_mul, putL_left _ _ _ (by rw [h, h])]
  | y :: l, k + 1, x, hk => by
    rw [List.flatMap_cons, List.set_cons_succ, List.flatMap_cons, show (k + 1) * q = (enc y).length + k * q by rw [h, Nat.add_mul]; omega, putL_past, flat_put h l k x (by simpa using hk)]
theorem flat_take (h : ∀ x, (enc x).length = q) (l : List α) (k : Nat) : (l.flatMap enc).take (k * q) = (l.take k).flatMap enc := by
  by_cases hk : k ≤ l.length
  · have h1 : l.flatMap enc = (l.take k).flatMap enc ++ (l.drop k).flatMap enc := by rw [← List.flatMap_append, List.take_append_drop]
    have h2 : ((l.take k).flatMap enc).length = k * q := by rw [flat_len h, List.length_take, Nat.min_eq_left hk]
    rw [h1, ← h2, List.take_left]
  · rw [List.take_of_length_le (show l.length ≤ k by omega), List.take_of_length_le (by rw [flat_len h]; exact Nat.mul_le_mul_right _ (by omega))]
end
theorem plC_len (p : Pl) : (plC p).length = 2 := rfl
def kobj (b : Nat) (l : List Pl) (A : Option Addr) (c : Nat) : List HE := [.blk b (.cells ⟨[.slice A l.length c, .func (.func 30) ⟨[]⟩ ⟨[]⟩]⟩ 61), .row A l.length c 58 2 (l.flatMap plC)]
def krv (b : Nat) : Value := .iface 54 (.pointer (some ⟨b, 0, none⟩))
theorem placeAbove {w : World} {f : View} (hv : On f w) {p q : Pl} : Con Try.prog 30 [.agg ⟨plC p⟩, .agg ⟨plC q⟩] w (Ret w f fun _ v => v = .bool (decide (plLt p q))) := by
  refine enterC hv Try.call30 Try.func30 ?_
  refine sg ?_
  refine box fun b1 => ?_
  refine box fun b2 => ?_
  refine runE ?_
  refine efg [(2, .pointer (some ⟨b1, 0, none⟩)), (3, .pointer (some ⟨b2, 0, none⟩))] [.blk b2 (.cells ⟨plC q⟩ 58), .blk b1 (.cells ⟨plC p⟩ 58)] fun ρ => ?_
  refine sg ?_
  refine ldo 1 ?_
  refine ldo 1 ?_
  refine ldo 0 ?_
  refine ldo 0 ?_
  refine callV (.bool (decide (plLt p q))) (vs := [i64 p.1, str p.2, i64 q.1, str q.2]) (fun w g hs _ hon => popAbove hon) ?_
  refine runE ?_
  refine ew_ret ?_
  exact ret1 rfl
theorem kLen {b : Nat} {l : List Pl} {A : Option Addr} {c : Nat} {f : View} {w : World} (hv : On f w) (hg : Given f (kobj b l A c) w) :
    Con Try.prog 32 [.pointer (some ⟨b, 0, none⟩)] w (RetM w f (kobj b l A c) fun g L' v => L' = kobj b l A c ∧ v = i64 l.length) := by
  refine enterM hv hg Try.call32 Try.func32 ?_
  refine sgE ?_
  refine sg ?_
  refine ldo 0 ?_
  refine runE ?_
  refine ew_ret ?_
  exact ret1M ⟨rfl, rfl⟩
theorem kCell {l : List Pl} {k : Nat} (hk : k < l.length) : ∀ j v, (plC (at_ l k))[j]? = some v → (l.flatMap plC)[0 + k * 2 + j]? = some v := fun j v hj => by
  have hj2 : j < 2 := (List.getElem?_eq_some_iff.1 hj).1
  rw [Nat.zero_add, flat_cell plC_len l k j hk hj2, ← at_get hk]
  exact hj
theorem kLess {b : Nat} {l : List Pl} {A : Option Addr} {c : Nat} {f : View} {w : World} {i j : Nat} (hi : i < l.length) (hj : j < l.length) (hlim : l.length ≤ 1000000) (hv : On f w) (hg : Given f (kobj b l A c) w) :
    Con Try.prog 91 [.pointer (some ⟨b, 0, none⟩), i64 i, i64 j] w (RetM w f (kobj b l A c) fun g L' v => L' = kobj b l A c ∧ v = .bool (decide (plLt (at_ l i) (at_ l j)))) := by
  refine enterM hv hg Try.call91 Try.func91 ?_
  refine sgE ?_
  refine erowF 1 fun hrow => ?_
  obtain ⟨g, rfl⟩ := hrow.2.2.2.1 (by omega)
  refine sQ ?_
  refine ldo 0 ?_
  refine ldo 0 ?_
  refine ix i hi ?_
  refine ldrA 1 (kCell hi) ?_
  refine ldo 0 ?_
  refine ix j hj ?_
  refine ldrA 1 (kCell hj) ?_
  refine callVF (.bool (decide (plLt (at_ l i) (at_ l j)))) (vs := [.agg ⟨plC (at_ l i)⟩, .agg ⟨plC (at_ l j)⟩]) (fun w g hs _ hon => placeAbove hon) ?_
  refine runE ?_
  refine ew_ret ?_
  exact ret1M ⟨rfl, rfl⟩
theorem kSwap {b : Nat} {l : List Pl} {A : Option Addr} {c : Nat} {f : View} {w : World} {i j : Nat} (hi : i < l.length) (hj : j < l.length) (hlim : l.length ≤ 1000000) (hv : On f w) (hg : Given f (kobj b l A c) w) :
    Con Try.prog 94 [.pointer (some ⟨b, 0, none⟩), i64 i, i64 j] w (RetM w f (kobj b l A c) fun g L' v => L' = kobj b (swapL l i j) A c) := by
  refine enterM hv hg Try.call94 Try.func94 ?_
  refine erowF 1 fun hrow => ?_
  obtain ⟨g, rfl⟩ := hrow.2.2.2.1 (by omega)
  have hL : HeldL f [HE.blk b (.cells ⟨[.slice (some ⟨g, 0, none⟩) l.length c, .func (.func 30) ⟨[]⟩ ⟨[]⟩]⟩ 61)] f (kobj b l (some ⟨g, 0, none⟩) c) := ⟨Sub.refl _, fun e he => by rw [List.mem_singleton] at he; subst he; simp [kobj]⟩
  have hL2 : ∀ xs, HeldL f [HE.blk b (.cells ⟨[.slice (some ⟨g, 0, none⟩) l.length c, .func (.func 30) ⟨[]⟩ ⟨[]⟩]⟩ 61)] f [HE.blk b (.cells ⟨[.slice (some ⟨g, 0, none⟩) l.length c, .func (.func 30) ⟨[]⟩ ⟨[]⟩]⟩ 61), .row (some ⟨g, 0, none⟩) l.length c 58 2 xs] := fun xs => ⟨Sub.refl _, fun e he => by rw [List.mem_singleton] at he; subst he; simp⟩
  have q1 : 0 + i * 2 + (plC (at_ l j)).length ≤ (l.flatMap plC).length := by rw [flat_len plC_len]; show 0 + i * 2 + 2 ≤ _; omega
  have q2 : 0 + j * 2 + (plC (at_ l i)).length ≤ (putL (l.flatMap plC) (0 + i * 2) (plC (at_ l j))).length := by rw [putL_length _ _ _ q1, flat_len plC_len]; show 0 + j * 2 + 2 ≤ _; omega
  have e1 : putL (putL (l.flatMap plC) (0 + i * 2) (plC (at_ l j))) (0 + j * 2) (plC (at_ l i)) = (swapL l i j).flatMap plC := by
    rw [Nat.zero_add, Nat.zero_add, flat_put plC_len l i _ hi, flat_put plC_len _ j _ (by simpa using hj)]
    rfl
  refine eA [0, 1, 2, 3, 4, 5, 6, 7, 8, 9, 10, 11, 12, 13, 14, 15, 17, 18, 19, 20, 21, 22] [HE.blk b (.cells ⟨[.slice (some ⟨g, 0, none⟩) l.length c, .func (.func 30) ⟨[]⟩ ⟨[]⟩]⟩ 61)] (by simp [kobj]) ?_
  refine an_takeH [0, 1, 2, 3, 4, 5, 6, 7, 8, 9, 10, 11, 12, 13, 14, 15, 17, 18, 19, 20, 21, 22] hL ?_
  refine ldo 0 ?_
  refine ldo 0 ?_
  refine ldo 0 ?_
  refine ix j hj ?_
  refine ldo 0 ?_
  refine ix i hi ?_
  refine rw_end ?_
  refine an_have (α := Unit) (lsA 28 [0, 1, 2, 3, 4, 5, 6, 7, 8, 9, 10, 11, 12, 13, 14, 15, 16, 17, 18, 19, 20, 21, 22, 23]) (fun _ => [(9, .slice (some ⟨g, 0, none⟩) l.length c), (10, i64 i), (14, .slice (some ⟨g, 0, none⟩) l.length c), (15, i64 j), (22, .agg ⟨plC (at_ l j)⟩), (29, .agg ⟨plC (at_ l i)⟩)]) (fun _ => f) (fun _ => kobj b l (some ⟨g, 0, none⟩) c) ?_ (fun T => ?_)
  · intro _ ρ
    refine an_run1 24 ?_
    refine ix i hi ?_
    refine aH hL ?_
    refine an_run1 25 ?_
    refine stR 1 (o := 0 + i * 2) (vs := plC (at_ l j)) q1 ?_
    refine aH (hL2 _) ?_
    refine an_run1 26 ?_
    refine ix j hj ?_
    refine aH (hL2 _) ?_
    refine an_run1 27 ?_
    refine stR 1 (o := 0 + j * 2) (vs := plC (at_ l i)) q2 ?_
    refine aH (hL2 _) ?_
    refine an_done ?_
    refine ret0M ?_
    show [HE.blk b _, HE.row _ _ _ _ _ _] = _
    rw [e1]
    unfold kobj
    rw [swapL_length]
  refine an_run2 16 23 ?_ ?_
  · refine ldrA 1 (kCell hj) ?_
    refine aH hL ?_
    refine an_run1 23 ?_
    refine ldrA 1 (kCell hi) ?_
    refine aH hL ?_
    exact an_use T ()
  · refine ldrA 1 (kCell hi) ?_
    refine aH hL ?_
    refine an_run1 16 ?_
    refine ldrA 1 (kCell hj) ?_
    refine aH hL ?_
    exact an_use T ()
end Go.Hog
