/- S13 H4 H2 H3, in one text. -/
import Derived.Test.YtnjaclggjmfkfaaMF
import Derived.Test.YtnjaclggjmfkfaaMD
set_option linter.unusedVariables false
set_option linter.unusedSimpArgs false
set_option linter.unusedSectionVars false
namespace Go.Hog
section
variable {α : Type} [Inhabited α] {lt : α → α → Prop} [DecidableRel lt]
/-- A heap from place i0 on. -/
def HpB (lt : α → α → Prop) (n i0 : Nat) (l : List α) : Prop := ∀ k, 0 < k → k < n → i0 ≤ (k - 1) / 2 → ¬ lt (at_ l k) (at_ l ((k - 1) / 2))
theorem HpB.zero {n : Nat} {l : List α} (h : HpB lt n 0 l) : Hp lt n l := fun k hk hl => h k hk hl (Nat.zero_le _)
structure DnB (lt : α → α → Prop) (n i0 : Nat) (l : List α) (i : Nat) : Prop where
  lo : i0 ≤ i
  a : ∀ k, 0 < k → k < n → i0 ≤ (k - 1) / 2 → (k - 1) / 2 ≠ i → ¬ lt (at_ l k) (at_ l ((k - 1) / 2))
  b : ∀ k, 0 < k → k < n → (k - 1) / 2 = i → 0 < i → i0 ≤ (i - 1) / 2 → ¬ lt (at_ l k) (at_ l ((i - 1) / 2))
theorem DnB.start {n i0 : Nat} {l : List α} (h : HpB lt n (i0 + 1) l) : DnB lt n i0 l i0 :=
  ⟨Nat.le_refl _, fun k hk hl h1 h2 => h k hk hl (by omega), fun k hk hl h1 h2 h3 => by omega⟩
theorem DnB.leaf {n i0 : Nat} {l : List α} {i : Nat} (h : DnB lt n i0 l i) (hn : n ≤ 2 * i + 1) : HpB lt n i0 l := fun k hk hl h1 => h.a k hk hl h1 (by omega)
theorem DnB.stop (so : SO lt) {n i0 : Nat} {l : List α} {i j : Nat} (h : DnB lt n i0 l i) (hj : LeastC lt n l i j) (hn : ¬ lt (at_ l j) (at_ l i)) : HpB lt n i0 l := fun k hk hl h1 => by
  by_cases e : (k - 1) / 2 = i
  · rw [e]; exact so.ntrans (hj.least k hk hl e) hn
  · exact h.a k hk hl h1 e
theorem DnB.step (so : SO lt) {n i0 : Nat} {l : List α} {i j : Nat} (hn : n ≤ l.length) (h : DnB lt n i0 l i) (hj : LeastC lt n l i j) (hlt : lt (at_ l j) (at_ l i)) : DnB lt n i0 (swapL l i j) j := by
  have h1 := hj.lo; have h2 := hj.up; have h3 := hj.lt_
  have h4 := h.lo
  have hpj : (j - 1) / 2 = i := by omega
  have hil : i < l.length := by omega
  have hjl : j < l.length := by omega
  refine ⟨by omega, fun k hk hl h0 hpk => ?_, fun k hk hl hpk hj0 h0 => ?_⟩
  · rw [swapL_at hil hjl (by omega), swapL_at hil hjl (by omega)]
    rw [if_neg hpk]
    by_cases e1 : k = j
    · subst e1
      rw [if_pos rfl, if_pos hpj]
      exact so.asym hlt
    · rw [if_neg e1]
      by_cases e2 : k = i
      · subst e2
        rw [if_pos rfl, if_neg (by omega)]
        exact h.b j (by omega) h3 hpj hk h0
      · rw [if_neg e2]
        by_cases e3 : (k - 1) / 2 = i
        · rw [if_pos e3]
          exact hj.least k hk hl e3
        · rw [if_neg e3]
          exact h.a k hk hl h0 e3
  · rw [swapL_at hil hjl (by omega), swapL_at hil hjl (by omega)]
    rw [if_neg (by omega), if_neg (by omega), hpj, if_neg (by omega), if_pos rfl]
    have := h.a k hk hl (by omega) (by omega)
    rwa [hpk] at this
end
end Go.Hog

set_option linter.unusedVariables false
set_option linter.unusedSimpArgs false
set_option maxRecDepth 100000
set_option maxHeartbeats 1000000
namespace Go.Hog
open Go.RowKit Rp Go.Proofs
section
variable {α : Type} [Inhabited α] {lt : α → α → Prop} [DecidableRel lt] {rv : Value} {enc : α → Value} {ok : α → Prop} {obj : List α → Option Addr → Nat → List HE}
theorem heapDownB (H : HeapC lt rv enc ok obj) {w : World} {f : View} {l : List α} {A : Option Addr} {c n i0 : Nat} (hn : n ≤ l.length) (hlim : l.length ≤ 1000000) (hi0 : i0 ≤ n) (hu : DnB lt n i0 l i0) (hv : On f w) (hg : Given f (obj l A c) w) :
    Con Try.prog 45 [rv, i64 (i0 : Nat), i64 n] w (RetM w f (obj l A c) fun g L' v => ∃ l', L' = obj l' A c ∧ HpB lt n i0 l' ∧ l'.Perm l ∧ ∀ k, n ≤ k → at_ l' k = at_ l k) := by
  refine enterM hv hg Try.call45 Try.func45 ?_
  refine sgE ?_
  refine sgE ?_
  refine bkJ (σ := List α × Nat × View) (fun s => [(7, i64 s.2.1), (1, i64 (i0 : Nat))]) (fun s => s.2.2) (fun s => obj s.1 A c) (fun s => s.2.1 ≤ n ∧ HpB lt n i0 s.1 ∧ s.1.Perm l ∧ ∀ k, n ≤ k → at_ s.1 k = at_ l k) ?_ ?_
  case refine_2 =>
    rintro ⟨l1, i1, f1⟩ ρ ⟨h0, h1, h2, h3⟩
    refine sg ?_
    refine gtE (fun h => ?_) (fun h => ?_)
    · refine ew_ret ?_
      exact ret1M ⟨l1, rfl, h1, h2, h3⟩
    · refine ew_ret ?_
      exact ret1M ⟨l1, rfl, h1, h2, h3⟩
  refine lp (σ := List α × Nat × View) (fun s => [(7, i64 s.2.1), (2, i64 n), (1, i64 (i0 : Nat)), (0, rv)]) (fun s => s.2.2) (fun s => obj s.1 A c) (fun s => s.2.1 ≤ n ∧ DnB lt n i0 s.1 s.2.1 ∧ s.1.Perm l ∧ ∀ k, n ≤ k → at_ s.1 k = at_ l k) (fun s => n - s.2.1) (l, i0, f) ⟨hi0, hu, List.Perm.refl _, fun _ _ => rfl⟩ ?_
  rintro ⟨l1, i1, f1⟩ ρ ⟨h1, h2, h3, h4⟩
  replace h1 : i1 ≤ n := h1
  replace h2 : DnB lt n i0 l1 i1 := h2
  replace h3 : l1.Perm l := h3
  replace h4 : ∀ k, n ≤ k → at_ l1 k = at_ l k := h4
  have hlen := h3.length_eq
  show EW _ _ _ _ _ (ups ρ [(7, i64 i1), (2, i64 n), (1, i64 (i0 : Nat)), (0, rv)]) f1 (obj l1 A c)
  refine bk (sg ?_)
  refine mul ((2 * i1 : Nat) : Int) ?_
  refine addE ((2 * i1 + 1 : Nat) : Int) ?_
  refine sq (sg ?_)
  refine ge (fun h => ?_) (fun h => ?_)
  · refine runE ?_
    refine cTx ?_
    exact jn (l1, i1, f1) ⟨h1, h2.leaf (by omega), h3, h4⟩
  refine Go.Hog.ltE (fun h5 => ?_) (fun h5 => ?_)
  · omega
  refine cFs (sgE ?_)
  have hj1 : 2 * i1 + 1 < n := by omega
  refine sqJ (σ := Nat × View) (fun s => [(9, i64 s.1), (7, i64 i1), (2, i64 n), (1, i64 (i0 : Nat)), (0, rv)]) (fun s => s.2) (fun s => obj l1 A c) (fun s => LeastC lt n l1 i1 s.1) ?_ ?_
  · refine sg ?_
    refine addE ((2 * i1 + 2 : Nat) : Int) ?_
    refine sg ?_
    refine Go.Hog.lt (fun h => ?_) (fun h => ?_)
    · refine inv0 (obj l1 A c) (fun w hon hgi => H.less (i := 2 * i1 + 2) (j := 2 * i1 + 1) (by omega) (by omega) (by omega) hon hgi) (fun v g L' hs hR => ?_)
      obtain ⟨rfl, rfl⟩ := hR
      by_cases hl : lt (at_ l1 (2 * i1 + 2)) (at_ l1 (2 * i1 + 1))
      · rw [decide_eq_true hl]
        refine runE ?_
        refine cT (rgE ?_)
        refine jn (2 * i1 + 2, g) ⟨by show _ ≤ 2 * i1 + 2; omega, Nat.le_refl _, by show 2 * i1 + 2 < n; omega, fun k hk hkn hpk => ?_⟩
        by_cases e : k = 2 * i1 + 2
        · subst e; exact H.irr _
        · have : k = 2 * i1 + 1 := by omega
          subst this
          exact H.so.asym hl
      · rw [decide_eq_false hl]
        refine runE ?_
        refine cFs ?_
        refine jn (2 * i1 + 1, g) ⟨Nat.le_refl _, by show 2 * i1 + 1 ≤ _; omega, hj1, fun k hk hkn hpk => ?_⟩
        by_cases e : k = 2 * i1 + 1
        · subst e; exact H.irr _
        · have : k = 2 * i1 + 2 := by omega
          subst this
          exact hl
    · refine runE ?_
      refine cFs ?_
      refine jn (2 * i1 + 1, f1) ⟨Nat.le_refl _, by show 2 * i1 + 1 ≤ _; omega, hj1, fun k hk hkn hpk => ?_⟩
      have : k = 2 * i1 + 1 := by omega
      subst this
      exact H.irr _
  rintro ⟨j, f2⟩ ρ hj
  replace hj : LeastC lt n l1 i1 j := hj
  have hjlo := hj.lo; have hjup := hj.up; have hjlt := hj.lt_
  show EW _ _ _ _ _ (ups ρ [(9, i64 j), (7, i64 i1), (2, i64 n), (1, i64 (i0 : Nat)), (0, rv)]) f2 (obj l1 A c)
  refine sq (sg ?_)
  refine inv0 (obj l1 A c) (fun w hon hgi => H.less (i := j) (j := i1) (by omega) (by omega) (by omega) hon hgi) (fun v g L' hs hR => ?_)
  obtain ⟨rfl, rfl⟩ := hR
  by_cases hl : lt (at_ l1 j) (at_ l1 i1)
  · rw [decide_eq_true hl]
    refine runE ?_
    refine cFs (sg ?_)
    refine inv0 (obj l1 A c) (fun w hon hgi => H.swap (i := i1) (j := j) (by omega) (by omega) (by omega) hon hgi) (fun v g2 L' hs2 hR => ?_)
    subst hR
    refine runE ?_
    refine rgE ?_
    refine nxs (swapL l1 i1 j, j, g2) ⟨by show j ≤ n; omega, h2.step H.so (by omega) hj hl, (swapL_perm (by omega) (by omega)).trans h3, fun k hk => ?_⟩ (by show n - j < n - i1; omega)
    by_cases hkl : k < l1.length
    · show at_ (swapL l1 i1 j) k = _
      rw [swapL_at (by omega) (by omega) hkl, if_neg (by omega), if_neg (by omega)]
      exact h4 k hk
    · rw [← h4 k hk]
      show at_ (swapL l1 i1 j) k = at_ l1 k
      simp only [at_, List.getD_eq_getElem?_getD]
      rw [List.getElem?_eq_none (by rw [swapL_length]; omega), List.getElem?_eq_none (by omega)]
  · rw [decide_eq_false hl]
    refine runE ?_
    refine cTx ?_
    exact jn (l1, i1, g) ⟨h1, h2.stop H.so hj hl, h3, h4⟩

theorem heapInit (H : HeapC lt rv enc ok obj) {w : World} {f : View} {l : List α} {A : Option Addr} {c : Nat} (hlim : l.length ≤ 1000000) (hv : On f w) (hg : Given f (obj l A c) w) :
    Con Try.prog 37 [rv] w (RetM w f (obj l A c) fun g L' v => ∃ l', L' = obj l' A c ∧ Hp lt l'.length l' ∧ l'.Perm l) := by
  refine enterM hv hg Try.call37 Try.func37 ?_
  refine sg ?_
  refine inv0 (obj l A c) (fun w hon hgi => H.len hon hgi) (fun v g L' hs hR => ?_)
  obtain ⟨rfl, rfl⟩ := hR
  refine runE ?_
  refine sg ?_
  have hb2 : (2 : Int) ≠ 0 := by decide
  have hq2 : ((l.length : Nat) : Int).tdiv 2 = ((l.length / 2 : Nat) : Int) ∧ -9223372036854775808 ≤ ((l.length / 2 : Nat) : Int) ∧ ((l.length / 2 : Nat) : Int) ≤ 9223372036854775807 := by
    rw [Int.tdiv_eq_ediv_of_nonneg (by omega)]
    omega
  refine quo ((l.length / 2 : Nat) : Int) hb2 hq2 ?_
  refine subE (((l.length / 2 : Nat) : Int) - 1) ?_
  refine bk ?_
  refine lp (σ := Nat × List α × View) (fun s => [(3, i64 ((s.1 : Int) - 1)), (2, i64 (l.length : Nat)), (0, rv)]) (fun s => s.2.2) (fun s => obj s.2.1 A c) (fun s => s.1 ≤ l.length ∧ HpB lt l.length s.1 s.2.1 ∧ s.2.1.Perm l) (fun s => s.1) (l.length / 2, l, g) ⟨by show l.length / 2 ≤ l.length; omega, fun k hk hl h => by change l.length / 2 ≤ (k - 1) / 2 at h; omega, List.Perm.refl _⟩ ?_
  rintro ⟨i, l1, f1⟩ ρ ⟨h1, h2, h3⟩
  replace h1 : i ≤ l.length := h1
  replace h2 : HpB lt l.length i l1 := h2
  replace h3 : l1.Perm l := h3
  have hlen := h3.length_eq
  show EW _ _ _ _ _ (ups ρ [(3, i64 ((i : Int) - 1)), (2, i64 (l.length : Nat)), (0, rv)]) f1 (obj l1 A c)
  refine sq (sg ?_)
  refine geE (fun h => ?_) (fun h => ?_)
  case refine_2 =>
    refine cFx ?_
    have e : i = 0 := by omega
    subst e
    exact ret0M ⟨l1, rfl, by rw [hlen]; exact h2.zero, h3⟩
  obtain ⟨i0, rfl⟩ : ∃ i0, i = i0 + 1 := ⟨i - 1, by omega⟩
  have e1 : ((i0 + 1 : Nat) : Int) - 1 = (i0 : Nat) := by omega
  have hn1 : l.length ≤ l1.length := by omega
  have hl1 : l1.length ≤ 1000000 := by omega
  have hi0 : i0 ≤ l.length := by omega
  rw [e1]
  refine cTs (sq (bk (rg ?_)))
  refine callM0 (vs := [rv, i64 (i0 : Nat), i64 (l.length : Nat)]) (obj l1 A c) (fun w hon hgi => heapDownB H hn1 hl1 hi0 (DnB.start h2) hon hgi) (fun v g2 L' hs2 hR => ?_)
  obtain ⟨l2, rfl, h5, h6, _⟩ := hR
  refine runE ?_
  refine rg ?_
  refine subE ((i0 : Int) - 1) ?_
  exact nxs (i0, l2, g2) ⟨hi0, h5, h6.trans h3⟩ (by show i0 < i0 + 1; omega)
end
end Go.Hog

set_option linter.unusedVariables false
set_option linter.unusedSimpArgs false
set_option maxRecDepth 100000
namespace Go.Hog
open Go.RowKit Rp Go.Proofs

section
variable {P : Program}
def methP (P : Program) (T : TypeId) (name : String) : Option (FuncId × Bool) := (P.info? T).bind fun i => (i.methods.find? (·.name == name)).bind fun m => match m.path with | ⟨[]⟩ => m.func | _ => none
theorem methP_spec {T : TypeId} {name : String} {r : FuncId × Bool} (h : methP P T name = some r) : ∃ i m, P.info? T = some i ∧ i.methods.find? (·.name == name) = some m ∧ m.path = #[] ∧ m.func = some r := by
  unfold methP at h
  obtain ⟨i, h1, h⟩ := Option.bind_eq_some_iff.1 h
  obtain ⟨m, h2, h⟩ := Option.bind_eq_some_iff.1 h
  split at h
  · rename_i h3
    exact ⟨i, m, h1, h2, h3, h⟩
  · cases h
theorem run_meth_ptr {T e : TypeId} {name : String} {k : FuncId} {v : Value} {args : Array Value} {w : World} (hm : methP P T name = some (k, true)) (hT : P.underlying T = some (.pointer e)) (hcf : ∀ args w, (callFunc k args).run P w = .ok (.enter k args) w) :
    (callMethod (.iface T v) name args).run P w = .ok (.enter k (#[v] ++ args)) w := by
  obtain ⟨i, m, h1, h2, h3, h4⟩ := methP_spec hm
  unfold callMethod
  have hf : ∀ fuel, (method (fuel + 1) T v name).run P w = .ok (k, v) w := fun fuel => by
    unfold method
    simp only [Sem.run_bind, run_info h1, Result.andThen_ok, h2, h3, follow, Sem.run_pure, h4]
    simp [receiverAt, run_und hT, Place.get]
  have hp : (program).run P w = .ok P w := by simp [program, Sem.run]
  simp only [Sem.run_bind, hp, Result.andThen_ok]
  rw [show P.types.size + Made.depth = (P.types.size + 99) + 1 from rfl, hf]
  simp only [Result.andThen_ok, hcf]
theorem wrapNil (ts : Array TypeId) (t : TypeId) (a : Addr) (x y : String) : Builtin.ssaWrapNilChk_ ts t #[.pointer (some a), strVal x, strVal y] = pure (.pointer (some a)) := rfl
theorem run_meth_val {T e : TypeId} {name : String} {k : FuncId} {b : Nat} {v : Value} {args : Array Value} {w : World} (hm : methP P T name = some (k, false)) (hT : P.underlying T = some (.pointer e)) (ha : aggT P e = some false) (hc : w.cell? ⟨b, 0, none⟩ = some v) (hcf : ∀ args w, (callFunc k args).run P w = .ok (.enter k args) w) :
    (callMethod (.iface T (.pointer (some ⟨b, 0, none⟩))) name args).run P w = .ok (.enter k (#[v] ++ args)) w := by
  obtain ⟨i, m, h1, h2, h3, h4⟩ := methP_spec hm
  unfold callMethod
  have hf : ∀ fuel, (method (fuel + 1) T (.pointer (some ⟨b, 0, none⟩)) name).run P w = .ok (k, v) w := fun fuel => by
    unfold method
    simp only [Sem.run_bind, run_info h1, Result.andThen_ok, h2, h3, follow, Sem.run_pure, h4]
    have hl := run_loadVar1 (P := P) ha hc
    simp [receiverAt, run_und hT, Place.get, wrapNil, asAddr, hl]
  have hp : (program).run P w = .ok P w := by simp [program, Sem.run]
  simp only [Sem.run_bind, hp, Result.andThen_ok]
  rw [show P.types.size + Made.depth = (P.types.size + 99) + 1 from rfl, hf]
  simp only [Result.andThen_ok, hcf]
end
theorem putL_one : ∀ (xs : List Value) (o : Nat) (v : Value), o < xs.length → putL xs o [v] = xs.set o v
  | [], o, v, h => by simp at h
  | x :: xs, 0, v, h => by cases xs <;> rfl
  | x :: xs, o + 1, v, h => by
    simp only [putL, List.set_cons_succ]
    rw [putL_one xs o v (by simpa using h)]
theorem putL_str (l : List Str) (o : Nat) (s : Str) (h : o < l.length) : putL (l.map str) o [str s] = (l.set o s).map str := by
  rw [putL_one _ _ _ (by simpa using h), List.map_set]
end Go.Hog

set_option linter.unusedVariables false
set_option linter.unusedSimpArgs false
set_option maxRecDepth 100000
namespace Go.Hog
open Go.RowKit Rp Go.Proofs
def sobj (b : Nat) (l : List Str) (A : Option Addr) (c : Nat) : List HE := [.blk b (.cells ⟨[.slice A l.length c]⟩ 68), .row A l.length c 9 1 (l.map str)]
def srv (b : Nat) : Value := .iface 70 (.pointer (some ⟨b, 0, none⟩))
theorem sobj_cell {b : Nat} {l : List Str} {A : Option Addr} {c : Nat} {f : View} {w : World} (h : Given f (sobj b l A c) w) : w.cell? ⟨b, 0, none⟩ = some (.slice A l.length c) := by
  have h1 : w.heap[b]? = some (.cells ⟨[.slice A l.length c]⟩ 68) := h.own (.blk b _) (by simp [sobj])
  exact blk_cell h1 (by rfl)
theorem restLen {b : Nat} {l : List Str} {A : Option Addr} {c : Nat} {f : View} {w : World} (hv : On f w) (hg : Given f (sobj b l A c) w) :
    Con Try.prog 38 [.slice A l.length c] w (RetM w f (sobj b l A c) fun g L' v => L' = sobj b l A c ∧ v = i64 l.length) := by
  refine enterM hv hg Try.call38 Try.func38 ?_
  refine sgE ?_
  refine sgE ?_
  refine ew_ret ?_
  exact ret1M ⟨rfl, rfl⟩
theorem restLess {b : Nat} {l : List Str} {A : Option Addr} {c : Nat} {f : View} {w : World} {i j : Nat} (hi : i < l.length) (hj : j < l.length) (hlim : l.length ≤ 1000000) (hv : On f w) (hg : Given f (sobj b l A c) w) :
    Con Try.prog 95 [.slice A l.length c, i64 i, i64 j] w (RetM w f (sobj b l A c) fun g L' v => L' = sobj b l A c ∧ v = .bool (decide (at_ l i < at_ l j))) := by
  refine enterM hv hg Try.call95 Try.func95 ?_
  refine sgE ?_
  refine erowF 1 fun hrow => ?_
  obtain ⟨g, rfl⟩ := hrow.2.2.2.1 (by omega)
  have hc : ∀ k, k < l.length → (l.map str)[0 + k * 1]? = some (str (at_ l k)) := fun k hk => by simp [at_get hk, hk]
  refine sQ ?_
  refine ix i hi ?_
  refine ldr 1 (hc i hi) ?_
  refine ix j hj ?_
  refine ldr 1 (hc j hj) ?_
  refine ltSE (fun h => ?_) (fun h => ?_)
  · refine ew_ret ?_
    exact ret1M ⟨rfl, bT h⟩
  · refine ew_ret ?_
    exact ret1M ⟨rfl, bF h⟩
theorem restSwap {b : Nat} {l : List Str} {A : Option Addr} {c : Nat} {f : View} {w : World} {i j : Nat} (hi : i < l.length) (hj : j < l.length) (hlim : l.length ≤ 1000000) (hv : On f w) (hg : Given f (sobj b l A c) w) :
    Con Try.prog 96 [.slice A l.length c, i64 i, i64 j] w (RetM w f (sobj b l A c) fun g L' v => L' = sobj b (swapL l i j) A c) := by
  refine enterM hv hg Try.call96 Try.func96 ?_
  refine erowF 1 fun hrow => ?_
  obtain ⟨g, rfl⟩ := hrow.2.2.2.1 (by omega)
  have hc : ∀ k, k < l.length → (l.map str)[0 + k * 1]? = some (str (at_ l k)) := fun k hk => by simp [at_get hk, hk]
  refine ew_draw 12 _ (List.Sublist.refl _) mixed (by kernel_rfl) ?_
  refine ix j hj ?_
  refine ldr 1 (hc j hj) ?_
  refine ix i hi ?_
  refine ldrE 1 (hc i hi) ?_
  refine tk ?_
  refine ix i hi ?_
  refine hn0 ?_
  refine tk ?_
  refine stR 1 (o := 0 + i * 1) (vs := [str (at_ l j)]) (xs := l.map str) (by simp; omega) ?_
  refine hn0 ?_
  refine tk ?_
  refine ix j hj ?_
  refine hn0 ?_
  refine tk ?_
  refine stR 1 (o := 0 + j * 1) (vs := [str (at_ l i)]) (xs := putL (l.map str) (0 + i * 1) [str (at_ l j)]) (by rw [putL_length _ _ _ (by simp; omega)]; simp; omega) ?_
  refine hn0 ?_
  refine tkE ?_
  refine ret0M ?_
  have e1 : putL (putL (l.map str) (0 + i * 1) [str (at_ l j)]) (0 + j * 1) [str (at_ l i)] = (swapL l i j).map str := by
    rw [show 0 + i * 1 = i by omega, show 0 + j * 1 = j by omega, putL_str _ _ _ hi, putL_str _ _ _ (by simpa using hj)]
    rfl
  show [HE.blk b _, HE.row _ _ _ _ _ _] = _
  rw [e1]
  unfold sobj
  rw [swapL_length]
theorem sobj_snoc {b : Nat} {l : List Str} {x : Str} {A : Option Addr} {c : Nat} : [HE.blk b (.cells ⟨[.slice A (l.length + 1) c]⟩ 68), .row A (l.length + 1) c 9 1 (l.map str ++ [str x])] = sobj b (l ++ [x]) A c := by simp [sobj]
theorem restPush {b : Nat} {l : List Str} {A : Option Addr} {c : Nat} {f : View} {w : World} {x : Str} (hlim : l.length < 1000000) (hv : On f w) (hg : Given f (sobj b l A c) w) :
    Con Try.prog 98 [.pointer (some ⟨b, 0, none⟩), .iface 9 (str x)] w (RetM w f (sobj b l A c) fun g L' v => ∃ A' c', L' = sobj b (l ++ [x]) A' c') := by
  refine enterM hv hg Try.call98 Try.func98 ?_
  refine ew_draw 6 [.blk b (.cells ⟨[.slice A l.length c]⟩ 68)] (by simp [sobj]) mixed (by kernel_rfl) ?_
  refine ldo 0 ?_
  refine runE ?_
  refine tk ?_
  refine bsl fun b2 => ?_
  refine hn ⟨Sub.refl _, by simp [sobj]⟩ ?_
  refine tk ?_
  refine app 1 (fun A' c' => ?_) (hlim := by show (l.length + 1) * 16 ≤ _; omega)
  refine hn ⟨Sub.refl _, fun e he => (List.mem_singleton.1 he) ▸ List.Mem.head _⟩ ?_
  refine hp ?_
  refine tk ?_
  refine st 0 ?_
  refine hn0 ?_
  refine tkE ?_
  refine ret0M ⟨A', c', ?_⟩
  exact sobj_snoc
theorem sobj_pop {b : Nat} {l : List Str} {A : Option Addr} {c : Nat} : [HE.blk b (.cells ⟨[.slice A (l.length - 1) c]⟩ 68), .row A (l.length - 1) c 9 1 ((l.map str).take ((l.length - 1) * 1))] = sobj b l.dropLast A c := by
  unfold sobj
  rw [Nat.mul_one, ← List.map_take, ← List.dropLast_eq_take, List.length_dropLast]
theorem restPop {b : Nat} {l : List Str} {A : Option Addr} {c : Nat} {f : View} {w : World} (h0 : 0 < l.length) (hlim : l.length ≤ 1000000) (hv : On f w) (hg : Given f (sobj b l A c) w) :
    Con Try.prog 97 [.pointer (some ⟨b, 0, none⟩)] w (RetM w f (sobj b l A c) fun g L' v => L' = sobj b l.dropLast A c ∧ v = .iface 9 (str (at_ l (l.length - 1)))) := by
  refine enterM hv hg Try.call97 Try.func97 ?_
  refine sgE ?_
  refine erowF 1 fun hrow => ?_
  obtain ⟨g, rfl⟩ := hrow.2.2.2.1 (by omega)
  have hc : ∀ k, k < l.length → (l.map str)[0 + k * 1]? = some (str (at_ l k)) := fun k hk => by simp [at_get hk, hk]
  refine sg ?_
  refine ldoE 0 ?_
  refine sg ?_
  refine sub ((l.length - 1 : Nat) : Int) ?_
  refine ix (l.length - 1) (show l.length - 1 < l.length by omega) ?_
  refine ldrE 1 (hc (l.length - 1) (by omega)) ?_
  refine sg ?_
  refine sub ((l.length - 1 : Nat) : Int) ?_
  refine slH (l.length - 1) (show l.length - 1 ≤ c by omega) ?_
  refine stE 0 ?_
  refine ercut 1 (l.length - 1) (Nat.sub_le l.length 1) ?_
  refine sgE ?_
  refine ew_ret ?_
  refine ret1M ⟨?_, rfl⟩
  exact sobj_pop
theorem restC (b : Nat) : HeapC (fun x y : Str => x < y) (srv b) (fun s => .iface 9 (str s)) (fun _ => True) (sobj b) where
  so := ⟨fun h => List.lt_asymm h, fun h1 h2 => List.lt_trans h1 h2, fun {a b c} h1 h2 h3 => by
    have h1' : b ≤ a := h1
    have h2' : c ≤ b := h2
    exact (List.le_trans h2' h1') h3⟩
  irr := fun a => List.lt_irrefl a
  len := fun hv hg => ⟨_, _, run_meth_val (e := 68) (by kernel_rfl) (by kernel_rfl) (by kernel_rfl) (sobj_cell hg) (restLen hv hg).1, (restLen hv hg).2⟩
  less := fun hi hj hl hv hg => ⟨_, _, run_meth_val (e := 68) (by kernel_rfl) (by kernel_rfl) (by kernel_rfl) (sobj_cell hg) (restLess hi hj hl hv hg).1, (restLess hi hj hl hv hg).2⟩
  swap := fun hi hj hl hv hg => ⟨_, _, run_meth_val (e := 68) (by kernel_rfl) (by kernel_rfl) (by kernel_rfl) (sobj_cell hg) (restSwap hi hj hl hv hg).1, (restSwap hi hj hl hv hg).2⟩
  push := fun {l A c w f x} _ hl hv hg => ⟨_, _, run_meth_ptr (e := 68) (by kernel_rfl) (by kernel_rfl) (restPush (x := x) hl hv hg).1, (restPush (x := x) hl hv hg).2⟩
  pop := fun h0 hl hv hg => ⟨_, _, run_meth_ptr (e := 68) (by kernel_rfl) (by kernel_rfl) (restPop h0 hl hv hg).1, (restPop h0 hl hv hg).2⟩
def pushSR (b : Nat) (x : Str) (l : List Str) (_ : View) (L' : List HE) (_ : Value) : Prop := ∃ l' A' c', L' = sobj b l' A' c' ∧ Hp (fun x y : Str => x < y) l'.length l' ∧ l'.Perm (x :: l)
theorem pushRest {b : Nat} {l : List Str} {A : Option Addr} {c : Nat} {f : View} {w : World} {x : Str} (hlim : l.length < 1000000) (hh : Hp (fun x y : Str => x < y) l.length l) (hv : On f w) (hg : Given f (sobj b l A c) w) :
    Con Try.prog 31 [srv b, .iface 9 (str x)] w (RetM w f (sobj b l A c) (pushSR b x l)) := heapPush (restC b) (x := x) trivial hlim hh hv hg
def popSR (b : Nat) (l : List Str) (A : Option Addr) (c : Nat) (_ : View) (L' : List HE) (v : Value) : Prop := ∃ x l', v = .iface 9 (str x) ∧ L' = sobj b l' A c ∧ Hp (fun x y : Str => x < y) l'.length l' ∧ l.Perm (x :: l') ∧ ∀ y ∈ l, ¬ y < x
theorem popRest {b : Nat} {l : List Str} {A : Option Addr} {c : Nat} {f : View} {w : World} (h0 : 0 < l.length) (hlim : l.length ≤ 1000000) (hh : Hp (fun x y : Str => x < y) l.length l) (hv : On f w) (hg : Given f (sobj b l A c) w) :
    Con Try.prog 33 [srv b] w (RetM w f (sobj b l A c) (popSR b l A c)) := heapPop (restC b) h0 hlim hh hv hg
def lenSR (b : Nat) (l : List Str) (A : Option Addr) (c : Nat) (_ : View) (L' : List HE) (v : Value) : Prop := L' = sobj b l A c ∧ v = i64 l.length
theorem lenRest {b : Nat} {l : List Str} {A : Option Addr} {c : Nat} {f : View} {w : World} (hv : On f w) (hg : Given f (sobj b l A c) w) :
    Con Try.prog 38 [.slice A l.length c] w (RetM w f (sobj b l A c) (lenSR b l A c)) := restLen hv hg
end Go.Hog
