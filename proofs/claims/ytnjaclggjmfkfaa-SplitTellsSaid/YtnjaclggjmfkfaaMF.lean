/- S2 H1, in one text. -/
import Derived.Test.YtnjaclggjmfkfaaS1
import Derived.Test.YtnjaclggjmfkfaaF1
import Derived.Test.YtnjaclggjmfkfaaME
set_option linter.unusedVariables false
namespace Go.Hog
section
variable {α : Type} [Inhabited α] {lt : α → α → Prop}
def at_ (l : List α) (k : Nat) : α := l.getD k default
def swapL (l : List α) (i j : Nat) : List α := (l.set i (at_ l j)).set j (at_ l i)
theorem at_get {l : List α} {k : Nat} (h : k < l.length) : at_ l k = l[k] := by simp [at_, h]
theorem swapL_length (l : List α) (i j : Nat) : (swapL l i j).length = l.length := by simp [swapL]
theorem swapL_at {l : List α} {i j k : Nat} (hi : i < l.length) (hj : j < l.length) (hk : k < l.length) : at_ (swapL l i j) k = if k = j then at_ l i else if k = i then at_ l j else at_ l k := by
  rw [at_get (by rw [swapL_length]; exact hk)]
  simp only [swapL, List.getElem_set]
  by_cases h1 : j = k
  · subst h1; simp
  · rw [if_neg h1, if_neg (Ne.symm h1)]
    by_cases h2 : i = k
    · subst h2; simp
    · rw [if_neg h2, if_neg (Ne.symm h2), at_get hk]
theorem swapL_perm {l : List α} {i j : Nat} (hi : i < l.length) (hj : j < l.length) : (swapL l i j).Perm l := by
  have h := Array.swap_perm (xs := l.toArray) (i := i) (j := j) (by simpa using hi) (by simpa using hj)
  have h2 := h.toList
  simp only [Array.swap] at h2
  simpa [swapL, at_get hi, at_get hj] using h2
structure SO (lt : α → α → Prop) : Prop where
  asym : ∀ {a b}, lt a b → ¬ lt b a
  trans : ∀ {a b c}, lt a b → lt b c → lt a c
  ntrans : ∀ {a b c}, ¬ lt a b → ¬ lt b c → ¬ lt a c
/-- A heap over the first n. -/
def Hp (lt : α → α → Prop) (n : Nat) (l : List α) : Prop := ∀ k, 0 < k → k < n → ¬ lt (at_ l k) (at_ l ((k - 1) / 2))
structure UpI (lt : α → α → Prop) (l : List α) (j : Nat) : Prop where
  a : ∀ k, 0 < k → k < l.length → k ≠ j → ¬ lt (at_ l k) (at_ l ((k - 1) / 2))
  b : ∀ k, 0 < k → k < l.length → (k - 1) / 2 = j → 0 < j → ¬ lt (at_ l k) (at_ l ((j - 1) / 2))
theorem UpI.zero {l : List α} (h : UpI lt l 0) : Hp lt l.length l := fun k hk hl => h.a k hk hl (by omega)
theorem UpI.stop {l : List α} {j : Nat} (h : UpI lt l j) (hn : ¬ lt (at_ l j) (at_ l ((j - 1) / 2))) : Hp lt l.length l := fun k hk hl => by
  by_cases e : k = j
  · subst e; exact hn
  · exact h.a k hk hl e
theorem UpI.step (so : SO lt) {l : List α} {j : Nat} (hj : j < l.length) (hj0 : 0 < j) (h : UpI lt l j) (hlt : lt (at_ l j) (at_ l ((j - 1) / 2))) : UpI lt (swapL l ((j - 1) / 2) j) ((j - 1) / 2) := by
  generalize hi : (j - 1) / 2 = i at *
  have hij : i < j := by omega
  have hil : i < l.length := by omega
  refine ⟨fun k hk hl hki => ?_, fun k hk hl hpk hi0 => ?_⟩
  · rw [swapL_length] at hl
    rw [swapL_at hil hj hl, swapL_at hil hj (by omega)]
    by_cases e1 : k = j
    · subst e1
      rw [if_pos rfl, hi, if_neg (by omega), if_pos rfl]
      exact so.asym hlt
    · rw [if_neg e1, if_neg hki]
      by_cases e2 : (k - 1) / 2 = j
      · rw [if_pos e2]
        have := h.b k hk hl e2 hj0
        rwa [hi] at this
      · rw [if_neg e2]
        by_cases e3 : (k - 1) / 2 = i
        · rw [if_pos e3]
          intro h4
          have := h.a k hk hl e1
          rw [e3] at this
          exact this (so.trans h4 hlt)
        · rw [if_neg e3]
          exact h.a k hk hl e1
  · rw [swapL_length] at hl
    rw [swapL_at hil hj hl, swapL_at hil hj (by omega)]
    rw [if_neg (by omega : ¬ (i - 1) / 2 = j), if_neg (by omega : ¬ (i - 1) / 2 = i)]
    by_cases e1 : k = j
    · subst e1
      rw [if_pos rfl]
      exact h.a i hi0 hil (by omega)
    · rw [if_neg e1, if_neg (by omega)]
      have h1 := h.a k hk hl e1
      rw [hpk] at h1
      exact so.ntrans h1 (h.a i hi0 hil (by omega))
theorem UpI.push {l : List α} {x : α} (h : Hp lt l.length l) : UpI lt (l ++ [x]) l.length := by
  have hat : ∀ k, k < l.length → at_ (l ++ [x]) k = at_ l k := fun k hk => by
    rw [at_get (by simp; omega), at_get hk, List.getElem_append_left hk]
  refine ⟨fun k hk hl hkl => ?_, fun k hk hl hp => ?_⟩
  · simp only [List.length_append, List.length_singleton] at hl
    rw [hat k (by omega), hat _ (by omega)]
    exact h k hk (by omega)
  · simp only [List.length_append, List.length_singleton] at hl
    omega
structure DnI (lt : α → α → Prop) (n : Nat) (l : List α) (i : Nat) : Prop where
  a : ∀ k, 0 < k → k < n → (k - 1) / 2 ≠ i → ¬ lt (at_ l k) (at_ l ((k - 1) / 2))
  b : ∀ k, 0 < k → k < n → (k - 1) / 2 = i → 0 < i → ¬ lt (at_ l k) (at_ l ((i - 1) / 2))
theorem DnI.leaf {n : Nat} {l : List α} {i : Nat} (h : DnI lt n l i) (hn : n ≤ 2 * i + 1) : Hp lt n l := fun k hk hl => h.a k hk hl (by omega)
/-- j is i's least child. -/
structure LeastC (lt : α → α → Prop) (n : Nat) (l : List α) (i j : Nat) : Prop where
  lo : 2 * i + 1 ≤ j
  up : j ≤ 2 * i + 2
  lt_ : j < n
  least : ∀ k, 0 < k → k < n → (k - 1) / 2 = i → ¬ lt (at_ l k) (at_ l j)
theorem DnI.stop (so : SO lt) {n : Nat} {l : List α} {i j : Nat} (h : DnI lt n l i) (hj : LeastC lt n l i j) (hn : ¬ lt (at_ l j) (at_ l i)) : Hp lt n l := fun k hk hl => by
  by_cases e : (k - 1) / 2 = i
  · rw [e]; exact so.ntrans (hj.least k hk hl e) hn
  · exact h.a k hk hl e
theorem DnI.step (so : SO lt) {n : Nat} {l : List α} {i j : Nat} (hn : n ≤ l.length) (h : DnI lt n l i) (hj : LeastC lt n l i j) (hlt : lt (at_ l j) (at_ l i)) : DnI lt n (swapL l i j) j := by
  have h1 := hj.lo; have h2 := hj.up; have h3 := hj.lt_
  have hpj : (j - 1) / 2 = i := by omega
  have hil : i < l.length := by omega
  have hjl : j < l.length := by omega
  refine ⟨fun k hk hl hpk => ?_, fun k hk hl hpk hj0 => ?_⟩
  · rw [swapL_at hil hjl (by omega), swapL_at hil hjl (by omega)]
    rw [if_neg hpk]
    by_cases e1 : k = j
    · subst e1
      rw [if_pos rfl, if_pos hpj]
      exact so.asym hlt
    · rw [if_neg e1]
      by_cases e2 : k = i
      · subst e2
        rw [if_pos rfl, if_neg (by omega)]
        exact h.b j (by omega) h3 hpj hk
      · rw [if_neg e2]
        by_cases e3 : (k - 1) / 2 = i
        · rw [if_pos e3]
          exact hj.least k hk hl e3
        · rw [if_neg e3]
          exact h.a k hk hl e3
  · rw [swapL_at hil hjl (by omega), swapL_at hil hjl (by omega)]
    rw [if_neg (by omega), if_neg (by omega), hpj, if_neg (by omega), if_pos rfl]
    have := h.a k hk hl (by omega)
    rwa [hpk] at this
theorem Hp.top (so : SO lt) (hirr : ∀ a, ¬ lt a a) {n : Nat} {l : List α} (h : Hp lt n l) : ∀ k, k < n → ¬ lt (at_ l k) (at_ l 0) := by
  intro k
  induction k using Nat.strongRecOn with
  | _ k ih =>
    intro hk
    by_cases e : k = 0
    · subst e; exact hirr _
    · exact so.ntrans (h k (by omega) hk) (ih ((k - 1) / 2) (by omega) (by omega))
/-- The last one comes to the front, ahead of a 'down'. -/
theorem DnI.start {l : List α} {n : Nat} (hn : l.length = n + 1) (h : Hp lt l.length l) : DnI lt n (swapL l 0 n) 0 := by
  refine ⟨fun k hk hl hpk => ?_, fun k hk hl hp h0 => by omega⟩
  rw [swapL_at (by omega) (by omega) (by omega), swapL_at (by omega) (by omega) (by omega)]
  rw [if_neg (by omega), if_neg (by omega), if_neg (by omega), if_neg hpk]
  exact h k hk (by omega)
end
end Go.Hog

set_option linter.unusedVariables false
set_option linter.unusedSimpArgs false
set_option maxRecDepth 100000
set_option maxHeartbeats 1000000
namespace Go.Hog
open Go.RowKit Rp Go.Proofs

theorem enterM {k : Nat} {fn : Func} {c : Code} {vs : List Value} {w : World} {f : View} {L : List HE} {R : Ending → World → Prop} (hv : On f w) (hL : Given f L w) (hcf : ∀ args w, (callFunc k args).run Try.prog w = .ok (.enter k args) w) (hf : Try.prog.funcs[k]? = some fn)
    (h : EW Try.prog fn.ntmps ⟨w, f, fps L⟩ c (retQ Try.prog fn ⟨w, f, fps L⟩ R) (nthV vs) f L) (hb : fn.body = some c := by rfl)
    (hok : codeOk fn.ntmps c = true := by kernel_rfl) (hn : Nat.ble vs.length fn.ntmps = true := by rfl) : Con Try.prog k vs w R := ⟨hcf, enter hf hb hok hn hv hL h⟩
/-- What a heap's methods do. -/
structure HeapC {α : Type} [Inhabited α] (lt : α → α → Prop) [DecidableRel lt] (rv : Value) (enc : α → Value) (ok : α → Prop) (obj : List α → Option Addr → Nat → List HE) : Prop where
  so : SO lt
  irr : ∀ a, ¬ lt a a
  len : ∀ {l A c w f}, On f w → Given f (obj l A c) w → ConI Try.prog rv "Len" [] w (RetM w f (obj l A c) fun g L' v => L' = obj l A c ∧ v = i64 l.length)
  less : ∀ {l A c w f i j}, i < l.length → j < l.length → l.length ≤ 1000000 → On f w → Given f (obj l A c) w → ConI Try.prog rv "Less" [i64 (i : Nat), i64 (j : Nat)] w (RetM w f (obj l A c) fun g L' v => L' = obj l A c ∧ v = .bool (decide (lt (at_ l i) (at_ l j))))
  swap : ∀ {l A c w f i j}, i < l.length → j < l.length → l.length ≤ 1000000 → On f w → Given f (obj l A c) w → ConI Try.prog rv "Swap" [i64 (i : Nat), i64 (j : Nat)] w (RetM w f (obj l A c) fun g L' v => L' = obj (swapL l i j) A c)
  push : ∀ {l A c w f x}, ok x → l.length < 1000000 → On f w → Given f (obj l A c) w → ConI Try.prog rv "Push" [enc x] w (RetM w f (obj l A c) fun g L' v => ∃ A' c', L' = obj (l ++ [x]) A' c')
  pop : ∀ {l A c w f}, 0 < l.length → l.length ≤ 1000000 → On f w → Given f (obj l A c) w → ConI Try.prog rv "Pop" [] w (RetM w f (obj l A c) fun g L' v => L' = obj l.dropLast A c ∧ v = enc (at_ l (l.length - 1)))

section
variable {α : Type} [Inhabited α] {lt : α → α → Prop} [DecidableRel lt] {rv : Value} {enc : α → Value} {ok : α → Prop} {obj : List α → Option Addr → Nat → List HE}
theorem heapUp (H : HeapC lt rv enc ok obj) {w : World} {f : View} {l : List α} {A : Option Addr} {c j : Nat} (hj : j < l.length) (hlim : l.length ≤ 1000000) (hu : UpI lt l j) (hv : On f w) (hg : Given f (obj l A c) w) :
    Con Try.prog 44 [rv, i64 j] w (RetM w f (obj l A c) fun g L' v => ∃ l', L' = obj l' A c ∧ Hp lt l'.length l' ∧ l'.Perm l) := by
  refine enterM hv hg Try.call44 Try.func44 ?_
  refine bk ?_
  refine lp (σ := List α × Nat × View) (fun s => [(1, i64 s.2.1), (0, rv)]) (fun s => s.2.2) (fun s => obj s.1 A c) (fun s => s.2.1 < s.1.length ∧ UpI lt s.1 s.2.1 ∧ s.1.Perm l) (fun s => s.2.1) (l, j, f) ⟨hj, hu, List.Perm.refl _⟩ ?_
  rintro ⟨l1, j1, f1⟩ ρ ⟨h1, h2, h3⟩
  replace h1 : j1 < l1.length := h1
  replace h2 : UpI lt l1 j1 := h2
  replace h3 : l1.Perm l := h3
  have hlen := h3.length_eq
  show EW _ _ _ _ _ (ups ρ [(1, i64 j1), (0, rv)]) f1 (obj l1 A c)
  refine bk (sg ?_)
  refine sub ((j1 : Int) - 1) ?_
  have hq : ((j1 : Int) - 1).tdiv 2 = (((j1 - 1) / 2 : Nat) : Int) := by
    by_cases h0 : j1 = 0
    · subst h0; decide
    · rw [show (j1 : Int) - 1 = ((j1 - 1 : Nat) : Int) by omega, Int.tdiv_eq_ediv_of_nonneg (by omega)]
      omega
  refine quo (((j1 - 1) / 2 : Nat) : Int) (a := (j1 : Int) - 1) (b := 2) (by decide) ⟨hq, by omega, by omega⟩ ?_
  refine runE ?_
  refine sq (sg ?_)
  refine eqI (fun h => ?_) (fun h => ?_)
  · refine runE ?_
    refine cTx ?_
    have h0 : j1 = 0 := by omega
    subst h0
    exact ret0M ⟨l1, rfl, h2.zero, h3⟩
  · have hj0 : 0 < j1 := by
      rcases Nat.eq_zero_or_pos j1 with h0 | h0
      · subst h0; exact absurd rfl h
      · exact h0
    refine inv0 (obj l1 A c) (fun w hon hgi => H.less (i := j1) (j := (j1 - 1) / 2) h1 (by omega) (by omega) hon hgi) (fun v g L' hs hR => ?_)
    obtain ⟨rfl, rfl⟩ := hR
    by_cases hl : lt (at_ l1 j1) (at_ l1 ((j1 - 1) / 2))
    · rw [decide_eq_true hl]
      refine runE ?_
      refine cFs (sg ?_)
      refine inv0 (obj l1 A c) (fun w hon hgi => H.swap (i := (j1 - 1) / 2) (j := j1) (by omega) h1 (by omega) hon hgi) (fun v g2 L' hs2 hR => ?_)
      subst hR
      refine runE ?_
      refine rgE ?_
      exact nxs (swapL l1 ((j1 - 1) / 2) j1, (j1 - 1) / 2, g2) ⟨by rw [swapL_length]; show (j1 - 1) / 2 < _; omega, h2.step H.so h1 hj0 hl, (swapL_perm (by omega) h1).trans h3⟩ (by show (j1 - 1) / 2 < j1; omega)
    · rw [decide_eq_false hl]
      refine runE ?_
      refine cTx ?_
      exact ret0M ⟨l1, rfl, h2.stop hl, h3⟩
theorem heapDown (H : HeapC lt rv enc ok obj) {w : World} {f : View} {l : List α} {A : Option Addr} {c n : Nat} (hn : n ≤ l.length) (hlim : l.length ≤ 1000000) (hu : DnI lt n l 0) (hv : On f w) (hg : Given f (obj l A c) w) :
    Con Try.prog 45 [rv, i64 0, i64 n] w (RetM w f (obj l A c) fun g L' v => ∃ l', L' = obj l' A c ∧ Hp lt n l' ∧ l'.Perm l ∧ ∀ k, n ≤ k → at_ l' k = at_ l k) := by
  refine enterM hv hg Try.call45 Try.func45 ?_
  refine sgE ?_
  refine sgE ?_
  refine bkJ (σ := List α × Nat × View) (fun s => [(7, i64 s.2.1), (1, i64 0)]) (fun s => s.2.2) (fun s => obj s.1 A c) (fun s => s.2.1 ≤ n ∧ Hp lt n s.1 ∧ s.1.Perm l ∧ ∀ k, n ≤ k → at_ s.1 k = at_ l k) ?_ ?_
  case refine_2 =>
    rintro ⟨l1, i1, f1⟩ ρ ⟨h0, h1, h2, h3⟩
    refine sg ?_
    refine gtE (fun h => ?_) (fun h => ?_)
    · refine ew_ret ?_
      exact ret1M ⟨l1, rfl, h1, h2, h3⟩
    · refine ew_ret ?_
      exact ret1M ⟨l1, rfl, h1, h2, h3⟩
  refine lp (σ := List α × Nat × View) (fun s => [(7, i64 s.2.1), (2, i64 n), (1, i64 0), (0, rv)]) (fun s => s.2.2) (fun s => obj s.1 A c) (fun s => s.2.1 ≤ n ∧ DnI lt n s.1 s.2.1 ∧ s.1.Perm l ∧ ∀ k, n ≤ k → at_ s.1 k = at_ l k) (fun s => n - s.2.1) (l, 0, f) ⟨Nat.zero_le _, hu, List.Perm.refl _, fun _ _ => rfl⟩ ?_
  rintro ⟨l1, i1, f1⟩ ρ ⟨h1, h2, h3, h4⟩
  replace h1 : i1 ≤ n := h1
  replace h2 : DnI lt n l1 i1 := h2
  replace h3 : l1.Perm l := h3
  replace h4 : ∀ k, n ≤ k → at_ l1 k = at_ l k := h4
  have hlen := h3.length_eq
  show EW _ _ _ _ _ (ups ρ [(7, i64 i1), (2, i64 n), (1, i64 0), (0, rv)]) f1 (obj l1 A c)
  refine bk (sg ?_)
  refine mul ((2 * i1 : Nat) : Int) ?_
  refine addE ((2 * i1 + 1 : Nat) : Int) ?_
  refine sq (sg ?_)
  refine ge (fun h => ?_) (fun h => ?_)
  · refine runE ?_
    refine cTx ?_
    exact jn (l1, i1, f1) ⟨h1, h2.leaf (by omega), h3, h4⟩
  refine Go.Hog.ltE (fun h5 => ?_) (fun h5 => ?_)
  · omega
  refine cFs (sgE ?_)
  have hj1 : 2 * i1 + 1 < n := by omega
  refine sqJ (σ := Nat × View) (fun s => [(9, i64 s.1), (7, i64 i1), (2, i64 n), (1, i64 0), (0, rv)]) (fun s => s.2) (fun s => obj l1 A c) (fun s => LeastC lt n l1 i1 s.1) ?_ ?_
  · refine sg ?_
    refine addE ((2 * i1 + 2 : Nat) : Int) ?_
    refine sg ?_
    refine Go.Hog.lt (fun h => ?_) (fun h => ?_)
    · refine inv0 (obj l1 A c) (fun w hon hgi => H.less (i := 2 * i1 + 2) (j := 2 * i1 + 1) (by omega) (by omega) (by omega) hon hgi) (fun v g L' hs hR => ?_)
      obtain ⟨rfl, rfl⟩ := hR
      by_cases hl : lt (at_ l1 (2 * i1 + 2)) (at_ l1 (2 * i1 + 1))
      · rw [decide_eq_true hl]
        refine runE ?_
        refine cT (rgE ?_)
        refine jn (2 * i1 + 2, g) ⟨by show _ ≤ 2 * i1 + 2; omega, Nat.le_refl _, by show 2 * i1 + 2 < n; omega, fun k hk hkn hpk => ?_⟩
        by_cases e : k = 2 * i1 + 2
        · subst e; exact H.irr _
        · have : k = 2 * i1 + 1 := by omega
          subst this
          exact H.so.asym hl
      · rw [decide_eq_false hl]
        refine runE ?_
        refine cFs ?_
        refine jn (2 * i1 + 1, g) ⟨Nat.le_refl _, by show 2 * i1 + 1 ≤ _; omega, hj1, fun k hk hkn hpk => ?_⟩
        by_cases e : k = 2 * i1 + 1
        · subst e; exact H.irr _
        · have : k = 2 * i1 + 2 := by omega
          subst this
          exact hl
    · refine runE ?_
      refine cFs ?_
      refine jn (2 * i1 + 1, f1) ⟨Nat.le_refl _, by show 2 * i1 + 1 ≤ _; omega, hj1, fun k hk hkn hpk => ?_⟩
      have : k = 2 * i1 + 1 := by omega
      subst this
      exact H.irr _
  rintro ⟨j, f2⟩ ρ hj
  replace hj : LeastC lt n l1 i1 j := hj
  have hjlo := hj.lo; have hjup := hj.up; have hjlt := hj.lt_
  show EW _ _ _ _ _ (ups ρ [(9, i64 j), (7, i64 i1), (2, i64 n), (1, i64 0), (0, rv)]) f2 (obj l1 A c)
  refine sq (sg ?_)
  refine inv0 (obj l1 A c) (fun w hon hgi => H.less (i := j) (j := i1) (by omega) (by omega) (by omega) hon hgi) (fun v g L' hs hR => ?_)
  obtain ⟨rfl, rfl⟩ := hR
  by_cases hl : lt (at_ l1 j) (at_ l1 i1)
  · rw [decide_eq_true hl]
    refine runE ?_
    refine cFs (sg ?_)
    refine inv0 (obj l1 A c) (fun w hon hgi => H.swap (i := i1) (j := j) (by omega) (by omega) (by omega) hon hgi) (fun v g2 L' hs2 hR => ?_)
    subst hR
    refine runE ?_
    refine rgE ?_
    refine nxs (swapL l1 i1 j, j, g2) ⟨by show j ≤ n; omega, h2.step H.so (by omega) hj hl, (swapL_perm (by omega) (by omega)).trans h3, fun k hk => ?_⟩ (by show n - j < n - i1; omega)
    by_cases hkl : k < l1.length
    · show at_ (swapL l1 i1 j) k = _
      rw [swapL_at (by omega) (by omega) hkl, if_neg (by omega), if_neg (by omega)]
      exact h4 k hk
    · rw [← h4 k hk]
      show at_ (swapL l1 i1 j) k = at_ l1 k
      simp only [at_, List.getD_eq_getElem?_getD]
      rw [List.getElem?_eq_none (by rw [swapL_length]; omega), List.getElem?_eq_none (by omega)]
  · rw [decide_eq_false hl]
    refine runE ?_
    refine cTx ?_
    exact jn (l1, i1, g) ⟨h1, h2.stop H.so hj hl, h3, h4⟩

theorem heapPush (H : HeapC lt rv enc ok obj) {w : World} {f : View} {l : List α} {A : Option Addr} {c : Nat} {x : α} (hx : ok x) (hlim : l.length < 1000000) (hh : Hp lt l.length l) (hv : On f w) (hg : Given f (obj l A c) w) :
    Con Try.prog 31 [rv, enc x] w (RetM w f (obj l A c) fun g L' v => ∃ l' A' c', L' = obj l' A' c' ∧ Hp lt l'.length l' ∧ l'.Perm (x :: l)) := by
  refine enterM hv hg Try.call31 Try.func31 ?_
  refine sg ?_
  refine inv0 (obj l A c) (fun w hon hgi => H.push (x := x) hx hlim hon hgi) (fun v g L' hs hR => ?_)
  obtain ⟨A1, c1, rfl⟩ := hR
  refine runE ?_
  refine rg ?_
  refine inv0 (obj (l ++ [x]) A1 c1) (fun w hon hgi => H.len hon hgi) (fun v g2 L' hs hR => ?_)
  obtain ⟨rfl, rfl⟩ := hR
  have hl1 : (l ++ [x]).length = l.length + 1 := by simp
  refine sub (l.length : Nat) ?_
  refine callM0 (obj (l ++ [x]) A1 c1) (fun w hon hgi => heapUp H (j := l.length) (by omega) (by omega) (UpI.push hh) hon hgi) (fun v g3 L' hs hR => ?_)
  obtain ⟨l', rfl, h1, h2⟩ := hR
  refine runE ?_
  exact ret0M ⟨l', A1, c1, rfl, h1, h2.trans (List.perm_append_singleton _ _)⟩

theorem heapPop (H : HeapC lt rv enc ok obj) {w : World} {f : View} {l : List α} {A : Option Addr} {c : Nat} (h0 : 0 < l.length) (hlim : l.length ≤ 1000000) (hh : Hp lt l.length l) (hv : On f w) (hg : Given f (obj l A c) w) :
    Con Try.prog 33 [rv] w (RetM w f (obj l A c) fun g L' v => ∃ x l', v = enc x ∧ L' = obj l' A c ∧ Hp lt l'.length l' ∧ l.Perm (x :: l') ∧ ∀ y ∈ l, ¬ lt y x) := by
  refine enterM hv hg Try.call33 Try.func33 ?_
  obtain ⟨n, hn⟩ : ∃ n, l.length = n + 1 := ⟨l.length - 1, by omega⟩
  refine sgE (sg ?_)
  refine inv0 (obj l A c) (fun w hon hgi => H.len hon hgi) (fun v g L' hs hR => ?_)
  obtain ⟨rfl, rfl⟩ := hR
  refine subE (n : Nat) ?_
  refine sg ?_
  refine inv0 (obj l A c) (fun w hon hgi => H.swap (i := 0) (j := n) (by omega) (by omega) hlim hon hgi) (fun v g2 L' hs hR => ?_)
  subst hR
  refine runE (sg ?_)
  refine callM0 (obj (swapL l 0 n) A c) (fun w hon hgi => heapDown H (n := n) (by rw [swapL_length]; omega) (by rw [swapL_length]; exact hlim) (DnI.start hn hh) hon hgi) (fun v g3 L' hs hR => ?_)
  obtain ⟨l', rfl, h1, h2, h3⟩ := hR
  have hl' : l'.length = n + 1 := by rw [h2.length_eq, swapL_length, hn]
  refine runE (sg ?_)
  refine inv0 (obj l' A c) (fun w hon hgi => H.pop (by omega) (by omega) hon hgi) (fun v g4 L' hs hR => ?_)
  obtain ⟨rfl, rfl⟩ := hR
  refine runE (ew_ret ?_)
  have hlast : at_ l' (l'.length - 1) = at_ l 0 := by
    rw [hl', Nat.add_sub_cancel, h3 n (Nat.le_refl _), swapL_at (by omega) (by omega) (by omega), if_pos rfl]
  have hsplit : l' = l'.dropLast ++ [at_ l 0] := by
    have hne : l' ≠ [] := by intro e; rw [e] at hl'; simp at hl'
    have := (List.dropLast_concat_getLast hne).symm
    rwa [List.getLast_eq_getElem, ← at_get (by omega), hlast] at this
  have hperm : l.Perm (at_ l 0 :: l'.dropLast) := by
    have h4 : l'.Perm l := h2.trans (swapL_perm (by omega) (by omega))
    rw [hsplit] at h4
    exact h4.symm.trans (List.perm_append_singleton _ _)
  have hdl : l'.dropLast.length = n := by rw [List.length_dropLast, hl']; omega
  refine ret1M (v := enc (at_ l' (l'.length - 1))) ⟨at_ l 0, l'.dropLast, by rw [hlast], rfl, fun k hk hkl => ?_, hperm, fun y hy => ?_⟩
  · have e : ∀ m, m < n → at_ l'.dropLast m = at_ l' m := fun m hm => by
      rw [at_get (by omega), at_get (by omega), List.getElem_dropLast]
    rw [e _ (by omega), e _ (by omega)]
    exact h1 k hk (by omega)
  · obtain ⟨k, hk, rfl⟩ := List.getElem_of_mem hy
    rw [← at_get hk]
    exact hh.top H.so H.irr k hk
end
end Go.Hog
