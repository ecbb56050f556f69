/- S2 H1, in one text. -/
import Derived.Test.YtdidefhdcinecaaGreatDoorS1
import Derived.Test.YtdidefhdcinecaaGreatDoorF1
import Derived.Test.YtdidefhdcinecaaGreatDoorME
set_option linter.unusedVariables false
namespace Go.Hog
section
variable {α : Type} [Inhabited α] {lt : α → α → Prop}
def at_ (l : List α) (k : Nat) : α := l.getD k default
def swapL (l : List α) (i j : Nat) : List α := (l.set i (at_ l j)).set j (at_ l i)
theorem at_get {l : List α} {k : Nat} (h : k < l.length) : at_ l k = l[k] := by simp [at_, h]
theorem swapL_length (l : List α) (i j : Nat) : (swapL l i j).length = l.length := by simp [swapL]
theorem swapL_at {l : List α} {i j k : Nat} (hi : i < l.length) (hj : j < l.length) (hk : k < l.length) : at_ (swapL l i j) k = if k = j then at_ l i else if k = i then at_ l j else at_ l k := by
  rw [at_get (by rw [swapL_length]; exact hk)]
  simp only [swapL, List.getElem_set]
  by_cases h1 : j = k
  · subst h1; simp
  · rw [if_neg h1, if_neg (Ne.symm h1)]
    by_cases h2 : i = k
    · subst h2; simp
    · rw [if_neg h2, if_neg (Ne.symm h2), at_get hk]
theorem swapL_perm {l : List α} {i j : Nat} (hi : i < l.length) (hj : j < l.length) : (swapL l i j).Perm l := by
  have h := Array.swap_perm (xs := l.toArray) (i := i) (j := j) (by simpa using hi) (by simpa using hj)
  have h2 := h.toList
  simp only [Array.swap] at h2
  simpa [swapL, at_get hi, at_get hj] using h2
structure SO (lt : α → α → Prop) : Prop where
  asym : ∀ {a b}, lt a b → ¬ lt b a
  trans : ∀ {a b c}, lt a b → lt b c → lt a c
  ntrans : ∀ {a b c}, ¬ lt a b → ¬ lt b c → ¬ lt a c
/-- A heap over the first n. -/
def Hp (lt : α → α → Prop) (n : Nat) (l : List α) : Prop := ∀ k, 0 < k → k < n → ¬ lt (at_ l k) (at_ l ((k - 1) / 2))
structure UpI (lt : α → α → Prop) (l : List α) (j : Nat) : Prop where
  a : ∀ k, 0 < k → k < l.length → k ≠ j → ¬ lt (at_ l k) (at_ l ((k - 1) / 2))
  b : ∀ k, 0 < k → k < l.length → (k - 1) / 2 = j → 0 < j → ¬ lt (at_ l k) (at_ l ((j - 1) / 2))
theorem UpI.zero {l : List α} (h : UpI lt l 0) : Hp lt l.length l := fun k hk hl => h.a k hk hl (by omega)
theorem UpI.stop {l : List α} {j : Nat} (h : UpI lt l j) (hn : ¬ lt (at_ l j) (at_ l ((j - 1) / 2))) : Hp lt l.length l := fun k hk hl => by
  by_cases e : k = j
  · subst e; exact hn
  · exact h.a k hk hl e
theorem UpI.step (so : SO lt) {l : List α} {j : Nat} (hj : j < l.length) (hj0 : 0 < j) (h : UpI lt l j) (hlt : lt (at_ l j) (at_ l ((j - 1) / 2))) : UpI lt (swapL l ((j - 1) / 2) j) ((j - 1) / 2) := by
  generalize hi : (j - 1) / 2 = i at *
  have hij : i < j := by omega
  have hil : i < l.length := by omega
  refine ⟨fun k hk hl hki => ?_, fun k hk hl hpk hi0 => ?_⟩
  · rw [swapL_length] at hl
    rw [swapL_at hil hj hl, swapL_at hil hj (by omega)]
    by_cases e1 : k = j
    · subst e1
      rw [if_pos rfl, hi, if_neg (by omega), if_pos rfl]
      exact so.asym hlt
    · rw [if_neg e1, if_neg hki]
      by_cases e2 : (k - 1) / 2 = j
      · rw [if_pos e2]
        have := h.b k hk hl e2 hj0
        rwa [hi] at this
      · rw [if_neg e2]
        by_cases e3 : (k - 1) / 2 = i
        · rw [if_pos e3]
          intro h4
          have := h.a k hk hl e1
          rw [e3] at this
          exact this (so.trans h4 hlt)
        · rw [if_neg e3]
          exact h.a k hk hl e1
  · rw [swapL_length] at hl
    rw [swapL_at hil hj hl, swapL_at hil hj (by omega)]
    rw [if_neg (by omega : ¬ (i - 1) / 2 = j), if_neg (by omega : ¬ (i - 1) / 2 = i)]
    by_cases e1 : k = j
    · subst e1
      rw [if_pos rfl]
      exact h.a i hi0 hil (by omega)
    · rw [if_neg e1, if_neg (by omega)]
      have h1 := h.a k hk hl e1
      rw [hpk] at h1
      exact so.ntrans h1 (h.a i hi0 hil (by omega))
theorem UpI.push {l : List α} {x : α} (h : Hp lt l.length l) : UpI lt (l ++ [x]) l.length := by
  have hat : ∀ k, k < l.length → at_ (l ++ [x]) k = at_ l k := fun k hk => by
    rw [at_get (by simp; omega), at_get hk, List.getElem_append_left hk]
  refine ⟨fun k hk hl hkl => ?_, fun k hk hl hp => ?_⟩
  · simp only [List.length_append, List.length_singleton] at hl
    rw [hat k (by omega), hat _ (by omega)]
    exact h k hk (by omega)
  · simp only [List.length_append, List.length_singleton] at hl
    omega
structure DnI (lt : α → α → Prop) (n : Nat) (l : List α) (i : Nat) : Prop where
  a : ∀ k, 0 < k → k < n → (k - 1) / 2 ≠ i → ¬ lt (at_ l k) (at_ l ((k - 1) / 2))
  b : ∀ k, 0 < k → k < n → (k - 1) / 2 = i → 0 < i → ¬ lt (at_ l k) (at_ l ((i - 1) / 2))
theorem DnI.leaf {n : Nat} {l : List α} {i : Nat} (h : DnI lt n l i) (hn : n ≤ 2 * i + 1) : Hp lt n l := fun k hk hl => h.a k hk hl (by omega)
/-- j is i's least child. -/
structure LeastC (lt : α → α → Prop) (n : Nat) (l : List α) (i j : Nat) : Prop where
  lo : 2 * i + 1 ≤ j
  up : j ≤ 2 * i + 2
  lt_ : j < n
  least : ∀ k, 0 < k → k < n → (k - 1) / 2 = i → ¬ lt (at_ l k) (at_ l j)
theorem DnI.stop (so : SO lt) {n : Nat} {l : List α} {i j : Nat} (h : DnI lt n l i) (hj : LeastC lt n l i j) (hn : ¬ lt (at_ l j) (at_ l i)) : Hp lt n l := fun k hk hl => by
  by_cases e : (k - 1) / 2 = i
  · rw [e]; exact so.ntrans (hj.least k hk hl e) hn
  · exact h.a k hk hl e
theorem DnI.step (so : SO lt) {n : Nat} {l : List α} {i j : Nat} (hn : n ≤ l.length) (h : DnI lt n l i) (hj : LeastC lt n l i j) (hlt : lt (at_ l j) (at_ l i)) : DnI lt n (swapL l i j) j := by
  have h1 := hj.lo; have h2 := hj.up; have h3 := hj.lt_
  have hpj : (j - 1) / 2 = i := by omega
  have hil : i < l.length := by omega
  have hjl : j < l.length := by omega
  refine ⟨fun k hk hl hpk => ?_, fun k hk hl hpk hj0 => ?_⟩
  · rw [swapL_at hil hjl (by omega), swapL_at hil hjl (by omega)]
    rw [if_neg hpk]
    by_cases e1 : k = j
    · subst e1
      rw [if_pos rfl, if_pos hpj]
      exact so.asym hlt
    · rw [if_neg e1]
      by_cases e2 : k = i
      · subst e2
        rw [if_pos rfl, if_neg (by omega)]
        exact h.b j (by omega) h3 hpj hk
      · rw [if_neg e2]
        by_cases e3 : (k - 1) / 2 = i
        · rw [if_pos e3]
          exact hj.least k hk hl e3
        · rw [if_neg e3]
          exact h.a k hk hl e3
  · rw [swapL_at hil hjl (by omega), swapL_at hil hjl (by omega)]
    rw [if_neg (by omega), if_neg (by omega), hpj, if_neg (by omega), if_pos rfl]
    have := h.a k hk hl (by omega)
    rwa [hpk] at this
theorem Hp.top (so : SO lt) (hirr : ∀ a, ¬ lt a a) {n : Nat} {l : List α} (h : Hp lt n l) : ∀ k, k < n → ¬ lt (at_ l k) (at_ l 0) := by
  intro k
  induction k using Nat.strongRecOn with
  | _ k ih =>
    intro hk
    by_cases e : k = 0
    · subst e; exact hirr _
    · exact so.ntrans (h k (by omega) hk) (ih ((k - 1) / 2) (by omega) (by omega))
/-- The last one comes to the front, ahead of a 'down'. -/
theorem DnI.start {l : List α} {n : Nat} (hn : l.length = n + 1) (h : Hp lt l.length l) : DnI lt n (swapL l 0 n) 0 := by
  refine ⟨fun k hk hl hpk => ?_, fun k hk hl hp h0 => by omega⟩
  rw [swapL_at (by omega) (by omega) (by omega), swapL_at (by omega) (by omega) (by omega)]
  rw [if_neg (by omega), if_neg (by omega), if_neg (by omega), if_neg hpk]
  exact h k hk (by omega)
end
end Go.Hog

set_option linter.unusedVariables false
set_option linter.unusedSimpArgs false
set_option maxRecDepth 100000
set_option maxHeartbeats 1000000
namespace Go.Hog
open Go.RowKit Rp Go.Proofs

theorem enterM {k : Nat} {fn : Func} {c : Code} {vs : List Value} {w : World} {f : View} {L : List HE} {R : Ending → World → Prop} (hv : On f w) (hL : Given f L w) (hcf : ∀ args w, (callFunc k args).run Tryz.prog w = .ok (.enter k args) w) (hf : Tryz.prog.funcs[k]? = some fn)
    (h : EW Tryz.prog fn.ntmps ⟨w, f, fps L⟩ c (retQ Tryz.prog fn ⟨w, f, fps L⟩ R) (nthV vs) f L) (hb : fn.body = some c := by rfl)
    (hok : codeOk fn.ntmps c = true := by kernel_rfl) (hn : Nat.ble vs.length fn.ntmps = true := by rfl) : Con Tryz.prog k vs w R := ⟨hcf, enter hf hb hok hn hv hL h⟩
/-- What a heap's methods do. -/
structure HeapC {α : Type} [Inhabited α] (lt : α → α → Prop) [DecidableRel lt] (rv : Value) (enc : α → Value) (ok : α → Prop) (obj : List α → Option Addr → Nat → List HE) : Prop where
  so : SO lt
  irr : ∀ a, ¬ lt a a
  len : ∀ {l A c w f}, On f w → Given f (obj l A c) w → ConI Tryz.prog rv "Len" [] w (RetM w f (obj l A c) fun g L' v => L' = obj l A c ∧ v = i64 l.length)
  less : ∀ {l A c w f i j}, i < l.length → j < l.length → l.length ≤ 1000000 → On f w → Given f (obj l A c) w → ConI Tryz.prog rv "Less" [i64 (i : Nat), i64 (j : Nat)] w (RetM w f (obj l A c) fun g L' v => L' = obj l A c ∧ v = .bool (decide (lt (at_ l i) (at_ l j))))
  swap : ∀ {l A c w f i j}, i < l.length → j < l.length → l.length ≤ 1000000 → On f w → Given f (obj l A c) w → ConI Tryz.prog rv "Swap" [i64 (i : Nat), i64 (j : Nat)] w (RetM w f (obj l A c) fun g L' v => L' = obj (swapL l i j) A c)
  push : ∀ {l A c w f x}, ok x → l.length < 1000000 → On f w → Given f (obj l A c) w → ConI Tryz.prog rv "Push" [enc x] w (RetM w f (obj l A c) fun g L' v => ∃ A' c', L' = obj (l ++ [x]) A' c')
  pop : ∀ {l A c w f}, 0 < l.length → l.length ≤ 1000000 → On f w → Given f (obj l A c) w → ConI Tryz.prog rv "Pop" [] w (RetM w f (obj l A c) fun g L' v => L' = obj l.dropLast A c ∧ v = enc (at_ l (l.length - 1)))

section
variable {α : Type} [Inhabited α] {lt : α → α → Prop} [DecidableRel lt] {rv : Value} {enc : α → Value} {ok : α → Prop} {obj : List α → Option Addr → Nat → List HE}
end
end Go.Hog
