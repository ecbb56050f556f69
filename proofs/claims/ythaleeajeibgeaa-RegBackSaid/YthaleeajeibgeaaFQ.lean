/- E27 E29 F41 S23 F42 E30 F43 F44 F45, in one text. -/
import Derived.Test.YthaleeajeibgeaaE19
import Derived.Test.YthaleeajeibgeaaFS
import Derived.Test.YthaleeajeibgeaaE28
set_option linter.unusedVariables false
set_option linter.unusedSimpArgs false
namespace Go.Hog
open Go.RowKit Rp Go.Proofs
/-! ### Lists of what takes so many cells -/
section
variable {α : Type} {enc : α → List Value} {q : Nat}
theorem flat_len (h : ∀ x, (enc x).length = q) : ∀ l : List α, (l.flatMap enc).length = l.length * q
  | [] => by simp
  | x :: l => by simp [List.flatMap_cons, h, flat_len h l, Nat.add_mul, Nat.add_comm]
theorem flat_cell (h : ∀ x, (enc x).length = q) : ∀ (l : List α) (k j : Nat) (hk : k < l.length), j < q → (l.flatMap enc)[k * q + j]? = (enc l[k])[j]?
  | x :: l, 0, j, hk, hj => by
    rw [List.flatMap_cons, Nat.zero_mul, Nat.zero_add, List.getElem?_append_left (by rw [h]; exact hj)]
    rfl
  | x :: l, k + 1, j, hk, hj => by
    rw [List.flatMap_cons, List.getElem?_append_right (by rw [h, Nat.add_mul]; omega), h]
    rw [show (k + 1) * q + j - q = k * q + j by rw [Nat.add_mul]; omega]
    exact flat_cell h l k j (by simpa using hk) hj
theorem putL_left (us xs : List Value) : ∀ (vs : List Value), us.length = vs.length → putL (vs ++ xs) 0 us = us ++ xs := by
  induction us with
  | nil => intro vs h; obtain rfl : vs = [] := List.eq_nil_of_length_eq_zero h.symm; cases xs <;> rfl
  | cons u us ih =>
    intro vs h
    rcases vs with _ | ⟨v, vs⟩
    · simp at h
    · simp only [List.cons_append, putL]
      rw [ih vs (by simpa using h)]
theorem putL_past (pre : List Value) : ∀ (xs : List Value) (o : Nat) (us : List Value), putL (pre ++ xs) (pre.length + o) us = pre ++ putL xs o us := by
  induction pre with
  | nil => intro xs o us; simp
  | cons p pre ih =>
    intro xs o us
    rcases us with _ | ⟨u, us⟩
    · rw [show putL xs o [] = xs by cases xs <;> cases o <;> rfl]
      simp [putL]
    · rw [List.cons_append, List.length_cons, show pre.length + 1 + o = (pre.length + o) + 1 by omega]
      simp only [putL, List.cons_append]
      rw [ih]
theorem flat_put (h : ∀ x, (enc x).length = q) : ∀ (l : List α) (k : Nat) (x : α), k < l.length → putL (l.flatMap enc) (k * q) (enc x) = (l.set k x).flatMap enc
  | y :: l, 0, x, hk => by
    rw [List.flatMap_cons, List.set_cons_zero, List.flatMap_cons, Nat.zero_mul, putL_left _ _ _ (by rw [h, h])]
  | y :: l, k + 1, x, hk => by
    rw [List.flatMap_cons, List.set_cons_succ, List.flatMap_cons, show (k + 1) * q = (enc y).length + k * q by rw [h, Nat.add_mul]; omega, putL_past, flat_put h l k x (by simpa using hk)]
theorem flat_take (h : ∀ x, (enc x).length = q) (l : List α) (k : Nat) : (l.flatMap enc).take (k * q) = (l.take k).flatMap enc := by
  by_cases hk : k ≤ l.length
  · have h1 : l.flatMap enc = (l.take k).flatMap enc ++ (l.drop k).flatMap enc := by rw [← List.flatMap_append, List.take_append_drop]
    have h2 : ((l.take k).flatMap enc).length = k * q := by rw [flat_len h, List.length_take, Nat.min_eq_left hk]
    rw [h1, ← h2, List.take_left]
  · rw [List.take_of_length_le (show l.length ≤ k by omega), List.take_of_length_le (by rw [flat_len h]; exact Nat.mul_le_mul_right _ (by omega))]
theorem putL_front (ys zs : List Value) (j : Nat) (vs : List Value) (h : j + vs.length ≤ ys.length) : putL (ys ++ zs) j vs = putL ys j vs ++ zs := by
  rw [← putL_eq _ _ _ (by rw [List.length_append]; omega), ← putL_eq _ _ _ h, List.take_append_of_le_length (by omega), List.drop_append_of_le_length h, List.append_assoc, List.append_assoc, List.append_assoc]
theorem flat_putAt (h : ∀ x, (enc x).length = q) : ∀ (l : List α) (k j : Nat) (vs : List Value) (x : α) (hk : k < l.length), j + vs.length ≤ q → putL (enc l[k]) j vs = enc x → putL (l.flatMap enc) (k * q + j) vs = (l.set k x).flatMap enc
  | y :: l, 0, j, vs, x, hk, hj, he => by
    rw [List.flatMap_cons, List.set_cons_zero, List.flatMap_cons, Nat.zero_mul, Nat.zero_add, putL_front _ _ _ _ (by rw [h]; exact hj)]
    rw [← he]; rfl
  | y :: l, k + 1, j, vs, x, hk, hj, he => by
    rw [List.flatMap_cons, List.set_cons_succ, List.flatMap_cons, show (k + 1) * q + j = (enc y).length + (k * q + j) by rw [h, Nat.add_mul]; omega, putL_past, flat_putAt h l k j vs x (by simpa using hk) hj he]
end
end Go.Hog

set_option linter.unusedVariables false
set_option linter.unusedSimpArgs false
namespace Go.Hog
open Go.RowKit Rp
section
variable {P : Program} {n : Nat} {B : Bs} {f : View} {L : List HE} {ρ : Env} {cs : List Value} {e : TypeId} {b : Nat} {v : Value}
variable {fn : Func} {w0 : World} {f0 : View} {L0 : List HE} {R : View → List HE → Value → Prop}
theorem retA1M (i : Nat) (L2 : List HE) {a : Nat} {ta : TypeId} (hs : ∀ w, St ⟨w0, f0, fps L0⟩ f L w → St ⟨w0, f0, fps L0⟩ f L2 w) (hR : R f L2 (.agg ⟨cs⟩)) (hr : fn.results = #[.cell a ta] := by rfl) (h1 : ρ a = .pointer (some ⟨b, 0, none⟩) := by rfl) (hi : L[i]? = some (.blk b (.cells ⟨cs⟩ e)) := by rfl)
    (ht : aggT P ta = some true := by rfl) (hz : sizeT P ta = some cs.length := by rfl) : retQ P fn ⟨w0, f0, fps L0⟩ (RetM w0 f0 L0 R) .ret ρ f L := by
  intro w hw tmps htm
  have a1 := htm a
  rw [h1] at a1
  have hl := run_loadVarA (P := P) (w := w) (a := ⟨b, 0, none⟩) ht hz (fun j v hj => by rw [add_plain, Nat.zero_add]; exact blk_cell (hw.blk hi) hj)
  refine ⟨.agg ⟨cs⟩, ?_, _, _, _, rfl, hs w hw, hR⟩
  simp only [results, hr]
  simp at a1
  simp [a1, asAddr, hl]
theorem retA2M (i : Nat) (L2 : List HE) {a u : Nat} {ta : TypeId} (hs : ∀ w, St ⟨w0, f0, fps L0⟩ f L w → St ⟨w0, f0, fps L0⟩ f L2 w) (hR : R f L2 (.tuple #[.agg ⟨cs⟩, v])) (hr : fn.results = #[.cell a ta, .tmp u] := by rfl) (h1 : ρ a = .pointer (some ⟨b, 0, none⟩) := by rfl) (hi : L[i]? = some (.blk b (.cells ⟨cs⟩ e)) := by rfl)
    (h2 : ρ u = v := by rfl) (ht : aggT P ta = some true := by rfl) (hz : sizeT P ta = some cs.length := by rfl) : retQ P fn ⟨w0, f0, fps L0⟩ (RetM w0 f0 L0 R) .ret ρ f L := by
  intro w hw tmps htm
  have a1 := htm a
  have a2 := htm u
  rw [h1] at a1
  rw [h2] at a2
  have hl := run_loadVarA (P := P) (w := w) (a := ⟨b, 0, none⟩) ht hz (fun j v hj => by rw [add_plain, Nat.zero_add]; exact blk_cell (hw.blk hi) hj)
  refine ⟨.tuple #[.agg ⟨cs⟩, v], ?_, _, _, _, rfl, hs w hw, hR⟩
  simp only [results, hr]
  simp at a1 a2
  simp [a1, a2, asAddr, hl]
end
end Go.Hog

set_option linter.unusedVariables false
set_option linter.unusedSimpArgs false
set_option maxRecDepth 100000
set_option maxHeartbeats 1000000
namespace Go.Hog
open Go.RowKit Rp Go.Proofs
/-- An item with no tree, and where its refs lie. -/
abbrev RI := Item × Option Addr × Nat
def e3 (r : RI) : List Value := [str r.1.name, .slice r.2.1 r.1.refs.length r.2.2, .slice none 0 0]
def rRf (r : RI) : HE := sRow r.2.1 r.2.2 r.1.refs
def itR (A : Option Addr) (c : Nat) (its : List RI) : HE := .row A its.length c 47 3 (its.flatMap e3)
def pRows (its : List RI) (A : Option Addr) (c : Nat) (A2 : Option Addr) (c2 : Nat) (p : Pack) : List HE := itR A c its :: sRow A2 c2 p.prof :: its.map rRf
def robj (T : TypeId) (b : Nat) (its : List RI) (A : Option Addr) (c : Nat) (A2 : Option Addr) (c2 : Nat) (p : Pack) : List HE :=
  .blk b (.cells ⟨packC p A c A2 c2⟩ T) :: pRows its A c A2 c2 p
def RObj (T : TypeId) (b : Nat) (p : Pack) (L : List HE) : Prop := ∃ its A c A2 c2, its.map (·.1) = p.items ∧ L = robj T b its A c A2 c2 p
theorem e3_len (r : RI) : (e3 r).length = 3 := rfl
theorem RObj.len {its : List RI} {l : List Item} (h : its.map (·.1) = l) : l.length = its.length := by rw [← h, List.length_map]
/-- How much a pack has: texts of S bytes, lists of N. -/
structure Bd (S N : Nat) (p : Pack) : Prop where
  pre : p.pre.length ≤ S
  items : p.items.length ≤ N
  item : ∀ x ∈ p.items, x.name.length ≤ S ∧ x.refs.length ≤ N ∧ ∀ s ∈ x.refs, s.length ≤ S
  prof : p.prof.length ≤ N
  profs : ∀ s ∈ p.prof, s.length ≤ S
  pol : p.pol = 0 ∨ p.pol = 1
theorem Bd.start (S : Nat) : Bd S 0 p0 := ⟨Nat.zero_le _, Nat.le_refl _, fun x hx => (by cases hx), Nat.le_refl _, fun x hx => (by cases hx), .inl rfl⟩
theorem Bd.mono {S N M : Nat} {p : Pack} (h : Bd S N p) (hm : N ≤ M) : Bd S M p := ⟨h.pre, Nat.le_trans h.items hm, fun x hx => let ⟨a, b, c⟩ := h.item x hx; ⟨a, Nat.le_trans b hm, c⟩, Nat.le_trans h.prof hm, h.profs, h.pol⟩
theorem Bd.wide {S N S' N' : Nat} {p : Pack} (h : Bd S N p) (hs : S ≤ S') (hn : N ≤ N') : Bd S' N' p :=
  ⟨Nat.le_trans h.pre hs, Nat.le_trans h.items hn, fun x hx => let ⟨a, b, c⟩ := h.item x hx; ⟨Nat.le_trans a hs, Nat.le_trans b hn, fun s h => Nat.le_trans (c s h) hs⟩, Nat.le_trans h.prof hn, fun s hp => Nat.le_trans (h.profs s hp) hs, h.pol⟩
theorem Bd.app {S N : Nat} {p : Pack} {k v : Str} (h : Bd S N p) (hv : v.length ≤ S) : Bd S (N + 1) (appK k v p) := by
  have h' := h.mono (Nat.le_succ N)
  unfold appK
  split
  · exact ⟨hv, h'.items, h'.item, h'.prof, h'.profs, h'.pol⟩
  split
  · split
    · exact ⟨h'.pre, h'.items, h'.item, h'.prof, h'.profs, .inr rfl⟩
    · exact h'
  split
  · refine ⟨h'.pre, by show (p.items ++ [_]).length ≤ _; rw [List.length_append]; exact Nat.succ_le_succ h.items, fun x hx => ?_, h'.prof, h'.profs, h'.pol⟩
    rcases List.mem_append.1 hx with hx | hx
    · exact h'.item x hx
    · rw [List.mem_singleton] at hx
      subst hx
      exact ⟨hv, Nat.zero_le _, fun s hs => by cases hs⟩
  split
  · refine ⟨h'.pre, by show (addRef p.items v).length ≤ _; rw [addRef_len]; exact h'.items, fun x hx => ?_, h'.prof, h'.profs, h'.pol⟩
    replace hx : x ∈ addRef p.items v := hx
    rcases List.eq_nil_or_concat p.items with e | ⟨l', y, e⟩
    · rw [e] at hx; exact absurd hx (by simp [addRef])
    · rw [e, List.concat_eq_append, addRef_snoc] at hx
      rcases List.mem_append.1 hx with hx | hx
      · exact h'.item x (by rw [e, List.concat_eq_append]; exact List.mem_append_left _ hx)
      · rw [List.mem_singleton] at hx
        subst hx
        obtain ⟨a1, a2, a3⟩ := h.item y (by rw [e, List.concat_eq_append]; exact List.mem_append_right _ (List.mem_singleton.2 rfl))
        refine ⟨a1, by show (y.refs ++ [v]).length ≤ _; rw [List.length_append]; exact Nat.succ_le_succ a2, fun s hs => ?_⟩
        rcases List.mem_append.1 hs with hs | hs
        · exact a3 s hs
        · rw [List.mem_singleton] at hs; subst hs; exact hv
  · refine ⟨h'.pre, h'.items, h'.item, by show (p.prof ++ [v]).length ≤ _; rw [List.length_append]; exact Nat.succ_le_succ h.prof, fun s hs => ?_, h'.pol⟩
    rcases List.mem_append.1 hs with hs | hs
    · exact h'.profs s hs
    · rw [List.mem_singleton] at hs; subst hs; exact hv
theorem rPrefix {w : World} {f : View} {b : Nat} {v : Str} {p : Pack} {L : List HE} (hv : On f w) (hL : RObj 56 b p L) (hg : Given f L w) :
    Con Try.prog 32 [ptrTo b, str v] w (RetM w f L (fun _ L' _ => RObj 56 b (appK kPre v p) L')) := by
  obtain ⟨its, A, c, A2, c2, hi, rfl⟩ := hL
  refine enterM hv hg Try.call32 Try.func32 ?_
  refine rg ?_
  refine st 0 ?_
  refine runE ?_
  refine ret0M ⟨its, A, c, A2, c2, ?_, ?_⟩
  · rw [app_pre]; exact hi
  · rw [app_pre]; rfl
theorem rPolicy {w : World} {f : View} {b : Nat} {v : Str} {p : Pack} {L : List HE} (hv : On f w) (hL : RObj 56 b p L) (hg : Given f L w) :
    Con Try.prog 33 [ptrTo b, str v] w (RetM w f L (fun _ L' _ => RObj 56 b (appK kPol v p) L')) := by
  obtain ⟨its, A, c, A2, c2, hi, rfl⟩ := hL
  refine enterM hv hg Try.call33 Try.func33 ?_
  refine sg ?_
  refine eqSE (fun h => ?_) (fun h => ?_)
  · refine cT (rg ?_)
    refine st 0 ?_
    refine runE ?_
    refine ret0M ⟨its, A, c, A2, c2, ?_, ?_⟩
    · rw [app_pol, if_pos h]; exact hi
    · rw [app_pol, if_pos h]; rfl
  · refine cFs ?_
    refine ret0M ⟨its, A, c, A2, c2, ?_, ?_⟩
    · rw [app_pol, if_neg h]; exact hi
    · rw [app_pol, if_neg h]
theorem rItem {w : World} {f : View} {b : Nat} {v : Str} {p : Pack} {L : List HE} (hlim : p.items.length ≤ 1000000) (hv : On f w) (hL : RObj 56 b p L) (hg : Given f L w) :
    Con Try.prog 34 [ptrTo b, str v] w (RetM w f L (fun _ L' _ => RObj 56 b (appK kItem v p) L')) := by
  obtain ⟨its, A, c, A2, c2, hi, rfl⟩ := hL
  refine enterM hv hg Try.call34 Try.func34 ?_
  have hl := RObj.len hi
  have q1 : p.items.length + 1 = its.length + 1 := by rw [hl]
  refine rg ?_
  refine ldo 0 ?_
  refine bld ?_
  refine bsl fun b2 => ?_
  rw [hl] at hlim
  refine app 1 (nn := its.length) (fun A' c' => ?_) (hs := by show Value.slice A p.items.length c = _; rw [hl]) (hlim := by show (its.length + 1) * 64 ≤ _; omega)
  refine st 0 ?_
  refine nilrow 9 1 ?_
  refine rperm (L' := robj 56 b (its ++ [(⟨v, [], []⟩, none, 0)]) A' c' A2 c2 { p with items := p.items ++ [⟨v, [], []⟩] }) ?_ ?_
  · unfold robj pRows itR
    rw [List.map_append, List.length_append, List.flatMap_append]
    have e : packC { p with items := p.items ++ [⟨v, [], []⟩] } A' c' A2 c2 = [str p.pre, .slice A' (its.length + 1) c', .slice A2 p.prof.length c2, i64 p.pol] := by
      unfold packC
      show [_, Value.slice A' (p.items ++ [_]).length c', _, _] = _
      rw [List.length_append]
      show [_, Value.slice A' (p.items.length + 1) c', _, _] = _
      rw [hl]
    rw [e]
    refine List.Perm.trans (List.perm_append_comm (l₁ := [_]) (l₂ := _)) ?_
    exact List.Perm.refl _
  · refine runE ?_
    refine ret0M ⟨?_, A', c', A2, c2, ?_, ?_⟩
    · exact its ++ [(⟨v, [], []⟩, none, 0)]
    · rw [app_item, List.map_append, hi]; rfl
    · rw [app_item]
theorem rProf {w : World} {f : View} {b : Nat} {v : Str} {p : Pack} {L : List HE} (hlim : p.prof.length ≤ 1000000) (hv : On f w) (hL : RObj 56 b p L) (hg : Given f L w) :
    Con Try.prog 36 [ptrTo b, str v] w (RetM w f L (fun _ L' _ => RObj 56 b (appK kProf v p) L')) := by
  obtain ⟨its, A, c, A2, c2, hi, rfl⟩ := hL
  refine enterM hv hg Try.call36 Try.func36 ?_
  refine rg ?_
  refine ldo 0 ?_
  refine bsl fun b2 => ?_
  refine app 2 (fun A' c' => ?_) (hlim := by show (p.prof.length + 1) * 16 ≤ _; omega)
  refine st 0 ?_
  refine runE ?_
  refine ret0M ⟨its, A, c, A', c', ?_, ?_⟩
  · rw [app_prof]; exact hi
  · rw [app_prof]
    unfold robj pRows sRow
    have e : packC { p with prof := p.prof ++ [v] } A c A' c' = [str p.pre, .slice A p.items.length c, .slice A' (p.prof.length + 1) c', i64 p.pol] := by
      unfold packC
      show [_, _, Value.slice A' (p.prof ++ [_]).length c', _] = _
      rw [List.length_append]
      rfl
    rw [e]
    show _ = _ :: _ :: HE.row A' (p.prof ++ [v]).length c' _ 1 ((p.prof ++ [v]).map str) :: _
    rw [List.length_append, List.map_append]
    rfl
end Go.Hog

set_option linter.unusedVariables false
set_option linter.unusedSimpArgs false
set_option maxRecDepth 100000
namespace Go.Hog
open Go.RowKit Rp
def keyS (k : Str) : Str := k ++ [32]
def stepK (k l : Str) (p : Pack) : Pack := if (keyS k).isPrefixOf l then appK k (l.drop (keyS k).length) p else p
def step1 (l : Str) (p : Pack) : Pack := stepK kPre l p
def step2 (l : Str) (p : Pack) : Pack := stepK kPol l (step1 l p)
def step3 (l : Str) (p : Pack) : Pack := stepK kItem l (step2 l p)
def step4 (l : Str) (p : Pack) : Pack := stepK kRef l (step3 l p)
def stepL (l : Str) (p : Pack) : Pack := stepK kProf l (step4 l p)
def rdB : Str → Pack → Str → Pack
  | _, p, [] => p
  | acc, p, c :: t => if c = 10 then rdB [] (stepL acc p) t else rdB (acc ++ [c]) p t
theorem pre_same (k v : Str) : (keyS k).isPrefixOf (keyS k ++ v) = true := List.isPrefixOf_iff_prefix.2 (List.prefix_append _ _)
theorem stepK_same (k v : Str) (p : Pack) : stepK k (keyS k ++ v) p = appK k v p := by
  unfold stepK
  rw [if_pos (pre_same k v), List.drop_left]
theorem stepK_not {k l : Str} {p : Pack} (h : (keyS k).isPrefixOf l = false) : stepK k l p = p := by
  unfold stepK
  rw [h]; rfl
theorem stepL_line {k v : Str} (hk : k ∈ keys5) (p : Pack) : stepL (keyS k ++ v) p = appK k v p := by
  simp only [keys5, List.mem_cons, List.not_mem_nil, or_false] at hk
  rcases hk with rfl | rfl | rfl | rfl | rfl
  · show stepK kProf _ (stepK kRef _ (stepK kItem _ (stepK kPol _ (stepK kPre _ p)))) = _
    rw [stepK_same, stepK_not (k := kPol) rfl, stepK_not (k := kItem) rfl, stepK_not (k := kRef) rfl, stepK_not (k := kProf) rfl]
  · show stepK kProf _ (stepK kRef _ (stepK kItem _ (stepK kPol _ (stepK kPre _ p)))) = _
    rw [stepK_not (k := kPre) rfl, stepK_same, stepK_not (k := kItem) rfl, stepK_not (k := kRef) rfl, stepK_not (k := kProf) rfl]
  · show stepK kProf _ (stepK kRef _ (stepK kItem _ (stepK kPol _ (stepK kPre _ p)))) = _
    rw [stepK_not (k := kPre) rfl, stepK_not (k := kPol) rfl, stepK_same, stepK_not (k := kRef) rfl, stepK_not (k := kProf) rfl]
  · show stepK kProf _ (stepK kRef _ (stepK kItem _ (stepK kPol _ (stepK kPre _ p)))) = _
    rw [stepK_not (k := kPre) rfl, stepK_not (k := kPol) rfl, stepK_not (k := kItem) rfl, stepK_same, stepK_not (k := kProf) rfl]
  · show stepK kProf _ (stepK kRef _ (stepK kItem _ (stepK kPol _ (stepK kPre _ p)))) = _
    rw [stepK_not (k := kPre) rfl, stepK_not (k := kPol) rfl, stepK_not (k := kItem) rfl, stepK_not (k := kRef) rfl, stepK_same]
theorem rdB_run {t : Str} {p : Pack} : ∀ {l acc : Str}, (10 : UInt8) ∉ l → rdB acc p (l ++ t) = rdB (acc ++ l) p t
  | [], acc, _ => by rw [List.append_nil]; rfl
  | c :: l, acc, h => by
    have hc : c ≠ 10 := fun e => h (e ▸ List.mem_cons_self ..)
    show (if c = 10 then _ else rdB (acc ++ [c]) p (l ++ t)) = _
    rw [if_neg hc, rdB_run (fun h2 => h (List.mem_cons_of_mem _ h2)), List.append_assoc]; rfl
theorem Lns.rdB {r q : Pack} {s : Str} (h : Lns r s q) : rdB [] r s = q := by
  induction h with
  | done => rfl
  | @line r q k v t hk hv h8 _ ih =>
    have e : lineT k v ++ t = (keyS k ++ v) ++ ([10] ++ t) := by
      unfold lineT keyS; simp only [List.append_assoc]
    have hc : (10 : UInt8) ∉ keyS k ++ v := by
      intro h
      rcases List.mem_append.1 h with h | h
      · rcases List.mem_append.1 h with h | h
        · exact (key_clean k hk).1 h
        · exact absurd h (by decide)
      · exact hv h
    rw [e, rdB_run hc, List.nil_append]
    show (if (10 : UInt8) = 10 then Go.Hog.rdB [] (stepL (keyS k ++ v) r) t else _) = q
    rw [if_pos rfl, stepL_line hk]
    exact ih
theorem stepK_bd {S N : Nat} {k l : Str} {p : Pack} (h : Bd S N p) (hl : l.length ≤ S) : Bd S (N + 1) (stepK k l p) := by
  unfold stepK
  split
  · exact h.app (by rw [List.length_drop]; omega)
  · exact h.mono (Nat.le_succ N)
theorem stepK_bare {k l : Str} {p : Pack} (h : bareOk p) : bareOk (stepK k l p) := by
  unfold stepK
  split
  · exact app_bare h
  · exact h
theorem stepL_bd {S N : Nat} {l : Str} {p : Pack} (h : Bd S N p) (hl : l.length ≤ S) : Bd S (N + 5) (stepL l p) :=
  stepK_bd (stepK_bd (stepK_bd (stepK_bd (stepK_bd h hl) hl) hl) hl) hl
theorem stepL_bare {l : Str} {p : Pack} (h : bareOk p) : bareOk (stepL l p) := stepK_bare (stepK_bare (stepK_bare (stepK_bare (stepK_bare h))))
end Go.Hog

set_option linter.unusedVariables false
set_option linter.unusedSimpArgs false
set_option maxRecDepth 100000
set_option maxHeartbeats 1000000
namespace Go.Hog
open Go.RowKit Rp Go.Proofs
theorem e3_at (l : List RI) (r : RI) (j : Nat) : ((l ++ [r]).flatMap e3)[0 + l.length * 3 + j]? = (e3 r)[j]? := by
  rw [List.flatMap_append, Nat.zero_add]
  have h : (l.flatMap e3).length = l.length * 3 := flat_len e3_len l
  rw [List.getElem?_append_right (by omega), show l.length * 3 + j - (l.flatMap e3).length = j by omega]
  simp
theorem e3_put (l : List RI) (r r2 : RI) (v : Value) (hn : r2.1.name = r.1.name) (hv : v = .slice r2.2.1 r2.1.refs.length r2.2.2) : putL ((l ++ [r]).flatMap e3) (0 + l.length * 3 + 1) [v] = (l ++ [r2]).flatMap e3 := by
  rw [List.flatMap_append, List.flatMap_append, Nat.zero_add]
  have h : (l.flatMap e3).length = l.length * 3 := flat_len e3_len l
  rw [← h, putL_right _ _ _ _ (by simp [e3_len])]
  subst hv
  simp only [List.flatMap_cons, List.flatMap_nil, List.append_nil]
  unfold e3
  rw [hn]
  rfl
theorem rRef {w : World} {f : View} {b : Nat} {v : Str} {p : Pack} {L : List HE} (hlim : p.items.length ≤ 1000000 ∧ ∀ x ∈ p.items, x.refs.length ≤ 1000000) (hv : On f w) (hL : RObj 56 b p L) (hg : Given f L w) :
    Con Try.prog 35 [ptrTo b, str v] w (RetM w f L (fun _ L' _ => RObj 56 b (appK kRef v p) L')) := by
  obtain ⟨its, A, c, A2, c2, hi, rfl⟩ := hL
  refine enterM hv hg Try.call35 Try.func35 ?_
  have hl := RObj.len hi
  refine sg ?_
  refine ldo 0 ?_
  refine runE ?_
  refine sg ?_
  refine gtE (fun h => ?_) (fun h => ?_)
  case refine_2 =>
    have h0 : p.items = [] := List.length_eq_zero_iff.1 (by omega)
    refine cFs ?_
    refine ret0M ⟨its, A, c, A2, c2, ?_, ?_⟩
    · rw [app_ref, h0]; rw [h0] at hi; exact hi
    · rw [app_ref]
      show _ = robj 56 b its A c A2 c2 { p with items := addRef p.items v }
      rw [h0]; rw [show ({ p with items := addRef [] v } : Pack) = p by rw [addRef_nil, ← h0]]
  rcases List.eq_nil_or_concat its with e | ⟨l0, r, e⟩
  · exfalso; rw [e] at hl; simp at hl; rw [hl] at h; simp at h
  rw [List.concat_eq_append] at e
  subst e
  obtain ⟨x, A9, c9⟩ := r
  have hpi : p.items = l0.map (·.1) ++ [x] := by rw [← hi, List.map_append]; rfl
  have hln : p.items.length = l0.length + 1 := by rw [hl]; simp
  have hlim2 : x.refs.length ≤ 1000000 := hlim.2 x (by rw [hpi]; exact List.mem_append_right _ (List.mem_singleton.2 rfl))
  have hlast : ∀ j, ((l0 ++ [(x, A9, c9)]).flatMap e3)[0 + l0.length * 3 + j]? = (e3 (x, A9, c9))[j]? := e3_at l0 _
  have hput : ∀ A' c', putL ((l0 ++ [(x, A9, c9)]).flatMap e3) (0 + l0.length * 3 + 1) [.slice A' (x.refs.length + 1) c'] = (l0 ++ [((⟨x.name, x.refs ++ [v], x.tree⟩ : Item), A', c')]).flatMap e3 := fun A' c' => by
    refine e3_put _ _ _ _ rfl ?_
    show _ = Value.slice A' (x.refs ++ [v]).length c'
    rw [List.length_append]; rfl
  generalize hX : (l0 ++ [(x, A9, c9)]).flatMap e3 = X at hlast hput
  have hXl : X.length = (l0.length + 1) * 3 := by rw [← hX, flat_len e3_len]; simp
  have hN : (l0 ++ [(x, A9, c9)]).length = l0.length + 1 := by simp
  refine eperm (L' := [.blk b (.cells ⟨[str p.pre, .slice A (l0.length + 1) c, .slice A2 p.prof.length c2, i64 p.pol]⟩ 56), .row A (l0.length + 1) c 47 3 X, sRow A9 c9 x.refs] ++ (sRow A2 c2 p.prof :: l0.map rRf)) ?_ ?_
  · unfold robj pRows itR packC
    rw [hX, hN, hln, List.map_append]
    refine List.Perm.cons _ (List.Perm.cons _ ?_)
    exact (List.perm_append_comm (l₁ := sRow A2 c2 p.prof :: l0.map rRf) (l₂ := [sRow A9 c9 x.refs]))
  refine erowF 1 fun hrow => ?_
  obtain ⟨g, rfl⟩ := hrow.2.2.2.1 (by omega)
  have hli : l0.length < l0.length + 1 := by omega
  generalize hL1 : sRow A2 c2 p.prof :: l0.map rRf = L1
  refine efg [(12, .bool true), (4, i64 (l0.length + 1 : Nat)), (0, ptrTo b), (1, str v)] ([.blk b (.cells ⟨[str p.pre, .slice (some ⟨g, 0, none⟩) (l0.length + 1) c, .slice A2 p.prof.length c2, i64 p.pol]⟩ 56), .row (some ⟨g, 0, none⟩) (l0.length + 1) c 47 3 X, sRow A9 c9 x.refs] ++ L1) (fun ρ => ?_) (ha := ⟨rfl, by rw [← hln]; rfl, rfl, rfl, trivial⟩)
  refine cT ?_
  have hL : ∀ L, (HE.blk b (.cells ⟨[str p.pre, .slice (some ⟨g, 0, none⟩) (l0.length + 1) c, .slice A2 p.prof.length c2, i64 p.pol]⟩ 56)) ∈ L → HE.row (some ⟨g, 0, none⟩) (l0.length + 1) c 47 3 X ∈ L → HeldL f [.blk b (.cells ⟨[str p.pre, .slice (some ⟨g, 0, none⟩) (l0.length + 1) c, .slice A2 p.prof.length c2, i64 p.pol]⟩ 56), .row (some ⟨g, 0, none⟩) (l0.length + 1) c 47 3 X] f L := fun L h h2 => ⟨Sub.refl _, fun e he => by
    rcases List.mem_cons.1 he with rfl | he
    · exact h
    · rw [List.mem_singleton] at he; subst he; exact h2⟩
  refine eA [4, 6, 11, 13, 14, 15, 16] [.blk b (.cells ⟨[str p.pre, .slice (some ⟨g, 0, none⟩) (l0.length + 1) c, .slice A2 p.prof.length c2, i64 p.pol]⟩ 56), .row (some ⟨g, 0, none⟩) (l0.length + 1) c 47 3 X] (by simp) ?_
  refine an_takeU [0, 1, 2, 3, 5, 7, 8, 9, 10, 12, 17] ?_
  refine an_takeH [4, 6, 11, 13, 14, 15, 16] (hL _ (.head _) (.tail _ (.head _))) ?_
  refine ldo 0 ?_
  refine sub (l0.length : Int) ?_
  refine ldo 0 ?_
  refine sub (l0.length : Int) ?_
  refine ix l0.length hli ?_
  refine ldr 1 (hlast 1) ?_
  refine rw_end ?_
  refine an_run1 18 ?_
  refine bsl fun b2 => ?_
  refine aH (hL _ (.tail _ (.head _)) (.tail _ (.tail _ (.head _)))) ?_
  refine an_run1 19 ?_
  refine app 2 (fun A' c' => ?_) (hlim := by show (x.refs.length + 1) * 16 ≤ _; omega)
  refine aH (hL _ (.head _) (.tail _ (.head _))) ?_
  refine an_run1 20 ?_
  refine ix l0.length hli ?_
  refine a0 ?_
  refine an_takeU [21] ?_
  refine an_run1 22 ?_
  refine stR 1 (xs := X) (vs := [.slice A' (x.refs.length + 1) c']) (b := g) (o := 0 + l0.length * 3 + 1) (nn := l0.length + 1) (c := c) (by show 0 + l0.length * 3 + 1 + 1 ≤ _; omega) ?_
  refine a0 ?_
  refine an_done ?_
  have hputA := hput A' c'
  have hN2 : (l0 ++ [((⟨x.name, x.refs ++ [v], x.tree⟩ : Item), A', c')]).length = l0.length + 1 := by simp
  refine postL (L' := robj 56 b (l0 ++ [(⟨x.name, x.refs ++ [v], x.tree⟩, A', c')]) (some ⟨g, 0, none⟩) c A2 c2 { p with items := addRef p.items v }) (fun w hw => ?_) ?_
  · refine hw.perm ?_
    subst hL1
    unfold robj pRows itR packC
    rw [hN2, List.map_append]
    show List.Perm (_ :: HE.row _ _ _ _ _ (putL X (0 + l0.length * 3 + 1) [Value.slice A' (x.refs.length + 1) c']) :: HE.row A' (x.refs.length + 1) c' _ 1 (x.refs.map str ++ [str v]) :: (sRow A2 c2 p.prof :: l0.map rRf)) _
    rw [hputA]
    have e : (addRef p.items v).length = l0.length + 1 := by rw [addRef_len, hln]
    have e2 : HE.row A' (x.refs.length + 1) c' 9 1 (x.refs.map str ++ [str v]) = rRf ((⟨x.name, x.refs ++ [v], x.tree⟩ : Item), A', c') := by
      unfold rRf sRow
      show _ = HE.row A' (x.refs ++ [v]).length c' _ 1 ((x.refs ++ [v]).map str)
      rw [List.length_append, List.map_append]; rfl
    show List.Perm _ (HE.blk b (.cells ⟨[str p.pre, .slice _ (addRef p.items v).length c, _, _]⟩ _) :: _)
    rw [e]
    refine List.Perm.cons _ (List.Perm.cons _ ?_)
    refine List.Perm.trans (.of_eq (congrArg (· :: (sRow A2 c2 p.prof :: l0.map rRf)) e2)) ?_
    exact (List.perm_append_comm (l₁ := [rRf _]) (l₂ := sRow A2 c2 p.prof :: l0.map rRf))
  · refine ret0M ⟨l0 ++ [(⟨x.name, x.refs ++ [v], x.tree⟩, A', c')], some ⟨g, 0, none⟩, c, A2, c2, ?_, ?_⟩
    · rw [app_ref]
      show _ = addRef p.items v
      rw [hpi, addRef_snoc, List.map_append]
      rfl
    · rw [app_ref]
end Go.Hog

set_option linter.unusedVariables false
set_option linter.unusedSimpArgs false
namespace Go.Hog
open Go.RowKit Rp
section
variable {P : Program} {n : Nat} {B : Bs} {f : View} {L : List HE} {ρ : Env} {Q : Post} {K : Kon} {ops : Array Oper} {m : Md} {l l0 : List Oper} {ρ0 : Env}
variable {d : Nat} {x y : Operand} {t t2 ty e : TypeId} {pos : String} {af : Array Edge} {gd : Option (Nat × Bool)} {b o : Nat} {v : Value} {vs cs : List Value}
theorem insO {ks : List Str} {g : Str → Value} {s : Str} {ke ee : TypeId} {z : Value} (i : Nat) (hs : s ∉ ks) {u : Operand} {uv : Value} (k : RW .s P n B ops K l ρ f (L.set i (.mp b (mapF (ks ++ [s]) (updF g s uv))))) (hrun : runP P ops l0 ρ0 = (⟨none, .insert t x y u, ty, pos, af, gd⟩ :: l, ρ) := by rfl) (hg : wantedE ops ρ ⟨none, .insert t x y u, ty, pos, af, gd⟩ = true := by rfl)
    (hi : L[i]? = some (.mp b (mapF ks g)) := by rfl) (hx : ev ρ x = .map (some b) := by rfl) (hy : ev ρ y = str s := by rfl) (hu : ev ρ u = uv := by rfl) (ht : mapS P t = some (ke, ee, z) := by rfl) : RW .s P n B ops K l0 ρ0 f L := by
  refine rw_runP l0 ρ0 ?_
  rw [hrun]
  refine sw_do hg fun w hw => ?_
  obtain ⟨es, clk, hb, he⟩ : ∃ es clk, w.heap[b]? = some (.map es clk) ∧ es.toList.map (fun e => (e.key, e.val)) = mapF ks g := hw.own _ (List.mem_of_getElem? hi)
  obtain ⟨es', h1, h2⟩ := run_update_out ht hb he hs uv
  exact ⟨_, _, by simp only [execOp, hx, hy, hu, Sem.run_bind, h1, Result.andThen_ok]; rfl, .inr ⟨rfl, f, _, hw.mapped hi h2, k⟩⟩
def isFun (P : Program) (t : TypeId) : Bool := match P.underlying t with | some (.func _ _ _) => true | _ => false
theorem und_isFun (h : isFun P t = true) : ∃ a b c, P.underlying t = some (.func a b c) := by
  unfold isFun at h
  split at h
  · exact ⟨_, _, _, by assumption⟩
  · cases h
theorem run_eqlF {fn : Fn} {a b2 : Array Value} (h : isFun P t = true) (w : World) : (binOp .eql t (.func fn a b2) .nilFunc).run P w = .ok (.bool false) w := by
  obtain ⟨p1, p2, p3, hu⟩ := und_isFun h
  have h2 : (Op.equal t (.func fn a b2) .nilFunc).run P w = .ok false w := by
    unfold Op.equal Op.maxDepth
    unfold Op.equalIn
    simp only [Sem.run_bind, run_und hu, Result.andThen_ok, Sem.run_pure]
  simp only [binOp]
  simp [h2]
theorem run_eqlN (h : isFun P t = true) (w : World) : (binOp .eql t .nilFunc .nilFunc).run P w = .ok (.bool true) w := by
  obtain ⟨p1, p2, p3, hu⟩ := und_isFun h
  have h2 : (Op.equal t .nilFunc .nilFunc).run P w = .ok true w := by
    unfold Op.equal Op.maxDepth
    unfold Op.equalIn
    simp only [Sem.run_bind, run_und hu, Result.andThen_ok, Sem.run_pure]
  simp only [binOp]
  simp [h2]
theorem eqFN {fn : Fn} {a b2 : Array Value} (k : RW m P n B ops K l (up ρ d (.bool false)) f L) (hrun : runP P ops l0 ρ0 = (⟨some d, .binOp .eql t x y t2, ty, pos, af, gd⟩ :: l, ρ) := by rfl) (hg : wantedE ops ρ ⟨some d, .binOp .eql t x y t2, ty, pos, af, gd⟩ = true := by rfl)
    (hx : ev ρ x = .func fn a b2 := by rfl) (hy : ev ρ y = .nilFunc := by rfl) (he : isFun P t = true := by rfl) : RW m P n B ops K l0 ρ0 f L := by
  refine rw_runP l0 ρ0 ?_
  rw [hrun]
  exact rw_y hg (fun w hw => by
    simp [execOp, eqGuard, hx, hy, run_eqlF he]) k
theorem eqNN (k : RW m P n B ops K l (up ρ d (.bool true)) f L) (hrun : runP P ops l0 ρ0 = (⟨some d, .binOp .eql t x y t2, ty, pos, af, gd⟩ :: l, ρ) := by rfl) (hg : wantedE ops ρ ⟨some d, .binOp .eql t x y t2, ty, pos, af, gd⟩ = true := by rfl)
    (hx : ev ρ x = .nilFunc := by rfl) (hy : ev ρ y = .nilFunc := by rfl) (he : isFun P t = true := by rfl) : RW m P n B ops K l0 ρ0 f L := by
  refine rw_runP l0 ρ0 ?_
  rw [hrun]
  exact rw_y hg (fun w hw => by
    simp [execOp, eqGuard, hx, hy, run_eqlN he]) k
end
end Go.Hog

set_option linter.unusedVariables false
set_option linter.unusedSimpArgs false
set_option maxRecDepth 100000
set_option maxHeartbeats 1000000
namespace Go.Hog
open Go.RowKit Rp Go.Proofs
theorem e3_rw {g : View} {S N : Nat} (hS : S ≤ LB) (hN : N ≤ LB) : ∀ {its : List RI}, (∀ r ∈ its, (rRf r).seen g) → (∀ r ∈ its, r.1.tree = [] ∧ r.1.name.length ≤ S ∧ r.1.refs.length ≤ N ∧ ∀ s ∈ r.1.refs, s.length ≤ S) → Rw g (its.map (·.1)) (its.flatMap e3)
  | [], _, _ => Rw.nil g
  | r :: its, h1, h2 => by
    obtain ⟨a1, a2, a3, a4⟩ := h2 r (List.mem_cons_self ..)
    have hr : Sl g r.2.1 r.2.2 r.1.refs := Sl.ofTexts (h1 r (List.mem_cons_self ..)) rfl (fun s hs => Nat.le_trans (a4 s hs) hS) (Nat.le_trans a3 hN)
    have hx : rp g r.1 (e3 r) := ⟨r.2.1, r.2.2, none, 0, by rw [a1]; rfl, Nat.le_trans a2 hS, hr, by rw [a1]; exact Sl.nil g⟩
    rw [List.map_cons, List.flatMap_cons]
    exact (Rw.one hx).append (e3_rw hS hN (fun r hr => h1 r (List.mem_cons_of_mem _ hr)) (fun r hr => h2 r (List.mem_cons_of_mem _ hr)))
theorem rows_packV {g : View} {its : List RI} {A A2 : Option Addr} {c c2 S N : Nat} {p : Pack} (hs : ∀ e ∈ pRows its A c A2 c2 p, e.seen g) (hi : its.map (·.1) = p.items) (hb : bareOk p) (hd : Bd S N p) (hS : S ≤ LB) (hN : N ≤ LB) : PackV g p A c A2 c2 := by
  refine ⟨Nat.le_trans hd.pre hS, ?_, ?_, ?_⟩
  · have hr : Rw g (its.map (·.1)) (its.flatMap e3) := e3_rw hS hN (fun r hr => hs _ (List.mem_cons_of_mem _ (List.mem_cons_of_mem _ (List.mem_map.2 ⟨r, hr, rfl⟩)))) (fun r hr => by
      have hm : r.1 ∈ p.items := by rw [← hi]; exact List.mem_map.2 ⟨r, hr, rfl⟩
      exact ⟨hb _ hm, hd.item _ hm⟩)
    rw [hi] at hr
    exact hr.sl (hs _ (.head _)) (RObj.len hi).symm (Nat.le_trans hd.items hN)
  · exact Sl.ofTexts (hs _ (.tail _ (.head _))) rfl (fun s h => Nat.le_trans (hd.profs s h) hS) (Nat.le_trans hd.prof hN)
  · rcases hd.pol with h | h <;> rw [h] <;> omega
/-- What Read answers of a text. -/
def Ans (s : Str) (q : Pack) (e : Int) : Prop := (e = 0 ∧ Says s q) ∨ (e = 5 ∧ q = p0 ∧ ∀ q, ¬ Says s q)
theorem Ans.uniq {s : Str} {q q2 : Pack} {e e2 : Int} (h : Ans s q e) (h2 : Ans s q2 e2) : q = q2 ∧ e = e2 := by
  rcases h with ⟨h, hs⟩ | ⟨h, hq, hn⟩ <;> rcases h2 with ⟨h2, hs2⟩ | ⟨h2, hq2, hn2⟩
  · exact ⟨hs.uniq hs2, by rw [h, h2]⟩
  · exact absurd hs (hn2 _)
  · exact absurd hs2 (hn _)
  · exact ⟨by rw [hq, hq2], by rw [h, h2]⟩
theorem Ans.bare {s : Str} {q : Pack} {e : Int} (h : Ans s q e) : bareOk q := by
  rcases h with ⟨_, h⟩ | ⟨_, rfl, _⟩
  · exact h.2.1
  · intro x hx; cases hx
theorem says_rdg {s : Str} {q : Pack} (h : Says s q) : Rdg p0 s (some q) := by
  have := lay_reads h.1 h.2.1
  rwa [h.2.2] at this
def methK (k : Str) : Nat := if k = kPre then 32 else if k = kPol then 33 else if k = kItem then 34 else if k = kRef then 35 else 36
def methV (b : Nat) (k : Str) : Value := .func (.func (methK k)) ⟨[ptrTo b]⟩ ⟨[]⟩
theorem rMeth {w : World} {f : View} {b : Nat} {k v : Str} {p : Pack} {L : List HE} {S N : Nat} (hk : k ∈ keys5) (hd : Bd S N p) (hN : N ≤ 1000000) (hv : On f w) (hL : RObj 56 b p L) (hg : Given f L w) :
    Con Try.prog (methK k) [ptrTo b, str v] w (RetM w f L (fun _ L' _ => RObj 56 b (appK k v p) L')) := by
  simp only [keys5, List.mem_cons, List.not_mem_nil, or_false] at hk
  rcases hk with rfl | rfl | rfl | rfl | rfl
  · exact rPrefix hv hL hg
  · exact rPolicy hv hL hg
  · exact rItem (Nat.le_trans hd.items hN) hv hL hg
  · exact rRef ⟨Nat.le_trans hd.items hN, fun x hx => Nat.le_trans (hd.item x hx).2.1 hN⟩ hv hL hg
  · exact rProf (Nat.le_trans hd.prof hN) hv hL hg
def methG (b : Nat) : Str → Value := updF (updF (updF (updF (updF (fun _ => .nilFunc) kPre (methV b kPre)) kPol (methV b kPol)) kItem (methV b kItem)) kRef (methV b kRef)) kProf (methV b kProf)
theorem methG_at (b : Nat) : ∀ k ∈ keys5, methG b k = methV b k := by
  intro k hk
  simp only [keys5, List.mem_cons, List.not_mem_nil, or_false] at hk
  rcases hk with rfl | rfl | rfl | rfl | rfl <;> rfl
theorem cut_len (s u : Str) : (Lib.cut s u).1.length ≤ s.length ∧ (Lib.cut s u).2.1.length ≤ s.length := by
  unfold Lib.cut
  split
  · simp only [List.length_take, List.length_drop]; omega
  · exact ⟨Nat.le_refl _, Nat.zero_le _⟩
theorem rest_lt {s : Str} (h : s ≠ []) : (restOf s).length < s.length := by
  have h0 : 0 < s.length := List.length_pos_iff.2 h
  unfold restOf Lib.cut
  split
  · simp only [List.length_drop]
    show s.length - (_ + 1) < _
    omega
  · exact h0
theorem val_len (s : Str) : (valOf s).length ≤ s.length := Nat.le_trans (cut_len _ _).2 (cut_len _ _).1
theorem St.addNil {B : Bs} {f : View} {L : List HE} {w : World} {e : TypeId} {sz : Nat} (hw : St B f L w) : St B f (.row none 0 0 e sz [] :: L) w :=
  hw.cons (e := .row none 0 0 e sz []) (World.ownsRow_nil w 0 e sz) (fun b hb => by simp [HE.fp] at hb) (fun b hb => by simp [HE.fp] at hb) (fun b hb => by simp [HE.fp] at hb)
theorem read_fail {w : World} {f g : View} {b2 : Nat} {s : Str} {ρ : Env} (h2 : ρ 2 = ptrTo b2) (h3 : ρ 3 = i64 5) (hn : ∀ q, ¬ Says s q) :
    retQ Try.prog Try.f15 ⟨w, f, fps []⟩ (RetM w f [] fun _ L' v => ∃ its A c A2 c2 q e, v = .tuple #[.agg ⟨packC q A c A2 c2⟩, i64 e] ∧ its.map (·.1) = q.items ∧ L' = pRows its A c A2 c2 q ∧ Ans s q e ∧ Bd 1000000 1000000 q) .ret ρ g [.blk b2 (.cells ⟨packC p0 none 0 none 0⟩ 25)] :=
  retA2M 0 (pRows [] none 0 none 0 p0) (fun w hw => (hw.sublist (List.nil_sublist _)).addNil.addNil) ⟨[], none, 0, none, 0, p0, 5, rfl, rfl, rfl, .inr ⟨rfl, rfl, hn⟩, (Bd.start _).mono (Nat.zero_le _)⟩ rfl h2 rfl h3
theorem regRead {w : World} {f : View} (hv : On f w) (hm : ML f) {s : Str} (hs : s.length ≤ 1000000) :
    Con Try.prog 15 [str s] w (RetM w f [] fun _ L' v => ∃ its A c A2 c2 q e, v = .tuple #[.agg ⟨packC q A c A2 c2⟩, i64 e] ∧ its.map (·.1) = q.items ∧ L' = pRows its A c A2 c2 q ∧ Ans s q e ∧ Bd 1000000 1000000 q) := by
  refine enterM (L := []) hv (Given.nil _ _) Try.call15 Try.func15 ?_
  refine sg ?_
  refine alloc fun b2 => ?_
  refine runE ?_
  refine sg ?_
  refine bld ?_
  refine box (vs := packC p0 none 0 none 0) fun b4 => ?_
  refine runE ?_
  refine sg ?_
  refine mkmap fun bm => ?_
  refine insO 0 (ks := []) (g := fun _ => .nilFunc) (s := kPre) (by decide) ?_
  refine insO 0 (ks := [kPre]) (g := updF (fun _ => .nilFunc) kPre (methV b4 kPre)) (s := kPol) (by decide) ?_
  refine insO 0 (ks := [kPre, kPol]) (g := updF (updF (fun _ => .nilFunc) kPre (methV b4 kPre)) kPol (methV b4 kPol)) (s := kItem) (by decide) ?_
  refine insO 0 (ks := [kPre, kPol, kItem]) (g := updF (updF (updF (fun _ => .nilFunc) kPre (methV b4 kPre)) kPol (methV b4 kPol)) kItem (methV b4 kItem)) (s := kRef) (by decide) ?_
  refine insO 0 (ks := [kPre, kPol, kItem, kRef]) (g := updF (updF (updF (updF (fun _ => .nilFunc) kPre (methV b4 kPre)) kPol (methV b4 kPol)) kItem (methV b4 kItem)) kRef (methV b4 kRef)) (s := kProf) (by decide) ?_
  refine rfrz 0 fun g0 hs0 hmp => ?_
  replace hmp : (HE.mp bm (mapF keys5 (methG b4))).seen g0 := hmp
  refine nilrow 47 3 ?_
  refine nilrow 9 1 ?_
  have hmg := hm.mono hs0
  refine rperm (L' := robj 56 b4 [] none 0 none 0 p0 ++ [.blk b2 (.cells ⟨packC p0 none 0 none 0⟩ 25)]) ?_ ?_
  · unfold robj pRows itR sRow
    exact List.Perm.trans (List.perm_append_comm (l₁ := [_, _]) (l₂ := [_, _])) (.cons _ (.trans (List.perm_append_comm (l₁ := [_]) (l₂ := [_, _])) (.swap _ _ _)))
  refine runE ?_
  generalize hB2 : HE.blk b2 (.cells ⟨packC p0 none 0 none 0⟩ 25) = B2
  refine efg [(5, .map (some bm)), (4, ptrTo b4), (2, ptrTo b2), (0, str s)] (robj 56 b4 [] none 0 none 0 p0 ++ [B2]) (fun ρ => ?_)
  refine sqJ (σ := Pack × List HE × View) (fun x => [(4, ptrTo b4), (2, ptrTo b2), (0, str s)]) (fun x => x.2.2) (fun x => x.2.1 ++ [B2]) (fun x => RObj 56 b4 x.1 x.2.1 ∧ Sub g0 x.2.2 ∧ Rdg p0 s (some x.1) ∧ Bd s.length s.length x.1 ∧ bareOk x.1) ?_ ?_
  · refine sgE (bk ?_)
    refine lp (σ := Str × Pack × List HE × View) (fun x => [(6, str x.1), (5, .map (some bm)), (4, ptrTo b4), (2, ptrTo b2), (0, str s)]) (fun x => x.2.2.2) (fun x => x.2.2.1 ++ [B2]) (fun x => RObj 56 b4 x.2.1 x.2.2.1 ∧ Sub g0 x.2.2.2 ∧ (∀ o, Rdg x.2.1 x.1 o → Rdg p0 s o) ∧ x.1.length ≤ s.length ∧ Bd s.length (s.length - x.1.length) x.2.1 ∧ bareOk x.2.1) (fun x => x.1.length) (s, p0, robj 56 b4 [] none 0 none 0 p0, g0) ⟨⟨[], none, 0, none, 0, rfl, rfl⟩, Sub.refl _, fun o h => h, Nat.le_refl _, by rw [Nat.sub_self]; exact Bd.start _, fun x hx => by cases hx⟩ ?_
    rintro ⟨r, p, L, g⟩ ρ ⟨hL, hsg, hrd, hrl, hbd, hbo⟩
    replace hL : RObj 56 b4 p L := hL
    replace hsg : Sub g0 g := hsg
    replace hrd : ∀ o, Rdg p r o → Rdg p0 s o := hrd
    replace hrl : r.length ≤ s.length := hrl
    replace hbd : Bd s.length (s.length - r.length) p := hbd
    replace hbo : bareOk p := hbo
    refine sq (sg ?_)
    refine neSE (fun h0 => ?_) (fun h0 => ?_)
    case refine_2 =>
      have h0' : r = [] := by
        by_cases e : r = []
        · exact e
        · exact absurd e h0
      refine cFx ?_
      refine jn (p, L, g) ⟨hL, hsg, hrd _ (by rw [h0']; exact .done p), hbd.mono (by omega), hbo⟩
    refine cTs (bk ?_)
    refine sgE (sg ?_)
    refine callV (vs := [str r, str [10]]) (.tuple #[str (Lib.cut r [10]).1, str (Lib.cut r [10]).2.1, .bool (Lib.cut r [10]).2.2]) (fun w g' h1 h2 h3 => cutC h3 ((hmg.mono hsg).mono h1) (by omega)) ?_
    refine runE ?_
    have hll := (cut_len r [10]).1
    have hvl := val_len r
    have hlt : (restOf r).length < r.length := rest_lt h0
    refine efg [(7, str (lineOf r)), (6, str (restOf r)), (5, .map (some bm)), (4, ptrTo b4), (2, ptrTo b2), (0, str s)] (L ++ [B2]) (fun ρ => ?_)
    refine sg ?_
    refine callV (vs := [str (lineOf r), str [32]]) (.tuple #[str (keyOf r), str (valOf r), .bool (Lib.cut (lineOf r) [32]).2.2]) (fun w g' h1 h2 h3 => cutC h3 ((hmg.mono hsg).mono h1) (by have : (lineOf r).length ≤ r.length := hll; omega)) ?_
    refine runE ?_
    refine efg [(9, str (valOf r)), (8, str (keyOf r)), (6, str (restOf r)), (5, .map (some bm)), (4, ptrTo b4), (2, ptrTo b2), (0, str s)] (L ++ [B2]) (fun ρ => ?_)
    have hno : (¬ (keyOf r ∈ keys5 ∧ p.items.length ≤ 8)) → ∀ q, ¬ Says s q := fun h q hq => by
      have := (says_rdg hq).det (hrd none (.fail h0 h))
      cases this
    have hmpg : (HE.mp bm (mapF keys5 (methG b4))).seen g := by
      obtain ⟨es, clk, hf, he⟩ := hmp
      exact ⟨es, clk, hsg _ _ hf, he⟩
    by_cases hk : keyOf r ∈ keys5
    case neg =>
      refine sg ?_
      refine lkVO (ks := keys5) (g := methG b4) (s := keyOf r) (b := bm) hmpg hk ?_
      refine runE ?_
      refine efg [(11, .nilFunc), (4, ptrTo b4), (2, ptrTo b2)] (L ++ [B2]) (fun ρ => ?_)
      refine sq (sg ?_)
      refine eqNN ?_
      refine runE ?_
      refine cT (sg ?_)
      refine bld ?_
      subst hB2
      refine rwL (L' := [.blk b2 (.cells ⟨packC p0 none 0 none 0⟩ 25)]) (fun _ h => h.sublist (List.sublist_append_right _ _)) ?_
      refine st 0 ?_
      refine runE ?_
      refine ew_ret ?_
      exact read_fail rfl rfl (hno fun h => hk h.1)
    refine sg ?_
    refine lkVI (ks := keys5) (g := methG b4) (s := keyOf r) (b := bm) hmpg hk ?_
    rw [methG_at b4 _ hk]
    refine runE ?_
    refine efg [(11, methV b4 (keyOf r)), (9, str (valOf r)), (6, str (restOf r)), (5, .map (some bm)), (4, ptrTo b4), (2, ptrTo b2), (0, str s)] (L ++ [B2]) (fun ρ => ?_)
    refine sqJ (σ := Unit) (fun _ => [(11, methV b4 (keyOf r)), (9, str (valOf r)), (6, str (restOf r)), (5, .map (some bm)), (4, ptrTo b4), (2, ptrTo b2), (0, str s)]) (fun _ => g) (fun _ => L ++ [B2]) (fun _ => p.items.length ≤ 8) ?_ ?_
    · refine sg ?_
      refine eqFN ?_
      obtain ⟨its, A, c, A2, c2, hi, rfl⟩ := hL
      refine ldo 0 ?_
      refine gt (fun h8 => ?_) (fun h8 => ?_)
      · refine runE ?_
        refine cT (sg ?_)
        refine bld ?_
        subst hB2
        refine rwL (L' := [.blk b2 (.cells ⟨packC p0 none 0 none 0⟩ 25)]) (fun _ h => h.sublist (List.sublist_append_right _ _)) ?_
        refine st 0 ?_
        refine runE ?_
        refine ew_ret ?_
        exact read_fail rfl rfl (hno fun h => by have := h.2; omega)
      · refine runE ?_
        refine cFs ?_
        exact jn () (by omega) (ha := ⟨rfl, rfl, rfl, rfl, rfl, rfl, rfl, trivial⟩)
    · rintro ⟨⟩ ρ h8
      replace h8 : p.items.length ≤ 8 := h8
      refine rg ?_
      refine callMF (vs := [str (valOf r)]) (fi := [ptrTo b4]) (ca := []) (tot := [ptrTo b4, str (valOf r)]) L [B2] (fun w' hon hgi => rMeth hk hbd (by omega) hon hL hgi) (fun v g1 L1 hs1 hR => ?_)
      refine runE ?_
      have hr2 : (restOf r).length ≤ s.length := by omega
      refine nxs (restOf r, appK (keyOf r) (valOf r) p, L1, g1) ⟨hR, hsg.trans hs1, fun o ho => hrd o (.step h0 ⟨hk, h8⟩ ho), hr2, (hbd.app (by omega)).mono (show s.length - r.length + 1 ≤ s.length - (restOf r).length by omega), app_bare hbo⟩ (by show (restOf r).length < r.length; exact hlt)
  rintro ⟨p, L, g⟩ ρ ⟨hL, hsg, hrd, hbd, hbo⟩
  replace hL : RObj 56 b4 p L := hL
  replace hsg : Sub g0 g := hsg
  replace hrd : Rdg p0 s (some p) := hrd
  replace hbd : Bd s.length s.length p := hbd
  replace hbo : bareOk p := hbo
  obtain ⟨its, A, c, A2, c2, hi, rfl⟩ := hL
  have hno : ¬ (mayP p ∧ layT p = s) → ∀ q, ¬ Says s q := fun h q hq => by
    have := (says_rdg hq).det hrd
    injection this with this
    subst this
    exact h ⟨hq.1, hq.2.2⟩
  refine sqJ (σ := Unit) (fun _ => [(4, ptrTo b4), (2, ptrTo b2)]) (fun _ => g) (fun _ => robj 56 b4 its A c A2 c2 p ++ [B2]) (fun _ => mayP p ∧ layT p = s) ?_ ?_
  · refine sg ?_
    refine ldoA 0 ?_
    refine callMo (vs := [.agg ⟨packC p A c A2 c2⟩]) (R := fun L' v => v = .tuple #[str (layS p), i64 (layE p)] ∧ L' = []) (fun w' g' h1 h2 h3 => regLay h3 ((hmg.mono hsg).mono h1) (rows_packV (fun e he => h2 e (List.mem_append_left _ (List.mem_cons_of_mem _ he))) hi hbo hbd (by show s.length ≤ 140737488355328; omega) (by show s.length ≤ 140737488355328; omega)) (Nat.le_trans hbd.items hs)) (fun v L' hR => ?_)
    obtain ⟨rfl, rfl⟩ := hR
    refine runE ?_
    refine efg [(13, i64 (layE p)), (12, str (layS p)), (4, ptrTo b4), (2, ptrTo b2), (0, str s)] (robj 56 b4 its A c A2 c2 p ++ [B2]) (fun ρ => ?_)
    refine sg ?_
    refine neI (fun h1 => ?_) (fun h1 => ?_)
    · refine runE ?_
      refine cT (sg ?_)
      refine bld ?_
      subst hB2
      refine rwL (L' := [.blk b2 (.cells ⟨packC p0 none 0 none 0⟩ 25)]) (fun _ h => h.sublist (List.sublist_append_right _ _)) ?_
      refine st 0 ?_
      refine runE ?_
      refine ew_ret ?_
      exact read_fail rfl rfl (hno fun h => h1 (if_pos h.1))
    have hmay : mayP p := by
      by_cases e : mayP p
      · exact e
      · exact absurd (show layE p ≠ 0 by unfold layE; rw [if_neg e]; decide) h1
    refine neS (fun h2 => ?_) (fun h2 => ?_)
    · refine runE ?_
      refine cT (sg ?_)
      refine bld ?_
      subst hB2
      refine rwL (L' := [.blk b2 (.cells ⟨packC p0 none 0 none 0⟩ 25)]) (fun _ h => h.sublist (List.sublist_append_right _ _)) ?_
      refine st 0 ?_
      refine runE ?_
      refine ew_ret ?_
      exact read_fail rfl rfl (hno fun h => h2 (by rw [show layS p = layT p from if_pos hmay]; exact h.2))
    · have h2' : layT p = s := by
        by_cases e : layT p = s
        · exact e
        · exact absurd (show layS p ≠ s by rw [show layS p = layT p from if_pos hmay]; exact e) h2
      refine runE ?_
      refine cFs ?_
      exact jn () ⟨hmay, h2'⟩
  rintro ⟨⟩ ρ ⟨hmay, hlt⟩
  refine sg ?_
  refine ldoA 0 ?_
  subst hB2
  refine rperm (L' := .blk b4 (.cells ⟨packC p A c A2 c2⟩ 56) :: .blk b2 (.cells ⟨packC p0 none 0 none 0⟩ 25) :: pRows its A c A2 c2 p) (.cons _ (List.perm_append_comm (l₁ := pRows its A c A2 c2 p) (l₂ := [_]))) ?_
  refine st 1 ?_
  refine runE ?_
  refine ew_ret ?_
  exact retA2M 1 (pRows its A c A2 c2 p) (fun w hw => hw.sublist (.cons _ (.cons _ (List.Sublist.refl _)))) ⟨its, A, c, A2, c2, p, 0, rfl, hi, rfl, .inl ⟨rfl, hmay, hbo, hlt⟩, hbd.wide hs hs⟩
end Go.Hog

set_option linter.unusedVariables false
set_option linter.unusedSimpArgs false
set_option maxRecDepth 100000
set_option maxHeartbeats 1000000
namespace Go.Hog
open Go.RowKit Rp Go.Proofs
def aftS (l k : Str) : Str := if k.isPrefixOf l then l.drop k.length else []
theorem refAfter {w : World} {f : View} (hv : On f w) {l k : Str} (hl : l.length ≤ 9223372036854775807) :
    Con Try.prog 38 [str l, str k] w (Ret w f fun _ v => v = .tuple #[str (aftS l k), .bool (k.isPrefixOf l)]) := by
  refine enterC hv Try.call38 Try.func38 ?_
  refine sgE ?_
  have hN : k.isPrefixOf l = false → aftS l k = [] := fun h => by unfold aftS; rw [h]; rfl
  refine sq (sg ?_)
  refine lt (fun h => ?_) (fun h => ?_)
  · refine runE ?_
    refine cT (sgE ?_)
    refine ew_ret ?_
    have e : k.isPrefixOf l = false := by
      rw [← Bool.not_eq_true]
      intro h2
      have := (List.isPrefixOf_iff_prefix.1 h2).length_le
      omega
    refine ret2 (show Value.tuple #[str [], .bool false] = _ from ?_)
    rw [hN e, e]
  have hk : k.length ≤ l.length := by omega
  refine slSH k.length hk ?_
  refine neS (fun h2 => ?_) (fun h2 => ?_)
  · refine runE ?_
    refine cT (sgE ?_)
    refine ew_ret ?_
    have e : k.isPrefixOf l = false := by
      rw [← Bool.not_eq_true]
      intro h3
      exact h2 (List.prefix_iff_eq_take.1 (List.isPrefixOf_iff_prefix.1 h3)).symm
    refine ret2 (show Value.tuple #[str [], .bool false] = _ from ?_)
    rw [hN e, e]
  · have h2' : l.take k.length = k := by
      by_cases e : l.take k.length = k
      · exact e
      · exact absurd e h2
    have e : k.isPrefixOf l = true := List.isPrefixOf_iff_prefix.2 (List.prefix_iff_eq_take.2 h2'.symm)
    refine runE ?_
    refine cFs ?_
    refine sg ?_
    refine slSL k.length hk ?_
    refine runE ?_
    refine ew_ret ?_
    refine ret2 (show Value.tuple #[str (l.drop k.length), .bool true] = _ from ?_)
    unfold aftS
    rw [e]; rfl
end Go.Hog

set_option linter.unusedVariables false
set_option linter.unusedSimpArgs false
set_option maxRecDepth 100000
set_option maxHeartbeats 1000000
namespace Go.Hog
open Go.RowKit Rp Go.Proofs
theorem item_perm {T : TypeId} {b : Nat} {its : List RI} {A2 : Option Addr} {c2 : Nat} {p : Pack} {v : Str} (A' : Option Addr) (c' : Nat) (hl : p.items.length = its.length) :
    (sRow none 0 [] :: HE.blk b (.cells ⟨[str p.pre, .slice A' (its.length + 1) c', .slice A2 p.prof.length c2, i64 p.pol]⟩ T) :: .row A' (its.length + 1) c' 47 3 (its.flatMap e3 ++ [str v, .slice none 0 0, .slice none 0 0]) :: sRow A2 c2 p.prof :: its.map rRf).Perm (robj T b (its ++ [(⟨v, [], []⟩, none, 0)]) A' c' A2 c2 { p with items := p.items ++ [⟨v, [], []⟩] }) := by
  unfold robj pRows itR
  rw [List.map_append, List.length_append, List.flatMap_append]
  have e : packC { p with items := p.items ++ [⟨v, [], []⟩] } A' c' A2 c2 = [str p.pre, .slice A' (its.length + 1) c', .slice A2 p.prof.length c2, i64 p.pol] := by
    unfold packC
    show [_, Value.slice A' (p.items ++ [_]).length c', _, _] = _
    rw [List.length_append]
    show [_, Value.slice A' (p.items.length + 1) c', _, _] = _
    rw [hl]
  rw [e]
  refine List.Perm.trans (List.perm_append_comm (l₁ := [_]) (l₂ := _)) ?_
  exact List.Perm.refl _
theorem ref_open {T : TypeId} {b : Nat} {l0 : List RI} {x : Item} {A9 : Option Addr} {c9 : Nat} {A A2 : Option Addr} {c c2 : Nat} {p : Pack} (hln : p.items.length = l0.length + 1) :
    (robj T b (l0 ++ [(x, A9, c9)]) A c A2 c2 p).Perm (.blk b (.cells ⟨[str p.pre, .slice A (l0.length + 1) c, .slice A2 p.prof.length c2, i64 p.pol]⟩ T) :: .row A (l0.length + 1) c 47 3 ((l0 ++ [(x, A9, c9)]).flatMap e3) :: sRow A9 c9 x.refs :: sRow A2 c2 p.prof :: l0.map rRf) := by
  have hN : (l0 ++ [(x, A9, c9)]).length = l0.length + 1 := by simp
  unfold robj pRows itR packC
  rw [hN, hln, List.map_append]
  refine List.Perm.cons _ (List.Perm.cons _ ?_)
  exact (List.perm_append_comm (l₁ := sRow A2 c2 p.prof :: l0.map rRf) (l₂ := [sRow A9 c9 x.refs]))
theorem ref_perm {T : TypeId} {b : Nat} {l0 : List RI} {x : Item} {A : Option Addr} {c c2 : Nat} {A2 : Option Addr} {p : Pack} {v : Str} (A' : Option Addr) (c' : Nat) {X : List Value} (hln : p.items.length = l0.length + 1) (hX : X = (l0 ++ [((⟨x.name, x.refs ++ [v], x.tree⟩ : Item), A', c')]).flatMap e3) :
    (HE.blk b (.cells ⟨[str p.pre, .slice A (l0.length + 1) c, .slice A2 p.prof.length c2, i64 p.pol]⟩ T) :: .row A (l0.length + 1) c 47 3 X :: .row A' (x.refs.length + 1) c' 9 1 (x.refs.map str ++ [str v]) :: sRow A2 c2 p.prof :: l0.map rRf).Perm (robj T b (l0 ++ [(⟨x.name, x.refs ++ [v], x.tree⟩, A', c')]) A c A2 c2 { p with items := addRef p.items v }) := by
  have hN2 : (l0 ++ [((⟨x.name, x.refs ++ [v], x.tree⟩ : Item), A', c')]).length = l0.length + 1 := by simp
  unfold robj pRows itR packC
  rw [hN2, List.map_append, hX]
  have e : (addRef p.items v).length = l0.length + 1 := by rw [addRef_len, hln]
  have e2 : HE.row A' (x.refs.length + 1) c' 9 1 (x.refs.map str ++ [str v]) = rRf ((⟨x.name, x.refs ++ [v], x.tree⟩ : Item), A', c') := by
    unfold rRf sRow
    show _ = HE.row A' (x.refs ++ [v]).length c' _ 1 ((x.refs ++ [v]).map str)
    rw [List.length_append, List.map_append]; rfl
  show List.Perm _ (HE.blk b (.cells ⟨[str p.pre, .slice _ (addRef p.items v).length c, _, _]⟩ _) :: _)
  rw [e]
  refine List.Perm.cons _ (List.Perm.cons _ ?_)
  refine List.Perm.trans (.of_eq (congrArg (· :: (sRow A2 c2 p.prof :: l0.map rRf)) e2)) ?_
  exact (List.perm_append_comm (l₁ := [rRf _]) (l₂ := sRow A2 c2 p.prof :: l0.map rRf))
theorem prof_eq {T : TypeId} {b : Nat} {its : List RI} {A : Option Addr} {c : Nat} {p : Pack} {v : Str} (A' : Option Addr) (c' : Nat) :
    (HE.blk b (.cells ⟨[str p.pre, .slice A p.items.length c, .slice A' (p.prof.length + 1) c', i64 p.pol]⟩ T) :: itR A c its :: .row A' (p.prof.length + 1) c' 9 1 (p.prof.map str ++ [str v]) :: its.map rRf) = robj T b its A c A' c' { p with prof := p.prof ++ [v] } := by
  unfold robj pRows sRow packC
  show _ = HE.blk b (.cells ⟨[_, _, .slice A' (p.prof ++ [v]).length c', _]⟩ _) :: _ :: HE.row A' (p.prof ++ [v]).length c' _ 1 ((p.prof ++ [v]).map str) :: _
  rw [List.length_append, List.map_append]
  rfl
theorem refread_fail {w : World} {f g : View} {b2 : Nat} {s : Str} {ρ : Env} (h2 : ρ 2 = ptrTo b2) (h3 : ρ 3 = i64 5) (hn : ∀ q, ¬ Says s q) :
    retQ Try.prog Try.f16 ⟨w, f, fps []⟩ (RetM w f [] fun _ L' v => ∃ its A c A2 c2 q e, v = .tuple #[.agg ⟨packC q A c A2 c2⟩, i64 e] ∧ its.map (·.1) = q.items ∧ L' = pRows its A c A2 c2 q ∧ Ans s q e ∧ Bd 1000000 1000000 q) .ret ρ g [.blk b2 (.cells ⟨packC p0 none 0 none 0⟩ 25)] :=
  retA2M 0 (pRows [] none 0 none 0 p0) (fun w hw => (hw.sublist (List.nil_sublist _)).addNil.addNil) ⟨[], none, 0, none, 0, p0, 5, rfl, rfl, rfl, .inr ⟨rfl, rfl, hn⟩, (Bd.start _).mono (Nat.zero_le _)⟩ rfl h2 rfl h3
theorem stepK_yes {k l : Str} {p : Pack} (h : (keyS k).isPrefixOf l = true) : stepK k l p = appK k (aftS l (keyS k)) p := by
  unfold stepK aftS; rw [h]; rfl
theorem refRead {w : World} {f : View} (hv : On f w) {s : Str} (hs : s.length ≤ 10000) :
    Con Try.prog 16 [str s] w (RetM w f [] fun _ L' v => ∃ its A c A2 c2 q e, v = .tuple #[.agg ⟨packC q A c A2 c2⟩, i64 e] ∧ its.map (·.1) = q.items ∧ L' = pRows its A c A2 c2 q ∧ Ans s q e ∧ Bd 1000000 1000000 q) := by
  refine enterM (L := []) hv (Given.nil _ _) Try.call16 Try.func16 ?_
  refine sg ?_
  refine alloc fun b2 => ?_
  refine runE ?_
  refine sg ?_
  refine alloc fun b4 => ?_
  refine nilrow 47 3 ?_
  refine nilrow 9 1 ?_
  refine rperm (L' := robj 25 b4 [] none 0 none 0 p0 ++ [.blk b2 (.cells ⟨packC p0 none 0 none 0⟩ 25)]) ?_ ?_
  · unfold robj pRows itR sRow
    exact List.Perm.trans (List.perm_append_comm (l₁ := [_, _]) (l₂ := [_, _])) (.cons _ (.trans (List.perm_append_comm (l₁ := [_]) (l₂ := [_, _])) (.swap _ _ _)))
  refine runE ?_
  generalize hB2 : HE.blk b2 (.cells ⟨packC p0 none 0 none 0⟩ 25) = B2
  refine sgE ?_
  refine efg [(5, i64 0), (4, ptrTo b4), (2, ptrTo b2), (0, str s)] (robj 25 b4 [] none 0 none 0 p0 ++ [B2]) (fun ρ => ?_)
  refine sqJ (σ := Pack × List HE) (fun x => [(4, ptrTo b4), (2, ptrTo b2), (0, str s)]) (fun _ => f) (fun x => x.2 ++ [B2]) (fun x => RObj 25 b4 x.1 x.2 ∧ x.1 = rdB [] p0 s ∧ Bd s.length 50000 x.1 ∧ bareOk x.1) ?_ ?_
  · refine sgE (bk ?_)
    refine lp (σ := Nat × Nat × Pack × List HE) (fun x => [(6, i64 x.1), (5, i64 x.2.1), (4, ptrTo b4), (2, ptrTo b2), (0, str s)]) (fun _ => f) (fun x => x.2.2.2 ++ [B2]) (fun x => RObj 25 b4 x.2.2.1 x.2.2.2 ∧ x.2.1 ≤ x.1 ∧ x.1 ≤ s.length ∧ rdB ((s.take x.1).drop x.2.1) x.2.2.1 (s.drop x.1) = rdB [] p0 s ∧ Bd s.length (5 * x.1) x.2.2.1 ∧ bareOk x.2.2.1) (fun x => s.length - x.1) (0, 0, p0, robj 25 b4 [] none 0 none 0 p0) ⟨⟨[], none, 0, none, 0, rfl, rfl⟩, Nat.le_refl _, Nat.zero_le _, rfl, Bd.start _, fun x hx => by cases hx⟩ ?_
    rintro ⟨i, st0, p, L⟩ ρ ⟨hL, hst, hi, hrd, hbd, hbo⟩
    replace hL : RObj 25 b4 p L := hL
    replace hst : st0 ≤ i := hst
    replace hi : i ≤ s.length := hi
    replace hrd : rdB ((s.take i).drop st0) p (s.drop i) = rdB [] p0 s := hrd
    replace hbd : Bd s.length (5 * i) p := hbd
    replace hbo : bareOk p := hbo
    refine sq (sg ?_)
    refine lt (fun h0 => ?_) (fun h0 => ?_)
    case refine_2 =>
      refine runE ?_
      have e : i = s.length := by omega
      refine cFx ?_
      refine jn (p, L) ⟨hL, ?_, hbd.mono (by omega), hbo⟩
      rw [← hrd, e, List.drop_length]; rfl
    have hi1 : i < s.length := by omega
    refine le (fun h1 => ?_) (fun h1 => ?_)
    case refine_2 => exact absurd (show (s.length : Int) ≤ 10000 by omega) h1
    refine runE ?_
    have hdr : s.drop i = s[i] :: s.drop (i + 1) := List.drop_eq_getElem_cons hi1
    have htk : (s.take (i + 1)).drop st0 = (s.take i).drop st0 ++ [s[i]] := by
      rw [(List.take_append_getElem hi1).symm, List.drop_append_of_le_length (by rw [List.length_take]; omega)]
    have hcs : s[i]? = some s[i] := List.getElem?_eq_getElem hi1
    generalize hc : s[i] = ch at hdr htk hcs
    rw [hdr] at hrd
    refine cTs (bkJ (σ := Nat × Pack × List HE) (fun x => [(6, i64 i), (5, i64 x.1), (4, ptrTo b4), (2, ptrTo b2), (0, str s)]) (fun _ => f) (fun x => x.2.2 ++ [B2]) (fun x => RObj 25 b4 x.2.1 x.2.2 ∧ x.1 ≤ i + 1 ∧ rdB ((s.take (i + 1)).drop x.1) x.2.1 (s.drop (i + 1)) = rdB [] p0 s ∧ Bd s.length (5 * (i + 1)) x.2.1 ∧ bareOk x.2.1) ?_ ?_)
    case refine_2 =>
      rintro ⟨st1, p1, L1⟩ ρ ⟨hL, hst, hrd, hbd, hbo⟩
      refine rg ?_
      refine addE ((i + 1 : Nat) : Int) ?_
      exact nxs (i + 1, st1, p1, L1) ⟨hL, hst, hi1, hrd, hbd, hbo⟩ (by show s.length - (i + 1) < s.length - i; omega)
    refine sq (sg ?_)
    refine ixS i ch hcs ?_
    refine neI (fun h10 => ?_) (fun h10 => ?_)
    · refine runE ?_
      refine cTx ?_
      have hne : ch ≠ 10 := fun e => h10 (by rw [e]; rfl)
      refine jn (st0, p, L) ⟨hL, by omega, ?_, hbd.mono (by omega), hbo⟩
      rw [← hrd, htk]
      show _ = if ch = 10 then _ else _
      rw [if_neg hne]
    have he : ch = 10 := by
      by_cases e : ch = 10
      · exact e
      · exact absurd (fun h2 : (ch.toNat : Int) = 10 => e (UInt8.toNat_inj.1 (by show ch.toNat = 10; omega))) h10
    subst he
    refine runE ?_
    refine cFs ?_
    refine sg ?_
    refine slSB st0 i hst hi ?_
    refine runE ?_
    generalize hl : (s.take i).drop st0 = l at hrd
    have hll : l.length ≤ s.length := by rw [← hl, List.length_drop, List.length_take]; omega
    replace hrd : rdB [] (stepL l p) (s.drop (i + 1)) = rdB [] p0 s := hrd
    have hend : ∀ L', RObj 25 b4 (stepL l p) L' → RObj 25 b4 (stepL l p) L' ∧ i + 1 ≤ i + 1 ∧ rdB ((s.take (i + 1)).drop (i + 1)) (stepL l p) (s.drop (i + 1)) = rdB [] p0 s ∧ Bd s.length (5 * (i + 1)) (stepL l p) ∧ bareOk (stepL l p) := fun L' h => ⟨h, Nat.le_refl _, by rw [List.drop_eq_nil_of_le (by rw [List.length_take]; omega)]; exact hrd, (stepL_bd hbd hll).mono (by omega), stepL_bare hbo⟩
    have hb2 : Bd s.length 60000 (step2 l p) := (stepK_bd (stepK_bd hbd hll) hll).mono (by omega)
    have hb3 : Bd s.length 60000 (step3 l p) := (stepK_bd (stepK_bd (stepK_bd hbd hll) hll) hll).mono (by omega)
    have hb4 : Bd s.length 60000 (step4 l p) := (stepK_bd (stepK_bd (stepK_bd (stepK_bd hbd hll) hll) hll) hll).mono (by omega)
    have ee1 : ((keyS kPre).isPrefixOf l = true → step1 l p = appK kPre (aftS l (keyS kPre)) p) ∧ ((keyS kPre).isPrefixOf l = false → step1 l p = p) := ⟨stepK_yes, stepK_not⟩
    have ee2 : ((keyS kPol).isPrefixOf l = true → step2 l p = appK kPol (aftS l (keyS kPol)) (step1 l p)) ∧ ((keyS kPol).isPrefixOf l = false → step2 l p = step1 l p) := ⟨stepK_yes, stepK_not⟩
    have ee3 : ((keyS kItem).isPrefixOf l = true → step3 l p = appK kItem (aftS l (keyS kItem)) (step2 l p)) ∧ ((keyS kItem).isPrefixOf l = false → step3 l p = step2 l p) := ⟨stepK_yes, stepK_not⟩
    have ee4 : ((keyS kRef).isPrefixOf l = true → step4 l p = appK kRef (aftS l (keyS kRef)) (step3 l p)) ∧ ((keyS kRef).isPrefixOf l = false → step4 l p = step3 l p) := ⟨stepK_yes, stepK_not⟩
    have ee5 : ((keyS kProf).isPrefixOf l = true → stepL l p = appK kProf (aftS l (keyS kProf)) (step4 l p)) ∧ ((keyS kProf).isPrefixOf l = false → stepL l p = step4 l p) := ⟨stepK_yes, stepK_not⟩
    clear hrd hbd htk hdr hcs hbo
    generalize step1 l p = p1 at ee1 ee2
    generalize step2 l p = p2 at ee2 ee3 hb2
    generalize step3 l p = p3 at ee3 ee4 hb3
    generalize step4 l p = p4 at ee4 ee5 hb4
    generalize stepL l p = p5 at ee5 hend
    refine sg ?_
    refine addE ((i + 1 : Nat) : Int) ?_
    refine efg [(7, str l), (6, i64 i), (5, i64 (i + 1 : Nat)), (4, ptrTo b4), (2, ptrTo b2), (0, str s)] (L ++ [B2]) (fun ρ => ?_)
    refine sg ?_
    refine callV (vs := [str l, str (keyS kPre)]) (.tuple #[str (aftS l (keyS kPre)), .bool ((keyS kPre).isPrefixOf l)]) (fun w g' h1 h2 h3 => refAfter h3 (by omega)) ?_
    refine runE ?_
    generalize hv : aftS l (keyS kPre) = v at ee1
    generalize (keyS kPre).isPrefixOf l = bb at ee1
    refine efg [(9, .bool bb), (8, str v), (7, str l), (6, i64 i), (5, i64 (i + 1 : Nat)), (4, ptrTo b4), (2, ptrTo b2), (0, str s)] (L ++ [B2]) (fun ρ => ?_) (ha := ⟨rfl, rfl, rfl, rfl, rfl, rfl, rfl, rfl, trivial⟩)
    refine sqJ (σ := List HE) (fun _ => [(7, str l), (6, i64 i), (5, i64 (i + 1 : Nat)), (4, ptrTo b4), (2, ptrTo b2), (0, str s)]) (fun _ => f) (fun L => L ++ [B2]) (fun L => RObj 25 b4 p1 L) ?_ ?_
    · obtain ⟨its, A, c, A2, c2, hm, rfl⟩ := hL
      refine sgE ?_
      cases bb with
      | true =>
        refine cT (rg ?_)
        refine st 0 ?_
        refine runE ?_
        exact jn (robj 25 b4 its A c A2 c2 { p with pre := v }) ⟨its, A, c, A2, c2, by rw [ee1.1 rfl, app_pre]; exact hm, by rw [ee1.1 rfl, app_pre]⟩
      | false =>
        refine cFs ?_
        exact jn _ ⟨its, A, c, A2, c2, by rw [ee1.2 rfl]; exact hm, by rw [ee1.2 rfl]⟩
    rintro L ρ hL
    replace hL : RObj 25 b4 p1 L := hL
    refine efg [(7, str l), (6, i64 i), (5, i64 (i + 1 : Nat)), (4, ptrTo b4), (2, ptrTo b2), (0, str s)] (L ++ [B2]) (fun ρ => ?_)
    refine sg ?_
    refine callV (vs := [str l, str (keyS kPol)]) (.tuple #[str (aftS l (keyS kPol)), .bool ((keyS kPol).isPrefixOf l)]) (fun w g' h1 h2 h3 => refAfter h3 (by omega)) ?_
    refine runE ?_
    generalize hv : aftS l (keyS kPol) = v at ee2
    generalize (keyS kPol).isPrefixOf l = bb at ee2
    refine efg [(9, .bool bb), (8, str v), (7, str l), (6, i64 i), (5, i64 (i + 1 : Nat)), (4, ptrTo b4), (2, ptrTo b2), (0, str s)] (L ++ [B2]) (fun ρ => ?_) (ha := ⟨rfl, rfl, rfl, rfl, rfl, rfl, rfl, rfl, trivial⟩)
    refine sqJ (σ := List HE) (fun _ => [(7, str l), (6, i64 i), (5, i64 (i + 1 : Nat)), (4, ptrTo b4), (2, ptrTo b2), (0, str s)]) (fun _ => f) (fun L => L ++ [B2]) (fun L => RObj 25 b4 p2 L) ?_ ?_
    · obtain ⟨its, A, c, A2, c2, hm, rfl⟩ := hL
      cases bb with
      | true =>
        refine sg ?_
        refine eqS (fun h => ?_) (fun h => ?_)
        · refine runE ?_
          refine cT (rg ?_)
          refine st 0 ?_
          refine runE ?_
          exact jn (robj 25 b4 its A c A2 c2 { p1 with pol := 1 }) ⟨its, A, c, A2, c2, by rw [ee2.1 rfl, app_pol, if_pos h]; exact hm, by rw [ee2.1 rfl, app_pol, if_pos h]⟩
        · refine runE ?_
          refine cFs ?_
          exact jn _ ⟨its, A, c, A2, c2, by rw [ee2.1 rfl, app_pol, if_neg h]; exact hm, by rw [ee2.1 rfl, app_pol, if_neg h]⟩
      | false =>
        refine sgE ?_
        refine cFs ?_
        exact jn _ ⟨its, A, c, A2, c2, by rw [ee2.2 rfl]; exact hm, by rw [ee2.2 rfl]⟩
    rintro L ρ hL
    replace hL : RObj 25 b4 p2 L := hL
    refine efg [(7, str l), (6, i64 i), (5, i64 (i + 1 : Nat)), (4, ptrTo b4), (2, ptrTo b2), (0, str s)] (L ++ [B2]) (fun ρ => ?_)
    refine sg ?_
    refine callV (vs := [str l, str (keyS kItem)]) (.tuple #[str (aftS l (keyS kItem)), .bool ((keyS kItem).isPrefixOf l)]) (fun w g' h1 h2 h3 => refAfter h3 (by omega)) ?_
    refine runE ?_
    generalize hv : aftS l (keyS kItem) = v at ee3
    generalize (keyS kItem).isPrefixOf l = bb at ee3
    refine efg [(9, .bool bb), (8, str v), (7, str l), (6, i64 i), (5, i64 (i + 1 : Nat)), (4, ptrTo b4), (2, ptrTo b2), (0, str s)] (L ++ [B2]) (fun ρ => ?_) (ha := ⟨rfl, rfl, rfl, rfl, rfl, rfl, rfl, rfl, trivial⟩)
    refine sqJ (σ := List HE) (fun _ => [(7, str l), (6, i64 i), (5, i64 (i + 1 : Nat)), (4, ptrTo b4), (2, ptrTo b2), (0, str s)]) (fun _ => f) (fun L => L ++ [B2]) (fun L => RObj 25 b4 p3 L) ?_ ?_
    · obtain ⟨its, A, c, A2, c2, hm, rfl⟩ := hL
      have hl' := RObj.len hm
      refine sgE ?_
      cases bb with
      | true =>
        have hil := hb2.items
        refine cT (rg ?_)
        refine ldo 0 ?_
        refine bld ?_
        refine bsl fun b5 => ?_
        refine app 1 (nn := its.length) (fun A' c' => ?_) (hs := by show Value.slice A p2.items.length c = _; rw [hl']) (hlim := by show (its.length + 1) * 64 ≤ _; omega)
        refine st 0 ?_
        refine nilrow 9 1 ?_
        refine req ((sRow none 0 [] :: HE.blk b4 (.cells ⟨[str p2.pre, .slice A' (its.length + 1) c', .slice A2 p2.prof.length c2, i64 p2.pol]⟩ 25) :: .row A' (its.length + 1) c' 47 3 (its.flatMap e3 ++ [str v, .slice none 0 0, .slice none 0 0]) :: sRow A2 c2 p2.prof :: its.map rRf) ++ [B2]) ?_
        refine rperm (L' := robj 25 b4 (its ++ [(⟨v, [], []⟩, none, 0)]) A' c' A2 c2 { p2 with items := p2.items ++ [⟨v, [], []⟩] } ++ [B2]) ((item_perm A' c' hl').append_right [B2]) ?_
        refine runE ?_
        exact jn (robj 25 b4 (its ++ [(⟨v, [], []⟩, none, 0)]) A' c' A2 c2 { p2 with items := p2.items ++ [⟨v, [], []⟩] }) ⟨its ++ [(⟨v, [], []⟩, none, 0)], A', c', A2, c2, by rw [ee3.1 rfl, app_item, List.map_append, hm]; rfl, by rw [ee3.1 rfl, app_item]⟩
      | false =>
        refine cFs ?_
        exact jn _ ⟨its, A, c, A2, c2, by rw [ee3.2 rfl]; exact hm, by rw [ee3.2 rfl]⟩
    rintro L ρ hL
    replace hL : RObj 25 b4 p3 L := hL
    refine efg [(7, str l), (6, i64 i), (5, i64 (i + 1 : Nat)), (4, ptrTo b4), (2, ptrTo b2), (0, str s)] (L ++ [B2]) (fun ρ => ?_)
    refine sg ?_
    refine callV (vs := [str l, str (keyS kRef)]) (.tuple #[str (aftS l (keyS kRef)), .bool ((keyS kRef).isPrefixOf l)]) (fun w g' h1 h2 h3 => refAfter h3 (by omega)) ?_
    refine runE ?_
    generalize hv : aftS l (keyS kRef) = v at ee4
    generalize (keyS kRef).isPrefixOf l = bb at ee4
    refine efg [(9, .bool bb), (8, str v), (7, str l), (6, i64 i), (5, i64 (i + 1 : Nat)), (4, ptrTo b4), (2, ptrTo b2), (0, str s)] (L ++ [B2]) (fun ρ => ?_) (ha := ⟨rfl, rfl, rfl, rfl, rfl, rfl, rfl, rfl, trivial⟩)
    refine sqJ (σ := List HE) (fun _ => [(7, str l), (6, i64 i), (5, i64 (i + 1 : Nat)), (4, ptrTo b4), (2, ptrTo b2), (0, str s)]) (fun _ => f) (fun L => L ++ [B2]) (fun L => RObj 25 b4 p4 L) ?_ ?_
    · obtain ⟨its, A, c, A2, c2, hm, rfl⟩ := hL
      have hl' := RObj.len hm
      cases bb with
      | false =>
        refine sgE ?_
        refine cFs ?_
        exact jn _ ⟨its, A, c, A2, c2, by rw [ee4.2 rfl]; exact hm, by rw [ee4.2 rfl]⟩
      | true =>
      refine sg ?_
      refine ldo 0 ?_
      refine gt (fun hgt => ?_) (fun hgt => ?_)
      case refine_2 =>
        have h00 : p3.items = [] := List.length_eq_zero_iff.1 (by omega)
        refine runE ?_
        refine cFs ?_
        have e : appK kRef v p3 = p3 := by
          rw [app_ref, h00]
          show ({ p3 with items := addRef [] v } : Pack) = p3
          rw [addRef_nil, ← h00]
        exact jn _ ⟨its, A, c, A2, c2, by rw [ee4.1 rfl, e]; exact hm, by rw [ee4.1 rfl, e]⟩
      refine runE ?_
      rcases List.eq_nil_or_concat its with e | ⟨l0, r, e⟩
      · exfalso; rw [e] at hl'; simp at hl'; rw [hl'] at hgt; simp at hgt
      rw [List.concat_eq_append] at e
      subst e
      obtain ⟨x, A9, c9⟩ := r
      have hpi : p3.items = l0.map (·.1) ++ [x] := by rw [← hm, List.map_append]; rfl
      have hln : p3.items.length = l0.length + 1 := by rw [hl']; simp
      have hlim2 : x.refs.length ≤ 60000 := (hb3.item x (by rw [hpi]; exact List.mem_append_right _ (List.mem_singleton.2 rfl))).2.1
      have hlast : ∀ j, ((l0 ++ [(x, A9, c9)]).flatMap e3)[0 + l0.length * 3 + j]? = (e3 (x, A9, c9))[j]? := e3_at l0 _
      have hput : ∀ A' c', putL ((l0 ++ [(x, A9, c9)]).flatMap e3) (0 + l0.length * 3 + 1) [.slice A' (x.refs.length + 1) c'] = (l0 ++ [((⟨x.name, x.refs ++ [v], x.tree⟩ : Item), A', c')]).flatMap e3 := fun A' c' => by
        refine e3_put _ _ _ _ rfl ?_
        show _ = Value.slice A' (x.refs ++ [v]).length c'
        rw [List.length_append]; rfl
      have hop := (ref_open (T := 25) (b := b4) (x := x) (A9 := A9) (c9 := c9) (A := A) (c := c) (A2 := A2) (c2 := c2) hln).append_right [B2]
      generalize hX : (l0 ++ [(x, A9, c9)]).flatMap e3 = X at hlast hput hop
      have hXl : X.length = (l0.length + 1) * 3 := by rw [← hX, flat_len e3_len]; simp
      refine cT ?_
      refine eperm hop ?_
      refine erowF 1 fun hrow => ?_
      obtain ⟨g, rfl⟩ := hrow.2.2.2.1 (by omega)
      have hli : l0.length < l0.length + 1 := by omega
      have hl0 : l0.length + 1 ≤ 60000 := by have := hb3.items; omega
      generalize hL1 : (sRow A2 c2 p3.prof :: l0.map rRf) ++ [B2] = L1
      refine efg [(8, str v), (7, str l), (6, i64 i), (5, i64 (i + 1 : Nat)), (4, ptrTo b4), (2, ptrTo b2), (0, str s)] (.blk b4 (.cells ⟨[str p3.pre, .slice (some ⟨g, 0, none⟩) (l0.length + 1) c, .slice A2 p3.prof.length c2, i64 p3.pol]⟩ 25) :: .row (some ⟨g, 0, none⟩) (l0.length + 1) c 47 3 X :: sRow A9 c9 x.refs :: L1) (fun ρ => ?_) (hh := by subst hL1; rfl)
      refine sg ?_
      refine ldo 0 ?_
      refine ldo 0 ?_
      refine sub (l0.length : Int) ?_
      refine ix l0.length hli ?_
      refine runE ?_
      refine rg ?_
      refine ldr 1 (hlast 1) ?_
      refine bsl fun b5 => ?_
      refine app 2 (fun A' c' => ?_) (hlim := by show (x.refs.length + 1) * 16 ≤ _; omega)
      refine stR 1 (xs := X) (vs := [.slice A' (x.refs.length + 1) c']) (b := g) (o := 0 + l0.length * 3 + 1) (nn := l0.length + 1) (c := c) (by show 0 + l0.length * 3 + 1 + 1 ≤ _; omega) ?_
      subst hL1
      refine req ((HE.blk b4 (.cells ⟨[str p3.pre, .slice (some ⟨g, 0, none⟩) (l0.length + 1) c, .slice A2 p3.prof.length c2, i64 p3.pol]⟩ 25) :: .row (some ⟨g, 0, none⟩) (l0.length + 1) c 47 3 (putL X (0 + l0.length * 3 + 1) [.slice A' (x.refs.length + 1) c']) :: .row A' (x.refs.length + 1) c' 9 1 (x.refs.map str ++ [str v]) :: sRow A2 c2 p3.prof :: l0.map rRf) ++ [B2]) ?_
      refine rperm (L' := robj 25 b4 (l0 ++ [(⟨x.name, x.refs ++ [v], x.tree⟩, A', c')]) (some ⟨g, 0, none⟩) c A2 c2 { p3 with items := addRef p3.items v } ++ [B2]) ((ref_perm A' c' hln (hput A' c')).append_right [B2]) ?_
      refine runE ?_
      refine jn (robj 25 b4 (l0 ++ [(⟨x.name, x.refs ++ [v], x.tree⟩, A', c')]) (some ⟨g, 0, none⟩) c A2 c2 { p3 with items := addRef p3.items v }) ⟨l0 ++ [(⟨x.name, x.refs ++ [v], x.tree⟩, A', c')], some ⟨g, 0, none⟩, c, A2, c2, ?_, by rw [ee4.1 rfl, app_ref]⟩
      rw [ee4.1 rfl, app_ref]
      show _ = addRef p3.items v
      rw [hpi, addRef_snoc, List.map_append]
      rfl
    rintro L ρ hL
    replace hL : RObj 25 b4 p4 L := hL
    refine efg [(7, str l), (6, i64 i), (5, i64 (i + 1 : Nat)), (4, ptrTo b4), (2, ptrTo b2), (0, str s)] (L ++ [B2]) (fun ρ => ?_)
    refine sg ?_
    refine callV (vs := [str l, str (keyS kProf)]) (.tuple #[str (aftS l (keyS kProf)), .bool ((keyS kProf).isPrefixOf l)]) (fun w g' h1 h2 h3 => refAfter h3 (by omega)) ?_
    refine runE ?_
    generalize hv : aftS l (keyS kProf) = v at ee5
    generalize (keyS kProf).isPrefixOf l = bb at ee5
    refine efg [(9, .bool bb), (8, str v), (7, str l), (6, i64 i), (5, i64 (i + 1 : Nat)), (4, ptrTo b4), (2, ptrTo b2), (0, str s)] (L ++ [B2]) (fun ρ => ?_) (ha := ⟨rfl, rfl, rfl, rfl, rfl, rfl, rfl, rfl, trivial⟩)
    obtain ⟨its, A, c, A2, c2, hm, rfl⟩ := hL
    refine sgE ?_
    cases bb with
    | true =>
      have hpl := hb4.prof
      refine cT (rg ?_)
      refine ldo 0 ?_
      refine bsl fun b5 => ?_
      refine app 2 (fun A' c' => ?_) (hlim := by show (p4.prof.length + 1) * 16 ≤ _; omega)
      refine st 0 ?_
      refine req (robj 25 b4 its A c A' c' { p4 with prof := p4.prof ++ [v] } ++ [B2]) ?_ (hh := congrArg (· ++ [B2]) (prof_eq A' c'))
      refine runE ?_
      exact jn (i + 1, p5, robj 25 b4 its A c A' c' { p4 with prof := p4.prof ++ [v] }) (hend _ ⟨its, A, c, A', c', by rw [ee5.1 rfl, app_prof]; exact hm, by rw [ee5.1 rfl, app_prof]⟩)
    | false =>
      refine cFs ?_
      exact jn (i + 1, p5, robj 25 b4 its A c A2 c2 p4) (hend _ ⟨its, A, c, A2, c2, by rw [ee5.2 rfl]; exact hm, by rw [ee5.2 rfl]⟩)
  rintro ⟨p, L⟩ ρ ⟨hL, hrd, hbd, hbo⟩
  replace hL : RObj 25 b4 p L := hL
  replace hrd : p = rdB [] p0 s := hrd
  replace hbd : Bd s.length 50000 p := hbd
  replace hbo : bareOk p := hbo
  obtain ⟨its, A, c, A2, c2, hi, rfl⟩ := hL
  have hno : ¬ (mayP p ∧ layT p = s) → ∀ q, ¬ Says s q := fun h q hq => by
    have h2 := (lay_lns hq.1 hq.2.1).rdB
    rw [hq.2.2, ← hrd] at h2
    subst h2
    exact h ⟨hq.1, hq.2.2⟩
  refine sg ?_
  refine ldoA 0 ?_
  refine callV (vs := [.agg ⟨packC p A c A2 c2⟩]) (.tuple #[str (layS p), i64 (layE p)]) (fun w' g' h1 h2 h3 => ref11Lay h3 (rows_packV (fun e he => h2 e (List.mem_append_left _ (List.mem_cons_of_mem _ he))) hi hbo hbd (by show s.length ≤ 140737488355328; omega) (by show 50000 ≤ 140737488355328; omega)) (Nat.le_trans hbd.items (by omega))) ?_
  refine runE ?_
  refine efg [(12, i64 (layE p)), (11, str (layS p)), (4, ptrTo b4), (2, ptrTo b2), (0, str s)] (robj 25 b4 its A c A2 c2 p ++ [B2]) (fun ρ => ?_)
  refine sqJ (σ := Unit) (fun _ => [(4, ptrTo b4), (2, ptrTo b2)]) (fun _ => f) (fun _ => robj 25 b4 its A c A2 c2 p ++ [B2]) (fun _ => mayP p ∧ layT p = s) ?_ ?_
  · refine sg ?_
    refine neI (fun h1 => ?_) (fun h1 => ?_)
    · refine runE ?_
      refine cT (sg ?_)
      refine bld ?_
      subst hB2
      refine rwL (L' := [.blk b2 (.cells ⟨packC p0 none 0 none 0⟩ 25)]) (fun _ h => h.sublist (List.sublist_append_right _ _)) ?_
      refine st 0 ?_
      refine runE ?_
      refine ew_ret ?_
      exact refread_fail rfl rfl (hno fun h => h1 (if_pos h.1))
    have hmay : mayP p := by
      by_cases e : mayP p
      · exact e
      · exact absurd (show layE p ≠ 0 by unfold layE; rw [if_neg e]; decide) h1
    refine neS (fun h2 => ?_) (fun h2 => ?_)
    · refine runE ?_
      refine cT (sg ?_)
      refine bld ?_
      subst hB2
      refine rwL (L' := [.blk b2 (.cells ⟨packC p0 none 0 none 0⟩ 25)]) (fun _ h => h.sublist (List.sublist_append_right _ _)) ?_
      refine st 0 ?_
      refine runE ?_
      refine ew_ret ?_
      exact refread_fail rfl rfl (hno fun h => h2 (by rw [show layS p = layT p from if_pos hmay]; exact h.2))
    · have h2' : layT p = s := by
        by_cases e : layT p = s
        · exact e
        · exact absurd (show layS p ≠ s by rw [show layS p = layT p from if_pos hmay]; exact e) h2
      refine runE ?_
      refine cFs ?_
      exact jn () ⟨hmay, h2'⟩
  rintro ⟨⟩ ρ ⟨hmay, hlt⟩
  refine sg ?_
  refine ldoA 0 ?_
  subst hB2
  refine rperm (L' := .blk b4 (.cells ⟨packC p A c A2 c2⟩ 25) :: .blk b2 (.cells ⟨packC p0 none 0 none 0⟩ 25) :: pRows its A c A2 c2 p) (.cons _ (List.perm_append_comm (l₁ := pRows its A c A2 c2 p) (l₂ := [_]))) ?_
  refine st 1 ?_
  refine runE ?_
  refine ew_ret ?_
  exact retA2M 1 (pRows its A c A2 c2 p) (fun w hw => hw.sublist (.cons _ (.cons _ (List.Sublist.refl _)))) ⟨its, A, c, A2, c2, p, 0, rfl, hi, rfl, .inl ⟨rfl, hmay, hbo, hlt⟩, hbd.wide (by omega) (by omega)⟩
end Go.Hog
