/- S29 F58 F59 F60, in one text. -/
import Derived.Test.YtdidefhdcinecaaGreatDoorCA
import Derived.Lib.SplitLaws
import Derived.Test.YtdidefhdcinecaaGreatDoorCC
import Derived.Test.YtdidefhdcinecaaGreatDoorF36
import Derived.Test.YtdidefhdcinecaaGreatDoorFX
import Derived.Test.YtdidefhdcinecaaGreatDoorMD
set_option linter.unusedVariables false
set_option linter.unusedSimpArgs false
namespace Go.Hog
open Go.RowKit Rp
def cutR : Str → List Str
  | [] => [[]]
  | c :: s => if c = 47 then [] :: cutR s else (c :: (cutR s).headD []) :: (cutR s).tail
theorem cutR_ne (s : Str) : ∃ h t, cutR s = h :: t := by
  cases s with
  | nil => exact ⟨_, _, rfl⟩
  | cons c s =>
    by_cases e : c = 47
    · exact ⟨_, _, if_pos e⟩
    · exact ⟨_, _, if_neg e⟩
theorem cutR_slash (s : Str) : cutR (47 :: s) = [] :: cutR s := if_pos rfl
theorem cutR_cons {c : UInt8} {s h : Str} {t : List Str} (hc : c ≠ 47) (e : cutR s = h :: t) : cutR (c :: s) = (c :: h) :: t := by
  show (if c = 47 then _ else _) = _
  rw [if_neg hc, e]
  rfl
theorem index_head (s : Str) : Lib.index (47 :: s) [47] = 0 :=
  Lib.index_first (i := 0) (Nat.zero_le _) (by simp [Lib.occAt]) (fun _ h => absurd h (Nat.not_lt_zero _))
theorem index_skip {c : UInt8} (hc : c ≠ 47) (s : Str) : Lib.index (c :: s) [47] = if Lib.index s [47] = -1 then -1 else Lib.index s [47] + 1 := by
  have h0 : Lib.occAt (c :: s) [47] 0 = false := by
    show ((47 : UInt8) == c && List.isPrefixOf [] s) = false
    rw [beq_false_of_ne (Ne.symm hc)]
    rfl
  have h1 : Lib.NoOcc (c :: s) [47] 1 := by
    intro j hj
    obtain rfl : j = 0 := by omega
    exact h0
  have := Lib.index_drop h1 (by simp)
  rw [this]
  simp
theorem index_low (s u : Str) : Lib.index s u = -1 ∨ ∃ i : Nat, Lib.index s u = i := by
  by_cases h : 0 ≤ Lib.index s u
  · exact .inr ⟨(Lib.index s u).toNat, by omega⟩
  · left
    rcases Lib.indexB_cases ⟨⟨s⟩⟩ ⟨⟨u⟩⟩ with h2 | ⟨i, h2, _⟩
    · exact h2
    · exfalso
      have h3 : Lib.index s u = i := h2
      omega
theorem splitK_cons {c : UInt8} (hc : c ≠ 47) (s : Str) (k : Nat) : ∃ h t, Lib.splitK [47] 0 k s = h :: t ∧ Lib.splitK [47] 0 k (c :: s) = (c :: h) :: t := by
  cases k with
  | zero => exact ⟨s, [], rfl, rfl⟩
  | succ k =>
    have hi := index_skip hc s
    unfold Lib.splitK
    rcases index_low s [47] with h | ⟨i, h⟩
    · rw [hi, h]
      exact ⟨s, [], rfl, rfl⟩
    · have hi2 : Lib.index (c :: s) [47] = (i : Int) + 1 := by rw [hi, h, if_neg (show ¬ (i : Int) = -1 by omega)]
      rw [hi2, h]
      have e1 : ((i : Int) == -1) = false := beq_false_of_ne (show (i : Int) ≠ -1 by omega)
      have e2 : ((i : Int) + 1 == -1) = false := beq_false_of_ne (show (i : Int) + 1 ≠ -1 by omega)
      rw [e1, e2]
      refine ⟨s.take (i + 0), Lib.splitK [47] 0 k (s.drop (i + 1)), rfl, ?_⟩
      have e3 : ((i : Int) + 1).toNat = i + 1 := by omega
      rw [if_neg (by simp), e3]
      rfl
theorem split_cut (s : Str) : Lib.split s [47] = cutR s := by
  induction s with
  | nil => rfl
  | cons c s ih =>
    unfold Lib.split at ih ⊢
    by_cases e : c = 47
    · subst e
      rw [cutR_slash, Lib.count_cons_eq, Nat.add_comm, ← ih]
      show (if (Lib.index (47 :: s) [47] == -1) = true then _ else _) = _
      rw [index_head]
      rfl
    · rw [Lib.count_cons_ne _ _ _ e]
      obtain ⟨h, t, h1, h2⟩ := splitK_cons e s (Lib.count s [47])
      rw [h2, cutR_cons e (h1 ▸ ih).symm]
theorem splitL_cut (s : Str) : splitL s [47] = cutR s := by
  rw [← split_cut]
  unfold splitL
  rw [Lib.splitB_data]
  rfl
theorem cutR_no (s : Str) : ∀ x ∈ cutR s, (47 : UInt8) ∉ x := by
  induction s with
  | nil => intro x hx; simp [cutR] at hx; subst hx; simp
  | cons c s ih =>
    by_cases e : c = 47
    · subst e
      rw [cutR_slash]
      intro x hx
      rcases List.mem_cons.1 hx with rfl | hx
      · simp
      · exact ih x hx
    · obtain ⟨h, t, h1⟩ := cutR_ne s
      rw [cutR_cons e h1]
      rw [h1] at ih
      intro x hx
      rcases List.mem_cons.1 hx with rfl | hx
      · intro h2
        rcases List.mem_cons.1 h2 with h2 | h2
        · exact e h2.symm
        · exact ih h (.head _) h2
      · exact ih x (.tail _ hx)
theorem cutR_len (s : Str) : (cutR s).length ≤ s.length + 1 := by
  induction s with
  | nil => simp [cutR]
  | cons c s ih =>
    by_cases e : c = 47
    · subst e; rw [cutR_slash]; simpa using ih
    · obtain ⟨h, t, h1⟩ := cutR_ne s
      rw [cutR_cons e h1]
      rw [h1] at ih
      simp at ih ⊢
      omega
/-- Parts put together. -/
def joinS : List Str → Str
  | [] => []
  | [x] => x
  | x :: y :: t => x ++ 47 :: joinS (y :: t)
theorem joinS_cons (x : Str) {l : List Str} (h : l ≠ []) : joinS (x :: l) = x ++ 47 :: joinS l := by
  cases l with
  | nil => exact absurd rfl h
  | cons y t => rfl
theorem joinS_head (c : UInt8) (x : Str) (l : List Str) : joinS ((c :: x) :: l) = c :: joinS (x :: l) := by
  cases l with
  | nil => rfl
  | cons y t => rfl
theorem join_cut (s : Str) : joinS (cutR s) = s := by
  induction s with
  | nil => rfl
  | cons c s ih =>
    obtain ⟨h, t, h1⟩ := cutR_ne s
    by_cases e : c = 47
    · subst e
      rw [cutR_slash, joinS_cons _ (by rw [h1]; simp), ih]
      rfl
    · rw [cutR_cons e h1, joinS_head, ← h1, ih]
theorem joinS_snoc : ∀ (l : List Str) (x : Str), joinS (l ++ [x]) = if l = [] then x else joinS l ++ 47 :: x
  | [], x => rfl
  | [y], x => by
    show y ++ 47 :: x = _
    rw [if_neg (by simp)]
    rfl
  | y :: z :: t, x => by
    have ih := joinS_snoc (z :: t) x
    rw [if_neg (by simp)] at ih ⊢
    show y ++ 47 :: joinS ((z :: t) ++ [x]) = (y ++ 47 :: joinS (z :: t)) ++ 47 :: x
    rw [ih]
    simp
theorem cut_noslash {x : Str} (h : (47 : UInt8) ∉ x) : cutR x = [x] := by
  induction x with
  | nil => rfl
  | cons c s ih => rw [cutR_cons (fun e => h (by rw [e]; exact .head _)) (ih fun h2 => h (.tail _ h2))]
theorem cut_append {x : Str} (h : (47 : UInt8) ∉ x) (s : Str) : cutR (x ++ 47 :: s) = x :: cutR s := by
  induction x with
  | nil => exact cutR_slash s
  | cons c t ih => exact cutR_cons (fun e => h (by rw [e]; exact .head _)) (ih fun h2 => h (.tail _ h2))
theorem cut_join : ∀ (l : List Str), l ≠ [] → (∀ x ∈ l, (47 : UInt8) ∉ x) → cutR (joinS l) = l
  | [], h, _ => absurd rfl h
  | [x], _, h => cut_noslash (h x (.head _))
  | x :: y :: t, _, h => by
    show cutR (x ++ 47 :: joinS (y :: t)) = _
    rw [cut_append (h x (.head _)), cut_join (y :: t) (by simp) fun z hz => h z (.tail _ hz)]
theorem joinS_len : ∀ (l : List Str), ∀ x ∈ l, x.length ≤ (joinS l).length
  | [], _, h => by cases h
  | [x], y, h => by rw [List.mem_singleton] at h; subst h; exact Nat.le_refl _
  | x :: y :: t, z, h => by
    show z.length ≤ (x ++ 47 :: joinS (y :: t)).length
    rw [List.length_append, List.length_cons]
    rcases List.mem_cons.1 h with rfl | h
    · omega
    · have := joinS_len (y :: t) z h
      omega
theorem joinS_take_len : ∀ (l : List Str) (k : Nat), (joinS (l.take k)).length ≤ (joinS l).length
  | [], k => by simp
  | [x], k => by cases k with
    | zero => simp [joinS]
    | succ k => simp
  | x :: y :: t, k => by cases k with
    | zero => simp [joinS]
    | succ k =>
      have ih := joinS_take_len (y :: t) k
      rw [List.take_succ_cons]
      cases k with
      | zero => show x.length ≤ (x ++ 47 :: joinS (y :: t)).length; simp
      | succ k =>
        rw [joinS_cons _ (by simp), joinS_cons _ (by simp)]
        simp only [List.length_append, List.length_cons]
        omega
/-- The last '/'. -/
theorem lastIdx_none {x : Str} (h : (47 : UInt8) ∉ x) : Lib.lastIndexByte ⟨⟨x⟩⟩ 47 = -1 := by
  rcases Lib.lastIndexByte_spec ⟨⟨x⟩⟩ 47 with ⟨h1, _⟩ | ⟨i, hi, h1, h2, _⟩
  · exact h1
  · exfalso
    have hix : i < x.length := hi
    apply h
    have e : (⟨⟨x⟩⟩ : ByteArray).data[i]! = x[i] := getElem!_pos (⟨x⟩ : Array UInt8) i hix
    rw [e] at h2
    have : x[i] = 47 := by
      apply UInt8.toNat.inj
      have := h2
      show x[i].toNat = 47
      omega
    rw [← this]
    exact List.getElem_mem hix
theorem lastIdx_at {d z : Str} (h : (47 : UInt8) ∉ z) : Lib.lastIndexByte ⟨⟨d ++ 47 :: z⟩⟩ 47 = (d.length : Nat) := by
  have hget : ∀ i (hi : i < (d ++ 47 :: z).length), (⟨⟨d ++ 47 :: z⟩⟩ : ByteArray).data[i]! = (d ++ 47 :: z)[i] := fun i hi => by
    have h2 : i < (⟨d ++ 47 :: z⟩ : Array UInt8).size := hi
    exact getElem!_pos (⟨d ++ 47 :: z⟩ : Array UInt8) i h2
  have hd : (d ++ 47 :: z)[d.length]'(by simp) = 47 := by simp
  rcases Lib.lastIndexByte_spec ⟨⟨d ++ 47 :: z⟩⟩ 47 with ⟨h1, h2⟩ | ⟨i, hi, h1, h2, h3⟩
  · exfalso
    have := h2 d.length (show d.length < (d ++ 47 :: z).length by simp)
    rw [hget _ (by simp), hd] at this
    exact this rfl
  · have hil : i < (d ++ 47 :: z).length := hi
    rcases Nat.lt_trichotomy i d.length with h4 | h4 | h4
    · exfalso
      have := h3 d.length h4 (show d.length < (d ++ 47 :: z).length by simp)
      rw [hget _ (by simp), hd] at this
      exact this rfl
    · rw [h1, h4]
    · exfalso
      rw [hget i hil] at h2
      have h5 : (d ++ 47 :: z)[i] ∈ z := by
        rw [List.getElem_append_right (by omega)]
        obtain ⟨j, hj⟩ : ∃ j, i - d.length = j + 1 := ⟨i - d.length - 1, by omega⟩
        simp only [hj, List.getElem_cons_succ]
        exact List.getElem_mem _
      have : (d ++ 47 :: z)[i] = 47 := by
        apply UInt8.toNat.inj
        show (d ++ 47 :: z)[i].toNat = 47
        omega
      rw [this] at h5
      exact h h5
/-- A path without its last part. -/
theorem par_join {p : Str} (h : parB p = true) : parS p = joinS (cutR p).dropLast ∧ partsB (parS p) = true ∧ (cutR p).length ≤ 10 ∧ p.length ≤ 200 ∧ (∀ x ∈ cutR p, partOk x = true) := by
  unfold parB at h
  rw [Bool.not_eq_true', Bool.or_eq_false_iff, decide_eq_false_iff_not, Bool.not_eq_false'] at h
  obtain ⟨hp, hb⟩ := h
  have hb0 := hb
  unfold partsB at hb
  rw [if_neg hp] at hb
  split at hb
  · cases hb
  rename_i h200
  rw [splitL_cut, Bool.and_eq_true, List.all_eq_true, decide_eq_true_eq] at hb
  obtain ⟨hall, h10⟩ := hb
  have hS : parS p = p.take (Lib.lastIndexByte ⟨⟨p⟩⟩ 47).toNat := by
    unfold parS
    rw [if_neg]
    rintro (h | h)
    · exact hp h
    · rw [hb0] at h; cases h
  have hno := cutR_no p
  have hj := join_cut p
  rcases List.eq_nil_or_concat (cutR p) with e | ⟨d, z, e⟩
  · obtain ⟨h1, t, h2⟩ := cutR_ne p
    rw [e] at h2; cases h2
  rw [List.concat_eq_append] at e
  have hdl : (cutR p).dropLast = d := by rw [e]; simp
  have hz : (47 : UInt8) ∉ z := hno z (by rw [e]; simp)
  have hPar : parS p = joinS d := by
    rw [hS]
    rw [e, joinS_snoc] at hj
    split at hj
    · rename_i hd
      subst hd
      rw [← hj, lastIdx_none hz]
      rfl
    · rw [← hj, lastIdx_at hz]
      simp
  refine ⟨by rw [hdl]; exact hPar, ?_, h10, by omega, fun x hx => hall x hx⟩
  rw [hPar]
  unfold partsB
  split
  · rfl
  · rename_i hne
    have hlen : (joinS d).length ≤ p.length := by
      have := joinS_take_len (cutR p) d.length
      rw [e, List.take_left, ← e, hj] at this
      exact this
    rw [if_neg (by omega), splitL_cut]
    have hd : d ≠ [] := by rintro rfl; exact hne rfl
    rw [cut_join d hd fun x hx => hno x (by rw [e]; exact List.mem_append_left _ hx), Bool.and_eq_true, List.all_eq_true, decide_eq_true_eq]
    refine ⟨fun x hx => hall x (by rw [e]; exact List.mem_append_left _ hx), ?_⟩
    have := congrArg List.length e
    rw [List.length_append] at this
    omega
end Go.Hog

set_option linter.unusedVariables false
set_option linter.unusedSimpArgs false
set_option maxRecDepth 100000
set_option maxHeartbeats 1000000
namespace Go.Hog
open Go.RowKit Rp Go.Proofs
theorem pre_take {s u : Str} : Lib.hasPrefix s u = decide (u.length ≤ s.length ∧ s.take u.length = u) := by
  unfold Lib.hasPrefix
  rw [Bool.eq_iff_iff, List.isPrefixOf_iff_prefix, List.prefix_iff_eq_take, decide_eq_true_eq]
  constructor
  · intro h
    have := congrArg List.length h
    rw [List.length_take] at this
    exact ⟨by omega, h.symm⟩
  · rintro ⟨_, h⟩; exact h.symm
theorem ref1Part {w : World} {f : View} (hv : On f w) {s : Str} (hs : s.length ≤ LB) : Con Tryz.prog 108 [str s] w (Ret w f fun _ v => v = .bool (partOk s)) := by
  unfold LB at hs
  refine enterC hv Tryz.call108 Tryz.func108 ?_
  refine sgE ?_
  refine sqJ (σ := Unit) (fun _ => [(0, str s)]) (fun _ => f) (fun _ => []) (fun _ => (47 : UInt8) ∉ s ∧ (0 : UInt8) ∉ s) ?_ ?_
  · refine sgE (bk ?_)
    refine lpn s.length (fun k => [(3, i64 k), (0, str s)]) (fun k => (47 : UInt8) ∉ s.take k ∧ (0 : UInt8) ∉ s.take k) (by simp) ?_
    rintro k ρ hk hi
    refine sq (sg ?_)
    refine ltE (fun h => ?_) (fun h => ?_)
    case refine_2 =>
      refine cFx ?_
      have e : k = s.length := by omega
      subst e
      rw [List.take_length] at hi
      exact jn () hi
    have h1 : k < s.length := by omega
    have hc : s[k]? = some s[k] := List.getElem?_eq_getElem h1
    have hmem : s[k] ∈ s := List.getElem_mem h1
    have htk : s.take (k + 1) = s.take k ++ [s[k]] := (List.take_append_getElem h1).symm
    have hbad : s[k] = 47 ∨ s[k] = 0 → partOk s = false := fun h => by
      unfold partOk
      rcases h with h | h
      · have h2 : (47 : UInt8) ∈ s := h ▸ hmem
        have : ¬ Lib.indexByte s 47 < 0 := fun h3 => index_mem.1 h3 h2
        simp [this]
      · have h2 : (0 : UInt8) ∈ s := h ▸ hmem
        have : ¬ Lib.indexByte s 0 < 0 := fun h3 => index_mem.1 h3 h2
        simp [this]
    generalize s[k] = x at hc hmem htk hbad
    refine cTs (sq (bk (sg ?_)))
    refine ixS k x hc ?_
    refine eqI (fun h2 => ?_) (fun h2 => ?_)
    · refine runE ?_
      refine cT (rr ?_)
      exact ret1 (show Value.bool false = .bool (partOk s) by rw [hbad (.inl (u8_eq.1 h2))])
    refine ixS k x hc ?_
    refine eqI (fun h3 => ?_) (fun h3 => ?_)
    · refine runE ?_
      refine cT (rr ?_)
      exact ret1 (show Value.bool false = .bool (partOk s) by rw [hbad (.inr (u8_eq.1 h3))])
    refine runE ?_
    refine cFs (rg ?_)
    refine addE ((k + 1 : Nat) : Int) ?_
    refine nx ?_
    rw [htk, List.mem_append, List.mem_append, List.mem_singleton, List.mem_singleton]
    refine ⟨fun h => ?_, fun h => ?_⟩
    · rcases h with h | h
      · exact hi.1 h
      · exact h2 (by rw [← h]; rfl)
    · rcases h with h | h
      · exact hi.2 h
      · exact h3 (by rw [← h]; rfl)
  rintro ⟨⟩ ρ ⟨h47, h0⟩
  have i47 : Lib.indexByte s 47 < 0 := index_mem.2 h47
  have i0 : Lib.indexByte s 0 < 0 := index_mem.2 h0
  have hpo : partOk s = (decide (s ≠ []) && decide (s.length ≤ 60) && decide (s ≠ [46]) && decide (s ≠ [46, 46]) && !Lib.hasPrefix s [46, 119, 104, 46]) := by
    unfold partOk
    rw [decide_eq_true i47, decide_eq_true i0, Bool.and_true, Bool.and_true]
  rw [pre_take] at hpo
  refine sg ?_
  refine ge (fun h1 => ?_) (fun h1 => ?_)
  case refine_2 =>
    have e : s = [] := List.length_eq_zero_iff.1 (by omega)
    refine runE ?_
    refine ew_ret ?_
    exact ret1 (show Value.bool false = .bool (partOk s) by rw [hpo]; simp [e])
  have h1' : s ≠ [] := by rintro rfl; simp at h1
  rw [decide_eq_true h1', Bool.true_and] at hpo
  refine le (fun h2 => ?_) (fun h2 => ?_)
  case refine_2 =>
    have : ¬ s.length ≤ 60 := by omega
    refine runE ?_
    refine ew_ret ?_
    exact ret1 (show Value.bool false = .bool (partOk s) by rw [hpo]; simp [this])
  rw [decide_eq_true (show s.length ≤ 60 by omega), Bool.true_and] at hpo
  refine neS (fun h3 => ?_) (fun h3 => ?_)
  case refine_2 =>
    refine runE ?_
    refine ew_ret ?_
    exact ret1 (show Value.bool false = .bool (partOk s) by rw [hpo]; simp [Classical.not_not.1 h3])
  rw [decide_eq_true h3, Bool.true_and] at hpo
  refine neS (fun h4 => ?_) (fun h4 => ?_)
  case refine_2 =>
    refine runE ?_
    refine ew_ret ?_
    exact ret1 (show Value.bool false = .bool (partOk s) by rw [hpo]; simp [Classical.not_not.1 h4])
  rw [decide_eq_true h4, Bool.true_and] at hpo
  refine ge (fun h5 => ?_) (fun h5 => ?_)
  case refine_2 =>
    have : ¬ ([46, 119, 104, 46] : Str).length ≤ s.length := by show ¬ 4 ≤ s.length; omega
    refine runE ?_
    refine ew_ret ?_
    exact ret1 (show Value.bool true = .bool (partOk s) by rw [hpo, decide_eq_false (fun h => this h.1)]; rfl)
  have h5' : 4 ≤ s.length := by omega
  refine slSH (s := s) 4 h5' ?_
  refine eqS (fun h6 => ?_) (fun h6 => ?_)
  · refine runE ?_
    refine ew_ret ?_
    exact ret1 (show Value.bool false = .bool (partOk s) by rw [hpo, decide_eq_true ⟨h5', h6⟩]; rfl)
  · refine runE ?_
    refine ew_ret ?_
    exact ret1 (show Value.bool true = .bool (partOk s) by rw [hpo, decide_eq_false (fun h => h6 h.2)]; rfl)
/-- Where a cutting stands. -/
def CutI (s : Str) (i at_ : Nat) (out : List Str) : Prop := at_ ≤ i ∧ i ≤ s.length ∧ out.length ≤ i ∧ ∃ h t, cutR (s.drop i) = h :: t ∧ cutR s = out ++ ((s.take i).drop at_ ++ h) :: t
theorem CutI.start (s : Str) : CutI s 0 0 [] := by
  obtain ⟨h, t, e⟩ := cutR_ne s
  exact ⟨Nat.le_refl _, Nat.zero_le _, Nat.le_refl _, h, t, e, by rw [e]; rfl⟩
theorem CutI.slash {s : Str} {i at_ : Nat} {out : List Str} (h : CutI s i at_ out) (hi : i < s.length) (hc : s[i] = 47) : CutI s (i + 1) (i + 1) (out ++ [(s.take i).drop at_]) := by
  obtain ⟨h1, h2, h3, x, t, h4, h5⟩ := h
  rw [List.drop_eq_getElem_cons hi, hc, cutR_slash] at h4
  injection h4 with h6 h7
  subst h6
  obtain ⟨y, u, e⟩ := cutR_ne (s.drop (i + 1))
  refine ⟨Nat.le_refl _, hi, by simp; omega, y, u, e, ?_⟩
  rw [h5, ← h7, e]
  simp
theorem CutI.on {s : Str} {i at_ : Nat} {out : List Str} (h : CutI s i at_ out) (hi : i < s.length) (hc : s[i] ≠ 47) : CutI s (i + 1) at_ out := by
  obtain ⟨h1, h2, h3, x, t, h4, h5⟩ := h
  obtain ⟨y, u, e⟩ := cutR_ne (s.drop (i + 1))
  rw [List.drop_eq_getElem_cons hi, cutR_cons hc e] at h4
  injection h4 with h6 h7
  refine ⟨by omega, hi, by omega, y, u, e, ?_⟩
  rw [h5, ← h6, ← h7, (List.take_append_getElem hi).symm, List.drop_append_of_le_length (by rw [List.length_take]; omega)]
  simp
theorem CutI.fin {s : Str} {at_ : Nat} {out : List Str} (h : CutI s s.length at_ out) : out ++ [s.drop at_] = cutR s := by
  obtain ⟨h1, h2, h3, x, t, h4, h5⟩ := h
  rw [List.drop_length] at h4
  injection h4 with h6 h7
  rw [h5, ← h6, ← h7, List.take_length, List.append_nil]
theorem cut_bd {s : Str} : ∀ x ∈ cutR s, x.length ≤ s.length := fun x hx => by
  have := joinS_len _ x hx
  rwa [join_cut] at this
theorem ref1Cut {w : World} {f : View} (hv : On f w) {s : Str} (hs : s.length ≤ 1000000) : Con Tryz.prog 93 [str s] w (RetM w f [] fun _ L' v => ∃ A c, v = .slice A (cutR s).length c ∧ L' = [sRow A c (cutR s)]) := by
  refine enterM (L := []) hv (Given.nil _ _) Tryz.call93 Tryz.func93 ?_
  refine sgE (sgE (sgE ?_))
  refine sqJ (σ := Option Addr × Nat) (fun t => [(3, .slice t.1 (cutR s).length t.2)]) (fun _ => f) (fun t => [sRow t.1 t.2 (cutR s)]) (fun _ => True) ?_ ?_
  case refine_2 =>
    rintro ⟨A, c⟩ ρ _
    refine sgE ?_
    refine ew_ret ?_
    exact ret1M ⟨A, c, rfl, rfl⟩
  refine sgE ?_
  refine enilrow 9 1 ?_
  refine bk ?_
  refine lp (σ := Nat × Nat × List Str × Option Addr × Nat) (fun t => [(5, i64 t.1), (4, i64 t.2.1), (3, .slice t.2.2.2.1 t.2.2.1.length t.2.2.2.2), (0, str s)]) (fun _ => f) (fun t => [sRow t.2.2.2.1 t.2.2.2.2 t.2.2.1]) (fun t => (t.1 = s.length + 1 ∧ t.2.2.1 = cutR s) ∨ CutI s t.1 t.2.1 t.2.2.1) (fun t => s.length + 1 - t.1) (0, 0, [], none, 0) (.inr (CutI.start s)) ?_
  rintro ⟨i, a, out, A3, c3⟩ ρ hi
  replace hi : (i = s.length + 1 ∧ out = cutR s) ∨ CutI s i a out := hi
  show EW _ _ _ _ _ (ups ρ [(5, i64 i), (4, i64 a), (3, .slice A3 out.length c3), (0, str s)]) f [sRow A3 c3 out]
  refine sq (sg ?_)
  refine leE (fun h => ?_) (fun h => ?_)
  case refine_2 =>
    refine cFx ?_
    rcases hi with ⟨_, e⟩ | hc
    · subst e
      exact jn (A3, c3) trivial
    · have := hc.2.1
      omega
  have hc : CutI s i a out := by
    rcases hi with ⟨e, _⟩ | hc
    · omega
    · exact hc
  clear hi
  have h1 : i ≤ s.length := hc.2.1
  have ha : a ≤ i := hc.1
  have hol : out.length ≤ i := hc.2.2.1
  refine cTs (sq (bk (sg ?_)))
  refine eqI (fun h2 => ?_) (fun h2 => ?_)
  · have e : i = s.length := by omega
    subst e
    have hf := hc.fin
    refine runE ?_
    refine cT (sg ?_)
    refine slSB (s := s) a s.length ha (Nat.le_refl _) ?_
    refine bsl fun b => ?_
    refine app 0 (fun A' c' => ?_) (hlim := by show (out.length + 1) * 16 ≤ _; omega)
    refine runE ?_
    refine rg ?_
    refine addE ((s.length + 1 : Nat) : Int) ?_
    refine rg ?_
    refine addE ((s.length + 1 : Nat) : Int) ?_
    have e2 : (cutR s).length = out.length + 1 := by rw [← hf]; simp
    refine nxs (s.length + 1, s.length + 1, cutR s, A', c') (.inl ⟨rfl, rfl⟩) (by show s.length + 1 - (s.length + 1) < s.length + 1 - s.length; omega) (hh := ?_) (ha := ⟨rfl, rfl, by show Value.slice A' _ c' = Value.slice A' (cutR s).length c'; rw [e2], rfl, trivial⟩)
    show [HE.row A' (cutR s).length c' 9 1 ((cutR s).map str)] = _
    rw [e2, ← hf, List.map_append]
    have e3 : (s.take s.length).drop a = s.drop a := by rw [List.take_length]
    show [HE.row A' (out.length + 1) c' 9 1 (out.map str ++ [str (s.drop a)])] = [HE.row A' (out.length + 1) c' 9 1 (out.map str ++ [str ((s.take s.length).drop a)])]
    rw [e3]
  have hlt : i < s.length := by omega
  have hix : s[i]? = some s[i] := List.getElem?_eq_getElem hlt
  refine ixS i s[i] hix ?_
  refine eqI (fun h3 => ?_) (fun h3 => ?_)
  · have hs1 := hc.slash hlt (u8_eq.1 h3)
    refine runE ?_
    refine cT (sg ?_)
    refine slSB (s := s) a i ha h1 ?_
    refine bsl fun b => ?_
    refine app 0 (fun A' c' => ?_) (hlim := by show (out.length + 1) * 16 ≤ _; omega)
    refine runE ?_
    refine rg ?_
    refine addE ((i + 1 : Nat) : Int) ?_
    refine rg ?_
    refine addE ((i + 1 : Nat) : Int) ?_
    refine nxs (i + 1, i + 1, out ++ [(s.take i).drop a], A', c') (.inr hs1) (by show s.length + 1 - (i + 1) < s.length + 1 - i; omega) (hh := ?_) (ha := ⟨rfl, rfl, by show Value.slice A' _ c' = Value.slice A' (out ++ [(s.take i).drop a]).length c'; rw [List.length_append]; rfl, rfl, trivial⟩)
    show [HE.row A' (out ++ [(s.take i).drop a]).length c' 9 1 ((out ++ [(s.take i).drop a]).map str)] = _
    rw [List.length_append, List.map_append]
    rfl
  · have hs1 := hc.on hlt (fun e => h3 (by rw [e]; rfl))
    refine runE ?_
    refine cFs (rg ?_)
    refine addE ((i + 1 : Nat) : Int) ?_
    exact nxs (i + 1, a, out, A3, c3) (.inr hs1) (by show s.length + 1 - (i + 1) < s.length + 1 - i; omega)
theorem ref1May {w : World} {f : View} (hv : On f w) {s : Str} (hs : s.length ≤ LB) : Con Tryz.prog 92 [str s] w (Ret w f fun _ v => v = .bool (partsB s)) := by
  unfold LB at hs
  refine enterC hv Tryz.call92 Tryz.func92 ?_
  refine sgE (sq (sg ?_))
  refine eqSE (fun h1 => ?_) (fun h1 => ?_)
  · refine cT (rr ?_)
    exact ret1 (show Value.bool true = .bool (partsB s) by unfold partsB; rw [if_pos h1])
  refine cFs (sq (sg ?_))
  refine gtE (fun h2 => ?_) (fun h2 => ?_)
  · refine cT (rr ?_)
    exact ret1 (show Value.bool false = .bool (partsB s) by unfold partsB; rw [if_neg h1, if_pos (show 200 < s.length by omega)])
  have h2' : s.length ≤ 200 := by omega
  have hB : partsB s = ((cutR s).all partOk && decide ((cutR s).length ≤ 10)) := by unfold partsB; rw [if_neg h1, if_neg (by omega), splitL_cut]
  refine cFs (sg ?_)
  refine callM0 (vs := [str s]) [] (fun w hon hgi => ref1Cut hon (by omega)) (fun v g L' hs1 hR => ?_)
  obtain ⟨A, c, rfl, rfl⟩ := hR
  have hbd : ∀ x ∈ cutR s, x.length ≤ LB := fun x hx => by have := cut_bd x hx; unfold LB; omega
  have hcl := cutR_len s
  refine rfrz 0 fun g2 hs2 hq => ?_
  have hl : Sl g2 A c (cutR s) := Sl.ofTexts hq rfl hbd (by unfold LB; omega)
  refine runE ?_
  generalize cutR s = l at hB hbd hcl hl
  refine efg [(3, .slice A l.length c)] [] (fun ρ => ?_)
  refine sqJ (σ := Unit) (fun _ => [(3, .slice A l.length c)]) (fun _ => g2) (fun _ => []) (fun _ => l.all partOk = true) ?_ ?_
  case refine_2 =>
    rintro ⟨⟩ ρ hall
    rw [hall, Bool.true_and] at hB
    refine sg ?_
    refine leE (fun h => ?_) (fun h => ?_)
    · refine ew_ret ?_
      exact ret1 (show Value.bool true = .bool (partsB s) by rw [hB, decide_eq_true (show l.length ≤ 10 by omega)])
    · refine ew_ret ?_
      exact ret1 (show Value.bool false = .bool (partsB s) by rw [hB, decide_eq_false (show ¬ l.length ≤ 10 by omega)])
  refine sgE (bk ?_)
  refine lpn l.length (fun k => [(4, i64 k), (3, .slice A l.length c)]) (fun k => (l.take k).all partOk = true) rfl ?_
  intro k ρ hk hi
  refine sq (sg ?_)
  refine ltE (fun h => ?_) (fun h => ?_)
  case refine_2 =>
    refine cFx ?_
    have e : k = l.length := by omega
    subst e
    rw [List.take_length] at hi
    exact jn () hi
  have h3 : k < l.length := by omega
  have htk : (l.take (k + 1)).all partOk = ((l.take k).all partOk && partOk l[k]) := by
    rw [(List.take_append_getElem h3).symm, List.all_append]; simp
  have hnall : partOk l[k] = false → l.all partOk = false := fun h => by
    rw [← Bool.not_eq_true]
    intro h3
    rw [List.all_eq_true.1 h3 _ (List.getElem_mem _)] at h
    cases h
  obtain ⟨b1, o1, rfl, hc1, hx⟩ := hl.text h3
  generalize l[k] = x at htk hc1 hx hnall
  refine cTs (sq (bk ?_))
  refine sg ?_
  refine ix k h3 ?_
  refine ldv hc1 ?_
  refine callV (.bool (partOk x)) (vs := [str x]) (fun w g h1 h2 h3 => ref1Part h3 hx) ?_
  cases hpo : partOk x with
  | false =>
    have hna := hnall hpo
    refine runE ?_
    refine cT (rr ?_)
    exact ret1 (show Value.bool false = .bool (partsB s) by rw [hB, hna]; rfl)
  | true =>
    refine runE ?_
    refine cFs (rg ?_)
    refine addE ((k + 1 : Nat) : Int) ?_
    exact nx (by rw [htk, hi, hpo]; rfl)
theorem pathL_cut {s : Str} (h1 : s ≠ []) (h : partsB s = true) : pathL s = cutR s := by
  unfold pathL
  rw [h, if_pos rfl]
  unfold partsB at h
  unfold partsS
  rw [if_neg h1] at h ⊢
  split at h
  · cases h
  · rename_i h2
    rw [if_neg h2]
    rw [Bool.and_eq_true] at h
    rw [if_pos h.1, splitL_cut]
theorem pathL_no {s : Str} (h : s = [] ∨ partsB s = false) : pathL s = [] := by
  rcases h with h | h
  · subst h; rfl
  · unfold pathL; rw [h]; rfl
theorem ref1Split {w : World} {f : View} (hv : On f w) {s : Str} (hs : s.length ≤ LB) : Con Tryz.prog 75 [str s] w (RetM w f [] fun _ L' v => ∃ A c, v = .slice A (pathL s).length c ∧ L' = [sRow A c (pathL s)]) := by
  refine enterM (L := []) hv (Given.nil _ _) Tryz.call75 Tryz.func75 ?_
  have hs' := hs
  unfold LB at hs'
  refine sgE (sq (sg ?_))
  refine eqS (fun h1 => ?_) (fun h1 => ?_)
  · refine runE ?_
    refine cT (sgE ?_)
    refine enilrow 9 1 ?_
    refine ew_ret ?_
    rw [pathL_no (.inl h1)]
    exact ret1M (show ∃ A c, Value.slice none 0 0 = .slice A (([] : List Str)).length c ∧ [HE.row none 0 0 9 1 []] = [sRow A c []] from ⟨none, 0, rfl, rfl⟩)
  refine callV (.bool (partsB s)) (vs := [str s]) (fun w g h1 h2 h3 => ref1May h3 hs) ?_
  cases hb : partsB s with
  | false =>
    refine runE ?_
    refine cT (sgE ?_)
    refine enilrow 9 1 ?_
    refine ew_ret ?_
    rw [pathL_no (.inr hb)]
    exact ret1M (show ∃ A c, Value.slice none 0 0 = .slice A (([] : List Str)).length c ∧ [HE.row none 0 0 9 1 []] = [sRow A c []] from ⟨none, 0, rfl, rfl⟩)
  | true =>
    rw [pathL_cut h1 hb]
    have h200 : s.length ≤ 1000000 := by
      unfold partsB at hb
      rw [if_neg h1] at hb
      split at hb
      · cases hb
      · omega
    refine runE ?_
    refine cFs (sg ?_)
    refine callM0 (vs := [str s]) [] (fun w hon hgi => ref1Cut hon h200) (fun v g L' hs1 hR => ?_)
    obtain ⟨A, c, rfl, rfl⟩ := hR
    refine runE ?_
    refine ew_ret ?_
    exact ret1M ⟨A, c, rfl, rfl⟩
theorem ref1Join {w : World} {f : View} (hv : On f w) {A : Option Addr} {c : Nat} {l : List Str} (hl : Sl f A c l) (hok : ∀ x ∈ l, partOk x = true) (h200 : (joinS l).length ≤ 200) (hB : partsB (joinS l) = true) :
    Con Tryz.prog 124 [.slice A l.length c] w (Ret w f fun _ v => v = .tuple #[str (joinS l), .bool true]) := by
  have hlim := hl.len_lt
  refine enterC hv Tryz.call124 Tryz.func124 ?_
  refine sgE (sgE ?_)
  refine sqJ (σ := Unit) (fun _ => [(4, str (joinS l))]) (fun _ => f) (fun _ => []) (fun _ => True) ?_ ?_
  case refine_2 =>
    rintro ⟨⟩ ρ _
    refine sq (sg ?_)
    refine callV (.bool (partsB (joinS l))) (vs := [str (joinS l)]) (fun w g h1 h2 h3 => ref1May h3 (by unfold LB; omega)) ?_
    rw [hB]
    refine runE ?_
    refine cFs (sgE ?_)
    refine ew_ret ?_
    exact ret2 rfl
  refine sgE (bk ?_)
  refine lpn l.length (fun k => [(5, i64 k), (4, str (joinS (l.take k))), (0, .slice A l.length c)]) (fun k => True) trivial ?_
  intro k ρ hk hi
  refine sq (sg ?_)
  refine ltE (fun h => ?_) (fun h => ?_)
  case refine_2 =>
    refine cFx ?_
    have e : k = l.length := by omega
    subst e
    rw [List.take_length]
    exact jn () trivial
  have h3 : k < l.length := by omega
  have hsn := joinS_snoc (l.take k) l[k]
  rw [List.take_append_getElem h3] at hsn
  have hpx := hok _ (List.getElem_mem h3)
  have hjl := joinS_take_len l k
  have hjl1 := joinS_take_len l (k + 1)
  obtain ⟨b1, o1, rfl, hc1, hx⟩ := hl.text h3
  have hx' := hx
  unfold LB at hx'
  have hk0 : l.take k = [] ↔ k = 0 := by
    constructor
    · intro e
      have := congrArg List.length e
      rw [List.length_take] at this
      have h4 : min k l.length = 0 := this
      omega
    · rintro rfl; rfl
  have hJ0 : k = 0 → joinS (l.take k) = [] := fun e => by rw [e]; rfl
  generalize hJ : joinS (l.take (k + 1)) = J1 at hsn hjl1
  generalize joinS (l.take k) = J at hsn hjl hJ0
  generalize l[k] = x at hsn hpx hc1 hx hx'
  refine cTs (sq (bk ?_))
  refine sq (sg ?_)
  refine ix k h3 ?_
  refine ldv hc1 ?_
  refine callV (.bool (partOk x)) (vs := [str x]) (fun w g h1 h2 h3 => ref1Part h3 hx) ?_
  rw [hpx]
  refine gt (fun h => absurd h (show ¬ (200 : Int) < (J.length : Nat) by omega)) (fun _ => ?_)
  refine runE ?_
  refine cFs ?_
  refine efg [(5, i64 k), (4, str J), (0, .slice (some ⟨b1, o1, none⟩) l.length c)] [] (fun ρ => ?_)
  refine sqJ (σ := Unit) (fun _ => [(5, i64 k), (4, str (if k = 0 then J else J ++ [47])), (0, .slice (some ⟨b1, o1, none⟩) l.length c)]) (fun _ => f) (fun _ => []) (fun _ => True) ?_ ?_
  · refine sg ?_
    refine gtE (fun h4 => ?_) (fun h4 => ?_)
    · refine cT (rg ?_)
      refine catE (s := J) (u := [47]) (show J.length + 1 ≤ 9223372036854775807 by omega) ?_
      exact jn () trivial (ha := ⟨rfl, by rw [if_neg (by omega)]; rfl, rfl, trivial⟩)
    · refine cFs ?_
      exact jn () trivial (ha := ⟨rfl, by rw [if_pos (by omega)]; rfl, rfl, trivial⟩)
  rintro ⟨⟩ ρ _
  have hJ2 : (if k = 0 then J else J ++ [47]) ++ x = J1 := by
    rw [hsn]
    by_cases e : k = 0
    · rw [if_pos e, if_pos (hk0.2 e), hJ0 e]; rfl
    · rw [if_neg e, if_neg (fun h => e (hk0.1 h))]
      simp
  have hJl : (if k = 0 then J else J ++ [47]).length + x.length ≤ 9223372036854775807 := by
    rw [← List.length_append, hJ2]; omega
  refine rg ?_
  refine ix k h3 ?_
  refine ldv hc1 ?_
  refine catE hJl ?_
  refine rg ?_
  refine addE ((k + 1 : Nat) : Int) ?_
  exact nx trivial (ha := ⟨rfl, by show str _ = str (joinS (l.take (k + 1))); rw [hJ, ← hJ2], rfl, trivial⟩)
theorem ref1Parent {w : World} {f : View} (hv : On f w) {s : Str} (hs : s.length ≤ LB) : Con Tryz.prog 106 [str s] w (Ret w f fun _ v => v = .tuple #[str (parS s), .bool (parB s)]) := by
  refine enterC hv Tryz.call106 Tryz.func106 ?_
  refine sgE (sg ?_)
  refine callM0 (vs := [str s]) [] (fun w hon hgi => ref1Split hon hs) (fun v g L' hs1 hR => ?_)
  obtain ⟨A, c, rfl, rfl⟩ := hR
  by_cases hpb : parB s = true
  case neg =>
    have hno : s = [] ∨ partsB s = false := by
      unfold parB at hpb
      rw [Bool.not_eq_true, Bool.not_eq_false', Bool.or_eq_true, decide_eq_true_eq, Bool.not_eq_true'] at hpb
      exact hpb
    have e1 : parS s = [] := if_pos hno
    rw [pathL_no hno]
    refine runE ?_
    refine sq (sg ?_)
    refine eqIE (fun _ => ?_) (fun h => absurd rfl h)
    refine cT (sgE ?_)
    refine edropH ?_
    refine ew_ret ?_
    exact ret2 (show Value.tuple #[str [], .bool false] = _ by rw [e1, (by simpa using hpb : parB s = false)])
  obtain ⟨h1, h2, h3, h4, h5⟩ := par_join hpb
  have hyes : s ≠ [] ∧ partsB s = true := by
    unfold parB at hpb
    rw [Bool.not_eq_true', Bool.or_eq_false_iff, decide_eq_false_iff_not, Bool.not_eq_false'] at hpb
    exact hpb
  rw [pathL_cut hyes.1 hyes.2]
  have hbd : ∀ x ∈ cutR s, x.length ≤ LB := fun x hx => by have := cut_bd x hx; unfold LB; omega
  have hne : (cutR s).length ≠ 0 := by
    obtain ⟨a, t, e⟩ := cutR_ne s
    rw [e]; simp
  have hdl : (cutR s).dropLast = (cutR s).take ((cutR s).length - 1) := List.dropLast_eq_take
  have hjl : (joinS (cutR s).dropLast).length ≤ 200 := by
    rw [hdl]
    have := joinS_take_len (cutR s) ((cutR s).length - 1)
    rw [join_cut] at this
    omega
  have hall : ∀ x ∈ (cutR s).dropLast, partOk x = true := fun x hx => h5 x (List.dropLast_subset _ hx)
  rw [h1] at h2 ⊢
  rw [hpb]
  rw [hdl] at hjl hall h2 ⊢
  refine rfrz 0 fun g2 hs2 hq => ?_
  have hl : Sl g2 A c (cutR s) := Sl.ofTexts hq rfl hbd (by unfold LB; omega)
  have hcap := hl.cap
  have htk := hl.take ((cutR s).length - 1)
  have htl : ((cutR s).take ((cutR s).length - 1)).length = (cutR s).length - 1 := by rw [List.length_take]; omega
  refine runE ?_
  generalize (cutR s).take ((cutR s).length - 1) = d at hjl hall h2 htk htl
  generalize (cutR s).length = n at hne hcap htl h3
  refine efg [(4, .slice A n c)] [] (fun ρ => ?_)
  refine sq (sg ?_)
  refine eqIE (fun h => absurd h (show ¬ ((n : Nat) : Int) = 0 by omega)) (fun _ => ?_)
  refine cFs (sg ?_)
  refine sub ((n - 1 : Nat) : Int) ?_
  refine slH (n - 1) (show n - 1 ≤ c by omega) ?_
  refine callV (.tuple #[str (joinS d), .bool true]) (vs := [.slice A d.length c]) (fun w g h1 h2' h3 => ref1Join h3 (htk.mono h1) hall hjl h2) ?_ (ha := by rw [htl]; rfl)
  refine runE ?_
  refine ew_ret ?_
  exact ret2 rfl
end Go.Hog

set_option linter.unusedVariables false
set_option linter.unusedSimpArgs false
set_option maxRecDepth 100000
set_option maxHeartbeats 1000000
namespace Go.Hog
open Go.RowKit Rp Go.Proofs
theorem ref2Good {w : World} {f : View} (hv : On f w) {x : Node} (hp : x.path.length ≤ LB) (hd : x.data.length ≤ LB) : Con Tryz.prog 105 [.agg ⟨nodeC x⟩] w (Ret w f fun _ v => v = .bool (goodN x)) := by
  refine enterC hv Tryz.call105 Tryz.func105 ?_
  refine sg ?_
  refine box (vs := nodeC x) fun b1 => ?_
  refine runE ?_
  refine efrz 0 fun g hs hq => ?_
  have k0 : g.cell? ⟨b1, 0, none⟩ = some (str x.path) := blk_seen hq
  have k1 : g.cell? ⟨b1, 1, none⟩ = some (i64 x.kind) := blk_seen hq
  have k2 : g.cell? ⟨b1, 2, none⟩ = some (str x.data) := blk_seen hq
  refine efg [(1, .pointer (some ⟨b1, 0, none⟩))] [] (fun ρ => ?_)
  refine sqJ (σ := Unit) (fun _ => [(1, .pointer (some ⟨b1, 0, none⟩))]) (fun _ => g) (fun _ => []) (fun _ => x.data.length ≤ 400 ∧ goodN x = (if x.kind = 1 then decide (x.data = []) else if x.kind = 2 ∨ x.kind = 3 then true else if x.kind = 4 then decide (x.data ≠ []) && decide (Lib.indexByte x.data 0 < 0) else false)) ?_ ?_
  · refine sg ?_
    refine ldv k0 ?_
    refine callV (.bool (partsB x.path)) (vs := [str x.path]) (fun w g h1 h2 h3 => ref1May h3 hp) ?_
    cases hb : partsB x.path with
    | false =>
      refine runE ?_
      refine cT (rr ?_)
      refine ret1 (show Value.bool false = .bool (goodN x) from ?_)
      unfold goodN; rw [hb]; rfl
    | true =>
      refine ldv k2 ?_
      refine gt (fun h => ?_) (fun h => ?_)
      · refine runE ?_
        refine cT (rr ?_)
        refine ret1 (show Value.bool false = .bool (goodN x) from ?_)
        unfold goodN; rw [hb, decide_eq_false (show ¬ x.data.length ≤ 400 by omega)]; rfl
      · refine runE ?_
        refine cFs ?_
        refine jn () ⟨by omega, ?_⟩
        unfold goodN; rw [hb, decide_eq_true (show x.data.length ≤ 400 by omega)]; rfl
  rintro ⟨⟩ ρ ⟨h400, hg⟩
  refine sqJ (σ := Unit) (fun _ => []) (fun _ => g) (fun _ => []) (fun _ => goodN x = false) ?_ ?_
  case refine_2 =>
    rintro ⟨⟩ ρ hg2
    refine sgE ?_
    refine ew_ret ?_
    exact ret1 (show Value.bool false = .bool (goodN x) by rw [hg2])
  refine sg ?_
  refine ldv k1 ?_
  refine runE ?_
  refine bk (sg ?_)
  refine eqIE (fun h1 => ?_) (fun h1 => ?_)
  · refine cT (sg ?_)
    refine ldv k2 ?_
    rw [if_pos h1] at hg
    refine eqSE (fun h2 => ?_) (fun h2 => ?_)
    · refine ew_ret ?_
      exact ret1 (show Value.bool true = .bool (goodN x) by rw [hg, decide_eq_true h2])
    · refine ew_ret ?_
      exact ret1 (show Value.bool false = .bool (goodN x) by rw [hg, decide_eq_false h2])
  rw [if_neg h1] at hg
  refine cF ?_
  refine sqJ (σ := Bool) (fun b => [(21, .bool b), (15, i64 x.kind), (1, .pointer (some ⟨b1, 0, none⟩))]) (fun _ => g) (fun _ => []) (fun b => b = decide (x.kind = 2 ∨ x.kind = 3)) ?_ ?_
  · refine sg ?_
    refine eqIE (fun h2 => ?_) (fun h2 => ?_)
    · refine cTs ?_
      exact jn true (decide_eq_true (.inl h2)).symm
    · refine cF (rg ?_)
      refine eqIE (fun h3 => ?_) (fun h3 => ?_)
      · exact jn true (decide_eq_true (.inr h3)).symm
      · exact jn false (decide_eq_false (by rintro (h | h); exact h2 h; exact h3 h)).symm
  rintro b ρ hb
  by_cases h23 : x.kind = 2 ∨ x.kind = 3
  · rw [decide_eq_true h23] at hb
    subst hb
    rw [if_pos h23] at hg
    refine cT (rr ?_)
    exact ret1 (show Value.bool true = .bool (goodN x) by rw [hg])
  rw [decide_eq_false h23] at hb
  subst hb
  rw [if_neg h23] at hg
  refine cF (sg ?_)
  refine eqIE (fun h4 => ?_) (fun h4 => ?_)
  case refine_2 =>
    rw [if_neg h4] at hg
    refine cFs ?_
    exact jn () hg
  rw [if_pos h4] at hg
  refine cT ?_
  refine sqJ (σ := Unit) (fun _ => [(1, .pointer (some ⟨b1, 0, none⟩))]) (fun _ => g) (fun _ => []) (fun _ => (0 : UInt8) ∉ x.data) ?_ ?_
  · refine sgE (bk ?_)
    refine lpn x.data.length (fun k => [(3, i64 k), (1, .pointer (some ⟨b1, 0, none⟩))]) (fun k => (0 : UInt8) ∉ x.data.take k) (by simp) ?_
    intro k ρ hk hi
    refine sq (sg ?_)
    refine ldv k2 ?_
    refine ltE (fun h => ?_) (fun h => ?_)
    case refine_2 =>
      refine cFx ?_
      have e : k = x.data.length := by omega
      subst e
      rw [List.take_length] at hi
      exact jn () hi
    have h5 : k < x.data.length := by omega
    have hc : x.data[k]? = some x.data[k] := List.getElem?_eq_getElem h5
    have hmem : x.data[k] ∈ x.data := List.getElem_mem h5
    have htk : x.data.take (k + 1) = x.data.take k ++ [x.data[k]] := (List.take_append_getElem h5).symm
    generalize x.data[k] = y at hc hmem htk
    refine cTs (sq (bk (sg ?_)))
    refine ldv k2 ?_
    refine ixS k y hc ?_
    refine eqIE (fun h6 => ?_) (fun h6 => ?_)
    · refine cT (rr ?_)
      have hy : y = 0 := u8_eq.1 h6
      have : ¬ Lib.indexByte x.data 0 < 0 := fun h7 => index_mem.1 h7 (hy ▸ hmem)
      exact ret1 (show Value.bool false = .bool (goodN x) by rw [hg, decide_eq_false this, Bool.and_false])
    · refine cFs (rg ?_)
      refine addE ((k + 1 : Nat) : Int) ?_
      refine nx ?_
      rw [htk, List.mem_append, List.mem_singleton]
      rintro (h | h)
      · exact hi h
      · exact h6 (by rw [← h]; rfl)
  rintro ⟨⟩ ρ h0
  rw [decide_eq_true (index_mem.2 h0), Bool.and_true] at hg
  refine sg ?_
  refine ldv k2 ?_
  refine neSE (fun h5 => ?_) (fun h5 => ?_)
  · refine ew_ret ?_
    exact ret1 (show Value.bool true = .bool (goodN x) by rw [hg, decide_eq_true h5])
  · refine ew_ret ?_
    exact ret1 (show Value.bool false = .bool (goodN x) by rw [hg, decide_eq_false h5])
def anyD (t : List Node) (s : Str) : Bool := t.any fun n => decide (n.path = s) && decide (n.kind = 1)
theorem ref2dir {w : World} {f : View} (hv : On f w) {A : Option Addr} {c : Nat} {t : List Node} (ht : Sl f A c t) {s : Str} : Con Tryz.prog 107 [.slice A t.length c, str s] w (Ret w f fun _ v => v = .bool (anyD t s)) := by
  have hlim := ht.len_lt
  refine enterC hv Tryz.call107 Tryz.func107 ?_
  refine sgE ?_
  refine sqJ (σ := Unit) (fun _ => []) (fun _ => f) (fun _ => []) (fun _ => anyD t s = false) ?_ ?_
  case refine_2 =>
    rintro ⟨⟩ ρ h
    refine sgE ?_
    refine ew_ret ?_
    exact ret1 (show Value.bool false = .bool (anyD t s) by rw [h])
  refine sgE (bk ?_)
  refine lpn t.length (fun k => [(5, i64 k), (0, .slice A t.length c), (1, str s)]) (fun k => anyD (t.take k) s = false) rfl ?_
  intro k ρ hk hi
  refine sq (sg ?_)
  refine ltE (fun h => ?_) (fun h => ?_)
  case refine_2 =>
    refine cFx ?_
    have e : k = t.length := by omega
    subst e
    rw [List.take_length] at hi
    exact jn () hi
  have h1 : k < t.length := by omega
  obtain ⟨b1, o1, rfl, hc1, hn1⟩ := ht.node h1
  have htk : anyD (t.take (k + 1)) s = (anyD (t.take k) s || (decide (t[k].path = s) && decide (t[k].kind = 1))) := by
    unfold anyD
    rw [(List.take_append_getElem h1).symm, List.any_append]; simp
  have hyes : t[k].path = s → t[k].kind = 1 → anyD t s = true := fun h2 h3 => List.any_eq_true.2 ⟨_, List.getElem_mem h1, by rw [decide_eq_true h2, decide_eq_true h3]; rfl⟩
  rw [hi, Bool.false_or] at htk
  generalize t[k] = x at hc1 hn1 htk hyes
  refine cTs (sq (bk (sg ?_)))
  refine ix k h1 ?_
  refine ldv hc1.1 ?_
  refine eqS (fun h2 => ?_) (fun h2 => ?_)
  case refine_2 =>
    refine runE ?_
    refine cFs (rg ?_)
    refine addE ((k + 1 : Nat) : Int) ?_
    exact nx (by rw [htk, decide_eq_false h2]; rfl)
  refine ix k h1 ?_
  refine ldv hc1.2.1 ?_
  refine eqI (fun h3 => ?_) (fun h3 => ?_)
  · refine runE ?_
    refine cT (rr ?_)
    exact ret1 (show Value.bool true = .bool (anyD t s) by rw [hyes h2 h3])
  · refine runE ?_
    refine cFs (rg ?_)
    refine addE ((k + 1 : Nat) : Int) ?_
    exact nx (by rw [htk, decide_eq_false h3, Bool.and_false])
theorem dir_any : ∀ (t : List Node), (t.map (·.path)).Nodup → ∀ s, dirB t s = anyD t s := by
  intro t
  refine snocInd (P := fun t => (t.map (·.path)).Nodup → ∀ s, dirB t s = anyD t s) ?_ ?_ t
  · intro _ s; rfl
  · intro t x ih hnd s
    rw [List.map_append, List.nodup_append] at hnd
    obtain ⟨h1, _, h3⟩ := hnd
    rw [dirB_snoc, ih h1]
    unfold anyD
    rw [List.any_append]
    by_cases e : x.path = s
    · rw [if_pos e]
      have h4 : (t.any fun n => decide (n.path = s) && decide (n.kind = 1)) = false := by
        rw [List.any_eq_false]
        intro n hn
        have : n.path ≠ x.path := h3 _ (List.mem_map.2 ⟨n, hn, rfl⟩) _ (.head _)
        rw [e] at this
        simp [this]
      rw [h4]
      simp [e]
    · rw [if_neg e]
      simp [e]
theorem good_rising {t : List Node} {k : Nat} (hk : k ≤ t.length) (h : ∀ i, i < k → badAt t i = false) : ((t.take k).map (·.path)).Pairwise (· < ·) := by
  refine adj_pairwise fun i hi h0 => ?_
  rw [List.length_map, List.length_take] at hi
  have hit : i < t.length := by omega
  have hit1 : i - 1 < t.length := by omega
  have hb := h i (by omega)
  unfold badAt at hb
  rw [List.getElem?_eq_getElem hit] at hb
  simp only [Bool.or_eq_false_iff, Bool.not_eq_false'] at hb
  have hf := hb.2
  have hl : (t.take i).getLast? = some t[i - 1] := by
    rw [List.getLast?_eq_getElem?, List.length_take, Nat.min_eq_left (by omega), List.getElem?_take, if_pos (by omega), List.getElem?_eq_getElem hit1]
  unfold followsB at hf
  rw [hl] at hf
  simp only [Bool.and_eq_true, decide_eq_true_eq] at hf
  simpa using hf.1.2
theorem ref2Bad {w : World} {f : View} (hv : On f w) {A : Option Addr} {c : Nat} {t : List Node} (ht : Sl f A c t) :
    Con Tryz.prog 91 [.slice A t.length c] w (Ret w f fun _ v => ∃ n : Int, v = i64 n ∧ (n < 0 ↔ mayT t = true)) := by
  refine enterC hv Tryz.call91 Tryz.func91 ?_
  have hlim := ht.len_lt
  refine sgE (sq (sg ?_))
  refine eqIE (fun h1 => ?_) (fun h1 => ?_)
  · have h0 : t = [] := List.length_eq_zero_iff.1 (by omega)
    refine cT (rr ?_)
    exact ret1 ⟨0, rfl, by rw [h0]; decide⟩
  have h0 : t ≠ [] := fun e => h1 (by rw [e]; rfl)
  refine cFs ?_
  refine sqJ (σ := Unit) (fun _ => []) (fun _ => f) (fun _ => []) (fun _ => (∀ i, i < t.length → badAt t i = false)) ?_ ?_
  case refine_2 =>
    rintro ⟨⟩ ρ hall
    refine sgE ?_
    refine ew_ret ?_
    refine ret1 ⟨-1, rfl, ?_⟩
    have e : mayT t = true := by
      unfold mayT
      rw [decide_eq_true h0, Bool.true_and, List.all_eq_true]
      intro i hi
      rw [hall i (List.mem_range.1 hi)]; rfl
    rw [e]; decide
  refine sgE (bk ?_)
  refine lpn t.length (fun k => [(3, i64 k), (0, .slice A t.length c)]) (fun k => ∀ i, i < k → badAt t i = false) (fun i hi => by simp at hi) ?_
  intro k ρ hk hbad
  refine sq (sg ?_)
  refine ltE (fun h => ?_) (fun h => ?_)
  case refine_2 =>
    have e : k = t.length := by omega
    subst e
    refine cFx ?_
    exact jn () hbad
  have h1 : k < t.length := by omega
  obtain ⟨b1, o1, rfl, hc1, hn1⟩ := ht.node h1
  have hbk : badAt t k = (decide (400 ≤ k) || !goodN t[k] || !followsB t[k] (t.take k)) := by unfold badAt; rw [List.getElem?_eq_getElem h1]
  have hno : ∀ n : Nat, badAt t k = true → ((n : Int) < 0 ↔ mayT t = true) := fun n hb => by
    constructor
    · intro h; omega
    · intro h
      unfold mayT at h
      rw [Bool.and_eq_true, List.all_eq_true] at h
      have := h.2 k (List.mem_range.2 h1)
      rw [hb] at this; cases this
  have hnext : badAt t k = false → ∀ i, i < k + 1 → badAt t i = false := fun hb i hi => by
    by_cases e : i = k
    · rw [e]; exact hb
    · exact hbad i (by omega)
  have htl : (t.take k).length = k := by rw [List.length_take]; omega
  have htt := ht.take k
  have hkc : k ≤ c := by have := ht.cap; omega
  have hda := dir_any (t.take k) (strict_nodup (good_rising (Nat.le_of_lt h1) hbad))
  have hprev : 0 < k → ∃ l : Node, (t.take k).getLast? = some l ∧ f.cell? ⟨b1, o1 + (k - 1) * 3, none⟩ = some (str l.path) := fun h0 => by
    have h2 : k - 1 < t.length := by omega
    obtain ⟨b2, o2, e2, hc2, _⟩ := ht.node h2
    injection e2 with e2
    injection e2 with e2 e3
    subst e2 e3
    exact ⟨t[k - 1], by rw [List.getLast?_eq_getElem?, htl, List.getElem?_take, if_pos (by omega), List.getElem?_eq_getElem h2], hc2.1⟩
  have hfirst : k = 0 → (t.take k).getLast? = none := fun e => by rw [e]; rfl
  have hx0 : k = 0 → f.cell? ⟨b1, o1 + 0 * 3, none⟩ = some (str t[k].path) := fun e => by
    rw [show o1 + 0 * 3 = o1 + k * 3 by omega]
    exact hc1.1
  have h0t : 0 < t.length := by omega
  generalize t[k] = x at hbk hc1 hn1 hx0
  have hfol : followsB x (t.take k) = match (t.take k).getLast? with
    | none => decide (x.path = [])
    | some l => parB x.path && decide (l.path < x.path) && dirB (t.take k) (parS x.path) := rfl
  generalize hT : t.take k = T at hbk htl htt hda hprev hfirst hfol
  refine cTs (sq (bk ?_))
  refine sq (sg ?_)
  refine ge (fun h4 => ?_) (fun h4 => ?_)
  · refine runE ?_
    refine cT (rr ?_)
    exact ret1 ⟨k, rfl, hno k (by rw [hbk, decide_eq_true (show 400 ≤ k by omega)]; rfl)⟩
  rw [decide_eq_false (show ¬ 400 ≤ k by omega), Bool.false_or] at hbk
  refine ix k h1 ?_
  refine ldvA hc1 ?_
  refine callV (.bool (goodN x)) (vs := [.agg ⟨nodeC x⟩]) (fun w g h1 h2 h3 => ref2Good h3 hn1.1 hn1.2.1) ?_
  cases hg : goodN x with
  | false =>
    refine runE ?_
    refine cT (rr ?_)
    exact ret1 ⟨k, rfl, hno k (by rw [hbk, hg]; rfl)⟩
  | true =>
  rw [hg, Bool.not_true, Bool.false_or] at hbk
  refine runE ?_
  refine cFs ?_
  refine efg [(3, i64 k), (0, .slice (some ⟨b1, o1, none⟩) t.length c)] [] (fun ρ => ?_)
  refine sq (sg ?_)
  refine eqIE (fun h5 => ?_) (fun h5 => ?_)
  · have hk0 : k = 0 := by omega
    rw [hfirst hk0] at hfol
    refine cT ?_
    refine sq (sg ?_)
    refine ix 0 h0t ?_
    refine ldv (hx0 hk0) ?_
    refine neSE (fun h6 => ?_) (fun h6 => ?_)
    · refine cT (rr ?_)
      exact ret1 ⟨0, rfl, hno 0 (by rw [hbk, hfol, decide_eq_false h6]; rfl)⟩
    · refine cFs ?_
      refine ew_exit ?_
      refine rg ?_
      refine addE ((k + 1 : Nat) : Int) ?_
      exact nx (hnext (by rw [hbk, hfol, decide_eq_true (Classical.not_not.1 h6)]; rfl))
  have hk0 : 0 < k := by omega
  obtain ⟨l, hl1, hl2⟩ := hprev hk0
  rw [hl1] at hfol
  replace hfol : followsB x T = (parB x.path && decide (l.path < x.path) && dirB T (parS x.path)) := hfol
  rw [hda] at hfol
  refine cFs ?_
  have hkt : k - 1 < t.length := by omega
  refine sg ?_
  refine ix k h1 ?_
  refine ldv hc1.1 ?_
  refine callV (.tuple #[str (parS x.path), .bool (parB x.path)]) (vs := [str x.path]) (fun w g h1 h2 h3 => ref1Parent h3 hn1.1) ?_
  refine runE ?_
  refine efg [(4, str (parS x.path)), (5, .bool (parB x.path)), (3, i64 k), (0, .slice (some ⟨b1, o1, none⟩) t.length c)] [] (fun ρ => ?_)
  refine sQ ?_
  refine ix k h1 ?_
  refine ldv hc1.1 ?_
  refine sub ((k - 1 : Nat) : Int) ?_
  refine ix (k - 1) hkt ?_
  refine ldv hl2 ?_
  refine leS (fun h6 => ?_) (fun h6 => ?_)
  · rw [decide_eq_false h6, Bool.and_false, Bool.false_and] at hfol
    refine runE ?_
    refine cT (rr ?_)
    exact ret1 ⟨k, rfl, hno k (by rw [hbk, hfol]; rfl)⟩
  rw [decide_eq_true (Classical.not_not.1 h6), Bool.and_true] at hfol
  cases hpb : parB x.path with
  | false =>
    rw [hpb, Bool.false_and] at hfol
    refine runE ?_
    refine cT (rr ?_)
    exact ret1 ⟨k, rfl, hno k (by rw [hbk, hfol]; rfl)⟩
  | true =>
    rw [hpb, Bool.true_and] at hfol
    refine slH k hkc ?_
    refine callV (.bool (anyD T (parS x.path))) (vs := [.slice (some ⟨b1, o1, none⟩) k c, str (parS x.path)]) (fun w g h1 h2 h3 => ?_) ?_
    · have := ref2dir h3 (htt.mono h1) (s := parS x.path)
      rwa [htl] at this
    cases had : anyD T (parS x.path) with
    | false =>
      rw [had] at hfol
      refine runE ?_
      refine cT (rr ?_)
      exact ret1 ⟨k, rfl, hno k (by rw [hbk, hfol]; rfl)⟩
    | true =>
      rw [had] at hfol
      refine runE ?_
      refine cFs (rg ?_)
      refine addE ((k + 1 : Nat) : Int) ?_
      exact nx (hnext (by rw [hbk, hfol]; rfl))
theorem ref2May {w : World} {f : View} (hv : On f w) {A : Option Addr} {c : Nat} {t : List Node} (ht : Sl f A c t) : Con Tryz.prog 74 [.slice A t.length c] w (Ret w f fun _ v => v = .bool (mayT t)) := by
  refine enterC hv Tryz.call74 Tryz.func74 ?_
  refine sgE (sg ?_)
  refine callO (vs := [.slice A t.length c]) (R := fun _ v => ∃ n : Int, v = i64 n ∧ (n < 0 ↔ mayT t = true)) (fun w g h1 h2 h3 => ref2Bad h3 (ht.mono h1)) (fun v g hR => ?_)
  obtain ⟨n, rfl, hn⟩ := hR
  refine ltE (fun h => ?_) (fun h => ?_)
  · refine ew_ret ?_
    exact ret1 (show Value.bool true = .bool (mayT t) by rw [hn.1 h])
  · refine ew_ret ?_
    exact ret1 (show Value.bool false = .bool (mayT t) by
      cases e : mayT t with
      | false => rfl
      | true => exact absurd (hn.2 e) h)
theorem small_all {t : List Node} : decide ((t.filter smallB).length = t.length) = t.all smallB := by
  rw [Bool.eq_iff_iff, decide_eq_true_eq, List.all_eq_true, List.length_filter_eq_length_iff]
theorem ref7Own {w : World} {f : View} (hv : On f w) {A : Option Addr} {c : Nat} {t : List Node} (ht : Sl f A c t) : Con Tryz.prog 49 [.slice A t.length c] w (Ret w f fun _ v => v = .bool (treeOk t)) := by
  have hlim := ht.len_lt
  have hd : treeOk t = (decide (t.length ≤ 24) && mayT t && t.all smallB) := by unfold treeOk; rw [small_all]
  refine enterC hv Tryz.call49 Tryz.func49 ?_
  refine sgE (sq (sg ?_))
  refine gt (fun h1 => ?_) (fun h1 => ?_)
  · refine runE ?_
    refine cT (rr ?_)
    exact ret1 (show Value.bool false = .bool (treeOk t) by rw [hd, decide_eq_false (show ¬ t.length ≤ 24 by omega)]; rfl)
  rw [decide_eq_true (show t.length ≤ 24 by omega), Bool.true_and] at hd
  refine callV (.bool (mayT t)) (vs := [.slice A t.length c]) (fun w g h1 h2 h3 => ref2May h3 (ht.mono h1)) ?_
  cases hmt : mayT t with
  | false =>
    refine runE ?_
    refine cT (rr ?_)
    exact ret1 (show Value.bool false = .bool (treeOk t) by rw [hd, hmt]; rfl)
  | true =>
  rw [hmt, Bool.true_and] at hd
  refine runE ?_
  refine cFs ?_
  refine efg [(0, .slice A t.length c)] [] (fun ρ => ?_)
  refine sqJ (σ := View) (fun _ => []) (fun g => g) (fun _ => []) (fun _ => t.all smallB = true) ?_ ?_
  case refine_2 =>
    rintro g ρ h
    replace h : t.all smallB = true := h
    refine sgE ?_
    refine ew_ret ?_
    exact ret1 (show Value.bool true = .bool (treeOk t) by rw [hd, h])
  refine sgE (bk ?_)
  refine lp (σ := Nat × View) (fun s => [(3, i64 s.1), (0, .slice A t.length c)]) (fun s => s.2) (fun _ => []) (fun s => s.1 ≤ t.length ∧ Sub f s.2 ∧ (t.take s.1).all smallB = true) (fun s => t.length - s.1) (0, f) ⟨Nat.zero_le _, Sub.refl _, rfl⟩ ?_
  rintro ⟨k, g⟩ ρ ⟨hk, hs, hi⟩
  replace hk : k ≤ t.length := hk
  replace hs : Sub f g := hs
  replace hi : (t.take k).all smallB = true := hi
  show EW _ _ _ _ _ (ups ρ [(3, i64 k), (0, .slice A t.length c)]) g []
  refine sq (sg ?_)
  refine ltE (fun h => ?_) (fun h => ?_)
  case refine_2 =>
    refine cFx ?_
    have e : k = t.length := by omega
    subst e
    rw [List.take_length] at hi
    exact jn g hi
  have h2 : k < t.length := by omega
  obtain ⟨b1, o1, rfl, hc1, hn1⟩ := (ht.mono hs).node h2
  have htk : (t.take (k + 1)).all smallB = ((t.take k).all smallB && smallB t[k]) := by
    rw [(List.take_append_getElem h2).symm, List.all_append]; simp
  have hno : smallB t[k] = false → t.all smallB = false := fun h => by
    rw [← Bool.not_eq_true]
    intro h3
    rw [List.all_eq_true.1 h3 _ (List.getElem_mem _)] at h
    cases h
  generalize t[k] = x at hc1 hn1 htk hno
  rw [hi, Bool.true_and] at htk
  have hsm : smallB x = (decide (x.path.length ≤ 120) && decide ((pathL x.path).length ≤ 8)) := rfl
  refine cTs (sq (bk (sg ?_)))
  refine ix k h2 ?_
  refine ldv hc1.1 ?_
  refine gt (fun h3 => ?_) (fun h3 => ?_)
  · rw [decide_eq_false (show ¬ x.path.length ≤ 120 by omega), Bool.false_and] at hsm
    refine runE ?_
    refine cT (rr ?_)
    exact ret1 (show Value.bool false = .bool (treeOk t) by rw [hd, hno hsm])
  rw [decide_eq_true (show x.path.length ≤ 120 by omega), Bool.true_and] at hsm
  refine ix k h2 ?_
  refine ldv hc1.1 ?_
  refine callM0 (vs := [str x.path]) [] (fun w hon hgi => ref1Split hon hn1.1) (fun v g2 L' hs2 hR => ?_)
  obtain ⟨A5, c5, rfl, rfl⟩ := hR
  refine gt (fun h4 => ?_) (fun h4 => ?_)
  · rw [decide_eq_false (show ¬ (pathL x.path).length ≤ 8 by omega)] at hsm
    refine runE ?_
    refine cT (sgE ?_)
    refine edropH ?_
    refine ew_ret ?_
    exact ret1 (show Value.bool false = .bool (treeOk t) by rw [hd, hno hsm])
  · rw [decide_eq_true (show (pathL x.path).length ≤ 8 by omega)] at hsm
    refine dropH ?_
    refine runE ?_
    refine cFs (rg ?_)
    refine addE ((k + 1 : Nat) : Int) ?_
    exact nxs (k + 1, g2) ⟨h2, hs.trans hs2, by show (t.take (k + 1)).all smallB = true; rw [htk, hsm]⟩ (by show t.length - (k + 1) < t.length - k; omega)
end Go.Hog

set_option linter.unusedVariables false
set_option linter.unusedSimpArgs false
set_option maxRecDepth 100000
set_option maxHeartbeats 1000000
namespace Go.Hog
open Go.RowKit Rp Go.Proofs
theorem ref7Same {w : World} {f : View} (hv : On f w) {A B : Option Addr} {c c2 : Nat} {a b : List Str} (ha : Sl f A c a) (hb : Sl f B c2 b) :
    Con Tryz.prog 50 [.slice A a.length c, .slice B b.length c2] w (Ret w f fun _ v => v = .bool (decide (a = b))) := by
  refine enterC hv Tryz.call50 Tryz.func50 ?_
  have hlim := ha.len_lt
  refine sgE (sq (sg ?_))
  refine neIE (fun h => ?_) (fun h => ?_)
  · refine cT (rr ?_)
    exact ret1 (bF (by rintro rfl; exact h rfl))
  refine cFs (sq (sgE (bk ?_)))
  refine lpn a.length (fun k => [(5, i64 k), (0, .slice A a.length c), (1, .slice B b.length c2)]) (fun k => a.take k = b.take k) rfl ?_
  intro k ρ hk hi
  refine sq (sg ?_)
  refine ltE (fun h => ?_) (fun h => ?_)
  · have h1 : k < a.length := by omega
    have h2 : k < b.length := by omega
    obtain ⟨b1, o1, rfl, c1, _⟩ := ha.text h1
    obtain ⟨b2, o2, rfl, c2, _⟩ := hb.text h2
    refine cTs (sq (bk (sQ ?_)))
    refine ix k h1 ?_
    refine ldv c1 ?_
    refine ix k h2 ?_
    refine ldv c2 ?_
    refine neSE (fun h => ?_) (fun h => ?_)
    · refine cT (rr ?_)
      exact ret1 (bF (by rintro rfl; exact h rfl))
    · refine cFs (rg ?_)
      refine addE ((k + 1 : Nat) : Int) ?_
      exact nx (take_eq hi h1 h2 (Classical.not_not.1 h))
  · refine cFx (rr ?_)
    exact ret1 (bT (take_all hi (by omega) (by omega)))
def lastB (T : List Item) (nm : Str) : Bool := match T.getLast? with | none => true | some l => decide (l.name < nm)
theorem ref9Validate {w : World} {f : View} (hv : On f w) {s : Str} (hs : s.length ≤ LB) {A : Option Addr} {c : Nat} {a : List Item} (ha : Sl f A c a) :
    Con Tryz.prog 28 [str s, .slice A a.length c] w (Ret w f fun _ v => v = i64 (valE s a)) := by
  refine enterC hv Tryz.call28 Tryz.func28 ?_
  have hlim := ha.len_lt
  refine sgE ?_
  refine sq (sg ?_)
  refine callB (p := prefixOk s) (vs := [str s]) (fun w g h1 h2 h3 => ref9Prefix h3 hs) (fun hpre => ?_) (fun h1 => ?_)
  case refine_2 =>
    refine runE ?_
    refine cT (rr ?_)
    exact ret1 (show Value.int .i64 11 = i64 (valE s a) by unfold valE; rw [if_pos h1])
  refine runE ?_
  refine cFs (sq (sg ?_))
  refine gtE (fun h2 => ?_) (fun h2 => ?_)
  · refine cT (rr ?_)
    exact ret1 (show Value.int .i64 3 = i64 (valE s a) by unfold valE; rw [if_neg (Classical.not_not.2 hpre), if_pos (show 8 < a.length by omega)])
  have h8 : a.length ≤ 8 := by omega
  have hE : valE s a = if val1 a a.length ≠ 0 then val1 a a.length else if a.all (refsOk a) then 0 else 8 := by
    unfold valE
    rw [if_neg (Classical.not_not.2 hpre), if_neg (by omega)]
  refine cFs ?_
  refine efg [(1, .slice A a.length c)] [] (fun ρ => ?_)
  refine sqJ (σ := View) (fun _ => [(1, .slice A a.length c)]) (fun g => g) (fun _ => []) (fun g => Sub f g ∧ val1 a a.length = 0) ?_ ?_
  · refine sgE (bk ?_)
    refine lp (σ := Nat × View) (fun t => [(5, i64 t.1), (1, .slice A a.length c)]) (fun t => t.2) (fun _ => []) (fun t => t.1 ≤ a.length ∧ Sub f t.2 ∧ val1 a t.1 = 0) (fun t => a.length - t.1) (0, f) ⟨Nat.zero_le _, Sub.refl _, rfl⟩ ?_
    rintro ⟨k, g⟩ ρ ⟨hk, hsg, hi⟩
    replace hk : k ≤ a.length := hk
    replace hsg : Sub f g := hsg
    replace hi : val1 a k = 0 := hi
    show EW _ _ _ _ _ (ups ρ [(5, i64 k), (1, .slice A a.length c)]) g []
    refine sq (sg ?_)
    refine ltE (fun h => ?_) (fun h => ?_)
    case refine_2 =>
      refine cFx ?_
      have e : k = a.length := by omega
      subst e
      exact jn g ⟨hsg, hi⟩
    have h1 : k < a.length := by omega
    have hst := val1_step hi h1
    have hbad : val1 a (k + 1) ≠ 0 → valE s a = val1 a (k + 1) := fun h => by
      have := val1_stays h a.length (by omega)
      rw [hE, this, if_pos h]
    have ha1 := ha.mono hsg
    obtain ⟨b1, o1, A3, c3, A4, c4, rfl, hc1, hn1, hr1, ht1⟩ := ha1.item h1
    have hprev : 0 < k → ∃ (h2 : k - 1 < a.length) (l : Item), (a.take k).getLast? = some l ∧ g.cell? ⟨b1, o1 + (k - 1) * 3, none⟩ = some (str l.name) := fun h0 => by
      have h2 : k - 1 < a.length := by omega
      obtain ⟨b2, o2, _, _, _, _, e2, hc2, _⟩ := ha1.item h2
      injection e2 with e2
      injection e2 with e2 e3
      subst e2 e3
      exact ⟨h2, a[k - 1], by rw [List.getLast?_eq_getElem?, List.length_take, Nat.min_eq_left (by omega), List.getElem?_take, if_pos (by omega), List.getElem?_eq_getElem h2], hc2.1⟩
    have hfirst : k = 0 → (a.take k).getLast? = none := fun e => by rw [e]; rfl
    have hget : ∀ j (hj : j < k), ∃ y nm, a[j]? = some y ∧ y.name = nm ∧ g.cell? ⟨b1, o1 + j * 3, none⟩ = some (str nm) ∧ nm.length ≤ LB ∧ y ∈ a.take k ∧ a.take (j + 1) = a.take j ++ [y] := fun j hj => by
      have h2 : j < a.length := by omega
      obtain ⟨b2, o2, _, _, _, _, e2, hc2, hn2, _⟩ := ha1.item h2
      injection e2 with e2
      injection e2 with e2 e3
      subst e2 e3
      exact ⟨a[j], _, List.getElem?_eq_getElem h2, rfl, hc2.1, hn2, List.mem_iff_getElem.2 ⟨j, by rw [List.length_take]; omega, by rw [List.getElem_take]⟩, (List.take_append_getElem h2).symm⟩
    have hnb : namedB a[k] (a.take k) = (decide (nameOk a[k].name) && lastB (a.take k) a[k].name && !((a.take k).any fun y => decide (hashL y.name = hashL a[k].name))) := rfl
    generalize a[k] = x at hst hc1 hn1 hr1 ht1 hnb
    refine cTs (sq (bk ?_))
    refine sg ?_
    refine ix k h1 ?_
    refine ldvA hc1 ?_
    refine alloc fun b6 => ?_
    refine st 0 ?_
    refine rfrz 0 fun g2 hs2 hq => ?_
    have k0 : g2.cell? ⟨b6, 0, none⟩ = some (str x.name) := blk_seen hq
    have k2 : g2.cell? ⟨b6, 2, none⟩ = some (.slice A4 x.tree.length c4) := blk_seen hq
    refine runE ?_
    refine efg [(6, .pointer (some ⟨b6, 0, none⟩)), (5, i64 k), (1, .slice (some ⟨b1, o1, none⟩) a.length c)] [] (fun ρ => ?_)
    refine sqJ (σ := Unit) (fun _ => [(6, .pointer (some ⟨b6, 0, none⟩)), (5, i64 k), (1, .slice (some ⟨b1, o1, none⟩) a.length c)]) (fun _ => g2) (fun _ => []) (fun _ => nameOk x.name ∧ lastB (a.take k) x.name = true) ?_ ?_
    · refine sQ ?_
      refine ldv k0 ?_
      refine callB (p := nameOk x.name) (vs := [str x.name]) (fun w g hs _ hon => ref7Name hon hn1) (fun h3 => ?_) (fun h3 => ?_)
      case refine_2 =>
        rw [decide_eq_false h3, Bool.false_and, Bool.false_and] at hnb
        rw [hnb, if_pos rfl] at hst
        have := hbad (by rw [hst]; decide)
        refine runE ?_
        refine cT (rr ?_)
        exact ret1 (show Value.int .i64 6 = i64 (valE s a) by rw [this, hst])
      refine Go.Hog.gt (fun h4 => ?_) (fun h4 => ?_)
      · obtain ⟨h2, l, hl1, hl2⟩ := hprev (by omega)
        have hlB : lastB (a.take k) x.name = decide (l.name < x.name) := by unfold lastB; rw [hl1]
        refine sub ((k - 1 : Nat) : Int) ?_
        refine ix (k - 1) h2 ?_
        refine ldv (Sub.cell hs2 hl2) ?_
        refine ldv k0 ?_
        refine geS (fun h5 => ?_) (fun h5 => ?_)
        · rw [decide_eq_false h5] at hlB
          rw [hlB, Bool.and_false, Bool.false_and] at hnb
          rw [hnb, if_pos rfl] at hst
          have := hbad (by rw [hst]; decide)
          refine runE ?_
          refine cT (rr ?_)
          exact ret1 (show Value.int .i64 6 = i64 (valE s a) by rw [this, hst])
        · refine runE ?_
          refine cFs ?_
          exact jn () ⟨h3, by rw [hlB, decide_eq_true (Classical.not_not.1 h5)]⟩
      · refine runE ?_
        refine cFs ?_
        exact jn () ⟨h3, by unfold lastB; rw [hfirst (by omega)]⟩
    rintro ⟨⟩ ρ ⟨h3, h4⟩
    rw [decide_eq_true h3, h4, Bool.true_and, Bool.true_and] at hnb
    refine sqJ (σ := Unit) (fun _ => [(6, .pointer (some ⟨b6, 0, none⟩)), (5, i64 k), (1, .slice (some ⟨b1, o1, none⟩) a.length c)]) (fun _ => g2) (fun _ => []) (fun _ => ((a.take k).any fun y => decide (hashL y.name = hashL x.name)) = false) ?_ ?_
    · refine sgE (bk ?_)
      refine lpn k (fun j => [(7, i64 j), (6, .pointer (some ⟨b6, 0, none⟩)), (5, i64 k), (1, .slice (some ⟨b1, o1, none⟩) a.length c)]) (fun j => ((a.take j).any fun y => decide (hashL y.name = hashL x.name)) = false) rfl ?_
      intro j ρ hj hij
      refine sq (sg ?_)
      refine ltE (fun h => ?_) (fun h => ?_)
      case refine_2 =>
        refine cFx ?_
        have e : j = k := by omega
        subst e
        exact jn () hij
      have hjk : j < k := by omega
      have hja : j < a.length := by omega
      obtain ⟨y, nm, hy0, rfl, hc2, hn2, hym, htj⟩ := hget j hjk
      refine cTs (sq (bk (sQ ?_)))
      refine ix j hja ?_
      refine ldv (Sub.cell hs2 hc2) ?_
      refine callV (str (hashL y.name)) (vs := [str y.name]) (fun w g h1 h2 h3 => ref7Hash h3 hn2) ?_
      refine ldv k0 ?_
      refine callV (str (hashL x.name)) (vs := [str x.name]) (fun w g h1 h2 h3 => ref7Hash h3 hn1) ?_
      refine eqSE (fun h5 => ?_) (fun h5 => ?_)
      · have : ((a.take k).any fun y => decide (hashL y.name = hashL x.name)) = true := List.any_eq_true.2 ⟨y, hym, decide_eq_true h5⟩
        rw [this] at hnb
        rw [hnb, Bool.not_true, if_pos rfl] at hst
        have := hbad (by rw [hst]; decide)
        refine cT (rr ?_)
        exact ret1 (show Value.int .i64 6 = i64 (valE s a) by rw [this, hst])
      · refine cFs (rg ?_)
        refine addE ((j + 1 : Nat) : Int) ?_
        refine nx ?_
        rw [htj, List.any_append, hij, Bool.false_or]
        simp [h5]
    rintro ⟨⟩ ρ h5
    rw [h5] at hnb
    rw [hnb, Bool.not_false, if_neg (by decide)] at hst
    refine sg ?_
    refine ldv k2 ?_
    refine callV (.bool (treeOk x.tree)) (vs := [.slice A4 x.tree.length c4]) (fun w g' h1 h2 h3 => ref7Own h3 ((ht1.mono hs2).mono h1)) ?_
    cases htb : treeOk x.tree with
    | false =>
      rw [htb, if_pos rfl] at hst
      have := hbad (by rw [hst]; decide)
      refine runE ?_
      refine cT (rr ?_)
      exact ret1 (show Value.int .i64 7 = i64 (valE s a) by rw [this, hst])
    | true =>
      rw [htb, if_neg (by decide)] at hst
      refine runE ?_
      refine cFs ?_
      refine rg ?_
      refine addE ((k + 1 : Nat) : Int) ?_
      exact nxs (k + 1, g2) ⟨h1, hsg.trans hs2, hst⟩ (by show a.length - (k + 1) < a.length - k; omega)
  rintro g ρ ⟨hsg, h0⟩
  replace hsg : Sub f g := hsg
  replace h0 : val1 a a.length = 0 := h0
  have ha1 := ha.mono hsg
  rw [if_neg (Classical.not_not.2 h0)] at hE
  have hall := (val1_zero (Nat.le_refl _)).1 h0
  have hnl : (names a).length = a.length := List.length_map _
  have hnb : ∀ z ∈ names a, z.length ≤ LB := fun z hz => by
    obtain ⟨y, hy, rfl⟩ := List.mem_map.1 hz
    obtain ⟨j, hj, rfl⟩ := List.getElem_of_mem hy
    obtain ⟨_, _, _, _, _, _, _, _, hn, _, _⟩ := ha.item hj
    exact hn
  refine sqJ (σ := View) (fun _ => []) (fun g' => g') (fun _ => []) (fun _ => a.all (refsOk a) = true) ?_ ?_
  case refine_2 =>
    rintro g2 ρ hall2
    replace hall2 : a.all (refsOk a) = true := hall2
    refine sgE ?_
    refine ew_ret ?_
    exact ret1 (show Value.int .i64 0 = i64 (valE s a) by rw [hE, if_pos hall2])
  refine sgE (bk ?_)
  refine lp (σ := Nat × View) (fun t => [(8, i64 t.1), (1, .slice A a.length c)]) (fun t => t.2) (fun _ => []) (fun t => t.1 ≤ a.length ∧ Sub g t.2 ∧ (a.take t.1).all (refsOk a) = true) (fun t => a.length - t.1) (0, g) ⟨Nat.zero_le _, Sub.refl _, rfl⟩ ?_
  rintro ⟨k, g2⟩ ρ ⟨hk, hs2, hi⟩
  replace hk : k ≤ a.length := hk
  replace hs2 : Sub g g2 := hs2
  replace hi : (a.take k).all (refsOk a) = true := hi
  show EW _ _ _ _ _ (ups ρ [(8, i64 k), (1, .slice A a.length c)]) g2 []
  refine sq (sg ?_)
  refine ltE (fun h => ?_) (fun h => ?_)
  case refine_2 =>
    refine cFx ?_
    have e : k = a.length := by omega
    subst e
    rw [List.take_length] at hi
    exact jn g2 hi
  have h1 : k < a.length := by omega
  have ha2 := ha1.mono hs2
  obtain ⟨b1, o1, A3, c3, A4, c4, rfl, hc1, hn1, hr1, ht1⟩ := ha2.item h1
  have hdat : ∀ z ∈ a[k].tree, z.data.length < 4294967281 := fun z hz => by
    have := good_data (tree_good (hall k h1 h1).2 z hz)
    omega
  have htk : (a.take (k + 1)).all (refsOk a) = ((a.take k).all (refsOk a) && refsOk a a[k]) := by
    rw [(List.take_append_getElem h1).symm, List.all_append]; simp
  have hno : refsOk a a[k] = false → a.all (refsOk a) = false := fun h => by
    rw [← Bool.not_eq_true]
    intro h3
    rw [List.all_eq_true.1 h3 _ (List.getElem_mem h1)] at h
    cases h
  generalize a[k] = x at hc1 hn1 hr1 ht1 hdat htk hno
  refine cTs (sq (bk ?_))
  refine sA [2, 3, 4, 7, 8, 9] [] (List.nil_sublist _) ?_
  refine an_takeU [0, 1, 5, 6, 10] ?_
  refine an_takeH [2, 3, 4, 7, 8, 9] (HeldL.none (Sub.refl _)) ?_
  refine ix k h1 ?_
  refine ldv hc1.2.1 ?_
  refine ix k h1 ?_
  refine ldv hc1.2.2.1 ?_
  refine rw_end ?_
  refine an_run1 11 ?_
  refine callM0 (vs := [.slice (some ⟨b1, o1, none⟩) a.length c]) [] (fun w hon hgi => ref9Names hon ha2 (by omega)) (fun v g3 L' hs3 hR => ?_)
  obtain ⟨A7, c7, rfl, rfl⟩ := hR
  refine rfrz 0 fun g4 hs4 hq => ?_
  have hns : Sl g4 A7 c7 (names a) := Sl.ofTexts hq rfl hnb (by rw [hnl]; exact hlim)
  have hs24 := hs3.trans hs4
  refine aH (HeldL.none hs24) ?_
  refine an_run1 12 ?_
  refine callM0 (vs := [.slice A4 x.tree.length c4, .slice A7 (names a).length c7]) [] (fun w hon hgi => ref8Tree hon (ht1.mono hs24) hdat hns (by rw [hnl]; omega)) (fun v g5 L' hs5 hR => ?_)
  obtain ⟨A9, c9, rfl, rfl⟩ := hR
  refine aH (HeldL.none (hs24.trans hs5)) ?_
  refine an_run1 13 ?_
  have htb : ∀ z ∈ treeL x.tree (names a), z.length ≤ LB := fun z hz => by
    unfold treeL at hz
    exact hnb z (foundL_mem.1 hz).1
  have htL : (treeL x.tree (names a)).length ≤ LB := Nat.le_trans (foundL_len _ _) (by rw [hnl]; exact Nat.le_trans h8 (by decide))
  refine callV (.bool (decide (x.refs = treeL x.tree (names a)))) (vs := [.slice A3 x.refs.length c3, .slice A9 (treeL x.tree (names a)).length c9]) (fun w g' h1 h2 h3 => ref7Same h3 (hr1.mono ((hs24.trans hs5).trans h1)) (Sl.ofTexts (h2 _ (.head _)) rfl htb htL)) ?_
  refine aH (HeldL.none (hs24.trans hs5)) ?_
  have hro : refsOk a x = decide (x.refs = treeL x.tree (names a)) := rfl
  rw [← hro]
  cases hb : refsOk a x with
  | false =>
    refine an_takeU [14] ?_
    refine an_done ?_
    refine ewL (L' := []) (fun _ h => h.sublist (List.nil_sublist _)) ?_
    refine cT (rr ?_)
    exact ret1 (show Value.int .i64 8 = i64 (valE s a) by rw [hE, hno hb]; rfl)
  | true =>
    refine an_takeU [14] ?_
    refine an_done ?_
    refine ewL (L' := []) (fun _ h => h.sublist (List.nil_sublist _)) ?_
    refine cFs ?_
    refine rg ?_
    refine addE ((k + 1 : Nat) : Int) ?_
    exact nxs (k + 1, g5) ⟨h1, hs2.trans (hs24.trans hs5), by show (a.take (k + 1)).all (refsOk a) = true; rw [htk, hi, hb]; rfl⟩ (by show a.length - (k + 1) < a.length - k; omega)
end Go.Hog
