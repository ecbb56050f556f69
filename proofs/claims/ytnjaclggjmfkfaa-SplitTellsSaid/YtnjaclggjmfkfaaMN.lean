/- G5 G6 S9, in one text. -/
import Derived.Test.YtnjaclggjmfkfaaF24
import Derived.Test.YtnjaclggjmfkfaaMM
set_option linter.unusedVariables false
set_option linter.unusedSimpArgs false
set_option maxRecDepth 100000
set_option maxHeartbeats 1000000
namespace Go.Hog
open Go.RowKit Rp Go.Proofs
def aw21 : List Item := [⟨[97], [[98]], []⟩, ⟨[98], [], []⟩, ⟨[99], [[97]], []⟩]
theorem aw21_a : reachL aw21 [[97]] = [[97], [98]] := (reachL_run 10 (r := [[97], [98]]) (by decide +kernel)).trans (by decide +kernel)
theorem aw21_b : reachL aw21 [[98]] = [[98]] := (reachL_run 10 (r := [[98]]) (by decide +kernel)).trans (by decide +kernel)
theorem aw21_c : reachL aw21 [[99]] = [[97], [98], [99]] := (reachL_run 10 (r := [[99], [97], [98]]) (by decide +kernel)).trans (by decide +kernel)
theorem aw21_sc (s : Str) : sc aw21 s = (if ([97] : Str) ≠ s ∧ s ∈ ([[97], [98]] : List Str) then 1 else 0) + (if ([98] : Str) ≠ s ∧ s ∈ ([[98]] : List Str) then 1 else 0) + (if ([99] : Str) ≠ s ∧ s ∈ ([[97], [98], [99]] : List Str) then 1 else 0) := by
  have h0 : scN aw21 0 s = 0 := by simp [scN]
  have h1 : scN aw21 1 s = scN aw21 0 s + (if ([97] : Str) ≠ s ∧ s ∈ reachL aw21 [[97]] then 1 else 0) := scN_succ (by decide) s
  have h2 : scN aw21 2 s = scN aw21 1 s + (if ([98] : Str) ≠ s ∧ s ∈ reachL aw21 [[98]] then 1 else 0) := scN_succ (by decide) s
  have h3 : scN aw21 3 s = scN aw21 2 s + (if ([99] : Str) ≠ s ∧ s ∈ reachL aw21 [[99]] then 1 else 0) := scN_succ (by decide) s
  rw [aw21_a] at h1
  rw [aw21_b] at h2
  rw [aw21_c] at h3
  show scN aw21 3 s = _
  rw [h3, h2, h1, h0, Nat.zero_add]
theorem aw21_scores : scoresL aw21 = [1, 2, 0] := by
  have e1 : sc aw21 [97] = 1 := by rw [aw21_sc]; decide
  have e2 : sc aw21 [98] = 2 := by rw [aw21_sc]; decide
  have e3 : sc aw21 [99] = 0 := by rw [aw21_sc]; decide
  unfold scoresL
  rw [if_pos (by decide +kernel)]
  show [(sc aw21 [97] : Int), (sc aw21 [98] : Int), (sc aw21 [99] : Int)] = _
  rw [e1, e2, e3]; rfl
theorem aw21_rank : rankL aw21 = [[98], [97], [99]] := by
  have e1 : sc aw21 [97] = 1 := by rw [aw21_sc]; decide
  have e2 : sc aw21 [98] = 2 := by rw [aw21_sc]; decide
  have e3 : sc aw21 [99] = 0 := by rw [aw21_sc]; decide
  unfold rankL
  rw [if_pos (by decide +kernel)]
  unfold rankP
  show (sortBy plLt [((sc aw21 [97] : Int), ([97] : Str)), ((sc aw21 [98] : Int), [98]), ((sc aw21 [99] : Int), [99])]).map Prod.snd = _
  rw [e1, e2, e3]
  decide +kernel
theorem Sl.ofNumV {g : View} {A : Option Addr} {c e : Nat} {l : List Int} {n : Nat} (h : (HE.row A n c e 1 (l.map numV)).seen g) (hn : n = l.length) (hb : ∀ s ∈ l, -9223372036854775808 ≤ s ∧ s ≤ 9223372036854775807) (hl : l.length ≤ LB) : Sl g A c l :=
  Sl.ofRow h hn rfl hl fun j hj => ⟨by
    show ((l.map numV).drop (j * 1)).take 1 = _
    rw [Nat.mul_one, ← List.map_drop, ← List.map_take, List.drop_eq_getElem_cons hj]
    rfl, hb _ (List.getElem_mem hj)⟩
end Go.Hog

set_option linter.unusedVariables false
set_option linter.unusedSimpArgs false
set_option maxRecDepth 100000
set_option maxHeartbeats 1000000
namespace Go.Hog
open Go.RowKit Rp Go.Proofs
section
variable {P : Program} {n : Nat} {B : Bs} {f : View} {L : List HE} {ρ : Env} {K : Kon} {ops : Array Oper} {m : Md} {l l0 : List Oper} {ρ0 : Env} {d : Nat} {x y : Operand} {t ty t2 : TypeId} {pos : String} {af : Array Edge} {gd : Option (Nat × Bool)}
theorem eqBB (p q : Bool) (k : RW m P n B ops K l (up ρ d (.bool (p == q))) f L) (hrun : runP P ops l0 ρ0 = (⟨some d, .binOp .eql t x y t2, ty, pos, af, gd⟩ :: l, ρ) := by rfl) (hg : wantedE ops ρ ⟨some d, .binOp .eql t x y t2, ty, pos, af, gd⟩ = true := by rfl) (hx : ev ρ x = .bool p := by rfl) (hy : ev ρ y = .bool q := by rfl) (ht : P.underlying t = some .bool := by rfl) : RW m P n B ops K l0 ρ0 f L := by
  refine rw_runP l0 ρ0 ?_
  rw [hrun]
  have he : ∀ w, (Op.equalIn Op.maxDepth t (.bool p) (.bool q)).run P w = .ok (p == q) w := fun w => by
    rw [show Op.maxDepth = 9999 + 1 from rfl]
    unfold Op.equalIn
    simp [run_und ht]
  exact rw_y hg (fun w _ => by simp [execOp, eqGuard, binOp, hx, hy, Op.equal, he]) k
end
theorem fitT_of {a : List Item} (h : ¬ GreatI a) : FitT a := by
  unfold GreatI at h
  refine ⟨?_, fun x hx => ⟨?_, ?_⟩⟩
  · have : ¬ 10 < a.length := fun e => h (.inl e)
    omega
  · have h2 : ¬ GreatT x.refs 12 100 := fun e => h (.inr ⟨x, hx, .inr (.inl e)⟩)
    have : ¬ (12 : Int) < x.refs.length := fun e => h2 (.inl e)
    omega
  · have h2 : ¬ GreatN x.tree 30 := fun e => h (.inr ⟨x, hx, .inr (.inr e)⟩)
    have : ¬ (30 : Int) < x.tree.length := fun e => h2 (.inl e)
    omega
theorem ten_of {a : List Item} (h : ¬ GreatI a) : a.length ≤ 10 := by
  have : ¬ 10 < a.length := fun e => h (.inl e)
  omega
theorem scoresL_len (a : List Item) : (scoresL a).length ≤ a.length := by
  unfold scoresL
  split
  · rw [List.length_map]; exact Nat.le_refl _
  · exact Nat.zero_le _
theorem scoresL_b {a : List Item} (h : a.length ≤ 12) : ∀ s ∈ scoresL a, -9223372036854775808 ≤ s ∧ s ≤ 9223372036854775807 := by
  unfold scoresL
  split
  · intro s hs
    obtain ⟨x, _, rfl⟩ := List.mem_map.1 hs
    have := scN_le a a.length x.name
    unfold sc
    omega
  · intro s hs; cases hs
theorem rankL_sub (a : List Item) : ∀ s ∈ rankL a, s ∈ names a := by
  unfold rankL
  split
  · intro s hs
    obtain ⟨p, hp, rfl⟩ := List.mem_map.1 hs
    have h2 : p ∈ a.map (plOf a) := (sortBy_perm _).mem_iff.1 hp
    obtain ⟨x, hx, rfl⟩ := List.mem_map.1 h2
    exact List.mem_map.2 ⟨x, hx, rfl⟩
  · intro s hs; cases hs
theorem rankL_len (a : List Item) : (rankL a).length ≤ a.length := by
  unfold rankL
  split
  · have h2 : (rankP a).length = (a.map (plOf a)).length := (sortBy_perm _).length_eq
    rw [List.length_map, h2, List.length_map]
    exact Nat.le_refl _
  · exact Nat.zero_le _
theorem namesLe {f : View} {A : Option Addr} {c : Nat} {a : List Item} (ha : Sl f A c a) {s : Str} (h : s ∈ names a) : s.length ≤ LB := by
  obtain ⟨x, hx, rfl⟩ := List.mem_map.1 h
  obtain ⟨j, hj, rfl⟩ := List.getElem_of_mem hx
  obtain ⟨_, _, _, _, _, _, _, _, hn, _, _⟩ := ha.item hj
  exact hn
end Go.Hog

set_option linter.unusedVariables false
set_option linter.unusedSimpArgs false
namespace Go.Hog
theorem name_inj {a : List Item} (hnd : (names a).Nodup) {x y : Item} (hx : x ∈ a) (hy : y ∈ a) (h : x.name = y.name) : x = y := by
  obtain ⟨i, hi, rfl⟩ := List.getElem_of_mem hx
  obtain ⟨j, hj, rfl⟩ := List.getElem_of_mem hy
  have := (names_ne hnd hj hi).1 h
  subst this
  rfl
theorem getI_of {a : List Item} (hnd : (names a).Nodup) {x : Item} (hx : x ∈ a) : getI a x.name = some x := by
  cases h : getI a x.name with
  | none => exact absurd rfl (getI_none.1 h x hx)
  | some y => rw [name_inj hnd hx (getI_mem h) (getI_name h).symm]
theorem names_perm {a b : List Item} (hp : a.Perm b) : (names a).Perm (names b) := hp.map _
theorem getI_perm {a b : List Item} (hp : a.Perm b) (hnd : (names a).Nodup) (s : Str) : getI a s = getI b s := by
  have hnd2 : (names b).Nodup := (names_perm hp).nodup_iff.1 hnd
  cases h : getI a s with
  | none =>
    refine (getI_none.2 fun x hx => getI_none.1 h x (hp.mem_iff.2 hx)).symm
  | some x =>
    have h1 := getI_of hnd2 (hp.mem_iff.1 (getI_mem h))
    rw [getI_name h] at h1
    exact h1.symm
theorem rch_congr {a b : List Item} {S : List Str} (h : ∀ s, getI a s = getI b s) {s : Str} (hr : Rch a S s) : Rch b S s := by
  induction hr with
  | base h1 h2 => exact .base h1 (by rw [← h]; exact h2)
  | step h1 h2 h3 h4 ih => exact .step ih (by rw [← h]; exact h2) h3 (by rw [← h]; exact h4)
theorem rch_perm {a b : List Item} (hp : a.Perm b) (hnd : (names a).Nodup) {S : List Str} (s : Str) : Rch a S s ↔ Rch b S s :=
  ⟨rch_congr (getI_perm hp hnd), rch_congr fun s => (getI_perm hp hnd s).symm⟩
open Classical in
theorem sc_eq (a : List Item) (s : Str) : sc a s = (a.filter fun x => decide (x.name ≠ s ∧ Rch a [x.name] s)).length := by
  unfold sc scN
  rw [List.take_length]
  refine congrArg List.length (List.filter_congr fun x _ => ?_)
  simp only [reachL_mem]
open Classical in
theorem sc_perm {a b : List Item} (hp : a.Perm b) (hnd : (names a).Nodup) (s : Str) : sc a s = sc b s := by
  rw [sc_eq, sc_eq, (hp.filter _).length_eq]
  refine congrArg List.length (List.filter_congr fun x _ => ?_)
  simp only [rch_perm hp hnd]
theorem rankL_perm {a b : List Item} (hp : a.Perm b) (hnd : (names a).Nodup) : rankL b = rankL a := by
  have hnd2 : (names b).Nodup := (names_perm hp).nodup_iff.1 hnd
  unfold rankL
  rw [if_pos hnd, if_pos hnd2]
  refine congrArg (List.map Prod.snd) (rankP_of ?_ (sortBy_sorted plSO _))
  refine (sortBy_perm _).trans ?_
  have e : b.map (plOf b) = b.map (plOf a) := List.map_congr_left fun x _ => by unfold plOf; rw [sc_perm hp hnd]
  rw [e]
  exact (hp.map _).symm
theorem rankP_perm (a : List Item) : (rankP a).Perm (a.map (plOf a)) := sortBy_perm _
theorem rank_len {a : List Item} (hnd : (names a).Nodup) : (rankL a).length = a.length := by
  unfold rankL
  rw [if_pos hnd, List.length_map, (rankP_perm a).length_eq, List.length_map]
theorem scores_len {a : List Item} (hnd : (names a).Nodup) : (scoresL a).length = a.length := by
  unfold scoresL
  rw [if_pos hnd, List.length_map]
theorem rank_perm {a : List Item} (hnd : (names a).Nodup) : (rankL a).Perm (names a) := by
  unfold rankL
  rw [if_pos hnd]
  refine ((rankP_perm a).map _).trans ?_
  rw [List.map_map]
  exact List.Perm.refl _
/-- Each is above the next. -/
theorem rank_step {a : List Item} (hnd : (names a).Nodup) {i : Nat} (h0 : 0 < i) (hi : i < (rankL a).length) : Abv (sc a (rankL a)[i - 1]) (rankL a)[i - 1] (sc a (rankL a)[i]) (rankL a)[i] := by
  have hnr : (rankL a).Nodup := (rank_perm hnd).nodup_iff.2 hnd
  have hne : (rankL a)[i - 1] ≠ (rankL a)[i] := List.pairwise_iff_getElem.1 hnr (i - 1) i (by omega) hi (by omega)
  have hR : rankL a = (rankP a).map Prod.snd := by unfold rankL; rw [if_pos hnd]
  have hlen : (rankL a).length = (rankP a).length := by rw [hR, List.length_map]
  have key : ∀ j (hj : j < (rankL a).length) (hj2 : j < (rankP a).length), (rankP a)[j] = ((sc a (rankL a)[j] : Int), (rankL a)[j]) := fun j hj hj2 => by
    have hm : (rankP a)[j] ∈ a.map (plOf a) := (rankP_perm a).mem_iff.1 (List.getElem_mem hj2)
    obtain ⟨x, hx, e⟩ := List.mem_map.1 hm
    have e2 : (rankL a)[j] = (rankP a)[j].2 := by simp only [hR, List.getElem_map]
    rw [e2, ← e]
    rfl
  have h1 := List.pairwise_iff_getElem.1 (sortBy_sorted plSO (a.map (plOf a))) (i - 1) i (show i - 1 < (rankP a).length by omega) (show i < (rankP a).length by omega) (by omega)
  have k1 := key (i - 1) (by omega) (by omega)
  have k2 := key i hi (by omega)
  change ¬ plLt (rankP a)[i] (rankP a)[i - 1] at h1
  rw [k1, k2] at h1
  refine Classical.byContradiction fun hn => ?_
  have := plEq ((sc a (rankL a)[i - 1] : Int), (rankL a)[i - 1]) ((sc a (rankL a)[i] : Int), (rankL a)[i]) hn h1
  exact hne (congrArg Prod.snd this)
end Go.Hog
