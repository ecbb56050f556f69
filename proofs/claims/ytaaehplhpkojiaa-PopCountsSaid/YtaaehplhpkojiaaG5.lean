/- Contracts: chapter 21 awake; PopTells answers true. -/
import Derived.Test.YtaaehplhpkojiaaF24
import Derived.Test.YtaaehplhpkojiaaFO
set_option linter.unusedVariables false
set_option linter.unusedSimpArgs false
set_option maxRecDepth 100000
set_option maxHeartbeats 1000000
namespace Go.Hog
open Go.RowKit Rp Go.Proofs
def aw21 : List Item := [⟨[97], [[98]], []⟩, ⟨[98], [], []⟩, ⟨[99], [[97]], []⟩]
theorem aw21_a : reachL aw21 [[97]] = [[97], [98]] := (reachL_run 10 (r := [[97], [98]]) (by decide +kernel)).trans (by decide +kernel)
theorem aw21_b : reachL aw21 [[98]] = [[98]] := (reachL_run 10 (r := [[98]]) (by decide +kernel)).trans (by decide +kernel)
theorem aw21_c : reachL aw21 [[99]] = [[97], [98], [99]] := (reachL_run 10 (r := [[99], [97], [98]]) (by decide +kernel)).trans (by decide +kernel)
theorem aw21_sc (s : Str) : sc aw21 s = (if ([97] : Str) ≠ s ∧ s ∈ ([[97], [98]] : List Str) then 1 else 0) + (if ([98] : Str) ≠ s ∧ s ∈ ([[98]] : List Str) then 1 else 0) + (if ([99] : Str) ≠ s ∧ s ∈ ([[97], [98], [99]] : List Str) then 1 else 0) := by
  have h0 : scN aw21 0 s = 0 := by simp [scN]
  have h1 : scN aw21 1 s = scN aw21 0 s + (if ([97] : Str) ≠ s ∧ s ∈ reachL aw21 [[97]] then 1 else 0) := scN_succ (by decide) s
  have h2 : scN aw21 2 s = scN aw21 1 s + (if ([98] : Str) ≠ s ∧ s ∈ reachL aw21 [[98]] then 1 else 0) := scN_succ (by decide) s
  have h3 : scN aw21 3 s = scN aw21 2 s + (if ([99] : Str) ≠ s ∧ s ∈ reachL aw21 [[99]] then 1 else 0) := scN_succ (by decide) s
  rw [aw21_a] at h1
  rw [aw21_b] at h2
  rw [aw21_c] at h3
  show scN aw21 3 s = _
  rw [h3, h2, h1, h0, Nat.zero_add]
theorem aw21_scores : scoresL aw21 = [1, 2, 0] := by
  have e1 : sc aw21 [97] = 1 := by rw [aw21_sc]; decide
  have e2 : sc aw21 [98] = 2 := by rw [aw21_sc]; decide
  have e3 : sc aw21 [99] = 0 := by rw [aw21_sc]; decide
  unfold scoresL
  rw [if_pos (by decide +kernel)]
  show [(sc aw21 [97] : Int), (sc aw21 [98] : Int), (sc aw21 [99] : Int)] = _
  rw [e1, e2, e3]; rfl
theorem aw21_rank : rankL aw21 = [[98], [97], [99]] := by
  have e1 : sc aw21 [97] = 1 := by rw [aw21_sc]; decide
  have e2 : sc aw21 [98] = 2 := by rw [aw21_sc]; decide
  have e3 : sc aw21 [99] = 0 := by rw [aw21_sc]; decide
  unfold rankL
  rw [if_pos (by decide +kernel)]
  unfold rankP
  show (sortBy plLt [((sc aw21 [97] : Int), ([97] : Str)), ((sc aw21 [98] : Int), [98]), ((sc aw21 [99] : Int), [99])]).map Prod.snd = _
  rw [e1, e2, e3]
  decide +kernel
theorem Sl.ofNumV {g : View} {A : Option Addr} {c e : Nat} {l : List Int} {n : Nat} (h : (HE.row A n c e 1 (l.map numV)).seen g) (hn : n = l.length) (hb : ∀ s ∈ l, -9223372036854775808 ≤ s ∧ s ≤ 9223372036854775807) (hl : l.length ≤ LB) : Sl g A c l :=
  Sl.ofRow h hn rfl hl fun j hj => ⟨by
    show ((l.map numV).drop (j * 1)).take 1 = _
    rw [Nat.mul_one, ← List.map_drop, ← List.map_take, List.drop_eq_getElem_cons hj]
    rfl, hb _ (List.getElem_mem hj)⟩
theorem awake21 {w : World} {f : View} (hv : On f w) : Con Try.prog 9 [] w (Ret w f fun _ v => v = .bool true) := by
  refine enterC hv Try.call9 Try.func9 ?_
  refine sgE ?_
  refine sg ?_
  refine bsl fun b1 => ?_
  refine bld ?_
  refine bld ?_
  refine bsl fun b2 => ?_
  refine bld ?_
  refine bsl fun b3 => ?_
  refine runE ?_
  refine efrzA [] [.row (some ⟨b3, 0, none⟩) 3 3 38 3 [str [97], .slice (some ⟨b1, 0, none⟩) 1 1, .slice none 0 0, str [98], .slice none 0 0, .slice none 0 0, str [99], .slice (some ⟨b2, 0, none⟩) 1 1, .slice none 0 0], .row (some ⟨b2, 0, none⟩) 1 1 9 1 [str [97]], .row (some ⟨b1, 0, none⟩) 1 1 9 1 [str [98]]] (List.Perm.refl _) fun g hg hs => ?_
  have s3 := hs _ (.head _)
  have s2 := hs _ (.tail _ (.head _))
  have s1 := hs _ (.tail _ (.tail _ (.head _)))
  have t2 : Sl g (some ⟨b2, 0, none⟩) 1 ([[97]] : List Str) := Sl.ofTexts (l := [[97]]) s2 rfl (by simp [LB]) (by simp [LB])
  have t1 : Sl g (some ⟨b1, 0, none⟩) 1 ([[98]] : List Str) := Sl.ofTexts (l := [[98]]) s1 rfl (by simp [LB]) (by simp [LB])
  have t3 : Sl g (some ⟨b3, 0, none⟩) 3 aw21 := by
    refine Sl.ofRow s3 rfl rfl (by simp [LB, aw21]) fun j hj => ?_
    have hj' : j < 3 := hj
    match j, hj' with
    | 0, _ => exact ⟨_, _, _, _, rfl, by simp [LB, aw21], t1, Sl.nil _⟩
    | 1, _ => exact ⟨_, _, _, _, rfl, by simp [LB, aw21], Sl.nil _, Sl.nil _⟩
    | 2, _ => exact ⟨_, _, _, _, rfl, by simp [LB, aw21], t2, Sl.nil _⟩
  have fit1 : FitT aw21 := ⟨by decide, by simp [aw21]⟩
  have h12 : aw21.length ≤ 12 := by decide
  refine efg [(1, .slice (some ⟨b3, 0, none⟩) 3 3)] [] fun ρ => ?_
  refine sg ?_
  refine callM0 (vs := [.slice (some ⟨b3, 0, none⟩) aw21.length 3]) [] (fun w hon hgi => popScores hon t3 fit1 h12) (fun v g2 L' hs2 hR => ?_)
  rw [aw21_scores] at hR
  obtain ⟨A5, c5, rfl, rfl⟩ := hR
  have t3' := t3.mono hs2
  refine bsl fun b8 => ?_
  refine callB (p := (([1, 2, 0] : List Int) = [1, 2, 0])) (vs := [.slice A5 ([1, 2, 0] : List Int).length c5, .slice (some ⟨b8, 0, none⟩) ([1, 2, 0] : List Int).length 3]) (fun w g hs hsn hon => sameInts hon (Sl.ofNumV (l := [1, 2, 0]) (hsn (.row A5 3 c5 3 1 [i64 1, i64 2, i64 0]) (.tail _ (.head _))) rfl (by simp) (by simp [LB])) (Sl.ofNumV (l := [1, 2, 0]) (hsn (.row (some ⟨b8, 0, none⟩) 3 3 3 1 [i64 1, i64 2, i64 0]) (.head _)) rfl (by simp) (by simp [LB]))) (fun _ => ?_) (fun h => absurd rfl h)
  refine rwL (L' := []) (fun _ h => h.sublist (List.nil_sublist _)) ?_
  refine callM0 (vs := [.slice (some ⟨b3, 0, none⟩) aw21.length 3]) [] (fun w hon hgi => popRank hon t3' fit1 h12) (fun v g3 L' hs3 hR => ?_)
  rw [aw21_rank] at hR
  obtain ⟨A6, c6, rfl, rfl⟩ := hR
  refine bsl fun b9 => ?_
  refine callB (p := (([[98], [97], [99]] : List Str) = [[98], [97], [99]])) (vs := [.slice A6 ([[98], [97], [99]] : List Str).length c6, .slice (some ⟨b9, 0, none⟩) ([[98], [97], [99]] : List Str).length 3]) (fun w g hs hsn hon => sameTexts hon (Sl.ofTexts (l := [[98], [97], [99]]) (hsn (.row A6 3 c6 9 1 [str [98], str [97], str [99]]) (.tail _ (.head _))) rfl (by simp [LB]) (by simp [LB])) (Sl.ofTexts (l := [[98], [97], [99]]) (hsn (.row (some ⟨b9, 0, none⟩) 3 3 9 1 [str [98], str [97], str [99]]) (.head _)) rfl (by simp [LB]) (by simp [LB]))) (fun _ => ?_) (fun h => absurd rfl h)
  refine rwL (L' := []) (fun _ h => h.sublist (List.nil_sublist _)) ?_
  refine callB (p := Abv 2 [122] 1 [97]) (vs := [i64 2, str [122], i64 1, str [97]]) (fun w g hs hsn hon => popAbove hon) (fun _ => ?_) (fun h => absurd (by decide) h)
  refine callB (p := Abv 1 [97] 1 [97]) (vs := [i64 1, str [97], i64 1, str [97]]) (fun w g hs hsn hon => popAbove hon) (fun h => absurd h (by decide)) (fun _ => ?_)
  refine runE ?_
  refine ew_ret ?_
  exact ret1 rfl
end Go.Hog
