/- Contracts: chapter 22 awake. -/
import Derived.Test.YtnjaclggjmfkfaaF28
set_option linter.unusedVariables false
set_option linter.unusedSimpArgs false
set_option maxRecDepth 100000
set_option maxHeartbeats 1000000
namespace Go.Hog
open Go.RowKit Rp Go.Proofs
theorem layL_sub {n : Nat} {R : List Str} : ∀ l ∈ layL n R, ∀ s ∈ l, s ∈ R := by
  unfold layL
  intro l hl s hs
  split at hl
  · obtain ⟨x, hx, rfl⟩ := List.mem_map.1 hl
    rw [List.mem_singleton] at hs
    subst hs; exact hx
  · rcases List.mem_append.1 hl with hl | hl
    · obtain ⟨x, hx, rfl⟩ := List.mem_map.1 hl
      rw [List.mem_singleton] at hs
      subst hs; exact List.mem_of_mem_take hx
    · rw [List.mem_singleton] at hl
      subst hl
      exact List.mem_of_mem_drop (sortS_mem.1 hs)
theorem layL_len {n : Nat} {R : List Str} (hn : 1 ≤ n) : (layL n R).length = min n R.length := by
  unfold layL
  split
  · rw [List.length_map]; omega
  · simp; omega
theorem layL_small {n : Nat} {R : List Str} : ∀ l ∈ layL n R, l.length ≤ max 1 R.length := by
  unfold layL
  intro l hl
  split at hl
  · obtain ⟨x, hx, rfl⟩ := List.mem_map.1 hl
    simp; omega
  · rcases List.mem_append.1 hl with hl | hl
    · obtain ⟨x, hx, rfl⟩ := List.mem_map.1 hl
      simp; omega
    · rw [List.mem_singleton] at hl
      subst hl
      rw [sortS_len, List.length_drop]; omega
theorem layersL_len {a : List Item} {n : Int} (h12 : a.length ≤ 12) : (layersL a n).length ≤ 12 := by
  unfold layersL
  split
  · rename_i h
    rw [layL_len (by have := h.1; omega)]
    have := rankL_len a
    omega
  · simp
theorem layersL_b {f : View} {A : Option Addr} {c : Nat} {a : List Item} {n : Int} (ha : Sl f A c a) (h12 : a.length ≤ 12) : ∀ l ∈ layersL a n, l.length ≤ LB ∧ ∀ s ∈ l, s.length ≤ LB := by
  unfold layersL
  split
  · intro l hl
    have h1 := layL_small l hl
    have h2 := rankL_len a
    refine ⟨by unfold LB; omega, fun s hs => namesLe ha (rankL_sub a s (layL_sub l hl s hs))⟩
  · intro l hl; cases hl
/-- What split.Layers answers, once it is not written any more. -/
theorem layR_sl {f g : View} {A0 : Option Addr} {c0 : Nat} {a : List Item} {n : Int} {L' : List HE} {v : Value} (ha : Sl f A0 c0 a) (h12 : a.length ≤ 12) (h : layR a n L' v) : ∃ A c, v = .tuple #[.slice A (layersL a n).length c, i64 (layersE a n)] ∧ ∀ g : View, (∀ e ∈ L', e.seen g) → Sl g A c (layersL a n) := by
  obtain ⟨A, c, vs, hs, rfl, rfl, ho⟩ := h
  refine ⟨A, c, rfl, fun g hg => ?_⟩
  have hw := ho.rw_ (fun e he => hg e (List.mem_cons_of_mem _ he)) (layersL_b ha h12)
  exact hw.sl (hg _ (.head _)) rfl (by have := layersL_len (n := n) h12; unfold LB; omega)
def aw22 : List Item := [⟨[97], [[98]], []⟩, ⟨[98], [], []⟩, ⟨[99], [[97]], []⟩, ⟨[100], [], []⟩]
theorem aw22_a : reachL aw22 [[97]] = [[97], [98]] := (reachL_run 10 (r := [[97], [98]]) (by decide +kernel)).trans (by decide +kernel)
theorem aw22_b : reachL aw22 [[98]] = [[98]] := (reachL_run 10 (r := [[98]]) (by decide +kernel)).trans (by decide +kernel)
theorem aw22_c : reachL aw22 [[99]] = [[97], [98], [99]] := (reachL_run 10 (r := [[99], [97], [98]]) (by decide +kernel)).trans (by decide +kernel)
theorem aw22_d : reachL aw22 [[100]] = [[100]] := (reachL_run 10 (r := [[100]]) (by decide +kernel)).trans (by decide +kernel)
theorem aw22_sc (s : Str) : sc aw22 s = (if ([97] : Str) ≠ s ∧ s ∈ ([[97], [98]] : List Str) then 1 else 0) + (if ([98] : Str) ≠ s ∧ s ∈ ([[98]] : List Str) then 1 else 0) + (if ([99] : Str) ≠ s ∧ s ∈ ([[97], [98], [99]] : List Str) then 1 else 0) + (if ([100] : Str) ≠ s ∧ s ∈ ([[100]] : List Str) then 1 else 0) := by
  have h0 : scN aw22 0 s = 0 := by simp [scN]
  have h1 : scN aw22 1 s = scN aw22 0 s + (if ([97] : Str) ≠ s ∧ s ∈ reachL aw22 [[97]] then 1 else 0) := scN_succ (by decide) s
  have h2 : scN aw22 2 s = scN aw22 1 s + (if ([98] : Str) ≠ s ∧ s ∈ reachL aw22 [[98]] then 1 else 0) := scN_succ (by decide) s
  have h3 : scN aw22 3 s = scN aw22 2 s + (if ([99] : Str) ≠ s ∧ s ∈ reachL aw22 [[99]] then 1 else 0) := scN_succ (by decide) s
  have h4 : scN aw22 4 s = scN aw22 3 s + (if ([100] : Str) ≠ s ∧ s ∈ reachL aw22 [[100]] then 1 else 0) := scN_succ (by decide) s
  rw [aw22_a] at h1
  rw [aw22_b] at h2
  rw [aw22_c] at h3
  rw [aw22_d] at h4
  show scN aw22 4 s = _
  rw [h4, h3, h2, h1, h0, Nat.zero_add]
theorem aw22_rank : rankL aw22 = [[98], [97], [99], [100]] := by
  have e1 : sc aw22 [97] = 1 := by rw [aw22_sc]; decide
  have e2 : sc aw22 [98] = 2 := by rw [aw22_sc]; decide
  have e3 : sc aw22 [99] = 0 := by rw [aw22_sc]; decide
  have e4 : sc aw22 [100] = 0 := by rw [aw22_sc]; decide
  unfold rankL
  rw [if_pos (by decide +kernel)]
  unfold rankP
  show (sortBy plLt [((sc aw22 [97] : Int), ([97] : Str)), ((sc aw22 [98] : Int), [98]), ((sc aw22 [99] : Int), [99]), ((sc aw22 [100] : Int), [100])]).map Prod.snd = _
  rw [e1, e2, e3, e4]
  decide +kernel
theorem aw22_lay : layersL aw22 2 = [[[98]], [[97], [99], [100]]] := by
  unfold layersL
  rw [if_pos (by decide +kernel), aw22_rank]
  decide +kernel
theorem aw22_layE : layersE aw22 2 = 0 := by unfold layersE; rw [if_pos (by decide +kernel)]
theorem aw22_no : layersL aw22 0 = [] := by unfold layersL; rw [if_neg (by decide +kernel)]
theorem aw22_noE : layersE aw22 0 = 2 := by unfold layersE; rw [if_neg (by decide +kernel)]
theorem awake22 {w : World} {f : View} (hv : On f w) : Con Try.prog 7 [] w (Ret w f fun _ v => v = .bool true) := by
  refine enterC hv Try.call7 Try.func7 ?_
  refine sgE ?_
  refine sg ?_
  refine bsl fun b1 => ?_
  refine bld ?_
  refine bld ?_
  refine bsl fun b2 => ?_
  refine bld ?_
  refine bld ?_
  refine bsl fun b3 => ?_
  refine runE ?_
  refine efrzA [] [.row (some ⟨b3, 0, none⟩) 4 4 41 3 [str [97], .slice (some ⟨b1, 0, none⟩) 1 1, .slice none 0 0, str [98], .slice none 0 0, .slice none 0 0, str [99], .slice (some ⟨b2, 0, none⟩) 1 1, .slice none 0 0, str [100], .slice none 0 0, .slice none 0 0], .row (some ⟨b2, 0, none⟩) 1 1 9 1 [str [97]], .row (some ⟨b1, 0, none⟩) 1 1 9 1 [str [98]]] (List.Perm.refl _) fun g hg hs => ?_
  have s3 := hs _ (.head _)
  have s2 := hs _ (.tail _ (.head _))
  have s1 := hs _ (.tail _ (.tail _ (.head _)))
  have t2 : Sl g (some ⟨b2, 0, none⟩) 1 ([[97]] : List Str) := Sl.ofTexts (l := [[97]]) s2 rfl (by simp [LB]) (by simp [LB])
  have t1 : Sl g (some ⟨b1, 0, none⟩) 1 ([[98]] : List Str) := Sl.ofTexts (l := [[98]]) s1 rfl (by simp [LB]) (by simp [LB])
  have t3 : Sl g (some ⟨b3, 0, none⟩) 4 aw22 := by
    refine Sl.ofRow s3 rfl rfl (by simp [LB, aw22]) fun j hj => ?_
    have hj' : j < 4 := hj
    match j, hj' with
    | 0, _ => exact ⟨_, _, _, _, rfl, by simp [LB, aw22], t1, Sl.nil _⟩
    | 1, _ => exact ⟨_, _, _, _, rfl, by simp [LB, aw22], Sl.nil _, Sl.nil _⟩
    | 2, _ => exact ⟨_, _, _, _, rfl, by simp [LB, aw22], t2, Sl.nil _⟩
    | 3, _ => exact ⟨_, _, _, _, rfl, by simp [LB, aw22], Sl.nil _, Sl.nil _⟩
  have fit1 : FitT aw22 := ⟨by decide, by simp [aw22]⟩
  have h12 : aw22.length ≤ 12 := by decide
  refine efg [(1, .slice (some ⟨b3, 0, none⟩) 4 4)] [] fun ρ => ?_
  refine sg ?_
  refine callM0 (vs := [.slice (some ⟨b3, 0, none⟩) aw22.length 4, i64 2]) [] (fun w hon hgi => splitLayers hon t3 fit1 h12) (fun v g2 L' hs2 hR => ?_)
  obtain ⟨A5, c5, rfl, hsl5⟩ := layR_sl (g := g2) t3 h12 hR
  rw [aw22_lay] at hsl5 ⊢
  rw [aw22_layE]
  refine runE ?_
  refine efrzA [] L' (List.Perm.refl _) fun g3 hs3 hq => ?_
  have tL := hsl5 g3 hq
  have t4 := (t3.mono hs2).mono hs3
  refine efg [(2, .slice A5 2 c5), (3, i64 0), (1, .slice (some ⟨b3, 0, none⟩) 4 4)] [] fun ρ => ?_
  refine sg ?_
  refine callM0 (vs := [.slice (some ⟨b3, 0, none⟩) aw22.length 4, i64 0]) [] (fun w hon hgi => splitLayers hon t4 fit1 h12) (fun v g4 L' hs4 hR => ?_)
  obtain ⟨A6, c6, rfl, hsl6⟩ := layR_sl (g := g4) t4 h12 hR
  rw [aw22_no, aw22_noE]
  refine runE ?_
  refine ewL (L' := []) (fun _ h => h.sublist (List.nil_sublist _)) ?_
  have tL4 := tL.mono hs4
  refine efg [(2, .slice A5 2 c5), (3, i64 0), (5, i64 2)] [] fun ρ => ?_
  refine sg ?_
  refine bsl fun b7 => ?_
  refine bsl fun b8 => ?_
  refine bsl fun b9 => ?_
  refine callB (p := (([[[98]], [[97], [99], [100]]] : List (List Str)) = [[[98]], [[97], [99], [100]]])) (vs := [.slice A5 ([[[98]], [[97], [99], [100]]] : List (List Str)).length c5, .slice (some ⟨b9, 0, none⟩) ([[[98]], [[97], [99], [100]]] : List (List Str)).length 2]) (fun w g hs hsn hon => ?_) (fun _ => ?_) (fun h => absurd rfl h)
  · have u1 : Sl g (some ⟨b7, 0, none⟩) 1 ([[98]] : List Str) := Sl.ofTexts (l := [[98]]) (hsn (.row (some ⟨b7, 0, none⟩) 1 1 9 1 [str [98]]) (.tail _ (.tail _ (.head _)))) rfl (by simp [LB]) (by simp [LB])
    have u2 : Sl g (some ⟨b8, 0, none⟩) 3 ([[97], [99], [100]] : List Str) := Sl.ofTexts (l := [[97], [99], [100]]) (hsn (.row (some ⟨b8, 0, none⟩) 3 3 9 1 [str [97], str [99], str [100]]) (.tail _ (.head _))) rfl (by simp [LB]) (by simp [LB])
    have u3 : Rw g ([[[98]], [[97], [99], [100]]] : List (List Str)) [.slice (some ⟨b7, 0, none⟩) 1 1, .slice (some ⟨b8, 0, none⟩) 3 3] := (Rw.one (show rp g ([[98]] : List Str) [.slice (some ⟨b7, 0, none⟩) 1 1] from ⟨_, _, rfl, u1⟩)).append (Rw.one (show rp g ([[97], [99], [100]] : List Str) [.slice (some ⟨b8, 0, none⟩) 3 3] from ⟨_, _, rfl, u2⟩))
    exact sameLists hon (tL4.mono hs) (u3.sl (hsn _ (.head _)) rfl (by simp [LB]))
  refine eqI (fun _ => ?_) (fun h => absurd rfl h)
  refine eqI (fun _ => ?_) (fun h => absurd rfl h)
  refine callV (i64 1) (vs := [.slice A5 ([[[98]], [[97], [99], [100]]] : List (List Str)).length c5, str [100]]) (fun w g hs hsn hon => splitPlace hon (tL4.mono hs)) ?_
  refine eqI (fun _ => ?_) (fun h => absurd rfl h)
  refine callV (i64 (-1)) (vs := [.slice A5 ([[[98]], [[97], [99], [100]]] : List (List Str)).length c5, str [122]]) (fun w g hs hsn hon => splitPlace hon (tL4.mono hs)) ?_
  refine eqI (fun _ => ?_) (fun h => absurd rfl h)
  refine runE ?_
  refine ew_ret ?_
  exact ret1 rfl
end Go.Hog
