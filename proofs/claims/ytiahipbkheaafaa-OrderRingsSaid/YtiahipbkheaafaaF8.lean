/- Contracts: chapter 10 awake. -/
import Derived.Test.YtiahipbkheaafaaF7
set_option linter.unusedVariables false
set_option linter.unusedSimpArgs false
set_option maxRecDepth 100000
set_option maxHeartbeats 1000000
namespace Go.Hog
open Go.RowKit Rp Go.Proofs

def awk1 : List Item := [⟨[97], [[98]], []⟩, ⟨[98], [], []⟩, ⟨[99], [[97]], []⟩]
def awk2 : List Item := [⟨[97], [[98]], []⟩, ⟨[98], [[97]], []⟩]
theorem awk1_of : refOf awk1 = some [[98], [97], [99]] := by decide +kernel
theorem awk2_of : refOf awk2 = none := by decide +kernel
theorem awk1_ranks : ranksOf awk1 = [1, 0, 2] := by decide +kernel
theorem Sl.ofNums {g : View} {A : Option Addr} {c e : Nat} {l : List Int} {n : Nat} (h : (HE.row A n c e 1 (l.map Go.Hog.num)).seen g) (hn : n = l.length) (hb : ∀ s ∈ l, -9223372036854775808 ≤ s ∧ s ≤ 9223372036854775807) (hl : l.length ≤ LB) : Sl g A c l :=
  Sl.ofRow h hn rfl hl fun j hj => ⟨by
    show ((l.map Go.Hog.num).drop (j * 1)).take 1 = _
    rw [Nat.mul_one, ← List.map_drop, ← List.map_take, List.drop_eq_getElem_cons hj]
    rfl, hb _ (List.getElem_mem hj)⟩
theorem rot4 {α : Type} (a b c d : α) : List.Perm [a, b, c, d] ([d] ++ [a, b, c]) := List.perm_append_comm (l₁ := [a, b, c]) (l₂ := [d])
theorem awake10 {w : World} {f : View} (hv : On f w) : Con Try.prog 8 [] w (Ret w f fun _ v => v = .bool true) := by
  refine enterC hv Try.call8 Try.func8 ?_
  refine sgE ?_
  refine sg ?_
  refine bsl fun b1 => ?_
  refine bld ?_
  refine bld ?_
  refine bsl fun b2 => ?_
  refine bld ?_
  refine bsl fun b3 => ?_
  refine runE ?_
  refine efrzA [] [.row (some ⟨b3, 0, none⟩) 3 3 33 3 [str [97], .slice (some ⟨b1, 0, none⟩) 1 1, .slice none 0 0, str [98], .slice none 0 0, .slice none 0 0, str [99], .slice (some ⟨b2, 0, none⟩) 1 1, .slice none 0 0], .row (some ⟨b2, 0, none⟩) 1 1 9 1 [str [97]], .row (some ⟨b1, 0, none⟩) 1 1 9 1 [str [98]]] (List.Perm.refl _) fun g hg hs => ?_
  have s3 := hs _ (.head _)
  have s2 := hs _ (.tail _ (.head _))
  have s1 := hs _ (.tail _ (.tail _ (.head _)))
  have t2 : Sl g (some ⟨b2, 0, none⟩) 1 ([[97]] : List Str) := Sl.ofTexts (l := [[97]]) s2 rfl (by simp [LB]) (by simp [LB])
  have t1 : Sl g (some ⟨b1, 0, none⟩) 1 ([[98]] : List Str) := Sl.ofTexts (l := [[98]]) s1 rfl (by simp [LB]) (by simp [LB])
  have t3 : Sl g (some ⟨b3, 0, none⟩) 3 awk1 := by
    refine Sl.ofRow s3 rfl rfl (by simp [LB, awk1]) fun j hj => ?_
    have hj' : j < 3 := hj
    match j, hj' with
    | 0, _ => exact ⟨_, _, _, _, rfl, by simp [LB, awk1], t1, Sl.nil _⟩
    | 1, _ => exact ⟨_, _, _, _, rfl, by simp [LB, awk1], Sl.nil _, Sl.nil _⟩
    | 2, _ => exact ⟨_, _, _, _, rfl, by simp [LB, awk1], t2, Sl.nil _⟩
  have fit1 : Fit awk1 := ⟨by decide, by simp [awk1]⟩
  refine sg ?_
  refine callM0 (vs := [.slice (some ⟨b3, 0, none⟩) awk1.length 3]) [] (fun w hon hgi => orderOf hon t3 fit1) (fun v g2 L' hs2 hR => ?_)
  unfold ofR at hR
  rw [awk1_of] at hR
  obtain ⟨Al, cl, rfl, rfl⟩ := hR
  refine runE ?_
  refine sg ?_
  refine bsl fun b4 => ?_
  refine bld ?_
  refine bsl fun b5 => ?_
  refine bld ?_
  refine bsl fun b6 => ?_
  refine rfrzA [.row Al 3 cl 9 1 [str [98], str [97], str [99]]] [.row (some ⟨b6, 0, none⟩) 2 2 33 3 [str [97], .slice (some ⟨b4, 0, none⟩) 1 1, .slice none 0 0, str [98], .slice (some ⟨b5, 0, none⟩) 1 1, .slice none 0 0], .row (some ⟨b5, 0, none⟩) 1 1 9 1 [str [97]], .row (some ⟨b4, 0, none⟩) 1 1 9 1 [str [98]]] (rot4 _ _ _ _) fun g3 hg3 hs3 => ?_
  have q3 := hs3 _ (.head _)
  have q2 := hs3 _ (.tail _ (.head _))
  have q1 := hs3 _ (.tail _ (.tail _ (.head _)))
  have r2 : Sl g3 (some ⟨b5, 0, none⟩) 1 ([[97]] : List Str) := Sl.ofTexts (l := [[97]]) q2 rfl (by simp [LB]) (by simp [LB])
  have r1 : Sl g3 (some ⟨b4, 0, none⟩) 1 ([[98]] : List Str) := Sl.ofTexts (l := [[98]]) q1 rfl (by simp [LB]) (by simp [LB])
  have r3 : Sl g3 (some ⟨b6, 0, none⟩) 2 awk2 := by
    refine Sl.ofRow q3 rfl rfl (by simp [LB, awk2]) fun j hj => ?_
    have hj' : j < 2 := hj
    match j, hj' with
    | 0, _ => exact ⟨_, _, _, _, rfl, by simp [LB, awk2], r1, Sl.nil _⟩
    | 1, _ => exact ⟨_, _, _, _, rfl, by simp [LB, awk2], r2, Sl.nil _⟩
  have fit2 : Fit awk2 := ⟨by decide, by simp [awk2]⟩
  refine callM (vs := [.slice (some ⟨b6, 0, none⟩) awk2.length 2]) [] [.row Al 3 cl 9 1 [str [98], str [97], str [99]]] (fun w hon hgi => orderOf hon r3 fit2) (fun v g4 L' hs4 hR => ?_)
  unfold ofR at hR
  rw [awk2_of] at hR
  obtain ⟨A2, c2, rfl, rfl⟩ := hR
  refine rwL (L' := [.row Al 3 cl 9 1 [str [98], str [97], str [99]]]) (fun _ h => h.sublist (List.sublist_cons_self _ _)) ?_
  refine runE ?_
  refine sg ?_
  refine bsl fun b7 => ?_
  refine callB (p := (([[98], [97], [99]] : List Str) = [[98], [97], [99]])) (vs := [.slice Al ([[98], [97], [99]] : List Str).length cl, .slice (some ⟨b7, 0, none⟩) ([[98], [97], [99]] : List Str).length 3]) (fun w g hs hsn hon => sameTexts hon (Sl.ofTexts (l := [[98], [97], [99]]) (hsn (.row Al 3 cl 9 1 [str [98], str [97], str [99]]) (.tail _ (.head _))) rfl (by simp [LB]) (by simp [LB])) (Sl.ofTexts (l := [[98], [97], [99]]) (hsn (.row (some ⟨b7, 0, none⟩) 3 3 9 1 [str [98], str [97], str [99]]) (.head _)) rfl (by simp [LB]) (by simp [LB]))) (fun _ => ?_) (fun h => absurd rfl h)
  have t4 : Sl g4 (some ⟨b3, 0, none⟩) 3 awk1 := t3.mono ((hs2.trans hg3).trans hs4)
  refine rwL (L' := []) (fun _ h => h.sublist (List.nil_sublist _)) ?_
  refine callM0 (vs := [.slice (some ⟨b3, 0, none⟩) awk1.length 3]) [] (fun w hon hgi => ranks hon t4 fit1) (fun v g5 L' hs5 hR => ?_)
  unfold ranksR at hR
  rw [awk1_ranks] at hR
  obtain ⟨A3, c3, rfl, rfl⟩ := hR
  refine bsl fun b8 => ?_
  refine callB (p := (([1, 0, 2] : List Int) = [1, 0, 2])) (vs := [.slice A3 ([1, 0, 2] : List Int).length c3, .slice (some ⟨b8, 0, none⟩) ([1, 0, 2] : List Int).length 3]) (fun w g hs hsn hon => sameInts hon (Sl.ofNums (l := [1, 0, 2]) (hsn (.row A3 3 c3 3 1 [i64 1, i64 0, i64 2]) (.tail _ (.head _))) rfl (by simp) (by simp [LB])) (Sl.ofNums (l := [1, 0, 2]) (hsn (.row (some ⟨b8, 0, none⟩) 3 3 3 1 [i64 1, i64 0, i64 2]) (.head _)) rfl (by simp) (by simp [LB]))) (fun _ => ?_) (fun h => absurd rfl h)
  refine runE ?_
  refine ew_ret ?_
  exact ret1 rfl
end Go.Hog
