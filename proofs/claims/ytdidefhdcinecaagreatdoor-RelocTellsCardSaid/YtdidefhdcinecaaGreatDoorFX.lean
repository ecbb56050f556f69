/- F32 FT FO F33, in one text. -/
import Derived.Test.YtdidefhdcinecaaGreatDoorF31
import Derived.Test.YtdidefhdcinecaaGreatDoorMD
import Derived.Test.YtdidefhdcinecaaGreatDoorMG
import Derived.Test.YtdidefhdcinecaaGreatDoorMF
set_option linter.unusedVariables false
set_option linter.unusedSimpArgs false
set_option maxRecDepth 100000
set_option maxHeartbeats 1000000
namespace Go.Hog
open Go.RowKit Rp Go.Proofs
theorem ins_strict {out : List Str} {x : Str} {k : Nat} (h : out.Pairwise (· < ·)) (hk : k ≤ out.length) (h1 : ∀ y ∈ out.drop k, x < y) (h2 : k = 0 ∨ ∃ h : k - 1 < out.length, out[k - 1] < x) : (out.take k ++ [x] ++ out.drop k).Pairwise (· < ·) := by
  have ht : ∀ a ∈ out.take k, a < x := by
    intro a ha
    obtain ⟨j, hj, rfl⟩ := List.getElem_of_mem ha
    rw [List.length_take] at hj
    rw [List.getElem_take]
    rcases h2 with rfl | ⟨h3, h4⟩
    · omega
    · by_cases e : j = k - 1
      · subst e; exact h4
      · exact List.lt_trans (List.pairwise_iff_getElem.1 h j (k - 1) (by omega) h3 (by omega)) h4
  refine List.pairwise_append.2 ⟨List.pairwise_append.2 ⟨h.sublist (List.take_sublist _ _), List.pairwise_singleton _ _, fun a ha b hb => ?_⟩, h.sublist (List.drop_sublist _ _), fun a ha b hb => ?_⟩
  · rw [List.mem_singleton] at hb
    subst hb; exact ht a ha
  · rcases List.mem_append.1 ha with ha | ha
    · exact List.lt_trans (ht a ha) (h1 b hb)
    · rw [List.mem_singleton] at ha
      subst ha; exact h1 b hb
theorem ins_mem {out : List Str} {x s : Str} {k : Nat} : s ∈ out.take k ++ [x] ++ out.drop k ↔ s = x ∨ s ∈ out := by
  have h : s ∈ out ↔ s ∈ out.take k ∨ s ∈ out.drop k := by rw [← List.mem_append, List.take_append_drop]
  rw [List.mem_append, List.mem_append, List.mem_singleton, h]
  constructor
  · rintro ((h | h) | h)
    · exact .inr (.inl h)
    · exact .inl h
    · exact .inr (.inr h)
  · rintro (h | h | h)
    · exact .inl (.inr h)
    · exact .inl (.inl h)
    · exact .inr h
def InsD (names : List Str) (is : List Bool) (k : Nat) (o : List Str) : Prop := o.Pairwise (· < ·) ∧ ∀ s, s ∈ o ↔ ∃ j, j < k ∧ names[j]? = some s ∧ is[j]? = some true
theorem InsD.keep {names : List Str} {is : List Bool} {i : Nat} {o : List Str} (h : InsD names is i o) (hs : ∀ s, names[i]? = some s → is[i]? = some true → s ∈ o) : InsD names is (i + 1) o := by
  refine ⟨h.1, fun s => ?_⟩
  rw [h.2]
  constructor
  · rintro ⟨j, hj, h1⟩; exact ⟨j, by omega, h1⟩
  · rintro ⟨j, hj, h1, h2⟩
    by_cases e : j = i
    · subst e; exact (h.2 s).1 (hs s h1 h2)
    · exact ⟨j, by omega, h1, h2⟩
theorem InsD.step {names : List Str} {is : List Bool} {i k : Nat} {o : List Str} {x : Str} (h : InsD names is i o) (hx : names[i]? = some x) (hb : is[i]? = some true) (hk : k ≤ o.length) (h1 : ∀ y ∈ o.drop k, x < y) (h2 : k = 0 ∨ ∃ h : k - 1 < o.length, o[k - 1] < x) : InsD names is (i + 1) (o.take k ++ [x] ++ o.drop k) := by
  refine ⟨ins_strict h.1 hk h1 h2, fun s => ?_⟩
  rw [ins_mem, h.2]
  constructor
  · rintro (rfl | ⟨j, hj, h3⟩)
    · exact ⟨i, by omega, hx, hb⟩
    · exact ⟨j, by omega, h3⟩
  · rintro ⟨j, hj, h3, h4⟩
    by_cases e : j = i
    · subst e; rw [hx] at h3; injection h3 with h3; exact .inl h3.symm
    · exact .inr ⟨j, by omega, h3, h4⟩
theorem ref8Sorted {w : World} {f : View} (hv : On f w) {A : Option Addr} {c : Nat} {names : List Str} (hn : Sl f A c names) (h12 : names.length ≤ 12) {A1 : Option Addr} {c1 : Nat} {is : List Bool} (hi : Sl f A1 c1 is) (hl : is.length = names.length) :
    Con Tryz.prog 76 [.slice A names.length c, .slice A1 is.length c1] w (RetM w f [] fun _ L' v => ∃ A' c' o, v = .slice A' o.length c' ∧ L' = [sRow A' c' o] ∧ InsD names is names.length o) := by
  refine enterM (L := []) hv (Given.nil _ _) Tryz.call76 Tryz.func76 ?_
  refine sgE ?_
  refine sgE ?_
  refine enilrow 9 1 ?_
  refine sqJ (σ := List Str × Option Addr × Nat) (fun s => [(5, .slice s.2.1 s.1.length s.2.2)]) (fun _ => f) (fun s => [sRow s.2.1 s.2.2 s.1]) (fun s => InsD names is names.length s.1) ?_ ?_
  case refine_2 =>
    rintro ⟨o, A', c'⟩ ρ ho
    refine sgE ?_
    refine ew_ret ?_
    exact ret1M ⟨A', c', o, rfl, rfl, ho⟩
  refine sgE ?_
  refine bk ?_
  refine lp (σ := Nat × List Str × Option Addr × Nat) (fun s => [(6, i64 s.1), (5, .slice s.2.2.1 s.2.1.length s.2.2.2), (0, .slice A names.length c), (1, .slice A1 is.length c1)]) (fun _ => f) (fun s => [sRow s.2.2.1 s.2.2.2 s.2.1]) (fun s => s.1 ≤ names.length ∧ s.2.1.length ≤ s.1 ∧ InsD names is s.1 s.2.1) (fun s => names.length - s.1) (0, [], none, 0) ⟨Nat.zero_le _, Nat.le_refl _, List.Pairwise.nil, fun s => ⟨fun h => by simp at h, fun ⟨j, hj, _⟩ => by simp at hj⟩⟩ ?_
  rintro ⟨i, out, A5, c5⟩ ρ ⟨hi1, hol, hins⟩
  replace hi1 : i ≤ names.length := hi1
  replace hol : out.length ≤ i := hol
  replace hins : InsD names is i out := hins
  show EW _ _ _ _ _ (ups ρ [(6, i64 i), (5, .slice A5 out.length c5), (0, .slice A names.length c), (1, .slice A1 is.length c1)]) f [sRow A5 c5 out]
  refine sq (sg ?_)
  refine ltE (fun h => ?_) (fun h => ?_)
  case refine_2 =>
    refine cFx ?_
    have e : i = names.length := by omega
    subst e
    exact jn (out, A5, c5) hins
  have h1 : i < names.length := by omega
  have h2 : i < is.length := by omega
  obtain ⟨b0, o0, rfl, hcn, hxl⟩ := hn.text h1
  obtain ⟨b1, o1, rfl, cs1, hcs1, hci⟩ := hi.at_ i h2
  obtain rfl : cs1 = [.bool is[i]] := hcs1
  have hnx : names[i]? = some names[i] := List.getElem?_eq_getElem h1
  have hix : is[i]? = some is[i] := List.getElem?_eq_getElem h2
  generalize hx : names[i] = x at hcn hxl hnx
  refine cTs (bkJ (σ := List Str × Option Addr × Nat) (fun s => [(6, i64 i), (5, .slice s.2.1 s.1.length s.2.2), (0, .slice (some ⟨b0, o0, none⟩) names.length c), (1, .slice (some ⟨b1, o1, none⟩) is.length c1)]) (fun _ => f) (fun s => [sRow s.2.1 s.2.2 s.1]) (fun s => s.1.length ≤ i + 1 ∧ InsD names is (i + 1) s.1) ?_ ?_)
  case refine_2 =>
    rintro ⟨out2, A52, c52⟩ ρ ⟨hol2, hins2⟩
    refine rg ?_
    refine addE ((i + 1 : Nat) : Int) ?_
    exact nxs (i + 1, out2, A52, c52) ⟨h1, hol2, hins2⟩ (by show names.length - (i + 1) < names.length - i; omega)
  refine sq (sg ?_)
  refine ix i h2 ?_
  refine ldv hci.1 ?_
  cases hb : is[i] with
  | false =>
    refine runE ?_
    refine cTx ?_
    exact jn (out, A5, c5) ⟨by show out.length ≤ i + 1; omega, hins.keep fun s _ h3 => by rw [hix, hb] at h3; cases h3⟩
  | true =>
  rw [hb] at hix
  refine runE ?_
  refine cFs ?_
  refine sgE ?_
  refine efg [(7, i64 (out.length : Nat)), (6, i64 i), (5, .slice A5 out.length c5), (0, .slice (some ⟨b0, o0, none⟩) names.length c), (1, .slice (some ⟨b1, o1, none⟩) is.length c1)] [sRow A5 c5 out] fun ρ => ?_
  refine sqJ (σ := Nat) (fun k => [(7, i64 k), (6, i64 i), (5, .slice A5 out.length c5), (0, .slice (some ⟨b0, o0, none⟩) names.length c), (1, .slice (some ⟨b1, o1, none⟩) is.length c1)]) (fun _ => f) (fun _ => [sRow A5 c5 out]) (fun k => k ≤ out.length ∧ (∀ y ∈ out.drop k, x < y) ∧ (k = 0 ∨ ∃ h : k - 1 < out.length, ¬ x < out[k - 1])) ?_ ?_
  · refine bk ?_
    refine lp (σ := Nat) (fun k => [(7, i64 k), (6, i64 i), (5, .slice A5 out.length c5), (0, .slice (some ⟨b0, o0, none⟩) names.length c), (1, .slice (some ⟨b1, o1, none⟩) is.length c1)]) (fun _ => f) (fun _ => [sRow A5 c5 out]) (fun k => k ≤ out.length ∧ ∀ y ∈ out.drop k, x < y) (fun k => k) out.length ⟨Nat.le_refl _, by simp⟩ ?_
    rintro k ρ ⟨hk, hgt⟩
    refine sq (sQ ?_)
    refine Go.Hog.gt (fun hk0 => ?_) (fun hk0 => ?_)
    case refine_2 =>
      refine runE ?_
      refine cFx ?_
      exact jn k ⟨hk, hgt, .inl (by omega)⟩
    have hk1 : k - 1 < out.length := by omega
    have hco : (out.map str)[0 + (k - 1) * 1]? = some (str out[k - 1]) := by simp [hk1]
    refine rowF 0 fun hrow => ?_
    obtain ⟨b10, rfl⟩ := hrow.2.2.2.1 (by omega)
    refine sub ((k - 1 : Nat) : Int) ?_
    refine ix (k - 1) hk1 ?_
    refine ldr 0 hco ?_
    refine ix i h1 ?_
    refine ldv hcn ?_
    refine gtSE (fun hlt => ?_) (fun hlt => ?_)
    · refine cTs (bk (rg ?_))
      refine subE ((k - 1 : Nat) : Int) ?_
      refine nxs (k - 1) ⟨by omega, fun y hy => ?_⟩ (by show k - 1 < k; omega)
      have hdk : out.drop (k - 1) = out[k - 1] :: out.drop k := by
        rw [List.drop_eq_getElem_cons hk1, show k - 1 + 1 = k by omega]
      rw [hdk] at hy
      rcases List.mem_cons.1 hy with rfl | hy
      · exact hlt
      · exact hgt y hy
    · refine cFx ?_
      exact jn k ⟨hk, hgt, .inr ⟨hk1, hlt⟩⟩
  rintro k ρ ⟨hk, hgt, hle⟩
  refine sqJ (σ := Unit) (fun _ => [(7, i64 k), (6, i64 i), (5, .slice A5 out.length c5), (0, .slice (some ⟨b0, o0, none⟩) names.length c), (1, .slice (some ⟨b1, o1, none⟩) is.length c1)]) (fun _ => f) (fun _ => [sRow A5 c5 out]) (fun _ => k = 0 ∨ ∃ h : k - 1 < out.length, out[k - 1] < x) ?_ ?_
  · refine sQ ?_
    refine Go.Hog.gt (fun hk0 => ?_) (fun hk0 => ?_)
    case refine_2 =>
      refine runE ?_
      refine cFs ?_
      exact jn () (.inl (by omega))
    have hk1 : k - 1 < out.length := by omega
    have hco : (out.map str)[0 + (k - 1) * 1]? = some (str out[k - 1]) := by simp [hk1]
    refine rowF 0 fun hrow => ?_
    obtain ⟨b10, rfl⟩ := hrow.2.2.2.1 (by omega)
    refine sub ((k - 1 : Nat) : Int) ?_
    refine ix (k - 1) hk1 ?_
    refine ldr 0 hco ?_
    refine ix i h1 ?_
    refine ldv hcn ?_
    refine eqSE (fun he => ?_) (fun he => ?_)
    · refine cTx ?_
      exact jn (out, some ⟨b10, 0, none⟩, c5) ⟨by show out.length ≤ i + 1; omega, hins.keep fun s h3 _ => by
        rw [hnx] at h3; injection h3 with h3
        rw [← h3, ← he]; exact List.getElem_mem hk1⟩
    · refine cFs ?_
      refine jn () (.inr ⟨hk1, ?_⟩)
      rcases hle with h3 | ⟨_, h3⟩
      · omega
      · by_cases e : out[k - 1] < x
        · exact e
        · exact absurd (strEq e h3) he
  rintro ⟨⟩ ρ hle2
  replace hle2 : k = 0 ∨ ∃ h : k - 1 < out.length, out[k - 1] < x := hle2
  refine erowF 0 fun hrow0 => ?_
  have hoc := hrow0.2.1
  have hkc : k ≤ c5 := by omega
  have p1 : ((out.map str).take (k * 1)).length = k * 1 := by simp; omega
  have p2 : ((out.map str).drop (k * 1)).length = (out.length - k) * 1 := by simp
  have p3 : ∀ u ∈ (out.map str).take (k * 1), u.oneCell' = true := fun u hu => by
    obtain ⟨r, _, rfl⟩ := List.mem_map.1 (List.mem_of_mem_take hu)
    rfl
  have p4 : ∀ u ∈ (out.map str).drop (k * 1), u.oneCell' = true := fun u hu => by
    obtain ⟨r, _, rfl⟩ := List.mem_map.1 (List.mem_of_mem_drop hu)
    rfl
  have p5 : (0 + k) * 16 ≤ 140737488355328 := by omega
  have p6 : (0 + k + 1) * 16 ≤ 140737488355328 := by omega
  have p7 : (0 + k + 1 + (out.length - k)) * 16 ≤ 140737488355328 := by omega
  refine eA [0, 1, 2, 4, 5, 6, 7, 10, 11, 12] [sRow A5 c5 out] (List.Sublist.refl _) ?_
  refine an_takeH [0, 1, 2, 4, 5, 6, 7, 10, 11, 12] HeldL.same ?_
  refine slH k hkc ?_
  refine ix i h1 ?_
  refine ldv hcn ?_
  refine slL' k hk hoc ?_
  refine rw_end ?_
  refine an_have (α := Nat × Option Addr × Nat) (lsA 15 [0, 1, 2, 3, 4, 5, 6, 7, 8, 10, 11, 12]) (fun s => [(54, .slice s.2.1 (0 + k) s.2.2), (59, .slice (some ⟨s.1, 0, none⟩) 1 1), (63, .slice (A5.map fun a => if k = c5 then a else a.add (k * 1)) (out.length - k) (c5 - k)), (6, i64 i), (0, .slice (some ⟨b0, o0, none⟩) names.length c), (1, .slice (some ⟨b1, o1, none⟩) is.length c1)]) (fun _ => f) (fun s => [.row (some ⟨s.1, 0, none⟩) 1 1 9 1 [str x], .row s.2.1 (0 + k) s.2.2 9 1 ([] ++ (out.map str).take (k * 1)), sRow A5 c5 out]) ?_ (fun T => ?_)
  · rintro ⟨b8, A3, c3⟩ ρ
    refine an_run1 9 ?_
    refine app 0 (fun A4 c4 => ?_) (hlim := p6)
    refine aH HeldL.same.cons ?_
    refine an_run1 13 ?_
    refine appW 0 p2 (fun w hw h0 => hw.rowTail (i := 1) (j := k) rfl (by omega)) p4 (fun A9 c9 => ?_) (hlim := p7)
    refine aH HeldL.same.cons ?_
    refine an_L [.row A9 (0 + k + 1 + (out.length - k)) c9 9 1 ([] ++ (out.map str).take (k * 1) ++ [str x] ++ (out.map str).drop (k * 1))] (fun _ h => h.sublist (.cons_cons _ (.cons _ (List.Sublist.refl _)))) ?_
    refine an_takeU [14] ?_
    refine an_done ?_
    have hnl : (out.take k ++ [x] ++ out.drop k).length = 0 + k + 1 + (out.length - k) := by simp; omega
    refine jn (out.take k ++ [x] ++ out.drop k, A9, c9) ⟨?_, ?_⟩ (hh := ?_) (ha := ⟨rfl, ?_, rfl, rfl, trivial⟩)
    · show (out.take k ++ [x] ++ out.drop k).length ≤ i + 1
      omega
    · exact hins.step hnx hix hk hgt hle2
    · show [sRow A9 c9 (out.take k ++ [x] ++ out.drop k)] = _
      unfold sRow
      rw [hnl]
      simp
    · show Value.slice A9 _ c9 = .slice A9 (out.take k ++ [x] ++ out.drop k).length c9
      rw [hnl]
  refine an_run2 3 8 ?_ ?_
  · refine nilrow 9 1 ?_
    refine appW 0 p1 (fun w hw h0 => ?_) p3 (fun A3 c3 => ?_) (hlim := p5)
    · obtain ⟨b, o, e, hc⟩ := hw.rowAll (i := 1) rfl (show 0 < out.length by omega)
      exact ⟨b, o, e, fun j u hj => hc j u (by rw [List.getElem?_take] at hj; split at hj; exact hj; cases hj)⟩
    refine aH HeldL.same.cons ?_
    refine an_run1 8 ?_
    refine bsl fun b8 => ?_
    refine aH HeldL.same.cons.cons ?_
    exact an_use T (b8, A3, c3)
  · refine bsl fun b8 => ?_
    refine aH HeldL.same.cons ?_
    refine an_run1 3 ?_
    refine nilrow 9 1 ?_
    refine appW 0 p1 (fun w hw h0 => ?_) p3 (fun A3 c3 => ?_) (hlim := p5)
    · obtain ⟨b, o, e, hc⟩ := hw.rowAll (i := 2) rfl (show 0 < out.length by omega)
      exact ⟨b, o, e, fun j u hj => hc j u (by rw [List.getElem?_take] at hj; split at hj; exact hj; cases hj)⟩
    refine aH HeldL.same.cons.cons ?_
    refine an_perm (.swap _ _ _) ?_
    exact an_use T (b8, A3, c3)
end Go.Hog

set_option linter.unusedVariables false
set_option linter.unusedSimpArgs false
set_option maxRecDepth 100000
set_option maxHeartbeats 1000000
namespace Go.Hog
open Go.RowKit Rp Go.Proofs
theorem overTs {w : World} {f : View} {A : Option Addr} {n c : Nat} {xs : List Value} (hv : On f w) (hlim : n ≤ 1000000) (hg : Given f [.row A n c 9 1 xs] w) :
    Con Tryz.prog 33 [.slice A n c] w (RetM w f [.row A n c 9 1 xs] (fun _ L' _ => L' = [])) := by
  refine enterM hv hg Tryz.call33 Tryz.func33 ?_
  refine sqJ (σ := List Value) (fun _ => [(0, .slice A n c)]) (fun _ => f) (fun s => [.row A n c 9 1 s]) (fun _ => True) ?_ ?_
  case refine_2 =>
    rintro ys ρ _
    refine rg ?_
    refine bsl fun b => ?_
    refine app 0 (fun A' c' => ?_) (hi := rfl) (hlim := by show (n + 1) * 16 ≤ _; omega)
    refine dropH ?_
    refine runE ?_
    exact ret0M rfl
  refine sgE ?_
  refine bk ?_
  refine lp (σ := Nat × List Value) (fun s => [(2, i64 s.1), (0, .slice A n c)]) (fun _ => f) (fun s => [.row A n c 9 1 s.2]) (fun s => s.1 ≤ n) (fun s => n - s.1) (0, xs) (Nat.zero_le _) ?_
  rintro ⟨k, ys⟩ ρ hk
  replace hk : k ≤ n := hk
  show EW _ _ _ _ _ (ups ρ [(2, i64 k), (0, .slice A n c)]) f [.row A n c 9 1 ys]
  refine sq (sg ?_)
  refine ltE (fun h => ?_) (fun h => ?_)
  case refine_2 =>
    refine cFx ?_
    exact jn ys trivial
  have h1 : k < n := by omega
  refine erowF 0 fun hrow => ?_
  obtain ⟨g, rfl⟩ := hrow.2.2.2.1 (by omega)
  refine cTs (sq (bk ?_))
  refine rg ?_
  refine ix k h1 ?_
  refine stR 0 (o := 0 + k * 1) (vs := [str [111, 118, 101, 114]]) (xs := ys) (by rw [hrow.1]; simp; omega) ?_
  refine rw_end ?_
  refine rg ?_
  refine addE ((k + 1 : Nat) : Int) ?_
  exact nxs (k + 1, putL ys (0 + k * 1) [str [111, 118, 101, 114]]) h1 (by show n - (k + 1) < n - k; omega)
end Go.Hog

set_option linter.unusedVariables false
set_option linter.unusedSimpArgs false
set_option maxRecDepth 100000
set_option maxHeartbeats 1000000
namespace Go.Hog
open Go.RowKit Rp Go.Proofs
end Go.Hog

set_option linter.unusedVariables false
set_option linter.unusedSimpArgs false
set_option maxRecDepth 100000
set_option maxHeartbeats 1000000
namespace Go.Hog
open Go.RowKit Rp Go.Proofs
def boolV (b : Bool) : Value := .bool b
theorem put_bool (l : List Bool) (o : Nat) (b : Bool) (h : o < l.length) : putL (l.map boolV) (0 + o * 1) [.bool b] = (l.set o b).map boolV := by
  rw [show 0 + o * 1 = o by omega, putL1 _ _ _ (by simpa using h), List.map_set]
  rfl
theorem Sl.ofBools {g : View} {A : Option Addr} {c e n : Nat} {l : List Bool} (h : (HE.row A n c e 1 (l.map boolV)).seen g) (hn : n = l.length) (hl : l.length ≤ LB) : Sl g A c l :=
  Sl.ofRow h hn rfl hl fun j hj => by
    show ((l.map boolV).drop (j * 1)).take 1 = [.bool l[j]]
    rw [Nat.mul_one, List.drop_eq_getElem_cons (by simpa using hj)]
    simp [boolV]
/-- How far the document's Tree has come: name i, at the nodes ahead of k. -/
def BI (t : List Node) (names : List Str) (i k : Nat) (bs : List Bool) : Prop := bs.length = names.length ∧ ∀ j (h : j < names.length), bs[j]? = some (if j < i then treeHas t (hashL names[j]) else if j = i then treeHas (t.take k) (hashL names[j]) else false)
theorem BI.start (t : List Node) (names : List Str) : BI t names 0 0 (List.replicate names.length false) := by
  refine ⟨by simp, fun j hj => ?_⟩
  rw [List.getElem?_replicate, if_pos hj]
  simp [treeHas]
theorem BI.next {t : List Node} {names : List Str} {i : Nat} {bs : List Bool} (h : BI t names i t.length bs) : BI t names (i + 1) 0 bs := by
  refine ⟨h.1, fun j hj => ?_⟩
  rw [h.2 j hj]
  by_cases h1 : j < i
  · rw [if_pos h1, if_pos (by omega)]
  · rw [if_neg h1]
    by_cases h2 : j = i
    · rw [if_pos h2, if_pos (by omega), List.take_length]
    · rw [if_neg h2, if_neg (by omega)]
      split
      · simp [treeHas]
      · rfl
theorem BI.step {t : List Node} {names : List Str} {i k : Nat} {bs : List Bool} (h : BI t names i k bs) (hi : i < names.length) (hk : k < t.length) {b : Bool} (hb : b = treeHas (t.take (k + 1)) (hashL names[i])) : BI t names i (k + 1) (bs.set i b) := by
  refine ⟨by rw [List.length_set]; exact h.1, fun j hj => ?_⟩
  rw [List.getElem?_set, h.2 j hj]
  by_cases h2 : i = j
  · subst h2
    rw [if_pos rfl, if_pos (by rw [h.1]; exact hi), if_neg (Nat.lt_irrefl _), if_pos rfl, hb]
  · rw [if_neg h2]
    by_cases h1 : j < i
    · rw [if_pos h1, if_pos h1]
    · rw [if_neg h1, if_neg h1, if_neg (fun e => h2 e.symm), if_neg (fun e => h2 e.symm)]
theorem treeHas_ok {t : List Node} {s : Str} (h : treeHas t (hashL s) = true) : nameOk s := by
  unfold treeHas at h
  obtain ⟨x, _, h1, _⟩ := of_decide_eq_true h
  by_cases e : nameOk s
  · exact e
  · exact absurd (hash_no e) h1
theorem BI.fin {t : List Node} {names : List Str} {bs : List Bool} (h : BI t names names.length 0 bs) {o : List Str} (ho : InsD names bs names.length o) : o = treeL t names := by
  refine foundL_eq ho.1 fun s => ?_
  rw [ho.2]
  constructor
  · rintro ⟨j, hj, h1, h2⟩
    rw [h.2 j hj, if_pos hj] at h2
    injection h2 with h2
    rw [List.getElem?_eq_getElem hj] at h1
    injection h1 with h1
    rw [h1] at h2
    exact ⟨h1 ▸ List.getElem_mem hj, treeHas_ok h2, h2⟩
  · rintro ⟨h1, _, h2⟩
    obtain ⟨j, hj, rfl⟩ := List.getElem_of_mem h1
    refine ⟨j, hj, List.getElem?_eq_getElem hj, ?_⟩
    rw [h.2 j hj, if_pos hj, h2]
theorem ref8Tree {w : World} {f : View} (hv : On f w) {A : Option Addr} {c : Nat} {t : List Node} (ht : Sl f A c t) (hd : ∀ x ∈ t, x.data.length < 4294967281) {A2 : Option Addr} {c2 : Nat} {names : List Str} (hn : Sl f A2 c2 names) (h12 : names.length ≤ 12) :
    Con Tryz.prog 51 [.slice A t.length c, .slice A2 names.length c2] w (RetM w f [] fun _ L' v => ∃ A' c', v = .slice A' (treeL t names).length c' ∧ L' = [sRow A' c' (treeL t names)]) := by
  refine enterM (L := []) hv (Given.nil _ _) Tryz.call51 Tryz.func51 ?_
  have hlim := ht.len_lt
  refine sgE ?_
  refine sg ?_
  refine mks (by_ := 1) names.length ⟨by omega, by omega⟩ fun b5 => ?_
  refine runE ?_
  refine efg [(5, .slice (some ⟨b5, 0, none⟩) names.length names.length), (0, .slice A t.length c), (1, .slice A2 names.length c2)] [.row (some ⟨b5, 0, none⟩) names.length names.length 4 1 ((List.replicate names.length false).map boolV)] (hh := by rw [List.map_replicate]; rfl) fun ρ => ?_
  refine sqJ (σ := List Bool) (fun _ => [(5, .slice (some ⟨b5, 0, none⟩) names.length names.length), (1, .slice A2 names.length c2)]) (fun _ => f) (fun bs => [.row (some ⟨b5, 0, none⟩) names.length names.length 4 1 (bs.map boolV)]) (fun bs => BI t names names.length 0 bs) ?_ ?_
  case refine_2 =>
    rintro bs ρ hbi
    replace hbi : BI t names names.length 0 bs := hbi
    have hbl := hbi.1
    refine efg [(5, .slice (some ⟨b5, 0, none⟩) bs.length names.length), (1, .slice A2 names.length c2)] [.row (some ⟨b5, 0, none⟩) names.length names.length 4 1 (bs.map boolV)] (ha := ⟨by show Value.slice _ names.length _ = .slice _ bs.length _; rw [hbl], rfl, trivial⟩) fun ρ => ?_
    refine sg ?_
    refine callMo (vs := [.slice A2 names.length c2, .slice (some ⟨b5, 0, none⟩) bs.length names.length]) (R := fun L' v => ∃ A' c' o, v = .slice A' o.length c' ∧ L' = [sRow A' c' o] ∧ InsD names bs names.length o) (fun w g hs hsn hon => ref8Sorted hon (hn.mono hs) h12 (Sl.ofBools (hsn _ (.head _)) hbl.symm (by unfold LB; omega)) hbl) (fun v L' hR => ?_)
    obtain ⟨A', c', o, rfl, rfl, ho⟩ := hR
    have e := hbi.fin ho
    subst e
    refine runE ?_
    refine ewL (L' := [sRow A' c' (treeL t names)]) (fun _ h => h.sublist (.cons_cons _ (.cons _ (List.Sublist.refl _)))) ?_
    refine ew_ret ?_
    exact ret1M ⟨A', c', rfl, rfl⟩
  refine sgE ?_
  refine bk ?_
  refine lp (σ := Nat × List Bool) (fun s => [(6, i64 s.1), (5, .slice (some ⟨b5, 0, none⟩) names.length names.length), (0, .slice A t.length c), (1, .slice A2 names.length c2)]) (fun _ => f) (fun s => [.row (some ⟨b5, 0, none⟩) names.length names.length 4 1 (s.2.map boolV)]) (fun s => s.1 ≤ names.length ∧ BI t names s.1 0 s.2) (fun s => names.length - s.1) (0, List.replicate names.length false) ⟨Nat.zero_le _, BI.start t names⟩ ?_
  rintro ⟨i, bs⟩ ρ ⟨hi, hbi⟩
  replace hi : i ≤ names.length := hi
  replace hbi : BI t names i 0 bs := hbi
  show EW _ _ _ _ _ (ups ρ [(6, i64 i), (5, .slice (some ⟨b5, 0, none⟩) names.length names.length), (0, .slice A t.length c), (1, .slice A2 names.length c2)]) f [.row (some ⟨b5, 0, none⟩) names.length names.length 4 1 (bs.map boolV)]
  refine sq (sg ?_)
  refine ltE (fun h => ?_) (fun h => ?_)
  case refine_2 =>
    refine cFx ?_
    have e : i = names.length := by omega
    subst e
    exact jn bs hbi
  have h1 : i < names.length := by omega
  obtain ⟨b0, o0, rfl, hcn, hxl⟩ := hn.text h1
  refine cTs (sq (bk (sg ?_)))
  refine ix i h1 ?_
  refine ldv hcn ?_
  refine callV (str (hashL names[i])) (vs := [str names[i]]) (fun w g hs _ hon => ref7Hash hon hxl) ?_
  refine runE ?_
  refine sgE ?_
  refine efg [(8, i64 (0 : Nat)), (7, str (hashL names[i])), (6, i64 i), (5, .slice (some ⟨b5, 0, none⟩) names.length names.length), (0, .slice A t.length c), (1, .slice (some ⟨b0, o0, none⟩) names.length c2)] [.row (some ⟨b5, 0, none⟩) names.length names.length 4 1 (bs.map boolV)] fun ρ => ?_
  refine bk ?_
  refine lp (σ := Nat × List Bool) (fun s => [(8, i64 s.1), (7, str (hashL names[i])), (6, i64 i), (5, .slice (some ⟨b5, 0, none⟩) names.length names.length), (0, .slice A t.length c), (1, .slice (some ⟨b0, o0, none⟩) names.length c2)]) (fun _ => f) (fun s => [.row (some ⟨b5, 0, none⟩) names.length names.length 4 1 (s.2.map boolV)]) (fun s => s.1 ≤ t.length ∧ BI t names i s.1 s.2) (fun s => t.length - s.1) (0, bs) ⟨Nat.zero_le _, hbi⟩ ?_
  rintro ⟨k, bs2⟩ ρ ⟨hk, hb2⟩
  replace hk : k ≤ t.length := hk
  replace hb2 : BI t names i k bs2 := hb2
  have hbl2 := hb2.1
  show EW _ _ _ _ _ (ups ρ [(8, i64 k), (7, str (hashL names[i])), (6, i64 i), (5, .slice (some ⟨b5, 0, none⟩) names.length names.length), (0, .slice A t.length c), (1, .slice (some ⟨b0, o0, none⟩) names.length c2)]) f [.row (some ⟨b5, 0, none⟩) names.length names.length 4 1 (bs2.map boolV)]
  refine sq (sg ?_)
  refine ltE (fun h => ?_) (fun h => ?_)
  case refine_2 =>
    refine cFx ?_
    have e : k = t.length := by omega
    subst e
    refine rg ?_
    refine addE ((i + 1 : Nat) : Int) ?_
    exact nxs (i + 1, bs2) ⟨h1, hb2.next⟩ (by show names.length - (i + 1) < names.length - i; omega)
  have h2 : k < t.length := by omega
  obtain ⟨b9, o9, rfl, hcx, _⟩ := ht.node h2
  have hdx := hd _ (List.getElem_mem h2)
  have htk : t.take (k + 1) = t.take k ++ [t[k]] := (List.take_append_getElem h2).symm
  have hcur := hb2.2 i h1
  rw [if_neg (Nat.lt_irrefl _), if_pos rfl] at hcur
  have hset : ∀ b : Bool, b = treeHas (t.take (k + 1)) (hashL names[i]) → BI t names i (k + 1) (bs2.set i b) := fun b hb => hb2.step h1 h2 hb
  have hpl : ∀ b : Bool, putL (bs2.map boolV) (0 + i * 1) [.bool b] = (bs2.set i b).map boolV := fun b => put_bool _ _ _ (by rw [hbl2]; exact h1)
  have hrl : 0 + i * 1 + ([.bool true] : List Value).length ≤ (bs2.map boolV).length := by
    rw [List.length_map, hbl2]; show 0 + i * 1 + 1 ≤ _; omega
  have hiff : (∃ x ∈ t.take (k + 1), hasL x.data (hashL names[i])) ↔ (∃ x ∈ t.take k, hasL x.data (hashL names[i])) ∨ hasL t[k].data (hashL names[i]) := by
    rw [htk]
    constructor
    · rintro ⟨x, hx, h3⟩
      rcases List.mem_append.1 hx with hx | hx
      · exact .inl ⟨x, hx, h3⟩
      · rw [List.mem_singleton] at hx
        subst hx; exact .inr h3
    · rintro (⟨x, hx, h3⟩ | h3)
      · exact ⟨x, List.mem_append_left _ hx, h3⟩
      · exact ⟨_, List.mem_append_right _ (List.mem_singleton.2 rfl), h3⟩
  have hcell : (bs2.map boolV)[0 + i * 1]? = some (.bool (treeHas (t.take k) (hashL names[i]))) := by
    rw [show 0 + i * 1 = i by omega, List.getElem?_map, hcur]; rfl
  refine cTs (sq (bk (rg ?_)))
  refine ix i h1 ?_
  refine ldr 0 hcell ?_
  by_cases hp : ∃ x ∈ t.take k, hasL x.data (hashL names[i])
  · rw [show treeHas (t.take k) (hashL names[i]) = true from decide_eq_true hp]
    refine ix i h1 ?_
    refine stR 0 (o := 0 + i * 1) (vs := [.bool true]) (xs := bs2.map boolV) hrl ?_
    refine rw_end ?_
    refine rg ?_
    refine addE ((k + 1 : Nat) : Int) ?_
    refine nxs (k + 1, bs2.set i true) ⟨h2, hset true (show treeHas _ _ = true from decide_eq_true (hiff.2 (.inl hp))).symm⟩ (by show t.length - (k + 1) < t.length - k; omega) (hh := by show [HE.row _ _ _ _ _ ((bs2.set i true).map boolV)] = _; rw [← hpl]; rfl)
  rw [show treeHas (t.take k) (hashL names[i]) = false from decide_eq_false hp]
  refine ix k h2 ?_
  refine ldv hcx.2.2.1 ?_
  refine callMo (vs := [str t[k].data, str (hashL names[i])]) (R := fun L' v => ∃ A' c', v = .slice A' (placesI t[k].data (hashL names[i])).length c' ∧ L' = [iRow A' c' (placesI t[k].data (hashL names[i]))]) (fun w g hs hsn hon => ref8Places hon hdx (hash_le _)) (fun v L' hR => ?_)
  obtain ⟨A4, c4, rfl, rfl⟩ := hR
  refine rwL (L' := [.row (some ⟨b5, 0, none⟩) names.length names.length 4 1 (bs2.map boolV)]) (fun _ h => h.sublist (.cons _ (List.Sublist.refl _))) ?_
  refine Go.Hog.gt (fun h3 => ?_) (fun h3 => ?_)
  · have h4 := places_has.1 (show 0 < (placesI t[k].data (hashL names[i])).length by omega)
    refine ix i h1 ?_
    refine stR 0 (o := 0 + i * 1) (vs := [.bool true]) (xs := bs2.map boolV) hrl ?_
    refine rw_end ?_
    refine rg ?_
    refine addE ((k + 1 : Nat) : Int) ?_
    refine nxs (k + 1, bs2.set i true) ⟨h2, hset true (show treeHas _ _ = true from decide_eq_true (hiff.2 (.inr h4))).symm⟩ (by show t.length - (k + 1) < t.length - k; omega) (hh := by show [HE.row _ _ _ _ _ ((bs2.set i true).map boolV)] = _; rw [← hpl]; rfl)
  · have h4 : ¬ hasL t[k].data (hashL names[i]) := fun h4 => h3 (by have := places_has.2 h4; omega)
    refine ix i h1 ?_
    refine stR 0 (o := 0 + i * 1) (vs := [.bool false]) (xs := bs2.map boolV) hrl ?_
    refine rw_end ?_
    refine rg ?_
    refine addE ((k + 1 : Nat) : Int) ?_
    refine nxs (k + 1, bs2.set i false) ⟨h2, hset false (show treeHas _ _ = false from decide_eq_false fun h5 => by rcases hiff.1 h5 with h5 | h5; exact hp h5; exact h4 h5).symm⟩ (by show t.length - (k + 1) < t.length - k; omega) (hh := by show [HE.row _ _ _ _ _ ((bs2.set i false).map boolV)] = _; rw [← hpl]; rfl)
theorem textTree (s : Str) (names : List Str) : treeL [⟨[], 0, s⟩] names = textL s names := by
  have e : treeHas [⟨[], 0, s⟩] = fun h => decide (hasL s h) := by funext h; unfold treeHas; simp
  unfold treeL textL
  rw [e]
end Go.Hog
