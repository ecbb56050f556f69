/- Contract: split.Layers. -/
import Derived.Test.YtnjaclggjmfkfaaF25
import Derived.Test.YtnjaclggjmfkfaaMP
import Derived.Test.YtnjaclggjmfkfaaMN
set_option linter.unusedVariables false
set_option linter.unusedSimpArgs false
set_option maxRecDepth 100000
set_option maxHeartbeats 1000000
namespace Go.Hog
open Go.RowKit Rp Go.Proofs
def layOk (a : List Item) (n : Int) : Prop := 1 ≤ n ∧ n ≤ 127 ∧ (names a).Nodup
instance (a : List Item) (n : Int) : Decidable (layOk a n) := by unfold layOk; infer_instance
noncomputable def layersL (a : List Item) (n : Int) : List (List Str) := if layOk a n then layL n.toNat (rankL a) else []
def layersE (a : List Item) (n : Int) : Int := if layOk a n then 0 else 2
def layR (a : List Item) (n : Int) (L' : List HE) (v : Value) : Prop := ∃ A c vs hs, v = .tuple #[.slice A (layersL a n).length c, i64 (layersE a n)] ∧ L' = .row A (layersL a n).length c 35 1 vs :: hs ∧ OwnL 9 (layersL a n) vs hs
theorem layR_no {a : List Item} {n : Int} (h : ¬ layOk a n) : layR a n [.row none 0 0 35 1 []] (.tuple #[.slice none 0 0, i64 2]) := by
  unfold layR layersL layersE
  rw [if_neg h, if_neg h]
  exact ⟨none, 0, [], [], rfl, rfl, trivial⟩
theorem layR_ok {a : List Item} {n : Int} (h : layOk a n) {ls : List (List Str)} (hl : layL n.toNat (rankL a) = ls) {A : Option Addr} {c k : Nat} {vs : List Value} {hs : List HE} (hk : k = ls.length) (ho : OwnL 9 ls vs hs) : layR a n (.row A k c 35 1 vs :: hs) (.tuple #[.slice A k c, i64 0]) := by
  subst hk hl
  unfold layR layersL layersE
  rw [if_pos h, if_pos h]
  exact ⟨A, c, vs, hs, rfl, rfl, ho⟩
theorem slTail {g : View} {b c : Nat} {l : List Str} (h : Sl g (some ⟨b, 0, none⟩) c l) (h0 : 0 < l.length) : Sl g ((some (⟨b, 0, none⟩ : Addr)).map fun a => if 1 = c then a else a.add (1 * 1)) (c - 1) (l.drop 1) := by
  have hc := h.cap
  by_cases e : 1 = c
  · have h1 : l.drop 1 = [] := List.drop_eq_nil_of_le (by omega)
    rw [h1]
    simp only [Option.map_some, if_pos e]
    exact ⟨Nat.zero_le _, Nat.zero_le _, by omega, fun j hj => by simp at hj⟩
  · simp only [Option.map_some, if_neg e]
    exact h.drop 1 (by omega)
structure LS where
  k : Nat
  A6 : Option Addr
  c6 : Nat
  A7 : Option Addr
  c7 : Nat
  vs : List Value
  hs : List HE
theorem splitLayers {w : World} {f : View} (hv : On f w) {A : Option Addr} {c : Nat} {a : List Item} {n : Int} (ha : Sl f A c a) (hfit : FitT a) (h12 : a.length ≤ 12) :
    Con Try.prog 8 [.slice A a.length c, i64 n] w (RetM w f [] fun _ => layR a n) := by
  refine enterM (L := []) hv (Given.nil _ _) Try.call8 Try.func8 ?_
  refine sgE ?_
  refine sq (sg ?_)
  refine Go.Hog.lt (fun h1 => ?_) (fun h1 => ?_)
  · refine runE ?_
    refine cT (sgE ?_)
    refine enilrow 35 1 ?_
    refine ew_ret ?_
    exact ret2M (layR_no fun h => by have := h.1; omega)
  refine Go.Hog.gt (fun h2 => ?_) (fun h2 => ?_)
  · refine runE ?_
    refine cT (sgE ?_)
    refine enilrow 35 1 ?_
    refine ew_ret ?_
    exact ret2M (layR_no fun h => by have := h.2.1; omega)
  refine callB (p := (names a).Nodup) (vs := [.slice A a.length c]) (fun w g hs _ hon => splitUnlike hon (ha.mono hs) h12) (fun hnd => ?_) (fun hnd => ?_)
  case refine_2 =>
    refine runE ?_
    refine cT (sgE ?_)
    refine enilrow 35 1 ?_
    refine ew_ret ?_
    exact ret2M (layR_no fun h => hnd h.2.2)
  refine runE ?_
  refine cFs ?_
  have hok : layOk a n := ⟨by omega, by omega, hnd⟩
  refine efg [(1, i64 n), (0, .slice A a.length c)] [] fun ρ => ?_
  refine sg ?_
  refine callM0 (vs := [.slice A a.length c]) [] (fun w hon hgi => popRank hon ha hfit h12) (fun v g L' hs hR => ?_)
  obtain ⟨A6, c6, rfl, rfl⟩ := hR
  refine runE ?_
  obtain ⟨R, hR, hRl, hRb⟩ : ∃ R, rankL a = R ∧ R.length ≤ 12 ∧ ∀ s ∈ R, s.length ≤ LB := ⟨_, rfl, Nat.le_trans (rankL_len a) h12, fun s hs => namesLe ha (rankL_sub a s hs)⟩
  rw [hR]
  refine sgE ?_
  refine enilrow 35 1 ?_
  obtain ⟨m, hm, hm1⟩ : ∃ m : Nat, n = m ∧ 1 ≤ m := ⟨n.toNat, by omega, by omega⟩
  subst hm
  have hlay : ∀ ls, layL m R = ls → layL ((m : Int)).toNat (rankL a) = ls := fun ls h => by rw [hR]; exact h
  refine efg [(1, i64 m), (6, .slice A6 R.length c6), (7, .slice none 0 0)] (.row none 0 0 35 1 [] :: sRow A6 c6 R :: []) fun ρ => ?_
  refine sqJ (σ := List Value × List HE × Option Addr × Nat) (fun s => [(7, .slice s.2.2.1 (layL m R).length s.2.2.2)]) (fun _ => g) (fun s => .row s.2.2.1 (layL m R).length s.2.2.2 35 1 s.1 :: s.2.1) (fun s => OwnL 9 (layL m R) s.1 s.2.1) ?_ ?_
  case refine_2 =>
    rintro ⟨vs, hs, A7, c7⟩ ρ ho
    refine sgE ?_
    refine ew_ret ?_
    exact ret2M (layR_ok hok (hlay _ rfl) rfl ho)
  refine bk ?_
  refine lp (σ := LS) (fun s => [(1, i64 m), (6, .slice s.A6 (R.drop s.k).length s.c6), (7, .slice s.A7 s.k s.c7)]) (fun _ => g) (fun s => .row s.A7 s.k s.c7 35 1 s.vs :: sRow s.A6 s.c6 (R.drop s.k) :: s.hs) (fun s => s.k ≤ R.length ∧ (R.length ≤ m ∨ s.k ≤ m - 1) ∧ OwnL 9 ((R.take s.k).map fun x => [x]) s.vs s.hs) (fun s => R.length - s.k) ⟨0, A6, c6, none, 0, [], []⟩ ⟨Nat.zero_le _, .inr (Nat.zero_le _), trivial⟩ ?_
  rintro ⟨k, A6, c6, A7, c7, vs, hs⟩ ρ ⟨hk, hkm, hown⟩
  replace hk : k ≤ R.length := hk
  replace hkm : R.length ≤ m ∨ k ≤ m - 1 := hkm
  replace hown : OwnL 9 ((R.take k).map fun x => [x]) vs hs := hown
  show EW _ _ _ _ _ (ups ρ [(1, i64 m), (6, .slice A6 (R.drop k).length c6), (7, .slice A7 k c7)]) g (.row A7 k c7 35 1 vs :: sRow A6 c6 (R.drop k) :: hs)
  have hTl : (R.drop k).length = R.length - k := List.length_drop
  generalize hT : R.drop k = T at hTl
  have hTb : ∀ s ∈ T, s.length ≤ LB := fun s h => hRb s (List.mem_of_mem_drop (hT ▸ h))
  have hTL : T.length ≤ LB := by unfold LB; omega
  refine sq (sg ?_)
  refine gtE (fun h => ?_) (fun h => ?_)
  case refine_2 =>
    have e : k = R.length := by omega
    subst e
    have hle : R.length ≤ m := by omega
    have hl : layL m R = (R.take R.length).map fun x => [x] := by unfold layL; rw [if_pos hle, List.take_length]
    refine ewL (L' := .row A7 R.length c7 35 1 vs :: hs) (fun _ h => h.sublist (.cons_cons _ (.cons _ (List.Sublist.refl _)))) ?_
    refine cFx ?_
    refine jn (vs, hs, A7, c7) ?_ (hh := ?_) (ha := ⟨?_, trivial⟩)
    · show OwnL 9 (layL m R) vs hs
      rw [hl]; exact hown
    · show HE.row A7 (layL m R).length c7 _ 1 vs :: hs = _
      rw [hl, List.length_map, List.take_length]
    · show Value.slice A7 R.length c7 = .slice A7 (layL m R).length c7
      rw [hl, List.length_map, List.take_length]
  have hT0 : 0 < T.length := by omega
  have hT1 : 1 ≤ T.length := hT0
  have hTs : T.length ≤ 1000 := by omega
  refine erowF 1 fun hrow => ?_
  obtain ⟨b6, rfl⟩ := hrow.2.2.2.1 hT0
  have hoc := hrow.2.1
  have hoc1 : 1 ≤ c6 := by omega
  have hsl : ∀ g', (sRow (some ⟨b6, 0, none⟩) c6 T).seen g' → Sl g' (some ⟨b6, 0, none⟩) c6 T := fun g' h => Sl.ofTexts (l := T) h rfl hTb hTL
  have hck : (k + 1) * 24 ≤ 140737488355328 := by omega
  have hcr : ∀ w g', Sub g g' → (∀ e ∈ (.row A7 k c7 35 1 vs :: sRow (some ⟨b6, 0, none⟩) c6 T :: hs), e.seen g') → On g' w → Con Try.prog 22 [.slice (some ⟨b6, 0, none⟩) T.length c6] w (RetM w g' [] fun _ => fun L' v => ∃ A' c', v = .slice A' (sortS T).length c' ∧ L' = [sRow A' c' (sortS T)]) := fun w g' hs' hsn hon => splitRising hon (hsl g' (hsn _ (.tail _ (.head _)))) hTs
  refine cTs (bk (sqJ (σ := Unit) (fun _ => [(1, i64 m), (6, .slice (some ⟨b6, 0, none⟩) T.length c6), (7, .slice A7 k c7)]) (fun _ => g) (fun _ => (.row A7 k c7 35 1 vs :: sRow (some ⟨b6, 0, none⟩) c6 T :: hs)) (fun _ => T.length ≤ 1 ∨ k ≠ m - 1) ?_ ?_))
  case refine_2 =>
    rintro ⟨⟩ ρ hno
    replace hno : T.length ≤ 1 ∨ k ≠ m - 1 := hno
    obtain ⟨x, T', hTx⟩ : ∃ x T', T = x :: T' := by
      cases T with
      | nil => simp at hT0
      | cons x T' => exact ⟨x, T', rfl⟩
    have hdk : R.drop (k + 1) = T.drop 1 := by rw [← hT, List.drop_drop]
    have htk : R.take (k + 1) = R.take k ++ [x] := by
      have h1 : k < R.length := by omega
      rw [List.take_add_one, List.getElem?_eq_getElem h1]
      have : R.drop k = R[k] :: R.drop (k + 1) := List.drop_eq_getElem_cons h1
      rw [hT, hTx] at this
      injection this with h2 h3
      rw [h2]; rfl
    have hd1 : (T.drop 1).length = T.length - 1 := List.length_drop
    have hds : (T.drop 1).length ≤ 1000000 := by omega
    refine sg ?_
    refine slM 1 1 ⟨Nat.le_refl _, hoc1⟩ ?_
    refine bsl fun b9 => ?_
    refine app 0 (fun A9 c9 => ?_) (hlim := hck)
    refine runE ?_
    have hcl : ∀ w g', Sub g g' → (∀ e ∈ (.row A9 (k + 1) c9 35 1 (vs ++ [.slice (some ⟨b6, 0, none⟩) 1 1]) :: sRow (some ⟨b6, 0, none⟩) c6 T :: hs), e.seen g') → On g' w → Con Try.prog 23 [.slice ((some (⟨b6, 0, none⟩ : Addr)).map fun a => if 1 = c6 then a else a.add (1 * 1)) (T.length - 1) (c6 - 1)] w (RetM w g' [] fun _ => fun L' v => ∃ A' c', v = .slice A' (T.drop 1).length c' ∧ L' = [sRow A' c' (T.drop 1)]) := fun w g' hs' hsn hon => by
      have := cloneS hon (slTail (hsl g' (hsn _ (.tail _ (.head _)))) hT0) hds
      rw [← hd1]
      exact this
    refine rg ?_
    refine slL' 1 hT1 hoc ?_
    refine callMo (vs := [.slice ((some (⟨b6, 0, none⟩ : Addr)).map fun a => if 1 = c6 then a else a.add (1 * 1)) (T.length - 1) (c6 - 1)]) hcl (fun v L' hR2 => ?_)
    obtain ⟨A8, c8, rfl, rfl⟩ := hR2
    refine rblk 2 (fun cur h1 h2 h3 h4 => ?_)
    refine rwL (L' := .row A9 (k + 1) c9 35 1 (vs ++ [.slice (some ⟨b6, 0, none⟩) 1 1]) :: sRow A8 c8 (T.drop 1) :: (hs ++ [.blk b6 (.cells cur 9)])) (fun _ h => h.perm ((List.Perm.swap _ _ _).trans (List.Perm.cons _ (List.Perm.cons _ (List.perm_append_singleton _ _).symm)))) ?_
    refine runE ?_
    have hk2 : k + 1 ≤ R.length := by omega
    have ho2 : Own1 9 [x] (.slice (some ⟨b6, 0, none⟩) 1 1) (.blk b6 (.cells cur 9)) := ⟨_, _, rfl, .inr ⟨b6, cur, rfl, rfl, rfl, by
      have h5 : (cur.toList.take (T.length * 1)).take 1 = (T.map str).take 1 := by rw [h1]
      rw [List.take_take, Nat.min_eq_left (by omega), hTx] at h5
      exact h5⟩⟩
    refine nxs ⟨k + 1, A8, c8, A9, c9, vs ++ [.slice (some ⟨b6, 0, none⟩) 1 1], hs ++ [.blk b6 (.cells cur 9)]⟩ ⟨hk2, ?_, ?_⟩ (by show R.length - (k + 1) < R.length - k; omega) (hh := ?_) (ha := ?_)
    · show R.length ≤ m ∨ k + 1 ≤ m - 1
      omega
    · show OwnL 9 ((R.take (k + 1)).map fun x => [x]) _ _
      rw [htk, List.map_append]
      exact hown.snoc ho2
    · show HE.row A9 (k + 1) c9 _ 1 _ :: sRow A8 c8 (R.drop (k + 1)) :: _ = _
      rw [hdk]
    · refine ⟨rfl, ?_, rfl, trivial⟩
      show Value.slice A8 (T.drop 1).length c8 = .slice A8 (R.drop (k + 1)).length c8
      rw [hdk]
  refine sg ?_
  refine sub ((m : Int) - 1) ?_
  refine eqI (fun hk1 => ?_) (fun hk1 => ?_)
  · refine Go.Hog.gt (fun hg => ?_) (fun hg => ?_)
    · refine runE ?_
      refine cT (sg ?_)
      refine callMo (vs := [.slice (some ⟨b6, 0, none⟩) T.length c6]) hcr (fun v L' hR2 => ?_)
      obtain ⟨A8, c8, rfl, rfl⟩ := hR2
      refine bsl fun b9 => ?_
      refine app 1 (fun A9 c9 => ?_) (hlim := hck)
      refine runE ?_
      refine ewL (L' := sRow A8 c8 (sortS T) :: .row A9 (k + 1) c9 35 1 (vs ++ [.slice A8 (sortS T).length c8]) :: hs) (fun _ h => h.sublist (.cons_cons _ (.cons_cons _ (.cons _ (List.Sublist.refl _))))) ?_
      refine eperm (L' := .row A9 (k + 1) c9 35 1 (vs ++ [.slice A8 (sortS T).length c8]) :: (hs ++ [sRow A8 c8 (sortS T)])) ((List.Perm.swap _ _ _).trans (List.Perm.cons _ (List.perm_append_singleton _ _).symm)) ?_
      refine ew_ret ?_
      have hkm1 : k = m - 1 := by omega
      have hl : layL m R = (R.take k).map (fun x => [x]) ++ [sortS T] := by
        unfold layL
        rw [if_neg (by omega), ← hkm1, hT]
      refine ret2M (layR_ok hok (hlay _ hl) ?_ (hown.snoc ⟨A8, c8, rfl, .inl rfl⟩))
      simp
      omega
    · refine runE ?_
      refine cFs ?_
      exact jn () (.inl (by omega))
  · refine runE ?_
    refine cFs ?_
    exact jn () (.inr (by omega))
end Go.Hog
