/- F11 F12 F13, in one text. -/
import Derived.Test.YtdidefhdcinecaaGreatDoorS6
import Derived.Test.YtdidefhdcinecaaGreatDoorE17
import Derived.Test.YtdidefhdcinecaaGreatDoorMF
import Derived.Test.YtdidefhdcinecaaGreatDoorMD
import Derived.Test.YtdidefhdcinecaaGreatDoorE18
set_option linter.unusedVariables false
set_option linter.unusedSimpArgs false
set_option maxRecDepth 100000
set_option maxHeartbeats 1000000
namespace Go.Hog
open Go.RowKit Rp Go.Proofs
theorem putL1 : ∀ (xs : List Value) (o : Nat) (v : Value), o < xs.length → putL xs o [v] = xs.set o v
  | [], o, v, h => by simp at h
  | x :: xs, 0, v, h => by cases xs <;> rfl
  | x :: xs, o + 1, v, h => by
    simp only [putL, List.set_cons_succ]
    rw [putL1 xs o v (by simpa using h)]
theorem putLs (l : List Str) (o : Nat) (s : Str) (h : o < l.length) : putL (l.map str) o [str s] = (l.set o s).map str := by
  rw [putL1 _ _ _ (by simpa using h), List.map_set]
theorem isNaNS {w : World} {f : View} (hv : On f w) {s : Str} : Con Tryz.prog 133 [str s] w (Ret w f fun _ v => v = .bool false) := by
  refine enterC hv Tryz.call133 Tryz.func133 ?_
  refine sgE ?_
  refine sg ?_
  refine neS (fun h => absurd rfl h) (fun _ => ?_)
  refine runE ?_
  refine ew_ret ?_
  exact ret1 rfl
theorem lessS {w : World} {f : View} (hv : On f w) {s u : Str} : Con Tryz.prog 119 [str s, str u] w (Ret w f fun _ v => v = .bool (decide (s < u))) := by
  refine enterC hv Tryz.call119 Tryz.func119 ?_
  refine sgE ?_
  refine sg ?_
  refine callV (.bool false) (vs := [str s]) (fun w g hs _ hon => isNaNS hon) ?_
  refine ltS (fun h => ?_) (fun h => ?_)
  · refine runE ?_
    refine ew_ret ?_
    exact ret1 (bT h)
  · refine runE ?_
    refine ew_ret ?_
    exact ret1 (bF h)
def sRow (A : Option Addr) (c : Nat) (l : List Str) : HE := .row A l.length c 9 1 (l.map str)
theorem insertionS {w : World} {f : View} {A : Option Addr} {c : Nat} {l : List Str} (hlim : l.length ≤ 1000000) (hv : On f w) (hg : Given f [sRow A c l] w) :
    Con Tryz.prog 113 [.slice A l.length c, i64 0, i64 (l.length : Nat)] w (RetM w f [sRow A c l] fun _ L' _ => L' = [sRow A c (sortS l)]) := by
  refine enterM hv hg Tryz.call113 Tryz.func113 ?_
  refine sg ?_
  refine addE ((1 : Nat) : Int) ?_
  refine bk ?_
  refine lp (σ := Nat × List Str) (fun s => [(6, i64 s.1), (2, i64 (l.length : Nat)), (1, i64 0), (0, .slice A l.length c)]) (fun _ => f) (fun s => [.row A l.length c 9 1 (s.2.map str)]) (fun s => 1 ≤ s.1 ∧ s.2.Perm l ∧ (∀ p q, p < q → q < s.1 → q < l.length → ¬ at_ s.2 q < at_ s.2 p)) (fun s => l.length + 1 - s.1) (1, l) ⟨Nat.le_refl _, List.Perm.refl _, fun p q h1 h2 _ => by omega⟩ ?_
  rintro ⟨i, m⟩ ρ ⟨hi1, hp, ho⟩
  replace hi1 : 1 ≤ i := hi1
  replace hp : m.Perm l := hp
  replace ho : ∀ p q, p < q → q < i → q < l.length → ¬ at_ m q < at_ m p := ho
  show EW _ _ _ _ _ (ups ρ [(6, i64 i), (2, i64 (l.length : Nat)), (1, i64 0), (0, .slice A l.length c)]) f [.row A l.length c 9 1 (m.map str)]
  refine sq (sg ?_)
  refine ltE (fun h => ?_) (fun h => ?_)
  case refine_2 =>
    refine cFx ?_
    refine ret0M ?_
    have hs : SortedS m := sorted_at fun p q h1 h2 => ho p q h1 (by have := hp.length_eq; omega) (by have := hp.length_eq; omega)
    have e := sortS_of hp hs
    subst e
    show [HE.row A l.length c _ 1 _] = [HE.row A (sortS l).length c _ 1 _]
    rw [sortS_len]
  have h1 : i < l.length := by omega
  refine erowF 0 fun hrow => ?_
  obtain ⟨b, rfl⟩ := hrow.2.2.2.1 (by omega)
  refine cTs (bkJ (σ := List Str) (fun _ => [(6, i64 i), (2, i64 (l.length : Nat)), (1, i64 0), (0, .slice (some ⟨b, 0, none⟩) l.length c)]) (fun _ => f) (fun s => [.row (some ⟨b, 0, none⟩) l.length c 9 1 (s.map str)]) (fun s => s.Perm l ∧ (∀ p q, p < q → q < i + 1 → ¬ at_ s q < at_ s p)) ?_ ?_)
  case refine_2 =>
    rintro m2 ρ ⟨hp2, ho2⟩
    refine rg ?_
    refine addE ((i + 1 : Nat) : Int) ?_
    exact nxs (i + 1, m2) ⟨by omega, hp2, fun p q a1 a2 _ => ho2 p q a1 a2⟩ (by show l.length + 1 - (i + 1) < l.length + 1 - i; omega)
  refine sgE ?_
  refine bk ?_
  refine lp (σ := Nat × List Str) (fun s => [(7, i64 s.1), (6, i64 i), (2, i64 (l.length : Nat)), (1, i64 0), (0, .slice (some ⟨b, 0, none⟩) l.length c)]) (fun _ => f) (fun s => [.row (some ⟨b, 0, none⟩) l.length c 9 1 (s.2.map str)]) (fun s => s.2.Perm l ∧ InsI s.2 i s.1) (fun s => s.1) (i, m) ⟨hp, .start fun p q a1 a2 => ho p q a1 a2 (by omega)⟩ ?_
  rintro ⟨j, m2⟩ ρ ⟨hp2, hI⟩
  replace hp2 : m2.Perm l := hp2
  replace hI : InsI m2 i j := hI
  have hjl := hI.le
  have hml := hp2.length_eq
  show EW _ _ _ _ _ (ups ρ [(7, i64 j), (6, i64 i), (2, i64 (l.length : Nat)), (1, i64 0), (0, .slice (some ⟨b, 0, none⟩) l.length c)]) f [.row (some ⟨b, 0, none⟩) l.length c 9 1 (m2.map str)]
  have hc : ∀ k, k < l.length → (m2.map str)[0 + k * 1]? = some (str (at_ m2 k)) := fun k hk => by
    have hk2 : k < m2.length := by omega
    simp [at_get hk2, hk2]
  refine sq (sQ ?_)
  refine Go.Hog.gt (fun hj => ?_) (fun hj => ?_)
  case refine_2 =>
    refine runE ?_
    refine cFx ?_
    exact jn m2 ⟨hp2, hI.stop (.inl (by omega))⟩
  have hj0 : 0 < j := by omega
  have hjL : j < l.length := by omega
  have hj1L : j - 1 < l.length := by omega
  refine ix j hjL ?_
  refine ldr 0 (hc j hjL) ?_
  refine sub ((j - 1 : Nat) : Int) ?_
  refine ix (j - 1) hj1L ?_
  refine ldr 0 (hc (j - 1) hj1L) ?_
  refine callB (p := at_ m2 j < at_ m2 (j - 1)) (vs := [str (at_ m2 j), str (at_ m2 (j - 1))]) (fun w g hs _ hon => lessS hon) (fun hlt => ?_) (fun hlt => ?_)
  case refine_2 =>
    refine runE ?_
    refine cFx ?_
    exact jn m2 ⟨hp2, hI.stop (.inr hlt)⟩
  refine runE ?_
  have e1 : putL (putL (m2.map str) (0 + j * 1) [str (at_ m2 (j - 1))]) (0 + (j - 1) * 1) [str (at_ m2 j)] = (swapL m2 j (j - 1)).map str := by
    rw [show 0 + j * 1 = j by omega, show 0 + (j - 1) * 1 = j - 1 by omega, putLs _ _ _ (by omega), putLs _ _ _ (by simp; omega)]
    rfl
  have q1 : 0 + j * 1 + [str (at_ m2 (j - 1))].length ≤ (m2.map str).length := by simp; omega
  have q2 : 0 + (j - 1) * 1 + [str (at_ m2 j)].length ≤ (putL (m2.map str) (0 + j * 1) [str (at_ m2 (j - 1))]).length := by
    rw [putL_length _ _ _ q1]; simp; omega
  refine cTs (sq (bk ?_))
  refine efg [(7, i64 j), (6, i64 i), (2, i64 (l.length : Nat)), (1, i64 0), (0, .slice (some ⟨b, 0, none⟩) l.length c)] [.row (some ⟨b, 0, none⟩) l.length c 9 1 (m2.map str)] fun ρ => ?_
  have hh0 : ∀ {L : List HE}, HeldL f [] f L := HeldL.none (Sub.refl _)
  refine eA [0, 1, 2, 3, 4, 5, 6, 7, 8, 10, 11, 12] [] (List.nil_sublist _) ?_
  refine an_takeH [0, 1, 2, 3, 4, 5, 6, 7, 8, 10, 11, 12] hh0 ?_
  refine sub ((j - 1 : Nat) : Int) ?_
  refine sub ((j - 1 : Nat) : Int) ?_
  refine ix (j - 1) hj1L ?_
  refine ix j hjL ?_
  refine rw_end ?_
  refine an_have (α := Unit) (lsA 18 [0, 1, 2, 3, 4, 5, 6, 7, 8, 9, 10, 11, 12, 13]) (fun _ => [(33, .slice (some ⟨b, 0, none⟩) l.length c), (34, i64 j), (35, .slice (some ⟨b, 0, none⟩) l.length c), (37, i64 (j - 1 : Nat)), (42, str (at_ m2 (j - 1))), (46, str (at_ m2 j)), (7, i64 j), (6, i64 i), (2, i64 (l.length : Nat)), (1, i64 0), (0, .slice (some ⟨b, 0, none⟩) l.length c)]) (fun _ => f) (fun _ => [.row (some ⟨b, 0, none⟩) l.length c 9 1 (m2.map str)]) ?_ (fun T => ?_)
  · intro _ ρ
    refine an_run1 14 ?_
    refine ix j hjL ?_
    refine aH hh0 ?_
    refine an_run1 15 ?_
    refine stR 0 (o := 0 + j * 1) (vs := [str (at_ m2 (j - 1))]) q1 ?_
    refine aH hh0 ?_
    refine an_run1 16 ?_
    refine ix (j - 1) hj1L ?_
    refine aH hh0 ?_
    refine an_run1 17 ?_
    refine stR 0 (o := 0 + (j - 1) * 1) (vs := [str (at_ m2 j)]) q2 ?_
    refine aH hh0 ?_
    refine an_done ?_
    refine efg [(7, i64 j), (6, i64 i), (2, i64 (l.length : Nat)), (1, i64 0), (0, .slice (some ⟨b, 0, none⟩) l.length c)] [.row (some ⟨b, 0, none⟩) l.length c 9 1 (putL (putL (m2.map str) (0 + j * 1) [str (at_ m2 (j - 1))]) (0 + (j - 1) * 1) [str (at_ m2 j)])] fun ρ => ?_
    rw [e1]
    refine rg ?_
    refine subE ((j - 1 : Nat) : Int) ?_
    exact nxs (j - 1, swapL m2 j (j - 1)) ⟨(swapL_perm (by omega) (by omega)).trans hp2, hI.step (by omega) hj0 hlt⟩ (by show j - 1 < j; omega)
  refine an_run2 9 13 ?_ ?_
  · refine ldr 0 (hc (j - 1) hj1L) ?_
    refine aH hh0 ?_
    refine an_run1 13 ?_
    refine ldr 0 (hc j hjL) ?_
    refine aH hh0 ?_
    exact an_use T ()
  · refine ldr 0 (hc j hjL) ?_
    refine aH hh0 ?_
    refine an_run1 9 ?_
    refine ldr 0 (hc (j - 1) hj1L) ?_
    refine aH hh0 ?_
    exact an_use T ()
end Go.Hog

set_option linter.unusedVariables false
set_option linter.unusedSimpArgs false
set_option maxRecDepth 100000
set_option maxHeartbeats 1000000
namespace Go.Hog
open Go.RowKit Rp Go.Proofs
theorem pdqS {w : World} {f : View} {A : Option Addr} {c : Nat} {l : List Str} {q : Int} (hlim : l.length ≤ 12) (hv : On f w) (hg : Given f [sRow A c l] w) :
    Con Tryz.prog 99 [.slice A l.length c, i64 0, i64 (l.length : Nat), i64 q] w (RetM w f [sRow A c l] fun _ L' _ => L' = [sRow A c (sortS l)]) := by
  refine enterM hv hg Tryz.call99 Tryz.func99 ?_
  have hl2 : l.length ≤ 1000000 := by omega
  refine sgE ?_
  refine sgE ?_
  refine bk ?_
  refine lp (σ := Unit) (fun _ => [(2, i64 (l.length : Nat)), (1, i64 0), (0, .slice A l.length c)]) (fun _ => f) (fun _ => [sRow A c l]) (fun _ => True) (fun _ => 0) () trivial ?_
  intro _ ρ _
  refine bk (sg ?_)
  refine subE ((l.length : Nat) : Int) ?_
  refine sq (sg ?_)
  refine leE (fun h => ?_) (fun h => ?_)
  case refine_2 => omega
  refine cT (sg ?_)
  refine callM0 (vs := [.slice A l.length c, i64 0, i64 (l.length : Nat)]) [sRow A c l] (fun w hon hgi => insertionS hl2 hon hgi) (fun v g L' hs hR => ?_)
  subst hR
  refine runE ?_
  refine ew_ret ?_
  exact ret0Mr rfl
theorem len64 {w : World} {f : View} (hv : On f w) {x : Nat} (hx : x < 256) : Con Tryz.prog 123 [.int .u64 (x : Int)] w (Ret w f fun _ v => ∃ n, v = i64 n) := by
  refine enterC hv Tryz.call123 Tryz.func123 ?_
  have w1 : IntKind.u8.wrap (x : Int) = x := by rw [wrap_u8]; omega
  refine sgE ?_
  refine sq (sg ?_)
  refine geE (fun h => ?_) (fun h => ?_)
  · omega
  refine cFs ?_
  refine sq (sg ?_)
  refine geE (fun h => ?_) (fun h => ?_)
  · omega
  refine cFs ?_
  refine sq (sg ?_)
  refine geE (fun h => ?_) (fun h => ?_)
  · omega
  refine cFs ?_
  refine sg ?_
  refine cvI (x : Int) w1 ?_
  refine ixSx 256 x hx fun b => ?_
  have hb := b.toNat_lt
  have w2 : IntKind.i64.wrap (b.toNat : Int) = b.toNat := wrap_in (by omega)
  refine cvI (b.toNat : Int) w2 ?_
  refine addE (b.toNat : Int) ?_
  refine ew_ret ?_
  exact ret1 ⟨_, rfl⟩
theorem lenB {w : World} {f : View} (hv : On f w) {x : Nat} (hx : x < 256) : Con Tryz.prog 100 [.int .u64 (x : Int)] w (Ret w f fun _ v => ∃ n, v = i64 n) := by
  refine enterC hv Tryz.call100 Tryz.func100 ?_
  refine sgE ?_
  refine sq (cFs ?_)
  refine sg ?_
  refine callO (vs := [.int .u64 (x : Int)]) (fun w g hs _ hon => len64 hon hx) (fun v g hR => ?_)
  obtain ⟨n, rfl⟩ := hR
  refine runE ?_
  refine ew_ret ?_
  exact ret1 ⟨_, rfl⟩
theorem sortC {w : World} {f : View} {A : Option Addr} {c : Nat} {l : List Str} (hlim : l.length ≤ 12) (hv : On f w) (hg : Given f [sRow A c l] w) :
    Con Tryz.prog 81 [.slice A l.length c] w (RetM w f [sRow A c l] fun _ L' _ => L' = [sRow A c (sortS l)]) := by
  refine enterM hv hg Tryz.call81 Tryz.func81 ?_
  have w1 : IntKind.u64.wrap (l.length : Int) = l.length := by rw [wrap_u64]; omega
  refine sgE ?_
  refine rg ?_
  refine cvI (l.length : Int) w1 ?_
  refine callO (vs := [.int .u64 (l.length : Int)]) (fun w g hs _ hon => lenB hon (show l.length < 256 by omega)) (fun v g hR => ?_)
  obtain ⟨n, rfl⟩ := hR
  refine callM0 (vs := [.slice A l.length c, i64 0, i64 (l.length : Nat), i64 n]) [sRow A c l] (fun w hon hgi => pdqS hlim hon hgi) (fun v g L' hs hR => ?_)
  subst hR
  refine runE ?_
  exact ret0M rfl
end Go.Hog

set_option linter.unusedVariables false
set_option linter.unusedSimpArgs false
set_option maxRecDepth 100000
set_option maxHeartbeats 1000000
namespace Go.Hog
open Go.RowKit Rp Go.Proofs
def ddN (l : List Str) : Nat → List Str
  | 0 => []
  | k + 1 => if 0 < k ∧ at_ l k = at_ l (k - 1) then ddN l k else ddN l k ++ [at_ l k]
def dd (l : List Str) : List Str := ddN l l.length
theorem ddN_le (l : List Str) : ∀ k, (ddN l k).length ≤ k
  | 0 => Nat.le_refl _
  | k + 1 => by
    unfold ddN
    have := ddN_le l k
    split
    · omega
    · simp; omega
theorem take_at {l : List Str} {k : Nat} (h : k < l.length) : l.take (k + 1) = l.take k ++ [at_ l k] := by
  rw [List.take_add_one, List.getElem?_eq_getElem h, at_get h]; rfl
theorem ddN_full {l : List Str} : ∀ k, k ≤ l.length → (ddN l k).length = k → ddN l k = l.take k
  | 0, _, _ => by simp [ddN]
  | k + 1, hk, h => by
    unfold ddN at h ⊢
    have hle := ddN_le l k
    split at h
    · omega
    · rename_i hn
      rw [if_neg hn, ddN_full k (by omega) (by simpa using h), take_at (by omega)]
theorem ddN_no {l : List Str} : ∀ k, k ≤ l.length → (∀ p, 0 < p → p < k → at_ l p ≠ at_ l (p - 1)) → ddN l k = l.take k
  | 0, _, _ => by simp [ddN]
  | k + 1, hk, h => by
    unfold ddN
    rw [if_neg (fun e => h k e.1 (by omega) e.2), ddN_no k (by omega) (fun p h1 h2 => h p h1 (by omega)), take_at (by omega)]
theorem ddN_spec {l : List Str} (hs : SortedS l) : ∀ k, k ≤ l.length → (∀ s, s ∈ ddN l k ↔ ∃ p, p < k ∧ at_ l p = s) ∧ (ddN l k).Pairwise (· < ·)
  | 0, _ => ⟨fun s => by simp [ddN], List.Pairwise.nil⟩
  | k + 1, hk => by
    obtain ⟨h1, h2⟩ := ddN_spec hs k (by omega)
    have hle : ∀ p q, p < q → q < l.length → ¬ at_ l q < at_ l p := fun p q hp hq => by
      rw [at_get hq, at_get (by omega : p < l.length)]
      exact List.pairwise_iff_getElem.1 hs p q (by omega) hq hp
    unfold ddN
    split
    · rename_i he
      refine ⟨fun s => ?_, h2⟩
      rw [h1]
      constructor
      · rintro ⟨p, hp, e⟩; exact ⟨p, by omega, e⟩
      · rintro ⟨p, hp, e⟩
        by_cases hpk : p = k
        · subst hpk; exact ⟨p - 1, by omega, he.2.symm.trans e⟩
        · exact ⟨p, by omega, e⟩
    · rename_i hn
      refine ⟨fun s => ?_, ?_⟩
      · rw [List.mem_append, h1, List.mem_singleton]
        constructor
        · rintro (⟨p, hp, e⟩ | e)
          · exact ⟨p, by omega, e⟩
          · exact ⟨k, by omega, e.symm⟩
        · rintro ⟨p, hp, e⟩
          by_cases hpk : p = k
          · subst hpk; exact .inr e.symm
          · exact .inl ⟨p, by omega, e⟩
      · refine List.pairwise_append.2 ⟨h2, by simp, fun s hs' x hx => ?_⟩
        rw [List.mem_singleton] at hx
        subst hx
        obtain ⟨p, hp, rfl⟩ := (h1 s).1 hs'
        have hk0 : 0 < k := by omega
        have hne : at_ l k ≠ at_ l (k - 1) := fun e => hn ⟨hk0, e⟩
        have hlt : at_ l (k - 1) < at_ l k := by
          refine Decidable.byContradiction fun h => hne (strEq (hle (k - 1) k (by omega) (by omega)) h)
        by_cases hpk : p = k - 1
        · subst hpk; exact hlt
        · refine Decidable.byContradiction fun h => ?_
          exact strSO.ntrans (hle p (k - 1) (by omega) (by omega)) h hlt
theorem dd_sorted {l : List Str} (hs : SortedS l) : (dd l).Pairwise (· < ·) := (ddN_spec hs _ (Nat.le_refl _)).2
theorem dd_mem {l : List Str} (hs : SortedS l) {s : Str} : s ∈ dd l ↔ s ∈ l := by
  unfold dd
  rw [(ddN_spec hs _ (Nat.le_refl _)).1]
  constructor
  · rintro ⟨p, hp, rfl⟩
    rw [at_get hp]
    exact List.getElem_mem _
  · intro h
    obtain ⟨p, hp, e⟩ := List.getElem_of_mem h
    exact ⟨p, hp, by rw [at_get hp, e]⟩
theorem strict_nodup {l : List Str} (h : l.Pairwise (· < ·)) : l.Nodup := h.imp fun {a b} hab e => by subst e; exact List.lt_irrefl _ hab
theorem strict_sorted {l : List Str} (h : l.Pairwise (· < ·)) : SortedS l := h.imp fun {a b} hab => strSO.asym hab
theorem dd_len {l : List Str} (hs : SortedS l) : (dd l).length = l.length ↔ l.Nodup := by
  constructor
  · intro h
    have : dd l = l := by
      have := ddN_full l.length (Nat.le_refl _) h
      rwa [List.take_length] at this
    rw [← this]
    exact strict_nodup (dd_sorted hs)
  · intro h
    have : dd l = l := by
      have := ddN_no (l := l) l.length (Nat.le_refl _) (fun p h1 h2 e => by
        rw [at_get h2, at_get (by omega : p - 1 < l.length)] at e
        exact List.pairwise_iff_getElem.1 h (p - 1) p (by omega) h2 (by omega) e.symm)
      rwa [List.take_length] at this
    rw [this]
theorem dd_short {l : List Str} (h : l.length < 2) : dd l = l := by
  have := ddN_no (l := l) l.length (Nat.le_refl _) (fun p h1 h2 => by omega)
  rwa [List.take_length] at this
theorem sRow_take {A : Option Addr} {c k : Nat} {m l : List Str} (h : m.take k = l) (hk : k = l.length) : [HE.row A k c 9 1 ((m.map str).take (k * 1))] = [sRow A c l] := by
  subst hk
  rw [Nat.mul_one, ← List.map_take, h]
  rfl
theorem compactS {w : World} {f : View} {A : Option Addr} {c : Nat} {l : List Str} (hlim : l.length ≤ 1000000) (hv : On f w) (hg : Given f [sRow A c l] w) :
    Con Tryz.prog 82 [.slice A l.length c] w (RetM w f [sRow A c l] fun _ L' v => L' = [sRow A c (dd l)] ∧ v = .slice A (dd l).length c) := by
  refine enterM hv hg Tryz.call82 Tryz.func82 ?_
  refine sgE ?_
  refine sq (sg ?_)
  refine ltE (fun h2 => ?_) (fun h2 => ?_)
  · refine cT (sgE ?_)
    refine ew_ret ?_
    refine ret1M ?_
    rw [dd_short (show l.length < 2 by omega)]
    exact ⟨rfl, rfl⟩
  refine cFs ?_
  refine erowF 0 fun hrow => ?_
  obtain ⟨b, rfl⟩ := hrow.2.2.2.1 (by omega)
  have hcl := hrow.2.1
  refine efg [(0, .slice (some ⟨b, 0, none⟩) l.length c)] [.row (some ⟨b, 0, none⟩) l.length c 9 1 (l.map str)] fun ρ => ?_
  have hc : ∀ (m : List Str) k, m.length = l.length → k < l.length → (m.map str)[0 + k * 1]? = some (str (at_ m k)) := fun m k hm hk => by
    have hk2 : k < m.length := by omega
    simp [at_get hk2, hk2]
  refine sqJ (σ := Unit) (fun _ => [(0, .slice (some ⟨b, 0, none⟩) l.length c)]) (fun _ => f) (fun _ => [.row (some ⟨b, 0, none⟩) l.length c 9 1 (l.map str)]) (fun _ => dd l = l) ?_ ?_
  case refine_2 =>
    intro _ ρ hdd
    replace hdd : dd l = l := hdd
    refine sgE ?_
    refine ew_ret ?_
    refine ret1M ?_
    rw [hdd]
    exact ⟨rfl, rfl⟩
  refine sgE ?_
  refine bk ?_
  refine lp (σ := Nat) (fun k => [(3, i64 k), (0, .slice (some ⟨b, 0, none⟩) l.length c)]) (fun _ => f) (fun _ => [.row (some ⟨b, 0, none⟩) l.length c 9 1 (l.map str)]) (fun k => 1 ≤ k ∧ k ≤ l.length ∧ ∀ p, 0 < p → p < k → at_ l p ≠ at_ l (p - 1)) (fun k => l.length - k) 1 ⟨Nat.le_refl _, by omega, fun p h1 h2 => by omega⟩ ?_
  rintro k ρ ⟨hk1, hkl, hno⟩
  refine sq (sg ?_)
  refine ltE (fun h => ?_) (fun h => ?_)
  case refine_2 =>
    refine cFx ?_
    have e : k = l.length := by omega
    subst e
    refine jn () ?_
    have := ddN_no (l := l) l.length (Nat.le_refl _) hno
    rwa [List.take_length] at this
  have h1 : k < l.length := by omega
  have h1' : k - 1 < l.length := by omega
  refine cTs (sq (bk (sQ ?_)))
  refine ix k h1 ?_
  refine ldr 0 (hc l k rfl h1) ?_
  refine sub ((k - 1 : Nat) : Int) ?_
  refine ix (k - 1) h1' ?_
  refine ldr 0 (hc l (k - 1) rfl h1') ?_
  refine eqSE (fun he => ?_) (fun he => ?_)
  case refine_2 =>
    refine cFs (rg ?_)
    refine addE ((k + 1 : Nat) : Int) ?_
    refine nxs (k + 1) ⟨by omega, h1, fun p a1 a2 => ?_⟩ (by show l.length - (k + 1) < l.length - k; omega)
    by_cases hp : p = k
    · subst hp; exact he
    · exact hno p a1 (by omega)
  -- one that is there already
  refine cT ?_
  refine sg ?_
  refine slL k (Nat.le_of_lt h1) hcl ?_
  refine runE ?_
  have hkc : ¬ k = c := by omega
  rw [if_neg hkc]
  refine efg [(4, .slice (some ⟨b, 0 + k * 1, none⟩) (l.length - k) (c - k)), (3, i64 k), (0, .slice (some ⟨b, 0, none⟩) l.length c)] [.row (some ⟨b, 0, none⟩) l.length c 9 1 (l.map str)] fun ρ => ?_
  have hdk : ddN l (k + 1) = l.take k := by
    rw [ddN, if_pos ⟨by omega, he⟩, ddN_no k (by omega) hno]
  refine sqJ (σ := Nat × List Str) (fun s => [(3, i64 s.1), (0, .slice (some ⟨b, 0, none⟩) l.length c)]) (fun _ => f) (fun s => [.row (some ⟨b, 0, none⟩) l.length c 9 1 (s.2.map str)]) (fun s => s.2.length = l.length ∧ s.1 = (dd l).length ∧ s.2.take s.1 = dd l ∧ s.1 ≤ l.length) ?_ ?_
  · refine sgE ?_
    refine bk ?_
    refine lp (σ := Nat × Nat × List Str) (fun s => [(5, i64 s.1), (4, .slice (some ⟨b, 0 + k * 1, none⟩) (l.length - k) (c - k)), (3, i64 s.2.1), (0, .slice (some ⟨b, 0, none⟩) l.length c)]) (fun _ => f) (fun s => [.row (some ⟨b, 0, none⟩) l.length c 9 1 (s.2.2.map str)])
      (fun s => 1 ≤ s.1 ∧ k + s.1 ≤ l.length ∧ s.2.2.length = l.length ∧ s.2.2.take s.2.1 = ddN l (k + s.1) ∧ s.2.1 = (ddN l (k + s.1)).length ∧ s.2.1 < k + s.1 ∧ ∀ p, k + s.1 - 1 ≤ p → p < l.length → at_ s.2.2 p = at_ l p) (fun s => l.length - s.1) (1, k, l)
      ⟨Nat.le_refl _, by omega, rfl, hdk.symm, by show k = (ddN l (k + 1)).length; rw [hdk]; simp; omega, by show k < k + 1; omega, fun p _ _ => rfl⟩ ?_
    rintro ⟨q, t, m⟩ ρ ⟨a1, a2, a3, a4, a5, a6, a7⟩
    replace a1 : 1 ≤ q := a1
    replace a2 : k + q ≤ l.length := a2
    replace a3 : m.length = l.length := a3
    replace a4 : m.take t = ddN l (k + q) := a4
    replace a5 : t = (ddN l (k + q)).length := a5
    replace a6 : t < k + q := a6
    replace a7 : ∀ p, k + q - 1 ≤ p → p < l.length → at_ m p = at_ l p := a7
    show EW _ _ _ _ _ (ups ρ [(5, i64 q), (4, .slice (some ⟨b, 0 + k * 1, none⟩) (l.length - k) (c - k)), (3, i64 t), (0, .slice (some ⟨b, 0, none⟩) l.length c)]) f [.row (some ⟨b, 0, none⟩) l.length c 9 1 (m.map str)]
    refine sq (sg ?_)
    refine ltE (fun h => ?_) (fun h => ?_)
    case refine_2 =>
      refine cFx ?_
      have e : k + q = l.length := by omega
      rw [e] at a4 a5 a6
      exact jn (t, m) ⟨a3, a5, a4, Nat.le_of_lt a6⟩
    have b1 : q < l.length - k := by omega
    have b2 : q - 1 < l.length - k := by omega
    have c1 : (m.map str)[0 + k * 1 + q * 1]? = some (str (at_ m (k + q))) := by
      have := hc m (k + q) a3 (by omega)
      rwa [show 0 + (k + q) * 1 = 0 + k * 1 + q * 1 by omega] at this
    have c2 : (m.map str)[0 + k * 1 + (q - 1) * 1]? = some (str (at_ m (k + q - 1))) := by
      have := hc m (k + q - 1) a3 (by omega)
      rwa [show 0 + (k + q - 1) * 1 = 0 + k * 1 + (q - 1) * 1 by omega] at this
    have e1 := a7 (k + q) (by omega) (by omega)
    have e2 := a7 (k + q - 1) (by omega) (by omega)
    refine cTs (sq (bk (sQ ?_)))
    refine ix q b1 ?_
    refine ldr 0 c1 ?_
    refine sub ((q - 1 : Nat) : Int) ?_
    refine ix (q - 1) b2 ?_
    refine ldr 0 c2 ?_
    refine neSE (fun hne => ?_) (fun hne => ?_)
    case refine_2 =>
      refine cFs (rg ?_)
      refine addE ((q + 1 : Nat) : Int) ?_
      have hd : ddN l (k + (q + 1)) = ddN l (k + q) := by
        have he' : at_ l (k + q) = at_ l (k + q - 1) := by
          rw [← e1, ← e2]
          exact Decidable.byContradiction fun h => hne h
        rw [show k + (q + 1) = (k + q) + 1 by omega, ddN, if_pos ⟨by omega, he'⟩]
      refine nxs (q + 1, t, m) ⟨by omega, by omega, a3, by show m.take t = ddN l (k + (q + 1)); rw [hd]; exact a4, by show t = (ddN l (k + (q + 1))).length; rw [hd]; exact a5, by show t < k + (q + 1); omega, fun p h1 h2 => a7 p (by replace h1 : k + (q + 1) - 1 ≤ p := h1; omega) h2⟩ (by show l.length - (q + 1) < l.length - q; omega)
    have ht : t < l.length := by omega
    have q1 : 0 + t * 1 + [str (at_ m (k + q))].length ≤ (m.map str).length := by simp; omega
    refine cT (sg ?_)
    refine ix q b1 ?_
    refine ldr 0 c1 ?_
    refine ix t ht ?_
    refine stR 0 (o := 0 + t * 1) (vs := [str (at_ m (k + q))]) q1 ?_
    refine runE ?_
    refine rg ?_
    refine addE ((t + 1 : Nat) : Int) ?_
    refine rg ?_
    refine addE ((q + 1 : Nat) : Int) ?_
    have hd : ddN l (k + (q + 1)) = ddN l (k + q) ++ [at_ l (k + q)] := by
      rw [show k + (q + 1) = (k + q) + 1 by omega, ddN, if_neg (fun h => hne (by rw [e1, e2]; exact h.2))]
    refine nxs (q + 1, t + 1, m.set t (at_ m (k + q))) ⟨by omega, by omega, by simpa using a3, ?_, ?_, by show t + 1 < k + (q + 1); omega, fun p h1 h2 => ?_⟩ (by show l.length - (q + 1) < l.length - q; omega) (hh := ?_)
    · show (m.set t (at_ m (k + q))).take (t + 1) = ddN l (k + (q + 1))
      rw [hd, ← a4, ← e1, List.take_add_one, List.take_set_of_le (Nat.le_refl _), List.getElem?_set_self (by omega)]
      rfl
    · show t + 1 = (ddN l (k + (q + 1))).length
      rw [hd, List.length_append, ← a5]; rfl
    · show at_ (m.set t (at_ m (k + q))) p = at_ l p
      replace h1 : k + (q + 1) - 1 ≤ p := h1
      rw [← a7 p (by omega) h2]
      have hpm : p < m.length := by omega
      rw [at_get (by simpa using hpm), at_get hpm, List.getElem_set_ne (by omega)]
    · show [HE.row _ _ _ _ _ ((m.set t (at_ m (k + q))).map str)] = _
      rw [show 0 + t * 1 = t by omega, putLs _ _ _ (by omega)]
      rfl
  rintro ⟨t, m⟩ ρ ⟨a1, a2, a3, a4⟩
  replace a1 : m.length = l.length := a1
  replace a2 : t = (dd l).length := a2
  replace a3 : m.take t = dd l := a3
  replace a4 : t ≤ l.length := a4
  show EW _ _ _ _ _ (ups ρ [(3, i64 t), (0, .slice (some ⟨b, 0, none⟩) l.length c)]) f [.row (some ⟨b, 0, none⟩) l.length c 9 1 (m.map str)]
  have hclr : t * 1 + (l.length - t) ≤ (m.map str).length := by simp; omega
  refine sg ?_
  refine slL t a4 hcl ?_
  refine clr 0 (o := t * 1) (v := str []) hclr (fun h => ?_) ?_
  · rw [if_neg (by omega), Nat.zero_add]; rfl
  refine runE ?_
  refine ercut 0 t a4 ?_
  have e : (putL (m.map str) (t * 1) (List.replicate (l.length - t) (str []))).take (t * 1) = (m.map str).take (t * 1) := by
    rw [← putL_eq _ _ _ (by simp; omega), List.take_append_of_le_length (by simp; omega), List.take_append_of_le_length (by simp; omega), List.take_take, Nat.min_self]
  refine efg [(3, i64 t), (0, .slice (some ⟨b, 0, none⟩) l.length c)] [.row (some ⟨b, 0, none⟩) t c 9 1 ((putL (m.map str) (t * 1) (List.replicate (l.length - t) (str []))).take (t * 1))] fun ρ => ?_
  rw [e]
  refine sg ?_
  have htc : t ≤ c := by omega
  refine slH t htc ?_
  refine runE ?_
  refine ew_ret ?_
  refine ret1M ⟨?_, ?_⟩
  · exact sRow_take a3 a2
  · show Value.slice (some ⟨b, 0, none⟩) t c = _
    rw [a2]
end Go.Hog
