/- OrderRings answers true. -/
import Derived.Test.YtiahipbkheaafaaG2
import Derived.Test.YtiahipbkheaafaaFL
import Derived.Test.YtiahipbkheaafaaE16
set_option linter.unusedVariables false
set_option linter.unusedSimpArgs false
set_option maxRecDepth 100000
set_option maxHeartbeats 1000000
namespace Go.Hog
open Go.RowKit Rp Go.Proofs

def rnm (j : Nat) : Str := [UInt8.ofNat (97 + j)]
def ringI (m k : Nat) : Item := ⟨rnm k, [rnm ((k + 1) % m)], []⟩
def ringL (m : Nat) : List Item := (List.range m).map (ringI m)
def lineL (m : Nat) : List Item := (List.range (m - 1)).map (ringI m) ++ [⟨rnm (m - 1), [], []⟩]
theorem ring_none : ∀ m, m < 9 → 2 ≤ m → refOf (ringL m) = none := by decide +kernel
theorem line_some : ∀ m, m < 9 → 2 ≤ m → refOf (lineL m) = some ((List.range m).map fun i => rnm (m - 1 - i)) := by decide +kernel
theorem ring_succ (m k : Nat) : (List.range (k + 1)).map (ringI m) = (List.range k).map (ringI m) ++ [ringI m k] := by
  rw [List.range_succ, List.map_append]; rfl
theorem byte_in {j : Nat} (h : j < 20) : IntKind.u8.wrap (97 + (j : Int)) = ((UInt8.ofNat (97 + j)).toNat : Int) := by
  rw [wrap_u8]
  have : (UInt8.ofNat (97 + j)).toNat = 97 + j := by
    rw [UInt8.toNat_ofNat']
    omega
  rw [this]
  omega
theorem orderOfN {w : World} {g : View} (hon : On g w) {A : Option Addr} {c n : Nat} {a : List Item} (ha : Sl g A c a) (hn : n = a.length) (hfit : Fit a) {r : Option (List Str)} (hr : refOf a = r) :
    Con Try.prog 9 [.slice A n c] w (RetM w g [] fun _ L' v => ∃ A c, v = .tuple #[.slice A (r.getD []).length c, .bool r.isSome] ∧ L' = [.row A (r.getD []).length c 9 1 ((r.getD []).map str)]) := by
  subst hn hr
  exact orderOf hon ha hfit
theorem ringL_len (m : Nat) : m = (ringL m).length := by simp [ringL]
theorem lineL_len {m : Nat} (h : 2 ≤ m) : m = (lineL m).length := by simp [lineL]; omega
theorem ring_fit {m : Nat} (h : m < 9) : Fit (ringL m) := ⟨by simp [ringL]; omega, fun x hx => by
  obtain ⟨i, _, rfl⟩ := List.mem_map.1 hx
  simp [ringI]⟩
theorem line_fit {m : Nat} (h : m < 9) : Fit (lineL m) := ⟨by simp [lineL]; omega, fun x hx => by
  rcases List.mem_append.1 hx with hx | hx
  · obtain ⟨i, _, rfl⟩ := List.mem_map.1 hx
    simp [ringI]
  · rw [List.mem_singleton] at hx; subst hx; simp⟩
theorem lineL_name {m k : Nat} (h : k < (lineL m).length) (hk : k < m) : (lineL m)[k].name = rnm k := by
  simp only [lineL, List.getElem_append]
  split
  · simp [ringI]
  · rename_i hlt
    have : k = m - 1 := by simp at hlt; omega
    subst this
    simp
theorem orderRings {w : World} {f : View} (hv : On f w) {many : Int} (hm : -9223372036854775808 ≤ many ∧ many ≤ 9223372036854775807) :
    Con Try.prog 5 [i64 many] w (Ret w f fun _ v => v = .bool true) := by
  refine enterC hv Try.call5 Try.func5 ?_
  have hlow := lowV_lt many (show (0 : Int) < 7 by decide)
  obtain ⟨m, hmm, hm2, hm8⟩ : ∃ m : Nat, 2 + lowV many 7 = m ∧ 2 ≤ m ∧ m < 9 := ⟨(2 + lowV many 7).toNat, by omega, by omega, by omega⟩
  have p7 : (0 : Int) < 7 ∧ (7 : Int) ≤ 9223372036854775807 := by decide
  refine sgE ?_
  refine sg ?_
  refine callV (i64 (lowV many 7)) (vs := [i64 many, i64 7]) (fun w g hs _ hon => low0 hon p7) ?_
  refine addE (m : Int) ?_
  refine sgE ?_
  have hmne : (m : Int) ≠ 0 := by omega
  refine sqJ (σ := List Value × Option Addr × Nat × View) (fun s => [(3, .slice s.2.1 m s.2.2.1), (0, i64 m)]) (fun s => s.2.2.2) (fun s => [.row s.2.1 m s.2.2.1 33 3 s.1]) (fun s => Rw s.2.2.2 (ringL m) s.1) ?_ ?_
  · refine sgE ?_
    refine enilrow 33 3 ?_
    refine bk ?_
    refine lp (σ := Nat × List Value × Option Addr × Nat × View) (fun s => [(4, i64 s.1), (3, .slice s.2.2.1 s.1 s.2.2.2.1), (0, i64 m)]) (fun s => s.2.2.2.2) (fun s => [.row s.2.2.1 s.1 s.2.2.2.1 33 3 s.2.1]) (fun s => s.1 ≤ m ∧ Rw s.2.2.2.2 ((List.range s.1).map (ringI m)) s.2.1) (fun s => m - s.1) (0, [], none, 0, f) ⟨Nat.zero_le _, Rw.nil f⟩ ?_
    rintro ⟨k, xs, A3, c3, g⟩ ρ ⟨hk, hrw⟩
    replace hk : k ≤ m := hk
    replace hrw : Rw g ((List.range k).map (ringI m)) xs := hrw
    show EW _ _ _ _ _ (ups ρ [(4, i64 k), (3, .slice A3 k c3), (0, i64 m)]) g [.row A3 k c3 33 3 xs]
    refine sq (sg ?_)
    refine ltE (fun h => ?_) (fun h => ?_)
    case refine_2 =>
      refine cFx ?_
      have e : k = m := by omega
      subst e
      exact jn (xs, A3, c3, g) hrw
    have h1 : k < m := by omega
    have hr1 : (k + 1) % m < 9 := by have := Nat.mod_lt (k + 1) (show m > 0 by omega); omega
    generalize hq : (k + 1) % m = q at *
    have hmod : ((k + 1 : Nat) : Int).tmod (m : Int) = (q : Nat) := by
      rw [← hq, Int.tmod_eq_emod_of_nonneg (by omega)]
      rfl
    have b1 := byte_in (j := k) (by omega)
    have b2 := byte_in (j := q) (by omega)
    have hh0 : ∀ {L : List HE}, HeldL g [] g L := HeldL.none (Sub.refl _)
    refine cTs (bkJ (σ := Option Addr × Nat × Nat) (fun s => [(4, i64 k), (3, .slice s.1 (k + 1) s.2.1), (0, i64 m)]) (fun _ => g) (fun s => [.row (some ⟨s.2.2, 0, none⟩) 1 1 9 1 [str (rnm q)], .row s.1 (k + 1) s.2.1 33 3 (xs ++ [str (rnm k), .slice (some ⟨s.2.2, 0, none⟩) 1 1, .slice none 0 0])]) (fun _ => True) ?_ ?_)
    case refine_2 =>
      rintro ⟨A', c', bR⟩ ρ' _
      refine efrz 0 fun g2 hs2 hsn2 => ?_
      refine rg ?_
      refine addE ((k + 1 : Nat) : Int) ?_
      refine nxs (k + 1, xs ++ [str (rnm k), .slice (some ⟨bR, 0, none⟩) 1 1, .slice none 0 0], A', c', g2) ⟨h1, ?_⟩ (by show m - (k + 1) < m - k; omega)
      show Rw g2 ((List.range (k + 1)).map (ringI m)) _
      rw [ring_succ]
      refine (hrw.mono hs2).snoc ⟨some ⟨bR, 0, none⟩, 1, none, 0, rfl, by simp [ringI, rnm, LB], ?_, Sl.nil _⟩
      show Sl g2 _ 1 [rnm ((k + 1) % m)]
      rw [hq]
      exact Sl.ofTexts (l := [rnm q]) hsn2 rfl (by simp [rnm, LB]) (by simp [LB])
    refine eA [0, 1, 2, 3, 6, 7, 8, 9, 10, 11] [] (List.nil_sublist _) ?_
    refine an_takeH [0, 1, 2, 3, 6, 7, 8, 9, 10, 11] hh0 ?_
    refine add (97 + (k : Int)) ?_
    refine cvI ((UInt8.ofNat (97 + k)).toNat : Int) b1 ?_
    refine add ((k + 1 : Nat) : Int) ?_
    refine remK (q : Int) hmne hmod ?_
    refine add (97 + (q : Int)) ?_
    refine cvI ((UInt8.ofNat (97 + q)).toNat : Int) b2 ?_
    refine runE ?_
    refine an_have (α := Nat × Nat) (lsA 19 [0, 1, 2, 3, 4, 5, 6, 7, 8, 9, 10, 11, 12, 13, 14]) (fun s => [(4, i64 k), (3, .slice A3 k c3), (0, i64 m), (18, .slice A3 k c3), (23, str (rnm k)), (32, .slice (some ⟨s.2, 0, none⟩) 1 1)]) (fun _ => g) (fun s => [HE.row (some ⟨s.2, 0, none⟩) 1 1 9 1 [str (rnm q)], HE.row A3 k c3 33 3 xs]) ?_ (fun T23 => ?_)
    · intro s ρ'
      refine an_run1 15 ?_
      refine bld ?_
      refine aH hh0 ?_
      refine an_run1 16 ?_
      refine bsl fun bS => ?_
      refine aH hh0 ?_
      refine an_run1 17 ?_
      refine app 1 (fun A' c' => ?_) (hlim := by show (k + 1) * 64 ≤ _; omega)
      refine aH hh0 ?_
      refine an_takeU [18] ?_
      refine an_done ?_
      exact jn (A', c', s.2) trivial
    refine an_have (α := Nat × Nat) (lsA 19 [0, 1, 2, 3, 4, 5, 6, 7, 8, 9, 10, 11, 12, 13]) (fun s => [(4, i64 k), (3, .slice A3 k c3), (0, i64 m), (18, .slice A3 k c3), (23, str (rnm k)), (31, str (rnm q))]) (fun _ => g) (fun s => [HE.row A3 k c3 33 3 xs]) ?_ (fun T22 => ?_)
    · intro s ρ'
      refine an_run1 14 ?_
      refine bsl fun bR => ?_
      refine aH hh0 ?_
      exact an_use T23 (s.1, bR)
    refine an_have (α := Nat × Nat) (lsA 19 [0, 1, 2, 3, 4, 6, 7, 8, 9, 10, 11, 12, 13, 14]) (fun s => [(4, i64 k), (3, .slice A3 k c3), (0, i64 m), (18, .slice A3 k c3), (22, .slice (some ⟨s.1, 0, none⟩) 1 1), (32, .slice (some ⟨s.2, 0, none⟩) 1 1)]) (fun _ => g) (fun s => [HE.row (some ⟨s.1, 0, none⟩) 1 1 5 1 [.int .u8 ((UInt8.ofNat (97 + k)).toNat : Int)], HE.row (some ⟨s.2, 0, none⟩) 1 1 9 1 [str (rnm q)], HE.row A3 k c3 33 3 xs]) ?_ (fun T13 => ?_)
    · intro s ρ'
      refine an_run1 5 ?_
      refine cvBS 0 (rnm k) rfl rfl Nat.one_pos ?_
      refine aH hh0 ?_
      refine an_drop ?_
      exact an_use T23 (0, s.2)
    refine an_have (α := Nat × Nat) (lsA 19 [0, 1, 2, 3, 6, 7, 8, 9, 10, 11, 12, 13, 14]) (fun s => [(4, i64 k), (3, .slice A3 k c3), (0, i64 m), (18, .slice A3 k c3), (21, .int .u8 ((UInt8.ofNat (97 + k)).toNat : Int)), (32, .slice (some ⟨s.2, 0, none⟩) 1 1)]) (fun _ => g) (fun s => [HE.row (some ⟨s.2, 0, none⟩) 1 1 9 1 [str (rnm q)], HE.row A3 k c3 33 3 xs]) ?_ (fun T03 => ?_)
    · intro s ρ'
      refine an_run1 4 ?_
      refine bsl fun bA => ?_
      refine aH hh0 ?_
      exact an_use T13 (bA, s.2)
    refine an_have (α := Nat × Nat) (lsA 19 [0, 1, 2, 3, 4, 6, 7, 8, 9, 10, 11, 12, 13]) (fun s => [(4, i64 k), (3, .slice A3 k c3), (0, i64 m), (18, .slice A3 k c3), (22, .slice (some ⟨s.1, 0, none⟩) 1 1), (31, str (rnm q))]) (fun _ => g) (fun s => [HE.row (some ⟨s.1, 0, none⟩) 1 1 5 1 [.int .u8 ((UInt8.ofNat (97 + k)).toNat : Int)], HE.row A3 k c3 33 3 xs]) ?_ (fun T12 => ?_)
    · intro s ρ'
      refine an_run2 5 14 ?_ ?_
      · refine cvBS 0 (rnm k) rfl rfl Nat.one_pos ?_
        refine aH hh0 ?_
        refine an_drop ?_
        exact an_use T22 (0, s.2)
      · refine bsl fun bR => ?_
        refine aH hh0 ?_
        refine an_perm (.swap _ _ _) ?_
        exact an_use T13 (s.1, bR)
    refine an_have (α := Nat × Nat) (lsA 19 [0, 1, 2, 3, 4, 5, 6, 7, 8, 9, 10, 11, 12]) (fun s => [(4, i64 k), (3, .slice A3 k c3), (0, i64 m), (18, .slice A3 k c3), (23, str (rnm k)), (30, .slice (some ⟨s.2, 0, none⟩) 1 1)]) (fun _ => g) (fun s => [HE.row (some ⟨s.2, 0, none⟩) 1 1 5 1 [.int .u8 ((UInt8.ofNat (97 + q)).toNat : Int)], HE.row A3 k c3 33 3 xs]) ?_ (fun T21 => ?_)
    · intro s ρ'
      refine an_run1 13 ?_
      refine cvBS 0 (rnm q) rfl rfl Nat.one_pos ?_
      refine aH hh0 ?_
      refine an_drop ?_
      exact an_use T22 (s.1, 0)
    refine an_have (α := Nat × Nat) (lsA 19 [0, 1, 2, 3, 4, 5, 6, 7, 8, 9, 10, 11]) (fun s => [(4, i64 k), (3, .slice A3 k c3), (0, i64 m), (18, .slice A3 k c3), (23, str (rnm k)), (29, .int .u8 ((UInt8.ofNat (97 + q)).toNat : Int))]) (fun _ => g) (fun s => [HE.row A3 k c3 33 3 xs]) ?_ (fun T20 => ?_)
    · intro s ρ'
      refine an_run1 12 ?_
      refine bsl fun bB => ?_
      refine aH hh0 ?_
      exact an_use T21 (s.1, bB)
    refine an_have (α := Nat × Nat) (lsA 19 [0, 1, 2, 3, 4, 6, 7, 8, 9, 10, 11, 12]) (fun s => [(4, i64 k), (3, .slice A3 k c3), (0, i64 m), (18, .slice A3 k c3), (22, .slice (some ⟨s.1, 0, none⟩) 1 1), (30, .slice (some ⟨s.2, 0, none⟩) 1 1)]) (fun _ => g) (fun s => [HE.row (some ⟨s.1, 0, none⟩) 1 1 5 1 [.int .u8 ((UInt8.ofNat (97 + k)).toNat : Int)], HE.row (some ⟨s.2, 0, none⟩) 1 1 5 1 [.int .u8 ((UInt8.ofNat (97 + q)).toNat : Int)], HE.row A3 k c3 33 3 xs]) ?_ (fun T11 => ?_)
    · intro s ρ'
      refine an_run2 5 13 ?_ ?_
      · refine cvBS 0 (rnm k) rfl rfl Nat.one_pos ?_
        refine aH hh0 ?_
        refine an_drop ?_
        exact an_use T21 (0, s.2)
      · refine cvBS 1 (rnm q) rfl rfl Nat.one_pos ?_
        refine aH hh0 ?_
        refine an_perm (.swap _ _ _) ?_
        refine an_drop ?_
        exact an_use T12 (s.1, 0)
    refine an_have (α := Nat × Nat) (lsA 19 [0, 1, 2, 3, 6, 7, 8, 9, 10, 11, 12, 13]) (fun s => [(4, i64 k), (3, .slice A3 k c3), (0, i64 m), (18, .slice A3 k c3), (21, .int .u8 ((UInt8.ofNat (97 + k)).toNat : Int)), (31, str (rnm q))]) (fun _ => g) (fun s => [HE.row A3 k c3 33 3 xs]) ?_ (fun T02 => ?_)
    · intro s ρ'
      refine an_run2 4 14 ?_ ?_
      · refine bsl fun bA => ?_
        refine aH hh0 ?_
        exact an_use T12 (bA, s.2)
      · refine bsl fun bR => ?_
        refine aH hh0 ?_
        exact an_use T03 (s.1, bR)
    refine an_have (α := Nat × Nat) (lsA 19 [0, 1, 2, 3, 4, 6, 7, 8, 9, 10, 11]) (fun s => [(4, i64 k), (3, .slice A3 k c3), (0, i64 m), (18, .slice A3 k c3), (22, .slice (some ⟨s.1, 0, none⟩) 1 1), (29, .int .u8 ((UInt8.ofNat (97 + q)).toNat : Int))]) (fun _ => g) (fun s => [HE.row (some ⟨s.1, 0, none⟩) 1 1 5 1 [.int .u8 ((UInt8.ofNat (97 + k)).toNat : Int)], HE.row A3 k c3 33 3 xs]) ?_ (fun T10 => ?_)
    · intro s ρ'
      refine an_run2 5 12 ?_ ?_
      · refine cvBS 0 (rnm k) rfl rfl Nat.one_pos ?_
        refine aH hh0 ?_
        refine an_drop ?_
        exact an_use T20 (0, s.2)
      · refine bsl fun bB => ?_
        refine aH hh0 ?_
        refine an_perm (.swap _ _ _) ?_
        exact an_use T11 (s.1, bB)
    refine an_have (α := Nat × Nat) (lsA 19 [0, 1, 2, 3, 6, 7, 8, 9, 10, 11, 12]) (fun s => [(4, i64 k), (3, .slice A3 k c3), (0, i64 m), (18, .slice A3 k c3), (21, .int .u8 ((UInt8.ofNat (97 + k)).toNat : Int)), (30, .slice (some ⟨s.2, 0, none⟩) 1 1)]) (fun _ => g) (fun s => [HE.row (some ⟨s.2, 0, none⟩) 1 1 5 1 [.int .u8 ((UInt8.ofNat (97 + q)).toNat : Int)], HE.row A3 k c3 33 3 xs]) ?_ (fun T01 => ?_)
    · intro s ρ'
      refine an_run2 4 13 ?_ ?_
      · refine bsl fun bA => ?_
        refine aH hh0 ?_
        exact an_use T11 (bA, s.2)
      · refine cvBS 0 (rnm q) rfl rfl Nat.one_pos ?_
        refine aH hh0 ?_
        refine an_drop ?_
        exact an_use T02 (s.1, 0)
    refine an_run2 4 12 ?_ ?_
    · refine bsl fun bA => ?_
      refine aH hh0 ?_
      exact an_use T10 (bA, 0)
    · refine bsl fun bB => ?_
      refine aH hh0 ?_
      exact an_use T01 (0, bB)
  rintro ⟨xs, A3, c3, g⟩ ρ hrw
  replace hrw : Rw g (ringL m) xs := hrw
  show EW _ _ _ _ _ (ups ρ [(3, .slice A3 m c3), (0, i64 m)]) g [.row A3 m c3 33 3 xs]
  have q1 := ringL_len m
  have q2 : (ringL m).length ≤ LB := by rw [← q1]; unfold LB; omega
  have q3 := ring_fit hm8
  have q4 := ring_none m hm8 hm2
  refine sg ?_
  refine callMo (vs := [.slice A3 m c3]) (fun w g' hs hsn hon => orderOfN hon ((hrw.mono hs).sl (hsn _ (.head _)) q1 q2) q1 q3 q4) (fun v L' hR => ?_)
  obtain ⟨Aa, ca, rfl, rfl⟩ := hR
  refine runE ?_
  refine edropH ?_
  refine efg [(3, .slice A3 m c3), (0, i64 m), (6, .bool false)] [.row A3 m c3 33 3 xs] fun ρ => ?_
  refine erowF 0 fun hrow => ?_
  obtain ⟨b3, rfl⟩ := hrow.2.2.2.1 (by omega)
  have hms : ringL m = (List.range (m - 1)).map (ringI m) ++ [ringI m (m - 1)] := by
    unfold ringL
    rw [← ring_succ, show m - 1 + 1 = m by omega]
  rw [hms] at hrw
  obtain ⟨ys, cs, rfl, hry, ⟨A1, c1, A2, c2, rfl, hrn, _, htr⟩, hyl⟩ := hrw.split
  replace hyl : ys.length = (m - 1) * 3 := by rw [List.length_map, List.length_range] at hyl; exact hyl
  have hput : putL (ys ++ [str (ringI m (m - 1)).name, .slice A1 (ringI m (m - 1)).refs.length c1, .slice A2 (ringI m (m - 1)).tree.length c2]) (0 + (m - 1) * 3 + 1) [.slice none 0 0] = ys ++ [str (rnm (m - 1)), .slice none 0 0, .slice A2 0 c2] := by
    rw [show 0 + (m - 1) * 3 + 1 = ys.length + 1 by omega, putL_right _ _ _ _ (by simp)]
    rfl
  have hro : 0 + (m - 1) * 3 + 1 + [Value.slice none 0 0].length ≤ (ys ++ [str (ringI m (m - 1)).name, .slice A1 (ringI m (m - 1)).refs.length c1, .slice A2 (ringI m (m - 1)).tree.length c2]).length := by
    simp; omega
  have hlt1 : m - 1 < m := by omega
  refine sg ?_
  refine sub ((m - 1 : Nat) : Int) ?_
  refine ix (m - 1) hlt1 ?_
  refine stR 0 (o := 0 + (m - 1) * 3 + 1) (vs := [.slice none 0 0]) hro ?_
  refine runE ?_
  rw [hput]
  have hrl : Rw g (lineL m) (ys ++ [str (rnm (m - 1)), .slice none 0 0, .slice A2 0 c2]) := hry.snoc ⟨none, 0, A2, c2, rfl, hrn, Sl.nil _, htr⟩
  generalize ys ++ [str (rnm (m - 1)), .slice none 0 0, .slice A2 0 c2] = xs2 at hrl ⊢
  refine efg [(3, .slice (some ⟨b3, 0, none⟩) m c3), (0, i64 m), (6, .bool false)] [.row (some ⟨b3, 0, none⟩) m c3 33 3 xs2] fun ρ => ?_
  have r1 := lineL_len hm2
  have r2 : (lineL m).length ≤ LB := by rw [← r1]; unfold LB; omega
  have r3 := line_fit hm8
  have r4 := line_some m hm8 hm2
  refine sg ?_
  refine callMo (vs := [.slice (some ⟨b3, 0, none⟩) m c3]) (fun w g' hs hsn hon => orderOfN hon ((hrl.mono hs).sl (hsn _ (.head _)) r1 r2) r1 r3 r4) (fun v L' hR => ?_)
  obtain ⟨Ab, cb, rfl, rfl⟩ := hR
  refine runE ?_
  obtain ⟨l, hl, hll, hlv⟩ : ∃ l : List Str, l = (List.range m).map (fun i => rnm (m - 1 - i)) ∧ l.length = m ∧ ∀ k (hk : k < l.length), l[k] = rnm (m - 1 - k) := ⟨_, rfl, by simp, fun k hk => by simp⟩
  refine efg [(3, .slice (some ⟨b3, 0, none⟩) m c3), (0, i64 m), (6, .bool false), (7, .slice Ab ((List.range m).map (fun i => rnm (m - 1 - i))).length cb), (8, .bool true)] [.row Ab ((List.range m).map (fun i => rnm (m - 1 - i))).length cb 9 1 (((List.range m).map (fun i => rnm (m - 1 - i))).map str), .row (some ⟨b3, 0, none⟩) m c3 33 3 xs2] fun ρ => ?_
  rw [← hl]
  clear hl
  have hle : ((l.length : Nat) : Int) = (m : Nat) := by rw [hll]
  refine sq (sg ?_)
  refine neIE (fun h => absurd hle h) (fun _ => ?_)
  refine cFs ?_
  refine efg [(3, .slice (some ⟨b3, 0, none⟩) m c3), (0, i64 m), (7, .slice Ab l.length cb)] [.row Ab l.length cb 9 1 (l.map str), .row (some ⟨b3, 0, none⟩) m c3 33 3 xs2] fun ρ => ?_
  refine erowF 0 fun hrow => ?_
  obtain ⟨ba, rfl⟩ := hrow.2.2.2.1 (by omega)
  refine sqJ (σ := Unit) (fun _ => []) (fun _ => g) (fun _ => [.row (some ⟨ba, 0, none⟩) l.length cb 9 1 (l.map str), .row (some ⟨b3, 0, none⟩) m c3 33 3 xs2]) (fun _ => True) ?_ ?_
  · refine sgE ?_
    refine efg [(9, i64 0), (3, .slice (some ⟨b3, 0, none⟩) m c3), (0, i64 m), (7, .slice (some ⟨ba, 0, none⟩) l.length cb)] [.row (some ⟨ba, 0, none⟩) l.length cb 9 1 (l.map str), .row (some ⟨b3, 0, none⟩) m c3 33 3 xs2] fun ρ => ?_
    refine bk ?_
    refine lpn m (fun k => [(9, i64 k), (3, .slice (some ⟨b3, 0, none⟩) m c3), (0, i64 m), (7, .slice (some ⟨ba, 0, none⟩) l.length cb)]) (fun _ => True) trivial ?_
    intro k ρ hk _
    refine sq (sg ?_)
    refine ltE (fun h => ?_) (fun h => ?_)
    case refine_2 =>
      refine cFx ?_
      exact jn () trivial
    have h1 : k < l.length := by omega
    have h2 : m - 1 - k < m := by omega
    have h3 : m - 1 - k < (lineL m).length := by rw [← r1]; exact h2
    obtain ⟨cs, ⟨A4, c4, A5, c5, hcs, _⟩, hcell⟩ := hrl.cell h3
    have hc0 : xs2[0 + (m - 1 - k) * 3]? = some (str (rnm (m - 1 - k))) := by
      have := hcell 0 (by decide)
      rw [hcs] at this
      rw [Nat.zero_add]
      exact Eq.trans this (by show some (str _) = _; rw [lineL_name h3 h2])
    have hcl : (l.map str)[0 + k * 1]? = some (str (rnm (m - 1 - k))) := by
      rw [Nat.zero_add, Nat.mul_one, List.getElem?_map, List.getElem?_eq_getElem h1, hlv k h1]
      rfl
    refine cTs (sq (bk (sQ ?_)))
    refine ix k h1 ?_
    refine ldr 0 hcl ?_
    refine sub ((m - 1 : Nat) : Int) ?_
    refine sub ((m - 1 - k : Nat) : Int) ?_
    refine ix (m - 1 - k) h2 ?_
    refine ldr 1 hc0 ?_
    refine neSE (fun h => absurd rfl h) (fun _ => ?_)
    refine cFs (rg ?_)
    refine addE ((k + 1 : Nat) : Int) ?_
    exact nx trivial
  rintro ⟨⟩ ρ _
  refine sg ?_
  refine callV (.bool true) (vs := []) (fun w g hs _ hon => awake10 hon) ?_
  refine runE ?_
  refine ew_ret ?_
  exact ret1 rfl
end Go.Hog
