/- F62 F63, in one text. -/
import Derived.Test.YtdidefhdcinecaaGreatDoorFX
import Derived.Test.YtdidefhdcinecaaGreatDoorF15
import Derived.Test.YtdidefhdcinecaaGreatDoorE27
import Derived.Test.YtdidefhdcinecaaGreatDoorMD
set_option linter.unusedVariables false
set_option linter.unusedSimpArgs false
set_option maxRecDepth 100000
set_option maxHeartbeats 1000000
namespace Go.Hog
open Go.RowKit Rp Go.Proofs
theorem overNs {w : World} {f : View} {A : Option Addr} {n c : Nat} {xs : List Value} (hv : On f w) (hlim : n ≤ 1000000) (hg : Given f [.row A n c 46 3 xs] w) :
    Con Tryz.prog 34 [.slice A n c] w (RetM w f [.row A n c 46 3 xs] (fun _ L' _ => L' = [])) := by
  refine enterM hv hg Tryz.call34 Tryz.func34 ?_
  refine sqJ (σ := List Value) (fun _ => [(0, .slice A n c)]) (fun _ => f) (fun s => [.row A n c 46 3 s]) (fun _ => True) ?_ ?_
  case refine_2 =>
    rintro ys ρ _
    refine rg ?_
    refine bld ?_
    refine bsl fun b => ?_
    refine app 0 (fun A' c' => ?_) (hi := rfl) (hlim := by show (n + 1) * 40 ≤ _; omega)
    refine dropH ?_
    refine runE ?_
    exact ret0M rfl
  refine sgE ?_
  refine bk ?_
  refine lp (σ := Nat × List Value) (fun s => [(2, i64 s.1), (0, .slice A n c)]) (fun _ => f) (fun s => [.row A n c 46 3 s.2]) (fun s => s.1 ≤ n) (fun s => n - s.1) (0, xs) (Nat.zero_le _) ?_
  rintro ⟨k, ys⟩ ρ hk
  replace hk : k ≤ n := hk
  show EW _ _ _ _ _ (ups ρ [(2, i64 k), (0, .slice A n c)]) f [.row A n c 46 3 ys]
  refine sq (sg ?_)
  refine ltE (fun h => ?_) (fun h => ?_)
  case refine_2 =>
    refine cFx ?_
    exact jn ys trivial
  have h1 : k < n := by omega
  refine erowF 0 fun hrow => ?_
  obtain ⟨g, rfl⟩ := hrow.2.2.2.1 (by omega)
  have hyl := hrow.1
  refine cTs (sq (bk ?_))
  refine rg ?_
  refine bld ?_
  refine ix k h1 ?_
  refine stR 0 (o := 0 + k * 3) (vs := [str [111, 118, 101, 114], .int .i64 0, str []]) (xs := ys) (show 0 + k * 3 + 3 ≤ ys.length by omega) ?_
  refine runE ?_
  refine rg ?_
  refine addE ((k + 1 : Nat) : Int) ?_
  exact nxs (k + 1, putL ys (0 + k * 3) [str [111, 118, 101, 114], .int .i64 0, str []]) h1 (by show n - (k + 1) < n - k; omega)
/-- An item whose lists are one's own. -/
abbrev JI := Item × Option Addr × Nat × Option Addr × Nat
def jC (r : JI) : List Value := itemC r.1 r.2.1 r.2.2.1 r.2.2.2.1 r.2.2.2.2
def jS (r : JI) : HE := sRow r.2.1 r.2.2.1 r.1.refs
def jN (r : JI) : HE := nRow r.2.2.2.1 r.2.2.2.2 r.1.tree
def jR : List JI → List HE
  | [] => []
  | r :: l => jS r :: jN r :: jR l
def jRow (A : Option Addr) (c : Nat) (l : List JI) : HE := .row A l.length c 44 3 (l.flatMap jC)
theorem jC_len (r : JI) : (jC r).length = 3 := rfl
theorem jR_append : ∀ (l m : List JI), jR (l ++ m) = jR l ++ jR m
  | [], m => rfl
  | r :: l, m => by show jS r :: jN r :: jR (l ++ m) = _; rw [jR_append l m]; rfl
theorem overIsJ {w : World} {f : View} {its : List JI} {A : Option Addr} {c : Nat} (hv : On f w) (hlim : its.length ≤ 1000000) (hl2 : ∀ r ∈ its, r.1.refs.length ≤ 1000000 ∧ r.1.tree.length ≤ 1000000) (hg : Given f (jRow A c its :: jR its) w) :
    Con Tryz.prog 17 [.slice A its.length c] w (RetM w f (jRow A c its :: jR its) (fun _ L' _ => L' = [])) := by
  refine enterM hv hg Tryz.call17 Tryz.func17 ?_
  refine sgE (bk ?_)
  refine lp (σ := Nat × List Value × View) (fun s => [(2, i64 s.1), (0, .slice A its.length c)]) (fun s => s.2.2) (fun s => .row A its.length c 44 3 s.2.1 :: jR (its.drop s.1)) (fun s => s.1 ≤ its.length ∧ s.2.1.length = its.length * 3 ∧ ∀ j (hj : j < its.length), s.1 ≤ j → ∀ i, i < 3 → s.2.1[j * 3 + i]? = (jC its[j])[i]?) (fun s => its.length - s.1) (0, its.flatMap jC, f) ⟨Nat.zero_le _, flat_len jC_len its, fun j hj _ i hi => flat_cell jC_len its j i hj hi⟩ ?_
  rintro ⟨k, xs, g⟩ ρ ⟨hk, hxl, hxs⟩
  replace hk : k ≤ its.length := hk
  replace hxl : xs.length = its.length * 3 := hxl
  replace hxs : ∀ j (hj : j < its.length), k ≤ j → ∀ i, i < 3 → xs[j * 3 + i]? = (jC its[j])[i]? := hxs
  show EW _ _ _ _ _ (ups ρ [(2, i64 k), (0, .slice A its.length c)]) g (.row A its.length c 44 3 xs :: jR (its.drop k))
  refine sq (sg ?_)
  refine ltE (fun h => ?_) (fun h => ?_)
  case refine_2 =>
    refine cFx ?_
    exact postL (L' := []) (fun _ h => h.sublist (List.nil_sublist _)) (ret0M rfl)
  have h1 : k < its.length := by omega
  have hdr : its.drop k = its[k] :: its.drop (k + 1) := List.drop_eq_getElem_cons h1
  have hx1 : xs[0 + k * 3 + 1]? = some (.slice its[k].2.1 its[k].1.refs.length its[k].2.2.1) := by rw [Nat.zero_add]; exact hxs k h1 (Nat.le_refl _) 1 (by omega)
  have hx2 : xs[0 + k * 3 + 2]? = some (.slice its[k].2.2.2.1 its[k].1.tree.length its[k].2.2.2.2) := by rw [Nat.zero_add]; exact hxs k h1 (Nat.le_refl _) 2 (by omega)
  obtain ⟨hrl, htl⟩ := hl2 _ (List.getElem_mem h1)
  refine erowF 0 fun hrow => ?_
  obtain ⟨bg, rfl⟩ := hrow.2.2.2.1 (by omega)
  generalize its[k] = r at hdr hx1 hx2 hrl htl
  rw [hdr]
  generalize hR : jR (its.drop (k + 1)) = R
  refine cTs (sq (bk ?_))
  refine efg [(2, i64 k), (0, .slice (some ⟨bg, 0, none⟩) its.length c)] (.row (some ⟨bg, 0, none⟩) its.length c 44 3 xs :: sRow r.2.1 r.2.2.1 r.1.refs :: nRow r.2.2.2.1 r.2.2.2.2 r.1.tree :: R) (fun ρ => ?_) (hh := by subst hR; rfl)
  refine sg ?_
  refine ix k h1 ?_
  refine ldr 0 hx1 ?_
  refine rperm (L' := [sRow r.2.1 r.2.2.1 r.1.refs] ++ (.row (some ⟨bg, 0, none⟩) its.length c 44 3 xs :: nRow r.2.2.2.1 r.2.2.2.2 r.1.tree :: R)) (.swap _ _ _) ?_
  refine callM [sRow r.2.1 r.2.2.1 r.1.refs] (.row (some ⟨bg, 0, none⟩) its.length c 44 3 xs :: nRow r.2.2.2.1 r.2.2.2.2 r.1.tree :: R) (vs := [.slice r.2.1 r.1.refs.length r.2.2.1]) (fun w hon hgi => overTs hon hrl hgi) (fun v g2 L' hs2 hR2 => ?_)
  subst hR2
  refine runE ?_
  refine efg [(2, i64 k), (0, .slice (some ⟨bg, 0, none⟩) its.length c)] (.row (some ⟨bg, 0, none⟩) its.length c 44 3 xs :: nRow r.2.2.2.1 r.2.2.2.2 r.1.tree :: R) (fun ρ => ?_)
  refine sg ?_
  refine ix k h1 ?_
  refine ldr 0 hx2 ?_
  refine rperm (L' := [nRow r.2.2.2.1 r.2.2.2.2 r.1.tree] ++ (.row (some ⟨bg, 0, none⟩) its.length c 44 3 xs :: R)) (.swap _ _ _) ?_
  refine callM [nRow r.2.2.2.1 r.2.2.2.2 r.1.tree] (.row (some ⟨bg, 0, none⟩) its.length c 44 3 xs :: R) (vs := [.slice r.2.2.2.1 r.1.tree.length r.2.2.2.2]) (fun w hon hgi => overNs hon htl hgi) (fun v g3 L' hs3 hR3 => ?_)
  subst hR3
  refine runE ?_
  refine efg [(2, i64 k), (0, .slice (some ⟨bg, 0, none⟩) its.length c)] (.row (some ⟨bg, 0, none⟩) its.length c 44 3 xs :: R) (fun ρ => ?_)
  refine rg ?_
  refine bld ?_
  refine ix k h1 ?_
  refine stR 0 (vs := [str [111, 118, 101, 114], .slice none 0 0, .slice none 0 0]) (xs := xs) (b := bg) (o := 0 + k * 3) (nn := its.length) (c := c) (by show 0 + k * 3 + 3 ≤ _; omega) ?_
  refine runE ?_
  refine rg ?_
  refine addE ((k + 1 : Nat) : Int) ?_
  have hq : 0 + k * 3 + [str [111, 118, 101, 114], Value.slice none 0 0, Value.slice none 0 0].length ≤ xs.length := by show 0 + k * 3 + 3 ≤ _; omega
  refine nxs (k + 1, putL xs (0 + k * 3) [str [111, 118, 101, 114], .slice none 0 0, .slice none 0 0], g3) ⟨h1, by show (putL _ _ _).length = _; rw [putL_length _ _ _ hq]; exact hxl, fun j hj hkj i hi => ?_⟩ (by show its.length - (k + 1) < its.length - k; omega) (hh := by subst hR; rfl)
  show (putL xs (0 + k * 3) [str [111, 118, 101, 114], .slice none 0 0, .slice none 0 0])[j * 3 + i]? = _
  rw [← putL_eq _ _ _ hq]
  have hkj' : k + 1 ≤ j := hkj
  have hl3 : (xs.take (0 + k * 3) ++ [str [111, 118, 101, 114], Value.slice none 0 0, Value.slice none 0 0]).length = k * 3 + 3 := by rw [List.length_append, List.length_take]; show min _ _ + 3 = _; omega
  rw [List.getElem?_append_right (by omega), hl3, List.getElem?_drop]
  rw [← hxs j hj (by omega) i hi]
  congr 1
  show 0 + k * 3 + 3 + (j * 3 + i - (k * 3 + 3)) = _
  omega
end Go.Hog

set_option linter.unusedVariables false
set_option linter.unusedSimpArgs false
set_option maxRecDepth 100000
namespace Go.Hog
open Go.RowKit Rp Go.Proofs
def NdB (x : Node) : Prop := x.path.length ≤ LB ∧ x.data.length ≤ LB ∧ -9223372036854775808 ≤ x.kind ∧ x.kind ≤ 9223372036854775807
structure ItB (x : Item) : Prop where
  name : x.name.length ≤ LB
  refsN : x.refs.length ≤ LB
  refs : ∀ z ∈ x.refs, z.length ≤ LB
  treeN : x.tree.length ≤ LB
  tree : ∀ z ∈ x.tree, NdB z
theorem Rw.nodes {g : View} : ∀ {l : List Node}, (∀ x ∈ l, NdB x) → Rw g l (l.flatMap nodeC)
  | [], _ => Rw.nil g
  | x :: l, h => by
    have h1 : Rw g [x] (nodeC x) := Rw.one ⟨rfl, h x (.head _)⟩
    exact h1.append (Rw.nodes fun y hy => h y (.tail _ hy))
theorem Sl.ofNodes {g : View} {A : Option Addr} {c : Nat} {l : List Node} (h : (nRow A c l).seen g) (hb : ∀ x ∈ l, NdB x) (hl : l.length ≤ LB) : Sl g A c l := (Rw.nodes hb).sl h rfl hl
theorem Sl.textsB {g : View} {A : Option Addr} {c : Nat} {l : List Str} (h : Sl g A c l) : ∀ z ∈ l, z.length ≤ LB := fun z hz => by
  obtain ⟨k, hk, rfl⟩ := List.getElem_of_mem hz
  obtain ⟨_, _, _, _, h⟩ := h.text hk
  exact h
theorem Sl.nodesB {g : View} {A : Option Addr} {c : Nat} {l : List Node} (h : Sl g A c l) : ∀ z ∈ l, NdB z := fun z hz => by
  obtain ⟨k, hk, rfl⟩ := List.getElem_of_mem hz
  obtain ⟨_, _, _, _, h⟩ := h.node hk
  exact h
theorem Sl.itB {g : View} {A : Option Addr} {c : Nat} {a : List Item} (h : Sl g A c a) : ∀ x ∈ a, ItB x := fun x hx => by
  obtain ⟨k, hk, rfl⟩ := List.getElem_of_mem hx
  obtain ⟨_, _, _, _, _, _, _, _, hn, hr, ht⟩ := h.item hk
  exact ⟨hn, hr.lim, hr.textsB, ht.lim, ht.nodesB⟩
theorem itB_dI : ItB dI := ⟨by decide, by decide, fun z hz => (by cases hz), by decide, fun z hz => (by cases hz)⟩
theorem jC_rp {g : View} {r : JI} (hS : (jS r).seen g) (hN : (jN r).seen g) (h : ItB r.1) : rp g r.1 (jC r) :=
  ⟨_, _, _, _, rfl, h.name, Sl.ofTexts hS rfl h.refs h.refsN, Sl.ofNodes hN h.tree h.treeN⟩
end Go.Hog
