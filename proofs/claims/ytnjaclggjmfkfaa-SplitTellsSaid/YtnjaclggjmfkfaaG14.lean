/- SplitTells answers true. -/
import Derived.Test.YtnjaclggjmfkfaaMQ
import Derived.Test.YtnjaclggjmfkfaaF29
set_option linter.unusedVariables false
set_option linter.unusedSimpArgs false
set_option maxRecDepth 100000
set_option maxHeartbeats 1000000
namespace Go.Hog
open Go.RowKit Rp Go.Proofs
theorem OwnL.nth {e : TypeId} : ∀ {ls : List (List Str)} {vs : List Value} {hs : List HE}, OwnL e ls vs hs → ∀ {k : Nat} (hk : k < ls.length), ∃ v h, vs[k]? = some v ∧ hs.drop k = h :: hs.drop (k + 1) ∧ Own1 e ls[k] v h
  | [], [], [], _, k, hk => by cases hk
  | l :: ls, v :: vs, h :: hs, h2, 0, _ => ⟨v, h, rfl, rfl, h2.1⟩
  | l :: ls, v :: vs, h :: hs, h2, k + 1, hk => OwnL.nth (ls := ls) (vs := vs) (hs := hs) h2.2 (k := k) (by simpa using hk)
theorem splitTells {w : World} {f : View} (hv : On f w) {A : Option Addr} {c : Nat} {a : List Item} {x : Int} {s : Str} (ha : Sl f A c a) (hx : -9223372036854775808 ≤ x ∧ x ≤ 9223372036854775807) (hs0 : s.length ≤ LB) :
    Con Try.prog 3 [.slice A a.length c, i64 x, str s] w (Ret w f fun _ v => v = .bool true) := by
  refine enterC hv Try.call3 Try.func3 ?_
  have hlim := ha.len_lt
  refine sgE ?_
  refine sq (sg ?_)
  refine callB (p := GreatI a) (vs := [.slice A a.length c]) (fun w g hs _ hon => greatItems hon (ha.mono hs)) (fun hgr => ?_) (fun hgr => ?_)
  · refine runE ?_
    refine cT (sg ?_)
    refine callV (.bool true) (vs := []) (fun w g hs _ hon => awake22 hon) ?_
    refine runE ?_
    refine ew_ret ?_
    exact ret1 rfl
  refine Go.Hog.gt (fun hx1 => ?_) (fun hx1 => ?_)
  · refine runE ?_
    refine cT (sg ?_)
    refine callV (.bool true) (vs := []) (fun w g hs _ hon => awake22 hon) ?_
    refine runE ?_
    refine ew_ret ?_
    exact ret1 rfl
  refine runE ?_
  refine cFs ?_
  have hfit := fitT_of hgr
  have h12 : a.length ≤ 12 := by have := ten_of hgr; omega
  have hll := layersL_len (n := x) h12
  have hlb := layersL_b (n := x) ha h12
  have hsm : ∀ l ∈ layersL a x, l.length ≤ 1000000 := by
    unfold layersL
    split
    · intro l hl
      have h1 := layL_small l hl
      have h2 := rankL_len a
      omega
    · intro l hl; cases hl
  refine efg [(0, .slice A a.length c), (1, i64 x), (2, str s)] [] fun ρ => ?_
  refine sg ?_
  refine callM0 (vs := [.slice A a.length c, i64 x]) [] (fun w hon hgi => splitLayers hon ha hfit h12) (fun v g L' hs hR => ?_)
  obtain ⟨A7, c7, vs, hes, rfl, rfl, ho⟩ := hR
  have hsl7 : ∀ g' : View, (∀ e ∈ (.row A7 (layersL a x).length c7 35 1 vs :: hes), e.seen g') → Sl g' A7 c7 (layersL a x) := fun g' hg => (ho.rw_ (fun e he => hg e (.tail _ he)) hlb).sl (hg _ (.head _)) rfl (by unfold LB; omega)
  generalize hls : layersL a x = ls at ho hsl7 hlb hsm hll ⊢
  generalize hle : layersE a x = E
  refine runE ?_
  have ha1 := ha.mono hs
  refine efg [(7, .slice A7 ls.length c7), (8, i64 E), (0, .slice A a.length c), (1, i64 x), (2, str s)] (.row A7 ls.length c7 35 1 vs :: hes) fun ρ => ?_
  refine sg ?_
  refine call (vs := [.slice A a.length c, i64 x]) (fun w hon => ref22Layers hon ha1 hfit h12) (fun v g2 hs2 hR => ?_)
  rw [hls, hle] at hR
  obtain ⟨A9, c9, rfl, tb⟩ := hR
  have ha2 := ha1.mono hs2
  refine runE ?_
  refine efg [(7, .slice A7 ls.length c7), (8, i64 E), (9, .slice A9 ls.length c9), (10, i64 E), (0, .slice A a.length c), (1, i64 x), (2, str s)] (.row A7 ls.length c7 35 1 vs :: hes) fun ρ => ?_
  refine sg ?_
  refine callB (p := ls = ls) (vs := [.slice A7 ls.length c7, .slice A9 ls.length c9]) (fun w g' hs' hsn hon => sameLists hon (hsl7 g' hsn) (tb.mono hs')) (fun _ => ?_) (fun h => absurd rfl h)
  refine callV (i64 E) (vs := [i64 E]) (fun w g hs _ hon => num0 hon) ?_
  refine eqI (fun _ => ?_) (fun h => absurd rfl h)
  refine callV (i64 (placeL ls s)) (vs := [.slice A9 ls.length c9, str s]) (fun w g hs hsn hon => splitPlace hon (tb.mono hs)) ?_
  refine callV (i64 (placeL ls s)) (vs := [.slice A9 ls.length c9, str s]) (fun w g hs hsn hon => ref22Place hon (tb.mono hs)) ?_
  refine eqI (fun _ => ?_) (fun h => absurd rfl h)
  refine runE ?_
  refine efg [(11, .bool true), (7, .slice A7 ls.length c7), (9, .slice A9 ls.length c9), (0, .slice A a.length c), (1, i64 x)] (.row A7 ls.length c7 35 1 vs :: hes) fun ρ => ?_
  refine sqJ (σ := View) (fun _ => [(11, .bool true), (9, .slice A9 ls.length c9), (0, .slice A a.length c), (1, i64 x)]) (fun g => g) (fun _ => []) (fun g' => Sub g2 g') ?_ ?_
  · refine sgE ?_
    refine bk ?_
    refine lp (σ := Nat × View) (fun s => [(12, i64 s.1), (11, .bool true), (7, .slice A7 ls.length c7), (9, .slice A9 ls.length c9), (0, .slice A a.length c), (1, i64 x)]) (fun s => s.2) (fun s => .row A7 ls.length c7 35 1 vs :: hes.drop s.1) (fun s => s.1 ≤ ls.length ∧ Sub g2 s.2) (fun s => ls.length - s.1) (0, g2) ⟨Nat.zero_le _, Sub.refl _⟩ ?_
    rintro ⟨k, g3⟩ ρ ⟨hk, hs3⟩
    replace hk : k ≤ ls.length := hk
    replace hs3 : Sub g2 g3 := hs3
    show EW _ _ _ _ _ (ups ρ [(12, i64 k), (11, .bool true), (7, .slice A7 ls.length c7), (9, .slice A9 ls.length c9), (0, .slice A a.length c), (1, i64 x)]) g3 (.row A7 ls.length c7 35 1 vs :: hes.drop k)
    refine sq (sg ?_)
    refine ltE (fun h => ?_) (fun h => ?_)
    case refine_2 =>
      refine ewL (L' := []) (fun _ h => h.sublist (List.nil_sublist _)) ?_
      refine cFx ?_
      exact jn g3 hs3
    have h1 : k < ls.length := by omega
    obtain ⟨v, h, hv1, hd, A8, c8, rfl, hown⟩ := ho.nth h1
    have hn8 := hsm _ (List.getElem_mem h1)
    have hv2 : vs[0 + k * 1]? = some (.slice A8 ls[k].length c8) := by rw [Nat.zero_add, Nat.mul_one]; exact hv1
    refine erowF 0 fun hrow => ?_
    obtain ⟨b7, rfl⟩ := hrow.2.2.2.1 (by omega)
    refine eeq (L' := .row (some ⟨b7, 0, none⟩) ls.length c7 35 1 vs :: h :: hes.drop (k + 1)) (by rw [hd]) ?_
    refine cTs (sq (bk ?_))
    refine rg ?_
    refine ix k h1 ?_
    refine ldr 0 hv2 ?_
    refine rperm (.swap _ _ _) ?_
    rcases hown with rfl | ⟨b8, cur, rfl, rfl, rfl, hcur⟩
    · refine callM [.row A8 ls[k].length c8 9 1 (ls[k].map str)] (.row (some ⟨b7, 0, none⟩) ls.length c7 35 1 vs :: hes.drop (k + 1)) (vs := [.slice A8 ls[k].length c8]) (fun w hon hg => overTs hon hn8 hg) (fun v g4 L' hs4 hR => ?_)
      obtain rfl : L' = [] := hR
      refine runE ?_
      refine eeq (L' := .row (some ⟨b7, 0, none⟩) ls.length c7 35 1 vs :: hes.drop (k + 1)) rfl ?_
      refine rg ?_
      refine addE ((k + 1 : Nat) : Int) ?_
      exact nxs (k + 1, g4) ⟨h1, hs3.trans hs4⟩ (by show ls.length - (k + 1) < ls.length - k; omega)
    · have hcl : ls[k].length ≤ cur.toList.length := by
        have := congrArg List.length hcur
        rw [List.length_take, List.length_map] at this
        omega
      refine callM [.blk b8 (.cells ⟨cur.toList⟩ 9)] (.row (some ⟨b7, 0, none⟩) ls.length c7 35 1 vs :: hes.drop (k + 1)) (vs := [.slice (some ⟨b8, 0, none⟩) ls[k].length ls[k].length]) (fun w hon hg => overTB hon hn8 hcl hg) (fun v g4 L' hs4 hR => ?_)
      obtain rfl : L' = [] := hR
      refine runE ?_
      refine eeq (L' := .row (some ⟨b7, 0, none⟩) ls.length c7 35 1 vs :: hes.drop (k + 1)) rfl ?_
      refine rg ?_
      refine addE ((k + 1 : Nat) : Int) ?_
      exact nxs (k + 1, g4) ⟨h1, hs3.trans hs4⟩ (by show ls.length - (k + 1) < ls.length - k; omega)
  rintro g3 ρ hs3
  replace hs3 : Sub g2 g3 := hs3
  show EW _ _ _ _ _ (ups ρ [(11, .bool true), (9, .slice A9 ls.length c9), (0, .slice A a.length c), (1, i64 x)]) g3 []
  have ha3 := ha2.mono hs3
  have tb3 := tb.mono hs3
  refine sg ?_
  refine callM0 (vs := [.slice A a.length c, i64 x]) [] (fun w hon hgi => splitLayers hon ha3 hfit h12) (fun v g4 L' hs4 hR => ?_)
  obtain ⟨A5, c5, rfl, hsl5⟩ := layR_sl (g := g4) ha3 h12 hR
  rw [hls] at hsl5 ⊢
  refine runE ?_
  refine efg [(11, .bool true), (7, .slice A5 ls.length c5), (9, .slice A9 ls.length c9)] L' fun ρ => ?_
  refine sg ?_
  refine callB (p := ls = ls) (vs := [.slice A5 ls.length c5, .slice A9 ls.length c9]) (fun w g' hs' hsn hon => sameLists hon (hsl5 g' hsn) ((tb3.mono hs4).mono hs')) (fun _ => ?_) (fun h => absurd rfl h)
  refine callV (.bool true) (vs := []) (fun w g hs _ hon => awake22 hon) ?_
  refine runE ?_
  refine ew_ret ?_
  exact ret1 rfl
end Go.Hog
