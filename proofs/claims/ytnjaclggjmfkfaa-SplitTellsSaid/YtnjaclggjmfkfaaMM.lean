/- S8 F21 FO, in one text. -/
import Derived.Test.YtnjaclggjmfkfaaF20
import Derived.Test.YtnjaclggjmfkfaaMD
import Derived.Test.YtnjaclggjmfkfaaMG
import Derived.Test.YtnjaclggjmfkfaaMF
set_option linter.unusedVariables false
set_option linter.unusedSimpArgs false
set_option linter.unusedSectionVars false
namespace Go.Hog
section
variable {α : Type} {lt : α → α → Prop}
def SBy (lt : α → α → Prop) (l : List α) : Prop := l.Pairwise fun a b => ¬ lt b a
theorem sby_uniq (irr : ∀ a, ¬ lt a a) (eq_of : ∀ a b, ¬ lt a b → ¬ lt b a → a = b) : ∀ {l m : List α}, l.Perm m → SBy lt l → SBy lt m → l = m
  | [], m, hp, _, _ => by rw [List.nil_perm.1 hp]
  | a :: l, [], hp, _, _ => by simp at hp
  | a :: l, b :: m, hp, h1, h2 => by
    have ha := List.pairwise_cons.1 h1
    have hb := List.pairwise_cons.1 h2
    have e : a = b := by
      refine eq_of _ _ ?_ ?_
      · rcases List.mem_cons.1 (hp.mem_iff.1 (List.mem_cons_self (a := a) (l := l))) with e | e
        · subst e; exact irr _
        · exact hb.1 a e
      · rcases List.mem_cons.1 (hp.mem_iff.2 (List.mem_cons_self (a := b) (l := m))) with e | e
        · subst e; exact irr _
        · exact ha.1 b e
    subst e
    rw [sby_uniq irr eq_of ((List.perm_cons a).1 hp) ha.2 hb.2]
variable [DecidableRel lt]
def insBy (lt : α → α → Prop) [DecidableRel lt] (x : α) : List α → List α
  | [] => [x]
  | y :: l => if lt x y then x :: y :: l else y :: insBy lt x l
def sortBy (lt : α → α → Prop) [DecidableRel lt] : List α → List α
  | [] => []
  | x :: l => insBy lt x (sortBy lt l)
theorem insBy_perm (x : α) : ∀ l, (insBy lt x l).Perm (x :: l)
  | [] => List.Perm.refl _
  | y :: l => by
    unfold insBy
    split
    · exact List.Perm.refl _
    · exact ((insBy_perm x l).cons y).trans (.swap _ _ _)
theorem insBy_sorted (so : SO lt) {x : α} : ∀ {l : List α}, SBy lt l → SBy lt (insBy lt x l)
  | [], _ => by simp [insBy, SBy]
  | y :: l, h => by
    have hy := List.pairwise_cons.1 h
    unfold insBy
    split
    · rename_i hlt
      refine List.pairwise_cons.2 ⟨fun z hz => ?_, h⟩
      rcases List.mem_cons.1 hz with rfl | hz
      · exact so.asym hlt
      · exact fun hzx => hy.1 z hz (so.trans hzx hlt)
    · rename_i hlt
      refine List.pairwise_cons.2 ⟨fun z hz => ?_, insBy_sorted so hy.2⟩
      rcases List.mem_cons.1 ((insBy_perm x l).mem_iff.1 hz) with rfl | hz
      · exact hlt
      · exact hy.1 z hz
theorem sortBy_perm : ∀ l, (sortBy lt l).Perm l
  | [] => List.Perm.refl _
  | x :: l => (insBy_perm x _).trans ((sortBy_perm l).cons x)
theorem sortBy_sorted (so : SO lt) : ∀ l, SBy lt (sortBy lt l)
  | [] => List.Pairwise.nil
  | x :: l => insBy_sorted so (sortBy_sorted so l)
/-- Into a sorted list at place k: behind it all are above, ahead of it none is. -/
theorem sby_insert (so : SO lt) {l : List α} {k : Nat} {x : α} (hs : SBy lt l) (hk : k ≤ l.length) (h1 : ∀ y ∈ l.drop k, lt x y) (h2 : k = 0 ∨ ∃ h : k - 1 < l.length, ¬ lt x l[k - 1]) : SBy lt (l.take k ++ [x] ++ l.drop k) := by
  have hpre : ∀ y ∈ l.take k, ¬ lt x y := fun y hy => by
    rcases h2 with h2 | ⟨h2, h3⟩
    · subst h2; simp at hy
    · obtain ⟨j, hj, rfl⟩ := List.getElem_of_mem hy
      have hjk : j < k := by simp at hj; omega
      rw [List.getElem_take]
      by_cases hje : j = k - 1
      · subst hje; exact h3
      · exact so.ntrans h3 (List.pairwise_iff_getElem.1 hs j (k - 1) (by omega) h2 (by omega))
  rw [List.append_assoc]
  refine List.pairwise_append.2 ⟨hs.sublist (List.take_sublist _ _), List.pairwise_cons.2 ⟨fun y hy => so.asym (h1 y hy), hs.sublist (List.drop_sublist _ _)⟩, fun y hy z hz => ?_⟩
  rcases List.mem_cons.1 hz with rfl | hz
  · exact hpre y hy
  · have hs' : SBy lt (l.take k ++ l.drop k) := by rwa [List.take_append_drop]
    exact (List.pairwise_append.1 hs').2.2 y hy z hz
theorem insert_perm {l : List α} (k : Nat) (x : α) : (l.take k ++ [x] ++ l.drop k).Perm (x :: l) := by
  have h1 : (l.take k ++ [x] ++ l.drop k).Perm ([x] ++ l.take k ++ l.drop k) := (List.perm_append_comm).append_right _
  refine h1.trans ?_
  rw [List.append_assoc, List.take_append_drop]
  exact List.Perm.refl _
end
theorem plEq (a b : Pl) (h1 : ¬ plLt a b) (h2 : ¬ plLt b a) : a = b := by
  have a1 : ¬ b.1 < a.1 := fun e => h1 (.inl e)
  have a2 : ¬ a.1 < b.1 := fun e => h2 (.inl e)
  have e1 : a.1 = b.1 := by omega
  have e2 : a.2 = b.2 := strEq (fun e => h1 (.inr ⟨e1, e⟩)) (fun e => h2 (.inr ⟨e1.symm, e⟩))
  exact Prod.ext e1 e2
noncomputable def plOf (a : List Item) (x : Item) : Pl := ((sc a x.name : Int), x.name)
noncomputable def rankP (a : List Item) : List Pl := sortBy plLt (a.map (plOf a))
theorem rankP_of {a : List Item} {l : List Pl} (hp : l.Perm (a.map (plOf a))) (hs : SBy plLt l) : l = rankP a :=
  sby_uniq plIrr plEq (hp.trans (sortBy_perm _).symm) hs (sortBy_sorted plSO _)
noncomputable def rankL (a : List Item) : List Str := if (names a).Nodup then (rankP a).map Prod.snd else []
end Go.Hog

set_option linter.unusedVariables false
set_option linter.unusedSimpArgs false
set_option maxRecDepth 100000
set_option maxHeartbeats 1000000
namespace Go.Hog
open Go.RowKit Rp Go.Proofs
structure KS where
  l : List Pl
  A : Option Addr
  c : Nat
  out : List Pl
  A7 : Option Addr
  c7 : Nat
  g : View
theorem popRank {w : World} {f : View} (hv : On f w) {A : Option Addr} {c : Nat} {a : List Item} (ha : Sl f A c a) (hfit : FitT a) (h12 : a.length ≤ 12) :
    Con Try.prog 17 [.slice A a.length c] w (RetM w f [] fun _ L' v => ∃ A' c', v = .slice A' (rankL a).length c' ∧ L' = [sRow A' c' (rankL a)]) := by
  refine enterM (L := []) hv (Given.nil _ _) Try.call17 Try.func17 ?_
  refine sgE ?_
  refine sq (sg ?_)
  refine callB (p := (names a).Nodup) (vs := [.slice A a.length c]) (fun w g hs _ hon => popUnlike hon (ha.mono hs) h12) (fun hnd => ?_) (fun hnd => ?_)
  case refine_2 =>
    refine runE ?_
    refine cT (sgE ?_)
    refine enilrow 9 1 ?_
    refine ew_ret ?_
    have e : rankL a = [] := by unfold rankL; rw [if_neg hnd]
    rw [e]
    exact ret1M ⟨none, 0, rfl, rfl⟩
  refine runE ?_
  refine cFs ?_
  refine efg [(0, .slice A a.length c)] [] fun ρ => ?_
  refine sg ?_
  refine callM0 (vs := [.slice A a.length c]) [] (fun w hon hgi => popScores0 hon ha hfit h12) (fun v g L' hs hR => ?_)
  obtain ⟨b3, ks, rfl, rfl, hks, hz⟩ := hR
  refine runE ?_
  refine sg ?_
  refine bld ?_
  refine box fun b4 => ?_
  refine runE ?_
  refine enilrow 58 2 ?_
  refine eperm (.swap _ _ _) ?_
  refine efg [(4, .pointer (some ⟨b4, 0, none⟩)), (3, .map (some b3)), (0, .slice A a.length c)] (kobj b4 [] none 0 ++ [.mp b3 (mapF ks (gN (sc a)))]) fun ρ => ?_
  have hzr : ∀ r, r ∉ ks → gN (sc a) r = i64 0 := fun r hn => by unfold gN; rw [hz r hn]; rfl
  refine sqJ (σ := List Pl × Option Addr × Nat × View) (fun _ => [(4, .pointer (some ⟨b4, 0, none⟩))]) (fun s => s.2.2.2) (fun s => kobj b4 s.1 s.2.1 s.2.2.1) (fun s => Hp plLt s.1.length s.1 ∧ s.1.Perm (a.map (plOf a))) ?_ ?_
  · refine sgE ?_
    refine bk ?_
    refine lp (σ := Nat × List Pl × Option Addr × Nat × View) (fun s => [(17, i64 s.1), (16, i64 (a.length : Nat)), (15, .slice A a.length c), (4, .pointer (some ⟨b4, 0, none⟩)), (3, .map (some b3))]) (fun s => s.2.2.2.2) (fun s => kobj b4 s.2.1 s.2.2.1 s.2.2.2.1 ++ [.mp b3 (mapF ks (gN (sc a)))]) (fun s => s.1 ≤ a.length ∧ Sub g s.2.2.2.2 ∧ Hp plLt s.2.1.length s.2.1 ∧ s.2.1.Perm ((a.take s.1).map (plOf a))) (fun s => a.length - s.1) (0, [], none, 0, g) ⟨Nat.zero_le _, Sub.refl _, fun k h1 h2 => by simp at h2, by simp⟩ ?_
    rintro ⟨k, l, A1, c1, g1⟩ ρ ⟨hk, hsub, hh, hp⟩
    replace hk : k ≤ a.length := hk
    replace hsub : Sub g g1 := hsub
    replace hh : Hp plLt l.length l := hh
    replace hp : l.Perm ((a.take k).map (plOf a)) := hp
    have hll : l.length ≤ k := by rw [hp.length_eq, List.length_map, List.length_take]; omega
    have hlim : l.length < 1000000 := by omega
    show EW _ _ _ _ _ (ups ρ [(17, i64 k), (16, i64 (a.length : Nat)), (15, .slice A a.length c), (4, .pointer (some ⟨b4, 0, none⟩)), (3, .map (some b3))]) g1 (kobj b4 l A1 c1 ++ [.mp b3 (mapF ks (gN (sc a)))])
    refine sg ?_
    refine ltE (fun h => ?_) (fun h => ?_)
    case refine_2 =>
      refine sq ?_
      have e : k = a.length := by omega
      subst e
      rw [List.take_length] at hp
      refine ewL (L' := kobj b4 l A1 c1) (fun _ h => h.sublist (List.sublist_append_left _ _)) ?_
      refine cFx ?_
      exact jn (l, A1, c1, g1) ⟨hh, hp⟩
    have h1 : k < a.length := by omega
    have ha1 := (ha.mono hs).mono hsub
    obtain ⟨b1, o1, A2, c2, A3, c3, rfl, hc, hn, hr, ht⟩ := ha1.item h1
    refine sq (cTs (sq (bk (sg ?_))))
    refine ix k h1 ?_
    refine ldvA hc ?_
    refine alloc fun b6 => ?_
    refine stE 0 ?_
    refine efg [(6, .pointer (some ⟨b6, 0, none⟩)), (17, i64 k), (16, i64 (a.length : Nat)), (15, .slice (some ⟨b1, o1, none⟩) a.length c), (4, .pointer (some ⟨b4, 0, none⟩)), (3, .map (some b3))] (.blk b6 (.cells ⟨itemC a[k] A2 c2 A3 c3⟩ 41) :: (kobj b4 l A1 c1 ++ [.mp b3 (mapF ks (gN (sc a)))])) fun ρ => ?_
    refine rg ?_
    refine ldo 0 ?_
    refine lkA 3 (hzr a[k].name) ?_
    refine ldo 0 ?_
    refine bld ?_
    refine rwL (L' := kobj b4 l A1 c1 ++ [.mp b3 (mapF ks (gN (sc a)))]) (fun _ h => h.sublist (List.sublist_cons_self _ _)) ?_
    refine callM (vs := [krv b4, .iface 58 (.agg ⟨plC (plOf a a[k])⟩)]) (kobj b4 l A1 c1) [.mp b3 (mapF ks (gN (sc a)))] (fun w hon hgi => pushPl hlim hh hon hgi) (fun v g2 L' hs2 hR => ?_)
    obtain ⟨l2, A22, c22, rfl, hh2, hp2⟩ := hR
    refine runE ?_
    refine rg ?_
    refine addE ((k + 1 : Nat) : Int) ?_
    refine nxs (k + 1, l2, A22, c22, g2) ⟨h1, hsub.trans hs2, hh2, ?_⟩ (by show a.length - (k + 1) < a.length - k; omega)
    show l2.Perm ((a.take (k + 1)).map (plOf a))
    rw [List.take_add_one, List.getElem?_eq_getElem h1, List.map_append]
    refine hp2.trans ?_
    refine ((hp.cons _).trans ?_)
    exact (List.perm_append_comm (l₁ := [plOf a a[k]]) (l₂ := (a.take k).map (plOf a)))
  rintro ⟨l, A1, c1, g1⟩ ρ ⟨hh, hp⟩
  replace hh : Hp plLt l.length l := hh
  replace hp : l.Perm (a.map (plOf a)) := hp
  show EW _ _ _ _ _ (ups ρ [(4, .pointer (some ⟨b4, 0, none⟩))]) g1 (kobj b4 l A1 c1)
  refine sgE ?_
  refine enilrow 9 1 ?_
  refine eperm (L' := kobj b4 l A1 c1 ++ [sRow none 0 []]) (List.perm_append_comm (l₁ := [sRow none 0 []])) ?_
  refine sqJ (σ := List Pl × Option Addr × Nat × View) (fun s => [(7, .slice s.2.1 s.1.length s.2.2.1)]) (fun s => s.2.2.2) (fun s => [sRow s.2.1 s.2.2.1 (s.1.map Prod.snd)]) (fun s => s.1 = rankP a) ?_ ?_
  case refine_2 =>
    rintro ⟨out, A7, c7, g2⟩ ρ ho
    replace ho : out = rankP a := ho
    subst ho
    refine sgE ?_
    refine ew_ret ?_
    have e : rankL a = (rankP a).map Prod.snd := by unfold rankL; rw [if_pos hnd]
    rw [e]
    refine ret1M ⟨A7, c7, ?_, rfl⟩
    rw [List.length_map]; rfl
  refine bk ?_
  refine lp (σ := List Pl × List Pl × Option Addr × Nat × View) (fun s => [(7, .slice s.2.2.1 s.1.length s.2.2.2.1), (4, .pointer (some ⟨b4, 0, none⟩))]) (fun s => s.2.2.2.2) (fun s => kobj b4 s.2.1 A1 c1 ++ [.row s.2.2.1 s.1.length s.2.2.2.1 9 1 ((s.1.map Prod.snd).map str)]) (fun s => Hp plLt s.2.1.length s.2.1 ∧ (s.1 ++ s.2.1).Perm (a.map (plOf a)) ∧ SBy plLt s.1 ∧ ∀ x ∈ s.1, ∀ y ∈ s.2.1, ¬ plLt y x) (fun s => s.2.1.length) ([], l, none, 0, g1) ⟨hh, hp, List.Pairwise.nil, fun x hx => by cases hx⟩ ?_
  rintro ⟨out, l2, A7, c7, g2⟩ ρ ⟨hh2, hp2, hs2, hlt2⟩
  replace hh2 : Hp plLt l2.length l2 := hh2
  replace hp2 : (out ++ l2).Perm (a.map (plOf a)) := hp2
  replace hs2 : SBy plLt out := hs2
  replace hlt2 : ∀ x ∈ out, ∀ y ∈ l2, ¬ plLt y x := hlt2
  have htot := hp2.length_eq
  rw [List.length_append, List.length_map] at htot
  show EW _ _ _ _ _ (ups ρ [(7, .slice A7 out.length c7), (4, .pointer (some ⟨b4, 0, none⟩))]) g2 (kobj b4 l2 A1 c1 ++ [.row A7 out.length c7 9 1 ((out.map Prod.snd).map str)])
  refine sq (sg ?_)
  have hcl : ∀ w, On g2 w → Given g2 (kobj b4 l2 A1 c1) w → Con Try.prog 32 [.pointer (some ⟨b4, 0, none⟩)] w (RetM w g2 (kobj b4 l2 A1 c1) (kLenR b4 l2 A1 c1)) := fun w hon hgi => lenPl hon hgi
  apply callM (kobj b4 l2 A1 c1) [HE.row A7 out.length c7 9 1 ((out.map Prod.snd).map str)] hcl
  intro v g3 L' hs3 hR
  obtain ⟨rfl, rfl⟩ := hR
  refine gtE (fun h => ?_) (fun h => ?_)
  case refine_2 =>
    have h0 : l2 = [] := List.eq_nil_of_length_eq_zero (by omega)
    subst h0
    rw [List.append_nil] at hp2
    refine ewL (L' := [.row A7 out.length c7 9 1 ((out.map Prod.snd).map str)]) (fun _ h => h.sublist (List.sublist_append_right _ _)) ?_
    refine cFx ?_
    refine jn (out, A7, c7, g3) (rankP_of hp2 hs2) (hh := ?_)
    show [HE.row A7 (out.map Prod.snd).length c7 _ 1 _] = _
    rw [List.length_map]
  have h0 : 0 < l2.length := by omega
  have hlim : l2.length ≤ 1000000 := by omega
  refine cTs (bk ?_)
  refine efg [(7, .slice A7 out.length c7), (4, .pointer (some ⟨b4, 0, none⟩))] (kobj b4 l2 A1 c1 ++ [.row A7 out.length c7 9 1 ((out.map Prod.snd).map str)]) fun ρ => ?_
  refine rg ?_
  refine callM (vs := [krv b4]) (kobj b4 l2 A1 c1) [.row A7 out.length c7 9 1 ((out.map Prod.snd).map str)] (fun w hon hgi => popPl h0 hlim hh2 hon hgi) (fun v g4 L' hs4 hR => ?_)
  obtain ⟨x, l3, rfl, rfl, hh3, hp3, hmin⟩ := hR
  refine fld ?_
  refine bsl fun b42 => ?_
  refine app 2 (fun A8 c8 => ?_) (hi := rfl) (hlim := by show (out.length + 1) * 16 ≤ _; omega)
  refine runE ?_
  have hl3 := hp3.length_eq
  rw [List.length_cons] at hl3
  refine nxs (out ++ [x], l3, A8, c8, g4) ⟨hh3, ?_, ?_, ?_⟩ (by show l3.length < l2.length; omega) (hh := ?_) (ha := ?_)
  · show ((out ++ [x]) ++ l3).Perm _
    rw [List.append_assoc]
    exact ((hp3.symm).append_left out).trans hp2
  · show SBy plLt (out ++ [x])
    refine List.pairwise_append.2 ⟨hs2, List.pairwise_singleton _ _, fun o ho y hy => ?_⟩
    rw [List.mem_singleton] at hy
    subst hy
    exact hlt2 o ho y (hp3.mem_iff.2 (by simp))
  · show ∀ o ∈ out ++ [x], ∀ y ∈ l3, ¬ plLt y o
    intro o ho y hy
    have hy2 : y ∈ l2 := hp3.mem_iff.2 (List.mem_cons_of_mem _ hy)
    rcases List.mem_append.1 ho with ho | ho
    · exact hlt2 o ho y hy2
    · rw [List.mem_singleton] at ho
      subst ho
      exact hmin y hy2
  · show kobj b4 l3 A1 c1 ++ [HE.row A8 (out ++ [x]).length c8 _ 1 (((out ++ [x]).map Prod.snd).map str)] = _
    rw [List.length_append, List.map_append, List.map_append]
    rfl
  · refine ⟨?_, rfl, trivial⟩
    show Value.slice A8 (out.length + 1) c8 = .slice A8 (out ++ [x]).length c8
    rw [List.length_append]
    rfl
end Go.Hog

set_option linter.unusedVariables false
set_option linter.unusedSimpArgs false
set_option maxRecDepth 100000
set_option maxHeartbeats 1000000
namespace Go.Hog
open Go.RowKit Rp Go.Proofs
theorem overTs {w : World} {f : View} {A : Option Addr} {n c : Nat} {xs : List Value} (hv : On f w) (hlim : n ≤ 1000000) (hg : Given f [.row A n c 9 1 xs] w) :
    Con Try.prog 14 [.slice A n c] w (RetM w f [.row A n c 9 1 xs] (fun _ L' _ => L' = [])) := by
  refine enterM hv hg Try.call14 Try.func14 ?_
  refine sqJ (σ := List Value) (fun _ => [(0, .slice A n c)]) (fun _ => f) (fun s => [.row A n c 9 1 s]) (fun _ => True) ?_ ?_
  case refine_2 =>
    rintro ys ρ _
    refine rg ?_
    refine bsl fun b => ?_
    refine app 0 (fun A' c' => ?_) (hi := rfl) (hlim := by show (n + 1) * 16 ≤ _; omega)
    refine dropH ?_
    refine runE ?_
    exact ret0M rfl
  refine sgE ?_
  refine bk ?_
  refine lp (σ := Nat × List Value) (fun s => [(2, i64 s.1), (0, .slice A n c)]) (fun _ => f) (fun s => [.row A n c 9 1 s.2]) (fun s => s.1 ≤ n) (fun s => n - s.1) (0, xs) (Nat.zero_le _) ?_
  rintro ⟨k, ys⟩ ρ hk
  replace hk : k ≤ n := hk
  show EW _ _ _ _ _ (ups ρ [(2, i64 k), (0, .slice A n c)]) f [.row A n c 9 1 ys]
  refine sq (sg ?_)
  refine ltE (fun h => ?_) (fun h => ?_)
  case refine_2 =>
    refine cFx ?_
    exact jn ys trivial
  have h1 : k < n := by omega
  refine erowF 0 fun hrow => ?_
  obtain ⟨g, rfl⟩ := hrow.2.2.2.1 (by omega)
  refine cTs (sq (bk ?_))
  refine rg ?_
  refine ix k h1 ?_
  refine stR 0 (o := 0 + k * 1) (vs := [str [111, 118, 101, 114]]) (xs := ys) (by rw [hrow.1]; simp; omega) ?_
  refine rw_end ?_
  refine rg ?_
  refine addE ((k + 1 : Nat) : Int) ?_
  exact nxs (k + 1, putL ys (0 + k * 1) [str [111, 118, 101, 114]]) h1 (by show n - (k + 1) < n - k; omega)
end Go.Hog
