/- OrderLast answers true. -/
import Derived.Test.YtiahipbkheaafaaG2
import Derived.Test.YtiahipbkheaafaaE13
set_option linter.unusedVariables false
set_option linter.unusedSimpArgs false
set_option maxRecDepth 100000
set_option maxHeartbeats 1000000
namespace Go.Hog
open Go.RowKit Rp Go.Proofs

def sLast : Str := [108, 97, 115, 116]
def OkL (x : Item) : Prop := x.name ≠ [] ∧ x.name ≠ sLast ∧ sLast ∉ x.refs ∧ ([] : Str) ∉ x.refs
theorem names_len (a : List Item) : (names a).length = a.length := List.length_map _
theorem row_names {A : Option Addr} {c : Nat} {e : TypeId} {a : List Item} {k : Nat} (h : k < a.length) : [HE.row A (k + 1) c e 1 ((names (a.take (k + 1))).map str)] = [HE.row A (k + 1) c e 1 ((names (a.take k)).map str ++ [str a[k].name])] := by
  rw [List.take_add_one, List.getElem?_eq_getElem h, names_app, List.map_append]
  rfl
theorem sameTextsT {w : World} {g : View} (hon : On g w) {A B : Option Addr} {c c2 m n : Nat} {l : List Str} (h1 : Sl g A c l) (h2 : Sl g B c2 l) (hm : m = l.length) (hn : n = l.length) :
    Con Try.prog 12 [.slice A m c, .slice B n c2] w (Ret w g fun _ v => v = .bool true) := by
  subst hm hn
  have := sameTexts hon h1 h2
  simpa using this
theorem Sl.ofTextsX {g : View} {A : Option Addr} {c e n : Nat} {xs : List Value} {l : List Str} (h : (HE.row A n c e 1 xs).seen g) (hx : xs = l.map str) (hn : n = l.length) (hb : ∀ s ∈ l, s.length ≤ LB) (hl : l.length ≤ LB) : Sl g A c l := by
  subst hx
  exact Sl.ofTexts h hn hb hl
theorem orderLast {w : World} {f : View} (hv : On f w) {A : Option Addr} {c : Nat} {a : List Item} (ha : Sl f A c a) :
    Con Try.prog 6 [.slice A a.length c] w (Ret w f fun _ v => v = .bool true) := by
  refine enterC hv Try.call6 Try.func6 ?_
  have hlim := ha.len_lt
  refine sgE ?_
  refine sq (sg ?_)
  refine callB (p := GreatI a) (fun w g hs _ hon => greatItems hon (ha.mono hs)) (fun hgr => ?_) (fun hgr => ?_)
  · refine runE ?_
    refine cT (sg ?_)
    refine callV (.bool true) (vs := []) (fun w g hs _ hon => awake10 hon) ?_
    refine runE ?_
    refine ew_ret ?_
    exact ret1 rfl
  have hfit := fit_of hgr
  refine Go.Hog.gt (fun h9 => ?_) (fun h9 => ?_)
  · refine runE ?_
    refine cT (sg ?_)
    refine callV (.bool true) (vs := []) (fun w g hs _ hon => awake10 hon) ?_
    refine runE ?_
    refine ew_ret ?_
    exact ret1 rfl
  have hsm : a.length ≤ 9 := by omega
  refine callB (p := (names a).Nodup) (fun w g hs _ hon => unlike10 hon (ha.mono hs)) (fun hnd => ?_) (fun hnd => ?_)
  case refine_2 =>
    refine runE ?_
    refine cT (sg ?_)
    refine callV (.bool true) (vs := []) (fun w g hs _ hon => awake10 hon) ?_
    refine runE ?_
    refine ew_ret ?_
    exact ret1 rfl
  refine runE ?_
  refine cFs ?_
  refine sgE ?_
  refine sqJ (σ := Option Addr × Nat) (fun s => [(3, .slice s.1 a.length s.2), (0, .slice A a.length c)]) (fun _ => f) (fun s => [.row s.1 a.length s.2 9 1 ((names a).map str)]) (fun _ => ∀ x ∈ a, OkL x) ?_ ?_
  · refine sgE ?_
    refine enilrow 9 1 ?_
    refine bk ?_
    refine lp (σ := Nat × Option Addr × Nat) (fun s => [(4, i64 s.1), (3, .slice s.2.1 s.1 s.2.2), (0, .slice A a.length c)]) (fun _ => f) (fun s => [.row s.2.1 s.1 s.2.2 9 1 ((names (a.take s.1)).map str)]) (fun s => s.1 ≤ a.length ∧ ∀ x ∈ a.take s.1, OkL x) (fun s => a.length - s.1) (0, none, 0) ⟨Nat.zero_le _, by simp⟩ ?_
    rintro ⟨k, A3, c3⟩ ρ ⟨hk, hok⟩
    replace hk : k ≤ a.length := hk
    replace hok : ∀ x ∈ a.take k, OkL x := hok
    show EW _ _ _ _ _ (ups ρ [(4, i64 k), (3, .slice A3 k c3), (0, .slice A a.length c)]) f [.row A3 k c3 9 1 ((names (a.take k)).map str)]
    refine sq (sg ?_)
    refine ltE (fun h => ?_) (fun h => ?_)
    case refine_2 =>
      refine cFx ?_
      have e : k = a.length := by omega
      subst e
      rw [List.take_length] at hok ⊢
      exact jn (A3, c3) hok
    have h1 : k < a.length := by omega
    obtain ⟨b1, o1, A1, c1, A2, c2, rfl, hc, hn, hr, ht⟩ := ha.item h1
    refine cTs (sq (bk (sq (sg ?_))))
    refine ix k h1 ?_
    refine ldv hc.1 ?_
    refine eqS (fun e1 => ?_) (fun e1 => ?_)
    · refine runE ?_
      refine cT (sg ?_)
      refine callV (.bool true) (vs := []) (fun w g hs _ hon => awake10 hon) ?_
      refine runE ?_
      refine ew_ret ?_
      exact ret1 rfl
    refine ix k h1 ?_
    refine ldv hc.1 ?_
    refine eqS (u := sLast) (fun e2 => ?_) (fun e2 => ?_)
    · refine runE ?_
      refine cT (sg ?_)
      refine callV (.bool true) (vs := []) (fun w g hs _ hon => awake10 hon) ?_
      refine runE ?_
      refine ew_ret ?_
      exact ret1 rfl
    refine ix k h1 ?_
    refine ldv hc.2.1 ?_
    refine callB (p := sLast ∈ a[k].refs) (fun w g hs _ hon => hasL10 hon (hr.mono hs)) (fun e3 => ?_) (fun e3 => ?_)
    · refine runE ?_
      refine cT (sg ?_)
      refine callV (.bool true) (vs := []) (fun w g hs _ hon => awake10 hon) ?_
      refine runE ?_
      refine ew_ret ?_
      exact ret1 rfl
    refine ix k h1 ?_
    refine ldv hc.2.1 ?_
    refine callB (p := ([] : Str) ∈ a[k].refs) (fun w g hs _ hon => hasL10 hon (hr.mono hs)) (fun e4 => ?_) (fun e4 => ?_)
    · refine runE ?_
      refine cT (sg ?_)
      refine callV (.bool true) (vs := []) (fun w g hs _ hon => awake10 hon) ?_
      refine runE ?_
      refine ew_ret ?_
      exact ret1 rfl
    refine runE ?_
    refine cFs (rg ?_)
    refine ix k h1 ?_
    refine ldv hc.1 ?_
    refine bsl fun b2 => ?_
    refine app 0 (fun A' c' => ?_) (hlim := by show (k + 1) * 16 ≤ _; omega)
    refine runE ?_
    refine rg ?_
    refine addE ((k + 1 : Nat) : Int) ?_
    have htk : a.take (k + 1) = a.take k ++ [a[k]] := by rw [List.take_add_one, List.getElem?_eq_getElem h1]; rfl
    refine nxs (k + 1, A', c') ⟨h1, ?_⟩ (by show a.length - (k + 1) < a.length - k; omega) (hh := row_names h1)
    · show ∀ x ∈ a.take (k + 1), OkL x
      rw [htk]
      intro x hx
      rcases List.mem_append.1 hx with hx | hx
      · exact hok x hx
      · rw [List.mem_singleton] at hx
        subst hx
        exact ⟨e1, e2, e3, e4⟩
  rintro ⟨A3, c3⟩ ρ hok
  replace hok : ∀ x ∈ a, OkL x := hok
  refine efrz 0 fun g hs hsn => ?_
  show EW _ _ _ _ _ (ups ρ [(3, .slice A3 a.length c3), (0, .slice A a.length c)]) g []
  have hnb : ∀ s ∈ names a, s.length ≤ LB := fun s hs => names_le ha hs
  have hnm : Sl g A3 c3 (names a) := (Rw.texts hnb).sl hsn (names_len a).symm (by rw [names_len]; exact ha.lim)
  have ha1 := ha.mono hs
  have hsl : sLast ∉ names a := fun h => by
    obtain ⟨x, hx, e⟩ := List.mem_map.1 h
    exact (hok x hx).2.1 e
  have hse : ([] : Str) ∉ names a := fun h => by
    obtain ⟨x, hx, e⟩ := List.mem_map.1 h
    exact (hok x hx).1 e
  have hrl : refOf (⟨sLast, names a, []⟩ :: a) = (refOf a).map (· ++ [sLast]) := refOf_last hnd hsl fun x hx => (hok x hx).2.2.1
  have hrf : refOf (a ++ [dI]) = (refOf a).map (fun r => [] :: r) := refOf_first hnd hse fun x hx => (hok x hx).2.2.2
  have hfl : Fit (⟨sLast, names a, []⟩ :: a) := ⟨by simp; omega, fun x hx => by
    rcases List.mem_cons.1 hx with rfl | hx
    · show (names a).length ≤ 1000; rw [names_len]; omega
    · exact hfit.2 x hx⟩
  have hff : Fit (a ++ [dI]) := ⟨by simp; omega, fun x hx => by
    rcases List.mem_append.1 hx with hx | hx
    · exact hfit.2 x hx
    · rw [List.mem_singleton] at hx; subst hx; simp [dI]⟩
  refine sg ?_
  refine callM0 (vs := [.slice A a.length c]) [] (fun w hon hgi => orderOf hon ha1 hfit) (fun v g1 L' hs1 hR => ?_)
  obtain ⟨Aa, ca, rfl, rfl⟩ := hR
  refine runE ?_
  refine sg ?_
  refine bld ?_
  refine bsl fun b1 => ?_
  have ha2 := ha1.mono hs1
  have hnm2 := hnm.mono hs1
  obtain ⟨xs, hxs, hcs⟩ := ha2.cells
  refine appV 0 hxs.len hcs hxs.ones (fun A' c' => ?_) (hlim := by show (1 + a.length) * 64 ≤ _; omega)
  refine rfrz 0 fun g2 hs2 hsn2 => ?_
  have hwl : Rw g2 (⟨sLast, names a, []⟩ :: a) ([str sLast, .slice A3 a.length c3, .slice none 0 0] ++ xs) :=
    (Rw.one (show rp g2 (⟨sLast, names a, []⟩ : Item) [str sLast, .slice A3 a.length c3, .slice none 0 0] from ⟨A3, c3, none, 0, by simp [names_len], by simp [sLast, LB], hnm2.mono hs2, Sl.nil _⟩)).append (hxs.mono hs2)
  have hwl2 : Sl g2 A' c' (⟨sLast, names a, []⟩ :: a) := hwl.sl hsn2 (by simp; omega) (by simp [LB]; omega)
  refine callM (vs := [.slice A' (1 + a.length) c']) [] [.row Aa ((refOf a).getD []).length ca 9 1 (((refOf a).getD []).map str)] (fun w hon hgi => by have := orderOf hon hwl2 hfl; rwa [List.length_cons, Nat.add_comm] at this) (fun v g3 L' hs3 hR => ?_)
  unfold ofR at hR
  rw [hrl] at hR
  obtain ⟨Ab, cb, rfl, rfl⟩ := hR
  refine runE ?_
  have ha3 := (ha2.mono hs2).mono hs3
  obtain ⟨ys, hys, hcy⟩ := ha3.cells
  refine sg ?_
  refine slM a.length a.length ⟨Nat.le_refl _, ha.cap⟩ ?_
  refine bld ?_
  refine bsl fun b2 => ?_
  refine appG (nn := a.length) (c := a.length) (mm := 1) (sz := 3) (olds := ys) (news := [str [], .slice none 0 0, .slice none 0 0]) hys.len (fun w hw h0 => ?_) (fun hA => ?_) (by omega) rfl (fun w hw h0 => hw.rowAll (i := 0) rfl h0) (fun u hu => by simp at hu; rcases hu with rfl | rfl <;> rfl) (by omega) (fun A2 c2 => ?_) (hlim := by show (a.length + 1) * 64 ≤ _; omega)
  · obtain ⟨b, o, e, hcc⟩ := hcy h0
    exact ⟨b, o, e, fun j u hj => hw.on.cell (hcc.get j u hj)⟩
  · have : a.length = 0 := by
      rcases Nat.eq_zero_or_pos a.length with h0 | h0
      · exact h0
      · obtain ⟨b, o, e, _⟩ := hcy h0
        rw [hA] at e; cases e
    exact ⟨this, this⟩
  refine rfrz 0 fun g4 hs4 hsn4 => ?_
  have hwf : Rw g4 (a ++ [dI]) (ys ++ [str [], .slice none 0 0, .slice none 0 0]) :=
    (hys.mono hs4).append (Rw.one (show rp g4 dI [str [], .slice none 0 0, .slice none 0 0] from ⟨none, 0, none, 0, rfl, by simp [dI, LB], Sl.nil _, Sl.nil _⟩))
  have hwf2 : Sl g4 A2 c2 (a ++ [dI]) := hwf.sl hsn4 (by simp) (by simp [LB]; omega)
  refine callM (vs := [.slice A2 (a.length + 1) c2]) [] [.row (some ⟨b2, 0, none⟩) 1 1 33 3 [str [], .slice none 0 0, .slice none 0 0], .row Ab (((refOf a).map (· ++ [sLast])).getD []).length cb 9 1 ((((refOf a).map (· ++ [sLast])).getD []).map str), .row Aa ((refOf a).getD []).length ca 9 1 (((refOf a).getD []).map str)]
    (fun w hon hgi => by have := orderOf hon hwf2 hff; rwa [List.length_append] at this) (fun v g5 L' hs5 hR => ?_)
  unfold ofR at hR
  rw [hrf] at hR
  obtain ⟨Ac, cc, rfl, rfl⟩ := hR
  refine runE ?_
  have hsub := @refOf_sub a
  have ha5 := (ha3.mono hs4).mono hs5
  refine efg [(5, .slice Aa ((refOf a).getD []).length ca), (6, .bool (refOf a).isSome), (7, .slice Ab (((refOf a).map (· ++ [sLast])).getD []).length cb), (8, .bool ((refOf a).map (· ++ [sLast])).isSome), (9, .slice Ac (((refOf a).map (fun r => [] :: r)).getD []).length cc), (10, .bool ((refOf a).map (fun r => [] :: r)).isSome)]
    [.row Ac (((refOf a).map (fun r => [] :: r)).getD []).length cc 9 1 ((((refOf a).map (fun r => [] :: r)).getD []).map str), .row (some ⟨b2, 0, none⟩) 1 1 33 3 [str [], .slice none 0 0, .slice none 0 0], .row Ab (((refOf a).map (· ++ [sLast])).getD []).length cb 9 1 ((((refOf a).map (· ++ [sLast])).getD []).map str), .row Aa ((refOf a).getD []).length ca 9 1 (((refOf a).getD []).map str)] fun ρ => ?_
  cases hro : refOf a with
  | none =>
    refine sq (sgE ?_)
    refine cT (sg ?_)
    refine eqI (fun _ => ?_) (fun h => absurd rfl h)
    refine eqI (fun _ => ?_) (fun h => absurd rfl h)
    refine callV (.bool true) (vs := []) (fun w g hs _ hon => awake10 hon) ?_
    refine runE ?_
    refine ew_ret ?_
    exact ret1 rfl
  | some l =>
    have hlb : ∀ s ∈ l, s.length ≤ LB := fun s hs => names_le ha ((hsub hro).1 s hs)
    have hll : l.length = a.length := (hsub hro).2
    have hlb2 : ∀ s ∈ l ++ [sLast], s.length ≤ LB := fun s hs => by
      rcases List.mem_append.1 hs with hs | hs
      · exact hlb s hs
      · rw [List.mem_singleton] at hs; subst hs; simp [sLast, LB]
    have hlb3 : ∀ s ∈ [] :: l, s.length ≤ LB := fun s hs => by
      rcases List.mem_cons.1 hs with rfl | hs
      · simp [LB]
      · exact hlb s hs
    have hlm2 : (l ++ [sLast]).length ≤ LB := by simp [LB]; omega
    have hlm3 : (([] : Str) :: l).length ≤ LB := by simp [LB]; omega
    have hlm : l.length ≤ LB := by unfold LB; omega
    refine sq (sgE ?_)
    refine cFs ?_
    refine sg ?_
    show RW _ _ _ _ _ _ _ _ _ (HE.row Ac (([] : Str) :: l).length cc 9 1 ((([] : Str) :: l).map str) :: HE.row (some ⟨b2, 0, none⟩) 1 1 33 3 [str [], .slice none 0 0, .slice none 0 0] :: HE.row Ab (l ++ [sLast]).length cb 9 1 ((l ++ [sLast]).map str) :: HE.row Aa l.length ca 9 1 (l.map str) :: [])
    have f1 : l.length + 1 = (l ++ [sLast]).length := by simp
    have f2 : l.map str ++ [str sLast] = (l ++ [sLast]).map str := by simp
    have f3 : 1 + l.length = (([] : Str) :: l).length := by simp; omega
    have f4 : ∀ u ∈ [str sLast], u.oneCell' = true := fun u hu => by simp at hu; subst hu; rfl
    have f5 : 0 < 1 := by omega
    have f6 : (l.length + 1) * 16 ≤ 140737488355328 := by omega
    have f7 : (1 + l.length) * 16 ≤ 140737488355328 := by omega
    have f8 : ∀ g : View, rp g ([] : Str) [str []] := fun g => ⟨rfl, by simp [LB]⟩
    refine bsl fun b5 => ?_
    refine appT 4 0 (nn := l.length) (c := ca) (mm := 1) (olds := l.map str) (news := [str sLast]) f4 f5 (fun hroom => ?_) (fun hroom A5 c5 => ?_) (hlim := f6)
    · refine callV (.bool true) (vs := [.slice Ab (l ++ [sLast]).length cb, .slice Aa (l.length + 1) ca]) (fun w g hs hsn hon => sameTextsT hon (Sl.ofTexts (l := l ++ [sLast]) (hsn _ (.tail _ (.tail _ (.tail _ (.head _))))) rfl hlb2 hlm2) (Sl.ofTextsX (hsn _ (.tail _ (.tail _ (.tail _ (.tail _ (.head _)))))) f2 f1 hlb2 hlm2) rfl f1) ?_
      refine bsl fun b6 => ?_
      have f9 : l.length ≤ l.length ∧ l.length ≤ ca := ⟨Nat.le_refl _, by omega⟩
      refine slM l.length l.length f9 ?_
      refine rfrz 5 fun g6 hs6 hsn6 => ?_
      have h3 : Sl g6 Aa ca (l ++ [sLast]) := Sl.ofTextsX hsn6 f2 f1 hlb2 hlm2
      have h4 : Sl g6 Aa ca l := by have := h3.take l.length; rwa [List.take_left] at this
      obtain ⟨zs, hzs, hcz⟩ := (h4.recap (c' := l.length) (Nat.le_refl _) f9.2).cells
      refine appV 0 hzs.len hcz hzs.ones (fun A6 c6 => ?_) (hlim := f7)
      refine callV (.bool true) (vs := [.slice Ac (([] : Str) :: l).length cc, .slice A6 (1 + l.length) c6]) (fun w g hs hsn hon => sameTextsT hon (Sl.ofTexts (l := [] :: l) (hsn _ (.tail _ (.tail _ (.head _)))) rfl hlb3 hlm3) (((Rw.one (f8 g)).append (hzs.mono hs)).sl (hsn _ (.head _)) f3 hlm3) rfl f3) ?_
      refine callV (.bool true) (vs := []) (fun w g hs _ hon => awake10 hon) ?_
      refine runE ?_
      refine ew_ret ?_
      exact ret1 rfl
    · refine callV (.bool true) (vs := [.slice Ab (l ++ [sLast]).length cb, .slice A5 (l.length + 1) c5]) (fun w g hs hsn hon => sameTextsT hon (Sl.ofTexts (l := l ++ [sLast]) (hsn _ (.tail _ (.tail _ (.tail _ (.tail _ (.head _)))))) rfl hlb2 hlm2) (Sl.ofTextsX (hsn _ (.head _)) f2 f1 hlb2 hlm2) rfl f1) ?_
      refine rowF 5 fun hrow => ?_
      refine bsl fun b6 => ?_
      have f9 : l.length ≤ l.length ∧ l.length ≤ ca := ⟨Nat.le_refl _, hrow.2.1⟩
      refine slM l.length l.length f9 ?_
      refine rfrz 6 fun g6 hs6 hsn6 => ?_
      have h4 : Sl g6 Aa ca l := Sl.ofTexts hsn6 rfl hlb hlm
      obtain ⟨zs, hzs, hcz⟩ := (h4.recap (c' := l.length) (Nat.le_refl _) f9.2).cells
      refine appV 0 hzs.len hcz hzs.ones (fun A6 c6 => ?_) (hlim := f7)
      refine callV (.bool true) (vs := [.slice Ac (([] : Str) :: l).length cc, .slice A6 (1 + l.length) c6]) (fun w g hs hsn hon => sameTextsT hon (Sl.ofTexts (l := [] :: l) (hsn _ (.tail _ (.tail _ (.tail _ (.head _))))) rfl hlb3 hlm3) (((Rw.one (f8 g)).append (hzs.mono hs)).sl (hsn _ (.head _)) f3 hlm3) rfl f3) ?_
      refine callV (.bool true) (vs := []) (fun w g hs _ hon => awake10 hon) ?_
      refine runE ?_
      refine ew_ret ?_
      exact ret1 rfl
end Go.Hog
