/- OrderTells answers true. -/
import Derived.Test.YtiahipbkheaafaaF9
set_option linter.unusedVariables false
set_option linter.unusedSimpArgs false
set_option maxRecDepth 100000
set_option maxHeartbeats 1000000
namespace Go.Hog
open Go.RowKit Rp Go.Proofs

theorem orderTells {w : World} {f : View} (hv : On f w) {A : Option Addr} {c : Nat} {a : List Item} (ha : Sl f A c a) :
    Con Try.prog 3 [.slice A a.length c] w (Ret w f fun _ v => v = .bool true) := by
  refine enterC hv Try.call3 Try.func3 ?_
  have hlim := ha.len_lt
  refine sgE ?_
  refine sq (sg ?_)
  refine callB (p := GreatI a) (fun w g hs _ hon => greatItems hon (ha.mono hs)) (fun hgr => ?_) (fun hgr => ?_)
  · refine runE ?_
    refine cT (sg ?_)
    refine callV (.bool true) (vs := []) (fun w g hs _ hon => awake10 hon) ?_
    refine runE ?_
    refine ew_ret ?_
    exact ret1 rfl
  have hfit := fit_of hgr
  have hsm : a.length ≤ 1000000 := by have := hfit.1; omega
  refine runE ?_
  refine cFs ?_
  refine sg ?_
  refine callM0 (vs := [.slice A a.length c]) [] (fun w hon hgi => orderOf hon ha hfit) (fun v g L' hs hR => ?_)
  obtain ⟨Aa, ca, rfl, rfl⟩ := hR
  have ha1 := ha.mono hs
  refine runE ?_
  refine sg ?_
  refine call (vs := [.slice A a.length c]) (fun w hon => of10 hon ha1 hsm) (fun v g2 hs2 hR => ?_)
  obtain ⟨Ab, cb, rfl, hb⟩ := hR
  have ha2 := ha1.mono hs2
  refine runE ?_
  refine sg ?_
  refine callM (vs := [.slice A a.length c]) [] [.row Aa ((refOf a).getD []).length ca 9 1 (((refOf a).getD []).map str)] (fun w hon hgi => ranks hon ha2 hfit) (fun v g3 L' hs3 hR => ?_)
  obtain ⟨Ar, cr, rfl, rfl⟩ := hR
  have ha3 := ha2.mono hs3
  have hb3 := hb.mono hs3
  refine runE ?_
  obtain ⟨l, p, hl, hp, hsub, hrk⟩ : ∃ l p, (refOf a).getD [] = l ∧ (refOf a).isSome = p ∧ (∀ s ∈ l, s ∈ names a) ∧ ((l = [] ∧ ranksOf a = []) ∨ ((∀ s ∈ names a, s ∈ l) ∧ l.length = a.length ∧ ranksOf a = a.map fun x => idxI l x.name)) := by
    cases hro : refOf a with
    | none => exact ⟨[], false, rfl, rfl, fun s hs => (by cases hs), .inl ⟨rfl, by unfold ranksOf; rw [hro]⟩⟩
    | some l => exact ⟨l, true, rfl, rfl, (refOf_sub hro).1, .inr ⟨fun s hs => refOf_mem hro hs, (refOf_sub hro).2, by unfold ranksOf; rw [hro]⟩⟩
  have hlb : ∀ s ∈ l, s.length ≤ LB := fun s hs => names_le ha (hsub s hs)
  have hll : l.length ≤ LB := by
    rw [hl] at hb
    exact hb.lim
  have hlen : (ranksOf a).length = l.length := by
    rcases hrk with ⟨h1, h2⟩ | ⟨h1, h2, h3⟩
    · rw [h1, h2]; rfl
    · rw [h3, h2, List.length_map]
  generalize hR : ranksOf a = R at hlen hrk ⊢
  rw [hl] at hb3 ⊢
  rw [hp]
  refine sq (sg ?_)
  refine callB (p := l = l) (vs := [.slice Aa l.length ca, .slice Ab l.length cb]) (fun w g hs hsn hon => sameTexts hon (Sl.ofTexts (hsn (.row Aa l.length ca 9 1 (l.map str)) (.tail _ (.head _))) rfl hlb hll) (hb3.mono hs)) (fun _ => ?_) (fun h => absurd rfl h)
  refine neB p p ?_
  rw [show (p != p) = false by cases p <;> rfl]
  refine neIE (fun h => ?_) (fun h => ?_)
  · omega
  refine cFs ?_
  have hRl : R.length ≤ 1000000 := by
    rcases hrk with ⟨h1, h2⟩ | ⟨h1, h2, h3⟩
    · rw [h2]; simp
    · rw [h3, List.length_map]; omega
  refine sqJ (σ := Unit) (fun _ => [(3, .slice Aa l.length ca), (7, .slice Ar R.length cr), (5, .slice Ab l.length cb), (0, .slice A a.length c)]) (fun _ => g3) (fun _ => [.row Ar R.length cr 3 1 (R.map num), .row Aa l.length ca 9 1 (l.map str)]) (fun _ => True) ?_ ?_
  · refine sgE ?_
    refine bk ?_
    refine lpn R.length (fun k => [(8, i64 k), (3, .slice Aa l.length ca), (7, .slice Ar R.length cr), (5, .slice Ab l.length cb), (0, .slice A a.length c)]) (fun _ => True) trivial ?_
    intro k ρ hk _
    refine sq (sg ?_)
    refine ltE (fun h => ?_) (fun h => ?_)
    case refine_2 =>
      refine cFx ?_
      exact jn () trivial
    have h1 : k < R.length := by omega
    rcases hrk with ⟨e1, e2⟩ | ⟨e1, e2, e3⟩
    · rw [e2] at h1; simp at h1
    have h2 : k < a.length := by rw [e3, List.length_map] at h1; exact h1
    have hRk : R[k] = idxI l a[k].name := by simp [e3]
    have hin : a[k].name ∈ l := e1 _ (List.mem_map.2 ⟨a[k], List.getElem_mem _, rfl⟩)
    have hix : l.idxOf a[k].name < l.length := List.idxOf_lt_length_of_mem hin
    have hRk2 : R[k] = (l.idxOf a[k].name : Nat) := by rw [hRk]; unfold idxI; rw [if_pos hin]
    have hcell : (R.map num)[0 + k * 1]? = some (i64 (l.idxOf a[k].name : Nat)) := by simp [h1, hRk2, num]
    refine erowF 0 fun hrow => ?_
    obtain ⟨gr, rfl⟩ := hrow.2.2.2.1 (by omega)
    obtain ⟨b1, o1, A1, c1, A2, c2, rfl, hc, hn, hr, ht⟩ := ha3.item h2
    obtain ⟨b2, o2, rfl, hcb, _⟩ := hb3.text hix
    refine cTs (sq (bk (sQ ?_)))
    refine ix k h1 ?_
    refine ldr 0 hcell ?_
    refine Go.Hog.lt (fun h => ?_) (fun h => ?_)
    · omega
    refine ix k h1 ?_
    refine ldr 0 hcell ?_
    refine ge (fun h => ?_) (fun h => ?_)
    · omega
    refine ix k h1 ?_
    refine ldr 0 hcell ?_
    refine ix (l.idxOf a[k].name) hix ?_
    refine ldv hcb ?_
    refine ix k h2 ?_
    refine ldv hc.1 ?_
    refine neSE (fun h => ?_) (fun h => ?_)
    · exact absurd (List.getElem_idxOf hix) h
    refine cFs (rg ?_)
    refine addE ((k + 1 : Nat) : Int) ?_
    exact nx trivial
  rintro ⟨⟩ ρ _
  refine eperm (L' := [.row Aa l.length ca 9 1 (l.map str)] ++ [.row Ar R.length cr 3 1 (R.map num)]) (.swap _ _ _) ?_
  have hl1 : l.length ≤ 1000000 := by omega
  refine sg ?_
  refine callM (vs := [.slice Aa l.length ca]) [.row Aa l.length ca 9 1 (l.map str)] [.row Ar R.length cr 3 1 (R.map num)] (fun w hon hgi => overTexts hon hl1 hgi) (fun v g4 L' hs4 hR => ?_)
  subst hR
  refine runE ?_
  refine sg ?_
  refine callM0 (vs := [.slice Ar R.length cr]) [.row Ar R.length cr 3 1 (R.map num)] (fun w hon hgi => overInts hon hRl hgi) (fun v g5 L' hs5 hR => ?_)
  subst hR
  refine runE ?_
  refine sg ?_
  have ha5 := (ha3.mono hs4).mono hs5
  refine callM0 (vs := [.slice A a.length c]) [] (fun w hon hgi => orderOf hon ha5 hfit) (fun v g6 L' hs6 hR => ?_)
  obtain ⟨Ae, ce, rfl, rfl⟩ := hR
  rw [hl]
  have hb6 := ((hb3.mono hs4).mono hs5).mono hs6
  refine runE ?_
  refine sg ?_
  refine callB (p := l = l) (vs := [.slice Ae l.length ce, .slice Ab l.length cb]) (fun w g hs hsn hon => sameTexts hon (Sl.ofTexts (hsn (.row Ae l.length ce 9 1 (l.map str)) (.head _)) rfl hlb hll) (hb6.mono hs)) (fun _ => ?_) (fun h => absurd rfl h)
  refine callV (.bool true) (vs := []) (fun w g hs _ hon => awake10 hon) ?_
  refine runE ?_
  refine ew_ret ?_
  exact ret1 rfl
end Go.Hog
