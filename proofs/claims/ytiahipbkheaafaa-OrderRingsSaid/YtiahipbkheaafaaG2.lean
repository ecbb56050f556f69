/- OrderBehind answers true. -/
import Derived.Test.YtiahipbkheaafaaG1
import Derived.Test.YtiahipbkheaafaaS5
import Derived.Test.YtiahipbkheaafaaE11
set_option linter.unusedVariables false
set_option linter.unusedSimpArgs false
set_option maxRecDepth 100000
set_option maxHeartbeats 1000000
namespace Go.Hog
open Go.RowKit Rp Go.Proofs

theorem take_succ_rev {α : Type} {l : List α} {k : Nat} (h : k < l.length) : l.reverse.take (k + 1) = l.reverse.take k ++ [l[l.length - 1 - k]] := by
  rw [List.take_add_one, List.getElem?_eq_getElem (by simpa using h)]
  simp
theorem fit_perm {l l' : List Item} (hp : l.Perm l') (h : Fit l) : Fit l' := ⟨hp.length_eq ▸ h.1, fun x hx => h.2 x (hp.mem_iff.2 hx)⟩
theorem orderBehind {w : World} {f : View} (hv : On f w) {A : Option Addr} {c : Nat} {a : List Item} (ha : Sl f A c a) :
    Con Try.prog 4 [.slice A a.length c] w (Ret w f fun _ v => v = .bool true) := by
  refine enterC hv Try.call4 Try.func4 ?_
  have hlim := ha.len_lt
  refine sgE ?_
  refine sq (sg ?_)
  refine callB (p := GreatI a) (fun w g hs _ hon => greatItems hon (ha.mono hs)) (fun hgr => ?_) (fun hgr => ?_)
  · refine runE ?_
    refine cT (sg ?_)
    refine callV (.bool true) (vs := []) (fun w g hs _ hon => awake10 hon) ?_
    refine runE ?_
    refine ew_ret ?_
    exact ret1 rfl
  have hfit := fit_of hgr
  have hsm : a.length ≤ 1000000 := by have := hfit.1; omega
  refine callB (p := (names a).Nodup) (fun w g hs _ hon => unlike10 hon (ha.mono hs)) (fun hnd => ?_) (fun hnd => ?_)
  case refine_2 =>
    refine runE ?_
    refine cT (sg ?_)
    refine callV (.bool true) (vs := []) (fun w g hs _ hon => awake10 hon) ?_
    refine runE ?_
    refine ew_ret ?_
    exact ret1 rfl
  refine runE ?_
  refine cFs ?_
  refine sgE ?_
  refine sqJ (σ := List Value × Option Addr × Nat) (fun s => [(3, .slice s.2.1 a.length s.2.2), (0, .slice A a.length c)]) (fun _ => f) (fun s => [.row s.2.1 a.length s.2.2 33 3 s.1]) (fun s => Rw f a.reverse s.1) ?_ ?_
  · refine sg ?_
    refine subE ((a.length : Int) - 1 - (0 : Nat)) ?_
    refine enilrow 33 3 ?_
    refine bk ?_
    refine lp (σ := Nat × List Value × Option Addr × Nat) (fun s => [(4, i64 ((a.length : Int) - 1 - s.1)), (3, .slice s.2.2.1 s.1 s.2.2.2), (0, .slice A a.length c)]) (fun _ => f) (fun s => [.row s.2.2.1 s.1 s.2.2.2 33 3 s.2.1]) (fun s => s.1 ≤ a.length ∧ Rw f (a.reverse.take s.1) s.2.1) (fun s => a.length - s.1) (0, [], none, 0) ⟨Nat.zero_le _, Rw.nil f⟩ ?_
    rintro ⟨k, xs, A3, c3⟩ ρ ⟨hk, hrw⟩
    replace hk : k ≤ a.length := hk
    replace hrw : Rw f (a.reverse.take k) xs := hrw
    show EW _ _ _ _ _ (ups ρ [(4, i64 ((a.length : Int) - 1 - k)), (3, .slice A3 k c3), (0, .slice A a.length c)]) f [.row A3 k c3 33 3 xs]
    refine sq (sg ?_)
    refine geE (fun h => ?_) (fun h => ?_)
    case refine_2 =>
      refine cFx ?_
      have e : k = a.length := by omega
      subst e
      rw [show a.reverse.take a.length = a.reverse by rw [← List.length_reverse, List.take_length]] at hrw
      exact jn (xs, A3, c3) hrw
    have h1 : k < a.length := by omega
    have h2 : a.length - 1 - k < a.length := by omega
    obtain ⟨b1, o1, A1, c1, A2, c2, rfl, hc, hn, hr, ht⟩ := ha.item h2
    refine cTs (sq (bk (rg ?_)))
    refine ix (a.length - 1 - k) h2 ?_ (hi := by omega)
    refine ldvA hc ?_
    refine bsl fun b2 => ?_
    refine app 0 (fun A' c' => ?_) (hlim := by show (k + 1) * 64 ≤ _; omega)
    refine runE ?_
    refine rg ?_
    refine subE ((a.length : Int) - 1 - (k + 1 : Nat)) ?_
    refine nxs (k + 1, xs ++ [str a[a.length - 1 - k].name, .slice A1 a[a.length - 1 - k].refs.length c1, .slice A2 a[a.length - 1 - k].tree.length c2], A', c') ⟨h1, ?_⟩ (by show a.length - (k + 1) < a.length - k; omega)
    show Rw f (a.reverse.take (k + 1)) _
    rw [take_succ_rev h1]
    exact hrw.snoc ⟨A1, c1, A2, c2, rfl, hn, hr, ht⟩
  rintro ⟨xs, A3, c3⟩ ρ hrw
  replace hrw : Rw f a.reverse xs := hrw
  refine efrz 0 fun g hs hsn => ?_
  have hb : Sl g A3 c3 a.reverse := (hrw.mono hs).sl hsn (by simp) (by rw [List.length_reverse]; exact ha.lim)
  show EW _ _ _ _ _ (ups ρ [(3, .slice A3 a.length c3), (0, .slice A a.length c)]) g []
  have ha1 := ha.mono hs
  have hfr : Fit a.reverse := fit_perm a.reverse_perm.symm hfit
  refine sg ?_
  refine callM0 (vs := [.slice A a.length c]) [] (fun w hon hgi => orderOf hon ha1 hfit) (fun v g1 L' hs1 hR => ?_)
  obtain ⟨Aa, ca, rfl, rfl⟩ := hR
  refine runE ?_
  refine efrz 0 fun g2 hs2 hsn2 => ?_
  have hb2 := (hb.mono hs1).mono hs2
  have ha2 := (ha1.mono hs1).mono hs2
  refine sg ?_
  refine callM0 (vs := [.slice A3 a.length c3]) [] (fun w hon hgi => by have := orderOf hon hb2 hfr; rwa [List.length_reverse] at this) (fun v g3 L' hs3 hR => ?_)
  unfold ofR at hR
  rw [refOf_perm a.reverse_perm.symm] at hR
  obtain ⟨Ab, cb, rfl, rfl⟩ := hR
  refine runE ?_
  refine efrz 0 fun g4 hs4 hsn4 => ?_
  have ha4 := (ha2.mono hs3).mono hs4
  have hsub := @refOf_sub a
  have hmem := @refOf_mem a
  have hbeh := @idx_behind a
  have hlb : ∀ s ∈ (refOf a).getD [], s.length ≤ LB := fun s hs => by
    cases hro : refOf a with
    | none => rw [hro] at hs; cases hs
    | some l => rw [hro] at hs; exact names_le ha ((hsub hro).1 s hs)
  have hll : ((refOf a).getD []).length ≤ LB := by
    cases hro : refOf a with
    | none => simp [LB]
    | some l => show l.length ≤ LB; rw [(hsub hro).2]; exact ha.lim
  have hta : Sl g2 Aa ca ((refOf a).getD []) := Sl.ofTexts hsn2 rfl hlb hll
  have htb : Sl g4 Ab cb ((refOf a).getD []) := Sl.ofTexts hsn4 rfl hlb hll
  replace hta := (hta.mono hs3).mono hs4
  refine sq (sg ?_)
  cases hro : refOf a with
  | none =>
    rw [hro] at hta htb
    replace hta : Sl g4 Aa ca ([] : List Str) := hta
    replace htb : Sl g4 Ab cb ([] : List Str) := htb
    refine neB false false ?_
    refine callB (p := ([] : List Str) = []) (vs := [.slice Aa 0 ca, .slice Ab 0 cb]) (fun w g hs _ hon => sameTexts hon (hta.mono hs) (htb.mono hs)) (fun _ => ?_) (fun h => absurd rfl h)
    refine neIE (fun h => absurd rfl h) (fun h => ?_)
    refine cFs ?_
    refine sqJ (σ := Unit) (fun _ => []) (fun _ => g4) (fun _ => []) (fun _ => True) ?_ ?_
    · refine sgE ?_
      refine bk ?_
      refine lpn 0 (fun k => [(9, i64 k), (6, .bool false), (5, .slice Aa 0 ca), (0, .slice A a.length c)]) (fun _ => True) trivial ?_
      intro k ρ hk _
      refine sq (sg ?_)
      refine ltE (fun h => ?_) (fun h => ?_)
      · refine cFx ?_
        exact jn () trivial
      · refine cFx ?_
        exact jn () trivial
    rintro ⟨⟩ ρ _
    refine sg ?_
    refine callV (.bool true) (vs := []) (fun w g hs _ hon => awake10 hon) ?_
    refine runE ?_
    refine ew_ret ?_
    exact ret1 rfl
  | some l =>
    rw [hro] at hta htb
    replace hta : Sl g4 Aa ca l := hta
    replace htb : Sl g4 Ab cb l := htb
    refine neB true true ?_
    refine callB (p := l = l) (vs := [.slice Aa l.length ca, .slice Ab l.length cb]) (fun w g hs _ hon => sameTexts hon (hta.mono hs) (htb.mono hs)) (fun _ => ?_) (fun h => absurd rfl h)
    refine neIE (fun h => ?_) (fun h => ?_)
    · exact absurd (by show ((l.length : Nat) : Int) = a.length; rw [(hsub hro).2]) h
    refine cFs ?_
    refine sqJ (σ := Unit) (fun _ => []) (fun _ => g4) (fun _ => []) (fun _ => True) ?_ ?_
    · refine sgE ?_
      refine bk ?_
      refine lpn a.length (fun k => [(9, i64 k), (6, .bool true), (5, .slice Aa l.length ca), (0, .slice A a.length c)]) (fun _ => True) trivial ?_
      intro k ρ hk _
      refine sq (sg ?_)
      refine ltE (fun h => ?_) (fun h => ?_)
      case refine_2 =>
        refine cFx ?_
        exact jn () trivial
      have h1 : k < a.length := by omega
      have hin : a[k].name ∈ l := hmem hro (List.mem_map.2 ⟨a[k], List.getElem_mem _, rfl⟩)
      have hix : l.idxOf a[k].name < l.length := List.idxOf_lt_length_of_mem hin
      have hidx : idxI l a[k].name = (l.idxOf a[k].name : Nat) := by unfold idxI; rw [if_pos hin]
      obtain ⟨b1, o1, A1, c1, A2, c2, rfl, hc, hn, hr, ht⟩ := ha4.item h1
      have hrlim := hr.len_lt
      refine cTs (sq (bk (sg ?_)))
      refine ix k h1 ?_
      refine ldv hc.1 ?_
      refine callV (i64 (idxI l a[k].name)) (vs := [.slice Aa l.length ca, str a[k].name]) (fun w g hs _ hon => at10 hon (hta.mono hs)) ?_
      refine runE ?_
      refine sq (sg ?_)
      refine ltE (fun h => ?_) (fun h => ?_)
      · omega
      refine cFs ?_
      refine sgE ?_
      refine bk ?_
      refine lpn a[k].refs.length (fun m => [(11, i64 m), (10, i64 (idxI l a[k].name)), (9, i64 k), (6, .bool true), (5, .slice Aa l.length ca), (0, .slice (some ⟨b1, o1, none⟩) a.length c)]) (fun _ => True) trivial ?_
      intro m ρ hm _
      refine sq (sg ?_)
      refine ix k h1 ?_
      refine ldv hc.2.1 ?_
      refine ltE (fun h => ?_) (fun h => ?_)
      case refine_2 =>
        refine cFx ?_
        refine rg ?_
        refine addE ((k + 1 : Nat) : Int) ?_
        exact nx trivial
      have h2 : m < a[k].refs.length := by omega
      obtain ⟨b3, o3, rfl, hrc, hrl⟩ := hr.text h2
      refine cTs (sq (bk (sQ ?_)))
      refine ix k h1 ?_
      refine ldv hc.2.1 ?_
      refine ix m h2 ?_
      refine ldv hrc ?_
      refine ix k h1 ?_
      refine ldv hc.1 ?_
      refine neS (fun hne => ?_) (fun hne => ?_)
      · refine ix k h1 ?_
        refine ldv hc.2.1 ?_
        refine ix m h2 ?_
        refine ldv hrc ?_
        refine callV (i64 (idxI l a[k].refs[m])) (vs := [.slice Aa l.length ca, str a[k].refs[m]]) (fun w g hs _ hon => at10 hon (hta.mono hs)) ?_
        refine gtE (fun h => ?_) (fun h => ?_)
        · exact absurd h (hbeh hro (List.getElem_mem _) (List.getElem_mem _) hne)
        refine cFs (rg ?_)
        refine addE ((m + 1 : Nat) : Int) ?_
        exact nx trivial
      · refine runE ?_
        refine cFs (rg ?_)
        refine addE ((m + 1 : Nat) : Int) ?_
        exact nx trivial
    rintro ⟨⟩ ρ _
    refine sg ?_
    refine callV (.bool true) (vs := []) (fun w g hs _ hon => awake10 hon) ?_
    refine runE ?_
    refine ew_ret ?_
    exact ret1 rfl
end Go.Hog
