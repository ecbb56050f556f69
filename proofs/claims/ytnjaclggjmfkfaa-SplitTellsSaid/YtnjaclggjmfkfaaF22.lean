/- Contracts: has; the document's reach. -/
import Derived.Test.YtnjaclggjmfkfaaF17
import Derived.Test.YtnjaclggjmfkfaaMM
set_option linter.unusedVariables false
set_option linter.unusedSimpArgs false
set_option maxRecDepth 100000
set_option maxHeartbeats 1000000
namespace Go.Hog
open Go.RowKit Rp Go.Proofs
theorem an_L {P : Program} {n : Nat} {B : Bs} {f f0 : View} {L L0 : List HE} {ρ : Env} {ops : Array Oper} {H : List Nat} {listed : Array Bool} {K : Kon} (L' : List HE) (hs : ∀ w, St B f L w → St B f L' w) (k : AN P n B ops K f0 L0 H listed ρ f L') : AN P n B ops K f0 L0 H listed ρ f L :=
  ⟨fun h0 hok hsel hcl w hw => k.out h0 hok hsel hcl w (hs w hw)⟩
theorem hasR9 {w : World} {f : View} (hv : On f w) {A : Option Addr} {c : Nat} {a : List Str} {s : Str} (ha : Sl f A c a) :
    Con Try.prog 63 [.slice A a.length c, str s] w (Ret w f fun _ v => v = .bool (decide (s ∈ a))) := by
  refine enterC hv Try.call63 Try.func63 ?_
  have hlim := ha.len_lt
  refine sgE (sq (sgE (bk ?_)))
  refine lpn a.length (fun k => [(5, i64 k), (0, .slice A a.length c), (1, str s)]) (fun k => ∀ j (h : j < a.length), j < k → a[j] ≠ s) (fun j h hj => by omega) ?_
  intro k ρ hk hi
  refine sq (sg ?_)
  refine ltE (fun h => ?_) (fun h => ?_)
  · have h1 : k < a.length := by omega
    obtain ⟨b1, o1, rfl, c1, _⟩ := ha.text h1
    refine cTs (sq (bk (sg ?_)))
    refine ix k h1 ?_
    refine ldv c1 ?_
    refine eqSE (fun h3 => ?_) (fun h3 => ?_)
    · refine cT (rr ?_)
      exact ret1 (bT (h3 ▸ List.getElem_mem h1))
    · refine cFs (rg ?_)
      refine addE ((k + 1 : Nat) : Int) ?_
      refine nx fun j hj hjk => ?_
      by_cases e : j = k
      · subst e; exact h3
      · exact hi j hj (by omega)
  · refine cFx (rr ?_)
    refine ret1 (bF fun hm => ?_)
    obtain ⟨j, hj, rfl⟩ := List.getElem_of_mem hm
    exact hi j hj (by omega) rfl
theorem hasR21 {w : World} {f : View} (hv : On f w) {A : Option Addr} {c : Nat} {a : List Str} {s : Str} (ha : Sl f A c a) :
    Con Try.prog 49 [.slice A a.length c, str s] w (Ret w f fun _ v => v = .bool (decide (s ∈ a))) := by
  refine enterC hv Try.call49 Try.func49 ?_
  have hlim := ha.len_lt
  refine sgE (sq (sgE (bk ?_)))
  refine lpn a.length (fun k => [(5, i64 k), (0, .slice A a.length c), (1, str s)]) (fun k => ∀ j (h : j < a.length), j < k → a[j] ≠ s) (fun j h hj => by omega) ?_
  intro k ρ hk hi
  refine sq (sg ?_)
  refine ltE (fun h => ?_) (fun h => ?_)
  · have h1 : k < a.length := by omega
    obtain ⟨b1, o1, rfl, c1, _⟩ := ha.text h1
    refine cTs (sq (bk (sg ?_)))
    refine ix k h1 ?_
    refine ldv c1 ?_
    refine eqSE (fun h3 => ?_) (fun h3 => ?_)
    · refine cT (rr ?_)
      exact ret1 (bT (h3 ▸ List.getElem_mem h1))
    · refine cFs (rg ?_)
      refine addE ((k + 1 : Nat) : Int) ?_
      refine nx fun j hj hjk => ?_
      by_cases e : j = k
      · subst e; exact h3
      · exact hi j hj (by omega)
  · refine cFx (rr ?_)
    refine ret1 (bF fun hm => ?_)
    obtain ⟨j, hj, rfl⟩ := List.getElem_of_mem hm
    exact hi j hj (by omega) rfl
/-- What insertion of texts, one after the other, comes to. -/
def InsL (l : List Str) (k : Nat) (o : List Str) : Prop := SBy (fun x y : Str => x < y) o ∧ o.Perm (l.take k)
theorem InsL.fin {l o : List Str} (h : InsL l l.length o) : o = sortS l := by
  have h2 := h.2
  rw [List.take_length] at h2
  exact sortS_of h2 h.1
theorem InsL.step {l o : List Str} {i k : Nat} (h : InsL l i o) (hi : i < l.length) (hk : k ≤ o.length) (h1 : ∀ y ∈ o.drop k, l[i] < y) (h2 : k = 0 ∨ ∃ h : k - 1 < o.length, ¬ l[i] < o[k - 1]) : InsL l (i + 1) (o.take k ++ [l[i]] ++ o.drop k) := by
  refine ⟨sby_insert strSO h.1 hk h1 h2, (insert_perm k _).trans ?_⟩
  rw [List.take_add_one, List.getElem?_eq_getElem hi]
  exact (h.2.cons _).trans (List.perm_append_comm (l₁ := [l[i]]) (l₂ := l.take i))
theorem ref9Reach {w : World} {f : View} (hv : On f w) {A A2 : Option Addr} {c c2 : Nat} {a : List Item} {S : List Str} (ha : Sl f A c a) (hfit : FitT a) (h12 : a.length ≤ 12) (hS : Sl f A2 c2 S) (hSl : S.length ≤ 1000) :
    Con Try.prog 48 [.slice A a.length c, .slice A2 S.length c2] w (RetM w f [] fun _ => reachR a S) := by
  refine enterM (L := []) hv (Given.nil _ _) Try.call48 Try.func48 ?_
  obtain ⟨sx, hsx, hscs⟩ := hS.cells
  have hsx2 : sx = S.map str := by
    apply List.ext_getElem?
    intro j
    by_cases hj : j < S.length
    · obtain ⟨cs, hcs', hc2⟩ := hsx.cell hj
      have h1 := hc2 0 (by decide)
      rw [hcs'.1] at h1
      simp only [List.getElem?_map, List.getElem?_eq_getElem hj]
      have h2 : sz Str = 1 := rfl
      rw [h2, Nat.mul_one, Nat.add_zero] at h1
      exact h1
    · have h2 : sx.length = S.length * 1 := hsx.len
      rw [List.getElem?_eq_none (by omega), List.getElem?_eq_none (by simp; omega)]
  have q0 : (0 + S.length) * 16 ≤ 140737488355328 := by omega
  refine sgE ?_
  refine sgE ?_
  refine sg ?_
  refine nilrow 9 1 ?_
  refine appV 0 hsx.len hscs hsx.ones (fun A6 c6 => ?_) (hlim := q0)
  refine runE ?_
  refine enilrow 9 1 ?_
  refine efg [(6, .slice A6 (0 + S.length) c6), (5, .slice none 0 0), (0, .slice A a.length c)] [sRow none 0 [], .row A6 (0 + S.length) c6 9 1 ([] ++ sx)] fun ρ => ?_
  rw [Nat.zero_add, List.nil_append, hsx2]
  refine sqJ (σ := List Str × Option Addr × Nat × View) (fun s => [(5, .slice s.2.1 s.1.length s.2.2.1)]) (fun s => s.2.2.2) (fun s => [sRow s.2.1 s.2.2.1 s.1]) (fun s => RI a S [] s.1) ?_ ?_
  · refine sgE ?_
    refine bk ?_
    refine lp (σ := Nat × List Str × List Str × (Option Addr × Nat) × (Option Addr × Nat) × View) (fun s => [(7, i64 s.1), (6, .slice s.2.2.2.2.1.1 s.2.1.length s.2.2.2.2.1.2), (5, .slice s.2.2.2.1.1 s.2.2.1.length s.2.2.2.1.2), (0, .slice A a.length c)]) (fun s => s.2.2.2.2.2) (fun s => [sRow s.2.2.2.1.1 s.2.2.2.1.2 s.2.2.1, sRow s.2.2.2.2.1.1 s.2.2.2.2.1.2 s.2.1])
      (fun s => s.1 ≤ s.2.1.length ∧ Sub f s.2.2.2.2.2 ∧ RI a S (s.2.1.drop s.1) s.2.2.1 ∧ s.2.1.length ≤ 1000 * s.2.2.1.length + S.length) (fun s => (a.length - s.2.2.1.length) * 1001 + (s.2.1.length - s.1)) (0, S, [], (none, 0), (A6, c6), f) ⟨Nat.zero_le _, Sub.refl _, RI.start a S, by simp⟩ ?_
    rintro ⟨k, td, found, ⟨A5, c5⟩, ⟨A7, c7⟩, g⟩ ρ ⟨hk, hsub, hri, hsm⟩
    replace hk : k ≤ td.length := hk
    replace hsub : Sub f g := hsub
    replace hri : RI a S (td.drop k) found := hri
    replace hsm : td.length ≤ 1000 * found.length + S.length := hsm
    have hfl := hri.len
    have ha1 := ha.mono hsub
    show EW _ _ _ _ _ (ups ρ [(7, i64 k), (6, .slice A7 td.length c7), (5, .slice A5 found.length c5), (0, .slice A a.length c)]) g [sRow A5 c5 found, sRow A7 c7 td]
    refine sq (sg ?_)
    refine ltE (fun h => ?_) (fun h => ?_)
    case refine_2 =>
      refine ewL (L' := [sRow A5 c5 found]) (fun _ h => h.sublist (by simp)) ?_
      refine cFx ?_
      have hd : td.drop k = [] := List.drop_eq_nil_of_le (by omega)
      rw [hd] at hri
      exact jn (found, A5, c5, g) hri
    have h1 : k < td.length := by omega
    have hdrop : td.drop k = td[k] :: td.drop (k + 1) := List.drop_eq_getElem_cons h1
    rw [hdrop] at hri
    have hcell : (td.map str)[0 + k * 1]? = some (str td[k]) := by simp [h1]
    generalize hs : td[k] = s at hcell hri
    refine erowF 1 fun hrow => ?_
    obtain ⟨b6, rfl⟩ := hrow.2.2.2.1 (by omega)
    refine cTs (bkJ (σ := List Str × List Str × (Option Addr × Nat) × (Option Addr × Nat) × View) (fun s => [(7, i64 k), (6, .slice s.2.2.2.1.1 s.1.length s.2.2.2.1.2), (5, .slice s.2.2.1.1 s.2.1.length s.2.2.1.2), (0, .slice A a.length c)]) (fun s => s.2.2.2.2) (fun s => [sRow s.2.2.1.1 s.2.2.1.2 s.2.1, sRow s.2.2.2.1.1 s.2.2.2.1.2 s.1])
      (fun s => k < s.1.length ∧ Sub f s.2.2.2.2 ∧ RI a S (s.1.drop (k + 1)) s.2.1 ∧ s.1.length ≤ 1000 * s.2.1.length + S.length ∧ (a.length - s.2.1.length) * 1001 + (s.1.length - k) ≤ (a.length - found.length) * 1001 + (td.length - k)) ?_ ?_)
    case refine_2 =>
      rintro ⟨td2, found2, ⟨A52, c52⟩, ⟨A72, c72⟩, g2⟩ ρ ⟨e1, e2, e3, e4, e5⟩
      replace e1 : k < td2.length := e1
      replace e4 : td2.length ≤ 1000 * found2.length + S.length := e4
      replace e5 : (a.length - found2.length) * 1001 + (td2.length - k) ≤ (a.length - found.length) * 1001 + (td.length - k) := e5
      replace e3 : RI a S (td2.drop (k + 1)) found2 := e3
      have hfl2 := e3.len
      refine rg ?_
      refine addE ((k + 1 : Nat) : Int) ?_
      exact nxs (k + 1, td2, found2, (A52, c52), (A72, c72), g2) ⟨e1, e2, e3, e4⟩ (by show (a.length - found2.length) * 1001 + (td2.length - (k + 1)) < (a.length - found.length) * 1001 + (td.length - k); omega)
    refine sg ?_
    refine ix k h1 ?_
    refine ldr 1 hcell ?_
    have hget : ∀ w, On g w → Con Try.prog 62 [.slice A a.length c, str s] w (Ret w g fun g v => ∃ cs, rp g ((getI a s).getD dI) cs ∧ v = .tuple #[.agg ⟨cs⟩, .bool (getI a s).isSome]) := fun w hon => get9 hon ha1
    refine call (vs := [.slice A a.length c, str s]) hget (fun v g2 hs2 hR => ?_)
    obtain ⟨cs, ⟨B1, d1, B2, d2, rfl, hxn, hxr, hxt⟩, rfl⟩ := hR
    refine alloc fun b8 => ?_
    refine stE 0 ?_
    refine efg [(8, .pointer (some ⟨b8, 0, none⟩)), (9, .bool (getI a s).isSome), (7, i64 k), (6, .slice (some ⟨b6, 0, none⟩) td.length c7), (5, .slice A5 found.length c5), (0, .slice A a.length c)] [.blk b8 (.cells ⟨itemC ((getI a s).getD dI) B1 d1 B2 d2⟩ 41), sRow A5 c5 found, sRow (some ⟨b6, 0, none⟩) c7 td] fun ρ => ?_
    cases hg : getI a s with
    | none =>
      refine sq (sg ?_)
      refine runE ?_
      refine edropH ?_
      refine cTx ?_
      exact jn (td, found, (A5, c5), (some ⟨b6, 0, none⟩, c7), g2) ⟨h1, hsub.trans hs2, hri.skip (fun hi => by rw [hg] at hi; cases hi), hsm, Nat.le_refl _⟩
    | some x =>
      rw [hg] at hxn hxr hxt
      replace hxr : Sl g2 B1 d1 x.refs := hxr
      have hxf := (hfit.2 x (getI_mem hg)).1
      have hfoundB : ∀ u ∈ found, u.length ≤ LB := fun u hu => by
        obtain ⟨y, hy, e⟩ := List.mem_map.1 (hri.sub u hu).names
        obtain ⟨j, hj, rfl⟩ := List.getElem_of_mem hy
        obtain ⟨_, _, _, _, _, _, _, _, hn, _⟩ := ha.item hj
        rw [← e]; exact hn
      have hfoundL : found.length ≤ LB := by unfold LB; omega
      have hhas : ∀ w g, (HE.row A5 found.length c5 9 1 (found.map str)).seen g → On g w → Con Try.prog 63 [.slice A5 found.length c5, str s] w (Ret w g fun _ v => v = .bool (decide (s ∈ found))) := fun w g hsn hon => hasR9 hon (Sl.ofTexts hsn rfl hfoundB hfoundL)
      refine sq (sg ?_)
      refine ix k h1 ?_
      refine ldr 2 hcell ?_
      refine callBE (p := s ∈ found) (vs := [.slice A5 found.length c5, str s]) (fun w g hs' hsn hon => hhas w g (hsn _ (.tail _ (.head _))) hon) (fun hin => ?_) (fun hin => ?_)
      · refine edropH ?_
        refine cTx ?_
        exact jn (td, found, (A5, c5), (some ⟨b6, 0, none⟩, c7), g2) ⟨h1, hsub.trans hs2, hri.skip (fun _ => hin), hsm, Nat.le_refl _⟩
      · refine cFs ?_
        have hri2 := hri.take hg hin
        have hfl2 := hri2.len
        rw [List.length_append, List.length_singleton] at hfl2
        obtain ⟨rx, hrx, hrcs⟩ := hxr.cells
        have hrx2 : rx = x.refs.map str := by
          apply List.ext_getElem?
          intro j
          by_cases hj : j < x.refs.length
          · obtain ⟨cs, hcs', hc2⟩ := hrx.cell hj
            have h1 := hc2 0 (by decide)
            rw [hcs'.1] at h1
            simp only [List.getElem?_map, List.getElem?_eq_getElem hj]
            have h2 : sz Str = 1 := rfl
            rw [h2, Nat.mul_one, Nat.add_zero] at h1
            exact h1
          · have h2 : rx.length = x.refs.length * 1 := hrx.len
            rw [List.getElem?_eq_none (by omega), List.getElem?_eq_none (by simp; omega)]
        have hlen1 : (x.refs).length ≤ 1000 := hxf
        have q1 : (found.length + 1) * 16 ≤ 140737488355328 := by omega
        have q2 : (td.length + x.refs.length) * 16 ≤ 140737488355328 := by omega
        refine efg [(8, .pointer (some ⟨b8, 0, none⟩)), (7, i64 k), (6, .slice (some ⟨b6, 0, none⟩) td.length c7), (5, .slice A5 found.length c5), (0, .slice A a.length c)] [.blk b8 (.cells ⟨itemC x B1 d1 B2 d2⟩ 41), sRow A5 c5 found, sRow (some ⟨b6, 0, none⟩) c7 td] fun ρ => ?_
        refine sg ?_
        refine ix k h1 ?_
        refine ldr 2 hcell ?_
        refine bsl fun b45 => ?_
        refine app 1 (fun A5' c5' => ?_) (hlim := q1)
        refine runE ?_
        refine rg ?_
        refine ldo 0 ?_
        refine appV 2 hrx.len hrcs hrx.ones (fun A7' c7' => ?_) (hlim := q2)
        refine dropH ?_
        refine runE ?_
        have hdd : (td ++ x.refs).drop (k + 1) = td.drop (k + 1) ++ x.refs := List.drop_append_of_le_length (by omega)
        refine jn (td ++ x.refs, found ++ [s], (A5', c5'), (A7', c7'), g2) ⟨?_, hsub.trans hs2, ?_, ?_, ?_⟩ (hh := ?_) (ha := ?_)
        · show k < (td ++ x.refs).length
          rw [List.length_append]; omega
        · show RI a S ((td ++ x.refs).drop (k + 1)) (found ++ [s])
          rw [hdd]; exact hri2
        · show (td ++ x.refs).length ≤ 1000 * (found ++ [s]).length + S.length
          rw [List.length_append, List.length_append]
          simp only [List.length_singleton]
          omega
        · show (a.length - (found ++ [s]).length) * 1001 + ((td ++ x.refs).length - k) ≤ (a.length - found.length) * 1001 + (td.length - k)
          rw [List.length_append, List.length_append]
          simp only [List.length_singleton]
          omega
        · show [sRow A5' c5' (found ++ [s]), sRow A7' c7' (td ++ x.refs)] = _
          unfold sRow
          rw [List.length_append, List.length_append, List.map_append, List.map_append, ← hrx2]
          rfl
        · refine ⟨rfl, ?_, ?_, rfl, trivial⟩
          · show Value.slice A7' (td.length + x.refs.length) c7' = .slice A7' (td ++ x.refs).length c7'
            rw [List.length_append]
          · show Value.slice A5' (found.length + 1) c5' = .slice A5' (found ++ [s]).length c5'
            rw [List.length_append]
            rfl
  rintro ⟨l, A5, c5, g⟩ ρ hri
  replace hri : RI a S [] l := hri
  show EW _ _ _ _ _ (ups ρ [(5, .slice A5 l.length c5)]) g [sRow A5 c5 l]
  have hll := hri.len
  rw [show reachR a S = fun L' v => ∃ A c, v = .slice A (sortS l).length c ∧ L' = [sRow A c (sortS l)] by unfold reachR; rw [hri.fin]]
  refine sgE ?_
  refine enilrow 9 1 ?_
  refine efg [(10, .slice none 0 0), (5, .slice A5 l.length c5)] [sRow none 0 [], sRow A5 c5 l] fun ρ => ?_
  refine sqJ (σ := Option Addr × Nat) (fun s => [(10, .slice s.1 l.length s.2)]) (fun _ => g) (fun s => [.row s.1 l.length s.2 9 1 ((sortS l).map str)]) (fun _ => True) ?_ ?_
  case refine_2 =>
    rintro ⟨A10, c10⟩ ρ _
    refine sgE ?_
    refine ew_ret ?_
    refine ret1M ⟨A10, c10, ?_, ?_⟩
    · rw [sortS_len]; rfl
    · unfold sRow; rw [sortS_len]
  refine sgE ?_
  refine bk ?_
  refine lp (σ := Nat × List Str × Option Addr × Nat) (fun s => [(11, i64 s.1), (10, .slice s.2.2.1 s.2.1.length s.2.2.2), (5, .slice A5 l.length c5)]) (fun _ => g) (fun s => [sRow s.2.2.1 s.2.2.2 s.2.1, sRow A5 c5 l]) (fun s => s.1 ≤ l.length ∧ InsL l s.1 s.2.1) (fun s => l.length - s.1) (0, [], none, 0) ⟨Nat.zero_le _, List.Pairwise.nil, by simp⟩ ?_
  rintro ⟨i, out, A10, c10⟩ ρ ⟨hi, hins⟩
  replace hi : i ≤ l.length := hi
  replace hins : InsL l i out := hins
  have hol : out.length = i := by rw [hins.2.length_eq, List.length_take]; omega
  show EW _ _ _ _ _ (ups ρ [(11, i64 i), (10, .slice A10 out.length c10), (5, .slice A5 l.length c5)]) g [sRow A10 c10 out, sRow A5 c5 l]
  refine sq (sg ?_)
  refine ltE (fun h => ?_) (fun h => ?_)
  case refine_2 =>
    refine ewL (L' := [sRow A10 c10 out]) (fun _ h => h.sublist (by simp)) ?_
    refine cFx ?_
    have e : i = l.length := by omega
    subst e
    have e2 := hins.fin
    subst e2
    exact jn (A10, c10) trivial (hh := by unfold sRow; rw [sortS_len]) (ha := ⟨by show Value.slice A10 (sortS l).length c10 = _; rw [sortS_len], trivial⟩)
  have h1 : i < l.length := by omega
  generalize hx : l[i] = x
  have hcx : (l.map str)[0 + i * 1]? = some (str x) := by rw [← hx]; simp [h1]
  refine erowF 1 fun hrow => ?_
  obtain ⟨b5, rfl⟩ := hrow.2.2.2.1 (by omega)
  refine erowF 0 fun hrow0 => ?_
  have hoc := hrow0.2.1
  refine cTs (bkJ (σ := List Str × Option Addr × Nat) (fun s => [(11, i64 i), (10, .slice s.2.1 s.1.length s.2.2), (5, .slice (some ⟨b5, 0, none⟩) l.length c5)]) (fun _ => g) (fun s => [sRow s.2.1 s.2.2 s.1, sRow (some ⟨b5, 0, none⟩) c5 l]) (fun s => InsL l (i + 1) s.1) ?_ ?_)
  case refine_2 =>
    rintro ⟨out2, A102, c102⟩ ρ hins2
    replace hins2 : InsL l (i + 1) out2 := hins2
    refine rg ?_
    refine addE ((i + 1 : Nat) : Int) ?_
    exact nxs (i + 1, out2, A102, c102) ⟨h1, hins2⟩ (by show l.length - (i + 1) < l.length - i; omega)
  refine sgE ?_
  refine sqJ (σ := Nat) (fun k => [(12, i64 k), (11, i64 i), (10, .slice A10 out.length c10), (5, .slice (some ⟨b5, 0, none⟩) l.length c5)]) (fun _ => g) (fun _ => [sRow A10 c10 out, sRow (some ⟨b5, 0, none⟩) c5 l]) (fun k => k ≤ out.length ∧ (∀ y ∈ out.drop k, x < y) ∧ (k = 0 ∨ ∃ h : k - 1 < out.length, ¬ x < out[k - 1])) ?_ ?_
  · refine bk ?_
    refine lp (σ := Nat) (fun k => [(12, i64 k), (11, i64 i), (10, .slice A10 out.length c10), (5, .slice (some ⟨b5, 0, none⟩) l.length c5)]) (fun _ => g) (fun _ => [sRow A10 c10 out, sRow (some ⟨b5, 0, none⟩) c5 l]) (fun k => k ≤ out.length ∧ ∀ y ∈ out.drop k, x < y) (fun k => k) out.length ⟨Nat.le_refl _, by simp⟩ ?_
    rintro k ρ ⟨hk, hgt⟩
    refine sq (sQ ?_)
    refine Go.Hog.gt (fun hk0 => ?_) (fun hk0 => ?_)
    case refine_2 =>
      refine runE ?_
      refine cFx ?_
      exact jn k ⟨hk, hgt, .inl (by omega)⟩
    have hk1 : k - 1 < out.length := by omega
    have hco : (out.map str)[0 + (k - 1) * 1]? = some (str out[k - 1]) := by simp [hk1]
    refine rowF 0 fun hrow => ?_
    obtain ⟨b10, rfl⟩ := hrow.2.2.2.1 (by omega)
    refine sub ((k - 1 : Nat) : Int) ?_
    refine ix (k - 1) hk1 ?_
    refine ldr 0 hco ?_
    refine ix i h1 ?_
    refine ldr 1 hcx ?_
    refine gtSE (fun hlt => ?_) (fun hlt => ?_)
    · refine cTs (bk (rg ?_))
      refine subE ((k - 1 : Nat) : Int) ?_
      refine nxs (k - 1) ⟨by omega, fun y hy => ?_⟩ (by show k - 1 < k; omega)
      have hdk : out.drop (k - 1) = out[k - 1] :: out.drop k := by
        rw [List.drop_eq_getElem_cons hk1, show k - 1 + 1 = k by omega]
      rw [hdk] at hy
      rcases List.mem_cons.1 hy with rfl | hy
      · exact hlt
      · exact hgt y hy
    · refine cFx ?_
      exact jn k ⟨hk, hgt, .inr ⟨hk1, hlt⟩⟩
  rintro k ρ ⟨hk, hgt, hle⟩
  have hkc : k ≤ c10 := by omega
  have p1 : ((out.map str).take (k * 1)).length = k * 1 := by simp; omega
  have p2 : ((out.map str).drop (k * 1)).length = (out.length - k) * 1 := by simp
  have p3 : ∀ u ∈ (out.map str).take (k * 1), u.oneCell' = true := fun u hu => by
    obtain ⟨r, _, rfl⟩ := List.mem_map.1 (List.mem_of_mem_take hu)
    rfl
  have p4 : ∀ u ∈ (out.map str).drop (k * 1), u.oneCell' = true := fun u hu => by
    obtain ⟨r, _, rfl⟩ := List.mem_map.1 (List.mem_of_mem_drop hu)
    rfl
  have p5 : (0 + k) * 16 ≤ 140737488355328 := by omega
  have p6 : (0 + k + 1) * 16 ≤ 140737488355328 := by omega
  have p7 : (0 + k + 1 + (out.length - k)) * 16 ≤ 140737488355328 := by omega
  refine eA [0, 1, 2, 4, 5, 6, 7, 10, 11, 12] [sRow A10 c10 out, sRow (some ⟨b5, 0, none⟩) c5 l] (List.Sublist.refl _) ?_
  refine an_takeH [0, 1, 2, 4, 5, 6, 7, 10, 11, 12] HeldL.same ?_
  refine slH k hkc ?_
  refine ix i h1 ?_
  refine ldr 1 hcx ?_
  refine slL' k hk hoc ?_
  refine rw_end ?_
  refine an_have (α := Nat × Option Addr × Nat) (lsA 15 [0, 1, 2, 3, 4, 5, 6, 7, 8, 10, 11, 12]) (fun s => [(78, .slice s.2.1 (0 + k) s.2.2), (83, .slice (some ⟨s.1, 0, none⟩) 1 1), (87, .slice (A10.map fun a => if k = c10 then a else a.add (k * 1)) (out.length - k) (c10 - k)), (11, i64 i), (5, .slice (some ⟨b5, 0, none⟩) l.length c5)]) (fun _ => g) (fun s => [.row (some ⟨s.1, 0, none⟩) 1 1 9 1 [str x], .row s.2.1 (0 + k) s.2.2 9 1 ([] ++ (out.map str).take (k * 1)), sRow A10 c10 out, sRow (some ⟨b5, 0, none⟩) c5 l]) ?_ (fun T => ?_)
  · rintro ⟨b8, A3, c3⟩ ρ
    refine an_run1 9 ?_
    refine app 0 (fun A4 c4 => ?_) (hlim := p6)
    refine aH HeldL.same.cons ?_
    refine an_run1 13 ?_
    refine appW 0 p2 (fun w hw h0 => hw.rowTail (i := 1) (j := k) rfl (by omega)) p4 (fun A9 c9 => ?_) (hlim := p7)
    refine aH HeldL.same.cons ?_
    refine an_L [.row A9 (0 + k + 1 + (out.length - k)) c9 9 1 ([] ++ (out.map str).take (k * 1) ++ [str x] ++ (out.map str).drop (k * 1)), sRow (some ⟨b5, 0, none⟩) c5 l] (fun _ h => h.sublist (.cons_cons _ (.cons _ (List.Sublist.refl _)))) ?_
    refine an_takeU [14] ?_
    refine an_done ?_
    have hnl : (out.take k ++ [x] ++ out.drop k).length = 0 + k + 1 + (out.length - k) := by simp; omega
    refine jn (out.take k ++ [x] ++ out.drop k, A9, c9) ?_ (hh := ?_) (ha := ⟨rfl, ?_, rfl, trivial⟩)
    · show InsL l (i + 1) _
      rw [← hx]
      rw [← hx] at hgt hle
      exact hins.step h1 hk hgt hle
    · show [sRow A9 c9 (out.take k ++ [x] ++ out.drop k), _] = _
      unfold sRow
      rw [hnl]
      simp
    · show Value.slice A9 _ c9 = .slice A9 (out.take k ++ [x] ++ out.drop k).length c9
      rw [hnl]
  refine an_run2 3 8 ?_ ?_
  · refine nilrow 9 1 ?_
    refine appW 0 p1 (fun w hw h0 => ?_) p3 (fun A3 c3 => ?_) (hlim := p5)
    · obtain ⟨b, o, e, hc⟩ := hw.rowAll (i := 1) rfl (show 0 < out.length by omega)
      exact ⟨b, o, e, fun j u hj => hc j u (by rw [List.getElem?_take] at hj; split at hj; exact hj; cases hj)⟩
    refine aH HeldL.same.cons ?_
    refine an_run1 8 ?_
    refine bsl fun b8 => ?_
    refine aH HeldL.same.cons.cons ?_
    exact an_use T (b8, A3, c3)
  · refine bsl fun b8 => ?_
    refine aH HeldL.same.cons ?_
    refine an_run1 3 ?_
    refine nilrow 9 1 ?_
    refine appW 0 p1 (fun w hw h0 => ?_) p3 (fun A3 c3 => ?_) (hlim := p5)
    · obtain ⟨b, o, e, hc⟩ := hw.rowAll (i := 2) rfl (show 0 < out.length by omega)
      exact ⟨b, o, e, fun j u hj => hc j u (by rw [List.getElem?_take] at hj; split at hj; exact hj; cases hj)⟩
    refine aH HeldL.same.cons.cons ?_
    refine an_perm (.swap _ _ _) ?_
    exact an_use T (b8, A3, c3)
end Go.Hog
