/- Contract: chapter 25's own answer, To. -/
import Derived.Test.YtdidefhdcinecaaGreatDoorF68
set_option linter.unusedVariables false
set_option linter.unusedSimpArgs false
set_option maxRecDepth 100000
set_option maxHeartbeats 1000000
namespace Go.Hog
open Go.RowKit Rp Go.Proofs
theorem texts_cells {g : View} {S : List Str} {sx : List Value} (h : Rw g S sx) : sx = S.map str := by
  apply List.ext_getElem?
  intro j
  by_cases hj : j < S.length
  · obtain ⟨cs, hcs', hc2⟩ := h.cell hj
    have h1 := hc2 0 (by decide)
    rw [hcs'.1] at h1
    simp only [List.getElem?_map, List.getElem?_eq_getElem hj]
    have h2 : sz Str = 1 := rfl
    rw [h2, Nat.mul_one, Nat.add_zero] at h1
    exact h1
  · have h2 : sx.length = S.length * 1 := h.len
    rw [List.getElem?_eq_none (by omega), List.getElem?_eq_none (by simp; omega)]
theorem ref25To {w : World} {f : View} (hv : On f w) {o n : Str} (ho : o.length ≤ 1000000) (hn : n.length ≤ 1000000) {A : Option Addr} {c : Nat} {a : List Item} (ha : Sl f A c a) (hr : Room3 a) :
    Con Tryz.prog 12 [str o, str n, .slice A a.length c] w (RetM w f [] fun _ => toV o n a) := by
  refine enterM (L := []) hv (Given.nil _ _) Tryz.call12 Tryz.func12 ?_
  have hlim := ha.len_lt
  have hoL : o.length ≤ LB := by unfold LB; omega
  have hnL : n.length ≤ LB := by unfold LB; omega
  have hnil : ∀ e : Int, toE o n a = e → e ≠ 0 → toV o n a [.row none 0 0 44 3 []] (.tuple #[.slice none 0 0, i64 e]) := fun e h1 h2 =>
    ⟨[], none, 0, by rw [toR_bad (by rw [h1]; exact h2)]; rfl, by rw [h1]; rfl, rfl⟩
  refine sgE ?_
  refine sg ?_
  refine callV (i64 (valE o a)) (vs := [str o, .slice A a.length c]) (fun w g h1 h2 h3 => ref9Validate h3 hoL (ha.mono h1)) ?_
  refine runE ?_
  refine sq (sg ?_)
  refine neIE (fun h1 => ?_) (fun h1 => ?_)
  · refine cT (sgE ?_)
    refine enilrow 44 3 ?_
    refine ew_ret ?_
    exact ret2M (hnil (valE o a) (by unfold toE; rw [if_pos h1]) h1)
  have h1' : valE o a = 0 := Classical.not_not.1 h1
  refine cFs ?_
  refine efg [(0, str o), (1, str n), (2, .slice A a.length c)] [] (fun ρ => ?_)
  refine sq (sg ?_)
  refine callB (p := prefixOk n) (vs := [str n]) (fun w g h1 h2 h3 => ref9Prefix h3 hnL) (fun h2 => ?_) (fun h2 => ?_)
  case refine_2 =>
    refine runE ?_
    refine cT (sgE ?_)
    refine enilrow 44 3 ?_
    refine ew_ret ?_
    exact ret2M (hnil 11 (by unfold toE; rw [if_neg h1, if_pos (.inl h2)]) (by decide))
  refine neI (fun h3 => ?_) (fun h3 => ?_)
  · refine runE ?_
    refine cT (sgE ?_)
    refine enilrow 44 3 ?_
    refine ew_ret ?_
    exact ret2M (hnil 11 (by unfold toE; rw [if_neg h1, if_pos (.inr fun e => h3 (by rw [e]))]) (by decide))
  have h3' : n.length = o.length := by omega
  have hno : ¬ (¬ prefixOk n ∨ n.length ≠ o.length) := by rintro (h | h); exact h h2; exact h h3'
  refine runE ?_
  refine cFs ?_
  refine sqJ (σ := Unit) (fun _ => [(0, str o), (1, str n), (2, .slice A a.length c)]) (fun _ => f) (fun _ => []) (fun _ => n ≠ o → cntI n a = 0) ?_ ?_
  · refine sg ?_
    refine neS (fun h4 => ?_) (fun h4 => ?_)
    case refine_2 =>
      refine runE ?_
      refine cFs ?_
      exact jn () fun h => absurd h h4
    refine callV (i64 (cntI n a : Nat)) (vs := [.slice A a.length c, str n]) (fun w g h1 h2 h3 => ref25Count h3 hnL (ha.mono h1) hr.1) ?_
    refine gt (fun h5 => ?_) (fun h5 => ?_)
    · refine runE ?_
      refine cT (sgE ?_)
      refine enilrow 44 3 ?_
      refine ew_ret ?_
      exact ret2M (hnil 9 (by unfold toE; rw [if_neg h1, if_neg hno, if_pos ⟨h4, by omega⟩]) (by decide))
    · refine runE ?_
      refine cFs ?_
      exact jn () fun _ => by omega
  rintro ⟨⟩ ρ h4
  replace h4 : n ≠ o → cntI n a = 0 := h4
  have hno2 : ¬ (n ≠ o ∧ 0 < cntI n a) := by rintro ⟨h5, h6⟩; rw [h4 h5] at h6; omega
  have h8 : a.length ≤ 8 := (valE_zero.1 h1').len
  have hib := ha.itB
  refine sgE ?_
  refine enilrow 44 3 ?_
  refine sqJ (σ := List JI × Option Addr × Nat × View) (fun t => [(9, .slice t.2.1 t.1.length t.2.2.1), (1, str n)]) (fun t => t.2.2.2) (fun t => jRow t.2.1 t.2.2.1 t.1 :: jR t.1) (fun t => Sub f t.2.2.2 ∧ t.1.map (·.1) = a.map (swI o n)) ?_ ?_
  · refine sgE (bk ?_)
    refine lp (σ := Nat × List JI × Option Addr × Nat × View) (fun t => [(10, i64 t.1), (9, .slice t.2.2.1 t.2.1.length t.2.2.2.1), (0, str o), (1, str n), (2, .slice A a.length c)]) (fun t => t.2.2.2.2) (fun t => jRow t.2.2.1 t.2.2.2.1 t.2.1 :: jR t.2.1) (fun t => t.1 ≤ a.length ∧ Sub f t.2.2.2.2 ∧ t.2.1.map (·.1) = (a.take t.1).map (swI o n)) (fun t => a.length - t.1) (0, [], none, 0, f) ⟨Nat.zero_le _, Sub.refl _, rfl⟩ ?_
    rintro ⟨k, its, A9, c9, g⟩ ρ ⟨hk, hsg, hi⟩
    replace hk : k ≤ a.length := hk
    replace hsg : Sub f g := hsg
    replace hi : its.map (·.1) = (a.take k).map (swI o n) := hi
    show EW _ _ _ _ _ (ups ρ [(10, i64 k), (9, .slice A9 its.length c9), (0, str o), (1, str n), (2, .slice A a.length c)]) g (jRow A9 c9 its :: jR its)
    refine sq (sg ?_)
    refine ltE (fun h => ?_) (fun h => ?_)
    case refine_2 =>
      refine cFx ?_
      have e : k = a.length := by omega
      subst e
      rw [List.take_length] at hi
      exact jn (its, A9, c9, g) ⟨hsg, hi⟩
    have hka : k < a.length := by omega
    have hil : its.length = k := by
      have := congrArg List.length hi
      rw [List.length_map, List.length_map, List.length_take] at this
      omega
    have htk : (a.take (k + 1)).map (swI o n) = (a.take k).map (swI o n) ++ [swI o n a[k]] := by
      rw [(List.take_append_getElem hka).symm, List.map_append]; rfl
    have hxr := hr.2 _ (List.getElem_mem hka)
    obtain ⟨hxt, hxd⟩ := hr.1.2 _ (List.getElem_mem hka)
    obtain ⟨b1, o1, A3, c3, A4, c4, rfl, hc1, hn1, hr1, ht1⟩ := (ha.mono hsg).item hka
    generalize a[k] = x at htk hxr hxt hxd hc1 hn1 hr1 ht1
    obtain ⟨xs, hxs, hxc⟩ := hr1.cells
    have hxe := texts_cells hxs
    subst hxe
    generalize hJ : jRow A9 c9 its :: jR its = J
    have hq0 : (0 + x.refs.length) * 16 ≤ 140737488355328 := by omega
    refine cTs (sq (bk ?_))
    refine sA [2, 3, 4, 7, 8, 9, 11] [] (List.nil_sublist _) ?_
    refine an_takeU [0, 1, 5, 6] ?_
    refine an_takeH [2, 3, 4, 7, 8, 9] (HeldL.none (Sub.refl _)) ?_
    refine ix k hka ?_
    refine ldv hc1.1 ?_
    refine ix k hka ?_
    refine ldv hc1.2.1 ?_
    refine rw_end ?_
    refine an_have (α := Nat × Option Addr × Nat) (lsA 14 [0, 1, 2, 3, 4, 5, 6, 7, 8, 9, 10, 11, 12]) (fun s => [(11, .pointer (some ⟨s.1, 0, none⟩)), (56, .agg ⟨[str x.name, .slice s.2.1 (0 + x.refs.length) s.2.2, .slice none 0 0]⟩), (10, i64 k), (9, .slice A9 its.length c9), (0, str o), (1, str n), (2, .slice (some ⟨b1, o1, none⟩) a.length c)]) (fun _ => g) (fun s => .blk s.1 (.cells ⟨[str [], .slice none 0 0, .slice none 0 0]⟩ 44) :: .row s.2.1 (0 + x.refs.length) s.2.2 9 1 ([] ++ x.refs.map str) :: J) ?_ (fun T => ?_)
    · rintro ⟨b11, A5, c5⟩ ρ
      refine an_run1 13 ?_
      refine st 0 ?_
      refine aH (HeldL.none (Sub.refl _)) ?_
      refine an_done ?_
      refine efg [(11, .pointer (some ⟨b11, 0, none⟩)), (10, i64 k), (9, .slice A9 its.length c9), (0, str o), (1, str n), (2, .slice (some ⟨b1, o1, none⟩) a.length c)] (.blk b11 (.cells ⟨[str x.name, .slice A5 x.refs.length c5, .slice none 0 0]⟩ 44) :: sRow A5 c5 x.refs :: J) (fun ρ => ?_) (hh := by rw [Nat.zero_add, List.nil_append]; rfl)
      refine enilrow 46 3 ?_
      refine sqJ (σ := Option Addr × Nat × View) (fun t => [(11, .pointer (some ⟨b11, 0, none⟩)), (10, i64 k), (9, .slice A9 its.length c9), (0, str o), (1, str n), (2, .slice (some ⟨b1, o1, none⟩) a.length c)]) (fun t => t.2.2) (fun t => .row t.1 x.tree.length t.2.1 46 3 ((x.tree.map (swN o n)).flatMap nodeC) :: .blk b11 (.cells ⟨[str x.name, .slice A5 x.refs.length c5, .slice t.1 x.tree.length t.2.1]⟩ 44) :: sRow A5 c5 x.refs :: J) (fun t => Sub g t.2.2) ?_ ?_
      · refine sgE (bk ?_)
        refine lp (σ := Nat × Option Addr × Nat × View) (fun t => [(12, i64 t.1), (11, .pointer (some ⟨b11, 0, none⟩)), (10, i64 k), (9, .slice A9 its.length c9), (0, str o), (1, str n), (2, .slice (some ⟨b1, o1, none⟩) a.length c)]) (fun t => t.2.2.2) (fun t => .row t.2.1 t.1 t.2.2.1 46 3 (((x.tree.take t.1).map (swN o n)).flatMap nodeC) :: .blk b11 (.cells ⟨[str x.name, .slice A5 x.refs.length c5, .slice t.2.1 t.1 t.2.2.1]⟩ 44) :: sRow A5 c5 x.refs :: J) (fun t => t.1 ≤ x.tree.length ∧ Sub g t.2.2.2) (fun t => x.tree.length - t.1) (0, none, 0, g) ⟨Nat.zero_le _, Sub.refl _⟩ ?_
        rintro ⟨j, A6, c6, g3⟩ ρ ⟨hj, hs3⟩
        replace hj : j ≤ x.tree.length := hj
        replace hs3 : Sub g g3 := hs3
        show EW _ _ _ _ _ (ups ρ [(12, i64 j), (11, .pointer (some ⟨b11, 0, none⟩)), (10, i64 k), (9, .slice A9 its.length c9), (0, str o), (1, str n), (2, .slice (some ⟨b1, o1, none⟩) a.length c)]) g3 (.row A6 j c6 46 3 (((x.tree.take j).map (swN o n)).flatMap nodeC) :: .blk b11 (.cells ⟨[str x.name, .slice A5 x.refs.length c5, .slice A6 j c6]⟩ 44) :: sRow A5 c5 x.refs :: J)
        refine sq (sg ?_)
        refine ix k hka ?_
        refine ldv (Sub.cell hs3 hc1.2.2.1) ?_
        refine ltE (fun h => ?_) (fun h => ?_)
        case refine_2 =>
          refine cFx ?_
          have e : j = x.tree.length := by omega
          subst e
          exact jn (A6, c6, g3) hs3 (hh := by rw [List.take_length])
        have hjt : j < x.tree.length := by omega
        have hsn : ((x.tree.take (j + 1)).map (swN o n)).flatMap nodeC = ((x.tree.take j).map (swN o n)).flatMap nodeC ++ nodeC (swN o n x.tree[j]) := by
          rw [(List.take_append_getElem hjt).symm, List.map_append, List.flatMap_append]
          simp
        have hdl := hxd _ (List.getElem_mem hjt)
        obtain ⟨b2, o2, rfl, hc2, hn2⟩ := (ht1.mono hs3).node hjt
        generalize x.tree[j] = z at hsn hdl hc2 hn2
        generalize ((x.tree.take j).map (swN o n)).flatMap nodeC = ys at hsn
        refine cTs (sq (bk ?_))
        refine sg ?_
        refine ix k hka ?_
        refine ldv (Sub.cell hs3 hc1.2.2.1) ?_
        refine ix j hjt ?_
        refine ldvA hc2 ?_
        refine alloc fun b13 => ?_
        refine st 0 ?_
        refine runE ?_
        refine efg [(13, .pointer (some ⟨b13, 0, none⟩)), (12, i64 j), (11, .pointer (some ⟨b11, 0, none⟩)), (10, i64 k), (9, .slice A9 its.length c9), (0, str o), (1, str n), (2, .slice (some ⟨b1, o1, none⟩) a.length c)] (.blk b13 (.cells ⟨nodeC z⟩ 46) :: .row A6 j c6 46 3 ys :: .blk b11 (.cells ⟨[str x.name, .slice A5 x.refs.length c5, .slice A6 j c6]⟩ 44) :: sRow A5 c5 x.refs :: J) (fun ρ => ?_)
        refine sg ?_
        refine ldo 0 ?_
        refine callV (.tuple #[str (swS z.data o n), i64 (cnS z.data o n : Nat)]) (vs := [str z.data, str o, str n]) (fun w g h1 h2 h3 => ref25Swap h3 (by omega) ho) ?_
        refine run ?_
        refine st 0 ?_
        refine runE ?_
        refine efg [(13, .pointer (some ⟨b13, 0, none⟩)), (12, i64 j), (11, .pointer (some ⟨b11, 0, none⟩)), (10, i64 k), (9, .slice A9 its.length c9), (0, str o), (1, str n), (2, .slice (some ⟨b1, o1, none⟩) a.length c)] (.blk b13 (.cells ⟨nodeC (swN o n z)⟩ 46) :: .row A6 j c6 46 3 ys :: .blk b11 (.cells ⟨[str x.name, .slice A5 x.refs.length c5, .slice A6 j c6]⟩ 44) :: sRow A5 c5 x.refs :: J) (fun ρ => ?_)
        refine rg ?_
        refine ldo 2 ?_
        refine ldoA 0 ?_
        refine bsl fun b87 => ?_
        refine app 1 (fun A' c' => ?_) (hlim := by show (j + 1) * 40 ≤ _; omega)
        refine run ?_
        refine st 2 ?_
        refine dropH ?_
        refine runE ?_
        refine rg ?_
        refine addE ((j + 1 : Nat) : Int) ?_
        exact nxs (j + 1, A', c', g3) ⟨hjt, hs3⟩ (by show x.tree.length - (j + 1) < x.tree.length - j; omega) (hh := by rw [hsn]; rfl)
      rintro ⟨A6, c6, g3⟩ ρ hs3
      replace hs3 : Sub g g3 := hs3
      show EW _ _ _ _ _ (ups ρ [(11, .pointer (some ⟨b11, 0, none⟩)), (10, i64 k), (9, .slice A9 its.length c9), (0, str o), (1, str n), (2, .slice (some ⟨b1, o1, none⟩) a.length c)]) g3 (.row A6 x.tree.length c6 46 3 ((x.tree.map (swN o n)).flatMap nodeC) :: .blk b11 (.cells ⟨[str x.name, .slice A5 x.refs.length c5, .slice A6 x.tree.length c6]⟩ 44) :: sRow A5 c5 x.refs :: J)
      subst hJ
      have hlen : (x.tree.map (swN o n)).length = x.tree.length := List.length_map _
      obtain ⟨r, hr0, hr1, hr2, hr3⟩ : ∃ r : JI, r.1 = swI o n x ∧ jC r = [str x.name, .slice A5 x.refs.length c5, .slice A6 x.tree.length c6] ∧ jN r = .row A6 x.tree.length c6 46 3 ((x.tree.map (swN o n)).flatMap nodeC) ∧ jS r = sRow A5 c5 x.refs := by
        refine ⟨(swI o n x, A5, c5, A6, c6), rfl, ?_, ?_, rfl⟩
        · show [_, _, Value.slice A6 (x.tree.map (swN o n)).length c6] = _
          rw [hlen]; rfl
        · show HE.row A6 (x.tree.map (swN o n)).length c6 46 3 _ = _
          rw [hlen]; rfl
      rw [← hr1, ← hr2, ← hr3]
      refine rg ?_
      refine ldoA 1 ?_
      refine bsl fun b92 => ?_
      refine app 3 (fun A' c' => ?_) (hlim := by show (its.length + 1) * 64 ≤ _; omega)
      refine req (jN r :: .blk b11 (.cells ⟨jC r⟩ 44) :: jS r :: .row A' (its.length + 1) c' 44 3 (its.flatMap jC ++ jC r) :: jR its) ?_
      have hrow : HE.row A' (its.length + 1) c' 44 3 (its.flatMap jC ++ jC r) = jRow A' c' (its ++ [r]) := by
        unfold jRow
        rw [List.length_append, List.flatMap_append]
        simp
      rw [hrow]
      refine rwL (L' := jN r :: jS r :: jRow A' c' (its ++ [r]) :: jR its) (fun _ h => h.sublist (.cons_cons _ (.cons _ (List.Sublist.refl _)))) ?_
      refine rperm (L' := jRow A' c' (its ++ [r]) :: jR (its ++ [r])) ?_ ?_
      · rw [jR_append]
        exact (List.Perm.swap _ _ _).trans (List.perm_append_comm (l₁ := [jS r, jN r]) (l₂ := jRow A' c' (its ++ [r]) :: jR its))
      refine runE ?_
      refine rg ?_
      refine addE ((k + 1 : Nat) : Int) ?_
      refine nxs (k + 1, its ++ [r], A', c', g3) ⟨hka, hsg.trans hs3, ?_⟩ (by show a.length - (k + 1) < a.length - k; omega) (ha := ⟨rfl, ?_, rfl, rfl, rfl, trivial⟩)
      · show (its ++ [r]).map (·.1) = (a.take (k + 1)).map (swI o n)
        rw [List.map_append, hi, htk, ← hr0]; rfl
      · show Value.slice A' (its.length + 1) c' = Value.slice A' (its ++ [r]).length c'
        rw [List.length_append]; rfl
    have hrl : (x.refs.map str).length = x.refs.length * 1 := by simp
    have hro : ∀ u ∈ x.refs.map str, u.oneCell' = true := fun u hu => by
      obtain ⟨q, _, rfl⟩ := List.mem_map.1 hu
      rfl
    refine an_run2 10 12 ?_ ?_
    · refine nilrow 9 1 ?_
      refine appV 0 (nn := 0) (c := 0) (mm := x.refs.length) hrl hxc hro (fun A5 c5 => ?_) (hlim := hq0)
      refine aH (HeldL.none (Sub.refl _)) ?_
      refine an_takeH [11] (HeldL.none (Sub.refl _)) ?_
      refine bld ?_
      refine rw_end ?_
      refine an_run1 12 ?_
      refine alloc fun b11 => ?_
      refine aH (HeldL.none (Sub.refl _)) ?_
      exact an_use T (b11, A5, c5)
    · refine alloc fun b11 => ?_
      refine aH (HeldL.none (Sub.refl _)) ?_
      refine an_run1 10 ?_
      refine nilrow 9 1 ?_
      refine appV 0 (nn := 0) (c := 0) (mm := x.refs.length) hrl hxc hro (fun A5 c5 => ?_) (hlim := hq0)
      refine aH (HeldL.none (Sub.refl _)) ?_
      refine an_takeH [11] (HeldL.none (Sub.refl _)) ?_
      refine bld ?_
      refine rw_end ?_
      refine an_perm (.swap _ _ _) ?_
      exact an_use T (b11, A5, c5)
  rintro ⟨its, A9, c9, g⟩ ρ ⟨hsg, hi⟩
  replace hsg : Sub f g := hsg
  replace hi : its.map (·.1) = a.map (swI o n) := hi
  show EW _ _ _ _ _ (ups ρ [(9, .slice A9 its.length c9), (1, str n)]) g (jRow A9 c9 its :: jR its)
  have hil : its.length = a.length := by
    have := congrArg List.length hi
    rwa [List.length_map, List.length_map] at this
  have hbi : ∀ r ∈ its, ItB r.1 := fun r hr2 => by
    have h5 : r.1 ∈ its.map (·.1) := List.mem_map.2 ⟨r, hr2, rfl⟩
    rw [hi] at h5
    obtain ⟨x, hx, e⟩ := List.mem_map.1 h5
    rw [← e]
    exact itB_sw (hib x hx) o n
  refine sq (sg ?_)
  refine callV (i64 (valE n (a.map (swI o n)))) (vs := [str n, .slice A9 its.length c9]) (fun w g' h1 h2 h3 => ?_) ?_
  · have h5 := ref9Validate h3 hnL (jRow_sl (h2 _ (.head _)) (fun e he => h2 e (.tail _ he)) hbi (by unfold LB; omega))
    rw [List.length_map, hi] at h5
    exact h5
  refine neIE (fun h5 => ?_) (fun h5 => ?_)
  · refine cT (sgE ?_)
    refine ewL (L' := []) (fun _ h => h.sublist (List.nil_sublist _)) ?_
    refine enilrow 44 3 ?_
    refine ew_ret ?_
    exact ret2M (hnil 8 (by unfold toE; rw [if_neg h1, if_neg hno, if_neg hno2, if_pos h5]) (by decide))
  · have h0 : toE o n a = 0 := toE_zero.2 ⟨h1', h2, h3', h4, Classical.not_not.1 h5⟩
    refine cFs (sgE ?_)
    refine ew_ret ?_
    exact ret2M ⟨its, A9, c9, by rw [toR_zero h0]; exact hi, by rw [h0], rfl⟩
end Go.Hog
