/- Contracts: reloc.swapped, reloc.To. -/
import Derived.Test.YtdidefhdcinecaaGreatDoorF64
import Derived.Test.YtdidefhdcinecaaGreatDoorCJ
import Derived.Test.YtdidefhdcinecaaGreatDoorCC
import Derived.Test.YtdidefhdcinecaaGreatDoorEZ
import Derived.Test.YtdidefhdcinecaaGreatDoorEY
set_option linter.unusedVariables false
set_option linter.unusedSimpArgs false
set_option maxRecDepth 100000
set_option maxHeartbeats 1000000
namespace Go.Hog
open Go.RowKit Rp Go.Proofs
/-- A tree of which so many nodes are swapped. -/
def tkN (o n : Str) (t : List Node) (k : Nat) : List Node := (t.take k).map (swN o n) ++ t.drop k
theorem tkN_len (o n : Str) (t : List Node) (k : Nat) : (tkN o n t k).length = t.length := by
  unfold tkN
  rw [List.length_append, List.length_map, List.length_take, List.length_drop]
  omega
theorem tkN_get {o n : Str} {t : List Node} {k : Nat} (h : k < t.length) : (tkN o n t k)[k]'(by rw [tkN_len]; exact h) = t[k] := by
  unfold tkN
  rw [List.getElem_append_right (by rw [List.length_map, List.length_take]; omega)]
  simp only [List.getElem_drop, List.length_map, List.length_take]
  congr 1
  omega
theorem tkN_set {o n : Str} {t : List Node} {k : Nat} (h : k < t.length) : (tkN o n t k).set k (swN o n t[k]) = tkN o n t (k + 1) := by
  unfold tkN
  have hl : ((t.take k).map (swN o n)).length = k := by rw [List.length_map, List.length_take]; omega
  rw [List.set_append_right _ _ (by omega), hl, Nat.sub_self, List.drop_eq_getElem_cons h, List.set_cons_zero, (List.take_append_getElem h).symm, List.map_append]
  simp
theorem tkN_zero (o n : Str) (t : List Node) : tkN o n t 0 = t := by simp [tkN]
theorem tkN_full (o n : Str) (t : List Node) : tkN o n t t.length = t.map (swN o n) := by simp [tkN]
theorem nodeC_len (x : Node) : (nodeC x).length = 3 := rfl
theorem relocSwapped {w : World} {f : View} (hv : On f w) (hm : ML f) {x : Item} {A1 A2 : Option Addr} {c1 c2 : Nat} {o n : Str} (hr : Sl f A1 c1 x.refs) (ht : Sl f A2 c2 x.tree) (h1 : x.refs.length ≤ 1000000) (h2 : x.tree.length ≤ 1000000) (h3 : ∀ z ∈ x.tree, z.data.length ≤ 1000000) :
    Con Tryz.prog 27 [.agg ⟨itemC x A1 c1 A2 c2⟩, str o, str n] w (RetM w f [] fun _ L' v => ∃ r : JI, r.1 = swI o n x ∧ v = .agg ⟨jC r⟩ ∧ L' = [jS r, jN r]) := by
  refine enterM (L := []) hv (Given.nil _ _) Tryz.call27 Tryz.func27 ?_
  refine sg ?_
  refine box (vs := itemC x A1 c1 A2 c2) fun b3 => ?_
  refine alloc fun b6 => ?_
  refine runE ?_
  refine sg ?_
  refine ldoA 1 ?_
  refine callM (vs := [.agg ⟨itemC x A1 c1 A2 c2⟩]) [] [.blk b6 (.cells ⟨[str [], .slice none 0 0, .slice none 0 0]⟩ 44), .blk b3 (.cells ⟨itemC x A1 c1 A2 c2⟩ 44)] (fun w hon hgi => itemOwn hon hr ht h1 h2) (fun v g1 L' hs1 hR => ?_)
  obtain ⟨B1, d1, B2, d2, rfl, rfl⟩ := hR
  refine alloc fun b7 => ?_
  refine st 0 ?_
  refine rfrz 0 fun g2 hs2 hq => ?_
  have k7 : Cells g2 b7 0 (itemC x B1 d1 B2 d2) := ⟨blk_seen hq, blk_seen hq, blk_seen hq, trivial⟩
  refine runE ?_
  refine efg [(7, .pointer (some ⟨b7, 0, none⟩)), (6, .pointer (some ⟨b6, 0, none⟩)), (1, str o), (2, str n)] [nRow B2 d2 x.tree, sRow B1 d1 x.refs, .blk b6 (.cells ⟨[str [], .slice none 0 0, .slice none 0 0]⟩ 44), .blk b3 (.cells ⟨itemC x A1 c1 A2 c2⟩ 44)] (fun ρ => ?_)
  refine ewL (L' := [nRow B2 d2 x.tree, sRow B1 d1 x.refs, .blk b6 (.cells ⟨[str [], .slice none 0 0, .slice none 0 0]⟩ 44)]) (fun _ h => h.sublist (.cons_cons _ (.cons_cons _ (.cons_cons _ (List.nil_sublist _))))) ?_
  have hm2 := hm.mono (hs1.trans hs2)
  refine sqJ (σ := View) (fun _ => [(7, .pointer (some ⟨b7, 0, none⟩)), (6, .pointer (some ⟨b6, 0, none⟩))]) (fun g => g) (fun _ => [.row B2 x.tree.length d2 46 3 ((x.tree.map (swN o n)).flatMap nodeC), sRow B1 d1 x.refs, .blk b6 (.cells ⟨[str [], .slice none 0 0, .slice none 0 0]⟩ 44)]) (fun g => Sub g2 g) ?_ ?_
  case refine_2 =>
    rintro g ρ hsg
    replace hsg : Sub g2 g := hsg
    refine sg ?_
    refine ldvA (k7.mono hsg) ?_
    refine stE 2 ?_
    refine ew_ret ?_
    have hl : (x.tree.map (swN o n)).length = x.tree.length := List.length_map _
    refine retA1M 2 (cs := itemC x B1 d1 B2 d2) [sRow B1 d1 x.refs, .row B2 x.tree.length d2 46 3 ((x.tree.map (swN o n)).flatMap nodeC)] (fun _ h => (h.sublist (.cons_cons _ (.cons_cons _ (List.nil_sublist _)))).perm (.swap _ _ _)) ?_
    refine ⟨(swI o n x, B1, d1, B2, d2), rfl, ?_, ?_⟩
    · have e : itemC (swI o n x) B1 d1 B2 d2 = itemC x B1 d1 B2 d2 := by
        show [_, _, Value.slice B2 (x.tree.map (swN o n)).length d2] = _
        rw [hl]; rfl
      show _ = Value.agg ⟨itemC (swI o n x) B1 d1 B2 d2⟩
      rw [e]
    · show _ = [sRow B1 d1 x.refs, HE.row B2 (x.tree.map (swN o n)).length d2 46 3 _]
      rw [hl]; rfl
  refine sg ?_
  refine ldv k7.2.2.1 ?_
  refine runE ?_
  refine bk ?_
  refine lp (σ := Nat × View) (fun t => [(15, i64 t.1), (14, i64 (x.tree.length : Nat)), (13, .slice B2 x.tree.length d2), (7, .pointer (some ⟨b7, 0, none⟩)), (6, .pointer (some ⟨b6, 0, none⟩)), (1, str o), (2, str n)]) (fun t => t.2) (fun t => [.row B2 x.tree.length d2 46 3 ((tkN o n x.tree t.1).flatMap nodeC), sRow B1 d1 x.refs, .blk b6 (.cells ⟨[str [], .slice none 0 0, .slice none 0 0]⟩ 44)]) (fun t => t.1 ≤ x.tree.length ∧ Sub g2 t.2) (fun t => x.tree.length - t.1) (0, g2) ⟨Nat.zero_le _, Sub.refl _⟩ ?_ (hh := by rw [tkN_zero]; rfl)
  rintro ⟨k, g3⟩ ρ ⟨hk, hs3⟩
  replace hk : k ≤ x.tree.length := hk
  replace hs3 : Sub g2 g3 := hs3
  show EW _ _ _ _ _ (ups ρ [(15, i64 k), (14, i64 (x.tree.length : Nat)), (13, .slice B2 x.tree.length d2), (7, .pointer (some ⟨b7, 0, none⟩)), (6, .pointer (some ⟨b6, 0, none⟩)), (1, str o), (2, str n)]) g3 [.row B2 x.tree.length d2 46 3 ((tkN o n x.tree k).flatMap nodeC), sRow B1 d1 x.refs, .blk b6 (.cells ⟨[str [], .slice none 0 0, .slice none 0 0]⟩ 44)]
  refine sg ?_
  refine ltE (fun h => ?_) (fun h => ?_)
  case refine_2 =>
    refine sq (cFx ?_)
    have e : k = x.tree.length := by omega
    subst e
    exact jn g3 hs3 (hh := by show [HE.row _ _ _ _ _ _, _, _] = _; rw [tkN_full])
  have h4 : k < x.tree.length := by omega
  refine erowF 0 fun hrow => ?_
  obtain ⟨bt, rfl⟩ := hrow.2.2.2.1 (by omega)
  have hxl := hrow.1
  have hgk : k < (tkN o n x.tree k).length := by rw [tkN_len]; exact h4
  have hcell : ∀ (j : Nat) (v : Value), (nodeC x.tree[k])[j]? = some v → ((tkN o n x.tree k).flatMap nodeC)[0 + k * 3 + j]? = some v := fun j v hj => by
    have hj3 : j < 3 := by
      have := (List.getElem?_eq_some_iff.1 hj).1
      rwa [nodeC_len] at this
    rw [Nat.zero_add, flat_cell nodeC_len _ k j hgk hj3, tkN_get h4]
    exact hj
  have hput : putL ((tkN o n x.tree k).flatMap nodeC) (0 + k * 3 + 2) [str (swS x.tree[k].data o n)] = (tkN o n x.tree (k + 1)).flatMap nodeC := by
    rw [← tkN_set h4, Nat.zero_add]
    exact flat_putAt nodeC_len _ k 2 _ _ hgk (by show 2 + 1 ≤ 3; decide) (by rw [tkN_get h4]; rfl)
  have hdl := h3 _ (List.getElem_mem h4)
  generalize x.tree[k] = z at hcell hput hdl
  generalize (tkN o n x.tree k).flatMap nodeC = xs at hcell hput hxl
  refine sq (cTs (sq (bk (sg ?_))))
  refine ix k h4 ?_
  refine ldrA 0 (vs := nodeC z) hcell ?_
  refine alloc fun b9 => ?_
  refine st 0 ?_
  refine rfrz 0 fun g4 hs4 hq9 => ?_
  have k9 : g4.cell? ⟨b9, 2, none⟩ = some (str z.data) := blk_seen hq9
  have k72 : g4.cell? ⟨b7, 2, none⟩ = some (.slice (some ⟨bt, 0, none⟩) x.tree.length d2) := Sub.cell (hs3.trans hs4) k7.2.2.1
  have hm4 := hm2.mono (hs3.trans hs4)
  refine runE ?_
  refine efg [(9, .pointer (some ⟨b9, 0, none⟩)), (8, i64 k), (15, i64 k), (14, i64 (x.tree.length : Nat)), (13, .slice (some ⟨bt, 0, none⟩) x.tree.length d2), (7, .pointer (some ⟨b7, 0, none⟩)), (6, .pointer (some ⟨b6, 0, none⟩)), (1, str o), (2, str n)] [.row (some ⟨bt, 0, none⟩) x.tree.length d2 46 3 xs, sRow B1 d1 x.refs, .blk b6 (.cells ⟨[str [], .slice none 0 0, .slice none 0 0]⟩ 44)] (fun ρ => ?_)
  refine eA [1, 4] [] (List.nil_sublist _) ?_
  refine an_takeU [0, 2, 3, 5, 6] ?_
  refine an_takeH [1, 4] (HeldL.none (Sub.refl _)) ?_
  refine ldv k72 ?_
  refine ldv k9 ?_
  refine rw_end ?_
  refine an_run1 7 ?_
  refine callV (.tuple #[str (swS z.data o n), i64 (cnS z.data o n : Nat)]) (vs := [str z.data, str o, str n]) (fun w g h1 h2 h3 => relocSwap h3 (hm4.mono h1) hdl) ?_
  refine aH (HeldL.none (Sub.refl _)) ?_
  refine an_takeU [8, 9, 10] ?_
  refine an_run1 11 ?_
  refine ix k h4 ?_
  refine aH (HeldL.none (Sub.refl _)) ?_
  refine an_takeU [12] ?_
  refine an_run1 13 ?_
  refine stR 0 (o := 0 + k * 3 + 2) (vs := [str (swS z.data o n)]) (xs := xs) (show 0 + k * 3 + 2 + 1 ≤ xs.length by rw [hxl]; omega) ?_
  refine aH (HeldL.none (Sub.refl _)) ?_
  refine an_done ?_
  refine rg ?_
  refine addE ((k + 1 : Nat) : Int) ?_
  exact nxs (k + 1, g4) ⟨h4, hs3.trans hs4⟩ (by show x.tree.length - (k + 1) < x.tree.length - k; omega) (hh := by rw [← hput]; rfl)
/-- How much there is, of references too. -/
def Room3 (a : List Item) : Prop := Room a ∧ ∀ x ∈ a, x.refs.length ≤ 1000
theorem itB_sw {x : Item} (h : ItB x) (o n : Str) : ItB (swI o n x) := ⟨h.name, h.refsN, h.refs, by show (x.tree.map (swN o n)).length ≤ LB; rw [List.length_map]; exact h.treeN, fun z hz => by
  obtain ⟨y, hy, rfl⟩ := List.mem_map.1 hz
  obtain ⟨h1, h2, h3, h4⟩ := h.tree y hy
  exact ⟨h1, by show (swS y.data o n).length ≤ LB; rw [swS_len]; exact h2, h3, h4⟩⟩
theorem jR_rp {g : View} : ∀ (l : List JI), (∀ e ∈ jR l, e.seen g) → (∀ r ∈ l, ItB r.1) → Rw g (l.map (·.1)) (l.flatMap jC)
  | [], _, _ => Rw.nil g
  | r :: l, h, hb => by
    have h1 : rp g r.1 (jC r) := jC_rp (h _ (.head _)) (h _ (.tail _ (.head _))) (hb r (.head _))
    exact (Rw.one h1).append (jR_rp l (fun e he => h e (.tail _ (.tail _ he))) fun r2 hr2 => hb r2 (.tail _ hr2))
theorem jRow_sl {g : View} {A : Option Addr} {c : Nat} {l : List JI} (h0 : (jRow A c l).seen g) (h : ∀ e ∈ jR l, e.seen g) (hb : ∀ r ∈ l, ItB r.1) (hl : l.length ≤ LB) : Sl g A c (l.map (·.1)) :=
  (jR_rp l h hb).sl h0 (by rw [List.length_map]) (by rw [List.length_map]; exact hl)
/-- What To answers. -/
def toV (o n : Str) (a : List Item) (L' : List HE) (v : Value) : Prop := ∃ its : List JI, ∃ A c, its.map (·.1) = toR o n a ∧ v = .tuple #[.slice A its.length c, i64 (toE o n a)] ∧ L' = jRow A c its :: jR its
theorem relocTo {w : World} {f : View} (hv : On f w) (hm : ML f) {o n : Str} (ho : o.length ≤ LB) (hn : n.length ≤ LB) {A : Option Addr} {c : Nat} {a : List Item} (ha : Sl f A c a) (hr : Room3 a) :
    Con Tryz.prog 11 [str o, str n, .slice A a.length c] w (RetM w f [] fun _ => toV o n a) := by
  refine enterM (L := []) hv (Given.nil _ _) Tryz.call11 Tryz.func11 ?_
  have hlim := ha.len_lt
  have hnil : ∀ e : Int, toE o n a = e → e ≠ 0 → toV o n a [.row none 0 0 44 3 []] (.tuple #[.slice none 0 0, i64 e]) := fun e h1 h2 =>
    ⟨[], none, 0, by rw [toR_bad (by rw [h1]; exact h2)]; rfl, by rw [h1]; rfl, rfl⟩
  refine sgE ?_
  refine sq (sg ?_)
  refine callV (i64 (valE o a)) (vs := [str o, .slice A a.length c]) (fun w g h1 h2 h3 => closureValidate h3 (hm.mono h1) ho (ha.mono h1)) ?_
  refine runE ?_
  refine sg ?_
  refine neIE (fun h1 => ?_) (fun h1 => ?_)
  · refine cT (sgE ?_)
    refine enilrow 44 3 ?_
    refine ew_ret ?_
    exact ret2M (hnil (valE o a) (by unfold toE; rw [if_pos h1]) h1)
  have h1' : valE o a = 0 := Classical.not_not.1 h1
  refine cFs ?_
  refine efg [(0, str o), (1, str n), (2, .slice A a.length c)] [] (fun ρ => ?_)
  refine sqJ (σ := Unit) (fun _ => [(0, str o), (1, str n), (2, .slice A a.length c)]) (fun _ => f) (fun _ => []) (fun _ => prefixOk n ∧ n.length = o.length ∧ (n ≠ o → cntI n a = 0)) ?_ ?_
  · refine bk (sg ?_)
    refine callB (p := prefixOk n) (vs := [str n]) (fun w g h1 h2 h3 => closurePrefix h3 (hm.mono h1) hn) (fun h2 => ?_) (fun h2 => ?_)
    case refine_2 =>
      refine runE ?_
      refine cT (sgE ?_)
      refine enilrow 44 3 ?_
      refine ew_ret ?_
      exact ret2M (hnil 11 (by unfold toE; rw [if_neg h1, if_pos (.inl h2)]) (by decide))
    refine neI (fun h3 => ?_) (fun h3 => ?_)
    · refine runE ?_
      refine cT (sgE ?_)
      refine enilrow 44 3 ?_
      refine ew_ret ?_
      exact ret2M (hnil 11 (by unfold toE; rw [if_neg h1, if_pos (.inr fun e => h3 (by rw [e]))]) (by decide))
    have h3' : n.length = o.length := by omega
    have hno : ¬ (¬ prefixOk n ∨ n.length ≠ o.length) := by rintro (h | h); exact h h2; exact h h3'
    refine runE ?_
    refine cF (sg ?_)
    refine neS (fun h4 => ?_) (fun h4 => ?_)
    case refine_2 =>
      refine runE ?_
      refine cFs ?_
      exact jn () ⟨h2, h3', fun h => absurd h h4⟩
    refine callV (i64 (cntI n a : Nat)) (vs := [.slice A a.length c, str n]) (fun w g h1 h2 h3 => relocCount h3 (hm.mono h1) (ha.mono h1) hr.1) ?_
    refine gt (fun h5 => ?_) (fun h5 => ?_)
    · refine runE ?_
      refine cT (sgE ?_)
      refine enilrow 44 3 ?_
      refine ew_ret ?_
      exact ret2M (hnil 9 (by unfold toE; rw [if_neg h1, if_neg hno, if_pos ⟨h4, by omega⟩]) (by decide))
    · refine runE ?_
      refine cFs ?_
      exact jn () ⟨h2, h3', fun _ => by omega⟩
  rintro ⟨⟩ ρ ⟨h2, h3, h4⟩
  have hno : ¬ (¬ prefixOk n ∨ n.length ≠ o.length) := by rintro (h | h); exact h h2; exact h h3
  have hno2 : ¬ (n ≠ o ∧ 0 < cntI n a) := by rintro ⟨h5, h6⟩; rw [h4 h5] at h6; omega
  have h8 : a.length ≤ 8 := (valE_zero.1 h1').len
  have hib := ha.itB
  refine sgE ?_
  refine enilrow 44 3 ?_
  refine sqJ (σ := List JI × Option Addr × Nat × View) (fun t => [(9, .slice t.2.1 t.1.length t.2.2.1), (1, str n)]) (fun t => t.2.2.2) (fun t => jRow t.2.1 t.2.2.1 t.1 :: jR t.1) (fun t => Sub f t.2.2.2 ∧ t.1.map (·.1) = a.map (swI o n)) ?_ ?_
  · refine sgE (bk ?_)
    refine lp (σ := Nat × List JI × Option Addr × Nat × View) (fun t => [(41, i64 t.1), (40, i64 (a.length : Nat)), (39, .slice A a.length c), (9, .slice t.2.2.1 t.2.1.length t.2.2.2.1), (0, str o), (1, str n)]) (fun t => t.2.2.2.2) (fun t => jRow t.2.2.1 t.2.2.2.1 t.2.1 :: jR t.2.1) (fun t => t.1 ≤ a.length ∧ Sub f t.2.2.2.2 ∧ t.2.1.map (·.1) = (a.take t.1).map (swI o n)) (fun t => a.length - t.1) (0, [], none, 0, f) ⟨Nat.zero_le _, Sub.refl _, rfl⟩ ?_
    rintro ⟨k, its, A9, c9, g⟩ ρ ⟨hk, hsg, hi⟩
    replace hk : k ≤ a.length := hk
    replace hsg : Sub f g := hsg
    replace hi : its.map (·.1) = (a.take k).map (swI o n) := hi
    show EW _ _ _ _ _ (ups ρ [(41, i64 k), (40, i64 (a.length : Nat)), (39, .slice A a.length c), (9, .slice A9 its.length c9), (0, str o), (1, str n)]) g (jRow A9 c9 its :: jR its)
    refine sg ?_
    refine ltE (fun h => ?_) (fun h => ?_)
    case refine_2 =>
      refine sq (cFx ?_)
      have e : k = a.length := by omega
      subst e
      rw [List.take_length] at hi
      exact jn (its, A9, c9, g) ⟨hsg, hi⟩
    have hka : k < a.length := by omega
    have hil : its.length = k := by
      have := congrArg List.length hi
      rw [List.length_map, List.length_map, List.length_take] at this
      omega
    have htk : (a.take (k + 1)).map (swI o n) = (a.take k).map (swI o n) ++ [swI o n a[k]] := by
      rw [(List.take_append_getElem hka).symm, List.map_append]; rfl
    have hxr := hr.2 _ (List.getElem_mem hka)
    obtain ⟨hxt, hxd⟩ := hr.1.2 _ (List.getElem_mem hka)
    obtain ⟨b1, o1, A3, c3, A4, c4, rfl, hc1, hn1, hr1, ht1⟩ := (ha.mono hsg).item hka
    generalize a[k] = x at htk hxr hxt hxd hc1 hn1 hr1 ht1
    refine sq (cTs (sq (bk (sg ?_))))
    refine ix k hka ?_
    refine ldvA hc1 ?_
    refine alloc fun b11 => ?_
    refine st 0 ?_
    refine rfrz 0 fun g2 hs2 hq => ?_
    have k11 : Cells g2 b11 0 (itemC x A3 c3 A4 c4) := ⟨blk_seen hq, blk_seen hq, blk_seen hq, trivial⟩
    refine runE ?_
    refine efg [(11, .pointer (some ⟨b11, 0, none⟩)), (41, i64 k), (40, i64 (a.length : Nat)), (39, .slice (some ⟨b1, o1, none⟩) a.length c), (9, .slice A9 its.length c9), (0, str o), (1, str n)] (jRow A9 c9 its :: jR its) (fun ρ => ?_)
    refine rg ?_
    refine ldvA k11 ?_
    refine callM (vs := [.agg ⟨itemC x A3 c3 A4 c4⟩, str o, str n]) [] (jRow A9 c9 its :: jR its) (fun w hon hgi => relocSwapped hon (hm.mono (hsg.trans hs2)) (hr1.mono hs2) (ht1.mono hs2) (by omega) (by omega) (fun z hz => by have := hxd z hz; omega)) (fun v g3 L' hs3 hR => ?_)
    obtain ⟨r, hr0, rfl, rfl⟩ := hR
    refine bsl fun b50 => ?_
    refine app 2 (fun A' c' => ?_) (hlim := by show (its.length + 1) * 64 ≤ _; omega)
    refine req (jS r :: jN r :: .row A' (its.length + 1) c' 44 3 (its.flatMap jC ++ jC r) :: jR its) ?_
    have hrow : HE.row A' (its.length + 1) c' 44 3 (its.flatMap jC ++ jC r) = jRow A' c' (its ++ [r]) := by
      unfold jRow
      rw [List.length_append, List.flatMap_append]
      simp
    rw [hrow]
    refine rperm (L' := jRow A' c' (its ++ [r]) :: jR (its ++ [r])) ?_ ?_
    · rw [jR_append]
      exact List.perm_append_comm (l₁ := [jS r, jN r]) (l₂ := jRow A' c' (its ++ [r]) :: jR its)
    refine runE ?_
    refine rg ?_
    refine addE ((k + 1 : Nat) : Int) ?_
    refine nxs (k + 1, its ++ [r], A', c', g3) ⟨hka, (hsg.trans hs2).trans hs3, ?_⟩ (by show a.length - (k + 1) < a.length - k; omega) (ha := ⟨rfl, rfl, rfl, ?_, rfl, rfl, trivial⟩)
    · show (its ++ [r]).map (·.1) = (a.take (k + 1)).map (swI o n)
      rw [List.map_append, hi, htk, ← hr0]; rfl
    · show Value.slice A' (its.length + 1) c' = Value.slice A' (its ++ [r]).length c'
      rw [List.length_append]; rfl
  rintro ⟨its, A9, c9, g⟩ ρ ⟨hsg, hi⟩
  replace hsg : Sub f g := hsg
  replace hi : its.map (·.1) = a.map (swI o n) := hi
  show EW _ _ _ _ _ (ups ρ [(9, .slice A9 its.length c9), (1, str n)]) g (jRow A9 c9 its :: jR its)
  have hil : its.length = a.length := by
    have := congrArg List.length hi
    rwa [List.length_map, List.length_map] at this
  have hbi : ∀ r ∈ its, ItB r.1 := fun r hr2 => by
    have h5 : r.1 ∈ its.map (·.1) := List.mem_map.2 ⟨r, hr2, rfl⟩
    rw [hi] at h5
    obtain ⟨x, hx, e⟩ := List.mem_map.1 h5
    rw [← e]
    exact itB_sw (hib x hx) o n
  refine sq (sg ?_)
  refine callV (i64 (valE n (a.map (swI o n)))) (vs := [str n, .slice A9 its.length c9]) (fun w g' h1 h2 h3 => ?_) ?_
  · have h5 := closureValidate h3 (hm.mono (hsg.trans h1)) hn (jRow_sl (h2 _ (.head _)) (fun e he => h2 e (.tail _ he)) hbi (by unfold LB; omega))
    rw [List.length_map, hi] at h5
    exact h5
  refine neIE (fun h5 => ?_) (fun h5 => ?_)
  · refine cT (sgE ?_)
    refine ewL (L' := []) (fun _ h => h.sublist (List.nil_sublist _)) ?_
    refine enilrow 44 3 ?_
    refine ew_ret ?_
    exact ret2M (hnil 8 (by unfold toE; rw [if_neg h1, if_neg hno, if_neg hno2, if_pos h5]) (by decide))
  · have h0 : toE o n a = 0 := toE_zero.2 ⟨h1', h2, h3, h4, Classical.not_not.1 h5⟩
    refine cFs (sgE ?_)
    refine ew_ret ?_
    exact ret2M ⟨its, A9, c9, by rw [toR_zero h0]; exact hi, by rw [h0], rfl⟩
end Go.Hog
