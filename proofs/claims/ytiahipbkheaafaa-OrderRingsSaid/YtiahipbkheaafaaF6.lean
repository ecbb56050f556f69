/- Contracts: the order. -/
import Derived.Test.YtiahipbkheaafaaF5
import Derived.Test.YtiahipbkheaafaaS4
set_option linter.unusedVariables false
set_option linter.unusedSimpArgs false
set_option maxRecDepth 100000
set_option maxHeartbeats 1000000
namespace Go.Hog
open Go.RowKit Rp Go.Proofs

def ofR (a : List Item) (g : View) (L' : List HE) (v : Value) : Prop :=
  ∃ A c, v = .tuple #[.slice A ((refOf a).getD []).length c, .bool (refOf a).isSome] ∧ L' = [.row A ((refOf a).getD []).length c 9 1 (((refOf a).getD []).map str)]
theorem ofR_none {a : List Item} {g : View} (h : refOf a = none) : ofR a g [.row none 0 0 9 1 []] (.tuple #[.slice none 0 0, .bool false]) := by
  unfold ofR; rw [h]; exact ⟨none, 0, rfl, rfl⟩
def gI (cnt : Str → Int) (s : Str) : Value := i64 (cnt s)
theorem gI_upd (ns : List Str) (cnt : Str → Int) (b : Str) (x : Int) : mapF ns (updF (gI cnt) b (i64 x)) = mapF ns (gI fun s => if s = b then x else cnt s) := mapF_congr fun s _ => by
  unfold updF gI
  by_cases h : s = b <;> simp [h]
structure OS where
  o : List Str
  A9 : Option Addr
  c9 : Nat
  cnt : Str → Int
  hl : List Str
  A6 : Option Addr
  c6 : Nat
  v : View
structure IS where
  m : Nat
  cnt : Str → Int
  hl : List Str
  A6 : Option Addr
  c6 : Nat
  v : View
theorem rowS {A : Option Addr} {c : Nat} {e : TypeId} {l : List Str} {x : Str} : HE.row A (l.length + 1) c e 1 (l.map str ++ [str x]) = HE.row A (l ++ [x]).length c e 1 ((l ++ [x]).map str) := by simp
theorem perm_last {α : Type} (x m : α) (l : List α) : List.Perm (x :: (l ++ [m])) (l ++ [m, x]) := by
  rw [show l ++ [m, x] = (l ++ [m]) ++ [x] by simp]
  exact (List.perm_append_singleton _ _).symm
theorem orderOf {w : World} {f : View} (hv : On f w) {A : Option Addr} {c : Nat} {a : List Item} (ha : Sl f A c a) (hfit : Fit a) :
    Con Try.prog 9 [.slice A a.length c] w (RetM w f [] (ofR a)) := by
  refine enterM (L := []) hv (Given.nil _ _) Try.call9 Try.func9 ?_
  have hlim := ha.len_lt
  have hsm := hfit.1
  refine sgE ?_
  refine sg ?_
  refine callM0 [] (fun w hon hgi => made hon ha hfit) (fun v g L' hs hR => ?_)
  unfold madeR at hR
  by_cases hnd : (names a).Nodup
  case neg =>
    rw [if_neg hnd] at hR
    obtain ⟨rfl, rfl⟩ := hR
    refine runE ?_
    refine sq (sgE ?_)
    refine cT ?_
    refine enilrow 9 1 ?_
    refine rr ?_
    refine ret2M ?_
    exact ofR_none (by unfold refOf; rw [if_neg hnd])
  rw [if_pos hnd] at hR
  obtain ⟨b, bo, bb, Ab, cb, rfl, rfl, hg0, hg1, hbk, hsl⟩ := hR
  refine runE ?_
  refine sq (sgE ?_)
  refine cFs ?_
  refine sg ?_
  refine bsl0 fun b3 => ?_
  refine box fun b6 => ?_
  refine runE ?_
  have H := readyC b6
  refine sqJ (σ := (List Str × Option Addr × Nat) × View) (fun _ => [(6, .pointer (some ⟨b6, 0, none⟩)), (4, .pointer (some ⟨b, 0, none⟩)), (0, .slice A a.length c)]) (fun s => s.2) (fun s => robj b6 s.1.1 s.1.2.1 s.1.2.2 ++ [HE.mp bo (mapF (names a) (gCn (edges a a.length)))])
    (fun s => Sub g s.2 ∧ Hp (fun x y : Str => x < y) s.1.1.length s.1.1 ∧ s.1.1.Nodup ∧ ∀ x, x ∈ s.1.1 ↔ x ∈ names a ∧ cntE (edges a a.length) x = 0) ?_ ?_
  · refine sgE ?_
    refine bk ?_
    refine lp (σ := Nat × (List Str × Option Addr × Nat) × View) (fun s => [(24, i64 s.1), (23, i64 a.length), (22, .slice A a.length c), (6, .pointer (some ⟨b6, 0, none⟩)), (4, .pointer (some ⟨b, 0, none⟩)), (0, .slice A a.length c)]) (fun s => s.2.2) (fun s => robj b6 s.2.1.1 s.2.1.2.1 s.2.1.2.2 ++ [HE.mp bo (mapF (names a) (gCn (edges a a.length)))])
      (fun s => s.1 ≤ a.length ∧ Sub g s.2.2 ∧ Hp (fun x y : Str => x < y) s.2.1.1.length s.2.1.1 ∧ s.2.1.1.Nodup ∧ (∀ x, x ∈ s.2.1.1 ↔ x ∈ names (a.take s.1) ∧ cntE (edges a a.length) x = 0) ∧ s.2.1.1.length ≤ s.1) (fun s => a.length - s.1) (0, ([], some ⟨b3, 0, none⟩, 0), g)
      ⟨Nat.zero_le _, Sub.refl _, fun k h1 h2 => by simp at h2, List.nodup_nil, fun x => by simp [names], Nat.le_refl _⟩ ?_
    rintro ⟨k, ⟨hl, A6, c6⟩, f1⟩ ρ ⟨hk, hsub, hhp, hhn, hhm, hhl⟩
    replace hk : k ≤ a.length := hk
    replace hsub : Sub g f1 := hsub
    replace hhp : Hp (fun x y : Str => x < y) hl.length hl := hhp
    replace hhn : hl.Nodup := hhn
    replace hhm : ∀ x, x ∈ hl ↔ x ∈ names (a.take k) ∧ cntE (edges a a.length) x = 0 := hhm
    replace hhl : hl.length ≤ k := hhl
    show EW _ _ _ _ _ (ups ρ [(24, i64 k), (23, i64 a.length), (22, .slice A a.length c), (6, .pointer (some ⟨b6, 0, none⟩)), (4, .pointer (some ⟨b, 0, none⟩)), (0, .slice A a.length c)]) f1 (robj b6 hl A6 c6 ++ [HE.mp bo (mapF (names a) (gCn (edges a a.length)))])
    refine sg ?_
    refine ltE (fun h => ?_) (fun h => ?_)
    case refine_2 =>
      refine sq (cFx ?_)
      have hka : k = a.length := by omega
      subst hka
      rw [List.take_length] at hhm
      exact jn ((hl, A6, c6), f1) ⟨hsub, hhp, hhn, hhm⟩
    have h1 : k < a.length := by omega
    have htk : names (a.take (k + 1)) = names (a.take k) ++ [a[k].name] := by
      unfold names
      rw [List.take_add_one, List.getElem?_eq_getElem h1]
      simp only [Option.toList, List.map_append, List.map_cons, List.map_nil]
    have hnk : a[k].name ∉ names (a.take k) := by
      have : (names (a.take (k + 1))).Nodup := by
        unfold names at hnd ⊢
        exact hnd.sublist ((List.take_sublist _ _).map _)
      rw [htk, List.nodup_append] at this
      exact fun hin => this.2.2 _ hin _ (List.mem_singleton.2 rfl) rfl
    have hmem : a[k].name ∈ names a := List.mem_map.2 ⟨a[k], List.getElem_mem _, rfl⟩
    obtain ⟨b1, o1, A1, c1, A2, c2, rfl, hc, hn, hr, ht⟩ := (ha.mono hs).item h1
    have hc := hc.mono hsub
    refine sq (cTs ?_)
    refine bkJ (σ := (List Str × Option Addr × Nat) × View) (fun _ => [(24, i64 k), (23, i64 a.length), (22, .slice (some ⟨b1, o1, none⟩) a.length c), (6, .pointer (some ⟨b6, 0, none⟩)), (4, .pointer (some ⟨b, 0, none⟩)), (0, .slice (some ⟨b1, o1, none⟩) a.length c)]) (fun s => s.2) (fun s => robj b6 s.1.1 s.1.2.1 s.1.2.2 ++ [HE.mp bo (mapF (names a) (gCn (edges a a.length)))])
      (fun s => Sub g s.2 ∧ Hp (fun x y : Str => x < y) s.1.1.length s.1.1 ∧ s.1.1.Nodup ∧ (∀ x, x ∈ s.1.1 ↔ x ∈ names (a.take (k + 1)) ∧ cntE (edges a a.length) x = 0) ∧ s.1.1.length ≤ k + 1) ?_ ?_
    case refine_2 =>
      rintro ⟨⟨hl2, A7, c7⟩, f2⟩ ρ ⟨e1, e2, e3, e4, e5⟩
      refine rg ?_
      refine addE ((k + 1 : Nat) : Int) ?_
      exact nxs (k + 1, (hl2, A7, c7), f2) ⟨h1, e1, e2, e3, e4, e5⟩ (by show a.length - (k + 1) < a.length - k; omega)
    refine sg ?_
    refine ix k h1 ?_
    refine ldvA hc ?_
    refine alloc fun bi => ?_
    refine stE 0 ?_
    refine sQ ?_
    refine ldv (Sub.cell hsub hg0) ?_
    refine ldo 0 ?_
    refine lkI 3 hmem ?_
    refine eqIE (a := (cntE (edges a a.length) a[k].name : Int)) (b := 0) (fun hz => ?_) (fun hz => ?_)
    case refine_2 =>
      refine edropH ?_
      refine cFs ?_
      refine jn ((hl, A6, c6), f1) ⟨hsub, hhp, hhn, fun x => ?_, by show hl.length ≤ k + 1; omega⟩
      rw [hhm, htk, List.mem_append, List.mem_singleton]
      constructor
      · rintro ⟨e1, e2⟩; exact ⟨.inl e1, e2⟩
      · rintro ⟨e1 | e1, e2⟩
        · exact ⟨e1, e2⟩
        · subst e1; omega
    refine eperm (L' := robj b6 hl A6 c6 ++ [HE.mp bo (mapF (names a) (gCn (edges a a.length))), HE.blk bi (.cells ⟨[str a[k].name, .slice A1 a[k].refs.length c1, .slice A2 a[k].tree.length c2]⟩ 33)]) (perm_last _ _ _) ?_
    refine cT (rg ?_)
    refine ldo 3 ?_
    have hlm : hl.length < 1000000 := by omega
    refine callM (vs := [rrv b6, .iface 9 (str a[k].name)]) (robj b6 hl A6 c6) [.mp bo (mapF (names a) (gCn (edges a a.length))), .blk bi (.cells ⟨[str a[k].name, .slice A1 a[k].refs.length c1, .slice A2 a[k].tree.length c2]⟩ 33)] (fun w hon hgi => pushReady (x := a[k].name) hlm hhp hon hgi) (fun v g2 L' hs2 hR => ?_)
    obtain ⟨hl2, A7, c7, rfl, e1, e2⟩ := hR
    refine rwL (L' := robj b6 hl2 A7 c7 ++ [HE.mp bo (mapF (names a) (gCn (edges a a.length)))]) (fun w h => h.sublist (List.Sublist.append (List.Sublist.refl _) (by simp))) ?_
    refine runE ?_
    refine jn ((hl2, A7, c7), g2) ⟨hsub.trans hs2, e1, ?_, fun x => ?_, ?_⟩
    · exact e2.nodup_iff.2 (List.nodup_cons.2 ⟨fun hin => hnk ((hhm _).1 hin).1, hhn⟩)
    · rw [e2.mem_iff, List.mem_cons, hhm, htk, List.mem_append, List.mem_singleton]
      constructor
      · rintro (rfl | ⟨e1, e2⟩)
        · exact ⟨.inr rfl, by omega⟩
        · exact ⟨.inl e1, e2⟩
      · rintro ⟨e1 | e1, e2⟩
        · exact .inr ⟨e1, e2⟩
        · exact .inl e1
    · show hl2.length ≤ k + 1
      rw [e2.length_eq, List.length_cons]
      omega
  rintro ⟨⟨hl0, A60, c60⟩, f1⟩ ρ ⟨hsub1, hhp0, hhn0, hhm0⟩
  replace hsub1 : Sub g f1 := hsub1
  replace hhp0 : Hp (fun x y : Str => x < y) hl0.length hl0 := hhp0
  replace hhn0 : hl0.Nodup := hhn0
  replace hhm0 : ∀ x, x ∈ hl0 ↔ x ∈ names a ∧ cntE (edges a a.length) x = 0 := hhm0
  show EW _ _ _ _ _ (ups ρ [(6, .pointer (some ⟨b6, 0, none⟩)), (4, .pointer (some ⟨b, 0, none⟩)), (0, .slice A a.length c)]) f1 (robj b6 hl0 A60 c60 ++ [HE.mp bo (mapF (names a) (gCn (edges a a.length)))])
  refine sgE ?_
  refine enilrow 9 1 ?_
  refine eperm (L' := robj b6 hl0 A60 c60 ++ [HE.mp bo (mapF (names a) (gCn (edges a a.length))), HE.row none 0 0 9 1 []]) (perm_last _ _ _) ?_
  refine bkJ (σ := OS) (fun s => [(9, .slice s.A9 s.o.length s.c9), (0, .slice A a.length c)]) (fun s => s.v) (fun s => robj b6 s.hl s.A6 s.c6 ++ [HE.mp bo (mapF (names a) (gI s.cnt)), HE.row s.A9 s.o.length s.c9 9 1 (s.o.map str)]) (fun s => OI a s.o s.cnt []) ?_ ?_
  case refine_2 =>
    rintro ⟨o, A9, c9, cnt, hl, A6, c6, f2⟩ ρ hoi
    replace hoi : OI a o cnt [] := hoi
    have hend := hoi.empty hnd
    show EW _ _ _ _ _ (ups ρ [(9, .slice A9 o.length c9), (0, .slice A a.length c)]) f2 (robj b6 hl A6 c6 ++ [HE.mp bo (mapF (names a) (gI cnt)), HE.row A9 o.length c9 9 1 (o.map str)])
    refine sq (sg ?_)
    refine ltE (fun h => ?_) (fun h => ?_)
    · refine cT ?_
      refine ewL (L' := []) (fun _ h => h.sublist (List.nil_sublist _)) ?_
      refine enilrow 9 1 ?_
      refine rr ?_
      refine ret2M ?_
      exact ofR_none (by rw [hend, if_pos (by omega)])
    · refine cFs ?_
      refine ewL (L' := [HE.row A9 o.length c9 9 1 (o.map str)]) (fun _ h => h.sublist (by simp)) ?_
      refine rr ?_
      refine ret2M ?_
      unfold ofR
      rw [hend, if_neg (by omega)]
      exact ⟨A9, c9, rfl, rfl⟩
  refine lp (σ := OS) (fun s => [(9, .slice s.A9 s.o.length s.c9), (6, .pointer (some ⟨b6, 0, none⟩)), (4, .pointer (some ⟨b, 0, none⟩)), (0, .slice A a.length c)]) (fun s => s.v) (fun s => robj b6 s.hl s.A6 s.c6 ++ [HE.mp bo (mapF (names a) (gI s.cnt)), HE.row s.A9 s.o.length s.c9 9 1 (s.o.map str)])
    (fun s => Sub g s.v ∧ Hp (fun x y : Str => x < y) s.hl.length s.hl ∧ OI a s.o s.cnt s.hl) (fun s => a.length - s.o.length) ⟨[], none, 0, fun s => (cntE (edges a a.length) s : Nat), hl0, A60, c60, f1⟩ ⟨hsub1, hhp0, OI.init hnd hhn0 hhm0⟩ ?_
  rintro ⟨o, A9, c9, cnt, hl, A6, c6, f2⟩ ρ ⟨hsub, hhp, hoi⟩
  replace hsub : Sub g f2 := hsub
  replace hhp : Hp (fun x y : Str => x < y) hl.length hl := hhp
  replace hoi : OI a o cnt hl := hoi
  have hlen := hoi.len
  show EW _ _ _ _ _ (ups ρ [(9, .slice A9 o.length c9), (6, .pointer (some ⟨b6, 0, none⟩)), (4, .pointer (some ⟨b, 0, none⟩)), (0, .slice A a.length c)]) f2 (robj b6 hl A6 c6 ++ [HE.mp bo (mapF (names a) (gI cnt)), HE.row A9 o.length c9 9 1 (o.map str)])
  refine sq (sg ?_)
  refine ldo 0 ?_
  refine callM (vs := [.slice A6 hl.length c6]) (robj b6 hl A6 c6) [HE.mp bo (mapF (names a) (gI cnt)), HE.row A9 o.length c9 9 1 (o.map str)] (fun w hon hgi => lenReady hon hgi) (fun v g2 L' hs2 hR => ?_)
  obtain ⟨rfl, rfl⟩ := hR
  refine gtE (fun h => ?_) (fun h => ?_)
  case refine_2 =>
    refine cFx ?_
    have hnil : hl = [] := List.length_eq_zero_iff.1 (by omega)
    subst hnil
    exact jn ⟨o, A9, c9, cnt, [], A6, c6, g2⟩ hoi
  have hl0' : 0 < hl.length := by omega
  have hlm : hl.length ≤ 1000000 := by omega
  refine cTs (bk (sg ?_))
  refine callM (vs := [rrv b6]) (robj b6 hl A6 c6) [HE.mp bo (mapF (names a) (gI cnt)), HE.row A9 o.length c9 9 1 (o.map str)] (fun w hon hgi => popReady hl0' hlm hhp hon hgi) (fun v g3 L' hs3 hR => ?_)
  obtain ⟨x, h', rfl, rfl, hhp', hperm, hmin⟩ := hR
  refine runE ?_
  refine sg ?_
  refine bsl fun b7 => ?_
  refine app 3 (fun A' c' => ?_) (hi := rfl) (hlim := by show (o.length + 1) * 16 ≤ _; omega)
  refine runE ?_
  refine eeq (L' := robj b6 h' A6 c6 ++ [HE.mp bo (mapF (names a) (gI cnt)), HE.row A' (o ++ [x]).length c' 9 1 ((o ++ [x]).map str)]) (congrArg (fun r => robj b6 h' A6 c6 ++ [HE.mp bo (mapF (names a) (gI cnt)), r]) rowS) ?_
  have hxo : x ∉ o := ((hoi.mem x).1 (hperm.mem_iff.2 List.mem_cons_self)).2.1
  have hsub3 : Sub g g3 := (hsub.trans hs2).trans hs3
  have hbk3 : (HE.mp bb (mapF (ksE (edges a a.length)) (gBk Ab cb (edges a a.length)))).seen g3 := by
    obtain ⟨e1, e2, e3, e4⟩ := hbk
    exact ⟨e1, e2, hsub3 _ _ e3, e4⟩
  refine sqJ (σ := Option Addr × Nat) (fun s => [(63, i64 0), (62, i64 (bkE (edges a a.length) x).length), (61, .slice s.1 (bkE (edges a a.length) x).length s.2), (9, .slice A' (o ++ [x]).length c'), (6, .pointer (some ⟨b6, 0, none⟩)), (4, .pointer (some ⟨b, 0, none⟩)), (0, .slice A a.length c)]) (fun _ => g3) (fun _ => robj b6 h' A6 c6 ++ [HE.mp bo (mapF (names a) (gI cnt)), HE.row A' (o ++ [x]).length c' 9 1 ((o ++ [x]).map str)]) (fun s => Sl g s.1 s.2 (bkE (edges a a.length) x)) ?_ ?_
  · refine rg ?_
    refine ldv (Sub.cell hsub3 hg1) ?_
    by_cases hk : x ∈ ksE (edges a a.length)
    · refine lkVI hbk3 hk ?_
      refine runE ?_
      exact jn (Ab x, cb x) (hsl x hk) (ha := ⟨rfl, rfl, rfl, sl_snoc, rfl, rfl, rfl, trivial⟩)
    · refine lkVO hbk3 hk ?_
      refine runE ?_
      have h0 := bkE_nil hk
      refine jn (none, 0) (by show Sl g none 0 _; rw [h0]; exact Sl.nil _) (ha := ⟨rfl, by rw [h0]; rfl, by rw [h0]; rfl, sl_snoc, rfl, rfl, rfl, trivial⟩)
  rintro ⟨An, cn⟩ ρ hbs
  replace hbs : Sl g An cn (bkE (edges a a.length) x) := hbs
  show EW _ _ _ _ _ (ups ρ [(63, i64 0), (62, i64 (bkE (edges a a.length) x).length), (61, .slice An (bkE (edges a a.length) x).length cn), (9, .slice A' (o ++ [x]).length c'), (6, .pointer (some ⟨b6, 0, none⟩)), (4, .pointer (some ⟨b, 0, none⟩)), (0, .slice A a.length c)]) g3 (robj b6 h' A6 c6 ++ [HE.mp bo (mapF (names a) (gI cnt)), HE.row A' (o ++ [x]).length c' 9 1 ((o ++ [x]).map str)])
  have hel := edges_le hfit a.length (Nat.le_refl _)
  have hbl := bkE_le (edges a a.length) x
  refine bk ?_
  refine lp (σ := IS) (fun s => [(63, i64 s.m), (62, i64 (bkE (edges a a.length) x).length), (61, .slice An (bkE (edges a a.length) x).length cn), (9, .slice A' (o ++ [x]).length c'), (6, .pointer (some ⟨b6, 0, none⟩)), (4, .pointer (some ⟨b, 0, none⟩)), (0, .slice A a.length c)]) (fun s => s.v) (fun s => robj b6 s.hl s.A6 s.c6 ++ [HE.mp bo (mapF (names a) (gI s.cnt)), HE.row A' (o ++ [x]).length c' 9 1 ((o ++ [x]).map str)])
    (fun s => s.m ≤ (bkE (edges a a.length) x).length ∧ Sub g s.v ∧ Hp (fun x y : Str => x < y) s.hl.length s.hl ∧ OJ a o x s.m s.cnt s.hl) (fun s => (bkE (edges a a.length) x).length - s.m) ⟨0, cnt, h', A6, c6, g3⟩ ⟨Nat.zero_le _, hsub3, hhp', hoi.start hperm⟩ ?_
  rintro ⟨m, cn1, hl1, A61, c61, f4⟩ ρ ⟨hm, hs4, hhp1, hoj⟩
  replace hm : m ≤ (bkE (edges a a.length) x).length := hm
  replace hs4 : Sub g f4 := hs4
  replace hhp1 : Hp (fun x y : Str => x < y) hl1.length hl1 := hhp1
  replace hoj : OJ a o x m cn1 hl1 := hoj
  show EW _ _ _ _ _ (ups ρ [(63, i64 m), (62, i64 (bkE (edges a a.length) x).length), (61, .slice An (bkE (edges a a.length) x).length cn), (9, .slice A' (o ++ [x]).length c'), (6, .pointer (some ⟨b6, 0, none⟩)), (4, .pointer (some ⟨b, 0, none⟩)), (0, .slice A a.length c)]) f4 (robj b6 hl1 A61 c61 ++ [HE.mp bo (mapF (names a) (gI cn1)), HE.row A' (o ++ [x]).length c' 9 1 ((o ++ [x]).map str)])
  refine sg ?_
  refine ltE (fun h => ?_) (fun h => ?_)
  case refine_2 =>
    refine sq (cFx ?_)
    have hma : m = (bkE (edges a a.length) x).length := by omega
    subst hma
    refine nxs ⟨o ++ [x], A', c', cn1, hl1, A61, c61, f4⟩ ⟨hs4, hhp1, hoj.fin hnd hoi hperm hmin⟩ ?_
    show a.length - (o ++ [x]).length < a.length - o.length
    rw [List.length_append, List.length_singleton]
    omega
  have hm1 : m < (bkE (edges a a.length) x).length := by omega
  have hpos := hoj.pos hxo hm1
  have hlen1 := hoj.len
  refine sq (cTs ?_)
  refine bkJ (σ := IS) (fun s => [(63, i64 m), (62, i64 (bkE (edges a a.length) x).length), (61, .slice An (bkE (edges a a.length) x).length cn), (9, .slice A' (o ++ [x]).length c'), (6, .pointer (some ⟨b6, 0, none⟩)), (4, .pointer (some ⟨b, 0, none⟩)), (0, .slice A a.length c)]) (fun s => s.v) (fun s => robj b6 s.hl s.A6 s.c6 ++ [HE.mp bo (mapF (names a) (gI s.cnt)), HE.row A' (o ++ [x]).length c' 9 1 ((o ++ [x]).map str)])
    (fun s => Sub g s.v ∧ Hp (fun x y : Str => x < y) s.hl.length s.hl ∧ OJ a o x (m + 1) s.cnt s.hl) ?_ ?_
  case refine_2 =>
    rintro ⟨m2, cn2, hl2, A62, c62, f5⟩ ρ ⟨e1, e2, e3⟩
    refine rg ?_
    refine addE ((m + 1 : Nat) : Int) ?_
    exact nxs ⟨m + 1, cn2, hl2, A62, c62, f5⟩ ⟨hm1, e1, e2, e3⟩ (by show (bkE (edges a a.length) x).length - (m + 1) < (bkE (edges a a.length) x).length - m; omega)
  generalize hy : (bkE (edges a a.length) x)[m] = y at hpos
  obtain ⟨bx, ox, rfl, hcy, _⟩ := (hbs.mono hs4).text hm1
  rw [hy] at hcy
  have hyn : y ∈ names a := (bk_mem (hy ▸ List.getElem_mem hm1)).1
  refine sg ?_
  refine ix m hm1 ?_
  refine ldvE hcy ?_
  refine sg ?_
  refine ldv (Sub.cell hs4 hg0) ?_
  refine lkI 2 hyn ?_
  refine sub (cn1 y - 1) (a := cn1 y) (b := 1) ?_
  refine muI 2 hyn hnd ?_
  refine runE ?_
  refine eeq (L' := robj b6 hl1 A61 c61 ++ [HE.mp bo (mapF (names a) (gI fun s => if s = y then cn1 y - 1 else cn1 s)), HE.row A' (o ++ [x]).length c' 9 1 ((o ++ [x]).map str)]) (congrArg (fun r => robj b6 hl1 A61 c61 ++ [HE.mp bo r, HE.row A' (o ++ [x]).length c' 9 1 ((o ++ [x]).map str)]) (gI_upd (names a) cn1 y (cn1 y - 1))) ?_
  refine sg ?_
  refine ldv (Sub.cell hs4 hg0) ?_
  refine lkI 2 hyn ?_
  have hgy : gI (fun s => if s = y then cn1 y - 1 else cn1 s) y = i64 (cn1 y - 1) := by unfold gI; simp
  rw [hgy]
  refine eqIE (a := cn1 y - 1) (b := 0) (fun hz => ?_) (fun hz => ?_)
  case refine_2 =>
    refine cFs ?_
    exact jn ⟨m, _, hl1, A61, c61, f4⟩ ⟨hs4, hhp1, hoj.step hxo hoi.done hm1 hy (by rw [if_neg hz])⟩
  have hlm1 : hl1.length < 1000000 := by omega
  refine cT (rg ?_)
  refine callM (vs := [rrv b6, .iface 9 (str y)]) (robj b6 hl1 A61 c61) [HE.mp bo (mapF (names a) (gI fun s => if s = y then cn1 y - 1 else cn1 s)), HE.row A' (o ++ [x]).length c' 9 1 ((o ++ [x]).map str)] (fun w hon hgi => pushReady (x := y) hlm1 hhp1 hon hgi) (fun v g5 L' hs5 hR => ?_)
  obtain ⟨hl2, A7, c7, rfl, e1, e2⟩ := hR
  refine runE ?_
  exact jn ⟨m, _, hl2, A7, c7, g5⟩ ⟨hs4.trans hs5, e1, hoj.step hxo hoi.done hm1 hy (by rw [if_pos hz]; exact e2)⟩
end Go.Hog
