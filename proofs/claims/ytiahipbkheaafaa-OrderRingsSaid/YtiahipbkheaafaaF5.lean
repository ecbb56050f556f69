/- Contracts: the graph. -/
import Derived.Test.YtiahipbkheaafaaH2
import Derived.Test.YtiahipbkheaafaaE10
import Derived.Test.YtiahipbkheaafaaS3
set_option linter.unusedVariables false
set_option linter.unusedSimpArgs false
set_option maxRecDepth 100000
set_option maxHeartbeats 1000000
namespace Go.Hog
open Go.RowKit Rp Go.Proofs

/-- The heap of a graph in the making. -/
def gRow (A : Str → Option Addr) (c : Str → Nat) (es : List (Str × Str)) (r : Str) : HE := .row (A r) (bkE es r).length (c r) 9 1 ((bkE es r).map str)
def gBk (A : Str → Option Addr) (c : Str → Nat) (es : List (Str × Str)) (r : Str) : Value := .slice (A r) (bkE es r).length (c r)
def gCn (es : List (Str × Str)) (s : Str) : Value := i64 (cntE es s : Nat)
def gObj (b bo bb : Nat) (ns : List Str) (A : Str → Option Addr) (c : Str → Nat) (es : List (Str × Str)) : List HE :=
  .blk b (.cells ⟨[.map (some bo), .map (some bb)]⟩ 52) :: .mp bo (mapF ns (gCn es)) :: .mp bb (mapF (ksE es) (gBk A c es)) :: (ksE es).map (gRow A c es)
theorem gCn_nil (ns : List Str) : mapF ns (gCn []) = mapF ns (fun _ => i64 0) := rfl
theorem mapF_congr {ks : List Str} {g g' : Str → Value} (h : ∀ s ∈ ks, g s = g' s) : mapF ks g = mapF ks g' := List.map_congr_left fun s hs => by rw [h s hs]

def upd {α : Type} (A : Str → α) (r : Str) (x : α) : Str → α := fun s => if s = r then x else A s
theorem gCn_snoc (ns : List Str) (es : List (Str × Str)) (r n : Str) : mapF ns (gCn (es ++ [(r, n)])) = mapF ns (updF (gCn es) n (i64 ((cntE es n + 1 : Nat) : Int))) := mapF_congr fun s _ => by
  unfold gCn updF
  rw [cntE_snoc]
  by_cases h : s = n
  · subst h; simp
  · simp [h]
theorem gBk_snoc (A : Str → Option Addr) (c : Str → Nat) (es : List (Str × Str)) (r n : Str) (A' : Option Addr) (c' : Nat) (s : Str) : gBk (upd A r A') (upd c r c') (es ++ [(r, n)]) s = updF (gBk A c es) r (.slice A' ((bkE es r).length + 1) c') s := by
  unfold gBk updF upd
  rw [bkE_snoc]
  by_cases h : s = r
  · subst h; simp
  · simp [h]
theorem gRow_same (A : Str → Option Addr) (c : Str → Nat) (es : List (Str × Str)) (r n : Str) (A' : Option Addr) (c' : Nat) : gRow (upd A r A') (upd c r c') (es ++ [(r, n)]) r = .row A' ((bkE es r).length + 1) c' 9 1 ((bkE es r).map str ++ [str n]) := by
  unfold gRow upd
  rw [bkE_snoc]
  simp
theorem gRow_other (A : Str → Option Addr) (c : Str → Nat) (es : List (Str × Str)) (r n : Str) (A' : Option Addr) (c' : Nat) {s : Str} (h : s ≠ r) : gRow (upd A r A') (upd c r c') (es ++ [(r, n)]) s = gRow A c es s := by
  unfold gRow upd
  rw [bkE_snoc]
  simp [h]
theorem gObj_in {b bo bb : Nat} {ns : List Str} {A : Str → Option Addr} {c : Str → Nat} {es : List (Str × Str)} {r n : Str} {A' : Option Addr} {c' : Nat} (h : r ∈ ksE es) :
    List.Perm (.blk b (.cells ⟨[.map (some bo), .map (some bb)]⟩ 52) :: .mp bo (mapF ns (updF (gCn es) n (i64 ((cntE es n + 1 : Nat) : Int)))) :: .mp bb (mapF (ksE es) (updF (gBk A c es) r (.slice A' ((bkE es r).length + 1) c'))) ::
      .row A' ((bkE es r).length + 1) c' 9 1 ((bkE es r).map str ++ [str n]) :: ((ksE es).erase r).map (gRow A c es)) (gObj b bo bb ns (upd A r A') (upd c r c') (es ++ [(r, n)])) := by
  unfold gObj
  rw [gCn_snoc, ksE_snoc, if_pos h, mapF_congr fun s _ => gBk_snoc A c es r n A' c' s]
  refine .cons _ (.cons _ (.cons _ ?_))
  rw [← gRow_same A c es r n A' c']
  have h1 : ((ksE es).erase r).map (gRow A c es) = ((ksE es).erase r).map (gRow (upd A r A') (upd c r c') (es ++ [(r, n)])) := List.map_congr_left fun s hs => (gRow_other A c es r n A' c' ((ksE_spec es).1.mem_erase_iff.1 hs).1).symm
  rw [h1, ← List.map_cons]
  exact ((List.perm_cons_erase h).map _).symm
theorem gObj_out {b bo bb : Nat} {ns : List Str} {A : Str → Option Addr} {c : Str → Nat} {es : List (Str × Str)} {r n : Str} {A' : Option Addr} {c' : Nat} (h : r ∉ ksE es) :
    List.Perm (.blk b (.cells ⟨[.map (some bo), .map (some bb)]⟩ 52) :: .mp bo (mapF ns (updF (gCn es) n (i64 ((cntE es n + 1 : Nat) : Int)))) :: .mp bb (mapF (ksE es ++ [r]) (updF (gBk A c es) r (.slice A' (0 + 1) c'))) ::
      .row A' (0 + 1) c' 9 1 ([] ++ [str n]) :: (ksE es).map (gRow A c es)) (gObj b bo bb ns (upd A r A') (upd c r c') (es ++ [(r, n)])) := by
  unfold gObj
  have h0 := bkE_nil h
  have h2 := fun s => gBk_snoc A c es r n A' c' s
  have h3 := gRow_same A c es r n A' c'
  simp only [h0, List.length_nil, List.map_nil] at h2 h3
  rw [gCn_snoc, ksE_snoc, if_neg h, mapF_congr fun s _ => h2 s]
  refine .cons _ (.cons _ (.cons _ ?_))
  rw [← h3]
  have h1 : (ksE es).map (gRow A c es) = (ksE es).map (gRow (upd A r A') (upd c r c') (es ++ [(r, n)])) := List.map_congr_left fun s hs => (gRow_other A c es r n A' c' (fun e => h (e ▸ hs))).symm
  rw [h1, List.map_append, List.map_cons, List.map_nil]
  exact (List.perm_append_singleton _ _).symm
def madeR (a : List Item) (g : View) (L' : List HE) (v : Value) : Prop :=
  if (names a).Nodup then ∃ b bo bb A c, v = .tuple #[.pointer (some ⟨b, 0, none⟩), .bool true] ∧ L' = [.mp bo (mapF (names a) (gCn (edges a a.length)))] ∧ g.cell? ⟨b, 0, none⟩ = some (.map (some bo)) ∧ g.cell? ⟨b, 1, none⟩ = some (.map (some bb)) ∧
    (HE.mp bb (mapF (ksE (edges a a.length)) (gBk A c (edges a a.length)))).seen g ∧ ∀ r ∈ ksE (edges a a.length), Sl g (A r) (c r) (bkE (edges a a.length) r)
  else v = .tuple #[.pointer none, .bool false] ∧ L' = []
theorem made {w : World} {f : View} (hv : On f w) {A : Option Addr} {c : Nat} {a : List Item} (ha : Sl f A c a) (hfit : Fit a) :
    Con Try.prog 22 [.slice A a.length c] w (RetM w f [] (madeR a)) := by
  refine enterM (L := []) hv (Given.nil _ _) Try.call22 Try.func22 ?_
  have hlim := ha.len_lt
  have hsm := hfit.1
  refine sgE ?_
  refine sg ?_
  refine mkmap fun bo => ?_
  refine mkmap fun bb => ?_
  refine bld ?_
  refine box fun b => ?_
  refine runE ?_
  have hnd0 : (names a).Nodup ↔ ∀ i j (hi : i < a.length) (hj : j < a.length), j < i → a[j].name ≠ a[i].name := by
    unfold names
    rw [List.Nodup, List.pairwise_iff_getElem]
    simp only [List.length_map, List.getElem_map]
    exact ⟨fun h i j hi hj hji => h j i hj hi hji, fun h i j hi hj hij => h j i hj hi hij⟩
  refine sqJ (σ := Unit) (fun _ => [(4, .pointer (some ⟨b, 0, none⟩)), (0, .slice A a.length c)]) (fun _ => f) (fun _ => [.blk b (.cells ⟨[.map (some bo), .map (some bb)]⟩ 52), .mp bb [], .mp bo (mapF (names a) fun _ => i64 0)]) (fun _ => (names a).Nodup) ?_ ?_
  · refine sgE ?_
    refine bk ?_
    refine lp (σ := Nat) (fun k => [(21, i64 k), (20, i64 a.length), (19, .slice A a.length c), (4, .pointer (some ⟨b, 0, none⟩)), (0, .slice A a.length c)]) (fun _ => f) (fun k => [.blk b (.cells ⟨[.map (some bo), .map (some bb)]⟩ 52), .mp bb [], .mp bo (mapF (names (a.take k)) fun _ => i64 0)]) (fun k => k ≤ a.length ∧ (names (a.take k)).Nodup) (fun k => a.length - k) 0 ⟨Nat.zero_le _, by simp [names]⟩ ?_
    rintro k ρ ⟨hk, hnd⟩
    refine sg ?_
    refine ltE (fun h => ?_) (fun h => ?_)
    · have h1 : k < a.length := by omega
      obtain ⟨b1, o1, A1, c1, A2, c2, rfl, hc, hn, hr, ht⟩ := ha.item h1
      have htk : names (a.take (k + 1)) = names (a.take k) ++ [a[k].name] := by
        unfold names
        rw [List.take_add_one, List.getElem?_eq_getElem h1]
        simp only [Option.toList, List.map_append, List.map_cons, List.map_nil]
      refine sq (cTs (sq (bk (sg ?_))))
      refine ix k h1 ?_
      refine ldvA hc ?_
      refine alloc fun bi => ?_
      refine stE 0 ?_
      by_cases hin : a[k].name ∈ names (a.take k)
      · refine sq (sQ ?_)
        refine ldo 1 ?_
        refine ldo 0 ?_
        refine lkI 3 hin ?_
        refine runE ?_
        refine sgE ?_
        refine cT (rr ?_)
        refine postLr (L' := []) (fun w h => h.sublist (List.nil_sublist _)) ?_
        refine ret2M ?_
        unfold madeR
        rw [if_neg]
        · exact ⟨rfl, rfl⟩
        · intro hnd2
          have : (names (a.take (k + 1))).Nodup := by
            unfold names at hnd2 ⊢
            exact hnd2.sublist ((List.take_sublist _ _).map _)
          rw [htk, List.nodup_append] at this
          exact this.2.2 _ hin _ (List.mem_singleton.2 rfl) rfl
      · refine sq (sQ ?_)
        refine ldo 1 ?_
        refine ldo 0 ?_
        refine lkO 3 hin ?_
        refine runE ?_
        refine sgE ?_
        refine cFs ?_
        refine ew_draw 6 _ (List.Sublist.refl _) mixed (by kernel_rfl) ?_
        refine ldo 1 ?_
        refine ldoE 0 ?_
        refine tk ?_
        refine muO 3 hin ?_
        refine hn0 ?_
        refine tkE ?_
        refine edropH ?_
        refine rg ?_
        refine addE ((k + 1 : Nat) : Int) ?_
        have hm : mapF (names (a.take (k + 1))) (fun _ => i64 0) = mapF (names (a.take k) ++ [a[k].name]) (updF (fun _ => i64 0) a[k].name (i64 0)) := by
          rw [htk]
          exact mapF_congr fun s _ => by simp [updF]
        refine nxs (k + 1) ⟨h1, ?_⟩ (by omega) (hh := congrArg (fun m => [HE.blk b (.cells ⟨[.map (some bo), .map (some bb)]⟩ 52), .mp bb [], .mp bo m]) hm)
        rw [htk, List.nodup_append]
        exact ⟨hnd, by simp, fun x hx y hy => by
          have : y = a[k].name := by simpa using hy
          subst this
          exact fun e => hin (e ▸ hx)⟩
    · have hka : k = a.length := by omega
      subst hka
      refine sq (cFx ?_)
      have htk : a.take a.length = a := List.take_length
      rw [htk] at hnd
      exact jn () hnd (hh := by rw [htk])
  rintro ⟨⟩ ρ hnd
  replace hnd : (names a).Nodup := hnd
  refine eperm (L' := gObj b bo bb (names a) (fun _ => none) (fun _ => 0) (edges a 0)) (List.Perm.cons _ (List.Perm.swap _ _ _)) ?_
  refine sqJ (σ := (Str → Option Addr) × (Str → Nat)) (fun _ => [(4, .pointer (some ⟨b, 0, none⟩))]) (fun _ => f) (fun s => gObj b bo bb (names a) s.1 s.2 (edges a a.length)) (fun _ => True) ?_ ?_
  case refine_2 =>
    rintro ⟨A2, c2⟩ ρ _
    refine efrzA [.mp bo (mapF (names a) (gCn (edges a a.length)))] (.blk b (.cells ⟨[.map (some bo), .map (some bb)]⟩ 52) :: .mp bb (mapF (ksE (edges a a.length)) (gBk A2 c2 (edges a a.length))) :: (ksE (edges a a.length)).map (gRow A2 c2 (edges a a.length))) (List.Perm.swap _ _ _) fun g hg hs => ?_
    refine rr ?_
    refine ret2M ?_
    unfold madeR
    rw [if_pos hnd]
    refine ⟨b, bo, bb, A2, c2, rfl, rfl, blk_seen (hs _ (List.Mem.head _)), blk_seen (hs _ (List.Mem.head _)), hs _ (List.Mem.tail _ (List.Mem.head _)), fun r hr => ?_⟩
    have h1 := hs (gRow A2 c2 (edges a a.length) r) (by simp only [List.mem_cons, List.mem_map]; exact .inr (.inr ⟨r, hr, rfl⟩))
    have h2 := edges_le hfit a.length (Nat.le_refl _)
    have h3 := bkE_le (edges a a.length) r
    refine Sl.ofTexts h1 rfl (fun s hs => ?_) (by unfold LB; omega)
    obtain ⟨x, hx, he⟩ := mem_edges (mem_bkE.1 hs)
    have h4 := (mem_edg.1 he).2.2.2
    obtain ⟨j, hj, rfl⟩ := List.getElem_of_mem hx
    obtain ⟨_, _, _, _, _, _, _, _, hn, _, _⟩ := ha.item hj
    rw [show s = a[j].name from h4]
    exact hn
  refine sgE ?_
  refine bk ?_
  refine lp (σ := Nat × (Str → Option Addr) × (Str → Nat)) (fun s => [(45, i64 s.1), (44, i64 a.length), (43, .slice A a.length c), (4, .pointer (some ⟨b, 0, none⟩))]) (fun _ => f) (fun s => gObj b bo bb (names a) s.2.1 s.2.2 (edges a s.1)) (fun s => s.1 ≤ a.length) (fun s => a.length - s.1) (0, fun _ => none, fun _ => 0) (Nat.zero_le _) ?_
  rintro ⟨k, Ak, ck⟩ ρ hk
  replace hk : k ≤ a.length := hk
  show EW _ _ _ _ _ (ups ρ [(45, i64 k), (44, i64 a.length), (43, .slice A a.length c), (4, .pointer (some ⟨b, 0, none⟩))]) f (gObj b bo bb (names a) Ak ck (edges a k))
  refine sg ?_
  refine ltE (fun h => ?_) (fun h => ?_)
  case refine_2 =>
    refine sq (cFx ?_)
    have hka : k = a.length := by omega
    subst hka
    exact jn (Ak, ck) trivial
  have h1 : k < a.length := by omega
  obtain ⟨b1, o1, A1, c1, A2, c2, rfl, hc, hn, hr, ht⟩ := ha.item h1
  have hrl : a[k].refs.length ≤ 1000 := hfit.2 _ (List.getElem_mem _)
  have hel := edges_le hfit k hk
  have hmem : a[k].name ∈ names a := List.mem_map.2 ⟨a[k], List.getElem_mem _, rfl⟩
  refine sq (cTs ?_)
  refine bkJ (σ := (Str → Option Addr) × (Str → Nat)) (fun _ => [(45, i64 k), (44, i64 a.length), (43, .slice (some ⟨b1, o1, none⟩) a.length c), (4, .pointer (some ⟨b, 0, none⟩))]) (fun _ => f) (fun s => gObj b bo bb (names a) s.1 s.2 (edges a (k + 1))) (fun _ => True) ?_ ?_
  case refine_2 =>
    rintro ⟨Ak2, ck2⟩ ρ _
    refine rg ?_
    refine addE ((k + 1 : Nat) : Int) ?_
    exact nxs (k + 1, Ak2, ck2) h1 (by show a.length - (k + 1) < a.length - k; omega)
  refine sg ?_
  refine ix k h1 ?_
  refine ldvA hc ?_
  refine alloc fun bi => ?_
  refine stE 0 ?_
  refine sg ?_
  refine ldoE 0 ?_
  refine bk ?_
  refine lp (σ := Nat × (Str → Option Addr) × (Str → Nat)) (fun s => [(52, i64 s.1), (51, i64 a[k].refs.length), (50, .slice A1 a[k].refs.length c1), (10, .pointer (some ⟨bi, 0, none⟩)), (45, i64 k), (44, i64 a.length), (43, .slice (some ⟨b1, o1, none⟩) a.length c), (4, .pointer (some ⟨b, 0, none⟩))]) (fun _ => f)
    (fun s => .blk bi (.cells ⟨[str a[k].name, .slice A1 a[k].refs.length c1, .slice A2 a[k].tree.length c2]⟩ 33) :: gObj b bo bb (names a) s.2.1 s.2.2 (edges a k ++ edg a a[k] (a[k].refs.take s.1))) (fun s => s.1 ≤ a[k].refs.length) (fun s => a[k].refs.length - s.1) (0, Ak, ck) (Nat.zero_le _) ?_ (hh := by show _ :: gObj _ _ _ _ _ _ (edges a k ++ []) = _; rw [List.append_nil]; rfl)
  rintro ⟨m, Am, cm⟩ ρ hm
  replace hm : m ≤ a[k].refs.length := hm
  show EW _ _ _ _ _ (ups ρ [(52, i64 m), (51, i64 a[k].refs.length), (50, .slice A1 a[k].refs.length c1), (10, .pointer (some ⟨bi, 0, none⟩)), (45, i64 k), (44, i64 a.length), (43, .slice (some ⟨b1, o1, none⟩) a.length c), (4, .pointer (some ⟨b, 0, none⟩))]) f
    (.blk bi (.cells ⟨[str a[k].name, .slice A1 a[k].refs.length c1, .slice A2 a[k].tree.length c2]⟩ 33) :: gObj b bo bb (names a) Am cm (edges a k ++ edg a a[k] (a[k].refs.take m)))
  generalize hes : edges a k ++ edg a a[k] (a[k].refs.take m) = es
  refine sg ?_
  refine ltE (fun h => ?_) (fun h => ?_)
  case refine_2 =>
    refine edropH ?_
    refine sq (cFx ?_)
    have hma : m = a[k].refs.length := by omega
    subst hma
    refine jn (Am, cm) trivial (hh := ?_)
    show gObj b bo bb (names a) Am cm (edges a (k + 1)) = _
    rw [edges_succ h1, ← hes, List.take_length]
  have h2 : m < a[k].refs.length := by omega
  have htm : a[k].refs.take (m + 1) = a[k].refs.take m ++ [a[k].refs[m]] := by
    rw [List.take_add_one, List.getElem?_eq_getElem h2]
    rfl
  obtain ⟨b2, o2, rfl, hcr, hrl2⟩ := hr.text h2
  have hesl : es.length ≤ 1000 * k + 1000 := by
    rw [← hes, List.length_append]
    have := edg_le a a[k] (a[k].refs.take m)
    rw [List.length_take] at this
    omega
  refine sq (cTs ?_)
  refine bkJ (σ := (Str → Option Addr) × (Str → Nat)) (fun _ => [(52, i64 m), (51, i64 a[k].refs.length), (50, .slice (some ⟨b2, o2, none⟩) a[k].refs.length c1), (10, .pointer (some ⟨bi, 0, none⟩)), (45, i64 k), (44, i64 a.length), (43, .slice (some ⟨b1, o1, none⟩) a.length c), (4, .pointer (some ⟨b, 0, none⟩))]) (fun _ => f)
    (fun s => .blk bi (.cells ⟨[str a[k].name, .slice (some ⟨b2, o2, none⟩) a[k].refs.length c1, .slice A2 a[k].tree.length c2]⟩ 33) :: gObj b bo bb (names a) s.1 s.2 (edges a k ++ edg a a[k] (a[k].refs.take (m + 1)))) (fun _ => True) ?_ ?_
  case refine_2 =>
    rintro ⟨Am2, cm2⟩ ρ _
    refine rg ?_
    refine addE ((m + 1 : Nat) : Int) ?_
    exact nxs (m + 1, Am2, cm2) h2 (by show a[k].refs.length - (m + 1) < a[k].refs.length - m; omega)
  refine sg ?_
  refine ix m h2 ?_
  refine ldvE hcr ?_
  refine sg ?_
  refine ldo 1 ?_
  by_cases hin : a[k].refs[m] ∈ names a
  case neg =>
    have he : isEdge a a[k] a[k].refs[m] = false := by unfold isEdge; exact decide_eq_false fun h => hin h.1
    refine lkO 2 hin ?_
    refine runE ?_
    refine sgE ?_
    refine cFs ?_
    exact jn (Am, cm) trivial (hh := by show _ :: gObj _ _ _ _ _ _ _ = _; rw [htm, edg_snoc_no he, hes])
  refine lkI 2 hin ?_
  refine runE ?_
  refine sg ?_
  refine ldo 0 ?_
  refine neSE (fun hne => ?_) (fun hne => ?_)
  case refine_2 =>
    have he : isEdge a a[k] a[k].refs[m] = false := by unfold isEdge; exact decide_eq_false fun h => hne h.2
    refine cFs ?_
    exact jn (Am, cm) trivial (hh := by show _ :: gObj _ _ _ _ _ _ _ = _; rw [htm, edg_snoc_no he, hes])
  have he : isEdge a a[k] a[k].refs[m] = true := by unfold isEdge; exact decide_eq_true ⟨hin, hne⟩
  have hnext : edges a k ++ edg a a[k] (a[k].refs.take (m + 1)) = es ++ [(a[k].refs[m], a[k].name)] := by rw [htm, edg_snoc he, ← List.append_assoc, hes]
  refine cT ?_
  have hcl := cntE_le es a[k].name
  have hbl := bkE_le es a[k].refs[m]
  refine sq ?_
  refine ew_draw 8 _ (List.Sublist.refl _) mixed (by kernel_rfl) ?_
  refine ldo 1 ?_
  refine ldo 0 ?_
  refine lkI 2 hmem ?_
  refine addE ((cntE es a[k].name + 1 : Nat) : Int) (a := (cntE es a[k].name : Int)) (b := 1) ?_
  refine tk ?_
  refine muI 2 hmem hnd ?_
  refine hn0 ?_
  refine tkE ?_
  by_cases hks : a[k].refs[m] ∈ ksE es
  · refine eperm (L' := .blk bi (.cells ⟨[str a[k].name, .slice (some ⟨b2, o2, none⟩) a[k].refs.length c1, .slice A2 a[k].tree.length c2]⟩ 33) :: .blk b (.cells ⟨[.map (some bo), .map (some bb)]⟩ 52) :: .mp bo (mapF (names a) (updF (gCn es) a[k].name (i64 ((cntE es a[k].name + 1 : Nat) : Int)))) ::
      .mp bb (mapF (ksE es) (gBk Am cm es)) :: gRow Am cm es a[k].refs[m] :: ((ksE es).erase a[k].refs[m]).map (gRow Am cm es)) (.cons _ (.cons _ (.cons _ (.cons _ ((List.perm_cons_erase hks).map _))))) ?_
    refine ew_draw 13 [.blk bi (.cells ⟨[str a[k].name, .slice (some ⟨b2, o2, none⟩) a[k].refs.length c1, .slice A2 a[k].tree.length c2]⟩ 33), .blk b (.cells ⟨[.map (some bo), .map (some bb)]⟩ 52), .mp bo (mapF (names a) (updF (gCn es) a[k].name (i64 ((cntE es a[k].name + 1 : Nat) : Int)))),
      .mp bb (mapF (ksE es) (gBk Am cm es))] (.cons_cons _ (.cons_cons _ (.cons_cons _ (.cons_cons _ (List.nil_sublist _))))) mixed (by kernel_rfl) ?_
    refine ldo 1 ?_
    refine ldo 1 ?_
    refine lkI 3 hks ?_
    refine ldoE 0 ?_
    refine tk ?_
    refine bsl fun b3 => ?_
    refine Go.Hog.hn ⟨Sub.refl _, fun e he => .tail _ (List.mem_append_left _ he)⟩ ?_
    refine tk ?_
    refine app 4 (fun A' c' => ?_) (hi := rfl) (hlim := by show ((bkE es a[k].refs[m]).length + 1) * 16 ≤ _; omega)
    refine Go.Hog.hn ⟨Sub.refl _, fun e he => List.mem_append_left _ he⟩ ?_
    refine tk ?_
    refine muI 3 hks (ksE_spec es).1 ?_
    refine rperm (L' := .blk bi (.cells ⟨[str a[k].name, .slice (some ⟨b2, o2, none⟩) a[k].refs.length c1, .slice A2 a[k].tree.length c2]⟩ 33) :: gObj b bo bb (names a) (upd Am a[k].refs[m] A') (upd cm a[k].refs[m] c') (es ++ [(a[k].refs[m], a[k].name)])) (.cons _ (gObj_in hks)) ?_
    refine hn0 ?_
    refine tkE ?_
    exact jn (upd Am a[k].refs[m] A', upd cm a[k].refs[m] c') trivial (hh := by show _ :: gObj _ _ _ _ _ _ _ = _; rw [hnext])
  · refine enilrow 9 1 ?_
    refine eperm (L' := .blk bi (.cells ⟨[str a[k].name, .slice (some ⟨b2, o2, none⟩) a[k].refs.length c1, .slice A2 a[k].tree.length c2]⟩ 33) :: .blk b (.cells ⟨[.map (some bo), .map (some bb)]⟩ 52) :: .mp bo (mapF (names a) (updF (gCn es) a[k].name (i64 ((cntE es a[k].name + 1 : Nat) : Int)))) ::
      .mp bb (mapF (ksE es) (gBk Am cm es)) :: .row none 0 0 9 1 [] :: (ksE es).map (gRow Am cm es)) (.trans (.swap _ _ _) (.cons _ (.trans (.swap _ _ _) (.cons _ (.trans (.swap _ _ _) (.cons _ (.swap _ _ _))))))) ?_
    refine ew_draw 13 [.blk bi (.cells ⟨[str a[k].name, .slice (some ⟨b2, o2, none⟩) a[k].refs.length c1, .slice A2 a[k].tree.length c2]⟩ 33), .blk b (.cells ⟨[.map (some bo), .map (some bb)]⟩ 52), .mp bo (mapF (names a) (updF (gCn es) a[k].name (i64 ((cntE es a[k].name + 1 : Nat) : Int)))),
      .mp bb (mapF (ksE es) (gBk Am cm es))] (.cons_cons _ (.cons_cons _ (.cons_cons _ (.cons_cons _ (List.nil_sublist _))))) mixed (by kernel_rfl) ?_
    refine ldo 1 ?_
    refine ldo 1 ?_
    refine lkO 3 hks ?_
    refine ldoE 0 ?_
    refine tk ?_
    refine bsl fun b3 => ?_
    refine Go.Hog.hn ⟨Sub.refl _, fun e he => .tail _ (List.mem_append_left _ he)⟩ ?_
    refine tk ?_
    refine app 4 (fun A' c' => ?_) (hi := rfl) (hlim := by show (0 + 1) * 16 ≤ _; omega)
    refine Go.Hog.hn ⟨Sub.refl _, fun e he => List.mem_append_left _ he⟩ ?_
    refine tk ?_
    refine muO 3 hks ?_
    refine rperm (L' := .blk bi (.cells ⟨[str a[k].name, .slice (some ⟨b2, o2, none⟩) a[k].refs.length c1, .slice A2 a[k].tree.length c2]⟩ 33) :: gObj b bo bb (names a) (upd Am a[k].refs[m] A') (upd cm a[k].refs[m] c') (es ++ [(a[k].refs[m], a[k].name)])) (.cons _ (gObj_out hks)) ?_
    refine hn0 ?_
    refine tkE ?_
    exact jn (upd Am a[k].refs[m] A', upd cm a[k].refs[m] c') trivial (hh := by show _ :: gObj _ _ _ _ _ _ _ = _; rw [hnext])
end Go.Hog
