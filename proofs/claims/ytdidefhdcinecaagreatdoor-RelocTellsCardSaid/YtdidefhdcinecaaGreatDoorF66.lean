/- Contract: chapter 25 awake. -/
import Derived.Test.YtdidefhdcinecaaGreatDoorF65
import Derived.Test.YtdidefhdcinecaaGreatDoorCD
set_option linter.unusedVariables false
set_option linter.unusedSimpArgs false
set_option maxRecDepth 100000
set_option maxHeartbeats 1000000
namespace Go.Hog
open Go.RowKit Rp Go.Proofs
def onX : Str := [48, 49, 50, 51, 52, 53, 54, 97, 45, 120]
def onD : Str := [97, 47, 103, 110, 117, 47, 103, 110, 117, 120]
def onE : Str := [97, 47, 97, 98, 99, 47, 97, 98, 99, 120]
def gnuQ : Str := [47, 103, 110, 117]
def abcQ : Str := [47, 97, 98, 99]
def abcdQ : Str := [47, 97, 98, 99, 100]
def one1 : List Item := [⟨onX, [], [⟨[], 2, onD⟩]⟩]
theorem one_swap : swS onD gnuQ abcQ = onE ∧ cnS onD gnuQ abcQ = 2 := by decide +kernel
theorem one_room : Room3 one1 := ⟨⟨by decide, by decide⟩, by decide⟩
theorem lawOne {w : World} {f : View} (hv : On f w) : Con Tryz.prog 24 [] w (RetM w f [] fun _ L' v => ∃ b b2, v = .slice (some ⟨b, 0, none⟩) 1 1 ∧ L' = [.row (some ⟨b, 0, none⟩) 1 1 44 3 [str onX, .slice none 0 0, .slice (some ⟨b2, 0, none⟩) 1 1], nRow (some ⟨b2, 0, none⟩) 1 [⟨[], 2, onD⟩]]) := by
  refine enterM (L := []) hv (Given.nil _ _) Tryz.call24 Tryz.func24 ?_
  refine sgE ?_
  refine sg ?_
  refine bld ?_
  refine bsl fun b2 => ?_
  refine bld ?_
  refine bsl fun b => ?_
  refine runE ?_
  refine ew_ret ?_
  exact ret1M ⟨b, b2, rfl, rfl⟩
theorem one_sl {g : View} {b b2 : Nat} (h : ∀ e ∈ [HE.row (some ⟨b, 0, none⟩) 1 1 44 3 [str onX, .slice none 0 0, .slice (some ⟨b2, 0, none⟩) 1 1], nRow (some ⟨b2, 0, none⟩) 1 [⟨[], 2, onD⟩]], e.seen g) : Sl g (some ⟨b, 0, none⟩) 1 one1 := by
  have h0 := h _ (.head _)
  have h2 := h _ (.tail _ (.head _))
  have m2 : rp g (⟨[], 2, onD⟩ : Node) (nodeC ⟨[], 2, onD⟩) := ⟨rfl, by decide, by decide, by decide, by decide⟩
  have n2 : Sl g (some ⟨b2, 0, none⟩) 1 [(⟨[], 2, onD⟩ : Node)] := (Rw.one m2).sl h2 rfl (by decide)
  have i1 : rp g (⟨onX, [], [⟨[], 2, onD⟩]⟩ : Item) [str onX, .slice none 0 0, .slice (some ⟨b2, 0, none⟩) 1 1] := ⟨_, _, _, _, rfl, by decide, Sl.nil g, n2⟩
  exact (Rw.one i1).sl h0 rfl (by decide)
theorem one_to : toE gnuQ abcQ one1 = 0 ∧ toR gnuQ abcQ one1 = [⟨onX, [], [⟨[], 2, onE⟩]⟩] ∧ toE gnuQ abcdQ one1 = 11 ∧ cntI gnuQ one1 = 2 := by decide +kernel
theorem toV_of {o n : Str} {a : List Item} {L' : List HE} {v : Value} {z : Int} {R : List Item} (h : toV o n a L' v) (h1 : toE o n a = z) (h2 : toR o n a = R) : ∃ its : List JI, ∃ A c, its.map (·.1) = R ∧ v = .tuple #[.slice A its.length c, i64 z] ∧ L' = jRow A c its :: jR its := by
  subst h1 h2
  exact h
theorem oneSwap {w : World} {f : View} (hv : On f w) (hm : ML f) : Con Tryz.prog 9 [str onD, str gnuQ, str abcQ] w (Ret w f fun _ v => v = .tuple #[str onE, i64 2]) := by
  have h := relocSwap hv hm (s := onD) (o := gnuQ) (n := abcQ) (by decide)
  rw [one_swap.1, one_swap.2] at h
  exact h
theorem oneCount {w : World} {f : View} (hv : On f w) (hm : ML f) {A : Option Addr} {c : Nat} (ha : Sl f A c one1) : Con Tryz.prog 15 [.slice A 1 c, str gnuQ] w (Ret w f fun _ v => v = i64 2) := by
  have h := relocCount hv hm (u := gnuQ) ha one_room.1
  rw [one_to.2.2.2] at h
  exact h
theorem oneTo {w : World} {f : View} (hv : On f w) (hm : ML f) {A : Option Addr} {c : Nat} (ha : Sl f A c one1) : Con Tryz.prog 11 [str gnuQ, str abcQ, .slice A 1 c] w (RetM w f [] fun _ L' v => ∃ its : List JI, ∃ A c, its.map (·.1) = [⟨onX, [], [⟨[], 2, onE⟩]⟩] ∧ v = .tuple #[.slice A its.length c, i64 0] ∧ L' = jRow A c its :: jR its) := by
  have h := relocTo hv hm (o := gnuQ) (n := abcQ) (by decide) (by decide) ha one_room
  refine ⟨h.1, h.2.mono ?_⟩
  rintro e w' ⟨v, g, L', h1, h2, h3⟩
  exact ⟨v, g, L', h1, h2, toV_of h3 one_to.1 one_to.2.1⟩
theorem oneTo2 {w : World} {f : View} (hv : On f w) (hm : ML f) {A : Option Addr} {c : Nat} (ha : Sl f A c one1) : Con Tryz.prog 11 [str gnuQ, str abcdQ, .slice A 1 c] w (RetM w f [] fun _ L' v => ∃ A c n, v = .tuple #[.slice A n c, i64 11]) := by
  have h := relocTo hv hm (o := gnuQ) (n := abcdQ) (by decide) (by decide) ha one_room
  refine ⟨h.1, h.2.mono ?_⟩
  rintro e w' ⟨v, g, L', h1, h2, its, A, c, h3, h4, h5⟩
  rw [one_to.2.2.1] at h4
  exact ⟨v, g, L', h1, h2, A, c, _, h4⟩
theorem awake25 {w : World} {f : View} (hv : On f w) (hm : ML f) : Con Tryz.prog 8 [] w (Ret w f fun _ v => v = .bool true) := by
  refine enterC hv Tryz.call8 Tryz.func8 ?_
  refine sgE ?_
  refine sg ?_
  refine callV (.tuple #[str onE, i64 2]) (vs := [str onD, str gnuQ, str abcQ]) (fun w g h1 h2 h3 => oneSwap h3 (hm.mono h1)) ?_
  refine runE ?_
  refine efg [(1, str onE), (2, i64 2)] [] (fun ρ => ?_)
  refine sg ?_
  refine callM0 (vs := []) [] (fun w hon hgi => lawOne hon) (fun v g1 L' hs1 hR => ?_)
  obtain ⟨b, b2, rfl, rfl⟩ := hR
  refine rfrzA [] _ (List.Perm.refl _) fun g2 hs2 hsn => ?_
  have ht := one_sl hsn
  have hm2 := hm.mono (hs1.trans hs2)
  refine callM0 (vs := [str gnuQ, str abcQ, .slice (some ⟨b, 0, none⟩) 1 1]) [] (fun w hon hgi => oneTo hon hm2 ht) (fun v g3 L' hs3 hR => ?_)
  obtain ⟨its, A3, c3, hi, rfl, rfl⟩ := hR
  have hil : its.length = 1 := by
    have := congrArg List.length hi
    rwa [List.length_map] at this
  have hbi : ∀ r ∈ its, ItB r.1 := fun r hr => by
    have h5 : r.1 ∈ its.map (·.1) := List.mem_map.2 ⟨r, hr, rfl⟩
    rw [hi, List.mem_singleton] at h5
    rw [h5]
    exact ⟨by decide, by decide, fun z hz => (by cases hz), by decide, fun z hz => by
      obtain rfl := List.mem_singleton.1 hz
      exact ⟨by decide, by decide, by decide, by decide⟩⟩
  refine rfrzA [] _ (List.Perm.refl _) fun g4 hs4 hsn4 => ?_
  have hX := jRow_sl (hsn4 _ (.head _)) (fun e he => hsn4 e (.tail _ he)) hbi (by rw [hil]; decide)
  rw [hi] at hX
  rw [hil]
  have hm4 := hm2.mono (hs3.trans hs4)
  refine runE ?_
  refine efg [(3, .slice A3 1 c3), (4, i64 0), (1, str onE), (2, i64 2)] [] (fun ρ => ?_)
  refine sg ?_
  refine callM0 (vs := []) [] (fun w hon hgi => lawOne hon) (fun v g5 L' hs5 hR => ?_)
  obtain ⟨d, d2, rfl, rfl⟩ := hR
  refine rfrzA [] _ (List.Perm.refl _) fun g6 hs6 hsn6 => ?_
  have ht6 := one_sl hsn6
  have hm6 := hm4.mono (hs5.trans hs6)
  refine callM0 (vs := [str gnuQ, str abcdQ, .slice (some ⟨d, 0, none⟩) 1 1]) [] (fun w hon hgi => oneTo2 hon hm6 ht6) (fun v g7 L' hs7 hR => ?_)
  obtain ⟨A5, c5, n5, rfl⟩ := hR
  refine rwL (L' := []) (fun _ h => h.sublist (List.nil_sublist _)) ?_
  refine runE ?_
  have hX7 := ((hX.mono hs5).mono hs6).mono hs7
  have hm7 := hm6.mono hs7
  obtain ⟨b8, o8, A8, c8, A9, c9, rfl, hc8, _, _, ht8⟩ := hX7.item (show 0 < 1 by decide)
  replace hc8 : Cells g7 b8 (o8 + 0 * 3) [str onX, .slice A8 0 c8, .slice A9 1 c9] := hc8
  replace ht8 : Sl g7 A9 c9 [(⟨[], 2, onE⟩ : Node)] := ht8
  obtain ⟨b9, o9, rfl, hc9, _⟩ := ht8.node (show 0 < 1 by decide)
  replace hc9 : Cells g7 b9 (o9 + 0 * 3) [str [], .int .i64 2, str onE] := hc9
  refine efg [(6, i64 11), (3, .slice (some ⟨b8, o8, none⟩) 1 c3), (4, i64 0), (1, str onE), (2, i64 2)] [] (fun ρ => ?_)
  refine sg ?_
  refine eqS (fun _ => ?_) (fun h => absurd rfl h)
  refine eqI (fun _ => ?_) (fun h => absurd rfl h)
  refine eqI (fun _ => ?_) (fun h => absurd rfl h)
  refine eqI (fun _ => ?_) (fun h => absurd rfl h)
  refine ix 0 (show 0 < 1 by decide) ?_
  refine ldv hc8.2.2.1 ?_
  refine eqI (fun _ => ?_) (fun h => absurd rfl h)
  refine ix 0 (show 0 < 1 by decide) ?_
  refine ldv hc8.2.2.1 ?_
  refine ix 0 (show 0 < 1 by decide) ?_
  refine ldv hc9.2.2.1 ?_
  refine eqS (fun _ => ?_) (fun h => absurd rfl h)
  refine eqI (fun _ => ?_) (fun h => absurd rfl h)
  refine callM0 (vs := []) [] (fun w hon hgi => lawOne hon) (fun v g8 L' hs8 hR => ?_)
  obtain ⟨q, q2, rfl, rfl⟩ := hR
  refine rfrzA [] _ (List.Perm.refl _) fun g10 hs10 hsn10 => ?_
  have ht10 := one_sl hsn10
  refine callV (i64 2) (vs := [.slice (some ⟨q, 0, none⟩) 1 1, str gnuQ]) (fun w g h1 h2 h3 => oneCount h3 ((hm7.mono (hs8.trans hs10)).mono h1) (ht10.mono h1)) ?_
  refine eqI (fun _ => ?_) (fun h => absurd rfl h)
  refine runE ?_
  refine ew_ret ?_
  exact ret1 rfl
end Go.Hog
