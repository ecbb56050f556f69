/- ClosureTells answers true. -/
import Derived.Test.YtjjlfbpmbleabaaGreatDoorCF
import Derived.Test.YtjjlfbpmbleabaaGreatDoorCI
import Derived.Test.YtjjlfbpmbleabaaGreatDoorCJ
import Derived.Test.YtjjlfbpmbleabaaGreatDoorCD
import Derived.Test.YtjjlfbpmbleabaaGreatDoorCG
set_option linter.unusedVariables false
set_option linter.unusedSimpArgs false
set_option maxRecDepth 100000
set_option maxHeartbeats 1000000
namespace Go.Hog
open Go.RowKit Rp Go.Proofs
theorem great_fit9 {a : List Item} (h : ¬ GreatI a) : a.length ≤ 10 ∧ FitT a := by
  have h10 : a.length ≤ 10 := by
    by_cases e : 10 < a.length
    · exact absurd (.inl e) h
    · omega
  refine ⟨h10, by omega, fun x hx => ?_⟩
  refine ⟨?_, ?_⟩
  · by_cases e : (12 : Int) < x.refs.length
    · exact absurd (.inr ⟨x, hx, .inr (.inl (.inl e))⟩) h
    · omega
  · by_cases e : (30 : Int) < x.tree.length
    · exact absurd (.inr ⟨x, hx, .inr (.inr (.inl e))⟩) h
    · omega
theorem num9 {w : World} {f : View} (hv : On f w) {n : Int} : Con Tryz.prog 15 [i64 n] w (Ret w f fun _ v => v = i64 n) := by
  refine enterC hv Tryz.call15 Tryz.func15 ?_
  refine sgE ?_
  refine sgE ?_
  refine ew_ret ?_
  exact ret1 rfl
theorem getX {a : List Item} {u : Str} {L' : List HE} {v : Value} (h : getR a u L' v) : (getI a u = none ∧ v = .tuple #[.agg ⟨itemC dI none 0 none 0⟩, .bool (getI a u).isSome] ∧ L' = []) ∨ (∃ x B1 d1 B2 d2, getI a u = some x ∧ v = .tuple #[.agg ⟨itemC x B1 d1 B2 d2⟩, .bool (getI a u).isSome] ∧ L' = [nRow B2 d2 x.tree, sRow B1 d1 x.refs]) := by
  unfold getR at h
  cases e : getI a u with
  | none =>
    rw [e] at h
    exact .inl ⟨rfl, h.1, h.2⟩
  | some x =>
    rw [e] at h
    obtain ⟨B1, d1, B2, d2, h1, h2⟩ := h
    exact .inr ⟨x, B1, d1, B2, d2, rfl, h1, h2⟩
theorem closureTellsT {w : World} {f : View} (hv : On f w) (hm : ML f) {s : Str} (hs : s.length ≤ LB) {A : Option Addr} {c : Nat} {a : List Item} (ha : Sl f A c a) {u : Str} (hu : u.length ≤ LB) {A1 : Option Addr} {c1 : Nat} {S : List Str} (hS : Sl f A1 c1 S) :
    Con Tryz.prog 3 [str s, .slice A a.length c, str u, .slice A1 S.length c1] w (Ret w f fun _ v => v = .bool true) := by
  refine enterC hv Tryz.call3 Tryz.func3 ?_
  have hlim := ha.len_lt
  refine sgE ?_
  refine sq (sg ?_)
  refine gt (fun h => ?_) (fun h => ?_)
  · refine runE ?_
    refine cT (sg ?_)
    refine callV (.bool true) (vs := []) (fun w g hs _ hon => awake9 hon (hm.mono hs)) ?_
    refine runE ?_
    refine ew_ret ?_
    exact ret1 rfl
  refine callB (p := GreatI a) (vs := [.slice A a.length c]) (fun w g hs _ hon => greatItems hon (ha.mono hs)) (fun h1 => ?_) (fun h1 => ?_)
  · refine runE ?_
    refine cT (sg ?_)
    refine callV (.bool true) (vs := []) (fun w g hs _ hon => awake9 hon (hm.mono hs)) ?_
    refine runE ?_
    refine ew_ret ?_
    exact ret1 rfl
  obtain ⟨h10, hfit⟩ := great_fit9 h1
  refine gt (fun h => ?_) (fun h => ?_)
  · refine runE ?_
    refine cT (sg ?_)
    refine callV (.bool true) (vs := []) (fun w g hs _ hon => awake9 hon (hm.mono hs)) ?_
    refine runE ?_
    refine ew_ret ?_
    exact ret1 rfl
  refine callB (p := GreatT S 12 100) (vs := [.slice A1 S.length c1, i64 12, i64 100]) (fun w g hs _ hon => greatTexts hon (hS.mono hs)) (fun h2 => ?_) (fun h2 => ?_)
  · refine runE ?_
    refine cT (sg ?_)
    refine callV (.bool true) (vs := []) (fun w g hs _ hon => awake9 hon (hm.mono hs)) ?_
    refine runE ?_
    refine ew_ret ?_
    exact ret1 rfl
  have hS12 : S.length ≤ 12 := by
    by_cases e : (12 : Int) < S.length
    · exact absurd (.inl e) h2
    · omega
  refine runE ?_
  refine cFs ?_
  refine efg [(0, str s), (1, .slice A a.length c), (2, str u), (3, .slice A1 S.length c1)] [] (fun ρ => ?_)
  have hXB : ItB ((getI a u).getD dI) ∧ ((getI a u).getD dI).refs.length ≤ 1000 ∧ ((getI a u).getD dI).tree.length ≤ 1000 := by
    cases e : getI a u with
    | none => exact ⟨itB_dI, by decide, by decide⟩
    | some x => exact ⟨ha.itB x (getI_mem e), hfit.2 x (getI_mem e)⟩
  have hX0 : getI a u = none → (getI a u).getD dI = dI := fun e => by rw [e]; rfl
  have hX1 : ∀ x, getI a u = some x → (getI a u).getD dI = x := fun x e => by rw [e]; rfl
  have hg9 : ∀ {w : World} {f' : View}, Sub f f' → On f' w → Con Tryz.prog 8 [.slice A a.length c, str u] w (Ret w f' fun g v => ∃ cs, rp g ((getI a u).getD dI) cs ∧ v = .tuple #[.agg ⟨cs⟩, .bool (getI a u).isSome]) := fun hs hon => get9 hon (ha.mono hs)
  generalize (getI a u).getD dI = X at hXB hX0 hX1 hg9
  obtain ⟨hXB, hXr, hXt⟩ := hXB
  refine sqJ (σ := Option Addr × Nat × Option Addr × Nat × Nat × View) (fun t => [(9, .pointer (some ⟨t.2.2.2.2.1, 0, none⟩)), (10, .bool (getI a u).isSome), (0, str s), (1, .slice A a.length c), (2, str u), (3, .slice A1 S.length c1)]) (fun t => t.2.2.2.2.2) (fun t => [.blk t.2.2.2.2.1 (.cells ⟨itemC X t.1 t.2.1 t.2.2.1 t.2.2.2.1⟩ 29), nRow t.2.2.1 t.2.2.2.1 X.tree, sRow t.1 t.2.1 X.refs]) (fun t => Sub f t.2.2.2.2.2) ?_ ?_
  · refine rg ?_
    refine callM0 (vs := [.slice A a.length c, str u]) [] (fun w hon hgi => closureGet hon ha hfit) (fun v g1 L' hs1 hR => ?_)
    rcases getX hR with ⟨e, rfl, rfl⟩ | ⟨x, B1, d1, B2, d2, e, rfl, rfl⟩
    · have hX := hX0 e
      refine nilrow 9 1 ?_
      refine nilrow 66 3 ?_
      refine alloc fun b9 => ?_
      refine st 0 ?_
      refine runE ?_
      exact jn (none, 0, none, 0, b9, g1) hs1 (hh := by rw [hX]; rfl)
    · have hX := hX1 x e
      refine alloc fun b9 => ?_
      refine st 0 ?_
      refine runE ?_
      exact jn (B1, d1, B2, d2, b9, g1) hs1 (hh := by rw [hX]; rfl)
  rintro ⟨B1, d1, B2, d2, b9, g1⟩ ρ hs1
  replace hs1 : Sub f g1 := hs1
  show EW _ _ _ _ _ (ups ρ [(9, .pointer (some ⟨b9, 0, none⟩)), (10, .bool (getI a u).isSome), (0, str s), (1, .slice A a.length c), (2, str u), (3, .slice A1 S.length c1)]) g1 [.blk b9 (.cells ⟨itemC X B1 d1 B2 d2⟩ 29), nRow B2 d2 X.tree, sRow B1 d1 X.refs]
  refine sg ?_
  refine call (vs := [.slice A a.length c, str u]) (R := fun g v => ∃ cs, rp g X cs ∧ v = .tuple #[.agg ⟨cs⟩, .bool (getI a u).isSome]) (fun w hon => hg9 hs1 hon) (fun v g2 hs2 hR => ?_)
  obtain ⟨cs, ⟨C1, e1, C2, e2, rfl, hxn, hxr, hxt⟩, rfl⟩ := hR
  refine alloc fun b11 => ?_
  refine st 0 ?_
  refine rfrz 0 fun g3 hs3 hq => ?_
  have k11 : Cells g3 b11 0 [str X.name, .slice C1 X.refs.length e1, .slice C2 X.tree.length e2] := ⟨blk_seen hq, blk_seen hq, blk_seen hq, trivial⟩
  have hrX : rp g3 X [str X.name, .slice C1 X.refs.length e1, .slice C2 X.tree.length e2] := ⟨C1, e1, C2, e2, rfl, hxn, hxr.mono hs3, hxt.mono hs3⟩
  refine runE ?_
  generalize (getI a u).isSome = ok
  refine efg [(12, .bool ok), (11, .pointer (some ⟨b11, 0, none⟩)), (9, .pointer (some ⟨b9, 0, none⟩)), (10, .bool ok), (0, str s), (1, .slice A a.length c), (2, str u), (3, .slice A1 S.length c1)] [.blk b9 (.cells ⟨itemC X B1 d1 B2 d2⟩ 29), nRow B2 d2 X.tree, sRow B1 d1 X.refs] (fun ρ => ?_)
  have hm3 := hm.mono (hs1.trans (hs2.trans hs3))
  have hf3 := hs1.trans (hs2.trans hs3)
  have ha3 := ha.mono hf3
  have hS3 := hS.mono hf3
  have hr9 : ∀ {w : World} {f' : View}, Sub g3 f' → On f' w → Con Tryz.prog 12 [.slice A a.length c, .slice A1 S.length c1] w (RetM w f' [] fun _ L' v => ∃ A c, v = .slice A (reachL a S).length c ∧ L' = [sRow A c (reachL a S)]) := fun hs hon => ref9Reach hon (ha3.mono hs) hfit (by omega) (hS3.mono hs) (by omega)
  have hlF := reachL_len a S
  have hbF : ∀ z ∈ reachL a S, z.length ≤ LB := fun z hz => by
    obtain ⟨y, hy, rfl⟩ := List.mem_map.1 (reachL_mem.1 hz).names
    exact (ha.itB y hy).name
  refine sg ?_
  refine callM (vs := [.slice A a.length c, .slice A1 S.length c1]) [] [.blk b9 (.cells ⟨itemC X B1 d1 B2 d2⟩ 29), nRow B2 d2 X.tree, sRow B1 d1 X.refs] (fun w hon hgi => closureReach hon ha3 hfit (by omega) hS3 (by omega)) (fun v g4 L' hs4 hR => ?_)
  obtain ⟨A7, c7, rfl, rfl⟩ := hR
  generalize reachL a S = F at hr9 hlF hbF
  have hm4 := hm3.mono hs4
  have ha4 := ha3.mono hs4
  have k11' : Cells g4 b11 0 [str X.name, .slice C1 X.refs.length e1, .slice C2 X.tree.length e2] := k11.mono hs4
  have hrX' := Rp.mono hs4 hrX
  refine runE ?_
  refine efg [(13, .slice A7 F.length c7), (12, .bool ok), (11, .pointer (some ⟨b11, 0, none⟩)), (9, .pointer (some ⟨b9, 0, none⟩)), (10, .bool ok), (0, str s), (1, .slice A a.length c), (2, str u), (3, .slice A1 S.length c1)] [sRow A7 c7 F, .blk b9 (.cells ⟨itemC X B1 d1 B2 d2⟩ 29), nRow B2 d2 X.tree, sRow B1 d1 X.refs] (fun ρ => ?_)
  refine sg ?_
  refine ldoA 1 ?_
  refine bsl fun b48 => ?_
  refine ldvA k11' ?_
  refine bsl fun b50 => ?_
  refine req [.row (some ⟨b50, 0, none⟩) 1 1 29 3 [str X.name, .slice C1 X.refs.length e1, .slice C2 X.tree.length e2], .row (some ⟨b48, 0, none⟩) 1 1 29 3 (itemC X B1 d1 B2 d2), sRow A7 c7 F, .blk b9 (.cells ⟨itemC X B1 d1 B2 d2⟩ 29), nRow B2 d2 X.tree, sRow B1 d1 X.refs] ?_
  refine callV (.bool (decide ([X] = [X]))) (vs := [.slice (some ⟨b48, 0, none⟩) ([X] : List Item).length 1, .slice (some ⟨b50, 0, none⟩) ([X] : List Item).length 1]) (fun w g h1 h2 h3 => sameItems h3
    ((Rw.one (jC_rp (r := (X, B1, d1, B2, d2)) (h2 _ (.tail _ (.tail _ (.tail _ (.tail _ (.tail _ (.head _))))))) (h2 _ (.tail _ (.tail _ (.tail _ (.tail _ (.head _)))))) hXB)).sl (h2 _ (.tail _ (.head _))) rfl (show 1 ≤ LB by decide))
    ((Rw.one (Rp.mono h1 hrX')).sl (h2 _ (.head _)) rfl (show 1 ≤ LB by decide))) ?_
  rw [decide_eq_true rfl]
  refine eqBo2 (a := ok) (b := ok) true (by cases ok <;> rfl) ?_
  refine callMo (vs := [.slice A a.length c, .slice A1 S.length c1]) (R := fun L' v => ∃ A c, v = .slice A F.length c ∧ L' = [sRow A c F]) (fun w g hs hsn hon => hr9 (hs4.trans hs) hon) (fun v L' hR => ?_)
  obtain ⟨A9, c9, rfl, rfl⟩ := hR
  refine callV (.bool (decide (F = F))) (vs := [.slice A7 F.length c7, .slice A9 F.length c9]) (fun w g h1 h2 h3 => sameTexts h3 (Sl.ofTexts (h2 _ (.tail _ (.tail _ (.tail _ (.head _))))) rfl hbF (by unfold LB; omega)) (Sl.ofTexts (h2 _ (.head _)) rfl hbF (by unfold LB; omega))) ?_
  rw [decide_eq_true rfl]
  refine callV (.bool (decide (prefixOk s))) (vs := [str s]) (fun w g h1 h2 h3 => closurePrefix h3 (hm4.mono h1) hs) ?_
  refine callV (.bool (decide (prefixOk s))) (vs := [str s]) (fun w g h1 h2 h3 => ref9Prefix h3 hs) ?_
  refine eqBo2 (a := decide (prefixOk s)) (b := decide (prefixOk s)) true (by simp) ?_
  refine callV (i64 (valE s a)) (vs := [str s, .slice A a.length c]) (fun w g h1 h2 h3 => closureValidate h3 (hm4.mono h1) hs (ha4.mono h1)) ?_
  refine callV (i64 (valE s a)) (vs := [i64 (valE s a)]) (fun w g h1 h2 h3 => num9 h3) ?_
  refine callV (i64 (valE s a)) (vs := [str s, .slice A a.length c]) (fun w g h1 h2 h3 => ref9Validate h3 hs (ha4.mono h1)) ?_
  refine eqI (fun _ => ?_) (fun h => absurd rfl h)
  refine runE ?_
  refine efg [(14, .bool true), (13, .slice A7 F.length c7), (11, .pointer (some ⟨b11, 0, none⟩)), (9, .pointer (some ⟨b9, 0, none⟩)), (1, .slice A a.length c), (2, str u)] [sRow A9 c9 F, .row (some ⟨b50, 0, none⟩) 1 1 29 3 [str X.name, .slice C1 X.refs.length e1, .slice C2 X.tree.length e2], .row (some ⟨b48, 0, none⟩) 1 1 29 3 (itemC X B1 d1 B2 d2), sRow A7 c7 F, .blk b9 (.cells ⟨itemC X B1 d1 B2 d2⟩ 29), nRow B2 d2 X.tree, sRow B1 d1 X.refs] (fun ρ => ?_)
  refine edropH (edropH (edropH ?_))
  refine sg ?_
  refine callM (vs := [.slice A7 F.length c7]) [sRow A7 c7 F] [.blk b9 (.cells ⟨itemC X B1 d1 B2 d2⟩ 29), nRow B2 d2 X.tree, sRow B1 d1 X.refs] (fun w hon hgi => overTs hon (by omega) hgi) (fun v g5 L' hs5 hR => ?_)
  subst hR
  refine runE ?_
  refine efg [(14, .bool true), (11, .pointer (some ⟨b11, 0, none⟩)), (9, .pointer (some ⟨b9, 0, none⟩)), (1, .slice A a.length c), (2, str u)] [.blk b9 (.cells ⟨itemC X B1 d1 B2 d2⟩ 29), nRow B2 d2 X.tree, sRow B1 d1 X.refs] (fun ρ => ?_)
  refine sg ?_
  refine ldoA 0 ?_
  refine bsl fun b84 => ?_
  refine req [.row (some ⟨b84, 0, none⟩) 1 1 29 3 (itemC X B1 d1 B2 d2), .blk b9 (.cells ⟨itemC X B1 d1 B2 d2⟩ 29), nRow B2 d2 X.tree, sRow B1 d1 X.refs] ?_
  refine rperm (L' := [jRow (some ⟨b84, 0, none⟩) 1 [(X, B1, d1, B2, d2)], sRow B1 d1 X.refs, nRow B2 d2 X.tree, .blk b9 (.cells ⟨itemC X B1 d1 B2 d2⟩ 29)]) ?_ ?_
  · refine List.Perm.cons _ ?_
    exact (List.Perm.swap _ _ _).trans ((List.Perm.cons _ (List.Perm.swap _ _ _)).trans (List.Perm.swap _ _ _))
  refine callM (vs := [.slice (some ⟨b84, 0, none⟩) 1 1]) [jRow (some ⟨b84, 0, none⟩) 1 [(X, B1, d1, B2, d2)], sRow B1 d1 X.refs, nRow B2 d2 X.tree] [.blk b9 (.cells ⟨itemC X B1 d1 B2 d2⟩ 29)] (fun w hon hgi => overIsJ (its := [(X, B1, d1, B2, d2)]) hon (show 1 ≤ 1000000 by decide) (fun r hr => by rw [List.mem_singleton] at hr; subst hr; exact ⟨by show X.refs.length ≤ _; omega, by show X.tree.length ≤ _; omega⟩) hgi) (fun v g6 L' hs6 hR => ?_)
  subst hR
  refine runE ?_
  have hs46 := hs5.trans hs6
  have ha6 := ha4.mono hs46
  have hm6 := hm4.mono hs46
  have k116 := k11'.mono hs46
  have hrX6 := Rp.mono hs46 hrX'
  refine efg [(14, .bool true), (11, .pointer (some ⟨b11, 0, none⟩)), (9, .pointer (some ⟨b9, 0, none⟩)), (1, .slice A a.length c), (2, str u)] [.blk b9 (.cells ⟨itemC X B1 d1 B2 d2⟩ 29)] (fun ρ => ?_)
  refine sqJ (σ := Option Addr × Nat × Option Addr × Nat × View) (fun t => [(14, .bool true), (11, .pointer (some ⟨b11, 0, none⟩)), (9, .pointer (some ⟨b9, 0, none⟩))]) (fun t => t.2.2.2.2) (fun t => [nRow t.2.2.1 t.2.2.2.1 X.tree, sRow t.1 t.2.1 X.refs, .blk b9 (.cells ⟨itemC X t.1 t.2.1 t.2.2.1 t.2.2.2.1⟩ 29)]) (fun t => Sub g6 t.2.2.2.2) ?_ ?_
  · refine rg ?_
    refine callM (vs := [.slice A a.length c, str u]) [] [.blk b9 (.cells ⟨itemC X B1 d1 B2 d2⟩ 29)] (fun w hon hgi => closureGet hon ha6 hfit) (fun v g7 L' hs7 hR => ?_)
    rcases getX hR with ⟨e, rfl, rfl⟩ | ⟨x, D1, q1, D2, q2, e, rfl, rfl⟩
    · have hX := hX0 e
      refine nilrow 9 1 ?_
      refine nilrow 66 3 ?_
      refine st 2 ?_
      refine runE ?_
      exact jn (none, 0, none, 0, g7) hs7 (hh := by rw [hX]; rfl)
    · have hX := hX1 x e
      refine st 2 ?_
      refine runE ?_
      exact jn (D1, q1, D2, q2, g7) hs7 (hh := by rw [hX]; rfl)
  rintro ⟨D1, q1, D2, q2, g7⟩ ρ hs7
  replace hs7 : Sub g6 g7 := hs7
  show EW _ _ _ _ _ (ups ρ [(14, .bool true), (11, .pointer (some ⟨b11, 0, none⟩)), (9, .pointer (some ⟨b9, 0, none⟩))]) g7 [nRow D2 q2 X.tree, sRow D1 q1 X.refs, .blk b9 (.cells ⟨itemC X D1 q1 D2 q2⟩ 29)]
  refine sg ?_
  refine ldoA 2 ?_
  refine bsl fun b95 => ?_
  refine ldvA (k116.mono hs7) ?_
  refine bsl fun b97 => ?_
  refine req [.row (some ⟨b97, 0, none⟩) 1 1 29 3 [str X.name, .slice C1 X.refs.length e1, .slice C2 X.tree.length e2], .row (some ⟨b95, 0, none⟩) 1 1 29 3 (itemC X D1 q1 D2 q2), nRow D2 q2 X.tree, sRow D1 q1 X.refs, .blk b9 (.cells ⟨itemC X D1 q1 D2 q2⟩ 29)] ?_
  refine callV (.bool (decide ([X] = [X]))) (vs := [.slice (some ⟨b95, 0, none⟩) ([X] : List Item).length 1, .slice (some ⟨b97, 0, none⟩) ([X] : List Item).length 1]) (fun w g h1 h2 h3 => sameItems h3
    ((Rw.one (jC_rp (r := (X, D1, q1, D2, q2)) (h2 _ (.tail _ (.tail _ (.tail _ (.head _))))) (h2 _ (.tail _ (.tail _ (.head _)))) hXB)).sl (h2 _ (.tail _ (.head _))) rfl (show 1 ≤ LB by decide))
    ((Rw.one (Rp.mono (hs7.trans h1) hrX6)).sl (h2 _ (.head _)) rfl (show 1 ≤ LB by decide))) ?_
  rw [decide_eq_true rfl]
  refine callV (.bool true) (vs := []) (fun w g hs _ hon => awake9 hon ((hm6.mono hs7).mono hs)) ?_
  refine runE ?_
  refine ewL (L' := []) (fun _ h => h.sublist (List.nil_sublist _)) ?_
  refine ew_ret ?_
  exact ret1 rfl
end Go.Hog
