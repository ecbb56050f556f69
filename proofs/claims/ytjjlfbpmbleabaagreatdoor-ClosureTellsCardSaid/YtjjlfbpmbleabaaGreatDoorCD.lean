/- S26 F56 E32, in one text. -/
import Derived.Test.YtjjlfbpmbleabaaGreatDoorS7
import Derived.Test.YtjjlfbpmbleabaaGreatDoorCC
import Derived.Test.YtjjlfbpmbleabaaGreatDoorF16
import Derived.Test.YtjjlfbpmbleabaaGreatDoorEZ
set_option linter.unusedVariables false
namespace Go.Hog
theorem Rch.sub {a : List Item} {S T : List Str} (hST : ∀ s ∈ S, s ∈ T) {s : Str} (h : Rch a S s) : Rch a T s := by
  induction h with
  | base h1 h2 => exact .base (hST _ h1) h2
  | step _ h2 h3 h4 ih => exact .step ih h2 h3 h4
theorem Rch.again {a : List Item} {S : List Str} {s : Str} (h : Rch a (reachL a S) s) : Rch a S s := by
  induction h with
  | base h1 h2 => exact reachL_mem.1 h1
  | step _ h2 h3 h4 ih => exact .step ih h2 h3 h4
theorem reach_again (a : List Item) (S : List Str) : reachL a (reachL a S) = reachL a S :=
  strict_uniq (reachL_sorted _ _) (reachL_sorted _ _) fun s => by
    rw [reachL_mem, reachL_mem]
    exact ⟨fun h => h.again, fun h => .base (reachL_mem.2 h) h.there⟩
theorem reachL_len (a : List Item) (S : List Str) : (reachL a S).length ≤ a.length := by
  have h1 : (reachL a S).Nodup := (reachL_sorted a S).imp fun h e => by subst e; exact absurd h (List.lt_irrefl _)
  have h2 : ∀ s ∈ reachL a S, s ∈ names a := fun s hs => (reachL_mem.1 hs).names
  have := h1.length_le_of_subset (l₂ := names a) h2
  rwa [show (names a).length = a.length from List.length_map _] at this
end Go.Hog

set_option linter.unusedVariables false
set_option linter.unusedSimpArgs false
set_option maxRecDepth 100000
set_option maxHeartbeats 1000000
namespace Go.Hog
open Go.RowKit Rp Go.Proofs
def twX : Str := [48, 49, 50, 51, 52, 53, 54, 97, 45, 120]
def twY : Str := [49, 49, 50, 51, 52, 53, 54, 97, 45, 121]
def twH : Str := [49, 49, 50, 51, 52, 53, 54, 97]
def gnuP : Str := [47, 103, 110, 117]
def abP : Str := [47, 97, 47, 98]
def two2 : List Item := [⟨twX, [twY], [⟨[], 2, twH⟩]⟩, ⟨twY, [], [⟨[], 1, []⟩]⟩]
theorem two_val : valE gnuP two2 = 0 := by decide +kernel
theorem two_val1 : valE gnuP (two2.take 1) = 8 := by decide +kernel
theorem two_reach : reachL two2 [twX] = [twX, twY] := by
  rw [reachL_run (r := [twX, twY]) 10 (by decide +kernel)]
  decide +kernel
theorem lawTwo {w : World} {f : View} (hv : On f w) : Con Tryz.prog 21 [] w (RetM w f [] fun _ L' v => ∃ b b1 b3 b6, v = .slice (some ⟨b, 0, none⟩) 2 2 ∧ L' = [.row (some ⟨b, 0, none⟩) 2 2 29 3 [str twX, .slice (some ⟨b1, 0, none⟩) 1 1, .slice (some ⟨b3, 0, none⟩) 1 1, str twY, .slice none 0 0, .slice (some ⟨b6, 0, none⟩) 1 1], nRow (some ⟨b6, 0, none⟩) 1 [⟨[], 1, []⟩], nRow (some ⟨b3, 0, none⟩) 1 [⟨[], 2, twH⟩], sRow (some ⟨b1, 0, none⟩) 1 [twY]]) := by
  refine enterM (L := []) hv (Given.nil _ _) Tryz.call21 Tryz.func21 ?_
  refine sgE ?_
  refine sg ?_
  refine bsl fun b1 => ?_
  refine bld ?_
  refine bsl fun b3 => ?_
  refine bld ?_
  refine bld ?_
  refine bsl fun b6 => ?_
  refine bld ?_
  refine bsl fun b => ?_
  refine runE ?_
  refine ew_ret ?_
  exact ret1M ⟨b, b1, b3, b6, rfl, rfl⟩
theorem two_sl {g : View} {b b1 b3 b6 : Nat} (h : ∀ e ∈ [HE.row (some ⟨b, 0, none⟩) 2 2 29 3 [str twX, .slice (some ⟨b1, 0, none⟩) 1 1, .slice (some ⟨b3, 0, none⟩) 1 1, str twY, .slice none 0 0, .slice (some ⟨b6, 0, none⟩) 1 1], nRow (some ⟨b6, 0, none⟩) 1 [⟨[], 1, []⟩], nRow (some ⟨b3, 0, none⟩) 1 [⟨[], 2, twH⟩], sRow (some ⟨b1, 0, none⟩) 1 [twY]], e.seen g) : Sl g (some ⟨b, 0, none⟩) 2 two2 := by
  have h0 := h _ (.head _)
  have h6 := h _ (.tail _ (.head _))
  have h3 := h _ (.tail _ (.tail _ (.head _)))
  have h1 := h _ (.tail _ (.tail _ (.tail _ (.head _))))
  have m6 : rp g (⟨[], 1, []⟩ : Node) (nodeC ⟨[], 1, []⟩) := ⟨rfl, by decide, by decide, by decide, by decide⟩
  have n6 : Sl g (some ⟨b6, 0, none⟩) 1 [(⟨[], 1, []⟩ : Node)] := (Rw.one m6).sl h6 rfl (by decide)
  have m3 : rp g (⟨[], 2, twH⟩ : Node) (nodeC ⟨[], 2, twH⟩) := ⟨rfl, by decide, by decide, by decide, by decide⟩
  have n3 : Sl g (some ⟨b3, 0, none⟩) 1 [(⟨[], 2, twH⟩ : Node)] := (Rw.one m3).sl h3 rfl (by decide)
  have t1 : Sl g (some ⟨b1, 0, none⟩) 1 [twY] := Sl.ofTexts h1 rfl (by decide) (by decide)
  have i1 : rp g (⟨twX, [twY], [⟨[], 2, twH⟩]⟩ : Item) [str twX, .slice (some ⟨b1, 0, none⟩) 1 1, .slice (some ⟨b3, 0, none⟩) 1 1] := ⟨_, _, _, _, rfl, by decide, t1, n3⟩
  have i2 : rp g (⟨twY, [], [⟨[], 1, []⟩]⟩ : Item) [str twY, .slice none 0 0, .slice (some ⟨b6, 0, none⟩) 1 1] := ⟨_, _, _, _, rfl, by decide, Sl.nil g, n6⟩
  exact ((Rw.one i1).append (Rw.one i2)).sl h0 rfl (by decide)
theorem two_fit : FitT two2 := ⟨by decide, by decide⟩
theorem awake9 {w : World} {f : View} (hv : On f w) (hm : ML f) : Con Tryz.prog 6 [] w (Ret w f fun _ v => v = .bool true) := by
  refine enterC hv Tryz.call6 Tryz.func6 ?_
  refine sgE ?_
  refine sg ?_
  refine callM0 (vs := []) [] (fun w hon hgi => lawTwo hon) (fun v g1 L' hs1 hR => ?_)
  obtain ⟨b, b1, b3, b6, rfl, rfl⟩ := hR
  refine rfrzA [] _ (List.Perm.refl _) fun g2 hs2 hsn => ?_
  have ht := two_sl hsn
  refine callM0 (vs := [.slice (some ⟨b, 0, none⟩) two2.length 2, str twY]) [] (fun w hon hgi => closureGet hon ht two_fit) (fun v g3 L' hs3 hR => ?_)
  rw [show getR two2 twY = fun (L' : List HE) v => ∃ B1 d1 B2 d2, v = .tuple #[.agg ⟨itemC ⟨twY, [], [⟨[], 1, []⟩]⟩ B1 d1 B2 d2⟩, .bool true] ∧ L' = [nRow B2 d2 [⟨[], 1, []⟩], sRow B1 d1 []] from rfl] at hR
  obtain ⟨B1, d1, B2, d2, rfl, rfl⟩ := hR
  refine alloc fun bt => ?_
  refine st 0 ?_
  refine rfrzA [] _ (List.Perm.refl _) fun g4 hs4 hsn4 => ?_
  have hbt := hsn4 _ (.head _)
  have k0 : g4.cell? ⟨bt, 0, none⟩ = some (str twY) := blk_seen hbt
  have hm4 : ML g4 := hm.mono (hs1.trans (hs2.trans (hs3.trans hs4)))
  refine runE ?_
  refine efg [(2, .bool true), (1, .pointer (some ⟨bt, 0, none⟩))] [] (fun ρ => ?_)
  refine sg ?_
  refine callV (.bool (decide (prefixOk gnuP))) (vs := [str gnuP]) (fun w g h1 h2 h3 => closurePrefix h3 (hm4.mono h1) (by decide)) ?_
  rw [show decide (prefixOk gnuP) = true by decide +kernel]
  refine callV (.bool (decide (prefixOk abP))) (vs := [str abP]) (fun w g h1 h2 h3 => closurePrefix h3 (hm4.mono h1) (by decide)) ?_
  rw [show decide (prefixOk abP) = false by decide +kernel]
  refine callM0 (vs := []) [] (fun w hon hgi => lawTwo hon) (fun v g5 L' hs5 hR => ?_)
  obtain ⟨c0, c1, c3, c6, rfl, rfl⟩ := hR
  refine rfrzA [] _ (List.Perm.refl _) fun g6 hs6 hsn6 => ?_
  have ht6 := two_sl hsn6
  have hm6 := hm4.mono (hs5.trans hs6)
  refine callV (i64 (valE gnuP two2)) (vs := [str gnuP, .slice (some ⟨c0, 0, none⟩) two2.length 2]) (fun w g h1 h2 h3 => closureValidate h3 (hm6.mono h1) (by decide) (ht6.mono h1)) ?_
  rw [two_val]
  refine eqI (fun _ => ?_) (fun h => absurd rfl h)
  refine callM0 (vs := []) [] (fun w hon hgi => lawTwo hon) (fun v g7 L' hs7 hR => ?_)
  obtain ⟨e0, e1, e3, e6, rfl, rfl⟩ := hR
  refine rfrzA [] _ (List.Perm.refl _) fun g8 hs8 hsn8 => ?_
  have ht8 := two_sl hsn8
  have hm8 := hm6.mono (hs7.trans hs8)
  refine slH 1 (show 1 ≤ 2 by decide) ?_
  refine callV (i64 (valE gnuP (two2.take 1))) (vs := [str gnuP, .slice (some ⟨e0, 0, none⟩) (two2.take 1).length 2]) (fun w g h1 h2 h3 => closureValidate h3 (hm8.mono h1) (by decide) ((ht8.take 1).mono h1)) ?_
  rw [two_val1]
  refine eqI (fun _ => ?_) (fun h => absurd rfl h)
  refine ldv (Sub.cell (hs5.trans (hs6.trans (hs7.trans hs8))) k0) ?_
  refine eqS (fun _ => ?_) (fun h => absurd rfl h)
  refine callM0 (vs := []) [] (fun w hon hgi => lawTwo hon) (fun v g9 L' hs9 hR => ?_)
  obtain ⟨j0, j1, j3, j6, rfl, rfl⟩ := hR
  refine rfrzA [] _ (List.Perm.refl _) fun g10 hs10 hsn10 => ?_
  have ht10 := two_sl hsn10
  refine bsl fun b34 => ?_
  refine rfrz 0 fun g11 hs11 hq11 => ?_
  have hx1 : Sl g11 (some ⟨b34, 0, none⟩) 1 [twX] := Sl.ofTexts hq11 rfl (by decide) (by decide)
  refine callM0 (vs := [.slice (some ⟨j0, 0, none⟩) two2.length 2, .slice (some ⟨b34, 0, none⟩) ([twX] : List Str).length 1]) [] (fun w hon hgi => closureReach hon (ht10.mono hs11) two_fit (by decide) hx1 (by decide)) (fun v g12 L' hs12 hR => ?_)
  unfold reachR at hR
  rw [two_reach] at hR
  obtain ⟨A9, c9, rfl, rfl⟩ := hR
  refine bsl fun b36 => ?_
  refine callV (.bool (decide (([twX, twY] : List Str) = [twX, twY]))) (vs := [.slice A9 ([twX, twY] : List Str).length c9, .slice (some ⟨b36, 0, none⟩) ([twX, twY] : List Str).length 2]) (fun w g h1 h2 h3 => sameTexts h3 (Sl.ofTexts (h2 _ (.tail _ (.head _))) rfl (by decide) (by decide)) (Sl.ofTexts (l := [twX, twY]) (h2 _ (.head _)) rfl (by decide) (by decide))) ?_
  rw [decide_eq_true rfl]
  refine runE ?_
  refine ewL (L' := []) (fun _ h => h.sublist (List.nil_sublist _)) ?_
  refine ew_ret ?_
  exact ret1 rfl
end Go.Hog

set_option linter.unusedVariables false
set_option linter.unusedSimpArgs false
namespace Go.Hog
open Go.RowKit Rp
def isBoolT (P : Program) (t : TypeId) : Bool := match P.underlying t with | some .bool => true | _ => false
theorem und_isBoolT {P : Program} {t : TypeId} (h : isBoolT P t = true) : P.underlying t = some .bool := by
  unfold isBoolT at h
  split at h
  · assumption
  · cases h
section
variable {P : Program} {n : Nat} {B : Bs} {f : View} {L : List HE} {ρ : Env} {K : Kon} {ops : Array Oper} {m : Md} {l l0 : List Oper} {ρ0 : Env} {d : Nat} {x y : Operand} {t t2 ty : TypeId} {pos : String} {af : Array Edge} {gd : Option (Nat × Bool)} {a b : Bool}
theorem neBo (r : Bool) (hr : (!(a == b)) = r) (k : RW m P n B ops K l (up ρ d (.bool r)) f L) (hrun : runP P ops l0 ρ0 = (⟨some d, .binOp .neq t x y t2, ty, pos, af, gd⟩ :: l, ρ) := by rfl) (hg : wantedE ops ρ ⟨some d, .binOp .neq t x y t2, ty, pos, af, gd⟩ = true := by rfl)
    (hx : ev ρ x = .bool a := by rfl) (hy : ev ρ y = .bool b := by rfl) (he : isBoolT P t = true := by rfl) : RW m P n B ops K l0 ρ0 f L := by
  refine rw_runP l0 ρ0 ?_
  rw [hrun]
  subst hr
  exact rw_y hg (fun w hw => by
    have := run_neq_bool (P := P) w t a b (und_isBoolT he)
    simp [execOp, eqGuard, hx, hy, this]) k
theorem eqBo2 (r : Bool) (hr : (a == b) = r) (k : RW m P n B ops K l (up ρ d (.bool r)) f L) (hrun : runP P ops l0 ρ0 = (⟨some d, .binOp .eql t x y t2, ty, pos, af, gd⟩ :: l, ρ) := by rfl) (hg : wantedE ops ρ ⟨some d, .binOp .eql t x y t2, ty, pos, af, gd⟩ = true := by rfl)
    (hx : ev ρ x = .bool a := by rfl) (hy : ev ρ y = .bool b := by rfl) (he : isBoolT P t = true := by rfl) : RW m P n B ops K l0 ρ0 f L := by
  refine rw_runP l0 ρ0 ?_
  rw [hrun]
  subst hr
  exact rw_y hg (fun w hw => by
    have := run_eql_bool (P := P) w t a b (und_isBoolT he)
    simp [execOp, eqGuard, hx, hy, this]) k
end
end Go.Hog
