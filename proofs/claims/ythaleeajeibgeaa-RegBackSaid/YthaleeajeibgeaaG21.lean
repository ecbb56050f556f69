/- RegTells answers true. -/
import Derived.Test.YthaleeajeibgeaaG20
set_option linter.unusedVariables false
set_option linter.unusedSimpArgs false
set_option maxRecDepth 100000
set_option maxHeartbeats 1000000
namespace Go.Hog
open Go.RowKit Rp Go.Proofs
theorem num11b {w : World} {f : View} (hv : On f w) {n : Int} : Con Try.prog 12 [i64 n] w (Ret w f fun _ v => v = i64 n) := by
  refine enterC hv Try.call12 Try.func12 ?_
  refine sgE ?_
  refine sgE ?_
  refine ew_ret ?_
  exact ret1 rfl
theorem eqBD {P : Program} {n : Nat} {B : Bs} {f : View} {L : List HE} {ρ : Env} {K : Kon} {ops : Array Oper} {m : Md} {l l0 : List Oper} {ρ0 : Env} {d : Nat} {x y : Operand} {t t2 ty : TypeId} {pos : String} {af : Array Edge} {gd : Option (Nat × Bool)} {a : Bool}
    (k : RW m P n B ops K l (up ρ d (.bool true)) f L) (hrun : runP P ops l0 ρ0 = (⟨some d, .binOp .eql t x y t2, ty, pos, af, gd⟩ :: l, ρ) := by rfl) (hg : wantedE ops ρ ⟨some d, .binOp .eql t x y t2, ty, pos, af, gd⟩ = true := by rfl)
    (hx : ev ρ x = .bool a := by rfl) (hy : ev ρ y = .bool a := by rfl) (he : (match P.underlying t with | some .bool => true | _ => false) = true := by rfl) : RW m P n B ops K l0 ρ0 f L := by
  refine rw_runP l0 ρ0 ?_
  rw [hrun]
  have hu : P.underlying t = some .bool := by
    split at he
    · assumption
    · cases he
  exact rw_y hg (fun w hw => by
    have := run_eql_bool (P := P) w t a a hu
    simp [execOp, eqGuard, hx, hy, this]) k
theorem bare_layS (p : Pack) : layS (bareP p) = layS p := by
  unfold layS
  rw [bare_lay]
  by_cases h : mayP p
  · rw [if_pos h, if_pos ((bare_may p).2 h)]
  · rw [if_neg h, if_neg fun e => h ((bare_may p).1 e)]
theorem bare_layE (p : Pack) : layE (bareP p) = layE p := by
  unfold layE
  by_cases h : mayP p
  · rw [if_pos h, if_pos ((bare_may p).2 h)]
  · rw [if_neg h, if_neg fun e => h ((bare_may p).1 e)]
theorem bare_packV {g : View} {p : Pack} {A A2 A' : Option Addr} {c c2 c' : Nat} {xs : List Value} (hp : PackV g p A c A2 c2) (hrow : (HE.row A' (bareP p).items.length c' 47 3 xs).seen g) (hr : Rw g (bareP p).items xs) : PackV g (bareP p) A' c' A2 c2 := by
  have hl : (bareP p).items.length = p.items.length := List.length_map _
  exact ⟨hp.pre, hr.sl hrow rfl (by rw [hl]; exact hp.items.len_lt), hp.prof, hp.pol⟩
theorem regTells {w : World} {f : View} (hv : On f w) (hm : ML f) {p : Pack} {cs : List Value} (hp0 : rp f p cs) :
    Con Try.prog 3 [.agg ⟨cs⟩] w (Ret w f fun _ v => v = .bool true) := by
  obtain ⟨A, c, A2, c2, rfl, hp⟩ := hp0
  refine enterC hv Try.call3 Try.func3 ?_
  refine sg ?_
  refine box (vs := packC p A c A2 c2) fun b1 => ?_
  refine runE ?_
  refine efrz 0 fun g hs hq => ?_
  have hp1 := hp.mono hs
  have hmg := hm.mono hs
  have hc : Cells g b1 0 (packC p A c A2 c2) := ⟨blk_seen hq, blk_seen hq, blk_seen hq, blk_seen hq, trivial⟩
  refine efg [(1, ptrTo b1)] [] (fun ρ => ?_)
  refine sq (sg ?_)
  refine ldvA hc ?_
  refine callB (p := GreatP p) (vs := [.agg ⟨packC p A c A2 c2⟩]) (fun w g hs _ hon => greatPack hon (hp1.mono hs)) (fun h1 => ?_) (fun h1 => ?_)
  · refine runE ?_
    refine cT (sg ?_)
    refine callV (.bool true) (vs := []) (fun w g hs _ hon => awake11 hon (hmg.mono hs)) ?_
    refine runE ?_
    refine ew_ret ?_
    exact ret1 rfl
  have hi10 := great_items h1
  refine runE ?_
  refine cFs ?_
  refine sg ?_
  refine ldvA hc ?_
  refine callM0 (vs := [.agg ⟨packC p A c A2 c2⟩]) [] (fun w hon hgi => regLay hon hmg hp1 (by omega)) (fun v g2 L' hs2 hR => ?_)
  obtain ⟨rfl, rfl⟩ := hR
  have hp2 := hp1.mono hs2
  have hmg2 := hmg.mono hs2
  have hc2 := Cells.mono hs2 hc
  refine runE ?_
  refine efg [(4, i64 (layE p)), (3, str (layS p)), (1, ptrTo b1)] [] (fun ρ => ?_)
  refine sg ?_
  refine ldvA hc2 ?_
  refine callV (vs := [.agg ⟨packC p A c A2 c2⟩]) (.tuple #[str (layS p), i64 (layE p)]) (fun w' g' h1 h2 h3 => ref11Lay h3 (hp2.mono h1) (by omega)) ?_
  refine runE ?_
  refine efg [(6, i64 (layE p)), (5, str (layS p)), (4, i64 (layE p)), (3, str (layS p)), (1, ptrTo b1)] [] (fun ρ => ?_)
  refine sg ?_
  refine ldvA hc2 ?_
  refine callM0 (vs := [.agg ⟨packC p A c A2 c2⟩]) [] (fun w hon hgi => lawBare hon hp2 (by omega)) (fun v g3 L' hs3 hR => ?_)
  obtain ⟨A', c', xs, rfl, rfl, hrw⟩ := hR
  refine rfrz 0 fun g4 hs4 hrow => ?_
  have hs24 := hs3.trans hs4
  have hpb := bare_packV (hp2.mono hs24) hrow (hrw.mono hs4)
  have hbl : (bareP p).items.length ≤ 1000000 := by rw [show (bareP p).items.length = p.items.length from List.length_map _]; omega
  have hmg4 := hmg2.mono hs24
  refine callM0 (vs := [.agg ⟨packC (bareP p) A' c' A2 c2⟩]) [] (fun w hon hgi => regLay hon hmg4 hpb hbl) (fun v g5 L' hs5 hR => ?_)
  obtain ⟨rfl, rfl⟩ := hR
  rw [bare_layS, bare_layE]
  have hp5 := (hp2.mono hs24).mono hs5
  have hc5 := Cells.mono hs5 (Cells.mono hs24 hc2)
  have hmg5 := hmg4.mono hs5
  refine runE ?_
  generalize layS p = S
  generalize layE p = E
  refine efg [(8, i64 E), (7, str S), (6, i64 E), (5, str S), (4, i64 E), (3, str S), (1, ptrTo b1)] [] (fun ρ => ?_)
  refine sQ ?_
  refine eqS (fun _ => ?_) (fun h => absurd rfl h)
  refine callV (i64 E) (vs := [i64 E]) (fun w g' h1 h2 h3 => num11b h3) ?_
  refine eqI (fun _ => ?_) (fun h => absurd rfl h)
  refine eqS (fun _ => ?_) (fun h => absurd rfl h)
  refine callV (i64 E) (vs := [i64 E]) (fun w g' h1 h2 h3 => num11b h3) ?_
  refine eqI (fun _ => ?_) (fun h => absurd rfl h)
  refine ldvA hc5 ?_
  refine callV (.bool (decide (mayP p))) (vs := [.agg ⟨packC p A c A2 c2⟩]) (fun w g' h1 h2 h3 => regMay h3 (hmg5.mono h1) (hp5.mono h1) (by omega)) ?_
  refine ldvA hc5 ?_
  refine callV (.bool (decide (mayP p))) (vs := [.agg ⟨packC p A c A2 c2⟩]) (fun w g' h1 h2 h3 => ref11May h3 (hp5.mono h1) (by omega)) ?_
  refine eqBD ?_
  refine callV (.bool true) (vs := []) (fun w g hs _ hon => awake11 hon (hmg5.mono hs)) ?_
  refine runE ?_
  refine ew_ret ?_
  exact ret1 rfl
end Go.Hog
