/- RegReads answers true. -/
import Derived.Test.YthaleeajeibgeaaFR
set_option linter.unusedVariables false
set_option linter.unusedSimpArgs false
set_option maxRecDepth 100000
set_option maxHeartbeats 1000000
namespace Go.Hog
open Go.RowKit Rp Go.Proofs
theorem num11 {w : World} {f : View} (hv : On f w) {n : Int} : Con Try.prog 12 [i64 n] w (Ret w f fun _ v => v = i64 n) := by
  refine enterC hv Try.call12 Try.func12 ?_
  refine sgE ?_
  refine sgE ?_
  refine ew_ret ?_
  exact ret1 rfl
theorem rows_pv {g : View} {its : List RI} {A A2 : Option Addr} {c c2 : Nat} {p : Pack} (hs : ∀ e ∈ pRows its A c A2 c2 p, e.seen g) (hi : its.map (·.1) = p.items) (hb : bareOk p) (hd : Bd 1000000 1000000 p) : PackV g p A c A2 c2 :=
  rows_packV hs hi hb hd (by show 1000000 ≤ 140737488355328; omega) (by show 1000000 ≤ 140737488355328; omega)
theorem regReads {w : World} {f : View} (hv : On f w) (hm : ML f) {s : Str} (hsl : s.length ≤ LB) :
    Con Try.prog 4 [str s] w (Ret w f fun _ v => v = .bool true) := by
  refine enterC hv Try.call4 Try.func4 ?_
  unfold LB at hsl
  refine sgE ?_
  refine sq (sg ?_)
  refine gtE (fun h => ?_) (fun h => ?_)
  · refine cT (sg ?_)
    refine callV (.bool true) (vs := []) (fun w g hs _ hon => awake11 hon (hm.mono hs)) ?_
    refine runE ?_
    refine ew_ret ?_
    exact ret1 rfl
  refine cFs ?_
  have hs4 : s.length ≤ 4000 := by omega
  refine efg [(0, str s)] [] (fun ρ => ?_)
  refine sg ?_
  refine callM0 (vs := [str s]) [] (fun w hon hgi => regRead hon hm (by omega)) (fun v g L' hs1 hR => ?_)
  obtain ⟨its, A, c, A2, c2, q, e, rfl, hi, rfl, hans, hbd⟩ := hR
  refine alloc fun b3 => ?_
  refine st 0 ?_
  refine runE ?_
  refine efg [(4, i64 e), (3, ptrTo b3), (0, str s)] ([] ++ (.blk b3 (.cells ⟨packC q A c A2 c2⟩ 25) :: pRows its A c A2 c2 q)) (fun ρ => ?_)
  refine sg ?_
  refine callM [] (.blk b3 (.cells ⟨packC q A c A2 c2⟩ 25) :: pRows its A c A2 c2 q) (vs := [str s]) (fun w hon hgi => refRead hon (by omega)) (fun v g2 L' hs2 hR => ?_)
  obtain ⟨its2, B, d, B2, d2, q2, e2, rfl, hi2, rfl, hans2, hbd2⟩ := hR
  obtain ⟨rfl, rfl⟩ := hans.uniq hans2
  refine alloc fun b5 => ?_
  refine st 0 ?_
  refine runE ?_
  refine efg [(6, i64 e), (5, ptrTo b5), (4, i64 e), (3, ptrTo b3), (0, str s)] (.blk b5 (.cells ⟨packC q B d B2 d2⟩ 25) :: (pRows its2 B d B2 d2 q ++ (.blk b3 (.cells ⟨packC q A c A2 c2⟩ 25) :: pRows its A c A2 c2 q))) (fun ρ => ?_)
  generalize hP2 : pRows its2 B d B2 d2 q = P2
  have hpv2 : ∀ g, (∀ e ∈ P2, e.seen g) → PackV g q B d B2 d2 := fun g h => rows_pv (by rw [hP2]; exact h) hi2 hans.bare hbd2
  have hpv1 : ∀ g, (∀ e ∈ pRows its A c A2 c2 q, e.seen g) → PackV g q A c A2 c2 := fun g h => rows_pv h hi hans.bare hbd
  refine eperm (L' := .blk b3 (.cells ⟨packC q A c A2 c2⟩ 25) :: .blk b5 (.cells ⟨packC q B d B2 d2⟩ 25) :: (pRows its A c A2 c2 q ++ P2)) ?_ ?_
  · refine List.Perm.trans (.cons _ (List.perm_append_comm (l₁ := P2) (l₂ := _ :: _))) ?_
    exact .swap _ _ _
  refine sg ?_
  refine ldoA 0 ?_
  refine ldoA 1 ?_
  refine callV (.bool true) (vs := [.agg ⟨packC q A c A2 c2⟩, .agg ⟨packC q B d B2 d2⟩]) (fun w g' h1 h2 h3 => ?_) ?_
  · have := samePack0 h3 (hpv1 _ fun e he => h2 e (.tail _ (.tail _ (List.mem_append_left _ he)))) (hpv2 _ fun e he => h2 e (.tail _ (.tail _ (List.mem_append_right _ he)))) hans.bare hans.bare
    rwa [decide_eq_true rfl] at this
  refine callV (i64 e) (vs := [i64 e]) (fun w g' h1 h2 h3 => num11 h3) ?_
  refine eqI (fun _ => ?_) (fun h => absurd rfl h)
  refine runE ?_
  refine efg [(7, .bool true), (5, ptrTo b5), (3, ptrTo b3), (0, str s)] (.blk b3 (.cells ⟨packC q A c A2 c2⟩ 25) :: .blk b5 (.cells ⟨packC q B d B2 d2⟩ 25) :: (pRows its A c A2 c2 q ++ P2)) (fun ρ => ?_)
  have hlen := RObj.len hi
  refine sg ?_
  refine ldo 0 ?_
  refine rperm (L' := (itR A c its :: its.map rRf) ++ (.blk b3 (.cells ⟨packC q A c A2 c2⟩ 25) :: .blk b5 (.cells ⟨packC q B d B2 d2⟩ 25) :: sRow A2 c2 q.prof :: P2)) ?_ ?_
  · unfold pRows
    refine List.Perm.trans ?_ (List.perm_append_comm (l₁ := .blk b3 _ :: .blk b5 _ :: sRow A2 c2 q.prof :: P2) (l₂ := itR A c its :: its.map rRf))
    refine .cons _ (.cons _ ?_)
    refine List.Perm.trans (.swap _ _ _) (.cons _ ?_)
    exact List.perm_append_comm (l₁ := itR A c its :: its.map rRf) (l₂ := P2)
  refine callM (itR A c its :: its.map rRf) _ (vs := [.slice A its.length c]) (fun w hon hgi => overItems hon (by rw [← hlen]; exact hbd.items) (fun r hr => (hbd.item r.1 (by rw [← hi]; exact List.mem_map.2 ⟨r, hr, rfl⟩)).2.1) hgi) (fun v g3 L' hs3 hR => ?_) (ha := by show [Value.slice A q.items.length c] = _; rw [hlen])
  subst hR
  refine runE ?_
  refine efg [(7, .bool true), (5, ptrTo b5), (3, ptrTo b3), (0, str s)] (.blk b3 (.cells ⟨packC q A c A2 c2⟩ 25) :: .blk b5 (.cells ⟨packC q B d B2 d2⟩ 25) :: sRow A2 c2 q.prof :: P2) (fun ρ => ?_)
  refine sg ?_
  refine ldo 0 ?_
  refine rperm (L' := [sRow A2 c2 q.prof] ++ (.blk b3 (.cells ⟨packC q A c A2 c2⟩ 25) :: .blk b5 (.cells ⟨packC q B d B2 d2⟩ 25) :: P2)) ?_ ?_
  · exact List.Perm.trans (.cons _ (.swap _ _ _)) (.swap _ _ _)
  refine callM [sRow A2 c2 q.prof] _ (vs := [.slice A2 q.prof.length c2]) (fun w hon hgi => overTs hon hbd.prof hgi) (fun v g4 L' hs4' hR => ?_)
  subst hR
  refine runE ?_
  refine efg [(7, .bool true), (5, ptrTo b5), (3, ptrTo b3), (0, str s)] ([] ++ (.blk b3 (.cells ⟨packC q A c A2 c2⟩ 25) :: .blk b5 (.cells ⟨packC q B d B2 d2⟩ 25) :: P2)) (fun ρ => ?_)
  refine sg ?_
  refine callM [] (.blk b3 (.cells ⟨packC q A c A2 c2⟩ 25) :: .blk b5 (.cells ⟨packC q B d B2 d2⟩ 25) :: P2) (vs := [str s]) (fun w hon hgi => regRead hon (hm.mono (hs1.trans (hs2.trans (hs3.trans hs4')))) (by omega)) (fun v g5 L' hs5 hR => ?_)
  obtain ⟨its3, A3, c3, A4, c4, q3, e3, rfl, hi3, rfl, hans3, hbd3⟩ := hR
  obtain ⟨rfl, rfl⟩ := hans.uniq hans3
  generalize hP3 : pRows its3 A3 c3 A4 c4 q = P3
  have hpv3 : ∀ g, (∀ e ∈ P3, e.seen g) → PackV g q A3 c3 A4 c4 := fun g h => rows_pv (by rw [hP3]; exact h) hi3 hans.bare hbd3
  refine rperm (L' := .blk b3 (.cells ⟨packC q A c A2 c2⟩ 25) :: .blk b5 (.cells ⟨packC q B d B2 d2⟩ 25) :: (P2 ++ P3)) (List.perm_append_comm (l₁ := P3) (l₂ := .blk b3 _ :: .blk b5 _ :: P2)) ?_
  refine st 0 ?_
  refine runE ?_
  refine efg [(7, .bool true), (5, ptrTo b5), (3, ptrTo b3), (0, str s)] (.blk b3 (.cells ⟨packC q A3 c3 A4 c4⟩ 25) :: .blk b5 (.cells ⟨packC q B d B2 d2⟩ 25) :: (P2 ++ P3)) (fun ρ => ?_)
  refine sg ?_
  refine ldoA 0 ?_
  refine ldoA 1 ?_
  refine callV (.bool true) (vs := [.agg ⟨packC q A3 c3 A4 c4⟩, .agg ⟨packC q B d B2 d2⟩]) (fun w g' h1 h2 h3 => ?_) ?_
  · have := samePack0 h3 (hpv3 _ fun e he => h2 e (.tail _ (.tail _ (List.mem_append_right _ he)))) (hpv2 _ fun e he => h2 e (.tail _ (.tail _ (List.mem_append_left _ he)))) hans.bare hans.bare
    rwa [decide_eq_true rfl] at this
  refine callV (.bool true) (vs := []) (fun w g' h1 h2 h3 => awake11 h3 (hm.mono ((hs1.trans (hs2.trans (hs3.trans (hs4'.trans hs5)))).trans h1))) ?_
  refine runE ?_
  refine ewL (L' := []) (fun _ h => h.sublist (List.nil_sublist _)) ?_
  refine ew_ret ?_
  exact ret1 rfl
end Go.Hog
