/- RelocTells answers true. -/
import Derived.Test.YtdidefhdcinecaaGreatDoorF69
set_option linter.unusedVariables false
set_option linter.unusedSimpArgs false
set_option maxRecDepth 100000
set_option maxHeartbeats 1000000
namespace Go.Hog
open Go.RowKit Rp Go.Proofs
theorem num25 {w : World} {f : View} (hv : On f w) {n : Int} : Con Tryz.prog 14 [i64 n] w (Ret w f fun _ v => v = i64 n) := by
  refine enterC hv Tryz.call14 Tryz.func14 ?_
  refine sgE ?_
  refine sgE ?_
  refine ew_ret ?_
  exact ret1 rfl
theorem swap_ex {f : View} (hm : ML f) {s o n : Str} (hs : s.length ≤ 1000000) (ho : o.length ≤ 1000000) : ∃ (r : Str) (N : Int),
    (∀ (w : World) (g : View), Sub f g → On g w → Con Tryz.prog 9 [str s, str o, str n] w (Ret w g fun _ v => v = .tuple #[str r, i64 N])) ∧
    (∀ (w : World) (g : View), Sub f g → On g w → Con Tryz.prog 10 [str s, str o, str n] w (Ret w g fun _ v => v = .tuple #[str r, i64 N])) :=
  ⟨_, _, fun w g h1 h3 => relocSwap h3 (hm.mono h1) hs, fun w g h1 h3 => ref25Swap h3 hs ho⟩
theorem to_ex2 {f : View} (hm : ML f) {o n : Str} (ho : o.length ≤ 1000000) (hn : n.length ≤ 1000000) {A : Option Addr} {c : Nat} {a : List Item} (ha : Sl f A c a) (hr : Room3 a) : ∃ (E : Int) (R : List Item), ToC f o n A c a.length E R ∧ (∀ x ∈ R, ItB x) ∧ R.length ≤ a.length ∧ Room3 R ∧
    (∀ (w : World) (g : View), Sub f g → On g w → Con Tryz.prog 12 [str o, str n, .slice A a.length c] w (RetM w g [] fun _ L' v => ∃ its : List JI, ∃ A c, its.map (·.1) = R ∧ v = .tuple #[.slice A its.length c, i64 E] ∧ L' = jRow A c its :: jR its)) :=
  ⟨toE o n a, toR o n a, to_con hm (by unfold LB; omega) (by unfold LB; omega) ha hr, toR_itB ha.itB, toR_len o n a, room_to hr o n, fun w g hs hon => ref25To hon ho hn (ha.mono hs) hr⟩
theorem count_ex {f : View} (hm : ML f) {u : Str} (hu : u.length ≤ LB) {A : Option Addr} {c : Nat} {a : List Item} (ha : Sl f A c a) (hr : Room a) : ∃ N : Int,
    (∀ (w : World) (g : View), Sub f g → On g w → Con Tryz.prog 15 [.slice A a.length c, str u] w (Ret w g fun _ v => v = i64 N)) ∧
    (∀ (w : World) (g : View), Sub f g → On g w → Con Tryz.prog 16 [.slice A a.length c, str u] w (Ret w g fun _ v => v = i64 N)) :=
  ⟨_, fun w g h1 h3 => relocCount h3 (hm.mono h1) (ha.mono h1) hr, fun w g h1 h3 => ref25Count h3 hu (ha.mono h1) hr⟩
theorem relocTellsT {w : World} {f : View} (hv : On f w) (hm : ML f) {s o n : Str} (hs : s.length ≤ LB) (ho : o.length ≤ LB) (hn : n.length ≤ LB) {A : Option Addr} {c : Nat} {a : List Item} (ha : Sl f A c a) :
    Con Tryz.prog 3 [str s, str o, str n, .slice A a.length c] w (Ret w f fun _ v => v = .bool true) := by
  refine enterC hv Tryz.call3 Tryz.func3 ?_
  refine sgE ?_
  refine sq (sg ?_)
  refine gt (fun h => ?_) (fun p1 => ?_)
  · refine runE ?_
    refine cT (sg ?_)
    refine callV (.bool true) (vs := []) (fun w g hs _ hon => awake25 hon (hm.mono hs)) ?_
    refine runE ?_
    refine ew_ret ?_
    exact ret1 rfl
  refine gt (fun h => ?_) (fun p2 => ?_)
  · refine runE ?_
    refine cT (sg ?_)
    refine callV (.bool true) (vs := []) (fun w g hs _ hon => awake25 hon (hm.mono hs)) ?_
    refine runE ?_
    refine ew_ret ?_
    exact ret1 rfl
  refine gt (fun h => ?_) (fun p3 => ?_)
  · refine runE ?_
    refine cT (sg ?_)
    refine callV (.bool true) (vs := []) (fun w g hs _ hon => awake25 hon (hm.mono hs)) ?_
    refine runE ?_
    refine ew_ret ?_
    exact ret1 rfl
  refine callB (p := GreatI a) (vs := [.slice A a.length c]) (fun w g hs _ hon => greatItems hon (ha.mono hs)) (fun h1 => ?_) (fun h1 => ?_)
  · refine runE ?_
    refine cT (sg ?_)
    refine callV (.bool true) (vs := []) (fun w g hs _ hon => awake25 hon (hm.mono hs)) ?_
    refine runE ?_
    refine ew_ret ?_
    exact ret1 rfl
  obtain ⟨h10, hroom⟩ := great_room h1
  obtain ⟨r, N, w1, w2⟩ := swap_ex hm (s := s) (o := o) (n := n) (by omega) (by omega)
  obtain ⟨E, R, hT, hB, hL, hM, hT2⟩ := to_ex2 hm (o := o) (n := n) (by omega) (by omega) ha hroom
  obtain ⟨M, c1, c2⟩ := count_ex hm (u := n) hn ha hroom.1
  refine runE ?_
  refine cFs ?_
  refine efg [(0, str s), (1, str o), (2, str n), (3, .slice A a.length c)] [] (fun ρ => ?_)
  refine sg ?_
  refine callV (.tuple #[str r, i64 N]) (vs := [str s, str o, str n]) (fun w g h1 h2 h3 => w1 w g h1 h3) ?_
  refine runE ?_
  refine sg ?_
  refine callV (.tuple #[str r, i64 N]) (vs := [str s, str o, str n]) (fun w g h1 h2 h3 => w2 w g h1 h3) ?_
  refine runE ?_
  refine efg [(11, str r), (12, i64 N), (9, str r), (10, i64 N), (1, str o), (2, str n), (3, .slice A a.length c)] [] (fun ρ => ?_)
  refine sg ?_
  refine callM0 (vs := [str o, str n, .slice A a.length c]) [] (fun w hon hgi => hT w f (Sub.refl _) hon) (fun v g1 L' hs1 hRR => ?_)
  obtain ⟨its, A7, c7, hi, rfl, rfl⟩ := hRR
  have hil : its.length = R.length := by rw [← hi, List.length_map]
  have hbi : ∀ r ∈ its, ItB r.1 := fun r hr => hB _ (by rw [← hi]; exact List.mem_map.2 ⟨r, hr, rfl⟩)
  have hri : ∀ r ∈ its, r.1.refs.length ≤ 1000000 ∧ r.1.tree.length ≤ 1000000 := fun r hr => by
    have h5 : r.1 ∈ R := by rw [← hi]; exact List.mem_map.2 ⟨r, hr, rfl⟩
    have := hM.2 _ h5
    have := (hM.1.2 _ h5).1
    exact ⟨by omega, by omega⟩
  refine runE ?_
  refine efg [(13, .slice A7 its.length c7), (14, i64 E), (11, str r), (12, i64 N), (9, str r), (10, i64 N), (1, str o), (2, str n), (3, .slice A a.length c)] (jRow A7 c7 its :: jR its) (fun ρ => ?_)
  refine sg ?_
  refine callM (vs := [str o, str n, .slice A a.length c]) [] (jRow A7 c7 its :: jR its) (fun w hon hgi => hT2 w g1 hs1 hon) (fun v g2 L' hs2 hRR => ?_)
  obtain ⟨its2, A8, c8, hi2, rfl, rfl⟩ := hRR
  refine rfrzA (jRow A7 c7 its :: jR its) (jRow A8 c8 its2 :: jR its2) List.perm_append_comm fun g3 hs3 hsn => ?_
  obtain ⟨hsl, hil2⟩ := to_sl hsn hi2 hB (by unfold LB; omega)
  rw [hil2]
  refine runE ?_
  have hs13 := hs1.trans (hs2.trans hs3)
  have hm3 := hm.mono hs13
  refine efg [(15, .slice A8 R.length c8), (16, i64 E), (13, .slice A7 its.length c7), (14, i64 E), (11, str r), (12, i64 N), (9, str r), (10, i64 N), (1, str o), (2, str n), (3, .slice A a.length c)] (jRow A7 c7 its :: jR its) (fun ρ => ?_)
  refine sg ?_
  refine eqS (fun _ => ?_) (fun h => absurd rfl h)
  refine eqI (fun _ => ?_) (fun h => absurd rfl h)
  refine callV (.bool true) (vs := [.slice A7 its.length c7, .slice A8 R.length c8]) (fun w g h1 h2 h3 => ?_) ?_
  · have h5 := sameItems h3 (jRow_sl (h2 _ (.head _)) (fun e he => h2 e (.tail _ he)) hbi (by rw [hil]; unfold LB; omega)) (hsl.mono h1)
    rw [List.length_map, hi, decide_eq_true rfl] at h5
    exact h5
  refine callV (i64 E) (vs := [i64 E]) (fun w g h1 h2 h3 => num25 h3) ?_
  refine eqI (fun _ => ?_) (fun h => absurd rfl h)
  refine callV (i64 M) (vs := [.slice A a.length c, str n]) (fun w g h1 h2 h3 => c1 w g (hs13.trans h1) h3) ?_
  refine callV (i64 M) (vs := [.slice A a.length c, str n]) (fun w g h1 h2 h3 => c2 w g (hs13.trans h1) h3) ?_
  refine eqI (fun _ => ?_) (fun h => absurd rfl h)
  refine runE ?_
  refine efg [(17, .bool true), (15, .slice A8 R.length c8), (13, .slice A7 its.length c7), (1, str o), (2, str n), (3, .slice A a.length c)] (jRow A7 c7 its :: jR its) (fun ρ => ?_)
  refine sg ?_
  refine callM0 (vs := [.slice A7 its.length c7]) (jRow A7 c7 its :: jR its) (fun w hon hgi => overIsJ hon (by omega) hri hgi) (fun v g4 L' hs4 hRR => ?_)
  subst hRR
  refine runE ?_
  refine efg [(17, .bool true), (15, .slice A8 R.length c8), (1, str o), (2, str n), (3, .slice A a.length c)] [] (fun ρ => ?_)
  refine sg ?_
  refine callM0 (vs := [str o, str n, .slice A a.length c]) [] (fun w hon hgi => hT w g4 (hs13.trans hs4) hon) (fun v g5 L' hs5 hRR => ?_)
  obtain ⟨its3, A9, c9, hi3, rfl, rfl⟩ := hRR
  refine rfrzA [] _ (List.Perm.refl _) fun g6 hs6 hsn3 => ?_
  obtain ⟨hsl3, hil3⟩ := to_sl hsn3 hi3 hB (by unfold LB; omega)
  rw [hil3]
  refine runE ?_
  have hs36 := hs4.trans (hs5.trans hs6)
  have hm6 := hm3.mono hs36
  refine efg [(17, .bool true), (15, .slice A8 R.length c8), (13, .slice A9 R.length c9)] [] (fun ρ => ?_)
  refine sg ?_
  refine callV (.bool (decide (R = R))) (vs := [.slice A9 R.length c9, .slice A8 R.length c8]) (fun w g h1 h2 h3 => sameItems h3 (hsl3.mono h1) ((hsl.mono hs36).mono h1)) ?_
  rw [decide_eq_true rfl]
  refine callV (.bool true) (vs := []) (fun w g hs _ hon => awake25 hon (hm6.mono hs)) ?_
  refine runE ?_
  refine ew_ret ?_
  exact ret1 rfl
end Go.Hog
