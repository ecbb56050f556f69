/- E34 F61, in one text. -/
import Derived.Test.YtdidefhdcinecaaGreatDoorCD
import Derived.Test.YtdidefhdcinecaaGreatDoorF14
import Derived.Laws.StructEq
import Derived.Test.YtdidefhdcinecaaGreatDoorF1
set_option linter.unusedVariables false
set_option linter.unusedSimpArgs false
namespace Go.Hog
open Go.RowKit Rp
def plainF (P : Program) (f : Field) (o : Nat) : Bool := decide (f.name ≠ "_") && Nat.beq f.offset o && decide (aggT P f.type = some false)
def nodeEqT (P : Program) (t : TypeId) : Bool := match P.underlying t with
  | some (.struct ⟨[f0, f1, f2]⟩) => plainF P f0 0 && plainF P f1 1 && plainF P f2 2 &&
      (match P.underlying f0.type, P.underlying f1.type, P.underlying f2.type with | some .string, some (.int _), some .string => true | _, _, _ => false) && !P.stoodInHeld t && !P.eqGuardType P.depth t
  | _ => false
theorem run_plainF {P : Program} {f : Field} {o : Nat} (h : plainF P f o = true) : f.name ≠ "_" ∧ ∀ (cs : Array Value) (v : Value) (w : World), cs[o]? = some v → (part f.type cs f.offset).run P w = .ok v w := by
  unfold plainF at h
  rw [Bool.and_eq_true, Bool.and_eq_true, decide_eq_true_eq, decide_eq_true_eq] at h
  obtain ⟨⟨h1, h2⟩, h3⟩ := h
  refine ⟨h1, fun cs v w hc => ?_⟩
  rw [Nat.eq_of_beq_eq_true h2]
  simp [part, run_aggT h3, hc]
theorem eqF_step {P : Program} {w : World} {d : Nat} {xs ys : Array Value} {f : Field} {fs : List Field} {a b : Value} {r : Bool} (n : f.name ≠ "_") (pa : (part f.type xs f.offset).run P w = .ok a w) (pb : (part f.type ys f.offset).run P w = .ok b w) (pe : (Op.equalIn d f.type a b).run P w = .ok r w) :
    (Op.eqFields d xs ys (f :: fs)).run P w = if r then (Op.eqFields d xs ys fs).run P w else .ok false w := by
  rw [Op.eqFields, if_pos n]
  simp only [Sem.run_bind, pa, pb, pe, Result.andThen_ok]
  cases r <;> simp
theorem run_eqNode {P : Program} {t : TypeId} (h : nodeEqT P t = true) (x y : Node) (w : World) : (Op.equalIn 10000 t (.agg ⟨nodeC x⟩) (.agg ⟨nodeC y⟩)).run P w = .ok (decide (x = y)) w ∧ P.eqGuardType P.depth t = false := by
  unfold nodeEqT at h
  split at h
  · rename_i f0 f1 f2 e1
    rw [Bool.and_eq_true, Bool.and_eq_true, Bool.and_eq_true, Bool.and_eq_true, Bool.and_eq_true] at h
    obtain ⟨⟨⟨⟨⟨p0, p1⟩, p2⟩, h1⟩, h2⟩, h3⟩ := h
    obtain ⟨n0, q0⟩ := run_plainF p0
    obtain ⟨n1, q1⟩ := run_plainF p1
    obtain ⟨n2, q2⟩ := run_plainF p2
    refine ⟨?_, by simpa using h3⟩
    split at h1
    · rename_i k u0 u1 u2
      have hf : P.fieldsOf t = ⟨[f0, f1, f2]⟩ := by unfold Program.fieldsOf; rw [e1]
      rw [run_equalIn_agg w 9999 t _ _ (by rw [hf]; exact e1) (by simpa using h2), hf]
      have s0 : (Op.equalIn 9999 f0.type (str x.path) (str y.path)).run P w = .ok (x.path == y.path) w := by
        have := run_equalIn_string (P := P) w 9998 f0.type ⟨⟨x.path⟩⟩ ⟨⟨y.path⟩⟩ u0
        rwa [toList_str, toList_str] at this
      have s1 : (Op.equalIn 9999 f1.type (.int .i64 x.kind) (.int .i64 y.kind)).run P w = .ok (x.kind == y.kind) w := run_equalIn_int (P := P) w 9998 f1.type .i64 _ x.kind y.kind u1
      have s2 : (Op.equalIn 9999 f2.type (str x.data) (str y.data)).run P w = .ok (x.data == y.data) w := by
        have := run_equalIn_string (P := P) w 9998 f2.type ⟨⟨x.data⟩⟩ ⟨⟨y.data⟩⟩ u2
        rwa [toList_str, toList_str] at this
      rw [eqF_step n0 (q0 ⟨nodeC x⟩ (str x.path) w rfl) (q0 ⟨nodeC y⟩ (str y.path) w rfl) s0, eqF_step n1 (q1 ⟨nodeC x⟩ (.int .i64 x.kind) w rfl) (q1 ⟨nodeC y⟩ (.int .i64 y.kind) w rfl) s1, eqF_step n2 (q2 ⟨nodeC x⟩ (str x.data) w rfl) (q2 ⟨nodeC y⟩ (str y.data) w rfl) s2]
      have e0 : (Op.eqFields 9999 ⟨nodeC x⟩ ⟨nodeC y⟩ []).run P w = .ok true w := rfl
      rw [e0]
      obtain ⟨xp, xk, xd⟩ := x
      obtain ⟨yp, yk, yd⟩ := y
      clear s0 s1 s2 e0
      by_cases c0 : xp = yp
      · by_cases c1 : xk = yk
        · by_cases c2 : xd = yd
          · simp [c0, c1, c2]
          · simp [c0, c1, c2]
        · simp [c0, c1]
      · simp [c0]
    · cases h1
  · cases h
section
variable {P : Program} {n : Nat} {B : Bs} {f : View} {L : List HE} {ρ : Env} {K : Kon} {ops : Array Oper} {m : Md} {l l0 : List Oper} {ρ0 : Env} {d : Nat} {x y : Operand} {t t2 ty : TypeId} {pos : String} {af : Array Edge} {gd : Option (Nat × Bool)} {a b : Node}
theorem neN (T : a ≠ b → RW m P n B ops K l (up ρ d (.bool true)) f L) (F : a = b → RW m P n B ops K l (up ρ d (.bool false)) f L) (hrun : runP P ops l0 ρ0 = (⟨some d, .binOp .neq t x y t2, ty, pos, af, gd⟩ :: l, ρ) := by rfl) (hg : wantedE ops ρ ⟨some d, .binOp .neq t x y t2, ty, pos, af, gd⟩ = true := by rfl)
    (hx : ev ρ x = .agg ⟨nodeC a⟩ := by rfl) (hy : ev ρ y = .agg ⟨nodeC b⟩ := by rfl) (he : nodeEqT P t = true := by kernel_rfl) : RW m P n B ops K l0 ρ0 f L := by
  refine rw_runP l0 ρ0 ?_
  rw [hrun]
  have hk : RW m P n B ops K l (up ρ d (.bool (!decide (a = b)))) f L := by
    by_cases e : a = b
    · rw [decide_eq_true e]; exact F e
    · rw [decide_eq_false e]; exact T e
  exact rw_y hg (fun w hw => by
    obtain ⟨h1, h2⟩ := run_eqNode he a b w
    simp [execOp, hx, hy, run_eqGuard_agg w .neq t x y _ _ h2, run_neq_struct, h1]) hk
end
end Go.Hog

set_option linter.unusedVariables false
set_option linter.unusedSimpArgs false
set_option maxRecDepth 100000
set_option maxHeartbeats 1000000
namespace Go.Hog
open Go.RowKit Rp Go.Proofs
theorem sameNodes {w : World} {f : View} (hv : On f w) {A B : Option Addr} {c c2 : Nat} {a b : List Node} (ha : Sl f A c a) (hb : Sl f B c2 b) :
    Con Tryz.prog 30 [.slice A a.length c, .slice B b.length c2] w (Ret w f fun _ v => v = .bool (decide (a = b))) := by
  refine enterC hv Tryz.call30 Tryz.func30 ?_
  have hlim := ha.len_lt
  refine sgE (sq (sg ?_))
  refine neIE (fun h => ?_) (fun h => ?_)
  · refine cT (rr ?_)
    exact ret1 (bF (by rintro rfl; exact h rfl))
  refine cFs (sq (sgE (bk ?_)))
  refine lpn a.length (fun k => [(5, i64 k), (0, .slice A a.length c), (1, .slice B b.length c2)]) (fun k => a.take k = b.take k) rfl ?_
  intro k ρ hk hi
  refine sq (sg ?_)
  refine ltE (fun h => ?_) (fun h => ?_)
  · have h1 : k < a.length := by omega
    have h2 : k < b.length := by omega
    obtain ⟨b1, o1, rfl, hc1, _⟩ := ha.node h1
    obtain ⟨b2, o2, rfl, hc2, _⟩ := hb.node h2
    have hst := take_eq hi h1 h2
    have hne : a[k] ≠ b[k] → a ≠ b := fun h e => by subst e; exact h rfl
    generalize a[k] = x at hc1 hst hne
    generalize b[k] = y at hc2 hst hne
    refine cTs (sq (bk (sQ ?_)))
    refine ix k h1 ?_
    refine ldvA hc1 ?_
    refine ix k h2 ?_
    refine ldvA hc2 ?_
    refine neN (a := x) (b := y) (fun h3 => ?_) (fun h3 => ?_)
    · refine runE ?_
      refine cT (rr ?_)
      exact ret1 (bF (hne h3))
    · refine runE ?_
      refine cFs (rg ?_)
      refine addE ((k + 1 : Nat) : Int) ?_
      exact nx (hst h3)
  · refine cFx (rr ?_)
    exact ret1 (bT (take_all hi (by omega) (by omega)))
theorem item_eq {x y : Item} (h1 : x.name = y.name) (h2 : x.refs = y.refs) (h3 : x.tree = y.tree) : x = y := by
  cases x; cases y; simp_all
theorem sameItems {w : World} {f : View} (hv : On f w) {A B : Option Addr} {c c2 : Nat} {a b : List Item} (ha : Sl f A c a) (hb : Sl f B c2 b) :
    Con Tryz.prog 13 [.slice A a.length c, .slice B b.length c2] w (Ret w f fun _ v => v = .bool (decide (a = b))) := by
  refine enterC hv Tryz.call13 Tryz.func13 ?_
  have hlim := ha.len_lt
  refine sgE (sq (sg ?_))
  refine neIE (fun h => ?_) (fun h => ?_)
  · refine cT (rr ?_)
    exact ret1 (bF (by rintro rfl; exact h rfl))
  refine cFs (sq (sgE (bk ?_)))
  refine lpn a.length (fun k => [(5, i64 k), (0, .slice A a.length c), (1, .slice B b.length c2)]) (fun k => a.take k = b.take k) rfl ?_
  intro k ρ hk hi
  refine sq (sg ?_)
  refine ltE (fun h => ?_) (fun h => ?_)
  · have h1 : k < a.length := by omega
    have h2 : k < b.length := by omega
    obtain ⟨b1, o1, A3, c3, A4, c4, rfl, hc1, hn1, hr1, ht1⟩ := ha.item h1
    obtain ⟨b2, o2, A5, c5, A6, c6, rfl, hc2, hn2, hr2, ht2⟩ := hb.item h2
    have hst := take_eq hi h1 h2
    have hne : a[k] ≠ b[k] → a ≠ b := fun h e => by subst e; exact h rfl
    generalize a[k] = x at hc1 hn1 hr1 ht1 hst hne
    generalize b[k] = y at hc2 hn2 hr2 ht2 hst hne
    refine cTs (sq (bk (sQ ?_)))
    refine ix k h1 ?_
    refine ldv hc1.1 ?_
    refine ix k h2 ?_
    refine ldv hc2.1 ?_
    refine neS (fun h => ?_) (fun h => ?_)
    · refine runE ?_
      refine cT (rr ?_)
      exact ret1 (bF (hne fun e => h (by rw [e])))
    have hn : x.name = y.name := Classical.not_not.1 h
    refine ix k h1 ?_
    refine ldv hc1.2.1 ?_
    refine ix k h2 ?_
    refine ldv hc2.2.1 ?_
    refine callB (p := x.refs = y.refs) (vs := [.slice A3 x.refs.length c3, .slice A5 y.refs.length c5]) (fun w g hs _ hon => sameTexts hon (hr1.mono hs) (hr2.mono hs)) (fun h3 => ?_) (fun h3 => ?_)
    case refine_2 =>
      refine runE ?_
      refine cT (rr ?_)
      exact ret1 (bF (hne fun e => h3 (by rw [e])))
    refine ix k h1 ?_
    refine ldv hc1.2.2.1 ?_
    refine ix k h2 ?_
    refine ldv hc2.2.2.1 ?_
    refine callB (p := x.tree = y.tree) (vs := [.slice A4 x.tree.length c4, .slice A6 y.tree.length c6]) (fun w g hs _ hon => sameNodes hon (ht1.mono hs) (ht2.mono hs)) (fun h4 => ?_) (fun h4 => ?_)
    case refine_2 =>
      refine runE ?_
      refine cT (rr ?_)
      exact ret1 (bF (hne fun e => h4 (by rw [e])))
    refine runE ?_
    refine cFs (rg ?_)
    refine addE ((k + 1 : Nat) : Int) ?_
    exact nx (hst (item_eq hn h3 h4))
  · refine cFx (rr ?_)
    exact ret1 (bT (take_all hi (by omega) (by omega)))
end Go.Hog
