/- The engine, part 2: operations that only yield a value; comparisons, arithmetic, reads. -/
import Derived.Test.YtjjlfbpmbleabaaDoorE1
import Derived.Laws.Strings
import Derived.Laws.Slices
import Derived.IntWalk
set_option linter.unusedVariables false
set_option linter.unusedSimpArgs false
namespace Go.Hog
open Go.RowKit

abbrev Str := List UInt8
@[reducible] def str (l : Str) : Value := .string ⟨⟨l⟩⟩
@[reducible] def i64 (n : Int) : Value := .int .i64 n
theorem bytesLess_eq : ∀ (x y : Str), Op.bytesLess x y = decide (x < y)
  | [], [] => by simp [Op.bytesLess]
  | _ :: _, [] => by simp [Op.bytesLess]
  | [], _ :: _ => by simp [Op.bytesLess]
  | a :: x, b :: y => by
    rw [Op.bytesLess, bytesLess_eq x y]
    simp only [List.cons_lt_cons_iff]
    by_cases h1 : a < b <;> by_cases h2 : a = b <;> by_cases h3 : x < y <;> simp [h1, h2, h3]
theorem toList_str (l : Str) : (ByteArray.mk ⟨l⟩).toList = l := ByteArray.toList_mk l

section
variable {P : Program}
theorem run_und {t : TypeId} {d : TypeDesc} (h : P.underlying t = some d) (w : World) : (underlying t).run P w = .ok d w := by
  simp [underlying, program, h, Sem.run, bind, Sem.bind, pure]
theorem run_size {t : TypeId} {i : TypeInfo} (h : P.info? t = some i) (w : World) : (sizeOf t).run P w = .ok i.size w := by
  simp [sizeOf, typeInfo, program, h, Sem.run, bind, Sem.bind, pure]
theorem run_info {t : TypeId} {i : TypeInfo} (h : P.info? t = some i) (w : World) : (typeInfo t).run P w = .ok i w := by
  simp [typeInfo, program, h, Sem.run, bind, Sem.bind, pure]
end

/-! ### The plain operations, by reckoning -/
def aggB (P : Program) (t : TypeId) : Bool :=
  match P.underlying t with
  | some (.struct _) => true
  | some (.array _ _) => true
  | some _ => false
  | none => true
def lenV (P : Program) (t : TypeId) (v : Value) : Option Value :=
  match P.underlying t, v with
  | some .string, .string ⟨⟨s⟩⟩ => some (.int .i64 (s.length : Nat))
  | some (.slice _), .slice _ n _ => some (.int .i64 (n : Nat))
  | _, _ => none
def fieldV (P : Program) (s : TypeId) (i : Nat) (v : Value) : Option Value :=
  match P.underlying s with
  | some (.struct fs) =>
    (match fs[i]? with
     | some fd =>
       (match P.info? fd.type, v with
        | some ti, .pointer (some ⟨b, off, none⟩) => bif Nat.beq ti.size 0 then none else some (.pointer (some ⟨b, off + fd.offset, none⟩))
        | _, _ => none)
     | none => none)
  | _ => none
def ifaceV (P : Program) (t : TypeId) (v : Value) : Option Value :=
  match P.underlying t with
  | some (.interface _) => none
  | some _ => some (.iface t v)
  | none => none
def assertV (P : Program) (a : TypeId) (ok : Bool) (v : Value) : Option Value :=
  match P.underlying a, v with
  | some (.interface _), _ => none
  | some _, .iface t v => bif Nat.beq t a then some (bif ok then .tuple #[v, .bool true] else v) else none
  | _, _ => none
def pureV (P : Program) (ρ : Env) (op : Op) : Option Value :=
  match op with
  | .move x => some (ev ρ x)
  | .assign x => some (ev ρ x)
  | .pick c a b => (match ev ρ c with | .bool true => some (ev ρ a) | .bool false => some (ev ρ b) | _ => none)
  | .call ⟨.builtin .len, ⟨[x]⟩, ⟨[t]⟩⟩ => lenV P t (ev ρ x)
  | .fieldAddr s x i => fieldV P s i (ev ρ x)
  | .extract x i => (match ev ρ x with | .tuple vs => vs[i]? | _ => none)
  | .unOp .not _ x => (match ev ρ x with | .bool b => some (.bool (!b)) | _ => none)
  | .nilCheck x => (match ev ρ x with | .pointer (some a) => some (.pointer (some a)) | _ => none)
  | .makeInterface t x => ifaceV P t (ev ρ x)
  | .typeAssert x _ a ok => assertV P a ok (ev ρ x)
  | .makeFunc fn a b => some (.func fn ⟨a.toList.map (ev ρ)⟩ ⟨b.toList.map (ev ρ)⟩)
  | _ => none
theorem pureV_ok {P : Program} {ρ : Env} {o : Oper} {v : Value} (h : pureV P ρ o.op = some v) (w : World) : (execOp (ev ρ) o).run P w = .ok (.value v) w := by
  obtain ⟨dst, op, type, pos, after, guard⟩ := o
  simp only at h
  unfold pureV at h
  split at h
  · injection h with h; subst h; simp [execOp]
  · injection h with h; subst h; simp [execOp]
  · split at h
    · rename_i e; injection h with h; subst h; simp [execOp, e, asBool]
    · rename_i e; injection h with h; subst h; simp [execOp, e, asBool]
    · cases h
  · rename_i x t
    unfold lenV at h
    split at h
    · rename_i e1 e2; injection h with h; subst h
      simp [execOp, resolve, invoke, builtin, Builtin.len_, run_und e1, e2, goInt]
      rfl
    · rename_i e1 e2; injection h with h; subst h
      simp [execOp, resolve, invoke, builtin, Builtin.len_, run_und e1, e2, goInt]
    · cases h
  · rename_i s x i
    unfold fieldV at h
    split at h
    · rename_i fs e1
      split at h
      · rename_i fd e2
        split at h
        · rename_i ti b off e3 e4
          cases hz : Nat.beq ti.size 0 with
          | true => rw [hz] at h; cases h
          | false =>
            rw [hz] at h; injection h with h; subst h
            have hne : ti.size ≠ 0 := fun e => by rw [e] at hz; cases hz
            have ha : (⟨b, off, none⟩ : Addr).add fd.offset = ⟨b, off + fd.offset, none⟩ := by unfold Addr.add; split <;> simp_all
            simp [execOp, Instr.fieldAt, run_und e1, e2, Instr.sureAddr, e4, fieldPlace, run_size e3, hne, ha]
        · cases h
      · cases h
    · cases h
  · split at h
    · rename_i e; simp [execOp, Instr.extract, e, h]
    · cases h
  · split at h
    · rename_i e; injection h with h; subst h; simp [execOp, Op.unary, e]
    · cases h
  · split at h
    · rename_i e; injection h with h; subst h; simp [execOp, e]
    · cases h
  · rename_i t x
    unfold ifaceV at h
    split at h
    · cases h
    · rename_i d hd e1; injection h with h; subst h
      simp only [execOp, Instr.makeInterface, Sem.run_bind, run_und e1, Result.andThen_ok]
      cases d <;> first | (exact absurd rfl (hd _)) | simp
    · cases h
  · rename_i x xt a ok
    unfold assertV at h
    split at h
    · cases h
    · rename_i d t v hd e1 e2
      cases hb : Nat.beq t a with
      | false => rw [hb] at h; cases h
      | true =>
        rw [hb] at h
        have ht : t = a := Nat.eq_of_beq_eq_true hb
        subst ht
        simp only [execOp, Instr.typeAssert, Sem.run_bind, run_und e1, Result.andThen_ok, e2]
        cases ok <;> (injection h with h; subst h; cases d <;> first | (exact absurd rfl (hd _)) | simp)
    · cases h
  · injection h with h; subst h
    simp only [execOp, Instr.makeFunc, Sem.run_bind, Sem.run_pure, Result.andThen_ok]
    congr 3 <;> (apply Array.ext'; simp)
  · cases h
def runP (P : Program) (ops : Array Oper) : List Oper → Env → List Oper × Env
  | [], ρ => ([], ρ)
  | o :: l, ρ =>
    bif wantedE ops ρ o then
      (match pureV P ρ o.op with
       | some v => runP P ops l (putO ρ o.dst v)
       | none => (o :: l, ρ))
    else runP P ops l (putO ρ o.dst undef)

section
variable {P : Program} {n : Nat} {B : Bs} {f : View} {L : List HE} {ρ : Env} {Q : Post} {K : Kon} {ops : Array Oper} {m : Md} {o : Oper} {l l0 : List Oper} {ρ0 : Env}
theorem rw_runP : ∀ (l : List Oper) (ρ : Env), RW m P n B ops K (runP P ops l ρ).1 (runP P ops l ρ).2 f L → RW m P n B ops K l ρ f L
  | [], _, h => h
  | o :: l, ρ, h => by
    unfold runP at h
    cases hg : wantedE ops ρ o with
    | false =>
      rw [hg] at h
      exact rw_skip hg (rw_runP l _ h)
    | true =>
      rw [hg] at h
      simp only [cond_true] at h
      cases hp : pureV P ρ o.op with
      | none => rw [hp] at h; exact h
      | some v =>
        rw [hp] at h
        exact rw_y hg (fun w _ => pureV_ok hp w) (rw_runP l _ h)
/-- The plain operations, one after the other, as far as it goes. -/
theorem run {l' : List Oper} {ρ' : Env} (k : RW m P n B ops K l' ρ' f L) (h : runP P ops l ρ = (l', ρ') := by rfl) : RW m P n B ops K l ρ f L :=
  rw_runP l ρ (by rw [h]; exact k)
/-- The same to the region's end. -/
theorem runE {ρ' : Env} (k : K ρ' f L) (h : runP P ops l ρ = ([], ρ') := by rfl) : RW m P n B ops K l ρ f L :=
  rw_runP l ρ (by rw [h]; exact rw_end k)

/-! ### Whole numbers -/
theorem wrap_in {r : Int} (h : -9223372036854775808 ≤ r ∧ r ≤ 9223372036854775807) : IntKind.i64.wrap r = r :=
  IntWalk.i64_in r h
section
variable {d : Nat} {x y : Operand} {a b : Int} {t ty t2 : TypeId} {pos : String} {af : Array Edge} {gd : Option (Nat × Bool)}
theorem add (r : Int) (k : RW m P n B ops K l (up ρ d (.int .i64 r)) f L) (hrun : runP P ops l0 ρ0 = (⟨some d, .binOp .add t x y t2, ty, pos, af, gd⟩ :: l, ρ) := by rfl) (hg : wantedE ops ρ ⟨some d, .binOp .add t x y t2, ty, pos, af, gd⟩ = true := by rfl) (hx : ev ρ x = .int .i64 a := by rfl) (hy : ev ρ y = .int .i64 b := by rfl) (hr : a + b = r ∧ -9223372036854775808 ≤ r ∧ r ≤ 9223372036854775807 := by omega) : RW m P n B ops K l0 ρ0 f L := by
  refine rw_runP l0 ρ0 ?_
  rw [hrun]
  exact rw_y hg (fun w _ => by simp [execOp, eqGuard, binOp, hx, hy, Op.intArith, hr.1, wrap_in hr.2]) k
theorem sub (r : Int) (k : RW m P n B ops K l (up ρ d (.int .i64 r)) f L) (hrun : runP P ops l0 ρ0 = (⟨some d, .binOp .sub t x y t2, ty, pos, af, gd⟩ :: l, ρ) := by rfl) (hg : wantedE ops ρ ⟨some d, .binOp .sub t x y t2, ty, pos, af, gd⟩ = true := by rfl) (hx : ev ρ x = .int .i64 a := by rfl) (hy : ev ρ y = .int .i64 b := by rfl) (hr : a - b = r ∧ -9223372036854775808 ≤ r ∧ r ≤ 9223372036854775807 := by omega) : RW m P n B ops K l0 ρ0 f L := by
  refine rw_runP l0 ρ0 ?_
  rw [hrun]
  exact rw_y hg (fun w _ => by simp [execOp, eqGuard, binOp, hx, hy, Op.intArith, hr.1, wrap_in hr.2]) k
theorem mul (r : Int) (k : RW m P n B ops K l (up ρ d (.int .i64 r)) f L) (hrun : runP P ops l0 ρ0 = (⟨some d, .binOp .mul t x y t2, ty, pos, af, gd⟩ :: l, ρ) := by rfl) (hg : wantedE ops ρ ⟨some d, .binOp .mul t x y t2, ty, pos, af, gd⟩ = true := by rfl) (hx : ev ρ x = .int .i64 a := by rfl) (hy : ev ρ y = .int .i64 b := by rfl) (hr : a * b = r ∧ -9223372036854775808 ≤ r ∧ r ≤ 9223372036854775807 := by omega) : RW m P n B ops K l0 ρ0 f L := by
  refine rw_runP l0 ρ0 ?_
  rw [hrun]
  exact rw_y hg (fun w _ => by simp [execOp, eqGuard, binOp, hx, hy, Op.intArith, hr.1, wrap_in hr.2]) k
theorem quo (r : Int) (hb : b ≠ 0) (hr : a.tdiv b = r ∧ -9223372036854775808 ≤ r ∧ r ≤ 9223372036854775807) (k : RW m P n B ops K l (up ρ d (.int .i64 r)) f L) (hrun : runP P ops l0 ρ0 = (⟨some d, .binOp .quo t x y t2, ty, pos, af, gd⟩ :: l, ρ) := by rfl) (hg : wantedE ops ρ ⟨some d, .binOp .quo t x y t2, ty, pos, af, gd⟩ = true := by rfl) (hx : ev ρ x = .int .i64 a := by rfl) (hy : ev ρ y = .int .i64 b := by rfl) : RW m P n B ops K l0 ρ0 f L := by
  refine rw_runP l0 ρ0 ?_
  rw [hrun]
  exact rw_y hg (fun w _ => by simp [execOp, eqGuard, binOp, hx, hy, Op.intDiv, hb, hr.1, wrap_in hr.2]) k
theorem rem (r : Int) (hb : b ≠ 0) (hr : a.tmod b = r) (k : RW m P n B ops K l (up ρ d (.int .i64 r)) f L) (hrun : runP P ops l0 ρ0 = (⟨some d, .binOp .rem t x y t2, ty, pos, af, gd⟩ :: l, ρ) := by rfl) (hg : wantedE ops ρ ⟨some d, .binOp .rem t x y t2, ty, pos, af, gd⟩ = true := by rfl) (hx : ev ρ x = .int .i64 a := by rfl) (hy : ev ρ y = .int .i64 b := by rfl) : RW m P n B ops K l0 ρ0 f L := by
  refine rw_runP l0 ρ0 ?_
  rw [hrun]
  exact rw_y hg (fun w _ => by simp [execOp, eqGuard, binOp, hx, hy, Op.intDiv, hb, hr]) k
/-- A comparison: both ways. -/
theorem cmpI {kk : IntKind} {op : BinOp} (hg : wantedE ops ρ ⟨some d, .binOp op t x y t2, ty, pos, af, gd⟩ = true) (p : Prop) [Decidable p] (hx : ev ρ x = .int kk a) (hy : ev ρ y = .int kk b) (hs : op ≠ .shl ∧ op ≠ .shr ∧ (Op.intCmp op a b = pure (.bool (decide p))) ∧ (binOp op t (.int kk a) (.int kk b) = Op.intCmp op a b))
    (T : p → RW m P n B ops K l (up ρ d (.bool true)) f L) (F : ¬ p → RW m P n B ops K l (up ρ d (.bool false)) f L) :
    RW m P n B ops K (⟨some d, .binOp op t x y t2, ty, pos, af, gd⟩ :: l) ρ f L := by
  have hy' : Yd P ρ ⟨some d, .binOp op t x y t2, ty, pos, af, gd⟩ (St B f L) (.bool (decide p)) := fun w _ => by
    simp [execOp, eqGuard, hx, hy, hs.2.2.1, hs.2.2.2]
  by_cases h : p
  · rw [decide_eq_true h] at hy'
    exact rw_y hg hy' (T h)
  · rw [decide_eq_false h] at hy'
    exact rw_y hg hy' (F h)
variable {kk : IntKind}
theorem lt (T : a < b → RW m P n B ops K l (up ρ d (.bool true)) f L) (F : ¬ a < b → RW m P n B ops K l (up ρ d (.bool false)) f L) (hrun : runP P ops l0 ρ0 = (⟨some d, .binOp .lss t x y t2, ty, pos, af, gd⟩ :: l, ρ) := by rfl) (hg : wantedE ops ρ ⟨some d, .binOp .lss t x y t2, ty, pos, af, gd⟩ = true := by rfl) (hx : ev ρ x = .int kk a := by rfl) (hy : ev ρ y = .int kk b := by rfl) : RW m P n B ops K l0 ρ0 f L := by
  refine rw_runP l0 ρ0 ?_
  rw [hrun]
  exact cmpI hg (a < b) hx hy ⟨by simp, by simp, rfl, by simp [binOp]⟩ T F
theorem le (T : a ≤ b → RW m P n B ops K l (up ρ d (.bool true)) f L) (F : ¬ a ≤ b → RW m P n B ops K l (up ρ d (.bool false)) f L) (hrun : runP P ops l0 ρ0 = (⟨some d, .binOp .leq t x y t2, ty, pos, af, gd⟩ :: l, ρ) := by rfl) (hg : wantedE ops ρ ⟨some d, .binOp .leq t x y t2, ty, pos, af, gd⟩ = true := by rfl) (hx : ev ρ x = .int kk a := by rfl) (hy : ev ρ y = .int kk b := by rfl) : RW m P n B ops K l0 ρ0 f L := by
  refine rw_runP l0 ρ0 ?_
  rw [hrun]
  exact cmpI hg (a ≤ b) hx hy ⟨by simp, by simp, rfl, by simp [binOp]⟩ T F
theorem gt (T : b < a → RW m P n B ops K l (up ρ d (.bool true)) f L) (F : ¬ b < a → RW m P n B ops K l (up ρ d (.bool false)) f L) (hrun : runP P ops l0 ρ0 = (⟨some d, .binOp .gtr t x y t2, ty, pos, af, gd⟩ :: l, ρ) := by rfl) (hg : wantedE ops ρ ⟨some d, .binOp .gtr t x y t2, ty, pos, af, gd⟩ = true := by rfl) (hx : ev ρ x = .int kk a := by rfl) (hy : ev ρ y = .int kk b := by rfl) : RW m P n B ops K l0 ρ0 f L := by
  refine rw_runP l0 ρ0 ?_
  rw [hrun]
  exact cmpI hg (b < a) hx hy ⟨by simp, by simp, rfl, by simp [binOp]⟩ T F
theorem ge (T : b ≤ a → RW m P n B ops K l (up ρ d (.bool true)) f L) (F : ¬ b ≤ a → RW m P n B ops K l (up ρ d (.bool false)) f L) (hrun : runP P ops l0 ρ0 = (⟨some d, .binOp .geq t x y t2, ty, pos, af, gd⟩ :: l, ρ) := by rfl) (hg : wantedE ops ρ ⟨some d, .binOp .geq t x y t2, ty, pos, af, gd⟩ = true := by rfl) (hx : ev ρ x = .int kk a := by rfl) (hy : ev ρ y = .int kk b := by rfl) : RW m P n B ops K l0 ρ0 f L := by
  refine rw_runP l0 ρ0 ?_
  rw [hrun]
  exact cmpI hg (b ≤ a) hx hy ⟨by simp, by simp, rfl, by simp [binOp]⟩ T F
theorem eqI (T : a = b → RW m P n B ops K l (up ρ d (.bool true)) f L) (F : ¬ a = b → RW m P n B ops K l (up ρ d (.bool false)) f L) (hrun : runP P ops l0 ρ0 = (⟨some d, .binOp .eql t x y t2, ty, pos, af, gd⟩ :: l, ρ) := by rfl) (hg : wantedE ops ρ ⟨some d, .binOp .eql t x y t2, ty, pos, af, gd⟩ = true := by rfl) (hx : ev ρ x = .int kk a := by rfl) (hy : ev ρ y = .int kk b := by rfl) : RW m P n B ops K l0 ρ0 f L := by
  refine rw_runP l0 ρ0 ?_
  rw [hrun]
  exact cmpI hg (a = b) hx hy ⟨by simp, by simp, rfl, by simp [binOp]⟩ T F
theorem neI (T : a ≠ b → RW m P n B ops K l (up ρ d (.bool true)) f L) (F : ¬ a ≠ b → RW m P n B ops K l (up ρ d (.bool false)) f L) (hrun : runP P ops l0 ρ0 = (⟨some d, .binOp .neq t x y t2, ty, pos, af, gd⟩ :: l, ρ) := by rfl) (hg : wantedE ops ρ ⟨some d, .binOp .neq t x y t2, ty, pos, af, gd⟩ = true := by rfl) (hx : ev ρ x = .int kk a := by rfl) (hy : ev ρ y = .int kk b := by rfl) : RW m P n B ops K l0 ρ0 f L := by
  refine rw_runP l0 ρ0 ?_
  rw [hrun]
  exact cmpI hg (a ≠ b) hx hy ⟨by simp, by simp, by simp only [Op.intCmp]; congr 2; by_cases h : a = b <;> simp [h], by simp [binOp]⟩ T F
/-! ### Texts -/
variable {s u : Str}
theorem cmpS {op : BinOp} (hg : wantedE ops ρ ⟨some d, .binOp op t x y t2, ty, pos, af, gd⟩ = true) (p : Prop) [Decidable p] (hx : ev ρ x = str s) (hy : ev ρ y = str u) (hs : binOp op t (str s) (str u) = pure (.bool (decide p)))
    (T : p → RW m P n B ops K l (up ρ d (.bool true)) f L) (F : ¬ p → RW m P n B ops K l (up ρ d (.bool false)) f L) :
    RW m P n B ops K (⟨some d, .binOp op t x y t2, ty, pos, af, gd⟩ :: l) ρ f L := by
  have hy' : Yd P ρ ⟨some d, .binOp op t x y t2, ty, pos, af, gd⟩ (St B f L) (.bool (decide p)) := fun w _ => by
    simp [execOp, eqGuard, hx, hy, hs]
  by_cases h : p
  · rw [decide_eq_true h] at hy'
    exact rw_y hg hy' (T h)
  · rw [decide_eq_false h] at hy'
    exact rw_y hg hy' (F h)
theorem eqS (T : s = u → RW m P n B ops K l (up ρ d (.bool true)) f L) (F : ¬ s = u → RW m P n B ops K l (up ρ d (.bool false)) f L) (hrun : runP P ops l0 ρ0 = (⟨some d, .binOp .eql t x y t2, ty, pos, af, gd⟩ :: l, ρ) := by rfl) (hg : wantedE ops ρ ⟨some d, .binOp .eql t x y t2, ty, pos, af, gd⟩ = true := by rfl) (hx : ev ρ x = str s := by rfl) (hy : ev ρ y = str u := by rfl) : RW m P n B ops K l0 ρ0 f L := by
  refine rw_runP l0 ρ0 ?_
  rw [hrun]
  exact cmpS hg (s = u) hx hy (by rw [binOp_string_eql, toList_str, toList_str]; congr 2; by_cases h : s = u <;> simp [h]) T F
theorem neS (T : s ≠ u → RW m P n B ops K l (up ρ d (.bool true)) f L) (F : ¬ s ≠ u → RW m P n B ops K l (up ρ d (.bool false)) f L) (hrun : runP P ops l0 ρ0 = (⟨some d, .binOp .neq t x y t2, ty, pos, af, gd⟩ :: l, ρ) := by rfl) (hg : wantedE ops ρ ⟨some d, .binOp .neq t x y t2, ty, pos, af, gd⟩ = true := by rfl) (hx : ev ρ x = str s := by rfl) (hy : ev ρ y = str u := by rfl) : RW m P n B ops K l0 ρ0 f L := by
  refine rw_runP l0 ρ0 ?_
  rw [hrun]
  exact cmpS hg (s ≠ u) hx hy (by rw [binOp_string_neq, toList_str, toList_str]; congr 2; by_cases h : s = u <;> simp [h]) T F
theorem ltS (T : s < u → RW m P n B ops K l (up ρ d (.bool true)) f L) (F : ¬ s < u → RW m P n B ops K l (up ρ d (.bool false)) f L) (hrun : runP P ops l0 ρ0 = (⟨some d, .binOp .lss t x y t2, ty, pos, af, gd⟩ :: l, ρ) := by rfl) (hg : wantedE ops ρ ⟨some d, .binOp .lss t x y t2, ty, pos, af, gd⟩ = true := by rfl) (hx : ev ρ x = str s := by rfl) (hy : ev ρ y = str u := by rfl) : RW m P n B ops K l0 ρ0 f L := by
  refine rw_runP l0 ρ0 ?_
  rw [hrun]
  exact cmpS hg (s < u) hx hy (by rw [binOp_string_lss, toList_str, toList_str, bytesLess_eq]) T F
theorem le_or {s u : Str} : (decide (s < u) || s == u) = decide (¬ u < s) := by
  by_cases h1 : s < u
  · have := List.lt_asymm h1
    simp [h1, this]
  · by_cases h2 : s = u
    · subst h2; simp [h1]
    · have h3 : u < s := Std.lt_of_le_of_ne h1 (Ne.symm h2)
      simp [h1, h2, h3]
theorem geS (T : ¬ s < u → RW m P n B ops K l (up ρ d (.bool true)) f L) (F : ¬ ¬ s < u → RW m P n B ops K l (up ρ d (.bool false)) f L) (hrun : runP P ops l0 ρ0 = (⟨some d, .binOp .geq t x y t2, ty, pos, af, gd⟩ :: l, ρ) := by rfl) (hg : wantedE ops ρ ⟨some d, .binOp .geq t x y t2, ty, pos, af, gd⟩ = true := by rfl) (hx : ev ρ x = str s := by rfl) (hy : ev ρ y = str u := by rfl) : RW m P n B ops K l0 ρ0 f L := by
  refine rw_runP l0 ρ0 ?_
  rw [hrun]
  exact cmpS hg (¬ s < u) hx hy (by simp only [binOp, Op.stringOp, toList_str, bytesLess_eq]; congr 2; by_cases h : s < u <;> simp [h]) T F
theorem leS (T : ¬ u < s → RW m P n B ops K l (up ρ d (.bool true)) f L) (F : ¬ ¬ u < s → RW m P n B ops K l (up ρ d (.bool false)) f L) (hrun : runP P ops l0 ρ0 = (⟨some d, .binOp .leq t x y t2, ty, pos, af, gd⟩ :: l, ρ) := by rfl) (hg : wantedE ops ρ ⟨some d, .binOp .leq t x y t2, ty, pos, af, gd⟩ = true := by rfl) (hx : ev ρ x = str s := by rfl) (hy : ev ρ y = str u := by rfl) : RW m P n B ops K l0 ρ0 f L := by
  refine rw_runP l0 ρ0 ?_
  rw [hrun]
  exact cmpS hg (¬ u < s) hx hy (by simp only [binOp, Op.stringOp, toList_str, bytesLess_eq]; rw [le_or]) T F
theorem gtS (T : u < s → RW m P n B ops K l (up ρ d (.bool true)) f L) (F : ¬ u < s → RW m P n B ops K l (up ρ d (.bool false)) f L) (hrun : runP P ops l0 ρ0 = (⟨some d, .binOp .gtr t x y t2, ty, pos, af, gd⟩ :: l, ρ) := by rfl) (hg : wantedE ops ρ ⟨some d, .binOp .gtr t x y t2, ty, pos, af, gd⟩ = true := by rfl) (hx : ev ρ x = str s := by rfl) (hy : ev ρ y = str u := by rfl) : RW m P n B ops K l0 ρ0 f L := by
  refine rw_runP l0 ρ0 ?_
  rw [hrun]
  exact cmpS hg (u < s) hx hy (by simp only [binOp, Op.stringOp, toList_str, bytesLess_eq]; rw [le_or]; congr 2; by_cases h : u < s <;> simp [h]) T F
/-- 's + u'. -/
theorem cat (hl : s.length + u.length ≤ 9223372036854775807) (k : RW m P n B ops K l (up ρ d (str (s ++ u))) f L) (hrun : runP P ops l0 ρ0 = (⟨some d, .binOp .add t x y t2, ty, pos, af, gd⟩ :: l, ρ) := by rfl) (hg : wantedE ops ρ ⟨some d, .binOp .add t x y t2, ty, pos, af, gd⟩ = true := by rfl) (hx : ev ρ x = str s := by rfl) (hy : ev ρ y = str u := by rfl) : RW m P n B ops K l0 ρ0 f L := by
  refine rw_runP l0 ρ0 ?_
  rw [hrun]
  exact rw_y hg (fun w _ => by
    have h1 : ¬ (((ByteArray.mk ⟨s⟩).size + (ByteArray.mk ⟨u⟩).size : Nat) : Int) > IntKind.i64.max := by
      show ¬ ((s.length + u.length : Nat) : Int) > 9223372036854775807
      omega
    have h2 : (ByteArray.mk ⟨s⟩) ++ (ByteArray.mk ⟨u⟩) = ByteArray.mk ⟨s ++ u⟩ := by
      apply ByteArray.ext
      simp
    simp only [execOp, eqGuard, hx, hy, binOp, Op.stringOp, if_neg h1, h2]
    simp) k
/-- 's[i]' of a text. -/
theorem ixS {ki : IntKind} {i : Int} (j : Nat) (c : UInt8) (hc : s[j]? = some c) (k : RW m P n B ops K l (up ρ d (.int .u8 (c.toNat : Int))) f L) (hrun : runP P ops l0 ρ0 = (⟨some d, .index t x y, ty, pos, af, gd⟩ :: l, ρ) := by rfl) (hg : wantedE ops ρ ⟨some d, .index t x y, ty, pos, af, gd⟩ = true := by rfl) (hx : ev ρ x = str s := by rfl) (hy : ev ρ y = .int ki i := by rfl) (ht : P.underlying t = some .string := by rfl) (hi : i = j := by rfl) : RW m P n B ops K l0 ρ0 f L := by
  refine rw_runP l0 ρ0 ?_
  rw [hrun]
  exact rw_y hg (fun w _ => by
    subst hi
    have h1 : (ByteArray.mk ⟨s⟩)[j]? = some c := by
      have hlt : j < s.length := (List.getElem?_eq_some_iff.1 hc).1
      rw [ByteArray.getElem?_lt' _ _ (by exact hlt)]
      have := (List.getElem?_eq_some_iff.1 hc).2
      congr 1
    simp [execOp, Instr.index, asIntOf, hx, hy, run_und ht, h1]) k
end
end
-- E VERSIONS
section
variable {P : Program} {n : Nat} {B : Bs} {f : View} {L : List HE} {ρ : Env} {Q : Post} {K : Kon} {ops : Array Oper} {m : Md} {o : Oper} {l l0 : List Oper} {ρ0 : Env}
variable {d : Nat} {x y : Operand} {a b : Int} {t ty t2 : TypeId} {pos : String} {af : Array Edge} {gd : Option (Nat × Bool)}
variable {kk : IntKind}
variable {s u : Str}
theorem addE (r : Int) {ρE : Env} (k : K ρE f L) (hrun : runP P ops l0 ρ0 = (⟨some d, .binOp .add t x y t2, ty, pos, af, gd⟩ :: l, ρ) := by rfl) (hg : wantedE ops ρ ⟨some d, .binOp .add t x y t2, ty, pos, af, gd⟩ = true := by rfl) (hx : ev ρ x = .int .i64 a := by rfl) (hy : ev ρ y = .int .i64 b := by rfl) (hr : a + b = r ∧ -9223372036854775808 ≤ r ∧ r ≤ 9223372036854775807 := by omega) (hE : runP P ops l (up ρ d (.int .i64 r)) = ([], ρE) := by rfl) : RW m P n B ops K l0 ρ0 f L :=
  add (r := r) (k := runE k hE) (hrun := hrun) (hg := hg) (hx := hx) (hy := hy) (hr := hr)
theorem subE (r : Int) {ρE : Env} (k : K ρE f L) (hrun : runP P ops l0 ρ0 = (⟨some d, .binOp .sub t x y t2, ty, pos, af, gd⟩ :: l, ρ) := by rfl) (hg : wantedE ops ρ ⟨some d, .binOp .sub t x y t2, ty, pos, af, gd⟩ = true := by rfl) (hx : ev ρ x = .int .i64 a := by rfl) (hy : ev ρ y = .int .i64 b := by rfl) (hr : a - b = r ∧ -9223372036854775808 ≤ r ∧ r ≤ 9223372036854775807 := by omega) (hE : runP P ops l (up ρ d (.int .i64 r)) = ([], ρE) := by rfl) : RW m P n B ops K l0 ρ0 f L :=
  sub (r := r) (k := runE k hE) (hrun := hrun) (hg := hg) (hx := hx) (hy := hy) (hr := hr)
theorem mulE (r : Int) {ρE : Env} (k : K ρE f L) (hrun : runP P ops l0 ρ0 = (⟨some d, .binOp .mul t x y t2, ty, pos, af, gd⟩ :: l, ρ) := by rfl) (hg : wantedE ops ρ ⟨some d, .binOp .mul t x y t2, ty, pos, af, gd⟩ = true := by rfl) (hx : ev ρ x = .int .i64 a := by rfl) (hy : ev ρ y = .int .i64 b := by rfl) (hr : a * b = r ∧ -9223372036854775808 ≤ r ∧ r ≤ 9223372036854775807 := by omega) (hE : runP P ops l (up ρ d (.int .i64 r)) = ([], ρE) := by rfl) : RW m P n B ops K l0 ρ0 f L :=
  mul (r := r) (k := runE k hE) (hrun := hrun) (hg := hg) (hx := hx) (hy := hy) (hr := hr)
theorem quoE (r : Int) (hb : b ≠ 0) (hr : a.tdiv b = r ∧ -9223372036854775808 ≤ r ∧ r ≤ 9223372036854775807) {ρE : Env} (k : K ρE f L) (hrun : runP P ops l0 ρ0 = (⟨some d, .binOp .quo t x y t2, ty, pos, af, gd⟩ :: l, ρ) := by rfl) (hg : wantedE ops ρ ⟨some d, .binOp .quo t x y t2, ty, pos, af, gd⟩ = true := by rfl) (hx : ev ρ x = .int .i64 a := by rfl) (hy : ev ρ y = .int .i64 b := by rfl) (hE : runP P ops l (up ρ d (.int .i64 r)) = ([], ρE) := by rfl) : RW m P n B ops K l0 ρ0 f L :=
  quo (r := r) (hb := hb) (hr := hr) (k := runE k hE) (hrun := hrun) (hg := hg) (hx := hx) (hy := hy)
theorem remE (r : Int) (hb : b ≠ 0) (hr : a.tmod b = r) {ρE : Env} (k : K ρE f L) (hrun : runP P ops l0 ρ0 = (⟨some d, .binOp .rem t x y t2, ty, pos, af, gd⟩ :: l, ρ) := by rfl) (hg : wantedE ops ρ ⟨some d, .binOp .rem t x y t2, ty, pos, af, gd⟩ = true := by rfl) (hx : ev ρ x = .int .i64 a := by rfl) (hy : ev ρ y = .int .i64 b := by rfl) (hE : runP P ops l (up ρ d (.int .i64 r)) = ([], ρE) := by rfl) : RW m P n B ops K l0 ρ0 f L :=
  rem (r := r) (hb := hb) (hr := hr) (k := runE k hE) (hrun := hrun) (hg := hg) (hx := hx) (hy := hy)
theorem ltE {ρT ρF : Env} (T : a < b → K ρT f L) (F : ¬ a < b → K ρF f L) (hrun : runP P ops l0 ρ0 = (⟨some d, .binOp .lss t x y t2, ty, pos, af, gd⟩ :: l, ρ) := by rfl) (hg : wantedE ops ρ ⟨some d, .binOp .lss t x y t2, ty, pos, af, gd⟩ = true := by rfl) (hx : ev ρ x = .int kk a := by rfl) (hy : ev ρ y = .int kk b := by rfl) (hT : runP P ops l (up ρ d (.bool true)) = ([], ρT) := by rfl) (hF : runP P ops l (up ρ d (.bool false)) = ([], ρF) := by rfl) : RW m P n B ops K l0 ρ0 f L :=
  lt (T := fun h => runE (T h) hT) (F := fun h => runE (F h) hF) (hrun := hrun) (hg := hg) (hx := hx) (hy := hy)
theorem leE {ρT ρF : Env} (T : a ≤ b → K ρT f L) (F : ¬ a ≤ b → K ρF f L) (hrun : runP P ops l0 ρ0 = (⟨some d, .binOp .leq t x y t2, ty, pos, af, gd⟩ :: l, ρ) := by rfl) (hg : wantedE ops ρ ⟨some d, .binOp .leq t x y t2, ty, pos, af, gd⟩ = true := by rfl) (hx : ev ρ x = .int kk a := by rfl) (hy : ev ρ y = .int kk b := by rfl) (hT : runP P ops l (up ρ d (.bool true)) = ([], ρT) := by rfl) (hF : runP P ops l (up ρ d (.bool false)) = ([], ρF) := by rfl) : RW m P n B ops K l0 ρ0 f L :=
  le (T := fun h => runE (T h) hT) (F := fun h => runE (F h) hF) (hrun := hrun) (hg := hg) (hx := hx) (hy := hy)
theorem gtE {ρT ρF : Env} (T : b < a → K ρT f L) (F : ¬ b < a → K ρF f L) (hrun : runP P ops l0 ρ0 = (⟨some d, .binOp .gtr t x y t2, ty, pos, af, gd⟩ :: l, ρ) := by rfl) (hg : wantedE ops ρ ⟨some d, .binOp .gtr t x y t2, ty, pos, af, gd⟩ = true := by rfl) (hx : ev ρ x = .int kk a := by rfl) (hy : ev ρ y = .int kk b := by rfl) (hT : runP P ops l (up ρ d (.bool true)) = ([], ρT) := by rfl) (hF : runP P ops l (up ρ d (.bool false)) = ([], ρF) := by rfl) : RW m P n B ops K l0 ρ0 f L :=
  gt (T := fun h => runE (T h) hT) (F := fun h => runE (F h) hF) (hrun := hrun) (hg := hg) (hx := hx) (hy := hy)
theorem geE {ρT ρF : Env} (T : b ≤ a → K ρT f L) (F : ¬ b ≤ a → K ρF f L) (hrun : runP P ops l0 ρ0 = (⟨some d, .binOp .geq t x y t2, ty, pos, af, gd⟩ :: l, ρ) := by rfl) (hg : wantedE ops ρ ⟨some d, .binOp .geq t x y t2, ty, pos, af, gd⟩ = true := by rfl) (hx : ev ρ x = .int kk a := by rfl) (hy : ev ρ y = .int kk b := by rfl) (hT : runP P ops l (up ρ d (.bool true)) = ([], ρT) := by rfl) (hF : runP P ops l (up ρ d (.bool false)) = ([], ρF) := by rfl) : RW m P n B ops K l0 ρ0 f L :=
  ge (T := fun h => runE (T h) hT) (F := fun h => runE (F h) hF) (hrun := hrun) (hg := hg) (hx := hx) (hy := hy)
theorem eqIE {ρT ρF : Env} (T : a = b → K ρT f L) (F : ¬ a = b → K ρF f L) (hrun : runP P ops l0 ρ0 = (⟨some d, .binOp .eql t x y t2, ty, pos, af, gd⟩ :: l, ρ) := by rfl) (hg : wantedE ops ρ ⟨some d, .binOp .eql t x y t2, ty, pos, af, gd⟩ = true := by rfl) (hx : ev ρ x = .int kk a := by rfl) (hy : ev ρ y = .int kk b := by rfl) (hT : runP P ops l (up ρ d (.bool true)) = ([], ρT) := by rfl) (hF : runP P ops l (up ρ d (.bool false)) = ([], ρF) := by rfl) : RW m P n B ops K l0 ρ0 f L :=
  eqI (T := fun h => runE (T h) hT) (F := fun h => runE (F h) hF) (hrun := hrun) (hg := hg) (hx := hx) (hy := hy)
theorem neIE {ρT ρF : Env} (T : a ≠ b → K ρT f L) (F : ¬ a ≠ b → K ρF f L) (hrun : runP P ops l0 ρ0 = (⟨some d, .binOp .neq t x y t2, ty, pos, af, gd⟩ :: l, ρ) := by rfl) (hg : wantedE ops ρ ⟨some d, .binOp .neq t x y t2, ty, pos, af, gd⟩ = true := by rfl) (hx : ev ρ x = .int kk a := by rfl) (hy : ev ρ y = .int kk b := by rfl) (hT : runP P ops l (up ρ d (.bool true)) = ([], ρT) := by rfl) (hF : runP P ops l (up ρ d (.bool false)) = ([], ρF) := by rfl) : RW m P n B ops K l0 ρ0 f L :=
  neI (T := fun h => runE (T h) hT) (F := fun h => runE (F h) hF) (hrun := hrun) (hg := hg) (hx := hx) (hy := hy)
theorem eqSE {ρT ρF : Env} (T : s = u → K ρT f L) (F : ¬ s = u → K ρF f L) (hrun : runP P ops l0 ρ0 = (⟨some d, .binOp .eql t x y t2, ty, pos, af, gd⟩ :: l, ρ) := by rfl) (hg : wantedE ops ρ ⟨some d, .binOp .eql t x y t2, ty, pos, af, gd⟩ = true := by rfl) (hx : ev ρ x = str s := by rfl) (hy : ev ρ y = str u := by rfl) (hT : runP P ops l (up ρ d (.bool true)) = ([], ρT) := by rfl) (hF : runP P ops l (up ρ d (.bool false)) = ([], ρF) := by rfl) : RW m P n B ops K l0 ρ0 f L :=
  eqS (T := fun h => runE (T h) hT) (F := fun h => runE (F h) hF) (hrun := hrun) (hg := hg) (hx := hx) (hy := hy)
theorem neSE {ρT ρF : Env} (T : s ≠ u → K ρT f L) (F : ¬ s ≠ u → K ρF f L) (hrun : runP P ops l0 ρ0 = (⟨some d, .binOp .neq t x y t2, ty, pos, af, gd⟩ :: l, ρ) := by rfl) (hg : wantedE ops ρ ⟨some d, .binOp .neq t x y t2, ty, pos, af, gd⟩ = true := by rfl) (hx : ev ρ x = str s := by rfl) (hy : ev ρ y = str u := by rfl) (hT : runP P ops l (up ρ d (.bool true)) = ([], ρT) := by rfl) (hF : runP P ops l (up ρ d (.bool false)) = ([], ρF) := by rfl) : RW m P n B ops K l0 ρ0 f L :=
  neS (T := fun h => runE (T h) hT) (F := fun h => runE (F h) hF) (hrun := hrun) (hg := hg) (hx := hx) (hy := hy)
theorem ltSE {ρT ρF : Env} (T : s < u → K ρT f L) (F : ¬ s < u → K ρF f L) (hrun : runP P ops l0 ρ0 = (⟨some d, .binOp .lss t x y t2, ty, pos, af, gd⟩ :: l, ρ) := by rfl) (hg : wantedE ops ρ ⟨some d, .binOp .lss t x y t2, ty, pos, af, gd⟩ = true := by rfl) (hx : ev ρ x = str s := by rfl) (hy : ev ρ y = str u := by rfl) (hT : runP P ops l (up ρ d (.bool true)) = ([], ρT) := by rfl) (hF : runP P ops l (up ρ d (.bool false)) = ([], ρF) := by rfl) : RW m P n B ops K l0 ρ0 f L :=
  ltS (T := fun h => runE (T h) hT) (F := fun h => runE (F h) hF) (hrun := hrun) (hg := hg) (hx := hx) (hy := hy)
theorem geSE {ρT ρF : Env} (T : ¬ s < u → K ρT f L) (F : ¬ ¬ s < u → K ρF f L) (hrun : runP P ops l0 ρ0 = (⟨some d, .binOp .geq t x y t2, ty, pos, af, gd⟩ :: l, ρ) := by rfl) (hg : wantedE ops ρ ⟨some d, .binOp .geq t x y t2, ty, pos, af, gd⟩ = true := by rfl) (hx : ev ρ x = str s := by rfl) (hy : ev ρ y = str u := by rfl) (hT : runP P ops l (up ρ d (.bool true)) = ([], ρT) := by rfl) (hF : runP P ops l (up ρ d (.bool false)) = ([], ρF) := by rfl) : RW m P n B ops K l0 ρ0 f L :=
  geS (T := fun h => runE (T h) hT) (F := fun h => runE (F h) hF) (hrun := hrun) (hg := hg) (hx := hx) (hy := hy)
theorem leSE {ρT ρF : Env} (T : ¬ u < s → K ρT f L) (F : ¬ ¬ u < s → K ρF f L) (hrun : runP P ops l0 ρ0 = (⟨some d, .binOp .leq t x y t2, ty, pos, af, gd⟩ :: l, ρ) := by rfl) (hg : wantedE ops ρ ⟨some d, .binOp .leq t x y t2, ty, pos, af, gd⟩ = true := by rfl) (hx : ev ρ x = str s := by rfl) (hy : ev ρ y = str u := by rfl) (hT : runP P ops l (up ρ d (.bool true)) = ([], ρT) := by rfl) (hF : runP P ops l (up ρ d (.bool false)) = ([], ρF) := by rfl) : RW m P n B ops K l0 ρ0 f L :=
  leS (T := fun h => runE (T h) hT) (F := fun h => runE (F h) hF) (hrun := hrun) (hg := hg) (hx := hx) (hy := hy)
theorem gtSE {ρT ρF : Env} (T : u < s → K ρT f L) (F : ¬ u < s → K ρF f L) (hrun : runP P ops l0 ρ0 = (⟨some d, .binOp .gtr t x y t2, ty, pos, af, gd⟩ :: l, ρ) := by rfl) (hg : wantedE ops ρ ⟨some d, .binOp .gtr t x y t2, ty, pos, af, gd⟩ = true := by rfl) (hx : ev ρ x = str s := by rfl) (hy : ev ρ y = str u := by rfl) (hT : runP P ops l (up ρ d (.bool true)) = ([], ρT) := by rfl) (hF : runP P ops l (up ρ d (.bool false)) = ([], ρF) := by rfl) : RW m P n B ops K l0 ρ0 f L :=
  gtS (T := fun h => runE (T h) hT) (F := fun h => runE (F h) hF) (hrun := hrun) (hg := hg) (hx := hx) (hy := hy)
theorem catE (hl : s.length + u.length ≤ 9223372036854775807) {ρE : Env} (k : K ρE f L) (hrun : runP P ops l0 ρ0 = (⟨some d, .binOp .add t x y t2, ty, pos, af, gd⟩ :: l, ρ) := by rfl) (hg : wantedE ops ρ ⟨some d, .binOp .add t x y t2, ty, pos, af, gd⟩ = true := by rfl) (hx : ev ρ x = str s := by rfl) (hy : ev ρ y = str u := by rfl) (hE : runP P ops l (up ρ d (str (s ++ u))) = ([], ρE) := by rfl) : RW m P n B ops K l0 ρ0 f L :=
  cat (hl := hl) (k := runE k hE) (hrun := hrun) (hg := hg) (hx := hx) (hy := hy)
theorem ixSE {ki : IntKind} {i : Int} (j : Nat) (c : UInt8) (hc : s[j]? = some c) {ρE : Env} (k : K ρE f L) (hrun : runP P ops l0 ρ0 = (⟨some d, .index t x y, ty, pos, af, gd⟩ :: l, ρ) := by rfl) (hg : wantedE ops ρ ⟨some d, .index t x y, ty, pos, af, gd⟩ = true := by rfl) (hx : ev ρ x = str s := by rfl) (hy : ev ρ y = .int ki i := by rfl) (ht : P.underlying t = some .string := by rfl) (hi : i = j := by rfl) (hE : runP P ops l (up ρ d (.int .u8 (c.toNat : Int))) = ([], ρE) := by rfl) : RW m P n B ops K l0 ρ0 f L :=
  ixS (j := j) (c := c) (hc := hc) (k := runE k hE) (hrun := hrun) (hg := hg) (hx := hx) (hy := hy) (ht := ht) (hi := hi)
end
-- END E VERSIONS
end Go.Hog
