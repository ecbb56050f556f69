/- The engine, part 15: conversions, whole numbers of any kind. -/
import Derived.Test.YtjjlfbpmbleabaaDoorE14
import Derived.Laws.IdiomStrings
set_option linter.unusedVariables false
set_option linter.unusedSimpArgs false
namespace Go.Hog
open Go.RowKit Rp
section
variable {P : Program} {n : Nat} {B : Bs} {f : View} {L : List HE} {ρ : Env} {Q : Post} {K : Kon} {ops : Array Oper} {m : Md} {l l0 : List Oper} {ρ0 : Env}
variable {d : Nat} {x y : Operand} {a b : Int} {t ty t2 : TypeId} {pos : String} {af : Array Edge} {gd : Option (Nat × Bool)}
variable {kk k2 : IntKind} {src dst e : TypeId}
def kindT (P : Program) (t : TypeId) : Option IntKind := match P.underlying t with | some (.int k) => some k | _ => none
theorem und_kindT {k : IntKind} (h : kindT P t = some k) : P.underlying t = some (.int k) := by
  unfold kindT at h
  split at h
  · rename_i hu; injection h with h; subst h; exact hu
  · cases h
/-- From one kind of number to another one. -/
theorem cvI (r : Int) (hr : k2.wrap a = r) (k : RW m P n B ops K l (up ρ d (.int k2 r)) f L) (hrun : runP P ops l0 ρ0 = (⟨some d, .convert src dst x, ty, pos, af, gd⟩ :: l, ρ) := by rfl) (hg : wantedE ops ρ ⟨some d, .convert src dst x, ty, pos, af, gd⟩ = true := by rfl)
    (hx : ev ρ x = .int kk a := by rfl) (hs : kindT P src = some kk := by rfl) (hd : kindT P dst = some k2 := by rfl) : RW m P n B ops K l0 ρ0 f L := by
  refine rw_runP l0 ρ0 ?_
  rw [hrun]
  subst hr
  exact rw_y hg (fun w _ => by simp [execOp, convert, hx, run_und (und_kindT hs), run_und (und_kindT hd), Conv.intToInt]) k
theorem remK (r : Int) (hb : b ≠ 0) (hr : a.tmod b = r) (k : RW m P n B ops K l (up ρ d (.int kk r)) f L) (hrun : runP P ops l0 ρ0 = (⟨some d, .binOp .rem t x y t2, ty, pos, af, gd⟩ :: l, ρ) := by rfl) (hg : wantedE ops ρ ⟨some d, .binOp .rem t x y t2, ty, pos, af, gd⟩ = true := by rfl) (hx : ev ρ x = .int kk a := by rfl) (hy : ev ρ y = .int kk b := by rfl) : RW m P n B ops K l0 ρ0 f L := by
  refine rw_runP l0 ρ0 ?_
  rw [hrun]
  exact rw_y hg (fun w _ => by simp [execOp, eqGuard, binOp, hx, hy, Op.intDiv, hb, hr]) k
theorem addK (r : Int) (hr : kk.wrap (a + b) = r) (k : RW m P n B ops K l (up ρ d (.int kk r)) f L) (hrun : runP P ops l0 ρ0 = (⟨some d, .binOp .add t x y t2, ty, pos, af, gd⟩ :: l, ρ) := by rfl) (hg : wantedE ops ρ ⟨some d, .binOp .add t x y t2, ty, pos, af, gd⟩ = true := by rfl) (hx : ev ρ x = .int kk a := by rfl) (hy : ev ρ y = .int kk b := by rfl) : RW m P n B ops K l0 ρ0 f L := by
  refine rw_runP l0 ρ0 ?_
  rw [hrun]
  exact rw_y hg (fun w _ => by simp [execOp, eqGuard, binOp, hx, hy, Op.intArith, hr]) k
theorem subK (r : Int) (hr : kk.wrap (a - b) = r) (k : RW m P n B ops K l (up ρ d (.int kk r)) f L) (hrun : runP P ops l0 ρ0 = (⟨some d, .binOp .sub t x y t2, ty, pos, af, gd⟩ :: l, ρ) := by rfl) (hg : wantedE ops ρ ⟨some d, .binOp .sub t x y t2, ty, pos, af, gd⟩ = true := by rfl) (hx : ev ρ x = .int kk a := by rfl) (hy : ev ρ y = .int kk b := by rfl) : RW m P n B ops K l0 ρ0 f L := by
  refine rw_runP l0 ρ0 ?_
  rw [hrun]
  exact rw_y hg (fun w _ => by simp [execOp, eqGuard, binOp, hx, hy, Op.intArith, hr]) k
theorem mulK (r : Int) (hr : kk.wrap (a * b) = r) (k : RW m P n B ops K l (up ρ d (.int kk r)) f L) (hrun : runP P ops l0 ρ0 = (⟨some d, .binOp .mul t x y t2, ty, pos, af, gd⟩ :: l, ρ) := by rfl) (hg : wantedE ops ρ ⟨some d, .binOp .mul t x y t2, ty, pos, af, gd⟩ = true := by rfl) (hx : ev ρ x = .int kk a := by rfl) (hy : ev ρ y = .int kk b := by rfl) : RW m P n B ops K l0 ρ0 f L := by
  refine rw_runP l0 ρ0 ?_
  rw [hrun]
  exact rw_y hg (fun w _ => by simp [execOp, eqGuard, binOp, hx, hy, Op.intArith, hr]) k
def byteV (b : UInt8) : Value := .int .u8 (b.toNat : Int)
def u8T (P : Program) (t : TypeId) : Option TypeId := match P.underlying t with | some (.slice e) => (match P.underlying e with | some (.int .u8) => some e | _ => none) | _ => none
theorem und_u8T {e : TypeId} (h : u8T P t = some e) : P.underlying t = some (.slice e) ∧ P.underlying e = some (.int .u8) := by
  unfold u8T at h
  split at h
  · rename_i e1 hu
    split at h
    · rename_i hu2; injection h with h; subst h; exact ⟨hu, hu2⟩
    · cases h
  · cases h
def isStr (P : Program) (t : TypeId) : Bool := match P.underlying t with | some .string => true | _ => false
theorem und_isStr (h : isStr P t = true) : P.underlying t = some .string := by
  unfold isStr at h
  split at h
  · rename_i hu; exact hu
  · cases h
/-- A text of bytes that stand in an own row (entry i). -/
theorem cvBS (i : Nat) (s : Str) {A : Option Addr} {nn c : Nat} {xs : List Value} (hs : xs = s.map byteV) (hn : nn = s.length) (h0 : 0 < nn) (k : RW m P n B ops K l (up ρ d (str s)) f L) (hrun : runP P ops l0 ρ0 = (⟨some d, .convert src dst x, ty, pos, af, gd⟩ :: l, ρ) := by rfl) (hg : wantedE ops ρ ⟨some d, .convert src dst x, ty, pos, af, gd⟩ = true := by rfl)
    (hx : ev ρ x = .slice A nn c := by rfl) (hi : L[i]? = some (.row A nn c e 1 xs) := by rfl) (hsr : u8T P src = some e := by rfl) (hd : isStr P dst = true := by rfl) : RW m P n B ops K l0 ρ0 f L := by
  refine rw_runP l0 ρ0 ?_
  rw [hrun]
  subst hs hn
  refine rw_y hg (fun w hw => ?_) k
  obtain ⟨bb, o, rfl, hc⟩ := hw.rowAll hi h0
  have := run_convert_bytes_back (P := P) w src dst e ⟨bb, o, none⟩ c s (und_u8T hsr).1 (und_u8T hsr).2 (und_isStr hd) (fun j hj => by
    rw [add_plain]
    exact hc j _ (by simp [hj, byteV]))
  simp only [execOp, hx, Sem.run_bind, this, Result.andThen_ok, Sem.run_pure]
end
theorem wrap_u64 (x : Int) : IntKind.u64.wrap x = x % 18446744073709551616 := by
  simp [IntKind.wrap, IntKind.signed, IntKind.bits]
theorem wrap_u8 (x : Int) : IntKind.u8.wrap x = x % 256 := IntKind.wrap_u8 x
theorem wrap_u32 (x : Int) : IntKind.u32.wrap x = x % 4294967296 := IntKind.wrap_u32 x
/-- What Low answers. -/
def lowV (x n : Int) : Int := (x % 18446744073709551616) % n
theorem lowV_lt (x : Int) {n : Int} (h : 0 < n) : 0 ≤ lowV x n ∧ lowV x n < n := ⟨Int.emod_nonneg _ (by omega), Int.emod_lt_of_pos _ h⟩
end Go.Hog
