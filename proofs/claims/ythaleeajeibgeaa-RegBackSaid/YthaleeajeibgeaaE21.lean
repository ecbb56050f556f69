/- The engine, part 21: slices made. -/
import Derived.Test.YthaleeajeibgeaaE20
import Derived.Laws.OwnMore
set_option linter.unusedVariables false
set_option linter.unusedSimpArgs false
namespace Go.Hog
open Go.RowKit Rp
section
variable {P : Program} {n : Nat} {B : Bs} {f : View} {L : List HE} {ρ : Env} {Q : Post} {K : Kon} {ops : Array Oper} {m : Md} {l l0 : List Oper} {ρ0 : Env}
variable {d : Nat} {x y : Operand} {t ty e t2 : TypeId} {pos : String} {af : Array Edge} {gd : Option (Nat × Bool)} {b o : Nat} {v : Value} {vs cs : List Value}
/-- 'make([]T, n)', T of one cell. -/
theorem mks {z : Value} {by_ : Nat} {i j : Int} {ki kj : IntKind} (q : Nat) (hlim : by_ * q ≤ 140737488355328 ∧ q ≤ 140737488355328) (k : ∀ b, RW .s P n B ops K l (up ρ d (.slice (some ⟨b, 0, none⟩) q q)) f (.row (some ⟨b, 0, none⟩) q q e 1 (List.replicate q z) :: L))
    (hrun : runP P ops l0 ρ0 = (⟨some d, .makeSlice t x y, ty, pos, af, gd⟩ :: l, ρ) := by rfl) (hg : wantedE ops ρ ⟨some d, .makeSlice t x y, ty, pos, af, gd⟩ = true := by rfl)
    (hx : ev ρ x = .int ki i := by rfl) (hy : ev ρ y = .int kj j := by rfl) (he : elemT P t = some e := by rfl) (hz : sizeT P e = some 1 := by rfl) (hb : bytesT P e = some by_ := by rfl) (hzz : zeroT P e = some [z] := by rfl) (hi : i = q := by rfl) (hj : j = q := by rfl) : RW .s P n B ops K l0 ρ0 f L := by
  refine rw_runP l0 ρ0 ?_
  rw [hrun]
  subst hi hj
  obtain ⟨zz, hz1, hzc⟩ := Option.map_eq_some_iff.1 (show ((P.info? e).bind (·.zero)).map (·.cells.toList) = some [z] from hzz)
  obtain ⟨ti, hti, hz2⟩ := Option.bind_eq_some_iff.1 hz1
  have hsz : ti.size = 1 := by unfold sizeT at hz; rw [hti] at hz; simpa using hz
  have hbz : ti.bytes = by_ := by unfold bytesT at hb; rw [hti] at hb; simpa using hb
  have hzc' : zz.cells = #[z] := by apply Array.ext'; simpa using hzc
  subst hbz
  refine sw_do hg fun w hw => ?_
  have hb' : (ti.bytes : Int) * (q : Int) ≤ 281474976710656 := by
    have h : ((ti.bytes * q : Nat) : Int) ≤ 281474976710656 := by omega
    rwa [Int.natCast_mul] at h
  have hr := run_make (P := P) w t e ti zz (und_elemT he) hti hz2 ki kj (q : Int) (q : Int) (by omega) (Int.le_refl _) hb' (by omega)
  rw [hsz, hzc'] at hr
  simp only [Int.toNat_natCast, Nat.mul_one] at hr
  refine ⟨_, _, by simp only [execOp, hx, hy, Sem.run_bind, hr, Result.andThen_ok]; rfl, .inl ⟨_, rfl, f, _, ?_, k w.heap.size⟩⟩
  refine hw.new (e := .row (some ⟨w.heap.size, 0, none⟩) q q e 1 (List.replicate q z)) ?_ rfl
  refine ⟨by simp, .inr ⟨w.heap.size, q, _, rfl, Nat.zero_le _, heap_new _ _, Nat.le_refl _, by simp only [maxLen]; omega, by rw [size_madeCells, Nat.mul_one], ?_⟩⟩
  rw [toList_madeCells_one, Nat.mul_one]
  simp
/-- 'make([]T, 0, n)'. -/
theorem mkz {z : Value} {by_ : Nat} {i j : Int} {ki kj : IntKind} (q : Nat) (hlim : by_ * q ≤ 140737488355328 ∧ q ≤ 140737488355328) (k : ∀ b, RW .s P n B ops K l (up ρ d (.slice (some ⟨b, 0, none⟩) 0 q)) f (.row (some ⟨b, 0, none⟩) 0 q e 1 [] :: L))
    (hrun : runP P ops l0 ρ0 = (⟨some d, .makeSlice t x y, ty, pos, af, gd⟩ :: l, ρ) := by rfl) (hg : wantedE ops ρ ⟨some d, .makeSlice t x y, ty, pos, af, gd⟩ = true := by rfl)
    (hx : ev ρ x = .int ki i := by rfl) (hy : ev ρ y = .int kj j := by rfl) (he : elemT P t = some e := by rfl) (hz : sizeT P e = some 1 := by rfl) (hb : bytesT P e = some by_ := by rfl) (hzz : zeroT P e = some [z] := by rfl) (hi : i = 0 := by rfl) (hj : j = q := by rfl) : RW .s P n B ops K l0 ρ0 f L := by
  refine rw_runP l0 ρ0 ?_
  rw [hrun]
  subst hi hj
  obtain ⟨zz, hz1, hzc⟩ := Option.map_eq_some_iff.1 (show ((P.info? e).bind (·.zero)).map (·.cells.toList) = some [z] from hzz)
  obtain ⟨ti, hti, hz2⟩ := Option.bind_eq_some_iff.1 hz1
  have hsz : ti.size = 1 := by unfold sizeT at hz; rw [hti] at hz; simpa using hz
  have hbz : ti.bytes = by_ := by unfold bytesT at hb; rw [hti] at hb; simpa using hb
  subst hbz
  refine sw_do hg fun w hw => ?_
  have hb' : (ti.bytes : Int) * (q : Int) ≤ 281474976710656 := by
    have h : ((ti.bytes * q : Nat) : Int) ≤ 281474976710656 := by omega
    rwa [Int.natCast_mul] at h
  have hr := run_make (P := P) w t e ti zz (und_elemT he) hti hz2 ki kj 0 (q : Int) (Int.le_refl _) (by omega) hb' (by omega)
  rw [hsz] at hr
  simp only [Int.toNat_natCast, Int.toNat_zero, Nat.mul_one] at hr
  refine ⟨_, _, by simp only [execOp, hx, hy, Sem.run_bind, hr, Result.andThen_ok]; rfl, .inl ⟨_, rfl, f, _, ?_, k w.heap.size⟩⟩
  refine hw.new (e := .row (some ⟨w.heap.size, 0, none⟩) 0 q e 1 []) ?_ rfl
  exact ⟨by simp, .inr ⟨w.heap.size, q, _, rfl, Nat.zero_le _, heap_new _ _, Nat.zero_le _, by simp only [maxLen]; omega, by rw [size_madeCells, Nat.mul_one], by simp⟩⟩
end
end Go.Hog
