/- Proved: whatever items are handed in, OrderTells answers true, and the items read behind the call as they did before. No condition. -/
import Derived.Test.YtiahipbkheaafaaRows
import Derived.Test.YtiahipbkheaafaaG1
import Derived.Test.YtiahipbkheaafaaR1
import Derived.WalkKit
import Derived.ProofKit
import Derived.OpenShut
import Derived.ShutString
import Derived.ChangeOld
import Derived.Below
import Derived.SizedLaws
set_option linter.unusedVariables false
set_option maxRecDepth 100000
namespace Go.Hog
open Go.Proofs
theorem rStr : Rd Try.prog Str 9 := rdStr (by kernel_rfl)
theorem rStrs : Rd Try.prog (List Str) 25 := rdSl (e := 9) (by kernel_rfl) (by kernel_rfl) (by decide +kernel) rStr
theorem rNode : Rd Try.prog Node 59 := rdNode (t0 := 9) (t1 := 3) (t2 := 9) (by rfl) (by kernel_rfl) (by kernel_rfl) (by kernel_rfl) (by kernel_rfl) (by kernel_rfl) (by kernel_rfl) (by kernel_rfl) rStr (rdInt (by kernel_rfl)) rStr
theorem rNodes : Rd Try.prog (List Node) 31 := rdSl (e := 59) (by kernel_rfl) (by kernel_rfl) (by decide +kernel) rNode
theorem rItem : Rd Try.prog Item 33 := rdItem (t0 := 9) (t1 := 25) (t2 := 31) (by rfl) (by kernel_rfl) (by kernel_rfl) (by kernel_rfl) (by kernel_rfl) (by kernel_rfl) (by kernel_rfl) (by kernel_rfl) rStr rStrs rNodes
theorem rItems : Rd Try.prog (List Item) 22 := rdSl (e := 33) (by kernel_rfl) (by kernel_rfl) (by decide +kernel) rItem
theorem laidOut : laidOutB Try.prog = true := by kernel_rfl
theorem own : ownKnob Try.prog.godebug = none := by kernel_rfl
end Go.Hog
namespace Go.Proofs.Ytiahipbkheaafaa.orderTells
open Go.ChangeShapes Go.WideShapes Go.ChangeAt Go.RowKit Go.Hog
theorem lifted (os : Os) (started : os.Started) (H : Type) (enc : TypeId × Value → H) :
    ReturnsInHanded {} Try.checked os 3 .any (Rows.orderTellsSpec.pre6 enc Try.prog Try.f3 Rows.orderTellsRow.domain false) (Rows.orderTellsSpec.post enc Try.prog Try.f3 false true false false) := by
  refine returnsInHanded_of_change_sized (C := Try.checked) own started (by kernel_rfl) Try.func3
    (ChangeSpec.witness6 (enc := enc) (C := Try.checked) false ⟨#[], #[.slice none 0 0], []⟩ 8 (by kernel_rfl) (by kernel_rfl) (by kernel_rfl) (by kernel_rfl)) ?_
  intro W base args ds gs before hval0 hW hcnd hsz0 _
  have hsz : (DataW.weightsEach Try.prog (Try.f3.params.toList ++ Rows.orderTellsSpec.plain.varTypes Try.prog) (ds ++ gs)).all (· ≤ reachBytes) = true := hsz0
  have hval : ∀ (j : Nat) t v, Try.f3.params[j]? = some t → args[j]? = some v → Value.okWide Try.prog W .any base t v := hval0
  have hW' := hW
  obtain ⟨p, q, hA0, hV, rfl, hfz, hnd⟩ := hW
  have hA : DataW.TrodAll enc Try.prog W 0 (fun _ => true) true Try.f3.params.toList args.toList ds p := hA0
  rw [Try.params3] at hA hval hsz
  obtain ⟨v0, vs0, d0, ds0, p0, q0, hargs, rfl, rfl, h0, r0⟩ := trodAll_cons hA
  obtain ⟨rfl, rfl, rfl⟩ := trodAll_nil r0
  obtain rfl : args = #[v0] := by cases args; simp_all
  obtain ⟨rfl, rfl⟩ := trodVars_none hV
  obtain ⟨a0, len0, cap0, rfl⟩ := okWide_slice Try.underlying22 (hval 0 22 v0 rfl rfl)
  have k0 := h0
  have lt0 : ∀ x ∈ p0, x.block < W.heap.size := by obtain ⟨m, hm⟩ := k0; exact DataW.trod_lt m _ _ _ hm
  obtain ⟨fuel, hf⟩ := h0
  obtain ⟨l, A, c, hl, hsl⟩ := rItems enc W fuel _ _ hf (fun n hn => by
    have := List.all_eq_true.1 hsz n (weightsEach_mem (i := 0) (t := 22) (d := d0) rfl rfl hn)
    simpa using this)
  have hl2 : Value.slice a0 len0 cap0 = .slice A l.length c := by simpa [Value.cells] using hl
  injection hl2 with e1 e2 e3
  subst e1 e2 e3
  clear hA0 hval0 hsz0 hsz
  refine (orderTells (on_whole W) hsl).2.mono fun e W' hR => ?_
  obtain ⟨v, g, rfl, bel, _, _, _, rfl⟩ := hR
  exact ⟨_, rfl, _, _, _, [], _, [], hW', trodAll_mk1 (shut_bool Try.underlying4 _), (trodAll_cons_mk (Below.trod laidOut (by kernel_rfl) (of_decide_eq_true (by kernel_rfl)) k0 bel lt0) trodAll_mk0), rfl, bel.frame _, fun h => by cases h⟩
theorem over : Rows.orderTellsRow.holds Try.pinned (OpenSpec.ofChange Rows.orderTellsSpec) :=
  OpenClaim.holds_of_wide 3 Try.f3 rfl rfl rfl rfl rfl rfl rfl ⟨rfl, rfl, rfl, rfl, rfl⟩ rfl rfl rfl rfl rfl (by kernel_rfl) Try.func3 (by kernel_rfl)
    (of_decide_eq_true (by kernel_rfl)) (by unfold Func.isWrapper; first | (rw [if_pos (by decide +kernel)]; kernel_rfl) | (rw [if_neg (by decide +kernel)]; exact ⟨rfl, rfl⟩))
    (fun os started H enc _ => lifted os started H enc)
end Go.Proofs.Ytiahipbkheaafaa.orderTells
namespace Go.Proofs.Ytiahipbkheaafaa
theorem orderTells_holds : Rows.OrderTellsSaid := orderTells.over
#print axioms orderTells_holds
end Go.Proofs.Ytiahipbkheaafaa
