/- Proved: whatever is handed in, RegBack answers true, and what was handed in reads behind the call as it did before. No condition. -/
import Derived.Test.YthaleeajeibgeaaRows
import Derived.Test.YthaleeajeibgeaaG22
import Derived.Test.YthaleeajeibgeaaR2
import Derived.WalkKit
import Derived.ProofKit
import Derived.OpenShut
import Derived.ShutString
import Derived.ChangeOld
import Derived.Below
import Derived.SizedLaws
import Derived.HandedShaped
set_option linter.unusedVariables false
set_option linter.unusedSimpArgs false
set_option maxRecDepth 100000
namespace Go.Hog
open Go.Proofs
theorem rStr : Rd Try.prog Str 9 := rdStr (by kernel_rfl)
theorem rStrs : Rd Try.prog (List Str) 23 := rdSl (e := 9) (by kernel_rfl) (by kernel_rfl) (by decide +kernel) rStr
theorem rInt : Rd Try.prog Int 3 := rdInt (by kernel_rfl)
theorem rNode : Rd Try.prog Node 85 := rdNode (t0 := 9) (t1 := 3) (t2 := 9) (by rfl) (by kernel_rfl) (by kernel_rfl) (by kernel_rfl) (by kernel_rfl) (by kernel_rfl) (by kernel_rfl) (by kernel_rfl) rStr rInt rStr
theorem rNodes : Rd Try.prog (List Node) 45 := rdSl (e := 85) (by kernel_rfl) (by kernel_rfl) (by decide +kernel) rNode
theorem wItem : Rd Try.prog Item 47 := rdItem (t0 := 9) (t1 := 23) (t2 := 45) (by rfl) (by kernel_rfl) (by kernel_rfl) (by kernel_rfl) (by kernel_rfl) (by kernel_rfl) (by kernel_rfl) (by kernel_rfl) rStr rStrs rNodes
theorem rItems : Rd Try.prog (List Item) 22 := rdSl (e := 47) (by kernel_rfl) (by kernel_rfl) (by decide +kernel) wItem
theorem rPack : Rd Try.prog Pack 25 := rdPack (t0 := 9) (t1 := 22) (t2 := 23) (t3 := 3) (by rfl) (by kernel_rfl) (by kernel_rfl) (by kernel_rfl) (by kernel_rfl) (by kernel_rfl) (by kernel_rfl) (by kernel_rfl) (by kernel_rfl) (by kernel_rfl) rStr rItems rStrs rInt
theorem laidOut : laidOutB Try.prog = true := by kernel_rfl
theorem own : ownKnob Try.prog.godebug = none := by kernel_rfl
end Go.Hog
namespace Go.Proofs.Ythaleeajeibgeaa.regBack
open Go.ChangeShapes Go.WideShapes Go.ChangeAt Go.RowKit Go.Hog
theorem lifted (os : Os) (started : os.Started) (H : Type) (enc : TypeId × Value → H) :
    ReturnsInHanded {} Try.checked os 5 .any (Rows.regBackSpec.pre6 enc Try.prog Try.f5 Rows.regBackRow.domain false) (Rows.regBackSpec.post enc Try.prog Try.f5 false true false false) := by
  refine returnsInHanded_of_change_shaped (C := Try.checked) own started (by kernel_rfl) Try.func5
    (ChangeSpec.witness6 (enc := enc) (C := Try.checked) false ⟨#[], #[.agg #[.string ⟨#[]⟩, .slice none 0 0, .slice none 0 0, .int .i64 0], .string ⟨#[]⟩, .int .i64 0], []⟩ 8 (by kernel_rfl) (by kernel_rfl) (by kernel_rfl) (by kernel_rfl)) ?_
  intro W base args ds gs before hval0 hW hcnd hsz0 hsh _
  have hsz : (DataW.weightsEach Try.prog (Try.f5.params.toList ++ Rows.regBackSpec.plain.varTypes Try.prog) (ds ++ gs)).all (· ≤ reachBytes) = true := hsz0
  have hval : ∀ (j : Nat) t v, Try.f5.params[j]? = some t → args[j]? = some v → Value.okWide Try.prog W .any base t v := hval0
  have hW' := hW
  obtain ⟨p, q, hA0, hV, rfl, hfz, hnd⟩ := hW
  have hA : DataW.TrodAll enc Try.prog W 0 (fun _ => true) true Try.f5.params.toList args.toList ds p := hA0
  rw [Try.params5] at hA hval hsz
  obtain ⟨v0, vs0, d0, ds0, p0, q0, hargs, rfl, rfl, h0, r0⟩ := trodAll_cons hA
  obtain ⟨v1, vs1, d1, ds1, p1, q1, rfl, rfl, rfl, h1, r1⟩ := trodAll_cons r0
  obtain ⟨v2, vs2, d2, ds2, p2, q2, rfl, rfl, rfl, h2, r2⟩ := trodAll_cons r1
  obtain ⟨rfl, rfl, rfl⟩ := trodAll_nil r2
  obtain rfl : args = #[v0, v1, v2] := by cases args; simp_all
  obtain ⟨rfl, rfl⟩ := trodVars_none hV
  have k0 := h0
  have lt0 : ∀ x ∈ p0, x.block < W.heap.size := by obtain ⟨m, hm⟩ := k0; exact DataW.trod_lt m _ _ _ hm
  obtain ⟨fuel0, hf0⟩ := h0
  have hw0 : ∀ n ∈ d0.weights Try.prog 25, n ≤ reachBytes := fun n hn => by
    have := List.all_eq_true.1 hsz n (weightsEach_mem (i := 0) (t := 25) (d := d0) rfl rfl hn)
    simpa using this
  obtain ⟨⟨cs0⟩, rfl, _⟩ := okWide_struct Try.underlying25 (hval 0 25 v0 rfl rfl)
  obtain ⟨x0, hc0⟩ := rPack enc W fuel0 _ _ hf0 hw0
  have hc0 : Rp.rp (whole W) x0 cs0 := hc0
  have k1 := h1
  have lt1 : ∀ x ∈ p1, x.block < W.heap.size := by obtain ⟨m, hm⟩ := k1; exact DataW.trod_lt m _ _ _ hm
  obtain ⟨fuel1, hf1⟩ := h1
  have hw1 : ∀ n ∈ d1.weights Try.prog 9, n ≤ reachBytes := fun n hn => by
    have := List.all_eq_true.1 hsz n (weightsEach_mem (i := 1) (t := 9) (d := d1) rfl rfl hn)
    simpa using this
  obtain ⟨⟨⟨s1⟩⟩, rfl⟩ := okWide_string Try.underlying9 (hval 1 9 v1 rfl rfl)
  obtain ⟨x1, hl1, hc1⟩ := rStr enc W fuel1 _ _ hf1 hw1
  obtain rfl : s1 = x1 := by simpa [Value.cells] using hl1
  have k2 := h2
  have lt2 : ∀ x ∈ p2, x.block < W.heap.size := by obtain ⟨m, hm⟩ := k2; exact DataW.trod_lt m _ _ _ hm
  obtain ⟨fuel2, hf2⟩ := h2
  have hw2 : ∀ n ∈ d2.weights Try.prog 3, n ≤ reachBytes := fun n hn => by
    have := List.all_eq_true.1 hsz n (weightsEach_mem (i := 2) (t := 3) (d := d2) rfl rfl hn)
    simpa using this
  obtain ⟨n2, rfl⟩ := okWide_int Try.underlying3 (hval 2 3 v2 rfl rfl)
  obtain ⟨x2, hl2, hc2⟩ := rInt enc W fuel2 _ _ hf2 hw2
  obtain rfl : n2 = x2 := by simpa [Value.cells] using hl2
  clear hA0 hval0 hsz0 hsz
  refine (regBack (on_whole W) (ML.ofShape hsh) hc0 hc1 hc2).2.mono fun e W' hR => ?_
  obtain ⟨v, g, rfl, bel, _, _, _, rfl⟩ := hR
  exact ⟨_, rfl, _, _, _, [], _, [], hW', trodAll_mk1 (shut_bool Try.underlying4 _), (trodAll_cons_mk (Below.trod laidOut (by kernel_rfl) (of_decide_eq_true (by kernel_rfl)) k0 bel lt0) (trodAll_cons_mk (Below.trod laidOut (by kernel_rfl) (of_decide_eq_true (by kernel_rfl)) k1 bel lt1) (trodAll_cons_mk (Below.trod laidOut (by kernel_rfl) (of_decide_eq_true (by kernel_rfl)) k2 bel lt2) trodAll_mk0))), rfl, bel.frame _, fun h => by cases h⟩
theorem over : Rows.regBackRow.holds Try.pinned (OpenSpec.ofChange Rows.regBackSpec) :=
  OpenClaim.holds_of_wide 5 Try.f5 rfl rfl rfl rfl rfl rfl rfl ⟨rfl, rfl, rfl, rfl, rfl⟩ rfl rfl rfl rfl rfl (by kernel_rfl) Try.func5 (by kernel_rfl)
    (of_decide_eq_true (by kernel_rfl)) (by unfold Func.isWrapper; first | (rw [if_pos (by decide +kernel)]; kernel_rfl) | (rw [if_neg (by decide +kernel)]; exact ⟨rfl, rfl⟩))
    (fun os started H enc _ => lifted os started H enc)
end Go.Proofs.Ythaleeajeibgeaa.regBack
namespace Go.Proofs.Ythaleeajeibgeaa
theorem regBack_holds : Rows.RegBackSaid := regBack.over
#print axioms regBack_holds
end Go.Proofs.Ythaleeajeibgeaa
