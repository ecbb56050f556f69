/- Proved: whatever is handed in, RelocTells answers true, and what was handed in reads behind the call as it did before. No condition. -/
import Derived.Test.YtdidefhdcinecaaGreatDoorRows
import Derived.Test.YtdidefhdcinecaaGreatDoorG32
import Derived.Test.YtdidefhdcinecaaGreatDoorR1
import Derived.Test.YtdidefhdcinecaaGreatDoorR3
import Derived.Test.YtdidefhdcinecaaGreatDoorCards
import Derived.Test.YtdidefhdcinecaaGreatDoorTie
import Derived.WalkKit
import Derived.ProofKit
import Derived.OpenShut
import Derived.ShutString
import Derived.ChangeOld
import Derived.Below
import Derived.SizedLaws
import Derived.HandedShaped
import Derived.LaidMore
import Derived.Stop.Joined
set_option linter.unusedVariables false
set_option linter.unusedSimpArgs false
set_option maxRecDepth 100000
namespace Go.Hog
open Go.Proofs
theorem rStr : Rd Tryz.prog Str 9 := rdStr (by kernel_rfl)
theorem rStrs : Rd Tryz.prog (List Str) 40 := rdSl (e := 9) (by kernel_rfl) (by kernel_rfl) (by decide +kernel) rStr
theorem rInt : Rd Tryz.prog Int 3 := rdInt (by kernel_rfl)
theorem rNode : Rd Tryz.prog Node 46 := rdNode (t0 := 9) (t1 := 3) (t2 := 9) (by rfl) (by kernel_rfl) (by kernel_rfl) (by kernel_rfl) (by kernel_rfl) (by kernel_rfl) (by kernel_rfl) (by kernel_rfl) rStr rInt rStr
theorem rNodes : Rd Tryz.prog (List Node) 42 := rdSl (e := 46) (by kernel_rfl) (by kernel_rfl) (by decide +kernel) rNode
theorem wItem : Rd Tryz.prog Item 44 := rdItem (t0 := 9) (t1 := 40) (t2 := 42) (by rfl) (by kernel_rfl) (by kernel_rfl) (by kernel_rfl) (by kernel_rfl) (by kernel_rfl) (by kernel_rfl) (by kernel_rfl) rStr rStrs rNodes
theorem rItems : Rd Tryz.prog (List Item) 22 := rdSl (e := 44) (by kernel_rfl) (by kernel_rfl) (by decide +kernel) wItem
theorem laidOut : laidOutB Tryz.prog = true := by kernel_rfl
theorem own : ownKnob Tryz.prog.godebug = none := by kernel_rfl
end Go.Hog
namespace Go.Proofs.YtdidefhdcinecaaGreatDoor.relocTells
open Go.ChangeShapes Go.WideShapes Go.ChangeAt Go.RowKit Go.Hog
def laidV := Rows.relocTellsRow.laid
noncomputable def laidW (os : Os) : World :=
  let w0 := World.holding Tryz.prog os ⟨#[], #[], []⟩
  let put (h : Array Obj) (g : Nat) (cs : Array Value) : Array Obj := h.modify g fun
    | .cells _ t frozen => .cells cs t frozen
    | o => o
  let h1 := put w0.heap 1 (Go.Pinned.utf8FirstZ.map fun (z : Nat) => Value.int .u8 z).toArray
  let h2 := put h1 2 (([128, 191, 160, 191, 128, 159, 144, 191, 128, 143] ++ List.replicate 22 0).map fun (z : Nat) => Value.int .u8 z).toArray
  { w0 with heap := h2 }
theorem door_met (os : Os) (args : Array Value) : laidMetH Tryz.prog laidV ((laidW os).forCall (fun _ _ => 0) ⟨#[], args, []⟩).memory :=
  laidMetH_of_parts3 (fuel := 8) (laidMet_of_run' 8 (by kernel_rfl) (by kernel_rfl)) (by kernel_rfl) (by kernel_rfl)
theorem lifted (os : Os) (started : os.Started) (H : Type) (enc : TypeId × Value → H) :
    ReturnsInHanded {} Tryz.checked os 3 .any (fun w args => (Rows.relocTellsSpec.pre enc Tryz.prog Tryz.f3 Rows.relocTellsRow.domain false w args ∧ laidMetH Tryz.prog laidV w) ∧ sizedMet enc Tryz.prog Tryz.f3 (OpenSpec.ofChange Rows.relocTellsSpec) false w args) (Rows.relocTellsSpec.post enc Tryz.prog Tryz.f3 false true false false) := by
  refine handed_laid (C := Tryz.checked) (X := fun w _ => laidMetH Tryz.prog laidV w) own started (by kernel_rfl) Tryz.func3
    (ChangeSpec.witness_shaped (enc := enc) (C := Tryz.checked) (os := os) (X := fun w _ => laidMetH Tryz.prog laidV w) false (laidW os) #[.string ⟨#[]⟩, .string ⟨#[]⟩, .string ⟨#[]⟩, .slice none 0 0] 8 rfl (World.shaped_of_RefB (by kernel_rfl) (by kernel_rfl)) (by kernel_rfl) (by kernel_rfl) (by kernel_rfl) (door_met os _)) ?_
  intro W base args ds gs before hval0 hW hcnd hsz0 hsh _
  have hsz : (DataW.weightsEach Tryz.prog (Tryz.f3.params.toList ++ Rows.relocTellsSpec.plain.varTypes Tryz.prog) (ds ++ gs)).all (· ≤ reachBytes) = true := hsz0
  have hval : ∀ (j : Nat) t v, Tryz.f3.params[j]? = some t → args[j]? = some v → Value.okWide Tryz.prog W .any base t v := hval0
  have hW' := hW
  obtain ⟨p, q, hA0, hV, rfl, hfz, hnd⟩ := hW
  have hA : DataW.TrodAll enc Tryz.prog W 0 (fun _ => true) true Tryz.f3.params.toList args.toList ds p := hA0
  rw [Tryz.params3] at hA hval hsz
  obtain ⟨v0, vs0, d0, ds0, p0, q0, hargs, rfl, rfl, h0, r0⟩ := trodAll_cons hA
  obtain ⟨v1, vs1, d1, ds1, p1, q1, rfl, rfl, rfl, h1, r1⟩ := trodAll_cons r0
  obtain ⟨v2, vs2, d2, ds2, p2, q2, rfl, rfl, rfl, h2, r2⟩ := trodAll_cons r1
  obtain ⟨v3, vs3, d3, ds3, p3, q3, rfl, rfl, rfl, h3, r3⟩ := trodAll_cons r2
  obtain ⟨rfl, rfl, rfl⟩ := trodAll_nil r3
  obtain rfl : args = #[v0, v1, v2, v3] := by cases args; simp_all
  obtain ⟨rfl, rfl⟩ := trodVars_none hV
  have k0 := h0
  have lt0 : ∀ x ∈ p0, x.block < W.heap.size := by obtain ⟨m, hm⟩ := k0; exact DataW.trod_lt m _ _ _ hm
  obtain ⟨fuel0, hf0⟩ := h0
  have hw0 : ∀ n ∈ d0.weights Tryz.prog 9, n ≤ reachBytes := fun n hn => by
    have := List.all_eq_true.1 hsz n (weightsEach_mem (i := 0) (t := 9) (d := d0) rfl rfl hn)
    simpa using this
  obtain ⟨⟨⟨s0⟩⟩, rfl⟩ := okWide_string Tryz.underlying9 (hval 0 9 v0 rfl rfl)
  obtain ⟨x0, hl0, hc0⟩ := rStr enc W fuel0 _ _ hf0 hw0
  obtain rfl : s0 = x0 := by simpa [Value.cells] using hl0
  have k1 := h1
  have lt1 : ∀ x ∈ p1, x.block < W.heap.size := by obtain ⟨m, hm⟩ := k1; exact DataW.trod_lt m _ _ _ hm
  obtain ⟨fuel1, hf1⟩ := h1
  have hw1 : ∀ n ∈ d1.weights Tryz.prog 9, n ≤ reachBytes := fun n hn => by
    have := List.all_eq_true.1 hsz n (weightsEach_mem (i := 1) (t := 9) (d := d1) rfl rfl hn)
    simpa using this
  obtain ⟨⟨⟨s1⟩⟩, rfl⟩ := okWide_string Tryz.underlying9 (hval 1 9 v1 rfl rfl)
  obtain ⟨x1, hl1, hc1⟩ := rStr enc W fuel1 _ _ hf1 hw1
  obtain rfl : s1 = x1 := by simpa [Value.cells] using hl1
  have k2 := h2
  have lt2 : ∀ x ∈ p2, x.block < W.heap.size := by obtain ⟨m, hm⟩ := k2; exact DataW.trod_lt m _ _ _ hm
  obtain ⟨fuel2, hf2⟩ := h2
  have hw2 : ∀ n ∈ d2.weights Tryz.prog 9, n ≤ reachBytes := fun n hn => by
    have := List.all_eq_true.1 hsz n (weightsEach_mem (i := 2) (t := 9) (d := d2) rfl rfl hn)
    simpa using this
  obtain ⟨⟨⟨s2⟩⟩, rfl⟩ := okWide_string Tryz.underlying9 (hval 2 9 v2 rfl rfl)
  obtain ⟨x2, hl2, hc2⟩ := rStr enc W fuel2 _ _ hf2 hw2
  obtain rfl : s2 = x2 := by simpa [Value.cells] using hl2
  have k3 := h3
  have lt3 : ∀ x ∈ p3, x.block < W.heap.size := by obtain ⟨m, hm⟩ := k3; exact DataW.trod_lt m _ _ _ hm
  obtain ⟨fuel3, hf3⟩ := h3
  have hw3 : ∀ n ∈ d3.weights Tryz.prog 22, n ≤ reachBytes := fun n hn => by
    have := List.all_eq_true.1 hsz n (weightsEach_mem (i := 3) (t := 22) (d := d3) rfl rfl hn)
    simpa using this
  obtain ⟨a3, len3, cap3, rfl⟩ := okWide_slice Tryz.underlying22 (hval 3 22 v3 rfl rfl)
  obtain ⟨l3, A3, c3, hl3, hc3⟩ := rItems enc W fuel3 _ _ hf3 hw3
  obtain ⟨e3a, e3b, e3c⟩ : a3 = A3 ∧ len3 = l3.length ∧ cap3 = c3 := by simpa [Value.cells] using hl3
  subst e3a e3b e3c
  clear hA0 hval0 hsz0 hsz
  refine (relocTellsT (on_whole W) (ML.ofShape hsh) hc0 hc1 hc2 hc3).2.mono fun e W' hR => ?_
  obtain ⟨v, g, rfl, bel, _, _, _, rfl⟩ := hR
  exact ⟨_, rfl, _, _, _, [], _, [], hW', trodAll_mk1 (shut_bool Tryz.underlying4 _), (trodAll_cons_mk (Below.trod laidOut (by kernel_rfl) (of_decide_eq_true (by kernel_rfl)) k0 bel lt0) (trodAll_cons_mk (Below.trod laidOut (by kernel_rfl) (of_decide_eq_true (by kernel_rfl)) k1 bel lt1) (trodAll_cons_mk (Below.trod laidOut (by kernel_rfl) (of_decide_eq_true (by kernel_rfl)) k2 bel lt2) (trodAll_cons_mk (Below.trod laidOut (by kernel_rfl) (of_decide_eq_true (by kernel_rfl)) k3 bel lt3) trodAll_mk0)))), rfl, bel.frame _, fun h => by cases h⟩
theorem over : Rows.relocTellsRow.holds Tryz.pinned (OpenSpec.ofChange Rows.relocTellsSpec) :=
  OpenClaim.holds_of_wide 3 Tryz.f3 rfl rfl rfl rfl rfl rfl rfl ⟨rfl, rfl, rfl, rfl, rfl⟩ rfl rfl rfl rfl rfl (by kernel_rfl) Tryz.func3 (by kernel_rfl)
    (of_decide_eq_true (by kernel_rfl)) (by unfold Func.isWrapper; first | (rw [if_pos (by decide +kernel)]; kernel_rfl) | (rw [if_neg (by decide +kernel)]; exact ⟨rfl, rfl⟩))
    (fun os started H enc _ => lifted os started H enc)
end Go.Proofs.YtdidefhdcinecaaGreatDoor.relocTells
namespace Go.Proofs.YtdidefhdcinecaaGreatDoor
theorem relocTells_holds : Rows.RelocTellsSaid := relocTells.over
theorem relocTellsCard_holds : Rows.RelocTellsCardSaid :=
  Claim7.holds_tied_plain_at .later [] [.data, .pinned] true Rows.relocTellsCard.stood.harness false
    relocTells_holds (fun _ h => by cases h) (by kernel_rfl) (fun _ h => by cases h) relocTells_row_tie rfl ⟨rfl, rfl⟩ (by kernel_rfl) rfl
    (fun f fn hf hfn => by
      obtain rfl : f = 3 := Option.some.inj ((show Tryz.prog.funcNamed "hogshead/hogsheadlaw25.RelocTells" = some 3 by kernel_rfl).symm.trans hf) |>.symm
      obtain rfl : fn = Tryz.f3 := (Option.some.inj (Tryz.func3.symm.trans hfn)).symm
      exact ⟨by kernel_rfl, fun j t ht => by
        rw [Tryz.params3] at ht
        have hm : t ∈ [9, 9, 9, 22] := by simpa using Array.mem_of_getElem? ht
        have hall : ([9, 9, 9, 22].all fun u => !Tryz.prog.wantsStandIn u) = true := by kernel_rfl
        exact (show Tryz.prog.wantsStandIn t = false by simpa using List.all_eq_true.1 hall t hm)⟩)
    (by kernel_rfl)
#print axioms relocTellsCard_holds
end Go.Proofs.YtdidefhdcinecaaGreatDoor
