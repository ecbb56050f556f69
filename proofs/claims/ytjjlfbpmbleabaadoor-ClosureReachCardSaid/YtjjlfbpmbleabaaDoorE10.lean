/- The engine, part 10: much frozen at once, two results. -/
import Derived.Test.YtjjlfbpmbleabaaDoorE9
set_option linter.unusedVariables false
set_option linter.unusedSimpArgs false
namespace Go.Hog
open Go.RowKit Rp
section
variable {P : Program} {n : Nat} {B : Bs} {f : View} {L L1 L2 : List HE} {ρ : Env} {Q : Post} {K : Kon} {ops : Array Oper} {l : List Oper} {w : World}
theorem St.freezeAll (h : St B f (L1 ++ L2) w) (hX : B.X = []) : St B (withOwn w f L2) L1 w ∧ Sub f (withOwn w f L2) ∧ ∀ e ∈ L2, e.seen (withOwn w f L2) := by
  have h2 : St B f L2 w := h.sublist (List.sublist_append_right _ _)
  have h1 : St B f L1 w := h.sublist (List.sublist_append_left _ _)
  refine ⟨⟨h.os, h.tape, h.output, h.size, h.keep, h.ext.trans (withOwn_sub h2), fun i hi => ?_, withOwn_on h2, h1.own, h1.mine, fun e he b hb => ?_, h1.apart⟩, withOwn_sub h2, withOwn_seen h2⟩
  · unfold withOwn
    rw [if_neg]
    · exact h.old i hi
    · rintro ⟨e, he, hb⟩
      rcases h2.mine e he i hb with h3 | h3
      · omega
      · rw [hX] at h3; cases h3
  · unfold withOwn
    rw [if_neg]
    · exact h1.off e he b hb
    · rintro ⟨e2, he2, hb2⟩
      exact (List.pairwise_append.1 h.apart).2.2 e he e2 he2 b hb hb2
theorem efrzA (L1 L2 : List HE) (hp : L.Perm (L1 ++ L2)) {co : Code} (k : ∀ g, Sub f g → (∀ e ∈ L2, e.seen g) → EW P n B co Q ρ g L1) (hX : B.X = [] := by rfl) : EW P n B co Q ρ f L :=
  ⟨fun w hw a ha hok => let ⟨h1, h2, h3⟩ := (hw.perm hp).freezeAll hX; (k _ h2 h3).out w h1 a ha hok⟩
theorem rfrzA (L1 L2 : List HE) (hp : L.Perm (L1 ++ L2)) (k : ∀ g, Sub f g → (∀ e ∈ L2, e.seen g) → RW .s P n B ops K l ρ g L1) (hX : B.X = [] := by rfl) : RW .s P n B ops K l ρ f L :=
  ⟨fun w hw a ha hok => let ⟨h1, h2, h3⟩ := (hw.perm hp).freezeAll hX; SW.out (k _ h2 h3) w h1 a ha hok⟩
variable {fn : Func} {w0 : World} {f0 : View} {L0 : List HE} {R : View → List HE → Value → Prop}
theorem ret2M {t u : Nat} {v1 v2 : Value} (hR : R f L (.tuple #[v1, v2])) (hr : fn.results = #[.tmp t, .tmp u] := by rfl) (h1 : ρ t = v1 := by rfl) (h2 : ρ u = v2 := by rfl) : retQ P fn ⟨w0, f0, fps L0⟩ (RetM w0 f0 L0 R) .ret ρ f L := by
  intro w hw tmps htm
  have a1 := htm t
  have a2 := htm u
  rw [h1] at a1
  rw [h2] at a2
  refine ⟨_, ?_, _, _, _, rfl, hw, hR⟩
  simp [results, hr]
  simp at a1 a2
  exact ⟨a1, a2⟩
/-- An empty slice's literal. -/
theorem bsl0 {d : Nat} {l0 : List Oper} {ρ0 : Env} {t ty e : TypeId} {pos : String} {af : Array Edge} {gd : Option (Nat × Bool)} {sz : Nat} (k : ∀ b, RW .s P n B ops K l (up ρ d (.slice (some ⟨b, 0, none⟩) 0 0)) f (.row (some ⟨b, 0, none⟩) 0 0 e sz [] :: L)) (hrun : runP P ops l0 ρ0 = (⟨some d, .buildSlice t 0 ⟨[]⟩, ty, pos, af, gd⟩ :: l, ρ) := by rfl) (hg : wantedE ops ρ ⟨some d, .buildSlice t 0 ⟨[]⟩, ty, pos, af, gd⟩ = true := by rfl)
    (he : elemT P t = some e := by rfl) (hz : sizeT P e = some sz := by rfl) : RW .s P n B ops K l0 ρ0 f L := by
  refine rw_runP l0 ρ0 ?_
  rw [hrun]
  refine sw_do hg fun w hw => ⟨_, w.alloc (.cells ⟨[]⟩ e), ?_, .inl ⟨_, rfl, f, _, ?_, k w.heap.size⟩⟩
  · simp [execOp, Instr.buildSlice, run_und (und_elemT he), run_sizeT hz, Instr.fill, newRow]
    congr 2
    apply Array.ext'
    simp
  · exact hw.new (e := .row (some ⟨w.heap.size, 0, none⟩) 0 0 e sz []) ⟨by simp, .inr ⟨w.heap.size, 0, ⟨[]⟩, rfl, Nat.zero_le _, heap_new _ _, Nat.le_refl _, Nat.zero_le _, by simp, by simp⟩⟩ rfl
theorem blk_seen {g : View} {b : Nat} {cs : List Value} {e : TypeId} {k : Nat} {v : Value} (h : (HE.blk b (.cells ⟨cs⟩ e)).seen g) (hc : cs[k]? = some v := by rfl) : g.cell? ⟨b, k, none⟩ = some v := by
  have h' : g b = some (.cells ⟨cs⟩ e) := h
  simp only [View.cell?, h']
  simpa using hc
theorem eeq {co : Code} {L' : List HE} (h : L = L') (k : EW P n B co Q ρ f L') : EW P n B co Q ρ f L := h ▸ k
theorem eperm {co : Code} {L' : List HE} (hp : L.Perm L') (k : EW P n B co Q ρ f L') : EW P n B co Q ρ f L := ewL (fun _ h => h.perm hp) k
theorem rperm {L' : List HE} (hp : L.Perm L') (k : RW .s P n B ops K l ρ f L') : RW .s P n B ops K l ρ f L := rwL (fun _ h => h.perm hp) k
end
end Go.Hog
