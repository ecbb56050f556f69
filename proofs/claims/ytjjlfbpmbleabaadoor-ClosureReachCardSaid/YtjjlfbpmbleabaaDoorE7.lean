/- The engine, part 7: calls that answer a bool; calls that write in what they are given; stores into rows; results in memory. -/
import Derived.Test.YtjjlfbpmbleabaaDoorE6
set_option linter.unusedVariables false
set_option linter.unusedSimpArgs false
namespace Go.Hog
open Go.RowKit Rp
section
variable {P : Program} {n : Nat} {B : Bs} {f : View} {L : List HE} {ρ : Env} {Q : Post} {K : Kon} {ops : Array Oper} {m : Md} {l l0 : List Oper} {ρ0 : Env}
variable {d : Nat} {x y : Operand} {t ty e : TypeId} {pos : String} {af : Array Edge} {gd : Option (Nat × Bool)} {b o : Nat} {v : Value} {vs cs : List Value}
theorem callB {k : Nat} {args : Array Operand} {at_ : Array TypeId} {p : Prop} [Decidable p] (h : ∀ w g, Sub f g → (∀ e ∈ L, e.seen g) → On g w → Con P k vs w (Ret w g fun _ v' => v' = .bool (decide p)))
    (T : p → RW m P n B ops K l (up ρ d (.bool true)) f L) (F : ¬ p → RW m P n B ops K l (up ρ d (.bool false)) f L)
    (hrun : runP P ops l0 ρ0 = (⟨some d, .call ⟨.value (.func k), args, at_⟩, ty, pos, af, gd⟩ :: l, ρ) := by rfl) (hg : wantedE ops ρ ⟨some d, .call ⟨.value (.func k), args, at_⟩, ty, pos, af, gd⟩ = true := by rfl) (ha : args.toList.map (ev ρ) = vs := by rfl) (hcm : m.calls = true := by rfl) :
    RW m P n B ops K l0 ρ0 f L := by
  by_cases hp : p
  · simp only [decide_eq_true hp] at h
    exact callV (.bool true) h (T hp) hrun hg ha hcm
  · simp only [decide_eq_false hp] at h
    exact callV (.bool false) h (F hp) hrun hg ha hcm
theorem callBE {k : Nat} {args : Array Operand} {at_ : Array TypeId} {p : Prop} [Decidable p] {ρT ρF : Env} (h : ∀ w g, Sub f g → (∀ e ∈ L, e.seen g) → On g w → Con P k vs w (Ret w g fun _ v' => v' = .bool (decide p)))
    (T : p → K ρT f L) (F : ¬ p → K ρF f L)
    (hrun : runP P ops l0 ρ0 = (⟨some d, .call ⟨.value (.func k), args, at_⟩, ty, pos, af, gd⟩ :: l, ρ) := by rfl) (hg : wantedE ops ρ ⟨some d, .call ⟨.value (.func k), args, at_⟩, ty, pos, af, gd⟩ = true := by rfl) (ha : args.toList.map (ev ρ) = vs := by rfl)
    (hT : runP P ops l (up ρ d (.bool true)) = ([], ρT) := by rfl) (hF : runP P ops l (up ρ d (.bool false)) = ([], ρF) := by rfl) (hcm : m.calls = true := by rfl) :
    RW m P n B ops K l0 ρ0 f L := callB h (fun h => runE (T h) hT) (fun h => runE (F h) hF) hrun hg ha hcm
/-- After a call that writes in the entries L1, the others stand as they did. -/
theorem St.merge {w w' : World} {L1 L2 L' : List HE} {g : View} (hw : St B f (L1 ++ L2) w) (h : St ⟨w, f, fps L1⟩ g L' w') : St B g (L' ++ L2) w' := by
  have hap := List.pairwise_append.1 hw.apart
  have hin : ∀ b, b ∈ fps L1 → b < w.heap.size ∧ (B.w.heap.size ≤ b ∨ b ∈ B.X) := fun b hb => by
    obtain ⟨e, he, hfp⟩ := List.mem_filterMap.1 hb
    exact ⟨hw.fp (List.mem_append_left _ he) hfp, hw.mine e (List.mem_append_left _ he) b hfp⟩
  have hL2 : ∀ e ∈ L2, ∀ b, e.fp = some b → b < w.heap.size ∧ b ∉ fps L1 := fun e he b hb => ⟨hw.fp (List.mem_append_right _ he) hb, fun hb' => by
    obtain ⟨e1, he1, hfp⟩ := List.mem_filterMap.1 hb'
    exact hap.2.2 e1 he1 e he b hfp hb⟩
  refine ⟨h.os.trans hw.os, h.tape.trans hw.tape, h.output.trans hw.output, Nat.le_trans hw.size h.size, fun i hi hX => (h.keep i (Nat.lt_of_lt_of_le hi hw.size) fun hi' => ?_).trans (hw.keep i hi hX),
    hw.ext.trans h.ext, fun i hi => (h.old i (Nat.lt_of_lt_of_le hi hw.size)).trans (hw.old i hi), h.on, ?_, ?_, ?_, ?_⟩
  · rcases (hin i hi').2 with h1 | h1
    · omega
    · exact hX h1
  · intro e he
    rcases List.mem_append.1 he with he | he
    · exact h.own e he
    · exact HE.holds_of (hw.own e (List.mem_append_right _ he)) fun b hb => h.keep b (hL2 e he b hb).1 (hL2 e he b hb).2
  · intro e he b hb
    rcases List.mem_append.1 he with he | he
    · rcases h.mine e he b hb with h1 | h1
      · exact .inl (Nat.le_trans hw.size h1)
      · exact (hin b h1).2
    · exact hw.mine e (List.mem_append_right _ he) b hb
  · intro e he b hb
    rcases List.mem_append.1 he with he | he
    · exact h.off e he b hb
    · rw [h.old b (hL2 e he b hb).1]
      exact hw.off e (List.mem_append_right _ he) b hb
  · refine List.pairwise_append.2 ⟨h.apart, hap.2.1, fun e he e2 he2 b hb hb2 => ?_⟩
    have h2 := hL2 e2 he2 b hb2
    rcases h.mine e he b hb with h1 | h1
    · have h3 : w.heap.size ≤ b := h1
      omega
    · exact h2.2 h1
theorem St.given {w : World} {L1 L2 : List HE} (hw : St B f (L1 ++ L2) w) : Given f L1 w :=
  ⟨fun e he => hw.own e (List.mem_append_left _ he), fun e he => hw.off e (List.mem_append_left _ he), (List.pairwise_append.1 hw.apart).1⟩
/-- A call that writes in the first entries L1. -/
theorem callM (L1 L2 : List HE) {k : Nat} {args : Array Operand} {at_ : Array TypeId} {R : View → List HE → Value → Prop} (h : ∀ w, On f w → Given f L1 w → Con P k vs w (RetM w f L1 R))
    (kk : ∀ v g L', Sub f g → R g L' v → RW .s P n B ops K l (up ρ d v) g (L' ++ L2))
    (hrun : runP P ops l0 ρ0 = (⟨some d, .call ⟨.value (.func k), args, at_⟩, ty, pos, af, gd⟩ :: l, ρ) := by rfl) (hg : wantedE ops ρ ⟨some d, .call ⟨.value (.func k), args, at_⟩, ty, pos, af, gd⟩ = true := by rfl) (ha : args.toList.map (ev ρ) = vs := by rfl) :
    RW .s P n B ops K l0 ρ0 f (L1 ++ L2) := by
  refine rw_runP l0 ρ0 ?_
  rw [hrun]
  refine ⟨fun w hw => ?_⟩
  have hcf := (h w hw.on hw.given).1
  refine SW.out (sw_call (args := ⟨vs⟩) hg (fun w' => run_callf hcf ha w') fun w hw => ?_) w hw
  refine (h w hw.on hw.given).2.mono ?_
  rintro en w' ⟨v, g, L', rfl, hs, hR⟩
  exact ⟨v, g, L' ++ L2, rfl, hw.merge hs, kk v g L' hs.ext hR⟩
variable {fn : Func} {w0 : World} {f0 : View} {L0 : List HE} {R : View → List HE → Value → Prop}
theorem ret0M (hR : R f L (.tuple #[])) (hr : fn.results = #[] := by rfl) : retQ P fn ⟨w0, f0, fps L0⟩ (RetM w0 f0 L0 R) .normal ρ f L := by
  intro w hw tmps htm
  exact ⟨.tuple #[], by simp [results, hr], _, _, _, rfl, hw, hR⟩
theorem ret1M {t : Nat} (hR : R f L v) (hr : fn.results = #[.tmp t] := by rfl) (hv : ρ t = v := by rfl) : retQ P fn ⟨w0, f0, fps L0⟩ (RetM w0 f0 L0 R) .ret ρ f L := by
  intro w hw tmps htm
  have := htm t
  rw [hv] at this
  exact ⟨v, by simp [results, hr]; simpa using this, _, _, _, rfl, hw, hR⟩
/-- Entries may go, at the end. -/
theorem postL {L' : List HE} {R' : Ending → World → Prop} (hs : ∀ w, St B f L w → St B f L' w) (h : retQ P fn B R' .normal ρ f L') : retQ P fn B R' .normal ρ f L := fun w hw => h w (hs w hw)
theorem postLr {L' : List HE} {R' : Ending → World → Prop} (hs : ∀ w, St B f L w → St B f L' w) (h : retQ P fn B R' .ret ρ f L') : retQ P fn B R' .ret ρ f L := fun w hw => h w (hs w hw)

/-! ### Stores into own rows -/
theorem putL_length : ∀ (vs cs : List Value) (o : Nat), o + vs.length ≤ cs.length → (putL cs o vs).length = cs.length := by
  intro vs cs o h
  rw [← putL_eq _ _ _ h]
  simp
  omega
theorem putL_take : ∀ (vs cs : List Value) (o k : Nat), o + vs.length ≤ k → k ≤ cs.length → (putL cs o vs).take k = putL (cs.take k) o vs := by
  intro vs cs o k h1 h2
  rw [← putL_eq _ _ _ (by omega), ← putL_eq _ _ _ (by rw [List.length_take]; omega)]
  rw [List.take_append, List.take_take, List.drop_take]
  simp only [List.length_append, List.length_take]
  rw [Nat.min_eq_left (by omega : o ≤ cs.length), Nat.min_eq_left (by omega : o ≤ k)]
  congr 1
  rw [List.take_of_length_le (by simp; omega)]
/-- A store into an own row (entry i). -/
theorem stR (i : Nat) {nn c sz : Nat} {xs : List Value} (hl : o + vs.length ≤ xs.length) (k : RW .s P n B ops K l ρ f (L.set i (.row (some ⟨b, 0, none⟩) nn c e sz (putL xs o vs))))
    (hrun : runP P ops l0 ρ0 = (⟨none, .store t x y, ty, pos, af, gd⟩ :: l, ρ) := by rfl) (hg : wantedE ops ρ ⟨none, .store t x y, ty, pos, af, gd⟩ = true := by rfl) (hi : L[i]? = some (.row (some ⟨b, 0, none⟩) nn c e sz xs) := by rfl)
    (hx : ev ρ x = .pointer (some ⟨b, o, none⟩) := by rfl) (hy : (ev ρ y).cells = ⟨vs⟩ := by rfl) (hz : sizeT P t = some vs.length := by rfl) (h1 : onesB vs = true := by rfl) : RW .s P n B ops K l0 ρ0 f L := by
  refine rw_runP l0 ρ0 ?_
  rw [hrun]
  refine sw_do hg fun w hw => ?_
  have hown : w.ownsRow 0 e sz (.slice (some ⟨b, 0, none⟩) nn c) nn xs := hw.own _ (List.mem_of_getElem? hi)
  obtain ⟨h2, h3⟩ := hown
  rcases h3 with ⟨h3, _⟩ | ⟨g, cap, cur, hv, hg', hh, r1, r2, r3, r4⟩
  · injection h3 with h3; cases h3
  injection hv with hv _ hc
  injection hv with hv
  injection hv with hv
  subst hv hc
  have hcl : xs.length ≤ cur.toList.length := by rw [← r4, List.length_take]; omega
  have hst := run_storeCells_at P b o e vs 0 cur w hh (Nat.le_trans hl hcl) (onesB_spec h1)
  simp only [Nat.add_zero] at hst
  have e2 : (cur.toList.take o ++ vs ++ cur.toList.drop (o + vs.length)) = putL cur.toList o vs := putL_eq _ _ _ (by omega)
  rw [e2] at hst
  refine ⟨_, w.setRow b ⟨putL cur.toList o vs⟩, ?_, .inr ⟨rfl, f, _, ?_, k⟩⟩
  · simp [execOp, Instr.storeAt, hx, Instr.sureAddr, storeVar, run_sizeT hz, hy, hst]
  · refine hw.set hi rfl rfl rfl (by simp [World.setRow]) (fun k' _ hk' => setRow_other w b k' _ (fun e0 => hk' (by rw [e0]; rfl))) ⟨?_, .inr ⟨b, c, _, rfl, Nat.zero_le _, setRow_heap w b cur _ e _ hh, r1, r2, ?_, ?_⟩⟩ (fun b' hb' => .inl hb')
    · rw [putL_length _ _ _ hl]; exact h2
    · simp [putL_length _ _ _ (Nat.le_trans hl hcl)]; exact r3
    · rw [putL_take _ _ _ _ (by rw [← h2]; exact hl) (by rw [← h2]; exact hcl), r4]

/-! ### Results in memory -/
theorem retA2 {R : View → Value → Prop} (i : Nat) {a u : Nat} {ta : TypeId} (hR : R f (.tuple #[.agg ⟨cs⟩, v])) (hr : fn.results = #[.cell a ta, .tmp u] := by rfl) (h1 : ρ a = .pointer (some ⟨b, 0, none⟩) := by rfl) (hi : L[i]? = some (.blk b (.cells ⟨cs⟩ e)) := by rfl)
    (h2 : ρ u = v := by rfl) (ht : aggT P ta = some true := by rfl) (hz : sizeT P ta = some cs.length := by rfl) : retQ P fn ⟨w0, f0, []⟩ (Ret w0 f0 R) .ret ρ f L := by
  intro w hw tmps htm
  have a1 := htm a
  have a2 := htm u
  rw [h1] at a1
  rw [h2] at a2
  refine ⟨_, ?_, hw.ret hR⟩
  have hl := run_loadVarA (P := P) (w := w) (a := ⟨b, 0, none⟩) ht hz (fun j v hj => by rw [add_plain]; exact blk_cell (hw.blk hi) (by simpa using hj))
  simp only [Array.getD_eq_getD_getElem?] at a1 a2
  simp [results, hr, asAddr, a1, a2, hl]
theorem retA1 {R : View → Value → Prop} (i : Nat) {a : Nat} {ta : TypeId} (hR : R f (.agg ⟨cs⟩)) (hr : fn.results = #[.cell a ta] := by rfl) (h1 : ρ a = .pointer (some ⟨b, 0, none⟩) := by rfl) (hi : L[i]? = some (.blk b (.cells ⟨cs⟩ e)) := by rfl)
    (ht : aggT P ta = some true := by rfl) (hz : sizeT P ta = some cs.length := by rfl) : retQ P fn ⟨w0, f0, []⟩ (Ret w0 f0 R) .ret ρ f L := by
  intro w hw tmps htm
  have a1 := htm a
  rw [h1] at a1
  refine ⟨_, ?_, hw.ret hR⟩
  have hl := run_loadVarA (P := P) (w := w) (a := ⟨b, 0, none⟩) ht hz (fun j v hj => by rw [add_plain]; exact blk_cell (hw.blk hi) (by simpa using hj))
  simp only [Array.getD_eq_getD_getElem?] at a1
  simp [results, hr, asAddr, a1, hl]

/-! ### An own entry becomes part of what is only read -/
open Classical in
noncomputable def addV (w : World) (f : View) (e : HE) : View := fun i => if e.fp = some i then w.heap[i]? else f i
theorem St.freeze {w : World} {i : Nat} {e : HE} (h : St B f L w) (hX : B.X = []) (hi : L[i]? = some e) : St B (addV w f e) (L.eraseIdx i) w ∧ Sub f (addV w f e) ∧ e.seen (addV w f e) := by
  have hmem : e ∈ L := List.mem_of_getElem? hi
  have hsub : Sub f (addV w f e) := by
    intro j o hj
    unfold addV
    split
    · exact h.on j o hj
    · exact hj
  have hlt : i < L.length := (List.getElem?_eq_some_iff.1 hi).1
  have hother : ∀ x ∈ L.eraseIdx i, ∀ b, x.fp = some b → e.fp ≠ some b := by
    intro x hx b hb hb'
    obtain ⟨j, hj, hx⟩ := List.mem_iff_getElem.1 (List.mem_eraseIdx_iff_getElem.1 hx |>.elim fun j hj => by
      obtain ⟨h1, h2, h3⟩ := hj
      exact h3 ▸ List.getElem_mem h1)
    obtain ⟨j', h1, h2, h3⟩ := List.mem_eraseIdx_iff_getElem.1 (by assumption : x ∈ L.eraseIdx i)
    subst h3
    have e1 : L[i] = e := (List.getElem?_eq_some_iff.1 hi).2
    rcases Nat.lt_or_gt_of_ne h2 with h4 | h4
    · have := List.pairwise_iff_getElem.1 h.apart j' i h1 hlt h4
      rw [e1] at this
      exact this b hb hb'
    · have := List.pairwise_iff_getElem.1 h.apart i j' hlt h1 h4
      rw [e1] at this
      exact this b hb' hb
  refine ⟨⟨h.os, h.tape, h.output, h.size, h.keep, h.ext.trans hsub, fun j hj => ?_, fun j o hj => ?_, fun x hx => h.own x (List.mem_of_mem_eraseIdx hx), fun x hx => h.mine x (List.mem_of_mem_eraseIdx hx), fun x hx b hb => ?_, h.apart.sublist (List.eraseIdx_sublist _ _)⟩, hsub, ?_⟩
  · unfold addV
    split
    · rename_i hb
      rcases h.mine e hmem j hb with h1 | h1
      · omega
      · rw [hX] at h1; cases h1
    · exact h.old j hj
  · unfold addV at hj
    split at hj
    · exact hj
    · exact h.on j o hj
  · unfold addV
    rw [if_neg (hother x hx b hb)]
    exact h.off x (List.mem_of_mem_eraseIdx hx) b hb
  · have h1 := h.own e hmem
    have key : ∀ b, e.fp = some b → addV w f e b = w.heap[b]? := fun b hb => by unfold addV; rw [if_pos hb]
    cases e with
    | blk b o => show addV w f _ b = _; rw [key b rfl]; exact h1
    | row A n c e sz xs =>
      obtain ⟨h2, h3⟩ := h1
      refine ⟨h2, ?_⟩
      rcases h3 with ⟨h3, h4⟩ | ⟨g, cap, cur, hv, hg, hh, r1, r2, r3, r4⟩
      · injection h3 with h3 h5 h6
        exact .inl ⟨h3, h4, h6⟩
      · injection hv with hv h5 h6
        subst hv h6
        exact .inr ⟨g, cur, rfl, by rw [key g rfl]; exact hh, r1, r2, r4⟩
    | mp b m =>
      obtain ⟨es, clk, h3, h4⟩ := h1
      exact ⟨es, clk, by rw [key b rfl]; exact h3, h4⟩
theorem efrz (i : Nat) {co : Code} {he : HE} (k : ∀ g, Sub f g → he.seen g → EW P n B co Q ρ g (L.eraseIdx i)) (hi : L[i]? = some he := by rfl) (hX : B.X = [] := by rfl) : EW P n B co Q ρ f L :=
  ⟨fun w hw a ha hok => let ⟨h1, h2, h3⟩ := hw.freeze hX hi; (k _ h2 h3).out w h1 a ha hok⟩
theorem rfrz (i : Nat) {he : HE} (k : ∀ g, Sub f g → he.seen g → RW .s P n B ops K l ρ g (L.eraseIdx i)) (hi : L[i]? = some he := by rfl) (hX : B.X = [] := by rfl) : RW .s P n B ops K l ρ f L :=
  ⟨fun w hw a ha hok => let ⟨h1, h2, h3⟩ := hw.freeze hX hi; SW.out (k _ h2 h3) w h1 a ha hok⟩
end
end Go.Hog
