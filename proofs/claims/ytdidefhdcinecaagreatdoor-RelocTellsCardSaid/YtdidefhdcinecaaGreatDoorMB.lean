/- E4 E5, in one text. -/
import Derived.Test.YtdidefhdcinecaaGreatDoorMA
import Derived.Laws.CopyRow
set_option linter.unusedVariables false
set_option linter.unusedSimpArgs false
namespace Go.Hog
open Go.RowKit Rp

def aggT (P : Program) (t : TypeId) : Option Bool :=
  match P.underlying t with
  | some (.struct _) => some true
  | some (.array _ _) => some true
  | some _ => some false
  | none => none
def sizeT (P : Program) (t : TypeId) : Option Nat := (P.info? t).map (·.size)
def bytesT (P : Program) (t : TypeId) : Option Nat := (P.info? t).map (·.bytes)
def zeroT (P : Program) (t : TypeId) : Option (List Value) := ((P.info? t).bind (·.zero)).map (·.cells.toList)
def elemT (P : Program) (t : TypeId) : Option TypeId :=
  match P.underlying t with
  | some (.slice e) => some e
  | _ => none
section
variable {P : Program}
theorem run_aggT {t : TypeId} {r : Bool} (h : aggT P t = some r) (w : World) : (isAgg t).run P w = .ok r w := by
  unfold aggT at h
  cases hu : P.underlying t with
  | none => rw [hu] at h; cases h
  | some d =>
    rw [hu] at h
    simp only [isAgg, Sem.run_bind, run_und hu, Result.andThen_ok]
    cases d <;> (injection h with h; subst h; rfl)
theorem run_sizeT {t : TypeId} {k : Nat} (h : sizeT P t = some k) (w : World) : (sizeOf t).run P w = .ok k w := by
  unfold sizeT at h
  obtain ⟨i, hi, rfl⟩ := Option.map_eq_some_iff.1 h
  exact run_size hi w
theorem und_elemT {t e : TypeId} (h : elemT P t = some e) : P.underlying t = some (.slice e) := by
  unfold elemT at h
  split at h
  · rename_i hu; injection h with h; subst h; exact hu
  · cases h
theorem run_loadVar1 {t : TypeId} {a : Addr} {v : Value} {w : World} (ht : aggT P t = some false) (hc : w.cell? a = some v) : (loadVar t a).run P w = .ok v w := by
  simp only [loadVar, Sem.run_bind, run_aggT ht, Result.andThen_ok]
  simp [run_load, hc, Result.andThen]
theorem run_loadVarA {t : TypeId} {a : Addr} {vs : List Value} {w : World} (ht : aggT P t = some true) (hz : sizeT P t = some vs.length) (hc : ∀ j v, vs[j]? = some v → w.cell? (a.add j) = some v) :
    (loadVar t a).run P w = .ok (.agg ⟨vs⟩) w := by
  simp only [loadVar, Sem.run_bind, run_aggT ht, Result.andThen_ok, run_sizeT hz, if_true, run_loadCells_list w a vs hc, Sem.run_pure]
theorem nth_of {cs : List Value} {j : Nat} {v : Value} (h : cs[j]? = some v) : j < cs.length := (List.getElem?_eq_some_iff.1 h).1
end

section
variable {P : Program} {n : Nat} {B : Bs} {f : View} {L : List HE} {ρ : Env} {Q : Post} {K : Kon} {ops : Array Oper} {m : Md} {l l0 : List Oper} {ρ0 : Env}
variable {d : Nat} {x y : Operand} {t ty e : TypeId} {pos : String} {af : Array Edge} {gd : Option (Nat × Bool)} {b o : Nat} {v : Value} {vs cs : List Value}

/-! ### Loads -/
/-- A cell of the view. -/
theorem ldv (hc : f.cell? ⟨b, o, none⟩ = some v) (k : RW m P n B ops K l (up ρ d v) f L) (hrun : runP P ops l0 ρ0 = (⟨some d, .load t x, ty, pos, af, gd⟩ :: l, ρ) := by rfl) (hg : wantedE ops ρ ⟨some d, .load t x, ty, pos, af, gd⟩ = true := by rfl) (hx : ev ρ x = .pointer (some ⟨b, o, none⟩) := by rfl) (ht : aggT P t = some false := by rfl) : RW m P n B ops K l0 ρ0 f L := by
  refine rw_runP l0 ρ0 ?_
  rw [hrun]
  exact rw_y hg (fun w hw => by simp [execOp, Instr.loadAt, hx, Instr.sureAddr, run_loadVar1 ht (hw.on.cell hc)]) k
/-- A struct of the view. -/
theorem ldvA (hc : Cells f b o vs) (k : RW m P n B ops K l (up ρ d (.agg ⟨vs⟩)) f L) (hrun : runP P ops l0 ρ0 = (⟨some d, .load t x, ty, pos, af, gd⟩ :: l, ρ) := by rfl) (hg : wantedE ops ρ ⟨some d, .load t x, ty, pos, af, gd⟩ = true := by rfl) (hx : ev ρ x = .pointer (some ⟨b, o, none⟩) := by rfl) (ht : aggT P t = some true := by rfl) (hz : sizeT P t = some vs.length := by rfl) : RW m P n B ops K l0 ρ0 f L := by
  refine rw_runP l0 ρ0 ?_
  rw [hrun]
  exact rw_y hg (fun w hw => by
    have := run_loadVarA (P := P) (w := w) (a := ⟨b, o, none⟩) ht hz (fun j v hj => by rw [add_plain]; exact hw.on.cell (hc.get j v hj))
    simp [execOp, Instr.loadAt, hx, Instr.sureAddr, this]) k
theorem St.blk {w : World} {fr : Nat × Nat} {i : Nat} (h : St B f L w) (hi : L[i]? = some (.blk b (.cells ⟨cs⟩ e fr))) : w.heap[b]? = some (.cells ⟨cs⟩ e fr) := h.own _ (List.mem_of_getElem? hi)
theorem blk_cell {w : World} {fr : Nat × Nat} (h : w.heap[b]? = some (.cells ⟨cs⟩ e fr)) (hc : cs[o]? = some v) : w.cell? ⟨b, o, none⟩ = some v := by
  simp [World.cell?, h, hc]
/-- A cell of an own block (entry i). -/
theorem ldo (i : Nat) {fr : Nat × Nat} (k : RW m P n B ops K l (up ρ d v) f L) (hrun : runP P ops l0 ρ0 = (⟨some d, .load t x, ty, pos, af, gd⟩ :: l, ρ) := by rfl) (hg : wantedE ops ρ ⟨some d, .load t x, ty, pos, af, gd⟩ = true := by rfl) (hi : L[i]? = some (.blk b (.cells ⟨cs⟩ e fr)) := by rfl) (hx : ev ρ x = .pointer (some ⟨b, o, none⟩) := by rfl) (ht : aggT P t = some false := by rfl) (hc : cs[o]? = some v := by rfl) : RW m P n B ops K l0 ρ0 f L := by
  refine rw_runP l0 ρ0 ?_
  rw [hrun]
  exact rw_y hg (fun w hw => by simp [execOp, Instr.loadAt, hx, Instr.sureAddr, run_loadVar1 ht (blk_cell (hw.blk hi) hc)]) k
def subL : List Value → Nat → Nat → Option (List Value)
  | _, 0, 0 => some []
  | [], _, _ => none
  | c :: cs, 0, k + 1 => (match subL cs 0 k with | some r => some (c :: r) | none => none)
  | _ :: cs, o + 1, k => subL cs o k
theorem subL_get : ∀ {cs : List Value} {o k : Nat} {vs : List Value}, subL cs o k = some vs → vs.length = k ∧ ∀ j v, vs[j]? = some v → cs[o + j]? = some v
  | cs, 0, 0, vs, h => by
    have : vs = [] := by cases cs <;> (simp [subL] at h; exact h)
    subst this
    exact ⟨rfl, fun j v hj => by simp at hj⟩
  | [], 0, k + 1, vs, h => by simp [subL] at h
  | [], o + 1, k, vs, h => by cases k <;> simp [subL] at h
  | c :: cs, 0, k + 1, vs, h => by
    simp only [subL] at h
    split at h
    · rename_i r hr
      injection h with h
      subst h
      have ih := subL_get hr
      refine ⟨by simp [ih.1], fun j v hj => ?_⟩
      cases j with
      | zero => simpa using hj
      | succ j =>
        have := ih.2 j v (by simpa using hj)
        simp only [Nat.zero_add] at this ⊢
        simpa using this
    · cases h
  | c :: cs, o + 1, k, vs, h => by
    have h' : subL cs o k = some vs := by cases k <;> simpa [subL] using h
    have ih := subL_get h'
    exact ⟨ih.1, fun j v hj => by
      have := ih.2 j v hj
      rw [show o + 1 + j = (o + j) + 1 by omega]
      simpa using this⟩
/-- A struct in an own block. -/
theorem ldoA (i : Nat) {fr : Nat × Nat} {kk : Nat} (k : RW m P n B ops K l (up ρ d (.agg ⟨vs⟩)) f L) (hrun : runP P ops l0 ρ0 = (⟨some d, .load t x, ty, pos, af, gd⟩ :: l, ρ) := by rfl) (hg : wantedE ops ρ ⟨some d, .load t x, ty, pos, af, gd⟩ = true := by rfl) (hi : L[i]? = some (.blk b (.cells ⟨cs⟩ e fr)) := by rfl) (hx : ev ρ x = .pointer (some ⟨b, o, none⟩) := by rfl) (ht : aggT P t = some true := by rfl) (hz : sizeT P t = some kk := by rfl) (hc : subL cs o kk = some vs := by rfl) : RW m P n B ops K l0 ρ0 f L := by
  refine rw_runP l0 ρ0 ?_
  rw [hrun]
  exact rw_y hg (fun w hw => by
    have hs := subL_get hc
    have := run_loadVarA (P := P) (w := w) (a := ⟨b, o, none⟩) ht (by rw [hs.1]; exact hz) (fun j v hj => by
      rw [add_plain]
      exact blk_cell (hw.blk hi) (hs.2 j v hj))
    simp [execOp, Instr.loadAt, hx, Instr.sureAddr, this]) k
theorem St.rowc {w : World} {c nn sz i : Nat} {xs : List Value} (h : St B f L w) (hi : L[i]? = some (.row (some ⟨b, 0, none⟩) nn c e sz xs)) (hc : xs[o]? = some v) : w.cell? ⟨b, o, none⟩ = some v := by
  have h1 : w.ownsRow 0 e sz (.slice (some ⟨b, 0, none⟩) nn c) nn xs := h.own _ (List.mem_of_getElem? hi)
  have := h1.cells (g := b) rfl o v hc
  rwa [add_plain, Nat.zero_add] at this
/-- A cell of an own row (entry i). -/
theorem ldr (i : Nat) {c nn sz : Nat} {xs : List Value} (hc : xs[o]? = some v) (k : RW m P n B ops K l (up ρ d v) f L) (hrun : runP P ops l0 ρ0 = (⟨some d, .load t x, ty, pos, af, gd⟩ :: l, ρ) := by rfl) (hg : wantedE ops ρ ⟨some d, .load t x, ty, pos, af, gd⟩ = true := by rfl) (hi : L[i]? = some (.row (some ⟨b, 0, none⟩) nn c e sz xs) := by rfl) (hx : ev ρ x = .pointer (some ⟨b, o, none⟩) := by rfl) (ht : aggT P t = some false := by rfl) : RW m P n B ops K l0 ρ0 f L := by
  refine rw_runP l0 ρ0 ?_
  rw [hrun]
  exact rw_y hg (fun w hw => by simp [execOp, Instr.loadAt, hx, Instr.sureAddr, run_loadVar1 ht (hw.rowc hi hc)]) k
/-- '&xs[i]'. -/
theorem ix {nn c sz : Nat} {ki : IntKind} {i : Int} (j : Nat) (hj : j < nn) (k : RW m P n B ops K l (up ρ d (.pointer (some ⟨b, o + j * sz, none⟩))) f L) (hrun : runP P ops l0 ρ0 = (⟨some d, .indexAddr t x y, ty, pos, af, gd⟩ :: l, ρ) := by rfl) (hg : wantedE ops ρ ⟨some d, .indexAddr t x y, ty, pos, af, gd⟩ = true := by rfl) (hx : ev ρ x = .slice (some ⟨b, o, none⟩) nn c := by rfl) (hy : ev ρ y = .int ki i := by rfl) (he : elemT P t = some e := by rfl) (hz : sizeT P e = some sz := by rfl) (hi : i = j := by rfl) : RW m P n B ops K l0 ρ0 f L := by
  refine rw_runP l0 ρ0 ?_
  rw [hrun]
  exact rw_y hg (fun w hw => by
    subst hi
    have h1 : (0 : Int) ≤ (j : Int) ∧ (j : Int) < (nn : Int) := ⟨by omega, by omega⟩
    simp [execOp, Instr.indexAt, hx, hy, asIntOf, run_und (und_elemT he), run_sizeT hz, h1, hj, add_plain]) k
/-! ### Own blocks: made, written -/
theorem alloc {zs : List Value} (k : ∀ b, RW .s P n B ops K l (up ρ d (.pointer (some ⟨b, 0, none⟩))) f (.blk b (.cells ⟨zs⟩ t) :: L)) (hrun : runP P ops l0 ρ0 = (⟨some d, .alloc t, ty, pos, af, gd⟩ :: l, ρ) := by rfl) (hg : wantedE ops ρ ⟨some d, .alloc t, ty, pos, af, gd⟩ = true := by rfl) (hz : zeroT P t = some zs := by rfl) : RW .s P n B ops K l0 ρ0 f L := by
  refine rw_runP l0 ρ0 ?_
  rw [hrun]
  unfold zeroT at hz
  obtain ⟨z, hz1, rfl⟩ := Option.map_eq_some_iff.1 hz
  obtain ⟨i, hi, hz2⟩ := Option.bind_eq_some_iff.1 hz1
  refine sw_do hg fun w hw => ⟨_, w.alloc (.cells ⟨z.cells.toList⟩ t), ?_, .inl ⟨_, rfl, f, _, ?_, k w.heap.size⟩⟩
  · simp [execOp, Instr.alloc, zeroValue, run_info hi, hz2, newVar, newRow]
  · exact hw.new (e := .blk w.heap.size (.cells ⟨z.cells.toList⟩ t)) (heap_new _ _) rfl
theorem box (k : ∀ b, RW .s P n B ops K l (up ρ d (.pointer (some ⟨b, 0, none⟩))) f (.blk b (.cells ⟨vs⟩ t) :: L)) (hrun : runP P ops l0 ρ0 = (⟨some d, .box t x, ty, pos, af, gd⟩ :: l, ρ) := by rfl) (hg : wantedE ops ρ ⟨some d, .box t x, ty, pos, af, gd⟩ = true := by rfl) (hx : (ev ρ x).cells = ⟨vs⟩ := by rfl) : RW .s P n B ops K l0 ρ0 f L := by
  refine rw_runP l0 ρ0 ?_
  rw [hrun]
  refine sw_do hg fun w hw => ⟨_, w.alloc (.cells ⟨vs⟩ t), ?_, .inl ⟨_, rfl, f, _, ?_, k w.heap.size⟩⟩
  · simp [execOp, Instr.box, hx, newVar, newRow]
  · exact hw.new (e := .blk w.heap.size (.cells ⟨vs⟩ t)) (heap_new _ _) rfl
theorem mkmap (k : ∀ b, RW .s P n B ops K l (up ρ d (.map (some b))) f (.mp b [] :: L)) (hrun : runP P ops l0 ρ0 = (⟨some d, .makeMap t none, ty, pos, af, gd⟩ :: l, ρ) := by rfl) (hg : wantedE ops ρ ⟨some d, .makeMap t none, ty, pos, af, gd⟩ = true := by rfl) : RW .s P n B ops K l0 ρ0 f L := by
  refine rw_runP l0 ρ0 ?_
  rw [hrun]
  refine sw_do hg fun w hw => ⟨_, w.alloc (.map #[] 0), ?_, .inl ⟨_, rfl, f, _, ?_, k w.heap.size⟩⟩
  · simp [execOp, Instr.makeMap]
  · exact hw.new (e := .mp w.heap.size []) ⟨#[], 0, heap_new _ _, rfl⟩ rfl
def putL : List Value → Nat → List Value → List Value
  | cs, _, [] => cs
  | [], _, _ :: _ => []
  | _ :: cs, 0, v :: vs => v :: putL cs 0 vs
  | c :: cs, o + 1, v :: vs => c :: putL cs o (v :: vs)
theorem putL_eq : ∀ (vs cs : List Value) (o : Nat), o + vs.length ≤ cs.length → cs.take o ++ vs ++ cs.drop (o + vs.length) = putL cs o vs
  | [], cs, o, _ => by cases cs <;> simp [putL]
  | v :: vs, [], o, h => by simp at h
  | v :: vs, c :: cs, 0, h => by
    have := putL_eq vs cs 0 (by simpa using h)
    simp only [putL, ← this]
    simp
  | v :: vs, c :: cs, o + 1, h => by
    have := putL_eq (v :: vs) cs o (by simp at h ⊢; omega)
    simp only [putL, ← this, List.take_succ_cons, List.length_cons, List.cons_append]
    rw [show o + 1 + (vs.length + 1) = (o + (vs.length + 1)) + 1 by omega, List.drop_succ_cons]
def onesB : List Value → Bool
  | [] => true
  | v :: vs => v.oneCell' && onesB vs
theorem onesB_spec : ∀ {vs : List Value}, onesB vs = true → ∀ u ∈ vs, u.oneCell' = true
  | [], _, u, hu => by cases hu
  | v :: vs, h, u, hu => by
    have h' : v.oneCell' = true ∧ onesB vs = true := by simpa [onesB] using h
    rcases List.mem_cons.1 hu with rfl | hu
    · exact h'.1
    · exact onesB_spec h'.2 u hu
/-- A store into an own block (entry i). -/
theorem st (i : Nat) {cs' : List Value} (k : RW .s P n B ops K l ρ f (L.set i (.blk b (.cells ⟨cs'⟩ e)))) (hrun : runP P ops l0 ρ0 = (⟨none, .store t x y, ty, pos, af, gd⟩ :: l, ρ) := by rfl) (hg : wantedE ops ρ ⟨none, .store t x y, ty, pos, af, gd⟩ = true := by rfl) (hi : L[i]? = some (.blk b (.cells ⟨cs⟩ e)) := by rfl) (hx : ev ρ x = .pointer (some ⟨b, o, none⟩) := by rfl) (hy : (ev ρ y).cells = ⟨vs⟩ := by rfl) (hz : sizeT P t = some vs.length := by rfl) (h1 : onesB vs = true := by rfl) (hl : Nat.ble (o + vs.length) cs.length = true := by rfl) (hp : putL cs o vs = cs' := by rfl) : RW .s P n B ops K l0 ρ0 f L := by
  refine rw_runP l0 ρ0 ?_
  rw [hrun]
  have hl' : o + vs.length ≤ cs.length := by simpa [Nat.ble_eq] using hl
  refine sw_do hg fun w hw => ⟨_, w.setRow b ⟨cs'⟩, ?_, .inr ⟨rfl, f, _, ?_, k⟩⟩
  · have hst := run_storeCells_at P b o e vs 0 ⟨cs⟩ w (hw.blk hi) (by simpa using hl') (onesB_spec h1)
    simp only [Nat.add_zero] at hst
    have e2 : (List.take o cs ++ vs ++ List.drop (o + vs.length) cs).toArray = ⟨cs'⟩ := by rw [putL_eq _ _ _ hl', hp]
    rw [e2] at hst
    simp [execOp, Instr.storeAt, hx, Instr.sureAddr, storeVar, run_sizeT hz, hy, hst]
  · refine hw.set hi rfl rfl rfl (by simp [World.setRow]) (fun k' _ hk' => setRow_other w b k' _ (fun e => hk' (by rw [e]; rfl))) (setRow_heap w b ⟨cs⟩ _ e _ (hw.blk hi)) (fun b' hb' => .inl hb')

/-! ### Calls -/
def Con (P : Program) (k : FuncId) (vs : List Value) (w : World) (R : Ending → World → Prop) : Prop :=
  (∀ args w, (callFunc k args).run P w = .ok (.enter k args) w) ∧ Calls P k ⟨vs⟩ w R
theorem run_callf {k : Nat} {args : Array Operand} {at_ : Array TypeId} (hcf : ∀ args w, (callFunc k args).run P w = .ok (.enter k args) w) (ha : args.toList.map (ev ρ) = vs) (w : World) :
    (execOp (ev ρ) ⟨some d, .call ⟨.value (.func k), args, at_⟩, ty, pos, af, gd⟩).run P w = .ok (.enter k ⟨vs⟩) w := by
  have e1 : args.map (ev ρ) = ⟨vs⟩ := by apply Array.ext'; simpa using ha
  simp [execOp, resolve, ev, Deferred.ofValue, invoke, e1, hcf]
/-- A call by its contract: what it hands back stands in a view that has grown. -/
theorem call {k : Nat} {args : Array Operand} {at_ : Array TypeId} {R : View → Value → Prop} (h : ∀ w, On f w → Con P k vs w (Ret w f R)) (kk : ∀ v g, Sub f g → R g v → RW .s P n B ops K l (up ρ d v) g L) (hrun : runP P ops l0 ρ0 = (⟨some d, .call ⟨.value (.func k), args, at_⟩, ty, pos, af, gd⟩ :: l, ρ) := by rfl) (hg : wantedE ops ρ ⟨some d, .call ⟨.value (.func k), args, at_⟩, ty, pos, af, gd⟩ = true := by rfl) (ha : args.toList.map (ev ρ) = vs := by rfl) : RW .s P n B ops K l0 ρ0 f L := by
  refine rw_runP l0 ρ0 ?_
  rw [hrun]
  refine ⟨fun w hw => ?_⟩
  have hcf := (h w hw.on).1
  refine SW.out (sw_call (args := ⟨vs⟩) hg (fun w' => run_callf hcf ha w') fun w hw => ?_) w hw
  refine (h w hw.on).2.mono ?_
  rintro en w' ⟨v, g, rfl, hb, hs, hold, hon, hR⟩
  refine ⟨v, g, L, rfl, (hw.grow hb).view hs (fun i hi => hold i (Nat.lt_of_lt_of_le hi hw.size)) hon fun e he b hb' => ?_, kk v g hs hR⟩
  rw [hold b (hw.fp he hb')]
  exact hw.off e he b hb'
end
-- E VERSIONS
section
variable {P : Program} {n : Nat} {B : Bs} {f : View} {L : List HE} {ρ : Env} {Q : Post} {K : Kon} {ops : Array Oper} {m : Md} {l l0 : List Oper} {ρ0 : Env}
variable {d : Nat} {x y : Operand} {t ty e : TypeId} {pos : String} {af : Array Edge} {gd : Option (Nat × Bool)} {b o : Nat} {v : Value} {vs cs : List Value}
theorem ldvE (hc : f.cell? ⟨b, o, none⟩ = some v) {ρE : Env} (k : K ρE f L) (hrun : runP P ops l0 ρ0 = (⟨some d, .load t x, ty, pos, af, gd⟩ :: l, ρ) := by rfl) (hg : wantedE ops ρ ⟨some d, .load t x, ty, pos, af, gd⟩ = true := by rfl) (hx : ev ρ x = .pointer (some ⟨b, o, none⟩) := by rfl) (ht : aggT P t = some false := by rfl) (hE : runP P ops l (up ρ d v) = ([], ρE) := by rfl) : RW m P n B ops K l0 ρ0 f L :=
  ldv (hc := hc) (k := runE k hE) (hrun := hrun) (hg := hg) (hx := hx) (ht := ht)
theorem ldvAE (hc : Cells f b o vs) {ρE : Env} (k : K ρE f L) (hrun : runP P ops l0 ρ0 = (⟨some d, .load t x, ty, pos, af, gd⟩ :: l, ρ) := by rfl) (hg : wantedE ops ρ ⟨some d, .load t x, ty, pos, af, gd⟩ = true := by rfl) (hx : ev ρ x = .pointer (some ⟨b, o, none⟩) := by rfl) (ht : aggT P t = some true := by rfl) (hz : sizeT P t = some vs.length := by rfl) (hE : runP P ops l (up ρ d (.agg ⟨vs⟩)) = ([], ρE) := by rfl) : RW m P n B ops K l0 ρ0 f L :=
  ldvA (hc := hc) (k := runE k hE) (hrun := hrun) (hg := hg) (hx := hx) (ht := ht) (hz := hz)
theorem ldoE (i : Nat) {fr : Nat × Nat} {ρE : Env} (k : K ρE f L) (hrun : runP P ops l0 ρ0 = (⟨some d, .load t x, ty, pos, af, gd⟩ :: l, ρ) := by rfl) (hg : wantedE ops ρ ⟨some d, .load t x, ty, pos, af, gd⟩ = true := by rfl) (hi : L[i]? = some (.blk b (.cells ⟨cs⟩ e fr)) := by rfl) (hx : ev ρ x = .pointer (some ⟨b, o, none⟩) := by rfl) (ht : aggT P t = some false := by rfl) (hc : cs[o]? = some v := by rfl) (hE : runP P ops l (up ρ d v) = ([], ρE) := by rfl) : RW m P n B ops K l0 ρ0 f L :=
  ldo (i := i) (k := runE k hE) (hrun := hrun) (hg := hg) (hi := hi) (hx := hx) (ht := ht) (hc := hc)
theorem ldoAE (i : Nat) {fr : Nat × Nat} {kk : Nat} {ρE : Env} (k : K ρE f L) (hrun : runP P ops l0 ρ0 = (⟨some d, .load t x, ty, pos, af, gd⟩ :: l, ρ) := by rfl) (hg : wantedE ops ρ ⟨some d, .load t x, ty, pos, af, gd⟩ = true := by rfl) (hi : L[i]? = some (.blk b (.cells ⟨cs⟩ e fr)) := by rfl) (hx : ev ρ x = .pointer (some ⟨b, o, none⟩) := by rfl) (ht : aggT P t = some true := by rfl) (hz : sizeT P t = some kk := by rfl) (hc : subL cs o kk = some vs := by rfl) (hE : runP P ops l (up ρ d (.agg ⟨vs⟩)) = ([], ρE) := by rfl) : RW m P n B ops K l0 ρ0 f L :=
  ldoA (i := i) (k := runE k hE) (hrun := hrun) (hg := hg) (hi := hi) (hx := hx) (ht := ht) (hz := hz) (hc := hc)
theorem ldrE (i : Nat) {c nn sz : Nat} {xs : List Value} (hc : xs[o]? = some v) {ρE : Env} (k : K ρE f L) (hrun : runP P ops l0 ρ0 = (⟨some d, .load t x, ty, pos, af, gd⟩ :: l, ρ) := by rfl) (hg : wantedE ops ρ ⟨some d, .load t x, ty, pos, af, gd⟩ = true := by rfl) (hi : L[i]? = some (.row (some ⟨b, 0, none⟩) nn c e sz xs) := by rfl) (hx : ev ρ x = .pointer (some ⟨b, o, none⟩) := by rfl) (ht : aggT P t = some false := by rfl) (hE : runP P ops l (up ρ d v) = ([], ρE) := by rfl) : RW m P n B ops K l0 ρ0 f L :=
  ldr (i := i) (hc := hc) (k := runE k hE) (hrun := hrun) (hg := hg) (hi := hi) (hx := hx) (ht := ht)
theorem ixE {nn c sz : Nat} {ki : IntKind} {i : Int} (j : Nat) (hj : j < nn) {ρE : Env} (k : K ρE f L) (hrun : runP P ops l0 ρ0 = (⟨some d, .indexAddr t x y, ty, pos, af, gd⟩ :: l, ρ) := by rfl) (hg : wantedE ops ρ ⟨some d, .indexAddr t x y, ty, pos, af, gd⟩ = true := by rfl) (hx : ev ρ x = .slice (some ⟨b, o, none⟩) nn c := by rfl) (hy : ev ρ y = .int ki i := by rfl) (he : elemT P t = some e := by rfl) (hz : sizeT P e = some sz := by rfl) (hi : i = j := by rfl) (hE : runP P ops l (up ρ d (.pointer (some ⟨b, o + j * sz, none⟩))) = ([], ρE) := by rfl) : RW m P n B ops K l0 ρ0 f L :=
  ix (j := j) (hj := hj) (k := runE k hE) (hrun := hrun) (hg := hg) (hx := hx) (hy := hy) (he := he) (hz := hz) (hi := hi)
theorem stE (i : Nat) {cs' : List Value} {ρE : Env} (k : K ρE f (L.set i (.blk b (.cells ⟨cs'⟩ e)))) (hrun : runP P ops l0 ρ0 = (⟨none, .store t x y, ty, pos, af, gd⟩ :: l, ρ) := by rfl) (hg : wantedE ops ρ ⟨none, .store t x y, ty, pos, af, gd⟩ = true := by rfl) (hi : L[i]? = some (.blk b (.cells ⟨cs⟩ e)) := by rfl) (hx : ev ρ x = .pointer (some ⟨b, o, none⟩) := by rfl) (hy : (ev ρ y).cells = ⟨vs⟩ := by rfl) (hz : sizeT P t = some vs.length := by rfl) (h1 : onesB vs = true := by rfl) (hl : Nat.ble (o + vs.length) cs.length = true := by rfl) (hp : putL cs o vs = cs' := by rfl) (hE : runP P ops l ρ = ([], ρE) := by rfl) : RW .s P n B ops K l0 ρ0 f L :=
  st (i := i) (k := runE k hE) (hrun := hrun) (hg := hg) (hi := hi) (hx := hx) (hy := hy) (hz := hz) (h1 := h1) (hl := hl) (hp := hp)
end
-- END E VERSIONS
end Go.Hog

set_option linter.unusedVariables false
set_option linter.unusedSimpArgs false
namespace Go.Hog
open Go.RowKit Rp

/-- What an own entry looks like in a view. -/
def HE.seen (g : View) : HE → Prop
  | .blk b o => g b = some o
  | .row A n c e sz xs => xs.length = n * sz ∧ ((A = none ∧ n = 0 ∧ c = 0) ∨ ∃ b cur, A = some ⟨b, 0, none⟩ ∧ g b = some (.cells cur e (0, 0)) ∧ n ≤ c ∧ c ≤ maxLen ∧ cur.toList.take (n * sz) = xs)
  | .mp b m => ∃ es clk, g b = some (.map es clk) ∧ es.toList.map (fun e => (e.key, e.val)) = m
open Classical in
noncomputable def withOwn (w : World) (f : View) (L : List HE) : View := fun i => if ∃ e ∈ L, e.fp = some i then w.heap[i]? else f i
section
variable {B : Bs} {w : World} {f : View} {L : List HE}
theorem withOwn_sub (h : St B f L w) : Sub f (withOwn w f L) := by
  intro i o hi
  unfold withOwn
  split
  · exact h.on i o hi
  · exact hi
theorem withOwn_on (h : St B f L w) : On (withOwn w f L) w := by
  intro i o hi
  unfold withOwn at hi
  split at hi
  · exact hi
  · exact h.on i o hi
theorem withOwn_seen (h : St B f L w) : ∀ e ∈ L, e.seen (withOwn w f L) := by
  intro e he
  have h1 := h.own e he
  have key : ∀ b, e.fp = some b → withOwn w f L b = w.heap[b]? := fun b hb => by
    unfold withOwn
    rw [if_pos ⟨e, he, hb⟩]
  cases e with
  | blk b o => show withOwn w f L b = _; rw [key b rfl]; exact h1
  | row A n c e sz xs =>
    obtain ⟨h2, h3⟩ := h1
    refine ⟨h2, ?_⟩
    rcases h3 with ⟨h3, h4⟩ | ⟨g, cap, cur, hv, hg, hh, r1, r2, r3, r4⟩
    · injection h3 with h3 h5 h6
      exact .inl ⟨h3, h4, h6⟩
    · injection hv with hv h5 h6
      subst hv h6
      exact .inr ⟨g, cur, rfl, by rw [key g rfl]; exact hh, r1, r2, r4⟩
  | mp b m =>
    obtain ⟨es, clk, h3, h4⟩ := h1
    exact ⟨es, clk, by rw [key b rfl]; exact h3, h4⟩
end
theorem Sl.ofRow {α : Type} [Rp α] {g : View} {A : Option Addr} {n c e sz : Nat} {xs : List Value} {l : List α} (h : (HE.row A n c e sz xs).seen g) (hn : n = l.length) (hsz : sz = Rp.sz α) (hl : l.length ≤ LB)
    (hx : ∀ j (hj : j < l.length), rp g l[j] ((xs.drop (j * Rp.sz α)).take (Rp.sz α))) : Sl g A c l := by
  subst hn hsz
  obtain ⟨h1, h2⟩ := h
  rcases h2 with ⟨rfl, h2, h3⟩ | ⟨b, cur, rfl, h2, h3, h4, h5⟩
  · exact ⟨by omega, hl, by omega, fun j hj => by omega⟩
  · refine ⟨h3, hl, h4, fun j hj => ⟨b, 0, rfl, _, hx j hj, Cells.of fun k v hv => ?_⟩⟩
    rw [List.getElem?_take] at hv
    split at hv
    · rename_i hk
      rw [List.getElem?_drop, ← h5, List.getElem?_take] at hv
      split at hv
      · simp only [View.cell?, h2]
        simp only [Option.isSome_none, Bool.false_eq_true, if_false]
        rw [show 0 + j * Rp.sz α + k = j * Rp.sz α + k by omega]
        simpa using hv
      · cases hv
    · cases hv

section
variable {P : Program} {n : Nat} {B : Bs} {f : View} {L : List HE} {ρ : Env} {Q : Post} {K : Kon} {ops : Array Oper} {m : Md} {l l0 : List Oper} {ρ0 : Env}
variable {d : Nat} {x y : Operand} {t ty e : TypeId} {pos : String} {af : Array Edge} {gd : Option (Nat × Bool)} {b o : Nat} {v : Value} {vs cs : List Value}

/-- A call that hands back a plain value, what it may read being the view and one's own: in any walk. -/
theorem callV {k : Nat} {args : Array Operand} {at_ : Array TypeId} (v : Value) (h : ∀ w g, Sub f g → (∀ e ∈ L, e.seen g) → On g w → Con P k vs w (Ret w g fun _ v' => v' = v)) (kk : RW m P n B ops K l (up ρ d v) f L) (hrun : runP P ops l0 ρ0 = (⟨some d, .call ⟨.value (.func k), args, at_⟩, ty, pos, af, gd⟩ :: l, ρ) := by rfl) (hg : wantedE ops ρ ⟨some d, .call ⟨.value (.func k), args, at_⟩, ty, pos, af, gd⟩ = true := by rfl) (ha : args.toList.map (ev ρ) = vs := by rfl) (hcm : m.calls = true := by rfl) : RW m P n B ops K l0 ρ0 f L := by
  refine rw_runP l0 ρ0 ?_
  rw [hrun]
  have hcon : ∀ w, St B f L w → Con P k vs w (Ret w (withOwn w f L) fun _ v' => v' = v) := fun w hw => h w _ (withOwn_sub hw) (withOwn_seen hw) (withOwn_on hw)
  refine rw_have (p := ∀ args w, (callFunc k args).run P w = .ok (.enter k args) w) (fun w hw => (hcon w hw).1) fun hcf => ?_
  refine qw_call (hcm := hcm) (args := ⟨vs⟩) v hg (fun w' => run_callf hcf ha w') (fun w hw => ?_) kk
  refine (hcon w hw).2.mono ?_
  rintro en w' ⟨v', g, rfl, hb, hs, hold, hon, rfl⟩
  exact ⟨rfl, hw.grow hb⟩
/-- The same, the value being known up to a property. -/
theorem callO {k : Nat} {args : Array Operand} {at_ : Array TypeId} {R : View → Value → Prop} (h : ∀ w g, Sub f g → (∀ e ∈ L, e.seen g) → On g w → Con P k vs w (Ret w g R)) (kk : ∀ v g, R g v → RW .s P n B ops K l (up ρ d v) f L) (hrun : runP P ops l0 ρ0 = (⟨some d, .call ⟨.value (.func k), args, at_⟩, ty, pos, af, gd⟩ :: l, ρ) := by rfl) (hg : wantedE ops ρ ⟨some d, .call ⟨.value (.func k), args, at_⟩, ty, pos, af, gd⟩ = true := by rfl) (ha : args.toList.map (ev ρ) = vs := by rfl) : RW .s P n B ops K l0 ρ0 f L := by
  refine rw_runP l0 ρ0 ?_
  rw [hrun]
  have hcon : ∀ w, St B f L w → Con P k vs w (Ret w (withOwn w f L) R) := fun w hw => h w _ (withOwn_sub hw) (withOwn_seen hw) (withOwn_on hw)
  refine rw_have (p := ∀ args w, (callFunc k args).run P w = .ok (.enter k args) w) (fun w hw => (hcon w hw).1) fun hcf => ?_
  refine sw_call (args := ⟨vs⟩) hg (fun w' => run_callf hcf ha w') fun w hw => ?_
  refine (hcon w hw).2.mono ?_
  rintro en w' ⟨v', g, rfl, hb, hs, hold, hon, hR⟩
  exact ⟨v', f, L, rfl, hw.grow hb, kk v' g hR⟩

/-! ### Short words for code -/
section
variable {c c' : Code} {id : Nat} {cc : Operand} {ρE : Env}
theorem sq (h : EW P n B c (thenQ (EW P n B c' Q) Q) ρ f L) : EW P n B (.seq c c') Q ρ f L := ew_seq h
theorem rg (h : RW .s P n B ops (Q .normal) ops.toList ρ f L) : EW P n B (.region id ops false) Q ρ f L := ew_reg h
theorem rgE (h : Q .normal ρE f L) (hE : runP P ops ops.toList ρ = ([], ρE) := by rfl) : EW P n B (.region id ops false) Q ρ f L := ew_reg (runE h hE)
theorem sg (h : RW .s P n B ops (EW P n B c' Q) ops.toList ρ f L) : EW P n B (.seq (.region id ops false) c') Q ρ f L := ew_seq (ew_reg h)
theorem sgE (h : EW P n B c' Q ρE f L) (hE : runP P ops ops.toList ρ = ([], ρE) := by rfl) : EW P n B (.seq (.region id ops false) c') Q ρ f L := ew_seq (ew_reg (runE h hE))
theorem rr (h : Q .ret ρE f L) (hE : runP P ops ops.toList ρ = ([], ρE) := by rfl) : EW P n B (.seq (.region id ops false) .ret) Q ρ f L := ew_seq (ew_reg (runE (ew_ret h) hE))
theorem bk (h : EW P n B c (blkQ id Q) ρ f L) : EW P n B (.block id c) Q ρ f L := ew_block h
theorem cT (h : EW P n B c Q ρ f L) (hc : ev ρ cc = .bool true := by rfl) : EW P n B (.cond cc c c') Q ρ f L := ew_condT hc h
theorem cF (h : EW P n B c' Q ρ f L) (hc : ev ρ cc = .bool false := by rfl) : EW P n B (.cond cc c c') Q ρ f L := ew_condF hc h
theorem cTs (h : Q .normal ρ f L) (hc : ev ρ cc = .bool true := by rfl) : EW P n B (.cond cc .skip c') Q ρ f L := ew_condT hc (ew_skip h)
theorem cFs (h : Q .normal ρ f L) (hc : ev ρ cc = .bool false := by rfl) : EW P n B (.cond cc c .skip) Q ρ f L := ew_condF hc (ew_skip h)
theorem cFx (h : Q (.exit id) ρ f L) (hc : ev ρ cc = .bool false := by rfl) : EW P n B (.cond cc c (.exit id)) Q ρ f L := ew_condF hc (ew_exit h)
theorem cTx (h : Q (.exit id) ρ f L) (hc : ev ρ cc = .bool true := by rfl) : EW P n B (.cond cc (.exit id) c) Q ρ f L := ew_condT hc (ew_exit h)
/-- What a round comes to: the next state. -/
structure NxS {σ : Type} (slots : σ → List (Nat × Value)) (vw : σ → View) (hp : σ → List HE) (Inv : σ → Prop) (μ : σ → Nat) (s : σ) (ρ'' : Env) (f'' : View) (L'' : List HE) : Prop where
  out : ∃ s', Agree ρ'' (slots s') ∧ vw s' = f'' ∧ hp s' = L'' ∧ Inv s' ∧ μ s' < μ s
theorem lp {σ : Type} (slots : σ → List (Nat × Value)) (vw : σ → View) (hp : σ → List HE) (Inv : σ → Prop) (μ : σ → Nat) (s0 : σ) (hi : Inv s0)
    (round : ∀ s ρ', Inv s → EW P n B c (thenQ (NxS slots vw hp Inv μ s) Q) (ups ρ' (slots s)) (vw s) (hp s))
    (hv : vw s0 = f := by rfl) (hh : hp s0 = L := by rfl) (ha : Agree ρ (slots s0) := by first | exact trivial | exact ⟨rfl, trivial⟩ | exact ⟨rfl, rfl, trivial⟩ | exact ⟨rfl, rfl, rfl, trivial⟩ | exact ⟨rfl, rfl, rfl, rfl, trivial⟩ | exact ⟨rfl, rfl, rfl, rfl, rfl, trivial⟩ | exact ⟨rfl, rfl, rfl, rfl, rfl, rfl, trivial⟩ | exact ⟨rfl, rfl, rfl, rfl, rfl, rfl, rfl, trivial⟩ | exact ⟨rfl, rfl, rfl, rfl, rfl, rfl, rfl, rfl, trivial⟩) :
    EW P n B (.loop c) Q ρ f L := by
  refine ew_loop slots vw hp Inv μ s0 ha hv hh hi ?_
  intro s ρ' hI
  refine ⟨fun w hw a hfr hok => wp_mono ((round s ρ' hI).out w hw a hfr hok) ?_⟩
  rintro e a' w' ⟨ρ1, f1, L1, h1, h2, h3⟩
  refine ⟨ρ1, f1, L1, h1, h2, ?_⟩
  cases e with
  | normal => exact h3.out
  | _ => exact h3
theorem nxs {σ : Type} {slots : σ → List (Nat × Value)} {vw : σ → View} {hp : σ → List HE} {Inv : σ → Prop} {μ : σ → Nat} {s : σ} (s' : σ) (hi : Inv s') (hm : μ s' < μ s) (hv : vw s' = f := by rfl) (hh : hp s' = L := by rfl) (ha : Agree ρ (slots s') := by first | exact trivial | exact ⟨rfl, trivial⟩ | exact ⟨rfl, rfl, trivial⟩ | exact ⟨rfl, rfl, rfl, trivial⟩ | exact ⟨rfl, rfl, rfl, rfl, trivial⟩ | exact ⟨rfl, rfl, rfl, rfl, rfl, trivial⟩ | exact ⟨rfl, rfl, rfl, rfl, rfl, rfl, trivial⟩ | exact ⟨rfl, rfl, rfl, rfl, rfl, rfl, rfl, trivial⟩ | exact ⟨rfl, rfl, rfl, rfl, rfl, rfl, rfl, rfl, trivial⟩) :
    NxS slots vw hp Inv μ s ρ f L := ⟨⟨s', ha, hv, hh, hi, hm⟩⟩
/-- A loop that counts, and turns neither view nor blocks. -/
structure Nx (N : Nat) (slots : Nat → List (Nat × Value)) (Inv : Nat → Prop) (f : View) (L : List HE) (k : Nat) (ρ'' : Env) (f'' : View) (L'' : List HE) : Prop where
  out : Agree ρ'' (slots (k + 1)) ∧ f'' = f ∧ L'' = L ∧ k + 1 ≤ N ∧ Inv (k + 1)
theorem lpn (N : Nat) (slots : Nat → List (Nat × Value)) (Inv : Nat → Prop) (hi : Inv 0)
    (round : ∀ k ρ', k ≤ N → Inv k → EW P n B c (thenQ (Nx N slots Inv f L k) Q) (ups ρ' (slots k)) f L)
    (ha : Agree ρ (slots 0) := by first | exact trivial | exact ⟨rfl, trivial⟩ | exact ⟨rfl, rfl, trivial⟩ | exact ⟨rfl, rfl, rfl, trivial⟩ | exact ⟨rfl, rfl, rfl, rfl, trivial⟩ | exact ⟨rfl, rfl, rfl, rfl, rfl, trivial⟩ | exact ⟨rfl, rfl, rfl, rfl, rfl, rfl, trivial⟩ | exact ⟨rfl, rfl, rfl, rfl, rfl, rfl, rfl, trivial⟩ | exact ⟨rfl, rfl, rfl, rfl, rfl, rfl, rfl, rfl, trivial⟩) : EW P n B (.loop c) Q ρ f L := by
  refine ew_loop (σ := Nat) slots (fun _ => f) (fun _ => L) (fun k => k ≤ N ∧ Inv k) (fun k => N - k) 0 ha rfl rfl ⟨Nat.zero_le _, hi⟩ ?_
  rintro k ρ' ⟨hk, hI⟩
  refine ⟨fun w hw a hfr hok => wp_mono ((round k ρ' hk hI).out w hw a hfr hok) ?_⟩
  rintro e a' w' ⟨ρ1, f1, L1, h1, h2, h3⟩
  refine ⟨ρ1, f1, L1, h1, h2, ?_⟩
  cases e with
  | normal =>
    obtain ⟨h4, rfl, rfl, h5, h6⟩ := h3.out
    exact ⟨k + 1, h4, rfl, rfl, ⟨h5, h6⟩, by omega⟩
  | _ => exact h3
theorem nx {N : Nat} {slots : Nat → List (Nat × Value)} {Inv : Nat → Prop} {k : Nat} (hi : Inv (k + 1)) (hk : k + 1 ≤ N := by omega) (ha : Agree ρ (slots (k + 1)) := by first | exact trivial | exact ⟨rfl, trivial⟩ | exact ⟨rfl, rfl, trivial⟩ | exact ⟨rfl, rfl, rfl, trivial⟩ | exact ⟨rfl, rfl, rfl, rfl, trivial⟩ | exact ⟨rfl, rfl, rfl, rfl, rfl, trivial⟩ | exact ⟨rfl, rfl, rfl, rfl, rfl, rfl, trivial⟩ | exact ⟨rfl, rfl, rfl, rfl, rfl, rfl, rfl, trivial⟩ | exact ⟨rfl, rfl, rfl, rfl, rfl, rfl, rfl, rfl, trivial⟩) : Nx N slots Inv f L k ρ f L := ⟨⟨ha, rfl, rfl, hk, hi⟩⟩
end

/-! ### Returns -/
theorem bT {p : Prop} [Decidable p] (h : p) : Value.bool true = .bool (decide p) := by rw [decide_eq_true h]
theorem bF {p : Prop} [Decidable p] (h : ¬ p) : Value.bool false = .bool (decide p) := by rw [decide_eq_false h]
theorem St.ret {w0 w : World} {f0 : View} {R : View → Value → Prop} (h : St ⟨w0, f0, []⟩ f L w) (hR : R f v) : Ret w0 f0 R (.returned v) w := ⟨v, f, rfl, h.below rfl, h.ext, h.old, h.on, hR⟩
variable {w0 : World} {f0 : View}
variable {fn : Func} {R : View → Value → Prop}
theorem ret0 {R : Ending → World → Prop} (h : ∀ w, St B f L w → R (.returned (.tuple #[])) w) (hr : fn.results = #[] := by rfl) : retQ P fn B R .normal ρ f L := by
  intro w hw tmps htm
  exact ⟨.tuple #[], by simp [results, hr], h w hw⟩
theorem ret1 {t : Nat} (hR : R f v) (hr : fn.results = #[.tmp t] := by rfl) (hv : ρ t = v := by rfl) : retQ P fn ⟨w0, f0, []⟩ (Ret w0 f0 R) .ret ρ f L := by
  intro w hw tmps htm
  have := htm t
  rw [hv] at this
  exact ⟨v, by simp [results, hr]; simpa using this, hw.ret hR⟩
theorem ret2 {t u : Nat} {v1 v2 : Value} (hR : R f (.tuple #[v1, v2])) (hr : fn.results = #[.tmp t, .tmp u] := by rfl) (h1 : ρ t = v1 := by rfl) (h2 : ρ u = v2 := by rfl) : retQ P fn ⟨w0, f0, []⟩ (Ret w0 f0 R) .ret ρ f L := by
  intro w hw tmps htm
  have a1 := htm t
  have a2 := htm u
  rw [h1] at a1
  rw [h2] at a2
  refine ⟨_, ?_, hw.ret hR⟩
  simp [results, hr]
  simp at a1 a2
  exact ⟨a1, a2⟩
end
-- E VERSIONS
section
variable {P : Program} {n : Nat} {B : Bs} {f : View} {L : List HE} {ρ : Env} {Q : Post} {K : Kon} {ops : Array Oper} {m : Md} {l l0 : List Oper} {ρ0 : Env}
variable {d : Nat} {x y : Operand} {t ty e : TypeId} {pos : String} {af : Array Edge} {gd : Option (Nat × Bool)} {b o : Nat} {v : Value} {vs cs : List Value}
variable {c c' : Code} {id : Nat} {cc : Operand} {ρE : Env}
variable {w0 : World} {f0 : View}
variable {fn : Func} {R : View → Value → Prop}
theorem callVE {k : Nat} {args : Array Operand} {at_ : Array TypeId} (v : Value) (h : ∀ w g, Sub f g → (∀ e ∈ L, e.seen g) → On g w → Con P k vs w (Ret w g fun _ v' => v' = v)) {ρE : Env} (kk : K ρE f L) (hrun : runP P ops l0 ρ0 = (⟨some d, .call ⟨.value (.func k), args, at_⟩, ty, pos, af, gd⟩ :: l, ρ) := by rfl) (hg : wantedE ops ρ ⟨some d, .call ⟨.value (.func k), args, at_⟩, ty, pos, af, gd⟩ = true := by rfl) (ha : args.toList.map (ev ρ) = vs := by rfl) (hcm : m.calls = true := by rfl) (hE : runP P ops l (up ρ d v) = ([], ρE) := by rfl) : RW m P n B ops K l0 ρ0 f L :=
  callV (v := v) (h := h) (kk := runE kk hE) (hrun := hrun) (hg := hg) (ha := ha) (hcm := hcm)
end
-- END E VERSIONS
end Go.Hog
