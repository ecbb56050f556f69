/- The engine, part 16: calls that read what is one's own and stays so; rows parted. -/
import Derived.Test.YtjjlfbpmbleabaaDoorE15
set_option linter.unusedVariables false
set_option linter.unusedSimpArgs false
namespace Go.Hog
open Go.RowKit Rp
section
variable {P : Program} {n : Nat} {B : Bs} {f : View} {L : List HE} {ρ : Env} {Q : Post} {K : Kon} {ops : Array Oper} {m : Md} {l l0 : List Oper} {ρ0 : Env}
variable {d : Nat} {x y : Operand} {t ty e : TypeId} {pos : String} {af : Array Edge} {gd : Option (Nat × Bool)} {b o : Nat} {v : Value} {vs cs : List Value}
theorem St.beside {w w' : World} {g : View} {L' : List HE} (hw : St B f L w) (h : St ⟨w, withOwn w f L, []⟩ g L' w') : St B f (L' ++ L) w' := by
  have hlt : ∀ e ∈ L, ∀ b, e.fp = some b → b < w.heap.size := fun e he b hb => hw.fp he hb
  have hkeep : ∀ i, i < w.heap.size → w'.heap[i]? = w.heap[i]? := fun i hi => h.keep i hi (by simp)
  have hL' : ∀ e ∈ L', ∀ b, e.fp = some b → w.heap.size ≤ b := fun e he b hb => by
    rcases h.mine e he b hb with h1 | h1
    · exact h1
    · cases h1
  have hfg : Sub f g := (withOwn_sub hw).trans h.ext
  refine ⟨h.os.trans hw.os, h.tape.trans hw.tape, h.output.trans hw.output, Nat.le_trans hw.size h.size, fun i hi hX => (hkeep i (Nat.lt_of_lt_of_le hi hw.size)).trans (hw.keep i hi hX), hw.ext, hw.old, hfg.on h.on, ?_, ?_, ?_, ?_⟩
  · intro e he
    rcases List.mem_append.1 he with he | he
    · exact h.own e he
    · exact HE.holds_of (hw.own e he) fun b hb => hkeep b (hlt e he b hb)
  · intro e he b hb
    rcases List.mem_append.1 he with he | he
    · exact .inl (Nat.le_trans hw.size (hL' e he b hb))
    · exact hw.mine e he b hb
  · intro e he b hb
    rcases List.mem_append.1 he with he | he
    · exact hw.fresh (hL' e he b hb)
    · exact hw.off e he b hb
  · refine List.pairwise_append.2 ⟨h.apart, hw.apart, fun e he e2 he2 b hb hb2 => ?_⟩
    have h1 := hL' e he b hb
    have h2 := hlt e2 he2 b hb2
    omega
/-- A call that makes what it hands back, and may read what is one's own. -/
theorem callMo {k : Nat} {args : Array Operand} {at_ : Array TypeId} {R : List HE → Value → Prop} (h : ∀ w g, Sub f g → (∀ e ∈ L, e.seen g) → On g w → Con P k vs w (RetM w g [] (fun _ => R)))
    (kk : ∀ v L', R L' v → RW .s P n B ops K l (up ρ d v) f (L' ++ L))
    (hrun : runP P ops l0 ρ0 = (⟨some d, .call ⟨.value (.func k), args, at_⟩, ty, pos, af, gd⟩ :: l, ρ) := by rfl) (hg : wantedE ops ρ ⟨some d, .call ⟨.value (.func k), args, at_⟩, ty, pos, af, gd⟩ = true := by rfl) (ha : args.toList.map (ev ρ) = vs := by rfl) :
    RW .s P n B ops K l0 ρ0 f L := by
  refine rw_runP l0 ρ0 ?_
  rw [hrun]
  have hcon : ∀ w, St B f L w → Con P k vs w (RetM w (withOwn w f L) [] (fun _ => R)) := fun w hw => h w _ (withOwn_sub hw) (withOwn_seen hw) (withOwn_on hw)
  refine ⟨fun w hw => ?_⟩
  have hcf := (hcon w hw).1
  refine SW.out (sw_call (args := ⟨vs⟩) hg (fun w' => run_callf hcf ha w') fun w hw => ?_) w hw
  refine (hcon w hw).2.mono ?_
  rintro en w' ⟨v, g, L', rfl, hs, hR⟩
  exact ⟨v, f, L' ++ L, rfl, hw.beside hs, kk v L' hR⟩
end
theorem Rw.split {α : Type} [Rp α] {g : View} {l : List α} {x : α} {xs : List Value} (h : Rw g (l ++ [x]) xs) : ∃ ys cs, xs = ys ++ cs ∧ Rw g l ys ∧ rp g x cs ∧ ys.length = l.length * sz α := by
  have hl := h.len
  rw [List.length_append, List.length_singleton, Nat.add_mul, Nat.one_mul] at hl
  refine ⟨xs.take (l.length * sz α), xs.drop (l.length * sz α), (List.take_append_drop _ _).symm, ⟨by rw [List.length_take]; omega, fun j hj => ?_⟩, ?_, by rw [List.length_take]; omega⟩
  · have h2 := h.at_ j (by simp; omega)
    rw [List.getElem_append_left hj] at h2
    have h3 : j * sz α + sz α ≤ l.length * sz α := by rw [← Nat.succ_mul]; exact Nat.mul_le_mul_right _ hj
    rw [List.drop_take, List.take_take, Nat.min_eq_left (by omega)]
    exact h2
  · have h2 := h.at_ l.length (by simp)
    rw [List.getElem_append_right (Nat.le_refl _)] at h2
    have e : (xs.drop (l.length * sz α)).take (sz α) = xs.drop (l.length * sz α) := List.take_of_length_le (by rw [List.length_drop]; omega)
    rw [e] at h2
    simpa using h2
/-- An item's cells in a row. -/
theorem Rw.cell {α : Type} [Rp α] {g : View} {l : List α} {xs : List Value} (h : Rw g l xs) {j : Nat} (hj : j < l.length) : ∃ cs, rp g l[j] cs ∧ ∀ k, k < sz α → xs[j * sz α + k]? = cs[k]? := by
  refine ⟨_, h.at_ j hj, fun k hk => ?_⟩
  rw [List.getElem?_take, if_pos hk, List.getElem?_drop]
theorem putL_right (ys cs : List Value) (k : Nat) (vs : List Value) (h : k + vs.length ≤ cs.length) : putL (ys ++ cs) (ys.length + k) vs = ys ++ putL cs k vs := by
  rw [← putL_eq _ _ _ (by simp; omega), ← putL_eq _ _ _ h]
  rw [List.take_append, List.drop_append]
  simp
  rw [List.take_of_length_le (by omega), List.drop_eq_nil_of_le (by omega), Nat.add_assoc, Nat.add_sub_cancel_left, List.nil_append]
end Go.Hog
