/- The engine, part 20: structs in own rows, fields of values, maps whichever the key. -/
import Derived.Test.YthaleeajeibgeaaE19
set_option linter.unusedVariables false
set_option linter.unusedSimpArgs false
namespace Go.Hog
open Go.RowKit Rp
def fldV (P : Program) (t : TypeId) (i : Nat) (v : Value) : Option Value :=
  match P.underlying t with
  | some (.struct fs) => (match fs[i]? with
    | some fd => (match aggT P fd.type, v with
      | some false, .agg cs => cs.toList[fd.offset]?
      | _, _ => none)
    | none => none)
  | _ => none
section
variable {P : Program} {n : Nat} {B : Bs} {f : View} {L : List HE} {ρ : Env} {Q : Post} {K : Kon} {ops : Array Oper} {m : Md} {l l0 : List Oper} {ρ0 : Env}
variable {d : Nat} {x y : Operand} {t ty e t2 : TypeId} {pos : String} {af : Array Edge} {gd : Option (Nat × Bool)} {b o : Nat} {v : Value} {vs cs : List Value}
/-- A field of a struct's value. -/
theorem fld {i : Nat} (k : RW m P n B ops K l (up ρ d v) f L) (hrun : runP P ops l0 ρ0 = (⟨some d, .field t x i, ty, pos, af, gd⟩ :: l, ρ) := by rfl) (hg : wantedE ops ρ ⟨some d, .field t x i, ty, pos, af, gd⟩ = true := by rfl) (hv : fldV P t i (ev ρ x) = some v := by rfl) : RW m P n B ops K l0 ρ0 f L := by
  refine rw_runP l0 ρ0 ?_
  rw [hrun]
  unfold fldV at hv
  split at hv
  · rename_i fs e1
    split at hv
    · rename_i fd e2
      split at hv
      · rename_i cs' e3 e4
        refine rw_y hg (fun w hw => ?_) k
        have h1 : cs'[fd.offset]? = some v := by rw [← hv]; simp
        simp only [execOp, Instr.field, Sem.run_bind, run_und e1, Result.andThen_ok, e2, e4, asAgg, Sem.run_pure, part, run_aggT e3]
        simp [h1]
      · cases hv
    · cases hv
  · cases hv
/-- A struct of an own row (entry i). -/
theorem ldrA (i : Nat) {c nn sz : Nat} {xs : List Value} (hc : ∀ j v, vs[j]? = some v → xs[o + j]? = some v) (k : RW m P n B ops K l (up ρ d (.agg ⟨vs⟩)) f L) (hrun : runP P ops l0 ρ0 = (⟨some d, .load t x, ty, pos, af, gd⟩ :: l, ρ) := by rfl) (hg : wantedE ops ρ ⟨some d, .load t x, ty, pos, af, gd⟩ = true := by rfl) (hi : L[i]? = some (.row (some ⟨b, 0, none⟩) nn c e sz xs) := by rfl) (hx : ev ρ x = .pointer (some ⟨b, o, none⟩) := by rfl) (ht : aggT P t = some true := by rfl) (hz : sizeT P t = some vs.length := by rfl) : RW m P n B ops K l0 ρ0 f L := by
  refine rw_runP l0 ρ0 ?_
  rw [hrun]
  exact rw_y hg (fun w hw => by
    have := run_loadVarA (P := P) (w := w) (a := ⟨b, o, none⟩) ht hz (fun j v hj => by rw [add_plain]; exact hw.rowc hi (hc j v hj))
    simp [execOp, Instr.loadAt, hx, Instr.sureAddr, this]) k
variable {ks : List Str} {g : Str → Value} {s : Str} {c : Bool} {z : Value} {ke ee : TypeId}
/-- A look into a map (entry i), whichever the key: what is not there reads as zero. -/
theorem lkA (i : Nat) (hs : s ∉ ks → g s = z) (k : RW m P n B ops K l (up ρ d (g s)) f L) (hrun : runP P ops l0 ρ0 = (⟨some d, .lookup t x y false, ty, pos, af, gd⟩ :: l, ρ) := by rfl) (hg : wantedE ops ρ ⟨some d, .lookup t x y false, ty, pos, af, gd⟩ = true := by rfl)
    (hi : L[i]? = some (.mp b (mapF ks g)) := by rfl) (hx : ev ρ x = .map (some b) := by rfl) (hy : ev ρ y = str s := by rfl) (ht : mapS P t = some (ke, ee, z) := by rfl) : RW m P n B ops K l0 ρ0 f L := by
  by_cases h : s ∈ ks
  · exact lkI (c := false) i h k hrun hg hi hx hy ht
  · exact lkO (c := false) i h (by
      show RW m P n B ops K l (up ρ d z) f L
      rw [← hs h]
      exact k) hrun hg hi hx hy ht
theorem lkVA (hm : (HE.mp b (mapF ks g)).seen f) (hs : s ∉ ks → g s = z) (k : RW m P n B ops K l (up ρ d (g s)) f L) (hrun : runP P ops l0 ρ0 = (⟨some d, .lookup t x y false, ty, pos, af, gd⟩ :: l, ρ) := by rfl) (hg : wantedE ops ρ ⟨some d, .lookup t x y false, ty, pos, af, gd⟩ = true := by rfl)
    (hx : ev ρ x = .map (some b) := by rfl) (hy : ev ρ y = str s := by rfl) (ht : mapS P t = some (ke, ee, z) := by rfl) : RW m P n B ops K l0 ρ0 f L := by
  by_cases h : s ∈ ks
  · exact lkVI (c := false) hm h k hrun hg hx hy ht
  · exact lkVO (c := false) hm h (by
      show RW m P n B ops K l (up ρ d z) f L
      rw [← hs h]
      exact k) hrun hg hx hy ht
def kAdd (ks : List Str) (s : Str) : List Str := if s ∈ ks then ks else ks ++ [s]
theorem kAdd_nodup {ks : List Str} {s : Str} (h : ks.Nodup) : (kAdd ks s).Nodup := by
  unfold kAdd
  split
  · exact h
  · rename_i hn
    refine List.nodup_append.2 ⟨h, by simp, fun a ha b hb e => ?_⟩
    rw [List.mem_singleton] at hb
    subst hb e
    exact hn ha
theorem kAdd_mem {ks : List Str} {s u : Str} : u ∈ kAdd ks s ↔ u ∈ ks ∨ u = s := by
  unfold kAdd
  split
  · rename_i h
    constructor
    · exact .inl
    · rintro (h1 | rfl)
      · exact h1
      · exact h
  · simp
/-- A key, whichever, gets a value. -/
theorem muA (i : Nat) (hnd : ks.Nodup) {u : Operand} {uv : Value} (k : RW .s P n B ops K l ρ f (L.set i (.mp b (mapF (kAdd ks s) (updF g s uv))))) (hrun : runP P ops l0 ρ0 = (⟨none, .mapUpdate t x y u, ty, pos, af, gd⟩ :: l, ρ) := by rfl) (hg : wantedE ops ρ ⟨none, .mapUpdate t x y u, ty, pos, af, gd⟩ = true := by rfl)
    (hi : L[i]? = some (.mp b (mapF ks g)) := by rfl) (hx : ev ρ x = .map (some b) := by rfl) (hy : ev ρ y = str s := by rfl) (hu : ev ρ u = uv := by rfl) (ht : mapS P t = some (ke, ee, z) := by rfl) : RW .s P n B ops K l0 ρ0 f L := by
  by_cases h : s ∈ ks
  · exact muI i h hnd (by unfold kAdd at k; rw [if_pos h] at k; exact k) hrun hg hi hx hy hu ht
  · exact muO i h (by unfold kAdd at k; rw [if_neg h] at k; exact k) hrun hg hi hx hy hu ht
end
end Go.Hog
