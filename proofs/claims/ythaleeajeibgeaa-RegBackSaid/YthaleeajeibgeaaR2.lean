/- Rows: how a pack reads. -/
import Derived.Test.YthaleeajeibgeaaR1
import Derived.Test.YthaleeajeibgeaaFP
set_option linter.unusedVariables false
set_option linter.unusedSimpArgs false
namespace Go.Hog
open Go.RowKit Rp
section
variable {H : Type} {enc : TypeId × Value → H} {P : Program}
/-- A struct of four fields, a cell each. -/
theorem rd4 {α β γ δ : Type} [Rp α] [Rp β] [Rp γ] [Rp δ] {t t0 t1 t2 t3 : TypeId} {fs : Array Field} (ht : P.underlying t = some (.struct fs)) (hc : P.cellsOf t = 4) (h0 : (fs[0]?).map (fun f => (f.type, f.offset)) = some (t0, 0)) (h1 : (fs[1]?).map (fun f => (f.type, f.offset)) = some (t1, 1))
    (h2 : (fs[2]?).map (fun f => (f.type, f.offset)) = some (t2, 2)) (h3 : (fs[3]?).map (fun f => (f.type, f.offset)) = some (t3, 3)) (c0 : P.cellsOf t0 = 1) (c1 : P.cellsOf t1 = 1) (c2 : P.cellsOf t2 = 1) (c3 : P.cellsOf t3 = 1) (r0 : Rd P α t0) (r1 : Rd P β t1) (r2 : Rd P γ t2) (r3 : Rd P δ t3)
    {H : Type} {enc : TypeId × Value → H} {w : World} {fuel : Nat} {cs : List Value} {x : DataW H × List MemPlace} (h : DataW.trod enc P w 0 (fun _ => true) true fuel t cs = some x) (hw : ∀ n ∈ x.1.weights P t, n ≤ reachBytes) :
    ∃ u v z y, cs = [u, v, z, y] ∧ (∃ a : α, rp (whole w) a [u]) ∧ (∃ b : β, rp (whole w) b [v]) ∧ (∃ c : γ, rp (whole w) c [z]) ∧ ∃ d : δ, rp (whole w) d [y] := by
  obtain ⟨xs, n, rfl, rfl, hl, hxl, hf⟩ := DataW.trod_struct ht h
  rw [hc] at hl
  match cs, hl with
  | [u, v, z, y], _ =>
    have part : ∀ (i : Nat) (ti : TypeId) (q : Value), (fs[i]?).map (fun f => (f.type, f.offset)) = some (ti, i) → P.cellsOf ti = 1 → [u, v, z, y][i]? = some q → ∃ r, DataW.trod enc P w 0 (fun _ => true) true n ti [q] = some r ∧ ∀ m ∈ r.1.weights P ti, m ≤ reachBytes := fun i ti q hi hci hy => by
      obtain ⟨f, hfi, he⟩ := Option.map_eq_some_iff.1 hi
      injection he with e1 e2
      subst e1
      have h3 := hf i f hfi
      rw [hci, e2] at h3
      have e3 : ([u, v, z, y].drop i).take 1 = [q] := by
        match i, hy with
        | 0, hy => simp at hy; simp [hy]
        | 1, hy => simp at hy; simp [hy]
        | 2, hy => simp at hy; simp [hy]
        | 3, hy => simp at hy; simp [hy]
      rw [e3] at h3
      have hix : i < xs.length := by
        have := (Array.getElem?_eq_some_iff.1 hfi).1
        omega
      rw [List.getElem?_eq_getElem hix] at h3
      refine ⟨_, h3, fun m hm => hw m ?_⟩
      simp only [DataW.weights, ht]
      exact weightsEach_mem (i := i) (t := f.type) (d := xs[i].1) (by simp [hfi]) (by simp [hix]) hm
    obtain ⟨q0, e0, w0⟩ := part 0 t0 u h0 c0 rfl
    obtain ⟨q1, e1, w1⟩ := part 1 t1 v h1 c1 rfl
    obtain ⟨q2, e2, w2⟩ := part 2 t2 z h2 c2 rfl
    obtain ⟨q3, e3, w3⟩ := part 3 t3 y h3 c3 rfl
    exact ⟨u, v, z, y, rfl, r0 enc w n _ _ e0 w0, r1 enc w n _ _ e1 w1, r2 enc w n _ _ e2 w2, r3 enc w n _ _ e3 w3⟩
theorem rdPack {t t0 t1 t2 t3 : TypeId} {fs : Array Field} (ht : P.underlying t = some (.struct fs)) (hc : P.cellsOf t = 4) (h0 : (fs[0]?).map (fun f => (f.type, f.offset)) = some (t0, 0)) (h1 : (fs[1]?).map (fun f => (f.type, f.offset)) = some (t1, 1))
    (h2 : (fs[2]?).map (fun f => (f.type, f.offset)) = some (t2, 2)) (h3 : (fs[3]?).map (fun f => (f.type, f.offset)) = some (t3, 3)) (c0 : P.cellsOf t0 = 1) (c1 : P.cellsOf t1 = 1) (c2 : P.cellsOf t2 = 1) (c3 : P.cellsOf t3 = 1) (r0 : Rd P Str t0) (r1 : Rd P (List Item) t1) (r2 : Rd P (List Str) t2) (r3 : Rd P Int t3) : Rd P Pack t := by
  intro H enc w fuel cs x h hw
  obtain ⟨u, v, z, y, rfl, ⟨a, ha, ha2⟩, ⟨b, A1, k1, hb, hb2⟩, ⟨d, A2, k2, hd, hd2⟩, ⟨e, he, he2⟩⟩ := rd4 ht hc h0 h1 h2 h3 c0 c1 c2 c3 r0 r1 r2 r3 h hw
  injection ha with ha _; injection hb with hb _; injection hd with hd _; injection he with he _
  subst ha hb hd he
  exact ⟨⟨a, b, d, e⟩, A1, k1, A2, k2, rfl, ha2, hb2, hd2, he2⟩
end
end Go.Hog
