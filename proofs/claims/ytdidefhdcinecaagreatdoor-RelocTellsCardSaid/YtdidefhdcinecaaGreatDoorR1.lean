/- Rows: from how an argument reads to what the view holds of it. -/
import Derived.Test.YtdidefhdcinecaaGreatDoorMA
import Derived.Carry
import Derived.ChangeArms
set_option linter.unusedVariables false
set_option linter.unusedSimpArgs false
namespace Go.Hog
open Go.RowKit Rp
section
variable {H : Type} {enc : TypeId × Value → H} {P : Program}
/-- What reads as data of type t is an α, as the view has it. -/
def Rd (P : Program) (α : Type) [Rp α] (t : TypeId) : Prop := ∀ {H : Type} (enc : TypeId × Value → H) (w : World) (fuel : Nat) (cs : List Value) (x : DataW H × List MemPlace),
  DataW.trod enc P w 0 (fun _ => true) true fuel t cs = some x → (∀ n ∈ x.1.weights P t, n ≤ reachBytes) → ∃ v : α, rp (whole w) v cs
theorem whole_cell (w : World) (a : Addr) : (whole w).cell? a = w.cell? a := rfl
theorem rdStr {t : TypeId} (ht : P.underlying t = some .string) : Rd P Str t := by
  intro H enc w fuel cs x h hw
  obtain ⟨s, rfl, rfl, _⟩ := DataW.trod_string ht h
  refine ⟨s.data.toList, rfl, ?_⟩
  have := hw s.data.toList.length (by simp [DataW.weights])
  unfold reachBytes at this
  unfold LB
  omega
theorem rdInt {t : TypeId} (ht : P.underlying t = some (.int .i64)) : Rd P Int t := by
  intro H enc w fuel cs x h hw
  obtain ⟨n, rfl, rfl, hwf⟩ := DataW.trod_int ht h
  refine ⟨n, rfl, ?_⟩
  have h1 : IntKind.i64.min ≤ n ∧ n ≤ 9223372036854775807 := by simpa [Lit.wf] using hwf
  exact h1
theorem cells_get {w : World} {a : Addr} {n : Nat} {cs : List Value} (h : w.cells? 0 a n = some cs) : cs.length = n ∧ ∀ j v, cs[j]? = some v → w.cell? (a.add j) = some v := by
  unfold World.cells? at h
  rw [if_pos (Nat.zero_le _)] at h
  have hl := mapM_some_length h
  refine ⟨by simpa using hl, fun j v hj => ?_⟩
  have hjn : j < n := by
    have := (List.getElem?_eq_some_iff.1 hj).1
    simp at hl
    omega
  have := mapM_some_get h j j (by simp [hjn])
  rw [this, hj]
theorem addr_plain {w : World} {a : Addr} {v : Value} (h : w.cell? (a.add 0) = some v) : ∃ b o, a = ⟨b, o, none⟩ := by
  obtain ⟨b, o, sp⟩ := a
  cases sp with
  | none => exact ⟨b, o, rfl⟩
  | some x =>
    exfalso
    unfold World.cell? Addr.add at h
    split at h <;> simp_all
theorem weightsAll_mem {H : Type} {P : Program} {e : TypeId} : ∀ {l : List (DataW H)} {d : DataW H} {n : Nat}, d ∈ l → n ∈ d.weights P e → n ∈ DataW.weightsAll P e l
  | d' :: l, d, n, hd, hn => by
    unfold DataW.weightsAll
    rw [List.mem_append]
    rcases List.mem_cons.1 hd with rfl | hd
    · exact .inl hn
    · exact .inr (weightsAll_mem hd hn)
theorem rdSl {α : Type} [Rp α] {t e : TypeId} (ht : P.underlying t = some (.slice e)) (hc : P.cellsOf e = Rp.sz α) (hb : 1 ≤ P.bytesOf e) (he : Rd P α e) : Rd P (List α) t := by
  intro H enc w fuel cs x h hw
  rcases DataW.trod_slice ht h with ⟨rfl, rfl⟩ | ⟨a, len, cap, elems, rest, n, rfl, rfl, rfl, _, hlc, hcm, hel, hcell, _⟩
  · exact ⟨[], none, 0, rfl, Sl.nil _⟩
  · have hlen : len ≤ LB := by
      have h1 := hw (((elems.map (·.1)).length + (rest.map (·.1)).length) * P.bytesOf e) (by simp only [DataW.weights, ht]; exact List.mem_cons_self)
      have h2 : (elems.map (·.1)).length + (rest.map (·.1)).length ≤ ((elems.map (·.1)).length + (rest.map (·.1)).length) * P.bytesOf e := Nat.le_mul_of_pos_right _ hb
      simp only [List.length_map] at h1 h2
      unfold reachBytes at h1
      unfold LB
      omega
    have key : ∀ i, i < len → ∃ v : α, ∃ csi, rp (whole w) v csi ∧ w.cells? 0 (a.add (i * P.cellsOf e)) (P.cellsOf e) = some csi := fun i hi => by
      have h1 := hcell i hi
      rw [List.getElem?_eq_getElem (by omega)] at h1
      obtain ⟨csi, h2, h3⟩ := Option.bind_eq_some_iff.1 h1
      obtain ⟨v, hv⟩ := he enc w n csi _ h3 (fun m hm => hw m (by
        simp only [DataW.weights, ht]
        refine List.mem_cons_of_mem _ (List.mem_append_left _ (weightsAll_mem ?_ hm))
        exact List.mem_map.2 ⟨elems[i], List.getElem_mem _, rfl⟩))
      exact ⟨v, csi, hv, h2⟩
    have build : ∀ k, k ≤ len → ∃ l : List α, l.length = k ∧ ∀ i (hi : i < l.length), ∃ csi, rp (whole w) l[i] csi ∧ w.cells? 0 (a.add (i * P.cellsOf e)) (P.cellsOf e) = some csi := by
      intro k
      induction k with
      | zero => exact fun _ => ⟨[], rfl, fun i hi => by simp at hi⟩
      | succ k ih =>
        intro hk
        obtain ⟨l, h1, h2⟩ := ih (by omega)
        obtain ⟨v, csi, h3, h4⟩ := key k (by omega)
        refine ⟨l ++ [v], by simp [h1], fun i hi => ?_⟩
        by_cases hik : i < l.length
        · rw [List.getElem_append_left hik]
          exact h2 i hik
        · have : i = k := by simp at hi; omega
          subst this
          refine ⟨csi, ?_, h4⟩
          rw [List.getElem_append_right (by omega)]
          simpa using h3
    obtain ⟨l, hl, hcs⟩ := build len (Nat.le_refl _)
    subst hl
    refine ⟨l, some a, cap, rfl, hlc, hlen, hcm, fun j hj => ?_⟩
    obtain ⟨csi, h1, h2⟩ := hcs j hj
    have h3 := cells_get h2
    have h4 : 0 < csi.length := by rw [h3.1, hc]; exact Rp.pos
    obtain ⟨b, o, rfl⟩ : ∃ b o, a = ⟨b, o, none⟩ := by
      obtain ⟨cs0, _, h6⟩ := hcs 0 (by omega)
      have h7 := cells_get h6
      have h8 : 0 < cs0.length := by rw [h7.1, hc]; exact Rp.pos
      have h5 := h7.2 0 cs0[0] (List.getElem?_eq_getElem h8)
      rw [Nat.zero_mul] at h5
      have e1 : (a.add 0).add 0 = a := by simp [Addr.add]
      rw [e1] at h5
      obtain ⟨b, o, sp⟩ := a
      cases sp with
      | none => exact ⟨b, o, rfl⟩
      | some x =>
        exfalso
        unfold World.cell? at h5
        split at h5 <;> simp at h5
    refine ⟨b, o, rfl, csi, h1, Cells.of fun k v hv => ?_⟩
    have h5 := h3.2 k v hv
    rw [add_plain, add_plain, hc] at h5
    exact h5
theorem weightsEach_mem {H : Type} {P : Program} : ∀ {ts : List TypeId} {l : List (DataW H)} {i : Nat} {t : TypeId} {d : DataW H} {n : Nat}, ts[i]? = some t → l[i]? = some d → n ∈ d.weights P t → n ∈ DataW.weightsEach P ts l
  | t' :: ts, d' :: l, 0, t, d, n, ht, hd, hn => by
    simp at ht hd
    subst ht hd
    unfold DataW.weightsEach
    exact List.mem_append_left _ hn
  | t' :: ts, d' :: l, i + 1, t, d, n, ht, hd, hn => by
    unfold DataW.weightsEach
    exact List.mem_append_right _ (weightsEach_mem (i := i) (by simpa using ht) (by simpa using hd) hn)
/-- A struct of three fields, a cell each. -/
theorem rd3 {α β γ : Type} [Rp α] [Rp β] [Rp γ] {t t0 t1 t2 : TypeId} {fs : Array Field} (ht : P.underlying t = some (.struct fs)) (hc : P.cellsOf t = 3) (h0 : (fs[0]?).map (fun f => (f.type, f.offset)) = some (t0, 0)) (h1 : (fs[1]?).map (fun f => (f.type, f.offset)) = some (t1, 1))
    (h2 : (fs[2]?).map (fun f => (f.type, f.offset)) = some (t2, 2)) (c0 : P.cellsOf t0 = 1) (c1 : P.cellsOf t1 = 1) (c2 : P.cellsOf t2 = 1) (r0 : Rd P α t0) (r1 : Rd P β t1) (r2 : Rd P γ t2)
    {H : Type} {enc : TypeId × Value → H} {w : World} {fuel : Nat} {cs : List Value} {x : DataW H × List MemPlace} (h : DataW.trod enc P w 0 (fun _ => true) true fuel t cs = some x) (hw : ∀ n ∈ x.1.weights P t, n ≤ reachBytes) :
    ∃ u v z, cs = [u, v, z] ∧ (∃ a : α, rp (whole w) a [u]) ∧ (∃ b : β, rp (whole w) b [v]) ∧ ∃ c : γ, rp (whole w) c [z] := by
  obtain ⟨xs, n, rfl, rfl, hl, hxl, hf⟩ := DataW.trod_struct ht h
  rw [hc] at hl
  match cs, hl with
  | [u, v, z], _ =>
    have part : ∀ (i : Nat) (ti : TypeId) (y : Value), (fs[i]?).map (fun f => (f.type, f.offset)) = some (ti, i) → P.cellsOf ti = 1 → [u, v, z][i]? = some y → ∃ q, DataW.trod enc P w 0 (fun _ => true) true n ti [y] = some q ∧ ∀ m ∈ q.1.weights P ti, m ≤ reachBytes := fun i ti y hi hci hy => by
      obtain ⟨f, hfi, he⟩ := Option.map_eq_some_iff.1 hi
      injection he with e1 e2
      subst e1
      have h3 := hf i f hfi
      rw [hci, e2] at h3
      have e3 : ([u, v, z].drop i).take 1 = [y] := by
        match i, hy with
        | 0, hy => simp at hy; simp [hy]
        | 1, hy => simp at hy; simp [hy]
        | 2, hy => simp at hy; simp [hy]
      rw [e3] at h3
      have hix : i < xs.length := by
        have := (Array.getElem?_eq_some_iff.1 hfi).1
        omega
      rw [List.getElem?_eq_getElem hix] at h3
      refine ⟨_, h3, fun m hm => hw m ?_⟩
      simp only [DataW.weights, ht]
      exact weightsEach_mem (i := i) (t := f.type) (d := xs[i].1) (by simp [hfi]) (by simp [hix]) hm
    obtain ⟨q0, e0, w0⟩ := part 0 t0 u h0 c0 rfl
    obtain ⟨q1, e1, w1⟩ := part 1 t1 v h1 c1 rfl
    obtain ⟨q2, e2, w2⟩ := part 2 t2 z h2 c2 rfl
    exact ⟨u, v, z, rfl, r0 enc w n _ _ e0 w0, r1 enc w n _ _ e1 w1, r2 enc w n _ _ e2 w2⟩
theorem rdNode {t t0 t1 t2 : TypeId} {fs : Array Field} (ht : P.underlying t = some (.struct fs)) (hc : P.cellsOf t = 3) (h0 : (fs[0]?).map (fun f => (f.type, f.offset)) = some (t0, 0)) (h1 : (fs[1]?).map (fun f => (f.type, f.offset)) = some (t1, 1))
    (h2 : (fs[2]?).map (fun f => (f.type, f.offset)) = some (t2, 2)) (c0 : P.cellsOf t0 = 1) (c1 : P.cellsOf t1 = 1) (c2 : P.cellsOf t2 = 1) (r0 : Rd P Str t0) (r1 : Rd P Int t1) (r2 : Rd P Str t2) : Rd P Node t := by
  intro H enc w fuel cs x h hw
  obtain ⟨u, v, z, rfl, ⟨a, ha, ha2⟩, ⟨b, hb, hb2, hb3⟩, ⟨d, hd, hd2⟩⟩ := rd3 ht hc h0 h1 h2 c0 c1 c2 r0 r1 r2 h hw
  injection ha with ha _; injection hb with hb _; injection hd with hd _
  subst ha hb hd
  exact ⟨⟨a, b, d⟩, rfl, ha2, hd2, hb2, hb3⟩
theorem rdItem {t t0 t1 t2 : TypeId} {fs : Array Field} (ht : P.underlying t = some (.struct fs)) (hc : P.cellsOf t = 3) (h0 : (fs[0]?).map (fun f => (f.type, f.offset)) = some (t0, 0)) (h1 : (fs[1]?).map (fun f => (f.type, f.offset)) = some (t1, 1))
    (h2 : (fs[2]?).map (fun f => (f.type, f.offset)) = some (t2, 2)) (c0 : P.cellsOf t0 = 1) (c1 : P.cellsOf t1 = 1) (c2 : P.cellsOf t2 = 1) (r0 : Rd P Str t0) (r1 : Rd P (List Str) t1) (r2 : Rd P (List Node) t2) : Rd P Item t := by
  intro H enc w fuel cs x h hw
  obtain ⟨u, v, z, rfl, ⟨a, ha, ha2⟩, ⟨b, A1, k1, hb, hb2⟩, ⟨d, A2, k2, hd, hd2⟩⟩ := rd3 ht hc h0 h1 h2 c0 c1 c2 r0 r1 r2 h hw
  injection ha with ha _; injection hb with hb _; injection hd with hd _
  subst ha hb hd
  exact ⟨⟨a, b, d⟩, A1, k1, A2, k2, rfl, ha2, hb2, hd2⟩
end
end Go.Hog
