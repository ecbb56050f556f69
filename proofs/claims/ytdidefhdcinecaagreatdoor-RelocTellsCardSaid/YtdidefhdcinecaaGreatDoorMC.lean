/- E6 E7, in one text. -/
import Derived.Test.YtdidefhdcinecaaGreatDoorMB
import Derived.Laws.MakeOwn
set_option linter.unusedVariables false
set_option linter.unusedSimpArgs false
namespace Go.Hog
open Go.RowKit Rp

/-! ### Literals of structs and slices -/
theorem foldl_put (off : Nat) : ∀ (vs : List Value) (k : Nat) (cs : List Value), off + k + vs.length ≤ cs.length →
    (vs.zipIdx k).foldl (fun (a : Array Value) (p : Value × Nat) => a.setIfInBounds (off + p.2) p.1) ⟨cs⟩ = ⟨cs.take (off + k) ++ vs ++ cs.drop (off + k + vs.length)⟩
  | [], k, cs, _ => by simp
  | v :: vs, k, cs, h => by
    simp only [List.length_cons] at h
    have ih := foldl_put off vs (k + 1) (cs.set (off + k) v) (by rw [List.length_set]; omega)
    simp only [List.zipIdx_cons, List.foldl_cons]
    rw [show (⟨cs⟩ : Array Value).setIfInBounds (off + k) v = ⟨cs.set (off + k) v⟩ by simp]
    rw [ih]
    congr 1
    apply List.ext_getElem?
    intro j
    simp only [List.getElem?_append, List.length_append, List.length_take, List.length_set, List.getElem?_take, List.getElem?_drop, List.getElem?_set, List.length_cons]
    rw [Nat.min_eq_left (by omega), Nat.min_eq_left (by omega)]
    by_cases h1 : j < off + k
    · simp [h1, show j < off + (k + 1) by omega, show j < off + (k + 1) + vs.length by omega, show j < off + k + (vs.length + 1) by omega, show ¬ off + k = j by omega]
    · by_cases h2 : j = off + k
      · subst h2
        simp [show off + k < off + (k + 1) by omega, show off + k < off + (k + 1) + vs.length by omega, show off + k < cs.length by omega, show off + k < off + k + (vs.length + 1) by omega]
      · by_cases h3 : j < off + k + (vs.length + 1)
        · have e1 : j - (off + k) = (j - (off + (k + 1))) + 1 := by omega
          simp [h1, h3, show ¬ j < off + (k + 1) by omega, show j < off + (k + 1) + vs.length by omega, e1]
        · simp [h1, h3, show ¬ j < off + (k + 1) by omega, show ¬ j < off + (k + 1) + vs.length by omega]
          rw [if_neg (by omega)]
          congr 1
          omega
def fillL (place : Nat → Option (Nat × Nat)) : List Value → List (Nat × Value) → Option (List Value)
  | cells, [] => some cells
  | cells, (i, v) :: rest =>
    match place i with
    | none => none
    | some (off, size) => bif Nat.beq v.cells.toList.length size && Nat.ble (off + v.cells.toList.length) cells.length then fillL place (putL cells off v.cells.toList) rest else none
theorem fill_eq (place : Nat → Option (Nat × Nat)) : ∀ (l : List (Nat × Value)) (cells r : List Value), fillL place cells l = some r → Instr.fill place ⟨cells⟩ l = some ⟨r⟩
  | [], cells, r, h => by simp [fillL] at h; subst h; rfl
  | (i, v) :: rest, cells, r, h => by
    simp only [fillL] at h
    simp only [Instr.fill]
    cases hp : place i with
    | none => rw [hp] at h; cases h
    | some p =>
      obtain ⟨off, size⟩ := p
      rw [hp] at h
      simp only at h ⊢
      cases hc : (Nat.beq v.cells.toList.length size && Nat.ble (off + v.cells.toList.length) cells.length) with
      | false => rw [hc] at h; cases h
      | true =>
        rw [hc] at h
        simp only [cond_true] at h
        simp only [Bool.and_eq_true] at hc
        have h1 : v.cells.toList.length = size := Nat.eq_of_beq_eq_true hc.1
        have h2 : off + v.cells.toList.length ≤ cells.length := by simpa [Nat.ble_eq] using hc.2
        rw [Array.length_toList] at h1 h2
        have hz : ¬ (v.cells.size ≠ size || decide (off + v.cells.size > (Array.mk cells).size)) = true := by
          simp [h1]
          rw [← h1]; exact h2
        rw [if_neg hz]
        have e : v.cells.zipIdx.foldl (fun cs x => cs.setIfInBounds (off + x.2) x.1) (Array.mk cells) = ⟨putL cells off v.cells.toList⟩ := by
          have := foldl_put off v.cells.toList 0 cells (by simpa using h2)
          rw [← Array.foldl_toList, Array.toList_zipIdx, this, ← putL_eq _ _ _ (by simpa using h2)]
          simp
        rw [e]
        exact fill_eq place rest _ r h
def initL : Nat → List Value → List Value
  | 0, _ => []
  | k + 1, zs => zs ++ initL k zs
theorem initL_get (zs : List Value) (hz : 0 < zs.length) : ∀ (k : Nat), (initL k zs).length = k * zs.length ∧ ∀ j, j < k * zs.length → (initL k zs)[j]? = zs[j % zs.length]?
  | 0 => ⟨by simp [initL], fun j hj => by omega⟩
  | k + 1 => by
    have ih := initL_get zs hz k
    refine ⟨by simp [initL, ih.1, Nat.add_mul]; omega, fun j hj => ?_⟩
    simp only [initL]
    by_cases hlt : j < zs.length
    · rw [List.getElem?_append_left hlt, Nat.mod_eq_of_lt hlt]
    · rw [List.getElem?_append_right (by omega), ih.2 (j - zs.length) (by rw [Nat.add_mul] at hj; omega)]
      congr 1
      rw [Nat.mod_eq_sub_mod (a := j) (by omega)]
theorem init_eq (zs : List Value) (hz : 0 < zs.length) (k : Nat) : (Array.range (k * zs.length)).map (fun x => (Array.mk zs)[x % (Array.mk zs).size]!) = ⟨initL k zs⟩ := by
  apply Array.ext'
  apply List.ext_getElem?
  intro j
  have hi := initL_get zs hz k
  by_cases hlt : j < k * zs.length
  · rw [hi.2 j hlt]
    have hm : j % zs.length < zs.length := Nat.mod_lt _ hz
    simp [hlt, hm]
  · rw [List.getElem?_eq_none (by simp; omega), List.getElem?_eq_none (by rw [hi.1]; omega)]
def placesL (P : Program) : List Field → Option (List (Nat × Nat))
  | [] => some []
  | fd :: fs => (match P.info? fd.type, placesL P fs with | some i, some r => some ((fd.offset, i.size) :: r) | _, _ => none)
def buildV (P : Program) (t : TypeId) (parts : List (Nat × Value)) : Option (List Value) :=
  match zeroT P t, P.underlying t with
  | some zs, some (.struct fs) => (match placesL P fs.toList with | some pl => fillL (fun i : Nat => pl[i]?) zs parts | none => none)
  | _, _ => none
section
variable {P : Program}
theorem run_zeroT {t : TypeId} {zs : List Value} (h : zeroT P t = some zs) (w : World) : ∃ z, (zeroValue t).run P w = .ok z w ∧ z.cells = ⟨zs⟩ := by
  unfold zeroT at h
  obtain ⟨z, hz1, rfl⟩ := Option.map_eq_some_iff.1 h
  obtain ⟨i, hi, hz2⟩ := Option.bind_eq_some_iff.1 hz1
  exact ⟨z, by simp [zeroValue, run_info hi, hz2], rfl⟩
theorem run_places (w : World) : ∀ (fs : List Field) (pl : List (Nat × Nat)), placesL P fs = some pl → (fs.mapM (fun fd => do pure (fd.offset, ← sizeOf fd.type) : Field → Sem (Nat × Nat))).run P w = .ok pl w
  | [], pl, h => by simp [placesL] at h; subst h; simp
  | fd :: fs, pl, h => by
    simp only [placesL] at h
    split at h
    · rename_i i r h1 h2
      injection h with h; subst h
      have ih := run_places w fs r h2
      simp only [List.mapM_cons, Sem.run_bind, run_size h1, Result.andThen_ok, Sem.run_pure, ih]
    · cases h
theorem run_build {t : TypeId} {parts : List (Nat × Value)} {cs : List Value} (h : buildV P t parts = some cs) (w : World) : (Instr.build t ⟨parts⟩).run P w = .ok (.agg ⟨cs⟩) w := by
  unfold buildV at h
  split at h
  · rename_i zs fs h1 h2
    split at h
    · rename_i pl h3
      obtain ⟨z, hz, hzc⟩ := run_zeroT h1 w
      have hm : (fs.mapM (fun fd => do pure (fd.offset, ← sizeOf fd.type) : Field → Sem (Nat × Nat))).run P w = .ok ⟨pl⟩ w := by
        rw [Array.mapM_eq_mapM_toList]
        have := run_places (P := P) w fs.toList pl h3
        simp only [Sem.run_map, this]
        rfl
      have hf := fill_eq (fun i : Nat => pl[i]?) parts zs cs h
      simp only [Instr.build, Sem.run_bind, hz, Result.andThen_ok, run_und h2, hm, hzc]
      have e : (fun x : Nat => (Array.mk pl)[x]?) = fun i : Nat => pl[i]? := by funext i; simp
      simp only [e, hf, Sem.run_pure]
    · cases h
  · cases h
def sliceV (P : Program) (t : TypeId) (len : Nat) (parts : List (Nat × Value)) : Option (Nat × Nat × List Value) :=
  match elemT P t with
  | some e =>
    (match sizeT P e, zeroT P e with
     | some sz, some zs => bif Nat.beq zs.length sz && Nat.ble 1 sz && Nat.ble 1 len && Nat.ble (len * sz) 16777216 then (fillL (fun i => some (i * sz, sz)) (initL len zs) parts).map (fun cs => (e, sz, cs)) else none
     | _, _ => none)
  | none => none
theorem run_buildSlice {t : TypeId} {len e sz : Nat} {parts : List (Nat × Value)} {cs : List Value} (h : sliceV P t len parts = some (e, sz, cs)) (w : World) :
    (Instr.buildSlice t len ⟨parts⟩).run P w = .ok (.slice (some ⟨w.heap.size, 0, none⟩) len len) (w.alloc (.cells ⟨cs⟩ e)) ∧ elemT P t = some e ∧ sizeT P e = some sz := by
  unfold sliceV at h
  split at h
  · rename_i e' h1
    split at h
    · rename_i sz' zs h2 h3
      cases hc : (Nat.beq zs.length sz' && Nat.ble 1 sz' && Nat.ble 1 len && Nat.ble (len * sz') 16777216) with
      | false => rw [hc] at h; cases h
      | true =>
        rw [hc] at h
        simp only [cond_true] at h
        obtain ⟨cs', hf, he⟩ := Option.map_eq_some_iff.1 h
        simp only [Prod.mk.injEq] at he
        obtain ⟨rfl, rfl, rfl⟩ := he
        simp only [Bool.and_eq_true, Nat.ble_eq] at hc
        obtain ⟨⟨⟨c1, c2⟩, c3⟩, c4⟩ := hc
        have c1' : zs.length = sz' := Nat.eq_of_beq_eq_true c1
        subst c1'
        refine ⟨?_, h1, h2⟩
        obtain ⟨z, hz, hzc⟩ := run_zeroT h3 w
        have hff := fill_eq _ parts (initL len zs) cs' hf
        have hne : ¬ len * zs.length = 0 := by
          intro e0
          rcases Nat.mul_eq_zero.1 e0 with e0 | e0 <;> omega
        have hie := init_eq zs c2 len
        simp only [Instr.buildSlice, Sem.run_bind, run_und (und_elemT h1), Result.andThen_ok, run_sizeT h2, if_neg hne, hz, hzc, Sem.run_pure, hie, hff]
        rw [if_neg (by omega)]
        simp only [Sem.run_bind, Sem.run_pure, Result.andThen_ok, hz, hzc, hie, hff, newRow]
        simp
    · cases h
  · cases h
end
section
variable {P : Program} {n : Nat} {B : Bs} {f : View} {L : List HE} {ρ : Env} {Q : Post} {K : Kon} {ops : Array Oper} {m : Md} {l l0 : List Oper} {ρ0 : Env}
variable {d : Nat} {x y : Operand} {t ty e : TypeId} {pos : String} {af : Array Edge} {gd : Option (Nat × Bool)} {b o : Nat} {v : Value} {vs cs : List Value}
def pairs (ρ : Env) (ps : Array (Nat × Operand)) : List (Nat × Value) := ps.toList.map fun p => (p.1, ev ρ p.2)
theorem pairs_eq (ρ : Env) (ps : Array (Nat × Operand)) : (ps.map fun (i, x) => (i, ev ρ x)) = ⟨pairs ρ ps⟩ := by
  apply Array.ext'
  simp [pairs]
/-- A struct's literal. -/
theorem bld {ps : Array (Nat × Operand)} (k : RW m P n B ops K l (up ρ d (.agg ⟨cs⟩)) f L) (hrun : runP P ops l0 ρ0 = (⟨some d, .build t ps, ty, pos, af, gd⟩ :: l, ρ) := by rfl) (hg : wantedE ops ρ ⟨some d, .build t ps, ty, pos, af, gd⟩ = true := by rfl)
    (hb : buildV P t (pairs ρ ps) = some cs := by rfl) : RW m P n B ops K l0 ρ0 f L := by
  refine rw_runP l0 ρ0 ?_
  rw [hrun]
  exact rw_y hg (fun w _ => by simp only [execOp, pairs_eq, Sem.run_bind, run_build hb, Result.andThen_ok, Sem.run_pure]) k
/-- A slice's literal, not empty: a new row, ahead of all. -/
theorem bsl {ps : Array (Nat × Operand)} {len sz : Nat} (k : ∀ b, RW .s P n B ops K l (up ρ d (.slice (some ⟨b, 0, none⟩) len len)) f (.row (some ⟨b, 0, none⟩) len len e sz cs :: L)) (hrun : runP P ops l0 ρ0 = (⟨some d, .buildSlice t len ps, ty, pos, af, gd⟩ :: l, ρ) := by rfl) (hg : wantedE ops ρ ⟨some d, .buildSlice t len ps, ty, pos, af, gd⟩ = true := by rfl)
    (hb : sliceV P t len (pairs ρ ps) = some (e, sz, cs) := by rfl) (hl : Nat.beq cs.length (len * sz) && Nat.ble len 16777216 = true := by rfl) : RW .s P n B ops K l0 ρ0 f L := by
  refine rw_runP l0 ρ0 ?_
  rw [hrun]
  refine sw_do hg fun w hw => ⟨_, w.alloc (.cells ⟨cs⟩ e), ?_, .inl ⟨_, rfl, f, _, ?_, k w.heap.size⟩⟩
  · simp only [execOp, pairs_eq, Sem.run_bind, (run_buildSlice hb w).1, Result.andThen_ok, Sem.run_pure]
  · simp only [Bool.and_eq_true, Nat.ble_eq] at hl
    have h1 : cs.length = len * sz := Nat.eq_of_beq_eq_true hl.1
    have h2 : len ≤ 16777216 := by simpa using hl.2
    refine hw.new (e := .row (some ⟨w.heap.size, 0, none⟩) len len e sz cs) ⟨h1, .inr ⟨w.heap.size, len, ⟨cs⟩, rfl, Nat.zero_le _, heap_new _ _, Nat.le_refl _, by simp only [maxLen]; omega, by simpa using h1, by rw [← h1]; simp⟩⟩ rfl

/-! ### Rows -/
/-- A nil slice is a row of none. -/
theorem nilrow (e sz : Nat) (k : RW .s P n B ops K l ρ f (.row none 0 0 e sz [] :: L)) : RW .s P n B ops K l ρ f L :=
  ⟨fun w hw a ha hok => k.out w (hw.cons (e := .row none 0 0 e sz []) (World.ownsRow_nil w 0 e sz) (fun b hb => by simp [HE.fp] at hb) (fun b hb => by simp [HE.fp] at hb) (fun b hb => by simp [HE.fp] at hb)) a ha hok⟩
theorem enilrow {c : Code} (e sz : Nat) (k : EW P n B c Q ρ f (.row none 0 0 e sz [] :: L)) : EW P n B c Q ρ f L :=
  ⟨fun w hw a ha hok => k.out w (hw.cons (e := .row none 0 0 e sz []) (World.ownsRow_nil w 0 e sz) (fun b hb => by simp [HE.fp] at hb) (fun b hb => by simp [HE.fp] at hb) (fun b hb => by simp [HE.fp] at hb)) a ha hok⟩
theorem rwL {L' : List HE} (hs : ∀ w, St B f L w → St B f L' w) (k : RW .s P n B ops K l ρ f L') : RW .s P n B ops K l ρ f L := ⟨fun w hw a ha hok => k.out w (hs w hw) a ha hok⟩
theorem ewL {c : Code} {L' : List HE} (hs : ∀ w, St B f L w → St B f L' w) (k : EW P n B c Q ρ f L') : EW P n B c Q ρ f L := ⟨fun w hw a ha hok => k.out w (hs w hw) a ha hok⟩
theorem dropH {e1 : HE} (k : RW .s P n B ops K l ρ f L) : RW .s P n B ops K l ρ f (e1 :: L) := rwL (fun _ h => h.sublist (List.sublist_cons_self _ _)) k
theorem edropH {c : Code} {e1 : HE} (k : EW P n B c Q ρ f L) : EW P n B c Q ρ f (e1 :: L) := ewL (fun _ h => h.sublist (List.sublist_cons_self _ _)) k
/-- What a row is, by its slice's value. -/
theorem row_form {w : World} {A : Option Addr} {nn c sz : Nat} {xs : List Value} (h : w.ownsRow 0 e sz (.slice A nn c) nn xs) : xs.length = nn * sz ∧ nn ≤ c ∧ c ≤ maxLen ∧ (0 < nn → ∃ g, A = some ⟨g, 0, none⟩) ∧ (A = none → nn = 0 ∧ c = 0) := by
  obtain ⟨h1, h2⟩ := h
  rcases h2 with ⟨h2, h3⟩ | ⟨g, cap, cur, hv, hg, hh, r1, r2, _⟩
  · injection h2 with h2 h4 h5
    subst h2 h5
    exact ⟨h1, by omega, by omega, fun h => by omega, fun _ => ⟨h3, rfl⟩⟩
  · injection hv with hv h4 h5
    subst hv h5
    exact ⟨h1, r1, r2, fun _ => ⟨g, rfl⟩, fun h => by cases h⟩
theorem rowF (i : Nat) {A : Option Addr} {nn c sz : Nat} {xs : List Value} (k : xs.length = nn * sz ∧ nn ≤ c ∧ c ≤ maxLen ∧ (0 < nn → ∃ g, A = some ⟨g, 0, none⟩) ∧ (A = none → nn = 0 ∧ c = 0) → RW m P n B ops K l ρ f L) (hi : L[i]? = some (.row A nn c e sz xs) := by rfl) : RW m P n B ops K l ρ f L :=
  rw_have (fun w hw => row_form (hw.own _ (List.mem_of_getElem? hi))) k
theorem erowF (i : Nat) {co : Code} {A : Option Addr} {nn c sz : Nat} {xs : List Value} (k : xs.length = nn * sz ∧ nn ≤ c ∧ c ≤ maxLen ∧ (0 < nn → ∃ g, A = some ⟨g, 0, none⟩) ∧ (A = none → nn = 0 ∧ c = 0) → EW P n B co Q ρ f L) (hi : L[i]? = some (.row A nn c e sz xs) := by rfl) : EW P n B co Q ρ f L :=
  ew_have (fun w hw => row_form (hw.own _ (List.mem_of_getElem? hi))) k
theorem append_run {w : World} {s x : Operand} {A A2 : Option Addr} {nn c mm c2 sz by_ : Nat} {xs news zs : List Value} (hs : ev ρ s = .slice A nn c) (hx : ev ρ x = .slice A2 mm c2) (he : elemT P t = some e) (hz : sizeT P e = some sz) (hb : bytesT P e = some by_) (hzz : zeroT P e = some zs)
    (hzl : zs.length = sz) (hpos : 0 < sz) (hown : w.ownsRow 0 e sz (.slice A nn c) nn xs) (hl : news.length = mm * sz) (hnews : 0 < mm → ∃ b o, A2 = some ⟨b, o, none⟩ ∧ ∀ j u, news[j]? = some u → w.cell? ⟨b, o + j, none⟩ = some u) (h1 : ∀ u ∈ news, u.oneCell' = true)
    (hlim : (nn + mm) * by_ ≤ 140737488355328) (hby : 0 < by_) :
    ∃ A' c' w', (execOp (ev ρ) ⟨some d, .call ⟨.builtin .append, ⟨[s, x]⟩, ⟨[t, t]⟩⟩, ty, pos, af, gd⟩).run P w = .ok (.value (.slice A' (nn + mm) c')) w' ∧ w'.ownsRow 0 e sz (.slice A' (nn + mm) c') (nn + mm) (xs ++ news) ∧ w.grownBy w' (Value.ownBlock (.slice A nn c)) ∧
      (Value.ownBlock (.slice A' (nn + mm) c') = Value.ownBlock (.slice A nn c) ∨ Value.ownBlock (.slice A' (nn + mm) c') = some w.heap.size) := by
  have hlen : nn + mm ≤ 140737488355328 := Nat.le_trans (Nat.le_mul_of_pos_right _ hby) hlim
  have key : ∃ v' w', (Builtin.append_ #[t, t] ty #[.slice A nn c, .slice A2 mm c2]).run P w = .ok v' w' ∧ w'.ownsRow 0 e sz v' (nn + mm) (xs ++ news) ∧ w.grownBy w' (Value.ownBlock (.slice A nn c)) ∧ (v'.ownBlock = Value.ownBlock (.slice A nn c) ∨ v'.ownBlock = some w.heap.size) := by
    rcases Nat.eq_zero_or_pos mm with h0 | h0
    · subst h0
      have hn : news = [] := List.eq_nil_of_length_eq_zero (by simpa using hl)
      subst hn
      refine ⟨.slice A nn c, w, ?_, by simpa using hown, ⟨rfl, rfl, rfl, Nat.le_refl _, fun _ _ _ => rfl⟩, .inl rfl⟩
      have hf := row_form hown
      have hle : nn + 0 ≤ c := by omega
      cases A2 <;> cases A <;> simp [Builtin.append_, run_und (und_elemT he), run_sizeT hz, Builtin.lenOf, Builtin.firstCells, loadCells, loadCellsFrom, hle, storeCells, hf.2.1]
    · obtain ⟨b2, o2, rfl, hc⟩ := hnews h0
      unfold zeroT at hzz
      obtain ⟨z, hz1, rfl⟩ := Option.map_eq_some_iff.1 hzz
      obtain ⟨i, hi, hz2⟩ := Option.bind_eq_some_iff.1 hz1
      have hsz : i.size = sz := by unfold sizeT at hz; rw [hi] at hz; simpa using hz
      have hbz : i.bytes = by_ := by unfold bytesT at hb; rw [hi] at hb; simpa using hb
      obtain ⟨v', w', h2, h3, h4, _, h5⟩ := run_append_own_at (P := P) w 0 t ty e i z sz by_ (und_elemT he) hi hz2 hsz hbz (by rw [← Array.length_toList]; exact hzl) hpos _ nn xs hown ⟨b2, o2, none⟩ mm c2 news hl
        (fun j u hj => by rw [add_plain]; exact hc j u hj) h1 (by simp only [maxLen]; omega) hlim (Nat.zero_le _)
      exact ⟨v', w', h2, h3, h4, h5⟩
  obtain ⟨v', w', h2, h3, h4, h5⟩ := key
  have hform : ∃ A' c', v' = .slice A' (nn + mm) c' := by
    rcases h3.2 with ⟨rfl, h0⟩ | ⟨g, cap, cur, rfl, _⟩
    · exact ⟨none, 0, by rw [h0]⟩
    · exact ⟨_, _, rfl⟩
  obtain ⟨A', c', rfl⟩ := hform
  refine ⟨A', c', w', ?_, h3, h4, h5⟩
  simp only [execOp, resolve, invoke, builtin, Sem.run_bind, Sem.run_pure, Result.andThen_ok, List.map_toArray, List.map_cons, List.map_nil, hs, hx, h2]
theorem ownBlock_fp (A : Option Addr) (nn c : Nat) (e sz : Nat) (xs : List Value) : Value.ownBlock (.slice A nn c) = (HE.row A nn c e sz xs).fp := by cases A <;> rfl
theorem St.appended {w w' : World} {i : Nat} {A A' : Option Addr} {nn c sz n' c' : Nat} {xs xs' : List Value} (hw : St B f L w) (hi : L[i]? = some (.row A nn c e sz xs)) (hown : w'.ownsRow 0 e sz (.slice A' n' c') n' xs') (hgr : w.grownBy w' (Value.ownBlock (.slice A nn c)))
    (hat : Value.ownBlock (.slice A' n' c') = Value.ownBlock (.slice A nn c) ∨ Value.ownBlock (.slice A' n' c') = some w.heap.size) : St B f (L.set i (.row A' n' c' e sz xs')) w' := by
  refine hw.set hi hgr.os hgr.tape hgr.output hgr.size (fun k hk hk' => hgr.block k hk (fun e0 => hk' ?_)) hown (fun b hb => ?_)
  · rw [← ownBlock_fp, ← e0]
  · rw [← ownBlock_fp] at hb
    rcases hat with h | h
    · left; rw [← ownBlock_fp, ← h]; exact hb
    · right; rw [h] at hb; injection hb with hb; omega
/-- 'append(s, ..)' of what stands in the row ahead of all (a literal): it goes, and s's row (entry i of the others) has it. -/
theorem app (i : Nat) {s : Operand} {A A2 : Option Addr} {nn c mm c2 sz by_ : Nat} {xs news zs : List Value} (k : ∀ A' c', RW .s P n B ops K l (up ρ d (.slice A' (nn + mm) c')) f (L.set i (.row A' (nn + mm) c' e sz (xs ++ news))))
    (hrun : runP P ops l0 ρ0 = (⟨some d, .call ⟨.builtin .append, ⟨[s, x]⟩, ⟨[t, t]⟩⟩, ty, pos, af, gd⟩ :: l, ρ) := by rfl) (hg : wantedE ops ρ ⟨some d, .call ⟨.builtin .append, ⟨[s, x]⟩, ⟨[t, t]⟩⟩, ty, pos, af, gd⟩ = true := by rfl)
    (hs : ev ρ s = .slice A nn c := by rfl) (hx : ev ρ x = .slice A2 mm c2 := by rfl) (hi : L[i]? = some (.row A nn c e sz xs) := by rfl) (he : elemT P t = some e := by rfl) (hz : sizeT P e = some sz := by rfl) (hb : bytesT P e = some by_ := by rfl) (hzz : zeroT P e = some zs := by rfl)
    (hzl : Nat.beq zs.length sz && Nat.ble 1 sz && Nat.ble 1 by_ = true := by rfl) (h1 : onesB news = true := by rfl) (hlim : (nn + mm) * by_ ≤ 140737488355328 := by omega) : RW .s P n B ops K l0 ρ0 f (.row A2 mm c2 e sz news :: L) := by
  refine rw_runP l0 ρ0 ?_
  rw [hrun]
  simp only [Bool.and_eq_true, Nat.ble_eq] at hzl
  have hz3 : 1 ≤ by_ := by simpa using hzl.2
  have hz2 : 1 ≤ sz := by simpa using hzl.1.2
  refine sw_do hg fun w hw => ?_
  have hown : w.ownsRow 0 e sz (.slice A nn c) nn xs := hw.own (.row A nn c e sz xs) (List.mem_cons_of_mem _ (List.mem_of_getElem? hi))
  have hown2 : w.ownsRow 0 e sz (.slice A2 mm c2) mm news := hw.own (.row A2 mm c2 e sz news) (List.mem_cons_self)
  have hf2 := row_form hown2
  obtain ⟨A', c', w', h2, h3, h4, h5⟩ := append_run (P := P) (d := d) (ty := ty) (pos := pos) (af := af) (gd := gd) hs hx he hz hb hzz (Nat.eq_of_beq_eq_true hzl.1.1) hz2 hown hf2.1 (fun h0 => by
    obtain ⟨g, rfl⟩ := hf2.2.2.2.1 h0
    exact ⟨g, 0, rfl, fun j u hj => by have := hown2.cells (g := g) rfl j u hj; rwa [add_plain] at this⟩) (onesB_spec h1) hlim hz3
  have hw' : St B f L w := hw.sublist (List.sublist_cons_self _ _)
  exact ⟨_, w', h2, .inl ⟨_, rfl, f, _, hw'.appended hi h3 h4 h5, k A' c'⟩⟩
/-- 'append(s, x...)' of what stands in the view. -/
theorem appV (i : Nat) {s : Operand} {A A2 : Option Addr} {nn c mm c2 sz by_ : Nat} {xs news zs : List Value} (hl : news.length = mm * sz) (hnews : 0 < mm → ∃ b o, A2 = some ⟨b, o, none⟩ ∧ Cells f b o news) (h1 : ∀ u ∈ news, u.oneCell' = true)
    (k : ∀ A' c', RW .s P n B ops K l (up ρ d (.slice A' (nn + mm) c')) f (L.set i (.row A' (nn + mm) c' e sz (xs ++ news))))
    (hrun : runP P ops l0 ρ0 = (⟨some d, .call ⟨.builtin .append, ⟨[s, x]⟩, ⟨[t, t]⟩⟩, ty, pos, af, gd⟩ :: l, ρ) := by rfl) (hg : wantedE ops ρ ⟨some d, .call ⟨.builtin .append, ⟨[s, x]⟩, ⟨[t, t]⟩⟩, ty, pos, af, gd⟩ = true := by rfl)
    (hs : ev ρ s = .slice A nn c := by rfl) (hx : ev ρ x = .slice A2 mm c2 := by rfl) (hi : L[i]? = some (.row A nn c e sz xs) := by rfl) (he : elemT P t = some e := by rfl) (hz : sizeT P e = some sz := by rfl) (hb : bytesT P e = some by_ := by rfl) (hzz : zeroT P e = some zs := by rfl)
    (hzl : Nat.beq zs.length sz && Nat.ble 1 sz && Nat.ble 1 by_ = true := by rfl) (hlim : (nn + mm) * by_ ≤ 140737488355328 := by omega) : RW .s P n B ops K l0 ρ0 f L := by
  refine rw_runP l0 ρ0 ?_
  rw [hrun]
  simp only [Bool.and_eq_true, Nat.ble_eq] at hzl
  have hz3 : 1 ≤ by_ := by simpa using hzl.2
  have hz2 : 1 ≤ sz := by simpa using hzl.1.2
  refine sw_do hg fun w hw => ?_
  have hown : w.ownsRow 0 e sz (.slice A nn c) nn xs := hw.own (.row A nn c e sz xs) (List.mem_of_getElem? hi)
  obtain ⟨A', c', w', h2, h3, h4, h5⟩ := append_run (P := P) (d := d) (ty := ty) (pos := pos) (af := af) (gd := gd) hs hx he hz hb hzz (Nat.eq_of_beq_eq_true hzl.1.1) hz2 hown hl (fun h0 => by
    obtain ⟨b2, o2, rfl, hc⟩ := hnews h0
    exact ⟨b2, o2, rfl, fun j u hj => hw.on.cell (hc.get j u hj)⟩) h1 hlim hz3
  exact ⟨_, w', h2, .inl ⟨_, rfl, f, _, hw.appended hi h3 h4 h5, k A' c'⟩⟩
end
end Go.Hog

set_option linter.unusedVariables false
set_option linter.unusedSimpArgs false
namespace Go.Hog
open Go.RowKit Rp
section
variable {P : Program} {n : Nat} {B : Bs} {f : View} {L : List HE} {ρ : Env} {Q : Post} {K : Kon} {ops : Array Oper} {m : Md} {l l0 : List Oper} {ρ0 : Env}
variable {d : Nat} {x y : Operand} {t ty e : TypeId} {pos : String} {af : Array Edge} {gd : Option (Nat × Bool)} {b o : Nat} {v : Value} {vs cs : List Value}
theorem callB {k : Nat} {args : Array Operand} {at_ : Array TypeId} {p : Prop} [Decidable p] (h : ∀ w g, Sub f g → (∀ e ∈ L, e.seen g) → On g w → Con P k vs w (Ret w g fun _ v' => v' = .bool (decide p)))
    (T : p → RW m P n B ops K l (up ρ d (.bool true)) f L) (F : ¬ p → RW m P n B ops K l (up ρ d (.bool false)) f L)
    (hrun : runP P ops l0 ρ0 = (⟨some d, .call ⟨.value (.func k), args, at_⟩, ty, pos, af, gd⟩ :: l, ρ) := by rfl) (hg : wantedE ops ρ ⟨some d, .call ⟨.value (.func k), args, at_⟩, ty, pos, af, gd⟩ = true := by rfl) (ha : args.toList.map (ev ρ) = vs := by rfl) (hcm : m.calls = true := by rfl) :
    RW m P n B ops K l0 ρ0 f L := by
  by_cases hp : p
  · simp only [decide_eq_true hp] at h
    exact callV (.bool true) h (T hp) hrun hg ha hcm
  · simp only [decide_eq_false hp] at h
    exact callV (.bool false) h (F hp) hrun hg ha hcm
theorem callBE {k : Nat} {args : Array Operand} {at_ : Array TypeId} {p : Prop} [Decidable p] {ρT ρF : Env} (h : ∀ w g, Sub f g → (∀ e ∈ L, e.seen g) → On g w → Con P k vs w (Ret w g fun _ v' => v' = .bool (decide p)))
    (T : p → K ρT f L) (F : ¬ p → K ρF f L)
    (hrun : runP P ops l0 ρ0 = (⟨some d, .call ⟨.value (.func k), args, at_⟩, ty, pos, af, gd⟩ :: l, ρ) := by rfl) (hg : wantedE ops ρ ⟨some d, .call ⟨.value (.func k), args, at_⟩, ty, pos, af, gd⟩ = true := by rfl) (ha : args.toList.map (ev ρ) = vs := by rfl)
    (hT : runP P ops l (up ρ d (.bool true)) = ([], ρT) := by rfl) (hF : runP P ops l (up ρ d (.bool false)) = ([], ρF) := by rfl) (hcm : m.calls = true := by rfl) :
    RW m P n B ops K l0 ρ0 f L := callB h (fun h => runE (T h) hT) (fun h => runE (F h) hF) hrun hg ha hcm
/-- After a call that writes in the entries L1, the others stand as they did. -/
theorem St.merge {w w' : World} {L1 L2 L' : List HE} {g : View} (hw : St B f (L1 ++ L2) w) (h : St ⟨w, f, fps L1⟩ g L' w') : St B g (L' ++ L2) w' := by
  have hap := List.pairwise_append.1 hw.apart
  have hin : ∀ b, b ∈ fps L1 → b < w.heap.size ∧ (B.w.heap.size ≤ b ∨ b ∈ B.X) := fun b hb => by
    obtain ⟨e, he, hfp⟩ := List.mem_filterMap.1 hb
    exact ⟨hw.fp (List.mem_append_left _ he) hfp, hw.mine e (List.mem_append_left _ he) b hfp⟩
  have hL2 : ∀ e ∈ L2, ∀ b, e.fp = some b → b < w.heap.size ∧ b ∉ fps L1 := fun e he b hb => ⟨hw.fp (List.mem_append_right _ he) hb, fun hb' => by
    obtain ⟨e1, he1, hfp⟩ := List.mem_filterMap.1 hb'
    exact hap.2.2 e1 he1 e he b hfp hb⟩
  refine ⟨h.os.trans hw.os, h.tape.trans hw.tape, h.output.trans hw.output, Nat.le_trans hw.size h.size, fun i hi hX => (h.keep i (Nat.lt_of_lt_of_le hi hw.size) fun hi' => ?_).trans (hw.keep i hi hX),
    hw.ext.trans h.ext, fun i hi => (h.old i (Nat.lt_of_lt_of_le hi hw.size)).trans (hw.old i hi), h.on, ?_, ?_, ?_, ?_⟩
  · rcases (hin i hi').2 with h1 | h1
    · omega
    · exact hX h1
  · intro e he
    rcases List.mem_append.1 he with he | he
    · exact h.own e he
    · exact HE.holds_of (hw.own e (List.mem_append_right _ he)) fun b hb => h.keep b (hL2 e he b hb).1 (hL2 e he b hb).2
  · intro e he b hb
    rcases List.mem_append.1 he with he | he
    · rcases h.mine e he b hb with h1 | h1
      · exact .inl (Nat.le_trans hw.size h1)
      · exact (hin b h1).2
    · exact hw.mine e (List.mem_append_right _ he) b hb
  · intro e he b hb
    rcases List.mem_append.1 he with he | he
    · exact h.off e he b hb
    · rw [h.old b (hL2 e he b hb).1]
      exact hw.off e (List.mem_append_right _ he) b hb
  · refine List.pairwise_append.2 ⟨h.apart, hap.2.1, fun e he e2 he2 b hb hb2 => ?_⟩
    have h2 := hL2 e2 he2 b hb2
    rcases h.mine e he b hb with h1 | h1
    · have h3 : w.heap.size ≤ b := h1
      omega
    · exact h2.2 h1
theorem St.given {w : World} {L1 L2 : List HE} (hw : St B f (L1 ++ L2) w) : Given f L1 w :=
  ⟨fun e he => hw.own e (List.mem_append_left _ he), fun e he => hw.off e (List.mem_append_left _ he), (List.pairwise_append.1 hw.apart).1⟩
/-- A call that writes in the first entries L1. -/
theorem callM (L1 L2 : List HE) {k : Nat} {args : Array Operand} {at_ : Array TypeId} {R : View → List HE → Value → Prop} (h : ∀ w, On f w → Given f L1 w → Con P k vs w (RetM w f L1 R))
    (kk : ∀ v g L', Sub f g → R g L' v → RW .s P n B ops K l (up ρ d v) g (L' ++ L2))
    (hrun : runP P ops l0 ρ0 = (⟨some d, .call ⟨.value (.func k), args, at_⟩, ty, pos, af, gd⟩ :: l, ρ) := by rfl) (hg : wantedE ops ρ ⟨some d, .call ⟨.value (.func k), args, at_⟩, ty, pos, af, gd⟩ = true := by rfl) (ha : args.toList.map (ev ρ) = vs := by rfl) :
    RW .s P n B ops K l0 ρ0 f (L1 ++ L2) := by
  refine rw_runP l0 ρ0 ?_
  rw [hrun]
  refine ⟨fun w hw => ?_⟩
  have hcf := (h w hw.on hw.given).1
  refine SW.out (sw_call (args := ⟨vs⟩) hg (fun w' => run_callf hcf ha w') fun w hw => ?_) w hw
  refine (h w hw.on hw.given).2.mono ?_
  rintro en w' ⟨v, g, L', rfl, hs, hR⟩
  exact ⟨v, g, L' ++ L2, rfl, hw.merge hs, kk v g L' hs.ext hR⟩
variable {fn : Func} {w0 : World} {f0 : View} {L0 : List HE} {R : View → List HE → Value → Prop}
theorem ret0M (hR : R f L (.tuple #[])) (hr : fn.results = #[] := by rfl) : retQ P fn ⟨w0, f0, fps L0⟩ (RetM w0 f0 L0 R) .normal ρ f L := by
  intro w hw tmps htm
  exact ⟨.tuple #[], by simp [results, hr], _, _, _, rfl, hw, hR⟩
theorem ret1M {t : Nat} (hR : R f L v) (hr : fn.results = #[.tmp t] := by rfl) (hv : ρ t = v := by rfl) : retQ P fn ⟨w0, f0, fps L0⟩ (RetM w0 f0 L0 R) .ret ρ f L := by
  intro w hw tmps htm
  have := htm t
  rw [hv] at this
  exact ⟨v, by simp [results, hr]; simpa using this, _, _, _, rfl, hw, hR⟩
/-- Entries may go, at the end. -/
theorem postL {L' : List HE} {R' : Ending → World → Prop} (hs : ∀ w, St B f L w → St B f L' w) (h : retQ P fn B R' .normal ρ f L') : retQ P fn B R' .normal ρ f L := fun w hw => h w (hs w hw)
theorem postLr {L' : List HE} {R' : Ending → World → Prop} (hs : ∀ w, St B f L w → St B f L' w) (h : retQ P fn B R' .ret ρ f L') : retQ P fn B R' .ret ρ f L := fun w hw => h w (hs w hw)

/-! ### Stores into own rows -/
theorem putL_length : ∀ (vs cs : List Value) (o : Nat), o + vs.length ≤ cs.length → (putL cs o vs).length = cs.length := by
  intro vs cs o h
  rw [← putL_eq _ _ _ h]
  simp
  omega
theorem putL_take : ∀ (vs cs : List Value) (o k : Nat), o + vs.length ≤ k → k ≤ cs.length → (putL cs o vs).take k = putL (cs.take k) o vs := by
  intro vs cs o k h1 h2
  rw [← putL_eq _ _ _ (by omega), ← putL_eq _ _ _ (by rw [List.length_take]; omega)]
  rw [List.take_append, List.take_take, List.drop_take]
  simp only [List.length_append, List.length_take]
  rw [Nat.min_eq_left (by omega : o ≤ cs.length), Nat.min_eq_left (by omega : o ≤ k)]
  congr 1
  rw [List.take_of_length_le (by simp; omega)]
/-- A store into an own row (entry i). -/
theorem stR (i : Nat) {nn c sz : Nat} {xs : List Value} (hl : o + vs.length ≤ xs.length) (k : RW .s P n B ops K l ρ f (L.set i (.row (some ⟨b, 0, none⟩) nn c e sz (putL xs o vs))))
    (hrun : runP P ops l0 ρ0 = (⟨none, .store t x y, ty, pos, af, gd⟩ :: l, ρ) := by rfl) (hg : wantedE ops ρ ⟨none, .store t x y, ty, pos, af, gd⟩ = true := by rfl) (hi : L[i]? = some (.row (some ⟨b, 0, none⟩) nn c e sz xs) := by rfl)
    (hx : ev ρ x = .pointer (some ⟨b, o, none⟩) := by rfl) (hy : (ev ρ y).cells = ⟨vs⟩ := by rfl) (hz : sizeT P t = some vs.length := by rfl) (h1 : onesB vs = true := by rfl) : RW .s P n B ops K l0 ρ0 f L := by
  refine rw_runP l0 ρ0 ?_
  rw [hrun]
  refine sw_do hg fun w hw => ?_
  have hown : w.ownsRow 0 e sz (.slice (some ⟨b, 0, none⟩) nn c) nn xs := hw.own _ (List.mem_of_getElem? hi)
  obtain ⟨h2, h3⟩ := hown
  rcases h3 with ⟨h3, _⟩ | ⟨g, cap, cur, hv, hg', hh, r1, r2, r3, r4⟩
  · injection h3 with h3; cases h3
  injection hv with hv _ hc
  injection hv with hv
  injection hv with hv
  subst hv hc
  have hcl : xs.length ≤ cur.toList.length := by rw [← r4, List.length_take]; omega
  have hst := run_storeCells_at P b o e vs 0 cur w hh (Nat.le_trans hl hcl) (onesB_spec h1)
  simp only [Nat.add_zero] at hst
  have e2 : (cur.toList.take o ++ vs ++ cur.toList.drop (o + vs.length)) = putL cur.toList o vs := putL_eq _ _ _ (by omega)
  rw [e2] at hst
  refine ⟨_, w.setRow b ⟨putL cur.toList o vs⟩, ?_, .inr ⟨rfl, f, _, ?_, k⟩⟩
  · simp [execOp, Instr.storeAt, hx, Instr.sureAddr, storeVar, run_sizeT hz, hy, hst]
  · refine hw.set hi rfl rfl rfl (by simp [World.setRow]) (fun k' _ hk' => setRow_other w b k' _ (fun e0 => hk' (by rw [e0]; rfl))) ⟨?_, .inr ⟨b, c, _, rfl, Nat.zero_le _, setRow_heap w b cur _ e _ hh, r1, r2, ?_, ?_⟩⟩ (fun b' hb' => .inl hb')
    · rw [putL_length _ _ _ hl]; exact h2
    · simp [putL_length _ _ _ (Nat.le_trans hl hcl)]; exact r3
    · rw [putL_take _ _ _ _ (by rw [← h2]; exact hl) (by rw [← h2]; exact hcl), r4]

/-! ### Results in memory -/
theorem retA2 {R : View → Value → Prop} (i : Nat) {a u : Nat} {ta : TypeId} (hR : R f (.tuple #[.agg ⟨cs⟩, v])) (hr : fn.results = #[.cell a ta, .tmp u] := by rfl) (h1 : ρ a = .pointer (some ⟨b, 0, none⟩) := by rfl) (hi : L[i]? = some (.blk b (.cells ⟨cs⟩ e)) := by rfl)
    (h2 : ρ u = v := by rfl) (ht : aggT P ta = some true := by rfl) (hz : sizeT P ta = some cs.length := by rfl) : retQ P fn ⟨w0, f0, []⟩ (Ret w0 f0 R) .ret ρ f L := by
  intro w hw tmps htm
  have a1 := htm a
  have a2 := htm u
  rw [h1] at a1
  rw [h2] at a2
  refine ⟨_, ?_, hw.ret hR⟩
  have hl := run_loadVarA (P := P) (w := w) (a := ⟨b, 0, none⟩) ht hz (fun j v hj => by rw [add_plain]; exact blk_cell (hw.blk hi) (by simpa using hj))
  simp only [Array.getD_eq_getD_getElem?] at a1 a2
  simp [results, hr, asAddr, a1, a2, hl]
theorem retA1 {R : View → Value → Prop} (i : Nat) {a : Nat} {ta : TypeId} (hR : R f (.agg ⟨cs⟩)) (hr : fn.results = #[.cell a ta] := by rfl) (h1 : ρ a = .pointer (some ⟨b, 0, none⟩) := by rfl) (hi : L[i]? = some (.blk b (.cells ⟨cs⟩ e)) := by rfl)
    (ht : aggT P ta = some true := by rfl) (hz : sizeT P ta = some cs.length := by rfl) : retQ P fn ⟨w0, f0, []⟩ (Ret w0 f0 R) .ret ρ f L := by
  intro w hw tmps htm
  have a1 := htm a
  rw [h1] at a1
  refine ⟨_, ?_, hw.ret hR⟩
  have hl := run_loadVarA (P := P) (w := w) (a := ⟨b, 0, none⟩) ht hz (fun j v hj => by rw [add_plain]; exact blk_cell (hw.blk hi) (by simpa using hj))
  simp only [Array.getD_eq_getD_getElem?] at a1
  simp [results, hr, asAddr, a1, hl]

/-! ### An own entry becomes part of what is only read -/
open Classical in
noncomputable def addV (w : World) (f : View) (e : HE) : View := fun i => if e.fp = some i then w.heap[i]? else f i
theorem St.freeze {w : World} {i : Nat} {e : HE} (h : St B f L w) (hX : B.X = []) (hi : L[i]? = some e) : St B (addV w f e) (L.eraseIdx i) w ∧ Sub f (addV w f e) ∧ e.seen (addV w f e) := by
  have hmem : e ∈ L := List.mem_of_getElem? hi
  have hsub : Sub f (addV w f e) := by
    intro j o hj
    unfold addV
    split
    · exact h.on j o hj
    · exact hj
  have hlt : i < L.length := (List.getElem?_eq_some_iff.1 hi).1
  have hother : ∀ x ∈ L.eraseIdx i, ∀ b, x.fp = some b → e.fp ≠ some b := by
    intro x hx b hb hb'
    obtain ⟨j, hj, hx⟩ := List.mem_iff_getElem.1 (List.mem_eraseIdx_iff_getElem.1 hx |>.elim fun j hj => by
      obtain ⟨h1, h2, h3⟩ := hj
      exact h3 ▸ List.getElem_mem h1)
    obtain ⟨j', h1, h2, h3⟩ := List.mem_eraseIdx_iff_getElem.1 (by assumption : x ∈ L.eraseIdx i)
    subst h3
    have e1 : L[i] = e := (List.getElem?_eq_some_iff.1 hi).2
    rcases Nat.lt_or_gt_of_ne h2 with h4 | h4
    · have := List.pairwise_iff_getElem.1 h.apart j' i h1 hlt h4
      rw [e1] at this
      exact this b hb hb'
    · have := List.pairwise_iff_getElem.1 h.apart i j' hlt h1 h4
      rw [e1] at this
      exact this b hb' hb
  refine ⟨⟨h.os, h.tape, h.output, h.size, h.keep, h.ext.trans hsub, fun j hj => ?_, fun j o hj => ?_, fun x hx => h.own x (List.mem_of_mem_eraseIdx hx), fun x hx => h.mine x (List.mem_of_mem_eraseIdx hx), fun x hx b hb => ?_, h.apart.sublist (List.eraseIdx_sublist _ _)⟩, hsub, ?_⟩
  · unfold addV
    split
    · rename_i hb
      rcases h.mine e hmem j hb with h1 | h1
      · omega
      · rw [hX] at h1; cases h1
    · exact h.old j hj
  · unfold addV at hj
    split at hj
    · exact hj
    · exact h.on j o hj
  · unfold addV
    rw [if_neg (hother x hx b hb)]
    exact h.off x (List.mem_of_mem_eraseIdx hx) b hb
  · have h1 := h.own e hmem
    have key : ∀ b, e.fp = some b → addV w f e b = w.heap[b]? := fun b hb => by unfold addV; rw [if_pos hb]
    cases e with
    | blk b o => show addV w f _ b = _; rw [key b rfl]; exact h1
    | row A n c e sz xs =>
      obtain ⟨h2, h3⟩ := h1
      refine ⟨h2, ?_⟩
      rcases h3 with ⟨h3, h4⟩ | ⟨g, cap, cur, hv, hg, hh, r1, r2, r3, r4⟩
      · injection h3 with h3 h5 h6
        exact .inl ⟨h3, h4, h6⟩
      · injection hv with hv h5 h6
        subst hv h6
        exact .inr ⟨g, cur, rfl, by rw [key g rfl]; exact hh, r1, r2, r4⟩
    | mp b m =>
      obtain ⟨es, clk, h3, h4⟩ := h1
      exact ⟨es, clk, by rw [key b rfl]; exact h3, h4⟩
theorem efrz (i : Nat) {co : Code} {he : HE} (k : ∀ g, Sub f g → he.seen g → EW P n B co Q ρ g (L.eraseIdx i)) (hi : L[i]? = some he := by rfl) (hX : B.X = [] := by rfl) : EW P n B co Q ρ f L :=
  ⟨fun w hw a ha hok => let ⟨h1, h2, h3⟩ := hw.freeze hX hi; (k _ h2 h3).out w h1 a ha hok⟩
theorem rfrz (i : Nat) {he : HE} (k : ∀ g, Sub f g → he.seen g → RW .s P n B ops K l ρ g (L.eraseIdx i)) (hi : L[i]? = some he := by rfl) (hX : B.X = [] := by rfl) : RW .s P n B ops K l ρ f L :=
  ⟨fun w hw a ha hok => let ⟨h1, h2, h3⟩ := hw.freeze hX hi; SW.out (k _ h2 h3) w h1 a ha hok⟩
end
end Go.Hog
