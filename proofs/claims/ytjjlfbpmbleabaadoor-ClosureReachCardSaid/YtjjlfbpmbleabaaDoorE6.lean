/- The engine, part 6: literals, appends, makes, slicing. -/
import Derived.Test.YtjjlfbpmbleabaaDoorE5
import Derived.Laws.MakeOwn
set_option linter.unusedVariables false
set_option linter.unusedSimpArgs false
namespace Go.Hog
open Go.RowKit Rp

/-! ### Literals of structs and slices -/
theorem foldl_put (off : Nat) : ∀ (vs : List Value) (k : Nat) (cs : List Value), off + k + vs.length ≤ cs.length →
    (vs.zipIdx k).foldl (fun (a : Array Value) (p : Value × Nat) => a.setIfInBounds (off + p.2) p.1) ⟨cs⟩ = ⟨cs.take (off + k) ++ vs ++ cs.drop (off + k + vs.length)⟩
  | [], k, cs, _ => by simp
  | v :: vs, k, cs, h => by
    simp only [List.length_cons] at h
    have ih := foldl_put off vs (k + 1) (cs.set (off + k) v) (by rw [List.length_set]; omega)
    simp only [List.zipIdx_cons, List.foldl_cons]
    rw [show (⟨cs⟩ : Array Value).setIfInBounds (off + k) v = ⟨cs.set (off + k) v⟩ by simp]
    rw [ih]
    congr 1
    apply List.ext_getElem?
    intro j
    simp only [List.getElem?_append, List.length_append, List.length_take, List.length_set, List.getElem?_take, List.getElem?_drop, List.getElem?_set, List.length_cons]
    rw [Nat.min_eq_left (by omega), Nat.min_eq_left (by omega)]
    by_cases h1 : j < off + k
    · simp [h1, show j < off + (k + 1) by omega, show j < off + (k + 1) + vs.length by omega, show j < off + k + (vs.length + 1) by omega, show ¬ off + k = j by omega]
    · by_cases h2 : j = off + k
      · subst h2
        simp [show off + k < off + (k + 1) by omega, show off + k < off + (k + 1) + vs.length by omega, show off + k < cs.length by omega, show off + k < off + k + (vs.length + 1) by omega]
      · by_cases h3 : j < off + k + (vs.length + 1)
        · have e1 : j - (off + k) = (j - (off + (k + 1))) + 1 := by omega
          simp [h1, h3, show ¬ j < off + (k + 1) by omega, show j < off + (k + 1) + vs.length by omega, e1]
        · simp [h1, h3, show ¬ j < off + (k + 1) by omega, show ¬ j < off + (k + 1) + vs.length by omega]
          rw [if_neg (by omega)]
          congr 1
          omega
def fillL (place : Nat → Option (Nat × Nat)) : List Value → List (Nat × Value) → Option (List Value)
  | cells, [] => some cells
  | cells, (i, v) :: rest =>
    match place i with
    | none => none
    | some (off, size) => bif Nat.beq v.cells.toList.length size && Nat.ble (off + v.cells.toList.length) cells.length then fillL place (putL cells off v.cells.toList) rest else none
theorem fill_eq (place : Nat → Option (Nat × Nat)) : ∀ (l : List (Nat × Value)) (cells r : List Value), fillL place cells l = some r → Instr.fill place ⟨cells⟩ l = some ⟨r⟩
  | [], cells, r, h => by simp [fillL] at h; subst h; rfl
  | (i, v) :: rest, cells, r, h => by
    simp only [fillL] at h
    simp only [Instr.fill]
    cases hp : place i with
    | none => rw [hp] at h; cases h
    | some p =>
      obtain ⟨off, size⟩ := p
      rw [hp] at h
      simp only at h ⊢
      cases hc : (Nat.beq v.cells.toList.length size && Nat.ble (off + v.cells.toList.length) cells.length) with
      | false => rw [hc] at h; cases h
      | true =>
        rw [hc] at h
        simp only [cond_true] at h
        simp only [Bool.and_eq_true] at hc
        have h1 : v.cells.toList.length = size := Nat.eq_of_beq_eq_true hc.1
        have h2 : off + v.cells.toList.length ≤ cells.length := by simpa [Nat.ble_eq] using hc.2
        rw [Array.length_toList] at h1 h2
        have hz : ¬ (v.cells.size ≠ size || decide (off + v.cells.size > (Array.mk cells).size)) = true := by
          simp [h1]
          rw [← h1]; exact h2
        rw [if_neg hz]
        have e : v.cells.zipIdx.foldl (fun cs x => cs.setIfInBounds (off + x.2) x.1) (Array.mk cells) = ⟨putL cells off v.cells.toList⟩ := by
          have := foldl_put off v.cells.toList 0 cells (by simpa using h2)
          rw [← Array.foldl_toList, Array.toList_zipIdx, this, ← putL_eq _ _ _ (by simpa using h2)]
          simp
        rw [e]
        exact fill_eq place rest _ r h
def initL : Nat → List Value → List Value
  | 0, _ => []
  | k + 1, zs => zs ++ initL k zs
theorem initL_get (zs : List Value) (hz : 0 < zs.length) : ∀ (k : Nat), (initL k zs).length = k * zs.length ∧ ∀ j, j < k * zs.length → (initL k zs)[j]? = zs[j % zs.length]?
  | 0 => ⟨by simp [initL], fun j hj => by omega⟩
  | k + 1 => by
    have ih := initL_get zs hz k
    refine ⟨by simp [initL, ih.1, Nat.add_mul]; omega, fun j hj => ?_⟩
    simp only [initL]
    by_cases hlt : j < zs.length
    · rw [List.getElem?_append_left hlt, Nat.mod_eq_of_lt hlt]
    · rw [List.getElem?_append_right (by omega), ih.2 (j - zs.length) (by rw [Nat.add_mul] at hj; omega)]
      congr 1
      rw [Nat.mod_eq_sub_mod (a := j) (by omega)]
theorem init_eq (zs : List Value) (hz : 0 < zs.length) (k : Nat) : (Array.range (k * zs.length)).map (fun x => (Array.mk zs)[x % (Array.mk zs).size]!) = ⟨initL k zs⟩ := by
  apply Array.ext'
  apply List.ext_getElem?
  intro j
  have hi := initL_get zs hz k
  by_cases hlt : j < k * zs.length
  · rw [hi.2 j hlt]
    have hm : j % zs.length < zs.length := Nat.mod_lt _ hz
    simp [hlt, hm]
  · rw [List.getElem?_eq_none (by simp; omega), List.getElem?_eq_none (by rw [hi.1]; omega)]
def placesL (P : Program) : List Field → Option (List (Nat × Nat))
  | [] => some []
  | fd :: fs => (match P.info? fd.type, placesL P fs with | some i, some r => some ((fd.offset, i.size) :: r) | _, _ => none)
def buildV (P : Program) (t : TypeId) (parts : List (Nat × Value)) : Option (List Value) :=
  match zeroT P t, P.underlying t with
  | some zs, some (.struct fs) => (match placesL P fs.toList with | some pl => fillL (fun i : Nat => pl[i]?) zs parts | none => none)
  | _, _ => none
section
variable {P : Program}
theorem run_zeroT {t : TypeId} {zs : List Value} (h : zeroT P t = some zs) (w : World) : ∃ z, (zeroValue t).run P w = .ok z w ∧ z.cells = ⟨zs⟩ := by
  unfold zeroT at h
  obtain ⟨z, hz1, rfl⟩ := Option.map_eq_some_iff.1 h
  obtain ⟨i, hi, hz2⟩ := Option.bind_eq_some_iff.1 hz1
  exact ⟨z, by simp [zeroValue, run_info hi, hz2], rfl⟩
theorem run_places (w : World) : ∀ (fs : List Field) (pl : List (Nat × Nat)), placesL P fs = some pl → (fs.mapM (fun fd => do pure (fd.offset, ← sizeOf fd.type) : Field → Sem (Nat × Nat))).run P w = .ok pl w
  | [], pl, h => by simp [placesL] at h; subst h; simp
  | fd :: fs, pl, h => by
    simp only [placesL] at h
    split at h
    · rename_i i r h1 h2
      injection h with h; subst h
      have ih := run_places w fs r h2
      simp only [List.mapM_cons, Sem.run_bind, run_size h1, Result.andThen_ok, Sem.run_pure, ih]
    · cases h
theorem run_build {t : TypeId} {parts : List (Nat × Value)} {cs : List Value} (h : buildV P t parts = some cs) (w : World) : (Instr.build t ⟨parts⟩).run P w = .ok (.agg ⟨cs⟩) w := by
  unfold buildV at h
  split at h
  · rename_i zs fs h1 h2
    split at h
    · rename_i pl h3
      obtain ⟨z, hz, hzc⟩ := run_zeroT h1 w
      have hm : (fs.mapM (fun fd => do pure (fd.offset, ← sizeOf fd.type) : Field → Sem (Nat × Nat))).run P w = .ok ⟨pl⟩ w := by
        rw [Array.mapM_eq_mapM_toList]
        have := run_places (P := P) w fs.toList pl h3
        simp only [Sem.run_map, this]
        rfl
      have hf := fill_eq (fun i : Nat => pl[i]?) parts zs cs h
      simp only [Instr.build, Sem.run_bind, hz, Result.andThen_ok, run_und h2, hm, hzc]
      have e : (fun x : Nat => (Array.mk pl)[x]?) = fun i : Nat => pl[i]? := by funext i; simp
      simp only [e, hf, Sem.run_pure]
    · cases h
  · cases h
def sliceV (P : Program) (t : TypeId) (len : Nat) (parts : List (Nat × Value)) : Option (Nat × Nat × List Value) :=
  match elemT P t with
  | some e =>
    (match sizeT P e, zeroT P e with
     | some sz, some zs => bif Nat.beq zs.length sz && Nat.ble 1 sz && Nat.ble 1 len && Nat.ble (len * sz) 16777216 then (fillL (fun i => some (i * sz, sz)) (initL len zs) parts).map (fun cs => (e, sz, cs)) else none
     | _, _ => none)
  | none => none
theorem run_buildSlice {t : TypeId} {len e sz : Nat} {parts : List (Nat × Value)} {cs : List Value} (h : sliceV P t len parts = some (e, sz, cs)) (w : World) :
    (Instr.buildSlice t len ⟨parts⟩).run P w = .ok (.slice (some ⟨w.heap.size, 0, none⟩) len len) (w.alloc (.cells ⟨cs⟩ e)) ∧ elemT P t = some e ∧ sizeT P e = some sz := by
  unfold sliceV at h
  split at h
  · rename_i e' h1
    split at h
    · rename_i sz' zs h2 h3
      cases hc : (Nat.beq zs.length sz' && Nat.ble 1 sz' && Nat.ble 1 len && Nat.ble (len * sz') 16777216) with
      | false => rw [hc] at h; cases h
      | true =>
        rw [hc] at h
        simp only [cond_true] at h
        obtain ⟨cs', hf, he⟩ := Option.map_eq_some_iff.1 h
        simp only [Prod.mk.injEq] at he
        obtain ⟨rfl, rfl, rfl⟩ := he
        simp only [Bool.and_eq_true, Nat.ble_eq] at hc
        obtain ⟨⟨⟨c1, c2⟩, c3⟩, c4⟩ := hc
        have c1' : zs.length = sz' := Nat.eq_of_beq_eq_true c1
        subst c1'
        refine ⟨?_, h1, h2⟩
        obtain ⟨z, hz, hzc⟩ := run_zeroT h3 w
        have hff := fill_eq _ parts (initL len zs) cs' hf
        have hne : ¬ len * zs.length = 0 := by
          intro e0
          rcases Nat.mul_eq_zero.1 e0 with e0 | e0 <;> omega
        have hie := init_eq zs c2 len
        simp only [Instr.buildSlice, Sem.run_bind, run_und (und_elemT h1), Result.andThen_ok, run_sizeT h2, if_neg hne, hz, hzc, Sem.run_pure, hie, hff]
        rw [if_neg (by omega)]
        simp only [Sem.run_bind, Sem.run_pure, Result.andThen_ok, hz, hzc, hie, hff, newRow]
        simp
    · cases h
  · cases h
end
section
variable {P : Program} {n : Nat} {B : Bs} {f : View} {L : List HE} {ρ : Env} {Q : Post} {K : Kon} {ops : Array Oper} {m : Md} {l l0 : List Oper} {ρ0 : Env}
variable {d : Nat} {x y : Operand} {t ty e : TypeId} {pos : String} {af : Array Edge} {gd : Option (Nat × Bool)} {b o : Nat} {v : Value} {vs cs : List Value}
def pairs (ρ : Env) (ps : Array (Nat × Operand)) : List (Nat × Value) := ps.toList.map fun p => (p.1, ev ρ p.2)
theorem pairs_eq (ρ : Env) (ps : Array (Nat × Operand)) : (ps.map fun (i, x) => (i, ev ρ x)) = ⟨pairs ρ ps⟩ := by
  apply Array.ext'
  simp [pairs]
/-- A struct's literal. -/
theorem bld {ps : Array (Nat × Operand)} (k : RW m P n B ops K l (up ρ d (.agg ⟨cs⟩)) f L) (hrun : runP P ops l0 ρ0 = (⟨some d, .build t ps, ty, pos, af, gd⟩ :: l, ρ) := by rfl) (hg : wantedE ops ρ ⟨some d, .build t ps, ty, pos, af, gd⟩ = true := by rfl)
    (hb : buildV P t (pairs ρ ps) = some cs := by rfl) : RW m P n B ops K l0 ρ0 f L := by
  refine rw_runP l0 ρ0 ?_
  rw [hrun]
  exact rw_y hg (fun w _ => by simp only [execOp, pairs_eq, Sem.run_bind, run_build hb, Result.andThen_ok, Sem.run_pure]) k
/-- A slice's literal, not empty: a new row, ahead of all. -/
theorem bsl {ps : Array (Nat × Operand)} {len sz : Nat} (k : ∀ b, RW .s P n B ops K l (up ρ d (.slice (some ⟨b, 0, none⟩) len len)) f (.row (some ⟨b, 0, none⟩) len len e sz cs :: L)) (hrun : runP P ops l0 ρ0 = (⟨some d, .buildSlice t len ps, ty, pos, af, gd⟩ :: l, ρ) := by rfl) (hg : wantedE ops ρ ⟨some d, .buildSlice t len ps, ty, pos, af, gd⟩ = true := by rfl)
    (hb : sliceV P t len (pairs ρ ps) = some (e, sz, cs) := by rfl) (hl : Nat.beq cs.length (len * sz) && Nat.ble len 16777216 = true := by rfl) : RW .s P n B ops K l0 ρ0 f L := by
  refine rw_runP l0 ρ0 ?_
  rw [hrun]
  refine sw_do hg fun w hw => ⟨_, w.alloc (.cells ⟨cs⟩ e), ?_, .inl ⟨_, rfl, f, _, ?_, k w.heap.size⟩⟩
  · simp only [execOp, pairs_eq, Sem.run_bind, (run_buildSlice hb w).1, Result.andThen_ok, Sem.run_pure]
  · simp only [Bool.and_eq_true, Nat.ble_eq] at hl
    have h1 : cs.length = len * sz := Nat.eq_of_beq_eq_true hl.1
    have h2 : len ≤ 16777216 := by simpa using hl.2
    refine hw.new (e := .row (some ⟨w.heap.size, 0, none⟩) len len e sz cs) ⟨h1, .inr ⟨w.heap.size, len, ⟨cs⟩, rfl, Nat.zero_le _, heap_new _ _, Nat.le_refl _, by simp only [maxLen]; omega, by simpa using h1, by rw [← h1]; simp⟩⟩ rfl

/-! ### Rows -/
/-- A nil slice is a row of none. -/
theorem nilrow (e sz : Nat) (k : RW .s P n B ops K l ρ f (.row none 0 0 e sz [] :: L)) : RW .s P n B ops K l ρ f L :=
  ⟨fun w hw a ha hok => k.out w (hw.cons (e := .row none 0 0 e sz []) (World.ownsRow_nil w 0 e sz) (fun b hb => by simp [HE.fp] at hb) (fun b hb => by simp [HE.fp] at hb) (fun b hb => by simp [HE.fp] at hb)) a ha hok⟩
theorem enilrow {c : Code} (e sz : Nat) (k : EW P n B c Q ρ f (.row none 0 0 e sz [] :: L)) : EW P n B c Q ρ f L :=
  ⟨fun w hw a ha hok => k.out w (hw.cons (e := .row none 0 0 e sz []) (World.ownsRow_nil w 0 e sz) (fun b hb => by simp [HE.fp] at hb) (fun b hb => by simp [HE.fp] at hb) (fun b hb => by simp [HE.fp] at hb)) a ha hok⟩
theorem rwL {L' : List HE} (hs : ∀ w, St B f L w → St B f L' w) (k : RW .s P n B ops K l ρ f L') : RW .s P n B ops K l ρ f L := ⟨fun w hw a ha hok => k.out w (hs w hw) a ha hok⟩
theorem ewL {c : Code} {L' : List HE} (hs : ∀ w, St B f L w → St B f L' w) (k : EW P n B c Q ρ f L') : EW P n B c Q ρ f L := ⟨fun w hw a ha hok => k.out w (hs w hw) a ha hok⟩
theorem dropH {e1 : HE} (k : RW .s P n B ops K l ρ f L) : RW .s P n B ops K l ρ f (e1 :: L) := rwL (fun _ h => h.sublist (List.sublist_cons_self _ _)) k
theorem edropH {c : Code} {e1 : HE} (k : EW P n B c Q ρ f L) : EW P n B c Q ρ f (e1 :: L) := ewL (fun _ h => h.sublist (List.sublist_cons_self _ _)) k
/-- What a row is, by its slice's value. -/
theorem row_form {w : World} {A : Option Addr} {nn c sz : Nat} {xs : List Value} (h : w.ownsRow 0 e sz (.slice A nn c) nn xs) : xs.length = nn * sz ∧ nn ≤ c ∧ c ≤ maxLen ∧ (0 < nn → ∃ g, A = some ⟨g, 0, none⟩) ∧ (A = none → nn = 0 ∧ c = 0) := by
  obtain ⟨h1, h2⟩ := h
  rcases h2 with ⟨h2, h3⟩ | ⟨g, cap, cur, hv, hg, hh, r1, r2, _⟩
  · injection h2 with h2 h4 h5
    subst h2 h5
    exact ⟨h1, by omega, by omega, fun h => by omega, fun _ => ⟨h3, rfl⟩⟩
  · injection hv with hv h4 h5
    subst hv h5
    exact ⟨h1, r1, r2, fun _ => ⟨g, rfl⟩, fun h => by cases h⟩
theorem rowF (i : Nat) {A : Option Addr} {nn c sz : Nat} {xs : List Value} (k : xs.length = nn * sz ∧ nn ≤ c ∧ c ≤ maxLen ∧ (0 < nn → ∃ g, A = some ⟨g, 0, none⟩) ∧ (A = none → nn = 0 ∧ c = 0) → RW m P n B ops K l ρ f L) (hi : L[i]? = some (.row A nn c e sz xs) := by rfl) : RW m P n B ops K l ρ f L :=
  rw_have (fun w hw => row_form (hw.own _ (List.mem_of_getElem? hi))) k
theorem erowF (i : Nat) {co : Code} {A : Option Addr} {nn c sz : Nat} {xs : List Value} (k : xs.length = nn * sz ∧ nn ≤ c ∧ c ≤ maxLen ∧ (0 < nn → ∃ g, A = some ⟨g, 0, none⟩) ∧ (A = none → nn = 0 ∧ c = 0) → EW P n B co Q ρ f L) (hi : L[i]? = some (.row A nn c e sz xs) := by rfl) : EW P n B co Q ρ f L :=
  ew_have (fun w hw => row_form (hw.own _ (List.mem_of_getElem? hi))) k
theorem append_run {w : World} {s x : Operand} {A A2 : Option Addr} {nn c mm c2 sz by_ : Nat} {xs news zs : List Value} (hs : ev ρ s = .slice A nn c) (hx : ev ρ x = .slice A2 mm c2) (he : elemT P t = some e) (hz : sizeT P e = some sz) (hb : bytesT P e = some by_) (hzz : zeroT P e = some zs)
    (hzl : zs.length = sz) (hpos : 0 < sz) (hown : w.ownsRow 0 e sz (.slice A nn c) nn xs) (hl : news.length = mm * sz) (hnews : 0 < mm → ∃ b o, A2 = some ⟨b, o, none⟩ ∧ ∀ j u, news[j]? = some u → w.cell? ⟨b, o + j, none⟩ = some u) (h1 : ∀ u ∈ news, u.oneCell' = true)
    (hlim : (nn + mm) * by_ ≤ 140737488355328) (hby : 0 < by_) :
    ∃ A' c' w', (execOp (ev ρ) ⟨some d, .call ⟨.builtin .append, ⟨[s, x]⟩, ⟨[t, t]⟩⟩, ty, pos, af, gd⟩).run P w = .ok (.value (.slice A' (nn + mm) c')) w' ∧ w'.ownsRow 0 e sz (.slice A' (nn + mm) c') (nn + mm) (xs ++ news) ∧ w.grownBy w' (Value.ownBlock (.slice A nn c)) ∧
      (Value.ownBlock (.slice A' (nn + mm) c') = Value.ownBlock (.slice A nn c) ∨ Value.ownBlock (.slice A' (nn + mm) c') = some w.heap.size) := by
  have hlen : nn + mm ≤ 140737488355328 := Nat.le_trans (Nat.le_mul_of_pos_right _ hby) hlim
  have key : ∃ v' w', (Builtin.append_ #[t, t] ty #[.slice A nn c, .slice A2 mm c2]).run P w = .ok v' w' ∧ w'.ownsRow 0 e sz v' (nn + mm) (xs ++ news) ∧ w.grownBy w' (Value.ownBlock (.slice A nn c)) ∧ (v'.ownBlock = Value.ownBlock (.slice A nn c) ∨ v'.ownBlock = some w.heap.size) := by
    rcases Nat.eq_zero_or_pos mm with h0 | h0
    · subst h0
      have hn : news = [] := List.eq_nil_of_length_eq_zero (by simpa using hl)
      subst hn
      refine ⟨.slice A nn c, w, ?_, by simpa using hown, ⟨rfl, rfl, rfl, Nat.le_refl _, fun _ _ _ => rfl⟩, .inl rfl⟩
      have hf := row_form hown
      have hle : nn + 0 ≤ c := by omega
      cases A2 <;> cases A <;> simp [Builtin.append_, run_und (und_elemT he), run_sizeT hz, Builtin.lenOf, Builtin.firstCells, loadCells, loadCellsFrom, hle, storeCells, hf.2.1]
    · obtain ⟨b2, o2, rfl, hc⟩ := hnews h0
      unfold zeroT at hzz
      obtain ⟨z, hz1, rfl⟩ := Option.map_eq_some_iff.1 hzz
      obtain ⟨i, hi, hz2⟩ := Option.bind_eq_some_iff.1 hz1
      have hsz : i.size = sz := by unfold sizeT at hz; rw [hi] at hz; simpa using hz
      have hbz : i.bytes = by_ := by unfold bytesT at hb; rw [hi] at hb; simpa using hb
      obtain ⟨v', w', h2, h3, h4, _, h5⟩ := run_append_own_at (P := P) w 0 t ty e i z sz by_ (und_elemT he) hi hz2 hsz hbz (by rw [← Array.length_toList]; exact hzl) hpos _ nn xs hown ⟨b2, o2, none⟩ mm c2 news hl
        (fun j u hj => by rw [add_plain]; exact hc j u hj) h1 (by simp only [maxLen]; omega) hlim (Nat.zero_le _)
      exact ⟨v', w', h2, h3, h4, h5⟩
  obtain ⟨v', w', h2, h3, h4, h5⟩ := key
  have hform : ∃ A' c', v' = .slice A' (nn + mm) c' := by
    rcases h3.2 with ⟨rfl, h0⟩ | ⟨g, cap, cur, rfl, _⟩
    · exact ⟨none, 0, by rw [h0]⟩
    · exact ⟨_, _, rfl⟩
  obtain ⟨A', c', rfl⟩ := hform
  refine ⟨A', c', w', ?_, h3, h4, h5⟩
  simp only [execOp, resolve, invoke, builtin, Sem.run_bind, Sem.run_pure, Result.andThen_ok, List.map_toArray, List.map_cons, List.map_nil, hs, hx, h2]
theorem ownBlock_fp (A : Option Addr) (nn c : Nat) (e sz : Nat) (xs : List Value) : Value.ownBlock (.slice A nn c) = (HE.row A nn c e sz xs).fp := by cases A <;> rfl
theorem St.appended {w w' : World} {i : Nat} {A A' : Option Addr} {nn c sz n' c' : Nat} {xs xs' : List Value} (hw : St B f L w) (hi : L[i]? = some (.row A nn c e sz xs)) (hown : w'.ownsRow 0 e sz (.slice A' n' c') n' xs') (hgr : w.grownBy w' (Value.ownBlock (.slice A nn c)))
    (hat : Value.ownBlock (.slice A' n' c') = Value.ownBlock (.slice A nn c) ∨ Value.ownBlock (.slice A' n' c') = some w.heap.size) : St B f (L.set i (.row A' n' c' e sz xs')) w' := by
  refine hw.set hi hgr.os hgr.tape hgr.output hgr.size (fun k hk hk' => hgr.block k hk (fun e0 => hk' ?_)) hown (fun b hb => ?_)
  · rw [← ownBlock_fp, ← e0]
  · rw [← ownBlock_fp] at hb
    rcases hat with h | h
    · left; rw [← ownBlock_fp, ← h]; exact hb
    · right; rw [h] at hb; injection hb with hb; omega
/-- 'append(s, ..)' of what stands in the row ahead of all (a literal): it goes, and s's row (entry i of the others) has it. -/
theorem app (i : Nat) {s : Operand} {A A2 : Option Addr} {nn c mm c2 sz by_ : Nat} {xs news zs : List Value} (k : ∀ A' c', RW .s P n B ops K l (up ρ d (.slice A' (nn + mm) c')) f (L.set i (.row A' (nn + mm) c' e sz (xs ++ news))))
    (hrun : runP P ops l0 ρ0 = (⟨some d, .call ⟨.builtin .append, ⟨[s, x]⟩, ⟨[t, t]⟩⟩, ty, pos, af, gd⟩ :: l, ρ) := by rfl) (hg : wantedE ops ρ ⟨some d, .call ⟨.builtin .append, ⟨[s, x]⟩, ⟨[t, t]⟩⟩, ty, pos, af, gd⟩ = true := by rfl)
    (hs : ev ρ s = .slice A nn c := by rfl) (hx : ev ρ x = .slice A2 mm c2 := by rfl) (hi : L[i]? = some (.row A nn c e sz xs) := by rfl) (he : elemT P t = some e := by rfl) (hz : sizeT P e = some sz := by rfl) (hb : bytesT P e = some by_ := by rfl) (hzz : zeroT P e = some zs := by rfl)
    (hzl : Nat.beq zs.length sz && Nat.ble 1 sz && Nat.ble 1 by_ = true := by rfl) (h1 : onesB news = true := by rfl) (hlim : (nn + mm) * by_ ≤ 140737488355328 := by omega) : RW .s P n B ops K l0 ρ0 f (.row A2 mm c2 e sz news :: L) := by
  refine rw_runP l0 ρ0 ?_
  rw [hrun]
  simp only [Bool.and_eq_true, Nat.ble_eq] at hzl
  have hz3 : 1 ≤ by_ := by simpa using hzl.2
  have hz2 : 1 ≤ sz := by simpa using hzl.1.2
  refine sw_do hg fun w hw => ?_
  have hown : w.ownsRow 0 e sz (.slice A nn c) nn xs := hw.own (.row A nn c e sz xs) (List.mem_cons_of_mem _ (List.mem_of_getElem? hi))
  have hown2 : w.ownsRow 0 e sz (.slice A2 mm c2) mm news := hw.own (.row A2 mm c2 e sz news) (List.mem_cons_self)
  have hf2 := row_form hown2
  obtain ⟨A', c', w', h2, h3, h4, h5⟩ := append_run (P := P) (d := d) (ty := ty) (pos := pos) (af := af) (gd := gd) hs hx he hz hb hzz (Nat.eq_of_beq_eq_true hzl.1.1) hz2 hown hf2.1 (fun h0 => by
    obtain ⟨g, rfl⟩ := hf2.2.2.2.1 h0
    exact ⟨g, 0, rfl, fun j u hj => by have := hown2.cells (g := g) rfl j u hj; rwa [add_plain] at this⟩) (onesB_spec h1) hlim hz3
  have hw' : St B f L w := hw.sublist (List.sublist_cons_self _ _)
  exact ⟨_, w', h2, .inl ⟨_, rfl, f, _, hw'.appended hi h3 h4 h5, k A' c'⟩⟩
/-- 'append(s, x...)' of what stands in the view. -/
theorem appV (i : Nat) {s : Operand} {A A2 : Option Addr} {nn c mm c2 sz by_ : Nat} {xs news zs : List Value} (hl : news.length = mm * sz) (hnews : 0 < mm → ∃ b o, A2 = some ⟨b, o, none⟩ ∧ Cells f b o news) (h1 : ∀ u ∈ news, u.oneCell' = true)
    (k : ∀ A' c', RW .s P n B ops K l (up ρ d (.slice A' (nn + mm) c')) f (L.set i (.row A' (nn + mm) c' e sz (xs ++ news))))
    (hrun : runP P ops l0 ρ0 = (⟨some d, .call ⟨.builtin .append, ⟨[s, x]⟩, ⟨[t, t]⟩⟩, ty, pos, af, gd⟩ :: l, ρ) := by rfl) (hg : wantedE ops ρ ⟨some d, .call ⟨.builtin .append, ⟨[s, x]⟩, ⟨[t, t]⟩⟩, ty, pos, af, gd⟩ = true := by rfl)
    (hs : ev ρ s = .slice A nn c := by rfl) (hx : ev ρ x = .slice A2 mm c2 := by rfl) (hi : L[i]? = some (.row A nn c e sz xs) := by rfl) (he : elemT P t = some e := by rfl) (hz : sizeT P e = some sz := by rfl) (hb : bytesT P e = some by_ := by rfl) (hzz : zeroT P e = some zs := by rfl)
    (hzl : Nat.beq zs.length sz && Nat.ble 1 sz && Nat.ble 1 by_ = true := by rfl) (hlim : (nn + mm) * by_ ≤ 140737488355328 := by omega) : RW .s P n B ops K l0 ρ0 f L := by
  refine rw_runP l0 ρ0 ?_
  rw [hrun]
  simp only [Bool.and_eq_true, Nat.ble_eq] at hzl
  have hz3 : 1 ≤ by_ := by simpa using hzl.2
  have hz2 : 1 ≤ sz := by simpa using hzl.1.2
  refine sw_do hg fun w hw => ?_
  have hown : w.ownsRow 0 e sz (.slice A nn c) nn xs := hw.own (.row A nn c e sz xs) (List.mem_of_getElem? hi)
  obtain ⟨A', c', w', h2, h3, h4, h5⟩ := append_run (P := P) (d := d) (ty := ty) (pos := pos) (af := af) (gd := gd) hs hx he hz hb hzz (Nat.eq_of_beq_eq_true hzl.1.1) hz2 hown hl (fun h0 => by
    obtain ⟨b2, o2, rfl, hc⟩ := hnews h0
    exact ⟨b2, o2, rfl, fun j u hj => hw.on.cell (hc.get j u hj)⟩) h1 hlim hz3
  exact ⟨_, w', h2, .inl ⟨_, rfl, f, _, hw.appended hi h3 h4 h5, k A' c'⟩⟩
end
end Go.Hog
