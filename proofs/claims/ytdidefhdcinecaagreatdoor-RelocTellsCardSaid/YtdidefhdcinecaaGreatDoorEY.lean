/- E19 E20 E21, in one text. -/
import Derived.Test.YtdidefhdcinecaaGreatDoorE18
import Derived.Laws.OwnMore
set_option linter.unusedVariables false
set_option linter.unusedSimpArgs false
namespace Go.Hog
open Go.RowKit Rp
/-- A slice of n elements, of room c, that begins at element o of a row of one's own. -/
structure Off (sz : Nat) (A Ax : Option Addr) (o n c : Nat) : Prop where
  at_ : 0 < c → ∃ b, A = some ⟨b, 0, none⟩ ∧ Ax = some ⟨b, o * sz, none⟩
  le : n ≤ c
theorem Off.tail {sz : Nat} {b o n c : Nat} {A Ax : Option Addr} (h : Off sz A Ax o n c) (hA : A = some ⟨b, 0, none⟩) (h0 : 0 < n) : Off sz A (some ⟨b, o * sz + (if 1 = c then 0 else 1 * sz), none⟩) (o + 1) (n - 1) (c - 1) := by
  refine ⟨fun hc => ⟨b, hA, ?_⟩, by have := h.le; omega⟩
  rw [if_neg (by omega), Nat.add_mul]
section
variable {P : Program} {n : Nat} {B : Bs} {f : View} {L : List HE} {ρ : Env} {Q : Post} {K : Kon} {ops : Array Oper} {m : Md} {l l0 : List Oper} {ρ0 : Env}
variable {d : Nat} {x y : Operand} {t ty e t2 : TypeId} {pos : String} {af : Array Edge} {gd : Option (Nat × Bool)} {b o : Nat} {v : Value} {vs cs : List Value}
theorem appOff (i : Nat) {s : Operand} {A Ax A2 : Option Addr} {o nn c mm c2 sz by_ : Nat} {xs news zs : List Value} (hoff : Off sz A Ax o nn c) (hl : news.length = mm * sz) (hnews : ∀ w, St B f L w → 0 < mm → ∃ b o, A2 = some ⟨b, o, none⟩ ∧ ∀ j u, news[j]? = some u → w.cell? ⟨b, o + j, none⟩ = some u) (h1 : ∀ u ∈ news, u.oneCell' = true)
    (k : ∀ A' Ax' o' c' xs', Off sz A' Ax' o' (nn + mm) c' → xs'.drop (o' * sz) = xs.drop (o * sz) ++ news → RW .s P n B ops K l (up ρ d (.slice Ax' (nn + mm) c')) f (L.set i (.row A' (o' + (nn + mm)) (o' + c') e sz xs')))
    (hrun : runP P ops l0 ρ0 = (⟨some d, .call ⟨.builtin .append, ⟨[s, x]⟩, ⟨[t, t]⟩⟩, ty, pos, af, gd⟩ :: l, ρ) := by rfl) (hg : wantedE ops ρ ⟨some d, .call ⟨.builtin .append, ⟨[s, x]⟩, ⟨[t, t]⟩⟩, ty, pos, af, gd⟩ = true := by rfl)
    (hs : ev ρ s = .slice Ax nn c := by rfl) (hx : ev ρ x = .slice A2 mm c2 := by rfl) (hi : L[i]? = some (.row A (o + nn) (o + c) e sz xs) := by rfl) (he : elemT P t = some e := by rfl) (hz : sizeT P e = some sz := by rfl) (hb : bytesT P e = some by_ := by rfl) (hzz : zeroT P e = some zs := by rfl)
    (hzl : (Nat.beq zs.length sz && Nat.ble 1 sz && Nat.ble 1 by_) = true := by rfl) (hlim : (nn + mm) * by_ ≤ 140737488355328 := by omega) : RW .s P n B ops K l0 ρ0 f L := by
  refine rw_runP l0 ρ0 ?_
  rw [hrun]
  simp only [Bool.and_eq_true] at hzl
  have hzl1 : zs.length = sz := Nat.eq_of_beq_eq_true hzl.1.1
  have hp1 : 0 < sz := Nat.lt_of_succ_le (Nat.le_of_ble_eq_true hzl.1.2)
  have hp2 : 0 < by_ := Nat.lt_of_succ_le (Nat.le_of_ble_eq_true hzl.2)
  have hlen : nn + mm ≤ 140737488355328 := Nat.le_trans (Nat.le_mul_of_pos_right _ hp2) hlim
  have h63 : nn + mm ≤ maxLen := by simp only [maxLen]; omega
  obtain ⟨z, hz1, rfl⟩ := Option.map_eq_some_iff.1 (show ((P.info? e).bind (·.zero)).map (·.cells.toList) = some zs from hzz)
  obtain ⟨ti, hti, hz2⟩ := Option.bind_eq_some_iff.1 hz1
  have hsz : ti.size = sz := by unfold sizeT at hz; rw [hti] at hz; simpa using hz
  have hbz : ti.bytes = by_ := by unfold bytesT at hb; rw [hti] at hb; simpa using hb
  refine sw_do hg fun w hw => ?_
  have hrl := hw.rowLen hi
  have hgo : ∀ {r w'}, (Builtin.append_ #[t, t] ty #[.slice Ax nn c, .slice A2 mm c2]).run P w = .ok r w' → (execOp (ev ρ) ⟨some d, .call ⟨.builtin .append, ⟨[s, x]⟩, ⟨[t, t]⟩⟩, ty, pos, af, gd⟩).run P w = .ok (.value r) w' := fun h => exec_append hs hx h
  have hdl : (xs.drop (o * sz)).length = nn * sz := by rw [List.length_drop, hrl.1, Nat.add_mul]; omega
  by_cases hroom : nn + mm ≤ c
  · -- in place
    rcases Nat.eq_zero_or_pos mm with h0 | h0
    · subst h0
      obtain rfl : news = [] := List.eq_nil_of_length_eq_zero (by simpa using hl)
      refine ⟨.value (.slice Ax (nn + 0) c), w, hgo ?_, .inl ⟨_, rfl, f, _, ?_, k A Ax o c xs ⟨hoff.at_, hroom⟩ (by simp)⟩⟩
      · have hle : nn + 0 ≤ c := hroom
        cases A2 <;> cases Ax <;> simp [Builtin.append_, run_und (und_elemT he), run_sizeT hz, Builtin.lenOf, Builtin.firstCells, loadCells, loadCellsFrom, hle, storeCells, hoff.le]
      · have hlt : i < L.length := (List.getElem?_eq_some_iff.1 hi).1
        rw [Nat.add_zero]
        have e2 : L.set i (.row A (o + nn) (o + c) e sz xs) = L := by
          have := (List.getElem?_eq_some_iff.1 hi).2
          rw [← this]
          exact List.set_getElem_self hlt
        rw [e2]
        exact hw
    · obtain ⟨b, rfl, rfl⟩ := hoff.at_ (by omega)
      obtain ⟨b2, o2, rfl, hc⟩ := hnews w hw h0
      have hown : w.ownsRow 0 e sz (.slice (some ⟨b, 0, none⟩) (o + nn) (o + c)) (o + nn) xs := hw.own _ (List.mem_of_getElem? hi)
      rcases hown.2 with ⟨h2, _⟩ | ⟨g, cap, cur, hv, hbg, hgc, hnc, hcm, hcs, htake⟩
      · injection h2 with h2; cases h2
      injection hv with hv1 _ hv3
      injection hv1 with hv1
      injection hv1 with hv1
      subst hv1 hv3
      have hc' : ∀ j u, news[j]? = some u → w.cell? ((⟨b2, o2, none⟩ : Addr).add j) = some u := fun j u hj => by rw [add_plain]; exact hc j u hj
      have hfit : (o + nn) * sz + news.length ≤ cur.size := by rw [hl, hcs, ← Nat.add_mul]; exact Nat.mul_le_mul_right _ (by omega)
      have hcell : ∀ j, j < news.length → (w.cell? ⟨b, o * sz + nn * ti.size + j, none⟩).isSome = true := fun j hj => by
        have hlt : o * sz + nn * ti.size + j < cur.size := by rw [hsz, ← Nat.add_mul]; omega
        simp [World.cell?, hgc, hlt]
      have hfrz : ∀ j, j < news.length → w.frozen? ⟨b, o * sz + nn * ti.size + j, none⟩ = false := fun j hj => by
        simp [World.frozen?, hgc]
      have hr := run_append_room_cells (P := P) w t ty e ti (und_elemT he) hti b (o * sz) nn c ⟨b2, o2, none⟩ mm c2 news (by rw [hsz]; exact hl) hc' h1 hroom hcell hfrz
      rw [hsz, ← Nat.add_mul] at hr
      have hst := run_storeCells_at P b ((o + nn) * sz) e news 0 cur w hgc (by simpa using hfit) h1
      simp only [Nat.add_zero] at hst
      have hsc := run_storeCells_cells (P := P) b ((o + nn) * sz) news 0 w (by
        intro j hj
        have := hcell j hj
        rwa [hsz, ← Nat.add_mul] at this) (by
        intro j hj
        have := hfrz j hj
        rwa [hsz, ← Nat.add_mul] at this) h1
      simp only [Nat.add_zero] at hsc
      rw [hst] at hsc
      have hww : w.setCells b ((o + nn) * sz) news = w.setRow b (cur.toList.take ((o + nn) * sz) ++ news ++ cur.toList.drop ((o + nn) * sz + news.length)).toArray := by
        injection hsc with _ hsc
        exact hsc.symm
      rw [hww] at hr
      refine ⟨_, _, hgo hr, .inl ⟨_, rfl, f, _, ?_, k (some ⟨b, 0, none⟩) (some ⟨b, o * sz, none⟩) o c (xs ++ news) ⟨fun _ => ⟨b, rfl, rfl⟩, hroom⟩ ?_⟩⟩
      · refine hw.set hi rfl rfl rfl (by simp [World.setRow]) (fun k' _ hk' => setRow_other w b k' _ (fun e => hk' (by rw [e]; rfl))) ?_ (fun b' hb' => .inl hb')
        have hlen2 : (xs ++ news).length = (o + (nn + mm)) * sz := by rw [List.length_append, hrl.1, hl, ← Nat.add_mul, Nat.add_assoc]
        refine ⟨hlen2, .inr ⟨b, o + c, _, rfl, Nat.zero_le _, setRow_heap w b cur _ e _ hgc, by omega, hcm, ?_, ?_⟩⟩
        · simp only [List.size_toArray, List.length_append, List.length_take, List.length_drop, Array.length_toList]
          omega
        · rw [htake, ← hlen2]
          exact List.take_left
      · rw [List.drop_append_of_le_length (by rw [hrl.1, Nat.add_mul]; omega)]
  · -- a new row
    have hmm : 0 < mm := by have := hoff.le; omega
    obtain ⟨b2, o2, rfl, hc⟩ := hnews w hw hmm
    have hc' : ∀ j u, news[j]? = some u → w.cell? ((⟨b2, o2, none⟩ : Addr).add j) = some u := fun j u hj => by rw [add_plain]; exact hc j u hj
    have key : ∃ v' w', (Builtin.append_ #[t, t] ty #[.slice Ax nn c, .slice (some ⟨b2, o2, none⟩) mm c2]).run P w = .ok v' w' ∧ w'.ownsRow w.heap.size e sz v' (nn + mm) (xs.drop (o * sz) ++ news) ∧ w.grownBy w' none := by
      cases Ax with
      | none =>
        have hc0 : c = 0 := by
          rcases Nat.eq_zero_or_pos c with h | h
          · exact h
          · obtain ⟨b, _, e0⟩ := hoff.at_ h; cases e0
        have hn0 : nn = 0 := by have := hoff.le; omega
        subst hc0 hn0
        have hd0 : xs.drop (o * sz) = [] := List.eq_nil_of_length_eq_zero (by simpa using hdl)
        obtain ⟨v', w', h2, h3, h4, _⟩ := run_append_own (P := P) w w.heap.size t ty e ti z sz by_ (und_elemT he) hti hz2 hsz hbz (by rw [← Array.length_toList]; exact hzl1) hp1 (.slice none 0 0) 0 [] (World.ownsRow_nil w _ e sz) ⟨b2, o2, none⟩ mm c2 news hl hc' h1 h63 hlim (Nat.le_refl _)
        rw [hd0]
        exact ⟨v', w', h2, h3, h4⟩
      | some a =>
        refine run_append_arg_grows (P := P) w t ty e ti z sz by_ (und_elemT he) hti hz2 hsz hbz (by rw [← Array.length_toList]; exact hzl1) hp1 a nn c (xs.drop (o * sz)) hdl (fun j u hj => ?_) ⟨b2, o2, none⟩ mm c2 news hl hc' (by omega) h63 hlim
        have hn0 : 0 < nn := by
          rcases Nat.eq_zero_or_pos nn with h | h
          · subst h
            have : xs.drop (o * sz) = [] := List.eq_nil_of_length_eq_zero (by simpa using hdl)
            rw [this] at hj; simp at hj
          · exact h
        obtain ⟨b, hA, hAx⟩ := hoff.at_ (by have := hoff.le; omega)
        injection hAx with hAx
        subst hA hAx
        rw [add_plain]
        rw [List.getElem?_drop] at hj
        exact hw.rowc hi hj
    obtain ⟨v', w', h2, h3, h4⟩ := key
    rcases h3.2 with ⟨rfl, h0⟩ | ⟨g, cap, cur, rfl, hbg, hg2, r⟩
    · omega
    refine ⟨_, w', hgo h2, .inl ⟨_, rfl, f, _, ?_, k (some ⟨g, 0, none⟩) (some ⟨g, 0, none⟩) 0 cap (xs.drop (o * sz) ++ news) ⟨fun _ => ⟨g, rfl, by rw [Nat.zero_mul]⟩, r.1⟩ (by rw [Nat.zero_mul]; rfl)⟩⟩
    rw [Nat.zero_add, Nat.zero_add]
    have hbel := below_grown h4
    exact hw.set hi hbel.os hbel.tape hbel.output hbel.size (fun k' hk' _ => hbel.block k' hk') ⟨h3.1, .inr ⟨g, cap, cur, rfl, Nat.zero_le _, hg2, r⟩⟩ (fun b' hb' => by
      have : g = b' := by simpa [HE.fp] using hb'
      subst this
      exact .inr hbg)
theorem St.rowA {w : World} {i c nn sz : Nat} {A : Option Addr} {xs : List Value} (hw : St B f L w) (hi : L[i]? = some (.row A nn c e sz xs)) : (A = none ∧ nn = 0 ∧ c = 0) ∨ ∃ g, A = some ⟨g, 0, none⟩ := by
  have hown : w.ownsRow 0 e sz (.slice A nn c) nn xs := hw.own _ (List.mem_of_getElem? hi)
  rcases hown.2 with ⟨h2, h3⟩ | ⟨g, cap, cur, hv, _⟩
  · injection h2 with h2 h4 h5
    exact .inl ⟨h2, h3, h5⟩
  · injection hv with hv _ _
    exact .inr ⟨g, hv⟩
theorem erowA (i : Nat) {co : Code} {A : Option Addr} {nn c sz : Nat} {xs : List Value} (k : ((A = none ∧ nn = 0 ∧ c = 0) ∨ ∃ g, A = some ⟨g, 0, none⟩) → EW P n B co Q ρ f L) (hi : L[i]? = some (.row A nn c e sz xs) := by rfl) : EW P n B co Q ρ f L :=
  ew_have (fun w hw => hw.rowA hi) k
theorem Off.start {sz nn c : Nat} {A : Option Addr} (h : (A = none ∧ nn = 0 ∧ c = 0) ∨ ∃ g, A = some ⟨g, 0, none⟩) (hle : nn ≤ c) : Off sz A A 0 nn c :=
  ⟨fun hc => by
    rcases h with ⟨_, _, h⟩ | ⟨g, h⟩
    · omega
    · exact ⟨g, h, by rw [Nat.zero_mul]; exact h⟩, hle⟩
end
def numV (n : Int) : Value := i64 n
def iRow (A : Option Addr) (c : Nat) (l : List Int) : HE := .row A l.length c 3 1 (l.map numV)
end Go.Hog

set_option linter.unusedVariables false
set_option linter.unusedSimpArgs false
namespace Go.Hog
open Go.RowKit Rp
def fldV (P : Program) (t : TypeId) (i : Nat) (v : Value) : Option Value :=
  match P.underlying t with
  | some (.struct fs) => (match fs[i]? with
    | some fd => (match aggT P fd.type, v with
      | some false, .agg cs => cs.toList[fd.offset]?
      | _, _ => none)
    | none => none)
  | _ => none
section
variable {P : Program} {n : Nat} {B : Bs} {f : View} {L : List HE} {ρ : Env} {Q : Post} {K : Kon} {ops : Array Oper} {m : Md} {l l0 : List Oper} {ρ0 : Env}
variable {d : Nat} {x y : Operand} {t ty e t2 : TypeId} {pos : String} {af : Array Edge} {gd : Option (Nat × Bool)} {b o : Nat} {v : Value} {vs cs : List Value}
/-- A field of a struct's value. -/
theorem fld {i : Nat} (k : RW m P n B ops K l (up ρ d v) f L) (hrun : runP P ops l0 ρ0 = (⟨some d, .field t x i, ty, pos, af, gd⟩ :: l, ρ) := by rfl) (hg : wantedE ops ρ ⟨some d, .field t x i, ty, pos, af, gd⟩ = true := by rfl) (hv : fldV P t i (ev ρ x) = some v := by rfl) : RW m P n B ops K l0 ρ0 f L := by
  refine rw_runP l0 ρ0 ?_
  rw [hrun]
  unfold fldV at hv
  split at hv
  · rename_i fs e1
    split at hv
    · rename_i fd e2
      split at hv
      · rename_i cs' e3 e4
        refine rw_y hg (fun w hw => ?_) k
        have h1 : cs'[fd.offset]? = some v := by rw [← hv]; simp
        simp only [execOp, Instr.field, Sem.run_bind, run_und e1, Result.andThen_ok, e2, e4, asAgg, Sem.run_pure, part, run_aggT e3]
        simp [h1]
      · cases hv
    · cases hv
  · cases hv
/-- A struct of an own row (entry i). -/
theorem ldrA (i : Nat) {c nn sz : Nat} {xs : List Value} (hc : ∀ j v, vs[j]? = some v → xs[o + j]? = some v) (k : RW m P n B ops K l (up ρ d (.agg ⟨vs⟩)) f L) (hrun : runP P ops l0 ρ0 = (⟨some d, .load t x, ty, pos, af, gd⟩ :: l, ρ) := by rfl) (hg : wantedE ops ρ ⟨some d, .load t x, ty, pos, af, gd⟩ = true := by rfl) (hi : L[i]? = some (.row (some ⟨b, 0, none⟩) nn c e sz xs) := by rfl) (hx : ev ρ x = .pointer (some ⟨b, o, none⟩) := by rfl) (ht : aggT P t = some true := by rfl) (hz : sizeT P t = some vs.length := by rfl) : RW m P n B ops K l0 ρ0 f L := by
  refine rw_runP l0 ρ0 ?_
  rw [hrun]
  exact rw_y hg (fun w hw => by
    have := run_loadVarA (P := P) (w := w) (a := ⟨b, o, none⟩) ht hz (fun j v hj => by rw [add_plain]; exact hw.rowc hi (hc j v hj))
    simp [execOp, Instr.loadAt, hx, Instr.sureAddr, this]) k
variable {ks : List Str} {g : Str → Value} {s : Str} {c : Bool} {z : Value} {ke ee : TypeId}
/-- A look into a map (entry i), whichever the key: what is not there reads as zero. -/
theorem lkA (i : Nat) (hs : s ∉ ks → g s = z) (k : RW m P n B ops K l (up ρ d (g s)) f L) (hrun : runP P ops l0 ρ0 = (⟨some d, .lookup t x y false, ty, pos, af, gd⟩ :: l, ρ) := by rfl) (hg : wantedE ops ρ ⟨some d, .lookup t x y false, ty, pos, af, gd⟩ = true := by rfl)
    (hi : L[i]? = some (.mp b (mapF ks g)) := by rfl) (hx : ev ρ x = .map (some b) := by rfl) (hy : ev ρ y = str s := by rfl) (ht : mapS P t = some (ke, ee, z) := by rfl) : RW m P n B ops K l0 ρ0 f L := by
  by_cases h : s ∈ ks
  · exact lkI (c := false) i h k hrun hg hi hx hy ht
  · exact lkO (c := false) i h (by
      show RW m P n B ops K l (up ρ d z) f L
      rw [← hs h]
      exact k) hrun hg hi hx hy ht
theorem lkVA (hm : (HE.mp b (mapF ks g)).seen f) (hs : s ∉ ks → g s = z) (k : RW m P n B ops K l (up ρ d (g s)) f L) (hrun : runP P ops l0 ρ0 = (⟨some d, .lookup t x y false, ty, pos, af, gd⟩ :: l, ρ) := by rfl) (hg : wantedE ops ρ ⟨some d, .lookup t x y false, ty, pos, af, gd⟩ = true := by rfl)
    (hx : ev ρ x = .map (some b) := by rfl) (hy : ev ρ y = str s := by rfl) (ht : mapS P t = some (ke, ee, z) := by rfl) : RW m P n B ops K l0 ρ0 f L := by
  by_cases h : s ∈ ks
  · exact lkVI (c := false) hm h k hrun hg hx hy ht
  · exact lkVO (c := false) hm h (by
      show RW m P n B ops K l (up ρ d z) f L
      rw [← hs h]
      exact k) hrun hg hx hy ht
def kAdd (ks : List Str) (s : Str) : List Str := if s ∈ ks then ks else ks ++ [s]
theorem kAdd_nodup {ks : List Str} {s : Str} (h : ks.Nodup) : (kAdd ks s).Nodup := by
  unfold kAdd
  split
  · exact h
  · rename_i hn
    refine List.nodup_append.2 ⟨h, by simp, fun a ha b hb e => ?_⟩
    rw [List.mem_singleton] at hb
    subst hb e
    exact hn ha
theorem kAdd_mem {ks : List Str} {s u : Str} : u ∈ kAdd ks s ↔ u ∈ ks ∨ u = s := by
  unfold kAdd
  split
  · rename_i h
    constructor
    · exact .inl
    · rintro (h1 | rfl)
      · exact h1
      · exact h
  · simp
/-- A key, whichever, gets a value. -/
theorem muA (i : Nat) (hnd : ks.Nodup) {u : Operand} {uv : Value} (k : RW .s P n B ops K l ρ f (L.set i (.mp b (mapF (kAdd ks s) (updF g s uv))))) (hrun : runP P ops l0 ρ0 = (⟨none, .mapUpdate t x y u, ty, pos, af, gd⟩ :: l, ρ) := by rfl) (hg : wantedE ops ρ ⟨none, .mapUpdate t x y u, ty, pos, af, gd⟩ = true := by rfl)
    (hi : L[i]? = some (.mp b (mapF ks g)) := by rfl) (hx : ev ρ x = .map (some b) := by rfl) (hy : ev ρ y = str s := by rfl) (hu : ev ρ u = uv := by rfl) (ht : mapS P t = some (ke, ee, z) := by rfl) : RW .s P n B ops K l0 ρ0 f L := by
  by_cases h : s ∈ ks
  · exact muI i h hnd (by unfold kAdd at k; rw [if_pos h] at k; exact k) hrun hg hi hx hy hu ht
  · exact muO i h (by unfold kAdd at k; rw [if_neg h] at k; exact k) hrun hg hi hx hy hu ht
end
end Go.Hog

set_option linter.unusedVariables false
set_option linter.unusedSimpArgs false
namespace Go.Hog
open Go.RowKit Rp
section
variable {P : Program} {n : Nat} {B : Bs} {f : View} {L : List HE} {ρ : Env} {Q : Post} {K : Kon} {ops : Array Oper} {m : Md} {l l0 : List Oper} {ρ0 : Env}
variable {d : Nat} {x y : Operand} {t ty e t2 : TypeId} {pos : String} {af : Array Edge} {gd : Option (Nat × Bool)} {b o : Nat} {v : Value} {vs cs : List Value}
/-- 'make([]T, n)', T of one cell. -/
theorem mks {z : Value} {by_ : Nat} {i j : Int} {ki kj : IntKind} (q : Nat) (hlim : by_ * q ≤ 140737488355328 ∧ q ≤ 140737488355328) (k : ∀ b, RW .s P n B ops K l (up ρ d (.slice (some ⟨b, 0, none⟩) q q)) f (.row (some ⟨b, 0, none⟩) q q e 1 (List.replicate q z) :: L))
    (hrun : runP P ops l0 ρ0 = (⟨some d, .makeSlice t x y, ty, pos, af, gd⟩ :: l, ρ) := by rfl) (hg : wantedE ops ρ ⟨some d, .makeSlice t x y, ty, pos, af, gd⟩ = true := by rfl)
    (hx : ev ρ x = .int ki i := by rfl) (hy : ev ρ y = .int kj j := by rfl) (he : elemT P t = some e := by rfl) (hz : sizeT P e = some 1 := by rfl) (hb : bytesT P e = some by_ := by rfl) (hzz : zeroT P e = some [z] := by rfl) (hi : i = q := by rfl) (hj : j = q := by rfl) : RW .s P n B ops K l0 ρ0 f L := by
  refine rw_runP l0 ρ0 ?_
  rw [hrun]
  subst hi hj
  obtain ⟨zz, hz1, hzc⟩ := Option.map_eq_some_iff.1 (show ((P.info? e).bind (·.zero)).map (·.cells.toList) = some [z] from hzz)
  obtain ⟨ti, hti, hz2⟩ := Option.bind_eq_some_iff.1 hz1
  have hsz : ti.size = 1 := by unfold sizeT at hz; rw [hti] at hz; simpa using hz
  have hbz : ti.bytes = by_ := by unfold bytesT at hb; rw [hti] at hb; simpa using hb
  have hzc' : zz.cells = #[z] := by apply Array.ext'; simpa using hzc
  subst hbz
  refine sw_do hg fun w hw => ?_
  have hb' : (ti.bytes : Int) * (q : Int) ≤ 281474976710656 := by
    have h : ((ti.bytes * q : Nat) : Int) ≤ 281474976710656 := by omega
    rwa [Int.natCast_mul] at h
  have hr := run_make (P := P) w t e ti zz (und_elemT he) hti hz2 ki kj (q : Int) (q : Int) (by omega) (Int.le_refl _) hb' (by omega)
  rw [hsz, hzc'] at hr
  simp only [Int.toNat_natCast, Nat.mul_one] at hr
  refine ⟨_, _, by simp only [execOp, hx, hy, Sem.run_bind, hr, Result.andThen_ok]; rfl, .inl ⟨_, rfl, f, _, ?_, k w.heap.size⟩⟩
  refine hw.new (e := .row (some ⟨w.heap.size, 0, none⟩) q q e 1 (List.replicate q z)) ?_ rfl
  refine ⟨by simp, .inr ⟨w.heap.size, q, _, rfl, Nat.zero_le _, heap_new _ _, Nat.le_refl _, by simp only [maxLen]; omega, by rw [size_madeCells, Nat.mul_one], ?_⟩⟩
  rw [toList_madeCells_one, Nat.mul_one]
  simp
/-- 'make([]T, 0, n)'. -/
theorem mkz {z : Value} {by_ : Nat} {i j : Int} {ki kj : IntKind} (q : Nat) (hlim : by_ * q ≤ 140737488355328 ∧ q ≤ 140737488355328) (k : ∀ b, RW .s P n B ops K l (up ρ d (.slice (some ⟨b, 0, none⟩) 0 q)) f (.row (some ⟨b, 0, none⟩) 0 q e 1 [] :: L))
    (hrun : runP P ops l0 ρ0 = (⟨some d, .makeSlice t x y, ty, pos, af, gd⟩ :: l, ρ) := by rfl) (hg : wantedE ops ρ ⟨some d, .makeSlice t x y, ty, pos, af, gd⟩ = true := by rfl)
    (hx : ev ρ x = .int ki i := by rfl) (hy : ev ρ y = .int kj j := by rfl) (he : elemT P t = some e := by rfl) (hz : sizeT P e = some 1 := by rfl) (hb : bytesT P e = some by_ := by rfl) (hzz : zeroT P e = some [z] := by rfl) (hi : i = 0 := by rfl) (hj : j = q := by rfl) : RW .s P n B ops K l0 ρ0 f L := by
  refine rw_runP l0 ρ0 ?_
  rw [hrun]
  subst hi hj
  obtain ⟨zz, hz1, hzc⟩ := Option.map_eq_some_iff.1 (show ((P.info? e).bind (·.zero)).map (·.cells.toList) = some [z] from hzz)
  obtain ⟨ti, hti, hz2⟩ := Option.bind_eq_some_iff.1 hz1
  have hsz : ti.size = 1 := by unfold sizeT at hz; rw [hti] at hz; simpa using hz
  have hbz : ti.bytes = by_ := by unfold bytesT at hb; rw [hti] at hb; simpa using hb
  subst hbz
  refine sw_do hg fun w hw => ?_
  have hb' : (ti.bytes : Int) * (q : Int) ≤ 281474976710656 := by
    have h : ((ti.bytes * q : Nat) : Int) ≤ 281474976710656 := by omega
    rwa [Int.natCast_mul] at h
  have hr := run_make (P := P) w t e ti zz (und_elemT he) hti hz2 ki kj 0 (q : Int) (Int.le_refl _) (by omega) hb' (by omega)
  rw [hsz] at hr
  simp only [Int.toNat_natCast, Int.toNat_zero, Nat.mul_one] at hr
  refine ⟨_, _, by simp only [execOp, hx, hy, Sem.run_bind, hr, Result.andThen_ok]; rfl, .inl ⟨_, rfl, f, _, ?_, k w.heap.size⟩⟩
  refine hw.new (e := .row (some ⟨w.heap.size, 0, none⟩) 0 q e 1 []) ?_ rfl
  exact ⟨by simp, .inr ⟨w.heap.size, q, _, rfl, Nat.zero_le _, heap_new _ _, Nat.zero_le _, by simp only [maxLen]; omega, by rw [size_madeCells, Nat.mul_one], by simp⟩⟩
end
end Go.Hog
