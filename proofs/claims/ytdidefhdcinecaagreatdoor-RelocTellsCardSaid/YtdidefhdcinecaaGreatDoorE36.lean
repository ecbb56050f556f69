/- The engine, part 36: bytes of a text as a block of one's own; a text copied into it; the text of it. -/
import Derived.Test.YtdidefhdcinecaaGreatDoorEZ
import Derived.Test.YtdidefhdcinecaaGreatDoorEW
import Derived.Laws.IdiomCopy
set_option linter.unusedVariables false
set_option linter.unusedSimpArgs false
namespace Go.Hog
open Go.RowKit Rp
theorem setCells_blk {b : Nat} {t : TypeId} {fz : Nat × Nat} : ∀ (vs : List Value) (o : Nat) (cur : Array Value) (w : World), w.heap[b]? = some (.cells cur t fz) → ∃ cur' : Array Value, w.setCells b o vs = w.setRow b cur' ∧ cur'.size = cur.size ∧ ∀ k, cur'[k]? = if o ≤ k ∧ k < o + vs.length ∧ k < cur.size then vs[k - o]? else cur[k]?
  | [], o, cur, w, hg => ⟨cur, by rw [setRow_self w b cur t fz hg]; rfl, rfl, fun k => by rw [if_neg (by simp; omega)]⟩
  | v :: vs, o, cur, w, hg => by
    have h1 : w.setCell ⟨b, o, none⟩ v = w.setRow b (cur.setIfInBounds o v) := setCell_eq_setRow w b o cur t fz v hg
    obtain ⟨cur', e1, e2, e3⟩ := setCells_blk vs (o + 1) (cur.setIfInBounds o v) (w.setRow b (cur.setIfInBounds o v)) (setRow_heap w b cur _ t fz hg)
    refine ⟨cur', ?_, by rw [e2]; simp, fun k => ?_⟩
    · rw [World.setCells, h1, e1, setRow_setRow]
    · rw [e3 k]
      simp only [Array.size_setIfInBounds, List.length_cons]
      by_cases hk : k = o
      · subst hk
        by_cases hs : k < cur.size
        · rw [if_neg (by omega), if_pos (by omega)]
          simp [hs]
        · rw [if_neg (by omega), if_neg (by omega)]
          rw [Array.getElem?_eq_none (by simpa using Nat.le_of_not_lt hs), Array.getElem?_eq_none (Nat.le_of_not_lt hs)]
      · by_cases hin : o + 1 ≤ k ∧ k < o + 1 + vs.length ∧ k < cur.size
        · rw [if_pos hin, if_pos (by omega)]
          obtain ⟨j, hj⟩ : ∃ j, k - o = j + 1 := ⟨k - o - 1, by omega⟩
          rw [hj, List.getElem?_cons_succ]
          congr 1
          omega
        · rw [if_neg hin, if_neg (by omega), Array.getElem?_setIfInBounds_ne (by omega)]
section
variable {P : Program} {n : Nat} {B : Bs} {f : View} {L : List HE} {ρ : Env} {K : Kon} {ops : Array Oper} {m : Md} {l l0 : List Oper} {ρ0 : Env}
variable {d : Nat} {x y : Operand} {t t2 ty e : TypeId} {pos : String} {af : Array Edge} {gd : Option (Nat × Bool)} {b o : Nat} {cur : Array Value} {fr : Nat × Nat}
theorem run_cpS {w : World} {u : Str} {nn cc : Nat} {e2 : TypeId} (hu : P.underlying t = some (.slice e)) (hs : sizeT P e = some 1) (hg : w.heap[b]? = some (.cells cur e2 fr)) (hl : u.length ≤ nn) (hc : o + u.length ≤ cur.size) (hf : o + u.length ≤ fr.1) :
    (Builtin.copy_ #[t, t2] ty #[.slice (some ⟨b, o, none⟩) nn cc, str u]).run P w = .ok (goInt u.length) (w.setCells b o (u.map byteV)) := by
  have hst := run_storeCells_cells (P := P) b o (u.map byteV) 0 w (fun j hj => by
      rw [List.length_map] at hj
      have : o + j < cur.size := by omega
      simp [World.cell?, hg, this]) (fun j hj => by
      rw [List.length_map] at hj
      simp only [World.frozen?, hg, Bool.and_eq_false_iff, decide_eq_false_iff_not]
      left; omega) (fun v hv => by
      obtain ⟨c, _, rfl⟩ := List.mem_map.1 hv
      rfl)
  have hmin : Nat.min u.length nn = u.length := Nat.min_eq_left hl
  have hsz : (⟨⟨u⟩⟩ : ByteArray).size = u.length := rfl
  have hmin2 : Nat.min (⟨⟨u⟩⟩ : ByteArray).size nn = u.length := hmin
  simp only [Nat.add_zero] at hst
  have hfc : (((⟨⟨u⟩⟩ : ByteArray).extract 0 u.length).data.map fun c => Value.int .u8 c.toNat).toList = u.map byteV := by
    rw [extract_str]
    simp [byteV]
  unfold sizeT at hs
  cases hq : P.info? e with
  | none => rw [hq] at hs; cases hs
  | some i =>
    have hi : i.size = 1 := by rw [hq] at hs; simpa using hs
    simp only [Builtin.copy_]
    simp [run_underlying hu, Builtin.lenOf, Builtin.firstCells, sizeOf, typeInfo, hq, hi, str, hmin2]
    rw [List.take_of_length_le (by simp)]
    have e3 : (List.map (fun c : UInt8 => Value.int IntKind.u8 (c.toNat : Int)) u) = u.map byteV := rfl
    rw [e3, hst]
    rfl
/-- 'copy(b[o:], u)' into a block of one's own (entry i). -/
theorem cpS (i : Nat) {u : Str} {nn cc : Nat} (hl : u.length ≤ nn) (hc : o + u.length ≤ cur.size) (hf : o + u.length ≤ fr.1)
    (k : ∀ cur' : Array Value, cur'.size = cur.size → (∀ j, cur'[j]? = if o ≤ j ∧ j < o + u.length then (u.map byteV)[j - o]? else cur[j]?) → RW .s P n B ops K l (up ρ d (i64 (u.length : Nat))) f (L.set i (.blk b (.cells cur' e fr))))
    (hrun : runP P ops l0 ρ0 = (⟨some d, .call ⟨.builtin .copy, ⟨[x, y]⟩, ⟨[t, t2]⟩⟩, ty, pos, af, gd⟩ :: l, ρ) := by rfl) (hg : wantedE ops ρ ⟨some d, .call ⟨.builtin .copy, ⟨[x, y]⟩, ⟨[t, t2]⟩⟩, ty, pos, af, gd⟩ = true := by rfl)
    (hi : L[i]? = some (.blk b (.cells cur e fr)) := by rfl) (hx : ev ρ x = .slice (some ⟨b, o, none⟩) nn cc := by rfl) (hy : ev ρ y = str u := by rfl) (he : elemT P t = some e := by rfl) (hz : sizeT P e = some 1 := by rfl) : RW .s P n B ops K l0 ρ0 f L := by
  refine rw_runP l0 ρ0 ?_
  rw [hrun]
  refine sw_do hg fun w hw => ?_
  have hb : w.heap[b]? = some (.cells cur e fr) := hw.own _ (List.mem_of_getElem? hi)
  have h := run_cpS (P := P) (t := t) (t2 := t2) (ty := ty) (cc := cc) (und_elemT he) hz hb hl hc hf
  obtain ⟨cur', e1, e2, e3⟩ := setCells_blk (u.map byteV) o cur w hb
  rw [e1] at h
  refine ⟨.value (goInt u.length), w.setRow b cur', ?_, .inl ⟨_, rfl, f, _, ?_, k cur' e2 fun j => ?_⟩⟩
  · simp only [execOp, resolve, invoke, builtin, Sem.run_bind, Sem.run_pure, Result.andThen_ok, List.map_toArray, List.map_cons, List.map_nil, hx, hy, h]
  · exact hw.set hi rfl rfl rfl (by simp [World.setRow]) (fun k' _ hk' => setRow_other w b k' _ (fun e0 => hk' (by rw [e0]; rfl))) (setRow_heap w b cur _ e _ hb) (fun b' hb' => .inl hb')
  · rw [e3 j, List.length_map]
    by_cases hin : o ≤ j ∧ j < o + u.length
    · rw [if_pos hin, if_pos (by omega)]
    · rw [if_neg hin, if_neg (by omega)]
/-- '[]byte(s)'. -/
theorem cvSB2 {src dst : TypeId} {s : Str} (k : ∀ bb c (cur : Array Value) (fr : Nat × Nat), s.length ≤ c → c ≤ maxLen → s.length ≤ cur.size → s.length ≤ fr.1 → (∀ (j : Nat) (v : Value), (s.map byteV)[j]? = some v → cur[j]? = some v) → RW .s P n B ops K l (up ρ d (.slice (some ⟨bb, 0, none⟩) s.length c)) f (.blk bb (.cells cur e fr) :: L))
    (hlim : s.length ≤ maxLen)
    (hrun : runP P ops l0 ρ0 = (⟨some d, .convert src dst x, ty, pos, af, gd⟩ :: l, ρ) := by rfl) (hg : wantedE ops ρ ⟨some d, .convert src dst x, ty, pos, af, gd⟩ = true := by rfl)
    (hx : ev ρ x = str s := by rfl) (hsr : isStr P src = true := by rfl) (hd : u8T P dst = some e := by rfl) : RW .s P n B ops K l0 ρ0 f L := by
  refine rw_runP l0 ρ0 ?_
  rw [hrun]
  refine sw_do hg fun w hw => ?_
  have h := run_bytes_of_string (P := P) w src dst e ⟨⟨s⟩⟩ (und_isStr hsr) (und_u8T hd).1 (und_u8T hd).2
  have h2 : (execOp (ev ρ) ⟨some d, .convert src dst x, ty, pos, af, gd⟩).run P w = .ok (.value (.slice (some ⟨w.heap.size, 0, none⟩) s.length (grownCap w s.length 0 e))) (w.drew.alloc (.cells (bytesRow ⟨⟨s⟩⟩ (grownCap w s.length 0 e)) e ((bytesRow ⟨⟨s⟩⟩ (grownCap w s.length 0 e)).size, (bytesRow ⟨⟨s⟩⟩ (grownCap w s.length 0 e)).size + 1))) := by
    simp only [execOp, hx, Sem.run_bind, h, Result.andThen_ok, Sem.run_pure]
    rfl
  have hsz : s.length ≤ (bytesRow ⟨⟨s⟩⟩ (grownCap w s.length 0 e)).size := by
    unfold bytesRow
    simp
  refine ⟨_, _, h2, .inl ⟨_, rfl, f, .blk w.heap.size (.cells (bytesRow ⟨⟨s⟩⟩ (grownCap w s.length 0 e)) e ((bytesRow ⟨⟨s⟩⟩ (grownCap w s.length 0 e)).size, (bytesRow ⟨⟨s⟩⟩ (grownCap w s.length 0 e)).size + 1)) :: L, ?_, k w.heap.size (grownCap w s.length 0 e) _ _ (grownCap_ge _ _ _ _) (grownCap_le_maxLen _ _ _ _ hlim) hsz hsz (fun j v hj => ?_)⟩⟩
  · exact (hw.drawn (w.drawn + 1)).new (e := .blk w.heap.size _) (heap_new _ _) rfl
  · have hlt : j < s.length := by simpa using (List.getElem?_eq_some_iff.1 hj).1
    rw [bytesRow_at _ _ j hlt, ← hj]
    simp [byteV, hlt]
/-- 'string(b)' of a block of one's own (entry i). -/
theorem cvBSb (i : Nat) (s : Str) {src dst : TypeId} {nn c : Nat} (hs : ∀ (j : Nat) (v : Value), (s.map byteV)[j]? = some v → cur[j]? = some v) (hn : nn = s.length) (k : RW m P n B ops K l (up ρ d (str s)) f L) (hrun : runP P ops l0 ρ0 = (⟨some d, .convert src dst x, ty, pos, af, gd⟩ :: l, ρ) := by rfl) (hg : wantedE ops ρ ⟨some d, .convert src dst x, ty, pos, af, gd⟩ = true := by rfl)
    (hx : ev ρ x = .slice (some ⟨b, 0, none⟩) nn c := by rfl) (hi : L[i]? = some (.blk b (.cells cur e fr)) := by rfl) (hsr : u8T P src = some e := by rfl) (hd : isStr P dst = true := by rfl) : RW m P n B ops K l0 ρ0 f L := by
  refine rw_runP l0 ρ0 ?_
  rw [hrun]
  subst hn
  refine rw_y hg (fun w hw => ?_) k
  have hb : w.heap[b]? = some (.cells cur e fr) := hw.own _ (List.mem_of_getElem? hi)
  have := run_convert_bytes_back (P := P) w src dst e ⟨b, 0, none⟩ c s (und_u8T hsr).1 (und_u8T hsr).2 (und_isStr hd) (fun j hj => by
    rw [add_plain, Nat.zero_add]
    have h1 := hs j (byteV s[j]) (by simp [hj])
    simp [World.cell?, hb, h1, byteV])
  simp only [execOp, hx, Sem.run_bind, this, Result.andThen_ok, Sem.run_pure]
end
end Go.Hog
