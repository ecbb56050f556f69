/- S24 F50 F51 F52 F53, in one text. -/
import Derived.Test.YtdidefhdcinecaaGreatDoorEW
import Derived.Test.YtdidefhdcinecaaGreatDoorF36
import Derived.Test.YtdidefhdcinecaaGreatDoorFX
import Derived.Test.YtdidefhdcinecaaGreatDoorEY
import Derived.Test.YtdidefhdcinecaaGreatDoorEZ
set_option linter.unusedVariables false
set_option linter.unusedSimpArgs false
namespace Go.Hog
open Go.RowKit Rp
def partOk (s : Str) : Bool := decide (s ≠ []) && decide (s.length ≤ 60) && decide (Lib.indexByte s 47 < 0) && decide (Lib.indexByte s 0 < 0) && decide (s ≠ [46]) && decide (s ≠ [46, 46]) && !Lib.hasPrefix s [46, 119, 104, 46]
def partsS (s : Str) : List Str := if s = [] then [] else if 200 < s.length then [] else if (splitL s [47]).all partOk then splitL s [47] else []
def partsB (s : Str) : Bool := if s = [] then true else if 200 < s.length then false else (splitL s [47]).all partOk && decide ((splitL s [47]).length ≤ 10)
def pathL (s : Str) : List Str := if partsB s then partsS s else []
def parS (s : Str) : Str := if s = [] ∨ partsB s = false then [] else s.take (Lib.lastIndexByte ⟨⟨s⟩⟩ 47).toNat
def parB (s : Str) : Bool := !(decide (s = []) || !partsB s)
def goodN (n : Node) : Bool := partsB n.path && decide (n.data.length ≤ 400) &&
  (if n.kind = 1 then decide (n.data = []) else if n.kind = 2 ∨ n.kind = 3 then true else if n.kind = 4 then decide (n.data ≠ []) && decide (Lib.indexByte n.data 0 < 0) else false)
/-- The directories ahead of a place. -/
def dirB (t : List Node) (s : Str) : Bool := ((t.filter fun n => n.path = s).getLast?).any fun n => n.kind = 1
def followsB (x : Node) (before : List Node) : Bool := match before.getLast? with
  | none => decide (x.path = [])
  | some l => parB x.path && decide (l.path < x.path) && dirB before (parS x.path)
def badAt (t : List Node) (i : Nat) : Bool := match t[i]? with
  | none => false
  | some x => decide (400 ≤ i) || !goodN x || !followsB x (t.take i)
def mayT (t : List Node) : Bool := decide (t ≠ []) && (List.range t.length).all fun i => !badAt t i
def smallB (x : Node) : Bool := decide (x.path.length ≤ 120) && decide ((pathL x.path).length ≤ 8)
def treeOk (t : List Node) : Bool := decide (t.length ≤ 24) && mayT t && decide ((t.filter smallB).length = t.length)
def namedB (x : Item) (before : List Item) : Bool := decide (nameOk x.name) && (match before.getLast? with | none => true | some l => decide (l.name < x.name)) && !(before.any fun y => decide (hashL y.name = hashL x.name))
def val1 (a : List Item) : Nat → Int
  | 0 => 0
  | k + 1 => if val1 a k ≠ 0 then val1 a k else match a[k]? with
    | none => 0
    | some x => if namedB x (a.take k) = false then 6 else if treeOk x.tree = false then 7 else 0
def refsOk (a : List Item) (x : Item) : Bool := decide (x.refs = treeL x.tree (names a))
def valE (pre : Str) (a : List Item) : Int :=
  if ¬ prefixOk pre then 11 else if 8 < a.length then 3 else if val1 a a.length ≠ 0 then val1 a a.length else if a.all (refsOk a) then 0 else 8
end Go.Hog

set_option linter.unusedVariables false
set_option linter.unusedSimpArgs false
set_option maxRecDepth 100000
set_option maxHeartbeats 1000000
namespace Go.Hog
open Go.RowKit Rp Go.Proofs
theorem pathPart {w : World} {f : View} (hv : On f w) {s : Str} (hs : s.length ≤ LB) : Con Tryz.prog 112 [str s] w (Ret w f fun _ v => v = .bool (partOk s)) := by
  unfold LB at hs
  refine enterC hv Tryz.call112 Tryz.func112 ?_
  refine sgE ?_
  refine sg ?_
  refine neS (fun h1 => ?_) (fun h1 => ?_)
  case refine_2 =>
    refine runE ?_
    refine ew_ret ?_
    refine ret1 (show Value.bool false = .bool (partOk s) from ?_)
    simp [partOk, Classical.not_not.1 h1]
  refine le (fun h2 => ?_) (fun h2 => ?_)
  case refine_2 =>
    refine runE ?_
    refine ew_ret ?_
    refine ret1 (show Value.bool false = .bool (partOk s) from ?_)
    have : ¬ s.length ≤ 60 := by omega
    simp [partOk, this]
  have h2' : s.length ≤ 60 := by omega
  refine callV (i64 (Lib.indexByte s 47)) (vs := [str s, .int .u8 47]) (fun w g h1 h2 h3 => indexByteC (c := 47) h3) ?_
  refine lt (fun h3 => ?_) (fun h3 => ?_)
  case refine_2 =>
    refine runE ?_
    refine ew_ret ?_
    refine ret1 (show Value.bool false = .bool (partOk s) from ?_)
    simp [partOk, h3]
  refine callV (i64 (Lib.indexByte s 0)) (vs := [str s, .int .u8 0]) (fun w g h1 h2 h3 => indexByteC (c := 0) h3) ?_
  refine lt (fun h4 => ?_) (fun h4 => ?_)
  case refine_2 =>
    refine runE ?_
    refine ew_ret ?_
    refine ret1 (show Value.bool false = .bool (partOk s) from ?_)
    simp [partOk, h4]
  refine neS (fun h5 => ?_) (fun h5 => ?_)
  case refine_2 =>
    refine runE ?_
    refine ew_ret ?_
    refine ret1 (show Value.bool false = .bool (partOk s) from ?_)
    simp [partOk, Classical.not_not.1 h5]
  refine neS (fun h6 => ?_) (fun h6 => ?_)
  case refine_2 =>
    refine runE ?_
    refine ew_ret ?_
    refine ret1 (show Value.bool false = .bool (partOk s) from ?_)
    simp [partOk, Classical.not_not.1 h6]
  refine callV (.bool (Lib.hasPrefix s [46, 119, 104, 46])) (vs := [str s, str [46, 119, 104, 46]]) (fun w g h1 h2 h3 => hasPrefixC h3) ?_
  refine runE ?_
  refine ew_ret ?_
  refine ret1 (show Value.bool (!(Lib.hasPrefix s [46, 119, 104, 46])) = .bool (partOk s) from ?_)
  unfold partOk
  rw [decide_eq_true h1, decide_eq_true h2', decide_eq_true h3, decide_eq_true h4, decide_eq_true h5, decide_eq_true h6]
  rfl
theorem pathParts {w : World} {f : View} (hv : On f w) (hm : ML f) {s : Str} (hs : s.length ≤ LB) :
    Con Tryz.prog 98 [str s] w (RetM w f [] fun _ L' v => ∃ A c, v = .tuple #[.slice A (partsS s).length c, .bool (partsB s)] ∧ L' = [sRow A c (partsS s)]) := by
  unfold LB at hs
  refine enterM (L := []) hv (Given.nil _ _) Tryz.call98 Tryz.func98 ?_
  refine sgE (sq (sg ?_))
  refine eqSE (fun h1 => ?_) (fun h1 => ?_)
  · refine cT (sgE ?_)
    refine enilrow 9 1 ?_
    refine ew_ret ?_
    have e1 : partsS s = [] := if_pos h1
    have e2 : partsB s = true := if_pos h1
    exact ret2M (show ∃ A c, Value.tuple #[.slice none 0 0, .bool true] = .tuple #[.slice A (partsS s).length c, .bool (partsB s)] ∧ [HE.row none 0 0 9 1 []] = [sRow A c (partsS s)] from ⟨none, 0, by rw [e1, e2]; rfl, by rw [e1]; rfl⟩)
  refine cFs ?_
  refine sq (sg ?_)
  refine gtE (fun h2 => ?_) (fun h2 => ?_)
  · refine cT (sgE ?_)
    refine enilrow 9 1 ?_
    refine ew_ret ?_
    have h2' : 200 < s.length := by omega
    have e1 : partsS s = [] := by unfold partsS; rw [if_neg h1, if_pos h2']
    have e2 : partsB s = false := by unfold partsB; rw [if_neg h1, if_pos h2']
    exact ret2M (show ∃ A c, Value.tuple #[.slice none 0 0, .bool false] = .tuple #[.slice A (partsS s).length c, .bool (partsB s)] ∧ [HE.row none 0 0 9 1 []] = [sRow A c (partsS s)] from ⟨none, 0, by rw [e1, e2]; rfl, by rw [e1]; rfl⟩)
  refine cFs ?_
  have h2' : ¬ 200 < s.length := by omega
  have hle := splitL_le (s := s) (u := [47]) (by decide)
  have hpl : ∀ x ∈ splitL s [47], x.length ≤ LB := fun x hx => by have := splitL_size x hx; unfold LB; omega
  have e1 : partsS s = if (splitL s [47]).all partOk then splitL s [47] else [] := by unfold partsS; rw [if_neg h1, if_neg h2']
  have e2 : partsB s = ((splitL s [47]).all partOk && decide ((splitL s [47]).length ≤ 10)) := by unfold partsB; rw [if_neg h1, if_neg h2']
  refine sg ?_
  refine callM0 (vs := [str s, str [47]]) [] (fun w hon hgi => splitC hon hm (by omega) (by decide)) (fun v g L' hs1 hR => ?_)
  obtain ⟨b, rfl, rfl⟩ := hR
  refine runE ?_
  generalize splitL s [47] = l at hle hpl e1 e2
  refine efg [(4, .slice (some ⟨b, 0, none⟩) l.length l.length)] [.row (some ⟨b, 0, none⟩) l.length l.length 9 1 (l.map str)] (fun ρ => ?_)
  refine sqJ (σ := Unit) (fun _ => [(4, .slice (some ⟨b, 0, none⟩) l.length l.length)]) (fun _ => g) (fun _ => [.row (some ⟨b, 0, none⟩) l.length l.length 9 1 (l.map str)]) (fun _ => l.all partOk = true) ?_ ?_
  case refine_2 =>
    rintro ⟨⟩ ρ hall
    rw [if_pos hall] at e1
    rw [hall, Bool.true_and] at e2
    refine sg ?_
    refine leE (fun h => ?_) (fun h => ?_)
    · refine ew_ret ?_
      exact ret2M (show ∃ A c, Value.tuple #[.slice (some ⟨b, 0, none⟩) l.length l.length, .bool true] = .tuple #[.slice A (partsS s).length c, .bool (partsB s)] ∧ [HE.row (some ⟨b, 0, none⟩) l.length l.length 9 1 (l.map str)] = [sRow A c (partsS s)] from ⟨some ⟨b, 0, none⟩, l.length, by rw [e1, e2, decide_eq_true (show l.length ≤ 10 by omega)], by rw [e1]; rfl⟩)
    · refine ew_ret ?_
      exact ret2M (show ∃ A c, Value.tuple #[.slice (some ⟨b, 0, none⟩) l.length l.length, .bool false] = .tuple #[.slice A (partsS s).length c, .bool (partsB s)] ∧ [HE.row (some ⟨b, 0, none⟩) l.length l.length 9 1 (l.map str)] = [sRow A c (partsS s)] from ⟨some ⟨b, 0, none⟩, l.length, by rw [e1, e2, decide_eq_false (show ¬ l.length ≤ 10 by omega)], by rw [e1]; rfl⟩)
  refine sgE (bk ?_)
  refine lpn l.length (fun k => [(16, i64 k), (15, i64 (l.length : Nat)), (14, .slice (some ⟨b, 0, none⟩) l.length l.length), (4, .slice (some ⟨b, 0, none⟩) l.length l.length)]) (fun k => (l.take k).all partOk = true) rfl ?_
  intro k ρ hk hi
  refine sg ?_
  refine ltE (fun h => ?_) (fun h => ?_)
  case refine_2 =>
    refine sq (cFx ?_)
    have e : k = l.length := by omega
    subst e
    rw [List.take_length] at hi
    exact jn () hi
  have h1 : k < l.length := by omega
  have htk : (l.take (k + 1)).all partOk = ((l.take k).all partOk && partOk l[k]) := by
    rw [(List.take_append_getElem h1).symm, List.all_append]; simp
  have hcell : (l.map str)[0 + k * 1]? = some (str l[k]) := by
    rw [Nat.zero_add, Nat.mul_one, List.getElem?_map, List.getElem?_eq_getElem h1]; rfl
  have hx := hpl _ (List.getElem_mem h1)
  have hnall : partOk l[k] = false → l.all partOk = false := fun h => by
    rw [← Bool.not_eq_true]
    intro h3
    rw [List.all_eq_true.1 h3 _ (List.getElem_mem h1)] at h
    cases h
  generalize l[k] = x at htk hcell hx hnall
  refine sq (cTs (sq (bk ?_)))
  refine sg ?_
  refine ix k h1 ?_
  refine ldr 0 hcell ?_
  refine runE ?_
  refine sg ?_
  refine callV (.bool (partOk x)) (vs := [str x]) (fun w g h1 h2 h3 => pathPart h3 hx) ?_
  cases hpo : partOk x with
  | false =>
    rw [hpo] at hnall
    have hna := hnall rfl
    refine runE ?_
    refine cT (sgE ?_)
    refine ewL (L' := []) (fun _ h => h.sublist (List.nil_sublist _)) ?_
    refine enilrow 9 1 ?_
    refine ew_ret ?_
    have e3 : partsS s = [] := by rw [e1, hna]; rfl
    have e4 : partsB s = false := by rw [e2, hna]; rfl
    exact ret2M (show ∃ A c, Value.tuple #[.slice none 0 0, .bool false] = .tuple #[.slice A (partsS s).length c, .bool (partsB s)] ∧ [HE.row none 0 0 9 1 []] = [sRow A c (partsS s)] from ⟨none, 0, by rw [e3, e4]; rfl, by rw [e3]; rfl⟩)
  | true =>
    refine runE ?_
    refine cFs (rg ?_)
    refine addE ((k + 1 : Nat) : Int) ?_
    exact nx (by rw [htk, hi, hpo]; rfl)
theorem pathMay {w : World} {f : View} (hv : On f w) (hm : ML f) {s : Str} (hs : s.length ≤ LB) : Con Tryz.prog 109 [str s] w (Ret w f fun _ v => v = .bool (partsB s)) := by
  refine enterC hv Tryz.call109 Tryz.func109 ?_
  refine sgE ?_
  refine sg ?_
  refine callMo (vs := [str s]) (R := fun L' v => ∃ A c, v = .tuple #[.slice A (partsS s).length c, .bool (partsB s)] ∧ L' = [sRow A c (partsS s)]) (fun w g hs' _ hon => (pathParts hon (hm.mono hs') hs)) (fun v L' hR => ?_)
  obtain ⟨A, c, rfl, rfl⟩ := hR
  refine runE ?_
  refine sgE ?_
  refine ewL (L' := []) (fun _ h => h.sublist (List.nil_sublist _)) ?_
  refine ew_ret ?_
  exact ret1 rfl
theorem pathSplit {w : World} {f : View} (hv : On f w) (hm : ML f) {s : Str} (hs : s.length ≤ LB) : Con Tryz.prog 80 [str s] w (RetM w f [] fun _ L' v => ∃ A c, v = .slice A (pathL s).length c ∧ L' = [sRow A c (pathL s)]) := by
  refine enterM (L := []) hv (Given.nil _ _) Tryz.call80 Tryz.func80 ?_
  refine sgE ?_
  refine sg ?_
  refine callMo (vs := [str s]) (R := fun L' v => ∃ A c, v = .tuple #[.slice A (partsS s).length c, .bool (partsB s)] ∧ L' = [sRow A c (partsS s)]) (fun w g hs' _ hon => (pathParts hon (hm.mono hs') hs)) (fun v L' hR => ?_)
  obtain ⟨A, c, rfl, rfl⟩ := hR
  cases hb : partsB s with
  | false =>
    have e : pathL s = [] := by unfold pathL; rw [hb]; rfl
    rw [e]
    refine runE ?_
    refine sq (sgE ?_)
    refine cT (sgE ?_)
    refine ewL (L' := []) (fun _ h => h.sublist (List.nil_sublist _)) ?_
    refine enilrow 9 1 ?_
    refine ew_ret ?_
    exact ret1M (show ∃ A c, Value.slice none 0 0 = .slice A (([] : List Str)).length c ∧ [HE.row none 0 0 9 1 []] = [sRow A c []] from ⟨none, 0, rfl, rfl⟩)
  | true =>
    have e : pathL s = partsS s := by unfold pathL; rw [hb]; rfl
    rw [e]
    refine runE ?_
    refine sq (sgE ?_)
    refine cFs ?_
    refine sgE ?_
    refine ew_ret ?_
    exact ret1M ⟨A, c, rfl, rfl⟩
theorem pathParent {w : World} {f : View} (hv : On f w) (hm : ML f) {s : Str} (hs : s.length ≤ LB) : Con Tryz.prog 110 [str s] w (Ret w f fun _ v => v = .tuple #[str (parS s), .bool (parB s)]) := by
  have hs' : s.length ≤ 140737488355328 := hs
  refine enterC hv Tryz.call110 Tryz.func110 ?_
  refine sgE ?_
  refine sq (sg ?_)
  refine eqS (fun h1 => ?_) (fun h1 => ?_)
  · refine runE ?_
    refine cT (sgE ?_)
    refine ew_ret ?_
    refine ret2 (show Value.tuple #[str [], .bool false] = _ from ?_)
    have e1 : parS s = [] := if_pos (.inl h1)
    have e2 : parB s = false := by unfold parB; rw [decide_eq_true h1]; rfl
    rw [e1, e2]
  refine callV (.bool (partsB s)) (vs := [str s]) (fun w g h1 h2 h3 => pathMay h3 (hm.mono h1) hs) ?_
  cases hb : partsB s with
  | false =>
    refine runE ?_
    refine cT (sgE ?_)
    refine ew_ret ?_
    refine ret2 (show Value.tuple #[str [], .bool false] = _ from ?_)
    have e1 : parS s = [] := if_pos (.inr hb)
    have e2 : parB s = false := by unfold parB; rw [hb]; simp
    rw [e1, e2]
  | true =>
    have hlb : -1 ≤ Lib.lastIndexByte ⟨⟨s⟩⟩ 47 ∧ Lib.lastIndexByte ⟨⟨s⟩⟩ 47 < s.length := by
      rcases Lib.lastIndexByte_spec ⟨⟨s⟩⟩ 47 with ⟨h, _⟩ | ⟨i, hi, h, _⟩
      · rw [h]; omega
      · have : i < s.length := hi
        rw [h]; omega
    have e1 : parS s = s.take (Lib.lastIndexByte ⟨⟨s⟩⟩ 47).toNat := by
      unfold parS
      rw [if_neg]
      rintro (h | h)
      · exact h1 h
      · rw [hb] at h; cases h
    have e2 : parB s = true := by unfold parB; rw [decide_eq_false h1, hb]; rfl
    rw [e1, e2]
    generalize hk : Lib.lastIndexByte ⟨⟨s⟩⟩ 47 = k at hlb
    have hkm : (if k < 0 then (0 : Int) else k) = ((k.toNat : Nat) : Int) := by split <;> omega
    have hkl : k.toNat ≤ s.length := by omega
    refine runE ?_
    refine cFs (sg ?_)
    refine callV (i64 k) (vs := [str s, .int .u8 47]) (fun w g h1 h2 h3 => ?_) ?_
    · have := lastIndexByteC (c := 47) (s := s) h3 (by omega)
      rw [← hk]; exact this
    refine maxI (a := k) (b := 0) ((k.toNat : Nat) : Int) hkm ?_
    refine slSH (s := s) k.toNat hkl ?_
    refine runE ?_
    refine ew_ret ?_
    exact ret2 rfl
end Go.Hog

set_option linter.unusedVariables false
set_option linter.unusedSimpArgs false
set_option maxRecDepth 100000
set_option maxHeartbeats 1000000
namespace Go.Hog
open Go.RowKit Rp Go.Proofs
theorem treeGood {w : World} {f : View} (hv : On f w) (hm : ML f) {x : Node} (hp : x.path.length ≤ LB) (hd : x.data.length ≤ LB) : Con Tryz.prog 96 [.agg ⟨nodeC x⟩] w (Ret w f fun _ v => v = .bool (goodN x)) := by
  refine enterC hv Tryz.call96 Tryz.func96 ?_
  refine sg ?_
  refine box (vs := nodeC x) fun b1 => ?_
  refine runE ?_
  refine efrz 0 fun g hs hq => ?_
  have k0 : g.cell? ⟨b1, 0, none⟩ = some (str x.path) := blk_seen hq
  have k1 : g.cell? ⟨b1, 1, none⟩ = some (i64 x.kind) := blk_seen hq
  have k2 : g.cell? ⟨b1, 2, none⟩ = some (str x.data) := blk_seen hq
  refine efg [(1, .pointer (some ⟨b1, 0, none⟩))] [] (fun ρ => ?_)
  refine sqJ (σ := Unit) (fun _ => [(1, .pointer (some ⟨b1, 0, none⟩))]) (fun _ => g) (fun _ => []) (fun _ => goodN x = (if x.kind = 1 then decide (x.data = []) else if x.kind = 2 ∨ x.kind = 3 then true else if x.kind = 4 then decide (x.data ≠ []) && decide (Lib.indexByte x.data 0 < 0) else false)) ?_ ?_
  · refine sg ?_
    refine ldv k0 ?_
    refine callV (.bool (partsB x.path)) (vs := [str x.path]) (fun w g h1 h2 h3 => pathMay h3 ((hm.mono hs).mono h1) hp) ?_
    cases hb : partsB x.path with
    | false =>
      refine runE ?_
      refine cT (rr ?_)
      refine ret1 (show Value.bool false = .bool (goodN x) from ?_)
      unfold goodN; rw [hb]; rfl
    | true =>
      refine ldv k2 ?_
      refine gt (fun h => ?_) (fun h => ?_)
      · refine runE ?_
        refine cT (rr ?_)
        refine ret1 (show Value.bool false = .bool (goodN x) from ?_)
        unfold goodN; rw [hb, decide_eq_false (show ¬ x.data.length ≤ 400 by omega)]; rfl
      · refine runE ?_
        refine cFs ?_
        refine jn () ?_
        unfold goodN; rw [hb, decide_eq_true (show x.data.length ≤ 400 by omega)]; rfl
  rintro ⟨⟩ ρ hg
  refine sqJ (σ := Unit) (fun _ => []) (fun _ => g) (fun _ => []) (fun _ => goodN x = false) ?_ ?_
  case refine_2 =>
    rintro ⟨⟩ ρ hg2
    refine sgE ?_
    refine ew_ret ?_
    exact ret1 (show Value.bool false = .bool (goodN x) by rw [hg2])
  refine sg ?_
  refine ldv k1 ?_
  refine runE ?_
  refine bk (sg ?_)
  refine eqIE (fun h1 => ?_) (fun h1 => ?_)
  · refine cT (sg ?_)
    refine ldv k2 ?_
    rw [if_pos h1] at hg
    refine eqSE (fun h2 => ?_) (fun h2 => ?_)
    · refine ew_ret ?_
      exact ret1 (show Value.bool true = .bool (goodN x) by rw [hg, decide_eq_true h2])
    · refine ew_ret ?_
      exact ret1 (show Value.bool false = .bool (goodN x) by rw [hg, decide_eq_false h2])
  rw [if_neg h1] at hg
  refine cF ?_
  refine sqJ (σ := Bool) (fun b => [(20, .bool b), (14, i64 x.kind), (1, .pointer (some ⟨b1, 0, none⟩))]) (fun _ => g) (fun _ => []) (fun b => b = decide (x.kind = 2 ∨ x.kind = 3)) ?_ ?_
  · refine sg ?_
    refine eqIE (fun h2 => ?_) (fun h2 => ?_)
    · refine cTs ?_
      exact jn true (decide_eq_true (.inl h2)).symm
    · refine cF (rg ?_)
      refine eqIE (fun h3 => ?_) (fun h3 => ?_)
      · exact jn true (decide_eq_true (.inr h3)).symm
      · exact jn false (decide_eq_false (by rintro (h | h); exact h2 h; exact h3 h)).symm
  rintro b ρ hb
  by_cases h23 : x.kind = 2 ∨ x.kind = 3
  · rw [decide_eq_true h23] at hb
    subst hb
    rw [if_pos h23] at hg
    refine cT (rr ?_)
    exact ret1 (show Value.bool true = .bool (goodN x) by rw [hg])
  · rw [decide_eq_false h23] at hb
    subst hb
    rw [if_neg h23] at hg
    refine cF (sg ?_)
    refine eqIE (fun h4 => ?_) (fun h4 => ?_)
    · rw [if_pos h4] at hg
      refine cT (sg ?_)
      refine ldv k2 ?_
      refine neS (fun h5 => ?_) (fun h5 => ?_)
      · refine ldv k2 ?_
        refine callV (i64 (Lib.indexByte x.data 0)) (vs := [str x.data, .int .u8 0]) (fun w g h1 h2 h3 => indexByteC (c := 0) h3) ?_
        refine lt (fun h6 => ?_) (fun h6 => ?_)
        · refine runE ?_
          refine ew_ret ?_
          exact ret1 (show Value.bool true = .bool (goodN x) by rw [hg, decide_eq_true h5, decide_eq_true h6]; rfl)
        · refine runE ?_
          refine ew_ret ?_
          exact ret1 (show Value.bool false = .bool (goodN x) by rw [hg, decide_eq_true h5, decide_eq_false h6]; rfl)
      · refine runE ?_
        refine ew_ret ?_
        exact ret1 (show Value.bool false = .bool (goodN x) by rw [hg, decide_eq_false h5]; rfl)
    · rw [if_neg h4] at hg
      refine cFs ?_
      exact jn () hg
theorem treeFollows {w : World} {f : View} (hv : On f w) (hm : ML f) {x : Node} (hp : x.path.length ≤ LB) {A : Option Addr} {c : Nat} {t : List Node} (ht : Sl f A c t) {bm : Nat} {ks : List Str} {g : Str → Value} (hmp : (HE.mp bm (mapF ks g)).seen f) (hd : ∀ s, (s ∈ ks → g s = .bool (dirB t s)) ∧ (s ∉ ks → dirB t s = false)) :
    Con Tryz.prog 97 [.agg ⟨nodeC x⟩, .slice A t.length c, .map (some bm)] w (Ret w f fun _ v => v = .bool (followsB x t)) := by
  refine enterC hv Tryz.call97 Tryz.func97 ?_
  refine sg ?_
  refine box (vs := nodeC x) fun b1 => ?_
  refine runE ?_
  refine efrz 0 fun g1 hs hq => ?_
  have k0 : g1.cell? ⟨b1, 0, none⟩ = some (str x.path) := blk_seen hq
  have hlim := ht.len_lt
  refine efg [(3, .pointer (some ⟨b1, 0, none⟩)), (1, .slice A t.length c), (2, .map (some bm))] [] (fun ρ => ?_)
  refine sq (sg ?_)
  refine eqIE (fun h1 => ?_) (fun h1 => ?_)
  · have h0 : t = [] := List.length_eq_zero_iff.1 (by omega)
    subst h0
    refine cT (sg ?_)
    refine ldv k0 ?_
    refine eqSE (fun h2 => ?_) (fun h2 => ?_)
    · refine ew_ret ?_
      exact ret1 (show Value.bool true = .bool (decide (x.path = [])) by rw [decide_eq_true h2])
    · refine ew_ret ?_
      exact ret1 (show Value.bool false = .bool (decide (x.path = [])) by rw [decide_eq_false h2])
  refine cFs ?_
  rcases List.eq_nil_or_concat t with e | ⟨t0, l, e⟩
  · exfalso; apply h1; rw [e]; rfl
  rw [List.concat_eq_append] at e
  have hl1 : t.length = t0.length + 1 := by rw [e]; simp
  have hlast : t.getLast? = some l := by rw [e]; simp
  have hlt : t0.length < t.length := by omega
  have htl : t[t0.length]'hlt = l := by simp [e]
  obtain ⟨b2, o2, rfl, hc2, hn2⟩ := (ht.mono hs).node hlt
  rw [htl] at hc2
  have hfb : followsB x t = (parB x.path && decide (l.path < x.path) && dirB t (parS x.path)) := by unfold followsB; rw [hlast]
  refine sg ?_
  refine ldv k0 ?_
  refine callV (.tuple #[str (parS x.path), .bool (parB x.path)]) (vs := [str x.path]) (fun w g h1 h2 h3 => pathParent h3 ((hm.mono hs).mono h1) hp) ?_
  refine runE ?_
  generalize parS x.path = ps at hfb
  generalize parB x.path = pb at hfb
  have hmp1 : (HE.mp bm (mapF ks g)).seen g1 := by
    obtain ⟨es, clk, hf, he⟩ := hmp
    exact ⟨es, clk, hs _ _ hf, he⟩
  refine efg [(8, .bool pb), (7, str ps), (3, .pointer (some ⟨b1, 0, none⟩)), (1, .slice (some ⟨b2, o2, none⟩) t.length c), (2, .map (some bm))] [] (fun ρ => ?_)
  cases pb with
  | false =>
    refine sQ ?_
    refine runE ?_
    refine ew_ret ?_
    exact ret1 (show Value.bool false = .bool (followsB x t) by rw [hfb]; rfl)
  | true =>
    refine sQ ?_
    refine sub ((t0.length : Nat) : Int) ?_
    refine ix t0.length hlt ?_
    refine ldv hc2.1 ?_
    refine ldv k0 ?_
    refine ltS (fun h2 => ?_) (fun h2 => ?_)
    case refine_2 =>
      refine runE ?_
      refine ew_ret ?_
      exact ret1 (show Value.bool false = .bool (followsB x t) by rw [hfb, decide_eq_false h2]; rfl)
    rw [decide_eq_true h2] at hfb
    by_cases hk : ps ∈ ks
    · refine lkVI (ks := ks) (g := g) (s := ps) (b := bm) hmp1 hk ?_
      rw [(hd ps).1 hk]
      refine runE ?_
      refine ew_ret ?_
      exact ret1 (show Value.bool (dirB t ps) = .bool (followsB x t) by rw [hfb]; rfl)
    · refine lkVO (ks := ks) (g := g) (s := ps) (b := bm) hmp1 hk ?_
      refine runE ?_
      refine ew_ret ?_
      exact ret1 (show Value.bool false = .bool (followsB x t) by rw [hfb, (hd ps).2 hk]; rfl)
end Go.Hog

set_option linter.unusedVariables false
set_option linter.unusedSimpArgs false
set_option maxRecDepth 100000
set_option maxHeartbeats 1000000
namespace Go.Hog
open Go.RowKit Rp Go.Proofs
theorem dirB_snoc (t : List Node) (x : Node) (s : Str) : dirB (t ++ [x]) s = if x.path = s then decide (x.kind = 1) else dirB t s := by
  unfold dirB
  rw [List.filter_append]
  by_cases h : x.path = s
  · rw [if_pos h, List.filter_cons_of_pos (by simpa using h)]
    simp
  · rw [if_neg h, List.filter_cons_of_neg (by simpa using h)]
    simp
theorem treeBad {w : World} {f : View} (hv : On f w) (hm : ML f) {A : Option Addr} {c : Nat} {t : List Node} (ht : Sl f A c t) :
    Con Tryz.prog 79 [.slice A t.length c] w (Ret w f fun _ v => ∃ n : Int, v = i64 n ∧ (n < 0 ↔ mayT t = true)) := by
  refine enterC hv Tryz.call79 Tryz.func79 ?_
  have hlim := ht.len_lt
  refine sgE (sq (sg ?_))
  refine eqIE (fun h1 => ?_) (fun h1 => ?_)
  · have h0 : t = [] := List.length_eq_zero_iff.1 (by omega)
    refine cT (rr ?_)
    exact ret1 ⟨0, rfl, by rw [h0]; decide⟩
  have h0 : t ≠ [] := fun e => h1 (by rw [e]; rfl)
  refine cFs ?_
  refine sg ?_
  refine mkmap fun bm => ?_
  refine runE ?_
  refine efg [(3, .map (some bm)), (0, .slice A t.length c)] [HE.mp bm (mapF [] fun _ => .bool false)] (fun ρ => ?_)
  refine sqJ (σ := Unit) (fun _ => []) (fun _ => f) (fun _ => []) (fun _ => (∀ i, i < t.length → badAt t i = false)) ?_ ?_
  case refine_2 =>
    rintro ⟨⟩ ρ hall
    refine sgE ?_
    refine ew_ret ?_
    refine ret1 ⟨-1, rfl, ?_⟩
    have e : mayT t = true := by
      unfold mayT
      rw [decide_eq_true h0, Bool.true_and, List.all_eq_true]
      intro i hi
      rw [hall i (List.mem_range.1 hi)]; rfl
    rw [e]; decide
  refine sgE (bk ?_)
  refine lp (σ := Nat × List Str × (Str → Value)) (fun s => [(12, i64 s.1), (11, i64 (t.length : Nat)), (10, .slice A t.length c), (3, .map (some bm)), (0, .slice A t.length c)]) (fun _ => f) (fun s => [HE.mp bm (mapF s.2.1 s.2.2)]) (fun s => s.1 ≤ t.length ∧ (∀ i, i < s.1 → badAt t i = false) ∧ s.2.1.Nodup ∧ ∀ u, (u ∈ s.2.1 → s.2.2 u = .bool (dirB (t.take s.1) u)) ∧ (u ∉ s.2.1 → dirB (t.take s.1) u = false)) (fun s => t.length - s.1) (0, [], fun _ => .bool false) ⟨Nat.zero_le _, fun i hi => by simp at hi, List.nodup_nil, fun u => ⟨fun h => by simp at h, fun _ => rfl⟩⟩ ?_
  rintro ⟨k, ks, g⟩ ρ ⟨hk, hbad, hnd, hmd⟩
  replace hk : k ≤ t.length := hk
  replace hbad : ∀ i, i < k → badAt t i = false := hbad
  replace hnd : ks.Nodup := hnd
  replace hmd : ∀ u, (u ∈ ks → g u = .bool (dirB (t.take k) u)) ∧ (u ∉ ks → dirB (t.take k) u = false) := hmd
  show EW _ _ _ _ _ (ups ρ [(12, i64 k), (11, i64 (t.length : Nat)), (10, .slice A t.length c), (3, .map (some bm)), (0, .slice A t.length c)]) f [HE.mp bm (mapF ks g)]
  refine sg ?_
  refine ltE (fun h => ?_) (fun h => ?_)
  case refine_2 =>
    have e : k = t.length := by omega
    subst e
    refine ewL (L' := []) (fun _ h => h.sublist (List.nil_sublist _)) ?_
    refine sq (cFx ?_)
    exact jn () hbad
  have h1 : k < t.length := by omega
  obtain ⟨b1, o1, rfl, hc1, hn1⟩ := ht.node h1
  have hbk : badAt t k = (decide (400 ≤ k) || !goodN t[k] || !followsB t[k] (t.take k)) := by unfold badAt; rw [List.getElem?_eq_getElem h1]
  have hno : badAt t k = true → ((k : Int) < 0 ↔ mayT t = true) := fun hb => by
    constructor
    · intro h; omega
    · intro h
      unfold mayT at h
      rw [Bool.and_eq_true, List.all_eq_true] at h
      have := h.2 k (List.mem_range.2 h1)
      rw [hb] at this; cases this
  have htk : t.take (k + 1) = t.take k ++ [t[k]] := (List.take_append_getElem h1).symm
  have htl : (t.take k).length = k := by rw [List.length_take]; omega
  have htt := ht.take k
  have hkc : k ≤ c := by have := ht.cap; omega
  generalize t[k] = x at hbk htk hc1 hn1
  have hds := dirB_snoc (t.take k) x
  rw [← htk] at hds
  refine sq (cTs (sq (bk (sg ?_))))
  refine ix k h1 ?_
  refine ldvA hc1 ?_
  refine alloc fun b5 => ?_
  refine st 0 ?_
  refine runE ?_
  refine efg [(5, .pointer (some ⟨b5, 0, none⟩)), (4, i64 k), (12, i64 k), (11, i64 (t.length : Nat)), (10, .slice (some ⟨b1, o1, none⟩) t.length c), (3, .map (some bm)), (0, .slice (some ⟨b1, o1, none⟩) t.length c)] [.blk b5 (.cells ⟨nodeC x⟩ 46), HE.mp bm (mapF ks g)] (fun ρ => ?_)
  refine sqJ (σ := Unit) (fun _ => [(5, .pointer (some ⟨b5, 0, none⟩)), (12, i64 k), (11, i64 (t.length : Nat)), (10, .slice (some ⟨b1, o1, none⟩) t.length c), (3, .map (some bm)), (0, .slice (some ⟨b1, o1, none⟩) t.length c)]) (fun _ => f) (fun _ => [.blk b5 (.cells ⟨nodeC x⟩ 46), HE.mp bm (mapF ks g)]) (fun _ => badAt t k = false) ?_ ?_
  · refine sQ ?_
    refine ge (fun h4 => ?_) (fun h4 => ?_)
    · refine runE ?_
      refine cT (sgE ?_)
      refine ewL (L' := []) (fun _ h => h.sublist (List.nil_sublist _)) ?_
      refine ew_ret ?_
      exact ret1 ⟨k, rfl, hno (by rw [hbk, decide_eq_true (show 400 ≤ k by omega)]; rfl)⟩
    rw [decide_eq_false (show ¬ 400 ≤ k by omega), Bool.false_or] at hbk
    refine ldoA 0 ?_
    refine callV (.bool (goodN x)) (vs := [.agg ⟨nodeC x⟩]) (fun w g h1 h2 h3 => treeGood h3 (hm.mono h1) hn1.1 hn1.2.1) ?_
    cases hg : goodN x with
    | false =>
      refine runE ?_
      refine cT (sgE ?_)
      refine ewL (L' := []) (fun _ h => h.sublist (List.nil_sublist _)) ?_
      refine ew_ret ?_
      exact ret1 ⟨k, rfl, hno (by rw [hbk, hg]; rfl)⟩
    | true =>
      rw [hg] at hbk
      refine ldoA 0 ?_
      refine slH k hkc ?_
      refine callV (.bool (followsB x (t.take k))) (vs := [.agg ⟨nodeC x⟩, .slice (some ⟨b1, o1, none⟩) k c, .map (some bm)]) (fun w g' h1 h2 h3 => ?_) ?_
      · have := treeFollows h3 (hm.mono h1) (x := x) hn1.1 (htt.mono h1) (h2 _ (.tail _ (.head _))) hmd
        rwa [htl] at this
      cases hf : followsB x (t.take k) with
      | false =>
        refine runE ?_
        refine cT (sgE ?_)
        refine ewL (L' := []) (fun _ h => h.sublist (List.nil_sublist _)) ?_
        refine ew_ret ?_
        exact ret1 ⟨k, rfl, hno (by rw [hbk, hf]; rfl)⟩
      | true =>
        refine runE ?_
        refine cFs ?_
        exact jn () (by rw [hbk, hf]; rfl)
  rintro ⟨⟩ ρ hbf
  replace hbf : badAt t k = false := hbf
  have hbad2 : ∀ i, i < k + 1 → badAt t i = false := fun i hi => by
    by_cases e : i = k
    · rw [e]; exact hbf
    · exact hbad i (by omega)
  have hmd2 : ∀ b : Bool, b = decide (x.kind = 1) → ∀ u, (u ∈ kAdd ks x.path → updF g x.path (.bool b) u = .bool (dirB (t.take (k + 1)) u)) ∧ (u ∉ kAdd ks x.path → dirB (t.take (k + 1)) u = false) := fun b hb u => by
    rw [hds u, kAdd_mem]
    unfold updF
    by_cases e : u = x.path
    · subst e
      rw [if_pos rfl, if_pos rfl, hb]
      exact ⟨fun _ => rfl, fun h => absurd (.inr rfl) h⟩
    · rw [if_neg e, if_neg (fun h => e h.symm)]
      exact ⟨fun h => (hmd u).1 (h.resolve_right e), fun h => (hmd u).2 fun h2 => h (.inl h2)⟩
  refine rg ?_
  refine ldo 0 ?_
  refine ldo 0 ?_
  refine eqI (fun h => ?_) (fun h => ?_)
  · refine muA 1 (ks := ks) (g := g) (s := x.path) hnd ?_
    refine dropH ?_
    refine runE ?_
    refine rg ?_
    refine addE ((k + 1 : Nat) : Int) ?_
    exact nxs (k + 1, kAdd ks x.path, updF g x.path (.bool true)) ⟨h1, hbad2, kAdd_nodup hnd, hmd2 true (decide_eq_true h).symm⟩ (by show t.length - (k + 1) < t.length - k; omega)
  · refine muA 1 (ks := ks) (g := g) (s := x.path) hnd ?_
    refine dropH ?_
    refine runE ?_
    refine rg ?_
    refine addE ((k + 1 : Nat) : Int) ?_
    exact nxs (k + 1, kAdd ks x.path, updF g x.path (.bool false)) ⟨h1, hbad2, kAdd_nodup hnd, hmd2 false (decide_eq_false h).symm⟩ (by show t.length - (k + 1) < t.length - k; omega)
theorem treeMay {w : World} {f : View} (hv : On f w) (hm : ML f) {A : Option Addr} {c : Nat} {t : List Node} (ht : Sl f A c t) : Con Tryz.prog 58 [.slice A t.length c] w (Ret w f fun _ v => v = .bool (mayT t)) := by
  refine enterC hv Tryz.call58 Tryz.func58 ?_
  refine sgE ?_
  refine sg ?_
  refine callO (R := fun _ v => ∃ n : Int, v = i64 n ∧ (n < 0 ↔ mayT t = true)) (vs := [.slice A t.length c]) (fun w g hs _ hon => treeBad hon (hm.mono hs) (ht.mono hs)) (fun v g hR => ?_)
  obtain ⟨n, rfl, hn⟩ := hR
  refine ltE (fun h => ?_) (fun h => ?_)
  · refine ew_ret ?_
    exact ret1 (show Value.bool true = .bool (mayT t) by rw [hn.1 h])
  · refine ew_ret ?_
    refine ret1 (show Value.bool false = .bool (mayT t) from ?_)
    cases e : mayT t with
    | false => rfl
    | true => exact absurd (hn.2 e) h
theorem itemSmall {w : World} {f : View} (hv : On f w) (hm : ML f) {x : Node} (hp : x.path.length ≤ LB) : Con Tryz.prog 60 [.agg ⟨nodeC x⟩] w (Ret w f fun _ v => v = .bool (smallB x)) := by
  have hp' : x.path.length ≤ 140737488355328 := hp
  refine enterC hv Tryz.call60 Tryz.func60 ?_
  refine sg ?_
  refine box (vs := nodeC x) fun b1 => ?_
  refine runE ?_
  refine sg ?_
  refine ldo 0 ?_
  refine le (fun h => ?_) (fun h => ?_)
  case refine_2 =>
    refine runE ?_
    refine edropH ?_
    refine ew_ret ?_
    refine ret1 (show Value.bool false = .bool (smallB x) from ?_)
    unfold smallB; rw [decide_eq_false (show ¬ x.path.length ≤ 120 by omega)]; rfl
  have h120 : x.path.length ≤ 120 := by omega
  refine ldo 0 ?_
  refine callMo (vs := [str x.path]) (R := fun L' v => ∃ A c, v = .slice A (pathL x.path).length c ∧ L' = [sRow A c (pathL x.path)]) (fun w g hs' _ hon => (pathSplit hon (hm.mono hs') hp)) (fun v L' hR => ?_)
  obtain ⟨A, c, rfl, rfl⟩ := hR
  refine leE (fun h2 => ?_) (fun h2 => ?_)
  · refine ewL (L' := []) (fun _ h => h.sublist (List.nil_sublist _)) ?_
    refine ew_ret ?_
    refine ret1 (show Value.bool true = .bool (smallB x) from ?_)
    unfold smallB; rw [decide_eq_true h120, decide_eq_true (show (pathL x.path).length ≤ 8 by omega)]; rfl
  · refine ewL (L' := []) (fun _ h => h.sublist (List.nil_sublist _)) ?_
    refine ew_ret ?_
    refine ret1 (show Value.bool false = .bool (smallB x) from ?_)
    unfold smallB; rw [decide_eq_true h120, decide_eq_false (show ¬ (pathL x.path).length ≤ 8 by omega)]; rfl
end Go.Hog

set_option linter.unusedVariables false
set_option linter.unusedSimpArgs false
set_option maxRecDepth 100000
set_option maxHeartbeats 1000000
namespace Go.Hog
open Go.RowKit Rp Go.Proofs
def smallF : Value := .func (.func 60) ⟨[]⟩ ⟨[]⟩
theorem filterSmall {w : World} {f : View} (hv : On f w) (hm : ML f) {A : Option Addr} {c : Nat} {t : List Node} (ht : Sl f A c t) (hl : t.length ≤ 1000000) :
    Con Tryz.prog 59 [.slice A t.length c, smallF] w (RetM w f [] fun _ L' v => ∃ A' c' xs, v = .slice A' (t.filter smallB).length c' ∧ L' = [.row A' (t.filter smallB).length c' 46 3 xs]) := by
  refine enterM (L := []) hv (Given.nil _ _) Tryz.call59 Tryz.func59 ?_
  refine sgE (sgE ?_)
  refine enilrow 46 3 ?_
  refine sqJ (σ := Option Addr × Nat × List Value) (fun s => [(5, .slice s.1 (t.filter smallB).length s.2.1)]) (fun _ => f) (fun s => [.row s.1 (t.filter smallB).length s.2.1 46 3 s.2.2]) (fun _ => True) ?_ ?_
  case refine_2 =>
    rintro ⟨A', c', xs⟩ ρ _
    refine sgE ?_
    refine ew_ret ?_
    exact ret1M ⟨A', c', xs, rfl, rfl⟩
  refine sgE (bk ?_)
  refine lp (σ := Nat × Option Addr × Nat × List Value) (fun s => [(10, i64 s.1), (9, i64 (t.length : Nat)), (8, .slice A t.length c), (5, .slice s.2.1 ((t.take s.1).filter smallB).length s.2.2.1), (1, smallF)]) (fun _ => f) (fun s => [.row s.2.1 ((t.take s.1).filter smallB).length s.2.2.1 46 3 s.2.2.2]) (fun s => s.1 ≤ t.length) (fun s => t.length - s.1) (0, none, 0, []) (Nat.zero_le _) ?_
  rintro ⟨k, A5, c5, xs⟩ ρ hk
  replace hk : k ≤ t.length := hk
  show EW _ _ _ _ _ (ups ρ [(10, i64 k), (9, i64 (t.length : Nat)), (8, .slice A t.length c), (5, .slice A5 ((t.take k).filter smallB).length c5), (1, smallF)]) f [.row A5 ((t.take k).filter smallB).length c5 46 3 xs]
  refine sg ?_
  refine ltE (fun h => ?_) (fun h => ?_)
  case refine_2 =>
    refine sq (cFx ?_)
    have e : k = t.length := by omega
    subst e
    rw [List.take_length]
    exact jn (A5, c5, xs) trivial
  have h1 : k < t.length := by omega
  obtain ⟨b1, o1, rfl, hc1, hn1⟩ := ht.node h1
  have htk : (t.take (k + 1)).filter smallB = (t.take k).filter smallB ++ [t[k]].filter smallB := by
    rw [(List.take_append_getElem h1).symm, List.filter_append]
  have hle : ((t.take k).filter smallB).length ≤ k := Nat.le_trans (List.length_filter_le _ _) (by rw [List.length_take]; omega)
  generalize t[k] = x at htk hc1 hn1
  generalize hN : ((t.take k).filter smallB).length = N at hle
  have hN1 : ((t.take (k + 1)).filter smallB).length = N + ([x].filter smallB).length := by rw [htk, List.length_append, hN]
  refine sq (cTs (sq (bk (sg ?_))))
  refine ix k h1 ?_
  refine ldvA hc1 ?_
  refine alloc fun b7 => ?_
  refine st 0 ?_
  refine runE ?_
  refine efg [(7, .pointer (some ⟨b7, 0, none⟩)), (10, i64 k), (9, i64 (t.length : Nat)), (8, .slice (some ⟨b1, o1, none⟩) t.length c), (5, .slice A5 N c5), (1, smallF)] [.blk b7 (.cells ⟨nodeC x⟩ 46), .row A5 N c5 46 3 xs] (fun ρ => ?_)
  refine sg ?_
  refine eqFN ?_
  refine ldoA 0 ?_
  refine callVF (.bool (smallB x)) (vs := [.agg ⟨nodeC x⟩]) (fi := []) (ca := []) (tot := [.agg ⟨nodeC x⟩]) (fun w g h1 h2 h3 => itemSmall h3 (hm.mono h1) hn1.1) ?_ (hcm := rfl)
  cases hb : smallB x with
  | false =>
    refine runE ?_
    refine cFs ?_
    refine ewL (L' := [.row A5 N c5 46 3 xs]) (fun _ h => h.sublist (List.sublist_cons_self _ _)) ?_
    have hN2 : ((t.take (k + 1)).filter smallB).length = N := by rw [hN1, List.filter_cons_of_neg (by rw [hb]; decide)]; rfl
    refine rg ?_
    refine addE ((k + 1 : Nat) : Int) ?_
    refine nxs (k + 1, A5, c5, xs) h1 (by show t.length - (k + 1) < t.length - k; omega) (hh := by rw [← hN2]) (ha := ⟨rfl, rfl, rfl, by show Value.slice A5 N c5 = .slice A5 ((t.take (k + 1)).filter smallB).length c5; rw [hN2], rfl, trivial⟩)
  | true =>
    have hN2 : ((t.take (k + 1)).filter smallB).length = N + 1 := by rw [hN1, List.filter_cons_of_pos hb]; rfl
    refine runE ?_
    refine cT (rg ?_)
    refine ldoA 0 ?_
    refine bsl fun b8 => ?_
    refine app 1 (fun A9 c9 => ?_) (hlim := by show (N + 1) * 40 ≤ _; omega)
    refine rwL (L' := [.row A9 (N + 1) c9 46 3 (xs ++ nodeC x)]) (fun _ h => h.sublist (List.sublist_cons_self _ _)) ?_
    refine runE ?_
    refine rg ?_
    refine addE ((k + 1 : Nat) : Int) ?_
    refine nxs (k + 1, A9, c9, xs ++ nodeC x) h1 (by show t.length - (k + 1) < t.length - k; omega) (hh := by rw [← hN2]) (ha := ⟨rfl, rfl, rfl, by show Value.slice A9 (N + 1) c9 = .slice A9 ((t.take (k + 1)).filter smallB).length c9; rw [hN2], rfl, trivial⟩)
theorem itemTree {w : World} {f : View} (hv : On f w) (hm : ML f) {A : Option Addr} {c : Nat} {t : List Node} (ht : Sl f A c t) : Con Tryz.prog 36 [.slice A t.length c] w (Ret w f fun _ v => v = .bool (treeOk t)) := by
  refine enterC hv Tryz.call36 Tryz.func36 ?_
  have hlim := ht.len_lt
  refine sgE ?_
  refine sg ?_
  refine le (fun h1 => ?_) (fun h1 => ?_)
  case refine_2 =>
    refine runE ?_
    refine ew_ret ?_
    refine ret1 (show Value.bool false = .bool (treeOk t) from ?_)
    unfold treeOk; rw [decide_eq_false (show ¬ t.length ≤ 24 by omega)]; rfl
  have h24 : t.length ≤ 24 := by omega
  refine callV (.bool (mayT t)) (vs := [.slice A t.length c]) (fun w g h1 h2 h3 => treeMay h3 (hm.mono h1) (ht.mono h1)) ?_
  cases hb : mayT t with
  | false =>
    refine runE ?_
    refine ew_ret ?_
    refine ret1 (show Value.bool false = .bool (treeOk t) from ?_)
    unfold treeOk; rw [decide_eq_true h24, hb]; rfl
  | true =>
    refine callMo (vs := [.slice A t.length c, smallF]) (R := fun L' v => ∃ A' c' xs, v = .slice A' (t.filter smallB).length c' ∧ L' = [.row A' (t.filter smallB).length c' 46 3 xs]) (fun w g hs' _ hon => filterSmall hon (hm.mono hs') (ht.mono hs') (by omega)) (fun v L' hR => ?_)
    obtain ⟨A', c', xs, rfl, rfl⟩ := hR
    refine eqI (fun h2 => ?_) (fun h2 => ?_)
    · refine runE ?_
      refine ewL (L' := []) (fun _ h => h.sublist (List.nil_sublist _)) ?_
      refine ew_ret ?_
      refine ret1 (show Value.bool true = .bool (treeOk t) from ?_)
      unfold treeOk; rw [decide_eq_true h24, hb, decide_eq_true (show (t.filter smallB).length = t.length by omega)]; rfl
    · refine runE ?_
      refine ewL (L' := []) (fun _ h => h.sublist (List.nil_sublist _)) ?_
      refine ew_ret ?_
      refine ret1 (show Value.bool false = .bool (treeOk t) from ?_)
      unfold treeOk; rw [decide_eq_true h24, hb, decide_eq_false (show ¬ (t.filter smallB).length = t.length by omega)]; rfl
end Go.Hog
