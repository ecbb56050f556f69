/- Contracts: the document's Tree and Text; what is lent, and whether it is kept. -/
import Derived.Test.YtidhmfmbifdbkaaF32
import Derived.Test.YtidhmfmbifdbkaaFO
set_option linter.unusedVariables false
set_option linter.unusedSimpArgs false
set_option maxRecDepth 100000
set_option maxHeartbeats 1000000
namespace Go.Hog
open Go.RowKit Rp Go.Proofs
def boolV (b : Bool) : Value := .bool b
theorem put_bool (l : List Bool) (o : Nat) (b : Bool) (h : o < l.length) : putL (l.map boolV) (0 + o * 1) [.bool b] = (l.set o b).map boolV := by
  rw [show 0 + o * 1 = o by omega, putL1 _ _ _ (by simpa using h), List.map_set]
  rfl
theorem Sl.ofBools {g : View} {A : Option Addr} {c e n : Nat} {l : List Bool} (h : (HE.row A n c e 1 (l.map boolV)).seen g) (hn : n = l.length) (hl : l.length ≤ LB) : Sl g A c l :=
  Sl.ofRow h hn rfl hl fun j hj => by
    show ((l.map boolV).drop (j * 1)).take 1 = [.bool l[j]]
    rw [Nat.mul_one, List.drop_eq_getElem_cons (by simpa using hj)]
    simp [boolV]
/-- How far the document's Tree has come: name i, at the nodes ahead of k. -/
def BI (t : List Node) (names : List Str) (i k : Nat) (bs : List Bool) : Prop := bs.length = names.length ∧ ∀ j (h : j < names.length), bs[j]? = some (if j < i then treeHas t (hashL names[j]) else if j = i then treeHas (t.take k) (hashL names[j]) else false)
theorem BI.start (t : List Node) (names : List Str) : BI t names 0 0 (List.replicate names.length false) := by
  refine ⟨by simp, fun j hj => ?_⟩
  rw [List.getElem?_replicate, if_pos hj]
  simp [treeHas]
theorem BI.next {t : List Node} {names : List Str} {i : Nat} {bs : List Bool} (h : BI t names i t.length bs) : BI t names (i + 1) 0 bs := by
  refine ⟨h.1, fun j hj => ?_⟩
  rw [h.2 j hj]
  by_cases h1 : j < i
  · rw [if_pos h1, if_pos (by omega)]
  · rw [if_neg h1]
    by_cases h2 : j = i
    · rw [if_pos h2, if_pos (by omega), List.take_length]
    · rw [if_neg h2, if_neg (by omega)]
      split
      · simp [treeHas]
      · rfl
theorem BI.step {t : List Node} {names : List Str} {i k : Nat} {bs : List Bool} (h : BI t names i k bs) (hi : i < names.length) (hk : k < t.length) {b : Bool} (hb : b = treeHas (t.take (k + 1)) (hashL names[i])) : BI t names i (k + 1) (bs.set i b) := by
  refine ⟨by rw [List.length_set]; exact h.1, fun j hj => ?_⟩
  rw [List.getElem?_set, h.2 j hj]
  by_cases h2 : i = j
  · subst h2
    rw [if_pos rfl, if_pos (by rw [h.1]; exact hi), if_neg (Nat.lt_irrefl _), if_pos rfl, hb]
  · rw [if_neg h2]
    by_cases h1 : j < i
    · rw [if_pos h1, if_pos h1]
    · rw [if_neg h1, if_neg h1, if_neg (fun e => h2 e.symm), if_neg (fun e => h2 e.symm)]
theorem treeHas_ok {t : List Node} {s : Str} (h : treeHas t (hashL s) = true) : nameOk s := by
  unfold treeHas at h
  obtain ⟨x, _, h1, _⟩ := of_decide_eq_true h
  by_cases e : nameOk s
  · exact e
  · exact absurd (hash_no e) h1
theorem BI.fin {t : List Node} {names : List Str} {bs : List Bool} (h : BI t names names.length 0 bs) {o : List Str} (ho : InsD names bs names.length o) : o = treeL t names := by
  refine foundL_eq ho.1 fun s => ?_
  rw [ho.2]
  constructor
  · rintro ⟨j, hj, h1, h2⟩
    rw [h.2 j hj, if_pos hj] at h2
    injection h2 with h2
    rw [List.getElem?_eq_getElem hj] at h1
    injection h1 with h1
    rw [h1] at h2
    exact ⟨h1 ▸ List.getElem_mem hj, treeHas_ok h2, h2⟩
  · rintro ⟨h1, _, h2⟩
    obtain ⟨j, hj, rfl⟩ := List.getElem_of_mem h1
    refine ⟨j, hj, List.getElem?_eq_getElem hj, ?_⟩
    rw [h.2 j hj, if_pos hj, h2]
theorem ref8Tree {w : World} {f : View} (hv : On f w) {A : Option Addr} {c : Nat} {t : List Node} (ht : Sl f A c t) (hd : ∀ x ∈ t, x.data.length < 4294967281) {A2 : Option Addr} {c2 : Nat} {names : List Str} (hn : Sl f A2 c2 names) (h12 : names.length ≤ 12) :
    Con Try.prog 18 [.slice A t.length c, .slice A2 names.length c2] w (RetM w f [] fun _ L' v => ∃ A' c', v = .slice A' (treeL t names).length c' ∧ L' = [sRow A' c' (treeL t names)]) := by
  refine enterM (L := []) hv (Given.nil _ _) Try.call18 Try.func18 ?_
  have hlim := ht.len_lt
  refine sgE ?_
  refine sg ?_
  refine mks (by_ := 1) names.length ⟨by omega, by omega⟩ fun b5 => ?_
  refine runE ?_
  refine efg [(5, .slice (some ⟨b5, 0, none⟩) names.length names.length), (0, .slice A t.length c), (1, .slice A2 names.length c2)] [.row (some ⟨b5, 0, none⟩) names.length names.length 4 1 ((List.replicate names.length false).map boolV)] (hh := by rw [List.map_replicate]; rfl) fun ρ => ?_
  refine sqJ (σ := List Bool) (fun _ => [(5, .slice (some ⟨b5, 0, none⟩) names.length names.length), (1, .slice A2 names.length c2)]) (fun _ => f) (fun bs => [.row (some ⟨b5, 0, none⟩) names.length names.length 4 1 (bs.map boolV)]) (fun bs => BI t names names.length 0 bs) ?_ ?_
  case refine_2 =>
    rintro bs ρ hbi
    replace hbi : BI t names names.length 0 bs := hbi
    have hbl := hbi.1
    refine efg [(5, .slice (some ⟨b5, 0, none⟩) bs.length names.length), (1, .slice A2 names.length c2)] [.row (some ⟨b5, 0, none⟩) names.length names.length 4 1 (bs.map boolV)] (ha := ⟨by show Value.slice _ names.length _ = .slice _ bs.length _; rw [hbl], rfl, trivial⟩) fun ρ => ?_
    refine sg ?_
    refine callMo (vs := [.slice A2 names.length c2, .slice (some ⟨b5, 0, none⟩) bs.length names.length]) (R := fun L' v => ∃ A' c' o, v = .slice A' o.length c' ∧ L' = [sRow A' c' o] ∧ InsD names bs names.length o) (fun w g hs hsn hon => ref8Sorted hon (hn.mono hs) h12 (Sl.ofBools (hsn _ (.head _)) hbl.symm (by unfold LB; omega)) hbl) (fun v L' hR => ?_)
    obtain ⟨A', c', o, rfl, rfl, ho⟩ := hR
    have e := hbi.fin ho
    subst e
    refine runE ?_
    refine ewL (L' := [sRow A' c' (treeL t names)]) (fun _ h => h.sublist (.cons_cons _ (.cons _ (List.Sublist.refl _)))) ?_
    refine ew_ret ?_
    exact ret1M ⟨A', c', rfl, rfl⟩
  refine sgE ?_
  refine bk ?_
  refine lp (σ := Nat × List Bool) (fun s => [(6, i64 s.1), (5, .slice (some ⟨b5, 0, none⟩) names.length names.length), (0, .slice A t.length c), (1, .slice A2 names.length c2)]) (fun _ => f) (fun s => [.row (some ⟨b5, 0, none⟩) names.length names.length 4 1 (s.2.map boolV)]) (fun s => s.1 ≤ names.length ∧ BI t names s.1 0 s.2) (fun s => names.length - s.1) (0, List.replicate names.length false) ⟨Nat.zero_le _, BI.start t names⟩ ?_
  rintro ⟨i, bs⟩ ρ ⟨hi, hbi⟩
  replace hi : i ≤ names.length := hi
  replace hbi : BI t names i 0 bs := hbi
  show EW _ _ _ _ _ (ups ρ [(6, i64 i), (5, .slice (some ⟨b5, 0, none⟩) names.length names.length), (0, .slice A t.length c), (1, .slice A2 names.length c2)]) f [.row (some ⟨b5, 0, none⟩) names.length names.length 4 1 (bs.map boolV)]
  refine sq (sg ?_)
  refine ltE (fun h => ?_) (fun h => ?_)
  case refine_2 =>
    refine cFx ?_
    have e : i = names.length := by omega
    subst e
    exact jn bs hbi
  have h1 : i < names.length := by omega
  obtain ⟨b0, o0, rfl, hcn, hxl⟩ := hn.text h1
  refine cTs (sq (bk (sg ?_)))
  refine ix i h1 ?_
  refine ldv hcn ?_
  refine callV (str (hashL names[i])) (vs := [str names[i]]) (fun w g hs _ hon => ref7Hash hon hxl) ?_
  refine runE ?_
  refine sgE ?_
  refine efg [(8, i64 (0 : Nat)), (7, str (hashL names[i])), (6, i64 i), (5, .slice (some ⟨b5, 0, none⟩) names.length names.length), (0, .slice A t.length c), (1, .slice (some ⟨b0, o0, none⟩) names.length c2)] [.row (some ⟨b5, 0, none⟩) names.length names.length 4 1 (bs.map boolV)] fun ρ => ?_
  refine bk ?_
  refine lp (σ := Nat × List Bool) (fun s => [(8, i64 s.1), (7, str (hashL names[i])), (6, i64 i), (5, .slice (some ⟨b5, 0, none⟩) names.length names.length), (0, .slice A t.length c), (1, .slice (some ⟨b0, o0, none⟩) names.length c2)]) (fun _ => f) (fun s => [.row (some ⟨b5, 0, none⟩) names.length names.length 4 1 (s.2.map boolV)]) (fun s => s.1 ≤ t.length ∧ BI t names i s.1 s.2) (fun s => t.length - s.1) (0, bs) ⟨Nat.zero_le _, hbi⟩ ?_
  rintro ⟨k, bs2⟩ ρ ⟨hk, hb2⟩
  replace hk : k ≤ t.length := hk
  replace hb2 : BI t names i k bs2 := hb2
  have hbl2 := hb2.1
  show EW _ _ _ _ _ (ups ρ [(8, i64 k), (7, str (hashL names[i])), (6, i64 i), (5, .slice (some ⟨b5, 0, none⟩) names.length names.length), (0, .slice A t.length c), (1, .slice (some ⟨b0, o0, none⟩) names.length c2)]) f [.row (some ⟨b5, 0, none⟩) names.length names.length 4 1 (bs2.map boolV)]
  refine sq (sg ?_)
  refine ltE (fun h => ?_) (fun h => ?_)
  case refine_2 =>
    refine cFx ?_
    have e : k = t.length := by omega
    subst e
    refine rg ?_
    refine addE ((i + 1 : Nat) : Int) ?_
    exact nxs (i + 1, bs2) ⟨h1, hb2.next⟩ (by show names.length - (i + 1) < names.length - i; omega)
  have h2 : k < t.length := by omega
  obtain ⟨b9, o9, rfl, hcx, _⟩ := ht.node h2
  have hdx := hd _ (List.getElem_mem h2)
  have htk : t.take (k + 1) = t.take k ++ [t[k]] := (List.take_append_getElem h2).symm
  have hcur := hb2.2 i h1
  rw [if_neg (Nat.lt_irrefl _), if_pos rfl] at hcur
  have hset : ∀ b : Bool, b = treeHas (t.take (k + 1)) (hashL names[i]) → BI t names i (k + 1) (bs2.set i b) := fun b hb => hb2.step h1 h2 hb
  have hpl : ∀ b : Bool, putL (bs2.map boolV) (0 + i * 1) [.bool b] = (bs2.set i b).map boolV := fun b => put_bool _ _ _ (by rw [hbl2]; exact h1)
  have hrl : 0 + i * 1 + ([.bool true] : List Value).length ≤ (bs2.map boolV).length := by
    rw [List.length_map, hbl2]; show 0 + i * 1 + 1 ≤ _; omega
  have hiff : (∃ x ∈ t.take (k + 1), hasL x.data (hashL names[i])) ↔ (∃ x ∈ t.take k, hasL x.data (hashL names[i])) ∨ hasL t[k].data (hashL names[i]) := by
    rw [htk]
    constructor
    · rintro ⟨x, hx, h3⟩
      rcases List.mem_append.1 hx with hx | hx
      · exact .inl ⟨x, hx, h3⟩
      · rw [List.mem_singleton] at hx
        subst hx; exact .inr h3
    · rintro (⟨x, hx, h3⟩ | h3)
      · exact ⟨x, List.mem_append_left _ hx, h3⟩
      · exact ⟨_, List.mem_append_right _ (List.mem_singleton.2 rfl), h3⟩
  have hcell : (bs2.map boolV)[0 + i * 1]? = some (.bool (treeHas (t.take k) (hashL names[i]))) := by
    rw [show 0 + i * 1 = i by omega, List.getElem?_map, hcur]; rfl
  refine cTs (sq (bk (rg ?_)))
  refine ix i h1 ?_
  refine ldr 0 hcell ?_
  by_cases hp : ∃ x ∈ t.take k, hasL x.data (hashL names[i])
  · rw [show treeHas (t.take k) (hashL names[i]) = true from decide_eq_true hp]
    refine ix i h1 ?_
    refine stR 0 (o := 0 + i * 1) (vs := [.bool true]) (xs := bs2.map boolV) hrl ?_
    refine rw_end ?_
    refine rg ?_
    refine addE ((k + 1 : Nat) : Int) ?_
    refine nxs (k + 1, bs2.set i true) ⟨h2, hset true (show treeHas _ _ = true from decide_eq_true (hiff.2 (.inl hp))).symm⟩ (by show t.length - (k + 1) < t.length - k; omega) (hh := by show [HE.row _ _ _ _ _ ((bs2.set i true).map boolV)] = _; rw [← hpl]; rfl)
  rw [show treeHas (t.take k) (hashL names[i]) = false from decide_eq_false hp]
  refine ix k h2 ?_
  refine ldv hcx.2.2.1 ?_
  refine callMo (vs := [str t[k].data, str (hashL names[i])]) (R := fun L' v => ∃ A' c', v = .slice A' (placesI t[k].data (hashL names[i])).length c' ∧ L' = [iRow A' c' (placesI t[k].data (hashL names[i]))]) (fun w g hs hsn hon => ref8Places hon hdx (hash_le _)) (fun v L' hR => ?_)
  obtain ⟨A4, c4, rfl, rfl⟩ := hR
  refine rwL (L' := [.row (some ⟨b5, 0, none⟩) names.length names.length 4 1 (bs2.map boolV)]) (fun _ h => h.sublist (.cons _ (List.Sublist.refl _))) ?_
  refine Go.Hog.gt (fun h3 => ?_) (fun h3 => ?_)
  · have h4 := places_has.1 (show 0 < (placesI t[k].data (hashL names[i])).length by omega)
    refine ix i h1 ?_
    refine stR 0 (o := 0 + i * 1) (vs := [.bool true]) (xs := bs2.map boolV) hrl ?_
    refine rw_end ?_
    refine rg ?_
    refine addE ((k + 1 : Nat) : Int) ?_
    refine nxs (k + 1, bs2.set i true) ⟨h2, hset true (show treeHas _ _ = true from decide_eq_true (hiff.2 (.inr h4))).symm⟩ (by show t.length - (k + 1) < t.length - k; omega) (hh := by show [HE.row _ _ _ _ _ ((bs2.set i true).map boolV)] = _; rw [← hpl]; rfl)
  · have h4 : ¬ hasL t[k].data (hashL names[i]) := fun h4 => h3 (by have := places_has.2 h4; omega)
    refine ix i h1 ?_
    refine stR 0 (o := 0 + i * 1) (vs := [.bool false]) (xs := bs2.map boolV) hrl ?_
    refine rw_end ?_
    refine rg ?_
    refine addE ((k + 1 : Nat) : Int) ?_
    refine nxs (k + 1, bs2.set i false) ⟨h2, hset false (show treeHas _ _ = false from decide_eq_false fun h5 => by rcases hiff.1 h5 with h5 | h5; exact hp h5; exact h4 h5).symm⟩ (by show t.length - (k + 1) < t.length - k; omega) (hh := by show [HE.row _ _ _ _ _ ((bs2.set i false).map boolV)] = _; rw [← hpl]; rfl)
theorem textTree (s : Str) (names : List Str) : treeL [⟨[], 0, s⟩] names = textL s names := by
  have e : treeHas [⟨[], 0, s⟩] = fun h => decide (hasL s h) := by funext h; unfold treeHas; simp
  unfold treeL textL
  rw [e]
theorem ref8Text {w : World} {f : View} (hv : On f w) {s : Str} (hs : s.length < 4294967281) {A2 : Option Addr} {c2 : Nat} {names : List Str} (hn : Sl f A2 c2 names) (h12 : names.length ≤ 12) :
    Con Try.prog 17 [str s, .slice A2 names.length c2] w (RetM w f [] fun _ L' v => ∃ A' c', v = .slice A' (textL s names).length c' ∧ L' = [sRow A' c' (textL s names)]) := by
  refine enterM (L := []) hv (Given.nil _ _) Try.call17 Try.func17 ?_
  refine sgE ?_
  refine sg ?_
  refine bld (cs := nodeC ⟨[], 0, s⟩) ?_
  refine bsl fun b7 => ?_
  rw [← textTree]
  refine callMo (vs := [.slice (some ⟨b7, 0, none⟩) ([⟨[], 0, s⟩] : List Node).length 1, .slice A2 names.length c2]) (R := fun L' v => ∃ A' c', v = .slice A' (treeL [⟨[], 0, s⟩] names).length c' ∧ L' = [sRow A' c' (treeL [⟨[], 0, s⟩] names)]) (fun w g hs' hsn hon => ref8Tree hon ?_ (fun x hx => ?_) (hn.mono hs') h12) (fun v L' hR => ?_)
  · have h1 : Rw g ([⟨[], 0, s⟩] : List Node) (nodeC ⟨[], 0, s⟩) := Rw.one (show rp g (⟨[], 0, s⟩ : Node) (nodeC ⟨[], 0, s⟩) from ⟨rfl, Nat.zero_le _, by unfold LB; show s.length ≤ _; omega, show (-9223372036854775808 : Int) ≤ 0 by decide, show (0 : Int) ≤ 9223372036854775807 by decide⟩)
    exact h1.sl (hsn _ (.head _)) rfl (by simp [LB])
  · rw [List.mem_singleton] at hx
    subst hx; exact hs
  obtain ⟨A', c', rfl, rfl⟩ := hR
  refine runE ?_
  refine ewL (L' := [sRow A' c' (treeL [⟨[], 0, s⟩] names)]) (fun _ h => h.sublist (.cons_cons _ (.cons _ (List.Sublist.refl _)))) ?_
  refine ew_ret ?_
  exact ret1M ⟨A', c', rfl, rfl⟩
end Go.Hog
