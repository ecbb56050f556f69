/- RegLines answers true. -/
import Derived.Test.YthaleeajeibgeaaFR
set_option linter.unusedVariables false
set_option linter.unusedSimpArgs false
set_option maxRecDepth 100000
set_option maxHeartbeats 1000000
namespace Go.Hog
open Go.RowKit Rp Go.Proofs
theorem cnt_line {k v : Str} (hk : k ∈ keys5) (hv : (10 : UInt8) ∉ v) : (lineT k v).count 10 = 1 := by
  unfold lineT
  rw [List.count_append, List.count_append, List.count_append, List.count_eq_zero_of_not_mem hv, List.count_eq_zero_of_not_mem (key_clean k hk).1]
  rfl
theorem cnt_lines {k : Str} (hk : k ∈ keys5) : ∀ {l : List Str}, (∀ s ∈ l, (10 : UInt8) ∉ s) → (l.flatMap (lineT k)).count 10 = l.length
  | [], _ => rfl
  | s :: l, h => by
    rw [List.flatMap_cons, List.count_append, cnt_line hk (h s (List.mem_cons_self ..)), cnt_lines hk fun y hy => h y (List.mem_cons_of_mem _ hy), List.length_cons]; omega
theorem cnt_items : ∀ {l : List Item}, (∀ x ∈ l, (10 : UInt8) ∉ x.name ∧ ∀ s ∈ x.refs, (10 : UInt8) ∉ s) → (l.flatMap itemT).count 10 = l.length + (l.flatMap (·.refs)).length
  | [], _ => rfl
  | x :: l, h => by
    obtain ⟨h1, h2⟩ := h x (List.mem_cons_self ..)
    rw [List.flatMap_cons, List.flatMap_cons, List.count_append, cnt_items fun y hy => h y (List.mem_cons_of_mem _ hy), List.length_cons, List.length_append]
    unfold itemT
    rw [List.count_append, cnt_line (by decide) h1, cnt_lines (by decide) h2]; omega
theorem cnt_lay {p : Pack} (h : mayP p) : (layT p).count 10 = 2 + p.items.length + p.prof.length + (p.items.flatMap (·.refs)).length := by
  obtain ⟨⟨h1, h2, h3, h4⟩, h5, h6⟩ := h
  unfold layT
  rw [List.count_append, List.count_append, List.count_append, cnt_line (by decide) (prefix_clean h1), cnt_line (by decide) (by unfold digT; split <;> decide), cnt_items fun x hx => ⟨name_clean (h3.2.1 _ (List.mem_map.2 ⟨x, hx, rfl⟩)), fun s hs => name_clean ((h5 x hx).2.1 s hs)⟩, cnt_lines (by decide) fun s hs => name_clean (h6 s hs)]
  omega
def EndsN (s : Str) : Prop := ∃ t, s = t ++ [10]
theorem ends_line (k v : Str) : EndsN (lineT k v) := ⟨k ++ [32] ++ v, rfl⟩
theorem ends_app {s t : Str} (h : EndsN t) : EndsN (s ++ t) := by
  obtain ⟨u, rfl⟩ := h
  exact ⟨s ++ u, by rw [List.append_assoc]⟩
theorem ends_flat {α : Type} {q : α → Str} {l : List α} {s : Str} (hs : EndsN s) (h : ∀ x ∈ l, EndsN (q x)) : EndsN (s ++ l.flatMap q) := by
  rcases List.eq_nil_or_concat l with rfl | ⟨l', x, rfl⟩
  · rw [List.flatMap_nil, List.append_nil]; exact hs
  · rw [List.concat_eq_append, List.flatMap_append]
    refine ends_app (ends_app ?_)
    simp only [List.flatMap_cons, List.flatMap_nil, List.append_nil]
    exact h x (by simp)
theorem ends_lay (p : Pack) : EndsN (layT p) := by
  unfold layT
  refine ends_flat (ends_flat (ends_app (ends_line _ _)) fun x _ => ?_) fun s _ => ends_line _ _
  exact ends_flat (ends_line _ _) fun s _ => ends_line _ _
theorem great_items {p : Pack} (h : ¬ GreatP p) : p.items.length ≤ 10 := by
  by_cases e : p.items.length ≤ 10
  · exact e
  · exact absurd (.inr (.inl (.inl (by omega)))) h
theorem regLines {w : World} {f : View} (hv : On f w) (hm : ML f) {p : Pack} {cs : List Value} (hp0 : rp f p cs) :
    Con Try.prog 6 [.agg ⟨cs⟩] w (Ret w f fun _ v => v = .bool true) := by
  obtain ⟨A, c, A2, c2, rfl, hp⟩ := hp0
  refine enterC hv Try.call6 Try.func6 ?_
  refine sg ?_
  refine box (vs := packC p A c A2 c2) fun b1 => ?_
  refine runE ?_
  refine efrz 0 fun g hs hq => ?_
  have hp1 := hp.mono hs
  have hmg := hm.mono hs
  have hc : Cells g b1 0 (packC p A c A2 c2) := ⟨blk_seen hq, blk_seen hq, blk_seen hq, blk_seen hq, trivial⟩
  have k1 : g.cell? ⟨b1, 1, none⟩ = some (.slice A p.items.length c) := blk_seen hq
  have k2 : g.cell? ⟨b1, 2, none⟩ = some (.slice A2 p.prof.length c2) := blk_seen hq
  refine efg [(1, ptrTo b1)] [] (fun ρ => ?_)
  refine sq (sg ?_)
  refine ldvA hc ?_
  refine callB (p := GreatP p) (vs := [.agg ⟨packC p A c A2 c2⟩]) (fun w g hs _ hon => greatPack hon (hp1.mono hs)) (fun h1 => ?_) (fun h1 => ?_)
  · refine runE ?_
    refine cT (sg ?_)
    refine callV (.bool true) (vs := []) (fun w g hs _ hon => awake11 hon (hmg.mono hs)) ?_
    refine runE ?_
    refine ew_ret ?_
    exact ret1 rfl
  have hi10 := great_items h1
  refine runE ?_
  refine cFs ?_
  refine sg ?_
  refine ldvA hc ?_
  refine callM0 (vs := [.agg ⟨packC p A c A2 c2⟩]) [] (fun w hon hgi => regLay hon hmg hp1 (by omega)) (fun v g2 L' hs2 hR => ?_)
  obtain ⟨rfl, rfl⟩ := hR
  have hp2 := hp1.mono hs2
  have hmg2 := hmg.mono hs2
  refine runE ?_
  refine efg [(4, i64 (layE p)), (3, str (layS p)), (1, ptrTo b1)] [] (fun ρ => ?_)
  refine sq (sg ?_)
  refine neIE (fun h2 => ?_) (fun h2 => ?_)
  · have hnm : ¬ mayP p := fun h => h2 (if_pos h)
    refine cT (sg ?_)
    refine ldvA (Cells.mono hs2 hc) ?_
    refine callV (.bool false) (vs := [.agg ⟨packC p A c A2 c2⟩]) (fun w g' h1 h2 h3 => ?_) ?_
    · have := regMay h3 (hmg2.mono h1) (hp2.mono h1) (by omega)
      rwa [decide_eq_false hnm] at this
    refine callV (.bool true) (vs := []) (fun w g hs _ hon => awake11 hon (hmg2.mono hs)) ?_
    refine runE ?_
    refine ew_ret ?_
    exact ret1 rfl
  refine cFs ?_
  have hmay : mayP p := by
    by_cases e : mayP p
    · exact e
    · exact absurd (show layE p ≠ 0 by unfold layE; rw [if_neg e]; decide) h2
  have hS : layS p = layT p := if_pos hmay
  have hcnt := cnt_lay hmay
  have hcl : (layT p).count 10 ≤ (layT p).length := List.count_le_length
  have hll := lay_len hmay
  obtain ⟨t0, ht0⟩ := ends_lay p
  rw [hS]
  generalize hs0 : layT p = S at hcnt hcl hll ht0
  refine efg [(3, str S), (1, ptrTo b1)] [] (fun ρ => ?_)
  refine sg ?_
  refine ldv (Sub.cell hs2 k1) ?_
  refine add ((2 + p.items.length : Nat) : Int) ?_
  refine ldv (Sub.cell hs2 k2) ?_
  refine add ((2 + p.items.length + p.prof.length : Nat) : Int) ?_
  refine runE ?_
  refine efg [(5, i64 (2 + p.items.length + p.prof.length : Nat)), (3, str S), (1, ptrTo b1)] [] (fun ρ => ?_)
  refine sqJ (σ := Unit) (fun _ => [(5, i64 (S.count 10 : Nat)), (3, str S)]) (fun _ => g2) (fun _ => []) (fun _ => True) ?_ ?_
  · refine sgE (bk ?_)
    refine lpn p.items.length (fun k => [(6, i64 k), (5, i64 (2 + p.items.length + p.prof.length + ((p.items.take k).flatMap (·.refs)).length : Nat)), (3, str S), (1, ptrTo b1)]) (fun _ => True) trivial ?_
    intro k ρ hk _
    refine sq (sg ?_)
    refine ldv (Sub.cell hs2 k1) ?_
    refine ltE (fun h => ?_) (fun h => ?_)
    case refine_2 =>
      have e : k = p.items.length := by omega
      subst e
      refine cFx ?_
      refine jn () trivial (ha := ⟨?_, rfl, trivial⟩)
      show i64 _ = i64 _
      rw [List.take_length, hcnt]
    have h1 : k < p.items.length := by omega
    obtain ⟨b2, o2, A6, c6, A7, c7, rfl, hc2, hn, hr, ht⟩ := hp2.items.item h1
    have htk : ((p.items.take (k + 1)).flatMap (·.refs)).length = ((p.items.take k).flatMap (·.refs)).length + p.items[k].refs.length := by
      rw [(List.take_append_getElem h1).symm, List.flatMap_append]; simp
    have hle : ((p.items.take (k + 1)).flatMap (·.refs)).length ≤ (p.items.flatMap (·.refs)).length := by
      conv => rhs; rw [← List.take_append_drop (k + 1) p.items]
      rw [List.flatMap_append, List.length_append]; omega
    generalize p.items[k] = x at hc2 hn hr ht htk
    refine cTs (sq (bk ?_))
    refine rg ?_
    refine ldv (Sub.cell hs2 k1) ?_
    refine ix k h1 ?_
    refine ldv hc2.2.1 ?_
    refine add ((2 + p.items.length + p.prof.length + ((p.items.take (k + 1)).flatMap (·.refs)).length : Nat) : Int) ?_
    refine runE ?_
    refine rg ?_
    refine addE ((k + 1 : Nat) : Int) ?_
    exact nx trivial
  rintro ⟨⟩ ρ _
  refine sqJ (σ := Unit) (fun _ => [(5, i64 0), (3, str S)]) (fun _ => g2) (fun _ => []) (fun _ => True) ?_ ?_
  · refine sgE (bk ?_)
    refine lpn S.length (fun k => [(7, i64 k), (5, i64 ((S.drop k).count 10 : Nat)), (3, str S)]) (fun _ => True) trivial ?_
    intro k ρ hk _
    refine sq (sg ?_)
    refine ltE (fun h => ?_) (fun h => ?_)
    case refine_2 =>
      have e : k = S.length := by omega
      subst e
      refine cFx ?_
      refine jn () trivial (ha := ⟨?_, rfl, trivial⟩)
      show i64 _ = i64 _
      rw [List.drop_length]; rfl
    have h1 : k < S.length := by omega
    have hdr : S.drop k = S[k] :: S.drop (k + 1) := List.drop_eq_getElem_cons h1
    have hcd : (S.drop k).count 10 = (S.drop (k + 1)).count 10 + if S[k] = 10 then 1 else 0 := by
      rw [hdr, List.count_cons]
      by_cases e : S[k] = 10
      · rw [e]; rfl
      · rw [if_neg e, if_neg (by simpa using e)]
    have hcb : (S.drop k).count 10 ≤ (S.drop k).length := List.count_le_length
    rw [List.length_drop] at hcb
    have hcs : S[k]? = some S[k] := List.getElem?_eq_getElem h1
    generalize S[k] = ch at hcs hcd
    refine cTs (bkJ (σ := Unit) (fun _ => [(7, i64 k), (5, i64 ((S.drop (k + 1)).count 10 : Nat)), (3, str S)]) (fun _ => g2) (fun _ => []) (fun _ => True) ?_ ?_)
    case refine_2 =>
      rintro ⟨⟩ ρ _
      refine rg ?_
      refine addE ((k + 1 : Nat) : Int) ?_
      exact nx trivial
    refine sg ?_
    refine ixS k ch hcs ?_
    refine eqIE (fun h10 => ?_) (fun h10 => ?_)
    · have he : ch = 10 := UInt8.toNat_inj.1 (by show ch.toNat = 10; omega)
      rw [if_pos he] at hcd
      refine cT (rg ?_)
      refine subE (((S.drop (k + 1)).count 10 : Nat) : Int) ?_
      exact jn () trivial
    · have he : ch ≠ 10 := fun e => h10 (by rw [e]; rfl)
      rw [if_neg he] at hcd
      refine cFs ?_
      refine jn () trivial (ha := ⟨rfl, ?_, rfl, trivial⟩)
      show i64 _ = i64 _
      rw [hcd]; rfl
  rintro ⟨⟩ ρ _
  have hSl : S.length = t0.length + 1 := by rw [ht0]; simp
  have hlast : S[t0.length]? = some 10 := by rw [ht0]; simp
  refine sg ?_
  refine eqI (fun _ => ?_) (fun h => absurd rfl h)
  refine gt (fun _ => ?_) (fun h => absurd (show (0 : Int) < S.length by omega) h)
  refine sub ((t0.length : Nat) : Int) ?_
  refine ixS t0.length 10 hlast ?_
  refine eqI (fun _ => ?_) (fun h => absurd rfl h)
  refine callV (.bool true) (vs := []) (fun w g hs _ hon => awake11 hon (hmg2.mono hs)) ?_
  refine runE ?_
  refine ew_ret ?_
  exact ret1 rfl
end Go.Hog
