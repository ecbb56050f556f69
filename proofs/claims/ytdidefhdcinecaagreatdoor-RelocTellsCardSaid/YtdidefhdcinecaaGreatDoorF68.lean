/- Contracts: chapter 25's own answer. -/
import Derived.Test.YtdidefhdcinecaaGreatDoorE36
import Derived.Test.YtdidefhdcinecaaGreatDoorF67
import Derived.Test.YtdidefhdcinecaaGreatDoorCF
set_option linter.unusedVariables false
set_option linter.unusedSimpArgs false
set_option maxRecDepth 100000
set_option maxHeartbeats 1000000
namespace Go.Hog
open Go.RowKit Rp Go.Proofs
theorem swG_short {o n : Str} (ho : o ≠ []) {s : Str} (h : s.length < o.length) : swG o n 0 s = s ∧ cnG o 0 s = 0 := by
  induction s with
  | nil => exact ⟨rfl, rfl⟩
  | cons c t ih =>
    have hm : o.isPrefixOf (c :: t) = false := by
      cases e : o.isPrefixOf (c :: t) with
      | false => rfl
      | true => have := pre_len e; omega
    obtain ⟨i1, i2⟩ := ih (by simp at h; omega)
    exact ⟨by rw [swG_miss hm, i1], by rw [cnG_miss hm, i2]⟩
/-- Where a swap stands. -/
structure SwI (s o n : Str) (i cnt : Nat) (done : Str) : Prop where
  le : i ≤ s.length
  len : done.length = i
  sw : done ++ swG o n 0 (s.drop i) = swG o n 0 s
  cn : cnt + cnG o 0 (s.drop i) = cnG o 0 s
theorem SwI.miss {s o n done : Str} {i cnt : Nat} (h : SwI s o n i cnt done) (hi : i < s.length) (hm : o.isPrefixOf (s.drop i) = false) : SwI s o n (i + 1) cnt (done ++ [s[i]]) := by
  obtain ⟨h1, h2, h3, h4⟩ := h
  rw [List.drop_eq_getElem_cons hi] at hm h3 h4
  rw [swG_miss hm] at h3
  rw [cnG_miss hm] at h4
  exact ⟨hi, by simp [h2], by rw [← h3]; simp, h4⟩
theorem SwI.hit {s o n done : Str} {i cnt : Nat} (ho : o ≠ []) (hl : n.length = o.length) (h : SwI s o n i cnt done) (hr : i + o.length ≤ s.length) (hm : o.isPrefixOf (s.drop i) = true) : SwI s o n (i + o.length) (cnt + 1) (done ++ n) := by
  obtain ⟨h1, h2, h3, h4⟩ := h
  rw [swG_hit ho hm, List.drop_drop] at h3
  rw [cnG_hit ho hm, List.drop_drop] at h4
  exact ⟨hr, by rw [List.length_append, h2, hl], by rw [← h3]; simp, by omega⟩
theorem mid_pre {s o : Str} {i : Nat} (hr : i + o.length ≤ s.length) : o.isPrefixOf (s.drop i) = decide ((s.take (i + o.length)).drop i = o) := by
  rw [Bool.eq_iff_iff, List.isPrefixOf_iff_prefix, List.prefix_iff_eq_take, decide_eq_true_eq, List.drop_take]
  rw [show i + o.length - i = o.length by omega]
  exact eq_comm
theorem ref25Swap {w : World} {f : View} (hv : On f w) {s o n : Str} (hs : s.length ≤ 1000000) (hol : o.length ≤ 1000000) :
    Con Tryz.prog 10 [str s, str o, str n] w (Ret w f fun _ v => v = .tuple #[str (swS s o n), i64 (cnS s o n : Nat)]) := by
  refine enterC hv Tryz.call10 Tryz.func10 ?_
  refine sgE (sq (sg ?_))
  refine eqS (fun h1 => ?_) (fun h1 => ?_)
  · refine runE ?_
    refine cT (sgE ?_)
    refine ew_ret ?_
    exact ret2 (show Value.tuple #[str s, i64 0] = _ by unfold swS cnS; rw [if_pos (.inl h1), if_pos (.inl h1)]; rfl)
  refine neI (fun h2 => ?_) (fun h2 => ?_)
  · have h2' : n.length ≠ o.length := fun e => h2 (by rw [e])
    refine runE ?_
    refine cT (sgE ?_)
    refine ew_ret ?_
    exact ret2 (show Value.tuple #[str s, i64 0] = _ by unfold swS cnS; rw [if_pos (.inr h2'), if_pos (.inr h2')]; rfl)
  have h2' : n.length = o.length := by omega
  have hno : ¬ (o = [] ∨ n.length ≠ o.length) := by rintro (h | h); exact h1 h; exact h h2'
  have ho0 : 0 < o.length := List.length_pos_iff.2 h1
  have e1 : swS s o n = swG o n 0 s := if_neg hno
  have e2 : cnS s o n = cnG o 0 s := if_neg hno
  rw [e1, e2]
  have hcl := cnG_le (o := o) s 0
  refine runE ?_
  refine cFs ?_
  refine efg [(0, str s), (1, str o), (2, str n)] [] (fun ρ => ?_)
  refine sg ?_
  refine cvSB2 (fun bb c cur fr q1 q2 q3 q4 q5 => ?_) (show s.length ≤ maxLen by unfold maxLen; omega)
  refine runE ?_
  refine sgE ?_
  refine sqJ (σ := Array Value × Nat × Str) (fun t => [(9, i64 t.2.1), (8, .slice (some ⟨bb, 0, none⟩) s.length c)]) (fun _ => f) (fun t => [.blk bb (.cells t.1 5 fr)]) (fun t => t.2.1 = cnG o 0 s ∧ t.2.2 = swG o n 0 s ∧ t.2.2.length = s.length ∧ ∀ (j : Nat) (v : Value), (t.2.2.map byteV)[j]? = some v → t.1[j]? = some v) ?_ ?_
  case refine_2 =>
    rintro ⟨cur2, cnt, r⟩ ρ ⟨p1, p2, p3, p4⟩
    replace p1 : cnt = cnG o 0 s := p1
    replace p2 : r = swG o n 0 s := p2
    replace p3 : r.length = s.length := p3
    replace p4 : ∀ (j : Nat) (v : Value), (r.map byteV)[j]? = some v → cur2[j]? = some v := p4
    rw [← p1, ← p2]
    refine sg ?_
    refine cvBSb 0 r p4 p3.symm ?_
    refine runE ?_
    refine ewL (L' := []) (fun _ h => h.sublist (List.nil_sublist _)) ?_
    refine ew_ret ?_
    exact ret2 rfl
  refine sgE (bk ?_)
  refine lp (σ := Nat × Nat × Str × Array Value) (fun t => [(10, i64 t.1), (9, i64 t.2.1), (8, .slice (some ⟨bb, 0, none⟩) s.length c), (0, str s), (1, str o), (2, str n)]) (fun _ => f) (fun t => [.blk bb (.cells t.2.2.2 5 fr)]) (fun t => SwI s o n t.1 t.2.1 t.2.2.1 ∧ s.length ≤ t.2.2.2.size ∧ ∀ (j : Nat) (v : Value), ((t.2.2.1 ++ s.drop t.1).map byteV)[j]? = some v → t.2.2.2[j]? = some v) (fun t => s.length + 1 - t.1) (0, 0, [], cur) ⟨⟨Nat.zero_le _, rfl, rfl, by simp⟩, q3, q5⟩ ?_
  rintro ⟨i, cnt, done, cur2⟩ ρ ⟨hI, hsz, hcl2⟩
  replace hI : SwI s o n i cnt done := hI
  replace hsz : s.length ≤ cur2.size := hsz
  replace hcl2 : ∀ (j : Nat) (v : Value), ((done ++ s.drop i).map byteV)[j]? = some v → cur2[j]? = some v := hcl2
  show EW _ _ _ _ _ (ups ρ [(10, i64 i), (9, i64 cnt), (8, .slice (some ⟨bb, 0, none⟩) s.length c), (0, str s), (1, str o), (2, str n)]) f [.blk bb (.cells cur2 5 fr)]
  have hile := hI.le
  have hcn := hI.cn
  refine sq (sg ?_)
  refine add ((i + o.length : Nat) : Int) ?_
  refine leE (fun h => ?_) (fun h => ?_)
  case refine_2 =>
    refine cFx ?_
    obtain ⟨z1, z2⟩ := swG_short (n := n) h1 (s := s.drop i) (by rw [List.length_drop]; omega)
    have hsw := hI.sw
    rw [z1] at hsw
    refine jn (cur2, cnt, done ++ s.drop i) ⟨?_, hsw, ?_, hcl2⟩
    · show cnt = cnG o 0 s
      rw [← hcn, z2]; rfl
    · show (done ++ s.drop i).length = s.length
      rw [List.length_append, hI.len, List.length_drop]; omega
  have hr : i + o.length ≤ s.length := by omega
  have hmid := mid_pre hr
  have his : i < s.length := by omega
  refine cTs (bk ?_)
  refine sq (sg ?_)
  refine add ((i + o.length : Nat) : Int) ?_
  refine slSB (s := s) i (i + o.length) (by omega) hr ?_
  refine neSE (fun h3 => ?_) (fun h3 => ?_)
  · rw [decide_eq_false h3] at hmid
    have hI2 := hI.miss his hmid
    have hd : s.drop i = s[i] :: s.drop (i + 1) := List.drop_eq_getElem_cons his
    refine cT (sg ?_)
    refine addE ((i + 1 : Nat) : Int) ?_
    refine ew_exit ?_
    refine nxs (i + 1, cnt, done ++ [s[i]], cur2) ⟨hI2, hsz, fun j v hj => hcl2 j v ?_⟩ (by show s.length + 1 - (i + 1) < s.length + 1 - i; omega)
    rw [hd]
    have hj2 : (((done ++ [s[i]]) ++ s.drop (i + 1)).map byteV)[j]? = some v := hj
    rwa [List.append_assoc] at hj2
  · rw [decide_eq_true (Classical.not_not.1 h3)] at hmid
    have hI2 := hI.hit h1 h2' hr hmid
    have hln := hI.len
    refine cFs (sg ?_)
    refine slL i hile q1 ?_
    rw [if_neg (by omega)]
    refine cpS 0 (u := n) (o := 0 + i * 1) (cur := cur2) (fr := fr) (b := bb) (show n.length ≤ s.length - i by omega) (show 0 + i * 1 + n.length ≤ cur2.size by omega) (show 0 + i * 1 + n.length ≤ fr.1 by omega) (fun cur3 r1 r2 => ?_)
    refine runE ?_
    refine sg ?_
    refine addE ((cnt + 1 : Nat) : Int) ?_
    refine rg ?_
    refine addE ((i + o.length : Nat) : Int) ?_
    refine nxs (i + o.length, cnt + 1, done ++ n, cur3) ⟨hI2, by show s.length ≤ cur3.size; rw [r1]; exact hsz, fun j v hj => ?_⟩ (by show s.length + 1 - (i + o.length) < s.length + 1 - i; omega)
    show cur3[j]? = some v
    have hj2 : ((done ++ n ++ s.drop (i + o.length)).map byteV)[j]? = some v := hj
    rw [r2 j]
    by_cases hin : 0 + i * 1 ≤ j ∧ j < 0 + i * 1 + n.length
    · rw [if_pos hin]
      rw [List.map_append, List.map_append, List.append_assoc, List.getElem?_append_right (by rw [List.length_map]; omega), List.length_map, List.getElem?_append_left (by rw [List.length_map]; omega)] at hj2
      rw [show j - (0 + i * 1) = j - done.length by omega]
      exact hj2
    · rw [if_neg hin]
      refine hcl2 j v ?_
      rw [List.map_append] at hj2 ⊢
      by_cases hlt : j < done.length
      · rw [List.getElem?_append_left (by rw [List.length_map]; omega)]
        rw [List.map_append, List.append_assoc, List.getElem?_append_left (by rw [List.length_map]; omega)] at hj2
        exact hj2
      · rw [List.getElem?_append_right (by rw [List.length_map]; omega), List.length_map]
        rw [List.map_append, List.append_assoc, List.getElem?_append_right (by rw [List.length_map]; omega), List.length_map, List.getElem?_append_right (by rw [List.length_map]; omega), List.length_map] at hj2
        rw [List.map_drop] at hj2 ⊢
        rw [List.getElem?_drop] at hj2 ⊢
        rw [show i + (j - done.length) = i + o.length + (j - done.length - n.length) by omega]
        exact hj2
theorem ref25Count {w : World} {f : View} (hv : On f w) {u : Str} (hul : u.length ≤ LB) {A : Option Addr} {c : Nat} {a : List Item} (ha : Sl f A c a) (hr : Room a) :
    Con Tryz.prog 16 [.slice A a.length c, str u] w (Ret w f fun _ v => v = i64 (cntI u a : Nat)) := by
  refine enterC hv Tryz.call16 Tryz.func16 ?_
  have hlim := ha.len_lt
  refine sgE (sgE ?_)
  refine sqJ (σ := View) (fun _ => [(5, i64 (cntI u a : Nat))]) (fun g => g) (fun _ => []) (fun _ => True) ?_ ?_
  case refine_2 =>
    rintro g ρ _
    refine sgE ?_
    refine ew_ret ?_
    exact ret1 rfl
  refine sgE (bk ?_)
  refine lp (σ := Nat × View) (fun t => [(6, i64 t.1), (0, .slice A a.length c), (5, i64 (cntI u (a.take t.1) : Nat)), (1, str u)]) (fun t => t.2) (fun _ => []) (fun t => t.1 ≤ a.length ∧ Sub f t.2) (fun t => a.length - t.1) (0, f) ⟨Nat.zero_le _, Sub.refl _⟩ ?_
  rintro ⟨k, g⟩ ρ ⟨hk, hsg⟩
  replace hk : k ≤ a.length := hk
  replace hsg : Sub f g := hsg
  show EW _ _ _ _ _ (ups ρ [(6, i64 k), (0, .slice A a.length c), (5, i64 (cntI u (a.take k) : Nat)), (1, str u)]) g []
  refine sq (sg ?_)
  refine ltE (fun h => ?_) (fun h => ?_)
  case refine_2 =>
    refine cFx ?_
    have e : k = a.length := by omega
    subst e
    exact jn g trivial (ha := ⟨by show Value.int _ _ = Value.int _ _; rw [List.take_length], trivial⟩)
  have h1 : k < a.length := by omega
  have hst := cntI_take (u := u) h1
  have hle := cntI_le (u := u) (hr.take k).2
  have hle2 : (a.take k).length ≤ 1000 := (hr.take k).1
  obtain ⟨htl, hdl⟩ := hr.2 _ (List.getElem_mem h1)
  obtain ⟨b1, o1, A3, c3, A4, c4, rfl, hc1, hn1, hr1, ht1⟩ := (ha.mono hsg).item h1
  have hcn : cntI u (a.take k) ≤ 1001000000 := by omega
  generalize cntI u (a.take k) = N at hst hcn
  generalize a[k] = x at hst htl hdl hc1 hn1 hr1 ht1
  refine cTs (sq (bk ?_))
  refine sgE (bk ?_)
  refine lp (σ := Nat × View) (fun t => [(7, i64 t.1), (6, i64 k), (0, .slice (some ⟨b1, o1, none⟩) a.length c), (5, i64 (N + cntT u (x.tree.take t.1) : Nat)), (1, str u)]) (fun t => t.2) (fun _ => []) (fun t => t.1 ≤ x.tree.length ∧ Sub g t.2) (fun t => x.tree.length - t.1) (0, g) ⟨Nat.zero_le _, Sub.refl _⟩ ?_
  rintro ⟨j, g3⟩ ρ ⟨hj, hs3⟩
  replace hj : j ≤ x.tree.length := hj
  replace hs3 : Sub g g3 := hs3
  show EW _ _ _ _ _ (ups ρ [(7, i64 j), (6, i64 k), (0, .slice (some ⟨b1, o1, none⟩) a.length c), (5, i64 (N + cntT u (x.tree.take j) : Nat)), (1, str u)]) g3 []
  refine sq (sg ?_)
  refine ix k h1 ?_
  refine ldv (Sub.cell hs3 hc1.2.2.1) ?_
  refine ltE (fun h => ?_) (fun h => ?_)
  case refine_2 =>
    refine cFx ?_
    have e : j = x.tree.length := by omega
    subst e
    refine rg ?_
    refine addE ((k + 1 : Nat) : Int) ?_
    refine nxs (k + 1, g3) ⟨h1, hsg.trans hs3⟩ (by show a.length - (k + 1) < a.length - k; omega) (ha := ⟨rfl, rfl, ?_, rfl, trivial⟩)
    show i64 _ = i64 (cntI u (a.take (k + 1)) : Nat)
    rw [hst, List.take_length]
  have h2 : j < x.tree.length := by omega
  have hst2 := cntT_take (u := u) h2
  have hle3 := cntT_le (u := u) (t := x.tree.take j) fun z hz => hdl z (List.mem_of_mem_take hz)
  have hle4 : (x.tree.take j).length ≤ 1000 := by rw [List.length_take]; omega
  obtain ⟨b2, o2, rfl, hc2, hn2⟩ := (ht1.mono hs3).node h2
  have hd2 := hdl _ (List.getElem_mem h2)
  have hM : cntT u (x.tree.take j) ≤ 1001000 := by omega
  generalize cntT u (x.tree.take j) = M at hst2 hM
  generalize x.tree[j] = z at hst2 hc2 hn2 hd2
  have hpl := places_len z.data u
  refine cTs (sq (bk (rg ?_)))
  refine ix k h1 ?_
  refine ldv (Sub.cell hs3 hc1.2.2.1) ?_
  refine ix j h2 ?_
  refine ldv hc2.2.2.1 ?_
  refine callM0 (vs := [str z.data, str u]) [] (fun w hon hgi => ref8Places hon (by omega) hul) (fun v g5 L' hs5 hR => ?_)
  obtain ⟨A5, c5, rfl, rfl⟩ := hR
  refine add ((N + M + (placesI z.data u).length : Nat) : Int) ?_ (hr := by omega)
  refine dropH ?_
  refine runE ?_
  refine rg ?_
  refine addE ((j + 1 : Nat) : Int) ?_
  refine nxs (j + 1, g5) ⟨h2, hs3.trans hs5⟩ (by show x.tree.length - (j + 1) < x.tree.length - j; omega) (ha := ⟨rfl, rfl, rfl, ?_, rfl, trivial⟩)
  show i64 _ = i64 (N + cntT u (x.tree.take (j + 1)) : Nat)
  rw [hst2, Nat.add_assoc]
end Go.Hog
