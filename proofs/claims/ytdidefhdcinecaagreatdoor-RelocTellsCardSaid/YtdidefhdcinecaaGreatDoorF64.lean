/- Contracts: reloc.Swap, reloc.Count. -/
import Derived.Test.YtdidefhdcinecaaGreatDoorE35
import Derived.Test.YtdidefhdcinecaaGreatDoorS31
import Derived.Test.YtdidefhdcinecaaGreatDoorF31
set_option linter.unusedVariables false
set_option linter.unusedSimpArgs false
set_option maxRecDepth 100000
set_option maxHeartbeats 1000000
namespace Go.Hog
open Go.RowKit Rp Go.Proofs
theorem relocSwap {w : World} {f : View} (hv : On f w) (hm : ML f) {s o n : Str} (hs : s.length ≤ 1000000) :
    Con Tryz.prog 9 [str s, str o, str n] w (Ret w f fun _ v => v = .tuple #[str (swS s o n), i64 (cnS s o n : Nat)]) := by
  refine enterC hv Tryz.call9 Tryz.func9 ?_
  refine sgE (sq (sg ?_))
  refine eqS (fun h1 => ?_) (fun h1 => ?_)
  · refine runE ?_
    refine cT (sgE ?_)
    refine ew_ret ?_
    exact ret2 (show Value.tuple #[str s, i64 0] = _ by unfold swS cnS; rw [if_pos (.inl h1), if_pos (.inl h1)]; rfl)
  refine neI (fun h2 => ?_) (fun h2 => ?_)
  · have h2' : n.length ≠ o.length := fun e => h2 (by rw [e])
    refine runE ?_
    refine cT (sgE ?_)
    refine ew_ret ?_
    exact ret2 (show Value.tuple #[str s, i64 0] = _ by unfold swS cnS; rw [if_pos (.inr h2'), if_pos (.inr h2')]; rfl)
  have h2' : n.length = o.length := by omega
  have hno : ¬ (o = [] ∨ n.length ≠ o.length) := by rintro (h | h); exact h1 h; exact h h2'
  have hol : 0 < o.length := List.length_pos_iff.2 h1
  have e1 : swS s o n = Lib.replaceAll s o n := by unfold swS; rw [if_neg hno, replaceAll_sw h1]
  have e2 : cnS s o n = Lib.count s o := by unfold cnS; rw [if_neg hno, count_cnG h1]
  rw [e1, e2]
  have hle : s.length + Lib.count s o * n.length ≤ 140737488355328 := by
    have := Lib.countB_mul_le ⟨⟨o⟩⟩ hol s.length ⟨⟨s⟩⟩ (Nat.le_refl _)
    have h3 : Lib.count s o * o.length ≤ s.length := this
    rw [h2']
    omega
  refine runE ?_
  refine cFs (sg ?_)
  refine callV (str (Lib.replaceAll s o n)) (vs := [str s, str o, str n]) (fun w g h1' h2 h3 => replaceAllC h3 (hm.mono h1') (by omega) hol hle) ?_
  refine callV (i64 (Lib.count s o : Nat)) (vs := [str s, str o]) (fun w g h1' h2 h3 => countC h3 (hm.mono h1') (by omega) hol) ?_
  refine runE ?_
  refine ew_ret ?_
  exact ret2 rfl
/-- How much there is. -/
def Room (a : List Item) : Prop := a.length ≤ 1000 ∧ ∀ x ∈ a, x.tree.length ≤ 1000 ∧ ∀ z ∈ x.tree, z.data.length ≤ 1000
theorem cntT_le {u : Str} {t : List Node} (h : ∀ z ∈ t, z.data.length ≤ 1000) : cntT u t ≤ t.length * 1001 := by
  induction t with
  | nil => simp [cntT]
  | cons z t ih =>
    have h1 := places_len z.data u
    have h2 := h z (.head _)
    have h3 := ih fun y hy => h y (.tail _ hy)
    show (placesI z.data u).length + cntT u t ≤ (t.length + 1) * 1001
    omega
theorem cntI_le {u : Str} {a : List Item} (h : ∀ x ∈ a, x.tree.length ≤ 1000 ∧ ∀ z ∈ x.tree, z.data.length ≤ 1000) : cntI u a ≤ a.length * 1001000 := by
  induction a with
  | nil => simp [cntI]
  | cons x a ih =>
    have h1 := cntT_le (u := u) (h x (.head _)).2
    have h2 := (h x (.head _)).1
    have h3 := ih fun y hy => h y (.tail _ hy)
    show cntT u x.tree + cntI u a ≤ (a.length + 1) * 1001000
    omega
theorem cntI_take {u : Str} {a : List Item} {k : Nat} (h : k < a.length) : cntI u (a.take (k + 1)) = cntI u (a.take k) + cntT u a[k].tree := by
  unfold cntI
  rw [(List.take_append_getElem h).symm, List.map_append, List.sum_append]
  simp
theorem cntT_take {u : Str} {t : List Node} {k : Nat} (h : k < t.length) : cntT u (t.take (k + 1)) = cntT u (t.take k) + (placesI t[k].data u).length := by
  unfold cntT
  rw [(List.take_append_getElem h).symm, List.map_append, List.sum_append]
  simp
theorem Room.take {a : List Item} (h : Room a) (k : Nat) : Room (a.take k) := ⟨by rw [List.length_take]; have := h.1; omega, fun x hx => h.2 x (List.mem_of_mem_take hx)⟩
theorem relocCount {w : World} {f : View} (hv : On f w) (hm : ML f) {u : Str} {A : Option Addr} {c : Nat} {a : List Item} (ha : Sl f A c a) (hr : Room a) :
    Con Tryz.prog 15 [.slice A a.length c, str u] w (Ret w f fun _ v => v = i64 (cntI u a : Nat)) := by
  refine enterC hv Tryz.call15 Tryz.func15 ?_
  have hlim := ha.len_lt
  refine sgE (sgE ?_)
  refine sqJ (σ := View) (fun _ => [(5, i64 (cntI u a : Nat))]) (fun g => g) (fun _ => []) (fun _ => True) ?_ ?_
  case refine_2 =>
    rintro g ρ _
    refine sgE ?_
    refine ew_ret ?_
    exact ret1 rfl
  refine sgE (bk ?_)
  refine lp (σ := Nat × View) (fun t => [(12, i64 t.1), (11, i64 (a.length : Nat)), (10, .slice A a.length c), (5, i64 (cntI u (a.take t.1) : Nat)), (1, str u)]) (fun t => t.2) (fun _ => []) (fun t => t.1 ≤ a.length ∧ Sub f t.2) (fun t => a.length - t.1) (0, f) ⟨Nat.zero_le _, Sub.refl _⟩ ?_
  rintro ⟨k, g⟩ ρ ⟨hk, hsg⟩
  replace hk : k ≤ a.length := hk
  replace hsg : Sub f g := hsg
  show EW _ _ _ _ _ (ups ρ [(12, i64 k), (11, i64 (a.length : Nat)), (10, .slice A a.length c), (5, i64 (cntI u (a.take k) : Nat)), (1, str u)]) g []
  refine sg ?_
  refine ltE (fun h => ?_) (fun h => ?_)
  case refine_2 =>
    refine sq (cFx ?_)
    have e : k = a.length := by omega
    subst e
    exact jn g trivial (ha := ⟨by show Value.int _ _ = Value.int _ _; rw [List.take_length], trivial⟩)
  have h1 : k < a.length := by omega
  have hst := cntI_take (u := u) h1
  have hle := cntI_le (u := u) (hr.take k).2
  have hle2 : (a.take k).length ≤ 1000 := (hr.take k).1
  obtain ⟨htl, hdl⟩ := hr.2 _ (List.getElem_mem h1)
  obtain ⟨b1, o1, A3, c3, A4, c4, rfl, hc1, hn1, hr1, ht1⟩ := (ha.mono hsg).item h1
  have hcn : cntI u (a.take k) ≤ 1001000000 := by omega
  generalize cntI u (a.take k) = N at hst hcn
  generalize a[k] = x at hst htl hdl hc1 hn1 hr1 ht1
  refine sq (cTs (sq (bk (sg ?_))))
  refine ix k h1 ?_
  refine ldvA hc1 ?_
  refine alloc fun b7 => ?_
  refine st 0 ?_
  refine rfrz 0 fun g2 hs2 hq => ?_
  have k2 : g2.cell? ⟨b7, 2, none⟩ = some (.slice A4 x.tree.length c4) := blk_seen hq
  refine runE ?_
  refine efg [(7, .pointer (some ⟨b7, 0, none⟩)), (12, i64 k), (11, i64 (a.length : Nat)), (10, .slice (some ⟨b1, o1, none⟩) a.length c), (5, i64 (N : Nat)), (1, str u)] [] (fun ρ => ?_)
  refine sg ?_
  refine ldv k2 ?_
  refine runE ?_
  have ht2 := ht1.mono hs2
  refine bk ?_
  refine lp (σ := Nat × View) (fun t => [(19, i64 t.1), (18, i64 (x.tree.length : Nat)), (17, .slice A4 x.tree.length c4), (12, i64 k), (11, i64 (a.length : Nat)), (10, .slice (some ⟨b1, o1, none⟩) a.length c), (5, i64 (N + cntT u (x.tree.take t.1) : Nat)), (1, str u)]) (fun t => t.2) (fun _ => []) (fun t => t.1 ≤ x.tree.length ∧ Sub g2 t.2) (fun t => x.tree.length - t.1) (0, g2) ⟨Nat.zero_le _, Sub.refl _⟩ ?_
  rintro ⟨j, g3⟩ ρ ⟨hj, hs3⟩
  replace hj : j ≤ x.tree.length := hj
  replace hs3 : Sub g2 g3 := hs3
  show EW _ _ _ _ _ (ups ρ [(19, i64 j), (18, i64 (x.tree.length : Nat)), (17, .slice A4 x.tree.length c4), (12, i64 k), (11, i64 (a.length : Nat)), (10, .slice (some ⟨b1, o1, none⟩) a.length c), (5, i64 (N + cntT u (x.tree.take j) : Nat)), (1, str u)]) g3 []
  refine sg ?_
  refine ltE (fun h => ?_) (fun h => ?_)
  case refine_2 =>
    refine sq (cFx ?_)
    have e : j = x.tree.length := by omega
    subst e
    refine rg ?_
    refine addE ((k + 1 : Nat) : Int) ?_
    refine nxs (k + 1, g3) ⟨h1, (hsg.trans hs2).trans hs3⟩ (by show a.length - (k + 1) < a.length - k; omega) (ha := ⟨rfl, rfl, rfl, ?_, rfl, trivial⟩)
    show i64 _ = i64 (cntI u (a.take (k + 1)) : Nat)
    rw [hst, List.take_length]
  have h2 : j < x.tree.length := by omega
  have hst2 := cntT_take (u := u) h2
  have hle3 := cntT_le (u := u) (t := x.tree.take j) fun z hz => hdl z (List.mem_of_mem_take hz)
  have hle4 : (x.tree.take j).length ≤ 1000 := by rw [List.length_take]; omega
  obtain ⟨b2, o2, rfl, hc2, hn2⟩ := (ht2.mono hs3).node h2
  have hd2 := hdl _ (List.getElem_mem h2)
  have hM : cntT u (x.tree.take j) ≤ 1001000 := by omega
  generalize cntT u (x.tree.take j) = M at hst2 hM
  generalize x.tree[j] = z at hst2 hc2 hn2 hd2
  refine sq (cTs (sq (bk (sg ?_))))
  refine ix j h2 ?_
  refine ldvA hc2 ?_
  refine alloc fun b9 => ?_
  refine st 0 ?_
  refine rfrz 0 fun g4 hs4 hq4 => ?_
  have k9 : g4.cell? ⟨b9, 2, none⟩ = some (str z.data) := blk_seen hq4
  refine runE ?_
  refine efg [(9, .pointer (some ⟨b9, 0, none⟩)), (19, i64 j), (18, i64 (x.tree.length : Nat)), (17, .slice (some ⟨b2, o2, none⟩) x.tree.length c4), (12, i64 k), (11, i64 (a.length : Nat)), (10, .slice (some ⟨b1, o1, none⟩) a.length c), (5, i64 (N + M : Nat)), (1, str u)] [] (fun ρ => ?_)
  have hpl := places_len z.data u
  refine rg ?_
  refine ldv k9 ?_
  refine callM0 (vs := [str z.data, str u]) [] (fun w hon hgi => scanPlaces hon (((hm.mono hsg).mono hs2).mono (hs3.trans hs4)) (by omega)) (fun v g5 L' hs5 hR => ?_)
  obtain ⟨A5, c5, rfl, rfl⟩ := hR
  refine add ((N + M + (placesI z.data u).length : Nat) : Int) ?_ (hr := by omega)
  refine dropH ?_
  refine runE ?_
  refine rg ?_
  refine addE ((j + 1 : Nat) : Int) ?_
  refine nxs (j + 1, g5) ⟨h2, (hs3.trans hs4).trans hs5⟩ (by show x.tree.length - (j + 1) < x.tree.length - j; omega) (ha := ⟨rfl, rfl, rfl, rfl, rfl, rfl, ?_, rfl, trivial⟩)
  show i64 _ = i64 (N + cntT u (x.tree.take (j + 1)) : Nat)
  rw [hst2, Nat.add_assoc]
end Go.Hog
