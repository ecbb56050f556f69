/- Contracts: what is lent, and whether it is kept; chapter 8 awake. -/
import Derived.Test.YtidhmfmbifdbkaaF33
import Derived.Test.YtidhmfmbifdbkaaE22
set_option linter.unusedVariables false
set_option linter.unusedSimpArgs false
set_option maxRecDepth 100000
set_option maxHeartbeats 1000000
namespace Go.Hog
open Go.RowKit Rp Go.Proofs
section
variable {P : Program} {n : Nat} {B : Bs} {f : View} {L : List HE} {ρ : Env} {Q : Post} {K : Kon} {ops : Array Oper} {m : Md} {l l0 : List Oper} {ρ0 : Env}
variable {d : Nat} {x y : Operand} {t ty e : TypeId} {pos : String} {af : Array Edge} {gd : Option (Nat × Bool)} {b o : Nat} {v : Value} {vs cs : List Value}
/-- 'append(s, x...)' of what stands in the view, where there is room. -/
theorem appVF (i : Nat) {s : Operand} {g : Nat} {A2 : Option Addr} {nn c mm c2 sz : Nat} {xs news : List Value} (hl : news.length = mm * sz) (hnews : 0 < mm → ∃ b o, A2 = some ⟨b, o, none⟩ ∧ Cells f b o news) (h1 : ∀ u ∈ news, u.oneCell' = true) (hroom : nn + mm ≤ c)
    (k : RW .s P n B ops K l (up ρ d (.slice (some ⟨g, 0, none⟩) (nn + mm) c)) f (L.set i (.row (some ⟨g, 0, none⟩) (nn + mm) c e sz (xs ++ news))))
    (hrun : runP P ops l0 ρ0 = (⟨some d, .call ⟨.builtin .append, ⟨[s, x]⟩, ⟨[t, t]⟩⟩, ty, pos, af, gd⟩ :: l, ρ) := by rfl) (hg : wantedE ops ρ ⟨some d, .call ⟨.builtin .append, ⟨[s, x]⟩, ⟨[t, t]⟩⟩, ty, pos, af, gd⟩ = true := by rfl)
    (hs : ev ρ s = .slice (some ⟨g, 0, none⟩) nn c := by rfl) (hx : ev ρ x = .slice A2 mm c2 := by rfl) (hi : L[i]? = some (.row (some ⟨g, 0, none⟩) nn c e sz xs) := by rfl) (he : elemT P t = some e := by rfl) (hz : sizeT P e = some sz := by rfl) : RW .s P n B ops K l0 ρ0 f L := by
  refine rw_runP l0 ρ0 ?_
  rw [hrun]
  refine sw_do hg fun w hw => ?_
  have hown : w.ownsRow 0 e sz (.slice (some ⟨g, 0, none⟩) nn c) nn xs := hw.own (.row (some ⟨g, 0, none⟩) nn c e sz xs) (List.mem_of_getElem? hi)
  have key : ∃ w', (Builtin.append_ #[t, t] ty #[.slice (some ⟨g, 0, none⟩) nn c, .slice A2 mm c2]).run P w = .ok (.slice (some ⟨g, 0, none⟩) (nn + mm) c) w' ∧ w'.ownsRow 0 e sz (.slice (some ⟨g, 0, none⟩) (nn + mm) c) (nn + mm) (xs ++ news) ∧ w.grownBy w' (some g) := by
    rcases Nat.eq_zero_or_pos mm with h0 | h0
    · subst h0
      have hn : news = [] := List.eq_nil_of_length_eq_zero (by simpa using hl)
      subst hn
      refine ⟨w, ?_, by simpa using hown, ⟨rfl, rfl, rfl, Nat.le_refl _, fun _ _ _ => rfl⟩⟩
      have hle : nn + 0 ≤ c := by omega
      cases A2 <;> simp [Builtin.append_, run_und (und_elemT he), run_sizeT hz, Builtin.lenOf, Builtin.firstCells, loadCells, loadCellsFrom, hle, storeCells, hroom, show nn ≤ c by omega]
    · obtain ⟨b2, o2, rfl, hc⟩ := hnews h0
      unfold sizeT at hz
      obtain ⟨ti, hi2, hsz⟩ := Option.map_eq_some_iff.1 hz
      exact run_append_fits (P := P) w 0 t ty e ti sz (und_elemT he) hi2 hsz g nn c xs hown ⟨b2, o2, none⟩ mm c2 news hl (fun j u hj => by rw [add_plain]; exact hw.on.cell (hc.get j u hj)) h1 hroom
  obtain ⟨w', h2, h3, h4⟩ := key
  refine ⟨_, w', ?_, .inl ⟨_, rfl, f, _, hw.appended hi h3 h4 (.inl rfl), k⟩⟩
  simp only [execOp, resolve, invoke, builtin, Sem.run_bind, Sem.run_pure, Result.andThen_ok, List.map_toArray, List.map_cons, List.map_nil, hs, hx, h2]
end
def lent4 : Str := [108, 101, 110, 116]
/-- A copy with three marked places behind it. -/
structure LentC (l : List Str) (c : Nat) (cs : List Value) : Prop where
  head : cs.take l.length = l.map str
  room : l.length + 3 ≤ c
  top : c ≤ maxLen
  mark : ∀ j, j < 3 → cs[l.length + j]? = some (str lent4)
theorem LentC.sl {g : View} {b c : Nat} {l : List Str} {cs : List Value} (h : LentC l c cs) (hs : (HE.blk b (.cells ⟨cs⟩ 9)).seen g) (hb : ∀ s ∈ l, s.length ≤ LB) (hl : l.length ≤ LB) : Sl g (some ⟨b, 0, none⟩) c l :=
  Sl.ofTexts (e := 9) ⟨by simp, .inr ⟨b, ⟨cs⟩, rfl, hs, by have := h.room; omega, h.top, by rw [Nat.mul_one]; exact h.head⟩⟩ rfl hb hl
theorem texts_cells {g : View} {a : List Str} {xs : List Value} (hxs : Rw g a xs) : xs = a.map str := by
  apply List.ext_getElem?
  intro j
  by_cases hj : j < a.length
  · obtain ⟨cs, hcs', hc2⟩ := hxs.cell hj
    have h1 := hc2 0 (by decide)
    rw [hcs'.1] at h1
    simp only [List.getElem?_map, List.getElem?_eq_getElem hj]
    have h2 : sz Str = 1 := rfl
    rw [h2, Nat.mul_one, Nat.add_zero] at h1
    exact h1
  · have h2 : xs.length = a.length * 1 := hxs.len
    rw [List.getElem?_eq_none (by omega), List.getElem?_eq_none (by simp; omega)]
theorem lendTexts {w : World} {f : View} (hv : On f w) {A : Option Addr} {c : Nat} {a : List Str} (ha : Sl f A c a) (hsm : a.length ≤ 1000000) :
    Con Try.prog 12 [.slice A a.length c] w (RetM w f [] fun _ L' v => ∃ b c' cs, v = .slice (some ⟨b, 0, none⟩) a.length c' ∧ L' = [.blk b (.cells ⟨cs⟩ 9)] ∧ LentC a c' cs) := by
  refine enterM (L := []) hv (Given.nil _ _) Try.call12 Try.func12 ?_
  refine sgE ?_
  refine sg ?_
  refine add ((a.length + 3 : Nat) : Int) ?_
  refine mkz (by_ := 16) (a.length + 3) ⟨by omega, by omega⟩ fun b3 => ?_
  refine runE ?_
  refine sg ?_
  obtain ⟨xs, hxs, hcs⟩ := ha.cells
  have e := texts_cells hxs
  subst e
  refine appVF 0 (nn := 0) (mm := a.length) (c := a.length + 3) hxs.len hcs hxs.ones (by omega) ?_
  refine runE ?_
  refine efg [(3, .slice (some ⟨b3, 0, none⟩) (0 + a.length) (a.length + 3)), (0, .slice A a.length c)] [.row (some ⟨b3, 0, none⟩) (0 + a.length) (a.length + 3) 9 1 ([] ++ a.map str)] fun ρ => ?_
  refine eblk 0 fun cur hcur hc1 hc2 hc3 => ?_
  refine sg ?_
  refine add ((a.length + 3 : Nat) : Int) ?_
  refine slLH (o := 0) (sz := 1) a.length (a.length + 3) (by omega) (by omega) (Nat.le_refl _) ?_
  refine runE ?_
  have hcl : cur.toList.length = a.length + 3 := by rw [Array.length_toList]; omega
  have hct : cur.toList.take a.length = a.map str := by
    have h := hcur
    rw [show (0 + a.length) * 1 = a.length by omega, List.nil_append] at h
    exact h
  refine efg [(4, .slice (some ⟨b3, 0 + a.length * 1, none⟩) (a.length + 3 - a.length) (a.length + 3 - a.length)), (3, .slice (some ⟨b3, 0, none⟩) (0 + a.length) (a.length + 3))] [.blk b3 (.cells ⟨cur.toList⟩ 9)] fun ρ => ?_
  refine sqJ (σ := List Value) (fun _ => [(3, .slice (some ⟨b3, 0, none⟩) (0 + a.length) (a.length + 3))]) (fun _ => f) (fun cs => [.blk b3 (.cells ⟨cs⟩ 9)]) (fun cs => LentC a (a.length + 3) cs) ?_ ?_
  case refine_2 =>
    rintro cs ρ hL
    refine sgE ?_
    refine ew_ret ?_
    exact ret1M (show ∃ b c' cs0, Value.slice (some ⟨b3, 0, none⟩) (0 + a.length) (a.length + 3) = .slice (some ⟨b, 0, none⟩) a.length c' ∧ [HE.blk b3 (.cells ⟨cs⟩ 9)] = [.blk b (.cells ⟨cs0⟩ 9)] ∧ LentC a c' cs0 from ⟨b3, a.length + 3, cs, by rw [Nat.zero_add], rfl, hL⟩)
  refine sgE (bk ?_)
  refine lp (σ := Nat × List Value) (fun s => [(5, i64 s.1), (4, .slice (some ⟨b3, 0 + a.length * 1, none⟩) (a.length + 3 - a.length) (a.length + 3 - a.length)), (3, .slice (some ⟨b3, 0, none⟩) (0 + a.length) (a.length + 3))]) (fun _ => f) (fun s => [.blk b3 (.cells ⟨s.2⟩ 9)]) (fun s => s.1 ≤ 3 ∧ s.2.length = a.length + 3 ∧ s.2.take a.length = a.map str ∧ ∀ j, j < s.1 → s.2[a.length + j]? = some (str lent4)) (fun s => 3 - s.1) (0, cur.toList) ⟨Nat.zero_le _, hcl, hct, fun j hj => by simp at hj⟩ ?_
  rintro ⟨k, cs⟩ ρ ⟨hk, h1, h2, h3⟩
  replace hk : k ≤ 3 := hk
  replace h1 : cs.length = a.length + 3 := h1
  replace h2 : cs.take a.length = a.map str := h2
  replace h3 : ∀ j, j < k → cs[a.length + j]? = some (str lent4) := h3
  show EW _ _ _ _ _ (ups ρ [(5, i64 k), (4, .slice (some ⟨b3, 0 + a.length * 1, none⟩) (a.length + 3 - a.length) (a.length + 3 - a.length)), (3, .slice (some ⟨b3, 0, none⟩) (0 + a.length) (a.length + 3))]) f [.blk b3 (.cells ⟨cs⟩ 9)]
  refine sq (sg ?_)
  refine ltE (fun h => ?_) (fun h => ?_)
  case refine_2 =>
    refine cFx ?_
    exact jn cs ⟨h2, Nat.le_refl _, by omega, fun j hj => h3 j (by omega)⟩
  have hk3 : k < 3 := by omega
  have q3 : Nat.ble (0 + a.length * 1 + k * 1 + 1) cs.length = true := by rw [Nat.ble_eq]; omega
  have ho : 0 + a.length * 1 + k * 1 = a.length + k := by omega
  have hput : putL cs (0 + a.length * 1 + k * 1) [str lent4] = cs.set (a.length + k) (str lent4) := by rw [ho, putL1 _ _ _ (by omega)]
  refine cTs (sq (bk ?_))
  refine rg ?_
  refine ix k (show k < a.length + 3 - a.length by omega) ?_
  refine st 0 (o := 0 + a.length * 1 + k * 1) (vs := [str lent4]) (cs := cs) (cs' := putL cs (0 + a.length * 1 + k * 1) [str lent4]) ?_ (hl := q3)
  refine rw_end ?_
  refine rg ?_
  refine addE ((k + 1 : Nat) : Int) ?_
  refine nxs (k + 1, cs.set (a.length + k) (str lent4)) ⟨hk3, by rw [List.length_set]; exact h1, ?_, fun j hj => ?_⟩ (by show 3 - (k + 1) < 3 - k; omega) (hh := by show [HE.blk _ (.cells ⟨cs.set _ _⟩ _)] = _; rw [← hput]; rfl)
  · show (cs.set (a.length + k) (str lent4)).take a.length = _
    rw [List.take_set_of_le (by omega)]; exact h2
  · show (cs.set (a.length + k) (str lent4))[a.length + j]? = _
    rw [List.getElem?_set]
    by_cases e : k = j
    · subst e; rw [if_pos rfl, if_pos (by omega)]
    · rw [if_neg (by omega)]
      exact h3 j (by have : j < k + 1 := hj; omega)
theorem sameT {w : World} {f : View} (hv : On f w) {A B : Option Addr} {c c2 : Nat} {a : List Str} (ha : Sl f A c a) (hb : Sl f B c2 a) :
    Con Try.prog 16 [.slice A a.length c, .slice B a.length c2] w (Ret w f fun _ v => v = .bool true) := by
  have := sameTexts hv ha hb
  rwa [decide_eq_true rfl] at this
theorem keptTexts {w : World} {g : View} (hv : On g w) {b c : Nat} {a : List Str} {cs : List Value} (hL : LentC a c cs) (hs : (HE.blk b (.cells ⟨cs⟩ 9)).seen g) {A2 : Option Addr} {c2 : Nat} (ha : Sl g A2 c2 a) (hsm : a.length ≤ 1000000) (hb : ∀ s ∈ a, s.length ≤ LB) :
    Con Try.prog 22 [.slice (some ⟨b, 0, none⟩) a.length c, .slice A2 a.length c2] w (Ret w g fun _ v => v = .bool true) := by
  refine enterC hv Try.call22 Try.func22 ?_
  have hr := hL.room
  refine sgE ?_
  refine sg ?_
  refine add ((a.length + 3 : Nat) : Int) ?_
  refine slLH (o := 0) (sz := 1) a.length (a.length + 3) (by omega) (by omega) hL.room ?_
  refine runE ?_
  refine sqJ (σ := Unit) (fun _ => [(0, .slice (some ⟨b, 0, none⟩) a.length c), (1, .slice A2 a.length c2)]) (fun _ => g) (fun _ => []) (fun _ => True) ?_ ?_
  case refine_2 =>
    rintro ⟨⟩ ρ _
    refine sg ?_
    refine callV (.bool true) (vs := [.slice (some ⟨b, 0, none⟩) a.length c, .slice A2 a.length c2]) (fun w g' hs' _ hon => sameT hon ((hL.sl hs hb (by unfold LB; omega)).mono hs') (ha.mono hs')) ?_
    refine runE ?_
    refine ew_ret ?_
    exact ret1 rfl
  refine sgE (bk ?_)
  refine lpn 3 (fun k => [(6, i64 k), (5, .slice (some ⟨b, 0 + a.length * 1, none⟩) (a.length + 3 - a.length) (c - a.length)), (0, .slice (some ⟨b, 0, none⟩) a.length c), (1, .slice A2 a.length c2)]) (fun _ => True) trivial ?_
  intro k ρ hk _
  refine sq (sg ?_)
  refine ltE (fun h => ?_) (fun h => ?_)
  case refine_2 =>
    refine cFx ?_
    exact jn () trivial
  have hk3 : k < 3 := by omega
  have hcell : g.cell? ⟨b, 0 + a.length * 1 + k * 1, none⟩ = some (str lent4) := by
    rw [show 0 + a.length * 1 + k * 1 = a.length + k by omega]
    exact blk_seen hs (hL.mark k hk3)
  refine cTs (sq (bk (sg ?_)))
  refine ix k (show k < a.length + 3 - a.length by omega) ?_
  refine ldv hcell ?_
  refine neSE (fun h => absurd rfl h) (fun _ => ?_)
  refine cFs (rg ?_)
  refine addE ((k + 1 : Nat) : Int) ?_
  exact nx trivial
theorem sameI {w : World} {f : View} (hv : On f w) {A B : Option Addr} {c c2 : Nat} {a : List Int} (ha : Sl f A c a) (hb : Sl f B c2 a) :
    Con Try.prog 9 [.slice A a.length c, .slice B a.length c2] w (Ret w f fun _ v => v = .bool true) := by
  have := sameInts hv ha hb
  rwa [decide_eq_true rfl] at this
theorem Sl.ofInts {g : View} {A : Option Addr} {c : Nat} {l : List Int} (h : (iRow A c l).seen g) (hb : ∀ n ∈ l, -9223372036854775808 ≤ n ∧ n ≤ 9223372036854775807) (hl : l.length ≤ LB) : Sl g A c l :=
  Sl.ofRow h rfl rfl hl fun j hj => by
    show ((l.map numV).drop (j * 1)).take 1 = [.int .i64 l[j]] ∧ _
    rw [Nat.mul_one, List.drop_eq_getElem_cons (by simpa using hj)]
    exact ⟨by simp [numV], hb _ (List.getElem_mem hj)⟩
def aw8n : List Str := [[48, 49, 50, 51, 52, 53, 54, 97, 45, 120], [49, 49, 50, 51, 52, 53, 54, 97, 45, 120]]
def aw8s : Str := [46, 46, 48, 49, 50, 51, 52, 53, 54, 97, 46, 46]
theorem aw8_p : placesI [97, 97, 97] [97, 97] = [0, 1] := by decide +kernel
theorem aw8_t : textL aw8s aw8n = [[48, 49, 50, 51, 52, 53, 54, 97, 45, 120]] := by decide +kernel
theorem awake8 {w : World} {f : View} (hv : On f w) (hm : ML f) : Con Try.prog 7 [] w (Ret w f fun _ v => v = .bool true) := by
  refine enterC hv Try.call7 Try.func7 ?_
  refine sgE ?_
  refine sg ?_
  refine callM0 (vs := [str [97, 97, 97], str [97, 97]]) [] (fun w hon hgi => scanPlaces hon hm (by decide)) (fun v g L' hs hR => ?_)
  rw [aw8_p] at hR
  obtain ⟨A', c', rfl, rfl⟩ := hR
  refine bsl fun b2 => ?_
  refine callV (.bool true) (vs := [.slice A' ([0, 1] : List Int).length c', .slice (some ⟨b2, 0, none⟩) ([0, 1] : List Int).length 2]) (fun w g' hs' hsn hon => ?_) ?_
  · have h1 : ∀ n ∈ ([0, 1] : List Int), -9223372036854775808 ≤ n ∧ n ≤ 9223372036854775807 := by decide
    exact sameI hon (Sl.ofInts (hsn _ (.tail _ (.head _))) h1 (by decide)) (Sl.ofInts (l := [0, 1]) (hsn _ (.head _)) h1 (by decide))
  refine callV (.bool (decide (hasL [120, 97, 98] [97, 98]))) (vs := [str [120, 97, 98], str [97, 98]]) (fun w g' hs' hsn hon => scanHas hon ((hm.mono hs).mono hs') (by decide)) ?_
  rw [show decide (hasL [120, 97, 98] [97, 98]) = true by decide +kernel]
  refine callV (.bool (decide (hasL [97] []))) (vs := [str [97], str []]) (fun w g' hs' hsn hon => scanHas hon ((hm.mono hs).mono hs') (by decide)) ?_
  rw [show decide (hasL [97] []) = false by decide +kernel]
  refine bsl fun b12 => ?_
  refine callMo (vs := [str aw8s, .slice (some ⟨b12, 0, none⟩) aw8n.length 2]) (R := fun L' v => ∃ A' c', v = .slice A' (textL aw8s aw8n).length c' ∧ L' = [sRow A' c' (textL aw8s aw8n)]) (fun w g' hs' hsn hon => scanText hon ((hm.mono hs).mono hs') (by decide) (Sl.ofTexts (l := aw8n) (hsn _ (.head _)) rfl (by decide) (by decide)) (by decide)) (fun v L' hR => ?_)
  rw [aw8_t] at hR
  obtain ⟨A3, c3, rfl, rfl⟩ := hR
  refine bsl fun b14 => ?_
  refine callV (.bool true) (vs := [.slice A3 ([[48, 49, 50, 51, 52, 53, 54, 97, 45, 120]] : List Str).length c3, .slice (some ⟨b14, 0, none⟩) ([[48, 49, 50, 51, 52, 53, 54, 97, 45, 120]] : List Str).length 1]) (fun w g' hs' hsn hon => sameT hon (Sl.ofTexts (hsn _ (.tail _ (.head _))) rfl (by decide) (by decide)) (Sl.ofTexts (l := [[48, 49, 50, 51, 52, 53, 54, 97, 45, 120]]) (hsn _ (.head _)) rfl (by decide) (by decide))) ?_
  refine runE ?_
  refine ew_ret ?_
  exact ret1 rfl
end Go.Hog
