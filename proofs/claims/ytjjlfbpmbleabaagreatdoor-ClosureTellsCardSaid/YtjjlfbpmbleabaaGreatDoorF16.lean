/- Contracts: closure.Reach. -/
import Derived.Test.YtjjlfbpmbleabaaGreatDoorF15
import Derived.Test.YtjjlfbpmbleabaaGreatDoorS7
import Derived.Test.YtjjlfbpmbleabaaGreatDoorEY
set_option linter.unusedVariables false
set_option linter.unusedSimpArgs false
set_option maxRecDepth 100000
set_option maxHeartbeats 1000000
namespace Go.Hog
open Go.RowKit Rp Go.Proofs
def tt (_ : Str) : Value := .bool true
theorem mapF_tt (ks : List Str) (s : Str) : mapF ks (updF tt s (.bool true)) = mapF ks tt := List.map_congr_left fun u _ => by
  unfold updF tt
  split <;> rfl
def reachR (a : List Item) (S : List Str) (L' : List HE) (v : Value) : Prop := ∃ A c, v = .slice A (reachL a S).length c ∧ L' = [sRow A c (reachL a S)]
structure RS where
  found : List Str
  A6 : Option Addr
  c6 : Nat
  A : Option Addr
  Ax : Option Addr
  o : Nat
  c : Nat
  td : List Str
  xs : List Value
  g : View
structure RSI (a : List Item) (S : List Str) (f : View) (td : List Str) (s : RS) : Prop where
  sub : Sub f s.g
  ri : RI a S td s.found
  off : Off 1 s.A s.Ax s.o s.td.length s.c
  cut : s.xs.drop (s.o * 1) = s.td.map str
  small : s.td.length ≤ 1000 * s.found.length + S.length
def RS.slots (s : RS) (A : Option Addr) (n c bm : Nat) : List (Nat × Value) := [(7, .slice s.Ax s.td.length s.c), (6, .slice s.A6 s.found.length s.c6), (5, .map (some bm)), (0, .slice A n c)]
def RS.heap (s : RS) (bm : Nat) : List HE := [.mp bm (mapF s.found tt), sRow s.A6 s.c6 s.found, .row s.A (s.o + s.td.length) (s.o + s.c) 9 1 s.xs]
theorem closureReach {w : World} {f : View} (hv : On f w) {A A2 : Option Addr} {c c2 : Nat} {a : List Item} {S : List Str} (ha : Sl f A c a) (hfit : FitT a) (h12 : a.length ≤ 12) (hS : Sl f A2 c2 S) (hSl : S.length ≤ 1000) :
    Con Tryz.prog 9 [.slice A a.length c, .slice A2 S.length c2] w (RetM w f [] fun _ => reachR a S) := by
  refine enterM (L := []) hv (Given.nil _ _) Tryz.call9 Tryz.func9 ?_
  refine sgE ?_
  refine sg ?_
  refine mkmap fun bm => ?_
  refine runE ?_
  refine sgE ?_
  have hS2 : S.length ≤ 1000000 := by omega
  refine sqJ (σ := List Str × Option Addr × Nat × View) (fun s => [(6, .slice s.2.1 s.1.length s.2.2.1)]) (fun s => s.2.2.2) (fun s => [sRow s.2.1 s.2.2.1 s.1]) (fun s => RI a S [] s.1) ?_ ?_
  case refine_2 =>
    rintro ⟨found, A6, c6, g⟩ ρ hri
    replace hri : RI a S [] found := hri
    have hfl := hri.len
    have hf12 : found.length ≤ 12 := by omega
    show EW _ _ _ _ _ (ups ρ [(6, .slice A6 found.length c6)]) g [sRow A6 c6 found]
    refine sg ?_
    refine callM0 (vs := [.slice A6 found.length c6]) [sRow A6 c6 found] (fun w hon hgi => sortC hf12 hon hgi) (fun v g2 L' hs hR => ?_)
    subst hR
    refine runE ?_
    refine sgE ?_
    refine ew_ret ?_
    rw [← sortS_len found, hri.fin]
    exact ret1M ⟨A6, c6, rfl, rfl⟩
  refine sg ?_
  refine callM (vs := [.slice A2 S.length c2]) [] [.mp bm []] (fun w hon hgi => cloneS hon hS hS2) (fun v g L' hs hR => ?_)
  obtain ⟨A7, c7, rfl, rfl⟩ := hR
  refine runE ?_
  refine erowF 0 fun hrow => ?_
  refine erowA 0 fun hrA => ?_
  refine efg [(7, .slice A7 S.length c7), (6, .slice none 0 0), (5, .map (some bm)), (0, .slice A a.length c)] [sRow A7 c7 S, .mp bm (mapF [] tt)] fun ρ => ?_
  refine enilrow 9 1 ?_
  refine eperm (L' := [.mp bm (mapF [] tt), sRow none 0 [], .row A7 (0 + S.length) (0 + c7) 9 1 (S.map str)]) (by
    rw [Nat.zero_add, Nat.zero_add]
    exact (List.Perm.swap _ _ _).trans ((List.perm_append_comm (l₁ := [sRow A7 c7 S]) (l₂ := [HE.row none 0 0 9 1 [], .mp bm (mapF [] tt)])).trans (.swap _ _ _))) ?_
  refine bk ?_
  refine lp (σ := RS) (fun s => s.slots A a.length c bm) (fun s => s.g) (fun s => s.heap bm) (fun s => RSI a S f s.td s) (fun s => (a.length - s.found.length) * 1001 + s.td.length) ⟨[], none, 0, A7, A7, 0, c7, S, S.map str, g⟩
    ⟨hs, RI.start a S, Off.start hrA hrow.2.1, rfl, by simp⟩ ?_
  rintro ⟨found, A6, c6, At, Ax, o, ct, todo, xs, g1⟩ ρ hI
  obtain ⟨hsub, hri, hoff, hcut, hsm⟩ := hI
  replace hsub : Sub f g1 := hsub
  replace hri : RI a S todo found := hri
  replace hoff : Off 1 At Ax o todo.length ct := hoff
  replace hcut : xs.drop (o * 1) = todo.map str := hcut
  replace hsm : todo.length ≤ 1000 * found.length + S.length := hsm
  show EW _ _ _ _ _ (ups ρ [(7, .slice Ax todo.length ct), (6, .slice A6 found.length c6), (5, .map (some bm)), (0, .slice A a.length c)]) g1 [.mp bm (mapF found tt), sRow A6 c6 found, .row At (o + todo.length) (o + ct) 9 1 xs]
  have hfl := hri.len
  have ha1 := ha.mono hsub
  refine sq (sg ?_)
  refine gtE (fun h => ?_) (fun h => ?_)
  case refine_2 =>
    refine ewL (L' := [sRow A6 c6 found]) (fun _ h => h.sublist (by simp)) ?_
    refine cFx ?_
    have h0 : todo = [] := List.eq_nil_of_length_eq_zero (by omega)
    subst h0
    exact jn (found, A6, c6, g1) hri
  obtain ⟨s, td, rfl⟩ : ∃ s td, todo = s :: td := by
    rcases todo with _ | ⟨s, td⟩
    · simp at h
    · exact ⟨s, td, rfl⟩
  have hct : 0 < ct := by have := hoff.le; simp at this; omega
  obtain ⟨b, rfl, rfl⟩ := hoff.at_ hct
  have hcell : xs[o * 1 + 0 * 1]? = some (str s) := by
    have : (xs.drop (o * 1))[0]? = some (str s) := by rw [hcut]; rfl
    rwa [List.getElem?_drop] at this
  have hn0 : 0 < (s :: td).length := by simp
  refine cTs (bkJ (σ := Str × List Str × RS) (fun s => s.2.2.slots A a.length c bm) (fun s => s.2.2.g) (fun s => s.2.2.heap bm) (fun s => s.2.2.td = s.1 :: s.2.1 ∧ RSI a S f s.2.1 s.2.2 ∧ (a.length - s.2.2.found.length) * 1001 + s.2.2.td.length ≤ (a.length - found.length) * 1001 + (td.length + 1)) ?_ ?_)
  case refine_2 =>
    rintro ⟨s2, td2, ⟨found2, A62, c62, At2, Ax2, o2, ct2, todo2, xs2, g2⟩⟩ ρ ⟨b1, b2, b3⟩
    replace b1 : todo2 = s2 :: td2 := b1
    subst b1
    obtain ⟨c1, c2', c3, c4, c5⟩ := b2
    replace c1 : Sub f g2 := c1
    replace c2' : RI a S td2 found2 := c2'
    replace c3 : Off 1 At2 Ax2 o2 (td2.length + 1) ct2 := c3
    replace c4 : xs2.drop (o2 * 1) = str s2 :: td2.map str := c4
    replace c5 : td2.length + 1 ≤ 1000 * found2.length + S.length := c5
    replace b3 : (a.length - found2.length) * 1001 + (td2.length + 1) ≤ (a.length - found.length) * 1001 + (td.length + 1) := b3
    have hct2 : 0 < ct2 := by have := c3.le; omega
    obtain ⟨b', rfl, rfl⟩ := c3.at_ hct2
    show EW _ _ _ _ _ (ups ρ [(7, .slice (some ⟨b', o2 * 1, none⟩) (td2.length + 1) ct2), (6, .slice A62 found2.length c62), (5, .map (some bm)), (0, .slice A a.length c)]) g2 [.mp bm (mapF found2 tt), sRow A62 c62 found2, .row (some ⟨b', 0, none⟩) (o2 + (td2.length + 1)) (o2 + ct2) 9 1 xs2]
    have hle2 := c3.le
    have h1n : 1 ≤ td2.length + 1 := by omega
    refine rg ?_
    refine slL 1 h1n hle2 ?_
    refine runE ?_
    have hd2 : xs2.drop ((o2 + 1) * 1) = td2.map str := by
      rw [show (o2 + 1) * 1 = o2 * 1 + 1 by omega, ← List.drop_drop, c4]
      rfl
    refine nxs ⟨found2, A62, c62, some ⟨b', 0, none⟩, some ⟨b', o2 * 1 + (if 1 = ct2 then 0 else 1 * 1), none⟩, o2 + 1, ct2 - 1, td2, xs2, g2⟩ ⟨c1, c2', by
      have := c3.tail rfl h1n
      exact this, hd2, by show td2.length ≤ 1000 * found2.length + S.length; omega⟩ (by show (a.length - found2.length) * 1001 + td2.length < (a.length - found.length) * 1001 + (td.length + 1); omega) (hh := ?_)
    show [_, _, HE.row _ (o2 + 1 + td2.length) (o2 + 1 + (ct2 - 1)) _ _ _] = _
    rw [show o2 + 1 + td2.length = o2 + (td2.length + 1) by omega, show o2 + 1 + (ct2 - 1) = o2 + ct2 by omega]
  refine sg ?_
  refine ix 0 hn0 ?_
  refine ldr 2 hcell ?_
  refine callM (vs := [.slice A a.length c, str s]) [] [.mp bm (mapF found tt), sRow A6 c6 found, .row (some ⟨b, 0, none⟩) (o + (s :: td).length) (o + ct) 9 1 xs] (fun w hon hgi => closureGet hon ha1 hfit) (fun v g2 L' hs2 hR => ?_)
  unfold getR at hR
  cases hg : getI a s with
  | none =>
    rw [hg] at hR
    obtain ⟨rfl, rfl⟩ := hR
    refine alloc fun b8 => ?_
    refine stE 0 ?_
    refine edropH ?_
    refine efg [(9, .bool false), (7, .slice (some ⟨b, o * 1, none⟩) (s :: td).length ct), (6, .slice A6 found.length c6), (5, .map (some bm)), (0, .slice A a.length c)] [.mp bm (mapF found tt), sRow A6 c6 found, .row (some ⟨b, 0, none⟩) (o + (s :: td).length) (o + ct) 9 1 xs] fun ρ => ?_
    refine sgE ?_
    refine cFs ?_
    refine jn (s, td, ⟨found, A6, c6, some ⟨b, 0, none⟩, some ⟨b, o * 1, none⟩, o, ct, s :: td, xs, g2⟩) ⟨rfl, ⟨hsub.trans hs2, hri.skip (fun hi => by rw [hg] at hi; cases hi), hoff, hcut, hsm⟩, Nat.le_refl _⟩
  | some x =>
    rw [hg] at hR
    obtain ⟨B1, d1, B2, d2, rfl, rfl⟩ := hR
    have hxn := getI_name hg
    have hxf := (hfit.2 x (getI_mem hg)).1
    refine alloc fun b8 => ?_
    refine stE 0 ?_
    refine efg [(8, .pointer (some ⟨b8, 0, none⟩)), (9, .bool true), (7, .slice (some ⟨b, o * 1, none⟩) (s :: td).length ct), (6, .slice A6 found.length c6), (5, .map (some bm)), (0, .slice A a.length c)] [.blk b8 (.cells ⟨itemC x B1 d1 B2 d2⟩ 29), nRow B2 d2 x.tree, sRow B1 d1 x.refs, .mp bm (mapF found tt), sRow A6 c6 found, .row (some ⟨b, 0, none⟩) (o + (s :: td).length) (o + ct) 9 1 xs] fun ρ => ?_
    by_cases hin : s ∈ found
    · refine sg ?_
      refine ldo 0 ?_
      refine lkI 3 (hxn.symm ▸ hin) ?_
      refine runE ?_
      refine ewL (L' := [.mp bm (mapF found tt), sRow A6 c6 found, .row (some ⟨b, 0, none⟩) (o + (s :: td).length) (o + ct) 9 1 xs]) (fun _ h => h.sublist (.cons _ (.cons _ (.cons _ (List.Sublist.refl _))))) ?_
      refine cFs ?_
      refine jn (s, td, ⟨found, A6, c6, some ⟨b, 0, none⟩, some ⟨b, o * 1, none⟩, o, ct, s :: td, xs, g2⟩) ⟨rfl, ⟨hsub.trans hs2, hri.skip (fun _ => hin), hoff, hcut, hsm⟩, Nat.le_refl _⟩
    · have hin' : x.name ∉ found := hxn.symm ▸ hin
      have hri2 := hri.take hg hin
      have hfl2 := hri2.len
      rw [List.length_append, List.length_singleton] at hfl2
      have hlen1 : (s :: td).length = td.length + 1 := rfl
      have q0 : (found.length + 1) * 16 ≤ 140737488355328 := by omega
      have q1 : (x.refs.map str).length = x.refs.length * 1 := by simp
      have q2 : ∀ u ∈ x.refs.map str, u.oneCell' = true := fun u hu => by
        obtain ⟨r, _, rfl⟩ := List.mem_map.1 hu
        rfl
      have q3 : ((s :: td).length + x.refs.length) * 16 ≤ 140737488355328 := by
        have : found.length ≤ 12 := by omega
        omega
      refine sg ?_
      refine ldo 0 ?_
      refine lkO 3 hin' ?_
      refine runE ?_
      refine cT (sg ?_)
      refine ldo 0 ?_
      refine muO 3 hin' ?_
      refine runE ?_
      refine sg ?_
      refine ldo 0 ?_
      refine bsl fun b40 => ?_
      refine app 4 (fun A6' c6' => ?_) (hi := rfl) (hlim := q0)
      refine runE ?_
      refine efg [(8, .pointer (some ⟨b8, 0, none⟩)), (7, .slice (some ⟨b, o * 1, none⟩) (s :: td).length ct), (6, .slice A6' (found.length + 1) c6'), (5, .map (some bm)), (0, .slice A a.length c)] [.blk b8 (.cells ⟨itemC x B1 d1 B2 d2⟩ 29), nRow B2 d2 x.tree, sRow B1 d1 x.refs, .mp bm (mapF (found ++ [x.name]) (updF tt x.name (.bool true))), .row A6' (found.length + 1) c6' 9 1 (found.map str ++ [str x.name]), .row (some ⟨b, 0, none⟩) (o + (s :: td).length) (o + ct) 9 1 xs] fun ρ => ?_
      rw [mapF_tt, hxn]
      refine rg ?_
      refine ldo 0 ?_
      refine appOff 5 (A2 := B1) (mm := x.refs.length) (c2 := d1) (news := x.refs.map str) hoff q1 (fun w hw h0 => hw.rowAll (i := 2) rfl h0) q2 (fun A' Ax' o' c' xs' hoff' hxs' => ?_) (hi := rfl) (hlim := q3)
      refine rwL (L' := [.mp bm (mapF (found ++ [s]) tt), .row A6' (found.length + 1) c6' 9 1 (found.map str ++ [str s]), .row A' (o' + ((s :: td).length + x.refs.length)) (o' + c') 9 1 xs']) (fun _ h => h.sublist (.cons _ (.cons _ (.cons _ (List.Sublist.refl _))))) ?_
      refine runE ?_
      have hlen2 : (s :: (td ++ x.refs)).length = (s :: td).length + x.refs.length := by simp; omega
      refine jn (s, td ++ x.refs, ⟨found ++ [s], A6', c6', A', Ax', o', c', s :: (td ++ x.refs), xs', g2⟩) ⟨rfl, ⟨hsub.trans hs2, hri2, ?_, ?_, ?_⟩, ?_⟩ (hh := ?_) (ha := ?_)
      · show Off 1 A' Ax' o' (s :: (td ++ x.refs)).length c'
        rw [hlen2]; exact hoff'
      · show xs'.drop (o' * 1) = (s :: (td ++ x.refs)).map str
        rw [hxs', hcut]
        simp
      · show (s :: (td ++ x.refs)).length ≤ 1000 * (found ++ [s]).length + S.length
        rw [hlen2, List.length_append]
        simp only [List.length_singleton]
        omega
      · show (a.length - (found ++ [s]).length) * 1001 + (s :: (td ++ x.refs)).length ≤ _
        rw [hlen2, List.length_append]
        simp only [List.length_singleton, hlen1]
        omega
      · show [HE.mp bm _, sRow A6' c6' (found ++ [s]), HE.row A' (o' + (s :: (td ++ x.refs)).length) _ _ _ _] = _
        rw [hlen2]
        unfold sRow
        rw [List.length_append, List.map_append]
        rfl
      · refine ⟨?_, ?_, rfl, rfl, trivial⟩
        · show Value.slice Ax' ((s :: td).length + x.refs.length) c' = .slice Ax' (s :: (td ++ x.refs)).length c'
          rw [hlen2]
        · show Value.slice A6' (found.length + 1) c6' = .slice A6' (found ++ [s]).length c6'
          rw [List.length_append]
          rfl
end Go.Hog
