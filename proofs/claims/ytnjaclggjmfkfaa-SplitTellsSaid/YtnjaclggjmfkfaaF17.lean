/- Contracts: pop.unlike, pop.scores, pop.Scores, pop.Above. -/
import Derived.Test.YtnjaclggjmfkfaaF16
import Derived.Test.YtnjaclggjmfkfaaE20
set_option linter.unusedVariables false
set_option linter.unusedSimpArgs false
set_option maxRecDepth 100000
set_option maxHeartbeats 1000000
namespace Go.Hog
open Go.RowKit Rp Go.Proofs
theorem unlike_iff (a : List Item) : ((dd (sortS (names a))).length : Int) = (a.length : Nat) ↔ (names a).Nodup := by
  rw [← (sortS_perm (names a)).nodup_iff, ← dd_len (sortS_sorted _), sortS_len, namesLen]
  omega
theorem popUnlike {w : World} {f : View} (hv : On f w) {A : Option Addr} {c : Nat} {a : List Item} (ha : Sl f A c a) (h12 : a.length ≤ 12) :
    Con Try.prog 28 [.slice A a.length c] w (Ret w f fun _ v => v = .bool (decide (names a).Nodup)) := by
  refine enterC hv Try.call28 Try.func28 ?_
  have hsm : a.length ≤ 1000000 := by omega
  have hn12 : (names a).length ≤ 12 := by rw [namesLen]; exact h12
  have hsl : (sortS (names a)).length ≤ 1000000 := by rw [sortS_len]; omega
  refine sgE ?_
  refine sg ?_
  refine callM0 (vs := [.slice A a.length c]) [] (fun w hon hgi => itemNames hon ha hsm) (fun v g L' hs hR => ?_)
  obtain ⟨A3, c3, rfl, rfl⟩ := hR
  refine runE ?_
  refine efg [(0, .slice A a.length c), (3, .slice A3 (names a).length c3)] [sRow A3 c3 (names a)] fun ρ => ?_
  refine sg ?_
  refine callM0 (vs := [.slice A3 (names a).length c3]) [sRow A3 c3 (names a)] (fun w hon hgi => sortC hn12 hon hgi) (fun v g2 L' hs2 hR => ?_)
  subst hR
  refine runE ?_
  rw [← sortS_len (names a)]
  refine efg [(0, .slice A a.length c), (3, .slice A3 (sortS (names a)).length c3)] [sRow A3 c3 (sortS (names a))] fun ρ => ?_
  refine sg ?_
  refine callM0 (vs := [.slice A3 (sortS (names a)).length c3]) [sRow A3 c3 (sortS (names a))] (fun w hon hgi => compactS hsl hon hgi) (fun v g3 L' hs3 hR => ?_)
  obtain ⟨rfl, rfl⟩ := hR
  refine eqIE (fun h => ?_) (fun h => ?_)
  · refine ew_ret ?_
    exact ret1 (bT ((unlike_iff a).1 h))
  · refine ew_ret ?_
    exact ret1 (bF (fun e => h ((unlike_iff a).2 e)))
open Classical in
noncomputable def scN (a : List Item) (k : Nat) (s : Str) : Nat := ((a.take k).filter fun x => decide (x.name ≠ s ∧ s ∈ reachL a [x.name])).length
noncomputable def sc (a : List Item) (s : Str) : Nat := scN a a.length s
theorem scN_le (a : List Item) (k : Nat) (s : Str) : scN a k s ≤ a.length := by
  unfold scN
  exact Nat.le_trans (List.length_filter_le _ _) (List.length_take_le' _ _)
theorem scN_succ {a : List Item} {k : Nat} (h : k < a.length) (s : Str) : scN a (k + 1) s = scN a k s + (if a[k].name ≠ s ∧ s ∈ reachL a [a[k].name] then 1 else 0) := by
  unfold scN
  rw [List.take_add_one, List.getElem?_eq_getElem h, List.filter_append, List.length_append]
  congr 1
  by_cases hc : a[k].name ≠ s ∧ s ∈ reachL a [a[k].name]
  · rw [if_pos hc]
    simp [hc]
  · rw [if_neg hc]
    simp [hc]
def gN (cnt : Str → Nat) (s : Str) : Value := i64 (cnt s : Nat)
theorem gN_upd {ks : List Str} {cnt : Str → Nat} {r : Str} : mapF ks (updF (gN cnt) r (i64 ((cnt r + 1 : Nat) : Int))) = mapF ks (gN fun u => if u = r then cnt r + 1 else cnt u) := List.map_congr_left fun u _ => by
  simp only [updF, gN]
  split <;> rfl
def scoresR (cnt : Str → Nat) (L' : List HE) (v : Value) : Prop := ∃ b ks, v = .map (some b) ∧ L' = [.mp b (mapF ks (gN cnt))] ∧ ks.Nodup ∧ ∀ s, s ∉ ks → cnt s = 0
theorem popScores0 {w : World} {f : View} (hv : On f w) {A : Option Addr} {c : Nat} {a : List Item} (ha : Sl f A c a) (hfit : FitT a) (h12 : a.length ≤ 12) :
    Con Try.prog 29 [.slice A a.length c] w (RetM w f [] fun _ => scoresR (sc a)) := by
  refine enterM (L := []) hv (Given.nil _ _) Try.call29 Try.func29 ?_
  refine sgE ?_
  refine sg ?_
  refine mkmap fun b3 => ?_
  refine runE ?_
  refine efg [(3, .map (some b3)), (0, .slice A a.length c)] [.mp b3 (mapF [] (gN (scN a 0)))] fun ρ => ?_
  refine sqJ (σ := List Str × View) (fun _ => [(3, .map (some b3))]) (fun s => s.2) (fun s => [.mp b3 (mapF s.1 (gN (sc a)))]) (fun s => s.1.Nodup ∧ ∀ s', s' ∉ s.1 → sc a s' = 0) ?_ ?_
  case refine_2 =>
    rintro ⟨ks, g⟩ ρ ⟨h1, h2⟩
    refine sgE ?_
    refine ew_ret ?_
    exact ret1M ⟨b3, ks, rfl, rfl, h1, h2⟩
  refine sgE ?_
  refine bk ?_
  refine lp (σ := Nat × List Str × View) (fun s => [(11, i64 s.1), (10, i64 (a.length : Nat)), (9, .slice A a.length c), (3, .map (some b3)), (0, .slice A a.length c)]) (fun s => s.2.2) (fun s => [.mp b3 (mapF s.2.1 (gN (scN a s.1)))]) (fun s => s.1 ≤ a.length ∧ Sub f s.2.2 ∧ s.2.1.Nodup ∧ ∀ s', s' ∉ s.2.1 → scN a s.1 s' = 0) (fun s => a.length - s.1) (0, [], f) ⟨Nat.zero_le _, Sub.refl _, List.nodup_nil, fun s' _ => by simp [scN]⟩ ?_
  rintro ⟨k, ks, g⟩ ρ ⟨hk, hsub, hnd, hz⟩
  replace hk : k ≤ a.length := hk
  replace hsub : Sub f g := hsub
  replace hnd : ks.Nodup := hnd
  replace hz : ∀ s', s' ∉ ks → scN a k s' = 0 := hz
  show EW _ _ _ _ _ (ups ρ [(11, i64 k), (10, i64 (a.length : Nat)), (9, .slice A a.length c), (3, .map (some b3)), (0, .slice A a.length c)]) g [.mp b3 (mapF ks (gN (scN a k)))]
  refine sg ?_
  refine ltE (fun h => ?_) (fun h => ?_)
  case refine_2 =>
    refine sq (cFx ?_)
    have e : k = a.length := by omega
    subst e
    exact jn (ks, g) ⟨hnd, hz⟩
  have h1 : k < a.length := by omega
  have ha1 := ha.mono hsub
  obtain ⟨b1, o1, A1, c1, A2, c2, rfl, hc, hn, hr, ht⟩ := ha1.item h1
  refine sq (cTs ?_)
  refine sq (bk ?_)
  refine sg ?_
  refine ix k h1 ?_
  refine ldvA hc ?_
  refine alloc fun b5 => ?_
  refine stE 0 ?_
  refine efg [(5, .pointer (some ⟨b5, 0, none⟩)), (11, i64 k), (10, i64 (a.length : Nat)), (9, .slice (some ⟨b1, o1, none⟩) a.length c), (3, .map (some b3)), (0, .slice (some ⟨b1, o1, none⟩) a.length c)] [.blk b5 (.cells ⟨itemC a[k] A1 c1 A2 c2⟩ 41), .mp b3 (mapF ks (gN (scN a k)))] fun ρ => ?_
  generalize hnm : a[k].name = nm at *
  have hnl : nm.length ≤ LB := hn
  refine sg ?_
  refine ldo (v := str nm) 0 ?_ (hc := by rw [← hnm]; rfl)
  refine bsl fun b18 => ?_
  refine rfrz 0 fun g2 hs2 hsn2 => ?_
  have hS : Sl g2 (some ⟨b18, 0, none⟩) 1 [nm] := Sl.ofTexts (l := [nm]) hsn2 rfl (by simpa using hnl) (by simp [LB])
  have ha2 := ha1.mono hs2
  have hS1 : [nm].length ≤ 1000 := by simp
  have hcr : ∀ w, On g2 w → Con Try.prog 42 [.slice (some ⟨b1, o1, none⟩) a.length c, .slice (some ⟨b18, 0, none⟩) 1 1] w (RetM w g2 [] fun _ => reachR a [nm]) := fun w hon => closureReach hon ha2 hfit h12 hS hS1
  refine callM (vs := [.slice (some ⟨b1, o1, none⟩) a.length c, .slice (some ⟨b18, 0, none⟩) 1 1]) [] [.blk b5 (.cells ⟨itemC a[k] A1 c1 A2 c2⟩ 41), .mp b3 (mapF ks (gN (scN a k)))] (fun w hon hgi => hcr w hon) (fun v g3 L' hs3 hR => ?_)
  obtain ⟨Ar, cr, rfl, rfl⟩ := hR
  refine runE ?_
  obtain ⟨l, hl, hls⟩ : ∃ l, l = reachL a [nm] ∧ l.Pairwise (· < ·) := ⟨_, rfl, reachL_sorted a [nm]⟩
  rw [← hl]
  refine efg [(21, i64 0), (20, i64 (l.length : Nat)), (19, .slice Ar l.length cr), (5, .pointer (some ⟨b5, 0, none⟩)), (11, i64 k), (10, i64 (a.length : Nat)), (9, .slice (some ⟨b1, o1, none⟩) a.length c), (3, .map (some b3)), (0, .slice (some ⟨b1, o1, none⟩) a.length c)] [sRow Ar cr l, .blk b5 (.cells ⟨itemC a[k] A1 c1 A2 c2⟩ 41), .mp b3 (mapF ks (gN (scN a k)))] fun ρ => ?_
  have hlnd := strict_nodup hls
  have hllen : l.length ≤ a.length := by
    have := hlnd.length_le_of_subset (l₂ := names a) (fun s hs => by rw [hl] at hs; exact (reachL_mem.1 hs).names)
    rwa [namesLen] at this
  refine bk ?_
  refine lp (σ := Nat × List Str × (Str → Nat)) (fun s => [(21, i64 s.1), (20, i64 (l.length : Nat)), (19, .slice Ar l.length cr), (5, .pointer (some ⟨b5, 0, none⟩)), (11, i64 k), (10, i64 (a.length : Nat)), (9, .slice (some ⟨b1, o1, none⟩) a.length c), (3, .map (some b3)), (0, .slice (some ⟨b1, o1, none⟩) a.length c)]) (fun _ => g3) (fun s => [sRow Ar cr l, .blk b5 (.cells ⟨itemC a[k] A1 c1 A2 c2⟩ 41), .mp b3 (mapF s.2.1 (gN s.2.2))])
    (fun s => s.1 ≤ l.length ∧ s.2.1.Nodup ∧ (∀ u, u ∉ s.2.1 → s.2.2 u = 0) ∧ ∀ u, s.2.2 u = scN a k u + (if nm ≠ u ∧ u ∈ l.take s.1 then 1 else 0)) (fun s => l.length - s.1) (0, ks, scN a k) ⟨Nat.zero_le _, hnd, hz, fun u => by simp⟩ ?_ (ha := ⟨rfl, rfl, rfl, rfl, rfl, rfl, rfl, rfl, rfl, trivial⟩)
  rintro ⟨j, ks2, cnt⟩ ρ ⟨hj, hnd2, hz2, hcnt⟩
  replace hj : j ≤ l.length := hj
  replace hnd2 : ks2.Nodup := hnd2
  replace hz2 : ∀ u, u ∉ ks2 → cnt u = 0 := hz2
  replace hcnt : ∀ u, cnt u = scN a k u + (if nm ≠ u ∧ u ∈ l.take j then 1 else 0) := hcnt
  show EW _ _ _ _ _ (ups ρ [(21, i64 j), (20, i64 (l.length : Nat)), (19, .slice Ar l.length cr), (5, .pointer (some ⟨b5, 0, none⟩)), (11, i64 k), (10, i64 (a.length : Nat)), (9, .slice (some ⟨b1, o1, none⟩) a.length c), (3, .map (some b3)), (0, .slice (some ⟨b1, o1, none⟩) a.length c)]) g3 [sRow Ar cr l, .blk b5 (.cells ⟨itemC a[k] A1 c1 A2 c2⟩ 41), .mp b3 (mapF ks2 (gN cnt))]
  refine sg ?_
  refine ltE (fun h => ?_) (fun h => ?_)
  case refine_2 =>
    refine sq ?_
    refine ewL (L' := [.mp b3 (mapF ks2 (gN cnt))]) (fun _ h => h.sublist (.cons _ (.cons _ (List.Sublist.refl _)))) ?_
    refine cFx ?_
    have e : j = l.length := by omega
    subst e
    rw [List.take_length] at hcnt
    have hce : cnt = scN a (k + 1) := by
      funext u
      rw [hcnt u, scN_succ h1, hnm, hl]
    subst hce
    refine rg ?_
    refine addE ((k + 1 : Nat) : Int) ?_
    exact nxs (k + 1, ks2, g3) ⟨h1, (hsub.trans hs2).trans hs3, hnd2, hz2⟩ (by show a.length - (k + 1) < a.length - k; omega)
  have hjl : j < l.length := by omega
  have hcl : (l.map str)[0 + j * 1]? = some (str l[j]) := by simp [hjl]
  refine erowF 0 fun hrow => ?_
  obtain ⟨br, rfl⟩ := hrow.2.2.2.1 (by omega)
  refine sq (cTs ?_)
  refine sq (bk ?_)
  refine sg ?_
  refine ix j hjl ?_
  refine ldrE 0 hcl ?_
  generalize hrj : l[j] = r at *
  have htk : l.take (j + 1) = l.take j ++ [r] := by rw [List.take_add_one, List.getElem?_eq_getElem hjl, hrj]; rfl
  have hrno : r ∉ l.take j := by
    have := hlnd.sublist (List.take_sublist (j + 1) l)
    rw [htk, List.nodup_append] at this
    exact fun hin => this.2.2 _ hin _ (List.mem_singleton.2 rfl) rfl
  refine efg [(7, str r), (21, i64 j), (20, i64 (l.length : Nat)), (19, .slice (some ⟨br, 0, none⟩) l.length cr), (5, .pointer (some ⟨b5, 0, none⟩)), (11, i64 k), (10, i64 (a.length : Nat)), (9, .slice (some ⟨b1, o1, none⟩) a.length c), (3, .map (some b3)), (0, .slice (some ⟨b1, o1, none⟩) a.length c)] [sRow (some ⟨br, 0, none⟩) cr l, .blk b5 (.cells ⟨itemC a[k] A1 c1 A2 c2⟩ 41), .mp b3 (mapF ks2 (gN cnt))] fun ρ => ?_
  refine sg ?_
  refine ldo (v := str nm) 1 ?_ (hc := by rw [← hnm]; rfl)
  refine neSE (fun hne => ?_) (fun hne => ?_)
  · have hcr : cnt r ≤ a.length + 1 := by
      rw [hcnt r]
      have := scN_le a k r
      split <;> omega
    have hzr : r ∉ ks2 → gN cnt r = i64 0 := fun hn => by unfold gN; rw [hz2 r hn]; rfl
    refine cT (rg ?_)
    refine lkA 2 hzr ?_
    refine add ((cnt r + 1 : Nat) : Int) ?_ (hx := by rfl)
    refine muA 2 hnd2 ?_
    refine runE ?_
    refine efg [(7, str r), (21, i64 j), (20, i64 (l.length : Nat)), (19, .slice (some ⟨br, 0, none⟩) l.length cr), (5, .pointer (some ⟨b5, 0, none⟩)), (11, i64 k), (10, i64 (a.length : Nat)), (9, .slice (some ⟨b1, o1, none⟩) a.length c), (3, .map (some b3)), (0, .slice (some ⟨b1, o1, none⟩) a.length c)] [sRow (some ⟨br, 0, none⟩) cr l, .blk b5 (.cells ⟨itemC a[k] A1 c1 A2 c2⟩ 41), .mp b3 (mapF (kAdd ks2 r) (updF (gN cnt) r (i64 ((cnt r + 1 : Nat) : Int))))] fun ρ => ?_
    rw [gN_upd]
    refine rg ?_
    refine addE ((j + 1 : Nat) : Int) ?_
    refine nxs (j + 1, kAdd ks2 r, fun u => if u = r then cnt r + 1 else cnt u) ⟨hjl, kAdd_nodup hnd2, fun u hu => ?_, fun u => ?_⟩ (by show l.length - (j + 1) < l.length - j; omega) (ha := ⟨rfl, rfl, rfl, rfl, rfl, rfl, rfl, rfl, rfl, trivial⟩)
    · show (if u = r then _ else cnt u) = 0
      have hu' : u ∉ ks2 ∧ u ≠ r := ⟨fun e => hu (kAdd_mem.2 (.inl e)), fun e => hu (kAdd_mem.2 (.inr e))⟩
      rw [if_neg hu'.2, hz2 u hu'.1]
    · show (if u = r then cnt r + 1 else cnt u) = scN a k u + (if nm ≠ u ∧ u ∈ l.take (j + 1) then 1 else 0)
      rw [htk]
      by_cases hur : u = r
      · subst hur
        rw [if_pos rfl, hcnt u, if_neg (fun e => hrno e.2), if_pos ⟨Ne.symm hne, by simp⟩]
      · rw [if_neg hur, hcnt u]
        simp [hur]
  · have he : r = nm := Decidable.byContradiction fun h => hne h
    refine cFs (rg ?_)
    refine addE ((j + 1 : Nat) : Int) ?_
    refine nxs (j + 1, ks2, cnt) ⟨hjl, hnd2, hz2, fun u => ?_⟩ (by show l.length - (j + 1) < l.length - j; omega) (ha := ⟨rfl, rfl, rfl, rfl, rfl, rfl, rfl, rfl, rfl, trivial⟩)
    show cnt u = scN a k u + (if nm ≠ u ∧ u ∈ l.take (j + 1) then 1 else 0)
    rw [htk, hcnt u, he]
    by_cases hur : u = nm
    · subst hur; simp
    · simp [hur]
end Go.Hog
