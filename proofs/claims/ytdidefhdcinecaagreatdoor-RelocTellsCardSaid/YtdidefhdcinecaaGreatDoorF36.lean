/- Contracts: prefixes; names that rise; the program's and the document's. -/
import Derived.Test.YtdidefhdcinecaaGreatDoorF31
set_option linter.unusedVariables false
set_option linter.unusedSimpArgs false
set_option maxRecDepth 100000
set_option maxHeartbeats 1000000
namespace Go.Hog
open Go.RowKit Rp Go.Proofs
def prefixOk (p : Str) : Prop := 4 ≤ p.length ∧ p.length ≤ 16 ∧ p[0]? = some 47 ∧ ∀ c ∈ p.drop 1, c ∈ letsR
instance (p : Str) : Decidable (prefixOk p) := by unfold prefixOk; infer_instance
theorem hasL_one {s : Str} {c : UInt8} : hasL s [c] ↔ c ∈ s := by
  rw [hasL_iff]
  constructor
  · rintro ⟨_, j, h1, h2⟩
    have h3 : j < s.length := by simp at h1; omega
    have h4 : (s[j] :: s.drop (j + 1)).take 1 = [c] := by rw [← List.drop_eq_getElem_cons h3]; exact h2
    have h5 : [s[j]] = [c] := h4
    injection h5 with h5
    rw [← h5]; exact List.getElem_mem h3
  · intro h
    obtain ⟨j, hj, rfl⟩ := List.getElem_of_mem h
    refine ⟨by simp, j, by simp; omega, ?_⟩
    rw [List.drop_eq_getElem_cons hj]; rfl
theorem prefixClo {w : World} {f : View} (hv : On f w) (hm : ML f) {c : UInt8} : Con Tryz.prog 40 [.int .u8 (c.toNat : Int)] w (Ret w f fun _ v => v = .bool (decide (c ∉ letsR))) := by
  refine enterC hv Tryz.call40 Tryz.func40 ?_
  refine sgE ?_
  refine sg ?_
  refine bsl fun b4 => ?_
  refine cvBS 0 [c] rfl rfl (by show 0 < 1; omega) ?_
  refine callV (.bool (decide (hasL letsR [c]))) (vs := [str letsR, str [c]]) (fun w g hs _ hon => scanHas hon (hm.mono hs) (by decide)) ?_
  refine runE ?_
  refine edropH ?_
  refine ew_ret ?_
  refine ret1 (show Value.bool (!(decide (hasL letsR [c]))) = .bool (decide (c ∉ letsR)) from ?_)
  congr 1
  rw [Bool.eq_iff_iff]
  simp [hasL_one]
theorem closurePrefix {w : World} {f : View} (hv : On f w) (hm : ML f) {s : Str} (hs : s.length ≤ LB) : Con Tryz.prog 19 [str s] w (Ret w f fun _ v => v = .bool (decide (prefixOk s))) := by
  refine enterC hv Tryz.call19 Tryz.func19 ?_
  have hlim : s.length ≤ 140737488355328 := hs
  refine sgE ?_
  refine sq (sg ?_)
  refine Go.Hog.lt (fun h1 => ?_) (fun h1 => ?_)
  · refine runE ?_
    refine cT (rr ?_)
    exact ret1 (bF fun hn => by have := hn.1; omega)
  refine Go.Hog.gt (fun h2 => ?_) (fun h2 => ?_)
  · refine runE ?_
    refine cT (rr ?_)
    exact ret1 (bF fun hn => by have := hn.2.1; omega)
  have h0 : 0 < s.length := by omega
  refine ixS 0 s[0] (List.getElem?_eq_getElem h0) ?_
  refine neIE (fun h3 => ?_) (fun h3 => ?_)
  · refine cT (rr ?_)
    refine ret1 (bF fun hn => h3 ?_)
    have h4 := hn.2.2.1
    rw [List.getElem?_eq_getElem h0] at h4
    injection h4 with h4
    rw [h4]; rfl
  have h47 : s[0]? = some 47 := by
    rw [List.getElem?_eq_getElem h0]
    have h4 : ((s[0].toNat : Int)) = ((47 : UInt8).toNat : Int) := by
      by_cases e : ((s[0].toNat : Int)) = ((47 : UInt8).toNat : Int)
      · exact e
      · exact absurd e h3
    rw [u8_eq.1 h4]
  refine cFs ?_
  refine efg [(0, str s)] [] fun ρ => ?_
  have hd : (s.drop 1).length ≤ LB := by rw [List.length_drop]; unfold LB; omega
  refine sg ?_
  refine slSL (s := s) 1 (by omega) ?_
  refine cvSB (s := s.drop 1) (fun b6 c cur fr h5 h6 hcur => ?_) (Nat.le_trans hd (by decide))
  refine callB (p := ∃ x ∈ s.drop 1, decide (x ∉ letsR) = true) (vs := [.slice (some ⟨b6, 0, none⟩) (s.drop 1).length c, .func (.func 40) ⟨[]⟩ ⟨[]⟩]) (fun w g hs' hsn hon => ?_) (fun hp => ?_) (fun hp => ?_)
  · refine containsFuncB (p := fun x => decide (x ∉ letsR)) hon (blk_sl (hsn _ (.head _)) hd h5 h6 hcur) fun w' g' hs2 hon' x => ?_
    exact prefixClo hon' ((hm.mono hs').mono hs2)
  · refine runE ?_
    refine edropH ?_
    refine ew_ret ?_
    refine ret1 (bF fun ha => ?_)
    obtain ⟨x, hx, h7⟩ := hp
    exact (of_decide_eq_true h7) (ha.2.2.2 x hx)
  · refine runE ?_
    refine edropH ?_
    refine ew_ret ?_
    refine ret1 (bT ⟨by omega, by omega, h47, fun c hc => ?_⟩)
    by_cases e : c ∈ letsR
    · exact e
    · exact absurd ⟨c, hc, decide_eq_true e⟩ hp
theorem ref9Prefix {w : World} {f : View} (hv : On f w) {s : Str} (hs : s.length ≤ LB) : Con Tryz.prog 29 [str s] w (Ret w f fun _ v => v = .bool (decide (prefixOk s))) := by
  refine enterC hv Tryz.call29 Tryz.func29 ?_
  have hlim : s.length ≤ 140737488355328 := hs
  refine sgE ?_
  refine sq (sg ?_)
  refine Go.Hog.lt (fun h1 => ?_) (fun h1 => ?_)
  · refine runE ?_
    refine cT (rr ?_)
    exact ret1 (bF fun hn => by have := hn.1; omega)
  refine Go.Hog.gt (fun h2 => ?_) (fun h2 => ?_)
  · refine runE ?_
    refine cT (rr ?_)
    exact ret1 (bF fun hn => by have := hn.2.1; omega)
  have h0 : 0 < s.length := by omega
  refine ixS 0 s[0] (List.getElem?_eq_getElem h0) ?_
  refine neIE (fun h3 => ?_) (fun h3 => ?_)
  · refine cT (rr ?_)
    refine ret1 (bF fun hn => h3 ?_)
    have h4 := hn.2.2.1
    rw [List.getElem?_eq_getElem h0] at h4
    injection h4 with h4
    rw [h4]; rfl
  have h47 : s[0]? = some 47 := by
    rw [List.getElem?_eq_getElem h0]
    have h4 : ((s[0].toNat : Int)) = ((47 : UInt8).toNat : Int) := by
      by_cases e : ((s[0].toNat : Int)) = ((47 : UInt8).toNat : Int)
      · exact e
      · exact absurd e h3
    rw [u8_eq.1 h4]
  refine cFs ?_
  refine efg [(0, str s)] [] fun ρ => ?_
  refine sq (sgE (bk ?_))
  refine lpn (s.length - 1) (fun k => [(3, i64 ((1 + k : Nat) : Int)), (0, str s)]) (fun k => ∀ j (h : j < s.length), 1 ≤ j → j < 1 + k → s[j] ∈ letsR) (fun j h hj hj2 => by omega) ?_
  intro k ρ hk hi
  refine sq (sg ?_)
  refine ltE (fun h => ?_) (fun h => ?_)
  case refine_2 =>
    refine cFx (rr ?_)
    refine ret1 (bT ⟨by omega, by omega, h47, fun c hc => ?_⟩)
    obtain ⟨j, hj, rfl⟩ := List.getElem_of_mem hc
    rw [List.length_drop] at hj
    rw [List.getElem_drop]
    exact hi (1 + j) (by omega) (by omega) (by omega)
  have hk1 : 1 + k < s.length := by omega
  refine cTs (sq (bk (sg ?_)))
  refine ixS (1 + k) s[1 + k] (List.getElem?_eq_getElem hk1) ?_
  refine callB (p := s[1 + k] ∈ letsR) (vs := [str letsR, .int .u8 (s[1 + k].toNat : Int)]) (fun w g hs' _ hon => ref7In hon (by decide)) (fun hm => ?_) (fun hm => ?_)
  · refine runE ?_
    refine cFs (rg ?_)
    refine addE ((1 + (k + 1) : Nat) : Int) ?_
    refine nx fun j hj hj9 hjk => ?_
    by_cases e : j = 1 + k
    · subst e; exact hm
    · exact hi j hj hj9 (by omega)
  · refine runE ?_
    refine cT (rr ?_)
    refine ret1 (bF fun hn => hm ?_)
    have := hn.2.2.2 s[1 + k] (List.mem_iff_getElem.2 ⟨k, by rw [List.length_drop]; omega, by rw [List.getElem_drop]⟩)
    exact this
def risingOk (l : List Str) : Prop := l.length ≤ 8 ∧ (∀ s ∈ l, nameOk s) ∧ l.Pairwise (· < ·)
instance (l : List Str) : Decidable (risingOk l) := by unfold risingOk; infer_instance
theorem adj_pairwise {l : List Str} (h : ∀ i (h1 : i < l.length), 0 < i → l[i - 1] < l[i]) : l.Pairwise (· < ·) := by
  refine List.pairwise_iff_getElem.2 fun i j hi hj hij => ?_
  induction j with
  | zero => omega
  | succ j ih =>
    have h2 := h (j + 1) hj (by omega)
    by_cases e : i = j
    · subst e; exact h2
    · exact List.lt_trans (ih (by omega) (by omega)) h2
theorem ref9Names {w : World} {f : View} (hv : On f w) {A : Option Addr} {c : Nat} {a : List Item} (ha : Sl f A c a) (hsm : a.length ≤ 1000000) :
    Con Tryz.prog 52 [.slice A a.length c] w (RetM w f [] fun _ L' v => ∃ A' c', v = .slice A' (names a).length c' ∧ L' = [sRow A' c' (names a)]) := by
  refine enterM (L := []) hv (Given.nil _ _) Tryz.call52 Tryz.func52 ?_
  refine sgE ?_
  refine sgE ?_
  refine enilrow 9 1 ?_
  refine sqJ (σ := Option Addr × Nat) (fun s => [(3, .slice s.1 a.length s.2)]) (fun _ => f) (fun s => [.row s.1 a.length s.2 9 1 ((names a).map str)]) (fun _ => True) ?_ ?_
  case refine_2 =>
    rintro ⟨A', c'⟩ ρ _
    refine sgE ?_
    refine ew_ret ?_
    refine ret1M ⟨A', c', ?_, ?_⟩
    · rw [namesLen]; rfl
    · unfold sRow; rw [namesLen]
  refine sgE ?_
  refine bk ?_
  refine lp (σ := Nat × Option Addr × Nat) (fun s => [(4, i64 s.1), (3, .slice s.2.1 s.1 s.2.2), (0, .slice A a.length c)]) (fun _ => f) (fun s => [.row s.2.1 s.1 s.2.2 9 1 ((names (a.take s.1)).map str)]) (fun s => s.1 ≤ a.length) (fun s => a.length - s.1) (0, none, 0) (Nat.zero_le _) ?_
  rintro ⟨k, A', c'⟩ ρ hk
  replace hk : k ≤ a.length := hk
  show EW _ _ _ _ _ (ups ρ [(4, i64 k), (3, .slice A' k c'), (0, .slice A a.length c)]) f [.row A' k c' 9 1 ((names (a.take k)).map str)]
  refine sq (sg ?_)
  refine ltE (fun h => ?_) (fun h => ?_)
  case refine_2 =>
    refine cFx ?_
    have e : k = a.length := by omega
    subst e
    rw [List.take_length]
    exact jn (A', c') trivial
  have h1 : k < a.length := by omega
  obtain ⟨b1, o1, A1, c1, A2, c2, rfl, hc, hn, hr, ht⟩ := ha.item h1
  refine cTs (sq (bk (rg ?_)))
  refine ix k h1 ?_
  refine ldv hc.1 ?_
  refine bsl fun b2 => ?_
  refine app 0 (fun A3 c3 => ?_) (hlim := by show (k + 1) * 16 ≤ _; omega)
  refine runE ?_
  refine rg ?_
  refine addE ((k + 1 : Nat) : Int) ?_
  refine nxs (k + 1, A3, c3) h1 (by show a.length - (k + 1) < a.length - k; omega) (hh := rowNames h1)
end Go.Hog
