/- F36 S21 F37 F38, in one text. -/
import Derived.Test.YthaleeajeibgeaaF31
set_option linter.unusedVariables false
set_option linter.unusedSimpArgs false
set_option maxRecDepth 100000
set_option maxHeartbeats 1000000
namespace Go.Hog
open Go.RowKit Rp Go.Proofs
def prefixOk (p : Str) : Prop := 4 ≤ p.length ∧ p.length ≤ 16 ∧ p[0]? = some 47 ∧ ∀ c ∈ p.drop 1, c ∈ letsR
instance (p : Str) : Decidable (prefixOk p) := by unfold prefixOk; infer_instance
theorem hasL_one {s : Str} {c : UInt8} : hasL s [c] ↔ c ∈ s := by
  rw [hasL_iff]
  constructor
  · rintro ⟨_, j, h1, h2⟩
    have h3 : j < s.length := by simp at h1; omega
    have h4 : (s[j] :: s.drop (j + 1)).take 1 = [c] := by rw [← List.drop_eq_getElem_cons h3]; exact h2
    have h5 : [s[j]] = [c] := h4
    injection h5 with h5
    rw [← h5]; exact List.getElem_mem h3
  · intro h
    obtain ⟨j, hj, rfl⟩ := List.getElem_of_mem h
    refine ⟨by simp, j, by simp; omega, ?_⟩
    rw [List.drop_eq_getElem_cons hj]; rfl
theorem prefixClo {w : World} {f : View} (hv : On f w) (hm : ML f) {c : UInt8} : Con Try.prog 47 [.int .u8 (c.toNat : Int)] w (Ret w f fun _ v => v = .bool (decide (c ∉ letsR))) := by
  refine enterC hv Try.call47 Try.func47 ?_
  refine sgE ?_
  refine sg ?_
  refine bsl fun b4 => ?_
  refine cvBS 0 [c] rfl rfl (by show 0 < 1; omega) ?_
  refine callV (.bool (decide (hasL letsR [c]))) (vs := [str letsR, str [c]]) (fun w g hs _ hon => scanHas hon (hm.mono hs) (by decide)) ?_
  refine runE ?_
  refine edropH ?_
  refine ew_ret ?_
  refine ret1 (show Value.bool (!(decide (hasL letsR [c]))) = .bool (decide (c ∉ letsR)) from ?_)
  congr 1
  rw [Bool.eq_iff_iff]
  simp [hasL_one]
theorem closurePrefix {w : World} {f : View} (hv : On f w) (hm : ML f) {s : Str} (hs : s.length ≤ LB) : Con Try.prog 24 [str s] w (Ret w f fun _ v => v = .bool (decide (prefixOk s))) := by
  refine enterC hv Try.call24 Try.func24 ?_
  have hlim : s.length ≤ 140737488355328 := hs
  refine sgE ?_
  refine sq (sg ?_)
  refine Go.Hog.lt (fun h1 => ?_) (fun h1 => ?_)
  · refine runE ?_
    refine cT (rr ?_)
    exact ret1 (bF fun hn => by have := hn.1; omega)
  refine Go.Hog.gt (fun h2 => ?_) (fun h2 => ?_)
  · refine runE ?_
    refine cT (rr ?_)
    exact ret1 (bF fun hn => by have := hn.2.1; omega)
  have h0 : 0 < s.length := by omega
  refine ixS 0 s[0] (List.getElem?_eq_getElem h0) ?_
  refine neIE (fun h3 => ?_) (fun h3 => ?_)
  · refine cT (rr ?_)
    refine ret1 (bF fun hn => h3 ?_)
    have h4 := hn.2.2.1
    rw [List.getElem?_eq_getElem h0] at h4
    injection h4 with h4
    rw [h4]; rfl
  have h47 : s[0]? = some 47 := by
    rw [List.getElem?_eq_getElem h0]
    have h4 : ((s[0].toNat : Int)) = ((47 : UInt8).toNat : Int) := by
      by_cases e : ((s[0].toNat : Int)) = ((47 : UInt8).toNat : Int)
      · exact e
      · exact absurd e h3
    rw [u8_eq.1 h4]
  refine cFs ?_
  refine efg [(0, str s)] [] fun ρ => ?_
  have hd : (s.drop 1).length ≤ LB := by rw [List.length_drop]; unfold LB; omega
  refine sg ?_
  refine slSL (s := s) 1 (by omega) ?_
  refine cvSB (s := s.drop 1) (fun b6 c cur fr h5 h6 hcur => ?_) (Nat.le_trans hd (by decide))
  refine callB (p := ∃ x ∈ s.drop 1, decide (x ∉ letsR) = true) (vs := [.slice (some ⟨b6, 0, none⟩) (s.drop 1).length c, .func (.func 47) ⟨[]⟩ ⟨[]⟩]) (fun w g hs' hsn hon => ?_) (fun hp => ?_) (fun hp => ?_)
  · refine containsFuncB (p := fun x => decide (x ∉ letsR)) hon (blk_sl (hsn _ (.head _)) hd h5 h6 hcur) fun w' g' hs2 hon' x => ?_
    exact prefixClo hon' ((hm.mono hs').mono hs2)
  · refine runE ?_
    refine edropH ?_
    refine ew_ret ?_
    refine ret1 (bF fun ha => ?_)
    obtain ⟨x, hx, h7⟩ := hp
    exact (of_decide_eq_true h7) (ha.2.2.2 x hx)
  · refine runE ?_
    refine edropH ?_
    refine ew_ret ?_
    refine ret1 (bT ⟨by omega, by omega, h47, fun c hc => ?_⟩)
    by_cases e : c ∈ letsR
    · exact e
    · exact absurd ⟨c, hc, decide_eq_true e⟩ hp
theorem ref9Prefix {w : World} {f : View} (hv : On f w) {s : Str} (hs : s.length ≤ LB) : Con Try.prog 28 [str s] w (Ret w f fun _ v => v = .bool (decide (prefixOk s))) := by
  refine enterC hv Try.call28 Try.func28 ?_
  have hlim : s.length ≤ 140737488355328 := hs
  refine sgE ?_
  refine sq (sg ?_)
  refine Go.Hog.lt (fun h1 => ?_) (fun h1 => ?_)
  · refine runE ?_
    refine cT (rr ?_)
    exact ret1 (bF fun hn => by have := hn.1; omega)
  refine Go.Hog.gt (fun h2 => ?_) (fun h2 => ?_)
  · refine runE ?_
    refine cT (rr ?_)
    exact ret1 (bF fun hn => by have := hn.2.1; omega)
  have h0 : 0 < s.length := by omega
  refine ixS 0 s[0] (List.getElem?_eq_getElem h0) ?_
  refine neIE (fun h3 => ?_) (fun h3 => ?_)
  · refine cT (rr ?_)
    refine ret1 (bF fun hn => h3 ?_)
    have h4 := hn.2.2.1
    rw [List.getElem?_eq_getElem h0] at h4
    injection h4 with h4
    rw [h4]; rfl
  have h47 : s[0]? = some 47 := by
    rw [List.getElem?_eq_getElem h0]
    have h4 : ((s[0].toNat : Int)) = ((47 : UInt8).toNat : Int) := by
      by_cases e : ((s[0].toNat : Int)) = ((47 : UInt8).toNat : Int)
      · exact e
      · exact absurd e h3
    rw [u8_eq.1 h4]
  refine cFs ?_
  refine efg [(0, str s)] [] fun ρ => ?_
  refine sq (sgE (bk ?_))
  refine lpn (s.length - 1) (fun k => [(3, i64 ((1 + k : Nat) : Int)), (0, str s)]) (fun k => ∀ j (h : j < s.length), 1 ≤ j → j < 1 + k → s[j] ∈ letsR) (fun j h hj hj2 => by omega) ?_
  intro k ρ hk hi
  refine sq (sg ?_)
  refine ltE (fun h => ?_) (fun h => ?_)
  case refine_2 =>
    refine cFx (rr ?_)
    refine ret1 (bT ⟨by omega, by omega, h47, fun c hc => ?_⟩)
    obtain ⟨j, hj, rfl⟩ := List.getElem_of_mem hc
    rw [List.length_drop] at hj
    rw [List.getElem_drop]
    exact hi (1 + j) (by omega) (by omega) (by omega)
  have hk1 : 1 + k < s.length := by omega
  refine cTs (sq (bk (sg ?_)))
  refine ixS (1 + k) s[1 + k] (List.getElem?_eq_getElem hk1) ?_
  refine callB (p := s[1 + k] ∈ letsR) (vs := [str letsR, .int .u8 (s[1 + k].toNat : Int)]) (fun w g hs' _ hon => ref7In hon (by decide)) (fun hm => ?_) (fun hm => ?_)
  · refine runE ?_
    refine cFs (rg ?_)
    refine addE ((1 + (k + 1) : Nat) : Int) ?_
    refine nx fun j hj hj9 hjk => ?_
    by_cases e : j = 1 + k
    · subst e; exact hm
    · exact hi j hj hj9 (by omega)
  · refine runE ?_
    refine cT (rr ?_)
    refine ret1 (bF fun hn => hm ?_)
    have := hn.2.2.2 s[1 + k] (List.mem_iff_getElem.2 ⟨k, by rw [List.length_drop]; omega, by rw [List.getElem_drop]⟩)
    exact this
def risingOk (l : List Str) : Prop := l.length ≤ 8 ∧ (∀ s ∈ l, nameOk s) ∧ l.Pairwise (· < ·)
instance (l : List Str) : Decidable (risingOk l) := by unfold risingOk; infer_instance
theorem adj_pairwise {l : List Str} (h : ∀ i (h1 : i < l.length), 0 < i → l[i - 1] < l[i]) : l.Pairwise (· < ·) := by
  refine List.pairwise_iff_getElem.2 fun i j hi hj hij => ?_
  induction j with
  | zero => omega
  | succ j ih =>
    have h2 := h (j + 1) hj (by omega)
    by_cases e : i = j
    · subst e; exact h2
    · exact List.lt_trans (ih (by omega) (by omega)) h2
theorem regRising {w : World} {f : View} (hv : On f w) {A : Option Addr} {c : Nat} {a : List Str} (ha : Sl f A c a) : Con Try.prog 25 [.slice A a.length c] w (Ret w f fun _ v => v = .bool (decide (risingOk a))) := by
  refine enterC hv Try.call25 Try.func25 ?_
  have hlim := ha.len_lt
  refine sgE ?_
  refine sqJ (σ := Unit) (fun _ => [(0, .slice A a.length c)]) (fun _ => f) (fun _ => []) (fun _ => ∀ j (h : j < a.length), nameOk a[j] ∧ (0 < j → a[j - 1] < a[j])) ?_ ?_
  case refine_2 =>
    rintro ⟨⟩ ρ hA
    replace hA : ∀ j (h : j < a.length), nameOk a[j] ∧ (0 < j → a[j - 1] < a[j]) := hA
    refine sg ?_
    refine leE (fun h => ?_) (fun h => ?_)
    · refine ew_ret ?_
      refine ret1 (bT ⟨by omega, fun s hs => ?_, adj_pairwise fun i hi h0 => (hA i hi).2 h0⟩)
      obtain ⟨j, hj, rfl⟩ := List.getElem_of_mem hs
      exact (hA j hj).1
    · refine ew_ret ?_
      exact ret1 (bF fun hn => by have := hn.1; omega)
  refine sgE (bk ?_)
  refine lpn a.length (fun k => [(7, i64 k), (6, i64 (a.length : Nat)), (5, .slice A a.length c), (0, .slice A a.length c)]) (fun k => ∀ j (h : j < a.length), j < k → nameOk a[j] ∧ (0 < j → a[j - 1] < a[j])) (fun j h hj => by omega) ?_
  intro k ρ hk hi
  refine sg ?_
  refine ltE (fun h => ?_) (fun h => ?_)
  case refine_2 =>
    refine sq (cFx ?_)
    exact jn () fun j hj => hi j hj (by omega)
  have h1 : k < a.length := by omega
  obtain ⟨b1, o1, rfl, hc, hl⟩ := ha.text h1
  refine sq (cTs (sq (bk (sg ?_))))
  refine ix k h1 ?_
  refine ldv hc ?_
  refine runE ?_
  refine efg [(3, i64 k), (4, str a[k]), (7, i64 k), (6, i64 (a.length : Nat)), (5, .slice (some ⟨b1, o1, none⟩) a.length c), (0, .slice (some ⟨b1, o1, none⟩) a.length c)] [] fun ρ => ?_
  refine sg ?_
  refine callB (p := nameOk a[k]) (vs := [str a[k]]) (fun w g hs _ hon => itemName hon hl) (fun hn => ?_) (fun hn => ?_)
  case refine_2 =>
    refine runE ?_
    refine cT (rr ?_)
    exact ret1 (bF fun h2 => hn (h2.2.1 _ (List.getElem_mem h1)))
  refine Go.Hog.gt (fun h0 => ?_) (fun h0 => ?_)
  · have h2 : k - 1 < a.length := by omega
    obtain ⟨b2, o2, e2, hc2, _⟩ := ha.text h2
    injection e2 with e2
    injection e2 with e2 e3
    subst e2 e3
    refine sub ((k - 1 : Nat) : Int) ?_
    refine ix (k - 1) h2 ?_
    refine ldv hc2 ?_
    refine geSE (fun h3 => ?_) (fun h3 => ?_)
    · refine cT (rr ?_)
      exact ret1 (bF fun h4 => h3 (List.pairwise_iff_getElem.1 h4.2.2 (k - 1) k h2 h1 (by omega)))
    · refine cFs (rg ?_)
      refine addE ((k + 1 : Nat) : Int) ?_
      refine nx fun j hj hjk => ?_
      by_cases e : j = k
      · subst e
        refine ⟨hn, fun _ => ?_⟩
        by_cases e : a[j - 1] < a[j]
        · exact e
        · exact absurd e h3
      · exact hi j hj (by omega)
  · refine runE ?_
    refine cFs (rg ?_)
    refine addE ((k + 1 : Nat) : Int) ?_
    refine nx fun j hj hjk => ?_
    by_cases e : j = k
    · subst e
      exact ⟨hn, fun h => by omega⟩
    · exact hi j hj (by omega)
theorem ref7Names {w : World} {f : View} (hv : On f w) {A : Option Addr} {c : Nat} {a : List Str} (ha : Sl f A c a) : Con Try.prog 29 [.slice A a.length c] w (Ret w f fun _ v => v = .bool (decide (risingOk a))) := by
  refine enterC hv Try.call29 Try.func29 ?_
  have hlim := ha.len_lt
  refine sgE ?_
  refine sqJ (σ := Unit) (fun _ => [(0, .slice A a.length c)]) (fun _ => f) (fun _ => []) (fun _ => a.length ≤ 8 → ∀ j (h : j < a.length), nameOk a[j] ∧ (0 < j → a[j - 1] < a[j])) ?_ ?_
  case refine_2 =>
    rintro ⟨⟩ ρ hA
    replace hA : a.length ≤ 8 → ∀ j (h : j < a.length), nameOk a[j] ∧ (0 < j → a[j - 1] < a[j]) := hA
    refine sg ?_
    refine leE (fun h => ?_) (fun h => ?_)
    · have hA := hA (by omega)
      refine ew_ret ?_
      refine ret1 (bT ⟨by omega, fun s hs => ?_, adj_pairwise fun i hi h0 => (hA i hi).2 h0⟩)
      obtain ⟨j, hj, rfl⟩ := List.getElem_of_mem hs
      exact (hA j hj).1
    · refine ew_ret ?_
      exact ret1 (bF fun hn => by have := hn.1; omega)
  refine sgE (bk ?_)
  refine lpn a.length (fun k => [(3, i64 k), (0, .slice A a.length c)]) (fun k => ∀ j (h : j < a.length), j < k → nameOk a[j] ∧ (0 < j → a[j - 1] < a[j])) (fun j h hj => by omega) ?_
  intro k ρ hk hi
  refine sq (sg ?_)
  refine Go.Hog.lt (fun h => ?_) (fun h => ?_)
  case refine_2 =>
    refine runE ?_
    refine cFx ?_
    exact jn () fun _ j hj => hi j hj (by omega)
  refine leE (fun h8 => ?_) (fun h8 => ?_)
  case refine_2 =>
    refine cFx ?_
    exact jn () fun h9 => absurd h9 (by omega)
  have h1 : k < a.length := by omega
  obtain ⟨b1, o1, rfl, hc, hl⟩ := ha.text h1
  refine cTs (sq (bk (sQ ?_)))
  refine ix k h1 ?_
  refine ldv hc ?_
  refine callB (p := nameOk a[k]) (vs := [str a[k]]) (fun w g hs _ hon => ref7Name hon hl) (fun hn => ?_) (fun hn => ?_)
  case refine_2 =>
    refine runE ?_
    refine cT (rr ?_)
    exact ret1 (bF fun h2 => hn (h2.2.1 _ (List.getElem_mem h1)))
  refine Go.Hog.gt (fun h0 => ?_) (fun h0 => ?_)
  · have h2 : k - 1 < a.length := by omega
    obtain ⟨b2, o2, e2, hc2, _⟩ := ha.text h2
    injection e2 with e2
    injection e2 with e2 e3
    subst e2 e3
    refine sub ((k - 1 : Nat) : Int) ?_
    refine ix (k - 1) h2 ?_
    refine ldv hc2 ?_
    refine ix k h1 ?_
    refine ldv hc ?_
    refine geSE (fun h3 => ?_) (fun h3 => ?_)
    · refine cT (rr ?_)
      exact ret1 (bF fun h4 => h3 (List.pairwise_iff_getElem.1 h4.2.2 (k - 1) k h2 h1 (by omega)))
    · refine cFs (rg ?_)
      refine addE ((k + 1 : Nat) : Int) ?_
      refine nx fun j hj hjk => ?_
      by_cases e : j = k
      · subst e
        refine ⟨hn, fun _ => ?_⟩
        by_cases e : a[j - 1] < a[j]
        · exact e
        · exact absurd e h3
      · exact hi j hj (by omega)
  · refine runE ?_
    refine cFs (rg ?_)
    refine addE ((k + 1 : Nat) : Int) ?_
    refine nx fun j hj hjk => ?_
    by_cases e : j = k
    · subst e
      exact ⟨hn, fun h => by omega⟩
    · exact hi j hj (by omega)
theorem ref9Names {w : World} {f : View} (hv : On f w) {A : Option Addr} {c : Nat} {a : List Item} (ha : Sl f A c a) (hsm : a.length ≤ 1000000) :
    Con Try.prog 30 [.slice A a.length c] w (RetM w f [] fun _ L' v => ∃ A' c', v = .slice A' (names a).length c' ∧ L' = [sRow A' c' (names a)]) := by
  refine enterM (L := []) hv (Given.nil _ _) Try.call30 Try.func30 ?_
  refine sgE ?_
  refine sgE ?_
  refine enilrow 9 1 ?_
  refine sqJ (σ := Option Addr × Nat) (fun s => [(3, .slice s.1 a.length s.2)]) (fun _ => f) (fun s => [.row s.1 a.length s.2 9 1 ((names a).map str)]) (fun _ => True) ?_ ?_
  case refine_2 =>
    rintro ⟨A', c'⟩ ρ _
    refine sgE ?_
    refine ew_ret ?_
    refine ret1M ⟨A', c', ?_, ?_⟩
    · rw [namesLen]; rfl
    · unfold sRow; rw [namesLen]
  refine sgE ?_
  refine bk ?_
  refine lp (σ := Nat × Option Addr × Nat) (fun s => [(4, i64 s.1), (3, .slice s.2.1 s.1 s.2.2), (0, .slice A a.length c)]) (fun _ => f) (fun s => [.row s.2.1 s.1 s.2.2 9 1 ((names (a.take s.1)).map str)]) (fun s => s.1 ≤ a.length) (fun s => a.length - s.1) (0, none, 0) (Nat.zero_le _) ?_
  rintro ⟨k, A', c'⟩ ρ hk
  replace hk : k ≤ a.length := hk
  show EW _ _ _ _ _ (ups ρ [(4, i64 k), (3, .slice A' k c'), (0, .slice A a.length c)]) f [.row A' k c' 9 1 ((names (a.take k)).map str)]
  refine sq (sg ?_)
  refine ltE (fun h => ?_) (fun h => ?_)
  case refine_2 =>
    refine cFx ?_
    have e : k = a.length := by omega
    subst e
    rw [List.take_length]
    exact jn (A', c') trivial
  have h1 : k < a.length := by omega
  obtain ⟨b1, o1, A1, c1, A2, c2, rfl, hc, hn, hr, ht⟩ := ha.item h1
  refine cTs (sq (bk (rg ?_)))
  refine ix k h1 ?_
  refine ldv hc.1 ?_
  refine bsl fun b2 => ?_
  refine app 0 (fun A3 c3 => ?_) (hlim := by show (k + 1) * 16 ≤ _; omega)
  refine runE ?_
  refine rg ?_
  refine addE ((k + 1 : Nat) : Int) ?_
  refine nxs (k + 1, A3, c3) h1 (by show a.length - (k + 1) < a.length - k; omega) (hh := rowNames h1)
end Go.Hog

set_option linter.unusedVariables false
set_option linter.unusedSimpArgs false
namespace Go.Hog
open Go.RowKit Rp
structure Pack where
  pre : Str
  items : List Item
  prof : List Str
  pol : Int
  deriving DecidableEq
def packC (p : Pack) (A : Option Addr) (c : Nat) (A2 : Option Addr) (c2 : Nat) : List Value := [str p.pre, .slice A p.items.length c, .slice A2 p.prof.length c2, i64 p.pol]
/-- A pack's parts, as a view has them. -/
structure PackV (f : View) (p : Pack) (A : Option Addr) (c : Nat) (A2 : Option Addr) (c2 : Nat) : Prop where
  pre : p.pre.length ≤ LB
  items : Sl f A c p.items
  prof : Sl f A2 c2 p.prof
  pol : -9223372036854775808 ≤ p.pol ∧ p.pol ≤ 9223372036854775807
theorem PackV.mono {f g : View} {p : Pack} {A : Option Addr} {c : Nat} {A2 : Option Addr} {c2 : Nat} (hs : Sub f g) (h : PackV f p A c A2 c2) : PackV g p A c A2 c2 := ⟨h.pre, h.items.mono hs, h.prof.mono hs, h.pol⟩
instance : Rp Pack where
  sz := 4
  pos := by omega
  rp := fun f x cs => ∃ A c A2 c2, cs = packC x A c A2 c2 ∧ PackV f x A c A2 c2
  len := fun ⟨A, c, A2, c2, h, _⟩ => by rw [h]; rfl
  mono := fun hs ⟨A, c, A2, c2, h, h2⟩ => ⟨A, c, A2, c2, h, h2.mono hs⟩
  one := fun ⟨A, c, A2, c2, h, _⟩ u hu => by rw [h] at hu; simp [packC] at hu; rcases hu with rfl | rfl | rfl | rfl <;> rfl
def mayB (p : Pack) : Prop := prefixOk p.pre ∧ (p.pol = 0 ∨ p.pol = 1) ∧ risingOk (names p.items) ∧ p.prof.length ≤ 8
instance (p : Pack) : Decidable (mayB p) := by unfold mayB; infer_instance
def mayP (p : Pack) : Prop := mayB p ∧ (∀ i ∈ p.items, risingOk i.refs) ∧ ∀ s ∈ p.prof, nameOk s
instance (p : Pack) : Decidable (mayP p) := by unfold mayP; infer_instance
theorem all_step {α : Type} {q : α → Prop} {l : List α} {k : Nat} (h : k < l.length) : (∀ x ∈ l.take (k + 1), q x) ↔ (∀ x ∈ l.take k, q x) ∧ q l[k] := by
  rw [(List.take_append_getElem h).symm]
  constructor
  · intro h2
    exact ⟨fun x hx => h2 x (List.mem_append_left _ hx), h2 _ (List.mem_append_right _ (List.mem_singleton.2 rfl))⟩
  · rintro ⟨h2, h3⟩ x hx
    rcases List.mem_append.1 hx with hx | hx
    · exact h2 x hx
    · rw [List.mem_singleton] at hx
      subst hx; exact h3
theorem all_take {α : Type} {q : α → Prop} {l : List α} : (∀ x ∈ l.take l.length, q x) ↔ ∀ x ∈ l, q x := by rw [List.take_length]
theorem bB {p q : Prop} [Decidable p] [Decidable q] (h : p ↔ q) : Value.bool (decide p) = .bool (decide q) := by rw [decide_eq_decide.2 h]
theorem take0 {α : Type} {q : α → Prop} {l : List α} : ∀ x ∈ l.take 0, q x := fun x hx => by simp at hx
end Go.Hog

set_option linter.unusedVariables false
set_option linter.unusedSimpArgs false
set_option maxRecDepth 100000
set_option maxHeartbeats 1000000
namespace Go.Hog
open Go.RowKit Rp Go.Proofs
theorem regMay {w : World} {f : View} (hv : On f w) (hm : ML f) {p : Pack} {A : Option Addr} {c : Nat} {A2 : Option Addr} {c2 : Nat} (hp : PackV f p A c A2 c2) (hsm : p.items.length ≤ 1000000) :
    Con Try.prog 13 [.agg ⟨packC p A c A2 c2⟩] w (Ret w f fun _ v => v = .bool (decide (mayP p))) := by
  refine enterC hv Try.call13 Try.func13 ?_
  refine sg ?_
  refine box (vs := packC p A c A2 c2) fun b1 => ?_
  refine runE ?_
  refine efrz 0 fun g hs hq => ?_
  have hm1 := hm.mono hs
  have hp1 := hp.mono hs
  have k0 : g.cell? ⟨b1, 0, none⟩ = some (str p.pre) := blk_seen hq
  have k1 : g.cell? ⟨b1, 1, none⟩ = some (.slice A p.items.length c) := blk_seen hq
  have k2 : g.cell? ⟨b1, 2, none⟩ = some (.slice A2 p.prof.length c2) := blk_seen hq
  have k3 : g.cell? ⟨b1, 3, none⟩ = some (i64 p.pol) := blk_seen hq
  have hli := hp1.items.len_lt
  have hlp := hp1.prof.len_lt
  have hnb : ∀ s ∈ names p.items, s.length ≤ LB := fun s hs => by
    obtain ⟨x, hx, rfl⟩ := List.mem_map.1 hs
    obtain ⟨j, hj, rfl⟩ := List.getElem_of_mem hx
    obtain ⟨_, _, _, _, _, _, _, _, hn, _, _⟩ := hp1.items.item hj
    exact hn
  have hnl : (names p.items).length = p.items.length := List.length_map _
  refine efg [(1, .pointer (some ⟨b1, 0, none⟩))] [] fun ρ => ?_
  refine sqJ (σ := Unit) (fun _ => [(3, .bool (decide (mayB p))), (1, .pointer (some ⟨b1, 0, none⟩))]) (fun _ => g) (fun _ => []) (fun _ => True) ?_ ?_
  · refine rg ?_
    refine ldv k0 ?_
    refine callB (p := prefixOk p.pre) (vs := [str p.pre]) (fun w g hs _ hon => closurePrefix hon (hm1.mono hs) hp1.pre) (fun h1 => ?_) (fun h1 => ?_)
    case refine_2 =>
      refine runE ?_
      exact jn () trivial (ha := ⟨bF fun h => h1 h.1, rfl, trivial⟩)
    refine ldv k3 ?_
    refine eqI (fun h2 => ?_) (fun h2 => ?_)
    · refine ldv k1 ?_
      refine callMo (vs := [.slice A p.items.length c]) (R := fun L' v => ∃ A' c', v = .slice A' (names p.items).length c' ∧ L' = [sRow A' c' (names p.items)]) (fun w g hs hsn hon => itemNames hon (hp1.items.mono hs) hsm) (fun v L' hR => ?_)
      obtain ⟨A5, c5, rfl, rfl⟩ := hR
      refine callB (p := risingOk (names p.items)) (vs := [.slice A5 (names p.items).length c5]) (fun w g hs hsn hon => regRising hon (Sl.ofTexts (hsn _ (.head _)) rfl hnb (by rw [hnl]; exact hli))) (fun h3 => ?_) (fun h3 => ?_)
      case refine_2 =>
        refine rwL (L' := []) (fun _ h => h.sublist (List.nil_sublist _)) ?_
        refine runE ?_
        exact jn () trivial (ha := ⟨bF fun h => h3 h.2.2.1, rfl, trivial⟩)
      refine rwL (L' := []) (fun _ h => h.sublist (List.nil_sublist _)) ?_
      refine ldv k2 ?_
      refine leE (fun h4 => ?_) (fun h4 => ?_)
      · exact jn () trivial (ha := ⟨bT ⟨h1, .inl h2, h3, by omega⟩, rfl, trivial⟩)
      · exact jn () trivial (ha := ⟨bF fun h => h4 (by have := h.2.2.2; omega), rfl, trivial⟩)
    refine ldv k3 ?_
    refine eqI (fun h2' => ?_) (fun h2' => ?_)
    case refine_2 =>
      refine runE ?_
      exact jn () trivial (ha := ⟨bF fun h => by rcases h.2.1 with h | h; exact h2 h; exact h2' h, rfl, trivial⟩)
    · refine ldv k1 ?_
      refine callMo (vs := [.slice A p.items.length c]) (R := fun L' v => ∃ A' c', v = .slice A' (names p.items).length c' ∧ L' = [sRow A' c' (names p.items)]) (fun w g hs hsn hon => itemNames hon (hp1.items.mono hs) hsm) (fun v L' hR => ?_)
      obtain ⟨A5, c5, rfl, rfl⟩ := hR
      refine callB (p := risingOk (names p.items)) (vs := [.slice A5 (names p.items).length c5]) (fun w g hs hsn hon => regRising hon (Sl.ofTexts (hsn _ (.head _)) rfl hnb (by rw [hnl]; exact hli))) (fun h3 => ?_) (fun h3 => ?_)
      case refine_2 =>
        refine rwL (L' := []) (fun _ h => h.sublist (List.nil_sublist _)) ?_
        refine runE ?_
        exact jn () trivial (ha := ⟨bF fun h => h3 h.2.2.1, rfl, trivial⟩)
      refine rwL (L' := []) (fun _ h => h.sublist (List.nil_sublist _)) ?_
      refine ldv k2 ?_
      refine leE (fun h4 => ?_) (fun h4 => ?_)
      · exact jn () trivial (ha := ⟨bT ⟨h1, .inr h2', h3, by omega⟩, rfl, trivial⟩)
      · exact jn () trivial (ha := ⟨bF fun h => h4 (by have := h.2.2.2; omega), rfl, trivial⟩)
  rintro ⟨⟩ ρ _
  refine sqJ (σ := Unit) (fun _ => [(3, .bool (decide (mayB p ∧ ∀ i ∈ p.items, risingOk i.refs))), (1, .pointer (some ⟨b1, 0, none⟩))]) (fun _ => g) (fun _ => []) (fun _ => True) ?_ ?_
  · refine sg ?_
    refine ldv k1 ?_
    refine runE ?_
    refine bk ?_
    refine lpn p.items.length (fun k => [(36, i64 k), (35, i64 (p.items.length : Nat)), (34, .slice A p.items.length c), (3, .bool (decide (mayB p ∧ ∀ i ∈ p.items.take k, risingOk i.refs))), (1, .pointer (some ⟨b1, 0, none⟩))]) (fun _ => True) trivial ?_ (ha := ⟨rfl, rfl, rfl, bB ⟨fun h => ⟨h, take0⟩, fun h => h.1⟩, rfl, trivial⟩)
    intro k ρ hk _
    refine sg ?_
    refine ltE (fun h => ?_) (fun h => ?_)
    case refine_2 =>
      refine sq (cFx ?_)
      have e : k = p.items.length := by omega
      subst e
      refine jn () trivial (ha := ⟨bB (by rw [all_take]), rfl, trivial⟩)
    have h1 : k < p.items.length := by omega
    obtain ⟨b2, o2, A3, c3, A4, c4, rfl, hc, hn, hr, ht⟩ := hp1.items.item h1
    have hst : (mayB p ∧ ∀ i ∈ p.items.take (k + 1), risingOk i.refs) ↔ (mayB p ∧ ∀ i ∈ p.items.take k, risingOk i.refs) ∧ risingOk p.items[k].refs := by
      rw [all_step h1, and_assoc]
    refine sq (cTs (sq (bk (sg ?_))))
    refine ix k h1 ?_
    refine ldvA hc ?_
    refine alloc fun bi => ?_
    refine stE 0 ?_
    by_cases hb : mayB p ∧ ∀ i ∈ p.items.take k, risingOk i.refs
    · rw [decide_eq_true hb]
      refine rg ?_
      refine ldo 0 ?_
      refine callB (p := risingOk p.items[k].refs) (vs := [.slice A3 p.items[k].refs.length c3]) (fun w g hs hsn hon => regRising hon (hr.mono hs)) (fun h3 => ?_) (fun h3 => ?_)
      · refine runE ?_
        refine edropH ?_
        refine rg ?_
        refine addE ((k + 1 : Nat) : Int) ?_
        exact nx trivial (ha := ⟨rfl, rfl, rfl, bT (hst.2 ⟨hb, h3⟩), rfl, trivial⟩)
      · refine runE ?_
        refine edropH ?_
        refine rg ?_
        refine addE ((k + 1 : Nat) : Int) ?_
        exact nx trivial (ha := ⟨rfl, rfl, rfl, bF fun h => h3 (hst.1 h).2, rfl, trivial⟩)
    · rw [decide_eq_false hb]
      refine rg ?_
      refine runE ?_
      refine edropH ?_
      refine rg ?_
      refine addE ((k + 1 : Nat) : Int) ?_
      exact nx trivial (ha := ⟨rfl, rfl, rfl, bF fun h => hb (hst.1 h).1, rfl, trivial⟩)
  rintro ⟨⟩ ρ _
  refine sqJ (σ := Unit) (fun _ => [(3, .bool (decide (mayP p)))]) (fun _ => g) (fun _ => []) (fun _ => True) ?_ ?_
  case refine_2 =>
    rintro ⟨⟩ ρ _
    refine sgE ?_
    refine ew_ret ?_
    exact ret1 rfl
  refine sg ?_
  refine ldv k2 ?_
  refine runE ?_
  refine bk ?_
  refine lpn p.prof.length (fun k => [(50, i64 k), (49, i64 (p.prof.length : Nat)), (48, .slice A2 p.prof.length c2), (3, .bool (decide ((mayB p ∧ ∀ i ∈ p.items, risingOk i.refs) ∧ ∀ s ∈ p.prof.take k, nameOk s)))]) (fun _ => True) trivial ?_ (ha := ⟨rfl, rfl, rfl, bB ⟨fun h => ⟨h, take0⟩, fun h => h.1⟩, trivial⟩)
  intro k ρ hk _
  refine sg ?_
  refine ltE (fun h => ?_) (fun h => ?_)
  case refine_2 =>
    refine sq (cFx ?_)
    have e : k = p.prof.length := by omega
    subst e
    refine jn () trivial (ha := ⟨bB (by rw [all_take]; unfold mayP; rw [and_assoc]), trivial⟩)
  have h1 : k < p.prof.length := by omega
  obtain ⟨b2, o2, rfl, hc, hl⟩ := hp1.prof.text h1
  have hst : ((mayB p ∧ ∀ i ∈ p.items, risingOk i.refs) ∧ ∀ s ∈ p.prof.take (k + 1), nameOk s) ↔ ((mayB p ∧ ∀ i ∈ p.items, risingOk i.refs) ∧ ∀ s ∈ p.prof.take k, nameOk s) ∧ nameOk p.prof[k] := by
    rw [all_step h1]
    exact ⟨fun ⟨a, b, c⟩ => ⟨⟨a, b⟩, c⟩, fun ⟨⟨a, b⟩, c⟩ => ⟨a, b, c⟩⟩
  refine sq (cTs (sq (bk (sg ?_))))
  refine ix k h1 ?_
  refine ldv hc ?_
  refine runE ?_
  by_cases hb : (mayB p ∧ ∀ i ∈ p.items, risingOk i.refs) ∧ ∀ s ∈ p.prof.take k, nameOk s
  · rw [decide_eq_true hb]
    refine rg ?_
    refine callB (p := nameOk p.prof[k]) (vs := [str p.prof[k]]) (fun w g hs hsn hon => itemName hon hl) (fun h3 => ?_) (fun h3 => ?_)
    · refine runE ?_
      refine rg ?_
      refine addE ((k + 1 : Nat) : Int) ?_
      exact nx trivial (ha := ⟨rfl, rfl, rfl, bT (hst.2 ⟨hb, h3⟩), trivial⟩)
    · refine runE ?_
      refine rg ?_
      refine addE ((k + 1 : Nat) : Int) ?_
      exact nx trivial (ha := ⟨rfl, rfl, rfl, bF fun h => h3 (hst.1 h).2, trivial⟩)
  · rw [decide_eq_false hb]
    refine rg ?_
    refine runE ?_
    refine rg ?_
    refine addE ((k + 1 : Nat) : Int) ?_
    exact nx trivial (ha := ⟨rfl, rfl, rfl, bF fun h => hb (hst.1 h).1, trivial⟩)
end Go.Hog

set_option linter.unusedVariables false
set_option linter.unusedSimpArgs false
set_option maxRecDepth 100000
set_option maxHeartbeats 1000000
namespace Go.Hog
open Go.RowKit Rp Go.Proofs
theorem ref11May {w : World} {f : View} (hv : On f w) {p : Pack} {A : Option Addr} {c : Nat} {A2 : Option Addr} {c2 : Nat} (hp : PackV f p A c A2 c2) (hsm : p.items.length ≤ 1000000) :
    Con Try.prog 14 [.agg ⟨packC p A c A2 c2⟩] w (Ret w f fun _ v => v = .bool (decide (mayP p))) := by
  refine enterC hv Try.call14 Try.func14 ?_
  refine sg ?_
  refine box (vs := packC p A c A2 c2) fun b1 => ?_
  refine runE ?_
  refine efrz 0 fun g hs hq => ?_
  have hp1 := hp.mono hs
  have k0 : g.cell? ⟨b1, 0, none⟩ = some (str p.pre) := blk_seen hq
  have k1 : g.cell? ⟨b1, 1, none⟩ = some (.slice A p.items.length c) := blk_seen hq
  have k2 : g.cell? ⟨b1, 2, none⟩ = some (.slice A2 p.prof.length c2) := blk_seen hq
  have k3 : g.cell? ⟨b1, 3, none⟩ = some (i64 p.pol) := blk_seen hq
  have hli := hp1.items.len_lt
  have hlp := hp1.prof.len_lt
  have hnb : ∀ s ∈ names p.items, s.length ≤ LB := fun s hs => by
    obtain ⟨x, hx, rfl⟩ := List.mem_map.1 hs
    obtain ⟨j, hj, rfl⟩ := List.getElem_of_mem hx
    obtain ⟨_, _, _, _, _, _, _, _, hn, _, _⟩ := hp1.items.item hj
    exact hn
  have hnl : (names p.items).length = p.items.length := List.length_map _
  refine efg [(1, .pointer (some ⟨b1, 0, none⟩))] [] fun ρ => ?_
  refine sqJ (σ := Unit) (fun _ => [(1, .pointer (some ⟨b1, 0, none⟩))]) (fun _ => g) (fun _ => []) (fun _ => mayB p) ?_ ?_
  · refine sg ?_
    refine ldv k0 ?_
    refine callB (p := prefixOk p.pre) (vs := [str p.pre]) (fun w g hs _ hon => ref9Prefix hon hp1.pre) (fun h1 => ?_) (fun h1 => ?_)
    case refine_2 =>
      refine runE ?_
      refine cT (rr ?_)
      exact ret1 (bF fun h => h1 h.1.1)
    refine ldv k3 ?_
    refine neI (fun h2 => ?_) (fun h2 => ?_)
    · refine ldv k3 ?_
      refine neI (fun h2' => ?_) (fun h2' => ?_)
      · refine runE ?_
        refine cT (rr ?_)
        exact ret1 (bF fun h => by rcases h.1.2.1 with h | h; exact h2 h; exact h2' h)
      have h2'' : p.pol = 1 := by
        by_cases e : p.pol = 1
        · exact e
        · exact absurd e h2'
      refine ldv k1 ?_
      refine callMo (vs := [.slice A p.items.length c]) (R := fun L' v => ∃ A' c', v = .slice A' (names p.items).length c' ∧ L' = [sRow A' c' (names p.items)]) (fun w g hs hsn hon => ref9Names hon (hp1.items.mono hs) hsm) (fun v L' hR => ?_)
      obtain ⟨A5, c5, rfl, rfl⟩ := hR
      refine callB (p := risingOk (names p.items)) (vs := [.slice A5 (names p.items).length c5]) (fun w g hs hsn hon => ref7Names hon (Sl.ofTexts (hsn _ (.head _)) rfl hnb (by rw [hnl]; exact hli))) (fun h3 => ?_) (fun h3 => ?_)
      case refine_2 =>
        refine rwL (L' := []) (fun _ h => h.sublist (List.nil_sublist _)) ?_
        refine runE ?_
        refine cT (rr ?_)
        exact ret1 (bF fun h => h3 h.1.2.2.1)
      refine rwL (L' := []) (fun _ h => h.sublist (List.nil_sublist _)) ?_
      refine ldv k2 ?_
      refine gtE (fun h4 => ?_) (fun h4 => ?_)
      · refine cT (rr ?_)
        exact ret1 (bF fun h => by have := h.1.2.2.2; omega)
      · refine cFs ?_
        exact jn () ⟨h1, .inr h2'', h3, by omega⟩
    · have h2'' : p.pol = 0 := by
        by_cases e : p.pol = 0
        · exact e
        · exact absurd e h2
      refine ldv k1 ?_
      refine callMo (vs := [.slice A p.items.length c]) (R := fun L' v => ∃ A' c', v = .slice A' (names p.items).length c' ∧ L' = [sRow A' c' (names p.items)]) (fun w g hs hsn hon => ref9Names hon (hp1.items.mono hs) hsm) (fun v L' hR => ?_)
      obtain ⟨A5, c5, rfl, rfl⟩ := hR
      refine callB (p := risingOk (names p.items)) (vs := [.slice A5 (names p.items).length c5]) (fun w g hs hsn hon => ref7Names hon (Sl.ofTexts (hsn _ (.head _)) rfl hnb (by rw [hnl]; exact hli))) (fun h3 => ?_) (fun h3 => ?_)
      case refine_2 =>
        refine rwL (L' := []) (fun _ h => h.sublist (List.nil_sublist _)) ?_
        refine runE ?_
        refine cT (rr ?_)
        exact ret1 (bF fun h => h3 h.1.2.2.1)
      refine rwL (L' := []) (fun _ h => h.sublist (List.nil_sublist _)) ?_
      refine ldv k2 ?_
      refine gtE (fun h4 => ?_) (fun h4 => ?_)
      · refine cT (rr ?_)
        exact ret1 (bF fun h => by have := h.1.2.2.2; omega)
      · refine cFs ?_
        exact jn () ⟨h1, .inl h2'', h3, by omega⟩
  rintro ⟨⟩ ρ hB
  replace hB : mayB p := hB
  refine sqJ (σ := Unit) (fun _ => [(1, .pointer (some ⟨b1, 0, none⟩))]) (fun _ => g) (fun _ => []) (fun _ => ∀ i ∈ p.items, risingOk i.refs) ?_ ?_
  · refine sgE (bk ?_)
    refine lpn p.items.length (fun k => [(3, i64 k), (1, .pointer (some ⟨b1, 0, none⟩))]) (fun k => ∀ i ∈ p.items.take k, risingOk i.refs) take0 ?_
    intro k ρ hk hi
    refine sq (sg ?_)
    refine ldv k1 ?_
    refine ltE (fun h => ?_) (fun h => ?_)
    case refine_2 =>
      refine cFx ?_
      have e : k = p.items.length := by omega
      subst e
      exact jn () (all_take.1 hi)
    have h1 : k < p.items.length := by omega
    obtain ⟨b2, o2, A3, c3, A4, c4, rfl, hc, hn, hr, ht⟩ := hp1.items.item h1
    refine cTs (sq (bk (sg ?_)))
    refine ldv k1 ?_
    refine ix k h1 ?_
    refine ldv hc.2.1 ?_
    refine callB (p := risingOk p.items[k].refs) (vs := [.slice A3 p.items[k].refs.length c3]) (fun w g hs hsn hon => ref7Names hon (hr.mono hs)) (fun h3 => ?_) (fun h3 => ?_)
    · refine runE ?_
      refine cFs (rg ?_)
      refine addE ((k + 1 : Nat) : Int) ?_
      exact nx ((all_step h1).2 ⟨hi, h3⟩)
    · refine runE ?_
      refine cT (rr ?_)
      exact ret1 (bF fun h => h3 (h.2.1 _ (List.getElem_mem h1)))
  rintro ⟨⟩ ρ hR
  replace hR : ∀ i ∈ p.items, risingOk i.refs := hR
  refine sq (sgE (bk ?_))
  refine lpn p.prof.length (fun k => [(4, i64 k), (1, .pointer (some ⟨b1, 0, none⟩))]) (fun k => ∀ s ∈ p.prof.take k, nameOk s) take0 ?_
  intro k ρ hk hi
  refine sq (sg ?_)
  refine ldv k2 ?_
  refine ltE (fun h => ?_) (fun h => ?_)
  case refine_2 =>
    refine cFx (rr ?_)
    have e : k = p.prof.length := by omega
    subst e
    exact ret1 (bT ⟨hB, hR, all_take.1 hi⟩)
  have h1 : k < p.prof.length := by omega
  obtain ⟨b2, o2, rfl, hc, hl⟩ := hp1.prof.text h1
  refine cTs (sq (bk (sg ?_)))
  refine ldv k2 ?_
  refine ix k h1 ?_
  refine ldv hc ?_
  refine callB (p := nameOk p.prof[k]) (vs := [str p.prof[k]]) (fun w g hs hsn hon => ref7Name hon hl) (fun h3 => ?_) (fun h3 => ?_)
  · refine runE ?_
    refine cFs (rg ?_)
    refine addE ((k + 1 : Nat) : Int) ?_
    exact nx ((all_step h1).2 ⟨hi, h3⟩)
  · refine runE ?_
    refine cT (rr ?_)
    exact ret1 (bF fun h => h3 (h.2.2 _ (List.getElem_mem h1)))
end Go.Hog
