/- Contracts: names and hashes, the program's and the document's. -/
import Derived.Test.YtdidefhdcinecaaGreatDoorEW
import Derived.Test.YtdidefhdcinecaaGreatDoorE17
import Derived.Test.YtdidefhdcinecaaGreatDoorS17
import Derived.Test.YtdidefhdcinecaaGreatDoorMH
set_option linter.unusedVariables false
set_option linter.unusedSimpArgs false
set_option maxRecDepth 100000
set_option maxHeartbeats 1000000
namespace Go.Hog
open Go.RowKit Rp Go.Proofs
def sgs : Str := [48, 49, 50, 51, 52, 53, 54, 55, 56, 57, 97, 98, 99, 100, 102, 103, 104, 105, 106, 107, 108, 109, 110, 112, 113, 114, 115, 118, 119, 120, 121, 122]
def lets : Str := [48, 49, 50, 51, 52, 53, 54, 55, 56, 57, 97, 98, 99, 100, 101, 102, 103, 104, 105, 106, 107, 108, 109, 110, 111, 112, 113, 114, 115, 116, 117, 118, 119, 120, 121, 122]
def letsR : Str := [97, 98, 99, 100, 101, 102, 103, 104, 105, 106, 107, 108, 109, 110, 111, 112, 113, 114, 115, 116, 117, 118, 119, 120, 121, 122, 48, 49, 50, 51, 52, 53, 54, 55, 56, 57]
def more4 : Str := [46, 43, 95, 45]
def letsM : Str := [48, 49, 50, 51, 52, 53, 54, 55, 56, 57, 97, 98, 99, 100, 101, 102, 103, 104, 105, 106, 107, 108, 109, 110, 111, 112, 113, 114, 115, 116, 117, 118, 119, 120, 121, 122, 46, 43, 95, 45]
theorem lets_iff {c : UInt8} : c ∈ letsR ↔ c ∈ lets :=
  ⟨fun h => (show ∀ c ∈ letsR, c ∈ lets by decide +kernel) c h, fun h => (show ∀ c ∈ lets, c ∈ letsR by decide +kernel) c h⟩
theorem letsM_iff {c : UInt8} : c ∈ letsM ↔ c ∈ letsR ∨ c ∈ more4 := by
  rw [lets_iff, ← List.mem_append]
  exact Iff.rfl
def nameOk (s : Str) : Prop := 10 ≤ s.length ∧ s.length ≤ 30 ∧ s[8]? = some 45 ∧ (∀ c ∈ s.take 8, c ∈ sgs) ∧ (∀ c ∈ (s.take 10).drop 9, c ∈ lets) ∧ (∀ c ∈ s.drop 10, c ∈ letsM)
instance (s : Str) : Decidable (nameOk s) := by unfold nameOk; infer_instance
def hashL (s : Str) : Str := if nameOk s then s.take 8 else []
theorem u8_eq {a b : UInt8} : ((a.toNat : Int) = (b.toNat : Int)) ↔ a = b :=
  ⟨fun h => UInt8.toNat_inj.1 (by omega), fun h => by rw [h]⟩
theorem nameOk_iff {s : Str} (h10 : 10 ≤ s.length) (h30 : s.length ≤ 30) (h8 : s[8]? = some 45) : nameOk s ↔ (∀ j (h : j < s.length), j < 8 → s[j] ∈ sgs) ∧ (∀ j (h : j < s.length), 9 ≤ j → s[j] ∈ letsR ∨ (j ≠ 9 ∧ s[j] ∈ more4)) := by
  unfold nameOk
  constructor
  · rintro ⟨_, _, _, h1, h2, h3⟩
    refine ⟨fun j hj hj8 => h1 _ ?_, fun j hj hj9 => ?_⟩
    · exact List.mem_iff_getElem.2 ⟨j, by rw [List.length_take]; omega, by rw [List.getElem_take]⟩
    · by_cases e : j = 9
      · subst e
        exact .inl (lets_iff.2 (h2 _ (List.mem_iff_getElem.2 ⟨0, by rw [List.length_drop, List.length_take]; omega, by rw [List.getElem_drop, List.getElem_take]⟩)))
      · rcases letsM_iff.1 (h3 s[j] (List.mem_iff_getElem.2 ⟨j - 10, by rw [List.length_drop]; omega, by rw [List.getElem_drop]; congr 1; omega⟩)) with h | h
        · exact .inl h
        · exact .inr ⟨e, h⟩
  · rintro ⟨h1, h2⟩
    refine ⟨h10, h30, h8, fun c hc => ?_, fun c hc => ?_, fun c hc => ?_⟩
    · obtain ⟨j, hj, rfl⟩ := List.mem_iff_getElem.1 hc
      rw [List.length_take] at hj
      rw [List.getElem_take]
      exact h1 j (by omega) (by omega)
    · obtain ⟨j, hj, rfl⟩ := List.mem_iff_getElem.1 hc
      rw [List.length_drop, List.length_take] at hj
      rw [List.getElem_drop, List.getElem_take]
      rcases h2 (9 + j) (by omega) (by omega) with h | h
      · exact lets_iff.1 h
      · exact absurd (by omega) h.1
    · obtain ⟨j, hj, rfl⟩ := List.mem_iff_getElem.1 hc
      rw [List.length_drop] at hj
      rw [List.getElem_drop]
      rcases h2 (10 + j) (by omega) (by omega) with h | h
      · exact letsM_iff.2 (.inl h)
      · exact letsM_iff.2 (.inr h.2)
theorem ref7In {w : World} {f : View} (hv : On f w) {s : Str} {c : UInt8} (hs : s.length ≤ LB) : Con Tryz.prog 53 [str s, .int .u8 (c.toNat : Int)] w (Ret w f fun _ v => v = .bool (decide (c ∈ s))) := by
  refine enterC hv Tryz.call53 Tryz.func53 ?_
  have hlim : s.length ≤ 140737488355328 := hs
  refine sgE (sq (sgE (bk ?_)))
  refine lpn s.length (fun k => [(5, i64 k), (0, str s), (1, .int .u8 (c.toNat : Int))]) (fun k => ∀ j (h : j < s.length), j < k → s[j] ≠ c) (fun j h hj => by omega) ?_
  intro k ρ hk hi
  refine sq (sg ?_)
  refine ltE (fun h => ?_) (fun h => ?_)
  case refine_2 =>
    refine cFx (rr ?_)
    refine ret1 (bF fun hm => ?_)
    obtain ⟨j, hj, e⟩ := List.getElem_of_mem hm
    exact hi j hj (by omega) e
  have h1 : k < s.length := by omega
  refine cTs (sq (bk (sg ?_)))
  refine ixS k s[k] (List.getElem?_eq_getElem h1) ?_
  refine eqIE (fun h => ?_) (fun h => ?_)
  · refine cT (rr ?_)
    exact ret1 (bT (u8_eq.1 h ▸ List.getElem_mem h1))
  · refine cFs (rg ?_)
    refine addE ((k + 1 : Nat) : Int) ?_
    refine nx fun j hj hjk => ?_
    by_cases e : j = k
    · subst e; exact fun e => h (u8_eq.2 e)
    · exact hi j hj (by omega)
theorem ref7Name {w : World} {f : View} (hv : On f w) {s : Str} (hs : s.length ≤ LB) : Con Tryz.prog 47 [str s] w (Ret w f fun _ v => v = .bool (decide (nameOk s))) := by
  refine enterC hv Tryz.call47 Tryz.func47 ?_
  have hlim : s.length ≤ 140737488355328 := hs
  refine sgE ?_
  refine sq (sg ?_)
  refine Go.Hog.lt (fun h1 => ?_) (fun h1 => ?_)
  · refine runE ?_
    refine cT (rr ?_)
    exact ret1 (bF fun hn => by have := hn.1; omega)
  refine Go.Hog.gt (fun h2 => ?_) (fun h2 => ?_)
  · refine runE ?_
    refine cT (rr ?_)
    exact ret1 (bF fun hn => by have := hn.2.1; omega)
  have h8 : 8 < s.length := by omega
  refine ixS 8 s[8] (List.getElem?_eq_getElem h8) ?_
  refine neIE (fun h3 => ?_) (fun h3 => ?_)
  · refine cT (rr ?_)
    refine ret1 (bF fun hn => h3 ?_)
    have h4 := hn.2.2.1
    rw [List.getElem?_eq_getElem h8] at h4
    injection h4 with h4
    rw [h4]; rfl
  have h45 : s[8]? = some 45 := by
    rw [List.getElem?_eq_getElem h8]
    have h4 : ((s[8].toNat : Int)) = ((45 : UInt8).toNat : Int) := by
      by_cases e : ((s[8].toNat : Int)) = ((45 : UInt8).toNat : Int)
      · exact e
      · exact absurd e h3
    rw [u8_eq.1 h4]
  have hiff := nameOk_iff (s := s) (by omega) (by omega) h45
  refine cFs ?_
  refine efg [(0, str s)] [] fun ρ => ?_
  refine sqJ (σ := Unit) (fun _ => [(0, str s)]) (fun _ => f) (fun _ => []) (fun _ => ∀ j (h : j < s.length), j < 8 → s[j] ∈ sgs) ?_ ?_
  · refine sgE (bk ?_)
    refine lpn 8 (fun k => [(3, i64 k), (0, str s)]) (fun k => ∀ j (h : j < s.length), j < k → s[j] ∈ sgs) (fun j h hj => by omega) ?_
    intro k ρ hk hi
    refine sq (sg ?_)
    refine ltE (fun h => ?_) (fun h => ?_)
    case refine_2 =>
      refine cFx ?_
      exact jn () fun j hj hj8 => hi j hj (by omega)
    have hk1 : k < s.length := by omega
    refine cTs (sq (bk (sg ?_)))
    refine ixS k s[k] (List.getElem?_eq_getElem hk1) ?_
    refine callB (p := s[k] ∈ sgs) (vs := [str sgs, .int .u8 (s[k].toNat : Int)]) (fun w g hs' _ hon => ref7In hon (by decide)) (fun hm => ?_) (fun hm => ?_)
    · refine runE ?_
      refine cFs (rg ?_)
      refine addE ((k + 1 : Nat) : Int) ?_
      refine nx fun j hj hjk => ?_
      by_cases e : j = k
      · subst e; exact hm
      · exact hi j hj (by omega)
    · refine runE ?_
      refine cT (rr ?_)
      exact ret1 (bF fun hn => hm ((hiff.1 hn).1 k hk1 (by omega)))
  rintro ⟨⟩ ρ hA
  replace hA : ∀ j (h : j < s.length), j < 8 → s[j] ∈ sgs := hA
  refine sq (sgE (bk ?_))
  refine lpn (s.length - 9) (fun k => [(4, i64 ((9 + k : Nat) : Int)), (0, str s)]) (fun k => ∀ j (h : j < s.length), 9 ≤ j → j < 9 + k → s[j] ∈ letsR ∨ (j ≠ 9 ∧ s[j] ∈ more4)) (fun j h hj hj2 => by omega) ?_
  intro k ρ hk hi
  refine sq (sg ?_)
  refine ltE (fun h => ?_) (fun h => ?_)
  case refine_2 =>
    refine cFx (rr ?_)
    exact ret1 (bT (hiff.2 ⟨hA, fun j hj hj9 => hi j hj hj9 (by omega)⟩))
  have hk1 : 9 + k < s.length := by omega
  refine cTs (sq (bk (sg ?_)))
  refine ixS (9 + k) s[9 + k] (List.getElem?_eq_getElem hk1) ?_
  refine callB (p := s[9 + k] ∈ letsR) (vs := [str letsR, .int .u8 (s[9 + k].toNat : Int)]) (fun w g hs' _ hon => ref7In hon (by decide)) (fun hm => ?_) (fun hm => ?_)
  · refine runE ?_
    refine cFs (rg ?_)
    refine addE ((9 + (k + 1) : Nat) : Int) ?_
    refine nx fun j hj hj9 hjk => ?_
    by_cases e : j = 9 + k
    · subst e; exact .inl hm
    · exact hi j hj hj9 (by omega)
  refine eqI (fun h9 => ?_) (fun h9 => ?_)
  · refine runE ?_
    refine cT (rr ?_)
    refine ret1 (bF fun hn => ?_)
    rcases (hiff.1 hn).2 (9 + k) hk1 (by omega) with h5 | h5
    · exact hm h5
    · exact h5.1 (by omega)
  refine ixS (9 + k) s[9 + k] (List.getElem?_eq_getElem hk1) ?_
  refine callB (p := s[9 + k] ∈ more4) (vs := [str more4, .int .u8 (s[9 + k].toNat : Int)]) (fun w g hs' _ hon => ref7In hon (by decide)) (fun hm2 => ?_) (fun hm2 => ?_)
  · refine runE ?_
    refine cFs (rg ?_)
    refine addE ((9 + (k + 1) : Nat) : Int) ?_
    refine nx fun j hj hj9 hjk => ?_
    by_cases e : j = 9 + k
    · subst e; exact .inr ⟨fun e => h9 (by omega), hm2⟩
    · exact hi j hj hj9 (by omega)
  · refine runE ?_
    refine cT (rr ?_)
    refine ret1 (bF fun hn => ?_)
    rcases (hiff.1 hn).2 (9 + k) hk1 (by omega) with h5 | h5
    · exact hm h5
    · exact hm2 h5.2
theorem hash_of {s : Str} (h : nameOk s) : hashL s = s.take 8 := if_pos h
theorem hash_no {s : Str} (h : ¬ nameOk s) : hashL s = [] := if_neg h
theorem ref7Hash {w : World} {f : View} (hv : On f w) {s : Str} (hs : s.length ≤ LB) : Con Tryz.prog 48 [str s] w (Ret w f fun _ v => v = str (hashL s)) := by
  refine enterC hv Tryz.call48 Tryz.func48 ?_
  refine sgE ?_
  refine sq (sg ?_)
  refine callB (p := nameOk s) (vs := [str s]) (fun w g hs' _ hon => ref7Name hon hs) (fun hn => ?_) (fun hn => ?_)
  · refine runE ?_
    refine cFs ?_
    refine sg ?_
    refine slSH (s := s) 8 (by have := hn.1; omega) ?_
    refine runE ?_
    refine ew_ret ?_
    exact ret1 (by rw [hash_of hn])
  · refine runE ?_
    refine cT (rr ?_)
    exact ret1 (by rw [hash_no hn])
theorem indexFuncB {w : World} {f : View} (hv : On f w) {A : Option Addr} {c : Nat} {a : Str} (ha : Sl f A c a) {kf : Nat} {fi ca : List Value} {p : UInt8 → Bool}
    (hp : ∀ w g, Sub f g → On g w → ∀ x : UInt8, Con Tryz.prog kf (fi ++ [.int .u8 (x.toNat : Int)] ++ ca) w (Ret w g fun _ v => v = .bool (p x))) :
    Con Tryz.prog 65 [.slice A a.length c, .func (.func kf) ⟨fi⟩ ⟨ca⟩] w (Ret w f fun _ v => v = i64 (idxP p a)) := by
  refine enterC hv Tryz.call65 Tryz.func65 ?_
  have hlim := ha.len_lt
  refine sgE ?_
  refine sqJ (σ := Unit) (fun _ => []) (fun _ => f) (fun _ => []) (fun _ => idxP p a = -1) ?_ ?_
  case refine_2 =>
    intro _ ρ h
    replace h : idxP p a = -1 := h
    refine sgE ?_
    refine ew_ret ?_
    exact ret1 (by rw [h])
  refine sgE ?_
  refine bk ?_
  refine lpn a.length (fun k => [(8, i64 k), (7, i64 (a.length : Nat)), (1, .func (.func kf) ⟨fi⟩ ⟨ca⟩), (0, .slice A a.length c)]) (fun k => ∀ j (hj : j < a.length), j < k → p a[j] = false) (fun j _ h => by omega) ?_
  intro k ρ hk hb
  refine sg ?_
  refine ltE (fun h => ?_) (fun h => ?_)
  case refine_2 =>
    refine sq (cFx ?_)
    exact jn () (idxP_no fun j hj => hb j hj (by omega))
  have h1 : k < a.length := by omega
  obtain ⟨b1, o1, rfl, cs, hcs, hc⟩ := ha.at_ k h1
  obtain rfl : cs = [.int .u8 (a[k].toNat : Int)] := hcs
  refine sq (cTs (sq (bk (sgE ?_))))
  refine sg ?_
  refine ix k h1 ?_
  refine ldv hc.1 ?_
  refine callBF (p := p a[k] = true) (vs := [.int .u8 (a[k].toNat : Int)]) (fun w g hs _ hon => ?_) (fun hpt => ?_) (fun hpf => ?_)
  · have := hp w g hs hon a[k]
    simpa using this
  · refine runE ?_
    refine cT (sgE ?_)
    refine ew_ret ?_
    exact ret1 (by rw [idxP_at h1 hpt hb])
  · refine runE ?_
    refine cFs (rg ?_)
    refine addE ((k + 1 : Nat) : Int) ?_
    refine nx (fun j hj hjk => ?_)
    by_cases e : j = k
    · subst e; simpa using hpf
    · exact hb j hj (by omega)
theorem containsFuncB {w : World} {f : View} (hv : On f w) {A : Option Addr} {c : Nat} {a : Str} (ha : Sl f A c a) {kf : Nat} {fi ca : List Value} {p : UInt8 → Bool}
    (hp : ∀ w g, Sub f g → On g w → ∀ x : UInt8, Con Tryz.prog kf (fi ++ [.int .u8 (x.toNat : Int)] ++ ca) w (Ret w g fun _ v => v = .bool (p x))) :
    Con Tryz.prog 39 [.slice A a.length c, .func (.func kf) ⟨fi⟩ ⟨ca⟩] w (Ret w f fun _ v => v = .bool (decide (∃ x ∈ a, p x = true))) := by
  refine enterC hv Tryz.call39 Tryz.func39 ?_
  refine sgE ?_
  refine sg ?_
  refine callV (i64 (idxP p a)) (vs := [.slice A a.length c, .func (.func kf) ⟨fi⟩ ⟨ca⟩]) (fun w g hs _ hon => indexFuncB hon (ha.mono hs) fun w' g' hs' hon' x => hp w' g' (hs.trans hs') hon' x) ?_
  refine geE (fun h => ?_) (fun h => ?_)
  · refine ew_ret ?_
    exact ret1 (bT (idxP_nn.1 h))
  · refine ew_ret ?_
    exact ret1 (bF fun e => h (idxP_nn.2 e))
theorem index_mem {s : Str} {c : UInt8} : Lib.indexByte s c < 0 ↔ c ∉ s := by
  have hge := Lib.indexByte_ge s c
  constructor
  · intro h hm
    have e : Lib.indexByte s c = -1 := by omega
    obtain ⟨j, hj, e2⟩ := List.getElem_of_mem hm
    exact Lib.indexByte_none e j (by rw [List.getElem?_eq_getElem hj, e2])
  · intro h
    by_cases e : Lib.indexByte s c < 0
    · exact e
    · obtain ⟨o, ho⟩ : ∃ o : Nat, Lib.indexByte s c = o := ⟨(Lib.indexByte s c).toNat, by omega⟩
      exact absurd (List.mem_of_getElem? (Lib.indexByte_some ho).1) h
theorem itemAllClo {w : World} {f : View} (hv : On f w) {am : Str} {c : UInt8} {b : Nat} (hb : f.cell? ⟨b, 0, none⟩ = some (str am)) : Con Tryz.prog 94 [.int .u8 (c.toNat : Int), .pointer (some ⟨b, 0, none⟩)] w (Ret w f fun _ v => v = .bool (decide (c ∉ am))) := by
  refine enterC hv Tryz.call94 Tryz.func94 ?_
  refine sgE ?_
  refine sg ?_
  refine ldv hb ?_
  refine callV (i64 (Lib.indexByte am c)) (vs := [str am, .int .u8 (c.toNat : Int)]) (fun w g hs _ hon => indexByteC hon) ?_
  refine ltE (fun h => ?_) (fun h => ?_)
  · refine ew_ret ?_
    exact ret1 (bT (index_mem.1 h))
  · refine ew_ret ?_
    exact ret1 (bF fun e => h (index_mem.2 e))
theorem itemAll {w : World} {f : View} (hv : On f w) {s am : Str} (hs : s.length ≤ LB) : Con Tryz.prog 77 [str s, str am] w (Ret w f fun _ v => v = .bool (decide (∀ c ∈ s, c ∈ am))) := by
  refine enterC hv Tryz.call77 Tryz.func77 ?_
  have hlm : s.length ≤ maxLen := Nat.le_trans hs (by decide)
  refine sg ?_
  refine box fun b3 => ?_
  refine runE ?_
  refine sg ?_
  refine cvSB (s := s) (fun b6 c cur fr h1 h2 hcur => ?_) hlm
  refine callB (p := ∃ x ∈ s, decide (x ∉ am) = true) (vs := [.slice (some ⟨b6, 0, none⟩) s.length c, .func (.func 94) ⟨[]⟩ ⟨[.pointer (some ⟨b3, 0, none⟩)]⟩]) (fun w g hs' hsn hon => ?_) (fun hp => ?_) (fun hp => ?_)
  · refine containsFuncB (p := fun x => decide (x ∉ am)) hon (blk_sl (hsn _ (.head _)) hs h1 h2 hcur) fun w' g' hs2 hon' x => ?_
    have h3 : g.cell? ⟨b3, 0, none⟩ = some (str am) := blk_seen (hsn _ (.tail _ (.head _)))
    exact itemAllClo hon' (hs2.cell h3)
  · refine runE ?_
    refine ewL (L' := []) (fun _ h => h.sublist (List.nil_sublist _)) ?_
    refine ew_ret ?_
    refine ret1 (bF fun ha => ?_)
    obtain ⟨x, hx, h4⟩ := hp
    exact (of_decide_eq_true h4) (ha x hx)
  · refine runE ?_
    refine ewL (L' := []) (fun _ h => h.sublist (List.nil_sublist _)) ?_
    refine ew_ret ?_
    refine ret1 (bT fun c hc => ?_)
    by_cases e : c ∈ am
    · exact e
    · exact absurd ⟨c, hc, decide_eq_true e⟩ hp
theorem itemName {w : World} {f : View} (hv : On f w) {s : Str} (hs : s.length ≤ LB) : Con Tryz.prog 56 [str s] w (Ret w f fun _ v => v = .bool (decide (nameOk s))) := by
  refine enterC hv Tryz.call56 Tryz.func56 ?_
  have hlim : s.length ≤ 140737488355328 := hs
  refine sgE ?_
  refine sq (sg ?_)
  refine Go.Hog.lt (fun h1 => ?_) (fun h1 => ?_)
  · refine runE ?_
    refine cT (rr ?_)
    exact ret1 (bF fun hn => by have := hn.1; omega)
  refine Go.Hog.gt (fun h2 => ?_) (fun h2 => ?_)
  · refine runE ?_
    refine cT (rr ?_)
    exact ret1 (bF fun hn => by have := hn.2.1; omega)
  have h8 : 8 < s.length := by omega
  refine ixS 8 s[8] (List.getElem?_eq_getElem h8) ?_
  refine neIE (fun h3 => ?_) (fun h3 => ?_)
  · refine cT (rr ?_)
    refine ret1 (bF fun hn => h3 ?_)
    have h4 := hn.2.2.1
    rw [List.getElem?_eq_getElem h8] at h4
    injection h4 with h4
    rw [h4]; rfl
  have h45 : s[8]? = some 45 := by
    rw [List.getElem?_eq_getElem h8]
    have h4 : ((s[8].toNat : Int)) = ((45 : UInt8).toNat : Int) := by
      by_cases e : ((s[8].toNat : Int)) = ((45 : UInt8).toNat : Int)
      · exact e
      · exact absurd e h3
    rw [u8_eq.1 h4]
  refine cFs ?_
  refine efg [(0, str s)] [] fun ρ => ?_
  refine sg ?_
  refine slSH (s := s) 8 (by omega) ?_
  refine callB (p := ∀ c ∈ s.take 8, c ∈ sgs) (vs := [str (s.take 8), str sgs]) (fun w g hs' _ hon => itemAll hon (Nat.le_trans (List.length_take_le _ _) (by decide))) (fun g1 => ?_) (fun g1 => ?_)
  case refine_2 =>
    refine runE ?_
    refine ew_ret ?_
    exact ret1 (bF fun hn => g1 hn.2.2.2.1)
  refine slSB (s := s) 9 10 (by omega) (by omega) ?_
  refine callB (p := ∀ c ∈ (s.take 10).drop 9, c ∈ lets) (vs := [str ((s.take 10).drop 9), str lets]) (fun w g hs' _ hon => itemAll hon (by rw [List.length_drop, List.length_take]; unfold LB; omega)) (fun g2 => ?_) (fun g2 => ?_)
  case refine_2 =>
    refine runE ?_
    refine ew_ret ?_
    exact ret1 (bF fun hn => g2 hn.2.2.2.2.1)
  refine slSL (s := s) 10 (by omega) ?_
  refine callB (p := ∀ c ∈ s.drop 10, c ∈ letsM) (vs := [str (s.drop 10), str letsM]) (fun w g hs' _ hon => itemAll hon (by rw [List.length_drop]; unfold LB; omega)) (fun g3 => ?_) (fun g3 => ?_)
  case refine_2 =>
    refine runE ?_
    refine ew_ret ?_
    exact ret1 (bF fun hn => g3 hn.2.2.2.2.2)
  refine runE ?_
  refine ew_ret ?_
  exact ret1 (bT ⟨by omega, by omega, h45, g1, g2, g3⟩)
theorem itemHash {w : World} {f : View} (hv : On f w) {s : Str} (hs : s.length ≤ LB) : Con Tryz.prog 55 [str s] w (Ret w f fun _ v => v = str (hashL s)) := by
  refine enterC hv Tryz.call55 Tryz.func55 ?_
  refine sgE ?_
  refine sq (sg ?_)
  refine callB (p := nameOk s) (vs := [str s]) (fun w g hs' _ hon => itemName hon hs) (fun hn => ?_) (fun hn => ?_)
  · refine runE ?_
    refine cFs ?_
    refine sg ?_
    refine slSH (s := s) 8 (by have := hn.1; omega) ?_
    refine runE ?_
    refine ew_ret ?_
    exact ret1 (by rw [hash_of hn])
  · refine runE ?_
    refine cT (rr ?_)
    exact ret1 (by rw [hash_no hn])
end Go.Hog
