/- Contracts: slices.Index, Contains; split.Place, ref22.Place; law0.SameLists, Num. -/
import Derived.Test.YtnjaclggjmfkfaaF27
set_option linter.unusedVariables false
set_option linter.unusedSimpArgs false
set_option maxRecDepth 100000
set_option maxHeartbeats 1000000
namespace Go.Hog
open Go.RowKit Rp Go.Proofs
theorem Sl.list {f : View} {A : Option Addr} {c : Nat} {l : List (List Str)} (h : Sl f A c l) {k : Nat} (hk : k < l.length) : ∃ b o A1 c1, A = some ⟨b, o, none⟩ ∧ f.cell? ⟨b, o + k * 1, none⟩ = some (.slice A1 l[k].length c1) ∧ Sl f A1 c1 l[k] := by
  obtain ⟨b, o, rfl, cs, ⟨A1, c1, rfl, h1⟩, hc⟩ := h.at_ k hk
  exact ⟨b, o, A1, c1, rfl, hc.1, h1⟩
theorem containsS {w : World} {f : View} (hv : On f w) {A : Option Addr} {c : Nat} {a : List Str} {s : Str} (ha : Sl f A c a) :
    Con Try.prog 27 [.slice A a.length c, str s] w (Ret w f fun _ v => v = .bool (decide (s ∈ a))) := by
  refine enterC hv Try.call27 Try.func27 ?_
  refine sgE ?_
  refine sg ?_
  refine callV (i64 (idxI a s)) (vs := [.slice A a.length c, str s]) (fun w g hs _ hon => indexS hon (ha.mono hs)) ?_
  have hi : 0 ≤ idxI a s ↔ s ∈ a := by
    unfold idxI
    by_cases h : s ∈ a
    · rw [if_pos h]; exact ⟨fun _ => h, fun _ => Int.natCast_nonneg _⟩
    · rw [if_neg h]; exact ⟨fun h2 => absurd h2 (by decide), fun h2 => absurd h2 h⟩
  refine geE (fun h => ?_) (fun h => ?_)
  · refine ew_ret ?_
    exact ret1 (bT (hi.1 h))
  · refine ew_ret ?_
    exact ret1 (bF fun e => h (hi.2 e))
noncomputable def placeL (ls : List (List Str)) (s : Str) : Int := idxP (fun l => decide (s ∈ l)) ls
theorem placeClo {w : World} {f : View} (hv : On f w) {A : Option Addr} {c : Nat} {a : List Str} {b : Nat} {s : Str} (ha : Sl f A c a) (hb : f.cell? ⟨b, 0, none⟩ = some (str s)) :
    Con Try.prog 26 [.slice A a.length c, .pointer (some ⟨b, 0, none⟩)] w (Ret w f fun _ v => v = .bool (decide (s ∈ a))) := by
  refine enterC hv Try.call26 Try.func26 ?_
  refine sgE ?_
  refine sg ?_
  refine ldv hb ?_
  refine callV (.bool (decide (s ∈ a))) (vs := [.slice A a.length c, str s]) (fun w g hs _ hon => containsS hon (ha.mono hs)) ?_
  refine runE ?_
  refine ew_ret ?_
  exact ret1 rfl
theorem indexFuncL {w : World} {f : View} (hv : On f w) {A : Option Addr} {c : Nat} {a : List (List Str)} (ha : Sl f A c a) {kf : Nat} {fi ca : List Value} {p : List Str → Bool}
    (hp : ∀ w g, Sub f g → On g w → ∀ (x : List Str) A c, Sl g A c x → Con Try.prog kf (fi ++ [.slice A x.length c] ++ ca) w (Ret w g fun _ v => v = .bool (p x))) :
    Con Try.prog 25 [.slice A a.length c, .func (.func kf) ⟨fi⟩ ⟨ca⟩] w (Ret w f fun _ v => v = i64 (idxP p a)) := by
  refine enterC hv Try.call25 Try.func25 ?_
  have hlim := ha.len_lt
  refine sgE ?_
  refine sqJ (σ := Unit) (fun _ => []) (fun _ => f) (fun _ => []) (fun _ => idxP p a = -1) ?_ ?_
  case refine_2 =>
    intro _ ρ h
    replace h : idxP p a = -1 := h
    refine sgE ?_
    refine ew_ret ?_
    exact ret1 (by rw [h])
  refine sgE ?_
  refine bk ?_
  refine lpn a.length (fun k => [(8, i64 k), (7, i64 (a.length : Nat)), (1, .func (.func kf) ⟨fi⟩ ⟨ca⟩), (0, .slice A a.length c)]) (fun k => ∀ j (hj : j < a.length), j < k → p a[j] = false) (fun j _ h => by omega) ?_
  intro k ρ hk hb
  refine sg ?_
  refine ltE (fun h => ?_) (fun h => ?_)
  case refine_2 =>
    refine sq (cFx ?_)
    exact jn () (idxP_no fun j hj => hb j hj (by omega))
  have h1 : k < a.length := by omega
  obtain ⟨b1, o1, A1, c1, rfl, hc, hsl⟩ := ha.list h1
  refine sq (cTs (sq (bk (sgE ?_))))
  refine sg ?_
  refine ix k h1 ?_
  refine ldv hc ?_
  refine callBF (p := p a[k] = true) (vs := [.slice A1 a[k].length c1]) (fun w g hs _ hon => ?_) (fun hpt => ?_) (fun hpf => ?_)
  · have := hp w g hs hon a[k] _ _ (hsl.mono hs)
    simpa using this
  · refine runE ?_
    refine cT (sgE ?_)
    refine ew_ret ?_
    exact ret1 (by rw [idxP_at h1 hpt hb])
  · refine runE ?_
    refine cFs (rg ?_)
    refine addE ((k + 1 : Nat) : Int) ?_
    refine nx (fun j hj hjk => ?_)
    by_cases e : j = k
    · subst e; simpa using hpf
    · exact hb j hj (by omega)
theorem splitPlace {w : World} {f : View} (hv : On f w) {A : Option Addr} {c : Nat} {a : List (List Str)} {s : Str} (ha : Sl f A c a) :
    Con Try.prog 12 [.slice A a.length c, str s] w (Ret w f fun _ v => v = i64 (placeL a s)) := by
  refine enterC hv Try.call12 Try.func12 ?_
  refine sg ?_
  refine box fun b3 => ?_
  refine runE ?_
  refine sg ?_
  have hcl : ∀ w g, Sub f g → (HE.blk b3 (.cells ⟨[str s]⟩ 9)).seen g → On g w → Con Try.prog 25 [.slice A a.length c, .func (.func 26) ⟨[]⟩ ⟨[.pointer (some ⟨b3, 0, none⟩)]⟩] w (Ret w g fun _ v => v = i64 (placeL a s)) := fun w g hs hsn hon => by
    refine indexFuncL (p := fun x => decide (s ∈ x)) hon (ha.mono hs) fun w' g' hs' hon' x A c hx => ?_
    exact placeClo hon' hx (Sub.cell hs' (blk_seen hsn))
  refine callV (i64 (placeL a s)) (vs := [.slice A a.length c, .func (.func 26) ⟨[]⟩ ⟨[.pointer (some ⟨b3, 0, none⟩)]⟩]) (fun w g hs hsn hon => hcl w g hs (hsn _ (.head _)) hon) ?_
  refine runE ?_
  refine edropH ?_
  refine ew_ret ?_
  exact ret1 rfl
theorem ref22Place {w : World} {f : View} (hv : On f w) {A : Option Addr} {c : Nat} {a : List (List Str)} {s : Str} (ha : Sl f A c a) :
    Con Try.prog 13 [.slice A a.length c, str s] w (Ret w f fun _ v => v = i64 (placeL a s)) := by
  refine enterC hv Try.call13 Try.func13 ?_
  have hlim := ha.len_lt
  refine sgE (sq (sgE (bk ?_)))
  refine lpn a.length (fun k => [(5, i64 k), (0, .slice A a.length c), (1, str s)]) (fun k => ∀ j (h : j < a.length), j < k → decide (s ∈ a[j]) = false) (fun j h hj => by omega) ?_
  intro k ρ hk hi
  refine sq (sg ?_)
  refine ltE (fun h => ?_) (fun h => ?_)
  case refine_2 =>
    refine cFx (rr ?_)
    exact ret1 (show i64 (-1) = i64 (placeL a s) by unfold placeL; rw [idxP_no fun j hj => hi j hj (by omega)])
  have h1 : k < a.length := by omega
  obtain ⟨b1, o1, A1, c1, rfl, hc, hsl⟩ := ha.list h1
  have hlim1 := hsl.len_lt
  refine cTs (sq (bk (sgE (bk ?_))))
  refine lpn a[k].length (fun j => [(6, i64 j), (5, i64 k), (0, .slice (some ⟨b1, o1, none⟩) a.length c), (1, str s)]) (fun m => ∀ j (h : j < a[k].length), j < m → a[k][j] ≠ s) (fun j h hj => by omega) ?_
  intro m ρ hm hi2
  refine sq (sg ?_)
  refine ix k h1 ?_
  refine ldv hc ?_
  refine ltE (fun h => ?_) (fun h => ?_)
  case refine_2 =>
    refine cFx (rg ?_)
    refine addE ((k + 1 : Nat) : Int) ?_
    refine nx fun j hj hjk => ?_
    by_cases e : j = k
    · subst e
      refine decide_eq_false fun hmem => ?_
      obtain ⟨p, hp, e⟩ := List.getElem_of_mem hmem
      exact hi2 p hp (by omega) e
    · exact hi j hj (by omega)
  have h2 : m < a[k].length := by omega
  obtain ⟨b2, o2, rfl, hc2, _⟩ := hsl.text h2
  refine cTs (sq (bk (sg ?_)))
  refine ix k h1 ?_
  refine ldv hc ?_
  refine ix m h2 ?_
  refine ldv hc2 ?_
  refine eqSE (fun h3 => ?_) (fun h3 => ?_)
  · refine cT (rr ?_)
    refine ret1 (show i64 (k : Nat) = i64 (placeL a s) by unfold placeL; rw [idxP_at h1 (decide_eq_true (h3 ▸ List.getElem_mem h2)) hi])
  · refine cFs (rg ?_)
    refine addE ((m + 1 : Nat) : Int) ?_
    refine nx fun j hj hjk => ?_
    by_cases e : j = m
    · subst e; exact h3
    · exact hi2 j hj (by omega)
theorem num0 {w : World} {f : View} (hv : On f w) {n : Int} : Con Try.prog 11 [i64 n] w (Ret w f fun _ v => v = i64 n) := by
  refine enterC hv Try.call11 Try.func11 ?_
  refine sgE ?_
  refine sgE ?_
  refine ew_ret ?_
  exact ret1 rfl
theorem sameLists {w : World} {f : View} (hv : On f w) {A B : Option Addr} {c c2 : Nat} {a b : List (List Str)} (ha : Sl f A c a) (hb : Sl f B c2 b) :
    Con Try.prog 10 [.slice A a.length c, .slice B b.length c2] w (Ret w f fun _ v => v = .bool (decide (a = b))) := by
  refine enterC hv Try.call10 Try.func10 ?_
  have hlim := ha.len_lt
  refine sgE (sq (sg ?_))
  refine neIE (fun h => ?_) (fun h => ?_)
  · refine cT (rr ?_)
    exact ret1 (bF fun e => h (by rw [e]))
  have hl : a.length = b.length := by omega
  refine cFs (sq (sgE (bk ?_)))
  refine lpn a.length (fun k => [(5, i64 k), (0, .slice A a.length c), (1, .slice B b.length c2)]) (fun k => a.take k = b.take k) (by simp) ?_
  intro k ρ hk hi
  refine sq (sg ?_)
  refine ltE (fun h => ?_) (fun h => ?_)
  case refine_2 =>
    refine cFx (rr ?_)
    exact ret1 (bT (take_all hi (by omega) hl))
  have h1 : k < a.length := by omega
  have h2 : k < b.length := by omega
  obtain ⟨b1, o1, A1, c1, rfl, hc, hsl⟩ := ha.list h1
  obtain ⟨b2, o2, A2, c22, rfl, hc2, hsl2⟩ := hb.list h2
  refine cTs (sq (bk (sQ ?_)))
  refine ix k h1 ?_
  refine ldv hc ?_
  refine ix k h2 ?_
  refine ldv hc2 ?_
  refine callB (p := a[k] = b[k]) (vs := [.slice A1 a[k].length c1, .slice A2 b[k].length c22]) (fun w g hs _ hon => sameTexts hon (hsl.mono hs) (hsl2.mono hs)) (fun he => ?_) (fun he => ?_)
  · refine runE ?_
    refine cFs (rg ?_)
    refine addE ((k + 1 : Nat) : Int) ?_
    exact nx (take_eq hi h1 h2 he)
  · refine runE ?_
    refine cT (rr ?_)
    exact ret1 (bF fun e => he (by subst e; rfl))
end Go.Hog
