/- ScanApart answers true. -/
import Derived.Test.YtidhmfmbifdbkaaE26
set_option linter.unusedVariables false
set_option linter.unusedSimpArgs false
set_option maxRecDepth 100000
set_option maxHeartbeats 1000000
namespace Go.Hog
open Go.RowKit Rp Go.Proofs
theorem hash_len {s : Str} : (hashL s).length = 8 ↔ nameOk s := by
  unfold hashL
  split
  · rename_i h
    exact ⟨fun _ => h, fun _ => by rw [List.length_take]; have := h.1; omega⟩
  · rename_i h
    exact ⟨fun e => by simp at e, fun e => absurd e h⟩
theorem one_found {n : Str} {l : List Str} {p : Str → Bool} (hl : ∀ s, s ∈ l ↔ s = n) (hn : nameOk n) (hp : p (hashL n) = true) : foundL l p = [n] :=
  (foundL_eq (l := [n]) (List.pairwise_singleton _ _) fun s => by
    rw [List.mem_singleton, hl]
    exact ⟨fun e => ⟨e, e ▸ hn, e ▸ hp⟩, fun e => e.1⟩).symm
theorem none_found {n : Str} {p : Str → Bool} (hp : p (hashL n) = false) : foundL [n] p = [] := by
  refine (foundL_eq (l := []) List.Pairwise.nil fun s => ?_).symm
  constructor
  · intro h; cases h
  · rintro ⟨h, _, h2⟩
    rw [List.mem_singleton] at h
    subst h
    rw [hp] at h2; cases h2
theorem has_short {s u : Str} (h : s.length < u.length) : ¬ hasL s u := fun h2 => by
  obtain ⟨_, j, h3, _⟩ := hasL_iff.1 h2
  omega
theorem has_tail {a u : Str} (hu : u ≠ []) : hasL (a ++ u) u := hasL_iff.2 ⟨hu, a.length, by simp, by simp⟩
theorem scanApart {w : World} {f : View} (hv : On f w) (hm : ML f) {s : Str} {x : Int} (hs0 : s.length ≤ LB) (hx : -9223372036854775808 ≤ x ∧ x ≤ 9223372036854775807) :
    Con Try.prog 6 [str s, i64 x] w (Ret w f fun _ v => v = .bool true) := by
  refine enterC hv Try.call6 Try.func6 ?_
  refine sgE ?_
  refine sq (sg ?_)
  refine Go.Hog.gt (fun h1 => ?_) (fun h1 => ?_)
  · refine runE ?_
    refine cT (sg ?_)
    refine callV (.bool true) (vs := []) (fun w g hs _ hon => awake8 hon (hm.mono hs)) ?_
    refine runE ?_
    refine ew_ret ?_
    exact ret1 rfl
  refine callV (str (hashL s)) (vs := [str s]) (fun w g hs _ hon => itemHash hon hs0) ?_
  refine neIE (fun h2 => ?_) (fun h2 => ?_)
  · refine cT (sg ?_)
    refine callV (.bool true) (vs := []) (fun w g hs _ hon => awake8 hon (hm.mono hs)) ?_
    refine runE ?_
    refine ew_ret ?_
    exact ret1 rfl
  have h8 : (hashL s).length = 8 := by
    by_cases e : ((hashL s).length : Int) = 8
    · omega
    · exact absurd e h2
  have hok := hash_len.1 h8
  refine cFs ?_
  refine sg ?_
  refine callV (str (hashL s)) (vs := [str s]) (fun w g hs _ hon => itemHash hon hs0) ?_
  refine runE ?_
  refine sg ?_
  refine callV (i64 (lowV x 7)) (vs := [i64 x, i64 7]) (fun w g hs _ hon => low0 hon ⟨by omega, by omega⟩) ?_
  obtain ⟨k, hk, hk1, hk2⟩ : ∃ k : Nat, 1 + lowV x 7 = k ∧ 1 ≤ k ∧ k ≤ 7 := by
    have := lowV_lt x (show (0 : Int) < 7 by omega)
    exact ⟨(1 + lowV x 7).toNat, by omega, by omega⟩
  refine addE (k : Int) ?_
  generalize hh : hashL s = h at h8
  have hh0 : h ≠ [] := fun e => by rw [e] at h8; simp at h8
  have hhl : h.length ≤ LB := by unfold LB; omega
  have t1 : (h.take k).length = k := by rw [List.length_take]; omega
  have t2 : (h.drop k).length = 8 - k := by rw [List.length_drop]; omega
  refine efg [(0, str s), (5, str h), (6, i64 k)] [] fun ρ => ?_
  have p7 : hasL ([120] ++ h) h := has_tail (a := [120]) hh0
  have e1 : treeL [⟨[], 1, []⟩, ⟨[97], 2, h.take k⟩, ⟨[98], 2, h.drop k⟩] [s] = [] := none_found (by
    rw [hh]
    refine decide_eq_false ?_
    rintro ⟨x, hx, h3⟩
    rcases List.mem_cons.1 hx with rfl | hx
    · exact has_short (by show 0 < h.length; omega) h3
    rcases List.mem_cons.1 hx with rfl | hx
    · exact has_short (by show (h.take k).length < h.length; omega) h3
    rw [List.mem_singleton] at hx
    subst hx
    exact has_short (by show (h.drop k).length < h.length; omega) h3)
  have e2 : treeL [⟨[], 1, []⟩, ⟨h, 4, [120] ++ h⟩] [s] = [s] := one_found (fun x => List.mem_singleton) hok (by
    rw [hh]
    exact decide_eq_true ⟨_, .tail _ (.head _), p7⟩)
  have e3 : textL (h.take k ++ h.drop k) [s, s] = [s] := one_found (fun x => by simp) hok (by
    rw [hh, List.take_append_drop]
    exact decide_eq_true (hasL_iff.2 ⟨hh0, 0, by simp, by simp⟩))
  have l1 : ([s] : List Str).length ≤ 12 := by show (1 : Nat) ≤ 12; omega
  have b1 : ∀ x ∈ ([s] : List Str), x.length ≤ LB := fun x hx => by rw [List.mem_singleton] at hx; subst hx; exact hs0
  have b2 : ∀ x ∈ ([s, s] : List Str), x.length ≤ LB := fun x hx => by
    have : x = s := by simpa using hx
    subst this; exact hs0
  have dA : ∀ x ∈ ([⟨[], 1, []⟩, ⟨[97], 2, h.take k⟩, ⟨[98], 2, h.drop k⟩] : List Node), x.data.length < 4294967281 := fun x hx => by
    rcases List.mem_cons.1 hx with rfl | hx
    · decide
    rcases List.mem_cons.1 hx with rfl | hx
    · show (h.take k).length < _; omega
    rw [List.mem_singleton] at hx
    subst hx
    show (h.drop k).length < _; omega
  have dW : ∀ x ∈ ([⟨[], 1, []⟩, ⟨h, 4, [120] ++ h⟩] : List Node), x.data.length < 4294967281 := fun x hx => by
    rcases List.mem_cons.1 hx with rfl | hx
    · decide
    rw [List.mem_singleton] at hx
    subst hx
    show ([120] ++ h).length < _
    rw [List.length_append, h8]; decide
  have nd : ∀ (g : View) (p : Str) (n : Int) (d : Str), p.length ≤ 9 → d.length ≤ 9 → 1 ≤ n ∧ n ≤ 4 → Rw g ([⟨p, n, d⟩] : List Node) (nodeC ⟨p, n, d⟩) := fun g p n d h1 h2 h3 =>
    Rw.one (show rp g (⟨p, n, d⟩ : Node) (nodeC ⟨p, n, d⟩) from ⟨rfl, by show p.length ≤ LB; unfold LB; omega, by show d.length ≤ LB; unfold LB; omega, by show (-9223372036854775808 : Int) ≤ n; omega, by show n ≤ (9223372036854775807 : Int); omega⟩)
  refine sA [0, 1, 2, 3, 4, 5, 6, 7, 8] [] (List.Sublist.refl _) ?_
  refine an_takeH [0, 1, 2, 3, 4, 5, 6, 7, 8] HeldL.same ?_
  refine bld (cs := nodeC ⟨[], 1, []⟩) ?_
  refine slSH (s := h) k (by omega) ?_
  refine bld (cs := nodeC ⟨[97], 2, h.take k⟩) ?_
  refine slSL (s := h) k (by omega) ?_
  refine bld (cs := nodeC ⟨[98], 2, h.drop k⟩) ?_
  refine rw_end ?_
  refine an_run1 9 ?_
  refine bsl (cs := nodeC ⟨[], 1, []⟩ ++ nodeC ⟨[97], 2, h.take k⟩ ++ nodeC ⟨[98], 2, h.drop k⟩) fun b7 => ?_
  refine aH (HeldL.none (Sub.refl _)) ?_
  refine an_takeU [10] ?_
  refine an_done ?_
  refine efg [(7, .slice (some ⟨b7, 0, none⟩) 3 3), (0, str s), (5, str h), (6, i64 k)] [.row (some ⟨b7, 0, none⟩) 3 3 40 3 (nodeC ⟨[], 1, []⟩ ++ nodeC ⟨[97], 2, h.take k⟩ ++ nodeC ⟨[98], 2, h.drop k⟩)] fun ρ => ?_
  refine sg ?_
  refine bld (cs := nodeC ⟨[], 1, []⟩) ?_
  refine cat (s := [120]) (by show 1 + h.length ≤ _; omega) ?_
  refine bld (cs := nodeC ⟨h, 4, [120] ++ h⟩) ?_
  refine bsl (cs := nodeC ⟨[], 1, []⟩ ++ nodeC ⟨h, 4, [120] ++ h⟩) fun b8 => ?_
  refine runE ?_
  refine efrzA [] [.row (some ⟨b8, 0, none⟩) 2 2 40 3 (nodeC ⟨[], 1, []⟩ ++ nodeC ⟨h, 4, [120] ++ h⟩), .row (some ⟨b7, 0, none⟩) 3 3 40 3 (nodeC ⟨[], 1, []⟩ ++ nodeC ⟨[97], 2, h.take k⟩ ++ nodeC ⟨[98], 2, h.drop k⟩)] (List.Perm.refl _) fun g hs hq => ?_
  have hm1 := hm.mono hs
  have tA : Sl g (some ⟨b7, 0, none⟩) 3 ([⟨[], 1, []⟩, ⟨[97], 2, h.take k⟩, ⟨[98], 2, h.drop k⟩] : List Node) :=
    (((nd g [] 1 [] (by decide) (by decide) (by decide)).append (nd g [97] 2 (h.take k) (by decide) (by omega) (by decide))).append (nd g [98] 2 (h.drop k) (by decide) (by omega) (by decide))).sl (hq _ (.tail _ (.head _))) rfl (by simp [LB])
  have tW : Sl g (some ⟨b8, 0, none⟩) 2 ([⟨[], 1, []⟩, ⟨h, 4, [120] ++ h⟩] : List Node) :=
    ((nd g [] 1 [] (by decide) (by decide) (by decide)).append (nd g h 4 ([120] ++ h) (by omega) (by rw [List.length_append, h8]; decide) (by decide))).sl (hq _ (.head _)) rfl (by simp [LB])
  refine efg [(7, .slice (some ⟨b7, 0, none⟩) 3 3), (8, .slice (some ⟨b8, 0, none⟩) 2 2), (0, str s), (5, str h), (6, i64 k)] [] fun ρ => ?_
  have sl1 : ∀ {g' : View} {b : Nat}, (HE.row (some ⟨b, 0, none⟩) 1 1 9 1 [str s]).seen g' → Sl g' (some ⟨b, 0, none⟩) 1 [s] := fun hh => Sl.ofTexts (l := [s]) hh rfl b1 (by simp [LB])
  have sl2 : ∀ {g' : View} {b : Nat}, (HE.row (some ⟨b, 0, none⟩) 2 2 9 1 [str s, str s]).seen g' → Sl g' (some ⟨b, 0, none⟩) 2 [s, s] := fun hh => Sl.ofTexts (l := [s, s]) hh rfl b2 (by simp [LB])
  have slR : ∀ {g' : View} {A : Option Addr} {c : Nat}, (sRow A c [s]).seen g' → Sl g' A c [s] := fun hh => Sl.ofTexts (l := [s]) hh rfl b1 (by simp [LB])
  refine sA [18, 21, 22] [] (List.Sublist.refl _) ?_
  refine an_takeU [0, 1] ?_
  refine an_run1 2 ?_
  refine bsl fun b2 => ?_
  refine aH (HeldL.none (Sub.refl _)) ?_
  refine an_run1 3 ?_
  refine callMo (vs := [.slice (some ⟨b7, 0, none⟩) ([⟨[], 1, []⟩, ⟨[97], 2, h.take k⟩, ⟨[98], 2, h.drop k⟩] : List Node).length 3, .slice (some ⟨b2, 0, none⟩) ([s] : List Str).length 1]) (R := fun L' v => ∃ A' c', v = .slice A' ([] : List Str).length c' ∧ L' = [sRow A' c' []]) (fun w g' hs' hsn hon => ?_) (fun v L' hR => ?_)
  · have := scanTree hon (hm1.mono hs') (tA.mono hs') dA (sl1 (hsn _ (.head _))) l1
    rwa [e1] at this
  obtain ⟨A3, c3, rfl, rfl⟩ := hR
  refine aH (HeldL.none (Sub.refl _)) ?_
  refine an_takeU [4] ?_
  refine an_run1 5 ?_
  refine eqI (fun _ => ?_) (fun h => absurd rfl h)
  refine aH (HeldL.none (Sub.refl _)) ?_
  refine an_L [] (fun _ h => h.sublist (List.nil_sublist _)) ?_
  refine an_takeU [6, 7, 8, 11] ?_
  have call10 : ∀ {w : World} {g' : View} {b : Nat}, Sub g g' → (HE.row (some ⟨b, 0, none⟩) 1 1 9 1 [str s]).seen g' → On g' w → Con Try.prog 14 [.slice (some ⟨b8, 0, none⟩) ([⟨[], 1, []⟩, ⟨h, 4, [120] ++ h⟩] : List Node).length 2, .slice (some ⟨b, 0, none⟩) ([s] : List Str).length 1] w (RetM w g' [] fun _ => fun L' v => ∃ A' c', v = .slice A' ([s] : List Str).length c' ∧ L' = [sRow A' c' [s]]) := fun {w g' b} hs' hsn hon => by
    have := scanTree hon (hm1.mono hs') (tW.mono hs') dW (sl1 hsn) l1
    rwa [e2] at this
  have call26 : ∀ {w : World} {g' : View} {b : Nat}, Sub g g' → (HE.row (some ⟨b, 0, none⟩) 2 2 9 1 [str s, str s]).seen g' → On g' w → Con Try.prog 13 [str (h.take k ++ h.drop k), .slice (some ⟨b, 0, none⟩) ([s, s] : List Str).length 2] w (RetM w g' [] fun _ => fun L' v => ∃ A' c', v = .slice A' ([s] : List Str).length c' ∧ L' = [sRow A' c' [s]]) := fun {w g' b} hs' hsn hon => by
    have := scanText hon (hm1.mono hs') (s := h.take k ++ h.drop k) (by rw [List.take_append_drop]; omega) (sl2 hsn) (by show (2 : Nat) ≤ 12; omega)
    rwa [e3] at this
  refine an_have (α := Nat × Option Addr × Nat) (lsA 35 [0, 1, 2, 3, 4, 5, 6, 7, 8, 9, 10, 11, 12]) (fun x => [(46, .bool true), (50, .slice x.2.1 1 x.2.2), (52, .slice (some ⟨x.1, 0, none⟩) 1 1), (0, str s), (5, str h), (6, i64 k)]) (fun _ => g) (fun x => [.row (some ⟨x.1, 0, none⟩) 1 1 9 1 [str s], sRow x.2.1 x.2.2 [s]]) ?_ (fun T => ?_)
  · rintro ⟨b12, A10, c10⟩ ρ
    refine an_run1 13 ?_
    refine callV (.bool true) (vs := [.slice A10 ([s] : List Str).length c10, .slice (some ⟨b12, 0, none⟩) ([s] : List Str).length 1]) (fun w g' hs' hsn hon => sameT hon (slR (hsn _ (.tail _ (.head _)))) (sl1 (hsn _ (.head _)))) ?_
    refine aH (HeldL.none (Sub.refl _)) ?_
    refine an_L [] (fun _ h => h.sublist (List.nil_sublist _)) ?_
    refine an_takeU [14, 15, 16, 17, 19, 20, 23, 24, 27] ?_
    refine an_takeH [18, 21, 22] HeldL.same ?_
    refine slSH (s := h) k (by omega) ?_
    refine slSL (s := h) k (by omega) ?_
    refine cat (s := h.take k) (u := h.drop k) (by omega) ?_
    refine rw_end ?_
    refine an_have (α := Nat × Option Addr × Nat) (lsA 35 [0, 1, 2, 3, 4, 5, 6, 7, 8, 9, 10, 11, 12, 13, 14, 15, 16, 17, 18, 19, 20, 21, 22, 23, 24, 25, 26, 27, 28]) (fun x => [(55, .bool true), (66, .slice x.2.1 1 x.2.2), (68, .slice (some ⟨x.1, 0, none⟩) 1 1)]) (fun _ => g) (fun x => [.row (some ⟨x.1, 0, none⟩) 1 1 9 1 [str s], sRow x.2.1 x.2.2 [s]]) ?_ (fun T2 => ?_)
    · rintro ⟨b28, A26, c26⟩ ρ
      refine an_run1 29 ?_
      refine callV (.bool true) (vs := [.slice A26 ([s] : List Str).length c26, .slice (some ⟨b28, 0, none⟩) ([s] : List Str).length 1]) (fun w g' hs' hsn hon => sameT hon (slR (hsn _ (.tail _ (.head _)))) (sl1 (hsn _ (.head _)))) ?_
      refine aH (HeldL.none (Sub.refl _)) ?_
      refine an_takeU [30, 31] ?_
      refine an_run1 32 ?_
      refine callV (.bool true) (vs := []) (fun w g' hs' hsn hon => awake8 hon (hm1.mono hs')) ?_
      refine aH (HeldL.none (Sub.refl _)) ?_
      refine an_takeU [33, 34] ?_
      refine an_done ?_
      refine ew_ret ?_
      exact ret1 rfl
    refine an_run2 25 28 ?_ ?_
    · refine bsl fun b25 => ?_
      refine aH (HeldL.none (Sub.refl _)) ?_
      refine an_run2 26 28 ?_ ?_
      · refine callMo (vs := [str (h.take k ++ h.drop k), .slice (some ⟨b25, 0, none⟩) ([s, s] : List Str).length 2]) (R := fun L' v => ∃ A' c', v = .slice A' ([s] : List Str).length c' ∧ L' = [sRow A' c' [s]]) (fun w g' hs' hsn hon => call26 hs' (hsn _ (.head _)) hon) (fun v L' hR => ?_)
        obtain ⟨A26, c26, rfl, rfl⟩ := hR
        refine aH (HeldL.none (Sub.refl _)) ?_
        refine an_run1 28 ?_
        refine bsl fun b28 => ?_
        refine aH (HeldL.none (Sub.refl _)) ?_
        refine an_L [.row (some ⟨b28, 0, none⟩) 1 1 9 1 [str s], sRow A26 c26 [s]] (fun _ h => h.sublist (.cons_cons _ (.cons_cons _ (.cons _ (List.Sublist.refl _))))) ?_
        exact an_use T2 (b28, A26, c26)
      · refine bsl fun b28 => ?_
        refine aH (HeldL.none (Sub.refl _)) ?_
        refine an_run1 26 ?_
        refine callMo (vs := [str (h.take k ++ h.drop k), .slice (some ⟨b25, 0, none⟩) ([s, s] : List Str).length 2]) (R := fun L' v => ∃ A' c', v = .slice A' ([s] : List Str).length c' ∧ L' = [sRow A' c' [s]]) (fun w g' hs' hsn hon => call26 hs' (hsn _ (.tail _ (.head _))) hon) (fun v L' hR => ?_)
        obtain ⟨A26, c26, rfl, rfl⟩ := hR
        refine aH (HeldL.none (Sub.refl _)) ?_
        refine an_L [sRow A26 c26 [s], .row (some ⟨b28, 0, none⟩) 1 1 9 1 [str s]] (fun _ h => h.sublist (.cons_cons _ (.cons_cons _ (.cons _ (List.Sublist.refl _))))) ?_
        refine an_perm (.swap _ _ _) ?_
        exact an_use T2 (b28, A26, c26)
    · refine bsl fun b28 => ?_
      refine aH (HeldL.none (Sub.refl _)) ?_
      refine an_run1 25 ?_
      refine bsl fun b25 => ?_
      refine aH (HeldL.none (Sub.refl _)) ?_
      refine an_run1 26 ?_
      refine callMo (vs := [str (h.take k ++ h.drop k), .slice (some ⟨b25, 0, none⟩) ([s, s] : List Str).length 2]) (R := fun L' v => ∃ A' c', v = .slice A' ([s] : List Str).length c' ∧ L' = [sRow A' c' [s]]) (fun w g' hs' hsn hon => call26 hs' (hsn _ (.head _)) hon) (fun v L' hR => ?_)
      obtain ⟨A26, c26, rfl, rfl⟩ := hR
      refine aH (HeldL.none (Sub.refl _)) ?_
      refine an_L [sRow A26 c26 [s], .row (some ⟨b28, 0, none⟩) 1 1 9 1 [str s]] (fun _ h => h.sublist (.cons_cons _ (.cons _ (.cons_cons _ (List.Sublist.refl _))))) ?_
      refine an_perm (.swap _ _ _) ?_
      exact an_use T2 (b28, A26, c26)
  refine an_run2 9 12 ?_ ?_
  · refine bsl fun b9 => ?_
    refine aH (HeldL.none (Sub.refl _)) ?_
    refine an_run2 10 12 ?_ ?_
    · refine callMo (vs := [.slice (some ⟨b8, 0, none⟩) ([⟨[], 1, []⟩, ⟨h, 4, [120] ++ h⟩] : List Node).length 2, .slice (some ⟨b9, 0, none⟩) ([s] : List Str).length 1]) (R := fun L' v => ∃ A' c', v = .slice A' ([s] : List Str).length c' ∧ L' = [sRow A' c' [s]]) (fun w g' hs' hsn hon => call10 hs' (hsn _ (.head _)) hon) (fun v L' hR => ?_)
      obtain ⟨A10, c10, rfl, rfl⟩ := hR
      refine aH (HeldL.none (Sub.refl _)) ?_
      refine an_run1 12 ?_
      refine bsl fun b12 => ?_
      refine aH (HeldL.none (Sub.refl _)) ?_
      refine an_L [.row (some ⟨b12, 0, none⟩) 1 1 9 1 [str s], sRow A10 c10 [s]] (fun _ h => h.sublist (.cons_cons _ (.cons_cons _ (.cons _ (List.Sublist.refl _))))) ?_
      exact an_use T (b12, A10, c10)
    · refine bsl fun b12 => ?_
      refine aH (HeldL.none (Sub.refl _)) ?_
      refine an_run1 10 ?_
      refine callMo (vs := [.slice (some ⟨b8, 0, none⟩) ([⟨[], 1, []⟩, ⟨h, 4, [120] ++ h⟩] : List Node).length 2, .slice (some ⟨b9, 0, none⟩) ([s] : List Str).length 1]) (R := fun L' v => ∃ A' c', v = .slice A' ([s] : List Str).length c' ∧ L' = [sRow A' c' [s]]) (fun w g' hs' hsn hon => call10 hs' (hsn _ (.tail _ (.head _))) hon) (fun v L' hR => ?_)
      obtain ⟨A10, c10, rfl, rfl⟩ := hR
      refine aH (HeldL.none (Sub.refl _)) ?_
      refine an_L [sRow A10 c10 [s], .row (some ⟨b12, 0, none⟩) 1 1 9 1 [str s]] (fun _ h => h.sublist (.cons_cons _ (.cons_cons _ (.cons _ (List.Sublist.refl _))))) ?_
      refine an_perm (.swap _ _ _) ?_
      exact an_use T (b12, A10, c10)
  · refine bsl fun b12 => ?_
    refine aH (HeldL.none (Sub.refl _)) ?_
    refine an_run1 9 ?_
    refine bsl fun b9 => ?_
    refine aH (HeldL.none (Sub.refl _)) ?_
    refine an_run1 10 ?_
    refine callMo (vs := [.slice (some ⟨b8, 0, none⟩) ([⟨[], 1, []⟩, ⟨h, 4, [120] ++ h⟩] : List Node).length 2, .slice (some ⟨b9, 0, none⟩) ([s] : List Str).length 1]) (R := fun L' v => ∃ A' c', v = .slice A' ([s] : List Str).length c' ∧ L' = [sRow A' c' [s]]) (fun w g' hs' hsn hon => call10 hs' (hsn _ (.head _)) hon) (fun v L' hR => ?_)
    obtain ⟨A10, c10, rfl, rfl⟩ := hR
    refine aH (HeldL.none (Sub.refl _)) ?_
    refine an_L [sRow A10 c10 [s], .row (some ⟨b12, 0, none⟩) 1 1 9 1 [str s]] (fun _ h => h.sublist (.cons_cons _ (.cons _ (.cons_cons _ (List.Sublist.refl _))))) ?_
    refine an_perm (.swap _ _ _) ?_
    exact an_use T (b12, A10, c10)
end Go.Hog
