/- E17 S6 E18, in one text. -/
import Derived.Test.YtnjaclggjmfkfaaMH
import Derived.Lib.SliceRun
import Derived.Test.YtnjaclggjmfkfaaMF
import Derived.Test.YtnjaclggjmfkfaaMA
set_option linter.unusedVariables false
set_option linter.unusedSimpArgs false
namespace Go.Hog
open Go.RowKit Rp
section
variable {P : Program} {n : Nat} {B : Bs} {f : View} {L : List HE} {ρ : Env} {Q : Post} {K : Kon} {ops : Array Oper} {m : Md} {l l0 : List Oper} {ρ0 : Env}
variable {d : Nat} {x y : Operand} {t ty e t2 : TypeId} {pos : String} {af : Array Edge} {gd : Option (Nat × Bool)} {b o : Nat} {v : Value} {vs cs : List Value}
theorem run_callfv {k : Nat} {g : Operand} {args : Array Operand} {at_ : Array TypeId} {fi ca tot : List Value} (hcf : ∀ args w, (callFunc k args).run P w = .ok (.enter k args) w) (hf : ev ρ g = .func (.func k) ⟨fi⟩ ⟨ca⟩) (ha : args.toList.map (ev ρ) = vs) (ht : fi ++ vs ++ ca = tot) (w : World) :
    (execOp (ev ρ) ⟨some d, .call ⟨.value g, args, at_⟩, ty, pos, af, gd⟩).run P w = .ok (.enter k ⟨tot⟩) w := by
  subst ht
  have e1 : args.map (ev ρ) = ⟨vs⟩ := by apply Array.ext'; simpa using ha
  have e2 : (⟨fi⟩ : Array Value) ++ ⟨vs⟩ ++ ⟨ca⟩ = ⟨fi ++ vs ++ ca⟩ := by apply Array.ext'; simp
  simp [execOp, resolve, hf, Deferred.ofValue, invoke, e1, hcf]
/-- A call of a function value that hands back a plain value. -/
theorem callVF {k : Nat} {g : Operand} {args : Array Operand} {at_ : Array TypeId} {fi ca tot : List Value} (v : Value) (h : ∀ w g, Sub f g → (∀ e ∈ L, e.seen g) → On g w → Con P k tot w (Ret w g fun _ v' => v' = v)) (kk : RW m P n B ops K l (up ρ d v) f L) (hrun : runP P ops l0 ρ0 = (⟨some d, .call ⟨.value g, args, at_⟩, ty, pos, af, gd⟩ :: l, ρ) := by rfl) (hg : wantedE ops ρ ⟨some d, .call ⟨.value g, args, at_⟩, ty, pos, af, gd⟩ = true := by rfl)
    (hf : ev ρ g = .func (.func k) ⟨fi⟩ ⟨ca⟩ := by rfl) (ha : args.toList.map (ev ρ) = vs := by rfl) (ht : fi ++ vs ++ ca = tot := by rfl) (hcm : m.calls = true := by rfl) : RW m P n B ops K l0 ρ0 f L := by
  refine rw_runP l0 ρ0 ?_
  rw [hrun]
  have hcon : ∀ w, St B f L w → Con P k tot w (Ret w (withOwn w f L) fun _ v' => v' = v) := fun w hw => h w _ (withOwn_sub hw) (withOwn_seen hw) (withOwn_on hw)
  refine rw_have (p := ∀ args w, (callFunc k args).run P w = .ok (.enter k args) w) (fun w hw => (hcon w hw).1) fun hcf => ?_
  refine qw_call (hcm := hcm) (args := ⟨tot⟩) v hg (fun w' => run_callfv hcf hf ha ht w') (fun w hw => ?_) kk
  refine (hcon w hw).2.mono ?_
  rintro en w' ⟨v', g, rfl, hb, hs, hold, hon, rfl⟩
  exact ⟨rfl, hw.grow hb⟩
theorem callBF {k : Nat} {g : Operand} {args : Array Operand} {at_ : Array TypeId} {fi ca tot : List Value} {p : Prop} [Decidable p] (h : ∀ w g, Sub f g → (∀ e ∈ L, e.seen g) → On g w → Con P k tot w (Ret w g fun _ v' => v' = .bool (decide p)))
    (T : p → RW m P n B ops K l (up ρ d (.bool true)) f L) (F : ¬ p → RW m P n B ops K l (up ρ d (.bool false)) f L)
    (hrun : runP P ops l0 ρ0 = (⟨some d, .call ⟨.value g, args, at_⟩, ty, pos, af, gd⟩ :: l, ρ) := by rfl) (hg : wantedE ops ρ ⟨some d, .call ⟨.value g, args, at_⟩, ty, pos, af, gd⟩ = true := by rfl)
    (hf : ev ρ g = .func (.func k) ⟨fi⟩ ⟨ca⟩ := by rfl) (ha : args.toList.map (ev ρ) = vs := by rfl) (ht : fi ++ vs ++ ca = tot := by rfl) (hcm : m.calls = true := by rfl) : RW m P n B ops K l0 ρ0 f L := by
  by_cases hp : p
  · refine callVF (.bool true) (fun w g h1 h2 h3 => ?_) (T hp) hrun hg hf ha ht hcm
    have := h w g h1 h2 h3
    rwa [decide_eq_true hp] at this
  · refine callVF (.bool false) (fun w g h1 h2 h3 => ?_) (F hp) hrun hg hf ha ht hcm
    have := h w g h1 h2 h3
    rwa [decide_eq_false hp] at this
/-- 'xs == nil'. -/
theorem eqNilS {A : Option Addr} {nn c n' c' : Nat} (k : RW m P n B ops K l (up ρ d (.bool A.isNone)) f L) (hrun : runP P ops l0 ρ0 = (⟨some d, .binOp .eql t x y t2, ty, pos, af, gd⟩ :: l, ρ) := by rfl) (hg : wantedE ops ρ ⟨some d, .binOp .eql t x y t2, ty, pos, af, gd⟩ = true := by rfl)
    (hx : ev ρ x = .slice A nn c := by rfl) (hy : ev ρ y = .slice none n' c' := by rfl) (he : elemT P t = some e := by rfl) : RW m P n B ops K l0 ρ0 f L := by
  refine rw_runP l0 ρ0 ?_
  rw [hrun]
  exact rw_y hg (fun w hw => by
    have := Go.Lib.run_eql_slice_nil (P := P) w t e A nn c n' c' (und_elemT he)
    simp [execOp, eqGuard, hx, hy, this]) k
/-- Onto an own row (entry i) cells that are known in every world of the class. -/
theorem appW (i : Nat) {s : Operand} {A A2 : Option Addr} {nn c mm c2 sz by_ : Nat} {xs news zs : List Value} (hl : news.length = mm * sz) (hnews : ∀ w, St B f L w → 0 < mm → ∃ b o, A2 = some ⟨b, o, none⟩ ∧ ∀ j u, news[j]? = some u → w.cell? ⟨b, o + j, none⟩ = some u) (h1 : ∀ u ∈ news, u.oneCell' = true)
    (k : ∀ A' c', RW .s P n B ops K l (up ρ d (.slice A' (nn + mm) c')) f (L.set i (.row A' (nn + mm) c' e sz (xs ++ news))))
    (hrun : runP P ops l0 ρ0 = (⟨some d, .call ⟨.builtin .append, ⟨[s, x]⟩, ⟨[t, t]⟩⟩, ty, pos, af, gd⟩ :: l, ρ) := by rfl) (hg : wantedE ops ρ ⟨some d, .call ⟨.builtin .append, ⟨[s, x]⟩, ⟨[t, t]⟩⟩, ty, pos, af, gd⟩ = true := by rfl)
    (hs : ev ρ s = .slice A nn c := by rfl) (hx : ev ρ x = .slice A2 mm c2 := by rfl) (hi : L[i]? = some (.row A nn c e sz xs) := by rfl) (he : elemT P t = some e := by rfl) (hz : sizeT P e = some sz := by rfl) (hb : bytesT P e = some by_ := by rfl) (hzz : zeroT P e = some zs := by rfl)
    (hzl : Nat.beq zs.length sz && Nat.ble 1 sz && Nat.ble 1 by_ = true := by rfl) (hlim : (nn + mm) * by_ ≤ 140737488355328 := by omega) : RW .s P n B ops K l0 ρ0 f L := by
  refine rw_runP l0 ρ0 ?_
  rw [hrun]
  simp only [Bool.and_eq_true] at hzl
  have hzl1 : zs.length = sz := Nat.eq_of_beq_eq_true hzl.1.1
  have hp1 : 0 < sz := Nat.lt_of_succ_le (Nat.le_of_ble_eq_true hzl.1.2)
  have hp2 : 0 < by_ := Nat.lt_of_succ_le (Nat.le_of_ble_eq_true (of_decide_eq_true hzl.2))
  refine sw_do hg fun w hw => ?_
  have hown : w.ownsRow 0 e sz (.slice A nn c) nn xs := hw.own _ (List.mem_of_getElem? hi)
  obtain ⟨A', c', w', hr, h3, h4, h5⟩ := append_run (P := P) (ρ := ρ) (d := d) (ty := ty) (pos := pos) (af := af) (gd := gd) hs hx he hz hb hzz hzl1 hp1 hown hl (hnews w hw) h1 hlim hp2
  exact ⟨_, w', hr, .inl ⟨_, rfl, f, _, hw.appended hi h3 h4 h5, k A' c'⟩⟩
/-- 'xs[lo:]', whatever the slice. -/
theorem slL' {A : Option Addr} {nn cc sz : Nat} {lo : Operand} {lv : Int} {ki : IntKind} (j : Nat) (hj : j ≤ nn) (hc : nn ≤ cc) (k : RW m P n B ops K l (up ρ d (.slice (A.map fun a => if j = cc then a else a.add (j * sz)) (nn - j) (cc - j))) f L)
    (hrun : runP P ops l0 ρ0 = (⟨some d, .slice t x (some lo) none none, ty, pos, af, gd⟩ :: l, ρ) := by rfl) (hg : wantedE ops ρ ⟨some d, .slice t x (some lo) none none, ty, pos, af, gd⟩ = true := by rfl)
    (hx : ev ρ x = .slice A nn cc := by rfl) (hy : ev ρ lo = .int ki lv := by rfl) (he : elemT P t = some e := by rfl) (hz : sizeT P e = some sz := by rfl) (hh : lv = j := by rfl) : RW m P n B ops K l0 ρ0 f L := by
  refine rw_runP l0 ρ0 ?_
  rw [hrun]
  subst hh
  exact rw_y hg (fun w hw => by
    have h1 : (0 : Int) ≤ (j : Int) ∧ (j : Int) ≤ (nn : Int) := ⟨by omega, by omega⟩
    have h2 : (0 : Int) ≤ (nn : Int) ∧ (nn : Int) ≤ (cc : Int) := ⟨by omega, by omega⟩
    have e1 : ((cc : Int) - (j : Int)).toNat = cc - j := by omega
    have e2 : ((nn : Int) - (j : Int)).toNat = nn - j := by omega
    by_cases hjc : j = cc
    · subst hjc
      cases A <;> simp [execOp, Instr.sliceAt, Instr.slice, Instr.sliceBounds, Instr.sliceBound, hx, hy, asIntOf, run_und (und_elemT he), run_sizeT hz, h1, h2, hj, hc, Addr.add]
    · have e3 : ¬ cc - j = 0 := by omega
      cases A <;> simp [execOp, Instr.sliceAt, Instr.slice, Instr.sliceBounds, Instr.sliceBound, hx, hy, asIntOf, run_und (und_elemT he), run_sizeT hz, h1, h2, hj, hc, hjc, e3]
      exact fun h => absurd h.symm hjc) k
/-- What a part of an own row shows. -/
theorem St.rowTail {w : World} {i c nn sz j : Nat} {A : Option Addr} {xs : List Value} (hw : St B f L w) (hi : L[i]? = some (.row A nn c e sz xs)) (hj : j < nn) : ∃ b o, (A.map fun a => if j = c then a else a.add (j * sz)) = some ⟨b, o, none⟩ ∧ ∀ k u, (xs.drop (j * sz))[k]? = some u → w.cell? ⟨b, o + k, none⟩ = some u := by
  obtain ⟨b, o, rfl, hc⟩ := hw.rowAll hi (by omega)
  have hcn := (hw.rowLen hi).2.1
  refine ⟨b, o + j * sz, ?_, fun k u hk => ?_⟩
  · simp only [Option.map_some]
    rw [if_neg (by omega), add_plain]
  · rw [List.getElem?_drop] at hk
    have := hc _ u hk
    rwa [← Nat.add_assoc] at this
end
end Go.Hog

set_option linter.unusedVariables false
set_option linter.unusedSimpArgs false
namespace Go.Hog
theorem strSO : SO (fun x y : Str => x < y) := ⟨fun h => List.lt_asymm h, fun h1 h2 => List.lt_trans h1 h2, fun {a b c} h1 h2 h3 => by
    have h1' : b ≤ a := h1
    have h2' : c ≤ b := h2
    exact (List.le_trans h2' h1') h3⟩
theorem strEq {x y : Str} (h1 : ¬ x < y) (h2 : ¬ y < x) : x = y := List.le_antisymm (List.not_lt.1 h2) (List.not_lt.1 h1)
def SortedS (l : List Str) : Prop := l.Pairwise fun a b => ¬ b < a
theorem sorted_uniq : ∀ {l m : List Str}, l.Perm m → SortedS l → SortedS m → l = m
  | [], m, hp, _, _ => by rw [List.nil_perm.1 hp]
  | a :: l, [], hp, _, _ => by simp at hp
  | a :: l, b :: m, hp, h1, h2 => by
    have ha := List.pairwise_cons.1 h1
    have hb := List.pairwise_cons.1 h2
    have e : a = b := by
      refine strEq ?_ ?_
      · rcases List.mem_cons.1 (hp.mem_iff.1 (List.mem_cons_self (a := a) (l := l))) with e | e
        · subst e; exact List.lt_irrefl _
        · exact hb.1 a e
      · rcases List.mem_cons.1 (hp.mem_iff.2 (List.mem_cons_self (a := b) (l := m))) with e | e
        · subst e; exact List.lt_irrefl _
        · exact ha.1 b e
    subst e
    rw [sorted_uniq ((List.perm_cons a).1 hp) ha.2 hb.2]
/-- Into a sorted list, behind all that are not above. -/
def insS (x : Str) : List Str → List Str
  | [] => [x]
  | y :: l => if x < y then x :: y :: l else y :: insS x l
def sortS : List Str → List Str
  | [] => []
  | x :: l => insS x (sortS l)
theorem insS_perm (x : Str) : ∀ l, (insS x l).Perm (x :: l)
  | [] => List.Perm.refl _
  | y :: l => by
    unfold insS
    split
    · exact List.Perm.refl _
    · exact ((insS_perm x l).cons y).trans (.swap _ _ _)
theorem insS_sorted {x : Str} : ∀ {l : List Str}, SortedS l → SortedS (insS x l)
  | [], _ => by simp [insS, SortedS]
  | y :: l, h => by
    have hy := List.pairwise_cons.1 h
    unfold insS
    split
    · rename_i hlt
      refine List.pairwise_cons.2 ⟨fun z hz => ?_, h⟩
      rcases List.mem_cons.1 hz with rfl | hz
      · exact strSO.asym hlt
      · exact fun hzx => hy.1 z hz (strSO.trans hzx hlt)
    · rename_i hlt
      refine List.pairwise_cons.2 ⟨fun z hz => ?_, insS_sorted hy.2⟩
      rcases List.mem_cons.1 ((insS_perm x l).mem_iff.1 hz) with rfl | hz
      · exact hlt
      · exact hy.1 z hz
theorem sortS_perm : ∀ l, (sortS l).Perm l
  | [] => List.Perm.refl _
  | x :: l => (insS_perm x _).trans ((sortS_perm l).cons x)
theorem sortS_sorted : ∀ l, SortedS (sortS l)
  | [] => List.Pairwise.nil
  | x :: l => insS_sorted (sortS_sorted l)
theorem sortS_of {l m : List Str} (hp : m.Perm l) (hs : SortedS m) : m = sortS l := sorted_uniq (hp.trans (sortS_perm l).symm) hs (sortS_sorted l)
theorem sortS_len (l : List Str) : (sortS l).length = l.length := (sortS_perm l).length_eq
theorem sortS_mem {l : List Str} {s : Str} : s ∈ sortS l ↔ s ∈ l := (sortS_perm l).mem_iff
theorem sortS_congr {l m : List Str} (h : l.Perm m) : sortS l = sortS m := sortS_of ((sortS_perm l).trans h) (sortS_sorted l)
/-- Where insertion sort stands: at place j of the first i + 1. -/
structure InsI (m : List Str) (i j : Nat) : Prop where
  ord : ∀ p q, p < q → q ≤ i → q ≠ j → ¬ at_ m q < at_ m p
  le : j ≤ i
theorem InsI.start {m : List Str} {i : Nat} (h : ∀ p q, p < q → q < i → ¬ at_ m q < at_ m p) : InsI m i i := ⟨fun p q h1 h2 h3 => h p q h1 (by omega), Nat.le_refl _⟩
theorem InsI.stop {m : List Str} {i j : Nat} (h : InsI m i j) (hs : j = 0 ∨ ¬ at_ m j < at_ m (j - 1)) : ∀ p q, p < q → q < i + 1 → ¬ at_ m q < at_ m p := by
  intro p q h1 h2
  by_cases hq : q = j
  · subst hq
    rcases hs with hs | hs
    · omega
    · by_cases hp : p = q - 1
      · subst hp; exact hs
      · exact strSO.ntrans hs (h.ord p (q - 1) (by omega) (by omega) (by omega))
  · exact h.ord p q h1 (by omega) hq
theorem InsI.step {m : List Str} {i j : Nat} (h : InsI m i j) (hi : i < m.length) (hj : 0 < j) (hlt : at_ m j < at_ m (j - 1)) : InsI (swapL m j (j - 1)) i (j - 1) := by
  have hle := h.le
  have hat : ∀ k, k ≤ i → at_ (swapL m j (j - 1)) k = if k = j - 1 then at_ m j else if k = j then at_ m (j - 1) else at_ m k := fun k hk => swapL_at (by omega) (by omega) (by omega)
  refine ⟨fun p q h1 h2 h3 => ?_, by omega⟩
  rw [hat p (by omega), hat q h2]
  rw [if_neg h3]
  by_cases hqj : q = j
  · subst hqj
    rw [if_pos rfl]
    by_cases hp : p = q - 1
    · rw [if_pos hp]; exact strSO.asym hlt
    · rw [if_neg hp, if_neg (by omega)]
      exact h.ord p (q - 1) (by omega) (by omega) (by omega)
  · rw [if_neg hqj]
    by_cases hp : p = j - 1
    · rw [if_pos hp]; exact h.ord j q (by omega) h2 hqj
    · rw [if_neg hp]
      by_cases hp2 : p = j
      · rw [if_pos hp2]; exact h.ord (j - 1) q (by omega) h2 hqj
      · rw [if_neg hp2]; exact h.ord p q h1 h2 hqj
theorem sorted_at {m : List Str} (h : ∀ p q, p < q → q < m.length → ¬ at_ m q < at_ m p) : SortedS m := by
  refine List.pairwise_iff_getElem.2 fun i j hi hj hij => ?_
  have := h i j hij hj
  rwa [at_get hi, at_get hj] at this
theorem snocInd {α : Type} {P : List α → Prop} (h0 : P []) (h1 : ∀ l x, P l → P (l ++ [x])) (l : List α) : P l := by
  have : ∀ r : List α, P r.reverse := by
    intro r
    induction r with
    | nil => exact h0
    | cons x r ih => rw [List.reverse_cons]; exact h1 _ _ ih
  have := this l.reverse
  rwa [List.reverse_reverse] at this
end Go.Hog

set_option linter.unusedVariables false
set_option linter.unusedSimpArgs false
namespace Go.Hog
open Go.RowKit Rp
section
variable {P : Program} {n : Nat} {B : Bs} {f : View} {L : List HE} {ρ : Env} {Q : Post} {K : Kon} {ops : Array Oper} {m : Md} {l l0 : List Oper} {ρ0 : Env}
variable {d : Nat} {x y : Operand} {t ty e t2 : TypeId} {pos : String} {af : Array Edge} {gd : Option (Nat × Bool)} {b o : Nat} {v : Value} {vs cs : List Value}
theorem ret0Mr {fn : Func} {w0 : World} {f0 : View} {L0 : List HE} {R : View → List HE → Value → Prop} (hR : R f L (.tuple #[])) (hr : fn.results = #[] := by rfl) : retQ P fn ⟨w0, f0, fps L0⟩ (RetM w0 f0 L0 R) .ret ρ f L := by
  intro w hw tmps htm
  exact ⟨.tuple #[], by simp [results, hr], _, _, _, rfl, hw, hR⟩
/-- A byte of a table, whichever. -/
theorem ixSx {s : Str} {ki : IntKind} {i : Int} (N j : Nat) (hj : j < N) (k : ∀ c : UInt8, RW m P n B ops K l (up ρ d (.int .u8 (c.toNat : Int))) f L) (hrun : runP P ops l0 ρ0 = (⟨some d, .index t x y, ty, pos, af, gd⟩ :: l, ρ) := by rfl) (hg : wantedE ops ρ ⟨some d, .index t x y, ty, pos, af, gd⟩ = true := by rfl) (hx : ev ρ x = str s := by rfl) (hy : ev ρ y = .int ki i := by rfl) (ht : P.underlying t = some .string := by rfl) (hN : s.length = N := by rfl) (hi : i = j := by rfl) : RW m P n B ops K l0 ρ0 f L :=
  ixS j (s[j]'(by rw [hN]; exact hj)) (List.getElem?_eq_getElem _) (k _) hrun hg hx hy ht hi
/-- 'clear(xs[o:])' of an own row (entry i). -/
theorem clr (i : Nat) {nn c mm c2 : Nat} {xs : List Value} {A : Option Addr} (ho : o + mm ≤ xs.length) (hA : 0 < mm → A = some ⟨b, o, none⟩) (k : RW .s P n B ops K l ρ f (L.set i (.row (some ⟨b, 0, none⟩) nn c e 1 (putL xs o (List.replicate mm v)))))
    (hrun : runP P ops l0 ρ0 = (⟨none, .call ⟨.builtin .clear, ⟨[x]⟩, ⟨[t]⟩⟩, ty, pos, af, gd⟩ :: l, ρ) := by rfl) (hg : wantedE ops ρ ⟨none, .call ⟨.builtin .clear, ⟨[x]⟩, ⟨[t]⟩⟩, ty, pos, af, gd⟩ = true := by rfl)
    (hx : ev ρ x = .slice A mm c2 := by rfl) (hi : L[i]? = some (.row (some ⟨b, 0, none⟩) nn c e 1 xs) := by rfl) (he : elemT P t = some e := by rfl) (hz : zeroT P e = some [v] := by rfl) (h1 : v.oneCell' = true := by rfl) : RW .s P n B ops K l0 ρ0 f L := by
  refine rw_runP l0 ρ0 ?_
  rw [hrun]
  refine sw_do hg fun w hw => ?_
  have hex : ∀ {w' : World}, (Builtin.clear_ #[t] ty #[.slice A mm c2]).run P w = .ok (.tuple #[]) w' → (execOp (ev ρ) ⟨none, .call ⟨.builtin .clear, ⟨[x]⟩, ⟨[t]⟩⟩, ty, pos, af, gd⟩).run P w = .ok (.value (.tuple #[])) w' := fun {w'} h => by
    simp only [execOp, resolve, invoke, builtin, Sem.run_bind, Sem.run_pure, Result.andThen_ok, List.map_toArray, List.map_cons, List.map_nil, hx, h]
  rcases Nat.eq_zero_or_pos mm with h0 | h0
  · subst h0
    refine ⟨_, w, hex ?_, .inl ⟨_, rfl, f, _, ?_, k⟩⟩
    · cases A <;> simp [Builtin.clear_, run_und (und_elemT he)]
    · have e1 : putL xs o (List.replicate 0 v) = xs := by cases xs <;> cases o <;> rfl
      have hlt : i < L.length := (List.getElem?_eq_some_iff.1 hi).1
      rw [e1]
      have e2 : L.set i (.row (some ⟨b, 0, none⟩) nn c e 1 xs) = L := by
        have := (List.getElem?_eq_some_iff.1 hi).2
        rw [← this]
        exact List.set_getElem_self hlt
      rw [e2]
      exact hw
  obtain rfl := hA h0
  have hown : w.ownsRow 0 e 1 (.slice (some ⟨b, 0, none⟩) nn c) nn xs := hw.own _ (List.mem_of_getElem? hi)
  obtain ⟨h2, h3⟩ := hown
  rcases h3 with ⟨h3, _⟩ | ⟨g, cap, cur, hv, hg', hh, r1, r2, r3, r4⟩
  · injection h3 with h3; cases h3
  injection hv with hv _ hc
  injection hv with hv
  injection hv with hv
  subst hv hc
  have hcl : xs.length ≤ cur.toList.length := by rw [← r4, List.length_take]; omega
  have hl : o + (List.replicate mm v).length ≤ xs.length := by simpa using ho
  have hst := run_storeCells_at P b o e (List.replicate mm v) 0 cur w hh (Nat.le_trans hl hcl) (fun u hu => by rw [List.eq_of_mem_replicate hu]; exact h1)
  simp only [Nat.add_zero] at hst
  have e2 : (cur.toList.take o ++ List.replicate mm v ++ cur.toList.drop (o + (List.replicate mm v).length)) = putL cur.toList o (List.replicate mm v) := putL_eq _ _ _ (by omega)
  rw [e2] at hst
  refine ⟨_, w.setRow b ⟨putL cur.toList o (List.replicate mm v)⟩, hex ?_, .inl ⟨_, rfl, f, _, ?_, k⟩⟩
  · obtain ⟨z, hz1, hzc⟩ := run_zeroT hz w
    have hzc' : (Builtin.zeroCells z.cells mm).toList = List.replicate mm v := by
      rw [hzc]
      simp [Builtin.zeroCells]
      apply List.ext_getElem
      · simp
      · intro i h1 h2
        simp [Nat.mod_one]
    obtain ⟨q, rfl⟩ : ∃ q, mm = q + 1 := ⟨mm - 1, by omega⟩
    simp [Builtin.clear_, run_und (und_elemT he), hz1, hzc', hst]
  · refine hw.set hi rfl rfl rfl (by simp [World.setRow]) (fun k' _ hk' => setRow_other w b k' _ (fun e0 => hk' (by rw [e0]; rfl))) ⟨?_, .inr ⟨b, c, _, rfl, Nat.zero_le _, setRow_heap w b cur _ e _ hh, r1, r2, ?_, ?_⟩⟩ (fun b' hb' => .inl hb')
    · rw [putL_length _ _ _ hl]; exact h2
    · simp [putL_length _ _ _ (Nat.le_trans hl hcl)]; simpa using r3
    · rw [putL_take _ _ _ _ (by rw [← h2]; exact hl) (by rw [← h2]; exact hcl), r4]
end
end Go.Hog
