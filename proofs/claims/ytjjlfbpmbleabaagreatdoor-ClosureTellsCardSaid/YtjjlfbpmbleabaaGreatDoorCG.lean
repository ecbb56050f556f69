/- F17 F18 F19 F20 S8 F22, in one text. -/
import Derived.Test.YtjjlfbpmbleabaaGreatDoorF16
import Derived.Test.YtjjlfbpmbleabaaGreatDoorEY
import Derived.Test.YtjjlfbpmbleabaaGreatDoorMF
import Derived.Test.YtjjlfbpmbleabaaGreatDoorE27
set_option linter.unusedVariables false
set_option linter.unusedSimpArgs false
set_option maxRecDepth 100000
set_option maxHeartbeats 1000000
namespace Go.Hog
open Go.RowKit Rp Go.Proofs
theorem unlike_iff (a : List Item) : ((dd (sortS (names a))).length : Int) = (a.length : Nat) ↔ (names a).Nodup := by
  rw [← (sortS_perm (names a)).nodup_iff, ← dd_len (sortS_sorted _), sortS_len, namesLen]
  omega
open Classical in
noncomputable def scN (a : List Item) (k : Nat) (s : Str) : Nat := ((a.take k).filter fun x => decide (x.name ≠ s ∧ s ∈ reachL a [x.name])).length
noncomputable def sc (a : List Item) (s : Str) : Nat := scN a a.length s
theorem scN_le (a : List Item) (k : Nat) (s : Str) : scN a k s ≤ a.length := by
  unfold scN
  exact Nat.le_trans (List.length_filter_le _ _) (List.length_take_le' _ _)
theorem scN_succ {a : List Item} {k : Nat} (h : k < a.length) (s : Str) : scN a (k + 1) s = scN a k s + (if a[k].name ≠ s ∧ s ∈ reachL a [a[k].name] then 1 else 0) := by
  unfold scN
  rw [List.take_add_one, List.getElem?_eq_getElem h, List.filter_append, List.length_append]
  congr 1
  by_cases hc : a[k].name ≠ s ∧ s ∈ reachL a [a[k].name]
  · rw [if_pos hc]
    simp [hc]
  · rw [if_neg hc]
    simp [hc]
def gN (cnt : Str → Nat) (s : Str) : Value := i64 (cnt s : Nat)
theorem gN_upd {ks : List Str} {cnt : Str → Nat} {r : Str} : mapF ks (updF (gN cnt) r (i64 ((cnt r + 1 : Nat) : Int))) = mapF ks (gN fun u => if u = r then cnt r + 1 else cnt u) := List.map_congr_left fun u _ => by
  simp only [updF, gN]
  split <;> rfl
def scoresR (cnt : Str → Nat) (L' : List HE) (v : Value) : Prop := ∃ b ks, v = .map (some b) ∧ L' = [.mp b (mapF ks (gN cnt))] ∧ ks.Nodup ∧ ∀ s, s ∉ ks → cnt s = 0
end Go.Hog

set_option linter.unusedVariables false
set_option linter.unusedSimpArgs false
set_option maxRecDepth 100000
set_option maxHeartbeats 1000000
namespace Go.Hog
open Go.RowKit Rp Go.Proofs
noncomputable def scoresL (a : List Item) : List Int := if (names a).Nodup then a.map (fun x => (sc a x.name : Int)) else []
def Abv (a : Int) (x : Str) (b : Int) (y : Str) : Prop := b < a ∨ a = b ∧ x < y
instance (a : Int) (x : Str) (b : Int) (y : Str) : Decidable (Abv a x b y) := by unfold Abv; infer_instance
end Go.Hog

set_option linter.unusedVariables false
set_option linter.unusedSimpArgs false
set_option maxRecDepth 100000
set_option maxHeartbeats 1000000
namespace Go.Hog
open Go.RowKit Rp Go.Proofs
section
variable {P : Program}
def methQ (P : Program) (T : TypeId) (name : String) : Option (FuncId × Bool) := (P.info? T).bind fun i => (i.methods.find? (·.name == name)).bind fun m => match m.path with | ⟨[]⟩ => m.func | _ => none
theorem methQ_spec {T : TypeId} {name : String} {r : FuncId × Bool} (h : methQ P T name = some r) : ∃ i m, P.info? T = some i ∧ i.methods.find? (·.name == name) = some m ∧ m.path = #[] ∧ m.func = some r := by
  unfold methQ at h
  obtain ⟨i, h1, h⟩ := Option.bind_eq_some_iff.1 h
  obtain ⟨m, h2, h⟩ := Option.bind_eq_some_iff.1 h
  split at h
  · rename_i h3
    exact ⟨i, m, h1, h2, h3, h⟩
  · cases h
theorem run_methQ {T e : TypeId} {name : String} {k : FuncId} {v : Value} {args : Array Value} {w : World} (hm : methQ P T name = some (k, true)) (hT : P.underlying T = some (.pointer e)) (hcf : ∀ args w, (callFunc k args).run P w = .ok (.enter k args) w) :
    (callMethod (.iface T v) name args).run P w = .ok (.enter k (#[v] ++ args)) w := by
  obtain ⟨i, m, h1, h2, h3, h4⟩ := methQ_spec hm
  unfold callMethod
  have hf : ∀ fuel, (method (fuel + 1) T v name).run P w = .ok (k, v) w := fun fuel => by
    unfold method
    simp only [Sem.run_bind, run_info h1, Result.andThen_ok, h2, h3, follow, Sem.run_pure, h4]
    simp [receiverAt, run_und hT, Place.get]
  have hp : (program).run P w = .ok P w := by simp [program, Sem.run]
  simp only [Sem.run_bind, hp, Result.andThen_ok]
  rw [show P.types.size + Made.depth = (P.types.size + 99) + 1 from rfl, hf]
  simp only [Result.andThen_ok, hcf]
end
abbrev Pl := Int × Str
def plC (p : Pl) : List Value := [i64 p.1, str p.2]
def plLt (p q : Pl) : Prop := Abv p.1 p.2 q.1 q.2
instance : DecidableRel plLt := fun p q => by unfold plLt; infer_instance
theorem plSO : SO plLt where
  asym := fun {a b} h1 h2 => by
    rcases h1 with h1 | ⟨h1, h1'⟩ <;> rcases h2 with h2 | ⟨h2, h2'⟩
    · omega
    · omega
    · omega
    · exact strSO.asym h1' h2'
  trans := fun {a b c} h1 h2 => by
    rcases h1 with h1 | ⟨h1, h1'⟩ <;> rcases h2 with h2 | ⟨h2, h2'⟩
    · exact .inl (by omega)
    · exact .inl (by omega)
    · exact .inl (by omega)
    · exact .inr ⟨by omega, strSO.trans h1' h2'⟩
  ntrans := fun {a b c} h1 h2 h3 => by
    have a1 : ¬ b.1 < a.1 := fun e => h1 (.inl e)
    have a2 : ¬ c.1 < b.1 := fun e => h2 (.inl e)
    rcases h3 with h3 | ⟨h3, h3'⟩
    · omega
    · have e1 : a.1 = b.1 := by omega
      have e2 : b.1 = c.1 := by omega
      exact strSO.ntrans (fun e => h1 (.inr ⟨e1, e⟩)) (fun e => h2 (.inr ⟨e2, e⟩)) h3'
theorem plIrr (a : Pl) : ¬ plLt a a := fun h => plSO.asym h h
theorem plC_len (p : Pl) : (plC p).length = 2 := rfl
theorem kCell {l : List Pl} {k : Nat} (hk : k < l.length) : ∀ j v, (plC (at_ l k))[j]? = some v → (l.flatMap plC)[0 + k * 2 + j]? = some v := fun j v hj => by
  have hj2 : j < 2 := (List.getElem?_eq_some_iff.1 hj).1
  rw [Nat.zero_add, flat_cell plC_len l k j hk hj2, ← at_get hk]
  exact hj
end Go.Hog

set_option linter.unusedVariables false
set_option linter.unusedSimpArgs false
set_option maxRecDepth 100000
set_option maxHeartbeats 1000000
namespace Go.Hog
open Go.RowKit Rp Go.Proofs
end Go.Hog

set_option linter.unusedVariables false
set_option linter.unusedSimpArgs false
set_option linter.unusedSectionVars false
namespace Go.Hog
section
variable {α : Type} {lt : α → α → Prop}
def SBy (lt : α → α → Prop) (l : List α) : Prop := l.Pairwise fun a b => ¬ lt b a
theorem sby_uniq (irr : ∀ a, ¬ lt a a) (eq_of : ∀ a b, ¬ lt a b → ¬ lt b a → a = b) : ∀ {l m : List α}, l.Perm m → SBy lt l → SBy lt m → l = m
  | [], m, hp, _, _ => by rw [List.nil_perm.1 hp]
  | a :: l, [], hp, _, _ => by simp at hp
  | a :: l, b :: m, hp, h1, h2 => by
    have ha := List.pairwise_cons.1 h1
    have hb := List.pairwise_cons.1 h2
    have e : a = b := by
      refine eq_of _ _ ?_ ?_
      · rcases List.mem_cons.1 (hp.mem_iff.1 (List.mem_cons_self (a := a) (l := l))) with e | e
        · subst e; exact irr _
        · exact hb.1 a e
      · rcases List.mem_cons.1 (hp.mem_iff.2 (List.mem_cons_self (a := b) (l := m))) with e | e
        · subst e; exact irr _
        · exact ha.1 b e
    subst e
    rw [sby_uniq irr eq_of ((List.perm_cons a).1 hp) ha.2 hb.2]
variable [DecidableRel lt]
def insBy (lt : α → α → Prop) [DecidableRel lt] (x : α) : List α → List α
  | [] => [x]
  | y :: l => if lt x y then x :: y :: l else y :: insBy lt x l
def sortBy (lt : α → α → Prop) [DecidableRel lt] : List α → List α
  | [] => []
  | x :: l => insBy lt x (sortBy lt l)
theorem insBy_perm (x : α) : ∀ l, (insBy lt x l).Perm (x :: l)
  | [] => List.Perm.refl _
  | y :: l => by
    unfold insBy
    split
    · exact List.Perm.refl _
    · exact ((insBy_perm x l).cons y).trans (.swap _ _ _)
theorem insBy_sorted (so : SO lt) {x : α} : ∀ {l : List α}, SBy lt l → SBy lt (insBy lt x l)
  | [], _ => by simp [insBy, SBy]
  | y :: l, h => by
    have hy := List.pairwise_cons.1 h
    unfold insBy
    split
    · rename_i hlt
      refine List.pairwise_cons.2 ⟨fun z hz => ?_, h⟩
      rcases List.mem_cons.1 hz with rfl | hz
      · exact so.asym hlt
      · exact fun hzx => hy.1 z hz (so.trans hzx hlt)
    · rename_i hlt
      refine List.pairwise_cons.2 ⟨fun z hz => ?_, insBy_sorted so hy.2⟩
      rcases List.mem_cons.1 ((insBy_perm x l).mem_iff.1 hz) with rfl | hz
      · exact hlt
      · exact hy.1 z hz
theorem sortBy_perm : ∀ l, (sortBy lt l).Perm l
  | [] => List.Perm.refl _
  | x :: l => (insBy_perm x _).trans ((sortBy_perm l).cons x)
theorem sortBy_sorted (so : SO lt) : ∀ l, SBy lt (sortBy lt l)
  | [] => List.Pairwise.nil
  | x :: l => insBy_sorted so (sortBy_sorted so l)
/-- Into a sorted list at place k: behind it all are above, ahead of it none is. -/
theorem sby_insert (so : SO lt) {l : List α} {k : Nat} {x : α} (hs : SBy lt l) (hk : k ≤ l.length) (h1 : ∀ y ∈ l.drop k, lt x y) (h2 : k = 0 ∨ ∃ h : k - 1 < l.length, ¬ lt x l[k - 1]) : SBy lt (l.take k ++ [x] ++ l.drop k) := by
  have hpre : ∀ y ∈ l.take k, ¬ lt x y := fun y hy => by
    rcases h2 with h2 | ⟨h2, h3⟩
    · subst h2; simp at hy
    · obtain ⟨j, hj, rfl⟩ := List.getElem_of_mem hy
      have hjk : j < k := by simp at hj; omega
      rw [List.getElem_take]
      by_cases hje : j = k - 1
      · subst hje; exact h3
      · exact so.ntrans h3 (List.pairwise_iff_getElem.1 hs j (k - 1) (by omega) h2 (by omega))
  rw [List.append_assoc]
  refine List.pairwise_append.2 ⟨hs.sublist (List.take_sublist _ _), List.pairwise_cons.2 ⟨fun y hy => so.asym (h1 y hy), hs.sublist (List.drop_sublist _ _)⟩, fun y hy z hz => ?_⟩
  rcases List.mem_cons.1 hz with rfl | hz
  · exact hpre y hy
  · have hs' : SBy lt (l.take k ++ l.drop k) := by rwa [List.take_append_drop]
    exact (List.pairwise_append.1 hs').2.2 y hy z hz
theorem insert_perm {l : List α} (k : Nat) (x : α) : (l.take k ++ [x] ++ l.drop k).Perm (x :: l) := by
  have h1 : (l.take k ++ [x] ++ l.drop k).Perm ([x] ++ l.take k ++ l.drop k) := (List.perm_append_comm).append_right _
  refine h1.trans ?_
  rw [List.append_assoc, List.take_append_drop]
  exact List.Perm.refl _
end
theorem plEq (a b : Pl) (h1 : ¬ plLt a b) (h2 : ¬ plLt b a) : a = b := by
  have a1 : ¬ b.1 < a.1 := fun e => h1 (.inl e)
  have a2 : ¬ a.1 < b.1 := fun e => h2 (.inl e)
  have e1 : a.1 = b.1 := by omega
  have e2 : a.2 = b.2 := strEq (fun e => h1 (.inr ⟨e1, e⟩)) (fun e => h2 (.inr ⟨e1.symm, e⟩))
  exact Prod.ext e1 e2
noncomputable def plOf (a : List Item) (x : Item) : Pl := ((sc a x.name : Int), x.name)
noncomputable def rankP (a : List Item) : List Pl := sortBy plLt (a.map (plOf a))
theorem rankP_of {a : List Item} {l : List Pl} (hp : l.Perm (a.map (plOf a))) (hs : SBy plLt l) : l = rankP a :=
  sby_uniq plIrr plEq (hp.trans (sortBy_perm _).symm) hs (sortBy_sorted plSO _)
noncomputable def rankL (a : List Item) : List Str := if (names a).Nodup then (rankP a).map Prod.snd else []
end Go.Hog

set_option linter.unusedVariables false
set_option linter.unusedSimpArgs false
set_option maxRecDepth 100000
set_option maxHeartbeats 1000000
namespace Go.Hog
open Go.RowKit Rp Go.Proofs
theorem hasR9 {w : World} {f : View} (hv : On f w) {A : Option Addr} {c : Nat} {a : List Str} {s : Str} (ha : Sl f A c a) :
    Con Tryz.prog 28 [.slice A a.length c, str s] w (Ret w f fun _ v => v = .bool (decide (s ∈ a))) := by
  refine enterC hv Tryz.call28 Tryz.func28 ?_
  have hlim := ha.len_lt
  refine sgE (sq (sgE (bk ?_)))
  refine lpn a.length (fun k => [(5, i64 k), (0, .slice A a.length c), (1, str s)]) (fun k => ∀ j (h : j < a.length), j < k → a[j] ≠ s) (fun j h hj => by omega) ?_
  intro k ρ hk hi
  refine sq (sg ?_)
  refine ltE (fun h => ?_) (fun h => ?_)
  · have h1 : k < a.length := by omega
    obtain ⟨b1, o1, rfl, c1, _⟩ := ha.text h1
    refine cTs (sq (bk (sg ?_)))
    refine ix k h1 ?_
    refine ldv c1 ?_
    refine eqSE (fun h3 => ?_) (fun h3 => ?_)
    · refine cT (rr ?_)
      exact ret1 (bT (h3 ▸ List.getElem_mem h1))
    · refine cFs (rg ?_)
      refine addE ((k + 1 : Nat) : Int) ?_
      refine nx fun j hj hjk => ?_
      by_cases e : j = k
      · subst e; exact h3
      · exact hi j hj (by omega)
  · refine cFx (rr ?_)
    refine ret1 (bF fun hm => ?_)
    obtain ⟨j, hj, rfl⟩ := List.getElem_of_mem hm
    exact hi j hj (by omega) rfl
/-- What insertion of texts, one after the other, comes to. -/
def InsL (l : List Str) (k : Nat) (o : List Str) : Prop := SBy (fun x y : Str => x < y) o ∧ o.Perm (l.take k)
theorem InsL.fin {l o : List Str} (h : InsL l l.length o) : o = sortS l := by
  have h2 := h.2
  rw [List.take_length] at h2
  exact sortS_of h2 h.1
theorem InsL.step {l o : List Str} {i k : Nat} (h : InsL l i o) (hi : i < l.length) (hk : k ≤ o.length) (h1 : ∀ y ∈ o.drop k, l[i] < y) (h2 : k = 0 ∨ ∃ h : k - 1 < o.length, ¬ l[i] < o[k - 1]) : InsL l (i + 1) (o.take k ++ [l[i]] ++ o.drop k) := by
  refine ⟨sby_insert strSO h.1 hk h1 h2, (insert_perm k _).trans ?_⟩
  rw [List.take_add_one, List.getElem?_eq_getElem hi]
  exact (h.2.cons _).trans (List.perm_append_comm (l₁ := [l[i]]) (l₂ := l.take i))
theorem ref9Reach {w : World} {f : View} (hv : On f w) {A A2 : Option Addr} {c c2 : Nat} {a : List Item} {S : List Str} (ha : Sl f A c a) (hfit : FitT a) (h12 : a.length ≤ 12) (hS : Sl f A2 c2 S) (hSl : S.length ≤ 1000) :
    Con Tryz.prog 12 [.slice A a.length c, .slice A2 S.length c2] w (RetM w f [] fun _ => reachR a S) := by
  refine enterM (L := []) hv (Given.nil _ _) Tryz.call12 Tryz.func12 ?_
  obtain ⟨sx, hsx, hscs⟩ := hS.cells
  have hsx2 : sx = S.map str := by
    apply List.ext_getElem?
    intro j
    by_cases hj : j < S.length
    · obtain ⟨cs, hcs', hc2⟩ := hsx.cell hj
      have h1 := hc2 0 (by decide)
      rw [hcs'.1] at h1
      simp only [List.getElem?_map, List.getElem?_eq_getElem hj]
      have h2 : sz Str = 1 := rfl
      rw [h2, Nat.mul_one, Nat.add_zero] at h1
      exact h1
    · have h2 : sx.length = S.length * 1 := hsx.len
      rw [List.getElem?_eq_none (by omega), List.getElem?_eq_none (by simp; omega)]
  have q0 : (0 + S.length) * 16 ≤ 140737488355328 := by omega
  refine sgE ?_
  refine sgE ?_
  refine sg ?_
  refine nilrow 9 1 ?_
  refine appV 0 hsx.len hscs hsx.ones (fun A6 c6 => ?_) (hlim := q0)
  refine runE ?_
  refine enilrow 9 1 ?_
  refine efg [(6, .slice A6 (0 + S.length) c6), (5, .slice none 0 0), (0, .slice A a.length c)] [sRow none 0 [], .row A6 (0 + S.length) c6 9 1 ([] ++ sx)] fun ρ => ?_
  rw [Nat.zero_add, List.nil_append, hsx2]
  refine sqJ (σ := List Str × Option Addr × Nat × View) (fun s => [(5, .slice s.2.1 s.1.length s.2.2.1)]) (fun s => s.2.2.2) (fun s => [sRow s.2.1 s.2.2.1 s.1]) (fun s => RI a S [] s.1) ?_ ?_
  · refine sgE ?_
    refine bk ?_
    refine lp (σ := Nat × List Str × List Str × (Option Addr × Nat) × (Option Addr × Nat) × View) (fun s => [(7, i64 s.1), (6, .slice s.2.2.2.2.1.1 s.2.1.length s.2.2.2.2.1.2), (5, .slice s.2.2.2.1.1 s.2.2.1.length s.2.2.2.1.2), (0, .slice A a.length c)]) (fun s => s.2.2.2.2.2) (fun s => [sRow s.2.2.2.1.1 s.2.2.2.1.2 s.2.2.1, sRow s.2.2.2.2.1.1 s.2.2.2.2.1.2 s.2.1])
      (fun s => s.1 ≤ s.2.1.length ∧ Sub f s.2.2.2.2.2 ∧ RI a S (s.2.1.drop s.1) s.2.2.1 ∧ s.2.1.length ≤ 1000 * s.2.2.1.length + S.length) (fun s => (a.length - s.2.2.1.length) * 1001 + (s.2.1.length - s.1)) (0, S, [], (none, 0), (A6, c6), f) ⟨Nat.zero_le _, Sub.refl _, RI.start a S, by simp⟩ ?_
    rintro ⟨k, td, found, ⟨A5, c5⟩, ⟨A7, c7⟩, g⟩ ρ ⟨hk, hsub, hri, hsm⟩
    replace hk : k ≤ td.length := hk
    replace hsub : Sub f g := hsub
    replace hri : RI a S (td.drop k) found := hri
    replace hsm : td.length ≤ 1000 * found.length + S.length := hsm
    have hfl := hri.len
    have ha1 := ha.mono hsub
    show EW _ _ _ _ _ (ups ρ [(7, i64 k), (6, .slice A7 td.length c7), (5, .slice A5 found.length c5), (0, .slice A a.length c)]) g [sRow A5 c5 found, sRow A7 c7 td]
    refine sq (sg ?_)
    refine ltE (fun h => ?_) (fun h => ?_)
    case refine_2 =>
      refine ewL (L' := [sRow A5 c5 found]) (fun _ h => h.sublist (by simp)) ?_
      refine cFx ?_
      have hd : td.drop k = [] := List.drop_eq_nil_of_le (by omega)
      rw [hd] at hri
      exact jn (found, A5, c5, g) hri
    have h1 : k < td.length := by omega
    have hdrop : td.drop k = td[k] :: td.drop (k + 1) := List.drop_eq_getElem_cons h1
    rw [hdrop] at hri
    have hcell : (td.map str)[0 + k * 1]? = some (str td[k]) := by simp [h1]
    generalize hs : td[k] = s at hcell hri
    refine erowF 1 fun hrow => ?_
    obtain ⟨b6, rfl⟩ := hrow.2.2.2.1 (by omega)
    refine cTs (bkJ (σ := List Str × List Str × (Option Addr × Nat) × (Option Addr × Nat) × View) (fun s => [(7, i64 k), (6, .slice s.2.2.2.1.1 s.1.length s.2.2.2.1.2), (5, .slice s.2.2.1.1 s.2.1.length s.2.2.1.2), (0, .slice A a.length c)]) (fun s => s.2.2.2.2) (fun s => [sRow s.2.2.1.1 s.2.2.1.2 s.2.1, sRow s.2.2.2.1.1 s.2.2.2.1.2 s.1])
      (fun s => k < s.1.length ∧ Sub f s.2.2.2.2 ∧ RI a S (s.1.drop (k + 1)) s.2.1 ∧ s.1.length ≤ 1000 * s.2.1.length + S.length ∧ (a.length - s.2.1.length) * 1001 + (s.1.length - k) ≤ (a.length - found.length) * 1001 + (td.length - k)) ?_ ?_)
    case refine_2 =>
      rintro ⟨td2, found2, ⟨A52, c52⟩, ⟨A72, c72⟩, g2⟩ ρ ⟨e1, e2, e3, e4, e5⟩
      replace e1 : k < td2.length := e1
      replace e4 : td2.length ≤ 1000 * found2.length + S.length := e4
      replace e5 : (a.length - found2.length) * 1001 + (td2.length - k) ≤ (a.length - found.length) * 1001 + (td.length - k) := e5
      replace e3 : RI a S (td2.drop (k + 1)) found2 := e3
      have hfl2 := e3.len
      refine rg ?_
      refine addE ((k + 1 : Nat) : Int) ?_
      exact nxs (k + 1, td2, found2, (A52, c52), (A72, c72), g2) ⟨e1, e2, e3, e4⟩ (by show (a.length - found2.length) * 1001 + (td2.length - (k + 1)) < (a.length - found.length) * 1001 + (td.length - k); omega)
    refine sg ?_
    refine ix k h1 ?_
    refine ldr 1 hcell ?_
    have hget : ∀ w, On g w → Con Tryz.prog 8 [.slice A a.length c, str s] w (Ret w g fun g v => ∃ cs, rp g ((getI a s).getD dI) cs ∧ v = .tuple #[.agg ⟨cs⟩, .bool (getI a s).isSome]) := fun w hon => get9 hon ha1
    refine call (vs := [.slice A a.length c, str s]) hget (fun v g2 hs2 hR => ?_)
    obtain ⟨cs, ⟨B1, d1, B2, d2, rfl, hxn, hxr, hxt⟩, rfl⟩ := hR
    refine alloc fun b8 => ?_
    refine stE 0 ?_
    refine efg [(8, .pointer (some ⟨b8, 0, none⟩)), (9, .bool (getI a s).isSome), (7, i64 k), (6, .slice (some ⟨b6, 0, none⟩) td.length c7), (5, .slice A5 found.length c5), (0, .slice A a.length c)] [.blk b8 (.cells ⟨itemC ((getI a s).getD dI) B1 d1 B2 d2⟩ 29), sRow A5 c5 found, sRow (some ⟨b6, 0, none⟩) c7 td] fun ρ => ?_
    cases hg : getI a s with
    | none =>
      refine sq (sg ?_)
      refine runE ?_
      refine edropH ?_
      refine cTx ?_
      exact jn (td, found, (A5, c5), (some ⟨b6, 0, none⟩, c7), g2) ⟨h1, hsub.trans hs2, hri.skip (fun hi => by rw [hg] at hi; cases hi), hsm, Nat.le_refl _⟩
    | some x =>
      rw [hg] at hxn hxr hxt
      replace hxr : Sl g2 B1 d1 x.refs := hxr
      have hxf := (hfit.2 x (getI_mem hg)).1
      have hfoundB : ∀ u ∈ found, u.length ≤ LB := fun u hu => by
        obtain ⟨y, hy, e⟩ := List.mem_map.1 (hri.sub u hu).names
        obtain ⟨j, hj, rfl⟩ := List.getElem_of_mem hy
        obtain ⟨_, _, _, _, _, _, _, _, hn, _⟩ := ha.item hj
        rw [← e]; exact hn
      have hfoundL : found.length ≤ LB := by unfold LB; omega
      have hhas : ∀ w g, (HE.row A5 found.length c5 9 1 (found.map str)).seen g → On g w → Con Tryz.prog 28 [.slice A5 found.length c5, str s] w (Ret w g fun _ v => v = .bool (decide (s ∈ found))) := fun w g hsn hon => hasR9 hon (Sl.ofTexts hsn rfl hfoundB hfoundL)
      refine sq (sg ?_)
      refine ix k h1 ?_
      refine ldr 2 hcell ?_
      refine callBE (p := s ∈ found) (vs := [.slice A5 found.length c5, str s]) (fun w g hs' hsn hon => hhas w g (hsn _ (.tail _ (.head _))) hon) (fun hin => ?_) (fun hin => ?_)
      · refine edropH ?_
        refine cTx ?_
        exact jn (td, found, (A5, c5), (some ⟨b6, 0, none⟩, c7), g2) ⟨h1, hsub.trans hs2, hri.skip (fun _ => hin), hsm, Nat.le_refl _⟩
      · refine cFs ?_
        have hri2 := hri.take hg hin
        have hfl2 := hri2.len
        rw [List.length_append, List.length_singleton] at hfl2
        obtain ⟨rx, hrx, hrcs⟩ := hxr.cells
        have hrx2 : rx = x.refs.map str := by
          apply List.ext_getElem?
          intro j
          by_cases hj : j < x.refs.length
          · obtain ⟨cs, hcs', hc2⟩ := hrx.cell hj
            have h1 := hc2 0 (by decide)
            rw [hcs'.1] at h1
            simp only [List.getElem?_map, List.getElem?_eq_getElem hj]
            have h2 : sz Str = 1 := rfl
            rw [h2, Nat.mul_one, Nat.add_zero] at h1
            exact h1
          · have h2 : rx.length = x.refs.length * 1 := hrx.len
            rw [List.getElem?_eq_none (by omega), List.getElem?_eq_none (by simp; omega)]
        have hlen1 : (x.refs).length ≤ 1000 := hxf
        have q1 : (found.length + 1) * 16 ≤ 140737488355328 := by omega
        have q2 : (td.length + x.refs.length) * 16 ≤ 140737488355328 := by omega
        refine efg [(8, .pointer (some ⟨b8, 0, none⟩)), (7, i64 k), (6, .slice (some ⟨b6, 0, none⟩) td.length c7), (5, .slice A5 found.length c5), (0, .slice A a.length c)] [.blk b8 (.cells ⟨itemC x B1 d1 B2 d2⟩ 29), sRow A5 c5 found, sRow (some ⟨b6, 0, none⟩) c7 td] fun ρ => ?_
        refine sg ?_
        refine ix k h1 ?_
        refine ldr 2 hcell ?_
        refine bsl fun b45 => ?_
        refine app 1 (fun A5' c5' => ?_) (hlim := q1)
        refine runE ?_
        refine rg ?_
        refine ldo 0 ?_
        refine appV 2 hrx.len hrcs hrx.ones (fun A7' c7' => ?_) (hlim := q2)
        refine dropH ?_
        refine runE ?_
        have hdd : (td ++ x.refs).drop (k + 1) = td.drop (k + 1) ++ x.refs := List.drop_append_of_le_length (by omega)
        refine jn (td ++ x.refs, found ++ [s], (A5', c5'), (A7', c7'), g2) ⟨?_, hsub.trans hs2, ?_, ?_, ?_⟩ (hh := ?_) (ha := ?_)
        · show k < (td ++ x.refs).length
          rw [List.length_append]; omega
        · show RI a S ((td ++ x.refs).drop (k + 1)) (found ++ [s])
          rw [hdd]; exact hri2
        · show (td ++ x.refs).length ≤ 1000 * (found ++ [s]).length + S.length
          rw [List.length_append, List.length_append]
          simp only [List.length_singleton]
          omega
        · show (a.length - (found ++ [s]).length) * 1001 + ((td ++ x.refs).length - k) ≤ (a.length - found.length) * 1001 + (td.length - k)
          rw [List.length_append, List.length_append]
          simp only [List.length_singleton]
          omega
        · show [sRow A5' c5' (found ++ [s]), sRow A7' c7' (td ++ x.refs)] = _
          unfold sRow
          rw [List.length_append, List.length_append, List.map_append, List.map_append, ← hrx2]
          rfl
        · refine ⟨rfl, ?_, ?_, rfl, trivial⟩
          · show Value.slice A7' (td.length + x.refs.length) c7' = .slice A7' (td ++ x.refs).length c7'
            rw [List.length_append]
          · show Value.slice A5' (found.length + 1) c5' = .slice A5' (found ++ [s]).length c5'
            rw [List.length_append]
            rfl
  rintro ⟨l, A5, c5, g⟩ ρ hri
  replace hri : RI a S [] l := hri
  show EW _ _ _ _ _ (ups ρ [(5, .slice A5 l.length c5)]) g [sRow A5 c5 l]
  have hll := hri.len
  rw [show reachR a S = fun L' v => ∃ A c, v = .slice A (sortS l).length c ∧ L' = [sRow A c (sortS l)] by unfold reachR; rw [hri.fin]]
  refine sgE ?_
  refine enilrow 9 1 ?_
  refine efg [(10, .slice none 0 0), (5, .slice A5 l.length c5)] [sRow none 0 [], sRow A5 c5 l] fun ρ => ?_
  refine sqJ (σ := Option Addr × Nat) (fun s => [(10, .slice s.1 l.length s.2)]) (fun _ => g) (fun s => [.row s.1 l.length s.2 9 1 ((sortS l).map str)]) (fun _ => True) ?_ ?_
  case refine_2 =>
    rintro ⟨A10, c10⟩ ρ _
    refine sgE ?_
    refine ew_ret ?_
    refine ret1M ⟨A10, c10, ?_, ?_⟩
    · rw [sortS_len]; rfl
    · unfold sRow; rw [sortS_len]
  refine sgE ?_
  refine bk ?_
  refine lp (σ := Nat × List Str × Option Addr × Nat) (fun s => [(11, i64 s.1), (10, .slice s.2.2.1 s.2.1.length s.2.2.2), (5, .slice A5 l.length c5)]) (fun _ => g) (fun s => [sRow s.2.2.1 s.2.2.2 s.2.1, sRow A5 c5 l]) (fun s => s.1 ≤ l.length ∧ InsL l s.1 s.2.1) (fun s => l.length - s.1) (0, [], none, 0) ⟨Nat.zero_le _, List.Pairwise.nil, by simp⟩ ?_
  rintro ⟨i, out, A10, c10⟩ ρ ⟨hi, hins⟩
  replace hi : i ≤ l.length := hi
  replace hins : InsL l i out := hins
  have hol : out.length = i := by rw [hins.2.length_eq, List.length_take]; omega
  show EW _ _ _ _ _ (ups ρ [(11, i64 i), (10, .slice A10 out.length c10), (5, .slice A5 l.length c5)]) g [sRow A10 c10 out, sRow A5 c5 l]
  refine sq (sg ?_)
  refine ltE (fun h => ?_) (fun h => ?_)
  case refine_2 =>
    refine ewL (L' := [sRow A10 c10 out]) (fun _ h => h.sublist (by simp)) ?_
    refine cFx ?_
    have e : i = l.length := by omega
    subst e
    have e2 := hins.fin
    subst e2
    exact jn (A10, c10) trivial (hh := by unfold sRow; rw [sortS_len]) (ha := ⟨by show Value.slice A10 (sortS l).length c10 = _; rw [sortS_len], trivial⟩)
  have h1 : i < l.length := by omega
  generalize hx : l[i] = x
  have hcx : (l.map str)[0 + i * 1]? = some (str x) := by rw [← hx]; simp [h1]
  refine erowF 1 fun hrow => ?_
  obtain ⟨b5, rfl⟩ := hrow.2.2.2.1 (by omega)
  refine erowF 0 fun hrow0 => ?_
  have hoc := hrow0.2.1
  refine cTs (bkJ (σ := List Str × Option Addr × Nat) (fun s => [(11, i64 i), (10, .slice s.2.1 s.1.length s.2.2), (5, .slice (some ⟨b5, 0, none⟩) l.length c5)]) (fun _ => g) (fun s => [sRow s.2.1 s.2.2 s.1, sRow (some ⟨b5, 0, none⟩) c5 l]) (fun s => InsL l (i + 1) s.1) ?_ ?_)
  case refine_2 =>
    rintro ⟨out2, A102, c102⟩ ρ hins2
    replace hins2 : InsL l (i + 1) out2 := hins2
    refine rg ?_
    refine addE ((i + 1 : Nat) : Int) ?_
    exact nxs (i + 1, out2, A102, c102) ⟨h1, hins2⟩ (by show l.length - (i + 1) < l.length - i; omega)
  refine sgE ?_
  refine sqJ (σ := Nat) (fun k => [(12, i64 k), (11, i64 i), (10, .slice A10 out.length c10), (5, .slice (some ⟨b5, 0, none⟩) l.length c5)]) (fun _ => g) (fun _ => [sRow A10 c10 out, sRow (some ⟨b5, 0, none⟩) c5 l]) (fun k => k ≤ out.length ∧ (∀ y ∈ out.drop k, x < y) ∧ (k = 0 ∨ ∃ h : k - 1 < out.length, ¬ x < out[k - 1])) ?_ ?_
  · refine bk ?_
    refine lp (σ := Nat) (fun k => [(12, i64 k), (11, i64 i), (10, .slice A10 out.length c10), (5, .slice (some ⟨b5, 0, none⟩) l.length c5)]) (fun _ => g) (fun _ => [sRow A10 c10 out, sRow (some ⟨b5, 0, none⟩) c5 l]) (fun k => k ≤ out.length ∧ ∀ y ∈ out.drop k, x < y) (fun k => k) out.length ⟨Nat.le_refl _, by simp⟩ ?_
    rintro k ρ ⟨hk, hgt⟩
    refine sq (sQ ?_)
    refine Go.Hog.gt (fun hk0 => ?_) (fun hk0 => ?_)
    case refine_2 =>
      refine runE ?_
      refine cFx ?_
      exact jn k ⟨hk, hgt, .inl (by omega)⟩
    have hk1 : k - 1 < out.length := by omega
    have hco : (out.map str)[0 + (k - 1) * 1]? = some (str out[k - 1]) := by simp [hk1]
    refine rowF 0 fun hrow => ?_
    obtain ⟨b10, rfl⟩ := hrow.2.2.2.1 (by omega)
    refine sub ((k - 1 : Nat) : Int) ?_
    refine ix (k - 1) hk1 ?_
    refine ldr 0 hco ?_
    refine ix i h1 ?_
    refine ldr 1 hcx ?_
    refine gtSE (fun hlt => ?_) (fun hlt => ?_)
    · refine cTs (bk (rg ?_))
      refine subE ((k - 1 : Nat) : Int) ?_
      refine nxs (k - 1) ⟨by omega, fun y hy => ?_⟩ (by show k - 1 < k; omega)
      have hdk : out.drop (k - 1) = out[k - 1] :: out.drop k := by
        rw [List.drop_eq_getElem_cons hk1, show k - 1 + 1 = k by omega]
      rw [hdk] at hy
      rcases List.mem_cons.1 hy with rfl | hy
      · exact hlt
      · exact hgt y hy
    · refine cFx ?_
      exact jn k ⟨hk, hgt, .inr ⟨hk1, hlt⟩⟩
  rintro k ρ ⟨hk, hgt, hle⟩
  have hkc : k ≤ c10 := by omega
  have p1 : ((out.map str).take (k * 1)).length = k * 1 := by simp; omega
  have p2 : ((out.map str).drop (k * 1)).length = (out.length - k) * 1 := by simp
  have p3 : ∀ u ∈ (out.map str).take (k * 1), u.oneCell' = true := fun u hu => by
    obtain ⟨r, _, rfl⟩ := List.mem_map.1 (List.mem_of_mem_take hu)
    rfl
  have p4 : ∀ u ∈ (out.map str).drop (k * 1), u.oneCell' = true := fun u hu => by
    obtain ⟨r, _, rfl⟩ := List.mem_map.1 (List.mem_of_mem_drop hu)
    rfl
  have p5 : (0 + k) * 16 ≤ 140737488355328 := by omega
  have p6 : (0 + k + 1) * 16 ≤ 140737488355328 := by omega
  have p7 : (0 + k + 1 + (out.length - k)) * 16 ≤ 140737488355328 := by omega
  refine eA [0, 1, 2, 4, 5, 6, 7, 10, 11, 12] [sRow A10 c10 out, sRow (some ⟨b5, 0, none⟩) c5 l] (List.Sublist.refl _) ?_
  refine an_takeH [0, 1, 2, 4, 5, 6, 7, 10, 11, 12] HeldL.same ?_
  refine slH k hkc ?_
  refine ix i h1 ?_
  refine ldr 1 hcx ?_
  refine slL' k hk hoc ?_
  refine rw_end ?_
  refine an_have (α := Nat × Option Addr × Nat) (lsA 15 [0, 1, 2, 3, 4, 5, 6, 7, 8, 10, 11, 12]) (fun s => [(78, .slice s.2.1 (0 + k) s.2.2), (83, .slice (some ⟨s.1, 0, none⟩) 1 1), (87, .slice (A10.map fun a => if k = c10 then a else a.add (k * 1)) (out.length - k) (c10 - k)), (11, i64 i), (5, .slice (some ⟨b5, 0, none⟩) l.length c5)]) (fun _ => g) (fun s => [.row (some ⟨s.1, 0, none⟩) 1 1 9 1 [str x], .row s.2.1 (0 + k) s.2.2 9 1 ([] ++ (out.map str).take (k * 1)), sRow A10 c10 out, sRow (some ⟨b5, 0, none⟩) c5 l]) ?_ (fun T => ?_)
  · rintro ⟨b8, A3, c3⟩ ρ
    refine an_run1 9 ?_
    refine app 0 (fun A4 c4 => ?_) (hlim := p6)
    refine aH HeldL.same.cons ?_
    refine an_run1 13 ?_
    refine appW 0 p2 (fun w hw h0 => hw.rowTail (i := 1) (j := k) rfl (by omega)) p4 (fun A9 c9 => ?_) (hlim := p7)
    refine aH HeldL.same.cons ?_
    refine an_L [.row A9 (0 + k + 1 + (out.length - k)) c9 9 1 ([] ++ (out.map str).take (k * 1) ++ [str x] ++ (out.map str).drop (k * 1)), sRow (some ⟨b5, 0, none⟩) c5 l] (fun _ h => h.sublist (.cons_cons _ (.cons _ (List.Sublist.refl _)))) ?_
    refine an_takeU [14] ?_
    refine an_done ?_
    have hnl : (out.take k ++ [x] ++ out.drop k).length = 0 + k + 1 + (out.length - k) := by simp; omega
    refine jn (out.take k ++ [x] ++ out.drop k, A9, c9) ?_ (hh := ?_) (ha := ⟨rfl, ?_, rfl, trivial⟩)
    · show InsL l (i + 1) _
      rw [← hx]
      rw [← hx] at hgt hle
      exact hins.step h1 hk hgt hle
    · show [sRow A9 c9 (out.take k ++ [x] ++ out.drop k), _] = _
      unfold sRow
      rw [hnl]
      simp
    · show Value.slice A9 _ c9 = .slice A9 (out.take k ++ [x] ++ out.drop k).length c9
      rw [hnl]
  refine an_run2 3 8 ?_ ?_
  · refine nilrow 9 1 ?_
    refine appW 0 p1 (fun w hw h0 => ?_) p3 (fun A3 c3 => ?_) (hlim := p5)
    · obtain ⟨b, o, e, hc⟩ := hw.rowAll (i := 1) rfl (show 0 < out.length by omega)
      exact ⟨b, o, e, fun j u hj => hc j u (by rw [List.getElem?_take] at hj; split at hj; exact hj; cases hj)⟩
    refine aH HeldL.same.cons ?_
    refine an_run1 8 ?_
    refine bsl fun b8 => ?_
    refine aH HeldL.same.cons.cons ?_
    exact an_use T (b8, A3, c3)
  · refine bsl fun b8 => ?_
    refine aH HeldL.same.cons ?_
    refine an_run1 3 ?_
    refine nilrow 9 1 ?_
    refine appW 0 p1 (fun w hw h0 => ?_) p3 (fun A3 c3 => ?_) (hlim := p5)
    · obtain ⟨b, o, e, hc⟩ := hw.rowAll (i := 2) rfl (show 0 < out.length by omega)
      exact ⟨b, o, e, fun j u hj => hc j u (by rw [List.getElem?_take] at hj; split at hj; exact hj; cases hj)⟩
    refine aH HeldL.same.cons.cons ?_
    refine an_perm (.swap _ _ _) ?_
    exact an_use T (b8, A3, c3)
end Go.Hog
