/- Contracts: the statements' helpers over texts, numbers, nodes, items. -/
import Derived.Test.YtdidefhdcinecaaGreatDoorProg
import Derived.Test.YtdidefhdcinecaaGreatDoorMC
set_option linter.unusedVariables false
set_option linter.unusedSimpArgs false
set_option maxRecDepth 100000
namespace Go.Hog
open Go.RowKit Rp Go.Proofs

theorem mixed : Tryz.prog.follows .mixedOrders = true := by kernel_rfl
theorem enterC {k : Nat} {fn : Func} {c : Code} {vs : List Value} {w : World} {f : View} {R : Ending → World → Prop} (hv : On f w) (hcf : ∀ args w, (callFunc k args).run Tryz.prog w = .ok (.enter k args) w) (hf : Tryz.prog.funcs[k]? = some fn)
    (h : EW Tryz.prog fn.ntmps ⟨w, f, []⟩ c (retQ Tryz.prog fn ⟨w, f, []⟩ R) (nthV vs) f []) (hb : fn.body = some c := by rfl)
    (hok : codeOk fn.ntmps c = true := by kernel_rfl) (hn : Nat.ble vs.length fn.ntmps = true := by rfl) : Con Tryz.prog k vs w R := ⟨hcf, enter (L := []) hf hb hok hn hv (Given.nil _ _) h⟩
theorem rq {n : Nat} {B : Bs} {f : View} {L : List HE} {ρ : Env} {Q : Post} {id : Nat} {ops : Array Oper} (h : RW .q Tryz.prog n B ops (Q .normal) ops.toList ρ f L) (hB : Region.lexB .any ops = true := by kernel_rfl) :
    EW Tryz.prog n B (.region id ops true) Q ρ f L := ew_regq mixed hB h
theorem sQ {n : Nat} {B : Bs} {f : View} {L : List HE} {ρ : Env} {Q : Post} {id : Nat} {ops : Array Oper} {y : Code} (h : RW .q Tryz.prog n B ops (EW Tryz.prog n B y Q) ops.toList ρ f L) (hB : Region.lexB .any ops = true := by kernel_rfl) :
    EW Tryz.prog n B (.seq (.region id ops true) y) Q ρ f L := ew_seq (ew_regq mixed hB h)

theorem Sl.item {f : View} {A : Option Addr} {c : Nat} {l : List Item} (h : Sl f A c l) {k : Nat} (hk : k < l.length) : ∃ b o A1 c1 A2 c2, A = some ⟨b, o, none⟩ ∧ Cells f b (o + k * 3) [str l[k].name, .slice A1 l[k].refs.length c1, .slice A2 l[k].tree.length c2] ∧
    l[k].name.length ≤ LB ∧ Sl f A1 c1 l[k].refs ∧ Sl f A2 c2 l[k].tree := by
  obtain ⟨b, o, rfl, cs, ⟨A1, c1, A2, c2, rfl, h1, h2, h3⟩, hc⟩ := h.at_ k hk
  exact ⟨b, o, A1, c1, A2, c2, rfl, hc, h1, h2, h3⟩
theorem Sl.node {f : View} {A : Option Addr} {c : Nat} {l : List Node} (h : Sl f A c l) {k : Nat} (hk : k < l.length) : ∃ b o, A = some ⟨b, o, none⟩ ∧ Cells f b (o + k * 3) [str l[k].path, .int .i64 l[k].kind, str l[k].data] ∧
    l[k].path.length ≤ LB ∧ l[k].data.length ≤ LB ∧ -9223372036854775808 ≤ l[k].kind ∧ l[k].kind ≤ 9223372036854775807 := by
  obtain ⟨b, o, rfl, cs, ⟨rfl, h1, h2, h3, h4⟩, hc⟩ := h.at_ k hk
  exact ⟨b, o, rfl, hc, h1, h2, h3, h4⟩
theorem Sl.text {f : View} {A : Option Addr} {c : Nat} {l : List Str} (h : Sl f A c l) {k : Nat} (hk : k < l.length) : ∃ b o, A = some ⟨b, o, none⟩ ∧ f.cell? ⟨b, o + k * 1, none⟩ = some (str l[k]) ∧ l[k].length ≤ LB := by
  obtain ⟨b, o, rfl, cs, ⟨rfl, h1⟩, hc⟩ := h.at_ k hk
  exact ⟨b, o, rfl, hc.1, h1⟩
theorem Sl.num {f : View} {A : Option Addr} {c : Nat} {l : List Int} (h : Sl f A c l) {k : Nat} (hk : k < l.length) : ∃ b o, A = some ⟨b, o, none⟩ ∧ f.cell? ⟨b, o + k * 1, none⟩ = some (.int .i64 l[k]) ∧ -9223372036854775808 ≤ l[k] ∧ l[k] ≤ 9223372036854775807 := by
  obtain ⟨b, o, rfl, cs, ⟨rfl, h1, h2⟩, hc⟩ := h.at_ k hk
  exact ⟨b, o, rfl, hc.1, h1, h2⟩
theorem take_eq {α : Type} {a b : List α} {k : Nat} (h : a.take k = b.take k) (h1 : k < a.length) (h2 : k < b.length) (he : a[k] = b[k]) : a.take (k + 1) = b.take (k + 1) := by
  rw [List.take_add_one, List.take_add_one, h, List.getElem?_eq_getElem h1, List.getElem?_eq_getElem h2, he]
theorem take_all {α : Type} {a b : List α} {k : Nat} (h : a.take k = b.take k) (h1 : k = a.length) (h2 : a.length = b.length) : a = b := by
  subst h1
  rwa [List.take_length, h2, List.take_length] at h

theorem sameTexts {w : World} {f : View} (hv : On f w) {A B : Option Addr} {c c2 : Nat} {a b : List Str} (ha : Sl f A c a) (hb : Sl f B c2 b) :
    Con Tryz.prog 20 [.slice A a.length c, .slice B b.length c2] w (Ret w f fun _ v => v = .bool (decide (a = b))) := by
  refine enterC hv Tryz.call20 Tryz.func20 ?_
  have hlim := ha.len_lt
  refine sgE (sq (sg ?_))
  refine neIE (fun h => ?_) (fun h => ?_)
  · refine cT (rr ?_)
    exact ret1 (bF (by rintro rfl; exact h rfl))
  refine cFs (sq (sgE (bk ?_)))
  refine lpn a.length (fun k => [(5, i64 k), (0, .slice A a.length c), (1, .slice B b.length c2)]) (fun k => a.take k = b.take k) rfl ?_
  intro k ρ hk hi
  refine sq (sg ?_)
  refine ltE (fun h => ?_) (fun h => ?_)
  · have h1 : k < a.length := by omega
    have h2 : k < b.length := by omega
    obtain ⟨b1, o1, rfl, c1, _⟩ := ha.text h1
    obtain ⟨b2, o2, rfl, c2, _⟩ := hb.text h2
    refine cTs (sq (bk (sQ ?_)))
    refine ix k h1 ?_
    refine ldv c1 ?_
    refine ix k h2 ?_
    refine ldv c2 ?_
    refine neSE (fun h => ?_) (fun h => ?_)
    · refine cT (rr ?_)
      exact ret1 (bF (by rintro rfl; exact h rfl))
    · refine cFs (rg ?_)
      refine addE ((k + 1 : Nat) : Int) ?_
      exact nx (take_eq hi h1 h2 (Classical.not_not.1 h))
  · refine cFx (rr ?_)
    exact ret1 (bT (take_all hi (by omega) (by omega)))

def GreatT (l : List Str) (most long : Int) : Prop := most < l.length ∨ ∃ s ∈ l, long < (s.length : Int)
def GreatN (t : List Node) (most : Int) : Prop := most < t.length ∨ ∃ n ∈ t, 300 < n.path.length ∨ 500 < n.data.length
def GreatI (l : List Item) : Prop := 10 < l.length ∨ ∃ i ∈ l, 100 < i.name.length ∨ GreatT i.refs 12 100 ∨ GreatN i.tree 30
instance (l : List Str) (most long : Int) : Decidable (GreatT l most long) := by unfold GreatT; infer_instance
instance (t : List Node) (most : Int) : Decidable (GreatN t most) := by unfold GreatN; infer_instance
instance (l : List Item) : Decidable (GreatI l) := by unfold GreatI; infer_instance

theorem greatTexts {w : World} {f : View} (hv : On f w) {A : Option Addr} {c : Nat} {a : List Str} {m g : Int} (ha : Sl f A c a) :
    Con Tryz.prog 22 [.slice A a.length c, i64 m, i64 g] w (Ret w f fun _ v => v = .bool (decide (GreatT a m g))) := by
  refine enterC hv Tryz.call22 Tryz.func22 ?_
  have hlim := ha.len_lt
  refine sgE (sq (sgE (bk ?_)))
  refine lpn a.length (fun k => [(7, i64 k), (0, .slice A a.length c), (1, i64 m), (2, i64 g)]) (fun k => ∀ j (h : j < a.length), j < k → ¬ g < (a[j].length : Int)) (fun j h hj => by omega) ?_
  intro k ρ hk hi
  refine sq (sg ?_)
  refine lt (fun h => ?_) (fun h => ?_)
  · refine leE (fun h2 => ?_) (fun h2 => ?_)
    · have h1 : k < a.length := by omega
      obtain ⟨b1, o1, rfl, c1, _⟩ := ha.text h1
      refine cTs (sq (bk (sg ?_)))
      refine ix k h1 ?_
      refine ldv c1 ?_
      refine gtE (fun h3 => ?_) (fun h3 => ?_)
      · refine cT (rr ?_)
        exact ret1 (bT (.inr ⟨a[k], List.getElem_mem h1, h3⟩))
      · refine cFs (rg ?_)
        refine addE ((k + 1 : Nat) : Int) ?_
        refine nx fun j hj hjk => ?_
        by_cases e : j = k
        · subst e; exact h3
        · exact hi j hj (by omega)
    · refine cFx (sg ?_)
      refine gtE (fun h3 => ?_) (fun h3 => ?_)
      · refine ew_ret ?_
        exact ret1 (bT (.inl h3))
      · omega
  · refine runE ?_
    refine cFx (sg ?_)
    refine gtE (fun h3 => ?_) (fun h3 => ?_)
    · refine ew_ret ?_
      exact ret1 (bT (.inl h3))
    · refine ew_ret ?_
      refine ret1 (bF ?_)
      rintro (h4 | ⟨s, hs, h4⟩)
      · exact h3 h4
      · obtain ⟨j, hj, rfl⟩ := List.getElem_of_mem hs
        exact hi j hj (by omega) h4

theorem greatNodes {w : World} {f : View} (hv : On f w) {A : Option Addr} {c : Nat} {a : List Node} {m : Int} (ha : Sl f A c a) :
    Con Tryz.prog 23 [.slice A a.length c, i64 m] w (Ret w f fun _ v => v = .bool (decide (GreatN a m))) := by
  refine enterC hv Tryz.call23 Tryz.func23 ?_
  have hlim := ha.len_lt
  refine sgE (sq (sgE (bk ?_)))
  refine lpn a.length (fun k => [(5, i64 k), (0, .slice A a.length c), (1, i64 m)]) (fun k => ∀ j (h : j < a.length), j < k → ¬ (300 < a[j].path.length ∨ 500 < a[j].data.length)) (fun j h hj => by omega) ?_
  intro k ρ hk hi
  refine sq (sg ?_)
  refine lt (fun h => ?_) (fun h => ?_)
  · refine leE (fun h2 => ?_) (fun h2 => ?_)
    · have h1 : k < a.length := by omega
      obtain ⟨b1, o1, rfl, c1, _⟩ := ha.node h1
      refine cTs (sq (bk (sg ?_)))
      refine ix k h1 ?_
      refine ldv c1.1 ?_
      refine gt (fun h3 => ?_) (fun h3 => ?_)
      · refine runE ?_
        refine cT (rr ?_)
        exact ret1 (bT (.inr ⟨a[k], List.getElem_mem h1, .inl (by omega)⟩))
      refine ix k h1 ?_
      refine ldv c1.2.2.1 ?_
      refine gtE (fun h4 => ?_) (fun h4 => ?_)
      · refine cT (rr ?_)
        exact ret1 (bT (.inr ⟨a[k], List.getElem_mem h1, .inr (by omega)⟩))
      · refine cFs (rg ?_)
        refine addE ((k + 1 : Nat) : Int) ?_
        refine nx fun j hj hjk => ?_
        by_cases e : j = k
        · subst e; omega
        · exact hi j hj (by omega)
    · refine cFx (sg ?_)
      refine gtE (fun h3 => ?_) (fun h3 => ?_)
      · refine ew_ret ?_
        exact ret1 (bT (.inl h3))
      · omega
  · refine runE ?_
    refine cFx (sg ?_)
    refine gtE (fun h3 => ?_) (fun h3 => ?_)
    · refine ew_ret ?_
      exact ret1 (bT (.inl h3))
    · refine ew_ret ?_
      refine ret1 (bF ?_)
      rintro (h4 | ⟨s, hs, h4⟩)
      · exact h3 h4
      · obtain ⟨j, hj, rfl⟩ := List.getElem_of_mem hs
        exact hi j hj (by omega) h4
end Go.Hog
