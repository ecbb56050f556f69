/- Contracts: the statements' helpers over texts, numbers, nodes, items. -/
import Derived.Test.YtdidefhdcinecaaDoorProg
import Derived.Test.YtdidefhdcinecaaDoorMC
set_option linter.unusedVariables false
set_option linter.unusedSimpArgs false
set_option maxRecDepth 100000
namespace Go.Hog
open Go.RowKit Rp Go.Proofs

theorem mixed : Tryd.prog.follows .mixedOrders = true := by kernel_rfl
theorem enterC {k : Nat} {fn : Func} {c : Code} {vs : List Value} {w : World} {f : View} {R : Ending → World → Prop} (hv : On f w) (hcf : ∀ args w, (callFunc k args).run Tryd.prog w = .ok (.enter k args) w) (hf : Tryd.prog.funcs[k]? = some fn)
    (h : EW Tryd.prog fn.ntmps ⟨w, f, []⟩ c (retQ Tryd.prog fn ⟨w, f, []⟩ R) (nthV vs) f []) (hb : fn.body = some c := by rfl)
    (hok : codeOk fn.ntmps c = true := by kernel_rfl) (hn : Nat.ble vs.length fn.ntmps = true := by rfl) : Con Tryd.prog k vs w R := ⟨hcf, enter (L := []) hf hb hok hn hv (Given.nil _ _) h⟩
theorem rq {n : Nat} {B : Bs} {f : View} {L : List HE} {ρ : Env} {Q : Post} {id : Nat} {ops : Array Oper} (h : RW .q Tryd.prog n B ops (Q .normal) ops.toList ρ f L) (hB : Region.lexB .any ops = true := by kernel_rfl) :
    EW Tryd.prog n B (.region id ops true) Q ρ f L := ew_regq mixed hB h
theorem sQ {n : Nat} {B : Bs} {f : View} {L : List HE} {ρ : Env} {Q : Post} {id : Nat} {ops : Array Oper} {y : Code} (h : RW .q Tryd.prog n B ops (EW Tryd.prog n B y Q) ops.toList ρ f L) (hB : Region.lexB .any ops = true := by kernel_rfl) :
    EW Tryd.prog n B (.seq (.region id ops true) y) Q ρ f L := ew_seq (ew_regq mixed hB h)

theorem Sl.item {f : View} {A : Option Addr} {c : Nat} {l : List Item} (h : Sl f A c l) {k : Nat} (hk : k < l.length) : ∃ b o A1 c1 A2 c2, A = some ⟨b, o, none⟩ ∧ Cells f b (o + k * 3) [str l[k].name, .slice A1 l[k].refs.length c1, .slice A2 l[k].tree.length c2] ∧
    l[k].name.length ≤ LB ∧ Sl f A1 c1 l[k].refs ∧ Sl f A2 c2 l[k].tree := by
  obtain ⟨b, o, rfl, cs, ⟨A1, c1, A2, c2, rfl, h1, h2, h3⟩, hc⟩ := h.at_ k hk
  exact ⟨b, o, A1, c1, A2, c2, rfl, hc, h1, h2, h3⟩
theorem Sl.node {f : View} {A : Option Addr} {c : Nat} {l : List Node} (h : Sl f A c l) {k : Nat} (hk : k < l.length) : ∃ b o, A = some ⟨b, o, none⟩ ∧ Cells f b (o + k * 3) [str l[k].path, .int .i64 l[k].kind, str l[k].data] ∧
    l[k].path.length ≤ LB ∧ l[k].data.length ≤ LB ∧ -9223372036854775808 ≤ l[k].kind ∧ l[k].kind ≤ 9223372036854775807 := by
  obtain ⟨b, o, rfl, cs, ⟨rfl, h1, h2, h3, h4⟩, hc⟩ := h.at_ k hk
  exact ⟨b, o, rfl, hc, h1, h2, h3, h4⟩
theorem Sl.text {f : View} {A : Option Addr} {c : Nat} {l : List Str} (h : Sl f A c l) {k : Nat} (hk : k < l.length) : ∃ b o, A = some ⟨b, o, none⟩ ∧ f.cell? ⟨b, o + k * 1, none⟩ = some (str l[k]) ∧ l[k].length ≤ LB := by
  obtain ⟨b, o, rfl, cs, ⟨rfl, h1⟩, hc⟩ := h.at_ k hk
  exact ⟨b, o, rfl, hc.1, h1⟩
theorem Sl.num {f : View} {A : Option Addr} {c : Nat} {l : List Int} (h : Sl f A c l) {k : Nat} (hk : k < l.length) : ∃ b o, A = some ⟨b, o, none⟩ ∧ f.cell? ⟨b, o + k * 1, none⟩ = some (.int .i64 l[k]) ∧ -9223372036854775808 ≤ l[k] ∧ l[k] ≤ 9223372036854775807 := by
  obtain ⟨b, o, rfl, cs, ⟨rfl, h1, h2⟩, hc⟩ := h.at_ k hk
  exact ⟨b, o, rfl, hc.1, h1, h2⟩
theorem take_eq {α : Type} {a b : List α} {k : Nat} (h : a.take k = b.take k) (h1 : k < a.length) (h2 : k < b.length) (he : a[k] = b[k]) : a.take (k + 1) = b.take (k + 1) := by
  rw [List.take_add_one, List.take_add_one, h, List.getElem?_eq_getElem h1, List.getElem?_eq_getElem h2, he]
theorem take_all {α : Type} {a b : List α} {k : Nat} (h : a.take k = b.take k) (h1 : k = a.length) (h2 : a.length = b.length) : a = b := by
  subst h1
  rwa [List.take_length, h2, List.take_length] at h

def GreatT (l : List Str) (most long : Int) : Prop := most < l.length ∨ ∃ s ∈ l, long < (s.length : Int)
def GreatN (t : List Node) (most : Int) : Prop := most < t.length ∨ ∃ n ∈ t, 300 < n.path.length ∨ 500 < n.data.length
def GreatI (l : List Item) : Prop := 10 < l.length ∨ ∃ i ∈ l, 100 < i.name.length ∨ GreatT i.refs 12 100 ∨ GreatN i.tree 30
instance (l : List Str) (most long : Int) : Decidable (GreatT l most long) := by unfold GreatT; infer_instance
instance (t : List Node) (most : Int) : Decidable (GreatN t most) := by unfold GreatN; infer_instance
instance (l : List Item) : Decidable (GreatI l) := by unfold GreatI; infer_instance

end Go.Hog
