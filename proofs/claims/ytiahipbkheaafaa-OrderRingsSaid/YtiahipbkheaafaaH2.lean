/- order.ready is a heap of texts. -/
import Derived.Test.YtiahipbkheaafaaH1
import Derived.Test.YtiahipbkheaafaaF4
set_option linter.unusedVariables false
set_option linter.unusedSimpArgs false
set_option maxRecDepth 100000
namespace Go.Hog
open Go.RowKit Rp Go.Proofs

section
variable {P : Program}
def methP (P : Program) (T : TypeId) (name : String) : Option (FuncId × Bool) := (P.info? T).bind fun i => (i.methods.find? (·.name == name)).bind fun m => match m.path with | ⟨[]⟩ => m.func | _ => none
theorem methP_spec {T : TypeId} {name : String} {r : FuncId × Bool} (h : methP P T name = some r) : ∃ i m, P.info? T = some i ∧ i.methods.find? (·.name == name) = some m ∧ m.path = #[] ∧ m.func = some r := by
  unfold methP at h
  obtain ⟨i, h1, h⟩ := Option.bind_eq_some_iff.1 h
  obtain ⟨m, h2, h⟩ := Option.bind_eq_some_iff.1 h
  split at h
  · rename_i h3
    exact ⟨i, m, h1, h2, h3, h⟩
  · cases h
theorem run_meth_ptr {T e : TypeId} {name : String} {k : FuncId} {v : Value} {args : Array Value} {w : World} (hm : methP P T name = some (k, true)) (hT : P.underlying T = some (.pointer e)) (hcf : ∀ args w, (callFunc k args).run P w = .ok (.enter k args) w) :
    (callMethod (.iface T v) name args).run P w = .ok (.enter k (#[v] ++ args)) w := by
  obtain ⟨i, m, h1, h2, h3, h4⟩ := methP_spec hm
  unfold callMethod
  have hf : ∀ fuel, (method (fuel + 1) T v name).run P w = .ok (k, v) w := fun fuel => by
    unfold method
    simp only [Sem.run_bind, run_info h1, Result.andThen_ok, h2, h3, follow, Sem.run_pure, h4]
    simp [receiverAt, run_und hT, Place.get]
  have hp : (program).run P w = .ok P w := by simp [program, Sem.run]
  simp only [Sem.run_bind, hp, Result.andThen_ok]
  rw [show P.types.size + Made.depth = (P.types.size + 99) + 1 from rfl, hf]
  simp only [Result.andThen_ok, hcf]
theorem wrapNil (ts : Array TypeId) (t : TypeId) (a : Addr) (x y : String) : Builtin.ssaWrapNilChk_ ts t #[.pointer (some a), strVal x, strVal y] = pure (.pointer (some a)) := rfl
theorem run_meth_val {T e : TypeId} {name : String} {k : FuncId} {b : Nat} {v : Value} {args : Array Value} {w : World} (hm : methP P T name = some (k, false)) (hT : P.underlying T = some (.pointer e)) (ha : aggT P e = some false) (hc : w.cell? ⟨b, 0, none⟩ = some v) (hcf : ∀ args w, (callFunc k args).run P w = .ok (.enter k args) w) :
    (callMethod (.iface T (.pointer (some ⟨b, 0, none⟩))) name args).run P w = .ok (.enter k (#[v] ++ args)) w := by
  obtain ⟨i, m, h1, h2, h3, h4⟩ := methP_spec hm
  unfold callMethod
  have hf : ∀ fuel, (method (fuel + 1) T (.pointer (some ⟨b, 0, none⟩)) name).run P w = .ok (k, v) w := fun fuel => by
    unfold method
    simp only [Sem.run_bind, run_info h1, Result.andThen_ok, h2, h3, follow, Sem.run_pure, h4]
    have hl := run_loadVar1 (P := P) ha hc
    simp [receiverAt, run_und hT, Place.get, wrapNil, asAddr, hl]
  have hp : (program).run P w = .ok P w := by simp [program, Sem.run]
  simp only [Sem.run_bind, hp, Result.andThen_ok]
  rw [show P.types.size + Made.depth = (P.types.size + 99) + 1 from rfl, hf]
  simp only [Result.andThen_ok, hcf]
end
def robj (b : Nat) (l : List Str) (A : Option Addr) (c : Nat) : List HE := [.blk b (.cells ⟨[.slice A l.length c]⟩ 48), .row A l.length c 9 1 (l.map str)]
def rrv (b : Nat) : Value := .iface 47 (.pointer (some ⟨b, 0, none⟩))
theorem robj_cell {b : Nat} {l : List Str} {A : Option Addr} {c : Nat} {f : View} {w : World} (h : Given f (robj b l A c) w) : w.cell? ⟨b, 0, none⟩ = some (.slice A l.length c) := by
  have h1 : w.heap[b]? = some (.cells ⟨[.slice A l.length c]⟩ 48) := h.own (.blk b _) (by simp [robj])
  exact blk_cell h1 (by rfl)
theorem readyLen {b : Nat} {l : List Str} {A : Option Addr} {c : Nat} {f : View} {w : World} (hv : On f w) (hg : Given f (robj b l A c) w) :
    Con Try.prog 24 [.slice A l.length c] w (RetM w f (robj b l A c) fun g L' v => L' = robj b l A c ∧ v = i64 l.length) := by
  refine enterM hv hg Try.call24 Try.func24 ?_
  refine sgE ?_
  refine sgE ?_
  refine ew_ret ?_
  exact ret1M ⟨rfl, rfl⟩
theorem putL_one : ∀ (xs : List Value) (o : Nat) (v : Value), o < xs.length → putL xs o [v] = xs.set o v
  | [], o, v, h => by simp at h
  | x :: xs, 0, v, h => by cases xs <;> rfl
  | x :: xs, o + 1, v, h => by
    simp only [putL, List.set_cons_succ]
    rw [putL_one xs o v (by simpa using h)]
theorem putL_str (l : List Str) (o : Nat) (s : Str) (h : o < l.length) : putL (l.map str) o [str s] = (l.set o s).map str := by
  rw [putL_one _ _ _ (by simpa using h), List.map_set]
theorem readyLess {b : Nat} {l : List Str} {A : Option Addr} {c : Nat} {f : View} {w : World} {i j : Nat} (hi : i < l.length) (hj : j < l.length) (hlim : l.length ≤ 1000000) (hv : On f w) (hg : Given f (robj b l A c) w) :
    Con Try.prog 48 [.slice A l.length c, i64 i, i64 j] w (RetM w f (robj b l A c) fun g L' v => L' = robj b l A c ∧ v = .bool (decide (at_ l i < at_ l j))) := by
  refine enterM hv hg Try.call48 Try.func48 ?_
  refine sgE ?_
  refine erowF 1 fun hrow => ?_
  obtain ⟨g, rfl⟩ := hrow.2.2.2.1 (by omega)
  have hc : ∀ k, k < l.length → (l.map str)[0 + k * 1]? = some (str (at_ l k)) := fun k hk => by simp [at_get hk, hk]
  refine sQ ?_
  refine ix i hi ?_
  refine ldr 1 (hc i hi) ?_
  refine ix j hj ?_
  refine ldr 1 (hc j hj) ?_
  refine ltSE (fun h => ?_) (fun h => ?_)
  · refine ew_ret ?_
    exact ret1M ⟨rfl, bT h⟩
  · refine ew_ret ?_
    exact ret1M ⟨rfl, bF h⟩
theorem readySwap {b : Nat} {l : List Str} {A : Option Addr} {c : Nat} {f : View} {w : World} {i j : Nat} (hi : i < l.length) (hj : j < l.length) (hlim : l.length ≤ 1000000) (hv : On f w) (hg : Given f (robj b l A c) w) :
    Con Try.prog 51 [.slice A l.length c, i64 i, i64 j] w (RetM w f (robj b l A c) fun g L' v => L' = robj b (swapL l i j) A c) := by
  refine enterM hv hg Try.call51 Try.func51 ?_
  refine erowF 1 fun hrow => ?_
  obtain ⟨g, rfl⟩ := hrow.2.2.2.1 (by omega)
  have hc : ∀ k, k < l.length → (l.map str)[0 + k * 1]? = some (str (at_ l k)) := fun k hk => by simp [at_get hk, hk]
  refine ew_draw 12 _ (List.Sublist.refl _) mixed (by kernel_rfl) ?_
  refine ix j hj ?_
  refine ldr 1 (hc j hj) ?_
  refine ix i hi ?_
  refine ldrE 1 (hc i hi) ?_
  refine tk ?_
  refine ix i hi ?_
  refine hn0 ?_
  refine tk ?_
  refine stR 1 (o := 0 + i * 1) (vs := [str (at_ l j)]) (xs := l.map str) (by simp; omega) ?_
  refine hn0 ?_
  refine tk ?_
  refine ix j hj ?_
  refine hn0 ?_
  refine tk ?_
  refine stR 1 (o := 0 + j * 1) (vs := [str (at_ l i)]) (xs := putL (l.map str) (0 + i * 1) [str (at_ l j)]) (by rw [putL_length _ _ _ (by simp; omega)]; simp; omega) ?_
  refine hn0 ?_
  refine tkE ?_
  refine ret0M ?_
  have e1 : putL (putL (l.map str) (0 + i * 1) [str (at_ l j)]) (0 + j * 1) [str (at_ l i)] = (swapL l i j).map str := by
    rw [show 0 + i * 1 = i by omega, show 0 + j * 1 = j by omega, putL_str _ _ _ hi, putL_str _ _ _ (by simpa using hj)]
    rfl
  show [HE.blk b _, HE.row _ _ _ _ _ _] = _
  rw [e1]
  unfold robj
  rw [swapL_length]
theorem robj_snoc {b : Nat} {l : List Str} {x : Str} {A : Option Addr} {c : Nat} : [HE.blk b (.cells ⟨[.slice A (l.length + 1) c]⟩ 48), .row A (l.length + 1) c 9 1 (l.map str ++ [str x])] = robj b (l ++ [x]) A c := by simp [robj]
theorem readyPush {b : Nat} {l : List Str} {A : Option Addr} {c : Nat} {f : View} {w : World} {x : Str} (hlim : l.length < 1000000) (hv : On f w) (hg : Given f (robj b l A c) w) :
    Con Try.prog 50 [.pointer (some ⟨b, 0, none⟩), .iface 9 (str x)] w (RetM w f (robj b l A c) fun g L' v => ∃ A' c', L' = robj b (l ++ [x]) A' c') := by
  refine enterM hv hg Try.call50 Try.func50 ?_
  refine ew_draw 6 [.blk b (.cells ⟨[.slice A l.length c]⟩ 48)] (by simp [robj]) mixed (by kernel_rfl) ?_
  refine ldo 0 ?_
  refine runE ?_
  refine tk ?_
  refine bsl fun b2 => ?_
  refine hn ⟨Sub.refl _, by simp [robj]⟩ ?_
  refine tk ?_
  refine app 1 (fun A' c' => ?_) (hlim := by show (l.length + 1) * 16 ≤ _; omega)
  refine hn ⟨Sub.refl _, fun e he => (List.mem_singleton.1 he) ▸ List.Mem.head _⟩ ?_
  refine hp ?_
  refine tk ?_
  refine st 0 ?_
  refine hn0 ?_
  refine tkE ?_
  refine ret0M ⟨A', c', ?_⟩
  exact robj_snoc
theorem robj_pop {b : Nat} {l : List Str} {A : Option Addr} {c : Nat} : [HE.blk b (.cells ⟨[.slice A (l.length - 1) c]⟩ 48), .row A (l.length - 1) c 9 1 ((l.map str).take ((l.length - 1) * 1))] = robj b l.dropLast A c := by
  unfold robj
  rw [Nat.mul_one, ← List.map_take, ← List.dropLast_eq_take, List.length_dropLast]
theorem readyPop {b : Nat} {l : List Str} {A : Option Addr} {c : Nat} {f : View} {w : World} (h0 : 0 < l.length) (hlim : l.length ≤ 1000000) (hv : On f w) (hg : Given f (robj b l A c) w) :
    Con Try.prog 49 [.pointer (some ⟨b, 0, none⟩)] w (RetM w f (robj b l A c) fun g L' v => L' = robj b l.dropLast A c ∧ v = .iface 9 (str (at_ l (l.length - 1)))) := by
  refine enterM hv hg Try.call49 Try.func49 ?_
  refine sgE ?_
  refine erowF 1 fun hrow => ?_
  obtain ⟨g, rfl⟩ := hrow.2.2.2.1 (by omega)
  have hc : ∀ k, k < l.length → (l.map str)[0 + k * 1]? = some (str (at_ l k)) := fun k hk => by simp [at_get hk, hk]
  refine sg ?_
  refine ldoE 0 ?_
  refine sg ?_
  refine sub ((l.length - 1 : Nat) : Int) ?_
  refine ix (l.length - 1) (show l.length - 1 < l.length by omega) ?_
  refine ldrE 1 (hc (l.length - 1) (by omega)) ?_
  refine sg ?_
  refine sub ((l.length - 1 : Nat) : Int) ?_
  refine slH (l.length - 1) (show l.length - 1 ≤ c by omega) ?_
  refine stE 0 ?_
  refine ercut 1 (l.length - 1) (Nat.sub_le l.length 1) ?_
  refine sgE ?_
  refine ew_ret ?_
  refine ret1M ⟨?_, rfl⟩
  exact robj_pop
theorem readyC (b : Nat) : HeapC (fun x y : Str => x < y) (rrv b) (fun s => .iface 9 (str s)) (fun _ => True) (robj b) where
  so := ⟨fun h => List.lt_asymm h, fun h1 h2 => List.lt_trans h1 h2, fun {a b c} h1 h2 h3 => by
    have h1' : b ≤ a := h1
    have h2' : c ≤ b := h2
    exact (List.le_trans h2' h1') h3⟩
  irr := fun a => List.lt_irrefl a
  len := fun hv hg => ⟨_, _, run_meth_val (e := 48) (by kernel_rfl) (by kernel_rfl) (by kernel_rfl) (robj_cell hg) (readyLen hv hg).1, (readyLen hv hg).2⟩
  less := fun hi hj hl hv hg => ⟨_, _, run_meth_val (e := 48) (by kernel_rfl) (by kernel_rfl) (by kernel_rfl) (robj_cell hg) (readyLess hi hj hl hv hg).1, (readyLess hi hj hl hv hg).2⟩
  swap := fun hi hj hl hv hg => ⟨_, _, run_meth_val (e := 48) (by kernel_rfl) (by kernel_rfl) (by kernel_rfl) (robj_cell hg) (readySwap hi hj hl hv hg).1, (readySwap hi hj hl hv hg).2⟩
  push := fun {l A c w f x} _ hl hv hg => ⟨_, _, run_meth_ptr (e := 48) (by kernel_rfl) (by kernel_rfl) (readyPush (x := x) hl hv hg).1, (readyPush (x := x) hl hv hg).2⟩
  pop := fun h0 hl hv hg => ⟨_, _, run_meth_ptr (e := 48) (by kernel_rfl) (by kernel_rfl) (readyPop h0 hl hv hg).1, (readyPop h0 hl hv hg).2⟩
def pushR (b : Nat) (x : Str) (l : List Str) (_ : View) (L' : List HE) (_ : Value) : Prop := ∃ l' A' c', L' = robj b l' A' c' ∧ Hp (fun x y : Str => x < y) l'.length l' ∧ l'.Perm (x :: l)
theorem pushReady {b : Nat} {l : List Str} {A : Option Addr} {c : Nat} {f : View} {w : World} {x : Str} (hlim : l.length < 1000000) (hh : Hp (fun x y : Str => x < y) l.length l) (hv : On f w) (hg : Given f (robj b l A c) w) :
    Con Try.prog 23 [rrv b, .iface 9 (str x)] w (RetM w f (robj b l A c) (pushR b x l)) := heapPush (readyC b) (x := x) trivial hlim hh hv hg
def popR (b : Nat) (l : List Str) (A : Option Addr) (c : Nat) (_ : View) (L' : List HE) (v : Value) : Prop := ∃ x l', v = .iface 9 (str x) ∧ L' = robj b l' A c ∧ Hp (fun x y : Str => x < y) l'.length l' ∧ l.Perm (x :: l') ∧ ∀ y ∈ l, ¬ y < x
theorem popReady {b : Nat} {l : List Str} {A : Option Addr} {c : Nat} {f : View} {w : World} (h0 : 0 < l.length) (hlim : l.length ≤ 1000000) (hh : Hp (fun x y : Str => x < y) l.length l) (hv : On f w) (hg : Given f (robj b l A c) w) :
    Con Try.prog 25 [rrv b] w (RetM w f (robj b l A c) (popR b l A c)) := heapPop (readyC b) h0 hlim hh hv hg
def lenR (b : Nat) (l : List Str) (A : Option Addr) (c : Nat) (_ : View) (L' : List HE) (v : Value) : Prop := L' = robj b l A c ∧ v = i64 l.length
theorem lenReady {b : Nat} {l : List Str} {A : Option Addr} {c : Nat} {f : View} {w : World} (hv : On f w) (hg : Given f (robj b l A c) w) :
    Con Try.prog 24 [.slice A l.length c] w (RetM w f (robj b l A c) (lenR b l A c)) := readyLen hv hg
end Go.Hog
