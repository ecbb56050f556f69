/- container/heap, whatever the heap is of. -/
import Derived.Test.YtjjlfbpmbleabaaDoorF1
import Derived.Test.YtjjlfbpmbleabaaDoorE9
import Derived.Test.YtjjlfbpmbleabaaDoorS2
set_option linter.unusedVariables false
set_option linter.unusedSimpArgs false
set_option maxRecDepth 100000
set_option maxHeartbeats 1000000
namespace Go.Hog
open Go.RowKit Rp Go.Proofs

theorem enterM {k : Nat} {fn : Func} {c : Code} {vs : List Value} {w : World} {f : View} {L : List HE} {R : Ending → World → Prop} (hv : On f w) (hL : Given f L w) (hcf : ∀ args w, (callFunc k args).run Tryd.prog w = .ok (.enter k args) w) (hf : Tryd.prog.funcs[k]? = some fn)
    (h : EW Tryd.prog fn.ntmps ⟨w, f, fps L⟩ c (retQ Tryd.prog fn ⟨w, f, fps L⟩ R) (nthV vs) f L) (hb : fn.body = some c := by rfl)
    (hok : codeOk fn.ntmps c = true := by kernel_rfl) (hn : Nat.ble vs.length fn.ntmps = true := by rfl) : Con Tryd.prog k vs w R := ⟨hcf, enter hf hb hok hn hv hL h⟩
/-- What a heap's methods do. -/
structure HeapC {α : Type} [Inhabited α] (lt : α → α → Prop) [DecidableRel lt] (rv : Value) (enc : α → Value) (ok : α → Prop) (obj : List α → Option Addr → Nat → List HE) : Prop where
  so : SO lt
  irr : ∀ a, ¬ lt a a
  len : ∀ {l A c w f}, On f w → Given f (obj l A c) w → ConI Tryd.prog rv "Len" [] w (RetM w f (obj l A c) fun g L' v => L' = obj l A c ∧ v = i64 l.length)
  less : ∀ {l A c w f i j}, i < l.length → j < l.length → l.length ≤ 1000000 → On f w → Given f (obj l A c) w → ConI Tryd.prog rv "Less" [i64 (i : Nat), i64 (j : Nat)] w (RetM w f (obj l A c) fun g L' v => L' = obj l A c ∧ v = .bool (decide (lt (at_ l i) (at_ l j))))
  swap : ∀ {l A c w f i j}, i < l.length → j < l.length → l.length ≤ 1000000 → On f w → Given f (obj l A c) w → ConI Tryd.prog rv "Swap" [i64 (i : Nat), i64 (j : Nat)] w (RetM w f (obj l A c) fun g L' v => L' = obj (swapL l i j) A c)
  push : ∀ {l A c w f x}, ok x → l.length < 1000000 → On f w → Given f (obj l A c) w → ConI Tryd.prog rv "Push" [enc x] w (RetM w f (obj l A c) fun g L' v => ∃ A' c', L' = obj (l ++ [x]) A' c')
  pop : ∀ {l A c w f}, 0 < l.length → l.length ≤ 1000000 → On f w → Given f (obj l A c) w → ConI Tryd.prog rv "Pop" [] w (RetM w f (obj l A c) fun g L' v => L' = obj l.dropLast A c ∧ v = enc (at_ l (l.length - 1)))

section
variable {α : Type} [Inhabited α] {lt : α → α → Prop} [DecidableRel lt] {rv : Value} {enc : α → Value} {ok : α → Prop} {obj : List α → Option Addr → Nat → List HE}
end
end Go.Hog
