/- S26 F56 E32, in one text. -/
import Derived.Test.YtdidefhdcinecaaGreatDoorS7
import Derived.Test.YtdidefhdcinecaaGreatDoorCC
import Derived.Test.YtdidefhdcinecaaGreatDoorF16
import Derived.Test.YtdidefhdcinecaaGreatDoorEZ
set_option linter.unusedVariables false
namespace Go.Hog
theorem Rch.sub {a : List Item} {S T : List Str} (hST : ∀ s ∈ S, s ∈ T) {s : Str} (h : Rch a S s) : Rch a T s := by
  induction h with
  | base h1 h2 => exact .base (hST _ h1) h2
  | step _ h2 h3 h4 ih => exact .step ih h2 h3 h4
theorem Rch.again {a : List Item} {S : List Str} {s : Str} (h : Rch a (reachL a S) s) : Rch a S s := by
  induction h with
  | base h1 h2 => exact reachL_mem.1 h1
  | step _ h2 h3 h4 ih => exact .step ih h2 h3 h4
theorem reach_again (a : List Item) (S : List Str) : reachL a (reachL a S) = reachL a S :=
  strict_uniq (reachL_sorted _ _) (reachL_sorted _ _) fun s => by
    rw [reachL_mem, reachL_mem]
    exact ⟨fun h => h.again, fun h => .base (reachL_mem.2 h) h.there⟩
theorem reachL_len (a : List Item) (S : List Str) : (reachL a S).length ≤ a.length := by
  have h1 : (reachL a S).Nodup := (reachL_sorted a S).imp fun h e => by subst e; exact absurd h (List.lt_irrefl _)
  have h2 : ∀ s ∈ reachL a S, s ∈ names a := fun s hs => (reachL_mem.1 hs).names
  have := h1.length_le_of_subset (l₂ := names a) h2
  rwa [show (names a).length = a.length from List.length_map _] at this
end Go.Hog

set_option linter.unusedVariables false
set_option linter.unusedSimpArgs false
set_option maxRecDepth 100000
set_option maxHeartbeats 1000000
namespace Go.Hog
open Go.RowKit Rp Go.Proofs
def twX : Str := [48, 49, 50, 51, 52, 53, 54, 97, 45, 120]
def twY : Str := [49, 49, 50, 51, 52, 53, 54, 97, 45, 121]
def twH : Str := [49, 49, 50, 51, 52, 53, 54, 97]
def gnuP : Str := [47, 103, 110, 117]
def abP : Str := [47, 97, 47, 98]
def two2 : List Item := [⟨twX, [twY], [⟨[], 2, twH⟩]⟩, ⟨twY, [], [⟨[], 1, []⟩]⟩]
theorem two_val : valE gnuP two2 = 0 := by decide +kernel
theorem two_val1 : valE gnuP (two2.take 1) = 8 := by decide +kernel
theorem two_reach : reachL two2 [twX] = [twX, twY] := by
  rw [reachL_run (r := [twX, twY]) 10 (by decide +kernel)]
  decide +kernel
theorem two_sl {g : View} {b b1 b3 b6 : Nat} (h : ∀ e ∈ [HE.row (some ⟨b, 0, none⟩) 2 2 44 3 [str twX, .slice (some ⟨b1, 0, none⟩) 1 1, .slice (some ⟨b3, 0, none⟩) 1 1, str twY, .slice none 0 0, .slice (some ⟨b6, 0, none⟩) 1 1], nRow (some ⟨b6, 0, none⟩) 1 [⟨[], 1, []⟩], nRow (some ⟨b3, 0, none⟩) 1 [⟨[], 2, twH⟩], sRow (some ⟨b1, 0, none⟩) 1 [twY]], e.seen g) : Sl g (some ⟨b, 0, none⟩) 2 two2 := by
  have h0 := h _ (.head _)
  have h6 := h _ (.tail _ (.head _))
  have h3 := h _ (.tail _ (.tail _ (.head _)))
  have h1 := h _ (.tail _ (.tail _ (.tail _ (.head _))))
  have m6 : rp g (⟨[], 1, []⟩ : Node) (nodeC ⟨[], 1, []⟩) := ⟨rfl, by decide, by decide, by decide, by decide⟩
  have n6 : Sl g (some ⟨b6, 0, none⟩) 1 [(⟨[], 1, []⟩ : Node)] := (Rw.one m6).sl h6 rfl (by decide)
  have m3 : rp g (⟨[], 2, twH⟩ : Node) (nodeC ⟨[], 2, twH⟩) := ⟨rfl, by decide, by decide, by decide, by decide⟩
  have n3 : Sl g (some ⟨b3, 0, none⟩) 1 [(⟨[], 2, twH⟩ : Node)] := (Rw.one m3).sl h3 rfl (by decide)
  have t1 : Sl g (some ⟨b1, 0, none⟩) 1 [twY] := Sl.ofTexts h1 rfl (by decide) (by decide)
  have i1 : rp g (⟨twX, [twY], [⟨[], 2, twH⟩]⟩ : Item) [str twX, .slice (some ⟨b1, 0, none⟩) 1 1, .slice (some ⟨b3, 0, none⟩) 1 1] := ⟨_, _, _, _, rfl, by decide, t1, n3⟩
  have i2 : rp g (⟨twY, [], [⟨[], 1, []⟩]⟩ : Item) [str twY, .slice none 0 0, .slice (some ⟨b6, 0, none⟩) 1 1] := ⟨_, _, _, _, rfl, by decide, Sl.nil g, n6⟩
  exact ((Rw.one i1).append (Rw.one i2)).sl h0 rfl (by decide)
theorem two_fit : FitT two2 := ⟨by decide, by decide⟩
end Go.Hog

set_option linter.unusedVariables false
set_option linter.unusedSimpArgs false
namespace Go.Hog
open Go.RowKit Rp
def isBoolT (P : Program) (t : TypeId) : Bool := match P.underlying t with | some .bool => true | _ => false
theorem und_isBoolT {P : Program} {t : TypeId} (h : isBoolT P t = true) : P.underlying t = some .bool := by
  unfold isBoolT at h
  split at h
  · assumption
  · cases h
section
variable {P : Program} {n : Nat} {B : Bs} {f : View} {L : List HE} {ρ : Env} {K : Kon} {ops : Array Oper} {m : Md} {l l0 : List Oper} {ρ0 : Env} {d : Nat} {x y : Operand} {t t2 ty : TypeId} {pos : String} {af : Array Edge} {gd : Option (Nat × Bool)} {a b : Bool}
theorem neBo (r : Bool) (hr : (!(a == b)) = r) (k : RW m P n B ops K l (up ρ d (.bool r)) f L) (hrun : runP P ops l0 ρ0 = (⟨some d, .binOp .neq t x y t2, ty, pos, af, gd⟩ :: l, ρ) := by rfl) (hg : wantedE ops ρ ⟨some d, .binOp .neq t x y t2, ty, pos, af, gd⟩ = true := by rfl)
    (hx : ev ρ x = .bool a := by rfl) (hy : ev ρ y = .bool b := by rfl) (he : isBoolT P t = true := by rfl) : RW m P n B ops K l0 ρ0 f L := by
  refine rw_runP l0 ρ0 ?_
  rw [hrun]
  subst hr
  exact rw_y hg (fun w hw => by
    have := run_neq_bool (P := P) w t a b (und_isBoolT he)
    simp [execOp, eqGuard, hx, hy, this]) k
theorem eqBo2 (r : Bool) (hr : (a == b) = r) (k : RW m P n B ops K l (up ρ d (.bool r)) f L) (hrun : runP P ops l0 ρ0 = (⟨some d, .binOp .eql t x y t2, ty, pos, af, gd⟩ :: l, ρ) := by rfl) (hg : wantedE ops ρ ⟨some d, .binOp .eql t x y t2, ty, pos, af, gd⟩ = true := by rfl)
    (hx : ev ρ x = .bool a := by rfl) (hy : ev ρ y = .bool b := by rfl) (he : isBoolT P t = true := by rfl) : RW m P n B ops K l0 ρ0 f L := by
  refine rw_runP l0 ρ0 ?_
  rw [hrun]
  subst hr
  exact rw_y hg (fun w hw => by
    have := run_eql_bool (P := P) w t a b (und_isBoolT he)
    simp [execOp, eqGuard, hx, hy, this]) k
end
end Go.Hog
