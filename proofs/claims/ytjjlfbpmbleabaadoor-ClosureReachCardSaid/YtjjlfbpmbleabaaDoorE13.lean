/- The engine, part 13: what is no more needed is forgotten. -/
import Derived.Test.YtjjlfbpmbleabaaDoorE12
set_option linter.unusedVariables false
set_option linter.unusedSimpArgs false
namespace Go.Hog
open Go.RowKit Rp
section
variable {P : Program} {n : Nat} {B : Bs} {f : View} {L : List HE} {ρ : Env} {Q : Post} {K : Kon} {ops : Array Oper} {m : Md} {l : List Oper} {c : Code}
/-- Slots alone are kept; the blocks are told anew. -/
theorem efg (slots : List (Nat × Value)) (L' : List HE) (k : ∀ ρ', EW P n B c Q (ups ρ' slots) f L') (hh : L = L' := by rfl) (ha : Agree ρ slots := by first | exact trivial | exact ⟨rfl, trivial⟩ | exact ⟨rfl, rfl, trivial⟩ | exact ⟨rfl, rfl, rfl, trivial⟩ | exact ⟨rfl, rfl, rfl, rfl, trivial⟩ | exact ⟨rfl, rfl, rfl, rfl, rfl, trivial⟩ | exact ⟨rfl, rfl, rfl, rfl, rfl, rfl, trivial⟩ | exact ⟨rfl, rfl, rfl, rfl, rfl, rfl, rfl, trivial⟩ | exact ⟨rfl, rfl, rfl, rfl, rfl, rfl, rfl, rfl, trivial⟩ | exact ⟨rfl, rfl, rfl, rfl, rfl, rfl, rfl, rfl, rfl, trivial⟩ | exact ⟨rfl, rfl, rfl, rfl, rfl, rfl, rfl, rfl, rfl, rfl, trivial⟩ | exact ⟨rfl, rfl, rfl, rfl, rfl, rfl, rfl, rfl, rfl, rfl, rfl, trivial⟩ | exact ⟨rfl, rfl, rfl, rfl, rfl, rfl, rfl, rfl, rfl, rfl, rfl, rfl, trivial⟩ | exact ⟨rfl, rfl, rfl, rfl, rfl, rfl, rfl, rfl, rfl, rfl, rfl, rfl, rfl, trivial⟩ | exact ⟨rfl, rfl, rfl, rfl, rfl, rfl, rfl, rfl, rfl, rfl, rfl, rfl, rfl, rfl, trivial⟩ | exact ⟨rfl, rfl, rfl, rfl, rfl, rfl, rfl, rfl, rfl, rfl, rfl, rfl, rfl, rfl, rfl, trivial⟩ | exact ⟨rfl, rfl, rfl, rfl, rfl, rfl, rfl, rfl, rfl, rfl, rfl, rfl, rfl, rfl, rfl, rfl, trivial⟩) : EW P n B c Q ρ f L := by
  subst hh
  rw [← ups_agree ha]
  exact k ρ
theorem rfg (slots : List (Nat × Value)) (L' : List HE) (k : ∀ ρ', RW m P n B ops K l (ups ρ' slots) f L') (hh : L = L' := by rfl) (ha : Agree ρ slots := by first | exact trivial | exact ⟨rfl, trivial⟩ | exact ⟨rfl, rfl, trivial⟩ | exact ⟨rfl, rfl, rfl, trivial⟩ | exact ⟨rfl, rfl, rfl, rfl, trivial⟩ | exact ⟨rfl, rfl, rfl, rfl, rfl, trivial⟩ | exact ⟨rfl, rfl, rfl, rfl, rfl, rfl, trivial⟩ | exact ⟨rfl, rfl, rfl, rfl, rfl, rfl, rfl, trivial⟩ | exact ⟨rfl, rfl, rfl, rfl, rfl, rfl, rfl, rfl, trivial⟩ | exact ⟨rfl, rfl, rfl, rfl, rfl, rfl, rfl, rfl, rfl, trivial⟩ | exact ⟨rfl, rfl, rfl, rfl, rfl, rfl, rfl, rfl, rfl, rfl, trivial⟩ | exact ⟨rfl, rfl, rfl, rfl, rfl, rfl, rfl, rfl, rfl, rfl, rfl, trivial⟩ | exact ⟨rfl, rfl, rfl, rfl, rfl, rfl, rfl, rfl, rfl, rfl, rfl, rfl, trivial⟩ | exact ⟨rfl, rfl, rfl, rfl, rfl, rfl, rfl, rfl, rfl, rfl, rfl, rfl, rfl, trivial⟩ | exact ⟨rfl, rfl, rfl, rfl, rfl, rfl, rfl, rfl, rfl, rfl, rfl, rfl, rfl, rfl, trivial⟩ | exact ⟨rfl, rfl, rfl, rfl, rfl, rfl, rfl, rfl, rfl, rfl, rfl, rfl, rfl, rfl, rfl, trivial⟩ | exact ⟨rfl, rfl, rfl, rfl, rfl, rfl, rfl, rfl, rfl, rfl, rfl, rfl, rfl, rfl, rfl, rfl, trivial⟩) : RW m P n B ops K l ρ f L := by
  subst hh
  rw [← ups_agree ha]
  exact k ρ
/-- The blocks told anew. -/
theorem req (L' : List HE) (k : RW m P n B ops K l ρ f L') (hh : L = L' := by rfl) : RW m P n B ops K l ρ f L := hh ▸ k
/-- A slot's value told anew. -/
theorem rsl (d : Nat) (v : Value) (k : RW m P n B ops K l (up ρ d v) f L) (hv : ρ d = v := by rfl) : RW m P n B ops K l ρ f L := by
  rw [← up_same hv]
  exact k
/-- Known of two ways. -/
theorem bkJ2 {σ : Type} {id : Nat} {c' : Code} (slots : σ → List (Nat × Value)) (vw : σ → View) (hp : σ → List HE) (Inv : σ → Prop) (h1 : EW P n B c (blkQ id (thenQ (JnS slots vw hp Inv) Q)) ρ f L)
    (h2 : ∀ s ρ', Inv s → EW P n B c' Q (ups ρ' (slots s)) (vw s) (hp s)) : EW P n B (.seq (.block id c) c') Q ρ f L := bkJ slots vw hp Inv h1 h2
end
end Go.Hog
