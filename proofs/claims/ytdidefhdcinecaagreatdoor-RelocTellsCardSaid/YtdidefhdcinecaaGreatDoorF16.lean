/- Contracts: closure.Reach. -/
import Derived.Test.YtdidefhdcinecaaGreatDoorF15
import Derived.Test.YtdidefhdcinecaaGreatDoorS7
import Derived.Test.YtdidefhdcinecaaGreatDoorEY
set_option linter.unusedVariables false
set_option linter.unusedSimpArgs false
set_option maxRecDepth 100000
set_option maxHeartbeats 1000000
namespace Go.Hog
open Go.RowKit Rp Go.Proofs
def tt (_ : Str) : Value := .bool true
theorem mapF_tt (ks : List Str) (s : Str) : mapF ks (updF tt s (.bool true)) = mapF ks tt := List.map_congr_left fun u _ => by
  unfold updF tt
  split <;> rfl
def reachR (a : List Item) (S : List Str) (L' : List HE) (v : Value) : Prop := ∃ A c, v = .slice A (reachL a S).length c ∧ L' = [sRow A c (reachL a S)]
structure RS where
  found : List Str
  A6 : Option Addr
  c6 : Nat
  A : Option Addr
  Ax : Option Addr
  o : Nat
  c : Nat
  td : List Str
  xs : List Value
  g : View
structure RSI (a : List Item) (S : List Str) (f : View) (td : List Str) (s : RS) : Prop where
  sub : Sub f s.g
  ri : RI a S td s.found
  off : Off 1 s.A s.Ax s.o s.td.length s.c
  cut : s.xs.drop (s.o * 1) = s.td.map str
  small : s.td.length ≤ 1000 * s.found.length + S.length
def RS.slots (s : RS) (A : Option Addr) (n c bm : Nat) : List (Nat × Value) := [(7, .slice s.Ax s.td.length s.c), (6, .slice s.A6 s.found.length s.c6), (5, .map (some bm)), (0, .slice A n c)]
def RS.heap (s : RS) (bm : Nat) : List HE := [.mp bm (mapF s.found tt), sRow s.A6 s.c6 s.found, .row s.A (s.o + s.td.length) (s.o + s.c) 9 1 s.xs]
end Go.Hog
