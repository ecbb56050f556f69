/- pop.ranking: Push, Pop; pop.Rank. -/
import Derived.Test.YtnjaclggjmfkfaaML
set_option linter.unusedVariables false
set_option linter.unusedSimpArgs false
set_option maxRecDepth 100000
set_option maxHeartbeats 1000000
namespace Go.Hog
open Go.RowKit Rp Go.Proofs
def kBlk (b : Nat) (A : Option Addr) (n c : Nat) : HE := .blk b (.cells ⟨[.slice A n c, .func (.func 30) ⟨[]⟩ ⟨[]⟩]⟩ 61)
theorem kPush {b : Nat} {l : List Pl} {A : Option Addr} {c : Nat} {f : View} {w : World} {x : Pl} (hlim : l.length < 1000000) (hv : On f w) (hg : Given f (kobj b l A c) w) :
    Con Try.prog 93 [.pointer (some ⟨b, 0, none⟩), .iface 58 (.agg ⟨plC x⟩)] w (RetM w f (kobj b l A c) fun g L' v => ∃ A' c', L' = kobj b (l ++ [x]) A' c') := by
  refine enterM hv hg Try.call93 Try.func93 ?_
  have hL : ∀ L, kBlk b A l.length c ∈ L → HeldL f [kBlk b A l.length c] f L := fun L h => ⟨Sub.refl _, fun e he => by rw [List.mem_singleton] at he; subst he; exact h⟩
  refine eA [0, 1, 2, 3, 4, 5, 6] [kBlk b A l.length c] (by simp [kobj, kBlk]) ?_
  refine an_takeH [0, 1, 2, 3, 4, 5, 6] (hL _ (by simp [kobj, kBlk])) ?_
  refine ldo 0 ?_
  refine runE ?_
  refine an_run1 7 ?_
  refine bsl fun b2 => ?_
  refine aH (hL _ (by simp [kobj, kBlk])) ?_
  refine an_run1 8 ?_
  refine app 1 (fun A' c' => ?_) (hlim := by show (l.length + 1) * 24 ≤ _; omega)
  refine aH (hL _ (List.Mem.head _)) ?_
  refine an_takeU [9, 10] ?_
  refine an_run1 11 ?_
  refine st 0 ?_
  refine a0 ?_
  refine an_done ?_
  refine ret0M ⟨A', c', ?_⟩
  show [HE.blk b (.cells ⟨[.slice A' (l.length + 1) c', _]⟩ _), HE.row A' (l.length + 1) c' _ 2 (l.flatMap plC ++ plC x)] = kobj b (l ++ [x]) A' c'
  unfold kobj
  rw [List.length_append, List.flatMap_append]
  simp
theorem kPop {b : Nat} {l : List Pl} {A : Option Addr} {c : Nat} {f : View} {w : World} (h0 : 0 < l.length) (hlim : l.length ≤ 1000000) (hv : On f w) (hg : Given f (kobj b l A c) w) :
    Con Try.prog 92 [.pointer (some ⟨b, 0, none⟩)] w (RetM w f (kobj b l A c) fun g L' v => L' = kobj b l.dropLast A c ∧ v = .iface 58 (.agg ⟨plC (at_ l (l.length - 1))⟩)) := by
  refine enterM hv hg Try.call92 Try.func92 ?_
  refine sgE ?_
  refine erowF 1 fun hrow => ?_
  obtain ⟨g, rfl⟩ := hrow.2.2.2.1 (by omega)
  have hlc := hrow.2.1
  have hl1 : l.length - 1 < l.length := by omega
  have hl2 : l.length - 1 ≤ c := by omega
  generalize hx : at_ l (l.length - 1) = x
  have hcell := kCell hl1
  rw [hx] at hcell
  refine sA [0, 1, 2, 3, 4, 5, 6, 7, 8, 9, 10, 11] (kobj b l (some ⟨g, 0, none⟩) c) (List.Sublist.refl _) ?_
  refine an_takeH [0, 1, 2, 3, 4, 5, 6, 7, 8, 9, 10, 11] HeldL.same ?_
  refine ldo 0 ?_
  refine ldo 0 ?_
  refine sub ((l.length - 1 : Nat) : Int) ?_
  refine ix (l.length - 1) hl1 ?_
  refine ldrA 1 hcell ?_
  refine rw_end ?_
  refine an_run1 12 ?_
  refine alloc fun b3 => ?_
  refine aH HeldL.same.cons ?_
  refine an_run1 13 ?_
  refine st 0 ?_
  refine a0 ?_
  refine an_done ?_
  refine efg [(0, .pointer (some ⟨b, 0, none⟩)), (3, .pointer (some ⟨b3, 0, none⟩))] [.blk b3 (.cells ⟨plC x⟩ 58), kBlk b (some ⟨g, 0, none⟩) l.length c, .row (some ⟨g, 0, none⟩) l.length c 58 2 (l.flatMap plC)] fun ρ => ?_
  refine sA [0, 1, 2, 3, 4, 5, 6, 7, 8, 9, 10, 11] [.blk b3 (.cells ⟨plC x⟩ 58), kBlk b (some ⟨g, 0, none⟩) l.length c, .row (some ⟨g, 0, none⟩) l.length c 58 2 (l.flatMap plC)] (List.Sublist.refl _) ?_
  refine an_takeH [0, 1, 2, 3, 4, 5, 6, 7, 8, 9, 10, 11] HeldL.same ?_
  refine ldo 1 ?_
  refine ldo 1 ?_
  refine sub ((l.length - 1 : Nat) : Int) ?_
  refine slH (l.length - 1) hl2 ?_
  refine rw_end ?_
  refine an_takeU [12, 13] ?_
  refine an_run1 14 ?_
  refine st 1 ?_
  refine a0 ?_
  refine an_done ?_
  refine ercut 2 (l.length - 1) (Nat.sub_le l.length 1) ?_
  refine efg [(0, .pointer (some ⟨b, 0, none⟩)), (3, .pointer (some ⟨b3, 0, none⟩))] [.blk b3 (.cells ⟨plC x⟩ 58), kBlk b (some ⟨g, 0, none⟩) (l.length - 1) c, .row (some ⟨g, 0, none⟩) (l.length - 1) c 58 2 ((l.flatMap plC).take ((l.length - 1) * 2))] fun ρ => ?_
  refine sg ?_
  refine ldoA 0 ?_
  refine runE ?_
  refine edropH ?_
  refine ew_ret ?_
  refine ret1M ⟨?_, rfl⟩
  unfold kobj kBlk
  rw [flat_take plC_len, ← List.dropLast_eq_take, List.length_dropLast]
theorem kC (b : Nat) : HeapC plLt (krv b) (fun p => .iface 58 (.agg ⟨plC p⟩)) (fun _ => True) (kobj b) where
  so := plSO
  irr := plIrr
  len := fun hv hg => ⟨_, _, run_methQ (e := 61) (by kernel_rfl) (by kernel_rfl) (kLen hv hg).1, (kLen hv hg).2⟩
  less := fun hi hj hl hv hg => ⟨_, _, run_methQ (e := 61) (by kernel_rfl) (by kernel_rfl) (kLess hi hj hl hv hg).1, (kLess hi hj hl hv hg).2⟩
  swap := fun hi hj hl hv hg => ⟨_, _, run_methQ (e := 61) (by kernel_rfl) (by kernel_rfl) (kSwap hi hj hl hv hg).1, (kSwap hi hj hl hv hg).2⟩
  push := fun {l A c w f x} _ hl hv hg => ⟨_, _, run_methQ (e := 61) (by kernel_rfl) (by kernel_rfl) (kPush (x := x) hl hv hg).1, (kPush (x := x) hl hv hg).2⟩
  pop := fun h0 hl hv hg => ⟨_, _, run_methQ (e := 61) (by kernel_rfl) (by kernel_rfl) (kPop h0 hl hv hg).1, (kPop h0 hl hv hg).2⟩
def kPushR (b : Nat) (x : Pl) (l : List Pl) (_ : View) (L' : List HE) (_ : Value) : Prop := ∃ l' A' c', L' = kobj b l' A' c' ∧ Hp plLt l'.length l' ∧ l'.Perm (x :: l)
theorem pushPl {b : Nat} {l : List Pl} {A : Option Addr} {c : Nat} {f : View} {w : World} {x : Pl} (hlim : l.length < 1000000) (hh : Hp plLt l.length l) (hv : On f w) (hg : Given f (kobj b l A c) w) :
    Con Try.prog 31 [krv b, .iface 58 (.agg ⟨plC x⟩)] w (RetM w f (kobj b l A c) (kPushR b x l)) := heapPush (kC b) (x := x) trivial hlim hh hv hg
def kPopR (b : Nat) (l : List Pl) (A : Option Addr) (c : Nat) (_ : View) (L' : List HE) (v : Value) : Prop := ∃ x l', v = .iface 58 (.agg ⟨plC x⟩) ∧ L' = kobj b l' A c ∧ Hp plLt l'.length l' ∧ l.Perm (x :: l') ∧ ∀ y ∈ l, ¬ plLt y x
theorem popPl {b : Nat} {l : List Pl} {A : Option Addr} {c : Nat} {f : View} {w : World} (h0 : 0 < l.length) (hlim : l.length ≤ 1000000) (hh : Hp plLt l.length l) (hv : On f w) (hg : Given f (kobj b l A c) w) :
    Con Try.prog 33 [krv b] w (RetM w f (kobj b l A c) (kPopR b l A c)) := heapPop (kC b) h0 hlim hh hv hg
def kLenR (b : Nat) (l : List Pl) (A : Option Addr) (c : Nat) (_ : View) (L' : List HE) (v : Value) : Prop := L' = kobj b l A c ∧ v = i64 l.length
theorem lenPl {b : Nat} {l : List Pl} {A : Option Addr} {c : Nat} {f : View} {w : World} (hv : On f w) (hg : Given f (kobj b l A c) w) :
    Con Try.prog 32 [.pointer (some ⟨b, 0, none⟩)] w (RetM w f (kobj b l A c) (kLenR b l A c)) := kLen hv hg
end Go.Hog
