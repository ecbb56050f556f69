/- PopTells answers true. -/
import Derived.Test.YtaaehplhpkojiaaG5
set_option linter.unusedVariables false
set_option linter.unusedSimpArgs false
set_option maxRecDepth 100000
set_option maxHeartbeats 1000000
namespace Go.Hog
open Go.RowKit Rp Go.Proofs
section
variable {P : Program} {n : Nat} {B : Bs} {f : View} {L : List HE} {ρ : Env} {K : Kon} {ops : Array Oper} {m : Md} {l l0 : List Oper} {ρ0 : Env} {d : Nat} {x y : Operand} {t ty t2 : TypeId} {pos : String} {af : Array Edge} {gd : Option (Nat × Bool)}
theorem eqBB (p q : Bool) (k : RW m P n B ops K l (up ρ d (.bool (p == q))) f L) (hrun : runP P ops l0 ρ0 = (⟨some d, .binOp .eql t x y t2, ty, pos, af, gd⟩ :: l, ρ) := by rfl) (hg : wantedE ops ρ ⟨some d, .binOp .eql t x y t2, ty, pos, af, gd⟩ = true := by rfl) (hx : ev ρ x = .bool p := by rfl) (hy : ev ρ y = .bool q := by rfl) (ht : P.underlying t = some .bool := by rfl) : RW m P n B ops K l0 ρ0 f L := by
  refine rw_runP l0 ρ0 ?_
  rw [hrun]
  have he : ∀ w, (Op.equalIn Op.maxDepth t (.bool p) (.bool q)).run P w = .ok (p == q) w := fun w => by
    rw [show Op.maxDepth = 9999 + 1 from rfl]
    unfold Op.equalIn
    simp [run_und ht]
  exact rw_y hg (fun w _ => by simp [execOp, eqGuard, binOp, hx, hy, Op.equal, he]) k
end
theorem fitT_of {a : List Item} (h : ¬ GreatI a) : FitT a := by
  unfold GreatI at h
  refine ⟨?_, fun x hx => ⟨?_, ?_⟩⟩
  · have : ¬ 10 < a.length := fun e => h (.inl e)
    omega
  · have h2 : ¬ GreatT x.refs 12 100 := fun e => h (.inr ⟨x, hx, .inr (.inl e)⟩)
    have : ¬ (12 : Int) < x.refs.length := fun e => h2 (.inl e)
    omega
  · have h2 : ¬ GreatN x.tree 30 := fun e => h (.inr ⟨x, hx, .inr (.inr e)⟩)
    have : ¬ (30 : Int) < x.tree.length := fun e => h2 (.inl e)
    omega
theorem ten_of {a : List Item} (h : ¬ GreatI a) : a.length ≤ 10 := by
  have : ¬ 10 < a.length := fun e => h (.inl e)
  omega
theorem scoresL_len (a : List Item) : (scoresL a).length ≤ a.length := by
  unfold scoresL
  split
  · rw [List.length_map]; exact Nat.le_refl _
  · exact Nat.zero_le _
theorem scoresL_b {a : List Item} (h : a.length ≤ 12) : ∀ s ∈ scoresL a, -9223372036854775808 ≤ s ∧ s ≤ 9223372036854775807 := by
  unfold scoresL
  split
  · intro s hs
    obtain ⟨x, _, rfl⟩ := List.mem_map.1 hs
    have := scN_le a a.length x.name
    unfold sc
    omega
  · intro s hs; cases hs
theorem rankL_sub (a : List Item) : ∀ s ∈ rankL a, s ∈ names a := by
  unfold rankL
  split
  · intro s hs
    obtain ⟨p, hp, rfl⟩ := List.mem_map.1 hs
    have h2 : p ∈ a.map (plOf a) := (sortBy_perm _).mem_iff.1 hp
    obtain ⟨x, hx, rfl⟩ := List.mem_map.1 h2
    exact List.mem_map.2 ⟨x, hx, rfl⟩
  · intro s hs; cases hs
theorem rankL_len (a : List Item) : (rankL a).length ≤ a.length := by
  unfold rankL
  split
  · have h2 : (rankP a).length = (a.map (plOf a)).length := (sortBy_perm _).length_eq
    rw [List.length_map, h2, List.length_map]
    exact Nat.le_refl _
  · exact Nat.zero_le _
theorem namesLe {f : View} {A : Option Addr} {c : Nat} {a : List Item} (ha : Sl f A c a) {s : Str} (h : s ∈ names a) : s.length ≤ LB := by
  obtain ⟨x, hx, rfl⟩ := List.mem_map.1 h
  obtain ⟨j, hj, rfl⟩ := List.getElem_of_mem hx
  obtain ⟨_, _, _, _, _, _, _, _, hn, _, _⟩ := ha.item hj
  exact hn
theorem sameIntsT {w : World} {g : View} (hon : On g w) {A B : Option Addr} {c c2 : Nat} {l : List Int} (h1 : Sl g A c l) (h2 : Sl g B c2 l) :
    Con Try.prog 12 [.slice A l.length c, .slice B l.length c2] w (Ret w g fun _ v => v = .bool (decide (l = l))) := sameInts hon h1 h2
theorem popTells {w : World} {f : View} (hv : On f w) {A : Option Addr} {c : Nat} {a : List Item} (ha : Sl f A c a) {s1 s2 : Int} {n1 n2 : Str} (q1 : -9223372036854775808 ≤ s1 ∧ s1 ≤ 9223372036854775807) (h1 : n1.length ≤ LB) (q2 : -9223372036854775808 ≤ s2 ∧ s2 ≤ 9223372036854775807) (h2 : n2.length ≤ LB) :
    Con Try.prog 3 [.slice A a.length c, i64 s1, str n1, i64 s2, str n2] w (Ret w f fun _ v => v = .bool true) := by
  refine enterC hv Try.call3 Try.func3 ?_
  have hlim := ha.len_lt
  refine sgE ?_
  refine sq (sg ?_)
  refine callB (p := GreatI a) (vs := [.slice A a.length c]) (fun w g hs _ hon => greatItems hon (ha.mono hs)) (fun hgr => ?_) (fun hgr => ?_)
  · refine runE ?_
    refine cT (sg ?_)
    refine callV (.bool true) (vs := []) (fun w g hs _ hon => awake21 hon) ?_
    refine runE ?_
    refine ew_ret ?_
    exact ret1 rfl
  refine Go.Hog.gt (fun hx1 => ?_) (fun hx1 => ?_)
  · refine runE ?_
    refine cT (sg ?_)
    refine callV (.bool true) (vs := []) (fun w g hs _ hon => awake21 hon) ?_
    refine runE ?_
    refine ew_ret ?_
    exact ret1 rfl
  refine Go.Hog.gt (fun hx2 => ?_) (fun hx2 => ?_)
  · refine runE ?_
    refine cT (sg ?_)
    refine callV (.bool true) (vs := []) (fun w g hs _ hon => awake21 hon) ?_
    refine runE ?_
    refine ew_ret ?_
    exact ret1 rfl
  refine runE ?_
  refine cFs ?_
  have hfit := fitT_of hgr
  have h12 : a.length ≤ 12 := by have := ten_of hgr; omega
  have hsb := scoresL_b h12
  have hsl : (scoresL a).length ≤ 12 := Nat.le_trans (scoresL_len a) h12
  have hrl : (rankL a).length ≤ 12 := Nat.le_trans (rankL_len a) h12
  have hrb : ∀ s ∈ rankL a, s.length ≤ LB := fun s hs => namesLe ha (rankL_sub a s hs)
  have hsl2 : (scoresL a).length ≤ LB := by unfold LB; omega
  have hrl2 : (rankL a).length ≤ LB := by unfold LB; omega
  have hsl3 : (scoresL a).length ≤ 1000000 := by omega
  have hrl3 : (rankL a).length ≤ 1000000 := by omega
  refine efg [(0, .slice A a.length c), (1, i64 s1), (2, str n1), (3, i64 s2), (4, str n2)] [] fun ρ => ?_
  refine sg ?_
  refine callM0 (vs := [.slice A a.length c]) [] (fun w hon hgi => popScores hon ha hfit h12) (fun v g L' hs hR => ?_)
  obtain ⟨As, cs, rfl, rfl⟩ := hR
  have ha1 := ha.mono hs
  refine callM (vs := [.slice A a.length c]) [] [iRow As cs (scoresL a)] (fun w hon hgi => popRank hon ha1 hfit h12) (fun v g2 L' hs2 hR => ?_)
  obtain ⟨Ar, cr, rfl, rfl⟩ := hR
  have ha2 := ha1.mono hs2
  refine runE ?_
  generalize hS : scoresL a = S at *
  generalize hR0 : rankL a = R at *
  refine efg [(11, .slice As S.length cs), (12, .slice Ar R.length cr), (0, .slice A a.length c), (1, i64 s1), (2, str n1), (3, i64 s2), (4, str n2)] [sRow Ar cr R, iRow As cs S] fun ρ => ?_
  refine sg ?_
  refine callM (vs := [.slice A a.length c]) [] [sRow Ar cr R, iRow As cs S] (fun w hon hgi => ref21Scores hon ha2 hfit h12) (fun v g3 L' hs3 hR => ?_)
  rw [hS] at hR
  obtain ⟨Ae, ce, rfl, rfl⟩ := hR
  have ha3 := ha2.mono hs3
  refine callB (p := S = S) (vs := [.slice As S.length cs, .slice Ae S.length ce]) (fun w g hs hsn hon => sameInts hon (Sl.ofNumV (hsn (iRow As cs S) (.tail _ (.tail _ (.head _)))) rfl hsb hsl2) (Sl.ofNumV (hsn (iRow Ae ce S) (.head _)) rfl hsb hsl2)) (fun _ => ?_) (fun h => absurd rfl h)
  refine dropH ?_
  refine callM (vs := [.slice A a.length c]) [] [sRow Ar cr R, iRow As cs S] (fun w hon hgi => ref21Rank hon ha3 hfit h12) (fun v g4 L' hs4 hR => ?_)
  rw [hR0] at hR
  obtain ⟨Af, cf, rfl, rfl⟩ := hR
  have ha4 := ha3.mono hs4
  refine callB (p := R = R) (vs := [.slice Ar R.length cr, .slice Af R.length cf]) (fun w g hs hsn hon => sameTexts hon (Sl.ofTexts (hsn (sRow Ar cr R) (.tail _ (.head _))) rfl hrb hrl2) (Sl.ofTexts (hsn (sRow Af cf R) (.head _)) rfl hrb hrl2)) (fun _ => ?_) (fun h => absurd rfl h)
  refine dropH ?_
  refine callV (.bool (decide (Abv s1 n1 s2 n2))) (vs := [i64 s1, str n1, i64 s2, str n2]) (fun w g hs hsn hon => popAbove hon) ?_
  refine callV (.bool (decide (Abv s1 n1 s2 n2))) (vs := [i64 s1, str n1, i64 s2, str n2]) (fun w g hs hsn hon => refAbove hon) ?_
  refine eqBB (decide (Abv s1 n1 s2 n2)) (decide (Abv s1 n1 s2 n2)) ?_
  rw [show (decide (Abv s1 n1 s2 n2) == decide (Abv s1 n1 s2 n2)) = true by cases decide (Abv s1 n1 s2 n2) <;> rfl]
  refine runE ?_
  refine efg [(13, .bool true), (11, .slice As S.length cs), (12, .slice Ar R.length cr), (0, .slice A a.length c)] [sRow Ar cr R, iRow As cs S] fun ρ => ?_
  refine eperm (L' := [iRow As cs S] ++ [sRow Ar cr R]) (.swap _ _ _) ?_
  refine sg ?_
  refine callM (vs := [.slice As S.length cs]) [iRow As cs S] [sRow Ar cr R] (fun w hon hgi => overIs hon hsl3 hgi) (fun v g5 L' hs5 hR => ?_)
  subst hR
  refine runE ?_
  refine sg ?_
  refine callM0 (vs := [.slice Ar R.length cr]) [sRow Ar cr R] (fun w hon hgi => overTs hon hrl3 hgi) (fun v g6 L' hs6 hR => ?_)
  subst hR
  refine runE ?_
  have ha6 := (ha4.mono hs5).mono hs6
  refine efg [(13, .bool true), (0, .slice A a.length c)] [] fun ρ => ?_
  refine sg ?_
  refine callM0 (vs := [.slice A a.length c]) [] (fun w hon hgi => popRank hon ha6 hfit h12) (fun v g7 L' hs7 hR => ?_)
  rw [hR0] at hR
  obtain ⟨Ag, cg, rfl, rfl⟩ := hR
  have ha7 := ha6.mono hs7
  refine callM (vs := [.slice A a.length c]) [] [sRow Ag cg R] (fun w hon hgi => ref21Rank hon ha7 hfit h12) (fun v g8 L' hs8 hR => ?_)
  rw [hR0] at hR
  obtain ⟨Ah, ch, rfl, rfl⟩ := hR
  refine callB (p := R = R) (vs := [.slice Ag R.length cg, .slice Ah R.length ch]) (fun w g hs hsn hon => sameTexts hon (Sl.ofTexts (hsn (sRow Ag cg R) (.tail _ (.head _))) rfl hrb hrl2) (Sl.ofTexts (hsn (sRow Ah ch R) (.head _)) rfl hrb hrl2)) (fun _ => ?_) (fun h => absurd rfl h)
  refine callV (.bool true) (vs := []) (fun w g hs _ hon => awake21 hon) ?_
  refine runE ?_
  refine ew_ret ?_
  exact ret1 rfl
end Go.Hog
