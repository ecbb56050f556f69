/- Contracts: the ranks; what is written over. -/
import Derived.Test.YtiahipbkheaafaaF6
set_option linter.unusedVariables false
set_option linter.unusedSimpArgs false
set_option maxRecDepth 100000
set_option maxHeartbeats 1000000
namespace Go.Hog
open Go.RowKit Rp Go.Proofs

def num (n : Int) : Value := i64 n
theorem rowN {A : Option Addr} {c : Nat} {e : TypeId} {l : List Int} {x : Int} : HE.row A (l.length + 1) c e 1 (l.map num ++ [i64 x]) = HE.row A (l ++ [x]).length c e 1 ((l ++ [x]).map num) := by simp [num]
def ranksOf (a : List Item) : List Int := match refOf a with | none => [] | some l => a.map fun x => idxI l x.name
def ranksR (a : List Item) (g : View) (L' : List HE) (v : Value) : Prop := ∃ A c, v = .slice A (ranksOf a).length c ∧ L' = [.row A (ranksOf a).length c 3 1 ((ranksOf a).map num)]
theorem refGo_sub {a : List Item} : ∀ (k : Nat) (o l : List Str), refGo a k o = some l → (∀ s ∈ o, s ∈ names a) → ∀ s ∈ l, s ∈ names a
  | 0, o, l, h, ho => by
    simp only [refGo, Option.some.injEq] at h
    subst h; exact ho
  | k + 1, o, l, h, ho => by
    simp only [refGo] at h
    split at h
    · cases h
    · rename_i j hj
      have hjl := bestJ_lt hj
      refine refGo_sub k _ l h fun s hs => ?_
      rcases List.mem_append.1 hs with hs | hs
      · exact ho s hs
      · have : s = (a.getD j dI).name := by simpa using hs
        rw [this]
        have e : a.getD j dI = a[j] := by simp [hjl]
        rw [e]
        exact List.mem_map.2 ⟨a[j], List.getElem_mem _, rfl⟩
theorem refGo_len {a : List Item} : ∀ (k : Nat) (o l : List Str), refGo a k o = some l → l.length = o.length + k
  | 0, o, l, h => by
    simp only [refGo, Option.some.injEq] at h
    subst h; simp
  | k + 1, o, l, h => by
    simp only [refGo] at h
    split at h
    · cases h
    · rename_i j hj
      have := refGo_len k _ l h
      simp at this
      omega
theorem refOf_sub {a : List Item} {l : List Str} (h : refOf a = some l) : (∀ s ∈ l, s ∈ names a) ∧ l.length = a.length := by
  unfold refOf at h
  split at h
  · exact ⟨refGo_sub _ _ _ h (fun s hs => by cases hs), by simpa using refGo_len _ _ _ h⟩
  · cases h
theorem names_le {f : View} {A : Option Addr} {c : Nat} {a : List Item} (ha : Sl f A c a) {s : Str} (h : s ∈ names a) : s.length ≤ LB := by
  obtain ⟨x, hx, rfl⟩ := List.mem_map.1 h
  obtain ⟨j, hj, rfl⟩ := List.getElem_of_mem hx
  obtain ⟨_, _, _, _, _, _, _, _, hn, _, _⟩ := ha.item hj
  exact hn
theorem ranks {w : World} {f : View} (hv : On f w) {A : Option Addr} {c : Nat} {a : List Item} (ha : Sl f A c a) (hfit : Fit a) :
    Con Try.prog 11 [.slice A a.length c] w (RetM w f [] (ranksR a)) := by
  refine enterM (L := []) hv (Given.nil _ _) Try.call11 Try.func11 ?_
  have hlim := ha.len_lt
  have hsm := hfit.1
  refine sgE ?_
  refine sg ?_
  refine callM0 (vs := [.slice A a.length c]) [] (fun w hon hgi => orderOf hon ha hfit) (fun v g L' hs hR => ?_)
  obtain ⟨Al, cl, rfl, rfl⟩ := hR
  have ha := ha.mono hs
  cases hro : refOf a with
  | none =>
    refine runE ?_
    refine sq (sgE ?_)
    refine cT ?_
    refine ewL (L' := []) (fun _ h => h.sublist (List.nil_sublist _)) ?_
    refine enilrow 3 1 ?_
    refine rr ?_
    refine ret1M ⟨none, 0, ?_, ?_⟩
    · unfold ranksOf; rw [hro]; rfl
    · unfold ranksOf; rw [hro]; rfl
  | some l =>
    have hl := refOf_sub hro
    have hlb : ∀ s ∈ l, s.length ≤ LB := fun s hs => names_le ha (hl.1 s hs)
    have hll : l.length ≤ LB := by rw [hl.2]; unfold LB; omega
    show RW _ _ _ _ _ _ _ (up _ _ (.tuple #[.slice Al l.length cl, .bool true])) _ [HE.row Al l.length cl 9 1 (l.map str)]
    refine runE ?_
    refine sq (sgE ?_)
    refine cFs ?_
    refine sgE ?_
    refine enilrow 3 1 ?_
    refine sqJ (σ := Option Addr × Nat) (fun s => [(5, .slice s.1 a.length s.2)]) (fun _ => g) (fun s => [HE.row s.1 a.length s.2 3 1 ((a.map fun x => idxI l x.name).map num), HE.row Al l.length cl 9 1 (l.map str)]) (fun _ => True) ?_ ?_
    case refine_2 =>
      rintro ⟨A5, c5⟩ ρ _
      refine ewL (L' := [HE.row A5 a.length c5 3 1 ((a.map fun x => idxI l x.name).map num)]) (fun _ h => h.sublist (by simp)) ?_
      refine rr ?_
      refine ret1M ?_
      have e : ranksOf a = a.map fun x => idxI l x.name := by unfold ranksOf; rw [hro]
      unfold ranksR
      rw [e]
      exact ⟨A5, c5, by rw [List.length_map]; rfl, by rw [List.length_map]⟩
    refine sgE ?_
    refine bk ?_
    refine lp (σ := Nat × Option Addr × Nat) (fun s => [(17, i64 s.1), (16, i64 a.length), (15, .slice A a.length c), (5, .slice s.2.1 s.1 s.2.2), (3, .slice Al l.length cl)]) (fun _ => g) (fun s => [HE.row s.2.1 s.1 s.2.2 3 1 (((a.take s.1).map fun x => idxI l x.name).map num), HE.row Al l.length cl 9 1 (l.map str)]) (fun s => s.1 ≤ a.length) (fun s => a.length - s.1) (0, none, 0) (Nat.zero_le _) ?_
    rintro ⟨k, A5, c5⟩ ρ hk
    replace hk : k ≤ a.length := hk
    show EW _ _ _ _ _ (ups ρ [(17, i64 k), (16, i64 a.length), (15, .slice A a.length c), (5, .slice A5 k c5), (3, .slice Al l.length cl)]) g [HE.row A5 k c5 3 1 (((a.take k).map fun x => idxI l x.name).map num), HE.row Al l.length cl 9 1 (l.map str)]
    refine sg ?_
    refine ltE (fun h => ?_) (fun h => ?_)
    case refine_2 =>
      refine sq (cFx ?_)
      have hka : k = a.length := by omega
      subst hka
      exact jn (A5, c5) trivial (hh := by rw [List.take_length])
    have h1 : k < a.length := by omega
    obtain ⟨b1, o1, A1, c1, A2, c2, rfl, hc, hn, hr, ht⟩ := ha.item h1
    refine sq (cTs ?_)
    refine bkJ (σ := Option Addr × Nat) (fun s => [(17, i64 k), (16, i64 a.length), (15, .slice (some ⟨b1, o1, none⟩) a.length c), (5, .slice s.1 (k + 1) s.2), (3, .slice Al l.length cl)]) (fun _ => g) (fun s => [HE.row s.1 (k + 1) s.2 3 1 (((a.take (k + 1)).map fun x => idxI l x.name).map num), HE.row Al l.length cl 9 1 (l.map str)]) (fun _ => True) ?_ ?_
    case refine_2 =>
      rintro ⟨A6, c6⟩ ρ _
      refine rg ?_
      refine addE ((k + 1 : Nat) : Int) ?_
      exact nxs (k + 1, A6, c6) h1 (by show a.length - (k + 1) < a.length - k; omega)
    refine sg ?_
    refine ix k h1 ?_
    refine ldvA hc ?_
    refine alloc fun bi => ?_
    refine stE 0 ?_
    refine rg ?_
    refine ldo 0 ?_
    refine callV (i64 (idxI l a[k].name)) (vs := [.slice Al l.length cl, str a[k].name]) (fun w g hs hsn hon => indexS hon (Sl.ofTexts (hsn (HE.row Al l.length cl 9 1 (l.map str)) (.tail _ (.tail _ (.head _)))) rfl hlb hll)) ?_
    refine bsl fun b7 => ?_
    refine app 1 (fun A' c' => ?_) (hi := rfl) (hlim := by show (k + 1) * 8 ≤ _; omega)
    refine dropH ?_
    refine runE ?_
    refine jn (A', c') trivial (hh := ?_)
    have e : (a.take (k + 1)).map (fun x => idxI l x.name) = (a.take k).map (fun x => idxI l x.name) ++ [idxI l a[k].name] := by
      rw [List.take_add_one, List.getElem?_eq_getElem h1]
      simp only [Option.toList, List.map_append, List.map_cons, List.map_nil]
    show [HE.row A' (k + 1) c' 3 1 _, _] = _
    rw [e, List.map_append]
    rfl
theorem overTexts {w : World} {f : View} {A : Option Addr} {n c : Nat} {xs : List Value} (hv : On f w) (hlim : n ≤ 1000000) (hg : Given f [.row A n c 9 1 xs] w) :
    Con Try.prog 13 [.slice A n c] w (RetM w f [.row A n c 9 1 xs] (fun _ L' _ => L' = [])) := by
  refine enterM hv hg Try.call13 Try.func13 ?_
  refine sqJ (σ := List Value) (fun _ => [(0, .slice A n c)]) (fun _ => f) (fun s => [.row A n c 9 1 s]) (fun _ => True) ?_ ?_
  case refine_2 =>
    rintro ys ρ _
    refine rg ?_
    refine bsl fun b => ?_
    refine app 0 (fun A' c' => ?_) (hi := rfl) (hlim := by show (n + 1) * 16 ≤ _; omega)
    refine dropH ?_
    refine runE ?_
    exact ret0M rfl
  refine sgE ?_
  refine bk ?_
  refine lp (σ := Nat × List Value) (fun s => [(2, i64 s.1), (0, .slice A n c)]) (fun _ => f) (fun s => [.row A n c 9 1 s.2]) (fun s => s.1 ≤ n) (fun s => n - s.1) (0, xs) (Nat.zero_le _) ?_
  rintro ⟨k, ys⟩ ρ hk
  replace hk : k ≤ n := hk
  show EW _ _ _ _ _ (ups ρ [(2, i64 k), (0, .slice A n c)]) f [.row A n c 9 1 ys]
  refine sq (sg ?_)
  refine ltE (fun h => ?_) (fun h => ?_)
  case refine_2 =>
    refine cFx ?_
    exact jn ys trivial
  have h1 : k < n := by omega
  refine erowF 0 fun hrow => ?_
  obtain ⟨g, rfl⟩ := hrow.2.2.2.1 (by omega)
  refine cTs (sq (bk ?_))
  refine rg ?_
  refine ix k h1 ?_
  refine stR 0 (o := 0 + k * 1) (vs := [str [111, 118, 101, 114]]) (xs := ys) (by rw [hrow.1]; simp; omega) ?_
  refine rw_end ?_
  refine rg ?_
  refine addE ((k + 1 : Nat) : Int) ?_
  exact nxs (k + 1, putL ys (0 + k * 1) [str [111, 118, 101, 114]]) h1 (by show n - (k + 1) < n - k; omega)
theorem overInts {w : World} {f : View} {A : Option Addr} {n c : Nat} {xs : List Value} (hv : On f w) (hlim : n ≤ 1000000) (hg : Given f [.row A n c 3 1 xs] w) :
    Con Try.prog 14 [.slice A n c] w (RetM w f [.row A n c 3 1 xs] (fun _ L' _ => L' = [])) := by
  refine enterM hv hg Try.call14 Try.func14 ?_
  refine sqJ (σ := List Value) (fun _ => [(0, .slice A n c)]) (fun _ => f) (fun s => [.row A n c 3 1 s]) (fun _ => True) ?_ ?_
  case refine_2 =>
    rintro ys ρ _
    refine rg ?_
    refine bsl fun b => ?_
    refine app 0 (fun A' c' => ?_) (hi := rfl) (hlim := by show (n + 1) * 8 ≤ _; omega)
    refine dropH ?_
    refine runE ?_
    exact ret0M rfl
  refine sgE ?_
  refine bk ?_
  refine lp (σ := Nat × List Value) (fun s => [(2, i64 s.1), (0, .slice A n c)]) (fun _ => f) (fun s => [.row A n c 3 1 s.2]) (fun s => s.1 ≤ n) (fun s => n - s.1) (0, xs) (Nat.zero_le _) ?_
  rintro ⟨k, ys⟩ ρ hk
  replace hk : k ≤ n := hk
  show EW _ _ _ _ _ (ups ρ [(2, i64 k), (0, .slice A n c)]) f [.row A n c 3 1 ys]
  refine sq (sg ?_)
  refine ltE (fun h => ?_) (fun h => ?_)
  case refine_2 =>
    refine cFx ?_
    exact jn ys trivial
  have h1 : k < n := by omega
  refine erowF 0 fun hrow => ?_
  obtain ⟨g, rfl⟩ := hrow.2.2.2.1 (by omega)
  refine cTs (sq (bk ?_))
  refine rg ?_
  refine ix k h1 ?_
  refine stR 0 (o := 0 + k * 1) (vs := [i64 (-999)]) (xs := ys) (by rw [hrow.1]; simp; omega) ?_
  refine rw_end ?_
  refine rg ?_
  refine addE ((k + 1 : Nat) : Int) ?_
  exact nxs (k + 1, putL ys (0 + k * 1) [i64 (-999)]) h1 (by show n - (k + 1) < n - k; omega)
end Go.Hog
