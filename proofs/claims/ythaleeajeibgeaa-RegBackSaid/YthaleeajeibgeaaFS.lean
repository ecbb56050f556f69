/- F39 F40 S22, in one text. -/
import Derived.Test.YthaleeajeibgeaaF35
import Derived.Test.YthaleeajeibgeaaFP
set_option linter.unusedVariables false
set_option linter.unusedSimpArgs false
set_option maxRecDepth 100000
set_option maxHeartbeats 1000000
namespace Go.Hog
open Go.RowKit Rp Go.Proofs
def kPre : Str := [112, 114, 101, 102, 105, 120]
def kPol : Str := [112, 111, 108, 105, 99, 121]
def kItem : Str := [105, 116, 101, 109]
def kRef : Str := [114, 101, 102]
def kProf : Str := [112, 114, 111, 102, 105, 108, 101]
def lineT (k v : Str) : Str := k ++ [32] ++ v ++ [10]
def digT (n : Int) : Str := if n = 1 then [49] else [48]
def itemT (i : Item) : Str := lineT kItem i.name ++ i.refs.flatMap (lineT kRef)
def layT (p : Pack) : Str := lineT kPre p.pre ++ lineT kPol (digT p.pol) ++ p.items.flatMap itemT ++ p.prof.flatMap (lineT kProf)
section
variable {P : Program} {n : Nat} {B : Bs} {f : View} {L : List HE} {ρ : Env} {Q : Post} {K : Kon} {ops : Array Oper} {l l0 : List Oper} {ρ0 : Env} {d : Nat} {ty : TypeId} {pos : String} {af : Array Edge} {gd : Option (Nat × Bool)} {vs : List Value}
theorem callMF0 (L1 : List HE) {k : Nat} {g : Operand} {args : Array Operand} {at_ : Array TypeId} {fi ca tot : List Value} {R : View → List HE → Value → Prop} (h : ∀ w, On f w → Given f L1 w → Con P k tot w (RetM w f L1 R))
    (kk : ∀ v g L', Sub f g → R g L' v → RW .s P n B ops K l (up ρ d v) g L')
    (hrun : runP P ops l0 ρ0 = (⟨some d, .call ⟨.value g, args, at_⟩, ty, pos, af, gd⟩ :: l, ρ) := by rfl) (hg : wantedE ops ρ ⟨some d, .call ⟨.value g, args, at_⟩, ty, pos, af, gd⟩ = true := by rfl)
    (hf : ev ρ g = .func (.func k) ⟨fi⟩ ⟨ca⟩ := by rfl) (ha : args.toList.map (ev ρ) = vs := by rfl) (ht : fi ++ vs ++ ca = tot := by rfl) : RW .s P n B ops K l0 ρ0 f L1 := by
  have := callMF (B := B) (n := n) (K := K) L1 [] h (fun v g L' h1 h2 => by rw [List.append_nil]; exact kk v g L' h1 h2) hrun hg hf ha ht
  rwa [List.append_nil] at this
end
theorem lineT_len (k v : Str) : (lineT k v).length = k.length + v.length + 2 := by
  unfold lineT; simp; omega
theorem textClo {w : World} {f : View} {b : Nat} {p : Value} {A : Option Addr} {c : Nat} {s k v : Str} (hv : On f w) (hp : p = .pointer none ∨ p = ptrTo b) (hlim : s.length + (k.length + v.length + 2) ≤ 140737488355328) (hg : Given f (bldr b p A c s) w) :
    Con Try.prog 43 [str k, str v, ptrTo b] w (RetM w f (bldr b p A c s) (fun _ L' _ => ∃ A' c', L' = bldr b (ptrTo b) A' c' (s ++ lineT k v))) := by
  refine enterM hv hg Try.call43 Try.func43 ?_
  refine rg ?_
  refine cat (s := k) (u := [32]) (by show k.length + 1 ≤ _; omega) ?_
  refine cat (s := k ++ [32]) (u := v) (by rw [List.length_append]; show k.length + 1 + v.length ≤ _; omega) ?_
  refine cat (s := k ++ [32] ++ v) (u := [10]) (by rw [List.length_append, List.length_append]; show k.length + 1 + v.length + 1 ≤ _; omega) ?_
  have hl : (k ++ [32] ++ v ++ [10]).length = k.length + v.length + 2 := lineT_len k v
  refine callM0 (vs := [ptrTo b, str (k ++ [32] ++ v ++ [10])]) (bldr b p A c s) (fun w hon hgi => writeString hon hp (by rw [hl]; exact hlim) hgi) (fun v g L' hs hR => ?_)
  obtain ⟨A', c', rfl⟩ := hR
  refine runE ?_
  exact ret0M ⟨A', c', rfl⟩
theorem digit_at {p : Pack} (h : p.pol = 0 ∨ p.pol = 1) : ∃ j : Nat, p.pol = j ∧ j < 2 ∧ ([str [48], str [49]] : List Value)[0 + j * 1]? = some (str (digT p.pol)) := by
  rcases h with h | h
  · exact ⟨0, by rw [h]; rfl, by omega, by rw [h]; rfl⟩
  · exact ⟨1, by rw [h]; rfl, by omega, by rw [h]; rfl⟩
theorem regText {w : World} {f : View} (hv : On f w) {p : Pack} {A : Option Addr} {c : Nat} {A2 : Option Addr} {c2 : Nat} (hp : PackV f p A c A2 c2) (hpol : p.pol = 0 ∨ p.pol = 1) (hsz : (layT p).length ≤ 1000000) :
    Con Try.prog 23 [.agg ⟨packC p A c A2 c2⟩] w (RetM w f [] fun _ L' v => v = str (layT p) ∧ L' = []) := by
  refine enterM (L := []) hv (Given.nil _ _) Try.call23 Try.func23 ?_
  refine sg ?_
  refine box (vs := packC p A c A2 c2) fun b1 => ?_
  refine runE ?_
  refine efrz 0 fun g hs hq => ?_
  have hp1 := hp.mono hs
  have k0 : g.cell? ⟨b1, 0, none⟩ = some (str p.pre) := blk_seen hq
  have k1 : g.cell? ⟨b1, 1, none⟩ = some (.slice A p.items.length c) := blk_seen hq
  have k2 : g.cell? ⟨b1, 2, none⟩ = some (.slice A2 p.prof.length c2) := blk_seen hq
  have k3 : g.cell? ⟨b1, 3, none⟩ = some (i64 p.pol) := blk_seen hq
  have hlp : (layT p).length = (lineT kPre p.pre).length + (lineT kPol (digT p.pol)).length + (p.items.flatMap itemT).length + (p.prof.flatMap (lineT kProf)).length := by
    unfold layT; rw [List.length_append, List.length_append, List.length_append]
  have l1 := lineT_len kPre p.pre
  have l2 := lineT_len kPol (digT p.pol)
  refine efg [(1, .pointer (some ⟨b1, 0, none⟩))] [] fun ρ => ?_
  refine sg ?_
  refine alloc fun b3 => ?_
  refine runE ?_
  refine enilrow 5 1 ?_
  refine eperm (L' := bldr b3 (.pointer none) none 0 []) (.swap _ _ _) ?_
  refine sgE ?_
  refine efg [(4, .func (.func 43) ⟨[]⟩ ⟨[ptrTo b3]⟩), (3, ptrTo b3), (1, .pointer (some ⟨b1, 0, none⟩))] (bldr b3 (.pointer none) none 0 []) fun ρ => ?_
  refine sg ?_
  refine ldv k0 ?_
  refine callMF0 (vs := [str kPre, str p.pre]) (bldr b3 (.pointer none) none 0 []) (fun w hon hgi => textClo (s := []) (k := kPre) (v := p.pre) hon (.inl rfl) (by show 0 + _ ≤ _; omega) hgi) (fun v g1 L' hs1 hR => ?_)
  obtain ⟨A3, c3, rfl⟩ := hR
  refine runE ?_
  rw [List.nil_append]
  generalize ht1 : lineT kPre p.pre = T1 at hlp l1
  refine efg [(4, .func (.func 43) ⟨[]⟩ ⟨[ptrTo b3]⟩), (3, ptrTo b3), (1, .pointer (some ⟨b1, 0, none⟩))] (bldr b3 (ptrTo b3) A3 c3 T1) fun ρ => ?_
  obtain ⟨j, hj, hj2, hjc⟩ := digit_at hpol
  refine sg ?_
  refine bsl fun b17 => ?_
  refine ldv (hs1.cell k3) ?_
  refine ix j hj2 ?_ (hi := hj)
  refine ldr 0 hjc ?_
  refine dropH ?_
  refine callMF0 (vs := [str kPol, str (digT p.pol)]) (bldr b3 (ptrTo b3) A3 c3 T1) (fun w hon hgi => textClo (k := kPol) (v := (digT p.pol)) hon (.inr rfl) (by omega) hgi) (fun v g2 L' hs2 hR => ?_)
  obtain ⟨A4, c4, rfl⟩ := hR
  refine runE ?_
  generalize ht2 : lineT kPol (digT p.pol) = T2 at hlp l2
  have hsub := hs1.trans hs2
  have hp2 := hp1.mono hsub
  have hli := hp2.items.len_lt
  have hlpf := hp2.prof.len_lt
  replace k1 := hsub.cell k1
  replace k2 := hsub.cell k2
  have tot : (T1 ++ T2).length = T1.length + T2.length := List.length_append
  refine efg [(4, .func (.func 43) ⟨[]⟩ ⟨[ptrTo b3]⟩), (3, ptrTo b3), (1, .pointer (some ⟨b1, 0, none⟩))] (bldr b3 (ptrTo b3) A4 c4 (T1 ++ T2)) fun ρ => ?_
  refine sqJ (σ := Option Addr × Nat × View) (fun _ => [(4, .func (.func 43) ⟨[]⟩ ⟨[ptrTo b3]⟩), (3, ptrTo b3), (1, .pointer (some ⟨b1, 0, none⟩))]) (fun s => s.2.2) (fun s => bldr b3 (ptrTo b3) s.1 s.2.1 (T1 ++ T2 ++ p.items.flatMap itemT)) (fun s => Sub g2 s.2.2) ?_ ?_
  · refine sg ?_
    refine ldv k1 ?_
    refine runE ?_
    refine bk ?_
    refine lp (σ := Nat × Option Addr × Nat × View) (fun s => [(26, i64 s.1), (25, i64 (p.items.length : Nat)), (24, .slice A p.items.length c), (4, .func (.func 43) ⟨[]⟩ ⟨[ptrTo b3]⟩), (3, ptrTo b3), (1, .pointer (some ⟨b1, 0, none⟩))]) (fun s => s.2.2.2) (fun s => bldr b3 (ptrTo b3) s.2.1 s.2.2.1 (T1 ++ T2 ++ (p.items.take s.1).flatMap itemT)) (fun s => s.1 ≤ p.items.length ∧ Sub g2 s.2.2.2) (fun s => p.items.length - s.1) (0, A4, c4, g2) ⟨Nat.zero_le _, Sub.refl _⟩ ?_ (hh := by show bldr b3 (ptrTo b3) A4 c4 (T1 ++ T2 ++ []) = _; rw [List.append_nil])
    rintro ⟨k, A5, c5, g3⟩ ρ ⟨hk, hs3⟩
    replace hk : k ≤ p.items.length := hk
    replace hs3 : Sub g2 g3 := hs3
    show EW _ _ _ _ _ (ups ρ [(26, i64 k), (25, i64 (p.items.length : Nat)), (24, .slice A p.items.length c), (4, .func (.func 43) ⟨[]⟩ ⟨[ptrTo b3]⟩), (3, ptrTo b3), (1, .pointer (some ⟨b1, 0, none⟩))]) g3 (bldr b3 (ptrTo b3) A5 c5 (T1 ++ T2 ++ (p.items.take k).flatMap itemT))
    refine sg ?_
    refine ltE (fun h => ?_) (fun h => ?_)
    case refine_2 =>
      refine sq (cFx ?_)
      have e : k = p.items.length := by omega
      subst e
      rw [List.take_length]
      exact jn (A5, c5, g3) hs3
    have h1 : k < p.items.length := by omega
    have hit := (hp2.items.mono hs3).item h1
    obtain ⟨b2, o2, A6, c6, A7, c7, rfl, hc, hn, hr, ht⟩ := hit
    have htk : (p.items.take (k + 1)).flatMap itemT = (p.items.take k).flatMap itemT ++ itemT p.items[k] := by
      rw [(List.take_append_getElem h1).symm, List.flatMap_append]; simp
    have hle : ((p.items.take (k + 1)).flatMap itemT).length ≤ (p.items.flatMap itemT).length := by
      conv => rhs; rw [← List.take_append_drop (k + 1) p.items]
      rw [List.flatMap_append, List.length_append]; omega
    have hil : (itemT p.items[k]).length = (lineT kItem p.items[k].name).length + (p.items[k].refs.flatMap (lineT kRef)).length := by unfold itemT; rw [List.length_append]
    have l3 := lineT_len kItem p.items[k].name
    generalize hx : p.items[k] = x at hc hn hr ht htk hil l3
    generalize hS : (p.items.take k).flatMap itemT = S at htk
    have hSl : ((p.items.take (k + 1)).flatMap itemT).length = S.length + (itemT x).length := by rw [htk, List.length_append]
    refine sq (cTs (sq (bk (sg ?_))))
    refine ix k h1 ?_
    refine ldvA hc ?_
    refine alloc fun b6 => ?_
    refine stE 0 ?_
    refine efrz 0 fun g4 hs4 hq6 => ?_
    have m0 : g4.cell? ⟨b6, 0, none⟩ = some (str x.name) := blk_seen hq6
    have m1 : g4.cell? ⟨b6, 1, none⟩ = some (.slice A6 x.refs.length c6) := blk_seen hq6
    have hr4 := hr.mono hs4
    have hrl := hr4.len_lt
    refine efg [(6, .pointer (some ⟨b6, 0, none⟩)), (26, i64 k), (25, i64 (p.items.length : Nat)), (24, .slice (some ⟨b2, o2, none⟩) p.items.length c), (4, .func (.func 43) ⟨[]⟩ ⟨[ptrTo b3]⟩), (3, ptrTo b3), (1, .pointer (some ⟨b1, 0, none⟩))] (bldr b3 (ptrTo b3) A5 c5 (T1 ++ T2 ++ S)) fun ρ => ?_
    refine sg ?_
    refine ldv m0 ?_
    refine callMF0 (vs := [str kItem, str x.name]) (bldr b3 (ptrTo b3) A5 c5 (T1 ++ T2 ++ S)) (fun w hon hgi => textClo (k := kItem) (v := x.name) hon (.inr rfl) (by rw [List.length_append, tot]; omega) hgi) (fun v g5 L' hs5 hR => ?_)
    obtain ⟨A8, c8, rfl⟩ := hR
    refine runE ?_
    refine sg ?_
    refine ldv (hs5.cell m1) ?_
    refine runE ?_
    have hr5 := hr4.mono hs5
    generalize hT3 : lineT kItem x.name = T3 at hil l3
    have hi0 : itemT x = T3 ++ x.refs.flatMap (lineT kRef) := by rw [← hT3]; rfl
    have tot3 : (T1 ++ T2 ++ S ++ T3).length = T1.length + T2.length + S.length + T3.length := by rw [List.length_append, List.length_append, tot]
    refine efg [(37, i64 (0 : Nat)), (36, i64 (x.refs.length : Nat)), (35, .slice A6 x.refs.length c6), (26, i64 k), (25, i64 (p.items.length : Nat)), (24, .slice (some ⟨b2, o2, none⟩) p.items.length c), (4, .func (.func 43) ⟨[]⟩ ⟨[ptrTo b3]⟩), (3, ptrTo b3), (1, .pointer (some ⟨b1, 0, none⟩))] (bldr b3 (ptrTo b3) A8 c8 (T1 ++ T2 ++ S ++ T3)) fun ρ => ?_
    refine bk ?_
    refine lp (σ := Nat × Option Addr × Nat × View) (fun s => [(37, i64 s.1), (36, i64 (x.refs.length : Nat)), (35, .slice A6 x.refs.length c6), (26, i64 k), (25, i64 (p.items.length : Nat)), (24, .slice (some ⟨b2, o2, none⟩) p.items.length c), (4, .func (.func 43) ⟨[]⟩ ⟨[ptrTo b3]⟩), (3, ptrTo b3), (1, .pointer (some ⟨b1, 0, none⟩))]) (fun s => s.2.2.2) (fun s => bldr b3 (ptrTo b3) s.2.1 s.2.2.1 (T1 ++ T2 ++ S ++ T3 ++ (x.refs.take s.1).flatMap (lineT kRef))) (fun s => s.1 ≤ x.refs.length ∧ Sub g5 s.2.2.2) (fun s => x.refs.length - s.1) (0, A8, c8, g5) ⟨Nat.zero_le _, Sub.refl _⟩ ?_ (hh := by show bldr b3 (ptrTo b3) A8 c8 (T1 ++ T2 ++ S ++ T3 ++ []) = _; rw [List.append_nil]) (ha := ⟨rfl, rfl, rfl, rfl, rfl, rfl, rfl, rfl, rfl, trivial⟩)
    rintro ⟨m, A9, c9, g6⟩ ρ ⟨hm, hs6⟩
    replace hm : m ≤ x.refs.length := hm
    replace hs6 : Sub g5 g6 := hs6
    show EW _ _ _ _ _ (ups ρ [(37, i64 m), (36, i64 (x.refs.length : Nat)), (35, .slice A6 x.refs.length c6), (26, i64 k), (25, i64 (p.items.length : Nat)), (24, .slice (some ⟨b2, o2, none⟩) p.items.length c), (4, .func (.func 43) ⟨[]⟩ ⟨[ptrTo b3]⟩), (3, ptrTo b3), (1, .pointer (some ⟨b1, 0, none⟩))]) g6 (bldr b3 (ptrTo b3) A9 c9 (T1 ++ T2 ++ S ++ T3 ++ (x.refs.take m).flatMap (lineT kRef)))
    refine sg ?_
    refine ltE (fun h => ?_) (fun h => ?_)
    case refine_2 =>
      refine sq (cFx ?_)
      have e : m = x.refs.length := by omega
      subst e
      rw [List.take_length]
      refine rg ?_
      refine addE ((k + 1 : Nat) : Int) ?_
      refine nxs (k + 1, A9, c9, g6) ⟨h1, ((hs3.trans hs4).trans hs5).trans hs6⟩ (by show p.items.length - (k + 1) < p.items.length - k; omega) (hh := ?_)
      show bldr b3 (ptrTo b3) A9 c9 (T1 ++ T2 ++ (p.items.take (k + 1)).flatMap itemT) = _
      rw [htk, hi0]
      simp only [List.append_assoc]
    have h2 : m < x.refs.length := by omega
    obtain ⟨b7, o7, rfl, hcr, hrn⟩ := (hr5.mono hs6).text h2
    have htm : (x.refs.take (m + 1)).flatMap (lineT kRef) = (x.refs.take m).flatMap (lineT kRef) ++ lineT kRef x.refs[m] := by
      rw [(List.take_append_getElem h2).symm, List.flatMap_append]; simp
    have hle2 : ((x.refs.take (m + 1)).flatMap (lineT kRef)).length ≤ (x.refs.flatMap (lineT kRef)).length := by
      conv => rhs; rw [← List.take_append_drop (m + 1) x.refs]
      rw [List.flatMap_append, List.length_append]; omega
    generalize hnm : x.refs[m] = nm at hcr hrn htm
    have l4 := lineT_len kRef nm
    generalize hU : (x.refs.take m).flatMap (lineT kRef) = U at htm
    have hUl : ((x.refs.take (m + 1)).flatMap (lineT kRef)).length = U.length + (lineT kRef nm).length := by rw [htm, List.length_append]
    refine sq (cTs (sq (bk (sg ?_))))
    refine ix m h2 ?_
    refine ldv hcr ?_
    refine runE ?_
    refine rg ?_
    refine callMF0 (vs := [str kRef, str nm]) (bldr b3 (ptrTo b3) A9 c9 (T1 ++ T2 ++ S ++ T3 ++ U)) (fun w hon hgi => textClo (k := kRef) (v := nm) hon (.inr rfl) (by rw [List.length_append, tot3]; omega) hgi) (fun v g7 L' hs7 hR => ?_)
    obtain ⟨A10, c10, rfl⟩ := hR
    refine runE ?_
    refine rg ?_
    refine addE ((m + 1 : Nat) : Int) ?_
    refine nxs (m + 1, A10, c10, g7) ⟨h2, hs6.trans hs7⟩ (by show x.refs.length - (m + 1) < x.refs.length - m; omega) (hh := ?_) (ha := ⟨rfl, rfl, rfl, rfl, rfl, rfl, rfl, rfl, rfl, trivial⟩)
    show bldr b3 (ptrTo b3) A10 c10 (T1 ++ T2 ++ S ++ T3 ++ (x.refs.take (m + 1)).flatMap (lineT kRef)) = _
    rw [htm]
    simp only [List.append_assoc]
  rintro ⟨A5, c5, g3⟩ ρ hs3
  replace hs3 : Sub g2 g3 := hs3
  generalize ht3 : p.items.flatMap itemT = T3 at hlp
  have tot3 : (T1 ++ T2 ++ T3).length = T1.length + T2.length + T3.length := by rw [List.length_append, tot]
  show EW _ _ _ _ _ (ups ρ [(4, .func (.func 43) ⟨[]⟩ ⟨[ptrTo b3]⟩), (3, ptrTo b3), (1, .pointer (some ⟨b1, 0, none⟩))]) g3 (bldr b3 (ptrTo b3) A5 c5 (T1 ++ T2 ++ T3))
  have hlay : layT p = T1 ++ T2 ++ T3 ++ p.prof.flatMap (lineT kProf) := by
    unfold layT; rw [ht1, ht2, ht3]
  refine sqJ (σ := Option Addr × Nat × View) (fun _ => [(3, ptrTo b3)]) (fun s => s.2.2) (fun s => bldr b3 (ptrTo b3) s.1 s.2.1 (layT p)) (fun s => Sub g2 s.2.2) ?_ ?_
  · refine sg ?_
    refine ldv (hs3.cell k2) ?_
    refine runE ?_
    refine bk ?_
    refine lp (σ := Nat × Option Addr × Nat × View) (fun s => [(49, i64 s.1), (48, i64 (p.prof.length : Nat)), (47, .slice A2 p.prof.length c2), (4, .func (.func 43) ⟨[]⟩ ⟨[ptrTo b3]⟩), (3, ptrTo b3)]) (fun s => s.2.2.2) (fun s => bldr b3 (ptrTo b3) s.2.1 s.2.2.1 (T1 ++ T2 ++ T3 ++ (p.prof.take s.1).flatMap (lineT kProf))) (fun s => s.1 ≤ p.prof.length ∧ Sub g2 s.2.2.2) (fun s => p.prof.length - s.1) (0, A5, c5, g3) ⟨Nat.zero_le _, hs3⟩ ?_ (hh := by show bldr b3 (ptrTo b3) A5 c5 (T1 ++ T2 ++ T3 ++ []) = _; rw [List.append_nil])
    rintro ⟨k, A6, c6, g4⟩ ρ ⟨hk, hs4⟩
    replace hk : k ≤ p.prof.length := hk
    replace hs4 : Sub g2 g4 := hs4
    show EW _ _ _ _ _ (ups ρ [(49, i64 k), (48, i64 (p.prof.length : Nat)), (47, .slice A2 p.prof.length c2), (4, .func (.func 43) ⟨[]⟩ ⟨[ptrTo b3]⟩), (3, ptrTo b3)]) g4 (bldr b3 (ptrTo b3) A6 c6 (T1 ++ T2 ++ T3 ++ (p.prof.take k).flatMap (lineT kProf)))
    refine sg ?_
    refine ltE (fun h => ?_) (fun h => ?_)
    case refine_2 =>
      refine sq (cFx ?_)
      have e : k = p.prof.length := by omega
      subst e
      rw [List.take_length]
      exact jn (A6, c6, g4) hs4 (hh := by rw [hlay])
    have h1 : k < p.prof.length := by omega
    obtain ⟨b2, o2, rfl, hc, hl⟩ := (hp2.prof.mono hs4).text h1
    have htk : (p.prof.take (k + 1)).flatMap (lineT kProf) = (p.prof.take k).flatMap (lineT kProf) ++ lineT kProf p.prof[k] := by
      rw [(List.take_append_getElem h1).symm, List.flatMap_append]; simp
    have hle : ((p.prof.take (k + 1)).flatMap (lineT kProf)).length ≤ (p.prof.flatMap (lineT kProf)).length := by
      conv => rhs; rw [← List.take_append_drop (k + 1) p.prof]
      rw [List.flatMap_append, List.length_append]; omega
    have l3 := lineT_len kProf p.prof[k]
    generalize hS : (p.prof.take k).flatMap (lineT kProf) = S at htk
    have hSl : ((p.prof.take (k + 1)).flatMap (lineT kProf)).length = S.length + (lineT kProf p.prof[k]).length := by rw [htk, List.length_append]
    refine sq (cTs (sq (bk (sg ?_))))
    refine ix k h1 ?_
    refine ldv hc ?_
    refine runE ?_
    refine rg ?_
    refine callMF0 (vs := [str kProf, str p.prof[k]]) (bldr b3 (ptrTo b3) A6 c6 (T1 ++ T2 ++ T3 ++ S)) (fun w hon hgi => textClo (k := kProf) (v := p.prof[k]) hon (.inr rfl) (by rw [List.length_append, tot3]; omega) hgi) (fun v g5 L' hs5 hR => ?_)
    obtain ⟨A7, c7, rfl⟩ := hR
    refine runE ?_
    refine rg ?_
    refine addE ((k + 1 : Nat) : Int) ?_
    refine nxs (k + 1, A7, c7, g5) ⟨h1, hs4.trans hs5⟩ (by show p.prof.length - (k + 1) < p.prof.length - k; omega) (hh := ?_)
    show bldr b3 (ptrTo b3) A7 c7 (T1 ++ T2 ++ T3 ++ (p.prof.take (k + 1)).flatMap (lineT kProf)) = _
    rw [htk]
    simp only [List.append_assoc]
  rintro ⟨A6, c6, g4⟩ ρ hs4
  show EW _ _ _ _ _ (ups ρ [(3, ptrTo b3)]) g4 (bldr b3 (ptrTo b3) A6 c6 (layT p))
  have hne : layT p ≠ [] := fun e => by
    have := congrArg List.length e
    rw [hlp] at this
    simp only [List.length_nil] at this
    omega
  refine sg ?_
  refine callM0 (vs := [ptrTo b3]) (bldr b3 (ptrTo b3) A6 c6 (layT p)) (fun w hon hgi => bString hon hne hgi) (fun v g5 L' hs5 hR => ?_)
  obtain ⟨rfl, rfl⟩ := hR
  refine runE ?_
  refine ew_ret ?_
  exact ret1M ⟨rfl, rfl⟩
end Go.Hog

set_option linter.unusedVariables false
set_option linter.unusedSimpArgs false
set_option maxRecDepth 100000
set_option maxHeartbeats 1000000
namespace Go.Hog
open Go.RowKit Rp Go.Proofs
def layS (p : Pack) : Str := if mayP p then layT p else []
def layE (p : Pack) : Int := if mayP p then 0 else 2
theorem flat_le {α : Type} {q : α → Str} {m : Nat} : ∀ {l : List α}, (∀ x ∈ l, (q x).length ≤ m) → (l.flatMap q).length ≤ l.length * m
  | [], _ => by simp
  | x :: l, h => by
    have h1 := h x (List.mem_cons_self ..)
    have h2 := flat_le (q := q) (m := m) (l := l) fun y hy => h y (List.mem_cons_of_mem _ hy)
    rw [List.flatMap_cons, List.length_append, List.length_cons, Nat.add_mul]; omega
theorem lay_len {p : Pack} (h : mayP p) : (layT p).length ≤ 10000 := by
  obtain ⟨⟨h1, h2, h3, h4⟩, h5, h6⟩ := h
  have n1 : (names p.items).length = p.items.length := List.length_map _
  have h31 := h3.1
  have i1 : ∀ x ∈ p.items, (itemT x).length ≤ 500 := fun x hx => by
    have n2 : nameOk x.name := h3.2.1 _ (List.mem_map.2 ⟨x, hx, rfl⟩)
    have n3 := h5 x hx
    have r1 : ∀ s ∈ x.refs, (lineT kRef s).length ≤ 40 := fun s hs => by
      have := (n3.2.1 s hs).2.1
      rw [lineT_len]; show 3 + s.length + 2 ≤ 40; omega
    have r2 := flat_le r1
    have r3 : x.refs.length * 40 ≤ 8 * 40 := Nat.mul_le_mul_right _ n3.1
    have r4 := lineT_len kItem x.name
    have r5 : kItem.length = 4 := rfl
    have := n2.2.1
    unfold itemT
    rw [List.length_append]; omega
  have i2 := flat_le i1
  have i3 : p.items.length * 500 ≤ 8 * 500 := Nat.mul_le_mul_right _ (by omega)
  have q1 : ∀ s ∈ p.prof, (lineT kProf s).length ≤ 40 := fun s hs => by
    have := (h6 s hs).2.1
    rw [lineT_len]; show 7 + s.length + 2 ≤ 40; omega
  have q2 := flat_le q1
  have q3 : p.prof.length * 40 ≤ 8 * 40 := Nat.mul_le_mul_right _ h4
  have q4 := lineT_len kPre p.pre
  have q5 := lineT_len kPol (digT p.pol)
  have q6 : (digT p.pol).length = 1 := by unfold digT; split <;> rfl
  have q7 := h1.2.1
  have q8 : kPre.length = 6 := rfl
  have q9 : kPol.length = 6 := rfl
  unfold layT
  rw [List.length_append, List.length_append, List.length_append]; omega
theorem regLay {w : World} {f : View} (hv : On f w) (hm : ML f) {p : Pack} {A : Option Addr} {c : Nat} {A2 : Option Addr} {c2 : Nat} (hp : PackV f p A c A2 c2) (hsm : p.items.length ≤ 1000000) :
    Con Try.prog 9 [.agg ⟨packC p A c A2 c2⟩] w (RetM w f [] fun _ L' v => v = .tuple #[str (layS p), i64 (layE p)] ∧ L' = []) := by
  refine enterM (L := []) hv (Given.nil _ _) Try.call9 Try.func9 ?_
  refine sg ?_
  refine box (vs := packC p A c A2 c2) fun b1 => ?_
  refine runE ?_
  refine efrz 0 fun g hs hq => ?_
  have hm1 := hm.mono hs
  have hp1 := hp.mono hs
  have hc : Cells g b1 0 (packC p A c A2 c2) := ⟨blk_seen hq, blk_seen hq, blk_seen hq, blk_seen hq, trivial⟩
  refine efg [(1, .pointer (some ⟨b1, 0, none⟩))] [] fun ρ => ?_
  refine sq (sg ?_)
  refine ldvA hc ?_
  refine callB (p := mayP p) (vs := [.agg ⟨packC p A c A2 c2⟩]) (fun w g hs _ hon => regMay hon (hm1.mono hs) (hp1.mono hs) hsm) (fun h => ?_) (fun h => ?_)
  · refine runE ?_
    refine cFs ?_
    have hl := lay_len h
    refine sg ?_
    refine ldvA hc ?_
    refine callM0 (vs := [.agg ⟨packC p A c A2 c2⟩]) [] (fun w hon hgi => regText hon hp1 h.1.2.1 (by omega)) (fun v g2 L' hs2 hR => ?_)
    obtain ⟨rfl, rfl⟩ := hR
    refine runE ?_
    refine ew_ret ?_
    refine ret2M (show Value.tuple #[str (layT p), i64 0] = .tuple #[str (layS p), i64 (layE p)] ∧ _ from ⟨?_, rfl⟩)
    unfold layS layE
    rw [if_pos h, if_pos h]
  · refine runE ?_
    refine cT (sgE ?_)
    refine ew_ret ?_
    refine ret2M (show Value.tuple #[str [], i64 2] = .tuple #[str (layS p), i64 (layE p)] ∧ _ from ⟨?_, rfl⟩)
    unfold layS layE
    rw [if_neg h, if_neg h]
theorem dig_at {p : Pack} (h : p.pol = 0 ∨ p.pol = 1) : ∃ j : Nat, p.pol = j ∧ j < 2 ∧ ((([48, 49] : Str).take (j + 1)).drop j) = digT p.pol := by
  rcases h with h | h
  · exact ⟨0, by rw [h]; rfl, by omega, by rw [h]; rfl⟩
  · exact ⟨1, by rw [h]; rfl, by omega, by rw [h]; rfl⟩
theorem ref11Lay {w : World} {f : View} (hv : On f w) {p : Pack} {A : Option Addr} {c : Nat} {A2 : Option Addr} {c2 : Nat} (hp : PackV f p A c A2 c2) (hsm : p.items.length ≤ 1000000) :
    Con Try.prog 10 [.agg ⟨packC p A c A2 c2⟩] w (Ret w f fun _ v => v = .tuple #[str (layS p), i64 (layE p)]) := by
  refine enterC hv Try.call10 Try.func10 ?_
  refine sg ?_
  refine box (vs := packC p A c A2 c2) fun b1 => ?_
  refine runE ?_
  refine efrz 0 fun g hs hq => ?_
  have hp1 := hp.mono hs
  have hc : Cells g b1 0 (packC p A c A2 c2) := ⟨blk_seen hq, blk_seen hq, blk_seen hq, blk_seen hq, trivial⟩
  have k0 : g.cell? ⟨b1, 0, none⟩ = some (str p.pre) := blk_seen hq
  have k1 : g.cell? ⟨b1, 1, none⟩ = some (.slice A p.items.length c) := blk_seen hq
  have k2 : g.cell? ⟨b1, 2, none⟩ = some (.slice A2 p.prof.length c2) := blk_seen hq
  have k3 : g.cell? ⟨b1, 3, none⟩ = some (i64 p.pol) := blk_seen hq
  refine efg [(1, .pointer (some ⟨b1, 0, none⟩))] [] fun ρ => ?_
  refine sq (sg ?_)
  refine ldvA hc ?_
  refine callB (p := mayP p) (vs := [.agg ⟨packC p A c A2 c2⟩]) (fun w g hs _ hon => ref11May hon (hp1.mono hs) hsm) (fun h => ?_) (fun h => ?_)
  case refine_2 =>
    refine runE ?_
    refine cT (sgE ?_)
    refine ew_ret ?_
    refine ret2 (show Value.tuple #[str [], i64 2] = .tuple #[str (layS p), i64 (layE p)] from ?_)
    unfold layS layE
    rw [if_neg h, if_neg h]
  refine runE ?_
  refine cFs ?_
  have hll := lay_len h
  have hlS : layS p = layT p := if_pos h
  have hlE : layE p = 0 := if_pos h
  rw [hlS, hlE]
  have hlp : (layT p).length = (lineT kPre p.pre).length + (lineT kPol (digT p.pol)).length + (p.items.flatMap itemT).length + (p.prof.flatMap (lineT kProf)).length := by
    unfold layT; rw [List.length_append, List.length_append, List.length_append]
  have l1 := lineT_len kPre p.pre
  have l2 := lineT_len kPol (digT p.pol)
  have hli := hp1.items.len_lt
  have hlpf := hp1.prof.len_lt
  obtain ⟨j, hj, hj2, hjc⟩ := dig_at h.1.2.1
  have q8 : kPre.length = 6 := rfl
  have q9 : kPol.length = 6 := rfl
  refine efg [(1, .pointer (some ⟨b1, 0, none⟩))] [] fun ρ => ?_
  refine sQ ?_
  refine ldv k0 ?_
  refine cat (s := kPre ++ [32]) (u := p.pre) (by rw [List.length_append]; show 6 + 1 + _ ≤ _; omega) ?_
  refine cat (s := kPre ++ [32] ++ p.pre) (u := [10] ++ kPol ++ [32]) (by rw [List.length_append, List.length_append]; show 6 + 1 + _ + 8 ≤ _; omega) ?_
  refine ldv k3 ?_
  refine ldv k3 ?_
  refine add (p.pol + 1) ?_ (hr := ⟨rfl, by omega, by omega⟩)
  refine slSB (s := [48, 49]) j (j + 1) (by omega) (by show j + 1 ≤ 2; omega) ?_ (hl := hj) (hh := by rw [hj]; rfl)
  rw [hjc]
  have q6 : (digT p.pol).length = 1 := by unfold digT; split <;> rfl
  refine cat (s := kPre ++ [32] ++ p.pre ++ ([10] ++ kPol ++ [32])) (u := digT p.pol) (by rw [List.length_append, List.length_append, List.length_append, q6]; show 6 + 1 + _ + 8 + 1 ≤ _; omega) ?_
  refine cat (s := kPre ++ [32] ++ p.pre ++ ([10] ++ kPol ++ [32]) ++ digT p.pol) (u := [10]) (by rw [List.length_append, List.length_append, List.length_append, List.length_append, q6]; show 6 + 1 + _ + 8 + 1 + 1 ≤ _; omega) ?_
  refine runE ?_
  have hT : kPre ++ [32] ++ p.pre ++ ([10] ++ kPol ++ [32]) ++ digT p.pol ++ [10] = lineT kPre p.pre ++ lineT kPol (digT p.pol) := by
    unfold lineT; simp only [List.append_assoc]
  rw [hT]
  have hlay : layT p = lineT kPre p.pre ++ lineT kPol (digT p.pol) ++ p.items.flatMap itemT ++ p.prof.flatMap (lineT kProf) := rfl
  generalize ht1 : lineT kPre p.pre ++ lineT kPol (digT p.pol) = T at hlay
  have hTl : T.length = (lineT kPre p.pre).length + (lineT kPol (digT p.pol)).length := by rw [← ht1, List.length_append]
  refine efg [(4, str T), (1, .pointer (some ⟨b1, 0, none⟩))] [] fun ρ => ?_
  refine sqJ (σ := Unit) (fun _ => [(4, str (T ++ p.items.flatMap itemT)), (1, .pointer (some ⟨b1, 0, none⟩))]) (fun _ => g) (fun _ => []) (fun _ => True) ?_ ?_
  · refine sgE (bk ?_)
    refine lpn p.items.length (fun k => [(5, i64 k), (4, str (T ++ (p.items.take k).flatMap itemT)), (1, .pointer (some ⟨b1, 0, none⟩))]) (fun _ => True) trivial ?_ (ha := ⟨rfl, by show str T = str (T ++ []); rw [List.append_nil], rfl, trivial⟩)
    intro k ρ hk _
    refine sq (sg ?_)
    refine ldv k1 ?_
    refine ltE (fun h => ?_) (fun h => ?_)
    case refine_2 =>
      refine cFx ?_
      have e : k = p.items.length := by omega
      subst e
      rw [List.take_length]
      exact jn () trivial
    have h1 : k < p.items.length := by omega
    obtain ⟨b2, o2, A6, c6, A7, c7, rfl, hc2, hn, hr, ht⟩ := hp1.items.item h1
    have htk : (p.items.take (k + 1)).flatMap itemT = (p.items.take k).flatMap itemT ++ itemT p.items[k] := by
      rw [(List.take_append_getElem h1).symm, List.flatMap_append]; simp
    have hle : ((p.items.take (k + 1)).flatMap itemT).length ≤ (p.items.flatMap itemT).length := by
      conv => rhs; rw [← List.take_append_drop (k + 1) p.items]
      rw [List.flatMap_append, List.length_append]; omega
    have hil : (itemT p.items[k]).length = (lineT kItem p.items[k].name).length + (p.items[k].refs.flatMap (lineT kRef)).length := by unfold itemT; rw [List.length_append]
    have l3 := lineT_len kItem p.items[k].name
    generalize hx : p.items[k] = x at hc2 hn hr ht htk hil l3
    generalize hS : (p.items.take k).flatMap itemT = S at htk
    have hSl : ((p.items.take (k + 1)).flatMap itemT).length = S.length + (itemT x).length := by rw [htk, List.length_append]
    have hrl := hr.len_lt
    have hi0 : itemT x = lineT kItem x.name ++ x.refs.flatMap (lineT kRef) := rfl
    have q4 : kItem.length = 4 := rfl
    refine cTs (sq (bk ?_))
    refine sg ?_
    refine cat (s := T ++ S) (u := kItem ++ [32]) (by rw [List.length_append]; show T.length + S.length + 5 ≤ _; omega) ?_
    refine ldv k1 ?_
    refine ix k h1 ?_
    refine ldv hc2.1 ?_
    refine cat (s := T ++ S ++ (kItem ++ [32])) (u := x.name) (by rw [List.length_append, List.length_append]; show T.length + S.length + 5 + _ ≤ _; omega) ?_
    refine cat (s := T ++ S ++ (kItem ++ [32]) ++ x.name) (u := [10]) (by rw [List.length_append, List.length_append, List.length_append]; show T.length + S.length + 5 + x.name.length + 1 ≤ _; omega) ?_
    refine runE ?_
    have hT3 : T ++ S ++ (kItem ++ [32]) ++ x.name ++ [10] = T ++ S ++ lineT kItem x.name := by unfold lineT; simp only [List.append_assoc]
    rw [hT3]
    generalize lineT kItem x.name = T3 at hil l3 hi0
    have tot3 : (T ++ S ++ T3).length = T.length + S.length + T3.length := by rw [List.length_append, List.length_append]
    refine sgE (bk ?_)
    refine lpn x.refs.length (fun m => [(6, i64 m), (5, i64 k), (4, str (T ++ S ++ T3 ++ (x.refs.take m).flatMap (lineT kRef))), (1, .pointer (some ⟨b1, 0, none⟩))]) (fun _ => True) trivial ?_ (ha := ⟨rfl, rfl, by show str (T ++ S ++ T3) = str (T ++ S ++ T3 ++ []); rw [List.append_nil], rfl, trivial⟩)
    intro m ρ hm2 _
    refine sq (sg ?_)
    refine ldv k1 ?_
    refine ix k h1 ?_
    refine ldv hc2.2.1 ?_
    refine ltE (fun h => ?_) (fun h => ?_)
    case refine_2 =>
      refine cFx ?_
      have e : m = x.refs.length := by omega
      subst e
      rw [List.take_length]
      refine rg ?_
      refine addE ((k + 1 : Nat) : Int) ?_
      refine nx trivial (ha := ⟨rfl, ?_, rfl, trivial⟩)
      show str (T ++ S ++ T3 ++ x.refs.flatMap (lineT kRef)) = str (T ++ (p.items.take (k + 1)).flatMap itemT)
      rw [htk, hi0]; simp only [List.append_assoc]
    have h2 : m < x.refs.length := by omega
    obtain ⟨b7, o7, rfl, hcr, hrn⟩ := hr.text h2
    have htm : (x.refs.take (m + 1)).flatMap (lineT kRef) = (x.refs.take m).flatMap (lineT kRef) ++ lineT kRef x.refs[m] := by
      rw [(List.take_append_getElem h2).symm, List.flatMap_append]; simp
    have hle2 : ((x.refs.take (m + 1)).flatMap (lineT kRef)).length ≤ (x.refs.flatMap (lineT kRef)).length := by
      conv => rhs; rw [← List.take_append_drop (m + 1) x.refs]
      rw [List.flatMap_append, List.length_append]; omega
    generalize hnm : x.refs[m] = nm at hcr hrn htm
    have l4 := lineT_len kRef nm
    generalize hU : (x.refs.take m).flatMap (lineT kRef) = U at htm
    have hUl : ((x.refs.take (m + 1)).flatMap (lineT kRef)).length = U.length + (lineT kRef nm).length := by rw [htm, List.length_append]
    have q5 : kRef.length = 3 := rfl
    have totU : (T ++ S ++ T3 ++ U).length = T.length + S.length + T3.length + U.length := by rw [List.length_append, tot3]
    refine cTs (sq (bk (rg ?_)))
    refine cat (s := T ++ S ++ T3 ++ U) (u := kRef ++ [32]) (by rw [totU]; show _ + 4 ≤ _; omega) ?_
    refine ldv k1 ?_
    refine ix k h1 ?_
    refine ldv hc2.2.1 ?_
    refine ix m h2 ?_
    refine ldv hcr ?_
    refine cat (s := T ++ S ++ T3 ++ U ++ (kRef ++ [32])) (u := nm) (by rw [List.length_append, totU]; show _ + 4 + _ ≤ _; omega) ?_
    refine cat (s := T ++ S ++ T3 ++ U ++ (kRef ++ [32]) ++ nm) (u := [10]) (by rw [List.length_append, List.length_append, totU]; show _ + 4 + nm.length + 1 ≤ _; omega) ?_
    refine runE ?_
    refine rg ?_
    refine addE ((m + 1 : Nat) : Int) ?_
    refine nx trivial (ha := ⟨rfl, rfl, ?_, rfl, trivial⟩)
    show str (T ++ S ++ T3 ++ U ++ (kRef ++ [32]) ++ nm ++ [10]) = str (T ++ S ++ T3 ++ (x.refs.take (m + 1)).flatMap (lineT kRef))
    rw [htm]; unfold lineT; simp only [List.append_assoc]
  rintro ⟨⟩ ρ _
  generalize ht3 : p.items.flatMap itemT = T3 at hlp hlay
  have tot3 : (T ++ T3).length = T.length + T3.length := by rw [List.length_append]
  refine sqJ (σ := Unit) (fun _ => [(4, str (layT p))]) (fun _ => g) (fun _ => []) (fun _ => True) ?_ ?_
  case refine_2 =>
    rintro ⟨⟩ ρ _
    refine sgE ?_
    refine ew_ret ?_
    exact ret2 rfl
  refine sgE (bk ?_)
  refine lpn p.prof.length (fun k => [(7, i64 k), (4, str (T ++ T3 ++ (p.prof.take k).flatMap (lineT kProf))), (1, .pointer (some ⟨b1, 0, none⟩))]) (fun _ => True) trivial ?_ (ha := ⟨rfl, by show str (T ++ T3) = str (T ++ T3 ++ []); rw [List.append_nil], rfl, trivial⟩)
  intro k ρ hk _
  refine sq (sg ?_)
  refine ldv k2 ?_
  refine ltE (fun h => ?_) (fun h => ?_)
  case refine_2 =>
    refine cFx ?_
    have e : k = p.prof.length := by omega
    subst e
    rw [List.take_length]
    exact jn () trivial (ha := ⟨by rw [hlay]; rfl, trivial⟩)
  have h1 : k < p.prof.length := by omega
  obtain ⟨b2, o2, rfl, hcp, hl⟩ := hp1.prof.text h1
  have htk : (p.prof.take (k + 1)).flatMap (lineT kProf) = (p.prof.take k).flatMap (lineT kProf) ++ lineT kProf p.prof[k] := by
    rw [(List.take_append_getElem h1).symm, List.flatMap_append]; simp
  have hle : ((p.prof.take (k + 1)).flatMap (lineT kProf)).length ≤ (p.prof.flatMap (lineT kProf)).length := by
    conv => rhs; rw [← List.take_append_drop (k + 1) p.prof]
    rw [List.flatMap_append, List.length_append]; omega
  generalize hnm : p.prof[k] = nm at hcp hl htk
  have l3 := lineT_len kProf nm
  generalize hS : (p.prof.take k).flatMap (lineT kProf) = S at htk
  have hSl : ((p.prof.take (k + 1)).flatMap (lineT kProf)).length = S.length + (lineT kProf nm).length := by rw [htk, List.length_append]
  have q5 : kProf.length = 7 := rfl
  have totU : (T ++ T3 ++ S).length = T.length + T3.length + S.length := by rw [List.length_append, tot3]
  refine cTs (sq (bk (rg ?_)))
  refine cat (s := T ++ T3 ++ S) (u := kProf ++ [32]) (by rw [totU]; show _ + 8 ≤ _; omega) ?_
  refine ldv k2 ?_
  refine ix k h1 ?_
  refine ldv hcp ?_
  refine cat (s := T ++ T3 ++ S ++ (kProf ++ [32])) (u := nm) (by rw [List.length_append, totU]; show _ + 8 + _ ≤ _; omega) ?_
  refine cat (s := T ++ T3 ++ S ++ (kProf ++ [32]) ++ nm) (u := [10]) (by rw [List.length_append, List.length_append, totU]; show _ + 8 + nm.length + 1 ≤ _; omega) ?_
  refine runE ?_
  refine rg ?_
  refine addE ((k + 1 : Nat) : Int) ?_
  refine nx trivial (ha := ⟨rfl, ?_, rfl, trivial⟩)
  show str (T ++ T3 ++ S ++ (kProf ++ [32]) ++ nm ++ [10]) = str (T ++ T3 ++ (p.prof.take (k + 1)).flatMap (lineT kProf))
  rw [htk]; unfold lineT; simp only [List.append_assoc]
def GreatP (p : Pack) : Prop := 100 < p.pre.length ∨ GreatI p.items ∨ GreatT p.prof 12 100
instance (p : Pack) : Decidable (GreatP p) := by unfold GreatP; infer_instance
theorem greatPack {w : World} {f : View} (hv : On f w) {p : Pack} {A : Option Addr} {c : Nat} {A2 : Option Addr} {c2 : Nat} (hp : PackV f p A c A2 c2) :
    Con Try.prog 7 [.agg ⟨packC p A c A2 c2⟩] w (Ret w f fun _ v => v = .bool (decide (GreatP p))) := by
  refine enterC hv Try.call7 Try.func7 ?_
  refine sg ?_
  refine box (vs := packC p A c A2 c2) fun b1 => ?_
  refine runE ?_
  refine sg ?_
  refine ldo 0 ?_
  refine Go.Hog.gt (fun h1 => ?_) (fun h1 => ?_)
  · refine runE ?_
    refine edropH ?_
    refine ew_ret ?_
    exact ret1 (bT (.inl (by omega)))
  refine ldo 0 ?_
  refine callB (p := GreatI p.items) (vs := [.slice A p.items.length c]) (fun w g hs _ hon => greatItems hon (hp.items.mono hs)) (fun h2 => ?_) (fun h2 => ?_)
  · refine runE ?_
    refine edropH ?_
    refine ew_ret ?_
    exact ret1 (bT (.inr (.inl h2)))
  refine ldo 0 ?_
  refine callB (p := GreatT p.prof 12 100) (vs := [.slice A2 p.prof.length c2, i64 12, i64 100]) (fun w g hs _ hon => greatTexts hon (hp.prof.mono hs)) (fun h3 => ?_) (fun h3 => ?_)
  · refine runE ?_
    refine edropH ?_
    refine ew_ret ?_
    exact ret1 (bT (.inr (.inr h3)))
  · refine runE ?_
    refine edropH ?_
    refine ew_ret ?_
    refine ret1 (bF ?_)
    rintro (h | h | h)
    · omega
    · exact h2 h
    · exact h3 h
end Go.Hog

set_option linter.unusedVariables false
set_option linter.unusedSimpArgs false
set_option maxRecDepth 100000
namespace Go.Hog
open Go.RowKit Rp
def p0 : Pack := ⟨[], [], [], 0⟩
def addRef (l : List Item) (v : Str) : List Item := match l.getLast? with
  | none => l
  | some x => l.dropLast ++ [⟨x.name, x.refs ++ [v], x.tree⟩]
def keys5 : List Str := [kPre, kPol, kItem, kRef, kProf]
def appK (k v : Str) (r : Pack) : Pack :=
  if k = kPre then { r with pre := v }
  else if k = kPol then (if v = [49] then { r with pol := 1 } else r)
  else if k = kItem then { r with items := r.items ++ [⟨v, [], []⟩] }
  else if k = kRef then { r with items := addRef r.items v }
  else { r with prof := r.prof ++ [v] }
def lineOf (s : Str) : Str := (Lib.cut s [10]).1
def restOf (s : Str) : Str := (Lib.cut s [10]).2.1
def keyOf (s : Str) : Str := (Lib.cut (lineOf s) [32]).1
def valOf (s : Str) : Str := (Lib.cut (lineOf s) [32]).2.1
inductive Rdg : Pack → Str → Option Pack → Prop
  | done (r : Pack) : Rdg r [] (some r)
  | fail {r : Pack} {s : Str} (h : s ≠ []) (hf : ¬ (keyOf s ∈ keys5 ∧ r.items.length ≤ 8)) : Rdg r s none
  | step {r : Pack} {s : Str} {o : Option Pack} (h : s ≠ []) (hf : keyOf s ∈ keys5 ∧ r.items.length ≤ 8) (hr : Rdg (appK (keyOf s) (valOf s) r) (restOf s) o) : Rdg r s o
theorem Rdg.det {r : Pack} {s : Str} {o o2 : Option Pack} (h : Rdg r s o) (h2 : Rdg r s o2) : o = o2 := by
  induction h with
  | done r => cases h2 with
    | done => rfl
    | fail h => exact absurd rfl h
    | step h => exact absurd rfl h
  | fail h hf => cases h2 with
    | done => exact absurd rfl h
    | fail => rfl
    | step _ hf2 => exact absurd hf2 hf
  | step h hf hr ih => cases h2 with
    | done => exact absurd rfl h
    | fail _ hf2 => exact absurd hf hf2
    | step _ _ hr2 => exact ih hr2
theorem cut_at {l r : Str} {c : UInt8} (h : c ∉ l) : Lib.cut (l ++ [c] ++ r) [c] = (l, r, true) := by
  have e : Lib.index (l ++ [c] ++ r) [c] = (l.length : Nat) := by
    refine Lib.index_first (by simp) ?_ fun j hj => ?_
    · unfold Lib.occAt
      rw [List.append_assoc, List.drop_left]; simp
    · unfold Lib.occAt
      rw [List.append_assoc, List.drop_append_of_le_length (by omega), List.drop_eq_getElem_cons hj]
      have hne : l[j] ≠ c := fun e => h (e ▸ List.getElem_mem hj)
      simp only [List.cons_append, List.isPrefixOf]
      have : (c == l[j]) = false := by simp [Ne.symm hne]
      rw [this]; rfl
  unfold Lib.cut
  rw [e, if_pos (Int.natCast_nonneg _), Int.toNat_natCast]
  have e2 : (l ++ [c] ++ r).take l.length = l := by rw [List.append_assoc, List.take_left]
  have e3 : (l ++ [c] ++ r).drop (l.length + [c].length) = r := by
    rw [show l.length + [c].length = (l ++ [c]).length by simp, List.drop_left]
  rw [e2, e3]
theorem key_clean : ∀ k ∈ keys5, (10 : UInt8) ∉ k ∧ (32 : UInt8) ∉ k := by decide
theorem line_read {k v t : Str} (hk : k ∈ keys5) (hv : (10 : UInt8) ∉ v) : keyOf (lineT k v ++ t) = k ∧ valOf (lineT k v ++ t) = v ∧ restOf (lineT k v ++ t) = t ∧ lineT k v ++ t ≠ [] := by
  obtain ⟨h1, h2⟩ := key_clean k hk
  have h3 : (10 : UInt8) ∉ k ++ [32] ++ v := by
    intro h
    rcases List.mem_append.1 h with h | h
    · rcases List.mem_append.1 h with h | h
      · exact h1 h
      · exact absurd h (by decide)
    · exact hv h
  have e1 : Lib.cut (lineT k v ++ t) [10] = (k ++ [32] ++ v, t, true) := cut_at h3
  have e2 : Lib.cut (k ++ [32] ++ v) [32] = (k, v, true) := cut_at h2
  have e0 : lineOf (lineT k v ++ t) = k ++ [32] ++ v := by unfold lineOf; rw [e1]
  refine ⟨by unfold keyOf; rw [e0, e2], by unfold valOf; rw [e0, e2], by unfold restOf; rw [e1], fun h => ?_⟩
  have := congrArg List.length h
  rw [List.length_append, lineT_len] at this
  simp at this
theorem Rdg.line {r : Pack} {k v t : Str} {o : Option Pack} (hk : k ∈ keys5) (hv : (10 : UInt8) ∉ v) (h8 : r.items.length ≤ 8) (h : Rdg (appK k v r) t o) : Rdg r (lineT k v ++ t) o := by
  obtain ⟨e1, e2, e3, e4⟩ := line_read (t := t) hk hv
  exact .step e4 ⟨by rw [e1]; exact hk, h8⟩ (by rw [e1, e2, e3]; exact h)
theorem name_clean {s : Str} (h : nameOk s) : (10 : UInt8) ∉ s := by
  have hi := (nameOk_iff h.1 h.2.1 h.2.2.1).1 h
  intro hm
  obtain ⟨j, hj, e⟩ := List.getElem_of_mem hm
  by_cases h8 : j < 8
  · have := hi.1 j hj h8
    rw [e] at this
    exact absurd this (by decide)
  · by_cases h9 : j = 8
    · subst h9
      have := h.2.2.1
      rw [List.getElem?_eq_getElem hj, e] at this
      exact absurd this (by decide)
    · rcases hi.2 j hj (by omega) with h2 | ⟨_, h2⟩
      · rw [e] at h2; exact absurd h2 (by decide)
      · rw [e] at h2; exact absurd h2 (by decide)
theorem prefix_clean {s : Str} (h : prefixOk s) : (10 : UInt8) ∉ s := by
  intro hm
  obtain ⟨j, hj, e⟩ := List.getElem_of_mem hm
  by_cases h0 : j = 0
  · subst h0
    have := h.2.2.1
    rw [List.getElem?_eq_getElem hj, e] at this
    exact absurd this (by decide)
  · have := h.2.2.2 s[j] (List.mem_iff_getElem.2 ⟨j - 1, by rw [List.length_drop]; omega, by rw [List.getElem_drop]; congr 1; omega⟩)
    rw [e] at this
    exact absurd this (by decide)
theorem k_ne : kPol ≠ kPre ∧ kItem ≠ kPre ∧ kItem ≠ kPol ∧ kRef ≠ kPre ∧ kRef ≠ kPol ∧ kRef ≠ kItem ∧ kProf ≠ kPre ∧ kProf ≠ kPol ∧ kProf ≠ kItem ∧ kProf ≠ kRef := by decide
theorem app_pre (v : Str) (r : Pack) : appK kPre v r = { r with pre := v } := if_pos rfl
theorem app_pol (v : Str) (r : Pack) : appK kPol v r = if v = [49] then { r with pol := 1 } else r := by
  unfold appK; rw [if_neg (by decide), if_pos rfl]
theorem app_item (v : Str) (r : Pack) : appK kItem v r = { r with items := r.items ++ [⟨v, [], []⟩] } := by
  unfold appK; rw [if_neg (by decide), if_neg (by decide), if_pos rfl]
theorem app_ref (v : Str) (r : Pack) : appK kRef v r = { r with items := addRef r.items v } := by
  unfold appK; rw [if_neg (by decide), if_neg (by decide), if_neg (by decide), if_pos rfl]
theorem app_prof (v : Str) (r : Pack) : appK kProf v r = { r with prof := r.prof ++ [v] } := by
  unfold appK; rw [if_neg (by decide), if_neg (by decide), if_neg (by decide), if_neg (by decide)]
theorem addRef_snoc (l : List Item) (x : Item) (v : Str) : addRef (l ++ [x]) v = l ++ [⟨x.name, x.refs ++ [v], x.tree⟩] := by
  unfold addRef
  rw [List.getLast?_append]
  simp
theorem addRef_nil (v : Str) : addRef [] v = [] := rfl
theorem addRef_len (l : List Item) (v : Str) : (addRef l v).length = l.length := by
  rcases List.eq_nil_or_concat l with rfl | ⟨l', x, rfl⟩
  · rfl
  · rw [List.concat_eq_append, addRef_snoc]; simp
/-- A text of whole lines, each read. -/
inductive Lns : Pack → Str → Pack → Prop
  | done (r : Pack) : Lns r [] r
  | line {r q : Pack} {k v t : Str} (hk : k ∈ keys5) (hv : (10 : UInt8) ∉ v) (h8 : r.items.length ≤ 8) (h : Lns (appK k v r) t q) : Lns r (lineT k v ++ t) q
theorem Lns.rdg {r q : Pack} {s : Str} (h : Lns r s q) : Rdg r s (some q) := by
  induction h with
  | done => exact .done _
  | line hk hv h8 _ ih => exact .line hk hv h8 ih
theorem Lns.refs {r : Pack} {l : List Item} {t : Str} {q0 : Pack} : ∀ {rs : List Str} {x : Item}, (∀ s ∈ rs, (10 : UInt8) ∉ s) → (l ++ [x]).length ≤ 8 → Lns { r with items := l ++ [⟨x.name, x.refs ++ rs, x.tree⟩] } t q0 → Lns { r with items := l ++ [x] } (rs.flatMap (lineT kRef) ++ t) q0
  | [], x, _, _, h => by
    rw [List.append_nil] at h
    exact h
  | s :: rs, x, hc, h8, h => by
    rw [List.flatMap_cons, List.append_assoc]
    refine Lns.line (by decide) (hc s (List.mem_cons_self ..)) h8 ?_
    rw [app_ref]
    show Lns { r with items := addRef (l ++ [x]) s } _ q0
    rw [addRef_snoc]
    refine Lns.refs (x := ⟨x.name, x.refs ++ [s], x.tree⟩) (rs := rs) (fun y hy => hc y (List.mem_cons_of_mem _ hy)) (by rw [List.length_append] at h8 ⊢; exact h8) ?_
    show Lns { r with items := l ++ [⟨x.name, x.refs ++ [s] ++ rs, x.tree⟩] } t q0
    rw [List.append_assoc]
    exact h
theorem Lns.items {r : Pack} {t : Str} {q0 : Pack} : ∀ {is l : List Item}, (∀ x ∈ is, (10 : UInt8) ∉ x.name ∧ (∀ s ∈ x.refs, (10 : UInt8) ∉ s) ∧ x.tree = []) → l.length + is.length ≤ 8 → Lns { r with items := l ++ is } t q0 → Lns { r with items := l } (is.flatMap itemT ++ t) q0
  | [], l, _, _, h => by
    rw [List.append_nil] at h
    exact h
  | x :: is, l, hc, h8, h => by
    obtain ⟨h1, h2, h3⟩ := hc x (List.mem_cons_self ..)
    rw [List.length_cons] at h8
    have hT : (x :: is).flatMap itemT ++ t = lineT kItem x.name ++ (x.refs.flatMap (lineT kRef) ++ (is.flatMap itemT ++ t)) := by
      rw [List.flatMap_cons]
      unfold itemT
      simp only [List.append_assoc]
    rw [hT]
    refine Lns.line (by decide) h1 (by show l.length ≤ 8; omega) ?_
    rw [app_item]
    show Lns { r with items := l ++ [⟨x.name, [], []⟩] } _ q0
    refine Lns.refs (x := ⟨x.name, [], []⟩) h2 (by rw [List.length_append]; show l.length + 1 ≤ 8; omega) ?_
    have hx : (⟨x.name, [] ++ x.refs, []⟩ : Item) = x := by rw [List.nil_append, ← h3]
    show Lns { r with items := l ++ [⟨x.name, [] ++ x.refs, []⟩] } _ q0
    rw [hx]
    refine Lns.items (l := l ++ [x]) (is := is) (fun y hy => hc y (List.mem_cons_of_mem _ hy)) (by rw [List.length_append]; show l.length + 1 + is.length ≤ 8; omega) ?_
    rw [List.append_assoc]
    exact h
theorem Lns.profs {r : Pack} {t : Str} {q0 : Pack} (h8 : r.items.length ≤ 8) : ∀ {ps l : List Str}, (∀ s ∈ ps, (10 : UInt8) ∉ s) → Lns { r with prof := l ++ ps } t q0 → Lns { r with prof := l } (ps.flatMap (lineT kProf) ++ t) q0
  | [], l, _, h => by
    rw [List.append_nil] at h
    exact h
  | s :: ps, l, hc, h => by
    rw [List.flatMap_cons, List.append_assoc]
    refine Lns.line (by decide) (hc s (List.mem_cons_self ..)) h8 ?_
    rw [app_prof]
    refine Lns.profs (l := l ++ [s]) h8 (fun y hy => hc y (List.mem_cons_of_mem _ hy)) ?_
    rw [List.append_assoc]
    exact h
/-- No trees. -/
def bareOk (p : Pack) : Prop := ∀ x ∈ p.items, x.tree = []
def bareP (p : Pack) : Pack := { p with items := p.items.map fun x => ⟨x.name, x.refs, []⟩ }
theorem bare_ok (p : Pack) : bareOk (bareP p) := by
  intro x hx
  obtain ⟨y, _, rfl⟩ := List.mem_map.1 hx
  rfl
theorem bare_self {p : Pack} (h : bareOk p) : bareP p = p := by
  unfold bareP
  have e : p.items.map (fun x => (⟨x.name, x.refs, []⟩ : Item)) = p.items := by
    conv => rhs; rw [← List.map_id p.items]
    exact List.map_congr_left fun x hx => by rw [← h x hx]; rfl
  rw [e]
theorem bare_names (p : Pack) : names (bareP p).items = names p.items := by
  unfold bareP names
  rw [List.map_map]; rfl
theorem bare_may (p : Pack) : mayP (bareP p) ↔ mayP p := by
  unfold mayP mayB
  rw [bare_names]
  have e : (∀ i ∈ (bareP p).items, risingOk i.refs) ↔ ∀ i ∈ p.items, risingOk i.refs := by
    constructor
    · intro h i hi
      exact h ⟨i.name, i.refs, []⟩ (List.mem_map.2 ⟨i, hi, rfl⟩)
    · intro h i hi
      obtain ⟨y, hy, rfl⟩ := List.mem_map.1 hi
      exact h y hy
  rw [e]
  exact Iff.rfl
theorem bare_lay (p : Pack) : layT (bareP p) = layT p := by
  unfold layT
  have e : (bareP p).items.flatMap itemT = p.items.flatMap itemT := by
    unfold bareP
    rw [List.flatMap_map]
    rfl
  rw [e]; rfl
theorem lay_lns {p : Pack} (h : mayP p) (hb : bareOk p) : Lns p0 (layT p) p := by
  obtain ⟨⟨h1, h2, h3, h4⟩, h5, h6⟩ := h
  have n1 : (names p.items).length = p.items.length := List.length_map _
  have h31 := h3.1
  have hT : layT p = lineT kPre p.pre ++ (lineT kPol (digT p.pol) ++ (p.items.flatMap itemT ++ (p.prof.flatMap (lineT kProf) ++ []))) := by
    unfold layT; simp only [List.append_assoc, List.append_nil]
  rw [hT]
  refine Lns.line (by decide) (prefix_clean h1) (by decide) ?_
  rw [app_pre]
  refine Lns.line (by decide) (by unfold digT; split <;> decide) (by show (0 : Nat) ≤ 8; omega) ?_
  rw [app_pol]
  have e : (if digT p.pol = [49] then { ({ p0 with pre := p.pre } : Pack) with pol := 1 } else { p0 with pre := p.pre }) = ({ pre := p.pre, items := [], prof := [], pol := p.pol } : Pack) := by
    rcases h2 with h2 | h2 <;> rw [h2] <;> rfl
  rw [e]
  refine Lns.items (r := ⟨p.pre, [], [], p.pol⟩) (l := []) (fun x hx => ⟨name_clean (h3.2.1 _ (List.mem_map.2 ⟨x, hx, rfl⟩)), fun s hs => name_clean ((h5 x hx).2.1 s hs), hb x hx⟩) (by show 0 + _ ≤ _; omega) ?_
  refine Lns.profs (r := ⟨p.pre, p.items, [], p.pol⟩) (l := []) (by show p.items.length ≤ 8; omega) (fun s hs => name_clean (h6 s hs)) ?_
  exact Lns.done p
theorem lay_reads {p : Pack} (h : mayP p) (hb : bareOk p) : Rdg p0 (layT p) (some p) := (lay_lns h hb).rdg
/-- What a text is read as. -/
def Says (s : Str) (q : Pack) : Prop := mayP q ∧ bareOk q ∧ layT q = s
theorem Says.uniq {s : Str} {p q : Pack} (h1 : Says s p) (h2 : Says s q) : p = q := by
  have a := lay_reads h1.1 h1.2.1
  have b := lay_reads h2.1 h2.2.1
  rw [h1.2.2] at a
  rw [h2.2.2] at b
  have := a.det b
  injection this
theorem app_bare {k v : Str} {r : Pack} (h : bareOk r) : bareOk (appK k v r) := by
  unfold appK
  split
  · exact h
  split
  · split <;> exact h
  split
  · intro x hx
    rcases List.mem_append.1 hx with hx | hx
    · exact h x hx
    · rw [List.mem_singleton] at hx
      subst hx; rfl
  split
  · intro x hx
    replace hx : x ∈ addRef r.items v := hx
    rcases List.eq_nil_or_concat r.items with e | ⟨l', y, e⟩
    · rw [e] at hx; exact absurd hx (by simp [addRef])
    · rw [e, List.concat_eq_append, addRef_snoc] at hx
      rcases List.mem_append.1 hx with hx | hx
      · exact h x (by rw [e, List.concat_eq_append]; exact List.mem_append_left _ hx)
      · rw [List.mem_singleton] at hx
        subst hx
        exact h y (by rw [e, List.concat_eq_append]; exact List.mem_append_right _ (List.mem_singleton.2 rfl))
  · exact h
end Go.Hog
