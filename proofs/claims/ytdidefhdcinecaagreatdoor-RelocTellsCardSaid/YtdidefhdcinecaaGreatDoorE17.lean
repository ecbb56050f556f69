/- The engine, part 17: function values, nil slices, appends of what is one's own, slices that begin further on. -/
import Derived.Test.YtdidefhdcinecaaGreatDoorMH
import Derived.Lib.SliceRun
set_option linter.unusedVariables false
set_option linter.unusedSimpArgs false
namespace Go.Hog
open Go.RowKit Rp
section
variable {P : Program} {n : Nat} {B : Bs} {f : View} {L : List HE} {ρ : Env} {Q : Post} {K : Kon} {ops : Array Oper} {m : Md} {l l0 : List Oper} {ρ0 : Env}
variable {d : Nat} {x y : Operand} {t ty e t2 : TypeId} {pos : String} {af : Array Edge} {gd : Option (Nat × Bool)} {b o : Nat} {v : Value} {vs cs : List Value}
theorem run_callfv {k : Nat} {g : Operand} {args : Array Operand} {at_ : Array TypeId} {fi ca tot : List Value} (hcf : ∀ args w, (callFunc k args).run P w = .ok (.enter k args) w) (hf : ev ρ g = .func (.func k) ⟨fi⟩ ⟨ca⟩) (ha : args.toList.map (ev ρ) = vs) (ht : fi ++ vs ++ ca = tot) (w : World) :
    (execOp (ev ρ) ⟨some d, .call ⟨.value g, args, at_⟩, ty, pos, af, gd⟩).run P w = .ok (.enter k ⟨tot⟩) w := by
  subst ht
  have e1 : args.map (ev ρ) = ⟨vs⟩ := by apply Array.ext'; simpa using ha
  have e2 : (⟨fi⟩ : Array Value) ++ ⟨vs⟩ ++ ⟨ca⟩ = ⟨fi ++ vs ++ ca⟩ := by apply Array.ext'; simp
  simp [execOp, resolve, hf, Deferred.ofValue, invoke, e1, hcf]
/-- A call of a function value that hands back a plain value. -/
theorem callVF {k : Nat} {g : Operand} {args : Array Operand} {at_ : Array TypeId} {fi ca tot : List Value} (v : Value) (h : ∀ w g, Sub f g → (∀ e ∈ L, e.seen g) → On g w → Con P k tot w (Ret w g fun _ v' => v' = v)) (kk : RW m P n B ops K l (up ρ d v) f L) (hrun : runP P ops l0 ρ0 = (⟨some d, .call ⟨.value g, args, at_⟩, ty, pos, af, gd⟩ :: l, ρ) := by rfl) (hg : wantedE ops ρ ⟨some d, .call ⟨.value g, args, at_⟩, ty, pos, af, gd⟩ = true := by rfl)
    (hf : ev ρ g = .func (.func k) ⟨fi⟩ ⟨ca⟩ := by rfl) (ha : args.toList.map (ev ρ) = vs := by rfl) (ht : fi ++ vs ++ ca = tot := by rfl) (hcm : m.calls = true := by rfl) : RW m P n B ops K l0 ρ0 f L := by
  refine rw_runP l0 ρ0 ?_
  rw [hrun]
  have hcon : ∀ w, St B f L w → Con P k tot w (Ret w (withOwn w f L) fun _ v' => v' = v) := fun w hw => h w _ (withOwn_sub hw) (withOwn_seen hw) (withOwn_on hw)
  refine rw_have (p := ∀ args w, (callFunc k args).run P w = .ok (.enter k args) w) (fun w hw => (hcon w hw).1) fun hcf => ?_
  refine qw_call (hcm := hcm) (args := ⟨tot⟩) v hg (fun w' => run_callfv hcf hf ha ht w') (fun w hw => ?_) kk
  refine (hcon w hw).2.mono ?_
  rintro en w' ⟨v', g, rfl, hb, hs, hold, hon, rfl⟩
  exact ⟨rfl, hw.grow hb⟩
theorem callBF {k : Nat} {g : Operand} {args : Array Operand} {at_ : Array TypeId} {fi ca tot : List Value} {p : Prop} [Decidable p] (h : ∀ w g, Sub f g → (∀ e ∈ L, e.seen g) → On g w → Con P k tot w (Ret w g fun _ v' => v' = .bool (decide p)))
    (T : p → RW m P n B ops K l (up ρ d (.bool true)) f L) (F : ¬ p → RW m P n B ops K l (up ρ d (.bool false)) f L)
    (hrun : runP P ops l0 ρ0 = (⟨some d, .call ⟨.value g, args, at_⟩, ty, pos, af, gd⟩ :: l, ρ) := by rfl) (hg : wantedE ops ρ ⟨some d, .call ⟨.value g, args, at_⟩, ty, pos, af, gd⟩ = true := by rfl)
    (hf : ev ρ g = .func (.func k) ⟨fi⟩ ⟨ca⟩ := by rfl) (ha : args.toList.map (ev ρ) = vs := by rfl) (ht : fi ++ vs ++ ca = tot := by rfl) (hcm : m.calls = true := by rfl) : RW m P n B ops K l0 ρ0 f L := by
  by_cases hp : p
  · refine callVF (.bool true) (fun w g h1 h2 h3 => ?_) (T hp) hrun hg hf ha ht hcm
    have := h w g h1 h2 h3
    rwa [decide_eq_true hp] at this
  · refine callVF (.bool false) (fun w g h1 h2 h3 => ?_) (F hp) hrun hg hf ha ht hcm
    have := h w g h1 h2 h3
    rwa [decide_eq_false hp] at this
/-- 'xs == nil'. -/
theorem eqNilS {A : Option Addr} {nn c n' c' : Nat} (k : RW m P n B ops K l (up ρ d (.bool A.isNone)) f L) (hrun : runP P ops l0 ρ0 = (⟨some d, .binOp .eql t x y t2, ty, pos, af, gd⟩ :: l, ρ) := by rfl) (hg : wantedE ops ρ ⟨some d, .binOp .eql t x y t2, ty, pos, af, gd⟩ = true := by rfl)
    (hx : ev ρ x = .slice A nn c := by rfl) (hy : ev ρ y = .slice none n' c' := by rfl) (he : elemT P t = some e := by rfl) : RW m P n B ops K l0 ρ0 f L := by
  refine rw_runP l0 ρ0 ?_
  rw [hrun]
  exact rw_y hg (fun w hw => by
    have := Go.Lib.run_eql_slice_nil (P := P) w t e A nn c n' c' (und_elemT he)
    simp [execOp, eqGuard, hx, hy, this]) k
/-- Onto an own row (entry i) cells that are known in every world of the class. -/
theorem appW (i : Nat) {s : Operand} {A A2 : Option Addr} {nn c mm c2 sz by_ : Nat} {xs news zs : List Value} (hl : news.length = mm * sz) (hnews : ∀ w, St B f L w → 0 < mm → ∃ b o, A2 = some ⟨b, o, none⟩ ∧ ∀ j u, news[j]? = some u → w.cell? ⟨b, o + j, none⟩ = some u) (h1 : ∀ u ∈ news, u.oneCell' = true)
    (k : ∀ A' c', RW .s P n B ops K l (up ρ d (.slice A' (nn + mm) c')) f (L.set i (.row A' (nn + mm) c' e sz (xs ++ news))))
    (hrun : runP P ops l0 ρ0 = (⟨some d, .call ⟨.builtin .append, ⟨[s, x]⟩, ⟨[t, t]⟩⟩, ty, pos, af, gd⟩ :: l, ρ) := by rfl) (hg : wantedE ops ρ ⟨some d, .call ⟨.builtin .append, ⟨[s, x]⟩, ⟨[t, t]⟩⟩, ty, pos, af, gd⟩ = true := by rfl)
    (hs : ev ρ s = .slice A nn c := by rfl) (hx : ev ρ x = .slice A2 mm c2 := by rfl) (hi : L[i]? = some (.row A nn c e sz xs) := by rfl) (he : elemT P t = some e := by rfl) (hz : sizeT P e = some sz := by rfl) (hb : bytesT P e = some by_ := by rfl) (hzz : zeroT P e = some zs := by rfl)
    (hzl : Nat.beq zs.length sz && Nat.ble 1 sz && Nat.ble 1 by_ = true := by rfl) (hlim : (nn + mm) * by_ ≤ 140737488355328 := by omega) : RW .s P n B ops K l0 ρ0 f L := by
  refine rw_runP l0 ρ0 ?_
  rw [hrun]
  simp only [Bool.and_eq_true] at hzl
  have hzl1 : zs.length = sz := Nat.eq_of_beq_eq_true hzl.1.1
  have hp1 : 0 < sz := Nat.lt_of_succ_le (Nat.le_of_ble_eq_true hzl.1.2)
  have hp2 : 0 < by_ := Nat.lt_of_succ_le (Nat.le_of_ble_eq_true (of_decide_eq_true hzl.2))
  refine sw_do hg fun w hw => ?_
  have hown : w.ownsRow 0 e sz (.slice A nn c) nn xs := hw.own _ (List.mem_of_getElem? hi)
  obtain ⟨A', c', w', hr, h3, h4, h5⟩ := append_run (P := P) (ρ := ρ) (d := d) (ty := ty) (pos := pos) (af := af) (gd := gd) hs hx he hz hb hzz hzl1 hp1 hown hl (hnews w hw) h1 hlim hp2
  exact ⟨_, w', hr, .inl ⟨_, rfl, f, _, hw.appended hi h3 h4 h5, k A' c'⟩⟩
/-- 'xs[lo:]', whatever the slice. -/
theorem slL' {A : Option Addr} {nn cc sz : Nat} {lo : Operand} {lv : Int} {ki : IntKind} (j : Nat) (hj : j ≤ nn) (hc : nn ≤ cc) (k : RW m P n B ops K l (up ρ d (.slice (A.map fun a => if j = cc then a else a.add (j * sz)) (nn - j) (cc - j))) f L)
    (hrun : runP P ops l0 ρ0 = (⟨some d, .slice t x (some lo) none none, ty, pos, af, gd⟩ :: l, ρ) := by rfl) (hg : wantedE ops ρ ⟨some d, .slice t x (some lo) none none, ty, pos, af, gd⟩ = true := by rfl)
    (hx : ev ρ x = .slice A nn cc := by rfl) (hy : ev ρ lo = .int ki lv := by rfl) (he : elemT P t = some e := by rfl) (hz : sizeT P e = some sz := by rfl) (hh : lv = j := by rfl) : RW m P n B ops K l0 ρ0 f L := by
  refine rw_runP l0 ρ0 ?_
  rw [hrun]
  subst hh
  exact rw_y hg (fun w hw => by
    have h1 : (0 : Int) ≤ (j : Int) ∧ (j : Int) ≤ (nn : Int) := ⟨by omega, by omega⟩
    have h2 : (0 : Int) ≤ (nn : Int) ∧ (nn : Int) ≤ (cc : Int) := ⟨by omega, by omega⟩
    have e1 : ((cc : Int) - (j : Int)).toNat = cc - j := by omega
    have e2 : ((nn : Int) - (j : Int)).toNat = nn - j := by omega
    by_cases hjc : j = cc
    · subst hjc
      cases A <;> simp [execOp, Instr.sliceAt, Instr.slice, Instr.sliceBounds, Instr.sliceBound, hx, hy, asIntOf, run_und (und_elemT he), run_sizeT hz, h1, h2, hj, hc, Addr.add]
    · have e3 : ¬ cc - j = 0 := by omega
      cases A <;> simp [execOp, Instr.sliceAt, Instr.slice, Instr.sliceBounds, Instr.sliceBound, hx, hy, asIntOf, run_und (und_elemT he), run_sizeT hz, h1, h2, hj, hc, hjc, e3]
      exact fun h => absurd h.symm hjc) k
/-- What a part of an own row shows. -/
theorem St.rowTail {w : World} {i c nn sz j : Nat} {A : Option Addr} {xs : List Value} (hw : St B f L w) (hi : L[i]? = some (.row A nn c e sz xs)) (hj : j < nn) : ∃ b o, (A.map fun a => if j = c then a else a.add (j * sz)) = some ⟨b, o, none⟩ ∧ ∀ k u, (xs.drop (j * sz))[k]? = some u → w.cell? ⟨b, o + k, none⟩ = some u := by
  obtain ⟨b, o, rfl, hc⟩ := hw.rowAll hi (by omega)
  have hcn := (hw.rowLen hi).2.1
  refine ⟨b, o + j * sz, ?_, fun k u hk => ?_⟩
  · simp only [Option.map_some]
    rw [if_neg (by omega), add_plain]
  · rw [List.getElem?_drop] at hk
    have := hc _ u hk
    rwa [← Nat.add_assoc] at this
end
end Go.Hog
