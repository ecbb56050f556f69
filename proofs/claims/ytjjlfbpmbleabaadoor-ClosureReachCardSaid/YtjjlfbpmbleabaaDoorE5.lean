/- The engine, part 5: calls that read what is one's own, returns. -/
import Derived.Test.YtjjlfbpmbleabaaDoorE4
import Derived.Test.YtjjlfbpmbleabaaDoorE2
set_option linter.unusedVariables false
set_option linter.unusedSimpArgs false
namespace Go.Hog
open Go.RowKit Rp

/-- What an own entry looks like in a view. -/
def HE.seen (g : View) : HE → Prop
  | .blk b o => g b = some o
  | .row A n c e sz xs => xs.length = n * sz ∧ ((A = none ∧ n = 0 ∧ c = 0) ∨ ∃ b cur, A = some ⟨b, 0, none⟩ ∧ g b = some (.cells cur e (0, 0)) ∧ n ≤ c ∧ c ≤ maxLen ∧ cur.toList.take (n * sz) = xs)
  | .mp b m => ∃ es clk, g b = some (.map es clk) ∧ es.toList.map (fun e => (e.key, e.val)) = m
open Classical in
noncomputable def withOwn (w : World) (f : View) (L : List HE) : View := fun i => if ∃ e ∈ L, e.fp = some i then w.heap[i]? else f i
section
variable {B : Bs} {w : World} {f : View} {L : List HE}
theorem withOwn_sub (h : St B f L w) : Sub f (withOwn w f L) := by
  intro i o hi
  unfold withOwn
  split
  · exact h.on i o hi
  · exact hi
theorem withOwn_on (h : St B f L w) : On (withOwn w f L) w := by
  intro i o hi
  unfold withOwn at hi
  split at hi
  · exact hi
  · exact h.on i o hi
theorem withOwn_seen (h : St B f L w) : ∀ e ∈ L, e.seen (withOwn w f L) := by
  intro e he
  have h1 := h.own e he
  have key : ∀ b, e.fp = some b → withOwn w f L b = w.heap[b]? := fun b hb => by
    unfold withOwn
    rw [if_pos ⟨e, he, hb⟩]
  cases e with
  | blk b o => show withOwn w f L b = _; rw [key b rfl]; exact h1
  | row A n c e sz xs =>
    obtain ⟨h2, h3⟩ := h1
    refine ⟨h2, ?_⟩
    rcases h3 with ⟨h3, h4⟩ | ⟨g, cap, cur, hv, hg, hh, r1, r2, r3, r4⟩
    · injection h3 with h3 h5 h6
      exact .inl ⟨h3, h4, h6⟩
    · injection hv with hv h5 h6
      subst hv h6
      exact .inr ⟨g, cur, rfl, by rw [key g rfl]; exact hh, r1, r2, r4⟩
  | mp b m =>
    obtain ⟨es, clk, h3, h4⟩ := h1
    exact ⟨es, clk, by rw [key b rfl]; exact h3, h4⟩
end
theorem Sl.ofRow {α : Type} [Rp α] {g : View} {A : Option Addr} {n c e sz : Nat} {xs : List Value} {l : List α} (h : (HE.row A n c e sz xs).seen g) (hn : n = l.length) (hsz : sz = Rp.sz α) (hl : l.length ≤ LB)
    (hx : ∀ j (hj : j < l.length), rp g l[j] ((xs.drop (j * Rp.sz α)).take (Rp.sz α))) : Sl g A c l := by
  subst hn hsz
  obtain ⟨h1, h2⟩ := h
  rcases h2 with ⟨rfl, h2, h3⟩ | ⟨b, cur, rfl, h2, h3, h4, h5⟩
  · exact ⟨by omega, hl, by omega, fun j hj => by omega⟩
  · refine ⟨h3, hl, h4, fun j hj => ⟨b, 0, rfl, _, hx j hj, Cells.of fun k v hv => ?_⟩⟩
    rw [List.getElem?_take] at hv
    split at hv
    · rename_i hk
      rw [List.getElem?_drop, ← h5, List.getElem?_take] at hv
      split at hv
      · simp only [View.cell?, h2]
        simp only [Option.isSome_none, Bool.false_eq_true, if_false]
        rw [show 0 + j * Rp.sz α + k = j * Rp.sz α + k by omega]
        simpa using hv
      · cases hv
    · cases hv

section
variable {P : Program} {n : Nat} {B : Bs} {f : View} {L : List HE} {ρ : Env} {Q : Post} {K : Kon} {ops : Array Oper} {m : Md} {l l0 : List Oper} {ρ0 : Env}
variable {d : Nat} {x y : Operand} {t ty e : TypeId} {pos : String} {af : Array Edge} {gd : Option (Nat × Bool)} {b o : Nat} {v : Value} {vs cs : List Value}

/-- A call that hands back a plain value, what it may read being the view and one's own: in any walk. -/
theorem callV {k : Nat} {args : Array Operand} {at_ : Array TypeId} (v : Value) (h : ∀ w g, Sub f g → (∀ e ∈ L, e.seen g) → On g w → Con P k vs w (Ret w g fun _ v' => v' = v)) (kk : RW m P n B ops K l (up ρ d v) f L) (hrun : runP P ops l0 ρ0 = (⟨some d, .call ⟨.value (.func k), args, at_⟩, ty, pos, af, gd⟩ :: l, ρ) := by rfl) (hg : wantedE ops ρ ⟨some d, .call ⟨.value (.func k), args, at_⟩, ty, pos, af, gd⟩ = true := by rfl) (ha : args.toList.map (ev ρ) = vs := by rfl) (hcm : m.calls = true := by rfl) : RW m P n B ops K l0 ρ0 f L := by
  refine rw_runP l0 ρ0 ?_
  rw [hrun]
  have hcon : ∀ w, St B f L w → Con P k vs w (Ret w (withOwn w f L) fun _ v' => v' = v) := fun w hw => h w _ (withOwn_sub hw) (withOwn_seen hw) (withOwn_on hw)
  refine rw_have (p := ∀ args w, (callFunc k args).run P w = .ok (.enter k args) w) (fun w hw => (hcon w hw).1) fun hcf => ?_
  refine qw_call (hcm := hcm) (args := ⟨vs⟩) v hg (fun w' => run_callf hcf ha w') (fun w hw => ?_) kk
  refine (hcon w hw).2.mono ?_
  rintro en w' ⟨v', g, rfl, hb, hs, hold, hon, rfl⟩
  exact ⟨rfl, hw.grow hb⟩
/-- The same, the value being known up to a property. -/
theorem callO {k : Nat} {args : Array Operand} {at_ : Array TypeId} {R : View → Value → Prop} (h : ∀ w g, Sub f g → (∀ e ∈ L, e.seen g) → On g w → Con P k vs w (Ret w g R)) (kk : ∀ v g, R g v → RW .s P n B ops K l (up ρ d v) f L) (hrun : runP P ops l0 ρ0 = (⟨some d, .call ⟨.value (.func k), args, at_⟩, ty, pos, af, gd⟩ :: l, ρ) := by rfl) (hg : wantedE ops ρ ⟨some d, .call ⟨.value (.func k), args, at_⟩, ty, pos, af, gd⟩ = true := by rfl) (ha : args.toList.map (ev ρ) = vs := by rfl) : RW .s P n B ops K l0 ρ0 f L := by
  refine rw_runP l0 ρ0 ?_
  rw [hrun]
  have hcon : ∀ w, St B f L w → Con P k vs w (Ret w (withOwn w f L) R) := fun w hw => h w _ (withOwn_sub hw) (withOwn_seen hw) (withOwn_on hw)
  refine rw_have (p := ∀ args w, (callFunc k args).run P w = .ok (.enter k args) w) (fun w hw => (hcon w hw).1) fun hcf => ?_
  refine sw_call (args := ⟨vs⟩) hg (fun w' => run_callf hcf ha w') fun w hw => ?_
  refine (hcon w hw).2.mono ?_
  rintro en w' ⟨v', g, rfl, hb, hs, hold, hon, hR⟩
  exact ⟨v', f, L, rfl, hw.grow hb, kk v' g hR⟩

/-! ### Short words for code -/
section
variable {c c' : Code} {id : Nat} {cc : Operand} {ρE : Env}
theorem sq (h : EW P n B c (thenQ (EW P n B c' Q) Q) ρ f L) : EW P n B (.seq c c') Q ρ f L := ew_seq h
theorem rg (h : RW .s P n B ops (Q .normal) ops.toList ρ f L) : EW P n B (.region id ops false) Q ρ f L := ew_reg h
theorem rgE (h : Q .normal ρE f L) (hE : runP P ops ops.toList ρ = ([], ρE) := by rfl) : EW P n B (.region id ops false) Q ρ f L := ew_reg (runE h hE)
theorem sg (h : RW .s P n B ops (EW P n B c' Q) ops.toList ρ f L) : EW P n B (.seq (.region id ops false) c') Q ρ f L := ew_seq (ew_reg h)
theorem sgE (h : EW P n B c' Q ρE f L) (hE : runP P ops ops.toList ρ = ([], ρE) := by rfl) : EW P n B (.seq (.region id ops false) c') Q ρ f L := ew_seq (ew_reg (runE h hE))
theorem rr (h : Q .ret ρE f L) (hE : runP P ops ops.toList ρ = ([], ρE) := by rfl) : EW P n B (.seq (.region id ops false) .ret) Q ρ f L := ew_seq (ew_reg (runE (ew_ret h) hE))
theorem bk (h : EW P n B c (blkQ id Q) ρ f L) : EW P n B (.block id c) Q ρ f L := ew_block h
theorem cT (h : EW P n B c Q ρ f L) (hc : ev ρ cc = .bool true := by rfl) : EW P n B (.cond cc c c') Q ρ f L := ew_condT hc h
theorem cF (h : EW P n B c' Q ρ f L) (hc : ev ρ cc = .bool false := by rfl) : EW P n B (.cond cc c c') Q ρ f L := ew_condF hc h
theorem cTs (h : Q .normal ρ f L) (hc : ev ρ cc = .bool true := by rfl) : EW P n B (.cond cc .skip c') Q ρ f L := ew_condT hc (ew_skip h)
theorem cFs (h : Q .normal ρ f L) (hc : ev ρ cc = .bool false := by rfl) : EW P n B (.cond cc c .skip) Q ρ f L := ew_condF hc (ew_skip h)
theorem cFx (h : Q (.exit id) ρ f L) (hc : ev ρ cc = .bool false := by rfl) : EW P n B (.cond cc c (.exit id)) Q ρ f L := ew_condF hc (ew_exit h)
theorem cTx (h : Q (.exit id) ρ f L) (hc : ev ρ cc = .bool true := by rfl) : EW P n B (.cond cc (.exit id) c) Q ρ f L := ew_condT hc (ew_exit h)
/-- What a round comes to: the next state. -/
structure NxS {σ : Type} (slots : σ → List (Nat × Value)) (vw : σ → View) (hp : σ → List HE) (Inv : σ → Prop) (μ : σ → Nat) (s : σ) (ρ'' : Env) (f'' : View) (L'' : List HE) : Prop where
  out : ∃ s', Agree ρ'' (slots s') ∧ vw s' = f'' ∧ hp s' = L'' ∧ Inv s' ∧ μ s' < μ s
theorem lp {σ : Type} (slots : σ → List (Nat × Value)) (vw : σ → View) (hp : σ → List HE) (Inv : σ → Prop) (μ : σ → Nat) (s0 : σ) (hi : Inv s0)
    (round : ∀ s ρ', Inv s → EW P n B c (thenQ (NxS slots vw hp Inv μ s) Q) (ups ρ' (slots s)) (vw s) (hp s))
    (hv : vw s0 = f := by rfl) (hh : hp s0 = L := by rfl) (ha : Agree ρ (slots s0) := by first | exact trivial | exact ⟨rfl, trivial⟩ | exact ⟨rfl, rfl, trivial⟩ | exact ⟨rfl, rfl, rfl, trivial⟩ | exact ⟨rfl, rfl, rfl, rfl, trivial⟩ | exact ⟨rfl, rfl, rfl, rfl, rfl, trivial⟩ | exact ⟨rfl, rfl, rfl, rfl, rfl, rfl, trivial⟩ | exact ⟨rfl, rfl, rfl, rfl, rfl, rfl, rfl, trivial⟩ | exact ⟨rfl, rfl, rfl, rfl, rfl, rfl, rfl, rfl, trivial⟩) :
    EW P n B (.loop c) Q ρ f L := by
  refine ew_loop slots vw hp Inv μ s0 ha hv hh hi ?_
  intro s ρ' hI
  refine ⟨fun w hw a hfr hok => wp_mono ((round s ρ' hI).out w hw a hfr hok) ?_⟩
  rintro e a' w' ⟨ρ1, f1, L1, h1, h2, h3⟩
  refine ⟨ρ1, f1, L1, h1, h2, ?_⟩
  cases e with
  | normal => exact h3.out
  | _ => exact h3
theorem nxs {σ : Type} {slots : σ → List (Nat × Value)} {vw : σ → View} {hp : σ → List HE} {Inv : σ → Prop} {μ : σ → Nat} {s : σ} (s' : σ) (hi : Inv s') (hm : μ s' < μ s) (hv : vw s' = f := by rfl) (hh : hp s' = L := by rfl) (ha : Agree ρ (slots s') := by first | exact trivial | exact ⟨rfl, trivial⟩ | exact ⟨rfl, rfl, trivial⟩ | exact ⟨rfl, rfl, rfl, trivial⟩ | exact ⟨rfl, rfl, rfl, rfl, trivial⟩ | exact ⟨rfl, rfl, rfl, rfl, rfl, trivial⟩ | exact ⟨rfl, rfl, rfl, rfl, rfl, rfl, trivial⟩ | exact ⟨rfl, rfl, rfl, rfl, rfl, rfl, rfl, trivial⟩ | exact ⟨rfl, rfl, rfl, rfl, rfl, rfl, rfl, rfl, trivial⟩) :
    NxS slots vw hp Inv μ s ρ f L := ⟨⟨s', ha, hv, hh, hi, hm⟩⟩
/-- A loop that counts, and turns neither view nor blocks. -/
structure Nx (N : Nat) (slots : Nat → List (Nat × Value)) (Inv : Nat → Prop) (f : View) (L : List HE) (k : Nat) (ρ'' : Env) (f'' : View) (L'' : List HE) : Prop where
  out : Agree ρ'' (slots (k + 1)) ∧ f'' = f ∧ L'' = L ∧ k + 1 ≤ N ∧ Inv (k + 1)
theorem lpn (N : Nat) (slots : Nat → List (Nat × Value)) (Inv : Nat → Prop) (hi : Inv 0)
    (round : ∀ k ρ', k ≤ N → Inv k → EW P n B c (thenQ (Nx N slots Inv f L k) Q) (ups ρ' (slots k)) f L)
    (ha : Agree ρ (slots 0) := by first | exact trivial | exact ⟨rfl, trivial⟩ | exact ⟨rfl, rfl, trivial⟩ | exact ⟨rfl, rfl, rfl, trivial⟩ | exact ⟨rfl, rfl, rfl, rfl, trivial⟩ | exact ⟨rfl, rfl, rfl, rfl, rfl, trivial⟩ | exact ⟨rfl, rfl, rfl, rfl, rfl, rfl, trivial⟩ | exact ⟨rfl, rfl, rfl, rfl, rfl, rfl, rfl, trivial⟩ | exact ⟨rfl, rfl, rfl, rfl, rfl, rfl, rfl, rfl, trivial⟩) : EW P n B (.loop c) Q ρ f L := by
  refine ew_loop (σ := Nat) slots (fun _ => f) (fun _ => L) (fun k => k ≤ N ∧ Inv k) (fun k => N - k) 0 ha rfl rfl ⟨Nat.zero_le _, hi⟩ ?_
  rintro k ρ' ⟨hk, hI⟩
  refine ⟨fun w hw a hfr hok => wp_mono ((round k ρ' hk hI).out w hw a hfr hok) ?_⟩
  rintro e a' w' ⟨ρ1, f1, L1, h1, h2, h3⟩
  refine ⟨ρ1, f1, L1, h1, h2, ?_⟩
  cases e with
  | normal =>
    obtain ⟨h4, rfl, rfl, h5, h6⟩ := h3.out
    exact ⟨k + 1, h4, rfl, rfl, ⟨h5, h6⟩, by omega⟩
  | _ => exact h3
theorem nx {N : Nat} {slots : Nat → List (Nat × Value)} {Inv : Nat → Prop} {k : Nat} (hi : Inv (k + 1)) (hk : k + 1 ≤ N := by omega) (ha : Agree ρ (slots (k + 1)) := by first | exact trivial | exact ⟨rfl, trivial⟩ | exact ⟨rfl, rfl, trivial⟩ | exact ⟨rfl, rfl, rfl, trivial⟩ | exact ⟨rfl, rfl, rfl, rfl, trivial⟩ | exact ⟨rfl, rfl, rfl, rfl, rfl, trivial⟩ | exact ⟨rfl, rfl, rfl, rfl, rfl, rfl, trivial⟩ | exact ⟨rfl, rfl, rfl, rfl, rfl, rfl, rfl, trivial⟩ | exact ⟨rfl, rfl, rfl, rfl, rfl, rfl, rfl, rfl, trivial⟩) : Nx N slots Inv f L k ρ f L := ⟨⟨ha, rfl, rfl, hk, hi⟩⟩
end

/-! ### Returns -/
theorem bT {p : Prop} [Decidable p] (h : p) : Value.bool true = .bool (decide p) := by rw [decide_eq_true h]
theorem bF {p : Prop} [Decidable p] (h : ¬ p) : Value.bool false = .bool (decide p) := by rw [decide_eq_false h]
theorem St.ret {w0 w : World} {f0 : View} {R : View → Value → Prop} (h : St ⟨w0, f0, []⟩ f L w) (hR : R f v) : Ret w0 f0 R (.returned v) w := ⟨v, f, rfl, h.below rfl, h.ext, h.old, h.on, hR⟩
variable {w0 : World} {f0 : View}
variable {fn : Func} {R : View → Value → Prop}
theorem ret0 {R : Ending → World → Prop} (h : ∀ w, St B f L w → R (.returned (.tuple #[])) w) (hr : fn.results = #[] := by rfl) : retQ P fn B R .normal ρ f L := by
  intro w hw tmps htm
  exact ⟨.tuple #[], by simp [results, hr], h w hw⟩
theorem ret1 {t : Nat} (hR : R f v) (hr : fn.results = #[.tmp t] := by rfl) (hv : ρ t = v := by rfl) : retQ P fn ⟨w0, f0, []⟩ (Ret w0 f0 R) .ret ρ f L := by
  intro w hw tmps htm
  have := htm t
  rw [hv] at this
  exact ⟨v, by simp [results, hr]; simpa using this, hw.ret hR⟩
theorem ret2 {t u : Nat} {v1 v2 : Value} (hR : R f (.tuple #[v1, v2])) (hr : fn.results = #[.tmp t, .tmp u] := by rfl) (h1 : ρ t = v1 := by rfl) (h2 : ρ u = v2 := by rfl) : retQ P fn ⟨w0, f0, []⟩ (Ret w0 f0 R) .ret ρ f L := by
  intro w hw tmps htm
  have a1 := htm t
  have a2 := htm u
  rw [h1] at a1
  rw [h2] at a2
  refine ⟨_, ?_, hw.ret hR⟩
  simp [results, hr]
  simp at a1 a2
  exact ⟨a1, a2⟩
end
-- E VERSIONS
section
variable {P : Program} {n : Nat} {B : Bs} {f : View} {L : List HE} {ρ : Env} {Q : Post} {K : Kon} {ops : Array Oper} {m : Md} {l l0 : List Oper} {ρ0 : Env}
variable {d : Nat} {x y : Operand} {t ty e : TypeId} {pos : String} {af : Array Edge} {gd : Option (Nat × Bool)} {b o : Nat} {v : Value} {vs cs : List Value}
variable {c c' : Code} {id : Nat} {cc : Operand} {ρE : Env}
variable {w0 : World} {f0 : View}
variable {fn : Func} {R : View → Value → Prop}
theorem callVE {k : Nat} {args : Array Operand} {at_ : Array TypeId} (v : Value) (h : ∀ w g, Sub f g → (∀ e ∈ L, e.seen g) → On g w → Con P k vs w (Ret w g fun _ v' => v' = v)) {ρE : Env} (kk : K ρE f L) (hrun : runP P ops l0 ρ0 = (⟨some d, .call ⟨.value (.func k), args, at_⟩, ty, pos, af, gd⟩ :: l, ρ) := by rfl) (hg : wantedE ops ρ ⟨some d, .call ⟨.value (.func k), args, at_⟩, ty, pos, af, gd⟩ = true := by rfl) (ha : args.toList.map (ev ρ) = vs := by rfl) (hcm : m.calls = true := by rfl) (hE : runP P ops l (up ρ d v) = ([], ρE) := by rfl) : RW m P n B ops K l0 ρ0 f L :=
  callV (v := v) (h := h) (kk := runE kk hE) (hrun := hrun) (hg := hg) (ha := ha) (hcm := hcm)
end
-- END E VERSIONS
end Go.Hog
