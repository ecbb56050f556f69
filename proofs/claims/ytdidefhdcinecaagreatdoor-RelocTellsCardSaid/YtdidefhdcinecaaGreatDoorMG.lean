/- E10 E11 E12 E13, in one text. -/
import Derived.Test.YtdidefhdcinecaaGreatDoorME
import Derived.ArgAppend
set_option linter.unusedVariables false
set_option linter.unusedSimpArgs false
namespace Go.Hog
open Go.RowKit Rp
section
variable {P : Program} {n : Nat} {B : Bs} {f : View} {L L1 L2 : List HE} {ρ : Env} {Q : Post} {K : Kon} {ops : Array Oper} {l : List Oper} {w : World}
theorem St.freezeAll (h : St B f (L1 ++ L2) w) (hX : B.X = []) : St B (withOwn w f L2) L1 w ∧ Sub f (withOwn w f L2) ∧ ∀ e ∈ L2, e.seen (withOwn w f L2) := by
  have h2 : St B f L2 w := h.sublist (List.sublist_append_right _ _)
  have h1 : St B f L1 w := h.sublist (List.sublist_append_left _ _)
  refine ⟨⟨h.os, h.tape, h.output, h.size, h.keep, h.ext.trans (withOwn_sub h2), fun i hi => ?_, withOwn_on h2, h1.own, h1.mine, fun e he b hb => ?_, h1.apart⟩, withOwn_sub h2, withOwn_seen h2⟩
  · unfold withOwn
    rw [if_neg]
    · exact h.old i hi
    · rintro ⟨e, he, hb⟩
      rcases h2.mine e he i hb with h3 | h3
      · omega
      · rw [hX] at h3; cases h3
  · unfold withOwn
    rw [if_neg]
    · exact h1.off e he b hb
    · rintro ⟨e2, he2, hb2⟩
      exact (List.pairwise_append.1 h.apart).2.2 e he e2 he2 b hb hb2
theorem efrzA (L1 L2 : List HE) (hp : L.Perm (L1 ++ L2)) {co : Code} (k : ∀ g, Sub f g → (∀ e ∈ L2, e.seen g) → EW P n B co Q ρ g L1) (hX : B.X = [] := by rfl) : EW P n B co Q ρ f L :=
  ⟨fun w hw a ha hok => let ⟨h1, h2, h3⟩ := (hw.perm hp).freezeAll hX; (k _ h2 h3).out w h1 a ha hok⟩
theorem rfrzA (L1 L2 : List HE) (hp : L.Perm (L1 ++ L2)) (k : ∀ g, Sub f g → (∀ e ∈ L2, e.seen g) → RW .s P n B ops K l ρ g L1) (hX : B.X = [] := by rfl) : RW .s P n B ops K l ρ f L :=
  ⟨fun w hw a ha hok => let ⟨h1, h2, h3⟩ := (hw.perm hp).freezeAll hX; SW.out (k _ h2 h3) w h1 a ha hok⟩
variable {fn : Func} {w0 : World} {f0 : View} {L0 : List HE} {R : View → List HE → Value → Prop}
theorem ret2M {t u : Nat} {v1 v2 : Value} (hR : R f L (.tuple #[v1, v2])) (hr : fn.results = #[.tmp t, .tmp u] := by rfl) (h1 : ρ t = v1 := by rfl) (h2 : ρ u = v2 := by rfl) : retQ P fn ⟨w0, f0, fps L0⟩ (RetM w0 f0 L0 R) .ret ρ f L := by
  intro w hw tmps htm
  have a1 := htm t
  have a2 := htm u
  rw [h1] at a1
  rw [h2] at a2
  refine ⟨_, ?_, _, _, _, rfl, hw, hR⟩
  simp [results, hr]
  simp at a1 a2
  exact ⟨a1, a2⟩
/-- An empty slice's literal. -/
theorem bsl0 {d : Nat} {l0 : List Oper} {ρ0 : Env} {t ty e : TypeId} {pos : String} {af : Array Edge} {gd : Option (Nat × Bool)} {sz : Nat} (k : ∀ b, RW .s P n B ops K l (up ρ d (.slice (some ⟨b, 0, none⟩) 0 0)) f (.row (some ⟨b, 0, none⟩) 0 0 e sz [] :: L)) (hrun : runP P ops l0 ρ0 = (⟨some d, .buildSlice t 0 ⟨[]⟩, ty, pos, af, gd⟩ :: l, ρ) := by rfl) (hg : wantedE ops ρ ⟨some d, .buildSlice t 0 ⟨[]⟩, ty, pos, af, gd⟩ = true := by rfl)
    (he : elemT P t = some e := by rfl) (hz : sizeT P e = some sz := by rfl) : RW .s P n B ops K l0 ρ0 f L := by
  refine rw_runP l0 ρ0 ?_
  rw [hrun]
  refine sw_do hg fun w hw => ⟨_, w.alloc (.cells ⟨[]⟩ e), ?_, .inl ⟨_, rfl, f, _, ?_, k w.heap.size⟩⟩
  · simp [execOp, Instr.buildSlice, run_und (und_elemT he), run_sizeT hz, Instr.fill, newRow]
    congr 2
    apply Array.ext'
    simp
  · exact hw.new (e := .row (some ⟨w.heap.size, 0, none⟩) 0 0 e sz []) ⟨by simp, .inr ⟨w.heap.size, 0, ⟨[]⟩, rfl, Nat.zero_le _, heap_new _ _, Nat.le_refl _, Nat.zero_le _, by simp, by simp⟩⟩ rfl
theorem blk_seen {g : View} {b : Nat} {cs : List Value} {e : TypeId} {k : Nat} {v : Value} (h : (HE.blk b (.cells ⟨cs⟩ e)).seen g) (hc : cs[k]? = some v := by rfl) : g.cell? ⟨b, k, none⟩ = some v := by
  have h' : g b = some (.cells ⟨cs⟩ e) := h
  simp only [View.cell?, h']
  simpa using hc
theorem eeq {co : Code} {L' : List HE} (h : L = L') (k : EW P n B co Q ρ f L') : EW P n B co Q ρ f L := h ▸ k
theorem eperm {co : Code} {L' : List HE} (hp : L.Perm L') (k : EW P n B co Q ρ f L') : EW P n B co Q ρ f L := ewL (fun _ h => h.perm hp) k
theorem rperm {L' : List HE} (hp : L.Perm L') (k : RW .s P n B ops K l ρ f L') : RW .s P n B ops K l ρ f L := rwL (fun _ h => h.perm hp) k
end
end Go.Hog

set_option linter.unusedVariables false
set_option linter.unusedSimpArgs false
namespace Go.Hog
open Go.RowKit Rp
/-- Cells that are a list's. -/
structure Rw {α : Type} [Rp α] (g : View) (l : List α) (xs : List Value) : Prop where
  len : xs.length = l.length * sz α
  at_ : ∀ j (hj : j < l.length), rp g l[j] ((xs.drop (j * sz α)).take (sz α))
theorem Rw.nil {α : Type} [Rp α] (g : View) : Rw g ([] : List α) [] := ⟨by simp, fun j hj => by simp at hj⟩
theorem Rw.mono {α : Type} [Rp α] {g g' : View} {l : List α} {xs : List Value} (hs : Sub g g') (h : Rw g l xs) : Rw g' l xs := ⟨h.len, fun j hj => Rp.mono hs (h.at_ j hj)⟩
theorem Rw.append {α : Type} [Rp α] {g : View} {l m : List α} {xs ys : List Value} (h : Rw g l xs) (h2 : Rw g m ys) : Rw g (l ++ m) (xs ++ ys) := by
  refine ⟨by rw [List.length_append, List.length_append, h.len, h2.len, Nat.add_mul], fun j hj => ?_⟩
  have hl := h.len
  by_cases hlt : j < l.length
  · have h3 : j * sz α + sz α ≤ l.length * sz α := by rw [← Nat.succ_mul]; exact Nat.mul_le_mul_right _ hlt
    rw [List.drop_append_of_le_length (by omega), List.take_append_of_le_length (by rw [List.length_drop]; omega), List.getElem_append_left hlt]
    exact h.at_ j hlt
  · have h3 : l.length * sz α ≤ j * sz α := Nat.mul_le_mul_right _ (by omega)
    have h5 := h2.at_ (j - l.length) (by simp at hj; omega)
    rw [List.getElem_append_right (by omega), List.drop_append, List.drop_eq_nil_of_le (by omega), List.nil_append]
    rw [Nat.sub_mul, ← hl] at h5
    exact h5
theorem Rw.one {α : Type} [Rp α] {g : View} {x : α} {cs : List Value} (hx : rp g x cs) : Rw g [x] cs := by
  have h2 : cs.length = sz α := Rp.len hx
  refine ⟨by rw [h2]; simp, fun j hj => ?_⟩
  have : j = 0 := by simp at hj; exact hj
  subst this
  simpa [← h2] using hx
theorem Rw.snoc {α : Type} [Rp α] {g : View} {l : List α} {xs : List Value} {x : α} {cs : List Value} (h : Rw g l xs) (hx : rp g x cs) : Rw g (l ++ [x]) (xs ++ cs) := h.append (Rw.one hx)
theorem Rw.ones {α : Type} [Rp α] {g : View} {l : List α} {xs : List Value} (h : Rw g l xs) : ∀ u ∈ xs, u.oneCell' = true := by
  intro u hu
  obtain ⟨k, hk, rfl⟩ := List.getElem_of_mem hu
  have hp : 0 < sz α := Rp.pos
  have hkl : k / sz α < l.length := by
    rw [Nat.div_lt_iff_lt_mul hp, ← h.len]; exact hk
  refine Rp.one (h.at_ (k / sz α) hkl) _ ?_
  have e : k / sz α * sz α + k % sz α = k := by rw [Nat.mul_comm]; exact Nat.div_add_mod _ _
  refine List.mem_iff_getElem?.2 ⟨k % sz α, ?_⟩
  rw [List.getElem?_take, if_pos (Nat.mod_lt _ hp), List.getElem?_drop, e, List.getElem?_eq_getElem hk]
/-- A frozen row of such cells. -/
theorem Rw.sl {α : Type} [Rp α] {g : View} {A : Option Addr} {n c e sz : Nat} {xs : List Value} {l : List α} (hr : Rw g l xs) (h : (HE.row A n c e sz xs).seen g) (hn : n = l.length) (hl : l.length ≤ LB) (hsz : sz = Rp.sz α := by rfl) : Sl g A c l :=
  Sl.ofRow h hn hsz hl hr.at_
theorem Rw.texts {g : View} {l : List Str} (hb : ∀ s ∈ l, s.length ≤ LB) : Rw g l (l.map str) := by
  refine ⟨by rw [List.length_map]; exact (Nat.mul_one _).symm, fun j hj => ?_⟩
  show ((l.map str).drop (j * 1)).take 1 = _ ∧ _
  refine ⟨?_, hb _ (List.getElem_mem hj)⟩
  rw [Nat.mul_one, ← List.map_drop, ← List.map_take, List.drop_eq_getElem_cons hj]
  rfl
/-- What a slice of the view shows as cells. -/
theorem Sl.cells {α : Type} [Rp α] {f : View} {A : Option Addr} {c : Nat} {l : List α} (h : Sl f A c l) : ∃ xs, Rw f l xs ∧ (0 < l.length → ∃ b o, A = some ⟨b, o, none⟩ ∧ Cells f b o xs) := by
  have key : ∀ k, k ≤ l.length → ∃ xs, Rw f (l.take k) xs ∧ ∀ b o, A = some ⟨b, o, none⟩ → Cells f b o xs := by
    intro k
    induction k with
    | zero => exact fun _ => ⟨[], by simpa using Rw.nil f, fun _ _ _ => trivial⟩
    | succ k ih =>
      intro hk
      obtain ⟨xs, h1, h2⟩ := ih (by omega)
      obtain ⟨b, o, e, cs, h3, h4⟩ := h.at_ k (by omega)
      refine ⟨xs ++ cs, ?_, fun b' o' e' => ?_⟩
      · rw [List.take_add_one, List.getElem?_eq_getElem (by omega)]
        exact h1.snoc h3
      · rw [e] at e'
        injection e' with e'
        injection e' with e1 e2
        subst e1 e2
        refine (h2 _ _ e).append ?_
        rw [h1.len, List.length_take, Nat.min_eq_left (by omega)]
        exact h4
  obtain ⟨xs, h1, h2⟩ := key l.length (Nat.le_refl _)
  rw [List.take_length] at h1
  refine ⟨xs, h1, fun h0 => ?_⟩
  obtain ⟨b, o, e, _⟩ := h.at_ 0 h0
  exact ⟨b, o, e, h2 b o e⟩
/-- A part of a slice. -/
theorem Sl.take {α : Type} [Rp α] {f : View} {A : Option Addr} {c : Nat} {l : List α} (h : Sl f A c l) (k : Nat) : Sl f A c (l.take k) :=
  ⟨Nat.le_trans (List.length_take_le' _ _) h.cap, Nat.le_trans (List.length_take_le' _ _) h.lim, h.top, fun j hj => by
    have hj' : j < l.length := Nat.lt_of_lt_of_le hj (List.length_take_le' _ _)
    have := h.at_ j hj'
    simpa using this⟩
theorem Sl.recap {α : Type} [Rp α] {f : View} {A : Option Addr} {c c' : Nat} {l : List α} (h : Sl f A c l) (h1 : l.length ≤ c') (h2 : c' ≤ c) : Sl f A c' l :=
  ⟨h1, h.lim, Nat.le_trans h2 h.top, h.at_⟩
theorem Sl.drop {α : Type} [Rp α] {f : View} {b o c : Nat} {l : List α} (h : Sl f (some ⟨b, o, none⟩) c l) (k : Nat) (hk : k ≤ l.length) : Sl f (some ⟨b, o + k * sz α, none⟩) (c - k) (l.drop k) := by
  refine ⟨by rw [List.length_drop]; have := h.cap; omega, by rw [List.length_drop]; have := h.lim; omega, by have := h.top; omega, fun j hj => ?_⟩
  rw [List.length_drop] at hj
  obtain ⟨b', o', e, cs, h1, h2⟩ := h.at_ (k + j) (by omega)
  injection e with e
  injection e with e1 e2
  subst e1 e2
  refine ⟨_, _, rfl, cs, by simpa using h1, ?_⟩
  rw [Nat.add_assoc, ← Nat.add_mul]
  exact h2
end Go.Hog

set_option linter.unusedVariables false
set_option linter.unusedSimpArgs false
namespace Go.Hog
open Go.RowKit Rp
section
variable {P : Program} {n : Nat} {B : Bs} {f : View} {L : List HE} {ρ : Env} {Q : Post} {K : Kon} {ops : Array Oper} {m : Md} {l l0 : List Oper} {ρ0 : Env}
variable {d : Nat} {x y : Operand} {t ty e : TypeId} {pos : String} {af : Array Edge} {gd : Option (Nat × Bool)} {b o : Nat} {v : Value} {vs cs : List Value}
/-- 'xs[:hi:mx]'. -/
theorem slM {A : Option Addr} {nn cc sz : Nat} {hi mx : Operand} {hv mv : Int} {ki kj : IntKind} (j j2 : Nat) (hj : j ≤ j2 ∧ j2 ≤ cc) (k : RW m P n B ops K l (up ρ d (.slice A j j2)) f L)
    (hrun : runP P ops l0 ρ0 = (⟨some d, .slice t x none (some hi) (some mx), ty, pos, af, gd⟩ :: l, ρ) := by rfl) (hg : wantedE ops ρ ⟨some d, .slice t x none (some hi) (some mx), ty, pos, af, gd⟩ = true := by rfl)
    (hx : ev ρ x = .slice A nn cc := by rfl) (hy : ev ρ hi = .int ki hv := by rfl) (hz2 : ev ρ mx = .int kj mv := by rfl) (he : elemT P t = some e := by rfl) (hz : sizeT P e = some sz := by rfl) (hh : hv = j := by rfl) (hm : mv = j2 := by rfl) : RW m P n B ops K l0 ρ0 f L := by
  refine rw_runP l0 ρ0 ?_
  rw [hrun]
  subst hh hm
  exact rw_y hg (fun w hw => by
    have h1 : (0 : Int) ≤ (j : Int) ∧ (j : Int) ≤ (j2 : Int) := ⟨by omega, by omega⟩
    have h2 : (0 : Int) ≤ (j2 : Int) ∧ (j2 : Int) ≤ (cc : Int) := ⟨by omega, by omega⟩
    have hA : Option.map (fun x => x.add 0) A = A := by cases A <;> simp [Addr.add]
    simp [execOp, Instr.sliceAt, Instr.slice, Instr.sliceBounds, Instr.sliceBound, hx, hy, hz2, asIntOf, run_und (und_elemT he), run_sizeT hz, h1, h2, hj, hA]) k
/-- 'xs[lo:]'. -/
theorem slL {b o nn cc sz : Nat} {lo : Operand} {lv : Int} {ki : IntKind} (j : Nat) (hj : j ≤ nn) (hc : nn ≤ cc) (k : RW m P n B ops K l (up ρ d (.slice (some ⟨b, o + (if j = cc then 0 else j * sz), none⟩) (nn - j) (cc - j))) f L)
    (hrun : runP P ops l0 ρ0 = (⟨some d, .slice t x (some lo) none none, ty, pos, af, gd⟩ :: l, ρ) := by rfl) (hg : wantedE ops ρ ⟨some d, .slice t x (some lo) none none, ty, pos, af, gd⟩ = true := by rfl)
    (hx : ev ρ x = .slice (some ⟨b, o, none⟩) nn cc := by rfl) (hy : ev ρ lo = .int ki lv := by rfl) (he : elemT P t = some e := by rfl) (hz : sizeT P e = some sz := by rfl) (hh : lv = j := by rfl) : RW m P n B ops K l0 ρ0 f L := by
  refine rw_runP l0 ρ0 ?_
  rw [hrun]
  subst hh
  exact rw_y hg (fun w hw => by
    have h1 : (0 : Int) ≤ (j : Int) ∧ (j : Int) ≤ (nn : Int) := ⟨by omega, by omega⟩
    have h2 : (0 : Int) ≤ (nn : Int) ∧ (nn : Int) ≤ (cc : Int) := ⟨by omega, by omega⟩
    have e1 : ((cc : Int) - (j : Int)).toNat = cc - j := by omega
    have e2 : ((nn : Int) - (j : Int)).toNat = nn - j := by omega
    by_cases hjc : j = cc
    · subst hjc
      simp [execOp, Instr.sliceAt, Instr.slice, Instr.sliceBounds, Instr.sliceBound, hx, hy, asIntOf, run_und (und_elemT he), run_sizeT hz, h1, h2, hj, hc, add_plain]
    · have e3 : ¬ cc - j = 0 := by omega
      simp [execOp, Instr.sliceAt, Instr.slice, Instr.sliceBounds, Instr.sliceBound, hx, hy, asIntOf, run_und (und_elemT he), run_sizeT hz, h1, h2, hj, hc, add_plain, hjc, e3]
      exact fun h => absurd h.symm hjc) k
theorem exec_append {w w' : World} {s x : Operand} {v v2 r : Value} (hs : ev ρ s = v) (hx : ev ρ x = v2) (h : (Builtin.append_ #[t, t] ty #[v, v2]).run P w = .ok r w') :
    (execOp (ev ρ) ⟨some d, .call ⟨.builtin .append, ⟨[s, x]⟩, ⟨[t, t]⟩⟩, ty, pos, af, gd⟩).run P w = .ok (.value r) w' := by
  subst hs hx
  simp only [execOp, resolve, invoke, builtin, Sem.run_bind, Sem.run_pure, Result.andThen_ok, List.map_toArray, List.map_cons, List.map_nil, h]
theorem below_grown {w w' : World} (h : w.grownBy w' none) : Below w.heap.size w w' := ⟨h.os, h.tape, h.output, h.size, fun i hi => h.block i hi (by simp)⟩
/-- What one has and no room: a new row, the old one stays. -/
theorem appG {s : Operand} {A A2 : Option Addr} {nn c mm c2 sz by_ : Nat} {olds news zs : List Value} (ho : olds.length = nn * sz) (hold : ∀ w, St B f L w → 0 < nn → ∃ b o, A = some ⟨b, o, none⟩ ∧ ∀ j u, olds[j]? = some u → w.cell? ⟨b, o + j, none⟩ = some u) (hnone : A = none → nn = 0 ∧ c = 0) (hfull : c < nn + mm)
    (hl : news.length = mm * sz) (hnews : ∀ w, St B f L w → 0 < mm → ∃ b o, A2 = some ⟨b, o, none⟩ ∧ ∀ j u, news[j]? = some u → w.cell? ⟨b, o + j, none⟩ = some u) (h1 : ∀ u ∈ news, u.oneCell' = true) (hmm : 0 < mm)
    (k : ∀ A' c', RW .s P n B ops K l (up ρ d (.slice A' (nn + mm) c')) f (.row A' (nn + mm) c' e sz (olds ++ news) :: L))
    (hrun : runP P ops l0 ρ0 = (⟨some d, .call ⟨.builtin .append, ⟨[s, x]⟩, ⟨[t, t]⟩⟩, ty, pos, af, gd⟩ :: l, ρ) := by rfl) (hg : wantedE ops ρ ⟨some d, .call ⟨.builtin .append, ⟨[s, x]⟩, ⟨[t, t]⟩⟩, ty, pos, af, gd⟩ = true := by rfl)
    (hs : ev ρ s = .slice A nn c := by rfl) (hx : ev ρ x = .slice A2 mm c2 := by rfl) (he : elemT P t = some e := by rfl) (hz : sizeT P e = some sz := by rfl) (hb : bytesT P e = some by_ := by rfl) (hzz : zeroT P e = some zs := by rfl)
    (hzl : Nat.beq zs.length sz && Nat.ble 1 sz && Nat.ble 1 by_ = true := by rfl) (hlim : (nn + mm) * by_ ≤ 140737488355328 := by omega) : RW .s P n B ops K l0 ρ0 f L := by
  refine rw_runP l0 ρ0 ?_
  rw [hrun]
  simp only [Bool.and_eq_true, Nat.ble_eq] at hzl
  have hzl1 : zs.length = sz := Nat.eq_of_beq_eq_true hzl.1.1
  have hlen : nn + mm ≤ 140737488355328 := Nat.le_trans (Nat.le_mul_of_pos_right _ (Nat.lt_of_succ_le (by have := hzl.2; simpa using this))) hlim
  have h63 : nn + mm ≤ maxLen := by simp only [maxLen]; omega
  unfold zeroT at hzz
  obtain ⟨z, hz1, rfl⟩ := Option.map_eq_some_iff.1 hzz
  obtain ⟨i, hi, hz2⟩ := Option.bind_eq_some_iff.1 hz1
  have hsz : i.size = sz := by unfold sizeT at hz; rw [hi] at hz; simpa using hz
  have hbz : i.bytes = by_ := by unfold bytesT at hb; rw [hi] at hb; simpa using hb
  refine sw_do hg fun w hw => ?_
  obtain ⟨b2, o2, rfl, hc⟩ := hnews w hw hmm
  have hc' : ∀ j u, news[j]? = some u → w.cell? ((⟨b2, o2, none⟩ : Addr).add j) = some u := fun j u hj => by rw [add_plain]; exact hc j u hj
  have key : ∃ v' w', (Builtin.append_ #[t, t] ty #[.slice A nn c, .slice (some ⟨b2, o2, none⟩) mm c2]).run P w = .ok v' w' ∧ w'.ownsRow w.heap.size e sz v' (nn + mm) (olds ++ news) ∧ w.grownBy w' none := by
    cases A with
    | none =>
      obtain ⟨rfl, rfl⟩ := hnone rfl
      obtain rfl : olds = [] := List.eq_nil_of_length_eq_zero (by simpa using ho)
      obtain ⟨v', w', h2, h3, h4, _⟩ := run_append_own (P := P) w w.heap.size t ty e i z sz by_ (und_elemT he) hi hz2 hsz hbz (by rw [← Array.length_toList]; exact hzl1) hzl.1.2 (.slice none 0 0) 0 [] (World.ownsRow_nil w _ e sz) ⟨b2, o2, none⟩ mm c2 news hl hc' h1 h63 hlim (Nat.le_refl _)
      exact ⟨v', w', h2, h3, h4⟩
    | some a =>
      refine run_append_arg_grows (P := P) w t ty e i z sz by_ (und_elemT he) hi hz2 hsz hbz (by rw [← Array.length_toList]; exact hzl1) hzl.1.2 a nn c olds ho (fun j u hj => ?_) ⟨b2, o2, none⟩ mm c2 news hl hc' hfull h63 hlim
      have hn0 : 0 < nn := by
        rcases Nat.eq_zero_or_pos nn with h0 | h0
        · subst h0
          obtain rfl : olds = [] := List.eq_nil_of_length_eq_zero (by simpa using ho)
          simp at hj
        · exact h0
      obtain ⟨b1, o1, e1, hc1⟩ := hold w hw hn0
      injection e1 with e1
      subst e1
      rw [add_plain]
      exact hc1 j u hj
  obtain ⟨v', w', h2, h3, h4⟩ := key
  rcases h3.2 with ⟨rfl, h0⟩ | ⟨g, cap, cur, rfl, hbg, hg2, r⟩
  · omega
  refine ⟨_, w', exec_append hs hx h2, .inl ⟨_, rfl, f, _, ?_, k (some ⟨g, 0, none⟩) cap⟩⟩
  have hgrow := hw.grow (below_grown h4)
  refine hgrow.cons (e := .row (some ⟨g, 0, none⟩) (nn + mm) cap e sz (olds ++ news)) ?_ ?_ ?_ ?_
  · exact ⟨h3.1, .inr ⟨g, cap, cur, rfl, Nat.zero_le _, hg2, r⟩⟩
  · intro b' hb'
    have : g = b' := by simpa [HE.fp] using hb'
    subst this
    exact .inl (Nat.le_trans hw.size hbg)
  · intro b' hb'
    have : g = b' := by simpa [HE.fp] using hb'
    subst this
    exact hw.fresh hbg
  · intro b' hb' y hy hyb
    have : g = b' := by simpa [HE.fp] using hb'
    subst this
    have := hw.fp hy hyb
    omega
/-- The cells of an own row, in any world of the class. -/
theorem St.rowAll {w : World} {i c nn sz : Nat} {A : Option Addr} {xs : List Value} (hw : St B f L w) (hi : L[i]? = some (.row A nn c e sz xs)) (h0 : 0 < nn) : ∃ b o, A = some ⟨b, o, none⟩ ∧ ∀ j u, xs[j]? = some u → w.cell? ⟨b, o + j, none⟩ = some u := by
  have hown : w.ownsRow 0 e sz (.slice A nn c) nn xs := hw.own _ (List.mem_of_getElem? hi)
  obtain ⟨g, rfl⟩ := (row_form hown).2.2.2.1 h0
  exact ⟨g, 0, rfl, fun j u hj => by rw [Nat.zero_add]; exact hw.rowc hi hj⟩
theorem St.rowLen {w : World} {i c nn sz : Nat} {A : Option Addr} {xs : List Value} (hw : St B f L w) (hi : L[i]? = some (.row A nn c e sz xs)) : xs.length = nn * sz ∧ nn ≤ c ∧ c ≤ maxLen ∧ (A = none → nn = 0 ∧ c = 0) :=
  have h := row_form (hw.own _ (List.mem_of_getElem? hi))
  ⟨h.1, h.2.1, h.2.2.1, h.2.2.2.2⟩
/-- Onto an own row (entry i) what stands in an own row (entry j): in place, or in a new row, the old one staying. -/
theorem appT (i j : Nat) {s : Operand} {A A2 : Option Addr} {nn c mm c2 sz by_ : Nat} {olds news zs : List Value} (h1 : ∀ u ∈ news, u.oneCell' = true) (hmm : 0 < mm)
    (k1 : nn + mm ≤ c → RW .s P n B ops K l (up ρ d (.slice A (nn + mm) c)) f (L.set i (.row A (nn + mm) c e sz (olds ++ news))))
    (k2 : c < nn + mm → ∀ A' c', RW .s P n B ops K l (up ρ d (.slice A' (nn + mm) c')) f (.row A' (nn + mm) c' e sz (olds ++ news) :: L))
    (hrun : runP P ops l0 ρ0 = (⟨some d, .call ⟨.builtin .append, ⟨[s, x]⟩, ⟨[t, t]⟩⟩, ty, pos, af, gd⟩ :: l, ρ) := by rfl) (hg : wantedE ops ρ ⟨some d, .call ⟨.builtin .append, ⟨[s, x]⟩, ⟨[t, t]⟩⟩, ty, pos, af, gd⟩ = true := by rfl)
    (hs : ev ρ s = .slice A nn c := by rfl) (hx : ev ρ x = .slice A2 mm c2 := by rfl) (hi : L[i]? = some (.row A nn c e sz olds) := by rfl) (hj : L[j]? = some (.row A2 mm c2 e sz news) := by rfl) (he : elemT P t = some e := by rfl) (hz : sizeT P e = some sz := by rfl) (hb : bytesT P e = some by_ := by rfl) (hzz : zeroT P e = some zs := by rfl)
    (hzl : Nat.beq zs.length sz && Nat.ble 1 sz && Nat.ble 1 by_ = true := by rfl) (hlim : (nn + mm) * by_ ≤ 140737488355328 := by omega) : RW .s P n B ops K l0 ρ0 f L := by
  refine rw_have (p := (olds.length = nn * sz ∧ nn ≤ c ∧ c ≤ maxLen ∧ (A = none → nn = 0 ∧ c = 0)) ∧ (news.length = mm * sz ∧ mm ≤ c2 ∧ c2 ≤ maxLen ∧ (A2 = none → mm = 0 ∧ c2 = 0))) (fun w hw => ⟨hw.rowLen hi, hw.rowLen hj⟩) fun hp => ?_
  obtain ⟨⟨p1, p2, p3, p4⟩, q1, q2, q3, q4⟩ := hp
  by_cases hroom : nn + mm ≤ c
  case neg =>
    exact appG (hfull := by omega) p1 (fun w hw h0 => hw.rowAll hi h0) p4 (hl := q1) (hnews := fun w hw h0 => hw.rowAll hj h0) (h1 := h1) (hmm := hmm) (k := k2 (by omega)) (hrun := hrun) (hg := hg) (hs := hs) (hx := hx) (he := he) (hz := hz) (hb := hb) (hzz := hzz) (hzl := hzl) (hlim := hlim)
  refine rw_runP l0 ρ0 ?_
  rw [hrun]
  simp only [Bool.and_eq_true, Nat.ble_eq] at hzl
  have hlen : nn + mm ≤ 140737488355328 := Nat.le_trans (Nat.le_mul_of_pos_right _ (Nat.lt_of_succ_le (by have := hzl.2; simpa using this))) hlim
  have h63 : nn + mm ≤ maxLen := by simp only [maxLen]; omega
  obtain ⟨z, hz1, rfl⟩ := Option.map_eq_some_iff.1 (show ((P.info? e).bind (·.zero)).map (·.cells.toList) = some zs from hzz)
  obtain ⟨ti, hti, hz2⟩ := Option.bind_eq_some_iff.1 hz1
  have hsz : ti.size = sz := by unfold sizeT at hz; rw [hti] at hz; simpa using hz
  refine sw_do hg fun w hw => ?_
  obtain ⟨b2, o2, rfl, hc⟩ := hw.rowAll hj hmm
  have hc' : ∀ j u, news[j]? = some u → w.cell? ((⟨b2, o2, none⟩ : Addr).add j) = some u := fun j u hj => by rw [add_plain]; exact hc j u hj
  have hown : w.ownsRow 0 e sz (.slice A nn c) nn olds := hw.own _ (List.mem_of_getElem? hi)
  rcases hown.2 with ⟨h0, h00⟩ | ⟨g, cap, cur, hv, hbg, hgc, hnc, hcm, hcs, htake⟩
  · injection h0 with h0 h2 h3
    omega
  injection hv with hv1 _ hv3
  subst hv1 hv3
  have hfit : nn * sz + news.length ≤ cur.size := by rw [q1, hcs, ← Nat.add_mul]; exact Nat.mul_le_mul_right _ hroom
  have hr := run_append_room (P := P) w t ty e ti (und_elemT he) hti g nn c cur hgc ⟨b2, o2, none⟩ mm c2 news (by rw [hsz]; exact q1) hc' h1 hroom (by rw [hsz]; exact hfit)
  rw [hsz] at hr
  refine ⟨_, _, exec_append hs hx hr, .inl ⟨_, rfl, f, _, ?_, k1 hroom⟩⟩
  refine hw.set hi rfl rfl rfl (by simp [World.setRow]) (fun k' _ hk' => setRow_other w g k' _ (fun e => hk' (by rw [e]; rfl))) ?_ (fun b' hb' => .inl hb')
  have hlen2 : (olds ++ news).length = (nn + mm) * sz := by rw [List.length_append, p1, q1, Nat.add_mul]
  refine ⟨hlen2, .inr ⟨g, c, _, rfl, Nat.zero_le _, setRow_heap w g cur _ e _ hgc, hroom, hcm, ?_, ?_⟩⟩
  · simp only [List.size_toArray, List.length_append, List.length_take, List.length_drop, Array.length_toList]
    omega
  · rw [htake, ← hlen2]
    exact List.take_left
end
end Go.Hog

set_option linter.unusedVariables false
set_option linter.unusedSimpArgs false
namespace Go.Hog
open Go.RowKit Rp
section
variable {P : Program} {n : Nat} {B : Bs} {f : View} {L : List HE} {ρ : Env} {Q : Post} {K : Kon} {ops : Array Oper} {m : Md} {l : List Oper} {c : Code}
/-- Slots alone are kept; the blocks are told anew. -/
theorem efg (slots : List (Nat × Value)) (L' : List HE) (k : ∀ ρ', EW P n B c Q (ups ρ' slots) f L') (hh : L = L' := by rfl) (ha : Agree ρ slots := by first | exact trivial | exact ⟨rfl, trivial⟩ | exact ⟨rfl, rfl, trivial⟩ | exact ⟨rfl, rfl, rfl, trivial⟩ | exact ⟨rfl, rfl, rfl, rfl, trivial⟩ | exact ⟨rfl, rfl, rfl, rfl, rfl, trivial⟩ | exact ⟨rfl, rfl, rfl, rfl, rfl, rfl, trivial⟩ | exact ⟨rfl, rfl, rfl, rfl, rfl, rfl, rfl, trivial⟩ | exact ⟨rfl, rfl, rfl, rfl, rfl, rfl, rfl, rfl, trivial⟩ | exact ⟨rfl, rfl, rfl, rfl, rfl, rfl, rfl, rfl, rfl, trivial⟩ | exact ⟨rfl, rfl, rfl, rfl, rfl, rfl, rfl, rfl, rfl, rfl, trivial⟩ | exact ⟨rfl, rfl, rfl, rfl, rfl, rfl, rfl, rfl, rfl, rfl, rfl, trivial⟩ | exact ⟨rfl, rfl, rfl, rfl, rfl, rfl, rfl, rfl, rfl, rfl, rfl, rfl, trivial⟩ | exact ⟨rfl, rfl, rfl, rfl, rfl, rfl, rfl, rfl, rfl, rfl, rfl, rfl, rfl, trivial⟩ | exact ⟨rfl, rfl, rfl, rfl, rfl, rfl, rfl, rfl, rfl, rfl, rfl, rfl, rfl, rfl, trivial⟩ | exact ⟨rfl, rfl, rfl, rfl, rfl, rfl, rfl, rfl, rfl, rfl, rfl, rfl, rfl, rfl, rfl, trivial⟩ | exact ⟨rfl, rfl, rfl, rfl, rfl, rfl, rfl, rfl, rfl, rfl, rfl, rfl, rfl, rfl, rfl, rfl, trivial⟩) : EW P n B c Q ρ f L := by
  subst hh
  rw [← ups_agree ha]
  exact k ρ
theorem rfg (slots : List (Nat × Value)) (L' : List HE) (k : ∀ ρ', RW m P n B ops K l (ups ρ' slots) f L') (hh : L = L' := by rfl) (ha : Agree ρ slots := by first | exact trivial | exact ⟨rfl, trivial⟩ | exact ⟨rfl, rfl, trivial⟩ | exact ⟨rfl, rfl, rfl, trivial⟩ | exact ⟨rfl, rfl, rfl, rfl, trivial⟩ | exact ⟨rfl, rfl, rfl, rfl, rfl, trivial⟩ | exact ⟨rfl, rfl, rfl, rfl, rfl, rfl, trivial⟩ | exact ⟨rfl, rfl, rfl, rfl, rfl, rfl, rfl, trivial⟩ | exact ⟨rfl, rfl, rfl, rfl, rfl, rfl, rfl, rfl, trivial⟩ | exact ⟨rfl, rfl, rfl, rfl, rfl, rfl, rfl, rfl, rfl, trivial⟩ | exact ⟨rfl, rfl, rfl, rfl, rfl, rfl, rfl, rfl, rfl, rfl, trivial⟩ | exact ⟨rfl, rfl, rfl, rfl, rfl, rfl, rfl, rfl, rfl, rfl, rfl, trivial⟩ | exact ⟨rfl, rfl, rfl, rfl, rfl, rfl, rfl, rfl, rfl, rfl, rfl, rfl, trivial⟩ | exact ⟨rfl, rfl, rfl, rfl, rfl, rfl, rfl, rfl, rfl, rfl, rfl, rfl, rfl, trivial⟩ | exact ⟨rfl, rfl, rfl, rfl, rfl, rfl, rfl, rfl, rfl, rfl, rfl, rfl, rfl, rfl, trivial⟩ | exact ⟨rfl, rfl, rfl, rfl, rfl, rfl, rfl, rfl, rfl, rfl, rfl, rfl, rfl, rfl, rfl, trivial⟩ | exact ⟨rfl, rfl, rfl, rfl, rfl, rfl, rfl, rfl, rfl, rfl, rfl, rfl, rfl, rfl, rfl, rfl, trivial⟩) : RW m P n B ops K l ρ f L := by
  subst hh
  rw [← ups_agree ha]
  exact k ρ
/-- The blocks told anew. -/
theorem req (L' : List HE) (k : RW m P n B ops K l ρ f L') (hh : L = L' := by rfl) : RW m P n B ops K l ρ f L := hh ▸ k
/-- A slot's value told anew. -/
theorem rsl (d : Nat) (v : Value) (k : RW m P n B ops K l (up ρ d v) f L) (hv : ρ d = v := by rfl) : RW m P n B ops K l ρ f L := by
  rw [← up_same hv]
  exact k
/-- Known of two ways. -/
theorem bkJ2 {σ : Type} {id : Nat} {c' : Code} (slots : σ → List (Nat × Value)) (vw : σ → View) (hp : σ → List HE) (Inv : σ → Prop) (h1 : EW P n B c (blkQ id (thenQ (JnS slots vw hp Inv) Q)) ρ f L)
    (h2 : ∀ s ρ', Inv s → EW P n B c' Q (ups ρ' (slots s)) (vw s) (hp s)) : EW P n B (.seq (.block id c) c') Q ρ f L := bkJ slots vw hp Inv h1 h2
end
end Go.Hog
