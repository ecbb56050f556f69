/- The engine, part 12: appends onto what is full, or may be; slices with a bound of their own. -/
import Derived.Test.YtjjlfbpmbleabaaDoorE11
import Derived.ArgAppend
set_option linter.unusedVariables false
set_option linter.unusedSimpArgs false
namespace Go.Hog
open Go.RowKit Rp
section
variable {P : Program} {n : Nat} {B : Bs} {f : View} {L : List HE} {ρ : Env} {Q : Post} {K : Kon} {ops : Array Oper} {m : Md} {l l0 : List Oper} {ρ0 : Env}
variable {d : Nat} {x y : Operand} {t ty e : TypeId} {pos : String} {af : Array Edge} {gd : Option (Nat × Bool)} {b o : Nat} {v : Value} {vs cs : List Value}
/-- 'xs[:hi:mx]'. -/
theorem slM {A : Option Addr} {nn cc sz : Nat} {hi mx : Operand} {hv mv : Int} {ki kj : IntKind} (j j2 : Nat) (hj : j ≤ j2 ∧ j2 ≤ cc) (k : RW m P n B ops K l (up ρ d (.slice A j j2)) f L)
    (hrun : runP P ops l0 ρ0 = (⟨some d, .slice t x none (some hi) (some mx), ty, pos, af, gd⟩ :: l, ρ) := by rfl) (hg : wantedE ops ρ ⟨some d, .slice t x none (some hi) (some mx), ty, pos, af, gd⟩ = true := by rfl)
    (hx : ev ρ x = .slice A nn cc := by rfl) (hy : ev ρ hi = .int ki hv := by rfl) (hz2 : ev ρ mx = .int kj mv := by rfl) (he : elemT P t = some e := by rfl) (hz : sizeT P e = some sz := by rfl) (hh : hv = j := by rfl) (hm : mv = j2 := by rfl) : RW m P n B ops K l0 ρ0 f L := by
  refine rw_runP l0 ρ0 ?_
  rw [hrun]
  subst hh hm
  exact rw_y hg (fun w hw => by
    have h1 : (0 : Int) ≤ (j : Int) ∧ (j : Int) ≤ (j2 : Int) := ⟨by omega, by omega⟩
    have h2 : (0 : Int) ≤ (j2 : Int) ∧ (j2 : Int) ≤ (cc : Int) := ⟨by omega, by omega⟩
    have hA : Option.map (fun x => x.add 0) A = A := by cases A <;> simp [Addr.add]
    simp [execOp, Instr.sliceAt, Instr.slice, Instr.sliceBounds, Instr.sliceBound, hx, hy, hz2, asIntOf, run_und (und_elemT he), run_sizeT hz, h1, h2, hj, hA]) k
/-- 'xs[lo:]'. -/
theorem slL {b o nn cc sz : Nat} {lo : Operand} {lv : Int} {ki : IntKind} (j : Nat) (hj : j ≤ nn) (hc : nn ≤ cc) (k : RW m P n B ops K l (up ρ d (.slice (some ⟨b, o + (if j = cc then 0 else j * sz), none⟩) (nn - j) (cc - j))) f L)
    (hrun : runP P ops l0 ρ0 = (⟨some d, .slice t x (some lo) none none, ty, pos, af, gd⟩ :: l, ρ) := by rfl) (hg : wantedE ops ρ ⟨some d, .slice t x (some lo) none none, ty, pos, af, gd⟩ = true := by rfl)
    (hx : ev ρ x = .slice (some ⟨b, o, none⟩) nn cc := by rfl) (hy : ev ρ lo = .int ki lv := by rfl) (he : elemT P t = some e := by rfl) (hz : sizeT P e = some sz := by rfl) (hh : lv = j := by rfl) : RW m P n B ops K l0 ρ0 f L := by
  refine rw_runP l0 ρ0 ?_
  rw [hrun]
  subst hh
  exact rw_y hg (fun w hw => by
    have h1 : (0 : Int) ≤ (j : Int) ∧ (j : Int) ≤ (nn : Int) := ⟨by omega, by omega⟩
    have h2 : (0 : Int) ≤ (nn : Int) ∧ (nn : Int) ≤ (cc : Int) := ⟨by omega, by omega⟩
    have e1 : ((cc : Int) - (j : Int)).toNat = cc - j := by omega
    have e2 : ((nn : Int) - (j : Int)).toNat = nn - j := by omega
    by_cases hjc : j = cc
    · subst hjc
      simp [execOp, Instr.sliceAt, Instr.slice, Instr.sliceBounds, Instr.sliceBound, hx, hy, asIntOf, run_und (und_elemT he), run_sizeT hz, h1, h2, hj, hc, add_plain]
    · have e3 : ¬ cc - j = 0 := by omega
      simp [execOp, Instr.sliceAt, Instr.slice, Instr.sliceBounds, Instr.sliceBound, hx, hy, asIntOf, run_und (und_elemT he), run_sizeT hz, h1, h2, hj, hc, add_plain, hjc, e3]
      exact fun h => absurd h.symm hjc) k
theorem exec_append {w w' : World} {s x : Operand} {v v2 r : Value} (hs : ev ρ s = v) (hx : ev ρ x = v2) (h : (Builtin.append_ #[t, t] ty #[v, v2]).run P w = .ok r w') :
    (execOp (ev ρ) ⟨some d, .call ⟨.builtin .append, ⟨[s, x]⟩, ⟨[t, t]⟩⟩, ty, pos, af, gd⟩).run P w = .ok (.value r) w' := by
  subst hs hx
  simp only [execOp, resolve, invoke, builtin, Sem.run_bind, Sem.run_pure, Result.andThen_ok, List.map_toArray, List.map_cons, List.map_nil, h]
theorem below_grown {w w' : World} (h : w.grownBy w' none) : Below w.heap.size w w' := ⟨h.os, h.tape, h.output, h.size, fun i hi => h.block i hi (by simp)⟩
/-- What one has and no room: a new row, the old one stays. -/
theorem appG {s : Operand} {A A2 : Option Addr} {nn c mm c2 sz by_ : Nat} {olds news zs : List Value} (ho : olds.length = nn * sz) (hold : ∀ w, St B f L w → 0 < nn → ∃ b o, A = some ⟨b, o, none⟩ ∧ ∀ j u, olds[j]? = some u → w.cell? ⟨b, o + j, none⟩ = some u) (hnone : A = none → nn = 0 ∧ c = 0) (hfull : c < nn + mm)
    (hl : news.length = mm * sz) (hnews : ∀ w, St B f L w → 0 < mm → ∃ b o, A2 = some ⟨b, o, none⟩ ∧ ∀ j u, news[j]? = some u → w.cell? ⟨b, o + j, none⟩ = some u) (h1 : ∀ u ∈ news, u.oneCell' = true) (hmm : 0 < mm)
    (k : ∀ A' c', RW .s P n B ops K l (up ρ d (.slice A' (nn + mm) c')) f (.row A' (nn + mm) c' e sz (olds ++ news) :: L))
    (hrun : runP P ops l0 ρ0 = (⟨some d, .call ⟨.builtin .append, ⟨[s, x]⟩, ⟨[t, t]⟩⟩, ty, pos, af, gd⟩ :: l, ρ) := by rfl) (hg : wantedE ops ρ ⟨some d, .call ⟨.builtin .append, ⟨[s, x]⟩, ⟨[t, t]⟩⟩, ty, pos, af, gd⟩ = true := by rfl)
    (hs : ev ρ s = .slice A nn c := by rfl) (hx : ev ρ x = .slice A2 mm c2 := by rfl) (he : elemT P t = some e := by rfl) (hz : sizeT P e = some sz := by rfl) (hb : bytesT P e = some by_ := by rfl) (hzz : zeroT P e = some zs := by rfl)
    (hzl : Nat.beq zs.length sz && Nat.ble 1 sz && Nat.ble 1 by_ = true := by rfl) (hlim : (nn + mm) * by_ ≤ 140737488355328 := by omega) : RW .s P n B ops K l0 ρ0 f L := by
  refine rw_runP l0 ρ0 ?_
  rw [hrun]
  simp only [Bool.and_eq_true, Nat.ble_eq] at hzl
  have hzl1 : zs.length = sz := Nat.eq_of_beq_eq_true hzl.1.1
  have hlen : nn + mm ≤ 140737488355328 := Nat.le_trans (Nat.le_mul_of_pos_right _ (Nat.lt_of_succ_le (by have := hzl.2; simpa using this))) hlim
  have h63 : nn + mm ≤ maxLen := by simp only [maxLen]; omega
  unfold zeroT at hzz
  obtain ⟨z, hz1, rfl⟩ := Option.map_eq_some_iff.1 hzz
  obtain ⟨i, hi, hz2⟩ := Option.bind_eq_some_iff.1 hz1
  have hsz : i.size = sz := by unfold sizeT at hz; rw [hi] at hz; simpa using hz
  have hbz : i.bytes = by_ := by unfold bytesT at hb; rw [hi] at hb; simpa using hb
  refine sw_do hg fun w hw => ?_
  obtain ⟨b2, o2, rfl, hc⟩ := hnews w hw hmm
  have hc' : ∀ j u, news[j]? = some u → w.cell? ((⟨b2, o2, none⟩ : Addr).add j) = some u := fun j u hj => by rw [add_plain]; exact hc j u hj
  have key : ∃ v' w', (Builtin.append_ #[t, t] ty #[.slice A nn c, .slice (some ⟨b2, o2, none⟩) mm c2]).run P w = .ok v' w' ∧ w'.ownsRow w.heap.size e sz v' (nn + mm) (olds ++ news) ∧ w.grownBy w' none := by
    cases A with
    | none =>
      obtain ⟨rfl, rfl⟩ := hnone rfl
      obtain rfl : olds = [] := List.eq_nil_of_length_eq_zero (by simpa using ho)
      obtain ⟨v', w', h2, h3, h4, _⟩ := run_append_own (P := P) w w.heap.size t ty e i z sz by_ (und_elemT he) hi hz2 hsz hbz (by rw [← Array.length_toList]; exact hzl1) hzl.1.2 (.slice none 0 0) 0 [] (World.ownsRow_nil w _ e sz) ⟨b2, o2, none⟩ mm c2 news hl hc' h1 h63 hlim (Nat.le_refl _)
      exact ⟨v', w', h2, h3, h4⟩
    | some a =>
      refine run_append_arg_grows (P := P) w t ty e i z sz by_ (und_elemT he) hi hz2 hsz hbz (by rw [← Array.length_toList]; exact hzl1) hzl.1.2 a nn c olds ho (fun j u hj => ?_) ⟨b2, o2, none⟩ mm c2 news hl hc' hfull h63 hlim
      have hn0 : 0 < nn := by
        rcases Nat.eq_zero_or_pos nn with h0 | h0
        · subst h0
          obtain rfl : olds = [] := List.eq_nil_of_length_eq_zero (by simpa using ho)
          simp at hj
        · exact h0
      obtain ⟨b1, o1, e1, hc1⟩ := hold w hw hn0
      injection e1 with e1
      subst e1
      rw [add_plain]
      exact hc1 j u hj
  obtain ⟨v', w', h2, h3, h4⟩ := key
  rcases h3.2 with ⟨rfl, h0⟩ | ⟨g, cap, cur, rfl, hbg, hg2, r⟩
  · omega
  refine ⟨_, w', exec_append hs hx h2, .inl ⟨_, rfl, f, _, ?_, k (some ⟨g, 0, none⟩) cap⟩⟩
  have hgrow := hw.grow (below_grown h4)
  refine hgrow.cons (e := .row (some ⟨g, 0, none⟩) (nn + mm) cap e sz (olds ++ news)) ?_ ?_ ?_ ?_
  · exact ⟨h3.1, .inr ⟨g, cap, cur, rfl, Nat.zero_le _, hg2, r⟩⟩
  · intro b' hb'
    have : g = b' := by simpa [HE.fp] using hb'
    subst this
    exact .inl (Nat.le_trans hw.size hbg)
  · intro b' hb'
    have : g = b' := by simpa [HE.fp] using hb'
    subst this
    exact hw.fresh hbg
  · intro b' hb' y hy hyb
    have : g = b' := by simpa [HE.fp] using hb'
    subst this
    have := hw.fp hy hyb
    omega
/-- The cells of an own row, in any world of the class. -/
theorem St.rowAll {w : World} {i c nn sz : Nat} {A : Option Addr} {xs : List Value} (hw : St B f L w) (hi : L[i]? = some (.row A nn c e sz xs)) (h0 : 0 < nn) : ∃ b o, A = some ⟨b, o, none⟩ ∧ ∀ j u, xs[j]? = some u → w.cell? ⟨b, o + j, none⟩ = some u := by
  have hown : w.ownsRow 0 e sz (.slice A nn c) nn xs := hw.own _ (List.mem_of_getElem? hi)
  obtain ⟨g, rfl⟩ := (row_form hown).2.2.2.1 h0
  exact ⟨g, 0, rfl, fun j u hj => by rw [Nat.zero_add]; exact hw.rowc hi hj⟩
theorem St.rowLen {w : World} {i c nn sz : Nat} {A : Option Addr} {xs : List Value} (hw : St B f L w) (hi : L[i]? = some (.row A nn c e sz xs)) : xs.length = nn * sz ∧ nn ≤ c ∧ c ≤ maxLen ∧ (A = none → nn = 0 ∧ c = 0) :=
  have h := row_form (hw.own _ (List.mem_of_getElem? hi))
  ⟨h.1, h.2.1, h.2.2.1, h.2.2.2.2⟩
/-- Onto an own row (entry i) what stands in an own row (entry j): in place, or in a new row, the old one staying. -/
theorem appT (i j : Nat) {s : Operand} {A A2 : Option Addr} {nn c mm c2 sz by_ : Nat} {olds news zs : List Value} (h1 : ∀ u ∈ news, u.oneCell' = true) (hmm : 0 < mm)
    (k1 : nn + mm ≤ c → RW .s P n B ops K l (up ρ d (.slice A (nn + mm) c)) f (L.set i (.row A (nn + mm) c e sz (olds ++ news))))
    (k2 : c < nn + mm → ∀ A' c', RW .s P n B ops K l (up ρ d (.slice A' (nn + mm) c')) f (.row A' (nn + mm) c' e sz (olds ++ news) :: L))
    (hrun : runP P ops l0 ρ0 = (⟨some d, .call ⟨.builtin .append, ⟨[s, x]⟩, ⟨[t, t]⟩⟩, ty, pos, af, gd⟩ :: l, ρ) := by rfl) (hg : wantedE ops ρ ⟨some d, .call ⟨.builtin .append, ⟨[s, x]⟩, ⟨[t, t]⟩⟩, ty, pos, af, gd⟩ = true := by rfl)
    (hs : ev ρ s = .slice A nn c := by rfl) (hx : ev ρ x = .slice A2 mm c2 := by rfl) (hi : L[i]? = some (.row A nn c e sz olds) := by rfl) (hj : L[j]? = some (.row A2 mm c2 e sz news) := by rfl) (he : elemT P t = some e := by rfl) (hz : sizeT P e = some sz := by rfl) (hb : bytesT P e = some by_ := by rfl) (hzz : zeroT P e = some zs := by rfl)
    (hzl : Nat.beq zs.length sz && Nat.ble 1 sz && Nat.ble 1 by_ = true := by rfl) (hlim : (nn + mm) * by_ ≤ 140737488355328 := by omega) : RW .s P n B ops K l0 ρ0 f L := by
  refine rw_have (p := (olds.length = nn * sz ∧ nn ≤ c ∧ c ≤ maxLen ∧ (A = none → nn = 0 ∧ c = 0)) ∧ (news.length = mm * sz ∧ mm ≤ c2 ∧ c2 ≤ maxLen ∧ (A2 = none → mm = 0 ∧ c2 = 0))) (fun w hw => ⟨hw.rowLen hi, hw.rowLen hj⟩) fun hp => ?_
  obtain ⟨⟨p1, p2, p3, p4⟩, q1, q2, q3, q4⟩ := hp
  by_cases hroom : nn + mm ≤ c
  case neg =>
    exact appG (hfull := by omega) p1 (fun w hw h0 => hw.rowAll hi h0) p4 (hl := q1) (hnews := fun w hw h0 => hw.rowAll hj h0) (h1 := h1) (hmm := hmm) (k := k2 (by omega)) (hrun := hrun) (hg := hg) (hs := hs) (hx := hx) (he := he) (hz := hz) (hb := hb) (hzz := hzz) (hzl := hzl) (hlim := hlim)
  refine rw_runP l0 ρ0 ?_
  rw [hrun]
  simp only [Bool.and_eq_true, Nat.ble_eq] at hzl
  have hlen : nn + mm ≤ 140737488355328 := Nat.le_trans (Nat.le_mul_of_pos_right _ (Nat.lt_of_succ_le (by have := hzl.2; simpa using this))) hlim
  have h63 : nn + mm ≤ maxLen := by simp only [maxLen]; omega
  obtain ⟨z, hz1, rfl⟩ := Option.map_eq_some_iff.1 (show ((P.info? e).bind (·.zero)).map (·.cells.toList) = some zs from hzz)
  obtain ⟨ti, hti, hz2⟩ := Option.bind_eq_some_iff.1 hz1
  have hsz : ti.size = sz := by unfold sizeT at hz; rw [hti] at hz; simpa using hz
  refine sw_do hg fun w hw => ?_
  obtain ⟨b2, o2, rfl, hc⟩ := hw.rowAll hj hmm
  have hc' : ∀ j u, news[j]? = some u → w.cell? ((⟨b2, o2, none⟩ : Addr).add j) = some u := fun j u hj => by rw [add_plain]; exact hc j u hj
  have hown : w.ownsRow 0 e sz (.slice A nn c) nn olds := hw.own _ (List.mem_of_getElem? hi)
  rcases hown.2 with ⟨h0, h00⟩ | ⟨g, cap, cur, hv, hbg, hgc, hnc, hcm, hcs, htake⟩
  · injection h0 with h0 h2 h3
    omega
  injection hv with hv1 _ hv3
  subst hv1 hv3
  have hfit : nn * sz + news.length ≤ cur.size := by rw [q1, hcs, ← Nat.add_mul]; exact Nat.mul_le_mul_right _ hroom
  have hr := run_append_room (P := P) w t ty e ti (und_elemT he) hti g nn c cur hgc ⟨b2, o2, none⟩ mm c2 news (by rw [hsz]; exact q1) hc' h1 hroom (by rw [hsz]; exact hfit)
  rw [hsz] at hr
  refine ⟨_, _, exec_append hs hx hr, .inl ⟨_, rfl, f, _, ?_, k1 hroom⟩⟩
  refine hw.set hi rfl rfl rfl (by simp [World.setRow]) (fun k' _ hk' => setRow_other w g k' _ (fun e => hk' (by rw [e]; rfl))) ?_ (fun b' hb' => .inl hb')
  have hlen2 : (olds ++ news).length = (nn + mm) * sz := by rw [List.length_append, p1, q1, Nat.add_mul]
  refine ⟨hlen2, .inr ⟨g, c, _, rfl, Nat.zero_le _, setRow_heap w g cur _ e _ hgc, hroom, hcm, ?_, ?_⟩⟩
  · simp only [List.size_toArray, List.length_append, List.length_take, List.length_drop, Array.length_toList]
    omega
  · rw [htake, ← hlen2]
    exact List.take_left
end
end Go.Hog
