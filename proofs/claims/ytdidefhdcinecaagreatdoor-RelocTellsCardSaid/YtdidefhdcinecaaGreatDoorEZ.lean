/- E28 E30 E29, in one text. -/
import Derived.Test.YtdidefhdcinecaaGreatDoorEW
import Derived.Test.YtdidefhdcinecaaGreatDoorE22
import Derived.Test.YtdidefhdcinecaaGreatDoorMH
import Derived.Lib.AppendStr
import Derived.Lib.Builder
import Derived.Lib.UnsafeStr
import Derived.Laws.Pointers
import Derived.Laws.Externs
import Derived.Laws.Small
import Derived.Test.YtdidefhdcinecaaGreatDoorEY
set_option linter.unusedVariables false
set_option linter.unusedSimpArgs false
namespace Go.Hog
open Go.RowKit Rp Go.Proofs
theorem strCells_eq (u : Str) : Lib.strCells ⟨⟨u⟩⟩ = u.map byteV := by
  unfold Lib.strCells
  rfl
section
variable {P : Program} {n : Nat} {B : Bs} {f : View} {L : List HE} {ρ : Env} {Q : Post} {K : Kon} {ops : Array Oper} {m : Md} {l l0 : List Oper} {ρ0 : Env}
variable {d : Nat} {x y : Operand} {t t2 ty e : TypeId} {pos : String} {af : Array Edge} {gd : Option (Nat × Bool)} {b o : Nat} {v : Value} {vs cs : List Value}
theorem append_str_run {w : World} {s x : Operand} {A : Option Addr} {nn c : Nat} {xs : List Value} {u : Str} (hs : ev ρ s = .slice A nn c) (hx : ev ρ x = str u) (he : elemT P t = some e) (hu : P.underlying t2 = some .string) (hz : sizeT P e = some 1) (hb : bytesT P e = some 1) (hzz : zeroT P e = some [.int .u8 0])
    (hown : w.ownsRow 0 e 1 (.slice A nn c) nn xs) (hlim : nn + u.length ≤ 140737488355328) :
    ∃ A' c' w', (execOp (ev ρ) ⟨some d, .call ⟨.builtin .append, ⟨[s, x]⟩, ⟨[t, t2]⟩⟩, ty, pos, af, gd⟩).run P w = .ok (.value (.slice A' (nn + u.length) c')) w' ∧ w'.ownsRow 0 e 1 (.slice A' (nn + u.length) c') (nn + u.length) (xs ++ u.map byteV) ∧ w.grownBy w' (Value.ownBlock (.slice A nn c)) ∧
      (Value.ownBlock (.slice A' (nn + u.length) c') = Value.ownBlock (.slice A nn c) ∨ Value.ownBlock (.slice A' (nn + u.length) c') = some w.heap.size) := by
  unfold zeroT at hzz
  obtain ⟨z, hz1, hz2⟩ := Option.map_eq_some_iff.1 hzz
  obtain ⟨i, hi, hz3⟩ := Option.bind_eq_some_iff.1 hz1
  have hsz : i.size = 1 := by unfold sizeT at hz; rw [hi] at hz; simpa using hz
  have hbz : i.bytes = 1 := by unfold bytesT at hb; rw [hi] at hb; simpa using hb
  have hzc : z.cells = #[.int .u8 0] := by apply Array.ext'; simpa using hz2
  have ht := und_elemT he
  have hxl : xs.length = nn := by simpa using hown.1
  have hlen : (xs ++ u.map byteV).length = (nn + u.length) * 1 := by rw [List.length_append, hxl, List.length_map, Nat.mul_one]
  have key : ∃ A' c' w', (Builtin.append_ #[t, t2] ty #[.slice A nn c, str u]).run P w = .ok (.slice A' (nn + u.length) c') w' ∧ w'.ownsRow 0 e 1 (.slice A' (nn + u.length) c') (nn + u.length) (xs ++ u.map byteV) ∧ w.grownBy w' (Value.ownBlock (.slice A nn c)) ∧
      (Value.ownBlock (.slice A' (nn + u.length) c') = Value.ownBlock (.slice A nn c) ∨ Value.ownBlock (.slice A' (nn + u.length) c') = some w.heap.size) := by
    have grown : ∀ (old : Nat), old < nn + u.length → ∀ (row : Option Nat) (cells : Array Value), cells.toList.take (nn + u.length) = xs ++ u.map byteV → cells.size = grownCap w (nn + u.length) old e →
        (w.drew.alloc (.cells cells e)).ownsRow 0 e 1 (.slice (some ⟨w.heap.size, 0, none⟩) (nn + u.length) (grownCap w (nn + u.length) old e)) (nn + u.length) (xs ++ u.map byteV) ∧ w.grownBy (w.drew.alloc (.cells cells e)) row := by
      intro old ho row cells h1 h2
      have hge := grownCap_ge w (nn + u.length) old e
      have hcm : grownCap w (nn + u.length) old e ≤ maxLen := grownCap_le_maxLen w (nn + u.length) old e (by simp only [maxLen]; omega)
      exact ⟨⟨hlen, .inr ⟨w.heap.size, _, _, rfl, Nat.zero_le _, heap_alloc_new w.drew _, hge, hcm, by rw [h2, Nat.mul_one], by rw [Nat.mul_one]; exact h1⟩⟩, ⟨rfl, rfl, rfl, by simp, fun k hk _ => heap_alloc_old w.drew _ hk⟩⟩
    rcases hown.2 with ⟨h1, h2⟩ | ⟨g, cap, cur, hv, hbg, hg, hnc, hcm, hcs, htake⟩
    · injection h1 with h1 h3 h4
      subst h1 h3 h4
      have hx0 : xs = [] := List.eq_nil_of_length_eq_zero hxl
      subst hx0
      by_cases hm : u.length = 0
      · have hn : u = [] := List.eq_nil_of_length_eq_zero hm
        subst hn
        refine ⟨none, 0, w, ?_, World.ownsRow_nil w 0 e 1, ⟨rfl, rfl, rfl, Nat.le_refl _, fun _ _ _ => rfl⟩, .inl rfl⟩
        have hf := Lib.run_firstCells_string (P := P) w 1 ⟨⟨[]⟩⟩
        have h0 : (ByteArray.mk ⟨[]⟩).size = 0 := rfl
        rw [h0] at hf
        simp [Builtin.append_, run_und ht, run_und hu, run_sizeT hz, Builtin.lenOf, h0, hf]
      · have h0 : (ByteArray.mk ⟨u⟩).size = u.length := rfl
        have hr := run_append_nil_string (P := P) w t t2 ty e i z ht hu hi hz3 ⟨⟨u⟩⟩ (by rw [h0]; omega) (by rw [h0]; omega) (by rw [hbz, h0]; omega)
        rw [h0] at hr
        have e1 : ((ByteArray.mk ⟨u⟩).data.map fun b => Value.int .u8 b.toNat) = ⟨u.map byteV⟩ := by
          apply Array.ext'
          simp [byteV]
        rw [e1, hzc] at hr
        have hgc := grownCap_ge w u.length 0 e
        obtain ⟨g1, g2⟩ := grown 0 (by omega) (Value.ownBlock (.slice none 0 0)) (⟨u.map byteV⟩ ++ Builtin.zeroCells #[.int .u8 0] (grownCap w u.length 0 e - u.length)) (by
          rw [Nat.zero_add, Array.toList_append, List.nil_append]
          exact List.take_left' (by simp)) (by
          rw [Nat.zero_add, Array.size_append, size_zeroCells]; simp; omega)
        rw [Nat.zero_add] at g1 ⊢
        exact ⟨_, _, _, hr, g1, g2, .inr rfl⟩
    · injection hv with h1 h3 h4
      subst h1 h4
      have h0 : (ByteArray.mk ⟨u⟩).size = u.length := rfl
      by_cases hroom : nn + u.length ≤ c
      · have hcs' : cur.size = c := by simpa using hcs
        have hr := Lib.run_append_room_string (P := P) w t t2 ty e i ht hu hi hsz g nn c cur hg ⟨⟨u⟩⟩ (by rw [h0]; exact hroom) (by rw [h0]; omega)
        rw [h0, strCells_eq] at hr
        refine ⟨_, _, _, hr, ⟨hlen, .inr ⟨g, c, _, rfl, hbg, setRow_heap w g cur _ e _ hg, hroom, hcm, ?_, ?_⟩⟩, ⟨rfl, rfl, rfl, by simp, fun k _ hk => setRow_other w g k _ (fun e => hk (by simp [Value.ownBlock, e]))⟩, .inl rfl⟩
        · simp only [List.size_toArray, List.length_append, List.length_take, List.length_drop, Array.length_toList, List.length_map]
          omega
        · have ht' : cur.toList.take nn = xs := by simpa using htake
          rw [ht', ← hlen]
          exact List.take_left
      · have holds : ∀ j u, xs[j]? = some u → w.cell? ((⟨g, 0, none⟩ : Addr).add j) = some u := hown.cells (g := g) rfl
        have hr := Lib.run_append_grow_string (P := P) w t t2 ty e i z ht hu hi hz3 ⟨g, 0, none⟩ nn c xs (by rw [hsz]; simpa using hxl) holds ⟨⟨u⟩⟩ (by rw [h0]; omega) (by rw [h0]; omega) (by rw [hbz, h0]; exact growslice_fits (by omega) (by omega))
        rw [h0, strCells_eq, hzc] at hr
        have hgc := grownCap_ge w (nn + u.length) c e
        obtain ⟨g1, g2⟩ := grown c (by omega) (Value.ownBlock (.slice (some ⟨g, 0, none⟩) nn c)) (xs.toArray ++ (u.map byteV).toArray ++ Builtin.zeroCells #[.int .u8 0] (grownCap w (nn + u.length) c e - (nn + u.length))) (by
          rw [Array.toList_append, Array.toList_append]
          exact List.take_left' (by simp [hxl])) (by
          rw [Array.size_append, Array.size_append, size_zeroCells]; simp [hxl]; omega)
        exact ⟨_, _, _, hr, g1, g2, .inr rfl⟩
  obtain ⟨A', c', w', h2, h3, h4, h5⟩ := key
  refine ⟨A', c', w', ?_, h3, h4, h5⟩
  simp only [execOp, resolve, invoke, builtin, Sem.run_bind, Sem.run_pure, Result.andThen_ok, List.map_toArray, List.map_cons, List.map_nil, hs, hx, h2]
/-- 'append(s, text...)'. -/
theorem appS (i : Nat) {s : Operand} {A : Option Addr} {nn c : Nat} {xs : List Value} {u : Str} (k : ∀ A' c', RW .s P n B ops K l (up ρ d (.slice A' (nn + u.length) c')) f (L.set i (.row A' (nn + u.length) c' e 1 (xs ++ u.map byteV))))
    (hlim : nn + u.length ≤ 140737488355328)
    (hrun : runP P ops l0 ρ0 = (⟨some d, .call ⟨.builtin .append, ⟨[s, x]⟩, ⟨[t, t2]⟩⟩, ty, pos, af, gd⟩ :: l, ρ) := by rfl) (hg : wantedE ops ρ ⟨some d, .call ⟨.builtin .append, ⟨[s, x]⟩, ⟨[t, t2]⟩⟩, ty, pos, af, gd⟩ = true := by rfl)
    (hs : ev ρ s = .slice A nn c := by rfl) (hx : ev ρ x = str u := by rfl) (hi : L[i]? = some (.row A nn c e 1 xs) := by rfl) (he : elemT P t = some e := by rfl) (hu : isStr P t2 = true := by rfl) (hz : sizeT P e = some 1 := by rfl) (hb : bytesT P e = some 1 := by rfl) (hzz : zeroT P e = some [.int .u8 0] := by rfl) : RW .s P n B ops K l0 ρ0 f L := by
  refine rw_runP l0 ρ0 ?_
  rw [hrun]
  refine sw_do hg fun w hw => ?_
  have hown : w.ownsRow 0 e 1 (.slice A nn c) nn xs := hw.own (.row A nn c e 1 xs) (List.mem_of_getElem? hi)
  obtain ⟨A', c', w', h2, h3, h4, h5⟩ := append_str_run (P := P) (d := d) (ty := ty) (pos := pos) (af := af) (gd := gd) hs hx he (und_isStr hu) hz hb hzz hown hlim
  exact ⟨_, w', h2, .inl ⟨_, rfl, f, _, hw.appended hi h3 h4 h5, k A' c'⟩⟩
/-! ### Pointers -/
def ptrB (P : Program) (t : TypeId) : Bool := match P.underlying t with | some (.pointer e) => Nat.beq e (P.pointee t) && (P.info? e).isSome | _ => false
theorem und_ptrB (h : ptrB P t = true) : ∃ j, P.underlying t = some (.pointer (P.pointee t)) ∧ P.info? (P.pointee t) = some j := by
  unfold ptrB at h
  split at h
  · rename_i e hu
    simp only [Bool.and_eq_true] at h
    have he := Nat.eq_of_beq_eq_true h.1
    obtain ⟨j, hj⟩ := Option.isSome_iff_exists.1 h.2
    exact ⟨j, by rw [← he]; exact hu, by rw [← he]; exact hj⟩
  · cases h
theorem eqPN {p : Option Addr} (k : RW m P n B ops K l (up ρ d (.bool p.isNone)) f L) (hrun : runP P ops l0 ρ0 = (⟨some d, .binOp .eql t x y t2, ty, pos, af, gd⟩ :: l, ρ) := by rfl) (hg : wantedE ops ρ ⟨some d, .binOp .eql t x y t2, ty, pos, af, gd⟩ = true := by rfl)
    (hx : ev ρ x = .pointer p := by rfl) (hy : ev ρ y = .pointer none := by rfl) (he : ptrB P t = true := by rfl) : RW m P n B ops K l0 ρ0 f L := by
  refine rw_runP l0 ρ0 ?_
  rw [hrun]
  obtain ⟨j, h1, _⟩ := und_ptrB he
  exact rw_y hg (fun w hw => by
    have := run_eql_pointer_nil (P := P) w t p h1
    simp [execOp, eqGuard, hx, hy, this]) k
theorem nePP {a : Addr} (k : RW m P n B ops K l (up ρ d (.bool false)) f L) (hrun : runP P ops l0 ρ0 = (⟨some d, .binOp .neq t x y t2, ty, pos, af, gd⟩ :: l, ρ) := by rfl) (hg : wantedE ops ρ ⟨some d, .binOp .neq t x y t2, ty, pos, af, gd⟩ = true := by rfl)
    (hx : ev ρ x = .pointer (some a) := by rfl) (hy : ev ρ y = .pointer (some a) := by rfl) (he : ptrB P t = true := by rfl) : RW m P n B ops K l0 ρ0 f L := by
  refine rw_runP l0 ρ0 ?_
  rw [hrun]
  obtain ⟨j, h1, h2⟩ := und_ptrB he
  exact rw_y hg (fun w hw => by
    have := Lib.run_neq_ptr_same (P := P) w a h1 h2
    simp [execOp, eqGuard, hx, hy, this]) k
theorem St.shp {w : World} {i : Nat} (h : St B f L w) (hi : L[i]? = some (.blk b (.cells ⟨cs⟩ e))) : w.shape? b = some (e, cs.length) := by
  have := h.blk hi
  simp [World.shape?, this]
/-- '(unsafe.Pointer)(p)', p the head of a block of one's own. -/
theorem cvPU (i : Nat) {src dst q : TypeId} {j : Nat} (k : RW m P n B ops K l (up ρ d (.pointer (some ⟨b, 0, none⟩))) f L) (hrun : runP P ops l0 ρ0 = (⟨some d, .convert src dst x, ty, pos, af, gd⟩ :: l, ρ) := by rfl) (hg : wantedE ops ρ ⟨some d, .convert src dst x, ty, pos, af, gd⟩ = true := by rfl)
    (hi : L[i]? = some (.blk b (.cells ⟨cs⟩ e)) := by rfl) (hx : ev ρ x = .pointer (some ⟨b, 0, none⟩) := by rfl) (hsr : P.underlying src = some (.pointer q) := by rfl) (hd : P.underlying dst = some .unsafePointer := by rfl) (hq : sizeT P q = some (j + 1) := by rfl) (hc : Nat.ble 1 cs.length = true := by rfl) : RW m P n B ops K l0 ρ0 f L := by
  refine rw_runP l0 ρ0 ?_
  rw [hrun]
  unfold sizeT at hq
  obtain ⟨ti, h1, h2⟩ := Option.map_eq_some_iff.1 hq
  exact rw_y hg (fun w hw => by
    have := Lib.run_to_unsafe (P := P) w ⟨b, 0, none⟩ hsr hd h1 (by omega) (hw.shp hi) (Nat.le_of_ble_eq_true hc)
    simp [execOp, hx, this]) k
theorem cvUP (i : Nat) {src dst q : TypeId} (k : RW m P n B ops K l (up ρ d (.pointer (some ⟨b, 0, none⟩))) f L) (hl : liesAt P P.depth e (cs.length / P.cellsOf e) 0 q 1 = true) (hrun : runP P ops l0 ρ0 = (⟨some d, .convert src dst x, ty, pos, af, gd⟩ :: l, ρ) := by rfl) (hg : wantedE ops ρ ⟨some d, .convert src dst x, ty, pos, af, gd⟩ = true := by rfl)
    (hi : L[i]? = some (.blk b (.cells ⟨cs⟩ e)) := by rfl) (hx : ev ρ x = .pointer (some ⟨b, 0, none⟩) := by rfl) (hsr : P.underlying src = some .unsafePointer := by rfl) (hd : P.underlying dst = some (.pointer q) := by rfl) (hq : (sizeT P q).isSome = true := by rfl) : RW m P n B ops K l0 ρ0 f L := by
  refine rw_runP l0 ρ0 ?_
  rw [hrun]
  obtain ⟨j, hj⟩ := Option.isSome_iff_exists.1 hq
  unfold sizeT at hj
  obtain ⟨ti, h1, h2⟩ := Option.map_eq_some_iff.1 hj
  exact rw_y hg (fun w hw => by
    have := Lib.run_from_unsafe (P := P) w ⟨b, 0, none⟩ hsr hd h1 (hw.shp hi) hl
    simp [execOp, hx, this]) k
/-- A call of a function that the model stands in for, that yields a value. -/
theorem callX {k : Nat} {args : Array Operand} {at_ : Array TypeId} (r : Value) (h : ∀ w, (callFunc k ⟨vs⟩).run P w = .ok (.value r) w) (kk : RW m P n B ops K l (up ρ d r) f L)
    (hrun : runP P ops l0 ρ0 = (⟨some d, .call ⟨.value (.func k), args, at_⟩, ty, pos, af, gd⟩ :: l, ρ) := by rfl) (hg : wantedE ops ρ ⟨some d, .call ⟨.value (.func k), args, at_⟩, ty, pos, af, gd⟩ = true := by rfl) (ha : args.toList.map (ev ρ) = vs := by rfl) : RW m P n B ops K l0 ρ0 f L := by
  refine rw_runP l0 ρ0 ?_
  rw [hrun]
  have hargs : args.map (ev ρ) = ⟨vs⟩ := by apply Array.ext'; simpa using ha
  exact rw_y hg (fun w hw => by
    simp [execOp, resolve, invoke, ev, hargs, h w, Deferred.ofValue]) kk
/-- A call of a function value that writes in the first entries L1. -/
theorem callMF (L1 L2 : List HE) {k : Nat} {g : Operand} {args : Array Operand} {at_ : Array TypeId} {fi ca tot : List Value} {R : View → List HE → Value → Prop} (h : ∀ w, On f w → Given f L1 w → Con P k tot w (RetM w f L1 R))
    (kk : ∀ v g L', Sub f g → R g L' v → RW .s P n B ops K l (up ρ d v) g (L' ++ L2))
    (hrun : runP P ops l0 ρ0 = (⟨some d, .call ⟨.value g, args, at_⟩, ty, pos, af, gd⟩ :: l, ρ) := by rfl) (hg : wantedE ops ρ ⟨some d, .call ⟨.value g, args, at_⟩, ty, pos, af, gd⟩ = true := by rfl)
    (hf : ev ρ g = .func (.func k) ⟨fi⟩ ⟨ca⟩ := by rfl) (ha : args.toList.map (ev ρ) = vs := by rfl) (ht : fi ++ vs ++ ca = tot := by rfl) : RW .s P n B ops K l0 ρ0 f (L1 ++ L2) := by
  refine rw_runP l0 ρ0 ?_
  rw [hrun]
  refine ⟨fun w hw => ?_⟩
  have hcf := (h w hw.on hw.given).1
  refine SW.out (sw_call (args := ⟨tot⟩) hg (fun w' => run_callfv hcf hf ha ht w') fun w hw => ?_) w hw
  refine (h w hw.on hw.given).2.mono ?_
  rintro en w' ⟨v, g, L', rfl, hs, hR⟩
  exact ⟨v, g, L' ++ L2, rfl, hw.merge hs, kk v g L' hs.ext hR⟩
end
end Go.Hog

set_option linter.unusedVariables false
set_option linter.unusedSimpArgs false
namespace Go.Hog
open Go.RowKit Rp
section
variable {P : Program} {n : Nat} {B : Bs} {f : View} {L : List HE} {ρ : Env} {Q : Post} {K : Kon} {ops : Array Oper} {m : Md} {l l0 : List Oper} {ρ0 : Env}
variable {d : Nat} {x y : Operand} {t t2 ty e : TypeId} {pos : String} {af : Array Edge} {gd : Option (Nat × Bool)} {b o : Nat} {v : Value} {vs cs : List Value}
theorem insO {ks : List Str} {g : Str → Value} {s : Str} {ke ee : TypeId} {z : Value} (i : Nat) (hs : s ∉ ks) {u : Operand} {uv : Value} (k : RW .s P n B ops K l ρ f (L.set i (.mp b (mapF (ks ++ [s]) (updF g s uv))))) (hrun : runP P ops l0 ρ0 = (⟨none, .insert t x y u, ty, pos, af, gd⟩ :: l, ρ) := by rfl) (hg : wantedE ops ρ ⟨none, .insert t x y u, ty, pos, af, gd⟩ = true := by rfl)
    (hi : L[i]? = some (.mp b (mapF ks g)) := by rfl) (hx : ev ρ x = .map (some b) := by rfl) (hy : ev ρ y = str s := by rfl) (hu : ev ρ u = uv := by rfl) (ht : mapS P t = some (ke, ee, z) := by rfl) : RW .s P n B ops K l0 ρ0 f L := by
  refine rw_runP l0 ρ0 ?_
  rw [hrun]
  refine sw_do hg fun w hw => ?_
  obtain ⟨es, clk, hb, he⟩ : ∃ es clk, w.heap[b]? = some (.map es clk) ∧ es.toList.map (fun e => (e.key, e.val)) = mapF ks g := hw.own _ (List.mem_of_getElem? hi)
  obtain ⟨es', h1, h2⟩ := run_update_out ht hb he hs uv
  exact ⟨_, _, by simp only [execOp, hx, hy, hu, Sem.run_bind, h1, Result.andThen_ok]; rfl, .inr ⟨rfl, f, _, hw.mapped hi h2, k⟩⟩
def isFun (P : Program) (t : TypeId) : Bool := match P.underlying t with | some (.func _ _ _) => true | _ => false
theorem und_isFun (h : isFun P t = true) : ∃ a b c, P.underlying t = some (.func a b c) := by
  unfold isFun at h
  split at h
  · exact ⟨_, _, _, by assumption⟩
  · cases h
theorem run_eqlF {fn : Fn} {a b2 : Array Value} (h : isFun P t = true) (w : World) : (binOp .eql t (.func fn a b2) .nilFunc).run P w = .ok (.bool false) w := by
  obtain ⟨p1, p2, p3, hu⟩ := und_isFun h
  have h2 : (Op.equal t (.func fn a b2) .nilFunc).run P w = .ok false w := by
    unfold Op.equal Op.maxDepth
    unfold Op.equalIn
    simp only [Sem.run_bind, run_und hu, Result.andThen_ok, Sem.run_pure]
  simp only [binOp]
  simp [h2]
theorem run_eqlN (h : isFun P t = true) (w : World) : (binOp .eql t .nilFunc .nilFunc).run P w = .ok (.bool true) w := by
  obtain ⟨p1, p2, p3, hu⟩ := und_isFun h
  have h2 : (Op.equal t .nilFunc .nilFunc).run P w = .ok true w := by
    unfold Op.equal Op.maxDepth
    unfold Op.equalIn
    simp only [Sem.run_bind, run_und hu, Result.andThen_ok, Sem.run_pure]
  simp only [binOp]
  simp [h2]
theorem eqFN {fn : Fn} {a b2 : Array Value} (k : RW m P n B ops K l (up ρ d (.bool false)) f L) (hrun : runP P ops l0 ρ0 = (⟨some d, .binOp .eql t x y t2, ty, pos, af, gd⟩ :: l, ρ) := by rfl) (hg : wantedE ops ρ ⟨some d, .binOp .eql t x y t2, ty, pos, af, gd⟩ = true := by rfl)
    (hx : ev ρ x = .func fn a b2 := by rfl) (hy : ev ρ y = .nilFunc := by rfl) (he : isFun P t = true := by rfl) : RW m P n B ops K l0 ρ0 f L := by
  refine rw_runP l0 ρ0 ?_
  rw [hrun]
  exact rw_y hg (fun w hw => by
    simp [execOp, eqGuard, hx, hy, run_eqlF he]) k
theorem eqNN (k : RW m P n B ops K l (up ρ d (.bool true)) f L) (hrun : runP P ops l0 ρ0 = (⟨some d, .binOp .eql t x y t2, ty, pos, af, gd⟩ :: l, ρ) := by rfl) (hg : wantedE ops ρ ⟨some d, .binOp .eql t x y t2, ty, pos, af, gd⟩ = true := by rfl)
    (hx : ev ρ x = .nilFunc := by rfl) (hy : ev ρ y = .nilFunc := by rfl) (he : isFun P t = true := by rfl) : RW m P n B ops K l0 ρ0 f L := by
  refine rw_runP l0 ρ0 ?_
  rw [hrun]
  exact rw_y hg (fun w hw => by
    simp [execOp, eqGuard, hx, hy, run_eqlN he]) k
end
end Go.Hog

set_option linter.unusedVariables false
set_option linter.unusedSimpArgs false
namespace Go.Hog
open Go.RowKit Rp
section
variable {P : Program} {n : Nat} {B : Bs} {f : View} {L : List HE} {ρ : Env} {cs : List Value} {e : TypeId} {b : Nat} {v : Value}
variable {fn : Func} {w0 : World} {f0 : View} {L0 : List HE} {R : View → List HE → Value → Prop}
theorem retA1M (i : Nat) (L2 : List HE) {a : Nat} {ta : TypeId} (hs : ∀ w, St ⟨w0, f0, fps L0⟩ f L w → St ⟨w0, f0, fps L0⟩ f L2 w) (hR : R f L2 (.agg ⟨cs⟩)) (hr : fn.results = #[.cell a ta] := by rfl) (h1 : ρ a = .pointer (some ⟨b, 0, none⟩) := by rfl) (hi : L[i]? = some (.blk b (.cells ⟨cs⟩ e)) := by rfl)
    (ht : aggT P ta = some true := by rfl) (hz : sizeT P ta = some cs.length := by rfl) : retQ P fn ⟨w0, f0, fps L0⟩ (RetM w0 f0 L0 R) .ret ρ f L := by
  intro w hw tmps htm
  have a1 := htm a
  rw [h1] at a1
  have hl := run_loadVarA (P := P) (w := w) (a := ⟨b, 0, none⟩) ht hz (fun j v hj => by rw [add_plain, Nat.zero_add]; exact blk_cell (hw.blk hi) hj)
  refine ⟨.agg ⟨cs⟩, ?_, _, _, _, rfl, hs w hw, hR⟩
  simp only [results, hr]
  simp at a1
  simp [a1, asAddr, hl]
theorem retA2M (i : Nat) (L2 : List HE) {a u : Nat} {ta : TypeId} (hs : ∀ w, St ⟨w0, f0, fps L0⟩ f L w → St ⟨w0, f0, fps L0⟩ f L2 w) (hR : R f L2 (.tuple #[.agg ⟨cs⟩, v])) (hr : fn.results = #[.cell a ta, .tmp u] := by rfl) (h1 : ρ a = .pointer (some ⟨b, 0, none⟩) := by rfl) (hi : L[i]? = some (.blk b (.cells ⟨cs⟩ e)) := by rfl)
    (h2 : ρ u = v := by rfl) (ht : aggT P ta = some true := by rfl) (hz : sizeT P ta = some cs.length := by rfl) : retQ P fn ⟨w0, f0, fps L0⟩ (RetM w0 f0 L0 R) .ret ρ f L := by
  intro w hw tmps htm
  have a1 := htm a
  have a2 := htm u
  rw [h1] at a1
  rw [h2] at a2
  have hl := run_loadVarA (P := P) (w := w) (a := ⟨b, 0, none⟩) ht hz (fun j v hj => by rw [add_plain, Nat.zero_add]; exact blk_cell (hw.blk hi) hj)
  refine ⟨.tuple #[.agg ⟨cs⟩, v], ?_, _, _, _, rfl, hs w hw, hR⟩
  simp only [results, hr]
  simp at a1 a2
  simp [a1, a2, asAddr, hl]
end
end Go.Hog
