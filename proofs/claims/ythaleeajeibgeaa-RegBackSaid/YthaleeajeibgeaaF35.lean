/- Contracts: strings.Builder. -/
import Derived.Test.YthaleeajeibgeaaE28
import Derived.Test.YthaleeajeibgeaaH1
import Derived.Test.YthaleeajeibgeaaE14
set_option linter.unusedVariables false
set_option linter.unusedSimpArgs false
set_option maxRecDepth 100000
set_option maxHeartbeats 1000000
namespace Go.Hog
open Go.RowKit Rp Go.Proofs
/-- A builder of one's own, that holds the text s. -/
def bldr (b : Nat) (p : Value) (A : Option Addr) (c : Nat) (s : Str) : List HE := [.blk b (.cells ⟨[p, .slice A s.length c]⟩ 72), .row A s.length c 5 1 (s.map byteV)]
def ptrTo (b : Nat) : Value := .pointer (some ⟨b, 0, none⟩)
theorem noEscape (v : Value) (w : World) : (callFunc 59 ⟨[v]⟩).run Try.prog w = .ok (.value v) w := by
  rw [run_callFunc_extern Try.func59 (by kernel_rfl) (by kernel_rfl) (by kernel_rfl) (e := Extern.AbiNoEscape.same) (by kernel_rfl)]
  rfl
theorem copyCheck {w : World} {f : View} {b : Nat} {p v : Value} (hv : On f w) (hp : p = .pointer none ∨ p = ptrTo b) (hg : Given f [.blk b (.cells ⟨[p, v]⟩ 72)] w) :
    Con Try.prog 53 [ptrTo b] w (RetM w f [.blk b (.cells ⟨[p, v]⟩ 72)] (fun _ L' _ => L' = [.blk b (.cells ⟨[ptrTo b, v]⟩ 72)])) := by
  refine enterM hv hg Try.call53 Try.func53 ?_
  rcases hp with rfl | rfl
  · refine sg ?_
    refine ldo 0 ?_
    refine eqPN ?_
    refine runE ?_
    refine cT (rg ?_)
    refine cvPU 0 ?_
    refine callX (vs := [ptrTo b]) (ptrTo b) (fun w => noEscape _ w) ?_
    refine cvUP 0 ?_ (by kernel_rfl)
    refine st 0 ?_
    refine runE ?_
    exact ret0M rfl
  · refine sg ?_
    refine ldo 0 ?_
    refine eqPN (p := some ⟨b, 0, none⟩) ?_
    refine runE ?_
    refine cF (sg ?_)
    refine ldo 0 ?_
    refine nePP ?_
    refine runE ?_
    refine cFs ?_
    exact ret0M rfl
theorem writeString {w : World} {f : View} {b : Nat} {p : Value} {A : Option Addr} {c : Nat} {s u : Str} (hv : On f w) (hp : p = .pointer none ∨ p = ptrTo b) (hlim : s.length + u.length ≤ 140737488355328) (hg : Given f (bldr b p A c s) w) :
    Con Try.prog 44 [ptrTo b, str u] w (RetM w f (bldr b p A c s) (fun _ L' _ => ∃ A' c', L' = bldr b (ptrTo b) A' c' (s ++ u))) := by
  refine enterM hv hg Try.call44 Try.func44 ?_
  refine sgE ?_
  refine sg ?_
  refine callM [.blk b (.cells ⟨[p, .slice A s.length c]⟩ 72)] [.row A s.length c 5 1 (s.map byteV)] (vs := [ptrTo b]) (fun w hon hg => copyCheck hon hp hg) (fun v g L' hs hR => ?_)
  subst hR
  refine runE ?_
  refine sg ?_
  refine ldo 0 ?_
  refine appS 1 (fun A' c' => ?_) hlim
  refine st 0 ?_
  refine runE ?_
  refine sgE ?_
  refine ew_ret ?_
  refine ret2M (show ∃ A' c', _ = bldr b (ptrTo b) A' c' (s ++ u) from ⟨A', c', ?_⟩)
  unfold bldr
  rw [List.length_append, List.map_append]
  rfl
section
variable {P : Program} {n : Nat} {B : Bs} {f : View} {L : List HE} {ρ : Env} {Q : Post} {K : Kon} {ops : Array Oper} {m : Md} {l l0 : List Oper} {ρ0 : Env}
variable {d : Nat} {x y : Operand} {t t2 ty e : TypeId} {pos : String} {af : Array Edge} {gd : Option (Nat × Bool)} {b o : Nat} {v : Value} {vs cs : List Value}
theorem usd {nn c : Nat} (hc : 0 < c) (k : RW m P n B ops K l (up ρ d (.pointer (some ⟨b, 0, none⟩))) f L)
    (hrun : runP P ops l0 ρ0 = (⟨some d, .call ⟨.builtin .unsafeSliceData, ⟨[x]⟩, ⟨[t]⟩⟩, ty, pos, af, gd⟩ :: l, ρ) := by rfl) (hg : wantedE ops ρ ⟨some d, .call ⟨.builtin .unsafeSliceData, ⟨[x]⟩, ⟨[t]⟩⟩, ty, pos, af, gd⟩ = true := by rfl) (hx : ev ρ x = .slice (some ⟨b, 0, none⟩) nn c := by rfl) : RW m P n B ops K l0 ρ0 f L := by
  refine rw_runP l0 ρ0 ?_
  rw [hrun]
  exact rw_y hg (fun w hw => by
    have := Lib.run_unsafeSliceData_row (P := P) w #[t] ty ⟨b, 0, none⟩ nn c (by omega)
    simp only [execOp, resolve, invoke, builtin, Sem.run_bind, Sem.run_pure, Result.andThen_ok, List.map_toArray, List.map_cons, List.map_nil, hx, this]) k
theorem usS (i : Nat) {c : Nat} {s : Str} {nI : Int} (hs : s ≠ []) (k : RW .s P n B ops K l (up ρ d (str s)) f (L.eraseIdx i))
    (hrun : runP P ops l0 ρ0 = (⟨some d, .call ⟨.builtin .unsafeString, ⟨[x, y]⟩, ⟨[t, t2]⟩⟩, ty, pos, af, gd⟩ :: l, ρ) := by rfl) (hg : wantedE ops ρ ⟨some d, .call ⟨.builtin .unsafeString, ⟨[x, y]⟩, ⟨[t, t2]⟩⟩, ty, pos, af, gd⟩ = true := by rfl)
    (hx : ev ρ x = .pointer (some ⟨b, 0, none⟩) := by rfl) (hy : ev ρ y = .int .i64 nI := by rfl) (hi : L[i]? = some (.row (some ⟨b, 0, none⟩) s.length c e 1 (s.map byteV)) := by rfl) (hp : P.underlying t = some (.pointer e) := by rfl) (hc : P.cellsOf e = 1 := by rfl) (hn : nI = (s.length : Nat) := by rfl) : RW .s P n B ops K l0 ρ0 f L := by
  refine rw_runP l0 ρ0 ?_
  rw [hrun]
  subst hn
  refine sw_do hg fun w hw => ?_
  have hown : w.ownsRow 0 e 1 (.slice (some ⟨b, 0, none⟩) s.length c) s.length (s.map byteV) := hw.own (.row (some ⟨b, 0, none⟩) s.length c e 1 (s.map byteV)) (List.mem_of_getElem? hi)
  have hcells := hown.cells (g := b) rfl
  rcases hown.2 with ⟨h1, _⟩ | ⟨g, cap, cur, hv, hbg, hg', hnc, hcm, hcs, htake⟩
  · cases h1
  injection hv with h1 h3 h4
  injection h1 with h1
  injection h1 with h1
  subst h1 h4
  have hsh : w.shape? b = some (e, cur.size) := by simp [World.shape?, hg']
  have hr := Lib.run_unsafeString_row (P := P) w t t2 ty e hp hc b cur.size hsh s hs (by omega) (by simp only [maxLen] at hcm; omega) (fun j x hx => by
    have := hcells j (.int .u8 (x.toNat : Int)) (by rw [List.getElem?_map, hx]; rfl)
    exact this)
  have hfz : w.freeze ⟨b, 0, none⟩ s.length = { w with heap := (w.freeze ⟨b, 0, none⟩ s.length).heap } := by
    unfold World.freeze
    split <;> rfl
  have hsize : (w.freeze ⟨b, 0, none⟩ s.length).heap.size = w.heap.size := by
    unfold World.freeze
    split
    · rfl
    · simp
  have hsame : ∀ k, k ≠ b → (w.freeze ⟨b, 0, none⟩ s.length).heap[k]? = w.heap[k]? := fun k hk => by
    unfold World.freeze
    split
    · rfl
    · simp only [Array.getElem?_modify]
      rw [if_neg (fun e => hk e.symm)]
  have hlt : b < (w.freeze ⟨b, 0, none⟩ s.length).heap.size := by
    rw [hsize]; exact (Array.getElem?_eq_some_iff.1 hg').1
  refine ⟨_, w.freeze ⟨b, 0, none⟩ s.length, ?_, .inl ⟨_, rfl, f, _, ?_, k⟩⟩
  · simp only [execOp, resolve, invoke, builtin, Sem.run_bind, Sem.run_pure, Result.andThen_ok, List.map_toArray, List.map_cons, List.map_nil, hx, hy, hr]
  · have h5 := hw.set (w' := w.freeze ⟨b, 0, none⟩ s.length) (e' := .blk b (w.freeze ⟨b, 0, none⟩ s.length).heap[b]) hi (by rw [hfz]) (by rw [hfz]) (by rw [hfz]) (by rw [hsize]; exact Nat.le_refl _) (fun k _ hk => hsame k fun e => hk (by rw [e]; rfl)) (Array.getElem?_eq_getElem hlt) (fun b' hb' => .inl hb')
    refine h5.sublist ?_
    have hil : i < L.length := (List.getElem?_eq_some_iff.1 hi).1
    rw [List.set_eq_take_append_cons_drop, if_pos hil, List.eraseIdx_eq_take_drop_succ]
    exact List.Sublist.append (List.Sublist.refl _) (List.sublist_cons_self _ _)
end
theorem bString {w : World} {f : View} {b : Nat} {p : Value} {A : Option Addr} {c : Nat} {s : Str} (hv : On f w) (hs : s ≠ []) (hg : Given f (bldr b p A c s) w) :
    Con Try.prog 45 [ptrTo b] w (RetM w f (bldr b p A c s) (fun _ L' v => v = str s ∧ L' = [])) := by
  refine enterM hv hg Try.call45 Try.func45 ?_
  have hl : 0 < s.length := List.length_pos_iff.2 hs
  refine sgE ?_
  refine erowF 1 fun hrow => ?_
  obtain ⟨g, rfl⟩ := hrow.2.2.2.1 hl
  have hc : 0 < c := by have := hrow.2.1; omega
  refine sA [3, 4, 8] (bldr b p (some ⟨g, 0, none⟩) c s) (List.Sublist.refl _) ?_
  refine an_takeU [0, 1, 2, 5, 6, 7] ?_
  refine an_takeH [3, 4, 8] HeldL.same ?_
  refine ldo 0 ?_
  refine usd hc ?_
  refine ldo 0 ?_
  refine rw_end ?_
  refine an_takeU [9] ?_
  refine an_run1 10 ?_
  refine usS 1 hs ?_
  refine a0 ?_
  refine an_takeU [11] ?_
  refine an_done ?_
  refine ewL (L' := []) (fun _ h => h.sublist (List.nil_sublist _)) ?_
  refine ew_ret ?_
  exact ret1M ⟨rfl, rfl⟩
end Go.Hog
