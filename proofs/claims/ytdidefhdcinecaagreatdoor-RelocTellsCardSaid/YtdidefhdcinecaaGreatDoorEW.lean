/- E24 E25 E31, in one text. -/
import Derived.Test.YtdidefhdcinecaaGreatDoorMH
import Derived.Test.YtdidefhdcinecaaGreatDoorF1
import Derived.Laws.IdiomStrings
import Derived.Laws.AppendOwn
import Derived.Test.YtdidefhdcinecaaGreatDoorSH
import Derived.Lib.IndexMore
set_option linter.unusedVariables false
set_option linter.unusedSimpArgs false
namespace Go.Hog
open Go.RowKit Rp Go.Proofs
theorem extract_str (s : Str) (i j : Nat) : (ByteArray.mk ⟨s⟩).extract i j = ⟨⟨(s.take j).drop i⟩⟩ := by
  apply ByteArray.ext
  rw [ByteArray.data_extract]
  apply Array.ext'
  rw [Array.toList_extract, List.extract_eq_drop_take', List.drop_take]
section
variable {P : Program} {n : Nat} {B : Bs} {f : View} {L : List HE} {ρ : Env} {Q : Post} {K : Kon} {ops : Array Oper} {m : Md} {l l0 : List Oper} {ρ0 : Env}
variable {d : Nat} {x y : Operand} {t ty e : TypeId} {pos : String} {af : Array Edge} {gd : Option (Nat × Bool)} {b o : Nat} {v : Value} {vs cs : List Value}
/-- 's[:hi]'. -/
theorem slSH {s : Str} {hi : Operand} {hv : Int} {ki : IntKind} (j : Nat) (hj : j ≤ s.length) (k : RW m P n B ops K l (up ρ d (str (s.take j))) f L)
    (hrun : runP P ops l0 ρ0 = (⟨some d, .slice t x none (some hi) none, ty, pos, af, gd⟩ :: l, ρ) := by rfl) (hg : wantedE ops ρ ⟨some d, .slice t x none (some hi) none, ty, pos, af, gd⟩ = true := by rfl)
    (hx : ev ρ x = str s := by rfl) (hy : ev ρ hi = .int ki hv := by rfl) (he : isStr P t = true := by rfl) (hh : hv = j := by rfl) : RW m P n B ops K l0 ρ0 f L := by
  refine rw_runP l0 ρ0 ?_
  rw [hrun]
  subst hh
  exact rw_y hg (fun w hw => by
    have h1 : (0 : Int) ≤ (j : Int) ∧ (j : Int) ≤ ((ByteArray.mk ⟨s⟩).size : Int) := ⟨by omega, by show (j : Int) ≤ (s.length : Int); omega⟩
    have h0 : j ≤ (ByteArray.mk ⟨s⟩).size := hj
    simp [execOp, Instr.sliceAt, Instr.slice, Instr.sliceBounds, Instr.sliceBound, hx, hy, asIntOf, run_und (und_isStr he), h1, h0, extract_str]) k
/-- 's[lo:]'. -/
theorem slSL {s : Str} {lo : Operand} {lv : Int} {ki : IntKind} (j : Nat) (hj : j ≤ s.length) (k : RW m P n B ops K l (up ρ d (str (s.drop j))) f L)
    (hrun : runP P ops l0 ρ0 = (⟨some d, .slice t x (some lo) none none, ty, pos, af, gd⟩ :: l, ρ) := by rfl) (hg : wantedE ops ρ ⟨some d, .slice t x (some lo) none none, ty, pos, af, gd⟩ = true := by rfl)
    (hx : ev ρ x = str s := by rfl) (hy : ev ρ lo = .int ki lv := by rfl) (he : isStr P t = true := by rfl) (hh : lv = j := by rfl) : RW m P n B ops K l0 ρ0 f L := by
  refine rw_runP l0 ρ0 ?_
  rw [hrun]
  subst hh
  exact rw_y hg (fun w hw => by
    have h1 : (0 : Int) ≤ (j : Int) ∧ (j : Int) ≤ ((ByteArray.mk ⟨s⟩).size : Int) := ⟨by omega, by show (j : Int) ≤ (s.length : Int); omega⟩
    have h0 : j ≤ (ByteArray.mk ⟨s⟩).size := hj
    have h2 : (s.take (ByteArray.mk ⟨s⟩).size) = s := List.take_length
    simp [execOp, Instr.sliceAt, Instr.slice, Instr.sliceBounds, Instr.sliceBound, hx, hy, asIntOf, run_und (und_isStr he), h1, h0, extract_str, h2]) k
/-- 's[lo:hi]'. -/
theorem slSB {s : Str} {lo hi : Operand} {lv hv : Int} {ki kj : IntKind} (i j : Nat) (hi0 : i ≤ j) (hj : j ≤ s.length) (k : RW m P n B ops K l (up ρ d (str ((s.take j).drop i))) f L)
    (hrun : runP P ops l0 ρ0 = (⟨some d, .slice t x (some lo) (some hi) none, ty, pos, af, gd⟩ :: l, ρ) := by rfl) (hg : wantedE ops ρ ⟨some d, .slice t x (some lo) (some hi) none, ty, pos, af, gd⟩ = true := by rfl)
    (hx : ev ρ x = str s := by rfl) (hlo : ev ρ lo = .int ki lv := by rfl) (hy : ev ρ hi = .int kj hv := by rfl) (he : isStr P t = true := by rfl) (hl : lv = i := by rfl) (hh : hv = j := by rfl) : RW m P n B ops K l0 ρ0 f L := by
  refine rw_runP l0 ρ0 ?_
  rw [hrun]
  subst hh hl
  exact rw_y hg (fun w hw => by
    have h1 : (0 : Int) ≤ (j : Int) ∧ (j : Int) ≤ ((ByteArray.mk ⟨s⟩).size : Int) := ⟨by omega, by show (j : Int) ≤ (s.length : Int); omega⟩
    have h0 : j ≤ (ByteArray.mk ⟨s⟩).size := hj
    have h2 : (0 : Int) ≤ (i : Int) ∧ (i : Int) ≤ (j : Int) := ⟨by omega, by omega⟩
    simp [execOp, Instr.sliceAt, Instr.slice, Instr.sliceBounds, Instr.sliceBound, hx, hy, hlo, asIntOf, run_und (und_isStr he), h1, h2, h0, hi0, extract_str]) k
/-- 'xs[lo:hi]', a row or a block that has more room. -/
theorem slLH {nn cc sz : Nat} {lo hi : Operand} {lv hv : Int} {ki kj : IntKind} (i j : Nat) (hi0 : i ≤ j) (hic : i < cc) (hj : j ≤ cc) (k : RW m P n B ops K l (up ρ d (.slice (some ⟨b, o + i * sz, none⟩) (j - i) (cc - i))) f L)
    (hrun : runP P ops l0 ρ0 = (⟨some d, .slice t x (some lo) (some hi) none, ty, pos, af, gd⟩ :: l, ρ) := by rfl) (hg : wantedE ops ρ ⟨some d, .slice t x (some lo) (some hi) none, ty, pos, af, gd⟩ = true := by rfl)
    (hx : ev ρ x = .slice (some ⟨b, o, none⟩) nn cc := by rfl) (hlo : ev ρ lo = .int ki lv := by rfl) (hy : ev ρ hi = .int kj hv := by rfl) (he : elemT P t = some e := by rfl) (hz : sizeT P e = some sz := by rfl) (hl : lv = i := by rfl) (hh : hv = j := by rfl) : RW m P n B ops K l0 ρ0 f L := by
  refine rw_runP l0 ρ0 ?_
  rw [hrun]
  subst hh hl
  exact rw_y hg (fun w hw => by
    have h1 : (0 : Int) ≤ (j : Int) ∧ (j : Int) ≤ (cc : Int) := ⟨by omega, by omega⟩
    have h2 : (0 : Int) ≤ (i : Int) ∧ (i : Int) ≤ (j : Int) := ⟨by omega, by omega⟩
    have e3 : ¬ cc = i := by omega
    simp [execOp, Instr.sliceAt, Instr.slice, Instr.sliceBounds, Instr.sliceBound, hx, hy, hlo, asIntOf, run_und (und_elemT he), run_sizeT hz, h1, h2, hi0, hj, add_plain, e3]) k
/-- '[]byte(s)'. -/
theorem cvSB {src dst : TypeId} {s : Str} (k : ∀ bb c (cur : Array Value) fr, s.length ≤ c → c ≤ maxLen → (∀ (j : Nat) (v : Value), (s.map byteV)[j]? = some v → cur[j]? = some v) → RW .s P n B ops K l (up ρ d (.slice (some ⟨bb, 0, none⟩) s.length c)) f (.blk bb (.cells cur e fr) :: L))
    (hlim : s.length ≤ maxLen)
    (hrun : runP P ops l0 ρ0 = (⟨some d, .convert src dst x, ty, pos, af, gd⟩ :: l, ρ) := by rfl) (hg : wantedE ops ρ ⟨some d, .convert src dst x, ty, pos, af, gd⟩ = true := by rfl)
    (hx : ev ρ x = str s := by rfl) (hsr : isStr P src = true := by rfl) (hd : u8T P dst = some e := by rfl) : RW .s P n B ops K l0 ρ0 f L := by
  refine rw_runP l0 ρ0 ?_
  rw [hrun]
  refine sw_do hg fun w hw => ?_
  have h := run_bytes_of_string (P := P) w src dst e ⟨⟨s⟩⟩ (und_isStr hsr) (und_u8T hd).1 (und_u8T hd).2
  have h2 : (execOp (ev ρ) ⟨some d, .convert src dst x, ty, pos, af, gd⟩).run P w = .ok (.value (.slice (some ⟨w.heap.size, 0, none⟩) s.length (grownCap w s.length 0 e))) (w.drew.alloc (.cells (bytesRow ⟨⟨s⟩⟩ (grownCap w s.length 0 e)) e ((bytesRow ⟨⟨s⟩⟩ (grownCap w s.length 0 e)).size, (bytesRow ⟨⟨s⟩⟩ (grownCap w s.length 0 e)).size + 1))) := by
    simp only [execOp, hx, Sem.run_bind, h, Result.andThen_ok, Sem.run_pure]
    rfl
  refine ⟨_, _, h2, .inl ⟨_, rfl, f, .blk w.heap.size (.cells (bytesRow ⟨⟨s⟩⟩ (grownCap w s.length 0 e)) e ((bytesRow ⟨⟨s⟩⟩ (grownCap w s.length 0 e)).size, (bytesRow ⟨⟨s⟩⟩ (grownCap w s.length 0 e)).size + 1)) :: L, ?_, k w.heap.size (grownCap w s.length 0 e) _ _ (grownCap_ge _ _ _ _) (grownCap_le_maxLen _ _ _ _ hlim) (fun j v hj => ?_)⟩⟩
  · exact (hw.drawn (w.drawn + 1)).new (e := .blk w.heap.size _) (heap_new _ _) rfl
  · have hlt : j < s.length := by simpa using (List.getElem?_eq_some_iff.1 hj).1
    rw [bytesRow_at _ _ j hlt, ← hj]
    simp [byteV, hlt]
end
/-- A contract of the kit's that leaves the world as it was. -/
theorem conStill {P : Program} {k : Nat} {vs : List Value} {w : World} {f : View} {v : Value} (hcf : ∀ args w, (callFunc k args).run P w = .ok (.enter k args) w) (hv : On f w) (h : Calls P k vs.toArray w fun e w' => e = .returned v ∧ w' = w) : Con P k vs w (Ret w f fun _ v' => v' = v) :=
  ⟨hcf, h.mono fun e w' ⟨he, hw⟩ => ⟨v, f, he, hw ▸ Below.refl _ _, Sub.refl _, fun _ _ => rfl, hw ▸ hv, rfl⟩⟩
theorem blk_sl {g : View} {b c : Nat} {cur : Array Value} {e : TypeId} {fr : Nat × Nat} {s : Str} (h : (HE.blk b (.cells cur e fr)).seen g) (hl : s.length ≤ LB) (h1 : s.length ≤ c) (h2 : c ≤ maxLen) (hc : ∀ (j : Nat) (v : Value), (s.map byteV)[j]? = some v → cur[j]? = some v) : Sl g (some ⟨b, 0, none⟩) c s := by
  refine ⟨h1, hl, h2, fun j hj => ⟨b, 0, rfl, [byteV s[j]], rfl, ?_, trivial⟩⟩
  have h3 : g b = some (.cells cur e fr) := h
  have h4 := hc j (byteV s[j]) (by simp [hj])
  have h5 : 0 + j * Rp.sz UInt8 = j := by show 0 + j * 1 = j; omega
  rw [h5]
  simp only [View.cell?, h3]
  simpa using h4
section
variable {P : Program} {n : Nat} {B : Bs} {f : View} {L : List HE} {ρ : Env} {K : Kon} {ops : Array Oper} {m : Md} {l l0 : List Oper} {ρ0 : Env} {d : Nat} {x y : Operand} {ty : TypeId} {pos : String} {af : Array Edge} {gd : Option (Nat × Bool)} {at_ : Array TypeId} {kk k2 : IntKind} {a b : Int}
theorem maxI (r : Int) (hr : (if a < b then b else a) = r) (k : RW m P n B ops K l (up ρ d (.int kk r)) f L) (hrun : runP P ops l0 ρ0 = (⟨some d, .call ⟨.builtin .max, ⟨[x, y]⟩, at_⟩, ty, pos, af, gd⟩ :: l, ρ) := by rfl) (hg : wantedE ops ρ ⟨some d, .call ⟨.builtin .max, ⟨[x, y]⟩, at_⟩, ty, pos, af, gd⟩ = true := by rfl)
    (hx : ev ρ x = .int kk a := by rfl) (hy : ev ρ y = .int k2 b := by rfl) : RW m P n B ops K l0 ρ0 f L := by
  refine rw_runP l0 ρ0 ?_
  rw [hrun]
  subst hr
  exact rw_y hg (fun w _ => by simp [execOp, resolve, invoke, builtin, Builtin.max_, Builtin.max2, Builtin.min2, hx, hy]) k
end
end Go.Hog

set_option linter.unusedVariables false
set_option linter.unusedSimpArgs false
namespace Go.Hog
open Go.RowKit Rp Go.Proofs
/-- The library's own variable holds some number. -/
def ML (f : View) : Prop := ∃ m, f.cell? ⟨0, 0, none⟩ = some (i64 m)
theorem ML.mono {f g : View} (hs : Sub f g) (h : ML f) : ML g := let ⟨m, hm⟩ := h; ⟨m, hs.cell hm⟩
theorem ML.ofShape {w : World} (h : w.ShapedOpen Tryz.prog) : ML (whole w) := by
  obtain ⟨m, hm⟩ := Tryz.laysM219.s1_3 w h
  refine ⟨m, ?_⟩
  simp only [World.cell?, View.cell?, whole] at hm ⊢
  exact hm
theorem indexByteC {w : World} {f : View} (hv : On f w) {s : Str} {c : UInt8} : Con Tryz.prog 95 [str s, .int .u8 (c.toNat : Int)] w (Ret w f fun _ v => v = i64 (Lib.indexByte s c)) := by
  have e : ((c.toNat : Int).toNat).toUInt8 = c := by simp
  have h := Tryz.strings_IndexByte ⟨⟨s⟩⟩ (c.toNat : Int) w
  rw [e] at h
  exact conStill Tryz.call95 hv h
theorem indexC {w : World} {f : View} (hv : On f w) (hm : ML f) {s u : Str} (hs : s.length < 4294967281) : Con Tryz.prog 45 [str s, str u] w (Ret w f fun _ v => v = i64 (Lib.index s u)) := by
  obtain ⟨m, hm⟩ := hm
  exact conStill Tryz.call45 hv (Tryz.strings_Index ⟨⟨s⟩⟩ ⟨⟨u⟩⟩ m w hs (hv.cell hm))
theorem containsC {w : World} {f : View} (hv : On f w) (hm : ML f) {s u : Str} (hs : s.length < 4294967281) : Con Tryz.prog 66 [str s, str u] w (Ret w f fun _ v => v = .bool (Lib.contains s u)) := by
  obtain ⟨m, hm⟩ := hm
  exact conStill Tryz.call66 hv (Tryz.strings_Contains ⟨⟨s⟩⟩ ⟨⟨u⟩⟩ m w hs (hv.cell hm))
theorem conDrew {P : Program} {k : Nat} {vs : List Value} {w : World} {f : View} {v : Value} (hcf : ∀ args w, (callFunc k args).run P w = .ok (.enter k args) w) (hv : On f w) (h : Calls P k vs.toArray w fun e w' => e = .returned v ∧ ∃ n, w' = w.drewN n) : Con P k vs w (Ret w f fun _ v' => v' = v) := by
  refine ⟨hcf, h.mono ?_⟩
  rintro e w' ⟨he, n, rfl⟩
  exact ⟨v, f, he, ⟨rfl, rfl, rfl, Nat.le_refl _, fun _ _ => rfl⟩, Sub.refl _, fun _ _ => rfl, fun i o hi => hv i o hi, rfl⟩
end Go.Hog

set_option linter.unusedVariables false
set_option linter.unusedSimpArgs false
namespace Go.Hog
open Go.RowKit Rp Go.Proofs
theorem lastIndexByteC {w : World} {f : View} (hv : On f w) {s : Str} {c : UInt8} (hs : s.length < 4611686018427387904) : Con Tryz.prog 125 [str s, .int .u8 (c.toNat : Int)] w (Ret w f fun _ v => v = i64 (Lib.lastIndexByte ⟨⟨s⟩⟩ (c.toNat : Int))) :=
  conStill Tryz.call125 hv (Tryz.strings_LastIndexByte ⟨⟨s⟩⟩ (c.toNat : Int) hs w)
theorem hasPrefixC {w : World} {f : View} (hv : On f w) {s u : Str} : Con Tryz.prog 127 [str s, str u] w (Ret w f fun _ v => v = .bool (Lib.hasPrefix s u)) :=
  conStill Tryz.call127 hv (Tryz.strings_HasPrefix ⟨⟨s⟩⟩ ⟨⟨u⟩⟩ w)
def splitL (s u : Str) : List Str := (Lib.splitB ⟨⟨u⟩⟩ 0 (Lib.countB ⟨⟨s⟩⟩ ⟨⟨u⟩⟩) ⟨⟨s⟩⟩).map (·.data.toList)
theorem splitL_len {s u : Str} (hu : 1 ≤ u.length) : (splitL s u).length = Lib.countB ⟨⟨s⟩⟩ ⟨⟨u⟩⟩ + 1 := by
  unfold splitL
  rw [List.length_map]
  exact Lib.splitB_all ⟨⟨u⟩⟩ hu 0 _ ⟨⟨s⟩⟩ rfl
theorem splitL_le {s u : Str} (hu : 1 ≤ u.length) : (splitL s u).length ≤ s.length + 1 := by
  rw [splitL_len hu]
  have h := Lib.countB_le (⟨⟨u⟩⟩ : ByteArray) hu s.length ⟨⟨s⟩⟩ (Nat.le_refl _)
  have h2 : Lib.countB ⟨⟨s⟩⟩ ⟨⟨u⟩⟩ ≤ s.length := h
  omega
theorem splitB_size (sep : ByteArray) : ∀ (k : Nat) (s : ByteArray), ∀ x ∈ Lib.splitB sep 0 k s, x.size ≤ s.size
  | 0, s, x, hx => by
    rw [show Lib.splitB sep 0 0 s = [s] from rfl, List.mem_singleton] at hx
    rw [hx]; exact Nat.le_refl _
  | k + 1, s, x, hx => by
    unfold Lib.splitB at hx
    split at hx
    · rw [List.mem_singleton] at hx
      rw [hx]; exact Nat.le_refl _
    · rcases List.mem_cons.1 hx with rfl | hx
      · rw [ByteArray.size_extract]; omega
      · have := splitB_size sep k _ x hx
        rw [ByteArray.size_extract] at this
        omega
theorem splitL_size {s u : Str} : ∀ x ∈ splitL s u, x.length ≤ s.length := fun x hx => by
  obtain ⟨y, hy, rfl⟩ := List.mem_map.1 hx
  exact splitB_size _ _ _ y hy
theorem splitB_str (l : List ByteArray) : (l.map Value.string) = (l.map (·.data.toList)).map str := by
  rw [List.map_map]; rfl
theorem splitC {w : World} {f : View} (hv : On f w) (hm : ML f) {s u : Str} (hs : s.length ≤ 1000000) (hu : 1 ≤ u.length) :
    Con Tryz.prog 111 [str s, str u] w (RetM w f [] fun _ L' v => ∃ b, v = .slice (some ⟨b, 0, none⟩) (splitL s u).length (splitL s u).length ∧ L' = [.row (some ⟨b, 0, none⟩) (splitL s u).length (splitL s u).length 9 1 ((splitL s u).map str)]) := by
  obtain ⟨m, hm⟩ := hm
  refine ⟨Tryz.call111, (Tryz.strings_Split ⟨⟨s⟩⟩ ⟨⟨u⟩⟩ m w (show s.length < 4294967281 by omega) (hv.cell hm) hu).mono ?_⟩
  rintro e w' ⟨rfl, rfl⟩
  have hl := splitL_len (s := s) hu
  have hle := splitL_le (s := s) hu
  have h0 : St ⟨w, f, []⟩ f [] w := St.start hv (Given.nil f w)
  rw [splitB_str]
  refine ⟨_, f, _, rfl, h0.new (e := .row (some ⟨w.heap.size, 0, none⟩) (splitL s u).length (splitL s u).length 9 1 ((splitL s u).map str)) ⟨by simp, .inr ⟨w.heap.size, (splitL s u).length, _, rfl, Nat.zero_le _, heap_new _ _, Nat.le_refl _, by simp only [maxLen]; omega, by simp [splitL], by simp only [splitL, Nat.mul_one, List.length_map]; exact List.take_of_length_le (by simp)⟩⟩ rfl, w.heap.size, ?_, rfl⟩
  rw [hl]
end Go.Hog
