/- The engine, part 18: returns from within, clear, a byte of a table. -/
import Derived.Test.YtdidefhdcinecaaGreatDoorE17
set_option linter.unusedVariables false
set_option linter.unusedSimpArgs false
namespace Go.Hog
open Go.RowKit Rp
section
variable {P : Program} {n : Nat} {B : Bs} {f : View} {L : List HE} {ρ : Env} {Q : Post} {K : Kon} {ops : Array Oper} {m : Md} {l l0 : List Oper} {ρ0 : Env}
variable {d : Nat} {x y : Operand} {t ty e t2 : TypeId} {pos : String} {af : Array Edge} {gd : Option (Nat × Bool)} {b o : Nat} {v : Value} {vs cs : List Value}
theorem ret0Mr {fn : Func} {w0 : World} {f0 : View} {L0 : List HE} {R : View → List HE → Value → Prop} (hR : R f L (.tuple #[])) (hr : fn.results = #[] := by rfl) : retQ P fn ⟨w0, f0, fps L0⟩ (RetM w0 f0 L0 R) .ret ρ f L := by
  intro w hw tmps htm
  exact ⟨.tuple #[], by simp [results, hr], _, _, _, rfl, hw, hR⟩
/-- A byte of a table, whichever. -/
theorem ixSx {s : Str} {ki : IntKind} {i : Int} (N j : Nat) (hj : j < N) (k : ∀ c : UInt8, RW m P n B ops K l (up ρ d (.int .u8 (c.toNat : Int))) f L) (hrun : runP P ops l0 ρ0 = (⟨some d, .index t x y, ty, pos, af, gd⟩ :: l, ρ) := by rfl) (hg : wantedE ops ρ ⟨some d, .index t x y, ty, pos, af, gd⟩ = true := by rfl) (hx : ev ρ x = str s := by rfl) (hy : ev ρ y = .int ki i := by rfl) (ht : P.underlying t = some .string := by rfl) (hN : s.length = N := by rfl) (hi : i = j := by rfl) : RW m P n B ops K l0 ρ0 f L :=
  ixS j (s[j]'(by rw [hN]; exact hj)) (List.getElem?_eq_getElem _) (k _) hrun hg hx hy ht hi
/-- 'clear(xs[o:])' of an own row (entry i). -/
theorem clr (i : Nat) {nn c mm c2 : Nat} {xs : List Value} {A : Option Addr} (ho : o + mm ≤ xs.length) (hA : 0 < mm → A = some ⟨b, o, none⟩) (k : RW .s P n B ops K l ρ f (L.set i (.row (some ⟨b, 0, none⟩) nn c e 1 (putL xs o (List.replicate mm v)))))
    (hrun : runP P ops l0 ρ0 = (⟨none, .call ⟨.builtin .clear, ⟨[x]⟩, ⟨[t]⟩⟩, ty, pos, af, gd⟩ :: l, ρ) := by rfl) (hg : wantedE ops ρ ⟨none, .call ⟨.builtin .clear, ⟨[x]⟩, ⟨[t]⟩⟩, ty, pos, af, gd⟩ = true := by rfl)
    (hx : ev ρ x = .slice A mm c2 := by rfl) (hi : L[i]? = some (.row (some ⟨b, 0, none⟩) nn c e 1 xs) := by rfl) (he : elemT P t = some e := by rfl) (hz : zeroT P e = some [v] := by rfl) (h1 : v.oneCell' = true := by rfl) : RW .s P n B ops K l0 ρ0 f L := by
  refine rw_runP l0 ρ0 ?_
  rw [hrun]
  refine sw_do hg fun w hw => ?_
  have hex : ∀ {w' : World}, (Builtin.clear_ #[t] ty #[.slice A mm c2]).run P w = .ok (.tuple #[]) w' → (execOp (ev ρ) ⟨none, .call ⟨.builtin .clear, ⟨[x]⟩, ⟨[t]⟩⟩, ty, pos, af, gd⟩).run P w = .ok (.value (.tuple #[])) w' := fun {w'} h => by
    simp only [execOp, resolve, invoke, builtin, Sem.run_bind, Sem.run_pure, Result.andThen_ok, List.map_toArray, List.map_cons, List.map_nil, hx, h]
  rcases Nat.eq_zero_or_pos mm with h0 | h0
  · subst h0
    refine ⟨_, w, hex ?_, .inl ⟨_, rfl, f, _, ?_, k⟩⟩
    · cases A <;> simp [Builtin.clear_, run_und (und_elemT he)]
    · have e1 : putL xs o (List.replicate 0 v) = xs := by cases xs <;> cases o <;> rfl
      have hlt : i < L.length := (List.getElem?_eq_some_iff.1 hi).1
      rw [e1]
      have e2 : L.set i (.row (some ⟨b, 0, none⟩) nn c e 1 xs) = L := by
        have := (List.getElem?_eq_some_iff.1 hi).2
        rw [← this]
        exact List.set_getElem_self hlt
      rw [e2]
      exact hw
  obtain rfl := hA h0
  have hown : w.ownsRow 0 e 1 (.slice (some ⟨b, 0, none⟩) nn c) nn xs := hw.own _ (List.mem_of_getElem? hi)
  obtain ⟨h2, h3⟩ := hown
  rcases h3 with ⟨h3, _⟩ | ⟨g, cap, cur, hv, hg', hh, r1, r2, r3, r4⟩
  · injection h3 with h3; cases h3
  injection hv with hv _ hc
  injection hv with hv
  injection hv with hv
  subst hv hc
  have hcl : xs.length ≤ cur.toList.length := by rw [← r4, List.length_take]; omega
  have hl : o + (List.replicate mm v).length ≤ xs.length := by simpa using ho
  have hst := run_storeCells_at P b o e (List.replicate mm v) 0 cur w hh (Nat.le_trans hl hcl) (fun u hu => by rw [List.eq_of_mem_replicate hu]; exact h1)
  simp only [Nat.add_zero] at hst
  have e2 : (cur.toList.take o ++ List.replicate mm v ++ cur.toList.drop (o + (List.replicate mm v).length)) = putL cur.toList o (List.replicate mm v) := putL_eq _ _ _ (by omega)
  rw [e2] at hst
  refine ⟨_, w.setRow b ⟨putL cur.toList o (List.replicate mm v)⟩, hex ?_, .inl ⟨_, rfl, f, _, ?_, k⟩⟩
  · obtain ⟨z, hz1, hzc⟩ := run_zeroT hz w
    have hzc' : (Builtin.zeroCells z.cells mm).toList = List.replicate mm v := by
      rw [hzc]
      simp [Builtin.zeroCells]
      apply List.ext_getElem
      · simp
      · intro i h1 h2
        simp [Nat.mod_one]
    obtain ⟨q, rfl⟩ : ∃ q, mm = q + 1 := ⟨mm - 1, by omega⟩
    simp [Builtin.clear_, run_und (und_elemT he), hz1, hzc', hst]
  · refine hw.set hi rfl rfl rfl (by simp [World.setRow]) (fun k' _ hk' => setRow_other w b k' _ (fun e0 => hk' (by rw [e0]; rfl))) ⟨?_, .inr ⟨b, c, _, rfl, Nat.zero_le _, setRow_heap w b cur _ e _ hh, r1, r2, ?_, ?_⟩⟩ (fun b' hb' => .inl hb')
    · rw [putL_length _ _ _ hl]; exact h2
    · simp [putL_length _ _ _ (Nat.le_trans hl hcl)]; simpa using r3
    · rw [putL_take _ _ _ _ (by rw [← h2]; exact hl) (by rw [← h2]; exact hcl), r4]
end
end Go.Hog
