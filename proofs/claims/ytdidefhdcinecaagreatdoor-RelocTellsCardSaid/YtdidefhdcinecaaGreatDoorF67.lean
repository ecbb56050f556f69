/- What reloc.To answers, for the statements. -/
import Derived.Test.YtdidefhdcinecaaGreatDoorF66
import Derived.Test.YtdidefhdcinecaaGreatDoorCI
set_option linter.unusedVariables false
set_option linter.unusedSimpArgs false
set_option maxRecDepth 100000
set_option maxHeartbeats 1000000
namespace Go.Hog
open Go.RowKit Rp Go.Proofs
theorem great_room {a : List Item} (h : ¬ GreatI a) : a.length ≤ 10 ∧ Room3 a := by
  have h10 : a.length ≤ 10 := by
    by_cases e : 10 < a.length
    · exact absurd (.inl e) h
    · omega
  refine ⟨h10, ⟨by omega, fun x hx => ⟨?_, fun z hz => ?_⟩⟩, fun x hx => ?_⟩
  · by_cases e : (30 : Int) < x.tree.length
    · exact absurd (.inr ⟨x, hx, .inr (.inr (.inl e))⟩) h
    · omega
  · by_cases e : 500 < z.data.length
    · exact absurd (.inr ⟨x, hx, .inr (.inr (.inr ⟨z, hz, .inr e⟩))⟩) h
    · omega
  · by_cases e : (12 : Int) < x.refs.length
    · exact absurd (.inr ⟨x, hx, .inr (.inl (.inl e))⟩) h
    · omega
theorem toR_mem {o n : Str} {a : List Item} {x : Item} (h : x ∈ toR o n a) : ∃ y ∈ a, swI o n y = x := by
  unfold toR at h
  split at h
  · exact List.mem_map.1 h
  · cases h
theorem toR_len (o n : Str) (a : List Item) : (toR o n a).length ≤ a.length := by
  unfold toR
  split
  · rw [List.length_map]; exact Nat.le_refl _
  · exact Nat.zero_le _
theorem room_to {a : List Item} (h : Room3 a) (o n : Str) : Room3 (toR o n a) := by
  refine ⟨⟨Nat.le_trans (toR_len o n a) h.1.1, fun x hx => ?_⟩, fun x hx => ?_⟩
  · obtain ⟨y, hy, rfl⟩ := toR_mem hx
    obtain ⟨h1, h2⟩ := h.1.2 y hy
    refine ⟨by show (y.tree.map (swN o n)).length ≤ 1000; rw [List.length_map]; exact h1, fun z hz => ?_⟩
    obtain ⟨u, hu, rfl⟩ := List.mem_map.1 hz
    show (swS u.data o n).length ≤ 1000
    rw [swS_len]
    exact h2 u hu
  · obtain ⟨y, hy, rfl⟩ := toR_mem hx
    exact h.2 y hy
/-- A call of To, its answer by name. -/
def ToC (f : View) (o n : Str) (A : Option Addr) (c : Nat) (N : Nat) (E : Int) (R : List Item) : Prop := ∀ (w : World) (g : View), Sub f g → On g w →
  Con Tryz.prog 11 [str o, str n, .slice A N c] w (RetM w g [] fun _ L' v => ∃ its : List JI, ∃ A c, its.map (·.1) = R ∧ v = .tuple #[.slice A its.length c, i64 E] ∧ L' = jRow A c its :: jR its)
theorem to_con {f : View} (hm : ML f) {o n : Str} (ho : o.length ≤ LB) (hn : n.length ≤ LB) {A : Option Addr} {c : Nat} {a : List Item} (ha : Sl f A c a) (hr : Room3 a) : ToC f o n A c a.length (toE o n a) (toR o n a) := fun w g hs hon =>
  relocTo hon (hm.mono hs) ho hn (ha.mono hs) hr
theorem to_ex (f : View) (o n : Str) (a : List Item) : ∃ E R, E = toE o n a ∧ R = toR o n a := ⟨_, _, rfl, rfl⟩
/-- Frozen, the answer is items. -/
theorem to_sl {g : View} {its : List JI} {A : Option Addr} {c : Nat} {R : List Item} (hs : ∀ e ∈ jRow A c its :: jR its, e.seen g) (hi : its.map (·.1) = R) (hb : ∀ x ∈ R, ItB x) (hl : R.length ≤ LB) : Sl g A c R ∧ its.length = R.length := by
  have e : its.length = R.length := by rw [← hi, List.length_map]
  refine ⟨?_, e⟩
  have := jRow_sl (hs _ (.head _)) (fun e he => hs e (.tail _ he)) (fun r hr => hb _ (by rw [← hi]; exact List.mem_map.2 ⟨r, hr, rfl⟩)) (by rw [e]; exact hl)
  rwa [hi] at this
theorem toR_itB {o n : Str} {a : List Item} (h : ∀ x ∈ a, ItB x) : ∀ x ∈ toR o n a, ItB x := fun x hx => by
  obtain ⟨y, hy, rfl⟩ := toR_mem hx
  exact itB_sw (h y hy) o n
end Go.Hog
