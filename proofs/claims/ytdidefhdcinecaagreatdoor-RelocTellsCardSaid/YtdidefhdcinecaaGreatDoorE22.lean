/- The engine, part 22: a row as a block; lists of lists of one's own. -/
import Derived.Test.YtdidefhdcinecaaGreatDoorEY
import Derived.Test.YtdidefhdcinecaaGreatDoorFY
set_option linter.unusedVariables false
set_option linter.unusedSimpArgs false
namespace Go.Hog
open Go.RowKit Rp Go.Proofs
theorem St.asBlk {B : Bs} {f : View} {L : List HE} {w : World} {i nn c sz b : Nat} {e : TypeId} {xs : List Value} (h : St B f L w) (hi : L[i]? = some (.row (some ⟨b, 0, none⟩) nn c e sz xs)) : ∃ cur : Array Value, cur.toList.take (nn * sz) = xs ∧ nn ≤ c ∧ c ≤ maxLen ∧ cur.size = c * sz ∧ St B f (L.set i (.blk b (.cells cur e))) w := by
  have hown : w.ownsRow 0 e sz (.slice (some ⟨b, 0, none⟩) nn c) nn xs := h.own _ (List.mem_of_getElem? hi)
  obtain ⟨h1, h2⟩ := hown
  rcases h2 with ⟨h2, h3⟩ | ⟨g, cap, cur, hv, hg, hh, r1, r2, r3, r4⟩
  · cases h2
  · injection hv with h4 h5 h6
    injection h4 with h4
    injection h4 with h4
    subst h4 h6
    exact ⟨cur, r4, r1, r2, r3, h.set hi rfl rfl rfl (Nat.le_refl _) (fun _ _ _ => rfl) hh (fun b' hb' => .inl hb')⟩
theorem eblk {P : Program} {n : Nat} {B : Bs} {f : View} {L : List HE} {ρ : Env} {Q : Post} {co : Code} (i : Nat) {nn c sz b : Nat} {e : TypeId} {xs : List Value} (k : ∀ cur : Array Value, cur.toList.take (nn * sz) = xs → nn ≤ c → c ≤ maxLen → cur.size = c * sz → EW P n B co Q ρ f (L.set i (.blk b (.cells cur e)))) (hi : L[i]? = some (.row (some ⟨b, 0, none⟩) nn c e sz xs) := by rfl) : EW P n B co Q ρ f L :=
  ⟨fun w hw a ha hok => let ⟨cur, h1, h2, h3, h4, h5⟩ := hw.asBlk hi; (k cur h1 h2 h3 h4).out w h5 a ha hok⟩
theorem rblk {P : Program} {n : Nat} {B : Bs} {f : View} {L : List HE} {ρ : Env} {K : Kon} {ops : Array Oper} {l : List Oper} (i : Nat) {nn c sz b : Nat} {e : TypeId} {xs : List Value} (k : ∀ cur : Array Value, cur.toList.take (nn * sz) = xs → nn ≤ c → c ≤ maxLen → cur.size = c * sz → RW .s P n B ops K l ρ f (L.set i (.blk b (.cells cur e)))) (hi : L[i]? = some (.row (some ⟨b, 0, none⟩) nn c e sz xs) := by rfl) : RW .s P n B ops K l ρ f L :=
  ⟨fun w hw a ha hok => let ⟨cur, h1, h2, h3, h4, h5⟩ := hw.asBlk hi; SW.out (k cur h1 h2 h3 h4) w h5 a ha hok⟩
/-- An entry that holds a list of texts. -/
def Own1 (e : TypeId) (l : List Str) (v : Value) (h : HE) : Prop :=
  ∃ A c, v = .slice A l.length c ∧ (h = .row A l.length c e 1 (l.map str) ∨ ∃ b cur, A = some ⟨b, 0, none⟩ ∧ c = l.length ∧ h = .blk b (.cells cur e) ∧ cur.toList.take l.length = l.map str)
def OwnL (e : TypeId) : List (List Str) → List Value → List HE → Prop
  | [], [], [] => True
  | l :: ls, v :: vs, h :: hs => Own1 e l v h ∧ OwnL e ls vs hs
  | _, _, _ => False
theorem OwnL.cons {e : TypeId} {l : List Str} {v : Value} {h : HE} {ls : List (List Str)} {vs : List Value} {hs : List HE} (h1 : Own1 e l v h) (h2 : OwnL e ls vs hs) : OwnL e (l :: ls) (v :: vs) (h :: hs) := ⟨h1, h2⟩
theorem OwnL.snoc {e : TypeId} {l : List Str} {v : Value} {h : HE} (h1 : Own1 e l v h) : ∀ {ls : List (List Str)} {vs : List Value} {hs : List HE}, OwnL e ls vs hs → OwnL e (ls ++ [l]) (vs ++ [v]) (hs ++ [h])
  | [], [], [], _ => ⟨h1, trivial⟩
  | _ :: _, _ :: _, _ :: _, h2 => ⟨h2.1, OwnL.snoc h1 h2.2⟩
theorem OwnL.len {e : TypeId} : ∀ {ls : List (List Str)} {vs : List Value} {hs : List HE}, OwnL e ls vs hs → vs.length = ls.length ∧ hs.length = ls.length
  | [], [], [], _ => ⟨rfl, rfl⟩
  | _ :: _, _ :: _, _ :: _, h2 => by
    have := OwnL.len h2.2
    simp [this.1, this.2]
theorem Own1.sl {e : TypeId} {l : List Str} {v : Value} {h : HE} {g : View} (h1 : Own1 e l v h) (hs : h.seen g) (hb : ∀ s ∈ l, s.length ≤ LB) (hl : l.length ≤ LB) : ∃ A c, v = .slice A l.length c ∧ Sl g A c l := by
  obtain ⟨A, c, rfl, rfl | ⟨b, cur, rfl, rfl, rfl, hc⟩⟩ := h1
  · exact ⟨A, c, rfl, Sl.ofTexts hs rfl hb hl⟩
  · refine ⟨_, _, rfl, Sl.ofTexts (c := l.length) (e := e) (l := l) ⟨by simp, .inr ⟨b, cur, rfl, hs, Nat.le_refl _, ?_, by rw [Nat.mul_one]; exact hc⟩⟩ rfl hb hl⟩
    have : LB ≤ maxLen := by decide
    omega
theorem OwnL.rw_ {e : TypeId} {g : View} : ∀ {ls : List (List Str)} {vs : List Value} {hs : List HE}, OwnL e ls vs hs → (∀ h ∈ hs, h.seen g) → (∀ l ∈ ls, l.length ≤ LB ∧ ∀ s ∈ l, s.length ≤ LB) → Rw g ls vs
  | [], [], [], _, _, _ => Rw.nil g
  | l :: ls, v :: vs, h :: hs, h2, h3, h4 => by
    obtain ⟨A, c, rfl, hsl⟩ := h2.1.sl (h3 h (by simp)) (h4 l (by simp)).2 (h4 l (by simp)).1
    have h5 : Rw g ls vs := OwnL.rw_ h2.2 (fun x hx => h3 x (List.mem_cons_of_mem _ hx)) (fun x hx => h4 x (List.mem_cons_of_mem _ hx))
    exact (Rw.one (show rp g l [.slice A l.length c] from ⟨A, c, rfl, hsl⟩)).append h5
end Go.Hog
