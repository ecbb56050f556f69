/- E14 E15 FL E16, in one text. -/
import Derived.Test.YtdidefhdcinecaaGreatDoorMG
import Derived.Test.YtdidefhdcinecaaGreatDoorME
import Derived.Test.YtdidefhdcinecaaGreatDoorF1
import Derived.Laws.IdiomStrings
set_option linter.unusedVariables false
set_option linter.unusedSimpArgs false
namespace Go.Hog
open Go.RowKit Rp Go.Proofs
/-- Must S be shown behind number j? -/
def ndH (ops : Array Oper) (H : List Nat) (j : Nat) : Bool := H.any fun i => !Nat.beq i j && !waitsOn ops 3 j i
def cntF (listed : Array Bool) : Nat := listed.toList.count false
def tkL (ops : Array Oper) : List Nat → Array Bool → Option (Array Bool)
  | [], listed => some listed
  | i :: is, listed => bif (Region.ready .any ops listed).contains i && Region.free .any ops listed i then tkL ops is (listed.setIfInBounds i true) else none
def setL : List Nat → Array Bool → Array Bool
  | [], listed => listed
  | i :: is, listed => setL is (listed.setIfInBounds i true)
def tkOk (ops : Array Oper) : List Nat → Array Bool → Bool
  | [], _ => true
  | i :: is, listed => (Region.ready .any ops listed).contains i && Region.free .any ops listed i && tkOk ops is (listed.setIfInBounds i true)
theorem tkL_of {ops : Array Oper} : ∀ {is : List Nat} {listed : Array Bool}, tkOk ops is listed = true → tkL ops is listed = some (setL is listed)
  | [], _, _ => rfl
  | i :: is, listed, h => by
    simp only [tkOk, Bool.and_eq_true] at h
    simp only [tkL, setL]
    rw [h.1.1, h.1.2]
    exact tkL_of h.2
def pickL (ops : Array Oper) : List Nat → List Oper
  | [] => []
  | i :: is => match ops[i]? with | some o => o :: pickL ops is | none => pickL ops is
theorem cntF_set {listed : Array Bool} {i : Nat} (h : listed.getD i true = false) : cntF (listed.setIfInBounds i true) + 1 = cntF listed := by
  have hlt : i < listed.size := by
    rcases Nat.lt_or_ge i listed.size with h' | h'
    · exact h'
    · simp [Array.getElem?_eq_none h'] at h
  have hv : listed.toList[i]'(by simpa using hlt) = false := by
    simp [hlt] at h
    simpa using h
  unfold cntF
  rw [Array.toList_setIfInBounds, List.count_set (by simpa using hlt), hv]
  have : 0 < listed.toList.count false := List.count_pos_iff.2 (hv ▸ List.getElem_mem _)
  have e1 : (true == false) = false := rfl
  rw [e1]
  simp only [beq_self_eq_true, if_true, Bool.false_eq_true, if_false]
  omega
theorem opsOk_mem {n : Nat} {l : List Oper} (h : opsOk n l = true) : ∀ o ∈ l, dOk n o.dst = true := by
  induction l with
  | nil => intro o ho; cases ho
  | cons o l ih =>
    have h' : dOk n o.dst = true ∧ opsOk n l = true := by simpa [opsOk] using h
    intro x hx
    rcases List.mem_cons.1 hx with rfl | hx
    · exact h'.1
    · exact ih h'.2 x hx
theorem opsOk_of {n : Nat} {l : List Oper} (h : ∀ o ∈ l, dOk n o.dst = true) : opsOk n l = true := by
  induction l with
  | nil => rfl
  | cons o l ih =>
    simp only [opsOk, Bool.and_eq_true]
    exact ⟨h o (by simp), ih fun x hx => h x (List.mem_cons_of_mem _ hx)⟩
theorem pickL_mem {ops : Array Oper} {is : List Nat} {o : Oper} (h : o ∈ pickL ops is) : o ∈ ops.toList := by
  induction is with
  | nil => cases h
  | cons i is ih =>
    unfold pickL at h
    cases hi : ops[i]? with
    | none => rw [hi] at h; exact ih h
    | some x =>
      rw [hi] at h
      rcases List.mem_cons.1 h with rfl | h
      · exact Array.mem_toList_iff.2 (Array.mem_of_getElem? hi)
      · exact ih h
theorem ndH_of {ops : Array Oper} {H : List Nat} {i j : Nat} (hi : i ∈ H) (hij : j ≠ i) (h : Met ops i j) : ndH ops H j = true := by
  obtain ⟨listed, hcl, hun, hr⟩ := h
  obtain ⟨_, oj, hoj, hall⟩ := mem_ready.1 hr
  refine List.any_eq_true.2 ⟨i, hi, ?_⟩
  have hw : waitsOn ops 3 j i = false := by
    cases e : waitsOn ops 3 j i with
    | false => rfl
    | true =>
      have := waitsOn_listed hcl 3 j i oj hoj hall e
      rw [getD_both hun] at this
      cases this
  rw [hw, beq_no (Ne.symm hij)]
  rfl
section
variable {P : Program} {n : Nat} {B : Bs} {f : View} {L : List HE} {ρ : Env} {Q : Post} {ops : Array Oper} {f0 : View} {L0 : List HE} {H : List Nat} {listed : Array Bool}
/-- What is left of a region that draws, in a state. -/
structure AN (P : Program) (n : Nat) (B : Bs) (ops : Array Oper) (K : Kon) (f0 : View) (L0 : List HE) (H : List Nat) (listed : Array Bool) (ρ : Env) (f : View) (L : List HE) : Prop where
  out : (∃ w0, St B f0 L0 w0) → opsOk n ops.toList = true → Region.noSelect ops = true → Closed ops listed → ∀ w, St B f L w → ∀ a, Fr n a ρ → ∀ k, cntF listed ≤ k →
    anyT P ops (Qs n B (onlyN K)) (fun w => St B f0 L0 w) (ndH ops H) k listed a w
variable {K : Kon}
theorem an_done (h : K ρ f L) (hr : Region.ready .any ops listed = [] := by kernel_rfl) : AN P n B ops K f0 L0 H listed ρ f L :=
  ⟨fun _ _ _ _ w hw a ha k _ => anyT_end hr ⟨ρ, f, L, ha, hw, h⟩ k⟩
theorem onlyN_no {K : Kon} : ∀ c a w, ¬ Qs n B (onlyN K) (.panic c) a w := fun c a w hq => by
  obtain ⟨_, _, _, _, _, h3⟩ := hq; exact h3
theorem an_takeH_go {Qa : Act → Prop} {w : World} (hS : St B f0 L0 w) (hsel : Region.noSelect ops = true) : ∀ (is : List Nat) (listed listed' : Array Bool) (a : Act) (k : Nat), (∀ i ∈ is, i ∈ H) → tkL ops is listed = some listed' → Closed ops listed → cntF listed ≤ k →
    wpVal P ops (St B f0 L0) Qa (pickL ops is) a → (∀ a' k', Qa a' → Closed ops listed' → cntF listed' ≤ k' → anyT P ops (Qs n B (onlyN K)) (fun w => St B f0 L0 w) (ndH ops H) k' listed' a' w) →
    anyT P ops (Qs n B (onlyN K)) (fun w => St B f0 L0 w) (ndH ops H) k listed a w
  | [], listed, listed', a, k, _, hB, hcl, hk, h, hK => by
    simp only [tkL, Option.some.injEq] at hB
    subst hB
    exact hK a k h hcl hk
  | i :: is, listed, listed', a, k, hH, hB, hcl, hk, h, hK => by
    simp only [tkL] at hB
    cases hc : ((Region.ready .any ops listed).contains i && Region.free .any ops listed i) with
    | false => rw [hc] at hB; cases hB
    | true =>
      rw [hc] at hB
      simp only [cond_true] at hB
      simp only [Bool.and_eq_true] at hc
      have hr : i ∈ Region.ready .any ops listed := by simpa using hc.1
      obtain ⟨hun, o, ho, _⟩ := mem_ready.1 hr
      have hcnt := cntF_set hun
      obtain ⟨k', rfl⟩ : ∃ k', k = k' + 1 := ⟨k - 1, by omega⟩
      unfold pickL at h
      rw [ho] at h
      obtain ⟨v, hy, h'⟩ := h
      refine anyT_take (Si := St B f0 L0) ho hsel onlyN_no k' listed a w (fun j oj hj hji hunj hno => ⟨Region.free_spec ho hc.2 j oj hj hji hunj hno, fun hm w1 w2 h1 h2 => h2 h1 (ndH_of (hH i (by simp)) hji hm)⟩) hcl hr hy hS ?_
      exact an_takeH_go hS hsel is _ listed' _ k' (fun j hj => hH j (List.mem_cons_of_mem _ hj)) hB (hcl.set hr) (by omega) h' hK
/-- Those that yield in worlds in which L0 is as it was are taken first. -/
theorem an_takeH (is : List Nat) (hL : HeldL f0 L0 f L) (h : RW .v P n B ops (fun ρ' _ _ => AN P n B ops K f0 L0 H (setL is listed) ρ' f L) (pickL ops is) ρ f0 L0)
    (hH : is.all (fun i => H.contains i) = true := by rfl) (hB : tkOk ops is listed = true := by kernel_rfl) : AN P n B ops K f0 L0 H listed ρ f L := by
  have hB := tkL_of hB
  refine ⟨fun h0 hok hsel hcl w hw a ha k hk => ?_⟩
  obtain ⟨w0, hw0⟩ := h0
  have hS := held_class hw0 hw hL
  have hq := VW.out h ⟨_, hw0⟩ a ha (opsOk_of fun o ho => opsOk_mem hok o (pickL_mem ho))
  refine an_takeH_go hS hsel is listed _ a k (fun i hi => by simpa using List.all_eq_true.1 hH i hi) hB hcl hk hq ?_
  rintro a' k' ⟨ρ', ha', hK'⟩ hcl' hk'
  exact hK'.out ⟨w0, hw0⟩ hok hsel hcl' w hw a' ha' k' hk'
theorem an_takeU_go {w : World} (hsel : Region.noSelect ops = true) (hok : opsOk n ops.toList = true) {ρ' : Env} : ∀ (is : List Nat) (listed listed' : Array Bool) (ρ : Env) (a : Act) (k : Nat), tkL ops is listed = some listed' → Closed ops listed → cntF listed ≤ k → Fr n a ρ →
    runP P ops (pickL ops is) ρ = ([], ρ') → (∀ a' k', Fr n a' ρ' → Closed ops listed' → cntF listed' ≤ k' → anyT P ops (Qs n B (onlyN K)) (fun w => St B f0 L0 w) (ndH ops H) k' listed' a' w) →
    anyT P ops (Qs n B (onlyN K)) (fun w => St B f0 L0 w) (ndH ops H) k listed a w
  | [], listed, listed', ρ, a, k, hB, hcl, hk, ha, h, hK => by
    simp only [tkL, Option.some.injEq] at hB
    subst hB
    simp only [pickL, runP, Prod.mk.injEq, true_and] at h
    subst h
    exact hK a k ha hcl hk
  | i :: is, listed, listed', ρ, a, k, hB, hcl, hk, ha, h, hK => by
    simp only [tkL] at hB
    cases hc : ((Region.ready .any ops listed).contains i && Region.free .any ops listed i) with
    | false => rw [hc] at hB; cases hB
    | true =>
      rw [hc] at hB
      simp only [cond_true] at hB
      simp only [Bool.and_eq_true] at hc
      have hr : i ∈ Region.ready .any ops listed := by simpa using hc.1
      obtain ⟨hun, o, ho, _⟩ := mem_ready.1 hr
      have hcnt := cntF_set hun
      obtain ⟨k', rfl⟩ : ∃ k', k = k' + 1 := ⟨k - 1, by omega⟩
      unfold pickL at h
      rw [ho] at h
      have hd : dOk n o.dst = true := opsOk_mem hok o (Array.mem_toList_iff.2 (Array.mem_of_getElem? ho))
      have key : ∃ v, YieldsIf P ops (fun _ => True) o v a ∧ runP P ops (pickL ops is) (putO ρ o.dst v) = ([], ρ') := by
        unfold runP at h
        cases hw : wantedE ops ρ o with
        | false =>
          rw [hw] at h
          exact ⟨undef, .inr ⟨by rw [ha.wanted, hw], rfl⟩, h⟩
        | true =>
          rw [hw] at h
          simp only [cond_true] at h
          cases hp : pureV P ρ o.op with
          | none => rw [hp] at h; simp at h
          | some v =>
            rw [hp] at h
            exact ⟨v, .inl ⟨by rw [ha.wanted, hw], fun w' _ => by rw [ha.eval]; exact pureV_ok hp w'⟩, h⟩
      obtain ⟨v, hy, h'⟩ := key
      refine anyT_take (Si := fun _ => True) ho hsel onlyN_no k' listed a w (fun j oj hj hji hunj hno => ⟨Region.free_spec ho hc.2 j oj hj hji hunj hno, fun _ _ _ _ _ => trivial⟩) hcl hr hy trivial ?_
      exact an_takeU_go hsel hok is _ listed' _ _ k' hB (hcl.set hr) (by omega) (ha.put hd v) h' hK
/-- Those that yield in whatever world are taken first. -/
theorem an_takeU (is : List Nat) {ρ' : Env} (h : AN P n B ops K f0 L0 H (setL is listed) ρ' f L) (hrun : runP P ops (pickL ops is) ρ = ([], ρ') := by rfl) (hB : tkOk ops is listed = true := by kernel_rfl) : AN P n B ops K f0 L0 H listed ρ f L :=
  ⟨fun h0 hok hsel hcl w hw a ha k hk => an_takeU_go hsel hok is listed _ ρ a k (tkL_of hB) hcl hk ha hrun fun a' k' ha' hcl' hk' => h.out h0 hok hsel hcl' w hw a' ha' k' hk'⟩
/-- One of those that come up does something. -/
theorem an_one {i : Nat} {o : Oper} (h0 : ∃ w0, St B f0 L0 w0) (hok : opsOk n ops.toList = true) (hsel : Region.noSelect ops = true) (hcl : Closed ops listed) {w : World} (hw : St B f L w) {a : Act} (ha : Fr n a ρ) {k : Nat} (hk : cntF listed ≤ k + 1) (hi : ops[i]? = some o) (hr : i ∈ Region.ready .any ops listed)
    (h : RW .s P n B ops (fun ρ' f' L' => (ndH ops H i = true → HeldL f0 L0 f' L') ∧ AN P n B ops K f0 L0 H (listed.setIfInBounds i true) ρ' f' L') [o] ρ f L) :
    wpOp P ops (Qs n B (onlyN K)) i (fun a' w' => (St B f0 L0 w → ndH ops H i = true → St B f0 L0 w') ∧ anyT P ops (Qs n B (onlyN K)) (fun w => St B f0 L0 w) (ndH ops H) k (listed.setIfInBounds i true) a' w') a w := by
  obtain ⟨w0, hw0⟩ := h0
  have hun := (mem_ready.1 hr).1
  have hcnt := cntF_set hun
  have hd : dOk n o.dst = true := opsOk_mem hok o (Array.mem_toList_iff.2 (Array.mem_of_getElem? hi))
  have h1 := SW.out h w hw a ha (by simp [opsOk, hd])
  refine wpOp_mono ?_ (one_of_list hi (fun e a w hq => by obtain ⟨_, _, _, _, _, h3⟩ := hq; cases e with | normal => rfl | _ => exact h3.elim) h1)
  rintro a' w' ⟨ρ', f', L', ha', hw', hnd, hk'⟩
  exact ⟨fun _ hn => held_class hw0 hw' (hnd hn), hk'.out ⟨w0, hw0⟩ hok hsel (hcl.set hr) w' hw' a' ha' k (by omega)⟩
theorem an_run1 (i : Nat) {o : Oper} (h : RW .s P n B ops (fun ρ' f' L' => (ndH ops H i = true → HeldL f0 L0 f' L') ∧ AN P n B ops K f0 L0 H (listed.setIfInBounds i true) ρ' f' L') [o] ρ f L)
    (hr : Region.ready .any ops listed = [i] := by kernel_rfl) (hi : ops[i]? = some o := by rfl) : AN P n B ops K f0 L0 H listed ρ f L := by
  refine ⟨fun h0 hok hsel hcl w hw a ha k hk => ?_⟩
  have hri : i ∈ Region.ready .any ops listed := by rw [hr]; simp
  have hcnt := cntF_set (mem_ready.1 hri).1
  obtain ⟨k', rfl⟩ : ∃ k', k = k' + 1 := ⟨k - 1, by omega⟩
  refine ⟨fun h1 => (by rw [hr] at h1; cases h1), fun j hj => ?_⟩
  rw [hr] at hj
  obtain rfl : j = i := by simpa using hj
  exact an_one h0 hok hsel hcl hw ha hk hi hri h
theorem an_run2 (i i2 : Nat) {o o2 : Oper} (h : RW .s P n B ops (fun ρ' f' L' => (ndH ops H i = true → HeldL f0 L0 f' L') ∧ AN P n B ops K f0 L0 H (listed.setIfInBounds i true) ρ' f' L') [o] ρ f L)
    (h2 : RW .s P n B ops (fun ρ' f' L' => (ndH ops H i2 = true → HeldL f0 L0 f' L') ∧ AN P n B ops K f0 L0 H (listed.setIfInBounds i2 true) ρ' f' L') [o2] ρ f L)
    (hr : Region.ready .any ops listed = [i, i2] := by kernel_rfl) (hi : ops[i]? = some o := by rfl) (hi2 : ops[i2]? = some o2 := by rfl) : AN P n B ops K f0 L0 H listed ρ f L := by
  refine ⟨fun h0 hok hsel hcl w hw a ha k hk => ?_⟩
  have hri : i ∈ Region.ready .any ops listed := by rw [hr]; simp
  have hri2 : i2 ∈ Region.ready .any ops listed := by rw [hr]; simp
  have hcnt := cntF_set (mem_ready.1 hri).1
  obtain ⟨k', rfl⟩ : ∃ k', k = k' + 1 := ⟨k - 1, by omega⟩
  refine ⟨fun h1 => (by rw [hr] at h1; cases h1), fun j hj => ?_⟩
  rw [hr] at hj
  rcases List.mem_cons.1 hj with rfl | hj
  · exact an_one h0 hok hsel hcl hw ha hk hi hri h
  · obtain rfl : j = i2 := by simpa using hj
    exact an_one h0 hok hsel hcl hw ha hk hi2 hri2 h2
/-- What listed is, is told anew; slots alone are kept. -/
theorem an_fg (slots : List (Nat × Value)) (L' : List HE) (l' : Array Bool) (k : ∀ ρ', AN P n B ops K f0 L0 H l' (ups ρ' slots) f L') (hl : listed = l' := by kernel_rfl) (hh : L = L' := by rfl) (ha : Agree ρ slots := by first | exact trivial | exact ⟨rfl, trivial⟩ | exact ⟨rfl, rfl, trivial⟩ | exact ⟨rfl, rfl, rfl, trivial⟩ | exact ⟨rfl, rfl, rfl, rfl, trivial⟩ | exact ⟨rfl, rfl, rfl, rfl, rfl, trivial⟩ | exact ⟨rfl, rfl, rfl, rfl, rfl, rfl, trivial⟩ | exact ⟨rfl, rfl, rfl, rfl, rfl, rfl, rfl, trivial⟩ | exact ⟨rfl, rfl, rfl, rfl, rfl, rfl, rfl, rfl, trivial⟩ | exact ⟨rfl, rfl, rfl, rfl, rfl, rfl, rfl, rfl, rfl, trivial⟩ | exact ⟨rfl, rfl, rfl, rfl, rfl, rfl, rfl, rfl, rfl, rfl, trivial⟩ | exact ⟨rfl, rfl, rfl, rfl, rfl, rfl, rfl, rfl, rfl, rfl, rfl, trivial⟩ | exact ⟨rfl, rfl, rfl, rfl, rfl, rfl, rfl, rfl, rfl, rfl, rfl, rfl, trivial⟩ | exact ⟨rfl, rfl, rfl, rfl, rfl, rfl, rfl, rfl, rfl, rfl, rfl, rfl, rfl, trivial⟩ | exact ⟨rfl, rfl, rfl, rfl, rfl, rfl, rfl, rfl, rfl, rfl, rfl, rfl, rfl, rfl, trivial⟩ | exact ⟨rfl, rfl, rfl, rfl, rfl, rfl, rfl, rfl, rfl, rfl, rfl, rfl, rfl, rfl, rfl, trivial⟩ | exact ⟨rfl, rfl, rfl, rfl, rfl, rfl, rfl, rfl, rfl, rfl, rfl, rfl, rfl, rfl, rfl, rfl, trivial⟩) : AN P n B ops K f0 L0 H listed ρ f L := by
  subst hh hl
  rw [← ups_agree ha]
  exact k ρ
theorem an_have {α : Type} (l' : Array Bool) (slots : α → List (Nat × Value)) (vw : α → View) (hp : α → List HE) (T : ∀ s ρ', AN P n B ops K f0 L0 H l' (ups ρ' (slots s)) (vw s) (hp s))
    (h : (∀ s ρ', AN P n B ops K f0 L0 H l' (ups ρ' (slots s)) (vw s) (hp s)) → AN P n B ops K f0 L0 H listed ρ f L) : AN P n B ops K f0 L0 H listed ρ f L := h T
theorem an_use {α : Type} {l' : Array Bool} {slots : α → List (Nat × Value)} {vw : α → View} {hp : α → List HE} (T : ∀ s ρ', AN P n B ops K f0 L0 H l' (ups ρ' (slots s)) (vw s) (hp s)) (s : α)
    (hl : listed = l' := by kernel_rfl) (hv : vw s = f := by rfl) (hh : hp s = L := by rfl) (ha : Agree ρ (slots s) := by first | exact trivial | exact ⟨rfl, trivial⟩ | exact ⟨rfl, rfl, trivial⟩ | exact ⟨rfl, rfl, rfl, trivial⟩ | exact ⟨rfl, rfl, rfl, rfl, trivial⟩ | exact ⟨rfl, rfl, rfl, rfl, rfl, trivial⟩ | exact ⟨rfl, rfl, rfl, rfl, rfl, rfl, trivial⟩ | exact ⟨rfl, rfl, rfl, rfl, rfl, rfl, rfl, trivial⟩ | exact ⟨rfl, rfl, rfl, rfl, rfl, rfl, rfl, rfl, trivial⟩ | exact ⟨rfl, rfl, rfl, rfl, rfl, rfl, rfl, rfl, rfl, trivial⟩ | exact ⟨rfl, rfl, rfl, rfl, rfl, rfl, rfl, rfl, rfl, rfl, trivial⟩ | exact ⟨rfl, rfl, rfl, rfl, rfl, rfl, rfl, rfl, rfl, rfl, rfl, trivial⟩ | exact ⟨rfl, rfl, rfl, rfl, rfl, rfl, rfl, rfl, rfl, rfl, rfl, rfl, trivial⟩ | exact ⟨rfl, rfl, rfl, rfl, rfl, rfl, rfl, rfl, rfl, rfl, rfl, rfl, rfl, trivial⟩ | exact ⟨rfl, rfl, rfl, rfl, rfl, rfl, rfl, rfl, rfl, rfl, rfl, rfl, rfl, rfl, trivial⟩ | exact ⟨rfl, rfl, rfl, rfl, rfl, rfl, rfl, rfl, rfl, rfl, rfl, rfl, rfl, rfl, rfl, trivial⟩ | exact ⟨rfl, rfl, rfl, rfl, rfl, rfl, rfl, rfl, rfl, rfl, rfl, rfl, rfl, rfl, rfl, rfl, trivial⟩) : AN P n B ops K f0 L0 H listed ρ f L := by
  subst hl hv hh
  rw [← ups_agree ha]
  exact T s ρ
theorem an_drop {e : HE} (k : AN P n B ops K f0 L0 H listed ρ f L) : AN P n B ops K f0 L0 H listed ρ f (e :: L) :=
  ⟨fun h0 hok hsel hcl w hw => k.out h0 hok hsel hcl w (hw.sublist (List.sublist_cons_self _ _))⟩
theorem an_perm {L' : List HE} (hp : L.Perm L') (k : AN P n B ops K f0 L0 H listed ρ f L') : AN P n B ops K f0 L0 H listed ρ f L :=
  ⟨fun h0 hok hsel hcl w hw => k.out h0 hok hsel hcl w (hw.perm hp)⟩
/-- A region that draws. -/
theorem ew_an {id : Nat} (H : List Nat) (L0 : List HE) (hL0 : L0.Sublist L) (hm : P.follows .mixedOrders = true)
    (h : AN P n B ops (Q .normal) f L0 H (Array.replicate ops.size false) ρ f L) (hsel : Region.noSelect ops = true) : EW P n B (.region id ops true) Q ρ f L := by
  refine ⟨fun w hw a ha hok => wp_mono (Q := Qs n B (onlyN (Q .normal))) (wp_region_any hm (anyT_any (S := fun w => St B f L0 w) (nd := ndH ops H) _ _ _ _ ?_)) ?_⟩
  case refine_2 =>
    rintro e a' w' ⟨ρ', f', L', h1, h2, h3⟩
    cases e with
    | normal => exact ⟨ρ', f', L', h1, h2, h3⟩
    | _ => exact h3.elim
  have hw1 : St B f L { w with drawn := w.drawn + 1 } := hw.drawn _
  exact h.out ⟨_, hw1.sublist hL0⟩ hok hsel (Closed.start _) _ hw1 a ha _ (by unfold cntF; simp)
/-- Behind one: what must last, and the rest. -/
theorem aH {i : Nat} (hh : HeldL f0 L0 f L) (h : AN P n B ops K f0 L0 H listed ρ f L) : RW .s P n B ops (fun ρ' f' L' => (ndH ops H i = true → HeldL f0 L0 f' L') ∧ AN P n B ops K f0 L0 H listed ρ' f' L') [] ρ f L := rw_end ⟨fun _ => hh, h⟩
theorem a0 {i : Nat} (h : AN P n B ops K f0 L0 H listed ρ f L) (hh : ndH ops H i = false := by kernel_rfl) : RW .s P n B ops (fun ρ' f' L' => (ndH ops H i = true → HeldL f0 L0 f' L') ∧ AN P n B ops K f0 L0 H listed ρ' f' L') [] ρ f L := rw_end ⟨fun h1 => (by rw [hh] at h1; cases h1), h⟩
def lsA (n : Nat) (is : List Nat) : Array Bool := ⟨(List.range n).map fun i => is.contains i⟩
theorem HeldL.same : HeldL f L f L := ⟨Sub.refl _, fun _ h => h⟩
theorem HeldL.cons {e : HE} (h : HeldL f0 L0 f L) : HeldL f0 L0 f (e :: L) := ⟨h.view, fun x hx => List.mem_cons_of_mem _ (h.ents x hx)⟩
theorem HeldL.none (h : Sub f0 f) : HeldL f0 [] f L := ⟨h, fun x hx => by cases hx⟩
end
theorem eA {n : Nat} {B : Bs} {f : View} {L : List HE} {ρ : Env} {Q : Post} {ops : Array Oper} {id : Nat} (H : List Nat) (L0 : List HE) (hL0 : L0.Sublist L) (h : AN Tryz.prog n B ops (Q .normal) f L0 H (Array.replicate ops.size false) ρ f L)
    (hsel : Region.noSelect ops = true := by kernel_rfl) : EW Tryz.prog n B (.region id ops true) Q ρ f L := ew_an H L0 hL0 mixed h hsel
theorem sA {n : Nat} {B : Bs} {f : View} {L : List HE} {ρ : Env} {Q : Post} {ops : Array Oper} {id : Nat} {c : Code} (H : List Nat) (L0 : List HE) (hL0 : L0.Sublist L) (h : AN Tryz.prog n B ops (EW Tryz.prog n B c Q) f L0 H (Array.replicate ops.size false) ρ f L)
    (hsel : Region.noSelect ops = true := by kernel_rfl) : EW Tryz.prog n B (.seq (.region id ops true) c) Q ρ f L := ew_seq (ew_an H L0 hL0 mixed h hsel)
theorem an_L {P : Program} {n : Nat} {B : Bs} {f f0 : View} {L L0 : List HE} {ρ : Env} {ops : Array Oper} {H : List Nat} {listed : Array Bool} {K : Kon} (L' : List HE) (hs : ∀ w, St B f L w → St B f L' w) (k : AN P n B ops K f0 L0 H listed ρ f L') : AN P n B ops K f0 L0 H listed ρ f L :=
  ⟨fun h0 hok hsel hcl w hw => k.out h0 hok hsel hcl w (hs w hw)⟩
end Go.Hog

set_option linter.unusedVariables false
set_option linter.unusedSimpArgs false
namespace Go.Hog
open Go.RowKit Rp
section
variable {P : Program} {n : Nat} {B : Bs} {f : View} {L : List HE} {ρ : Env} {Q : Post} {K : Kon} {ops : Array Oper} {m : Md} {l l0 : List Oper} {ρ0 : Env}
variable {d : Nat} {x y : Operand} {a b : Int} {t ty t2 : TypeId} {pos : String} {af : Array Edge} {gd : Option (Nat × Bool)}
variable {kk k2 : IntKind} {src dst e : TypeId}
def kindT (P : Program) (t : TypeId) : Option IntKind := match P.underlying t with | some (.int k) => some k | _ => none
theorem und_kindT {k : IntKind} (h : kindT P t = some k) : P.underlying t = some (.int k) := by
  unfold kindT at h
  split at h
  · rename_i hu; injection h with h; subst h; exact hu
  · cases h
/-- From one kind of number to another one. -/
theorem cvI (r : Int) (hr : k2.wrap a = r) (k : RW m P n B ops K l (up ρ d (.int k2 r)) f L) (hrun : runP P ops l0 ρ0 = (⟨some d, .convert src dst x, ty, pos, af, gd⟩ :: l, ρ) := by rfl) (hg : wantedE ops ρ ⟨some d, .convert src dst x, ty, pos, af, gd⟩ = true := by rfl)
    (hx : ev ρ x = .int kk a := by rfl) (hs : kindT P src = some kk := by rfl) (hd : kindT P dst = some k2 := by rfl) : RW m P n B ops K l0 ρ0 f L := by
  refine rw_runP l0 ρ0 ?_
  rw [hrun]
  subst hr
  exact rw_y hg (fun w _ => by simp [execOp, convert, hx, run_und (und_kindT hs), run_und (und_kindT hd), Conv.intToInt]) k
theorem remK (r : Int) (hb : b ≠ 0) (hr : a.tmod b = r) (k : RW m P n B ops K l (up ρ d (.int kk r)) f L) (hrun : runP P ops l0 ρ0 = (⟨some d, .binOp .rem t x y t2, ty, pos, af, gd⟩ :: l, ρ) := by rfl) (hg : wantedE ops ρ ⟨some d, .binOp .rem t x y t2, ty, pos, af, gd⟩ = true := by rfl) (hx : ev ρ x = .int kk a := by rfl) (hy : ev ρ y = .int kk b := by rfl) : RW m P n B ops K l0 ρ0 f L := by
  refine rw_runP l0 ρ0 ?_
  rw [hrun]
  exact rw_y hg (fun w _ => by simp [execOp, eqGuard, binOp, hx, hy, Op.intDiv, hb, hr]) k
theorem addK (r : Int) (hr : kk.wrap (a + b) = r) (k : RW m P n B ops K l (up ρ d (.int kk r)) f L) (hrun : runP P ops l0 ρ0 = (⟨some d, .binOp .add t x y t2, ty, pos, af, gd⟩ :: l, ρ) := by rfl) (hg : wantedE ops ρ ⟨some d, .binOp .add t x y t2, ty, pos, af, gd⟩ = true := by rfl) (hx : ev ρ x = .int kk a := by rfl) (hy : ev ρ y = .int kk b := by rfl) : RW m P n B ops K l0 ρ0 f L := by
  refine rw_runP l0 ρ0 ?_
  rw [hrun]
  exact rw_y hg (fun w _ => by simp [execOp, eqGuard, binOp, hx, hy, Op.intArith, hr]) k
theorem subK (r : Int) (hr : kk.wrap (a - b) = r) (k : RW m P n B ops K l (up ρ d (.int kk r)) f L) (hrun : runP P ops l0 ρ0 = (⟨some d, .binOp .sub t x y t2, ty, pos, af, gd⟩ :: l, ρ) := by rfl) (hg : wantedE ops ρ ⟨some d, .binOp .sub t x y t2, ty, pos, af, gd⟩ = true := by rfl) (hx : ev ρ x = .int kk a := by rfl) (hy : ev ρ y = .int kk b := by rfl) : RW m P n B ops K l0 ρ0 f L := by
  refine rw_runP l0 ρ0 ?_
  rw [hrun]
  exact rw_y hg (fun w _ => by simp [execOp, eqGuard, binOp, hx, hy, Op.intArith, hr]) k
theorem mulK (r : Int) (hr : kk.wrap (a * b) = r) (k : RW m P n B ops K l (up ρ d (.int kk r)) f L) (hrun : runP P ops l0 ρ0 = (⟨some d, .binOp .mul t x y t2, ty, pos, af, gd⟩ :: l, ρ) := by rfl) (hg : wantedE ops ρ ⟨some d, .binOp .mul t x y t2, ty, pos, af, gd⟩ = true := by rfl) (hx : ev ρ x = .int kk a := by rfl) (hy : ev ρ y = .int kk b := by rfl) : RW m P n B ops K l0 ρ0 f L := by
  refine rw_runP l0 ρ0 ?_
  rw [hrun]
  exact rw_y hg (fun w _ => by simp [execOp, eqGuard, binOp, hx, hy, Op.intArith, hr]) k
def byteV (b : UInt8) : Value := .int .u8 (b.toNat : Int)
def u8T (P : Program) (t : TypeId) : Option TypeId := match P.underlying t with | some (.slice e) => (match P.underlying e with | some (.int .u8) => some e | _ => none) | _ => none
theorem und_u8T {e : TypeId} (h : u8T P t = some e) : P.underlying t = some (.slice e) ∧ P.underlying e = some (.int .u8) := by
  unfold u8T at h
  split at h
  · rename_i e1 hu
    split at h
    · rename_i hu2; injection h with h; subst h; exact ⟨hu, hu2⟩
    · cases h
  · cases h
def isStr (P : Program) (t : TypeId) : Bool := match P.underlying t with | some .string => true | _ => false
theorem und_isStr (h : isStr P t = true) : P.underlying t = some .string := by
  unfold isStr at h
  split at h
  · rename_i hu; exact hu
  · cases h
/-- A text of bytes that stand in an own row (entry i). -/
theorem cvBS (i : Nat) (s : Str) {A : Option Addr} {nn c : Nat} {xs : List Value} (hs : xs = s.map byteV) (hn : nn = s.length) (h0 : 0 < nn) (k : RW m P n B ops K l (up ρ d (str s)) f L) (hrun : runP P ops l0 ρ0 = (⟨some d, .convert src dst x, ty, pos, af, gd⟩ :: l, ρ) := by rfl) (hg : wantedE ops ρ ⟨some d, .convert src dst x, ty, pos, af, gd⟩ = true := by rfl)
    (hx : ev ρ x = .slice A nn c := by rfl) (hi : L[i]? = some (.row A nn c e 1 xs) := by rfl) (hsr : u8T P src = some e := by rfl) (hd : isStr P dst = true := by rfl) : RW m P n B ops K l0 ρ0 f L := by
  refine rw_runP l0 ρ0 ?_
  rw [hrun]
  subst hs hn
  refine rw_y hg (fun w hw => ?_) k
  obtain ⟨bb, o, rfl, hc⟩ := hw.rowAll hi h0
  have := run_convert_bytes_back (P := P) w src dst e ⟨bb, o, none⟩ c s (und_u8T hsr).1 (und_u8T hsr).2 (und_isStr hd) (fun j hj => by
    rw [add_plain]
    exact hc j _ (by simp [hj, byteV]))
  simp only [execOp, hx, Sem.run_bind, this, Result.andThen_ok, Sem.run_pure]
end
theorem wrap_u64 (x : Int) : IntKind.u64.wrap x = x % 18446744073709551616 := by
  simp [IntKind.wrap, IntKind.signed, IntKind.bits]
theorem wrap_u8 (x : Int) : IntKind.u8.wrap x = x % 256 := IntKind.wrap_u8 x
theorem wrap_u32 (x : Int) : IntKind.u32.wrap x = x % 4294967296 := IntKind.wrap_u32 x
/-- What Low answers. -/
def lowV (x n : Int) : Int := (x % 18446744073709551616) % n
theorem lowV_lt (x : Int) {n : Int} (h : 0 < n) : 0 ≤ lowV x n ∧ lowV x n < n := ⟨Int.emod_nonneg _ (by omega), Int.emod_lt_of_pos _ h⟩
end Go.Hog

set_option linter.unusedVariables false
set_option linter.unusedSimpArgs false
set_option maxRecDepth 100000
namespace Go.Hog
open Go.RowKit Rp Go.Proofs
end Go.Hog

set_option linter.unusedVariables false
set_option linter.unusedSimpArgs false
namespace Go.Hog
open Go.RowKit Rp
section
variable {P : Program} {n : Nat} {B : Bs} {f : View} {L : List HE} {ρ : Env} {Q : Post} {K : Kon} {ops : Array Oper} {m : Md} {l l0 : List Oper} {ρ0 : Env}
variable {d : Nat} {x y : Operand} {t ty e : TypeId} {pos : String} {af : Array Edge} {gd : Option (Nat × Bool)} {b o : Nat} {v : Value} {vs cs : List Value}
theorem St.beside {w w' : World} {g : View} {L' : List HE} (hw : St B f L w) (h : St ⟨w, withOwn w f L, []⟩ g L' w') : St B f (L' ++ L) w' := by
  have hlt : ∀ e ∈ L, ∀ b, e.fp = some b → b < w.heap.size := fun e he b hb => hw.fp he hb
  have hkeep : ∀ i, i < w.heap.size → w'.heap[i]? = w.heap[i]? := fun i hi => h.keep i hi (by simp)
  have hL' : ∀ e ∈ L', ∀ b, e.fp = some b → w.heap.size ≤ b := fun e he b hb => by
    rcases h.mine e he b hb with h1 | h1
    · exact h1
    · cases h1
  have hfg : Sub f g := (withOwn_sub hw).trans h.ext
  refine ⟨h.os.trans hw.os, h.tape.trans hw.tape, h.output.trans hw.output, Nat.le_trans hw.size h.size, fun i hi hX => (hkeep i (Nat.lt_of_lt_of_le hi hw.size)).trans (hw.keep i hi hX), hw.ext, hw.old, hfg.on h.on, ?_, ?_, ?_, ?_⟩
  · intro e he
    rcases List.mem_append.1 he with he | he
    · exact h.own e he
    · exact HE.holds_of (hw.own e he) fun b hb => hkeep b (hlt e he b hb)
  · intro e he b hb
    rcases List.mem_append.1 he with he | he
    · exact .inl (Nat.le_trans hw.size (hL' e he b hb))
    · exact hw.mine e he b hb
  · intro e he b hb
    rcases List.mem_append.1 he with he | he
    · exact hw.fresh (hL' e he b hb)
    · exact hw.off e he b hb
  · refine List.pairwise_append.2 ⟨h.apart, hw.apart, fun e he e2 he2 b hb hb2 => ?_⟩
    have h1 := hL' e he b hb
    have h2 := hlt e2 he2 b hb2
    omega
/-- A call that makes what it hands back, and may read what is one's own. -/
theorem callMo {k : Nat} {args : Array Operand} {at_ : Array TypeId} {R : List HE → Value → Prop} (h : ∀ w g, Sub f g → (∀ e ∈ L, e.seen g) → On g w → Con P k vs w (RetM w g [] (fun _ => R)))
    (kk : ∀ v L', R L' v → RW .s P n B ops K l (up ρ d v) f (L' ++ L))
    (hrun : runP P ops l0 ρ0 = (⟨some d, .call ⟨.value (.func k), args, at_⟩, ty, pos, af, gd⟩ :: l, ρ) := by rfl) (hg : wantedE ops ρ ⟨some d, .call ⟨.value (.func k), args, at_⟩, ty, pos, af, gd⟩ = true := by rfl) (ha : args.toList.map (ev ρ) = vs := by rfl) :
    RW .s P n B ops K l0 ρ0 f L := by
  refine rw_runP l0 ρ0 ?_
  rw [hrun]
  have hcon : ∀ w, St B f L w → Con P k vs w (RetM w (withOwn w f L) [] (fun _ => R)) := fun w hw => h w _ (withOwn_sub hw) (withOwn_seen hw) (withOwn_on hw)
  refine ⟨fun w hw => ?_⟩
  have hcf := (hcon w hw).1
  refine SW.out (sw_call (args := ⟨vs⟩) hg (fun w' => run_callf hcf ha w') fun w hw => ?_) w hw
  refine (hcon w hw).2.mono ?_
  rintro en w' ⟨v, g, L', rfl, hs, hR⟩
  exact ⟨v, f, L' ++ L, rfl, hw.beside hs, kk v L' hR⟩
end
theorem Rw.split {α : Type} [Rp α] {g : View} {l : List α} {x : α} {xs : List Value} (h : Rw g (l ++ [x]) xs) : ∃ ys cs, xs = ys ++ cs ∧ Rw g l ys ∧ rp g x cs ∧ ys.length = l.length * sz α := by
  have hl := h.len
  rw [List.length_append, List.length_singleton, Nat.add_mul, Nat.one_mul] at hl
  refine ⟨xs.take (l.length * sz α), xs.drop (l.length * sz α), (List.take_append_drop _ _).symm, ⟨by rw [List.length_take]; omega, fun j hj => ?_⟩, ?_, by rw [List.length_take]; omega⟩
  · have h2 := h.at_ j (by simp; omega)
    rw [List.getElem_append_left hj] at h2
    have h3 : j * sz α + sz α ≤ l.length * sz α := by rw [← Nat.succ_mul]; exact Nat.mul_le_mul_right _ hj
    rw [List.drop_take, List.take_take, Nat.min_eq_left (by omega)]
    exact h2
  · have h2 := h.at_ l.length (by simp)
    rw [List.getElem_append_right (Nat.le_refl _)] at h2
    have e : (xs.drop (l.length * sz α)).take (sz α) = xs.drop (l.length * sz α) := List.take_of_length_le (by rw [List.length_drop]; omega)
    rw [e] at h2
    simpa using h2
/-- An item's cells in a row. -/
theorem Rw.cell {α : Type} [Rp α] {g : View} {l : List α} {xs : List Value} (h : Rw g l xs) {j : Nat} (hj : j < l.length) : ∃ cs, rp g l[j] cs ∧ ∀ k, k < sz α → xs[j * sz α + k]? = cs[k]? := by
  refine ⟨_, h.at_ j hj, fun k hk => ?_⟩
  rw [List.getElem?_take, if_pos hk, List.getElem?_drop]
theorem putL_right (ys cs : List Value) (k : Nat) (vs : List Value) (h : k + vs.length ≤ cs.length) : putL (ys ++ cs) (ys.length + k) vs = ys ++ putL cs k vs := by
  rw [← putL_eq _ _ _ (by simp; omega), ← putL_eq _ _ _ h]
  rw [List.take_append, List.drop_append]
  simp
  rw [List.take_of_length_le (by omega), List.drop_eq_nil_of_le (by omega), Nat.add_assoc, Nat.add_sub_cancel_left, List.nil_append]
end Go.Hog
