/- A region that draws its order, whose last operation waits for all others: the walk along a schedule; what the schedule's loads lean on need not hold behind that last operation. No program in sight. -/
import Derived.Test.YtmikckhihfcooaaGreatDoorSched
namespace Go.Proofs.YtmikckhihfcooaaGreatDoor
open Go.RowKit
section
variable {P : Program} {ops : Array Oper} {Q : Exit → Act → World → Prop} {S : World → Prop} {z : Nat}
/-- Does operation z wait for all others? -/
def lastB (ops : Array Oper) (z : Nat) (oz : Oper) : Bool := (List.range ops.size).all fun i => i == z || oz.after.any fun e => Region.binds .any e && (e.on == i || (match ops[e.on]? with
  | some o => o.after.any fun e' => Region.binds .any e' && e'.on == i
  | none => false))
/-- Whatever has come up, all that it waits for has come up. -/
def RgClosed (ops : Array Oper) (listed : Array Bool) : Prop := ∀ j o, listed.getD j false = true → ops[j]? = some o → ∀ e ∈ o.after, Region.binds .any e = true → listed.getD e.on false = true
theorem getD_true_of_set {listed : Array Bool} {i j : Nat} (h : (listed.setIfInBounds i true).getD j false = true) (hne : j ≠ i) : listed.getD j false = true := by
  rw [getD_set_ne false (Ne.symm hne)] at h; exact h
theorem RgClosed.set_ {ops : Array Oper} {listed : Array Bool} {i : Nat} (h : RgClosed ops listed) (hi : i ∈ Region.ready .any ops listed) : RgClosed ops (listed.setIfInBounds i true) := by
  intro j o hj ho e he hb
  by_cases hji : j = i
  · subst hji
    obtain ⟨_, o', ho', hall⟩ := mem_ready.1 hi
    rw [ho] at ho'; cases ho'
    exact getD_set_true (hall e he hb)
  · exact getD_set_true (h j o (getD_true_of_set hj hji) ho e he hb)
theorem RgClosed.start (ops : Array Oper) (n : Nat) : RgClosed ops (Array.replicate n false) := by
  intro j o hj
  exfalso
  rw [Array.getD_eq_getD_getElem?, Array.getElem?_replicate] at hj
  split at hj <;> simp at hj
/-- Whatever order is picked, till z alone is left. -/
def wpAnyT (P : Program) (ops : Array Oper) (Q : Exit → Act → World → Prop) (S : World → Prop) (z : Nat) : Nat → Array Bool → Act → World → Prop
  | 0, listed, a, w => Region.ready .any ops listed = [z] ∧ Region.ready .any ops (listed.setIfInBounds z true) = [] ∧ wpOp P ops Q z (fun a' w' => Q .normal a' w') a w
  | fuel + 1, listed, a, w => Region.ready .any ops listed ≠ [] ∧ ∀ i ∈ Region.ready .any ops listed, wpOp P ops Q i (fun a' w' => S w' ∧ wpAnyT P ops Q S z fuel (listed.setIfInBounds i true) a' w') a w
theorem wpAny_of_T : ∀ (fuel : Nat) (listed : Array Bool) (a : Act) (w : World), wpAnyT P ops Q S z fuel listed a w → wpAny P .any ops Q (fuel + 1) listed a w
  | 0, listed, a, w, h => by
    obtain ⟨h1, h2, h3⟩ := h
    refine ⟨fun h => (by rw [h1] at h; cases h), fun i hi => ?_⟩
    rw [h1] at hi
    obtain rfl : i = z := by simpa using hi
    exact wpOp_mono (fun a' w' h' => ⟨h2, h'⟩) h3
  | fuel + 1, _, _, _, h => ⟨fun h0 => absurd h0 h.1, fun i hi => wpOp_mono (fun a' w' h' => wpAny_of_T fuel _ a' w' h'.2) (h.2 i hi)⟩
theorem wpAnyT_first {i : Nat} {oi oz : Oper} {v : Value} (hz : ops[z]? = some oz) (hl : lastB ops z oz = true) (hi : ops[i]? = some oi) (hiz : i ≠ z) (hsel : ∀ (j : Nat) (o : Oper) cs b, ops[j]? = some o → o.op ≠ .select cs b)
    (hQ : ∀ c a w, Q (.panic c) (a.put oi.dst v) w → Q (.panic c) a w) :
    ∀ (fuel : Nat) (listed : Array Bool) (a : Act) (w : World), RgClosed ops listed →
      (∀ j oj, ops[j]? = some oj → j ≠ i → listed.getD j true = false → (∀ e ∈ oj.after, Region.binds .any e = true → e.on ≠ i) → oi.apart ops oj = true) →
      i ∈ Region.ready .any ops listed → YieldsIf P ops S oi v a → S w →
      wpAnyT P ops Q S z fuel (listed.setIfInBounds i true) (a.put oi.dst v) w → wpAnyT P ops Q S z (fuel + 1) listed a w := by
  have hun : ∀ (listed : Array Bool), i ∈ Region.ready .any ops listed → listed.getD i false = true → False := by
    intro listed hr h1
    have h0 := (mem_ready.1 hr).1
    rcases Nat.lt_or_ge i listed.size with h' | h'
    · simp [h'] at h0 h1; rw [h0] at h1; cases h1
    · simp [Array.getElem?_eq_none h'] at h1
  have hno : ∀ (listed : Array Bool) (j : Nat), j ∈ Region.ready .any ops listed → i ∈ Region.ready .any ops listed → j ≠ i → ∀ oj, ops[j]? = some oj → ∀ e ∈ oj.after, Region.binds .any e = true → e.on ≠ i := by
    intro listed j hj hr _ oj hoj e he hb heq
    obtain ⟨_, oj', hoj', hall⟩ := mem_ready.1 hj
    rw [hoj] at hoj'
    cases hoj'
    exact hun listed hr (by rw [← heq]; exact hall e he hb)
  intro fuel
  induction fuel with
  | zero =>
    intro listed a w hcl _ hr hy hS H
    refine ⟨fun h => (by rw [h] at hr; cases hr), fun j hj => ?_⟩
    by_cases hji : j = i
    · subst hji; exact hy.wpOp hi hS ⟨hS, H⟩
    · exfalso
      have hm := ready_mono hj hji
      rw [H.1] at hm
      obtain rfl : j = z := by simpa using hm
      have hli : i < ops.size := (Array.getElem?_eq_some_iff.1 hi).1
      have h1 := List.all_eq_true.1 hl i (List.mem_range.2 hli)
      simp only [Bool.or_eq_true, beq_iff_eq] at h1
      rcases h1 with h1 | h1
      · exact hiz h1
      · rw [Array.any_eq_true] at h1
        obtain ⟨q, hq, h2⟩ := h1
        simp only [Bool.and_eq_true, Bool.or_eq_true, beq_iff_eq] at h2
        rcases h2.2 with h3 | h3
        · exact hno listed j hj hr hji oz hz _ (Array.getElem_mem hq) h2.1 h3
        · obtain ⟨_, oj', hoj', hall⟩ := mem_ready.1 hj
          rw [hz] at hoj'
          cases hoj'
          have h4 := hall _ (Array.getElem_mem hq) h2.1
          cases ho : ops[(oz.after[q]).on]? with
          | none => rw [ho] at h3; simp at h3
          | some o =>
            rw [ho] at h3
            simp only [Array.any_eq_true] at h3
            obtain ⟨q', hq', h5⟩ := h3
            simp only [Bool.and_eq_true, beq_iff_eq] at h5
            have h6 := hcl _ o h4 ho _ (Array.getElem_mem hq') h5.1
            rw [h5.2] at h6
            exact hun listed hr h6
  | succ fuel ih =>
    intro listed a w hcl hfree hr hy hS H
    refine ⟨fun h => (by rw [h] at hr; cases hr), fun j hj => ?_⟩
    by_cases hji : j = i
    · subst hji; exact hy.wpOp hi hS ⟨hS, H⟩
    · have h1 := H.2 j (ready_mono hj hji)
      obtain ⟨hjun, oj, hoj, hall⟩ := mem_ready.1 hj
      have h2 := wpOp_putIf hoj (hfree j oj hoj hji hjun (hno listed j hj hr hji oj hoj)) (fun cs b => hsel i oi cs b hi) (fun cs b => hsel j oj cs b hoj) hQ hy h1
      have hfree' : ∀ k ok, ops[k]? = some ok → k ≠ i → (listed.setIfInBounds j true).getD k true = false →
          (∀ e ∈ ok.after, Region.binds .any e = true → e.on ≠ i) → oi.apart ops ok = true := fun k ok hk hki hun hno' => by
        refine hfree k ok hk hki ?_ hno'
        by_cases hjk : j = k
        · subst hjk; exact hjun
        · rw [getD_set_ne true hjk] at hun; exact hun
      refine wpOp_mono (fun a' w' h3 => ⟨h3.2.1, ih (listed.setIfInBounds j true) a' w' (hcl.set_ hj) hfree' (ready_mono hr (Ne.symm hji)) h3.1 h3.2.1 ?_⟩) h2
      rw [Array.setIfInBounds_comm _ _ hji]
      exact h3.2.2
/-- As Q, but that behind the walk operation z is still to be done. -/
def Qz (P : Program) (ops : Array Oper) (Q : Exit → Act → World → Prop) (oz : Oper) : Exit → Act → World → Prop
  | .normal, a, w => wpList P ops Q [oz] a w
  | .exit id, a, w => Q (.exit id) a w
  | .goto l, a, w => Q (.goto l) a w
  | .ret, a, w => Q .ret a w
  | .panic c, a, w => Q (.panic c) a w
  | .outgrown, a, w => Q .outgrown a w
/-- May the schedule be followed, till z alone is left? -/
def schedZ (ops : Array Oper) (z : Nat) : List (Nat × Bool) → Array Bool → Bool
  | [], listed => (Region.ready .any ops listed == [z]) && (Region.ready .any ops (listed.setIfInBounds z true)).isEmpty
  | (i, true) :: rest, listed => (i != z) && (Region.ready .any ops listed).contains i && Region.free .any ops listed i && (match ops[i]? with | some o => stillKind o | none => false) && schedZ ops z rest (listed.setIfInBounds i true)
  | (i, false) :: rest, listed => (Region.ready .any ops listed == [i]) && schedZ ops z rest (listed.setIfInBounds i true)
theorem wpOp_of_list {K : Act → World → Prop} {R : Exit → Act → World → Prop} {i : Nat} {o : Oper} {a : Act} {w : World} (hi : ops[i]? = some o) (h : wpList P ops R [o] a w)
    (hn : ∀ a w, R .normal a w → K a w) (hp : ∀ c a w, R (.panic c) a w → Q (.panic c) a w) (ho : LetsOut R → LetsOut Q) : wpOp P ops Q i K a w := by
  unfold wpList at h
  unfold wpOp
  simp only [hi]
  by_cases hw : Region.wanted o (yielded ops a.tmps) = true
  · rw [if_pos hw] at h ⊢
    rcases h with h | ⟨h1, h2⟩
    · left
      unfold Oper.wp at h ⊢
      generalize (execOp a.eval o).run P w = r at *
      cases r with
      | ok n w' =>
        cases n <;> simp only [Oper.upon] at h ⊢
        case enter f args =>
          exact h.mono fun e w'' hh => by
            cases e with
            | returned v => exact hn _ _ hh
            | panicked c => exact hp _ _ _ hh
            | outgrown => exact ho hh
        case row row args => exact h.mono fun v w'' hh => hn _ _ hh
        all_goals first
          | exact hn _ _ h
          | exact h
      | halt x w' =>
        cases x <;> simp only [Oper.upon] at h ⊢
        all_goals first
          | exact hp _ _ _ h
          | exact h
    · exact .inr ⟨h1, ho h2⟩
  · rw [if_neg hw] at h ⊢
    exact hn _ _ h
theorem wpAnyT_sched {oz : Oper} (hz : ops[z]? = some oz) (hl : lastB ops z oz = true) (hs : Region.noSelect ops = true) (hQ : ∀ c a (d : Tmp) v w, Q (.panic c) (Act.put a (some d) v) w → Q (.panic c) a w) :
    ∀ (σ : List (Nat × Bool)) (listed : Array Bool) (a : Act) (w : World), RgClosed ops listed → schedZ ops z σ listed = true → S w → wpSched P ops S (Qz P ops Q oz) (opersOf ops σ) a w → wpAnyT P ops Q S z σ.length listed a w
  | [], listed, a, w, _, hB, _, h => by
    simp only [schedZ, Bool.and_eq_true, beq_iff_eq, List.isEmpty_iff] at hB
    refine ⟨hB.1, hB.2, ?_⟩
    simp only [opersOf] at h
    unfold wpSched at h
    replace h := h.out
    exact wpOp_of_list hz h (fun _ _ h => h) (fun _ _ _ h => h) (fun h => h)
  | (i, true) :: rest, listed, a, w, hcl, hB, hC, h => by
    simp only [schedZ, Bool.and_eq_true, bne_iff_ne] at hB
    obtain ⟨⟨⟨⟨hne, hr⟩, hf⟩, hk⟩, hB'⟩ := hB
    cases hi : ops[i]? with
    | none => rw [hi] at hk; simp at hk
    | some o =>
      rw [hi] at hk
      simp only [opersOf, hi] at h
      unfold wpSched at h
      replace h := h.out
      by_cases hw : Region.wanted o (yielded ops a.tmps) = true
      · rw [if_pos hw] at h
        obtain ⟨v, h1, h2⟩ := h
        exact wpAnyT_first hz hl hi hne (Region.noSelect_spec hs) (fun c a w hh => hQput hQ c a _ _ w hh) _ _ _ _ hcl (Region.free_spec hi hf) (by simpa using hr) (yieldsIf_of_quiet hk hw h1) hC (wpAnyT_sched hz hl hs hQ rest _ _ _ (hcl.set_ (by simpa using hr)) hB' hC h2)
      · rw [if_neg hw] at h
        exact wpAnyT_first hz hl hi hne (Region.noSelect_spec hs) (fun c a w hh => hQput hQ c a _ _ w hh) _ _ _ _ hcl (Region.free_spec hi hf) (by simpa using hr) (.inr ⟨by simpa using hw, rfl⟩) hC (wpAnyT_sched hz hl hs hQ rest _ _ _ (hcl.set_ (by simpa using hr)) hB' hC h)
  | (i, false) :: rest, listed, a, w, hcl, hB, hC, h => by
    simp only [schedZ, Bool.and_eq_true, beq_iff_eq] at hB
    obtain ⟨hr, hB'⟩ := hB
    refine ⟨by rw [hr]; simp, fun j hj => ?_⟩
    rw [hr] at hj
    obtain rfl : j = i := by simpa using hj
    cases hi : ops[j]? with
    | none =>
      exfalso
      have hm : j ∈ Region.ready .any ops listed := by rw [hr]; simp
      obtain ⟨_, o, ho, _⟩ := mem_ready.1 hm
      rw [hi] at ho; cases ho
    | some o =>
      simp only [opersOf, hi] at h
      unfold wpSched at h
      replace h := h.out
      exact wpOp_of_list hi h (fun a w hh => ⟨hh.1, wpAnyT_sched hz hl hs hQ rest _ _ _ (hcl.set_ (by rw [hr]; simp)) hB' hh.1 hh.2⟩) (fun _ _ _ h => h) (fun ⟨a, w, hh⟩ => ⟨a, w, hh⟩)
theorem wp_region_schedZ {id : Nat} {a : Act} {w : World} (σ : List (Nat × Bool)) (z : Nat) (oz : Oper) (F : World → Prop) (hm : P.follows .mixedOrders = true) (hs : Region.noSelect ops = true) (hz : ops[z]? = some oz) (hl : lastB ops z oz = true) (hlen : σ.length + 1 = ops.size)
    (hQ : ∀ c a (d : Tmp) v w, Q (.panic c) (Act.put a (some d) v) w → Q (.panic c) a w) (hB : schedZ ops z σ (Array.replicate ops.size false) = true) (hF : F w) (hd : F w → F w.drew)
    (h : Nonempty (Wof F) → wpSched P ops (fun w' => ∃ p : Wof F, w' = p.w) (Qz P ops Q oz) (opersOf ops σ) a w.drew) : (Code.region id ops true).wp P Q a w := by
  refine wp_region_any hm ?_
  rw [← hlen]
  exact wpAny_of_T _ _ _ _ (wpAnyT_sched hz hl hs hQ σ _ a _ (RgClosed.start _ _) (by rw [hlen]; exact hB) ⟨⟨_, hd hF⟩, rfl⟩ (h ⟨⟨_, hF⟩⟩))
theorem qz_nil {oz : Oper} {a : Act} {w : World} (h : wpList P ops Q [oz] a w) : Qz P ops Q oz .normal a w := h
end
end Go.Proofs.YtmikckhihfcooaaGreatDoor
