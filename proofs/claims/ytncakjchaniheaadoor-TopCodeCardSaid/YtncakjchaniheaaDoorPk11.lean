/- A region that draws its order, whose last operation waits for all others: the walk along a schedule; what the schedule's loads lean on need not hold behind that last operation. No program in sight. A region that draws its order, walked along a tree of schedules: where several operations that make memory may come up, each of them; the last operations come one by one and wait for all others, and what the loads lean on need not hold behind the first of them. No program in sight. The sort of piles: at most twelve: the insertion sort. -/
import Derived.Test.YtncakjchaniheaaDoorPk06
import Derived.Test.YtncakjchaniheaaDoorPk10
import Derived.Lib.QuietBelow
namespace Go.Proofs.YtncakjchaniheaaDoor
open Go.RowKit
section
variable {P : Program} {ops : Array Oper} {Q : Exit → Act → World → Prop} {S : World → Prop} {z : Nat}
/-- Does operation z wait for all others? -/
def lastB (ops : Array Oper) (z : Nat) (oz : Oper) : Bool := (List.range ops.size).all fun i => i == z || oz.after.any fun e => Region.binds .any e && (e.on == i || (match ops[e.on]? with
  | some o => o.after.any fun e' => Region.binds .any e' && e'.on == i
  | none => false))
/-- Whatever has come up, all that it waits for has come up. -/
def RgClosed (ops : Array Oper) (listed : Array Bool) : Prop := ∀ j o, listed.getD j false = true → ops[j]? = some o → ∀ e ∈ o.after, Region.binds .any e = true → listed.getD e.on false = true
theorem getD_true_of_set {listed : Array Bool} {i j : Nat} (h : (listed.setIfInBounds i true).getD j false = true) (hne : j ≠ i) : listed.getD j false = true := by
  rw [getD_set_ne false (Ne.symm hne)] at h; exact h
theorem RgClosed.set_ {ops : Array Oper} {listed : Array Bool} {i : Nat} (h : RgClosed ops listed) (hi : i ∈ Region.ready .any ops listed) : RgClosed ops (listed.setIfInBounds i true) := by
  intro j o hj ho e he hb
  by_cases hji : j = i
  · subst hji
    obtain ⟨_, o', ho', hall⟩ := mem_ready.1 hi
    rw [ho] at ho'; cases ho'
    exact getD_set_true (hall e he hb)
  · exact getD_set_true (h j o (getD_true_of_set hj hji) ho e he hb)
theorem RgClosed.start (ops : Array Oper) (n : Nat) : RgClosed ops (Array.replicate n false) := by
  intro j o hj
  exfalso
  rw [Array.getD_eq_getD_getElem?, Array.getElem?_replicate] at hj
  split at hj <;> simp at hj
/-- Whatever order is picked, till z alone is left. -/
def wpAnyT (P : Program) (ops : Array Oper) (Q : Exit → Act → World → Prop) (S : World → Prop) (z : Nat) : Nat → Array Bool → Act → World → Prop
  | 0, listed, a, w => Region.ready .any ops listed = [z] ∧ Region.ready .any ops (listed.setIfInBounds z true) = [] ∧ wpOp P ops Q z (fun a' w' => Q .normal a' w') a w
  | fuel + 1, listed, a, w => Region.ready .any ops listed ≠ [] ∧ ∀ i ∈ Region.ready .any ops listed, wpOp P ops Q i (fun a' w' => S w' ∧ wpAnyT P ops Q S z fuel (listed.setIfInBounds i true) a' w') a w
theorem wpAny_of_T : ∀ (fuel : Nat) (listed : Array Bool) (a : Act) (w : World), wpAnyT P ops Q S z fuel listed a w → wpAny P .any ops Q (fuel + 1) listed a w
  | 0, listed, a, w, h => by
    obtain ⟨h1, h2, h3⟩ := h
    refine ⟨fun h => (by rw [h1] at h; cases h), fun i hi => ?_⟩
    rw [h1] at hi
    obtain rfl : i = z := by simpa using hi
    exact wpOp_mono (fun a' w' h' => ⟨h2, h'⟩) h3
  | fuel + 1, _, _, _, h => ⟨fun h0 => absurd h0 h.1, fun i hi => wpOp_mono (fun a' w' h' => wpAny_of_T fuel _ a' w' h'.2) (h.2 i hi)⟩
theorem wpAnyT_first {i : Nat} {oi oz : Oper} {v : Value} (hz : ops[z]? = some oz) (hl : lastB ops z oz = true) (hi : ops[i]? = some oi) (hiz : i ≠ z) (hsel : ∀ (j : Nat) (o : Oper) cs b, ops[j]? = some o → o.op ≠ .select cs b)
    (hQ : ∀ c a w, Q (.panic c) (a.put oi.dst v) w → Q (.panic c) a w) :
    ∀ (fuel : Nat) (listed : Array Bool) (a : Act) (w : World), RgClosed ops listed →
      (∀ j oj, ops[j]? = some oj → j ≠ i → listed.getD j true = false → (∀ e ∈ oj.after, Region.binds .any e = true → e.on ≠ i) → oi.apart ops oj = true) →
      i ∈ Region.ready .any ops listed → YieldsIf P ops S oi v a → S w →
      wpAnyT P ops Q S z fuel (listed.setIfInBounds i true) (a.put oi.dst v) w → wpAnyT P ops Q S z (fuel + 1) listed a w := by
  have hun : ∀ (listed : Array Bool), i ∈ Region.ready .any ops listed → listed.getD i false = true → False := by
    intro listed hr h1
    have h0 := (mem_ready.1 hr).1
    rcases Nat.lt_or_ge i listed.size with h' | h'
    · simp [h'] at h0 h1; rw [h0] at h1; cases h1
    · simp [Array.getElem?_eq_none h'] at h1
  have hno : ∀ (listed : Array Bool) (j : Nat), j ∈ Region.ready .any ops listed → i ∈ Region.ready .any ops listed → j ≠ i → ∀ oj, ops[j]? = some oj → ∀ e ∈ oj.after, Region.binds .any e = true → e.on ≠ i := by
    intro listed j hj hr _ oj hoj e he hb heq
    obtain ⟨_, oj', hoj', hall⟩ := mem_ready.1 hj
    rw [hoj] at hoj'
    cases hoj'
    exact hun listed hr (by rw [← heq]; exact hall e he hb)
  intro fuel
  induction fuel with
  | zero =>
    intro listed a w hcl _ hr hy hS H
    refine ⟨fun h => (by rw [h] at hr; cases hr), fun j hj => ?_⟩
    by_cases hji : j = i
    · subst hji; exact hy.wpOp hi hS ⟨hS, H⟩
    · exfalso
      have hm := ready_mono hj hji
      rw [H.1] at hm
      obtain rfl : j = z := by simpa using hm
      have hli : i < ops.size := (Array.getElem?_eq_some_iff.1 hi).1
      have h1 := List.all_eq_true.1 hl i (List.mem_range.2 hli)
      simp only [Bool.or_eq_true, beq_iff_eq] at h1
      rcases h1 with h1 | h1
      · exact hiz h1
      · rw [Array.any_eq_true] at h1
        obtain ⟨q, hq, h2⟩ := h1
        simp only [Bool.and_eq_true, Bool.or_eq_true, beq_iff_eq] at h2
        rcases h2.2 with h3 | h3
        · exact hno listed j hj hr hji oz hz _ (Array.getElem_mem hq) h2.1 h3
        · obtain ⟨_, oj', hoj', hall⟩ := mem_ready.1 hj
          rw [hz] at hoj'
          cases hoj'
          have h4 := hall _ (Array.getElem_mem hq) h2.1
          cases ho : ops[(oz.after[q]).on]? with
          | none => rw [ho] at h3; simp at h3
          | some o =>
            rw [ho] at h3
            simp only [Array.any_eq_true] at h3
            obtain ⟨q', hq', h5⟩ := h3
            simp only [Bool.and_eq_true, beq_iff_eq] at h5
            have h6 := hcl _ o h4 ho _ (Array.getElem_mem hq') h5.1
            rw [h5.2] at h6
            exact hun listed hr h6
  | succ fuel ih =>
    intro listed a w hcl hfree hr hy hS H
    refine ⟨fun h => (by rw [h] at hr; cases hr), fun j hj => ?_⟩
    by_cases hji : j = i
    · subst hji; exact hy.wpOp hi hS ⟨hS, H⟩
    · have h1 := H.2 j (ready_mono hj hji)
      obtain ⟨hjun, oj, hoj, hall⟩ := mem_ready.1 hj
      have h2 := wpOp_putIf hoj (hfree j oj hoj hji hjun (hno listed j hj hr hji oj hoj)) (fun cs b => hsel i oi cs b hi) (fun cs b => hsel j oj cs b hoj) hQ hy h1
      have hfree' : ∀ k ok, ops[k]? = some ok → k ≠ i → (listed.setIfInBounds j true).getD k true = false →
          (∀ e ∈ ok.after, Region.binds .any e = true → e.on ≠ i) → oi.apart ops ok = true := fun k ok hk hki hun hno' => by
        refine hfree k ok hk hki ?_ hno'
        by_cases hjk : j = k
        · subst hjk; exact hjun
        · rw [getD_set_ne true hjk] at hun; exact hun
      refine wpOp_mono (fun a' w' h3 => ⟨h3.2.1, ih (listed.setIfInBounds j true) a' w' (hcl.set_ hj) hfree' (ready_mono hr (Ne.symm hji)) h3.1 h3.2.1 ?_⟩) h2
      rw [Array.setIfInBounds_comm _ _ hji]
      exact h3.2.2
/-- As Q, but that behind the walk operation z is still to be done. -/
def Qz (P : Program) (ops : Array Oper) (Q : Exit → Act → World → Prop) (oz : Oper) : Exit → Act → World → Prop
  | .normal, a, w => wpList P ops Q [oz] a w
  | .exit id, a, w => Q (.exit id) a w
  | .goto l, a, w => Q (.goto l) a w
  | .ret, a, w => Q .ret a w
  | .panic c, a, w => Q (.panic c) a w
  | .outgrown, a, w => Q .outgrown a w
/-- May the schedule be followed, till z alone is left? -/
def schedZ (ops : Array Oper) (z : Nat) : List (Nat × Bool) → Array Bool → Bool
  | [], listed => (Region.ready .any ops listed == [z]) && (Region.ready .any ops (listed.setIfInBounds z true)).isEmpty
  | (i, true) :: rest, listed => (i != z) && (Region.ready .any ops listed).contains i && Region.free .any ops listed i && (match ops[i]? with | some o => stillKind o | none => false) && schedZ ops z rest (listed.setIfInBounds i true)
  | (i, false) :: rest, listed => (Region.ready .any ops listed == [i]) && schedZ ops z rest (listed.setIfInBounds i true)
theorem wpOp_of_list {K : Act → World → Prop} {R : Exit → Act → World → Prop} {i : Nat} {o : Oper} {a : Act} {w : World} (hi : ops[i]? = some o) (h : wpList P ops R [o] a w)
    (hn : ∀ a w, R .normal a w → K a w) (hp : ∀ c a w, R (.panic c) a w → Q (.panic c) a w) (ho : LetsOut R → LetsOut Q) : wpOp P ops Q i K a w := by
  unfold wpList at h
  unfold wpOp
  simp only [hi]
  by_cases hw : Region.wanted o (yielded ops a.tmps) = true
  · rw [if_pos hw] at h ⊢
    rcases h with h | ⟨h1, h2⟩
    · left
      unfold Oper.wp at h ⊢
      generalize (execOp a.eval o).run P w = r at *
      cases r with
      | ok n w' =>
        cases n <;> simp only [Oper.upon] at h ⊢
        case enter f args =>
          exact h.mono fun e w'' hh => by
            cases e with
            | returned v => exact hn _ _ hh
            | panicked c => exact hp _ _ _ hh
            | outgrown => exact ho hh
        case row row args => exact h.mono fun v w'' hh => hn _ _ hh
        all_goals first
          | exact hn _ _ h
          | exact h
      | halt x w' =>
        cases x <;> simp only [Oper.upon] at h ⊢
        all_goals first
          | exact hp _ _ _ h
          | exact h
    · exact .inr ⟨h1, ho h2⟩
  · rw [if_neg hw] at h ⊢
    exact hn _ _ h
theorem wpAnyT_sched {oz : Oper} (hz : ops[z]? = some oz) (hl : lastB ops z oz = true) (hs : Region.noSelect ops = true) (hQ : ∀ c a (d : Tmp) v w, Q (.panic c) (Act.put a (some d) v) w → Q (.panic c) a w) :
    ∀ (σ : List (Nat × Bool)) (listed : Array Bool) (a : Act) (w : World), RgClosed ops listed → schedZ ops z σ listed = true → S w → wpSched P ops S (Qz P ops Q oz) (opersOf ops σ) a w → wpAnyT P ops Q S z σ.length listed a w
  | [], listed, a, w, _, hB, _, h => by
    simp only [schedZ, Bool.and_eq_true, beq_iff_eq, List.isEmpty_iff] at hB
    refine ⟨hB.1, hB.2, ?_⟩
    simp only [opersOf] at h
    unfold wpSched at h
    replace h := h.out
    exact wpOp_of_list hz h (fun _ _ h => h) (fun _ _ _ h => h) (fun h => h)
  | (i, true) :: rest, listed, a, w, hcl, hB, hC, h => by
    simp only [schedZ, Bool.and_eq_true, bne_iff_ne] at hB
    obtain ⟨⟨⟨⟨hne, hr⟩, hf⟩, hk⟩, hB'⟩ := hB
    cases hi : ops[i]? with
    | none => rw [hi] at hk; simp at hk
    | some o =>
      rw [hi] at hk
      simp only [opersOf, hi] at h
      unfold wpSched at h
      replace h := h.out
      by_cases hw : Region.wanted o (yielded ops a.tmps) = true
      · rw [if_pos hw] at h
        obtain ⟨v, h1, h2⟩ := h
        exact wpAnyT_first hz hl hi hne (Region.noSelect_spec hs) (fun c a w hh => hQput hQ c a _ _ w hh) _ _ _ _ hcl (Region.free_spec hi hf) (by simpa using hr) (yieldsIf_of_quiet hk hw h1) hC (wpAnyT_sched hz hl hs hQ rest _ _ _ (hcl.set_ (by simpa using hr)) hB' hC h2)
      · rw [if_neg hw] at h
        exact wpAnyT_first hz hl hi hne (Region.noSelect_spec hs) (fun c a w hh => hQput hQ c a _ _ w hh) _ _ _ _ hcl (Region.free_spec hi hf) (by simpa using hr) (.inr ⟨by simpa using hw, rfl⟩) hC (wpAnyT_sched hz hl hs hQ rest _ _ _ (hcl.set_ (by simpa using hr)) hB' hC h)
  | (i, false) :: rest, listed, a, w, hcl, hB, hC, h => by
    simp only [schedZ, Bool.and_eq_true, beq_iff_eq] at hB
    obtain ⟨hr, hB'⟩ := hB
    refine ⟨by rw [hr]; simp, fun j hj => ?_⟩
    rw [hr] at hj
    obtain rfl : j = i := by simpa using hj
    cases hi : ops[j]? with
    | none =>
      exfalso
      have hm : j ∈ Region.ready .any ops listed := by rw [hr]; simp
      obtain ⟨_, o, ho, _⟩ := mem_ready.1 hm
      rw [hi] at ho; cases ho
    | some o =>
      simp only [opersOf, hi] at h
      unfold wpSched at h
      replace h := h.out
      exact wpOp_of_list hi h (fun a w hh => ⟨hh.1, wpAnyT_sched hz hl hs hQ rest _ _ _ (hcl.set_ (by rw [hr]; simp)) hB' hh.1 hh.2⟩) (fun _ _ _ h => h) (fun ⟨a, w, hh⟩ => ⟨a, w, hh⟩)
theorem wp_region_schedZ {id : Nat} {a : Act} {w : World} (σ : List (Nat × Bool)) (z : Nat) (oz : Oper) (F : World → Prop) (hm : P.follows .mixedOrders = true) (hs : Region.noSelect ops = true) (hz : ops[z]? = some oz) (hl : lastB ops z oz = true) (hlen : σ.length + 1 = ops.size)
    (hQ : ∀ c a (d : Tmp) v w, Q (.panic c) (Act.put a (some d) v) w → Q (.panic c) a w) (hB : schedZ ops z σ (Array.replicate ops.size false) = true) (hF : F w) (hd : F w → F w.drew)
    (h : Nonempty (Wof F) → wpSched P ops (fun w' => ∃ p : Wof F, w' = p.w) (Qz P ops Q oz) (opersOf ops σ) a w.drew) : (Code.region id ops true).wp P Q a w := by
  refine wp_region_any hm ?_
  rw [← hlen]
  exact wpAny_of_T _ _ _ _ (wpAnyT_sched hz hl hs hQ σ _ a _ (RgClosed.start _ _) (by rw [hlen]; exact hB) ⟨⟨_, hd hF⟩, rfl⟩ (h ⟨⟨_, hF⟩⟩))
theorem qz_nil {oz : Oper} {a : Act} {w : World} (h : wpList P ops Q [oz] a w) : Qz P ops Q oz .normal a w := h
end
end Go.Proofs.YtncakjchaniheaaDoor
namespace Go.Proofs.YtncakjchaniheaaDoor
open Go.RowKit
inductive STree
  | nil
  | op (i : Nat) (b : Bool) (t : STree)
  | fork (i j : Nat) (ti tj : STree)
inductive OTree
  | nil
  | op (b : Bool) (o : Oper) (t : OTree)
  | fork (oi oj : Oper) (ti tj : OTree)
section
variable {P : Program} {ops : Array Oper} {Q : Exit → Act → World → Prop} {S : World → Prop} {z : Nat} {zt : List Nat}
/-- Does i wait for j? -/
def ancB (ops : Array Oper) : Nat → Nat → Nat → Bool
  | 0, _, _ => false
  | f + 1, i, j => match ops[i]? with
    | some o => o.after.any fun e => Region.binds .any e && (e.on == j || ancB ops f e.on j)
    | none => false
theorem anc_listed {listed : Array Bool} (hcl : RgClosed ops listed) : ∀ (f i j : Nat), listed.getD i false = true → ancB ops f i j = true → listed.getD j false = true
  | 0, _, _, _, h => by cases h
  | f + 1, i, j, hi, h => by
    unfold ancB at h
    cases ho : ops[i]? with
    | none => rw [ho] at h; cases h
    | some o =>
      rw [ho] at h
      simp only [Array.any_eq_true] at h
      obtain ⟨q, hq, h2⟩ := h
      simp only [Bool.and_eq_true, Bool.or_eq_true, beq_iff_eq] at h2
      have h3 := hcl i o hi ho _ (Array.getElem_mem hq) h2.1
      rcases h2.2 with h4 | h4
      · rw [← h4]; exact h3
      · exact anc_listed hcl f _ j h3 h4
/-- Does z wait for all but the last ones? -/
def lastU (ops : Array Oper) (z : Nat) (zt : List Nat) : Bool := (List.range ops.size).all fun i => i == z || zt.contains i || ancB ops 1 z i || ancB ops 8 z i
def wpChain (P : Program) (ops : Array Oper) (Q : Exit → Act → World → Prop) : List Nat → Array Bool → Act → World → Prop
  | [], listed, a, w => Region.ready .any ops listed = [] ∧ Q .normal a w
  | z :: zs, listed, a, w => Region.ready .any ops listed = [z] ∧ wpOp P ops Q z (fun a' w' => wpChain P ops Q zs (listed.setIfInBounds z true) a' w') a w
theorem wpAny_of_chain : ∀ (zs : List Nat) (listed : Array Bool) (a : Act) (w : World), wpChain P ops Q zs listed a w → wpAny P .any ops Q zs.length listed a w
  | [], listed, a, w, h => h
  | z :: zs, listed, a, w, h => by
    obtain ⟨h1, h2⟩ := h
    refine ⟨fun h => (by rw [h1] at h; cases h), fun i hi => ?_⟩
    rw [h1] at hi
    obtain rfl : i = z := by simpa using hi
    exact wpOp_mono (fun a' w' h' => wpAny_of_chain zs _ a' w' h') h2
def wpAnyU (P : Program) (ops : Array Oper) (Q : Exit → Act → World → Prop) (S : World → Prop) (z : Nat) (zt : List Nat) : Nat → Array Bool → Act → World → Prop
  | 0, listed, a, w => wpChain P ops Q (z :: zt) listed a w
  | fuel + 1, listed, a, w => Region.ready .any ops listed ≠ [] ∧ ∀ i ∈ Region.ready .any ops listed, wpOp P ops Q i (fun a' w' => S w' ∧ wpAnyU P ops Q S z zt fuel (listed.setIfInBounds i true) a' w') a w
theorem wpAny_of_U : ∀ (fuel : Nat) (listed : Array Bool) (a : Act) (w : World), wpAnyU P ops Q S z zt fuel listed a w → wpAny P .any ops Q (fuel + (zt.length + 1)) listed a w
  | 0, listed, a, w, h => by
    have := wpAny_of_chain (z :: zt) listed a w h
    rw [List.length_cons] at this
    rw [Nat.zero_add]; exact this
  | fuel + 1, listed, a, w, h => by
    have e : fuel + 1 + (zt.length + 1) = (fuel + (zt.length + 1)) + 1 := by omega
    rw [e]
    exact ⟨fun h0 => absurd h0 h.1, fun i hi => wpOp_mono (fun a' w' h' => wpAny_of_U fuel _ a' w' h'.2) (h.2 i hi)⟩
theorem wpAnyU_first {i : Nat} {oi : Oper} {v : Value} (hl : lastU ops z zt = true) (hi : ops[i]? = some oi) (hiz : i ≠ z) (hizt : zt.contains i = false) (hsel : ∀ (j : Nat) (o : Oper) cs b, ops[j]? = some o → o.op ≠ .select cs b)
    (hQ : ∀ c a w, Q (.panic c) (a.put oi.dst v) w → Q (.panic c) a w) :
    ∀ (fuel : Nat) (listed : Array Bool) (a : Act) (w : World), RgClosed ops listed →
      (∀ j oj, ops[j]? = some oj → j ≠ i → listed.getD j true = false → (∀ e ∈ oj.after, Region.binds .any e = true → e.on ≠ i) → oi.apart ops oj = true) →
      i ∈ Region.ready .any ops listed → YieldsIf P ops S oi v a → S w →
      wpAnyU P ops Q S z zt fuel (listed.setIfInBounds i true) (a.put oi.dst v) w → wpAnyU P ops Q S z zt (fuel + 1) listed a w := by
  have hun : ∀ (listed : Array Bool), i ∈ Region.ready .any ops listed → listed.getD i false = true → False := by
    intro listed hr h1
    have h0 := (mem_ready.1 hr).1
    rcases Nat.lt_or_ge i listed.size with h' | h'
    · simp [h'] at h0 h1; rw [h0] at h1; cases h1
    · simp [Array.getElem?_eq_none h'] at h1
  have hno : ∀ (listed : Array Bool) (j : Nat), j ∈ Region.ready .any ops listed → i ∈ Region.ready .any ops listed → j ≠ i → ∀ oj, ops[j]? = some oj → ∀ e ∈ oj.after, Region.binds .any e = true → e.on ≠ i := by
    intro listed j hj hr _ oj hoj e he hb heq
    obtain ⟨_, oj', hoj', hall⟩ := mem_ready.1 hj
    rw [hoj] at hoj'
    cases hoj'
    exact hun listed hr (by rw [← heq]; exact hall e he hb)
  intro fuel
  induction fuel with
  | zero =>
    intro listed a w hcl _ hr hy hS H
    refine ⟨fun h => (by rw [h] at hr; cases hr), fun j hj => ?_⟩
    by_cases hji : j = i
    · subst hji; exact hy.wpOp hi hS ⟨hS, H⟩
    · exfalso
      have hm := ready_mono hj hji
      rw [H.1] at hm
      obtain rfl : j = z := by simpa using hm
      have hli : i < ops.size := (Array.getElem?_eq_some_iff.1 hi).1
      have h1 := List.all_eq_true.1 hl i (List.mem_range.2 hli)
      simp only [Bool.or_eq_true, beq_iff_eq] at h1
      have key : ∀ f, ancB ops (f + 1) j i = true → False := fun f h1 => by
        unfold ancB at h1
        obtain ⟨_, oj', hoj', hall⟩ := mem_ready.1 hj
        rw [hoj'] at h1
        simp only [Array.any_eq_true] at h1
        obtain ⟨q, hq, h2⟩ := h1
        simp only [Bool.and_eq_true, Bool.or_eq_true, beq_iff_eq] at h2
        have h3 := hall _ (Array.getElem_mem hq) h2.1
        rcases h2.2 with h4 | h4
        · rw [h4] at h3; exact hun listed hr h3
        · exact hun listed hr (anc_listed hcl _ _ _ h3 h4)
      rcases h1 with ((h1 | h1) | h1) | h1
      · exact hiz h1
      · rw [hizt] at h1; cases h1
      · exact key 0 h1
      · exact key 7 h1
  | succ fuel ih =>
    intro listed a w hcl hfree hr hy hS H
    refine ⟨fun h => (by rw [h] at hr; cases hr), fun j hj => ?_⟩
    by_cases hji : j = i
    · subst hji; exact hy.wpOp hi hS ⟨hS, H⟩
    · have h1 := H.2 j (ready_mono hj hji)
      obtain ⟨hjun, oj, hoj, hall⟩ := mem_ready.1 hj
      have h2 := wpOp_putIf hoj (hfree j oj hoj hji hjun (hno listed j hj hr hji oj hoj)) (fun cs b => hsel i oi cs b hi) (fun cs b => hsel j oj cs b hoj) hQ hy h1
      have hfree' : ∀ k ok, ops[k]? = some ok → k ≠ i → (listed.setIfInBounds j true).getD k true = false →
          (∀ e ∈ ok.after, Region.binds .any e = true → e.on ≠ i) → oi.apart ops ok = true := fun k ok hk hki hun hno' => by
        refine hfree k ok hk hki ?_ hno'
        by_cases hjk : j = k
        · subst hjk; exact hjun
        · rw [getD_set_ne true hjk] at hun; exact hun
      refine wpOp_mono (fun a' w' h3 => ⟨h3.2.1, ih (listed.setIfInBounds j true) a' w' (hcl.set_ hj) hfree' (ready_mono hr (Ne.symm hji)) h3.1 h3.2.1 ?_⟩) h2
      rw [Array.setIfInBounds_comm _ _ hji]
      exact h3.2.2
/-- The last ones, one by one. -/
def wpTail (P : Program) (ops : Array Oper) (Q : Exit → Act → World → Prop) : List Oper → Act → World → Prop
  | [], a, w => Q .normal a w
  | o :: r, a, w => wpList P ops (schedTo (fun _ => True) (fun a' w' => wpTail P ops Q r a' w') Q) [o] a w
def opsAt (ops : Array Oper) : List Nat → List Oper
  | [] => []
  | i :: r => match ops[i]? with
    | some o => o :: opsAt ops r
    | none => opsAt ops r
def Qt (P : Program) (ops : Array Oper) (Q : Exit → Act → World → Prop) (zs : List Oper) : Exit → Act → World → Prop
  | .normal, a, w => wpTail P ops Q zs a w
  | .exit id, a, w => Q (.exit id) a w
  | .goto l, a, w => Q (.goto l) a w
  | .ret, a, w => Q .ret a w
  | .panic c, a, w => Q (.panic c) a w
  | .outgrown, a, w => Q .outgrown a w
def chainB (ops : Array Oper) : List Nat → Array Bool → Bool
  | [], listed => (Region.ready .any ops listed).isEmpty
  | z :: zs, listed => (Region.ready .any ops listed == [z]) && chainB ops zs (listed.setIfInBounds z true)
theorem wpChain_of : ∀ (zs : List Nat) (listed : Array Bool) (a : Act) (w : World), chainB ops zs listed = true → wpTail P ops Q (opsAt ops zs) a w → wpChain P ops Q zs listed a w
  | [], listed, a, w, hB, h => by
    simp only [chainB, List.isEmpty_iff] at hB
    exact ⟨hB, h⟩
  | z :: zs, listed, a, w, hB, h => by
    simp only [chainB, Bool.and_eq_true, beq_iff_eq] at hB
    obtain ⟨h1, h2⟩ := hB
    refine ⟨h1, ?_⟩
    have hm : z ∈ Region.ready .any ops listed := by rw [h1]; simp
    obtain ⟨_, o, ho, _⟩ := mem_ready.1 hm
    simp only [opsAt, ho] at h
    unfold wpTail at h
    exact wpOp_of_list ho h (fun a w hh => wpChain_of zs _ a w h2 hh.2) (fun _ _ _ h => h) (fun ⟨a, w, hh⟩ => ⟨a, w, hh⟩)
def schedT (ops : Array Oper) (z : Nat) (zt : List Nat) : Nat → STree → Array Bool → Bool
  | 0, .nil, listed => chainB ops (z :: zt) listed
  | n + 1, .op i true t, listed => (i != z) && !zt.contains i && (Region.ready .any ops listed).contains i && Region.free .any ops listed i && (match ops[i]? with | some o => stillKind o | none => false) && schedT ops z zt n t (listed.setIfInBounds i true)
  | n + 1, .op i false t, listed => (Region.ready .any ops listed == [i]) && schedT ops z zt n t (listed.setIfInBounds i true)
  | n + 1, .fork i j ti tj, listed => (Region.ready .any ops listed == [i, j]) && schedT ops z zt n ti (listed.setIfInBounds i true) && schedT ops z zt n tj (listed.setIfInBounds j true)
  | _, _, _ => false
def opersT (ops : Array Oper) : STree → OTree
  | .nil => .nil
  | .op i b t => match ops[i]? with
    | some o => .op b o (opersT ops t)
    | none => .nil
  | .fork i j ti tj => match ops[i]?, ops[j]? with
    | some oi, some oj => .fork oi oj (opersT ops ti) (opersT ops tj)
    | _, _ => .nil
def wpT (P : Program) (ops : Array Oper) (C : World → Prop) (Q : Exit → Act → World → Prop) : OTree → Act → World → Prop
  | .nil, a, w => Shut (Q .normal a w)
  | .op true o t, a, w => Shut (if Region.wanted o (yielded ops a.tmps) then o.quiet P a C (fun a' => wpT P ops C Q t a' w) else wpT P ops C Q t (a.put o.dst undef) w)
  | .op false o t, a, w => Shut (wpList P ops (schedTo C (fun a' w' => wpT P ops C Q t a' w') Q) [o] a w)
  | .fork oi oj ti tj, a, w => Shut (wpList P ops (schedTo C (fun a' w' => wpT P ops C Q ti a' w') Q) [oi] a w ∧ wpList P ops (schedTo C (fun a' w' => wpT P ops C Q tj a' w') Q) [oj] a w)
theorem wpAnyU_sched (hl : lastU ops z zt = true) (hs : Region.noSelect ops = true) (hQ : ∀ c a (d : Tmp) v w, Q (.panic c) (Act.put a (some d) v) w → Q (.panic c) a w) :
    ∀ (n : Nat) (σ : STree) (listed : Array Bool) (a : Act) (w : World), RgClosed ops listed → schedT ops z zt n σ listed = true → S w → wpT P ops S (Qt P ops Q (opsAt ops (z :: zt))) (opersT ops σ) a w → wpAnyU P ops Q S z zt n listed a w
  | 0, .nil, listed, a, w, _, hB, _, h => wpChain_of (z :: zt) listed a w hB h.out
  | 0, .op .., _, _, _, _, hB, _, _ => by simp [schedT] at hB
  | 0, .fork .., _, _, _, _, hB, _, _ => by simp [schedT] at hB
  | _ + 1, .nil, _, _, _, _, hB, _, _ => by simp [schedT] at hB
  | n + 1, .op i true t, listed, a, w, hcl, hB, hC, h => by
    simp only [schedT, Bool.and_eq_true, bne_iff_ne, Bool.not_eq_true'] at hB
    obtain ⟨⟨⟨⟨⟨hne, hnt⟩, hr⟩, hf⟩, hk⟩, hB'⟩ := hB
    cases hi : ops[i]? with
    | none => rw [hi] at hk; simp at hk
    | some o =>
      rw [hi] at hk
      simp only [opersT, hi] at h
      unfold wpT at h
      replace h := h.out
      by_cases hw : Region.wanted o (yielded ops a.tmps) = true
      · rw [if_pos hw] at h
        obtain ⟨v, h1, h2⟩ := h
        exact wpAnyU_first hl hi hne hnt (Region.noSelect_spec hs) (fun c a w hh => hQput hQ c a _ _ w hh) _ _ _ _ hcl (Region.free_spec hi hf) (by simpa using hr) (yieldsIf_of_quiet hk hw h1) hC (wpAnyU_sched hl hs hQ n t _ _ _ (hcl.set_ (by simpa using hr)) hB' hC h2)
      · rw [if_neg hw] at h
        exact wpAnyU_first hl hi hne hnt (Region.noSelect_spec hs) (fun c a w hh => hQput hQ c a _ _ w hh) _ _ _ _ hcl (Region.free_spec hi hf) (by simpa using hr) (.inr ⟨by simpa using hw, rfl⟩) hC (wpAnyU_sched hl hs hQ n t _ _ _ (hcl.set_ (by simpa using hr)) hB' hC h)
  | n + 1, .op i false t, listed, a, w, hcl, hB, hC, h => by
    simp only [schedT, Bool.and_eq_true, beq_iff_eq] at hB
    obtain ⟨hr, hB'⟩ := hB
    refine ⟨by rw [hr]; simp, fun j hj => ?_⟩
    have hj0 := hj
    rw [hr] at hj
    obtain rfl : j = i := by simpa using hj
    obtain ⟨_, o, hi, _⟩ := mem_ready.1 hj0
    simp only [opersT, hi] at h
    unfold wpT at h
    replace h := h.out
    exact wpOp_of_list hi h (fun a w hh => ⟨hh.1, wpAnyU_sched hl hs hQ n t _ _ _ (hcl.set_ hj0) hB' hh.1 hh.2⟩) (fun _ _ _ h => h) (fun ⟨a, w, hh⟩ => ⟨a, w, hh⟩)
  | n + 1, .fork i j ti tj, listed, a, w, hcl, hB, hC, h => by
    simp only [schedT, Bool.and_eq_true, beq_iff_eq] at hB
    obtain ⟨⟨hr, hBi⟩, hBj⟩ := hB
    have hmi : i ∈ Region.ready .any ops listed := by rw [hr]; simp
    have hmj : j ∈ Region.ready .any ops listed := by rw [hr]; simp
    obtain ⟨_, oi, hi, _⟩ := mem_ready.1 hmi
    obtain ⟨_, oj, hj, _⟩ := mem_ready.1 hmj
    simp only [opersT, hi, hj] at h
    unfold wpT at h
    replace h := h.out
    refine ⟨by rw [hr]; simp, fun q hq => ?_⟩
    rw [hr] at hq
    simp only [List.mem_cons, List.not_mem_nil, or_false] at hq
    rcases hq with rfl | rfl
    · exact wpOp_of_list hi h.1 (fun a w hh => ⟨hh.1, wpAnyU_sched hl hs hQ n ti _ _ _ (hcl.set_ hmi) hBi hh.1 hh.2⟩) (fun _ _ _ h => h) (fun ⟨a, w, hh⟩ => ⟨a, w, hh⟩)
    · exact wpOp_of_list hj h.2 (fun a w hh => ⟨hh.1, wpAnyU_sched hl hs hQ n tj _ _ _ (hcl.set_ hmj) hBj hh.1 hh.2⟩) (fun _ _ _ h => h) (fun ⟨a, w, hh⟩ => ⟨a, w, hh⟩)
theorem wp_region_schedT {id : Nat} {a : Act} {w : World} (σ : STree) (n z : Nat) (zt : List Nat) (F : World → Prop) (hm : P.follows .mixedOrders = true) (hs : Region.noSelect ops = true) (hl : lastU ops z zt = true) (hlen : n + (zt.length + 1) = ops.size)
    (hQ : ∀ c a (d : Tmp) v w, Q (.panic c) (Act.put a (some d) v) w → Q (.panic c) a w) (hB : schedT ops z zt n σ (Array.replicate ops.size false) = true) (hF : F w) (hd : F w → F w.drew)
    (h : Nonempty (Wof F) → wpT P ops (fun w' => ∃ p : Wof F, w' = p.w) (Qt P ops Q (opsAt ops (z :: zt))) (opersT ops σ) a w.drew) : (Code.region id ops true).wp P Q a w := by
  refine wp_region_any hm ?_
  rw [← hlen]
  exact wpAny_of_U n _ a _ (wpAnyU_sched hl hs hQ n σ _ a _ (RgClosed.start _ _) (by rw [hlen]; exact hB) ⟨⟨_, hd hF⟩, rfl⟩ (h ⟨⟨_, hF⟩⟩))
theorem wpT_nil {C : World → Prop} {a : Act} {w : World} {zs : List Oper} (h : wpTail P ops Q zs a w) : wpT P ops C (Qt P ops Q zs) .nil a w := ⟨h⟩
theorem wpTail_cons {a : Act} {w : World} {o : Oper} {r : List Oper} (h : wpList P ops (schedTo (fun _ => True) (fun a' w' => wpTail P ops Q r a' w') Q) [o] a w) : wpTail P ops Q (o :: r) a w := h
theorem wpTail_nil {a : Act} {w : World} (h : Q .normal a w) : wpTail P ops Q [] a w := h
theorem tail_back {K : Act → World → Prop} {a : Act} {w : World} (h : K a w) : schedTo (fun _ => True) K Q .normal a w := ⟨trivial, h⟩
theorem wpT_want {C : World → Prop} {a : Act} {w : World} {o : Oper} {t : OTree} (hw : Region.wanted o (yielded ops a.tmps) = true)
    (h : ∀ K : Act → Prop, (∀ a, wpT P ops C Q t a w → K a) → o.quiet P a C K) : wpT P ops C Q (.op true o t) a w := by
  unfold wpT
  refine ⟨?_⟩
  rw [if_pos hw]
  exact h _ (fun _ h => h)
theorem wpT_skip {C : World → Prop} {a : Act} {w : World} {o : Oper} {t : OTree} (hw : Region.wanted o (yielded ops a.tmps) = false)
    (h : wpT P ops C Q t (a.put o.dst undef) w) : wpT P ops C Q (.op true o t) a w := by
  unfold wpT
  refine ⟨?_⟩
  rw [if_neg (by rw [hw]; simp)]
  exact h
theorem wpT_free {C : World → Prop} {a : Act} {w : World} {o : Oper} {t : OTree} (hg : o.guard = none)
    (h : ∀ K : Act → Prop, (∀ a, wpT P ops C Q t a w → K a) → o.quiet P a C K) : wpT P ops C Q (.op true o t) a w := wpT_want (wanted_none hg) h
theorem wpT_wantS {C : World → Prop} {a : Act} {w : World} {o : Oper} {t : OTree} {j : Nat} {b : Bool} (d : Tmp) (hg : o.guard = some (j, b)) (hd : (ops[j]?).bind (·.dst) = some d) (hv : a.tmps[d]? = some (.bool b))
    (h : ∀ K : Act → Prop, (∀ a, wpT P ops C Q t a w → K a) → o.quiet P a C K) : wpT P ops C Q (.op true o t) a w := wpT_want ((wanted_slot d hg hd hv).trans (by simp [boolOf])) h
theorem wpT_skipS {C : World → Prop} {a : Act} {w : World} {o : Oper} {t : OTree} {j : Nat} {b c : Bool} (d : Tmp) (hg : o.guard = some (j, b)) (hd : (ops[j]?).bind (·.dst) = some d) (hv : a.tmps[d]? = some (.bool c)) (hb : (c == b) = false)
    (h : wpT P ops C Q t (a.put o.dst undef) w) : wpT P ops C Q (.op true o t) a w := wpT_skip ((wanted_slot d hg hd hv).trans (by simpa [boolOf] using hb)) h
theorem wpT_skipU {C : World → Prop} {a : Act} {w : World} {o : Oper} {t : OTree} {j : Nat} {b : Bool} (d : Tmp) (hg : o.guard = some (j, b)) (hd : (ops[j]?).bind (·.dst) = some d) (hv : a.tmps[d]? = some undef)
    (h : wpT P ops C Q t (a.put o.dst undef) w) : wpT P ops C Q (.op true o t) a w := wpT_skip ((wanted_slot d hg hd hv).trans rfl) h
theorem wpT_other {C : World → Prop} {a : Act} {w : World} {o : Oper} {t : OTree} (h : wpList P ops (schedTo C (fun a' w' => wpT P ops C Q t a' w') Q) [o] a w) : wpT P ops C Q (.op false o t) a w := ⟨h⟩
theorem wpT_fork {C : World → Prop} {a : Act} {w : World} {oi oj : Oper} {ti tj : OTree} (h1 : wpList P ops (schedTo C (fun a' w' => wpT P ops C Q ti a' w') Q) [oi] a w) (h2 : wpList P ops (schedTo C (fun a' w' => wpT P ops C Q tj a' w') Q) [oj] a w) :
    wpT P ops C Q (.fork oi oj ti tj) a w := ⟨⟨h1, h2⟩⟩
end
end Go.Proofs.YtncakjchaniheaaDoor
namespace Go.Proofs.YtncakjchaniheaaDoor
open Go.RowKit
theorem own_drewT {w : World} {base : Nat} {e : TypeId} {size : Nat} {v : Value} {n : Nat} {xs : List Value} (h : OwnO w base e size v n xs) : OwnO w.drew base e size v n xs := h
set_option maxHeartbeats 1000000 in
theorem lens1_any (a b : Nat) (A A' : Option Addr) (n c n' c' : Nat) (ha : a ≤ 1000000) (hb : b ≤ 1000000) (w : World) :
    Calls Tryd.prog 37 #[.agg #[.int .i64 (a : Int), .slice A n c], .agg #[.int .i64 (b : Int), .slice A' n' c']] w fun e w' => e = .returned (.int .i64 ((a : Int) - (b : Int))) ∧ Below w.heap.size w w' := by
  go_enter Tryd.func37, Tryd.ntmps37
  go_wp2_with fail
  go_ret
  exact ⟨rfl, (by repeat (first | exact Below.refl _ _ | assumption | refine Below.alloc ?_ (by first | exact Nat.le_refl _ | assumption | omega | (simp <;> omega)) _ | refine Below.setCell ?_ (by first | exact Nat.le_refl _ | assumption | omega | (simp <;> omega)) _ | refine Below.drew ?_ | refine below_drewN ?_ _))⟩
theorem pm_at {w : World} {base : Nat} {ad : Addr} {c : Nat} {l : List Pm} (h : OwnO w base 75 2 (.slice (some ad) l.length c) l.length (pmCells l)) {j : Nat} {x : Pm} (hx : l[j]? = some x) :
    w.cell? (ad.add (j * 2)) = some (.int .i64 (x.wt : Int)) ∧ w.cell? ⟨(ad.add (j * 2)).block, (ad.add (j * 2)).off + 1, none⟩ = some (.slice x.A x.mem.length x.c) := by
  obtain ⟨A', c', hv, _, _, hr⟩ := h.form
  cases hv
  have hj : j < l.length := (List.getElem?_eq_some_iff.1 hx).1
  obtain ⟨ad', hl, e, _, hc⟩ := Rd.at_rec pm_len (by omega) hr hj
  cases e
  have he : l[j] = x := (List.getElem?_eq_some_iff.1 hx).2
  rw [he] at hc
  refine ⟨hc 0 _ rfl, ?_⟩
  have h1 := hc 1 _ rfl
  rwa [← add_add] at h1
set_option maxRecDepth 100000 in
set_option maxHeartbeats 16000000 in
theorem insPile_any (l : List Pm) (ad : Addr) (c base : Nat) (w : World) (h : OwnO w base 75 2 (.slice (some ad) l.length c) l.length (pmCells l)) (hn : l.length ≤ 12) (hw : ∀ x ∈ l, x.wt ≤ 1000000) :
    Calls Tryd.prog 74 #[.slice (some ad) l.length c, .int .i64 0, .int .i64 (l.length : Int), .func (.func 37) #[] #[]] w fun e w' => e = .returned (.tuple #[]) ∧
      OwnO w' base 75 2 (.slice (some ad) l.length c) l.length (pmCells (isrtM l)) ∧ w.grownBy w' (some ad.block) := by
  have HW := Lib.hid hw
  clear hw
  go_enter Tryd.func74, Tryd.ntmps74
  go_wp2_with fail
  go_loopw [8] (fun iv wr => ∃ i : Nat, iv = .int .i64 (i : Int) ∧ 1 ≤ i ∧ (i ≤ l.length ∨ i = 1) ∧ OwnO wr base 75 2 (.slice (some ad) l.length c) l.length (pmCells (isrtM (l.take i) ++ l.drop i)) ∧ w.grownBy wr (some ad.block)) (fun iv _ => l.length + 1 - (intOf iv).toNat)
  case atStart =>
    refine ⟨1, rfl, Nat.le_refl _, .inr rfl, ?_, gb_refl _ _⟩
    have e : isrtM (l.take 1) ++ l.drop 1 = l := by
      cases l with
      | nil => rfl
      | cons x l => rfl
    rw [e]; exact h
  case round =>
    clear h
    obtain ⟨i, rfl, hi1, hi, hown, hgb⟩ := hrel
    by_cases hlt : i < l.length
    · have g1 : decide ((i : Int) < (l.length : Int)) = true := decide_eq_true (by omega)
      have g1' : decide (i < l.length) = true := decide_eq_true hlt
      have hsl : (isrtM (l.take i)).length = i := by rw [isrtM_len, List.length_take]; omega
      have hup := isrtM_up (l.take i)
      have hws : ∀ y ∈ isrtM (l.take i), y.wt ≤ 1000000 := fun y hy => HW.out y (List.mem_of_mem_take ((isrtM_perm _).mem_iff.1 hy))
      have hwx : (l[i]'hlt).wt ≤ 1000000 := HW.out _ (List.getElem_mem _)
      have hnx : isrtM (l.take (i + 1)) = insM (l[i]'hlt) (isrtM (l.take i)) := by
        rw [List.take_add_one, List.getElem?_eq_getElem hlt]
        exact isrtM_snoc _ _
      have hdr : l.drop i = (l[i]'hlt) :: l.drop (i + 1) := List.drop_eq_getElem_cons hlt
      have hdl : (l.drop (i + 1)).length = l.length - (i + 1) := List.length_drop
      rw [hdr] at hown
      have HNX := Lib.hid hnx
      have HUP := Lib.hid hup
      have HWS := Lib.hid hws
      clear hnx hup hws hdr
      generalize (l[i]'hlt) = x at *
      generalize isrtM (l.take i) = s at *
      generalize hrr : l.drop (i + 1) = r at *
      have HRR := Lib.hid hrr
      clear hrr
      have hown0 : OwnO wr base 75 2 (.slice (some ad) l.length c) l.length (pmCells (mid s x i ++ r)) := by
        have e : mid s x i ++ r = s ++ x :: r := by rw [← hsl, mid_end]; simp
        rw [e]; exact hown
      clear hown
      have HSL := Lib.hid hsl
      go_wp2_with fail
      go_loopw [9] (fun jv w2 => ∃ j : Nat, jv = .int .i64 (j : Int) ∧ j ≤ i ∧ OwnO w2 base 75 2 (.slice (some ad) l.length c) l.length (pmCells (mid s x j ++ r)) ∧ w.grownBy w2 (some ad.block) ∧ Hid (∀ y ∈ s.drop j, x.wt < y.wt)) (fun jv _ => (intOf jv).toNat)
      case atStart => exact ⟨i, rfl, Nat.le_refl _, hown0, hgb, fun y hy => by rw [List.drop_of_length_le (by rw [HSL.out]; exact Nat.le_refl _)] at hy; cases hy⟩
      case round =>
        clear hown0 hgb
        obtain ⟨j, rfl, hji, hown, hgb, HB⟩ := hrel
        rcases Nat.eq_zero_or_pos j with hj0 | hj0
        · have HJ := Lib.hid hj0
          have g2 : decide ((0 : Int) < (j : Int)) = false := decide_eq_false (by omega)
          have g2' : decide (0 < j) = false := decide_eq_false (by omega)
          have HF : Hid (mid s x j = isrtM (l.take (i + 1))) := by
            rw [Hid, HNX.out]
            exact (insM_at HUP.out (by omega) HB.out (fun h0 => by omega)).symm
          clear hj0
          go_wp2_with fail
          go_quiet (fail)
          go_wp2_with fail
          go_roundw
          case rel =>
            refine ⟨i + 1, by go_num, by omega, .inl (by omega), ?_, gb_drewN hgb _⟩
            rw [← HF.out, HRR.out]
            exact hown
          case measure => simp [intOf]; omega
        · obtain ⟨q, rfl⟩ : ∃ q, j = q + 1 := ⟨j - 1, by omega⟩
          have hqs : q < s.length := by omega
          have hmx : (mid s x (q + 1) ++ r)[q + 1]? = some x := by
            rw [List.getElem?_append_left (by rw [mid_len (by omega)]; omega)]
            exact mid_at (by omega)
          have hmy : (mid s x (q + 1) ++ r)[q]? = some (s[q]'hqs) := by
            rw [List.getElem?_append_left (by rw [mid_len (by omega)]; omega), mid_ahead (by omega), List.getElem?_eq_getElem hqs]
          have hml : (mid s x (q + 1) ++ r).length = l.length := by
            rw [List.length_append, mid_len (by omega)]; omega
          have hown' : OwnO wr base 75 2 (.slice (some ad) (mid s x (q + 1) ++ r).length c) (mid s x (q + 1) ++ r).length (pmCells (mid s x (q + 1) ++ r)) := by rw [hml]; exact hown
          obtain ⟨c0, c1⟩ := pm_at hown' hmx
          obtain ⟨d0, d1⟩ := pm_at hown' hmy
          have hwy := HWS.out _ (List.getElem_mem hqs)
          have HY : Hid (∀ h : x.wt < (s[q]'hqs).wt, ∀ y ∈ s.drop q, x.wt < y.wt) := fun h y hy => by
            rw [List.drop_eq_getElem_cons hqs] at hy
            rcases List.mem_cons.1 hy with rfl | hy
            · exact h
            · exact HB.out y hy
          have HST : Hid ((s[q]'hqs).wt ≤ x.wt → mid s x (q + 1) = isrtM (l.take (i + 1))) := fun h => by
            rw [HNX.out]
            exact (insM_at HUP.out (by omega) HB.out (fun _ _ => h)).symm
          have HSW : Hid (((mid s x (q + 1) ++ r).set (q + 1) (s[q]'hqs)).set q x = mid s x q ++ r) := by
            unfold Hid
            rw [List.set_append_left _ _ (by rw [mid_len (by omega)]; omega), List.set_append_left _ _ (by rw [List.length_set, mid_len (by omega)]; omega), mid_swap hqs]
          have g2 : decide ((0 : Int) < ((q + 1 : Nat) : Int)) = true := decide_eq_true (by omega)
          have g2' : decide (0 < q + 1) = true := decide_eq_true (by omega)
          have g2'' : decide ((0 : Int) < (q : Int) + 1) = true := decide_eq_true (by omega)
          have HOWN := Lib.hid hown'
          have HML := Lib.hid hml
          have HMX := Lib.hid hmx
          have HMY := Lib.hid hmy
          have hq12 : q + 1 < l.length := by omega
          clear hown hown' hmx hmy hml
          generalize (s[q]'hqs) = y at *
          obtain ⟨xw, xA, xc, xm⟩ := x
          obtain ⟨yw, yA, yc, ym⟩ := y
          simp only at c0 c1 d0 d1 hwx hwy
          have HC := Lib.hid (lens1_any xw yw xA yA xm.length xc ym.length yc hwx hwy)
          have c0r := cell_regrown c0
          have c1r := cell_regrown c1
          have d0r := cell_regrown d0
          have d1r := cell_regrown d1
          by_cases hxy : xw < yw
          · have g3 : decide ((xw : Int) - (yw : Int) < 0) = true := decide_eq_true (by omega)
            go_wp2_with fail
            refine wp_region_quiet_below (by kernel_rfl) (by kernel_rfl) ?_
            repeat (go_big_quiet_step ((go_at_call 37; exact Calls.regrown_of (HC.out _))))
            refine wpQuiet_nil ?_
            intro w5 hb50
            have hb5 := below_of_regrown hb50
            clear hb50
            have HO5 := Lib.hid (HOWN.out.below hb5)
            obtain ⟨c0, c1⟩ := pm_at HO5.out HMX.out
            obtain ⟨d0, d1⟩ := pm_at HO5.out HMY.out
            have hg5 := gb_below hgb hb5
            have hL2 : (mid s ⟨xw, xA, xc, xm⟩ (q + 1) ++ r).length * 2 = l.length * 2 := by rw [HML.out]
            obtain ⟨s1, f1⟩ := own_set HO5.out (j := (q + 1) * 2) (by omega) (.int .i64 (yw : Int))
            obtain ⟨s2, f2⟩ := own_set s1 (j := (q + 1) * 2 + 1) (by omega) (.slice yA ym.length yc)
            obtain ⟨s3, f3⟩ := own_set s2 (j := q * 2) (by omega) (.int .i64 (xw : Int))
            obtain ⟨s4, f4⟩ := own_set s3 (j := q * 2 + 1) (by omega) (.slice xA xm.length xc)
            rw [pmCells_set (x := ⟨yw, yA, yc, ym⟩) (by omega), pmCells_set (x := ⟨xw, xA, xc, xm⟩) (by rw [List.length_set]; omega), HSW.out, HML.out] at s4
            have ee : ∀ k, ad.add (k + 1) = ⟨(ad.add k).block, (ad.add k).off + 1, none⟩ := fun k => by rw [← add_add]; rfl
            have k1 := (own_set HO5.out (j := (q + 1) * 2 + 1) (by omega) (.int .i64 0)).2
            have k2 := (own_set HO5.out (j := q * 2) (by omega) (.int .i64 0)).2
            have k3 := (own_set HO5.out (j := q * 2 + 1) (by omega) (.int .i64 0)).2
            rw [ee] at k1 k3
            rw [ee ((q + 1) * 2), ee (q * 2)] at s4
            have hna := own_addr HO5.out
            have n12 : (ad.add ((q + 1) * 2)) ≠ (⟨(ad.add ((q + 1) * 2)).block, (ad.add ((q + 1) * 2)).off + 1, none⟩ : Addr) := by rw [← ee]; exact hna _ _ (by omega)
            have n13 : (ad.add ((q + 1) * 2)) ≠ (ad.add (q * 2)) := hna _ _ (by omega)
            have n23 : (⟨(ad.add ((q + 1) * 2)).block, (ad.add ((q + 1) * 2)).off + 1, none⟩ : Addr) ≠ (ad.add (q * 2)) := by rw [← ee]; exact hna _ _ (by omega)
            have n14 : (ad.add ((q + 1) * 2)) ≠ (⟨(ad.add (q * 2)).block, (ad.add (q * 2)).off + 1, none⟩ : Addr) := by rw [← ee (q * 2)]; exact hna _ _ (by omega)
            have n24 : (⟨(ad.add ((q + 1) * 2)).block, (ad.add ((q + 1) * 2)).off + 1, none⟩ : Addr) ≠ (⟨(ad.add (q * 2)).block, (ad.add (q * 2)).off + 1, none⟩ : Addr) := by rw [← ee, ← ee]; exact hna _ _ (by omega)
            have n34 : (ad.add (q * 2)) ≠ (⟨(ad.add (q * 2)).block, (ad.add (q * 2)).off + 1, none⟩ : Addr) := by rw [← ee]; exact hna _ _ (by omega)
            have m1 : (w5.setCell (ad.add ((q + 1) * 2)) (.int .i64 (yw : Int))).cell? ⟨(ad.add ((q + 1) * 2)).block, (ad.add ((q + 1) * 2)).off + 1, none⟩ = some (.slice xA xm.length xc) := (World.cell?_setCell_other _ _ _ _ n12).trans c1
            have m2 : ((w5.setCell (ad.add ((q + 1) * 2)) (.int .i64 (yw : Int))).setCell ⟨(ad.add ((q + 1) * 2)).block, (ad.add ((q + 1) * 2)).off + 1, none⟩ (.slice yA ym.length yc)).cell? (ad.add (q * 2)) = some (.int .i64 (yw : Int)) := (World.cell?_setCell_other _ _ _ _ n23).trans ((World.cell?_setCell_other _ _ _ _ n13).trans d0)
            have m3 : (((w5.setCell (ad.add ((q + 1) * 2)) (.int .i64 (yw : Int))).setCell ⟨(ad.add ((q + 1) * 2)).block, (ad.add ((q + 1) * 2)).off + 1, none⟩ (.slice yA ym.length yc)).setCell (ad.add (q * 2)) (.int .i64 (xw : Int))).cell? ⟨(ad.add (q * 2)).block, (ad.add (q * 2)).off + 1, none⟩ = some (.slice yA ym.length yc) := (World.cell?_setCell_other _ _ _ _ n34).trans ((World.cell?_setCell_other _ _ _ _ n24).trans ((World.cell?_setCell_other _ _ _ _ n14).trans d1))
            have m4 : ((w5.setCell (ad.add ((q + 1) * 2)) (.int .i64 (yw : Int))).setCell ⟨(ad.add ((q + 1) * 2)).block, (ad.add ((q + 1) * 2)).off + 1, none⟩ (.slice yA ym.length yc)).cell? ⟨(ad.add (q * 2)).block, (ad.add (q * 2)).off + 1, none⟩ = some (.slice yA ym.length yc) := (World.cell?_setCell_other _ _ _ _ n24).trans ((World.cell?_setCell_other _ _ _ _ n14).trans d1)
            clear hna n12 n13 n23 n14 n24 n34
            obtain ⟨W4, hW4⟩ : ∃ W4, W4 = ((((w5.setCell (ad.add ((q + 1) * 2)) (.int .i64 (yw : Int))).setCell ⟨(ad.add ((q + 1) * 2)).block, (ad.add ((q + 1) * 2)).off + 1, none⟩ (.slice yA ym.length yc)).setCell (ad.add (q * 2)) (.int .i64 (xw : Int))).setCell ⟨(ad.add (q * 2)).block, (ad.add (q * 2)).off + 1, none⟩ (.slice xA xm.length xc)) := ⟨_, rfl⟩
            rw [← hW4] at s4
            have hgF : w.grownBy W4 (some ad.block) := by
              have e1 : ∀ k, (ad.add k).block = ad.block := fun k => by unfold Addr.add; split <;> rfl
              have q1 : ∀ (v : World) (p : Addr) (u : Value), p.block = ad.block → v.grownBy (v.setCell p u) (some ad.block) := fun v p u hp => ⟨rfl, rfl, rfl, by simp [World.setCell], fun k _ hk => Below.heap_setCell v p u k (fun e => hk (by rw [e, hp]))⟩
              rw [hW4]
              refine gb_trans (gb_trans (gb_trans (gb_trans hg5 (q1 w5 _ _ (e1 _))) (q1 _ _ _ ?_)) (q1 _ _ _ (e1 _))) (q1 _ _ _ ?_)
              · exact e1 _
              · exact e1 _
            have HW4 := Lib.hid hW4
            clear hW4
            have HS4 := Lib.hid s4
            clear s1 s2 s3 s4 c0r c1r d0r d1r f2 f3 f4 ee
            go_wp2_with fail
            have p0 : ((w5.setCell (ad.add ((q + 1) * 2)) (.int .i64 (yw : Int))).setCell ⟨(ad.add ((q + 1) * 2)).block, (ad.add ((q + 1) * 2)).off + 1, none⟩ (.slice yA ym.length yc)).cell? (ad.add (q * 2)) = some (.int .i64 (yw : Int)) := m2
            have p1 : ((w5.setCell (ad.add ((q + 1) * 2)) (.int .i64 (yw : Int))).setCell ⟨(ad.add ((q + 1) * 2)).block, (ad.add ((q + 1) * 2)).off + 1, none⟩ (.slice yA ym.length yc)).cell? ⟨(ad.add (q * 2)).block, (ad.add (q * 2)).off + 1, none⟩ = some (.slice yA ym.length yc) := m4
            obtain ⟨F1, hFd⟩ : ∃ F : World → Prop, F = fun w' => w'.cell? (ad.add (q * 2)) = some (.int .i64 (yw : Int)) ∧ w'.cell? ⟨(ad.add (q * 2)).block, (ad.add (q * 2)).off + 1, none⟩ = some (.slice yA ym.length yc) := ⟨_, rfl⟩
            have HF1 := Lib.hid hFd
            clear hFd
            have hcell10 : ∀ p' : Wof F1, p'.w.cell? (ad.add (q * 2)) = some (.int .i64 (yw : Int)) := fun ⟨x, hx⟩ => by rw [HF1.out] at hx; exact hx.1
            have hcell11 : ∀ p' : Wof F1, p'.w.cell? ⟨(ad.add (q * 2)).block, (ad.add (q * 2)).off + 1, none⟩ = some (.slice yA ym.length yc) := fun ⟨x, hx⟩ => by rw [HF1.out] at hx; exact hx.2
            refine wp_region_schedT (.op 0 true (.op 1 true (.op 2 true (.op 3 true (.op 4 true (.op 5 true (.op 6 true (.op 7 true (.op 8 true (.op 9 true (.op 10 true (.op 11 true (.op 12 true (.op 13 false (.op 14 true (.op 15 false .nil)))))))))))))))) 16 16 [17] F1 (by kernel_rfl) (by kernel_rfl) (by kernel_rfl) rfl (fun _ _ _ _ _ h => h) (by kernel_rfl) (by rw [HF1.out]; first | trivial | (repeat' apply And.intro) <;> assumption | (simp; done) | (simp [*]; done)) (by rw [HF1.out]; exact fun h => h) ?_
            intro hne1
            simp only [opersT, opsAt, List.getElem?_toArray, List.getElem?_cons_succ, List.getElem?_cons_zero]
            repeat (first | (refine wpT_free rfl ?_; intro K hK; go_big_quiet_op; go_big_quiet_on) | (refine wpT_wantS _ rfl rfl rfl ?_; intro K hK; go_big_quiet_op; go_big_quiet_on) | (refine wpT_skipS _ rfl rfl rfl rfl ?_; simp only [Act.put, List.setIfInBounds_toArray, List.set_cons_zero, List.set_cons_succ]) | (refine wpT_skipU _ rfl rfl rfl ?_; simp only [Act.put, List.setIfInBounds_toArray, List.set_cons_zero, List.set_cons_succ]))
            refine wpT_other ?_
            go_wp2_with fail
            refine sched_back (by rw [HF1.out]; first | trivial | (repeat' apply And.intro) <;> assumption | (simp; done) | (go_simp; done) | (simp [*]; done)) ?_
            repeat (first | (refine wpT_free rfl ?_; intro K hK; go_big_quiet_op; go_big_quiet_on) | (refine wpT_wantS _ rfl rfl rfl ?_; intro K hK; go_big_quiet_op; go_big_quiet_on) | (refine wpT_skipS _ rfl rfl rfl rfl ?_; simp only [Act.put, List.setIfInBounds_toArray, List.set_cons_zero, List.set_cons_succ]) | (refine wpT_skipU _ rfl rfl rfl ?_; simp only [Act.put, List.setIfInBounds_toArray, List.set_cons_zero, List.set_cons_succ]))
            refine wpT_other ?_
            go_wp2_with fail
            refine sched_back (by rw [HF1.out]; exact ⟨p0, p1⟩) ?_
            repeat (first | (refine wpT_free rfl ?_; intro K hK; go_big_quiet_op; go_big_quiet_on) | (refine wpT_wantS _ rfl rfl rfl ?_; intro K hK; go_big_quiet_op; go_big_quiet_on) | (refine wpT_skipS _ rfl rfl rfl rfl ?_; simp only [Act.put, List.setIfInBounds_toArray, List.set_cons_zero, List.set_cons_succ]) | (refine wpT_skipU _ rfl rfl rfl ?_; simp only [Act.put, List.setIfInBounds_toArray, List.set_cons_zero, List.set_cons_succ]))
            refine wpT_nil ?_
            refine wpTail_cons ?_
            go_wp2_with fail
            refine tail_back ?_
            refine wpTail_cons ?_
            go_wp2_with fail
            refine tail_back ?_
            refine wpTail_nil ?_
            clear m1 m2 m3 m4 p0 p1 k1 k2 k3 f1
            go_wp2_with fail
            rw [← HW4.out]
            exact ⟨⟨q, rfl, by omega, own_drewT HS4.out, gb_drew hgF, HY.out hxy⟩, by simp [intOf]⟩
          · have g3 : decide ((xw : Int) - (yw : Int) < 0) = false := decide_eq_false (by omega)
            have HFS := Lib.hid (HST.out (show yw ≤ xw by omega))
            go_wp2_with fail
            refine wp_region_quiet_below (by kernel_rfl) (by kernel_rfl) ?_
            repeat (go_big_quiet_step ((go_at_call 37; exact Calls.regrown_of (HC.out _))))
            refine wpQuiet_nil ?_
            intro w5 hb50
            have hb5 := below_of_regrown hb50
            clear hb50
            have HO5 := HOWN.out.below hb5
            rw [HML.out, HFS.out, ← HRR.out] at HO5
            have hg5 := gb_below hgb hb5
            have HO5' := Lib.hid HO5
            clear HO5
            go_wp2_with fail
            go_roundw
            case rel => exact ⟨i + 1, by go_num, by omega, .inl (by omega), HO5'.out, hg5⟩
            case measure => simp [intOf]; omega
    · have g1 : decide ((i : Int) < (l.length : Int)) = false := decide_eq_false (by omega)
      have g1' : decide (i < l.length) = false := decide_eq_false hlt
      rw [List.take_of_length_le (by omega), List.drop_of_length_le (by omega), List.append_nil] at hown
      have HO := Lib.hid hown
      clear hown
      go_wp2_with fail
      go_end0
      exact ⟨rfl, HO.out, hgb⟩
set_option maxRecDepth 100000 in
set_option maxHeartbeats 4000000 in
theorem stablePile_any (l : List Pm) (ad : Addr) (c base : Nat) (w : World) (h : OwnO w base 75 2 (.slice (some ad) l.length c) l.length (pmCells l)) (hn : l.length ≤ 12) (hw : ∀ x ∈ l, x.wt ≤ 1000000) :
    Calls Tryd.prog 36 #[.slice (some ad) l.length c, .func (.func 37) #[] #[]] w fun e w' => e = .returned (.tuple #[]) ∧
      OwnO w' base 75 2 (.slice (some ad) l.length c) l.length (pmCells (isrtM l)) ∧ w.grownBy w' (some ad.block) := by
  have HI := Lib.hid (insPile_any l ad c base w h hn hw)
  clear h hw
  have HS : Hid (Calls Tryd.prog 58 #[.slice (some ad) l.length c, .int .i64 (l.length : Int), .func (.func 37) #[] #[]] w fun e w' => e = .returned (.tuple #[]) ∧
      OwnO w' base 75 2 (.slice (some ad) l.length c) l.length (pmCells (isrtM l)) ∧ w.grownBy w' (some ad.block)) := by
    unfold Hid
    have g1 : decide ((20 : Int) ≤ (l.length : Int)) = false := decide_eq_false (by omega)
    have g1' : decide (20 ≤ l.length) = false := decide_eq_false (by omega)
    have g2 : decide ((20 : Int) < (l.length : Int)) = false := decide_eq_false (by omega)
    have g2' : decide (20 < l.length) = false := decide_eq_false (by omega)
    go_enter Tryd.func58, Tryd.ntmps58
    go_wp2_with fail
    refine wp_loop_rounds 1 ?_
    rw [rounds_succ]
    go_wp2_with fail
    refine HI.out.mono ?_
    rintro e w1 ⟨rfl, ho1, hg1⟩
    have HO1 := Lib.hid ho1
    clear ho1
    go_wp2_with fail
    refine wp_loop_rounds 1 ?_
    rw [rounds_succ]
    go_wp2_with fail
    go_end0
    exact ⟨rfl, HO1.out, hg1⟩
  go_enter Tryd.func36, Tryd.ntmps36
  go_wp2_with fail
  refine HS.out.mono ?_
  rintro e w1 ⟨rfl, ho1, hg1⟩
  have HO1 := Lib.hid ho1
  clear ho1
  go_wp2_with fail
  go_end0
  exact ⟨rfl, HO1.out, hg1⟩
end Go.Proofs.YtncakjchaniheaaDoor
