/- A region that draws its order, whose last operation waits for all others: the walk along a schedule; what the schedule's loads lean on need not hold behind that last operation. No program in sight. A region that draws its order, walked along a tree of schedules: where several operations that make memory may come up, each of them; the last operations come one by one and wait for all others, and what the loads lean on need not hold behind the first of them. No program in sight. How many bytes are less than a byte: the table (plain). -/
import Derived.Test.YtncakjchaniheaaPk02
import Derived.Test.YtncakjchaniheaaPk01
import Derived.Test.YtncakjchaniheaaShelf
namespace Go.Proofs.Ytncakjchaniheaa
open Go.RowKit
section
variable {P : Program} {ops : Array Oper} {Q : Exit → Act → World → Prop} {S : World → Prop} {z : Nat}
/-- Does operation z wait for all others? -/
def lastB (ops : Array Oper) (z : Nat) (oz : Oper) : Bool := (List.range ops.size).all fun i => i == z || oz.after.any fun e => Region.binds .any e && (e.on == i || (match ops[e.on]? with
  | some o => o.after.any fun e' => Region.binds .any e' && e'.on == i
  | none => false))
/-- Whatever has come up, all that it waits for has come up. -/
def RgClosed (ops : Array Oper) (listed : Array Bool) : Prop := ∀ j o, listed.getD j false = true → ops[j]? = some o → ∀ e ∈ o.after, Region.binds .any e = true → listed.getD e.on false = true
theorem getD_true_of_set {listed : Array Bool} {i j : Nat} (h : (listed.setIfInBounds i true).getD j false = true) (hne : j ≠ i) : listed.getD j false = true := by
  rw [getD_set_ne false (Ne.symm hne)] at h; exact h
theorem RgClosed.set_ {ops : Array Oper} {listed : Array Bool} {i : Nat} (h : RgClosed ops listed) (hi : i ∈ Region.ready .any ops listed) : RgClosed ops (listed.setIfInBounds i true) := by
  intro j o hj ho e he hb
  by_cases hji : j = i
  · subst hji
    obtain ⟨_, o', ho', hall⟩ := mem_ready.1 hi
    rw [ho] at ho'; cases ho'
    exact getD_set_true (hall e he hb)
  · exact getD_set_true (h j o (getD_true_of_set hj hji) ho e he hb)
theorem RgClosed.start (ops : Array Oper) (n : Nat) : RgClosed ops (Array.replicate n false) := by
  intro j o hj
  exfalso
  rw [Array.getD_eq_getD_getElem?, Array.getElem?_replicate] at hj
  split at hj <;> simp at hj
/-- Whatever order is picked, till z alone is left. -/
def wpAnyT (P : Program) (ops : Array Oper) (Q : Exit → Act → World → Prop) (S : World → Prop) (z : Nat) : Nat → Array Bool → Act → World → Prop
  | 0, listed, a, w => Region.ready .any ops listed = [z] ∧ Region.ready .any ops (listed.setIfInBounds z true) = [] ∧ wpOp P ops Q z (fun a' w' => Q .normal a' w') a w
  | fuel + 1, listed, a, w => Region.ready .any ops listed ≠ [] ∧ ∀ i ∈ Region.ready .any ops listed, wpOp P ops Q i (fun a' w' => S w' ∧ wpAnyT P ops Q S z fuel (listed.setIfInBounds i true) a' w') a w
theorem wpAny_of_T : ∀ (fuel : Nat) (listed : Array Bool) (a : Act) (w : World), wpAnyT P ops Q S z fuel listed a w → wpAny P .any ops Q (fuel + 1) listed a w
  | 0, listed, a, w, h => by
    obtain ⟨h1, h2, h3⟩ := h
    refine ⟨fun h => (by rw [h1] at h; cases h), fun i hi => ?_⟩
    rw [h1] at hi
    obtain rfl : i = z := by simpa using hi
    exact wpOp_mono (fun a' w' h' => ⟨h2, h'⟩) h3
  | fuel + 1, _, _, _, h => ⟨fun h0 => absurd h0 h.1, fun i hi => wpOp_mono (fun a' w' h' => wpAny_of_T fuel _ a' w' h'.2) (h.2 i hi)⟩
theorem wpAnyT_first {i : Nat} {oi oz : Oper} {v : Value} (hz : ops[z]? = some oz) (hl : lastB ops z oz = true) (hi : ops[i]? = some oi) (hiz : i ≠ z) (hsel : ∀ (j : Nat) (o : Oper) cs b, ops[j]? = some o → o.op ≠ .select cs b)
    (hQ : ∀ c a w, Q (.panic c) (a.put oi.dst v) w → Q (.panic c) a w) :
    ∀ (fuel : Nat) (listed : Array Bool) (a : Act) (w : World), RgClosed ops listed →
      (∀ j oj, ops[j]? = some oj → j ≠ i → listed.getD j true = false → (∀ e ∈ oj.after, Region.binds .any e = true → e.on ≠ i) → oi.apart ops oj = true) →
      i ∈ Region.ready .any ops listed → YieldsIf P ops S oi v a → S w →
      wpAnyT P ops Q S z fuel (listed.setIfInBounds i true) (a.put oi.dst v) w → wpAnyT P ops Q S z (fuel + 1) listed a w := by
  have hun : ∀ (listed : Array Bool), i ∈ Region.ready .any ops listed → listed.getD i false = true → False := by
    intro listed hr h1
    have h0 := (mem_ready.1 hr).1
    rcases Nat.lt_or_ge i listed.size with h' | h'
    · simp [h'] at h0 h1; rw [h0] at h1; cases h1
    · simp [Array.getElem?_eq_none h'] at h1
  have hno : ∀ (listed : Array Bool) (j : Nat), j ∈ Region.ready .any ops listed → i ∈ Region.ready .any ops listed → j ≠ i → ∀ oj, ops[j]? = some oj → ∀ e ∈ oj.after, Region.binds .any e = true → e.on ≠ i := by
    intro listed j hj hr _ oj hoj e he hb heq
    obtain ⟨_, oj', hoj', hall⟩ := mem_ready.1 hj
    rw [hoj] at hoj'
    cases hoj'
    exact hun listed hr (by rw [← heq]; exact hall e he hb)
  intro fuel
  induction fuel with
  | zero =>
    intro listed a w hcl _ hr hy hS H
    refine ⟨fun h => (by rw [h] at hr; cases hr), fun j hj => ?_⟩
    by_cases hji : j = i
    · subst hji; exact hy.wpOp hi hS ⟨hS, H⟩
    · exfalso
      have hm := ready_mono hj hji
      rw [H.1] at hm
      obtain rfl : j = z := by simpa using hm
      have hli : i < ops.size := (Array.getElem?_eq_some_iff.1 hi).1
      have h1 := List.all_eq_true.1 hl i (List.mem_range.2 hli)
      simp only [Bool.or_eq_true, beq_iff_eq] at h1
      rcases h1 with h1 | h1
      · exact hiz h1
      · rw [Array.any_eq_true] at h1
        obtain ⟨q, hq, h2⟩ := h1
        simp only [Bool.and_eq_true, Bool.or_eq_true, beq_iff_eq] at h2
        rcases h2.2 with h3 | h3
        · exact hno listed j hj hr hji oz hz _ (Array.getElem_mem hq) h2.1 h3
        · obtain ⟨_, oj', hoj', hall⟩ := mem_ready.1 hj
          rw [hz] at hoj'
          cases hoj'
          have h4 := hall _ (Array.getElem_mem hq) h2.1
          cases ho : ops[(oz.after[q]).on]? with
          | none => rw [ho] at h3; simp at h3
          | some o =>
            rw [ho] at h3
            simp only [Array.any_eq_true] at h3
            obtain ⟨q', hq', h5⟩ := h3
            simp only [Bool.and_eq_true, beq_iff_eq] at h5
            have h6 := hcl _ o h4 ho _ (Array.getElem_mem hq') h5.1
            rw [h5.2] at h6
            exact hun listed hr h6
  | succ fuel ih =>
    intro listed a w hcl hfree hr hy hS H
    refine ⟨fun h => (by rw [h] at hr; cases hr), fun j hj => ?_⟩
    by_cases hji : j = i
    · subst hji; exact hy.wpOp hi hS ⟨hS, H⟩
    · have h1 := H.2 j (ready_mono hj hji)
      obtain ⟨hjun, oj, hoj, hall⟩ := mem_ready.1 hj
      have h2 := wpOp_putIf hoj (hfree j oj hoj hji hjun (hno listed j hj hr hji oj hoj)) (fun cs b => hsel i oi cs b hi) (fun cs b => hsel j oj cs b hoj) hQ hy h1
      have hfree' : ∀ k ok, ops[k]? = some ok → k ≠ i → (listed.setIfInBounds j true).getD k true = false →
          (∀ e ∈ ok.after, Region.binds .any e = true → e.on ≠ i) → oi.apart ops ok = true := fun k ok hk hki hun hno' => by
        refine hfree k ok hk hki ?_ hno'
        by_cases hjk : j = k
        · subst hjk; exact hjun
        · rw [getD_set_ne true hjk] at hun; exact hun
      refine wpOp_mono (fun a' w' h3 => ⟨h3.2.1, ih (listed.setIfInBounds j true) a' w' (hcl.set_ hj) hfree' (ready_mono hr (Ne.symm hji)) h3.1 h3.2.1 ?_⟩) h2
      rw [Array.setIfInBounds_comm _ _ hji]
      exact h3.2.2
/-- As Q, but that behind the walk operation z is still to be done. -/
def Qz (P : Program) (ops : Array Oper) (Q : Exit → Act → World → Prop) (oz : Oper) : Exit → Act → World → Prop
  | .normal, a, w => wpList P ops Q [oz] a w
  | .exit id, a, w => Q (.exit id) a w
  | .goto l, a, w => Q (.goto l) a w
  | .ret, a, w => Q .ret a w
  | .panic c, a, w => Q (.panic c) a w
  | .outgrown, a, w => Q .outgrown a w
/-- May the schedule be followed, till z alone is left? -/
def schedZ (ops : Array Oper) (z : Nat) : List (Nat × Bool) → Array Bool → Bool
  | [], listed => (Region.ready .any ops listed == [z]) && (Region.ready .any ops (listed.setIfInBounds z true)).isEmpty
  | (i, true) :: rest, listed => (i != z) && (Region.ready .any ops listed).contains i && Region.free .any ops listed i && (match ops[i]? with | some o => stillKind o | none => false) && schedZ ops z rest (listed.setIfInBounds i true)
  | (i, false) :: rest, listed => (Region.ready .any ops listed == [i]) && schedZ ops z rest (listed.setIfInBounds i true)
theorem wpOp_of_list {K : Act → World → Prop} {R : Exit → Act → World → Prop} {i : Nat} {o : Oper} {a : Act} {w : World} (hi : ops[i]? = some o) (h : wpList P ops R [o] a w)
    (hn : ∀ a w, R .normal a w → K a w) (hp : ∀ c a w, R (.panic c) a w → Q (.panic c) a w) (ho : LetsOut R → LetsOut Q) : wpOp P ops Q i K a w := by
  unfold wpList at h
  unfold wpOp
  simp only [hi]
  by_cases hw : Region.wanted o (yielded ops a.tmps) = true
  · rw [if_pos hw] at h ⊢
    rcases h with h | ⟨h1, h2⟩
    · left
      unfold Oper.wp at h ⊢
      generalize (execOp a.eval o).run P w = r at *
      cases r with
      | ok n w' =>
        cases n <;> simp only [Oper.upon] at h ⊢
        case enter f args =>
          exact h.mono fun e w'' hh => by
            cases e with
            | returned v => exact hn _ _ hh
            | panicked c => exact hp _ _ _ hh
            | outgrown => exact ho hh
        case row row args => exact h.mono fun v w'' hh => hn _ _ hh
        all_goals first
          | exact hn _ _ h
          | exact h
      | halt x w' =>
        cases x <;> simp only [Oper.upon] at h ⊢
        all_goals first
          | exact hp _ _ _ h
          | exact h
    · exact .inr ⟨h1, ho h2⟩
  · rw [if_neg hw] at h ⊢
    exact hn _ _ h
theorem wpAnyT_sched {oz : Oper} (hz : ops[z]? = some oz) (hl : lastB ops z oz = true) (hs : Region.noSelect ops = true) (hQ : ∀ c a (d : Tmp) v w, Q (.panic c) (Act.put a (some d) v) w → Q (.panic c) a w) :
    ∀ (σ : List (Nat × Bool)) (listed : Array Bool) (a : Act) (w : World), RgClosed ops listed → schedZ ops z σ listed = true → S w → wpSched P ops S (Qz P ops Q oz) (opersOf ops σ) a w → wpAnyT P ops Q S z σ.length listed a w
  | [], listed, a, w, _, hB, _, h => by
    simp only [schedZ, Bool.and_eq_true, beq_iff_eq, List.isEmpty_iff] at hB
    refine ⟨hB.1, hB.2, ?_⟩
    simp only [opersOf] at h
    unfold wpSched at h
    replace h := h.out
    exact wpOp_of_list hz h (fun _ _ h => h) (fun _ _ _ h => h) (fun h => h)
  | (i, true) :: rest, listed, a, w, hcl, hB, hC, h => by
    simp only [schedZ, Bool.and_eq_true, bne_iff_ne] at hB
    obtain ⟨⟨⟨⟨hne, hr⟩, hf⟩, hk⟩, hB'⟩ := hB
    cases hi : ops[i]? with
    | none => rw [hi] at hk; simp at hk
    | some o =>
      rw [hi] at hk
      simp only [opersOf, hi] at h
      unfold wpSched at h
      replace h := h.out
      by_cases hw : Region.wanted o (yielded ops a.tmps) = true
      · rw [if_pos hw] at h
        obtain ⟨v, h1, h2⟩ := h
        exact wpAnyT_first hz hl hi hne (Region.noSelect_spec hs) (fun c a w hh => hQput hQ c a _ _ w hh) _ _ _ _ hcl (Region.free_spec hi hf) (by simpa using hr) (yieldsIf_of_quiet hk hw h1) hC (wpAnyT_sched hz hl hs hQ rest _ _ _ (hcl.set_ (by simpa using hr)) hB' hC h2)
      · rw [if_neg hw] at h
        exact wpAnyT_first hz hl hi hne (Region.noSelect_spec hs) (fun c a w hh => hQput hQ c a _ _ w hh) _ _ _ _ hcl (Region.free_spec hi hf) (by simpa using hr) (.inr ⟨by simpa using hw, rfl⟩) hC (wpAnyT_sched hz hl hs hQ rest _ _ _ (hcl.set_ (by simpa using hr)) hB' hC h)
  | (i, false) :: rest, listed, a, w, hcl, hB, hC, h => by
    simp only [schedZ, Bool.and_eq_true, beq_iff_eq] at hB
    obtain ⟨hr, hB'⟩ := hB
    refine ⟨by rw [hr]; simp, fun j hj => ?_⟩
    rw [hr] at hj
    obtain rfl : j = i := by simpa using hj
    cases hi : ops[j]? with
    | none =>
      exfalso
      have hm : j ∈ Region.ready .any ops listed := by rw [hr]; simp
      obtain ⟨_, o, ho, _⟩ := mem_ready.1 hm
      rw [hi] at ho; cases ho
    | some o =>
      simp only [opersOf, hi] at h
      unfold wpSched at h
      replace h := h.out
      exact wpOp_of_list hi h (fun a w hh => ⟨hh.1, wpAnyT_sched hz hl hs hQ rest _ _ _ (hcl.set_ (by rw [hr]; simp)) hB' hh.1 hh.2⟩) (fun _ _ _ h => h) (fun ⟨a, w, hh⟩ => ⟨a, w, hh⟩)
theorem wp_region_schedZ {id : Nat} {a : Act} {w : World} (σ : List (Nat × Bool)) (z : Nat) (oz : Oper) (F : World → Prop) (hm : P.follows .mixedOrders = true) (hs : Region.noSelect ops = true) (hz : ops[z]? = some oz) (hl : lastB ops z oz = true) (hlen : σ.length + 1 = ops.size)
    (hQ : ∀ c a (d : Tmp) v w, Q (.panic c) (Act.put a (some d) v) w → Q (.panic c) a w) (hB : schedZ ops z σ (Array.replicate ops.size false) = true) (hF : F w) (hd : F w → F w.drew)
    (h : Nonempty (Wof F) → wpSched P ops (fun w' => ∃ p : Wof F, w' = p.w) (Qz P ops Q oz) (opersOf ops σ) a w.drew) : (Code.region id ops true).wp P Q a w := by
  refine wp_region_any hm ?_
  rw [← hlen]
  exact wpAny_of_T _ _ _ _ (wpAnyT_sched hz hl hs hQ σ _ a _ (RgClosed.start _ _) (by rw [hlen]; exact hB) ⟨⟨_, hd hF⟩, rfl⟩ (h ⟨⟨_, hF⟩⟩))
theorem qz_nil {oz : Oper} {a : Act} {w : World} (h : wpList P ops Q [oz] a w) : Qz P ops Q oz .normal a w := h
end
end Go.Proofs.Ytncakjchaniheaa
namespace Go.Proofs.Ytncakjchaniheaa
open Go.RowKit
inductive STree
  | nil
  | op (i : Nat) (b : Bool) (t : STree)
  | fork (i j : Nat) (ti tj : STree)
inductive OTree
  | nil
  | op (b : Bool) (o : Oper) (t : OTree)
  | fork (oi oj : Oper) (ti tj : OTree)
section
variable {P : Program} {ops : Array Oper} {Q : Exit → Act → World → Prop} {S : World → Prop} {z : Nat} {zt : List Nat}
/-- Does i wait for j? -/
def ancB (ops : Array Oper) : Nat → Nat → Nat → Bool
  | 0, _, _ => false
  | f + 1, i, j => match ops[i]? with
    | some o => o.after.any fun e => Region.binds .any e && (e.on == j || ancB ops f e.on j)
    | none => false
theorem anc_listed {listed : Array Bool} (hcl : RgClosed ops listed) : ∀ (f i j : Nat), listed.getD i false = true → ancB ops f i j = true → listed.getD j false = true
  | 0, _, _, _, h => by cases h
  | f + 1, i, j, hi, h => by
    unfold ancB at h
    cases ho : ops[i]? with
    | none => rw [ho] at h; cases h
    | some o =>
      rw [ho] at h
      simp only [Array.any_eq_true] at h
      obtain ⟨q, hq, h2⟩ := h
      simp only [Bool.and_eq_true, Bool.or_eq_true, beq_iff_eq] at h2
      have h3 := hcl i o hi ho _ (Array.getElem_mem hq) h2.1
      rcases h2.2 with h4 | h4
      · rw [← h4]; exact h3
      · exact anc_listed hcl f _ j h3 h4
/-- Does z wait for all but the last ones? -/
def lastU (ops : Array Oper) (z : Nat) (zt : List Nat) : Bool := (List.range ops.size).all fun i => i == z || zt.contains i || ancB ops 1 z i || ancB ops 8 z i
def wpChain (P : Program) (ops : Array Oper) (Q : Exit → Act → World → Prop) : List Nat → Array Bool → Act → World → Prop
  | [], listed, a, w => Region.ready .any ops listed = [] ∧ Q .normal a w
  | z :: zs, listed, a, w => Region.ready .any ops listed = [z] ∧ wpOp P ops Q z (fun a' w' => wpChain P ops Q zs (listed.setIfInBounds z true) a' w') a w
theorem wpAny_of_chain : ∀ (zs : List Nat) (listed : Array Bool) (a : Act) (w : World), wpChain P ops Q zs listed a w → wpAny P .any ops Q zs.length listed a w
  | [], listed, a, w, h => h
  | z :: zs, listed, a, w, h => by
    obtain ⟨h1, h2⟩ := h
    refine ⟨fun h => (by rw [h1] at h; cases h), fun i hi => ?_⟩
    rw [h1] at hi
    obtain rfl : i = z := by simpa using hi
    exact wpOp_mono (fun a' w' h' => wpAny_of_chain zs _ a' w' h') h2
def wpAnyU (P : Program) (ops : Array Oper) (Q : Exit → Act → World → Prop) (S : World → Prop) (z : Nat) (zt : List Nat) : Nat → Array Bool → Act → World → Prop
  | 0, listed, a, w => wpChain P ops Q (z :: zt) listed a w
  | fuel + 1, listed, a, w => Region.ready .any ops listed ≠ [] ∧ ∀ i ∈ Region.ready .any ops listed, wpOp P ops Q i (fun a' w' => S w' ∧ wpAnyU P ops Q S z zt fuel (listed.setIfInBounds i true) a' w') a w
theorem wpAny_of_U : ∀ (fuel : Nat) (listed : Array Bool) (a : Act) (w : World), wpAnyU P ops Q S z zt fuel listed a w → wpAny P .any ops Q (fuel + (zt.length + 1)) listed a w
  | 0, listed, a, w, h => by
    have := wpAny_of_chain (z :: zt) listed a w h
    rw [List.length_cons] at this
    rw [Nat.zero_add]; exact this
  | fuel + 1, listed, a, w, h => by
    have e : fuel + 1 + (zt.length + 1) = (fuel + (zt.length + 1)) + 1 := by omega
    rw [e]
    exact ⟨fun h0 => absurd h0 h.1, fun i hi => wpOp_mono (fun a' w' h' => wpAny_of_U fuel _ a' w' h'.2) (h.2 i hi)⟩
theorem wpAnyU_first {i : Nat} {oi : Oper} {v : Value} (hl : lastU ops z zt = true) (hi : ops[i]? = some oi) (hiz : i ≠ z) (hizt : zt.contains i = false) (hsel : ∀ (j : Nat) (o : Oper) cs b, ops[j]? = some o → o.op ≠ .select cs b)
    (hQ : ∀ c a w, Q (.panic c) (a.put oi.dst v) w → Q (.panic c) a w) :
    ∀ (fuel : Nat) (listed : Array Bool) (a : Act) (w : World), RgClosed ops listed →
      (∀ j oj, ops[j]? = some oj → j ≠ i → listed.getD j true = false → (∀ e ∈ oj.after, Region.binds .any e = true → e.on ≠ i) → oi.apart ops oj = true) →
      i ∈ Region.ready .any ops listed → YieldsIf P ops S oi v a → S w →
      wpAnyU P ops Q S z zt fuel (listed.setIfInBounds i true) (a.put oi.dst v) w → wpAnyU P ops Q S z zt (fuel + 1) listed a w := by
  have hun : ∀ (listed : Array Bool), i ∈ Region.ready .any ops listed → listed.getD i false = true → False := by
    intro listed hr h1
    have h0 := (mem_ready.1 hr).1
    rcases Nat.lt_or_ge i listed.size with h' | h'
    · simp [h'] at h0 h1; rw [h0] at h1; cases h1
    · simp [Array.getElem?_eq_none h'] at h1
  have hno : ∀ (listed : Array Bool) (j : Nat), j ∈ Region.ready .any ops listed → i ∈ Region.ready .any ops listed → j ≠ i → ∀ oj, ops[j]? = some oj → ∀ e ∈ oj.after, Region.binds .any e = true → e.on ≠ i := by
    intro listed j hj hr _ oj hoj e he hb heq
    obtain ⟨_, oj', hoj', hall⟩ := mem_ready.1 hj
    rw [hoj] at hoj'
    cases hoj'
    exact hun listed hr (by rw [← heq]; exact hall e he hb)
  intro fuel
  induction fuel with
  | zero =>
    intro listed a w hcl _ hr hy hS H
    refine ⟨fun h => (by rw [h] at hr; cases hr), fun j hj => ?_⟩
    by_cases hji : j = i
    · subst hji; exact hy.wpOp hi hS ⟨hS, H⟩
    · exfalso
      have hm := ready_mono hj hji
      rw [H.1] at hm
      obtain rfl : j = z := by simpa using hm
      have hli : i < ops.size := (Array.getElem?_eq_some_iff.1 hi).1
      have h1 := List.all_eq_true.1 hl i (List.mem_range.2 hli)
      simp only [Bool.or_eq_true, beq_iff_eq] at h1
      have key : ∀ f, ancB ops (f + 1) j i = true → False := fun f h1 => by
        unfold ancB at h1
        obtain ⟨_, oj', hoj', hall⟩ := mem_ready.1 hj
        rw [hoj'] at h1
        simp only [Array.any_eq_true] at h1
        obtain ⟨q, hq, h2⟩ := h1
        simp only [Bool.and_eq_true, Bool.or_eq_true, beq_iff_eq] at h2
        have h3 := hall _ (Array.getElem_mem hq) h2.1
        rcases h2.2 with h4 | h4
        · rw [h4] at h3; exact hun listed hr h3
        · exact hun listed hr (anc_listed hcl _ _ _ h3 h4)
      rcases h1 with ((h1 | h1) | h1) | h1
      · exact hiz h1
      · rw [hizt] at h1; cases h1
      · exact key 0 h1
      · exact key 7 h1
  | succ fuel ih =>
    intro listed a w hcl hfree hr hy hS H
    refine ⟨fun h => (by rw [h] at hr; cases hr), fun j hj => ?_⟩
    by_cases hji : j = i
    · subst hji; exact hy.wpOp hi hS ⟨hS, H⟩
    · have h1 := H.2 j (ready_mono hj hji)
      obtain ⟨hjun, oj, hoj, hall⟩ := mem_ready.1 hj
      have h2 := wpOp_putIf hoj (hfree j oj hoj hji hjun (hno listed j hj hr hji oj hoj)) (fun cs b => hsel i oi cs b hi) (fun cs b => hsel j oj cs b hoj) hQ hy h1
      have hfree' : ∀ k ok, ops[k]? = some ok → k ≠ i → (listed.setIfInBounds j true).getD k true = false →
          (∀ e ∈ ok.after, Region.binds .any e = true → e.on ≠ i) → oi.apart ops ok = true := fun k ok hk hki hun hno' => by
        refine hfree k ok hk hki ?_ hno'
        by_cases hjk : j = k
        · subst hjk; exact hjun
        · rw [getD_set_ne true hjk] at hun; exact hun
      refine wpOp_mono (fun a' w' h3 => ⟨h3.2.1, ih (listed.setIfInBounds j true) a' w' (hcl.set_ hj) hfree' (ready_mono hr (Ne.symm hji)) h3.1 h3.2.1 ?_⟩) h2
      rw [Array.setIfInBounds_comm _ _ hji]
      exact h3.2.2
/-- The last ones, one by one. -/
def wpTail (P : Program) (ops : Array Oper) (Q : Exit → Act → World → Prop) : List Oper → Act → World → Prop
  | [], a, w => Q .normal a w
  | o :: r, a, w => wpList P ops (schedTo (fun _ => True) (fun a' w' => wpTail P ops Q r a' w') Q) [o] a w
def opsAt (ops : Array Oper) : List Nat → List Oper
  | [] => []
  | i :: r => match ops[i]? with
    | some o => o :: opsAt ops r
    | none => opsAt ops r
def Qt (P : Program) (ops : Array Oper) (Q : Exit → Act → World → Prop) (zs : List Oper) : Exit → Act → World → Prop
  | .normal, a, w => wpTail P ops Q zs a w
  | .exit id, a, w => Q (.exit id) a w
  | .goto l, a, w => Q (.goto l) a w
  | .ret, a, w => Q .ret a w
  | .panic c, a, w => Q (.panic c) a w
  | .outgrown, a, w => Q .outgrown a w
def chainB (ops : Array Oper) : List Nat → Array Bool → Bool
  | [], listed => (Region.ready .any ops listed).isEmpty
  | z :: zs, listed => (Region.ready .any ops listed == [z]) && chainB ops zs (listed.setIfInBounds z true)
theorem wpChain_of : ∀ (zs : List Nat) (listed : Array Bool) (a : Act) (w : World), chainB ops zs listed = true → wpTail P ops Q (opsAt ops zs) a w → wpChain P ops Q zs listed a w
  | [], listed, a, w, hB, h => by
    simp only [chainB, List.isEmpty_iff] at hB
    exact ⟨hB, h⟩
  | z :: zs, listed, a, w, hB, h => by
    simp only [chainB, Bool.and_eq_true, beq_iff_eq] at hB
    obtain ⟨h1, h2⟩ := hB
    refine ⟨h1, ?_⟩
    have hm : z ∈ Region.ready .any ops listed := by rw [h1]; simp
    obtain ⟨_, o, ho, _⟩ := mem_ready.1 hm
    simp only [opsAt, ho] at h
    unfold wpTail at h
    exact wpOp_of_list ho h (fun a w hh => wpChain_of zs _ a w h2 hh.2) (fun _ _ _ h => h) (fun ⟨a, w, hh⟩ => ⟨a, w, hh⟩)
def schedT (ops : Array Oper) (z : Nat) (zt : List Nat) : Nat → STree → Array Bool → Bool
  | 0, .nil, listed => chainB ops (z :: zt) listed
  | n + 1, .op i true t, listed => (i != z) && !zt.contains i && (Region.ready .any ops listed).contains i && Region.free .any ops listed i && (match ops[i]? with | some o => stillKind o | none => false) && schedT ops z zt n t (listed.setIfInBounds i true)
  | n + 1, .op i false t, listed => (Region.ready .any ops listed == [i]) && schedT ops z zt n t (listed.setIfInBounds i true)
  | n + 1, .fork i j ti tj, listed => (Region.ready .any ops listed == [i, j]) && schedT ops z zt n ti (listed.setIfInBounds i true) && schedT ops z zt n tj (listed.setIfInBounds j true)
  | _, _, _ => false
def opersT (ops : Array Oper) : STree → OTree
  | .nil => .nil
  | .op i b t => match ops[i]? with
    | some o => .op b o (opersT ops t)
    | none => .nil
  | .fork i j ti tj => match ops[i]?, ops[j]? with
    | some oi, some oj => .fork oi oj (opersT ops ti) (opersT ops tj)
    | _, _ => .nil
def wpT (P : Program) (ops : Array Oper) (C : World → Prop) (Q : Exit → Act → World → Prop) : OTree → Act → World → Prop
  | .nil, a, w => Shut (Q .normal a w)
  | .op true o t, a, w => Shut (if Region.wanted o (yielded ops a.tmps) then o.quiet P a C (fun a' => wpT P ops C Q t a' w) else wpT P ops C Q t (a.put o.dst undef) w)
  | .op false o t, a, w => Shut (wpList P ops (schedTo C (fun a' w' => wpT P ops C Q t a' w') Q) [o] a w)
  | .fork oi oj ti tj, a, w => Shut (wpList P ops (schedTo C (fun a' w' => wpT P ops C Q ti a' w') Q) [oi] a w ∧ wpList P ops (schedTo C (fun a' w' => wpT P ops C Q tj a' w') Q) [oj] a w)
theorem wpAnyU_sched (hl : lastU ops z zt = true) (hs : Region.noSelect ops = true) (hQ : ∀ c a (d : Tmp) v w, Q (.panic c) (Act.put a (some d) v) w → Q (.panic c) a w) :
    ∀ (n : Nat) (σ : STree) (listed : Array Bool) (a : Act) (w : World), RgClosed ops listed → schedT ops z zt n σ listed = true → S w → wpT P ops S (Qt P ops Q (opsAt ops (z :: zt))) (opersT ops σ) a w → wpAnyU P ops Q S z zt n listed a w
  | 0, .nil, listed, a, w, _, hB, _, h => wpChain_of (z :: zt) listed a w hB h.out
  | 0, .op .., _, _, _, _, hB, _, _ => by simp [schedT] at hB
  | 0, .fork .., _, _, _, _, hB, _, _ => by simp [schedT] at hB
  | _ + 1, .nil, _, _, _, _, hB, _, _ => by simp [schedT] at hB
  | n + 1, .op i true t, listed, a, w, hcl, hB, hC, h => by
    simp only [schedT, Bool.and_eq_true, bne_iff_ne, Bool.not_eq_true'] at hB
    obtain ⟨⟨⟨⟨⟨hne, hnt⟩, hr⟩, hf⟩, hk⟩, hB'⟩ := hB
    cases hi : ops[i]? with
    | none => rw [hi] at hk; simp at hk
    | some o =>
      rw [hi] at hk
      simp only [opersT, hi] at h
      unfold wpT at h
      replace h := h.out
      by_cases hw : Region.wanted o (yielded ops a.tmps) = true
      · rw [if_pos hw] at h
        obtain ⟨v, h1, h2⟩ := h
        exact wpAnyU_first hl hi hne hnt (Region.noSelect_spec hs) (fun c a w hh => hQput hQ c a _ _ w hh) _ _ _ _ hcl (Region.free_spec hi hf) (by simpa using hr) (yieldsIf_of_quiet hk hw h1) hC (wpAnyU_sched hl hs hQ n t _ _ _ (hcl.set_ (by simpa using hr)) hB' hC h2)
      · rw [if_neg hw] at h
        exact wpAnyU_first hl hi hne hnt (Region.noSelect_spec hs) (fun c a w hh => hQput hQ c a _ _ w hh) _ _ _ _ hcl (Region.free_spec hi hf) (by simpa using hr) (.inr ⟨by simpa using hw, rfl⟩) hC (wpAnyU_sched hl hs hQ n t _ _ _ (hcl.set_ (by simpa using hr)) hB' hC h)
  | n + 1, .op i false t, listed, a, w, hcl, hB, hC, h => by
    simp only [schedT, Bool.and_eq_true, beq_iff_eq] at hB
    obtain ⟨hr, hB'⟩ := hB
    refine ⟨by rw [hr]; simp, fun j hj => ?_⟩
    have hj0 := hj
    rw [hr] at hj
    obtain rfl : j = i := by simpa using hj
    obtain ⟨_, o, hi, _⟩ := mem_ready.1 hj0
    simp only [opersT, hi] at h
    unfold wpT at h
    replace h := h.out
    exact wpOp_of_list hi h (fun a w hh => ⟨hh.1, wpAnyU_sched hl hs hQ n t _ _ _ (hcl.set_ hj0) hB' hh.1 hh.2⟩) (fun _ _ _ h => h) (fun ⟨a, w, hh⟩ => ⟨a, w, hh⟩)
  | n + 1, .fork i j ti tj, listed, a, w, hcl, hB, hC, h => by
    simp only [schedT, Bool.and_eq_true, beq_iff_eq] at hB
    obtain ⟨⟨hr, hBi⟩, hBj⟩ := hB
    have hmi : i ∈ Region.ready .any ops listed := by rw [hr]; simp
    have hmj : j ∈ Region.ready .any ops listed := by rw [hr]; simp
    obtain ⟨_, oi, hi, _⟩ := mem_ready.1 hmi
    obtain ⟨_, oj, hj, _⟩ := mem_ready.1 hmj
    simp only [opersT, hi, hj] at h
    unfold wpT at h
    replace h := h.out
    refine ⟨by rw [hr]; simp, fun q hq => ?_⟩
    rw [hr] at hq
    simp only [List.mem_cons, List.not_mem_nil, or_false] at hq
    rcases hq with rfl | rfl
    · exact wpOp_of_list hi h.1 (fun a w hh => ⟨hh.1, wpAnyU_sched hl hs hQ n ti _ _ _ (hcl.set_ hmi) hBi hh.1 hh.2⟩) (fun _ _ _ h => h) (fun ⟨a, w, hh⟩ => ⟨a, w, hh⟩)
    · exact wpOp_of_list hj h.2 (fun a w hh => ⟨hh.1, wpAnyU_sched hl hs hQ n tj _ _ _ (hcl.set_ hmj) hBj hh.1 hh.2⟩) (fun _ _ _ h => h) (fun ⟨a, w, hh⟩ => ⟨a, w, hh⟩)
/- The same check with what has come up as a list: the kernel reckons with it in no time. -/
def arrOf (n : Nat) (dn : List Nat) : Array Bool := ((List.range n).map fun j => dn.contains j).toArray
theorem arrOf_size (n : Nat) (dn : List Nat) : (arrOf n dn).size = n := by simp [arrOf]
theorem arrOf_getD (n : Nat) (dn : List Nat) (j : Nat) (d : Bool) : (arrOf n dn).getD j d = if j < n then dn.contains j else d := by
  unfold arrOf
  by_cases h : j < n
  · rw [if_pos h]; simp [h]
  · rw [if_neg h]; simp [h]
theorem arrOf_nil (n : Nat) : Array.replicate n false = arrOf n [] := by
  unfold arrOf
  apply Array.ext
  · simp
  · intro i h1 h2; simp
theorem arrOf_get {n : Nat} (dn : List Nat) {j : Nat} (h : j < (arrOf n dn).size) : (arrOf n dn)[j] = dn.contains j := by
  simp [arrOf]
theorem arrOf_set {n : Nat} (dn : List Nat) {i : Nat} (_hi : i < n) : (arrOf n dn).setIfInBounds i true = arrOf n (i :: dn) := by
  apply Array.ext
  · rw [Array.size_setIfInBounds, arrOf_size, arrOf_size]
  · intro j h1 h2
    have h3 : j < (arrOf n dn).size := by rw [Array.size_setIfInBounds] at h1; exact h1
    rw [Array.getElem_setIfInBounds h3, arrOf_get, arrOf_get, List.contains_cons]
    by_cases e : i = j
    · subst e; simp
    · rw [if_neg e]
      have : (j == i) = false := by rw [beq_eq_false_iff_ne]; exact Ne.symm e
      rw [this, Bool.false_or]
def readyL (ops : Array Oper) (dn : List Nat) : List Nat :=
  (List.range ops.size).filter fun i => !dn.contains i && ((ops[i]?).map (·.after.all fun e => !Region.binds .any e || (decide (e.on < ops.size) && dn.contains e.on))).getD false
theorem readyL_eq (ops : Array Oper) (dn : List Nat) : Region.ready .any ops (arrOf ops.size dn) = readyL ops dn := by
  unfold Region.ready readyL
  apply List.filter_congr
  intro i hi
  rw [List.mem_range] at hi
  rw [arrOf_getD, if_pos hi]
  have hf : (fun (e : _) => !Region.binds .any e || (arrOf ops.size dn).getD e.on false) = fun e => !Region.binds .any e || (decide (e.on < ops.size) && dn.contains e.on) := by
    funext e
    rw [arrOf_getD]
    by_cases h : e.on < ops.size
    · rw [if_pos h]; simp [h]
    · rw [if_neg h]; simp [h]
  rw [hf]
def freeL (ops : Array Oper) (dn : List Nat) (i : Nat) : Bool :=
  match ops[i]? with
  | none => false
  | some oi => (List.range ops.size).all fun j => j == i || dn.contains j || match ops[j]? with
      | some oj => oj.after.any (fun e => Region.binds .any e && e.on == i) || oi.apart ops oj
      | none => true
theorem freeL_eq (ops : Array Oper) (dn : List Nat) (i : Nat) : Region.free .any ops (arrOf ops.size dn) i = freeL ops dn i := by
  unfold Region.free freeL
  cases ops[i]? with
  | none => rfl
  | some oi =>
    simp only
    rw [Bool.eq_iff_iff, List.all_eq_true, List.all_eq_true]
    constructor
    · intro h j hj
      have h1 := h j hj
      rw [List.mem_range] at hj
      rw [arrOf_getD, if_pos hj] at h1
      exact h1
    · intro h j hj
      have h1 := h j hj
      rw [List.mem_range] at hj
      rw [arrOf_getD, if_pos hj]
      exact h1
theorem ready_lt {dn : List Nat} {i : Nat} (h : i ∈ readyL ops dn) : i < ops.size := List.mem_range.1 (List.mem_filter.1 h).1
def chainL (ops : Array Oper) : List Nat → List Nat → Bool
  | [], dn => (readyL ops dn).isEmpty
  | z :: zs, dn => (readyL ops dn == [z]) && chainL ops zs (z :: dn)
theorem chainL_B : ∀ (zs : List Nat) (dn : List Nat), chainL ops zs dn = true → chainB ops zs (arrOf ops.size dn) = true
  | [], dn, h => by unfold chainB; rw [readyL_eq]; exact h
  | z :: zs, dn, h => by
    unfold chainB; rw [readyL_eq]
    simp only [chainL, Bool.and_eq_true, beq_iff_eq] at h ⊢
    have hz : z < ops.size := ready_lt (dn := dn) (by rw [h.1]; simp)
    exact ⟨h.1, by rw [arrOf_set _ hz]; exact chainL_B zs _ h.2⟩
def schedL (ops : Array Oper) (z : Nat) (zt : List Nat) : Nat → STree → List Nat → Bool
  | 0, .nil, dn => chainL ops (z :: zt) dn
  | n + 1, .op i true t, dn => (i != z) && !zt.contains i && (readyL ops dn).contains i && freeL ops dn i && (match ops[i]? with | some o => stillKind o | none => false) && schedL ops z zt n t (i :: dn)
  | n + 1, .op i false t, dn => (readyL ops dn == [i]) && schedL ops z zt n t (i :: dn)
  | n + 1, .fork i j ti tj, dn => (readyL ops dn == [i, j]) && schedL ops z zt n ti (i :: dn) && schedL ops z zt n tj (j :: dn)
  | _, _, _ => false
theorem schedL_T : ∀ (n : Nat) (σ : STree) (dn : List Nat), schedL ops z zt n σ dn = true → schedT ops z zt n σ (arrOf ops.size dn) = true
  | 0, .nil, dn, h => chainL_B _ _ h
  | 0, .op .., _, h => by simp [schedL] at h
  | 0, .fork .., _, h => by simp [schedL] at h
  | _ + 1, .nil, _, h => by simp [schedL] at h
  | n + 1, .op i true t, dn, h => by
    simp only [schedL, Bool.and_eq_true] at h
    obtain ⟨⟨⟨⟨⟨h1, h2⟩, h3⟩, h4⟩, h5⟩, h6⟩ := h
    have hi : i < ops.size := ready_lt (dn := dn) (by simpa using h3)
    simp only [schedT, readyL_eq, freeL_eq, arrOf_set _ hi, Bool.and_eq_true]
    exact ⟨⟨⟨⟨⟨h1, h2⟩, h3⟩, h4⟩, h5⟩, schedL_T n t _ h6⟩
  | n + 1, .op i false t, dn, h => by
    simp only [schedL, Bool.and_eq_true, beq_iff_eq] at h
    have hi : i < ops.size := ready_lt (dn := dn) (by rw [h.1]; simp)
    simp only [schedT, readyL_eq, arrOf_set _ hi, Bool.and_eq_true, beq_iff_eq]
    exact ⟨h.1, schedL_T n t _ h.2⟩
  | n + 1, .fork i j ti tj, dn, h => by
    simp only [schedL, Bool.and_eq_true, beq_iff_eq] at h
    have hi : i < ops.size := ready_lt (dn := dn) (by rw [h.1.1]; simp)
    have hj : j < ops.size := ready_lt (dn := dn) (by rw [h.1.1]; simp)
    simp only [schedT, readyL_eq, arrOf_set _ hi, arrOf_set _ hj, Bool.and_eq_true, beq_iff_eq]
    exact ⟨⟨h.1.1, schedL_T n ti _ h.1.2⟩, schedL_T n tj _ h.2⟩
theorem wp_region_schedT {id : Nat} {a : Act} {w : World} (σ : STree) (n z : Nat) (zt : List Nat) (F : World → Prop) (hm : P.follows .mixedOrders = true) (hs : Region.noSelect ops = true) (hl : lastU ops z zt = true) (hlen : n + (zt.length + 1) = ops.size)
    (hQ : ∀ c a (d : Tmp) v w, Q (.panic c) (Act.put a (some d) v) w → Q (.panic c) a w) (hB : schedL ops z zt n σ [] = true) (hF : F w) (hd : F w → F w.drew)
    (h : Nonempty (Wof F) → wpT P ops (fun w' => ∃ p : Wof F, w' = p.w) (Qt P ops Q (opsAt ops (z :: zt))) (opersT ops σ) a w.drew) : (Code.region id ops true).wp P Q a w := by
  refine wp_region_any hm ?_
  rw [← hlen]
  exact wpAny_of_U n _ a _ (wpAnyU_sched hl hs hQ n σ _ a _ (RgClosed.start _ _) (by rw [hlen, arrOf_nil]; exact schedL_T _ _ _ hB) ⟨⟨_, hd hF⟩, rfl⟩ (h ⟨⟨_, hF⟩⟩))
theorem wpT_nil {C : World → Prop} {a : Act} {w : World} {zs : List Oper} (h : wpTail P ops Q zs a w) : wpT P ops C (Qt P ops Q zs) .nil a w := ⟨h⟩
theorem wpTail_cons {a : Act} {w : World} {o : Oper} {r : List Oper} (h : wpList P ops (schedTo (fun _ => True) (fun a' w' => wpTail P ops Q r a' w') Q) [o] a w) : wpTail P ops Q (o :: r) a w := h
theorem wpTail_nil {a : Act} {w : World} (h : Q .normal a w) : wpTail P ops Q [] a w := h
theorem tail_back {K : Act → World → Prop} {a : Act} {w : World} (h : K a w) : schedTo (fun _ => True) K Q .normal a w := ⟨trivial, h⟩
theorem wpT_want {C : World → Prop} {a : Act} {w : World} {o : Oper} {t : OTree} (hw : Region.wanted o (yielded ops a.tmps) = true)
    (h : ∀ K : Act → Prop, (∀ a, wpT P ops C Q t a w → K a) → o.quiet P a C K) : wpT P ops C Q (.op true o t) a w := by
  unfold wpT
  refine ⟨?_⟩
  rw [if_pos hw]
  exact h _ (fun _ h => h)
theorem wpT_skip {C : World → Prop} {a : Act} {w : World} {o : Oper} {t : OTree} (hw : Region.wanted o (yielded ops a.tmps) = false)
    (h : wpT P ops C Q t (a.put o.dst undef) w) : wpT P ops C Q (.op true o t) a w := by
  unfold wpT
  refine ⟨?_⟩
  rw [if_neg (by rw [hw]; simp)]
  exact h
theorem wpT_free {C : World → Prop} {a : Act} {w : World} {o : Oper} {t : OTree} (hg : o.guard = none)
    (h : ∀ K : Act → Prop, (∀ a, wpT P ops C Q t a w → K a) → o.quiet P a C K) : wpT P ops C Q (.op true o t) a w := wpT_want (wanted_none hg) h
theorem wpT_wantS {C : World → Prop} {a : Act} {w : World} {o : Oper} {t : OTree} {j : Nat} {b : Bool} (d : Tmp) (hg : o.guard = some (j, b)) (hd : (ops[j]?).bind (·.dst) = some d) (hv : a.tmps[d]? = some (.bool b))
    (h : ∀ K : Act → Prop, (∀ a, wpT P ops C Q t a w → K a) → o.quiet P a C K) : wpT P ops C Q (.op true o t) a w := wpT_want ((wanted_slot d hg hd hv).trans (by simp [boolOf])) h
theorem wpT_skipS {C : World → Prop} {a : Act} {w : World} {o : Oper} {t : OTree} {j : Nat} {b c : Bool} (d : Tmp) (hg : o.guard = some (j, b)) (hd : (ops[j]?).bind (·.dst) = some d) (hv : a.tmps[d]? = some (.bool c)) (hb : (c == b) = false)
    (h : wpT P ops C Q t (a.put o.dst undef) w) : wpT P ops C Q (.op true o t) a w := wpT_skip ((wanted_slot d hg hd hv).trans (by simpa [boolOf] using hb)) h
theorem wpT_skipU {C : World → Prop} {a : Act} {w : World} {o : Oper} {t : OTree} {j : Nat} {b : Bool} (d : Tmp) (hg : o.guard = some (j, b)) (hd : (ops[j]?).bind (·.dst) = some d) (hv : a.tmps[d]? = some undef)
    (h : wpT P ops C Q t (a.put o.dst undef) w) : wpT P ops C Q (.op true o t) a w := wpT_skip ((wanted_slot d hg hd hv).trans rfl) h
theorem wpT_other {C : World → Prop} {a : Act} {w : World} {o : Oper} {t : OTree} (h : wpList P ops (schedTo C (fun a' w' => wpT P ops C Q t a' w') Q) [o] a w) : wpT P ops C Q (.op false o t) a w := ⟨h⟩
theorem wpT_fork {C : World → Prop} {a : Act} {w : World} {oi oj : Oper} {ti tj : OTree} (h1 : wpList P ops (schedTo C (fun a' w' => wpT P ops C Q ti a' w') Q) [oi] a w) (h2 : wpList P ops (schedTo C (fun a' w' => wpT P ops C Q tj a' w') Q) [oj] a w) :
    wpT P ops C Q (.fork oi oj ti tj) a w := ⟨⟨h1, h2⟩⟩
end
end Go.Proofs.Ytncakjchaniheaa
namespace Go.Proofs.Ytncakjchaniheaa
open Go.RowKit
def ltC (t : List UInt8) (j : Nat) : Nat := t.countP fun b => decide (b.toNat < j)
def eqC (t : List UInt8) (j : Nat) : Nat := t.countP fun b => decide (b.toNat + 1 = j)
def f2C (t : List UInt8) (c j : Nat) : Nat := if j ≤ c then ltC t j else eqC t j
def lsC (f : Nat → Nat) : Array Value := ((List.range 257).map fun j => Value.int .i64 ((f j : Nat) : Int)).toArray
theorem lsC_get (f : Nat → Nat) {j : Nat} (h : j < 257) : (lsC f)[j]? = some (.int .i64 ((f j : Nat) : Int)) := by
  unfold lsC
  rw [List.getElem?_toArray, List.getElem?_map, List.getElem?_range h]; rfl
theorem lsC_set (f g : Nat → Nat) {j : Nat} (he : ∀ q, q < 257 → g q = if q = j then g j else f q) : (lsC f).setIfInBounds j (.int .i64 ((g j : Nat) : Int)) = lsC g := by
  unfold lsC
  rw [List.setIfInBounds_toArray]
  congr 1
  apply List.ext_getElem
  · simp
  · intro q h1 h2
    have hq : q < 257 := by simpa using h2
    rw [List.getElem_set]
    simp only [List.getElem_map, List.getElem_range]
    by_cases e : j = q
    · subst e; rw [if_pos rfl]
    · rw [if_neg e, he q hq, if_neg (fun h => e h.symm)]
theorem eqC_zero (t : List UInt8) : eqC t 0 = 0 := by
  unfold eqC
  rw [List.countP_eq_zero]
  intro b _ h
  rw [decide_eq_true_iff] at h; omega
theorem ltC_zero (t : List UInt8) : ltC t 0 = 0 := by
  unfold ltC
  rw [List.countP_eq_zero]
  intro b _ h
  rw [decide_eq_true_iff] at h; omega
theorem ltC_succ (t : List UInt8) (c : Nat) : ltC t (c + 1) = eqC t (c + 1) + ltC t c := by
  unfold ltC eqC
  induction t with
  | nil => rfl
  | cons b t ih =>
    rw [List.countP_cons, List.countP_cons, List.countP_cons, ih]
    by_cases h1 : b.toNat < c
    · rw [decide_eq_true h1, decide_eq_true (show b.toNat < c + 1 by omega), decide_eq_false (show ¬ b.toNat + 1 = c + 1 by omega)]
      simp only [Bool.false_eq_true, if_true, if_false]; omega
    · by_cases h2 : b.toNat = c
      · rw [decide_eq_false h1, decide_eq_true (show b.toNat < c + 1 by omega), decide_eq_true (show b.toNat + 1 = c + 1 by omega)]
        simp only [Bool.false_eq_true, if_true, if_false]; omega
      · rw [decide_eq_false h1, decide_eq_false (show ¬ b.toNat < c + 1 by omega), decide_eq_false (show ¬ b.toNat + 1 = c + 1 by omega)]
        simp only [Bool.false_eq_true, if_false]; omega
theorem f2C_zero (t : List UInt8) (j : Nat) : f2C t 0 j = eqC t j := by
  unfold f2C
  split
  · obtain rfl : j = 0 := by omega
    rw [ltC_zero, eqC_zero]
  · rfl
theorem f2C_succ (t : List UInt8) (c j : Nat) : f2C t (c + 1) j = if j = c + 1 then f2C t c (c + 1) + f2C t c c else f2C t c j := by
  unfold f2C
  by_cases h : j = c + 1
  · subst h
    rw [if_pos (Nat.le_refl _), if_pos rfl, if_neg (by omega), if_pos (Nat.le_refl _), ltC_succ]
  · rw [if_neg h]
    by_cases h2 : j ≤ c
    · rw [if_pos h2, if_pos (by omega)]
    · rw [if_neg h2, if_neg (by omega)]
theorem f2C_end (t : List UInt8) {j : Nat} (h : j < 257) : f2C t 256 j = ltC t j := by
  unfold f2C; rw [if_pos (by omega)]
theorem f1C_succ (t : List UInt8) {i : Nat} (h : i < t.length) (j : Nat) : eqC (t.take (i + 1)) j = if j = (t.getD i 0).toNat + 1 then eqC (t.take i) j + 1 else eqC (t.take i) j := by
  unfold eqC
  rw [List.take_add_one, List.getElem?_eq_getElem h, List.countP_append, List.getD_eq_getElem?_getD, List.getElem?_eq_getElem h]
  simp only [Option.toList_some, Option.getD_some]
  rw [List.countP_singleton]
  by_cases e : t[i].toNat + 1 = j
  · rw [decide_eq_true e, if_pos rfl, if_pos e.symm]
  · rw [decide_eq_false e, if_neg (by simp), if_neg (fun h => e h.symm)]; rfl
theorem lessC_lt (t : List UInt8) (c : UInt8) : lessC t c = ltC t c.toNat := by
  unfold lessC ltC
  apply List.countP_congr
  intro b _
  rw [decide_eq_true_iff, decide_eq_true_iff]
  exact UInt8.lt_iff_toNat_lt
theorem less_count (t : List UInt8) (c : UInt8) : lessC t c + t.count c ≤ t.length := by
  unfold lessC
  rw [List.count]
  induction t with
  | nil => simp
  | cons b t ih =>
    rw [List.countP_cons, List.countP_cons, List.length_cons]
    by_cases h1 : b < c
    · have h2 : (b == c) = false := by rw [beq_eq_false_iff_ne]; intro e; subst e; exact UInt8.lt_irrefl _ h1
      rw [decide_eq_true h1, h2]; simp only [Bool.false_eq_true, if_true, if_false]; omega
    · rw [decide_eq_false h1]; simp only [Bool.false_eq_true, if_false]; split <;> omega
theorem take_count_le (t : List UInt8) (c : UInt8) (k : Nat) : (t.take k).count c ≤ t.count c := (List.take_sublist k t).count_le _
theorem stepC_le {t : List UInt8} {c : UInt8} {lh : Nat × Nat} (h1 : lh.1 ≤ t.length) (h2 : lh.2 ≤ t.length) : (stepC t c lh).1 ≤ t.length ∧ (stepC t c lh).2 ≤ t.length := by
  unfold stepC
  have := less_count t c
  have := take_count_le t c lh.1
  have := take_count_le t c lh.2
  split
  · exact ⟨by simp only; omega, by simp only; omega⟩
  · exact ⟨h1, h2⟩
theorem stepC_stay {t : List UInt8} : ∀ {p : List UInt8} {lh : Nat × Nat}, ¬ lh.1 < lh.2 → p.foldr (stepC t) lh = lh := by
  intro p
  induction p with
  | nil => intro lh _; rfl
  | cons c p ih =>
    intro lh h
    rw [List.foldr_cons, ih h]
    exact if_neg h
theorem backs_drop {t p : List UInt8} {k : Nat} (h : k < p.length) : (p.drop k).foldr (stepC t) (0, t.length) = stepC t (p.getD k 0) ((p.drop (k + 1)).foldr (stepC t) (0, t.length)) := by
  rw [List.drop_eq_getElem_cons h, List.foldr_cons, List.getD_eq_getElem?_getD, List.getElem?_eq_getElem h]; rfl
theorem backs_split {t p : List UInt8} (k : Nat) : p.foldr (stepC t) (0, t.length) = (p.take k).foldr (stepC t) ((p.drop k).foldr (stepC t) (0, t.length)) := by
  rw [← List.foldr_append, List.take_append_drop]
open Go.RowKit
theorem countByte_count (l : List UInt8) (c : UInt8) : Lib.countByte l c = l.count c := rfl
theorem rd_one (w : World) (c : UInt8) : Rd (w.alloc (.cells #[.int .u8 (c.toNat : Int)] 5)) (w.heap.size + 1) 1 (some ⟨w.heap.size, 0, none⟩) 1 (byteCells [c]) :=
  Rd.new_ (size := 1) w _ _ (Nat.lt_succ_self _) rfl
theorem rd_oneD (w : World) (c : UInt8) : Rd ((w.alloc (.cells #[.int .u8 (c.toNat : Int)] 5)).drew) (w.heap.size + 1) 1 (some ⟨w.heap.size, 0, none⟩) 1 (byteCells [c]) := (rd_one w c).drew
theorem L_take0 (r : ByteArray) (n : Nat) : L (r.extract 0 n) = (L r).take n := by
  rw [L_extract, List.drop_zero, Nat.sub_zero]
theorem lsC_congr {f g : Nat → Nat} (h : ∀ j, j < 257 → f j = g j) : lsC f = lsC g := by
  have e : ((List.range 257).map fun j => Value.int .i64 ((f j : Nat) : Int)) = (List.range 257).map fun j => Value.int .i64 ((g j : Nat) : Int) := by
    apply List.map_congr_left
    intro j hj
    rw [List.mem_range] at hj
    rw [h j hj]
  unfold lsC; rw [e]
theorem zero_lsC : Try.zeroCells42 = lsC fun _ => 0 := by kernel_rfl
set_option maxRecDepth 100000 in
set_option maxHeartbeats 16000000 in
theorem turnCount_any (t p : ByteArray) (ht : t.size ≤ 200) (hp : p.size ≤ 200) (w : World) :
    Calls Try.prog 6 #[.string t, .string p] w fun e w' => e = .returned (.tuple #[.int .i64 (countC (L t) (L p) : Nat), .int .i64 0]) ∧ Below w.heap.size w w' := by
  have HE : Hid (longErr t.size = 0) := by unfold Hid longErr; rw [if_neg (by omega)]
  have HE2 : Hid (longErr p.size = 0) := by unfold Hid longErr; rw [if_neg (by omega)]
  have HTL := Lib.hid (L_len t)
  have HPL := Lib.hid (L_len p)
  go_enter Try.func6, Try.ntmps6
  go_wp2_with fail
  refine (wordCheck_any t _).mono ?_
  rintro e w1 ⟨rfl, hb1⟩
  rw [HE.out]
  go_wp2_with fail
  refine (wordCheck_any p _).mono ?_
  rintro e w2 ⟨rfl, hb2⟩
  rw [HE2.out]
  have hb0 := bthen hb1 hb2
  clear hb1 hb2
  have hbk : Blk (w2.alloc (.cells Try.zeroCells42 42)) w2.heap.size 42 (lsC fun j => eqC ((L t).take 0) j) := by
    have h := Blk.new_ w2 42 Try.zeroCells42
    rw [zero_lsC] at h ⊢
    exact h
  have hbz : Below w.heap.size w (w2.alloc (.cells Try.zeroCells42 42)) := hb0.alloc hb0.size _
  go_wp2_with fail
  generalize (w2.alloc (.cells Try.zeroCells42 42)) = wz at *
  have hgs := hb0.size
  generalize w2.heap.size = g at *
  clear hb0
  go_loopw [27] (fun iv wr => ∃ i : Nat, i ≤ t.size ∧ iv = .int .i64 (i : Int) ∧ Blk wr g 42 (lsC fun j => eqC ((L t).take i) j) ∧ Below w.heap.size w wr) (fun iv _ => t.size - (intOf iv).toNat)
  case atStart => exact ⟨0, Nat.zero_le _, rfl, hbk, hbz⟩
  case round =>
    clear hbk hbz
    obtain ⟨i, hi, rfl, hk, hb⟩ := hrel
    by_cases hlt : i < t.size
    · have g1 : decide ((i : Int) < (t.size : Int)) = true := decide_eq_true (by omega)
      have g1' : decide (i < t.size) = true := decide_eq_true hlt
      have hil : i < (L t).length := by rw [HTL.out]; exact hlt
      have HST := Lib.hid (f1C_succ (L t) hil)
      obtain ⟨N, hN⟩ : ∃ N, (t[i]'hlt).toNat = N := ⟨_, rfl⟩
      have hgd : ((L t).getD i 0).toNat = N := (congrArg UInt8.toNat (by rw [List.getD_eq_getElem?_getD, List.getElem?_eq_getElem hil]; rfl)).trans hN
      have hb256 : N < 256 := by rw [← hN]; exact (t[i]'hlt).toNat_lt
      have hcl : eqC ((L t).take i) (N + 1) ≤ 200 := by
        have : eqC ((L t).take i) (N + 1) ≤ ((L t).take i).length := List.countP_le_length
        rw [List.length_take] at this
        omega
      have cc : wr.cell? ⟨g, N + 1, none⟩ = some (.int .i64 ((eqC ((L t).take i) (N + 1) : Nat) : Int)) := (hk.cell _).trans (lsC_get _ (by omega))
      have ff := hk.frozen (N + 1)
      have HN : Hid ((lsC fun j => eqC ((L t).take i) j).setIfInBounds (N + 1) (.int .i64 ((eqC ((L t).take i) (N + 1) : Int) + 1)) = lsC fun j => eqC ((L t).take (i + 1)) j) := by
        unfold Hid
        have h := lsC_set (fun j => eqC ((L t).take i) j) (fun j => eqC ((L t).take (i + 1)) j) (j := N + 1) (fun q _ => by
          show eqC ((L t).take (i + 1)) q = if q = N + 1 then eqC ((L t).take (i + 1)) (N + 1) else eqC ((L t).take i) q
          rw [HST.out q, HST.out (N + 1), hgd, if_pos rfl]
          split
          · rename_i e; rw [e]
          · rfl)
        have e2 : eqC ((L t).take (i + 1)) (N + 1) = eqC ((L t).take i) (N + 1) + 1 := by rw [HST.out (N + 1), hgd, if_pos rfl]
        rw [← h]
        show _ = (lsC fun j => eqC ((L t).take i) j).setIfInBounds (N + 1) (.int .i64 ((eqC ((L t).take (i + 1)) (N + 1) : Nat) : Int))
        rw [e2]; rfl
      have HK := Lib.hid hk
      clear hk hgd
      generalize eqC ((L t).take i) (N + 1) = v at *
      subst hN
      go_wp2_with fail
      refine ⟨⟨i + 1, by omega, by go_num, ?_, hb.setCell (p := ⟨g, (t[i]'hlt).toNat + 1, none⟩) hgs _⟩, by simp [intOf]; omega⟩
      rw [← HN.out]
      exact HK.out.set_ _ _
    · obtain rfl : i = t.size := by omega
      have g1 : decide ((t.size : Int) < (t.size : Int)) = false := decide_eq_false (by omega)
      have g1' : decide (t.size < t.size) = false := decide_eq_false (by omega)
      have hk0 : Blk wr g 42 (lsC (f2C (L t) 0)) := by
        have e : (fun j => eqC ((L t).take t.size) j) = f2C (L t) 0 := funext fun j => by
          rw [f2C_zero, List.take_of_length_le (by rw [HTL.out]; exact Nat.le_refl _)]
        rw [← e]; exact hk
      have hb1 := hb
      clear hk hb
      go_wp2_with fail
      go_loopw [40] (fun iv wr => ∃ c : Nat, c ≤ 256 ∧ iv = .int .i64 (c : Int) ∧ Blk wr g 42 (lsC (f2C (L t) c)) ∧ Below w.heap.size w wr) (fun iv _ => 256 - (intOf iv).toNat)
      case atStart => exact ⟨0, Nat.zero_le _, rfl, hk0, hb1⟩
      case round =>
        clear hk0 hb1
        obtain ⟨c, hc, rfl, hk, hb⟩ := hrel
        by_cases hlt2 : c < 256
        · have g2 : decide ((c : Int) < 256) = true := decide_eq_true (by omega)
          have g2' : decide (c < 256) = true := decide_eq_true hlt2
          have c1 : wr.cell? ⟨g, c + 1, none⟩ = some (.int .i64 ((f2C (L t) c (c + 1) : Nat) : Int)) := (hk.cell _).trans (lsC_get _ (by omega))
          have c2 : wr.cell? ⟨g, c, none⟩ = some (.int .i64 ((f2C (L t) c c : Nat) : Int)) := (hk.cell _).trans (lsC_get _ (by omega))
          have ff := hk.frozen (c + 1)
          have HST := Lib.hid (f2C_succ (L t) c)
          have hv1 : f2C (L t) c (c + 1) ≤ 200 := by
            have : f2C (L t) c (c + 1) ≤ (L t).length := by unfold f2C ltC eqC; split <;> exact List.countP_le_length
            have := HTL.out
            omega
          have hv2 : f2C (L t) c c ≤ 200 := by
            have : f2C (L t) c c ≤ (L t).length := by unfold f2C ltC eqC; split <;> exact List.countP_le_length
            have := HTL.out
            omega
          have HN : Hid ((lsC (f2C (L t) c)).setIfInBounds (c + 1) (.int .i64 ((f2C (L t) c (c + 1) : Int) + (f2C (L t) c c : Nat))) = lsC (f2C (L t) (c + 1))) := by
            unfold Hid
            have h := lsC_set (f2C (L t) c) (f2C (L t) (c + 1)) (j := c + 1) (fun q _ => by
              rw [HST.out q, HST.out (c + 1), if_pos rfl])
            have e2 : f2C (L t) (c + 1) (c + 1) = f2C (L t) c (c + 1) + f2C (L t) c c := by rw [HST.out (c + 1), if_pos rfl]
            rw [← h, e2]; rfl
          have HK := Lib.hid hk
          clear hk
          generalize f2C (L t) c (c + 1) = v1 at *
          generalize f2C (L t) c c = v2 at *
          go_wp2_with fail
          obtain ⟨F1, hFd⟩ : ∃ F : World → Prop, F = fun w' => w'.cell? ⟨g, c + 1, none⟩ = some (.int .i64 (v1 : Int)) ∧ w'.cell? ⟨g, c, none⟩ = some (.int .i64 (v2 : Int)) := ⟨_, rfl⟩
          have HF1 := Lib.hid hFd
          clear hFd
          have hcell10 : ∀ p' : Wof F1, p'.w.cell? ⟨g, c + 1, none⟩ = some (.int .i64 (v1 : Int)) := fun ⟨x, hx⟩ => by rw [HF1.out] at hx; exact hx.1
          have hcell11 : ∀ p' : Wof F1, p'.w.cell? ⟨g, c, none⟩ = some (.int .i64 (v2 : Int)) := fun ⟨x, hx⟩ => by rw [HF1.out] at hx; exact hx.2
          refine wp_region_schedZ [(0, true), (1, true), (2, true), (3, true), (4, true), (5, true), (6, true), (7, true), (8, true)] 9 _ F1 (by kernel_rfl) (by kernel_rfl) rfl (by kernel_rfl) rfl (fun _ _ _ _ _ h => h) (by kernel_rfl) (by rw [HF1.out]; first | ((repeat' apply And.intro) <;> assumption) | trivial | (simp; done) | (simp [*]; done)) (by rw [HF1.out]; exact fun h => h) ?_
          intro hne1
          simp only [opersOf, List.getElem?_toArray, List.getElem?_cons_succ, List.getElem?_cons_zero]
          repeat (first | (refine wpSched_free rfl ?_; intro K hK; go_big_quiet_op; go_big_quiet_on) | (refine wpSched_wantS _ rfl rfl rfl ?_; intro K hK; go_big_quiet_op; go_big_quiet_on) | (refine wpSched_skipS _ rfl rfl rfl rfl ?_; simp only [Act.put, List.setIfInBounds_toArray, List.set_cons_zero, List.set_cons_succ]) | (refine wpSched_skipU _ rfl rfl rfl ?_; simp only [Act.put, List.setIfInBounds_toArray, List.set_cons_zero, List.set_cons_succ]))
          refine wpSched_nil ?_
          refine qz_nil ?_
          go_wp2_with fail
          refine ⟨⟨c + 1, by omega, by go_num, ?_, by first | exact (hb.setCell (p := ⟨g, c + 1, none⟩) hgs _).drew | exact hb.setCell (p := ⟨g, c + 1, none⟩) hgs _⟩, by simp [intOf]; omega⟩
          rw [← HN.out]
          exact HK.out.set_ _ _
        · have hc2 : Hid (c = 256) := by unfold Hid; omega
          have g2 : decide ((c : Int) < 256) = false := decide_eq_false (by omega)
          have g2' : decide (c < 256) = false := decide_eq_false hlt2
          have hk0 : Blk wr g 42 (lsC (ltC (L t))) := by
            have e : lsC (f2C (L t) c) = lsC (ltC (L t)) := lsC_congr fun j hj => by
              have := hc2.out
              unfold f2C; rw [if_pos (by omega)]
            rw [← e]; exact hk
          have hb1 := hb
          clear hk hb
          go_wp2_with fail
          go_loopw [11, 12, 13] (fun lo hi kv wr => ∃ (m a b : Nat), m ≤ p.size ∧ kv = .int .i64 ((m : Int) - 1) ∧ lo = .int .i64 (a : Int) ∧ hi = .int .i64 (b : Int) ∧ Hid ((a, b) = ((L p).drop m).foldr (stepC (L t)) (0, (L t).length)) ∧ a ≤ t.size ∧ b ≤ t.size ∧
            Blk wr g 42 (lsC (ltC (L t))) ∧ Below w.heap.size w wr) (fun _ _ kv _ => (intOf kv + 1).toNat)
          case atStart => exact ⟨p.size, 0, t.size, Nat.le_refl _, rfl, rfl, rfl, by unfold Hid; rw [List.drop_of_length_le (by rw [HPL.out]; exact Nat.le_refl _), HTL.out]; rfl, Nat.zero_le _, Nat.le_refl _, hk0, hb1⟩
          case round =>
            clear hk0 hb1
            obtain ⟨m, a, b, hm, rfl, rfl, rfl, HI, ha, hbz, hk, hb⟩ := hrel
            have hgl : g < wr.heap.size := hk.lt
            by_cases hend : m = 0 ∨ ¬ a < b
            · have HV : Hid (countC (L t) (L p) = b - a) := by
                unfold Hid countC
                rw [backs_split m, ← HI.out]
                rcases hend with h | h
                · subst h; rw [List.take_zero]; rfl
                · rw [stepC_stay h]
              clear HI
              have HV2 : Hid (((countC (L t) (L p) : Nat) : Int) = max 0 ((b : Int) - (a : Int))) := by
                have := HV.out
                unfold Hid
                omega
              clear HV
              rcases Nat.eq_zero_or_pos m with h0 | h0
              · subst h0
                have e0 : (((0 : Nat) : Int) - 1) = -1 := rfl
                rw [e0]
                have g1 : decide ((0 : Int) ≤ -1) = false := by decide
                clear hend e0
                go_wp2_with fail
                go_ret2
                rw [HV2.out]
                exact ⟨rfl, hb⟩
              · obtain ⟨m', rfl⟩ : ∃ m', m = m' + 1 := ⟨m - 1, by omega⟩
                have e0 : (((m' + 1 : Nat) : Int) - 1) = (m' : Int) := by omega
                rw [e0]
                have hab : ¬ a < b := by omega
                have g1 : decide ((0 : Int) ≤ (m' : Int)) = true := decide_eq_true (by omega)
                have g2 : decide ((a : Int) < (b : Int)) = false := decide_eq_false (by omega)
                have g2' : decide (a < b) = false := decide_eq_false hab
                clear hend e0 hab
                go_wp2_with fail
                go_ret2
                rw [HV2.out]
                exact ⟨rfl, hb⟩
            · obtain ⟨m', rfl⟩ : ∃ m', m = m' + 1 := ⟨m - 1, by omega⟩
              have hab : a < b := by omega
              have e0 : (((m' + 1 : Nat) : Int) - 1) = (m' : Int) := by omega
              rw [e0]
              have g1 : decide ((0 : Int) ≤ (m' : Int)) = true := decide_eq_true (by omega)
              have g2 : decide ((a : Int) < (b : Int)) = true := decide_eq_true (by omega)
              have g2' : decide (a < b) = true := decide_eq_true hab
              have hmp : m' < p.size := by omega
              have HPG : Hid ((L p).getD m' 0 = p[m']'hmp) := by
                unfold Hid
                rw [List.getD_eq_getElem?_getD, List.getElem?_eq_getElem (by rw [HPL.out]; exact hmp)]; rfl
              clear e0 hend
              go_wp2_with fail
              generalize p[m']'hmp = c at *
              have hc256 := c.toNat_lt
              have c0 : wr.cell? ⟨g, c.toNat, none⟩ = some (.int .i64 ((ltC (L t) c.toNat : Nat) : Int)) := (hk.cell _).trans (lsC_get _ (by omega))
              have HCA : Hid (∀ W, Calls Try.prog 16 #[.string (t.extract 0 a), .string ⟨#[c]⟩] W fun e w' => e = .returned (.int .i64 ((((L t).take a).count c : Nat) : Int)) ∧ w' = W) := fun W => by
                have h := Try.strings_Count_one (t.extract 0 a) c W
                have e : Lib.countByte (t.extract 0 a).data.toList c = ((L t).take a).count c := by rw [← L_take0]; rfl
                rw [e] at h; exact h
              have HCB : Hid (∀ W, Calls Try.prog 16 #[.string (t.extract 0 b), .string ⟨#[c]⟩] W fun e w' => e = .returned (.int .i64 ((((L t).take b).count c : Nat) : Int)) ∧ w' = W) := fun W => by
                have h := Try.strings_Count_one (t.extract 0 b) c W
                have e : Lib.countByte (t.extract 0 b).data.toList c = ((L t).take b).count c := by rw [← L_take0]; rfl
                rw [e] at h; exact h
              have hv := less_count (L t) c
              rw [HTL.out] at hv
              have hn1 := take_count_le (L t) c a
              have hn2 := take_count_le (L t) c b
              have HNX : Hid ((ltC (L t) c.toNat + ((L t).take a).count c, ltC (L t) c.toNat + ((L t).take b).count c) = ((L p).drop m').foldr (stepC (L t)) (0, (L t).length)) := by
                unfold Hid
                rw [backs_drop (by rw [HPL.out]; exact hmp), ← HI.out, HPG.out]
                unfold stepC
                rw [if_pos hab, lessC_lt]
              rw [lessC_lt] at hv
              have HK := Lib.hid hk
              clear hk HI HPG
              generalize ltC (L t) c.toNat = v at *
              generalize ((L t).take a).count c = n1 at *
              generalize ((L t).take b).count c = n2 at *
              generalize (L t).count c = n0 at *
              obtain ⟨F1, hFd⟩ : ∃ F : World → Prop, F = fun w' => w'.cell? ⟨g, c.toNat, none⟩ = some (.int .i64 (v : Int)) := ⟨_, rfl⟩
              have HF1 := Lib.hid hFd
              clear hFd
              have hcell10 : ∀ p' : Wof F1, p'.w.cell? ⟨g, c.toNat, none⟩ = some (.int .i64 (v : Int)) := fun ⟨x, hx⟩ => by rw [HF1.out] at hx; exact hx
              refine wp_region_schedT (.op 0 true (.op 1 true (.op 2 true (.op 3 true (.op 4 true (.op 5 true (.op 6 true (.op 11 true (.op 12 true (.op 13 true (.op 14 true (.op 15 true (.op 16 true (.op 17 true (.fork 7 18 (.fork 8 18 (.fork 9 18 (.op 10 true (.op 18 false (.op 19 false (.op 20 false (.op 21 true (.op 22 true .nil)))))) (.fork 9 19 (.op 10 true (.op 19 false (.op 20 false (.op 21 true (.op 22 true .nil))))) (.op 9 false (.op 10 true (.op 20 false (.op 21 true (.op 22 true .nil))))))) (.fork 8 19 (.fork 9 19 (.op 10 true (.op 19 false (.op 20 false (.op 21 true (.op 22 true .nil))))) (.op 9 false (.op 10 true (.op 20 false (.op 21 true (.op 22 true .nil)))))) (.op 8 false (.op 9 false (.op 10 true (.op 20 false (.op 21 true (.op 22 true .nil)))))))) (.fork 7 19 (.fork 8 19 (.fork 9 19 (.op 10 true (.op 19 false (.op 20 false (.op 21 true (.op 22 true .nil))))) (.op 9 false (.op 10 true (.op 20 false (.op 21 true (.op 22 true .nil)))))) (.op 8 false (.op 9 false (.op 10 true (.op 20 false (.op 21 true (.op 22 true .nil))))))) (.op 7 false (.op 8 false (.op 9 false (.op 10 true (.op 20 false (.op 21 true (.op 22 true .nil))))))))))))))))))))))) 23 23 [] F1 (by kernel_rfl) (by kernel_rfl) (by kernel_rfl) rfl (fun _ _ _ _ _ h => h) (by kernel_rfl) (by rw [HF1.out]; first | ((repeat' apply And.intro) <;> assumption) | trivial | (simp; done) | (simp [*]; done)) (by rw [HF1.out]; exact fun h => h) ?_
              intro hne1
              simp only [opersT, opsAt, List.getElem?_toArray, List.getElem?_cons_succ, List.getElem?_cons_zero]
              repeat (first | (refine wpT_free rfl ?_; intro K hK; go_big_quiet_op; go_big_quiet_on) | (refine wpT_wantS _ rfl rfl rfl ?_; intro K hK; go_big_quiet_op; go_big_quiet_on) | (refine wpT_skipS _ rfl rfl rfl rfl ?_; simp only [Act.put, List.setIfInBounds_toArray, List.set_cons_zero, List.set_cons_succ]) | (refine wpT_skipU _ rfl rfl rfl ?_; simp only [Act.put, List.setIfInBounds_toArray, List.set_cons_zero, List.set_cons_succ]))
              refine wpT_fork ?_ ?_
              · skip
                go_wp2_with fail
                have hbnwt1 : Below wr.heap.size wr ((wr.alloc (.cells #[.int .u8 (c.toNat : Int)] 5)).drew) := (by repeat (first | exact Below.refl _ _ | assumption | refine Below.alloc ?_ (by first | exact Nat.le_refl _ | assumption | omega | (simp <;> omega)) _ | refine Below.setCell ?_ (by first | exact Nat.le_refl _ | assumption | omega | (simp <;> omega)) _ | refine Below.drew ?_ | refine below_drewN ?_ _))
                have hbwwt1 : Below wr.heap.size wr ((wr.alloc (.cells #[.int .u8 (c.toNat : Int)] 5)).drew) := hbnwt1
                have cgwt1 : ((wr.alloc (.cells #[.int .u8 (c.toNat : Int)] 5)).drew).cell? ⟨g, c.toNat, none⟩ = some (.int .i64 (v : Int)) := (hbwwt1.cell (p := ⟨g, c.toNat, none⟩) hgl).trans c0
                have RAwt1 : Rd ((wr.alloc (.cells #[.int .u8 (c.toNat : Int)] 5)).drew) (wr.heap.size + 1) 1 (some ⟨wr.heap.size, 0, none⟩) 1 (byteCells [c]) := rd_oneD wr c
                have hzwt1 : wr.heap.size + 1 ≤ ((wr.alloc (.cells #[.int .u8 (c.toNat : Int)] 5)).drew).heap.size := by simp
                generalize ((wr.alloc (.cells #[.int .u8 (c.toNat : Int)] 5)).drew) = wt1 at *
                refine sched_back (by rw [HF1.out]; exact cgwt1) ?_
                repeat (first | (refine wpT_free rfl ?_; intro K hK; go_big_quiet_op; go_big_quiet_on) | (refine wpT_wantS _ rfl rfl rfl ?_; intro K hK; go_big_quiet_op; go_big_quiet_on) | (refine wpT_skipS _ rfl rfl rfl rfl ?_; simp only [Act.put, List.setIfInBounds_toArray, List.set_cons_zero, List.set_cons_succ]) | (refine wpT_skipU _ rfl rfl rfl ?_; simp only [Act.put, List.setIfInBounds_toArray, List.set_cons_zero, List.set_cons_succ]))
                refine wpT_fork ?_ ?_
                · skip
                  have hcv := run_bytes_string (P := Try.prog) wt1 (src := 40) (dst := 9) Try.underlying40 Try.underlying5 Try.underlying9 (c := 1) RAwt1
                  go_wp2_with fail
                  clear hcv
                  refine sched_back (by rw [HF1.out]; exact cgwt1) ?_
                  repeat (first | (refine wpT_free rfl ?_; intro K hK; go_big_quiet_op; go_big_quiet_on) | (refine wpT_wantS _ rfl rfl rfl ?_; intro K hK; go_big_quiet_op; go_big_quiet_on) | (refine wpT_skipS _ rfl rfl rfl rfl ?_; simp only [Act.put, List.setIfInBounds_toArray, List.set_cons_zero, List.set_cons_succ]) | (refine wpT_skipU _ rfl rfl rfl ?_; simp only [Act.put, List.setIfInBounds_toArray, List.set_cons_zero, List.set_cons_succ]))
                  refine wpT_fork ?_ ?_
                  · skip
                    go_wp2_with fail
                    refine (HCA.out _).mono ?_
                    rintro e wq ⟨rfl, hwq⟩
                    rw [hwq]
                    clear hwq wq
                    go_wp2_with fail
                    refine sched_back (by rw [HF1.out]; exact cgwt1) ?_
                    repeat (first | (refine wpT_free rfl ?_; intro K hK; go_big_quiet_op; go_big_quiet_on) | (refine wpT_wantS _ rfl rfl rfl ?_; intro K hK; go_big_quiet_op; go_big_quiet_on) | (refine wpT_skipS _ rfl rfl rfl rfl ?_; simp only [Act.put, List.setIfInBounds_toArray, List.set_cons_zero, List.set_cons_succ]) | (refine wpT_skipU _ rfl rfl rfl ?_; simp only [Act.put, List.setIfInBounds_toArray, List.set_cons_zero, List.set_cons_succ]))
                    refine wpT_other ?_
                    go_wp2_with fail
                    have hbnwt2 : Below wt1.heap.size wt1 (wt1.alloc (.cells #[.int .u8 (c.toNat : Int)] 5)) := (by repeat (first | exact Below.refl _ _ | assumption | refine Below.alloc ?_ (by first | exact Nat.le_refl _ | assumption | omega | (simp <;> omega)) _ | refine Below.setCell ?_ (by first | exact Nat.le_refl _ | assumption | omega | (simp <;> omega)) _ | refine Below.drew ?_ | refine below_drewN ?_ _))
                    have hbwwt2 : Below wr.heap.size wr (wt1.alloc (.cells #[.int .u8 (c.toNat : Int)] 5)) := bthen hbwwt1 hbnwt2
                    have cgwt2 : (wt1.alloc (.cells #[.int .u8 (c.toNat : Int)] 5)).cell? ⟨g, c.toNat, none⟩ = some (.int .i64 (v : Int)) := (hbwwt2.cell (p := ⟨g, c.toNat, none⟩) hgl).trans c0
                    have RBwt2 : Rd (wt1.alloc (.cells #[.int .u8 (c.toNat : Int)] 5)) (wt1.heap.size + 1) 1 (some ⟨wt1.heap.size, 0, none⟩) 1 (byteCells [c]) := rd_one wt1 c
                    have RAwt2 := (RAwt1).below (hbnwt2.mono hzwt1)
                    have hzwt2 : wt1.heap.size + 1 ≤ (wt1.alloc (.cells #[.int .u8 (c.toNat : Int)] 5)).heap.size := by simp
                    generalize (wt1.alloc (.cells #[.int .u8 (c.toNat : Int)] 5)) = wt2 at *
                    refine sched_back (by rw [HF1.out]; exact cgwt2) ?_
                    repeat (first | (refine wpT_free rfl ?_; intro K hK; go_big_quiet_op; go_big_quiet_on) | (refine wpT_wantS _ rfl rfl rfl ?_; intro K hK; go_big_quiet_op; go_big_quiet_on) | (refine wpT_skipS _ rfl rfl rfl rfl ?_; simp only [Act.put, List.setIfInBounds_toArray, List.set_cons_zero, List.set_cons_succ]) | (refine wpT_skipU _ rfl rfl rfl ?_; simp only [Act.put, List.setIfInBounds_toArray, List.set_cons_zero, List.set_cons_succ]))
                    refine wpT_other ?_
                    have hcv := run_bytes_string (P := Try.prog) wt2 (src := 40) (dst := 9) Try.underlying40 Try.underlying5 Try.underlying9 (c := 1) RBwt2
                    go_wp2_with fail
                    clear hcv
                    refine sched_back (by rw [HF1.out]; exact cgwt2) ?_
                    repeat (first | (refine wpT_free rfl ?_; intro K hK; go_big_quiet_op; go_big_quiet_on) | (refine wpT_wantS _ rfl rfl rfl ?_; intro K hK; go_big_quiet_op; go_big_quiet_on) | (refine wpT_skipS _ rfl rfl rfl rfl ?_; simp only [Act.put, List.setIfInBounds_toArray, List.set_cons_zero, List.set_cons_succ]) | (refine wpT_skipU _ rfl rfl rfl ?_; simp only [Act.put, List.setIfInBounds_toArray, List.set_cons_zero, List.set_cons_succ]))
                    refine wpT_other ?_
                    go_wp2_with fail
                    refine (HCB.out _).mono ?_
                    rintro e wq ⟨rfl, hwq⟩
                    rw [hwq]
                    clear hwq wq
                    go_wp2_with fail
                    refine sched_back (by rw [HF1.out]; exact cgwt2) ?_
                    repeat (first | (refine wpT_free rfl ?_; intro K hK; go_big_quiet_op; go_big_quiet_on) | (refine wpT_wantS _ rfl rfl rfl ?_; intro K hK; go_big_quiet_op; go_big_quiet_on) | (refine wpT_skipS _ rfl rfl rfl rfl ?_; simp only [Act.put, List.setIfInBounds_toArray, List.set_cons_zero, List.set_cons_succ]) | (refine wpT_skipU _ rfl rfl rfl ?_; simp only [Act.put, List.setIfInBounds_toArray, List.set_cons_zero, List.set_cons_succ]))
                    refine wpT_nil ?_
                    refine wpTail_cons ?_
                    go_wp2_with fail
                    refine tail_back ?_
                    refine wpTail_nil ?_
                    go_wp2_with fail
                    go_roundw
                    case rel => exact ⟨m', v + n1, v + n2, by omega, by go_num, by go_num, by go_num, HNX.out, by omega, by omega, HK.out.below' hbwwt2, bthen hb hbwwt2⟩
                    case measure => simp [intOf]
                  · skip
                    go_wp2_with fail
                    have hbnwt3 : Below wt1.heap.size wt1 (wt1.alloc (.cells #[.int .u8 (c.toNat : Int)] 5)) := (by repeat (first | exact Below.refl _ _ | assumption | refine Below.alloc ?_ (by first | exact Nat.le_refl _ | assumption | omega | (simp <;> omega)) _ | refine Below.setCell ?_ (by first | exact Nat.le_refl _ | assumption | omega | (simp <;> omega)) _ | refine Below.drew ?_ | refine below_drewN ?_ _))
                    have hbwwt3 : Below wr.heap.size wr (wt1.alloc (.cells #[.int .u8 (c.toNat : Int)] 5)) := bthen hbwwt1 hbnwt3
                    have cgwt3 : (wt1.alloc (.cells #[.int .u8 (c.toNat : Int)] 5)).cell? ⟨g, c.toNat, none⟩ = some (.int .i64 (v : Int)) := (hbwwt3.cell (p := ⟨g, c.toNat, none⟩) hgl).trans c0
                    have RBwt3 : Rd (wt1.alloc (.cells #[.int .u8 (c.toNat : Int)] 5)) (wt1.heap.size + 1) 1 (some ⟨wt1.heap.size, 0, none⟩) 1 (byteCells [c]) := rd_one wt1 c
                    have RAwt3 := (RAwt1).below (hbnwt3.mono hzwt1)
                    have hzwt3 : wt1.heap.size + 1 ≤ (wt1.alloc (.cells #[.int .u8 (c.toNat : Int)] 5)).heap.size := by simp
                    generalize (wt1.alloc (.cells #[.int .u8 (c.toNat : Int)] 5)) = wt3 at *
                    refine sched_back (by rw [HF1.out]; exact cgwt3) ?_
                    repeat (first | (refine wpT_free rfl ?_; intro K hK; go_big_quiet_op; go_big_quiet_on) | (refine wpT_wantS _ rfl rfl rfl ?_; intro K hK; go_big_quiet_op; go_big_quiet_on) | (refine wpT_skipS _ rfl rfl rfl rfl ?_; simp only [Act.put, List.setIfInBounds_toArray, List.set_cons_zero, List.set_cons_succ]) | (refine wpT_skipU _ rfl rfl rfl ?_; simp only [Act.put, List.setIfInBounds_toArray, List.set_cons_zero, List.set_cons_succ]))
                    refine wpT_fork ?_ ?_
                    · skip
                      go_wp2_with fail
                      refine (HCA.out _).mono ?_
                      rintro e wq ⟨rfl, hwq⟩
                      rw [hwq]
                      clear hwq wq
                      go_wp2_with fail
                      refine sched_back (by rw [HF1.out]; exact cgwt3) ?_
                      repeat (first | (refine wpT_free rfl ?_; intro K hK; go_big_quiet_op; go_big_quiet_on) | (refine wpT_wantS _ rfl rfl rfl ?_; intro K hK; go_big_quiet_op; go_big_quiet_on) | (refine wpT_skipS _ rfl rfl rfl rfl ?_; simp only [Act.put, List.setIfInBounds_toArray, List.set_cons_zero, List.set_cons_succ]) | (refine wpT_skipU _ rfl rfl rfl ?_; simp only [Act.put, List.setIfInBounds_toArray, List.set_cons_zero, List.set_cons_succ]))
                      refine wpT_other ?_
                      have hcv := run_bytes_string (P := Try.prog) wt3 (src := 40) (dst := 9) Try.underlying40 Try.underlying5 Try.underlying9 (c := 1) RBwt3
                      go_wp2_with fail
                      clear hcv
                      refine sched_back (by rw [HF1.out]; exact cgwt3) ?_
                      repeat (first | (refine wpT_free rfl ?_; intro K hK; go_big_quiet_op; go_big_quiet_on) | (refine wpT_wantS _ rfl rfl rfl ?_; intro K hK; go_big_quiet_op; go_big_quiet_on) | (refine wpT_skipS _ rfl rfl rfl rfl ?_; simp only [Act.put, List.setIfInBounds_toArray, List.set_cons_zero, List.set_cons_succ]) | (refine wpT_skipU _ rfl rfl rfl ?_; simp only [Act.put, List.setIfInBounds_toArray, List.set_cons_zero, List.set_cons_succ]))
                      refine wpT_other ?_
                      go_wp2_with fail
                      refine (HCB.out _).mono ?_
                      rintro e wq ⟨rfl, hwq⟩
                      rw [hwq]
                      clear hwq wq
                      go_wp2_with fail
                      refine sched_back (by rw [HF1.out]; exact cgwt3) ?_
                      repeat (first | (refine wpT_free rfl ?_; intro K hK; go_big_quiet_op; go_big_quiet_on) | (refine wpT_wantS _ rfl rfl rfl ?_; intro K hK; go_big_quiet_op; go_big_quiet_on) | (refine wpT_skipS _ rfl rfl rfl rfl ?_; simp only [Act.put, List.setIfInBounds_toArray, List.set_cons_zero, List.set_cons_succ]) | (refine wpT_skipU _ rfl rfl rfl ?_; simp only [Act.put, List.setIfInBounds_toArray, List.set_cons_zero, List.set_cons_succ]))
                      refine wpT_nil ?_
                      refine wpTail_cons ?_
                      go_wp2_with fail
                      refine tail_back ?_
                      refine wpTail_nil ?_
                      go_wp2_with fail
                      go_roundw
                      case rel => exact ⟨m', v + n1, v + n2, by omega, by go_num, by go_num, by go_num, HNX.out, by omega, by omega, HK.out.below' hbwwt3, bthen hb hbwwt3⟩
                      case measure => simp [intOf]
                    · skip
                      have hcv := run_bytes_string (P := Try.prog) wt3 (src := 40) (dst := 9) Try.underlying40 Try.underlying5 Try.underlying9 (c := 1) RBwt3
                      go_wp2_with fail
                      clear hcv
                      refine sched_back (by rw [HF1.out]; exact cgwt3) ?_
                      repeat (first | (refine wpT_free rfl ?_; intro K hK; go_big_quiet_op; go_big_quiet_on) | (refine wpT_wantS _ rfl rfl rfl ?_; intro K hK; go_big_quiet_op; go_big_quiet_on) | (refine wpT_skipS _ rfl rfl rfl rfl ?_; simp only [Act.put, List.setIfInBounds_toArray, List.set_cons_zero, List.set_cons_succ]) | (refine wpT_skipU _ rfl rfl rfl ?_; simp only [Act.put, List.setIfInBounds_toArray, List.set_cons_zero, List.set_cons_succ]))
                      refine wpT_other ?_
                      go_wp2_with fail
                      refine (HCA.out _).mono ?_
                      rintro e wq ⟨rfl, hwq⟩
                      rw [hwq]
                      clear hwq wq
                      go_wp2_with fail
                      refine sched_back (by rw [HF1.out]; exact cgwt3) ?_
                      repeat (first | (refine wpT_free rfl ?_; intro K hK; go_big_quiet_op; go_big_quiet_on) | (refine wpT_wantS _ rfl rfl rfl ?_; intro K hK; go_big_quiet_op; go_big_quiet_on) | (refine wpT_skipS _ rfl rfl rfl rfl ?_; simp only [Act.put, List.setIfInBounds_toArray, List.set_cons_zero, List.set_cons_succ]) | (refine wpT_skipU _ rfl rfl rfl ?_; simp only [Act.put, List.setIfInBounds_toArray, List.set_cons_zero, List.set_cons_succ]))
                      refine wpT_other ?_
                      go_wp2_with fail
                      refine (HCB.out _).mono ?_
                      rintro e wq ⟨rfl, hwq⟩
                      rw [hwq]
                      clear hwq wq
                      go_wp2_with fail
                      refine sched_back (by rw [HF1.out]; exact cgwt3) ?_
                      repeat (first | (refine wpT_free rfl ?_; intro K hK; go_big_quiet_op; go_big_quiet_on) | (refine wpT_wantS _ rfl rfl rfl ?_; intro K hK; go_big_quiet_op; go_big_quiet_on) | (refine wpT_skipS _ rfl rfl rfl rfl ?_; simp only [Act.put, List.setIfInBounds_toArray, List.set_cons_zero, List.set_cons_succ]) | (refine wpT_skipU _ rfl rfl rfl ?_; simp only [Act.put, List.setIfInBounds_toArray, List.set_cons_zero, List.set_cons_succ]))
                      refine wpT_nil ?_
                      refine wpTail_cons ?_
                      go_wp2_with fail
                      refine tail_back ?_
                      refine wpTail_nil ?_
                      go_wp2_with fail
                      go_roundw
                      case rel => exact ⟨m', v + n1, v + n2, by omega, by go_num, by go_num, by go_num, HNX.out, by omega, by omega, HK.out.below' hbwwt3, bthen hb hbwwt3⟩
                      case measure => simp [intOf]
                · skip
                  go_wp2_with fail
                  have hbnwt4 : Below wt1.heap.size wt1 (wt1.alloc (.cells #[.int .u8 (c.toNat : Int)] 5)) := (by repeat (first | exact Below.refl _ _ | assumption | refine Below.alloc ?_ (by first | exact Nat.le_refl _ | assumption | omega | (simp <;> omega)) _ | refine Below.setCell ?_ (by first | exact Nat.le_refl _ | assumption | omega | (simp <;> omega)) _ | refine Below.drew ?_ | refine below_drewN ?_ _))
                  have hbwwt4 : Below wr.heap.size wr (wt1.alloc (.cells #[.int .u8 (c.toNat : Int)] 5)) := bthen hbwwt1 hbnwt4
                  have cgwt4 : (wt1.alloc (.cells #[.int .u8 (c.toNat : Int)] 5)).cell? ⟨g, c.toNat, none⟩ = some (.int .i64 (v : Int)) := (hbwwt4.cell (p := ⟨g, c.toNat, none⟩) hgl).trans c0
                  have RBwt4 : Rd (wt1.alloc (.cells #[.int .u8 (c.toNat : Int)] 5)) (wt1.heap.size + 1) 1 (some ⟨wt1.heap.size, 0, none⟩) 1 (byteCells [c]) := rd_one wt1 c
                  have RAwt4 := (RAwt1).below (hbnwt4.mono hzwt1)
                  have hzwt4 : wt1.heap.size + 1 ≤ (wt1.alloc (.cells #[.int .u8 (c.toNat : Int)] 5)).heap.size := by simp
                  generalize (wt1.alloc (.cells #[.int .u8 (c.toNat : Int)] 5)) = wt4 at *
                  refine sched_back (by rw [HF1.out]; exact cgwt4) ?_
                  repeat (first | (refine wpT_free rfl ?_; intro K hK; go_big_quiet_op; go_big_quiet_on) | (refine wpT_wantS _ rfl rfl rfl ?_; intro K hK; go_big_quiet_op; go_big_quiet_on) | (refine wpT_skipS _ rfl rfl rfl rfl ?_; simp only [Act.put, List.setIfInBounds_toArray, List.set_cons_zero, List.set_cons_succ]) | (refine wpT_skipU _ rfl rfl rfl ?_; simp only [Act.put, List.setIfInBounds_toArray, List.set_cons_zero, List.set_cons_succ]))
                  refine wpT_fork ?_ ?_
                  · skip
                    have hcv := run_bytes_string (P := Try.prog) wt4 (src := 40) (dst := 9) Try.underlying40 Try.underlying5 Try.underlying9 (c := 1) RAwt4
                    go_wp2_with fail
                    clear hcv
                    refine sched_back (by rw [HF1.out]; exact cgwt4) ?_
                    repeat (first | (refine wpT_free rfl ?_; intro K hK; go_big_quiet_op; go_big_quiet_on) | (refine wpT_wantS _ rfl rfl rfl ?_; intro K hK; go_big_quiet_op; go_big_quiet_on) | (refine wpT_skipS _ rfl rfl rfl rfl ?_; simp only [Act.put, List.setIfInBounds_toArray, List.set_cons_zero, List.set_cons_succ]) | (refine wpT_skipU _ rfl rfl rfl ?_; simp only [Act.put, List.setIfInBounds_toArray, List.set_cons_zero, List.set_cons_succ]))
                    refine wpT_fork ?_ ?_
                    · skip
                      go_wp2_with fail
                      refine (HCA.out _).mono ?_
                      rintro e wq ⟨rfl, hwq⟩
                      rw [hwq]
                      clear hwq wq
                      go_wp2_with fail
                      refine sched_back (by rw [HF1.out]; exact cgwt4) ?_
                      repeat (first | (refine wpT_free rfl ?_; intro K hK; go_big_quiet_op; go_big_quiet_on) | (refine wpT_wantS _ rfl rfl rfl ?_; intro K hK; go_big_quiet_op; go_big_quiet_on) | (refine wpT_skipS _ rfl rfl rfl rfl ?_; simp only [Act.put, List.setIfInBounds_toArray, List.set_cons_zero, List.set_cons_succ]) | (refine wpT_skipU _ rfl rfl rfl ?_; simp only [Act.put, List.setIfInBounds_toArray, List.set_cons_zero, List.set_cons_succ]))
                      refine wpT_other ?_
                      have hcv := run_bytes_string (P := Try.prog) wt4 (src := 40) (dst := 9) Try.underlying40 Try.underlying5 Try.underlying9 (c := 1) RBwt4
                      go_wp2_with fail
                      clear hcv
                      refine sched_back (by rw [HF1.out]; exact cgwt4) ?_
                      repeat (first | (refine wpT_free rfl ?_; intro K hK; go_big_quiet_op; go_big_quiet_on) | (refine wpT_wantS _ rfl rfl rfl ?_; intro K hK; go_big_quiet_op; go_big_quiet_on) | (refine wpT_skipS _ rfl rfl rfl rfl ?_; simp only [Act.put, List.setIfInBounds_toArray, List.set_cons_zero, List.set_cons_succ]) | (refine wpT_skipU _ rfl rfl rfl ?_; simp only [Act.put, List.setIfInBounds_toArray, List.set_cons_zero, List.set_cons_succ]))
                      refine wpT_other ?_
                      go_wp2_with fail
                      refine (HCB.out _).mono ?_
                      rintro e wq ⟨rfl, hwq⟩
                      rw [hwq]
                      clear hwq wq
                      go_wp2_with fail
                      refine sched_back (by rw [HF1.out]; exact cgwt4) ?_
                      repeat (first | (refine wpT_free rfl ?_; intro K hK; go_big_quiet_op; go_big_quiet_on) | (refine wpT_wantS _ rfl rfl rfl ?_; intro K hK; go_big_quiet_op; go_big_quiet_on) | (refine wpT_skipS _ rfl rfl rfl rfl ?_; simp only [Act.put, List.setIfInBounds_toArray, List.set_cons_zero, List.set_cons_succ]) | (refine wpT_skipU _ rfl rfl rfl ?_; simp only [Act.put, List.setIfInBounds_toArray, List.set_cons_zero, List.set_cons_succ]))
                      refine wpT_nil ?_
                      refine wpTail_cons ?_
                      go_wp2_with fail
                      refine tail_back ?_
                      refine wpTail_nil ?_
                      go_wp2_with fail
                      go_roundw
                      case rel => exact ⟨m', v + n1, v + n2, by omega, by go_num, by go_num, by go_num, HNX.out, by omega, by omega, HK.out.below' hbwwt4, bthen hb hbwwt4⟩
                      case measure => simp [intOf]
                    · skip
                      have hcv := run_bytes_string (P := Try.prog) wt4 (src := 40) (dst := 9) Try.underlying40 Try.underlying5 Try.underlying9 (c := 1) RBwt4
                      go_wp2_with fail
                      clear hcv
                      refine sched_back (by rw [HF1.out]; exact cgwt4) ?_
                      repeat (first | (refine wpT_free rfl ?_; intro K hK; go_big_quiet_op; go_big_quiet_on) | (refine wpT_wantS _ rfl rfl rfl ?_; intro K hK; go_big_quiet_op; go_big_quiet_on) | (refine wpT_skipS _ rfl rfl rfl rfl ?_; simp only [Act.put, List.setIfInBounds_toArray, List.set_cons_zero, List.set_cons_succ]) | (refine wpT_skipU _ rfl rfl rfl ?_; simp only [Act.put, List.setIfInBounds_toArray, List.set_cons_zero, List.set_cons_succ]))
                      refine wpT_other ?_
                      go_wp2_with fail
                      refine (HCA.out _).mono ?_
                      rintro e wq ⟨rfl, hwq⟩
                      rw [hwq]
                      clear hwq wq
                      go_wp2_with fail
                      refine sched_back (by rw [HF1.out]; exact cgwt4) ?_
                      repeat (first | (refine wpT_free rfl ?_; intro K hK; go_big_quiet_op; go_big_quiet_on) | (refine wpT_wantS _ rfl rfl rfl ?_; intro K hK; go_big_quiet_op; go_big_quiet_on) | (refine wpT_skipS _ rfl rfl rfl rfl ?_; simp only [Act.put, List.setIfInBounds_toArray, List.set_cons_zero, List.set_cons_succ]) | (refine wpT_skipU _ rfl rfl rfl ?_; simp only [Act.put, List.setIfInBounds_toArray, List.set_cons_zero, List.set_cons_succ]))
                      refine wpT_other ?_
                      go_wp2_with fail
                      refine (HCB.out _).mono ?_
                      rintro e wq ⟨rfl, hwq⟩
                      rw [hwq]
                      clear hwq wq
                      go_wp2_with fail
                      refine sched_back (by rw [HF1.out]; exact cgwt4) ?_
                      repeat (first | (refine wpT_free rfl ?_; intro K hK; go_big_quiet_op; go_big_quiet_on) | (refine wpT_wantS _ rfl rfl rfl ?_; intro K hK; go_big_quiet_op; go_big_quiet_on) | (refine wpT_skipS _ rfl rfl rfl rfl ?_; simp only [Act.put, List.setIfInBounds_toArray, List.set_cons_zero, List.set_cons_succ]) | (refine wpT_skipU _ rfl rfl rfl ?_; simp only [Act.put, List.setIfInBounds_toArray, List.set_cons_zero, List.set_cons_succ]))
                      refine wpT_nil ?_
                      refine wpTail_cons ?_
                      go_wp2_with fail
                      refine tail_back ?_
                      refine wpTail_nil ?_
                      go_wp2_with fail
                      go_roundw
                      case rel => exact ⟨m', v + n1, v + n2, by omega, by go_num, by go_num, by go_num, HNX.out, by omega, by omega, HK.out.below' hbwwt4, bthen hb hbwwt4⟩
                      case measure => simp [intOf]
                  · skip
                    have hcv := run_bytes_string (P := Try.prog) wt4 (src := 40) (dst := 9) Try.underlying40 Try.underlying5 Try.underlying9 (c := 1) RBwt4
                    go_wp2_with fail
                    clear hcv
                    refine sched_back (by rw [HF1.out]; exact cgwt4) ?_
                    repeat (first | (refine wpT_free rfl ?_; intro K hK; go_big_quiet_op; go_big_quiet_on) | (refine wpT_wantS _ rfl rfl rfl ?_; intro K hK; go_big_quiet_op; go_big_quiet_on) | (refine wpT_skipS _ rfl rfl rfl rfl ?_; simp only [Act.put, List.setIfInBounds_toArray, List.set_cons_zero, List.set_cons_succ]) | (refine wpT_skipU _ rfl rfl rfl ?_; simp only [Act.put, List.setIfInBounds_toArray, List.set_cons_zero, List.set_cons_succ]))
                    refine wpT_other ?_
                    have hcv := run_bytes_string (P := Try.prog) wt4 (src := 40) (dst := 9) Try.underlying40 Try.underlying5 Try.underlying9 (c := 1) RAwt4
                    go_wp2_with fail
                    clear hcv
                    refine sched_back (by rw [HF1.out]; exact cgwt4) ?_
                    repeat (first | (refine wpT_free rfl ?_; intro K hK; go_big_quiet_op; go_big_quiet_on) | (refine wpT_wantS _ rfl rfl rfl ?_; intro K hK; go_big_quiet_op; go_big_quiet_on) | (refine wpT_skipS _ rfl rfl rfl rfl ?_; simp only [Act.put, List.setIfInBounds_toArray, List.set_cons_zero, List.set_cons_succ]) | (refine wpT_skipU _ rfl rfl rfl ?_; simp only [Act.put, List.setIfInBounds_toArray, List.set_cons_zero, List.set_cons_succ]))
                    refine wpT_other ?_
                    go_wp2_with fail
                    refine (HCA.out _).mono ?_
                    rintro e wq ⟨rfl, hwq⟩
                    rw [hwq]
                    clear hwq wq
                    go_wp2_with fail
                    refine sched_back (by rw [HF1.out]; exact cgwt4) ?_
                    repeat (first | (refine wpT_free rfl ?_; intro K hK; go_big_quiet_op; go_big_quiet_on) | (refine wpT_wantS _ rfl rfl rfl ?_; intro K hK; go_big_quiet_op; go_big_quiet_on) | (refine wpT_skipS _ rfl rfl rfl rfl ?_; simp only [Act.put, List.setIfInBounds_toArray, List.set_cons_zero, List.set_cons_succ]) | (refine wpT_skipU _ rfl rfl rfl ?_; simp only [Act.put, List.setIfInBounds_toArray, List.set_cons_zero, List.set_cons_succ]))
                    refine wpT_other ?_
                    go_wp2_with fail
                    refine (HCB.out _).mono ?_
                    rintro e wq ⟨rfl, hwq⟩
                    rw [hwq]
                    clear hwq wq
                    go_wp2_with fail
                    refine sched_back (by rw [HF1.out]; exact cgwt4) ?_
                    repeat (first | (refine wpT_free rfl ?_; intro K hK; go_big_quiet_op; go_big_quiet_on) | (refine wpT_wantS _ rfl rfl rfl ?_; intro K hK; go_big_quiet_op; go_big_quiet_on) | (refine wpT_skipS _ rfl rfl rfl rfl ?_; simp only [Act.put, List.setIfInBounds_toArray, List.set_cons_zero, List.set_cons_succ]) | (refine wpT_skipU _ rfl rfl rfl ?_; simp only [Act.put, List.setIfInBounds_toArray, List.set_cons_zero, List.set_cons_succ]))
                    refine wpT_nil ?_
                    refine wpTail_cons ?_
                    go_wp2_with fail
                    refine tail_back ?_
                    refine wpTail_nil ?_
                    go_wp2_with fail
                    go_roundw
                    case rel => exact ⟨m', v + n1, v + n2, by omega, by go_num, by go_num, by go_num, HNX.out, by omega, by omega, HK.out.below' hbwwt4, bthen hb hbwwt4⟩
                    case measure => simp [intOf]
              · skip
                go_wp2_with fail
                have hbnwt5 : Below wr.heap.size wr ((wr.alloc (.cells #[.int .u8 (c.toNat : Int)] 5)).drew) := (by repeat (first | exact Below.refl _ _ | assumption | refine Below.alloc ?_ (by first | exact Nat.le_refl _ | assumption | omega | (simp <;> omega)) _ | refine Below.setCell ?_ (by first | exact Nat.le_refl _ | assumption | omega | (simp <;> omega)) _ | refine Below.drew ?_ | refine below_drewN ?_ _))
                have hbwwt5 : Below wr.heap.size wr ((wr.alloc (.cells #[.int .u8 (c.toNat : Int)] 5)).drew) := hbnwt5
                have cgwt5 : ((wr.alloc (.cells #[.int .u8 (c.toNat : Int)] 5)).drew).cell? ⟨g, c.toNat, none⟩ = some (.int .i64 (v : Int)) := (hbwwt5.cell (p := ⟨g, c.toNat, none⟩) hgl).trans c0
                have RBwt5 : Rd ((wr.alloc (.cells #[.int .u8 (c.toNat : Int)] 5)).drew) (wr.heap.size + 1) 1 (some ⟨wr.heap.size, 0, none⟩) 1 (byteCells [c]) := rd_oneD wr c
                have hzwt5 : wr.heap.size + 1 ≤ ((wr.alloc (.cells #[.int .u8 (c.toNat : Int)] 5)).drew).heap.size := by simp
                generalize ((wr.alloc (.cells #[.int .u8 (c.toNat : Int)] 5)).drew) = wt5 at *
                refine sched_back (by rw [HF1.out]; exact cgwt5) ?_
                repeat (first | (refine wpT_free rfl ?_; intro K hK; go_big_quiet_op; go_big_quiet_on) | (refine wpT_wantS _ rfl rfl rfl ?_; intro K hK; go_big_quiet_op; go_big_quiet_on) | (refine wpT_skipS _ rfl rfl rfl rfl ?_; simp only [Act.put, List.setIfInBounds_toArray, List.set_cons_zero, List.set_cons_succ]) | (refine wpT_skipU _ rfl rfl rfl ?_; simp only [Act.put, List.setIfInBounds_toArray, List.set_cons_zero, List.set_cons_succ]))
                refine wpT_fork ?_ ?_
                · skip
                  go_wp2_with fail
                  have hbnwt6 : Below wt5.heap.size wt5 (wt5.alloc (.cells #[.int .u8 (c.toNat : Int)] 5)) := (by repeat (first | exact Below.refl _ _ | assumption | refine Below.alloc ?_ (by first | exact Nat.le_refl _ | assumption | omega | (simp <;> omega)) _ | refine Below.setCell ?_ (by first | exact Nat.le_refl _ | assumption | omega | (simp <;> omega)) _ | refine Below.drew ?_ | refine below_drewN ?_ _))
                  have hbwwt6 : Below wr.heap.size wr (wt5.alloc (.cells #[.int .u8 (c.toNat : Int)] 5)) := bthen hbwwt5 hbnwt6
                  have cgwt6 : (wt5.alloc (.cells #[.int .u8 (c.toNat : Int)] 5)).cell? ⟨g, c.toNat, none⟩ = some (.int .i64 (v : Int)) := (hbwwt6.cell (p := ⟨g, c.toNat, none⟩) hgl).trans c0
                  have RAwt6 : Rd (wt5.alloc (.cells #[.int .u8 (c.toNat : Int)] 5)) (wt5.heap.size + 1) 1 (some ⟨wt5.heap.size, 0, none⟩) 1 (byteCells [c]) := rd_one wt5 c
                  have RBwt6 := (RBwt5).below (hbnwt6.mono hzwt5)
                  have hzwt6 : wt5.heap.size + 1 ≤ (wt5.alloc (.cells #[.int .u8 (c.toNat : Int)] 5)).heap.size := by simp
                  generalize (wt5.alloc (.cells #[.int .u8 (c.toNat : Int)] 5)) = wt6 at *
                  refine sched_back (by rw [HF1.out]; exact cgwt6) ?_
                  repeat (first | (refine wpT_free rfl ?_; intro K hK; go_big_quiet_op; go_big_quiet_on) | (refine wpT_wantS _ rfl rfl rfl ?_; intro K hK; go_big_quiet_op; go_big_quiet_on) | (refine wpT_skipS _ rfl rfl rfl rfl ?_; simp only [Act.put, List.setIfInBounds_toArray, List.set_cons_zero, List.set_cons_succ]) | (refine wpT_skipU _ rfl rfl rfl ?_; simp only [Act.put, List.setIfInBounds_toArray, List.set_cons_zero, List.set_cons_succ]))
                  refine wpT_fork ?_ ?_
                  · skip
                    have hcv := run_bytes_string (P := Try.prog) wt6 (src := 40) (dst := 9) Try.underlying40 Try.underlying5 Try.underlying9 (c := 1) RAwt6
                    go_wp2_with fail
                    clear hcv
                    refine sched_back (by rw [HF1.out]; exact cgwt6) ?_
                    repeat (first | (refine wpT_free rfl ?_; intro K hK; go_big_quiet_op; go_big_quiet_on) | (refine wpT_wantS _ rfl rfl rfl ?_; intro K hK; go_big_quiet_op; go_big_quiet_on) | (refine wpT_skipS _ rfl rfl rfl rfl ?_; simp only [Act.put, List.setIfInBounds_toArray, List.set_cons_zero, List.set_cons_succ]) | (refine wpT_skipU _ rfl rfl rfl ?_; simp only [Act.put, List.setIfInBounds_toArray, List.set_cons_zero, List.set_cons_succ]))
                    refine wpT_fork ?_ ?_
                    · skip
                      go_wp2_with fail
                      refine (HCA.out _).mono ?_
                      rintro e wq ⟨rfl, hwq⟩
                      rw [hwq]
                      clear hwq wq
                      go_wp2_with fail
                      refine sched_back (by rw [HF1.out]; exact cgwt6) ?_
                      repeat (first | (refine wpT_free rfl ?_; intro K hK; go_big_quiet_op; go_big_quiet_on) | (refine wpT_wantS _ rfl rfl rfl ?_; intro K hK; go_big_quiet_op; go_big_quiet_on) | (refine wpT_skipS _ rfl rfl rfl rfl ?_; simp only [Act.put, List.setIfInBounds_toArray, List.set_cons_zero, List.set_cons_succ]) | (refine wpT_skipU _ rfl rfl rfl ?_; simp only [Act.put, List.setIfInBounds_toArray, List.set_cons_zero, List.set_cons_succ]))
                      refine wpT_other ?_
                      have hcv := run_bytes_string (P := Try.prog) wt6 (src := 40) (dst := 9) Try.underlying40 Try.underlying5 Try.underlying9 (c := 1) RBwt6
                      go_wp2_with fail
                      clear hcv
                      refine sched_back (by rw [HF1.out]; exact cgwt6) ?_
                      repeat (first | (refine wpT_free rfl ?_; intro K hK; go_big_quiet_op; go_big_quiet_on) | (refine wpT_wantS _ rfl rfl rfl ?_; intro K hK; go_big_quiet_op; go_big_quiet_on) | (refine wpT_skipS _ rfl rfl rfl rfl ?_; simp only [Act.put, List.setIfInBounds_toArray, List.set_cons_zero, List.set_cons_succ]) | (refine wpT_skipU _ rfl rfl rfl ?_; simp only [Act.put, List.setIfInBounds_toArray, List.set_cons_zero, List.set_cons_succ]))
                      refine wpT_other ?_
                      go_wp2_with fail
                      refine (HCB.out _).mono ?_
                      rintro e wq ⟨rfl, hwq⟩
                      rw [hwq]
                      clear hwq wq
                      go_wp2_with fail
                      refine sched_back (by rw [HF1.out]; exact cgwt6) ?_
                      repeat (first | (refine wpT_free rfl ?_; intro K hK; go_big_quiet_op; go_big_quiet_on) | (refine wpT_wantS _ rfl rfl rfl ?_; intro K hK; go_big_quiet_op; go_big_quiet_on) | (refine wpT_skipS _ rfl rfl rfl rfl ?_; simp only [Act.put, List.setIfInBounds_toArray, List.set_cons_zero, List.set_cons_succ]) | (refine wpT_skipU _ rfl rfl rfl ?_; simp only [Act.put, List.setIfInBounds_toArray, List.set_cons_zero, List.set_cons_succ]))
                      refine wpT_nil ?_
                      refine wpTail_cons ?_
                      go_wp2_with fail
                      refine tail_back ?_
                      refine wpTail_nil ?_
                      go_wp2_with fail
                      go_roundw
                      case rel => exact ⟨m', v + n1, v + n2, by omega, by go_num, by go_num, by go_num, HNX.out, by omega, by omega, HK.out.below' hbwwt6, bthen hb hbwwt6⟩
                      case measure => simp [intOf]
                    · skip
                      have hcv := run_bytes_string (P := Try.prog) wt6 (src := 40) (dst := 9) Try.underlying40 Try.underlying5 Try.underlying9 (c := 1) RBwt6
                      go_wp2_with fail
                      clear hcv
                      refine sched_back (by rw [HF1.out]; exact cgwt6) ?_
                      repeat (first | (refine wpT_free rfl ?_; intro K hK; go_big_quiet_op; go_big_quiet_on) | (refine wpT_wantS _ rfl rfl rfl ?_; intro K hK; go_big_quiet_op; go_big_quiet_on) | (refine wpT_skipS _ rfl rfl rfl rfl ?_; simp only [Act.put, List.setIfInBounds_toArray, List.set_cons_zero, List.set_cons_succ]) | (refine wpT_skipU _ rfl rfl rfl ?_; simp only [Act.put, List.setIfInBounds_toArray, List.set_cons_zero, List.set_cons_succ]))
                      refine wpT_other ?_
                      go_wp2_with fail
                      refine (HCA.out _).mono ?_
                      rintro e wq ⟨rfl, hwq⟩
                      rw [hwq]
                      clear hwq wq
                      go_wp2_with fail
                      refine sched_back (by rw [HF1.out]; exact cgwt6) ?_
                      repeat (first | (refine wpT_free rfl ?_; intro K hK; go_big_quiet_op; go_big_quiet_on) | (refine wpT_wantS _ rfl rfl rfl ?_; intro K hK; go_big_quiet_op; go_big_quiet_on) | (refine wpT_skipS _ rfl rfl rfl rfl ?_; simp only [Act.put, List.setIfInBounds_toArray, List.set_cons_zero, List.set_cons_succ]) | (refine wpT_skipU _ rfl rfl rfl ?_; simp only [Act.put, List.setIfInBounds_toArray, List.set_cons_zero, List.set_cons_succ]))
                      refine wpT_other ?_
                      go_wp2_with fail
                      refine (HCB.out _).mono ?_
                      rintro e wq ⟨rfl, hwq⟩
                      rw [hwq]
                      clear hwq wq
                      go_wp2_with fail
                      refine sched_back (by rw [HF1.out]; exact cgwt6) ?_
                      repeat (first | (refine wpT_free rfl ?_; intro K hK; go_big_quiet_op; go_big_quiet_on) | (refine wpT_wantS _ rfl rfl rfl ?_; intro K hK; go_big_quiet_op; go_big_quiet_on) | (refine wpT_skipS _ rfl rfl rfl rfl ?_; simp only [Act.put, List.setIfInBounds_toArray, List.set_cons_zero, List.set_cons_succ]) | (refine wpT_skipU _ rfl rfl rfl ?_; simp only [Act.put, List.setIfInBounds_toArray, List.set_cons_zero, List.set_cons_succ]))
                      refine wpT_nil ?_
                      refine wpTail_cons ?_
                      go_wp2_with fail
                      refine tail_back ?_
                      refine wpTail_nil ?_
                      go_wp2_with fail
                      go_roundw
                      case rel => exact ⟨m', v + n1, v + n2, by omega, by go_num, by go_num, by go_num, HNX.out, by omega, by omega, HK.out.below' hbwwt6, bthen hb hbwwt6⟩
                      case measure => simp [intOf]
                  · skip
                    have hcv := run_bytes_string (P := Try.prog) wt6 (src := 40) (dst := 9) Try.underlying40 Try.underlying5 Try.underlying9 (c := 1) RBwt6
                    go_wp2_with fail
                    clear hcv
                    refine sched_back (by rw [HF1.out]; exact cgwt6) ?_
                    repeat (first | (refine wpT_free rfl ?_; intro K hK; go_big_quiet_op; go_big_quiet_on) | (refine wpT_wantS _ rfl rfl rfl ?_; intro K hK; go_big_quiet_op; go_big_quiet_on) | (refine wpT_skipS _ rfl rfl rfl rfl ?_; simp only [Act.put, List.setIfInBounds_toArray, List.set_cons_zero, List.set_cons_succ]) | (refine wpT_skipU _ rfl rfl rfl ?_; simp only [Act.put, List.setIfInBounds_toArray, List.set_cons_zero, List.set_cons_succ]))
                    refine wpT_other ?_
                    have hcv := run_bytes_string (P := Try.prog) wt6 (src := 40) (dst := 9) Try.underlying40 Try.underlying5 Try.underlying9 (c := 1) RAwt6
                    go_wp2_with fail
                    clear hcv
                    refine sched_back (by rw [HF1.out]; exact cgwt6) ?_
                    repeat (first | (refine wpT_free rfl ?_; intro K hK; go_big_quiet_op; go_big_quiet_on) | (refine wpT_wantS _ rfl rfl rfl ?_; intro K hK; go_big_quiet_op; go_big_quiet_on) | (refine wpT_skipS _ rfl rfl rfl rfl ?_; simp only [Act.put, List.setIfInBounds_toArray, List.set_cons_zero, List.set_cons_succ]) | (refine wpT_skipU _ rfl rfl rfl ?_; simp only [Act.put, List.setIfInBounds_toArray, List.set_cons_zero, List.set_cons_succ]))
                    refine wpT_other ?_
                    go_wp2_with fail
                    refine (HCA.out _).mono ?_
                    rintro e wq ⟨rfl, hwq⟩
                    rw [hwq]
                    clear hwq wq
                    go_wp2_with fail
                    refine sched_back (by rw [HF1.out]; exact cgwt6) ?_
                    repeat (first | (refine wpT_free rfl ?_; intro K hK; go_big_quiet_op; go_big_quiet_on) | (refine wpT_wantS _ rfl rfl rfl ?_; intro K hK; go_big_quiet_op; go_big_quiet_on) | (refine wpT_skipS _ rfl rfl rfl rfl ?_; simp only [Act.put, List.setIfInBounds_toArray, List.set_cons_zero, List.set_cons_succ]) | (refine wpT_skipU _ rfl rfl rfl ?_; simp only [Act.put, List.setIfInBounds_toArray, List.set_cons_zero, List.set_cons_succ]))
                    refine wpT_other ?_
                    go_wp2_with fail
                    refine (HCB.out _).mono ?_
                    rintro e wq ⟨rfl, hwq⟩
                    rw [hwq]
                    clear hwq wq
                    go_wp2_with fail
                    refine sched_back (by rw [HF1.out]; exact cgwt6) ?_
                    repeat (first | (refine wpT_free rfl ?_; intro K hK; go_big_quiet_op; go_big_quiet_on) | (refine wpT_wantS _ rfl rfl rfl ?_; intro K hK; go_big_quiet_op; go_big_quiet_on) | (refine wpT_skipS _ rfl rfl rfl rfl ?_; simp only [Act.put, List.setIfInBounds_toArray, List.set_cons_zero, List.set_cons_succ]) | (refine wpT_skipU _ rfl rfl rfl ?_; simp only [Act.put, List.setIfInBounds_toArray, List.set_cons_zero, List.set_cons_succ]))
                    refine wpT_nil ?_
                    refine wpTail_cons ?_
                    go_wp2_with fail
                    refine tail_back ?_
                    refine wpTail_nil ?_
                    go_wp2_with fail
                    go_roundw
                    case rel => exact ⟨m', v + n1, v + n2, by omega, by go_num, by go_num, by go_num, HNX.out, by omega, by omega, HK.out.below' hbwwt6, bthen hb hbwwt6⟩
                    case measure => simp [intOf]
                · skip
                  have hcv := run_bytes_string (P := Try.prog) wt5 (src := 40) (dst := 9) Try.underlying40 Try.underlying5 Try.underlying9 (c := 1) RBwt5
                  go_wp2_with fail
                  clear hcv
                  refine sched_back (by rw [HF1.out]; exact cgwt5) ?_
                  repeat (first | (refine wpT_free rfl ?_; intro K hK; go_big_quiet_op; go_big_quiet_on) | (refine wpT_wantS _ rfl rfl rfl ?_; intro K hK; go_big_quiet_op; go_big_quiet_on) | (refine wpT_skipS _ rfl rfl rfl rfl ?_; simp only [Act.put, List.setIfInBounds_toArray, List.set_cons_zero, List.set_cons_succ]) | (refine wpT_skipU _ rfl rfl rfl ?_; simp only [Act.put, List.setIfInBounds_toArray, List.set_cons_zero, List.set_cons_succ]))
                  refine wpT_other ?_
                  go_wp2_with fail
                  have hbnwt7 : Below wt5.heap.size wt5 (wt5.alloc (.cells #[.int .u8 (c.toNat : Int)] 5)) := (by repeat (first | exact Below.refl _ _ | assumption | refine Below.alloc ?_ (by first | exact Nat.le_refl _ | assumption | omega | (simp <;> omega)) _ | refine Below.setCell ?_ (by first | exact Nat.le_refl _ | assumption | omega | (simp <;> omega)) _ | refine Below.drew ?_ | refine below_drewN ?_ _))
                  have hbwwt7 : Below wr.heap.size wr (wt5.alloc (.cells #[.int .u8 (c.toNat : Int)] 5)) := bthen hbwwt5 hbnwt7
                  have cgwt7 : (wt5.alloc (.cells #[.int .u8 (c.toNat : Int)] 5)).cell? ⟨g, c.toNat, none⟩ = some (.int .i64 (v : Int)) := (hbwwt7.cell (p := ⟨g, c.toNat, none⟩) hgl).trans c0
                  have RAwt7 : Rd (wt5.alloc (.cells #[.int .u8 (c.toNat : Int)] 5)) (wt5.heap.size + 1) 1 (some ⟨wt5.heap.size, 0, none⟩) 1 (byteCells [c]) := rd_one wt5 c
                  have RBwt7 := (RBwt5).below (hbnwt7.mono hzwt5)
                  have hzwt7 : wt5.heap.size + 1 ≤ (wt5.alloc (.cells #[.int .u8 (c.toNat : Int)] 5)).heap.size := by simp
                  generalize (wt5.alloc (.cells #[.int .u8 (c.toNat : Int)] 5)) = wt7 at *
                  refine sched_back (by rw [HF1.out]; exact cgwt7) ?_
                  repeat (first | (refine wpT_free rfl ?_; intro K hK; go_big_quiet_op; go_big_quiet_on) | (refine wpT_wantS _ rfl rfl rfl ?_; intro K hK; go_big_quiet_op; go_big_quiet_on) | (refine wpT_skipS _ rfl rfl rfl rfl ?_; simp only [Act.put, List.setIfInBounds_toArray, List.set_cons_zero, List.set_cons_succ]) | (refine wpT_skipU _ rfl rfl rfl ?_; simp only [Act.put, List.setIfInBounds_toArray, List.set_cons_zero, List.set_cons_succ]))
                  refine wpT_other ?_
                  have hcv := run_bytes_string (P := Try.prog) wt7 (src := 40) (dst := 9) Try.underlying40 Try.underlying5 Try.underlying9 (c := 1) RAwt7
                  go_wp2_with fail
                  clear hcv
                  refine sched_back (by rw [HF1.out]; exact cgwt7) ?_
                  repeat (first | (refine wpT_free rfl ?_; intro K hK; go_big_quiet_op; go_big_quiet_on) | (refine wpT_wantS _ rfl rfl rfl ?_; intro K hK; go_big_quiet_op; go_big_quiet_on) | (refine wpT_skipS _ rfl rfl rfl rfl ?_; simp only [Act.put, List.setIfInBounds_toArray, List.set_cons_zero, List.set_cons_succ]) | (refine wpT_skipU _ rfl rfl rfl ?_; simp only [Act.put, List.setIfInBounds_toArray, List.set_cons_zero, List.set_cons_succ]))
                  refine wpT_other ?_
                  go_wp2_with fail
                  refine (HCA.out _).mono ?_
                  rintro e wq ⟨rfl, hwq⟩
                  rw [hwq]
                  clear hwq wq
                  go_wp2_with fail
                  refine sched_back (by rw [HF1.out]; exact cgwt7) ?_
                  repeat (first | (refine wpT_free rfl ?_; intro K hK; go_big_quiet_op; go_big_quiet_on) | (refine wpT_wantS _ rfl rfl rfl ?_; intro K hK; go_big_quiet_op; go_big_quiet_on) | (refine wpT_skipS _ rfl rfl rfl rfl ?_; simp only [Act.put, List.setIfInBounds_toArray, List.set_cons_zero, List.set_cons_succ]) | (refine wpT_skipU _ rfl rfl rfl ?_; simp only [Act.put, List.setIfInBounds_toArray, List.set_cons_zero, List.set_cons_succ]))
                  refine wpT_other ?_
                  go_wp2_with fail
                  refine (HCB.out _).mono ?_
                  rintro e wq ⟨rfl, hwq⟩
                  rw [hwq]
                  clear hwq wq
                  go_wp2_with fail
                  refine sched_back (by rw [HF1.out]; exact cgwt7) ?_
                  repeat (first | (refine wpT_free rfl ?_; intro K hK; go_big_quiet_op; go_big_quiet_on) | (refine wpT_wantS _ rfl rfl rfl ?_; intro K hK; go_big_quiet_op; go_big_quiet_on) | (refine wpT_skipS _ rfl rfl rfl rfl ?_; simp only [Act.put, List.setIfInBounds_toArray, List.set_cons_zero, List.set_cons_succ]) | (refine wpT_skipU _ rfl rfl rfl ?_; simp only [Act.put, List.setIfInBounds_toArray, List.set_cons_zero, List.set_cons_succ]))
                  refine wpT_nil ?_
                  refine wpTail_cons ?_
                  go_wp2_with fail
                  refine tail_back ?_
                  refine wpTail_nil ?_
                  go_wp2_with fail
                  go_roundw
                  case rel => exact ⟨m', v + n1, v + n2, by omega, by go_num, by go_num, by go_num, HNX.out, by omega, by omega, HK.out.below' hbwwt7, bthen hb hbwwt7⟩
                  case measure => simp [intOf]
end Go.Proofs.Ytncakjchaniheaa
