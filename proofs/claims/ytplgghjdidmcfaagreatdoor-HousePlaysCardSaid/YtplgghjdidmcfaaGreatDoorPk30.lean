/- A region that draws its order, walked along a tree of schedules: where several operations that make memory may come up, each of them; the last operations come one by one and wait for all others, and what the loads lean on need not hold behind the first of them. No program in sight. The reference's LeafEdit. The reference's deeds at a page, on. -/
import Derived.Test.YtplgghjdidmcfaaGreatDoorPk14
import Derived.Test.YtplgghjdidmcfaaGreatDoorPk27
import Derived.Test.YtplgghjdidmcfaaGreatDoorPk29
namespace Go.Proofs.YtplgghjdidmcfaaGreatDoor
open Go.RowKit
inductive STree
  | nil
  | op (i : Nat) (b : Bool) (t : STree)
  | fork (i j : Nat) (ti tj : STree)
inductive OTree
  | nil
  | op (b : Bool) (o : Oper) (t : OTree)
  | fork (oi oj : Oper) (ti tj : OTree)
section
variable {P : Program} {ops : Array Oper} {Q : Exit → Act → World → Prop} {S : World → Prop} {z : Nat} {zt : List Nat}
/-- Does i wait for j? -/
def ancB (ops : Array Oper) : Nat → Nat → Nat → Bool
  | 0, _, _ => false
  | f + 1, i, j => match ops[i]? with
    | some o => o.after.any fun e => Region.binds .any e && (e.on == j || ancB ops f e.on j)
    | none => false
theorem anc_listed {listed : Array Bool} (hcl : RgClosed ops listed) : ∀ (f i j : Nat), listed.getD i false = true → ancB ops f i j = true → listed.getD j false = true
  | 0, _, _, _, h => by cases h
  | f + 1, i, j, hi, h => by
    unfold ancB at h
    cases ho : ops[i]? with
    | none => rw [ho] at h; cases h
    | some o =>
      rw [ho] at h
      simp only [Array.any_eq_true] at h
      obtain ⟨q, hq, h2⟩ := h
      simp only [Bool.and_eq_true, Bool.or_eq_true, beq_iff_eq] at h2
      have h3 := hcl i o hi ho _ (Array.getElem_mem hq) h2.1
      rcases h2.2 with h4 | h4
      · rw [← h4]; exact h3
      · exact anc_listed hcl f _ j h3 h4
/-- Does z wait for all but the last ones? -/
def lastU (ops : Array Oper) (z : Nat) (zt : List Nat) : Bool := (List.range ops.size).all fun i => i == z || zt.contains i || ancB ops 1 z i || ancB ops 8 z i
def wpChain (P : Program) (ops : Array Oper) (Q : Exit → Act → World → Prop) : List Nat → Array Bool → Act → World → Prop
  | [], listed, a, w => Region.ready .any ops listed = [] ∧ Q .normal a w
  | z :: zs, listed, a, w => Region.ready .any ops listed = [z] ∧ wpOp P ops Q z (fun a' w' => wpChain P ops Q zs (listed.setIfInBounds z true) a' w') a w
theorem wpAny_of_chain : ∀ (zs : List Nat) (listed : Array Bool) (a : Act) (w : World), wpChain P ops Q zs listed a w → wpAny P .any ops Q zs.length listed a w
  | [], listed, a, w, h => h
  | z :: zs, listed, a, w, h => by
    obtain ⟨h1, h2⟩ := h
    refine ⟨fun h => (by rw [h1] at h; cases h), fun i hi => ?_⟩
    rw [h1] at hi
    obtain rfl : i = z := by simpa using hi
    exact wpOp_mono (fun a' w' h' => wpAny_of_chain zs _ a' w' h') h2
def wpAnyU (P : Program) (ops : Array Oper) (Q : Exit → Act → World → Prop) (S : World → Prop) (z : Nat) (zt : List Nat) : Nat → Array Bool → Act → World → Prop
  | 0, listed, a, w => wpChain P ops Q (z :: zt) listed a w
  | fuel + 1, listed, a, w => Region.ready .any ops listed ≠ [] ∧ ∀ i ∈ Region.ready .any ops listed, wpOp P ops Q i (fun a' w' => S w' ∧ wpAnyU P ops Q S z zt fuel (listed.setIfInBounds i true) a' w') a w
theorem wpAny_of_U : ∀ (fuel : Nat) (listed : Array Bool) (a : Act) (w : World), wpAnyU P ops Q S z zt fuel listed a w → wpAny P .any ops Q (fuel + (zt.length + 1)) listed a w
  | 0, listed, a, w, h => by
    have := wpAny_of_chain (z :: zt) listed a w h
    rw [List.length_cons] at this
    rw [Nat.zero_add]; exact this
  | fuel + 1, listed, a, w, h => by
    have e : fuel + 1 + (zt.length + 1) = (fuel + (zt.length + 1)) + 1 := by omega
    rw [e]
    exact ⟨fun h0 => absurd h0 h.1, fun i hi => wpOp_mono (fun a' w' h' => wpAny_of_U fuel _ a' w' h'.2) (h.2 i hi)⟩
theorem wpAnyU_first {i : Nat} {oi : Oper} {v : Value} (hl : lastU ops z zt = true) (hi : ops[i]? = some oi) (hiz : i ≠ z) (hizt : zt.contains i = false) (hsel : ∀ (j : Nat) (o : Oper) cs b, ops[j]? = some o → o.op ≠ .select cs b)
    (hQ : ∀ c a w, Q (.panic c) (a.put oi.dst v) w → Q (.panic c) a w) :
    ∀ (fuel : Nat) (listed : Array Bool) (a : Act) (w : World), RgClosed ops listed →
      (∀ j oj, ops[j]? = some oj → j ≠ i → listed.getD j true = false → (∀ e ∈ oj.after, Region.binds .any e = true → e.on ≠ i) → oi.apart ops oj = true) →
      i ∈ Region.ready .any ops listed → YieldsIf P ops S oi v a → S w →
      wpAnyU P ops Q S z zt fuel (listed.setIfInBounds i true) (a.put oi.dst v) w → wpAnyU P ops Q S z zt (fuel + 1) listed a w := by
  have hun : ∀ (listed : Array Bool), i ∈ Region.ready .any ops listed → listed.getD i false = true → False := by
    intro listed hr h1
    have h0 := (mem_ready.1 hr).1
    rcases Nat.lt_or_ge i listed.size with h' | h'
    · simp [h'] at h0 h1; rw [h0] at h1; cases h1
    · simp [Array.getElem?_eq_none h'] at h1
  have hno : ∀ (listed : Array Bool) (j : Nat), j ∈ Region.ready .any ops listed → i ∈ Region.ready .any ops listed → j ≠ i → ∀ oj, ops[j]? = some oj → ∀ e ∈ oj.after, Region.binds .any e = true → e.on ≠ i := by
    intro listed j hj hr _ oj hoj e he hb heq
    obtain ⟨_, oj', hoj', hall⟩ := mem_ready.1 hj
    rw [hoj] at hoj'
    cases hoj'
    exact hun listed hr (by rw [← heq]; exact hall e he hb)
  intro fuel
  induction fuel with
  | zero =>
    intro listed a w hcl _ hr hy hS H
    refine ⟨fun h => (by rw [h] at hr; cases hr), fun j hj => ?_⟩
    by_cases hji : j = i
    · subst hji; exact hy.wpOp hi hS ⟨hS, H⟩
    · exfalso
      have hm := ready_mono hj hji
      rw [H.1] at hm
      obtain rfl : j = z := by simpa using hm
      have hli : i < ops.size := (Array.getElem?_eq_some_iff.1 hi).1
      have h1 := List.all_eq_true.1 hl i (List.mem_range.2 hli)
      simp only [Bool.or_eq_true, beq_iff_eq] at h1
      have key : ∀ f, ancB ops (f + 1) j i = true → False := fun f h1 => by
        unfold ancB at h1
        obtain ⟨_, oj', hoj', hall⟩ := mem_ready.1 hj
        rw [hoj'] at h1
        simp only [Array.any_eq_true] at h1
        obtain ⟨q, hq, h2⟩ := h1
        simp only [Bool.and_eq_true, Bool.or_eq_true, beq_iff_eq] at h2
        have h3 := hall _ (Array.getElem_mem hq) h2.1
        rcases h2.2 with h4 | h4
        · rw [h4] at h3; exact hun listed hr h3
        · exact hun listed hr (anc_listed hcl _ _ _ h3 h4)
      rcases h1 with ((h1 | h1) | h1) | h1
      · exact hiz h1
      · rw [hizt] at h1; cases h1
      · exact key 0 h1
      · exact key 7 h1
  | succ fuel ih =>
    intro listed a w hcl hfree hr hy hS H
    refine ⟨fun h => (by rw [h] at hr; cases hr), fun j hj => ?_⟩
    by_cases hji : j = i
    · subst hji; exact hy.wpOp hi hS ⟨hS, H⟩
    · have h1 := H.2 j (ready_mono hj hji)
      obtain ⟨hjun, oj, hoj, hall⟩ := mem_ready.1 hj
      have h2 := wpOp_putIf hoj (hfree j oj hoj hji hjun (hno listed j hj hr hji oj hoj)) (fun cs b => hsel i oi cs b hi) (fun cs b => hsel j oj cs b hoj) hQ hy h1
      have hfree' : ∀ k ok, ops[k]? = some ok → k ≠ i → (listed.setIfInBounds j true).getD k true = false →
          (∀ e ∈ ok.after, Region.binds .any e = true → e.on ≠ i) → oi.apart ops ok = true := fun k ok hk hki hun hno' => by
        refine hfree k ok hk hki ?_ hno'
        by_cases hjk : j = k
        · subst hjk; exact hjun
        · rw [getD_set_ne true hjk] at hun; exact hun
      refine wpOp_mono (fun a' w' h3 => ⟨h3.2.1, ih (listed.setIfInBounds j true) a' w' (hcl.set_ hj) hfree' (ready_mono hr (Ne.symm hji)) h3.1 h3.2.1 ?_⟩) h2
      rw [Array.setIfInBounds_comm _ _ hji]
      exact h3.2.2
/-- The last ones, one by one. -/
def wpTail (P : Program) (ops : Array Oper) (Q : Exit → Act → World → Prop) : List Oper → Act → World → Prop
  | [], a, w => Q .normal a w
  | o :: r, a, w => wpList P ops (schedTo (fun _ => True) (fun a' w' => wpTail P ops Q r a' w') Q) [o] a w
def opsAt (ops : Array Oper) : List Nat → List Oper
  | [] => []
  | i :: r => match ops[i]? with
    | some o => o :: opsAt ops r
    | none => opsAt ops r
def Qt (P : Program) (ops : Array Oper) (Q : Exit → Act → World → Prop) (zs : List Oper) : Exit → Act → World → Prop
  | .normal, a, w => wpTail P ops Q zs a w
  | .exit id, a, w => Q (.exit id) a w
  | .goto l, a, w => Q (.goto l) a w
  | .ret, a, w => Q .ret a w
  | .panic c, a, w => Q (.panic c) a w
  | .outgrown, a, w => Q .outgrown a w
def chainB (ops : Array Oper) : List Nat → Array Bool → Bool
  | [], listed => (Region.ready .any ops listed).isEmpty
  | z :: zs, listed => (Region.ready .any ops listed == [z]) && chainB ops zs (listed.setIfInBounds z true)
theorem wpChain_of : ∀ (zs : List Nat) (listed : Array Bool) (a : Act) (w : World), chainB ops zs listed = true → wpTail P ops Q (opsAt ops zs) a w → wpChain P ops Q zs listed a w
  | [], listed, a, w, hB, h => by
    simp only [chainB, List.isEmpty_iff] at hB
    exact ⟨hB, h⟩
  | z :: zs, listed, a, w, hB, h => by
    simp only [chainB, Bool.and_eq_true, beq_iff_eq] at hB
    obtain ⟨h1, h2⟩ := hB
    refine ⟨h1, ?_⟩
    have hm : z ∈ Region.ready .any ops listed := by rw [h1]; simp
    obtain ⟨_, o, ho, _⟩ := mem_ready.1 hm
    simp only [opsAt, ho] at h
    unfold wpTail at h
    exact wpOp_of_list ho h (fun a w hh => wpChain_of zs _ a w h2 hh.2) (fun _ _ _ h => h) (fun ⟨a, w, hh⟩ => ⟨a, w, hh⟩)
def schedT (ops : Array Oper) (z : Nat) (zt : List Nat) : Nat → STree → Array Bool → Bool
  | 0, .nil, listed => chainB ops (z :: zt) listed
  | n + 1, .op i true t, listed => (i != z) && !zt.contains i && (Region.ready .any ops listed).contains i && Region.free .any ops listed i && (match ops[i]? with | some o => stillKind o | none => false) && schedT ops z zt n t (listed.setIfInBounds i true)
  | n + 1, .op i false t, listed => (Region.ready .any ops listed == [i]) && schedT ops z zt n t (listed.setIfInBounds i true)
  | n + 1, .fork i j ti tj, listed => (Region.ready .any ops listed == [i, j]) && schedT ops z zt n ti (listed.setIfInBounds i true) && schedT ops z zt n tj (listed.setIfInBounds j true)
  | _, _, _ => false
def opersT (ops : Array Oper) : STree → OTree
  | .nil => .nil
  | .op i b t => match ops[i]? with
    | some o => .op b o (opersT ops t)
    | none => .nil
  | .fork i j ti tj => match ops[i]?, ops[j]? with
    | some oi, some oj => .fork oi oj (opersT ops ti) (opersT ops tj)
    | _, _ => .nil
def wpT (P : Program) (ops : Array Oper) (C : World → Prop) (Q : Exit → Act → World → Prop) : OTree → Act → World → Prop
  | .nil, a, w => Shut (Q .normal a w)
  | .op true o t, a, w => Shut (if Region.wanted o (yielded ops a.tmps) then o.quiet P a C (fun a' => wpT P ops C Q t a' w) else wpT P ops C Q t (a.put o.dst undef) w)
  | .op false o t, a, w => Shut (wpList P ops (schedTo C (fun a' w' => wpT P ops C Q t a' w') Q) [o] a w)
  | .fork oi oj ti tj, a, w => Shut (wpList P ops (schedTo C (fun a' w' => wpT P ops C Q ti a' w') Q) [oi] a w ∧ wpList P ops (schedTo C (fun a' w' => wpT P ops C Q tj a' w') Q) [oj] a w)
theorem wpAnyU_sched (hl : lastU ops z zt = true) (hs : Region.noSelect ops = true) (hQ : ∀ c a (d : Tmp) v w, Q (.panic c) (Act.put a (some d) v) w → Q (.panic c) a w) :
    ∀ (n : Nat) (σ : STree) (listed : Array Bool) (a : Act) (w : World), RgClosed ops listed → schedT ops z zt n σ listed = true → S w → wpT P ops S (Qt P ops Q (opsAt ops (z :: zt))) (opersT ops σ) a w → wpAnyU P ops Q S z zt n listed a w
  | 0, .nil, listed, a, w, _, hB, _, h => wpChain_of (z :: zt) listed a w hB h.out
  | 0, .op .., _, _, _, _, hB, _, _ => by simp [schedT] at hB
  | 0, .fork .., _, _, _, _, hB, _, _ => by simp [schedT] at hB
  | _ + 1, .nil, _, _, _, _, hB, _, _ => by simp [schedT] at hB
  | n + 1, .op i true t, listed, a, w, hcl, hB, hC, h => by
    simp only [schedT, Bool.and_eq_true, bne_iff_ne, Bool.not_eq_true'] at hB
    obtain ⟨⟨⟨⟨⟨hne, hnt⟩, hr⟩, hf⟩, hk⟩, hB'⟩ := hB
    cases hi : ops[i]? with
    | none => rw [hi] at hk; simp at hk
    | some o =>
      rw [hi] at hk
      simp only [opersT, hi] at h
      unfold wpT at h
      replace h := h.out
      by_cases hw : Region.wanted o (yielded ops a.tmps) = true
      · rw [if_pos hw] at h
        obtain ⟨v, h1, h2⟩ := h
        exact wpAnyU_first hl hi hne hnt (Region.noSelect_spec hs) (fun c a w hh => hQput hQ c a _ _ w hh) _ _ _ _ hcl (Region.free_spec hi hf) (by simpa using hr) (yieldsIf_of_quiet hk hw h1) hC (wpAnyU_sched hl hs hQ n t _ _ _ (hcl.set_ (by simpa using hr)) hB' hC h2)
      · rw [if_neg hw] at h
        exact wpAnyU_first hl hi hne hnt (Region.noSelect_spec hs) (fun c a w hh => hQput hQ c a _ _ w hh) _ _ _ _ hcl (Region.free_spec hi hf) (by simpa using hr) (.inr ⟨by simpa using hw, rfl⟩) hC (wpAnyU_sched hl hs hQ n t _ _ _ (hcl.set_ (by simpa using hr)) hB' hC h)
  | n + 1, .op i false t, listed, a, w, hcl, hB, hC, h => by
    simp only [schedT, Bool.and_eq_true, beq_iff_eq] at hB
    obtain ⟨hr, hB'⟩ := hB
    refine ⟨by rw [hr]; simp, fun j hj => ?_⟩
    have hj0 := hj
    rw [hr] at hj
    obtain rfl : j = i := by simpa using hj
    obtain ⟨_, o, hi, _⟩ := mem_ready.1 hj0
    simp only [opersT, hi] at h
    unfold wpT at h
    replace h := h.out
    exact wpOp_of_list hi h (fun a w hh => ⟨hh.1, wpAnyU_sched hl hs hQ n t _ _ _ (hcl.set_ hj0) hB' hh.1 hh.2⟩) (fun _ _ _ h => h) (fun ⟨a, w, hh⟩ => ⟨a, w, hh⟩)
  | n + 1, .fork i j ti tj, listed, a, w, hcl, hB, hC, h => by
    simp only [schedT, Bool.and_eq_true, beq_iff_eq] at hB
    obtain ⟨⟨hr, hBi⟩, hBj⟩ := hB
    have hmi : i ∈ Region.ready .any ops listed := by rw [hr]; simp
    have hmj : j ∈ Region.ready .any ops listed := by rw [hr]; simp
    obtain ⟨_, oi, hi, _⟩ := mem_ready.1 hmi
    obtain ⟨_, oj, hj, _⟩ := mem_ready.1 hmj
    simp only [opersT, hi, hj] at h
    unfold wpT at h
    replace h := h.out
    refine ⟨by rw [hr]; simp, fun q hq => ?_⟩
    rw [hr] at hq
    simp only [List.mem_cons, List.not_mem_nil, or_false] at hq
    rcases hq with rfl | rfl
    · exact wpOp_of_list hi h.1 (fun a w hh => ⟨hh.1, wpAnyU_sched hl hs hQ n ti _ _ _ (hcl.set_ hmi) hBi hh.1 hh.2⟩) (fun _ _ _ h => h) (fun ⟨a, w, hh⟩ => ⟨a, w, hh⟩)
    · exact wpOp_of_list hj h.2 (fun a w hh => ⟨hh.1, wpAnyU_sched hl hs hQ n tj _ _ _ (hcl.set_ hmj) hBj hh.1 hh.2⟩) (fun _ _ _ h => h) (fun ⟨a, w, hh⟩ => ⟨a, w, hh⟩)
/- The same check with what has come up as a list: the kernel reckons with it in no time. -/
def arrOf (n : Nat) (dn : List Nat) : Array Bool := ((List.range n).map fun j => dn.contains j).toArray
theorem arrOf_size (n : Nat) (dn : List Nat) : (arrOf n dn).size = n := by simp [arrOf]
theorem arrOf_getD (n : Nat) (dn : List Nat) (j : Nat) (d : Bool) : (arrOf n dn).getD j d = if j < n then dn.contains j else d := by
  unfold arrOf
  by_cases h : j < n
  · rw [if_pos h]; simp [h]
  · rw [if_neg h]; simp [h]
theorem arrOf_nil (n : Nat) : Array.replicate n false = arrOf n [] := by
  unfold arrOf
  apply Array.ext
  · simp
  · intro i h1 h2; simp
theorem arrOf_get {n : Nat} (dn : List Nat) {j : Nat} (h : j < (arrOf n dn).size) : (arrOf n dn)[j] = dn.contains j := by
  simp [arrOf]
theorem arrOf_set {n : Nat} (dn : List Nat) {i : Nat} (_hi : i < n) : (arrOf n dn).setIfInBounds i true = arrOf n (i :: dn) := by
  apply Array.ext
  · rw [Array.size_setIfInBounds, arrOf_size, arrOf_size]
  · intro j h1 h2
    have h3 : j < (arrOf n dn).size := by rw [Array.size_setIfInBounds] at h1; exact h1
    rw [Array.getElem_setIfInBounds h3, arrOf_get, arrOf_get, List.contains_cons]
    by_cases e : i = j
    · subst e; simp
    · rw [if_neg e]
      have : (j == i) = false := by rw [beq_eq_false_iff_ne]; exact Ne.symm e
      rw [this, Bool.false_or]
def readyL (ops : Array Oper) (dn : List Nat) : List Nat :=
  (List.range ops.size).filter fun i => !dn.contains i && ((ops[i]?).map (·.after.all fun e => !Region.binds .any e || (decide (e.on < ops.size) && dn.contains e.on))).getD false
theorem readyL_eq (ops : Array Oper) (dn : List Nat) : Region.ready .any ops (arrOf ops.size dn) = readyL ops dn := by
  unfold Region.ready readyL
  apply List.filter_congr
  intro i hi
  rw [List.mem_range] at hi
  rw [arrOf_getD, if_pos hi]
  have hf : (fun (e : _) => !Region.binds .any e || (arrOf ops.size dn).getD e.on false) = fun e => !Region.binds .any e || (decide (e.on < ops.size) && dn.contains e.on) := by
    funext e
    rw [arrOf_getD]
    by_cases h : e.on < ops.size
    · rw [if_pos h]; simp [h]
    · rw [if_neg h]; simp [h]
  rw [hf]
def freeL (ops : Array Oper) (dn : List Nat) (i : Nat) : Bool :=
  match ops[i]? with
  | none => false
  | some oi => (List.range ops.size).all fun j => j == i || dn.contains j || match ops[j]? with
      | some oj => oj.after.any (fun e => Region.binds .any e && e.on == i) || oi.apart ops oj
      | none => true
theorem freeL_eq (ops : Array Oper) (dn : List Nat) (i : Nat) : Region.free .any ops (arrOf ops.size dn) i = freeL ops dn i := by
  unfold Region.free freeL
  cases ops[i]? with
  | none => rfl
  | some oi =>
    simp only
    rw [Bool.eq_iff_iff, List.all_eq_true, List.all_eq_true]
    constructor
    · intro h j hj
      have h1 := h j hj
      rw [List.mem_range] at hj
      rw [arrOf_getD, if_pos hj] at h1
      exact h1
    · intro h j hj
      have h1 := h j hj
      rw [List.mem_range] at hj
      rw [arrOf_getD, if_pos hj]
      exact h1
theorem ready_lt {dn : List Nat} {i : Nat} (h : i ∈ readyL ops dn) : i < ops.size := List.mem_range.1 (List.mem_filter.1 h).1
def chainL (ops : Array Oper) : List Nat → List Nat → Bool
  | [], dn => (readyL ops dn).isEmpty
  | z :: zs, dn => (readyL ops dn == [z]) && chainL ops zs (z :: dn)
theorem chainL_B : ∀ (zs : List Nat) (dn : List Nat), chainL ops zs dn = true → chainB ops zs (arrOf ops.size dn) = true
  | [], dn, h => by unfold chainB; rw [readyL_eq]; exact h
  | z :: zs, dn, h => by
    unfold chainB; rw [readyL_eq]
    simp only [chainL, Bool.and_eq_true, beq_iff_eq] at h ⊢
    have hz : z < ops.size := ready_lt (dn := dn) (by rw [h.1]; simp)
    exact ⟨h.1, by rw [arrOf_set _ hz]; exact chainL_B zs _ h.2⟩
def schedL (ops : Array Oper) (z : Nat) (zt : List Nat) : Nat → STree → List Nat → Bool
  | 0, .nil, dn => chainL ops (z :: zt) dn
  | n + 1, .op i true t, dn => (i != z) && !zt.contains i && (readyL ops dn).contains i && freeL ops dn i && (match ops[i]? with | some o => stillKind o | none => false) && schedL ops z zt n t (i :: dn)
  | n + 1, .op i false t, dn => (readyL ops dn == [i]) && schedL ops z zt n t (i :: dn)
  | n + 1, .fork i j ti tj, dn => (readyL ops dn == [i, j]) && schedL ops z zt n ti (i :: dn) && schedL ops z zt n tj (j :: dn)
  | _, _, _ => false
theorem schedL_T : ∀ (n : Nat) (σ : STree) (dn : List Nat), schedL ops z zt n σ dn = true → schedT ops z zt n σ (arrOf ops.size dn) = true
  | 0, .nil, dn, h => chainL_B _ _ h
  | 0, .op .., _, h => by simp [schedL] at h
  | 0, .fork .., _, h => by simp [schedL] at h
  | _ + 1, .nil, _, h => by simp [schedL] at h
  | n + 1, .op i true t, dn, h => by
    simp only [schedL, Bool.and_eq_true] at h
    obtain ⟨⟨⟨⟨⟨h1, h2⟩, h3⟩, h4⟩, h5⟩, h6⟩ := h
    have hi : i < ops.size := ready_lt (dn := dn) (by simpa using h3)
    simp only [schedT, readyL_eq, freeL_eq, arrOf_set _ hi, Bool.and_eq_true]
    exact ⟨⟨⟨⟨⟨h1, h2⟩, h3⟩, h4⟩, h5⟩, schedL_T n t _ h6⟩
  | n + 1, .op i false t, dn, h => by
    simp only [schedL, Bool.and_eq_true, beq_iff_eq] at h
    have hi : i < ops.size := ready_lt (dn := dn) (by rw [h.1]; simp)
    simp only [schedT, readyL_eq, arrOf_set _ hi, Bool.and_eq_true, beq_iff_eq]
    exact ⟨h.1, schedL_T n t _ h.2⟩
  | n + 1, .fork i j ti tj, dn, h => by
    simp only [schedL, Bool.and_eq_true, beq_iff_eq] at h
    have hi : i < ops.size := ready_lt (dn := dn) (by rw [h.1.1]; simp)
    have hj : j < ops.size := ready_lt (dn := dn) (by rw [h.1.1]; simp)
    simp only [schedT, readyL_eq, arrOf_set _ hi, arrOf_set _ hj, Bool.and_eq_true, beq_iff_eq]
    exact ⟨⟨h.1.1, schedL_T n ti _ h.1.2⟩, schedL_T n tj _ h.2⟩
theorem wp_region_schedT {id : Nat} {a : Act} {w : World} (σ : STree) (n z : Nat) (zt : List Nat) (F : World → Prop) (hm : P.follows .mixedOrders = true) (hs : Region.noSelect ops = true) (hl : lastU ops z zt = true) (hlen : n + (zt.length + 1) = ops.size)
    (hQ : ∀ c a (d : Tmp) v w, Q (.panic c) (Act.put a (some d) v) w → Q (.panic c) a w) (hB : schedL ops z zt n σ [] = true) (hF : F w) (hd : F w → F w.drew)
    (h : Nonempty (Wof F) → wpT P ops (fun w' => ∃ p : Wof F, w' = p.w) (Qt P ops Q (opsAt ops (z :: zt))) (opersT ops σ) a w.drew) : (Code.region id ops true).wp P Q a w := by
  refine wp_region_any hm ?_
  rw [← hlen]
  exact wpAny_of_U n _ a _ (wpAnyU_sched hl hs hQ n σ _ a _ (RgClosed.start _ _) (by rw [hlen, arrOf_nil]; exact schedL_T _ _ _ hB) ⟨⟨_, hd hF⟩, rfl⟩ (h ⟨⟨_, hF⟩⟩))
theorem wpT_nil {C : World → Prop} {a : Act} {w : World} {zs : List Oper} (h : wpTail P ops Q zs a w) : wpT P ops C (Qt P ops Q zs) .nil a w := ⟨h⟩
theorem wpTail_cons {a : Act} {w : World} {o : Oper} {r : List Oper} (h : wpList P ops (schedTo (fun _ => True) (fun a' w' => wpTail P ops Q r a' w') Q) [o] a w) : wpTail P ops Q (o :: r) a w := h
theorem wpTail_nil {a : Act} {w : World} (h : Q .normal a w) : wpTail P ops Q [] a w := h
theorem tail_back {K : Act → World → Prop} {a : Act} {w : World} (h : K a w) : schedTo (fun _ => True) K Q .normal a w := ⟨trivial, h⟩
theorem wpT_want {C : World → Prop} {a : Act} {w : World} {o : Oper} {t : OTree} (hw : Region.wanted o (yielded ops a.tmps) = true)
    (h : ∀ K : Act → Prop, (∀ a, wpT P ops C Q t a w → K a) → o.quiet P a C K) : wpT P ops C Q (.op true o t) a w := by
  unfold wpT
  refine ⟨?_⟩
  rw [if_pos hw]
  exact h _ (fun _ h => h)
theorem wpT_skip {C : World → Prop} {a : Act} {w : World} {o : Oper} {t : OTree} (hw : Region.wanted o (yielded ops a.tmps) = false)
    (h : wpT P ops C Q t (a.put o.dst undef) w) : wpT P ops C Q (.op true o t) a w := by
  unfold wpT
  refine ⟨?_⟩
  rw [if_neg (by rw [hw]; simp)]
  exact h
theorem wpT_free {C : World → Prop} {a : Act} {w : World} {o : Oper} {t : OTree} (hg : o.guard = none)
    (h : ∀ K : Act → Prop, (∀ a, wpT P ops C Q t a w → K a) → o.quiet P a C K) : wpT P ops C Q (.op true o t) a w := wpT_want (wanted_none hg) h
theorem wpT_wantS {C : World → Prop} {a : Act} {w : World} {o : Oper} {t : OTree} {j : Nat} {b : Bool} (d : Tmp) (hg : o.guard = some (j, b)) (hd : (ops[j]?).bind (·.dst) = some d) (hv : a.tmps[d]? = some (.bool b))
    (h : ∀ K : Act → Prop, (∀ a, wpT P ops C Q t a w → K a) → o.quiet P a C K) : wpT P ops C Q (.op true o t) a w := wpT_want ((wanted_slot d hg hd hv).trans (by simp [boolOf])) h
theorem wpT_skipS {C : World → Prop} {a : Act} {w : World} {o : Oper} {t : OTree} {j : Nat} {b c : Bool} (d : Tmp) (hg : o.guard = some (j, b)) (hd : (ops[j]?).bind (·.dst) = some d) (hv : a.tmps[d]? = some (.bool c)) (hb : (c == b) = false)
    (h : wpT P ops C Q t (a.put o.dst undef) w) : wpT P ops C Q (.op true o t) a w := wpT_skip ((wanted_slot d hg hd hv).trans (by simpa [boolOf] using hb)) h
theorem wpT_skipU {C : World → Prop} {a : Act} {w : World} {o : Oper} {t : OTree} {j : Nat} {b : Bool} (d : Tmp) (hg : o.guard = some (j, b)) (hd : (ops[j]?).bind (·.dst) = some d) (hv : a.tmps[d]? = some undef)
    (h : wpT P ops C Q t (a.put o.dst undef) w) : wpT P ops C Q (.op true o t) a w := wpT_skip ((wanted_slot d hg hd hv).trans rfl) h
theorem wpT_other {C : World → Prop} {a : Act} {w : World} {o : Oper} {t : OTree} (h : wpList P ops (schedTo C (fun a' w' => wpT P ops C Q t a' w') Q) [o] a w) : wpT P ops C Q (.op false o t) a w := ⟨h⟩
theorem wpT_fork {C : World → Prop} {a : Act} {w : World} {oi oj : Oper} {ti tj : OTree} (h1 : wpList P ops (schedTo C (fun a' w' => wpT P ops C Q ti a' w') Q) [oi] a w) (h2 : wpList P ops (schedTo C (fun a' w' => wpT P ops C Q tj a' w') Q) [oj] a w) :
    wpT P ops C Q (.fork oi oj ti tj) a w := ⟨⟨h1, h2⟩⟩
end
end Go.Proofs.YtplgghjdidmcfaaGreatDoor
namespace Go.Proofs.YtplgghjdidmcfaaGreatDoor
open Go.RowKit
set_option maxRecDepth 100000 in
set_option maxHeartbeats 4000000 in
theorem rlEditBad_any (tx d : ByteArray) (sf : Nat) (l : List Ed) (A : Option Addr) (m c B : Nat) (w : World) (hr : Rd w B 3 A m (edCells l)) (hB : B ≤ w.heap.size) (hm : m ≤ 9223372036854775807) (hz : edErr tx.size l ≠ 0) :
    Calls Tryz.prog 64 #[.agg #[.string tx, .string d, .int .i64 (sf : Int)], .slice A m c] w fun e w' => e = .returned (.tuple #[.agg #[.string tx, .string d, .int .i64 (sf : Int)], .int .i64 (edErr tx.size l)]) ∧ Below w.heap.size w w' := by
  have HER := Lib.hid (fun W (hb : Below w.heap.size w W) => editsErr_any (tx.size : Int) l A m c B W (hr.below (hb.mono hB)) (Nat.le_trans hB hb.size) hm)
  have g1 : (edErr tx.size l != 0) = true := by simpa using hz
  clear hr hz
  generalize edErr tx.size l = q at *
  go_enter Tryz.func64, Tryz.ntmps64
  go_wp2_with fail
  refine (HER.out _ (by repeat (first | exact Below.refl _ _ | assumption | refine Below.alloc ?_ (by first | exact Nat.le_refl _ | assumption | omega | (simp <;> omega)) _ | refine Below.setCell ?_ (by first | exact Nat.le_refl _ | assumption | omega | (simp <;> omega)) _ | refine Below.drew ?_ | refine below_drewN ?_ _))).mono ?_
  rintro e w1 ⟨rfl, hb1⟩
  have C0 := Blk.below' (Blk.alloc (Blk.new_ _ _ _) _) hb1
  have C1 := Blk.below' (Blk.new_ _ _ _) hb1
  simp only [World.size_alloc] at C1
  have hbA : Below w.heap.size w w1 := bthen (by repeat (first | exact Below.refl _ _ | assumption | refine Below.alloc ?_ (by first | exact Nat.le_refl _ | assumption | omega | (simp <;> omega)) _ | refine Below.setCell ?_ (by first | exact Nat.le_refl _ | assumption | omega | (simp <;> omega)) _ | refine Below.drew ?_ | refine below_drewN ?_ _)) hb1
  have e0 := Blk.cell0 C0; have e1 := Blk.cell1 C0; have e2 := Blk.cell2 C0
  have d0 := Blk.cell0 C1; have d1 := Blk.cell1 C1; have d2 := Blk.cell2 C1
  have f0 := C1.frozen 0; have f1 := C1.frozen 1; have f2 := C1.frozen 2
  clear C0 C1 hb1
  go_wp2_with fail
  (apply bodyPost_ret; (simp [results, Tryz.results64, go_sem, d0, d1, d2]; rfl); rfl)
  exact ⟨rfl, (by repeat (first | exact Below.refl _ _ | assumption | refine Below.alloc ?_ (by first | exact Nat.le_refl _ | assumption | omega | (simp <;> omega)) _ | refine Below.setCell ?_ (by first | exact Nat.le_refl _ | assumption | omega | (simp <;> omega)) _ | refine Below.drew ?_ | refine below_drewN ?_ _))⟩
set_option maxRecDepth 100000 in
set_option maxHeartbeats 8000000 in
theorem rlEditFull_any (tx d : ByteArray) (sf : Nat) (l : List Ed) (A : Option Addr) (m c B : Nat) (w : World) (hr : Rd w B 3 A m (edCells l)) (hB : B ≤ w.heap.size) (hm : m ≤ 9223372036854775807) (ht : TabI w) (hd : d.size ≤ 4000) (hz : edErr tx.size l = 0) (hq : appErr d (recE (S (wrL l))) ≠ 0) :
    Calls Tryz.prog 64 #[.agg #[.string tx, .string d, .int .i64 (sf : Int)], .slice A m c] w fun e w' => e = .returned (.tuple #[.agg #[.string tx, .string d, .int .i64 (sf : Int)], .int .i64 (appErr d (recE (S (wrL l))))]) ∧ Below w.heap.size w w' := by
  have HER := Lib.hid (fun W (hb : Below w.heap.size w W) => editsErr_any (tx.size : Int) l A m c B W (hr.below (hb.mono hB)) (Nat.le_trans hB hb.size) hm)
  have HWR := Lib.hid (fun W (hb : Below w.heap.size w W) => written_any l A m c B W (hr.below (hb.mono hB)) (Nat.le_trans hB hb.size) hm (tabI_stays ht hb) (scr_of_ed hz))
  have HDN := Lib.hid (fun W (hb : Below w.heap.size w W) => edDone_any tx l A m c B W (hr.below (hb.mono hB)) (Nat.le_trans hB hb.size) hz)
  have HAP := Lib.hid (fun W (_ : Below w.heap.size w W) => lgAppendOf_any d (recE (S (wrL l))) sf W hd)
  rw [Hid, hz] at HER
  have HER := Lib.hid HER
  have hs := scr_of_ed hz
  have hwl := wrL_len (scrErr_zero.1 hs).2
  have h20 := (scrErr_zero.1 hs).1
  have hTs : (S (wrL l)).size ≤ 2400 := by rw [S_size]; omega
  clear hs hwl h20 hr hz ht
  generalize S (edDone (L tx) l) = u at *
  generalize S (wrL l) = T at *
  have hDD := appD_err hq
  rw [Hid, hDD] at HAP
  have HAP := Lib.hid HAP
  have g1 : (appErr d (recE T) != 0) = true := by simpa using hq
  clear hDD hq
  generalize appErr d (recE T) = q at *
  obtain ⟨D', hD'⟩ : ∃ D', D' = d := ⟨_, rfl⟩
  rw [Hid] at HAP
  have HAP : Hid (∀ (W : World), Below w.heap.size w W → Calls Tryz.prog 63 #[.agg #[.string d, .int .i64 (sf : Int)], .string (recE T)] W fun e w' => e = .returned (.tuple #[.agg #[.string D', .int .i64 (sf : Int)], .int .i64 q]) ∧ Below W.heap.size W w') := by rw [hD']; exact HAP
  clear hD'
  go_enter Tryz.func64, Tryz.ntmps64
  go_wp2_with fail
  refine (HER.out _ (by repeat (first | exact Below.refl _ _ | assumption | refine Below.alloc ?_ (by first | exact Nat.le_refl _ | assumption | omega | (simp <;> omega)) _ | refine Below.setCell ?_ (by first | exact Nat.le_refl _ | assumption | omega | (simp <;> omega)) _ | refine Below.drew ?_ | refine below_drewN ?_ _))).mono ?_
  rintro e w1 ⟨rfl, hb1⟩
  have P0 := Lib.hid (Blk.below' (Blk.alloc (Blk.new_ w 80 #[.string tx, .string d, .int .i64 (sf : Int)]) (.cells #[.string ⟨#[]⟩, .string ⟨#[]⟩, .int .i64 0] 80)) hb1)
  have P1 := Lib.hid (Blk.below' (Blk.new_ (w.alloc (.cells #[.string tx, .string d, .int .i64 (sf : Int)] 80)) 80 #[.string ⟨#[]⟩, .string ⟨#[]⟩, .int .i64 0]) hb1)
  rw [World.size_alloc] at P1
  have PB : Below w.heap.size w w1 := bthen (by repeat (first | exact Below.refl _ _ | assumption | refine Below.alloc ?_ (by first | exact Nat.le_refl _ | assumption | omega | (simp <;> omega)) _ | refine Below.setCell ?_ (by first | exact Nat.le_refl _ | assumption | omega | (simp <;> omega)) _ | refine Below.drew ?_ | refine below_drewN ?_ _)) hb1
  clear hb1 HER
  have c1 := Blk.cell1 P0.out; have c2 := Blk.cell2 P0.out
  go_wp2_with fail
  obtain ⟨F1, hFd⟩ : ∃ F : World → Prop, F = fun w' => w'.cell? ⟨w.heap.size, 1, none⟩ = some (.string d) ∧ w'.cell? ⟨w.heap.size, 2, none⟩ = some (.int .i64 (sf : Int)) := ⟨_, rfl⟩
  have HF1 := Lib.hid hFd
  clear hFd
  have hcell10 : ∀ p' : Wof F1, p'.w.cell? ⟨w.heap.size, 1, none⟩ = some (.string d) := fun ⟨x, hx⟩ => by rw [HF1.out] at hx; exact hx.1
  have hcell11 : ∀ p' : Wof F1, p'.w.cell? ⟨w.heap.size, 2, none⟩ = some (.int .i64 (sf : Int)) := fun ⟨x, hx⟩ => by rw [HF1.out] at hx; exact hx.2
  refine wp_region_schedT (.op 0 true (.op 1 true (.op 2 true (.fork 3 9 (.op 4 true (.fork 5 9 (.op 6 true (.op 7 true (.op 8 true (.op 9 false (.op 10 false .nil))))) (.op 5 false (.op 6 true (.op 7 true (.op 8 true (.op 10 false .nil))))))) (.op 3 false (.op 4 true (.op 5 false (.op 6 true (.op 7 true (.op 8 true (.op 10 false .nil))))))))))) 11 11 [] F1 (by kernel_rfl) (by kernel_rfl) (by kernel_rfl) rfl (fun _ _ _ _ _ h => h) (by kernel_rfl) (by rw [HF1.out]; first | ((repeat' apply And.intro) <;> assumption) | trivial | (simp; done) | (simp [*]; done)) (by rw [HF1.out]; exact fun h => h) ?_
  intro hne1
  simp only [opersT, opsAt, List.getElem?_toArray, List.getElem?_cons_succ, List.getElem?_cons_zero]
  repeat (first | (refine wpT_free rfl ?_; intro K hK; go_big_quiet_op; go_big_quiet_on) | (refine wpT_wantS _ rfl rfl rfl ?_; intro K hK; go_big_quiet_op; go_big_quiet_on) | (refine wpT_skipS _ rfl rfl rfl rfl ?_; simp only [Act.put, List.setIfInBounds_toArray, List.set_cons_zero, List.set_cons_succ]) | (refine wpT_skipU _ rfl rfl rfl ?_; simp only [Act.put, List.setIfInBounds_toArray, List.set_cons_zero, List.set_cons_succ]))
  clear c1 c2
  refine wpT_fork ?_ ?_
  · skip
    go_wp2_with fail
    refine (HWR.out _ (by first | exact PB | exact PB.drew)).mono ?_
    rintro e w2 ⟨rfl, hbn⟩
    replace P0 := Lib.hid (Blk.below' (w := w1.drew) P0.out hbn)
    replace P1 := Lib.hid (Blk.below' (w := w1.drew) P1.out hbn)
    skip
    replace PB := bthen (w2 := w1.drew) (by first | exact PB | exact PB.drew) hbn
    clear hbn
    go_wp2_with fail
    refine sched_back (by rw [HF1.out]; exact ⟨Blk.cell1 P0.out, Blk.cell2 P0.out⟩) ?_
    repeat (first | (refine wpT_free rfl ?_; intro K hK; go_big_quiet_op; go_big_quiet_on) | (refine wpT_wantS _ rfl rfl rfl ?_; intro K hK; go_big_quiet_op; go_big_quiet_on) | (refine wpT_skipS _ rfl rfl rfl rfl ?_; simp only [Act.put, List.setIfInBounds_toArray, List.set_cons_zero, List.set_cons_succ]) | (refine wpT_skipU _ rfl rfl rfl ?_; simp only [Act.put, List.setIfInBounds_toArray, List.set_cons_zero, List.set_cons_succ]))
    refine wpT_fork ?_ ?_
    · skip
      go_wp2_with fail
      refine (HAP.out _ (by first | exact PB | exact PB.drew)).mono ?_
      rintro e w3 ⟨rfl, hbn⟩
      replace P0 := Lib.hid (Blk.below' (w := w2) P0.out hbn)
      replace P1 := Lib.hid (Blk.below' (w := w2) P1.out hbn)
      skip
      replace PB := bthen (w2 := w2) (by first | exact PB | exact PB.drew) hbn
      clear hbn
      go_wp2_with fail
      refine sched_back (by rw [HF1.out]; exact ⟨Blk.cell1 P0.out, Blk.cell2 P0.out⟩) ?_
      repeat (first | (refine wpT_free rfl ?_; intro K hK; go_big_quiet_op; go_big_quiet_on) | (refine wpT_wantS _ rfl rfl rfl ?_; intro K hK; go_big_quiet_op; go_big_quiet_on) | (refine wpT_skipS _ rfl rfl rfl rfl ?_; simp only [Act.put, List.setIfInBounds_toArray, List.set_cons_zero, List.set_cons_succ]) | (refine wpT_skipU _ rfl rfl rfl ?_; simp only [Act.put, List.setIfInBounds_toArray, List.set_cons_zero, List.set_cons_succ]))
      refine wpT_other ?_
      go_wp2_with fail
      have P2 : Hid (Blk ((w3.alloc (.cells #[.string ⟨#[]⟩, .int .i64 0] 78))) w3.heap.size 78 #[.string ⟨#[]⟩, .int .i64 0]) := Blk.new_ _ _ _
      have hbn : Below w3.heap.size w3 ((w3.alloc (.cells #[.string ⟨#[]⟩, .int .i64 0] 78))) := (by repeat (first | exact Below.refl _ _ | assumption | refine Below.alloc ?_ (by first | exact Nat.le_refl _ | assumption | omega | (simp <;> omega)) _ | refine Below.setCell ?_ (by first | exact Nat.le_refl _ | assumption | omega | (simp <;> omega)) _ | refine Below.drew ?_ | refine below_drewN ?_ _))
      have n0 : w.heap.size < w3.heap.size := P0.out.lt
      have n1 : w.heap.size + 1 < w3.heap.size := P1.out.lt
      replace P0 := Lib.hid (P0.out.below' hbn)
      replace P1 := Lib.hid (P1.out.below' hbn)
      replace PB := bthen PB hbn
      clear hbn
      generalize (w3.alloc (.cells #[.string ⟨#[]⟩, .int .i64 0] 78)) = w4 at *
      generalize w3.heap.size = b2 at *
      refine sched_back (by rw [HF1.out]; exact ⟨Blk.cell1 P0.out, Blk.cell2 P0.out⟩) ?_
      repeat (first | (refine wpT_free rfl ?_; intro K hK; go_big_quiet_op; go_big_quiet_on) | (refine wpT_wantS _ rfl rfl rfl ?_; intro K hK; go_big_quiet_op; go_big_quiet_on) | (refine wpT_skipS _ rfl rfl rfl rfl ?_; simp only [Act.put, List.setIfInBounds_toArray, List.set_cons_zero, List.set_cons_succ]) | (refine wpT_skipU _ rfl rfl rfl ?_; simp only [Act.put, List.setIfInBounds_toArray, List.set_cons_zero, List.set_cons_succ]))
      refine wpT_other ?_
      have f0 := P2.out.frozen 0; have f1 := P2.out.frozen 1
      have e0 := Blk.cell0 P2.out; have e1 := Blk.cell1 P2.out
      go_wp2_with fail
      have n2 : w.heap.size ≠ b2 := by omega
      have n3 : w.heap.size + 1 ≠ b2 := by omega
      have n4 : w.heap.size ≤ b2 := by omega
      have hb5 : Below w.heap.size w ((w4.setCell ⟨b2, 0, none⟩ (.string D')).setCell ⟨b2, 1, none⟩ (.int .i64 (sf : Int))) := (by repeat (first | exact Below.refl _ _ | assumption | refine Below.alloc ?_ (by first | exact Nat.le_refl _ | assumption | omega | (simp <;> omega)) _ | refine Below.setCell ?_ (by first | exact Nat.le_refl _ | assumption | omega | (simp <;> omega)) _ | refine Below.drew ?_ | refine below_drewN ?_ _))
      replace P0 := Lib.hid (Blk.far (Blk.far P0.out (p := ⟨b2, 0, none⟩) n2 (.string D')) (p := ⟨b2, 1, none⟩) n2 (.int .i64 (sf : Int)))
      replace P1 := Lib.hid (Blk.far (Blk.far P1.out (p := ⟨b2, 0, none⟩) n3 (.string D')) (p := ⟨b2, 1, none⟩) n3 (.int .i64 (sf : Int)))
      replace P2 : Hid (Blk ((w4.setCell ⟨b2, 0, none⟩ (.string D')).setCell ⟨b2, 1, none⟩ (.int .i64 (sf : Int))) b2 78 #[.string D', .int .i64 (sf : Int)]) := Blk.set_ (Blk.set_ P2.out 0 _) 1 _
      clear f0 f1 e0 e1 PB
      generalize ((w4.setCell ⟨b2, 0, none⟩ (.string D')).setCell ⟨b2, 1, none⟩ (.int .i64 (sf : Int))) = w9 at *
      refine sched_back (by rw [HF1.out]; exact ⟨Blk.cell1 P0.out, Blk.cell2 P0.out⟩) ?_
      repeat (first | (refine wpT_free rfl ?_; intro K hK; go_big_quiet_op; go_big_quiet_on) | (refine wpT_wantS _ rfl rfl rfl ?_; intro K hK; go_big_quiet_op; go_big_quiet_on) | (refine wpT_skipS _ rfl rfl rfl rfl ?_; simp only [Act.put, List.setIfInBounds_toArray, List.set_cons_zero, List.set_cons_succ]) | (refine wpT_skipU _ rfl rfl rfl ?_; simp only [Act.put, List.setIfInBounds_toArray, List.set_cons_zero, List.set_cons_succ]))
      refine wpT_nil ?_
      refine wpTail_cons ?_
      go_wp2_with fail
      refine tail_back ?_
      refine wpTail_nil ?_
      clear HF1
      have q0 := Blk.cell0 P0.out; have q1 := Blk.cell1 P0.out; have q2 := Blk.cell2 P0.out
      have f0 := P1.out.frozen 0; have f1 := P1.out.frozen 1; have f2 := P1.out.frozen 2
      have d0 := Blk.cell0 P1.out; have d1 := Blk.cell1 P1.out; have d2 := Blk.cell2 P1.out
      go_wp2_with fail
      (apply bodyPost_ret; (simp [results, Tryz.results64, go_sem, d0, d1, d2]; rfl); rfl)
      exact ⟨rfl, (by repeat (first | exact Below.refl _ _ | assumption | refine Below.alloc ?_ (by first | exact Nat.le_refl _ | assumption | omega | (simp <;> omega)) _ | refine Below.setCell ?_ (by first | exact Nat.le_refl _ | assumption | omega | (simp <;> omega)) _ | refine Below.drew ?_ | refine below_drewN ?_ _))⟩
    · skip
      go_wp2_with fail
      have P2 : Hid (Blk ((w2.alloc (.cells #[.string ⟨#[]⟩, .int .i64 0] 78))) w2.heap.size 78 #[.string ⟨#[]⟩, .int .i64 0]) := Blk.new_ _ _ _
      have hbn : Below w2.heap.size w2 ((w2.alloc (.cells #[.string ⟨#[]⟩, .int .i64 0] 78))) := (by repeat (first | exact Below.refl _ _ | assumption | refine Below.alloc ?_ (by first | exact Nat.le_refl _ | assumption | omega | (simp <;> omega)) _ | refine Below.setCell ?_ (by first | exact Nat.le_refl _ | assumption | omega | (simp <;> omega)) _ | refine Below.drew ?_ | refine below_drewN ?_ _))
      have n0 : w.heap.size < w2.heap.size := P0.out.lt
      have n1 : w.heap.size + 1 < w2.heap.size := P1.out.lt
      replace P0 := Lib.hid (P0.out.below' hbn)
      replace P1 := Lib.hid (P1.out.below' hbn)
      replace PB := bthen PB hbn
      clear hbn
      generalize (w2.alloc (.cells #[.string ⟨#[]⟩, .int .i64 0] 78)) = w3 at *
      generalize w2.heap.size = b2 at *
      refine sched_back (by rw [HF1.out]; exact ⟨Blk.cell1 P0.out, Blk.cell2 P0.out⟩) ?_
      repeat (first | (refine wpT_free rfl ?_; intro K hK; go_big_quiet_op; go_big_quiet_on) | (refine wpT_wantS _ rfl rfl rfl ?_; intro K hK; go_big_quiet_op; go_big_quiet_on) | (refine wpT_skipS _ rfl rfl rfl rfl ?_; simp only [Act.put, List.setIfInBounds_toArray, List.set_cons_zero, List.set_cons_succ]) | (refine wpT_skipU _ rfl rfl rfl ?_; simp only [Act.put, List.setIfInBounds_toArray, List.set_cons_zero, List.set_cons_succ]))
      refine wpT_other ?_
      go_wp2_with fail
      refine (HAP.out _ (by first | exact PB | exact PB.drew)).mono ?_
      rintro e w4 ⟨rfl, hbn⟩
      replace P0 := Lib.hid (Blk.below' (w := w3) P0.out hbn)
      replace P1 := Lib.hid (Blk.below' (w := w3) P1.out hbn)
      replace P2 := Lib.hid (Blk.below' P2.out hbn)
      replace PB := bthen (w2 := w3) (by first | exact PB | exact PB.drew) hbn
      clear hbn
      go_wp2_with fail
      refine sched_back (by rw [HF1.out]; exact ⟨Blk.cell1 P0.out, Blk.cell2 P0.out⟩) ?_
      repeat (first | (refine wpT_free rfl ?_; intro K hK; go_big_quiet_op; go_big_quiet_on) | (refine wpT_wantS _ rfl rfl rfl ?_; intro K hK; go_big_quiet_op; go_big_quiet_on) | (refine wpT_skipS _ rfl rfl rfl rfl ?_; simp only [Act.put, List.setIfInBounds_toArray, List.set_cons_zero, List.set_cons_succ]) | (refine wpT_skipU _ rfl rfl rfl ?_; simp only [Act.put, List.setIfInBounds_toArray, List.set_cons_zero, List.set_cons_succ]))
      refine wpT_other ?_
      have f0 := P2.out.frozen 0; have f1 := P2.out.frozen 1
      have e0 := Blk.cell0 P2.out; have e1 := Blk.cell1 P2.out
      go_wp2_with fail
      have n2 : w.heap.size ≠ b2 := by omega
      have n3 : w.heap.size + 1 ≠ b2 := by omega
      have n4 : w.heap.size ≤ b2 := by omega
      have hb5 : Below w.heap.size w ((w4.setCell ⟨b2, 0, none⟩ (.string D')).setCell ⟨b2, 1, none⟩ (.int .i64 (sf : Int))) := (by repeat (first | exact Below.refl _ _ | assumption | refine Below.alloc ?_ (by first | exact Nat.le_refl _ | assumption | omega | (simp <;> omega)) _ | refine Below.setCell ?_ (by first | exact Nat.le_refl _ | assumption | omega | (simp <;> omega)) _ | refine Below.drew ?_ | refine below_drewN ?_ _))
      replace P0 := Lib.hid (Blk.far (Blk.far P0.out (p := ⟨b2, 0, none⟩) n2 (.string D')) (p := ⟨b2, 1, none⟩) n2 (.int .i64 (sf : Int)))
      replace P1 := Lib.hid (Blk.far (Blk.far P1.out (p := ⟨b2, 0, none⟩) n3 (.string D')) (p := ⟨b2, 1, none⟩) n3 (.int .i64 (sf : Int)))
      replace P2 : Hid (Blk ((w4.setCell ⟨b2, 0, none⟩ (.string D')).setCell ⟨b2, 1, none⟩ (.int .i64 (sf : Int))) b2 78 #[.string D', .int .i64 (sf : Int)]) := Blk.set_ (Blk.set_ P2.out 0 _) 1 _
      clear f0 f1 e0 e1 PB
      generalize ((w4.setCell ⟨b2, 0, none⟩ (.string D')).setCell ⟨b2, 1, none⟩ (.int .i64 (sf : Int))) = w9 at *
      refine sched_back (by rw [HF1.out]; exact ⟨Blk.cell1 P0.out, Blk.cell2 P0.out⟩) ?_
      repeat (first | (refine wpT_free rfl ?_; intro K hK; go_big_quiet_op; go_big_quiet_on) | (refine wpT_wantS _ rfl rfl rfl ?_; intro K hK; go_big_quiet_op; go_big_quiet_on) | (refine wpT_skipS _ rfl rfl rfl rfl ?_; simp only [Act.put, List.setIfInBounds_toArray, List.set_cons_zero, List.set_cons_succ]) | (refine wpT_skipU _ rfl rfl rfl ?_; simp only [Act.put, List.setIfInBounds_toArray, List.set_cons_zero, List.set_cons_succ]))
      refine wpT_nil ?_
      refine wpTail_cons ?_
      go_wp2_with fail
      refine tail_back ?_
      refine wpTail_nil ?_
      clear HF1
      have q0 := Blk.cell0 P0.out; have q1 := Blk.cell1 P0.out; have q2 := Blk.cell2 P0.out
      have f0 := P1.out.frozen 0; have f1 := P1.out.frozen 1; have f2 := P1.out.frozen 2
      have d0 := Blk.cell0 P1.out; have d1 := Blk.cell1 P1.out; have d2 := Blk.cell2 P1.out
      go_wp2_with fail
      (apply bodyPost_ret; (simp [results, Tryz.results64, go_sem, d0, d1, d2]; rfl); rfl)
      exact ⟨rfl, (by repeat (first | exact Below.refl _ _ | assumption | refine Below.alloc ?_ (by first | exact Nat.le_refl _ | assumption | omega | (simp <;> omega)) _ | refine Below.setCell ?_ (by first | exact Nat.le_refl _ | assumption | omega | (simp <;> omega)) _ | refine Below.drew ?_ | refine below_drewN ?_ _))⟩
  · skip
    go_wp2_with fail
    have P2 : Hid (Blk (((w1.alloc (.cells #[.string ⟨#[]⟩, .int .i64 0] 78)).drew)) w1.heap.size 78 #[.string ⟨#[]⟩, .int .i64 0]) := Blk.new_ _ _ _
    have hbn : Below w1.heap.size w1 (((w1.alloc (.cells #[.string ⟨#[]⟩, .int .i64 0] 78)).drew)) := (by repeat (first | exact Below.refl _ _ | assumption | refine Below.alloc ?_ (by first | exact Nat.le_refl _ | assumption | omega | (simp <;> omega)) _ | refine Below.setCell ?_ (by first | exact Nat.le_refl _ | assumption | omega | (simp <;> omega)) _ | refine Below.drew ?_ | refine below_drewN ?_ _))
    have n0 : w.heap.size < w1.heap.size := P0.out.lt
    have n1 : w.heap.size + 1 < w1.heap.size := P1.out.lt
    replace P0 := Lib.hid (P0.out.below' hbn)
    replace P1 := Lib.hid (P1.out.below' hbn)
    replace PB := bthen PB hbn
    clear hbn
    generalize ((w1.alloc (.cells #[.string ⟨#[]⟩, .int .i64 0] 78)).drew) = w2 at *
    generalize w1.heap.size = b2 at *
    refine sched_back (by rw [HF1.out]; exact ⟨Blk.cell1 P0.out, Blk.cell2 P0.out⟩) ?_
    repeat (first | (refine wpT_free rfl ?_; intro K hK; go_big_quiet_op; go_big_quiet_on) | (refine wpT_wantS _ rfl rfl rfl ?_; intro K hK; go_big_quiet_op; go_big_quiet_on) | (refine wpT_skipS _ rfl rfl rfl rfl ?_; simp only [Act.put, List.setIfInBounds_toArray, List.set_cons_zero, List.set_cons_succ]) | (refine wpT_skipU _ rfl rfl rfl ?_; simp only [Act.put, List.setIfInBounds_toArray, List.set_cons_zero, List.set_cons_succ]))
    refine wpT_other ?_
    go_wp2_with fail
    refine (HWR.out _ (by first | exact PB | exact PB.drew)).mono ?_
    rintro e w3 ⟨rfl, hbn⟩
    replace P0 := Lib.hid (Blk.below' (w := w2) P0.out hbn)
    replace P1 := Lib.hid (Blk.below' (w := w2) P1.out hbn)
    replace P2 := Lib.hid (Blk.below' P2.out hbn)
    replace PB := bthen (w2 := w2) (by first | exact PB | exact PB.drew) hbn
    clear hbn
    go_wp2_with fail
    refine sched_back (by rw [HF1.out]; exact ⟨Blk.cell1 P0.out, Blk.cell2 P0.out⟩) ?_
    repeat (first | (refine wpT_free rfl ?_; intro K hK; go_big_quiet_op; go_big_quiet_on) | (refine wpT_wantS _ rfl rfl rfl ?_; intro K hK; go_big_quiet_op; go_big_quiet_on) | (refine wpT_skipS _ rfl rfl rfl rfl ?_; simp only [Act.put, List.setIfInBounds_toArray, List.set_cons_zero, List.set_cons_succ]) | (refine wpT_skipU _ rfl rfl rfl ?_; simp only [Act.put, List.setIfInBounds_toArray, List.set_cons_zero, List.set_cons_succ]))
    refine wpT_other ?_
    go_wp2_with fail
    refine (HAP.out _ (by first | exact PB | exact PB.drew)).mono ?_
    rintro e w4 ⟨rfl, hbn⟩
    replace P0 := Lib.hid (Blk.below' (w := w3) P0.out hbn)
    replace P1 := Lib.hid (Blk.below' (w := w3) P1.out hbn)
    replace P2 := Lib.hid (Blk.below' P2.out hbn)
    replace PB := bthen (w2 := w3) (by first | exact PB | exact PB.drew) hbn
    clear hbn
    go_wp2_with fail
    refine sched_back (by rw [HF1.out]; exact ⟨Blk.cell1 P0.out, Blk.cell2 P0.out⟩) ?_
    repeat (first | (refine wpT_free rfl ?_; intro K hK; go_big_quiet_op; go_big_quiet_on) | (refine wpT_wantS _ rfl rfl rfl ?_; intro K hK; go_big_quiet_op; go_big_quiet_on) | (refine wpT_skipS _ rfl rfl rfl rfl ?_; simp only [Act.put, List.setIfInBounds_toArray, List.set_cons_zero, List.set_cons_succ]) | (refine wpT_skipU _ rfl rfl rfl ?_; simp only [Act.put, List.setIfInBounds_toArray, List.set_cons_zero, List.set_cons_succ]))
    refine wpT_other ?_
    have f0 := P2.out.frozen 0; have f1 := P2.out.frozen 1
    have e0 := Blk.cell0 P2.out; have e1 := Blk.cell1 P2.out
    go_wp2_with fail
    have n2 : w.heap.size ≠ b2 := by omega
    have n3 : w.heap.size + 1 ≠ b2 := by omega
    have n4 : w.heap.size ≤ b2 := by omega
    have hb5 : Below w.heap.size w ((w4.setCell ⟨b2, 0, none⟩ (.string D')).setCell ⟨b2, 1, none⟩ (.int .i64 (sf : Int))) := (by repeat (first | exact Below.refl _ _ | assumption | refine Below.alloc ?_ (by first | exact Nat.le_refl _ | assumption | omega | (simp <;> omega)) _ | refine Below.setCell ?_ (by first | exact Nat.le_refl _ | assumption | omega | (simp <;> omega)) _ | refine Below.drew ?_ | refine below_drewN ?_ _))
    replace P0 := Lib.hid (Blk.far (Blk.far P0.out (p := ⟨b2, 0, none⟩) n2 (.string D')) (p := ⟨b2, 1, none⟩) n2 (.int .i64 (sf : Int)))
    replace P1 := Lib.hid (Blk.far (Blk.far P1.out (p := ⟨b2, 0, none⟩) n3 (.string D')) (p := ⟨b2, 1, none⟩) n3 (.int .i64 (sf : Int)))
    replace P2 : Hid (Blk ((w4.setCell ⟨b2, 0, none⟩ (.string D')).setCell ⟨b2, 1, none⟩ (.int .i64 (sf : Int))) b2 78 #[.string D', .int .i64 (sf : Int)]) := Blk.set_ (Blk.set_ P2.out 0 _) 1 _
    clear f0 f1 e0 e1 PB
    generalize ((w4.setCell ⟨b2, 0, none⟩ (.string D')).setCell ⟨b2, 1, none⟩ (.int .i64 (sf : Int))) = w9 at *
    refine sched_back (by rw [HF1.out]; exact ⟨Blk.cell1 P0.out, Blk.cell2 P0.out⟩) ?_
    repeat (first | (refine wpT_free rfl ?_; intro K hK; go_big_quiet_op; go_big_quiet_on) | (refine wpT_wantS _ rfl rfl rfl ?_; intro K hK; go_big_quiet_op; go_big_quiet_on) | (refine wpT_skipS _ rfl rfl rfl rfl ?_; simp only [Act.put, List.setIfInBounds_toArray, List.set_cons_zero, List.set_cons_succ]) | (refine wpT_skipU _ rfl rfl rfl ?_; simp only [Act.put, List.setIfInBounds_toArray, List.set_cons_zero, List.set_cons_succ]))
    refine wpT_nil ?_
    refine wpTail_cons ?_
    go_wp2_with fail
    refine tail_back ?_
    refine wpTail_nil ?_
    clear HF1
    have q0 := Blk.cell0 P0.out; have q1 := Blk.cell1 P0.out; have q2 := Blk.cell2 P0.out
    have f0 := P1.out.frozen 0; have f1 := P1.out.frozen 1; have f2 := P1.out.frozen 2
    have d0 := Blk.cell0 P1.out; have d1 := Blk.cell1 P1.out; have d2 := Blk.cell2 P1.out
    go_wp2_with fail
    (apply bodyPost_ret; (simp [results, Tryz.results64, go_sem, d0, d1, d2]; rfl); rfl)
    exact ⟨rfl, (by repeat (first | exact Below.refl _ _ | assumption | refine Below.alloc ?_ (by first | exact Nat.le_refl _ | assumption | omega | (simp <;> omega)) _ | refine Below.setCell ?_ (by first | exact Nat.le_refl _ | assumption | omega | (simp <;> omega)) _ | refine Below.drew ?_ | refine below_drewN ?_ _))⟩
set_option maxRecDepth 100000 in
set_option maxHeartbeats 8000000 in
theorem rlEditOk_any (tx d : ByteArray) (sf : Nat) (l : List Ed) (A : Option Addr) (m c B : Nat) (w : World) (hr : Rd w B 3 A m (edCells l)) (hB : B ≤ w.heap.size) (hm : m ≤ 9223372036854775807) (ht : TabI w) (hd : d.size ≤ 4000) (hz : edErr tx.size l = 0) (hq : appErr d (recE (S (wrL l))) = 0) :
    Calls Tryz.prog 64 #[.agg #[.string tx, .string d, .int .i64 (sf : Int)], .slice A m c] w fun e w' => e = .returned (.tuple #[.agg #[.string (S (edDone (L tx) l)), .string (appD d (recE (S (wrL l)))), .int .i64 (sf : Int)], .int .i64 0]) ∧ Below w.heap.size w w' := by
  have HER := Lib.hid (fun W (hb : Below w.heap.size w W) => editsErr_any (tx.size : Int) l A m c B W (hr.below (hb.mono hB)) (Nat.le_trans hB hb.size) hm)
  have HWR := Lib.hid (fun W (hb : Below w.heap.size w W) => written_any l A m c B W (hr.below (hb.mono hB)) (Nat.le_trans hB hb.size) hm (tabI_stays ht hb) (scr_of_ed hz))
  have HDN := Lib.hid (fun W (hb : Below w.heap.size w W) => edDone_any tx l A m c B W (hr.below (hb.mono hB)) (Nat.le_trans hB hb.size) hz)
  have HAP := Lib.hid (fun W (_ : Below w.heap.size w W) => lgAppendOf_any d (recE (S (wrL l))) sf W hd)
  rw [Hid, hz] at HER
  have HER := Lib.hid HER
  have hs := scr_of_ed hz
  have hwl := wrL_len (scrErr_zero.1 hs).2
  have h20 := (scrErr_zero.1 hs).1
  have hTs : (S (wrL l)).size ≤ 2400 := by rw [S_size]; omega
  clear hs hwl h20 hr hz ht
  generalize S (edDone (L tx) l) = u at *
  generalize S (wrL l) = T at *
  rw [Hid, hq] at HAP
  have HAP := Lib.hid HAP
  clear hq
  generalize appD d (recE T) = D' at *
  go_enter Tryz.func64, Tryz.ntmps64
  go_wp2_with fail
  refine (HER.out _ (by repeat (first | exact Below.refl _ _ | assumption | refine Below.alloc ?_ (by first | exact Nat.le_refl _ | assumption | omega | (simp <;> omega)) _ | refine Below.setCell ?_ (by first | exact Nat.le_refl _ | assumption | omega | (simp <;> omega)) _ | refine Below.drew ?_ | refine below_drewN ?_ _))).mono ?_
  rintro e w1 ⟨rfl, hb1⟩
  have P0 := Lib.hid (Blk.below' (Blk.alloc (Blk.new_ w 80 #[.string tx, .string d, .int .i64 (sf : Int)]) (.cells #[.string ⟨#[]⟩, .string ⟨#[]⟩, .int .i64 0] 80)) hb1)
  have P1 := Lib.hid (Blk.below' (Blk.new_ (w.alloc (.cells #[.string tx, .string d, .int .i64 (sf : Int)] 80)) 80 #[.string ⟨#[]⟩, .string ⟨#[]⟩, .int .i64 0]) hb1)
  rw [World.size_alloc] at P1
  have PB : Below w.heap.size w w1 := bthen (by repeat (first | exact Below.refl _ _ | assumption | refine Below.alloc ?_ (by first | exact Nat.le_refl _ | assumption | omega | (simp <;> omega)) _ | refine Below.setCell ?_ (by first | exact Nat.le_refl _ | assumption | omega | (simp <;> omega)) _ | refine Below.drew ?_ | refine below_drewN ?_ _)) hb1
  clear hb1 HER
  have c1 := Blk.cell1 P0.out; have c2 := Blk.cell2 P0.out
  go_wp2_with fail
  obtain ⟨F1, hFd⟩ : ∃ F : World → Prop, F = fun w' => w'.cell? ⟨w.heap.size, 1, none⟩ = some (.string d) ∧ w'.cell? ⟨w.heap.size, 2, none⟩ = some (.int .i64 (sf : Int)) := ⟨_, rfl⟩
  have HF1 := Lib.hid hFd
  clear hFd
  have hcell10 : ∀ p' : Wof F1, p'.w.cell? ⟨w.heap.size, 1, none⟩ = some (.string d) := fun ⟨x, hx⟩ => by rw [HF1.out] at hx; exact hx.1
  have hcell11 : ∀ p' : Wof F1, p'.w.cell? ⟨w.heap.size, 2, none⟩ = some (.int .i64 (sf : Int)) := fun ⟨x, hx⟩ => by rw [HF1.out] at hx; exact hx.2
  refine wp_region_schedT (.op 0 true (.op 1 true (.op 2 true (.fork 3 9 (.op 4 true (.fork 5 9 (.op 6 true (.op 7 true (.op 8 true (.op 9 false (.op 10 false .nil))))) (.op 5 false (.op 6 true (.op 7 true (.op 8 true (.op 10 false .nil))))))) (.op 3 false (.op 4 true (.op 5 false (.op 6 true (.op 7 true (.op 8 true (.op 10 false .nil))))))))))) 11 11 [] F1 (by kernel_rfl) (by kernel_rfl) (by kernel_rfl) rfl (fun _ _ _ _ _ h => h) (by kernel_rfl) (by rw [HF1.out]; first | ((repeat' apply And.intro) <;> assumption) | trivial | (simp; done) | (simp [*]; done)) (by rw [HF1.out]; exact fun h => h) ?_
  intro hne1
  simp only [opersT, opsAt, List.getElem?_toArray, List.getElem?_cons_succ, List.getElem?_cons_zero]
  repeat (first | (refine wpT_free rfl ?_; intro K hK; go_big_quiet_op; go_big_quiet_on) | (refine wpT_wantS _ rfl rfl rfl ?_; intro K hK; go_big_quiet_op; go_big_quiet_on) | (refine wpT_skipS _ rfl rfl rfl rfl ?_; simp only [Act.put, List.setIfInBounds_toArray, List.set_cons_zero, List.set_cons_succ]) | (refine wpT_skipU _ rfl rfl rfl ?_; simp only [Act.put, List.setIfInBounds_toArray, List.set_cons_zero, List.set_cons_succ]))
  clear c1 c2
  refine wpT_fork ?_ ?_
  · skip
    go_wp2_with fail
    refine (HWR.out _ (by first | exact PB | exact PB.drew)).mono ?_
    rintro e w2 ⟨rfl, hbn⟩
    replace P0 := Lib.hid (Blk.below' (w := w1.drew) P0.out hbn)
    replace P1 := Lib.hid (Blk.below' (w := w1.drew) P1.out hbn)
    skip
    replace PB := bthen (w2 := w1.drew) (by first | exact PB | exact PB.drew) hbn
    clear hbn
    go_wp2_with fail
    refine sched_back (by rw [HF1.out]; exact ⟨Blk.cell1 P0.out, Blk.cell2 P0.out⟩) ?_
    repeat (first | (refine wpT_free rfl ?_; intro K hK; go_big_quiet_op; go_big_quiet_on) | (refine wpT_wantS _ rfl rfl rfl ?_; intro K hK; go_big_quiet_op; go_big_quiet_on) | (refine wpT_skipS _ rfl rfl rfl rfl ?_; simp only [Act.put, List.setIfInBounds_toArray, List.set_cons_zero, List.set_cons_succ]) | (refine wpT_skipU _ rfl rfl rfl ?_; simp only [Act.put, List.setIfInBounds_toArray, List.set_cons_zero, List.set_cons_succ]))
    refine wpT_fork ?_ ?_
    · skip
      go_wp2_with fail
      refine (HAP.out _ (by first | exact PB | exact PB.drew)).mono ?_
      rintro e w3 ⟨rfl, hbn⟩
      replace P0 := Lib.hid (Blk.below' (w := w2) P0.out hbn)
      replace P1 := Lib.hid (Blk.below' (w := w2) P1.out hbn)
      skip
      replace PB := bthen (w2 := w2) (by first | exact PB | exact PB.drew) hbn
      clear hbn
      go_wp2_with fail
      refine sched_back (by rw [HF1.out]; exact ⟨Blk.cell1 P0.out, Blk.cell2 P0.out⟩) ?_
      repeat (first | (refine wpT_free rfl ?_; intro K hK; go_big_quiet_op; go_big_quiet_on) | (refine wpT_wantS _ rfl rfl rfl ?_; intro K hK; go_big_quiet_op; go_big_quiet_on) | (refine wpT_skipS _ rfl rfl rfl rfl ?_; simp only [Act.put, List.setIfInBounds_toArray, List.set_cons_zero, List.set_cons_succ]) | (refine wpT_skipU _ rfl rfl rfl ?_; simp only [Act.put, List.setIfInBounds_toArray, List.set_cons_zero, List.set_cons_succ]))
      refine wpT_other ?_
      go_wp2_with fail
      have P2 : Hid (Blk ((w3.alloc (.cells #[.string ⟨#[]⟩, .int .i64 0] 78))) w3.heap.size 78 #[.string ⟨#[]⟩, .int .i64 0]) := Blk.new_ _ _ _
      have hbn : Below w3.heap.size w3 ((w3.alloc (.cells #[.string ⟨#[]⟩, .int .i64 0] 78))) := (by repeat (first | exact Below.refl _ _ | assumption | refine Below.alloc ?_ (by first | exact Nat.le_refl _ | assumption | omega | (simp <;> omega)) _ | refine Below.setCell ?_ (by first | exact Nat.le_refl _ | assumption | omega | (simp <;> omega)) _ | refine Below.drew ?_ | refine below_drewN ?_ _))
      have n0 : w.heap.size < w3.heap.size := P0.out.lt
      have n1 : w.heap.size + 1 < w3.heap.size := P1.out.lt
      replace P0 := Lib.hid (P0.out.below' hbn)
      replace P1 := Lib.hid (P1.out.below' hbn)
      replace PB := bthen PB hbn
      clear hbn
      generalize (w3.alloc (.cells #[.string ⟨#[]⟩, .int .i64 0] 78)) = w4 at *
      generalize w3.heap.size = b2 at *
      refine sched_back (by rw [HF1.out]; exact ⟨Blk.cell1 P0.out, Blk.cell2 P0.out⟩) ?_
      repeat (first | (refine wpT_free rfl ?_; intro K hK; go_big_quiet_op; go_big_quiet_on) | (refine wpT_wantS _ rfl rfl rfl ?_; intro K hK; go_big_quiet_op; go_big_quiet_on) | (refine wpT_skipS _ rfl rfl rfl rfl ?_; simp only [Act.put, List.setIfInBounds_toArray, List.set_cons_zero, List.set_cons_succ]) | (refine wpT_skipU _ rfl rfl rfl ?_; simp only [Act.put, List.setIfInBounds_toArray, List.set_cons_zero, List.set_cons_succ]))
      refine wpT_other ?_
      have f0 := P2.out.frozen 0; have f1 := P2.out.frozen 1
      have e0 := Blk.cell0 P2.out; have e1 := Blk.cell1 P2.out
      go_wp2_with fail
      have n2 : w.heap.size ≠ b2 := by omega
      have n3 : w.heap.size + 1 ≠ b2 := by omega
      have n4 : w.heap.size ≤ b2 := by omega
      have hb5 : Below w.heap.size w ((w4.setCell ⟨b2, 0, none⟩ (.string D')).setCell ⟨b2, 1, none⟩ (.int .i64 (sf : Int))) := (by repeat (first | exact Below.refl _ _ | assumption | refine Below.alloc ?_ (by first | exact Nat.le_refl _ | assumption | omega | (simp <;> omega)) _ | refine Below.setCell ?_ (by first | exact Nat.le_refl _ | assumption | omega | (simp <;> omega)) _ | refine Below.drew ?_ | refine below_drewN ?_ _))
      replace P0 := Lib.hid (Blk.far (Blk.far P0.out (p := ⟨b2, 0, none⟩) n2 (.string D')) (p := ⟨b2, 1, none⟩) n2 (.int .i64 (sf : Int)))
      replace P1 := Lib.hid (Blk.far (Blk.far P1.out (p := ⟨b2, 0, none⟩) n3 (.string D')) (p := ⟨b2, 1, none⟩) n3 (.int .i64 (sf : Int)))
      replace P2 : Hid (Blk ((w4.setCell ⟨b2, 0, none⟩ (.string D')).setCell ⟨b2, 1, none⟩ (.int .i64 (sf : Int))) b2 78 #[.string D', .int .i64 (sf : Int)]) := Blk.set_ (Blk.set_ P2.out 0 _) 1 _
      replace PB := hb5
      clear f0 f1 e0 e1 hb5
      generalize ((w4.setCell ⟨b2, 0, none⟩ (.string D')).setCell ⟨b2, 1, none⟩ (.int .i64 (sf : Int))) = w9 at *
      refine sched_back (by rw [HF1.out]; exact ⟨Blk.cell1 P0.out, Blk.cell2 P0.out⟩) ?_
      repeat (first | (refine wpT_free rfl ?_; intro K hK; go_big_quiet_op; go_big_quiet_on) | (refine wpT_wantS _ rfl rfl rfl ?_; intro K hK; go_big_quiet_op; go_big_quiet_on) | (refine wpT_skipS _ rfl rfl rfl rfl ?_; simp only [Act.put, List.setIfInBounds_toArray, List.set_cons_zero, List.set_cons_succ]) | (refine wpT_skipU _ rfl rfl rfl ?_; simp only [Act.put, List.setIfInBounds_toArray, List.set_cons_zero, List.set_cons_succ]))
      refine wpT_nil ?_
      refine wpTail_cons ?_
      go_wp2_with fail
      refine tail_back ?_
      refine wpTail_nil ?_
      clear HF1
      have q0 := Blk.cell0 P0.out
      have e0 := Blk.cell0 P2.out; have e1 := Blk.cell1 P2.out
      go_wp2_with fail
      obtain ⟨F2, hFd⟩ : ∃ F : World → Prop, F = fun w' => w'.cell? ⟨w.heap.size, 0, none⟩ = some (.string tx) ∧ w'.cell? ⟨b2, 0, none⟩ = some (.string D') ∧ w'.cell? ⟨b2, 1, none⟩ = some (.int .i64 (sf : Int)) := ⟨_, rfl⟩
      have HF2 := Lib.hid hFd
      clear hFd
      have hcell20 : ∀ p' : Wof F2, p'.w.cell? ⟨w.heap.size, 0, none⟩ = some (.string tx) := fun ⟨x, hx⟩ => by rw [HF2.out] at hx; exact hx.1
      have hcell21 : ∀ p' : Wof F2, p'.w.cell? ⟨b2, 0, none⟩ = some (.string D') := fun ⟨x, hx⟩ => by rw [HF2.out] at hx; exact hx.2.1
      have hcell22 : ∀ p' : Wof F2, p'.w.cell? ⟨b2, 1, none⟩ = some (.int .i64 (sf : Int)) := fun ⟨x, hx⟩ => by rw [HF2.out] at hx; exact hx.2.2
      refine wp_region_schedF [(0, true), (1, true), (2, true), (4, true), (3, false), (5, true), (6, false), (7, true)] F2 (by kernel_rfl) (by kernel_rfl) rfl (fun _ _ _ _ _ h => h) (by kernel_rfl) (by rw [HF2.out]; first | ((repeat' apply And.intro) <;> assumption) | trivial | (simp; done) | (simp [*]; done)) (by rw [HF2.out]; exact fun h => h) ?_
      intro hne2
      simp only [opersOf, List.getElem?_toArray, List.getElem?_cons_succ, List.getElem?_cons_zero]
      repeat (first | (refine wpSched_free rfl ?_; intro K hK; go_big_quiet_op; go_big_quiet_on) | (refine wpSched_wantS _ rfl rfl rfl ?_; intro K hK; go_big_quiet_op; go_big_quiet_on) | (refine wpSched_skipS _ rfl rfl rfl rfl ?_; simp only [Act.put, List.setIfInBounds_toArray, List.set_cons_zero, List.set_cons_succ]) | (refine wpSched_skipU _ rfl rfl rfl ?_; simp only [Act.put, List.setIfInBounds_toArray, List.set_cons_zero, List.set_cons_succ]))
      refine wpSched_other ?_
      go_wp2_with fail
      refine (HDN.out _ (by first | exact PB | exact PB.drew)).mono ?_
      rintro e w10 ⟨rfl, hb10⟩
      replace P0 := Lib.hid (Blk.below' (w := w9.drew) P0.out hb10)
      replace P1 := Lib.hid (Blk.below' (w := w9.drew) P1.out hb10)
      replace P2 := Lib.hid (Blk.below' (w := w9.drew) P2.out hb10)
      replace PB := bthen PB.drew hb10
      clear hb10 q0 e0 e1
      have q0 := Blk.cell0 P0.out
      have e0 := Blk.cell0 P2.out; have e1 := Blk.cell1 P2.out
      have f0 := P1.out.frozen 0; have f1 := P1.out.frozen 1; have f2 := P1.out.frozen 2
      have d0 := Blk.cell0 P1.out; have d1 := Blk.cell1 P1.out; have d2 := Blk.cell2 P1.out
      have m0 : w.heap.size ≠ w.heap.size + 1 := by omega
      have m1 : b2 ≠ w.heap.size + 1 := by omega
      go_wp2_with fail
      refine sched_back (by rw [HF2.out]; exact ⟨q0, e0, e1⟩) ?_
      repeat (first | (refine wpSched_free rfl ?_; intro K hK; go_big_quiet_op; go_big_quiet_on) | (refine wpSched_wantS _ rfl rfl rfl ?_; intro K hK; go_big_quiet_op; go_big_quiet_on) | (refine wpSched_skipS _ rfl rfl rfl rfl ?_; simp only [Act.put, List.setIfInBounds_toArray, List.set_cons_zero, List.set_cons_succ]) | (refine wpSched_skipU _ rfl rfl rfl ?_; simp only [Act.put, List.setIfInBounds_toArray, List.set_cons_zero, List.set_cons_succ]))
      refine wpSched_other ?_
      go_wp2_with fail
      refine sched_back (by rw [HF2.out]; exact ⟨Blk.cell0 (Blk.far (Blk.far (Blk.far P0.out (p := ⟨w.heap.size + 1, 0, none⟩) m0 _) (p := ⟨w.heap.size + 1, 1, none⟩) m0 _) (p := ⟨w.heap.size + 1, 2, none⟩) m0 _), Blk.cell0 (Blk.far (Blk.far (Blk.far P2.out (p := ⟨w.heap.size + 1, 0, none⟩) m1 _) (p := ⟨w.heap.size + 1, 1, none⟩) m1 _) (p := ⟨w.heap.size + 1, 2, none⟩) m1 _), Blk.cell1 (Blk.far (Blk.far (Blk.far P2.out (p := ⟨w.heap.size + 1, 0, none⟩) m1 _) (p := ⟨w.heap.size + 1, 1, none⟩) m1 _) (p := ⟨w.heap.size + 1, 2, none⟩) m1 _)⟩) ?_
      repeat (first | (refine wpSched_free rfl ?_; intro K hK; go_big_quiet_op; go_big_quiet_on) | (refine wpSched_wantS _ rfl rfl rfl ?_; intro K hK; go_big_quiet_op; go_big_quiet_on) | (refine wpSched_skipS _ rfl rfl rfl rfl ?_; simp only [Act.put, List.setIfInBounds_toArray, List.set_cons_zero, List.set_cons_succ]) | (refine wpSched_skipU _ rfl rfl rfl ?_; simp only [Act.put, List.setIfInBounds_toArray, List.set_cons_zero, List.set_cons_succ]))
      refine wpSched_nil ?_
      go_wp2_with fail
      (apply bodyPost_ret; (simp [results, Tryz.results64, go_sem, d0, d1, d2]; rfl); rfl)
      exact ⟨rfl, (by repeat (first | exact Below.refl _ _ | assumption | refine Below.alloc ?_ (by first | exact Nat.le_refl _ | assumption | omega | (simp <;> omega)) _ | refine Below.setCell ?_ (by first | exact Nat.le_refl _ | assumption | omega | (simp <;> omega)) _ | refine Below.drew ?_ | refine below_drewN ?_ _))⟩
    · skip
      go_wp2_with fail
      have P2 : Hid (Blk ((w2.alloc (.cells #[.string ⟨#[]⟩, .int .i64 0] 78))) w2.heap.size 78 #[.string ⟨#[]⟩, .int .i64 0]) := Blk.new_ _ _ _
      have hbn : Below w2.heap.size w2 ((w2.alloc (.cells #[.string ⟨#[]⟩, .int .i64 0] 78))) := (by repeat (first | exact Below.refl _ _ | assumption | refine Below.alloc ?_ (by first | exact Nat.le_refl _ | assumption | omega | (simp <;> omega)) _ | refine Below.setCell ?_ (by first | exact Nat.le_refl _ | assumption | omega | (simp <;> omega)) _ | refine Below.drew ?_ | refine below_drewN ?_ _))
      have n0 : w.heap.size < w2.heap.size := P0.out.lt
      have n1 : w.heap.size + 1 < w2.heap.size := P1.out.lt
      replace P0 := Lib.hid (P0.out.below' hbn)
      replace P1 := Lib.hid (P1.out.below' hbn)
      replace PB := bthen PB hbn
      clear hbn
      generalize (w2.alloc (.cells #[.string ⟨#[]⟩, .int .i64 0] 78)) = w3 at *
      generalize w2.heap.size = b2 at *
      refine sched_back (by rw [HF1.out]; exact ⟨Blk.cell1 P0.out, Blk.cell2 P0.out⟩) ?_
      repeat (first | (refine wpT_free rfl ?_; intro K hK; go_big_quiet_op; go_big_quiet_on) | (refine wpT_wantS _ rfl rfl rfl ?_; intro K hK; go_big_quiet_op; go_big_quiet_on) | (refine wpT_skipS _ rfl rfl rfl rfl ?_; simp only [Act.put, List.setIfInBounds_toArray, List.set_cons_zero, List.set_cons_succ]) | (refine wpT_skipU _ rfl rfl rfl ?_; simp only [Act.put, List.setIfInBounds_toArray, List.set_cons_zero, List.set_cons_succ]))
      refine wpT_other ?_
      go_wp2_with fail
      refine (HAP.out _ (by first | exact PB | exact PB.drew)).mono ?_
      rintro e w4 ⟨rfl, hbn⟩
      replace P0 := Lib.hid (Blk.below' (w := w3) P0.out hbn)
      replace P1 := Lib.hid (Blk.below' (w := w3) P1.out hbn)
      replace P2 := Lib.hid (Blk.below' P2.out hbn)
      replace PB := bthen (w2 := w3) (by first | exact PB | exact PB.drew) hbn
      clear hbn
      go_wp2_with fail
      refine sched_back (by rw [HF1.out]; exact ⟨Blk.cell1 P0.out, Blk.cell2 P0.out⟩) ?_
      repeat (first | (refine wpT_free rfl ?_; intro K hK; go_big_quiet_op; go_big_quiet_on) | (refine wpT_wantS _ rfl rfl rfl ?_; intro K hK; go_big_quiet_op; go_big_quiet_on) | (refine wpT_skipS _ rfl rfl rfl rfl ?_; simp only [Act.put, List.setIfInBounds_toArray, List.set_cons_zero, List.set_cons_succ]) | (refine wpT_skipU _ rfl rfl rfl ?_; simp only [Act.put, List.setIfInBounds_toArray, List.set_cons_zero, List.set_cons_succ]))
      refine wpT_other ?_
      have f0 := P2.out.frozen 0; have f1 := P2.out.frozen 1
      have e0 := Blk.cell0 P2.out; have e1 := Blk.cell1 P2.out
      go_wp2_with fail
      have n2 : w.heap.size ≠ b2 := by omega
      have n3 : w.heap.size + 1 ≠ b2 := by omega
      have n4 : w.heap.size ≤ b2 := by omega
      have hb5 : Below w.heap.size w ((w4.setCell ⟨b2, 0, none⟩ (.string D')).setCell ⟨b2, 1, none⟩ (.int .i64 (sf : Int))) := (by repeat (first | exact Below.refl _ _ | assumption | refine Below.alloc ?_ (by first | exact Nat.le_refl _ | assumption | omega | (simp <;> omega)) _ | refine Below.setCell ?_ (by first | exact Nat.le_refl _ | assumption | omega | (simp <;> omega)) _ | refine Below.drew ?_ | refine below_drewN ?_ _))
      replace P0 := Lib.hid (Blk.far (Blk.far P0.out (p := ⟨b2, 0, none⟩) n2 (.string D')) (p := ⟨b2, 1, none⟩) n2 (.int .i64 (sf : Int)))
      replace P1 := Lib.hid (Blk.far (Blk.far P1.out (p := ⟨b2, 0, none⟩) n3 (.string D')) (p := ⟨b2, 1, none⟩) n3 (.int .i64 (sf : Int)))
      replace P2 : Hid (Blk ((w4.setCell ⟨b2, 0, none⟩ (.string D')).setCell ⟨b2, 1, none⟩ (.int .i64 (sf : Int))) b2 78 #[.string D', .int .i64 (sf : Int)]) := Blk.set_ (Blk.set_ P2.out 0 _) 1 _
      replace PB := hb5
      clear f0 f1 e0 e1 hb5
      generalize ((w4.setCell ⟨b2, 0, none⟩ (.string D')).setCell ⟨b2, 1, none⟩ (.int .i64 (sf : Int))) = w9 at *
      refine sched_back (by rw [HF1.out]; exact ⟨Blk.cell1 P0.out, Blk.cell2 P0.out⟩) ?_
      repeat (first | (refine wpT_free rfl ?_; intro K hK; go_big_quiet_op; go_big_quiet_on) | (refine wpT_wantS _ rfl rfl rfl ?_; intro K hK; go_big_quiet_op; go_big_quiet_on) | (refine wpT_skipS _ rfl rfl rfl rfl ?_; simp only [Act.put, List.setIfInBounds_toArray, List.set_cons_zero, List.set_cons_succ]) | (refine wpT_skipU _ rfl rfl rfl ?_; simp only [Act.put, List.setIfInBounds_toArray, List.set_cons_zero, List.set_cons_succ]))
      refine wpT_nil ?_
      refine wpTail_cons ?_
      go_wp2_with fail
      refine tail_back ?_
      refine wpTail_nil ?_
      clear HF1
      have q0 := Blk.cell0 P0.out
      have e0 := Blk.cell0 P2.out; have e1 := Blk.cell1 P2.out
      go_wp2_with fail
      obtain ⟨F2, hFd⟩ : ∃ F : World → Prop, F = fun w' => w'.cell? ⟨w.heap.size, 0, none⟩ = some (.string tx) ∧ w'.cell? ⟨b2, 0, none⟩ = some (.string D') ∧ w'.cell? ⟨b2, 1, none⟩ = some (.int .i64 (sf : Int)) := ⟨_, rfl⟩
      have HF2 := Lib.hid hFd
      clear hFd
      have hcell20 : ∀ p' : Wof F2, p'.w.cell? ⟨w.heap.size, 0, none⟩ = some (.string tx) := fun ⟨x, hx⟩ => by rw [HF2.out] at hx; exact hx.1
      have hcell21 : ∀ p' : Wof F2, p'.w.cell? ⟨b2, 0, none⟩ = some (.string D') := fun ⟨x, hx⟩ => by rw [HF2.out] at hx; exact hx.2.1
      have hcell22 : ∀ p' : Wof F2, p'.w.cell? ⟨b2, 1, none⟩ = some (.int .i64 (sf : Int)) := fun ⟨x, hx⟩ => by rw [HF2.out] at hx; exact hx.2.2
      refine wp_region_schedF [(0, true), (1, true), (2, true), (4, true), (3, false), (5, true), (6, false), (7, true)] F2 (by kernel_rfl) (by kernel_rfl) rfl (fun _ _ _ _ _ h => h) (by kernel_rfl) (by rw [HF2.out]; first | ((repeat' apply And.intro) <;> assumption) | trivial | (simp; done) | (simp [*]; done)) (by rw [HF2.out]; exact fun h => h) ?_
      intro hne2
      simp only [opersOf, List.getElem?_toArray, List.getElem?_cons_succ, List.getElem?_cons_zero]
      repeat (first | (refine wpSched_free rfl ?_; intro K hK; go_big_quiet_op; go_big_quiet_on) | (refine wpSched_wantS _ rfl rfl rfl ?_; intro K hK; go_big_quiet_op; go_big_quiet_on) | (refine wpSched_skipS _ rfl rfl rfl rfl ?_; simp only [Act.put, List.setIfInBounds_toArray, List.set_cons_zero, List.set_cons_succ]) | (refine wpSched_skipU _ rfl rfl rfl ?_; simp only [Act.put, List.setIfInBounds_toArray, List.set_cons_zero, List.set_cons_succ]))
      refine wpSched_other ?_
      go_wp2_with fail
      refine (HDN.out _ (by first | exact PB | exact PB.drew)).mono ?_
      rintro e w10 ⟨rfl, hb10⟩
      replace P0 := Lib.hid (Blk.below' (w := w9.drew) P0.out hb10)
      replace P1 := Lib.hid (Blk.below' (w := w9.drew) P1.out hb10)
      replace P2 := Lib.hid (Blk.below' (w := w9.drew) P2.out hb10)
      replace PB := bthen PB.drew hb10
      clear hb10 q0 e0 e1
      have q0 := Blk.cell0 P0.out
      have e0 := Blk.cell0 P2.out; have e1 := Blk.cell1 P2.out
      have f0 := P1.out.frozen 0; have f1 := P1.out.frozen 1; have f2 := P1.out.frozen 2
      have d0 := Blk.cell0 P1.out; have d1 := Blk.cell1 P1.out; have d2 := Blk.cell2 P1.out
      have m0 : w.heap.size ≠ w.heap.size + 1 := by omega
      have m1 : b2 ≠ w.heap.size + 1 := by omega
      go_wp2_with fail
      refine sched_back (by rw [HF2.out]; exact ⟨q0, e0, e1⟩) ?_
      repeat (first | (refine wpSched_free rfl ?_; intro K hK; go_big_quiet_op; go_big_quiet_on) | (refine wpSched_wantS _ rfl rfl rfl ?_; intro K hK; go_big_quiet_op; go_big_quiet_on) | (refine wpSched_skipS _ rfl rfl rfl rfl ?_; simp only [Act.put, List.setIfInBounds_toArray, List.set_cons_zero, List.set_cons_succ]) | (refine wpSched_skipU _ rfl rfl rfl ?_; simp only [Act.put, List.setIfInBounds_toArray, List.set_cons_zero, List.set_cons_succ]))
      refine wpSched_other ?_
      go_wp2_with fail
      refine sched_back (by rw [HF2.out]; exact ⟨Blk.cell0 (Blk.far (Blk.far (Blk.far P0.out (p := ⟨w.heap.size + 1, 0, none⟩) m0 _) (p := ⟨w.heap.size + 1, 1, none⟩) m0 _) (p := ⟨w.heap.size + 1, 2, none⟩) m0 _), Blk.cell0 (Blk.far (Blk.far (Blk.far P2.out (p := ⟨w.heap.size + 1, 0, none⟩) m1 _) (p := ⟨w.heap.size + 1, 1, none⟩) m1 _) (p := ⟨w.heap.size + 1, 2, none⟩) m1 _), Blk.cell1 (Blk.far (Blk.far (Blk.far P2.out (p := ⟨w.heap.size + 1, 0, none⟩) m1 _) (p := ⟨w.heap.size + 1, 1, none⟩) m1 _) (p := ⟨w.heap.size + 1, 2, none⟩) m1 _)⟩) ?_
      repeat (first | (refine wpSched_free rfl ?_; intro K hK; go_big_quiet_op; go_big_quiet_on) | (refine wpSched_wantS _ rfl rfl rfl ?_; intro K hK; go_big_quiet_op; go_big_quiet_on) | (refine wpSched_skipS _ rfl rfl rfl rfl ?_; simp only [Act.put, List.setIfInBounds_toArray, List.set_cons_zero, List.set_cons_succ]) | (refine wpSched_skipU _ rfl rfl rfl ?_; simp only [Act.put, List.setIfInBounds_toArray, List.set_cons_zero, List.set_cons_succ]))
      refine wpSched_nil ?_
      go_wp2_with fail
      (apply bodyPost_ret; (simp [results, Tryz.results64, go_sem, d0, d1, d2]; rfl); rfl)
      exact ⟨rfl, (by repeat (first | exact Below.refl _ _ | assumption | refine Below.alloc ?_ (by first | exact Nat.le_refl _ | assumption | omega | (simp <;> omega)) _ | refine Below.setCell ?_ (by first | exact Nat.le_refl _ | assumption | omega | (simp <;> omega)) _ | refine Below.drew ?_ | refine below_drewN ?_ _))⟩
  · skip
    go_wp2_with fail
    have P2 : Hid (Blk (((w1.alloc (.cells #[.string ⟨#[]⟩, .int .i64 0] 78)).drew)) w1.heap.size 78 #[.string ⟨#[]⟩, .int .i64 0]) := Blk.new_ _ _ _
    have hbn : Below w1.heap.size w1 (((w1.alloc (.cells #[.string ⟨#[]⟩, .int .i64 0] 78)).drew)) := (by repeat (first | exact Below.refl _ _ | assumption | refine Below.alloc ?_ (by first | exact Nat.le_refl _ | assumption | omega | (simp <;> omega)) _ | refine Below.setCell ?_ (by first | exact Nat.le_refl _ | assumption | omega | (simp <;> omega)) _ | refine Below.drew ?_ | refine below_drewN ?_ _))
    have n0 : w.heap.size < w1.heap.size := P0.out.lt
    have n1 : w.heap.size + 1 < w1.heap.size := P1.out.lt
    replace P0 := Lib.hid (P0.out.below' hbn)
    replace P1 := Lib.hid (P1.out.below' hbn)
    replace PB := bthen PB hbn
    clear hbn
    generalize ((w1.alloc (.cells #[.string ⟨#[]⟩, .int .i64 0] 78)).drew) = w2 at *
    generalize w1.heap.size = b2 at *
    refine sched_back (by rw [HF1.out]; exact ⟨Blk.cell1 P0.out, Blk.cell2 P0.out⟩) ?_
    repeat (first | (refine wpT_free rfl ?_; intro K hK; go_big_quiet_op; go_big_quiet_on) | (refine wpT_wantS _ rfl rfl rfl ?_; intro K hK; go_big_quiet_op; go_big_quiet_on) | (refine wpT_skipS _ rfl rfl rfl rfl ?_; simp only [Act.put, List.setIfInBounds_toArray, List.set_cons_zero, List.set_cons_succ]) | (refine wpT_skipU _ rfl rfl rfl ?_; simp only [Act.put, List.setIfInBounds_toArray, List.set_cons_zero, List.set_cons_succ]))
    refine wpT_other ?_
    go_wp2_with fail
    refine (HWR.out _ (by first | exact PB | exact PB.drew)).mono ?_
    rintro e w3 ⟨rfl, hbn⟩
    replace P0 := Lib.hid (Blk.below' (w := w2) P0.out hbn)
    replace P1 := Lib.hid (Blk.below' (w := w2) P1.out hbn)
    replace P2 := Lib.hid (Blk.below' P2.out hbn)
    replace PB := bthen (w2 := w2) (by first | exact PB | exact PB.drew) hbn
    clear hbn
    go_wp2_with fail
    refine sched_back (by rw [HF1.out]; exact ⟨Blk.cell1 P0.out, Blk.cell2 P0.out⟩) ?_
    repeat (first | (refine wpT_free rfl ?_; intro K hK; go_big_quiet_op; go_big_quiet_on) | (refine wpT_wantS _ rfl rfl rfl ?_; intro K hK; go_big_quiet_op; go_big_quiet_on) | (refine wpT_skipS _ rfl rfl rfl rfl ?_; simp only [Act.put, List.setIfInBounds_toArray, List.set_cons_zero, List.set_cons_succ]) | (refine wpT_skipU _ rfl rfl rfl ?_; simp only [Act.put, List.setIfInBounds_toArray, List.set_cons_zero, List.set_cons_succ]))
    refine wpT_other ?_
    go_wp2_with fail
    refine (HAP.out _ (by first | exact PB | exact PB.drew)).mono ?_
    rintro e w4 ⟨rfl, hbn⟩
    replace P0 := Lib.hid (Blk.below' (w := w3) P0.out hbn)
    replace P1 := Lib.hid (Blk.below' (w := w3) P1.out hbn)
    replace P2 := Lib.hid (Blk.below' P2.out hbn)
    replace PB := bthen (w2 := w3) (by first | exact PB | exact PB.drew) hbn
    clear hbn
    go_wp2_with fail
    refine sched_back (by rw [HF1.out]; exact ⟨Blk.cell1 P0.out, Blk.cell2 P0.out⟩) ?_
    repeat (first | (refine wpT_free rfl ?_; intro K hK; go_big_quiet_op; go_big_quiet_on) | (refine wpT_wantS _ rfl rfl rfl ?_; intro K hK; go_big_quiet_op; go_big_quiet_on) | (refine wpT_skipS _ rfl rfl rfl rfl ?_; simp only [Act.put, List.setIfInBounds_toArray, List.set_cons_zero, List.set_cons_succ]) | (refine wpT_skipU _ rfl rfl rfl ?_; simp only [Act.put, List.setIfInBounds_toArray, List.set_cons_zero, List.set_cons_succ]))
    refine wpT_other ?_
    have f0 := P2.out.frozen 0; have f1 := P2.out.frozen 1
    have e0 := Blk.cell0 P2.out; have e1 := Blk.cell1 P2.out
    go_wp2_with fail
    have n2 : w.heap.size ≠ b2 := by omega
    have n3 : w.heap.size + 1 ≠ b2 := by omega
    have n4 : w.heap.size ≤ b2 := by omega
    have hb5 : Below w.heap.size w ((w4.setCell ⟨b2, 0, none⟩ (.string D')).setCell ⟨b2, 1, none⟩ (.int .i64 (sf : Int))) := (by repeat (first | exact Below.refl _ _ | assumption | refine Below.alloc ?_ (by first | exact Nat.le_refl _ | assumption | omega | (simp <;> omega)) _ | refine Below.setCell ?_ (by first | exact Nat.le_refl _ | assumption | omega | (simp <;> omega)) _ | refine Below.drew ?_ | refine below_drewN ?_ _))
    replace P0 := Lib.hid (Blk.far (Blk.far P0.out (p := ⟨b2, 0, none⟩) n2 (.string D')) (p := ⟨b2, 1, none⟩) n2 (.int .i64 (sf : Int)))
    replace P1 := Lib.hid (Blk.far (Blk.far P1.out (p := ⟨b2, 0, none⟩) n3 (.string D')) (p := ⟨b2, 1, none⟩) n3 (.int .i64 (sf : Int)))
    replace P2 : Hid (Blk ((w4.setCell ⟨b2, 0, none⟩ (.string D')).setCell ⟨b2, 1, none⟩ (.int .i64 (sf : Int))) b2 78 #[.string D', .int .i64 (sf : Int)]) := Blk.set_ (Blk.set_ P2.out 0 _) 1 _
    replace PB := hb5
    clear f0 f1 e0 e1 hb5
    generalize ((w4.setCell ⟨b2, 0, none⟩ (.string D')).setCell ⟨b2, 1, none⟩ (.int .i64 (sf : Int))) = w9 at *
    refine sched_back (by rw [HF1.out]; exact ⟨Blk.cell1 P0.out, Blk.cell2 P0.out⟩) ?_
    repeat (first | (refine wpT_free rfl ?_; intro K hK; go_big_quiet_op; go_big_quiet_on) | (refine wpT_wantS _ rfl rfl rfl ?_; intro K hK; go_big_quiet_op; go_big_quiet_on) | (refine wpT_skipS _ rfl rfl rfl rfl ?_; simp only [Act.put, List.setIfInBounds_toArray, List.set_cons_zero, List.set_cons_succ]) | (refine wpT_skipU _ rfl rfl rfl ?_; simp only [Act.put, List.setIfInBounds_toArray, List.set_cons_zero, List.set_cons_succ]))
    refine wpT_nil ?_
    refine wpTail_cons ?_
    go_wp2_with fail
    refine tail_back ?_
    refine wpTail_nil ?_
    clear HF1
    have q0 := Blk.cell0 P0.out
    have e0 := Blk.cell0 P2.out; have e1 := Blk.cell1 P2.out
    go_wp2_with fail
    obtain ⟨F2, hFd⟩ : ∃ F : World → Prop, F = fun w' => w'.cell? ⟨w.heap.size, 0, none⟩ = some (.string tx) ∧ w'.cell? ⟨b2, 0, none⟩ = some (.string D') ∧ w'.cell? ⟨b2, 1, none⟩ = some (.int .i64 (sf : Int)) := ⟨_, rfl⟩
    have HF2 := Lib.hid hFd
    clear hFd
    have hcell20 : ∀ p' : Wof F2, p'.w.cell? ⟨w.heap.size, 0, none⟩ = some (.string tx) := fun ⟨x, hx⟩ => by rw [HF2.out] at hx; exact hx.1
    have hcell21 : ∀ p' : Wof F2, p'.w.cell? ⟨b2, 0, none⟩ = some (.string D') := fun ⟨x, hx⟩ => by rw [HF2.out] at hx; exact hx.2.1
    have hcell22 : ∀ p' : Wof F2, p'.w.cell? ⟨b2, 1, none⟩ = some (.int .i64 (sf : Int)) := fun ⟨x, hx⟩ => by rw [HF2.out] at hx; exact hx.2.2
    refine wp_region_schedF [(0, true), (1, true), (2, true), (4, true), (3, false), (5, true), (6, false), (7, true)] F2 (by kernel_rfl) (by kernel_rfl) rfl (fun _ _ _ _ _ h => h) (by kernel_rfl) (by rw [HF2.out]; first | ((repeat' apply And.intro) <;> assumption) | trivial | (simp; done) | (simp [*]; done)) (by rw [HF2.out]; exact fun h => h) ?_
    intro hne2
    simp only [opersOf, List.getElem?_toArray, List.getElem?_cons_succ, List.getElem?_cons_zero]
    repeat (first | (refine wpSched_free rfl ?_; intro K hK; go_big_quiet_op; go_big_quiet_on) | (refine wpSched_wantS _ rfl rfl rfl ?_; intro K hK; go_big_quiet_op; go_big_quiet_on) | (refine wpSched_skipS _ rfl rfl rfl rfl ?_; simp only [Act.put, List.setIfInBounds_toArray, List.set_cons_zero, List.set_cons_succ]) | (refine wpSched_skipU _ rfl rfl rfl ?_; simp only [Act.put, List.setIfInBounds_toArray, List.set_cons_zero, List.set_cons_succ]))
    refine wpSched_other ?_
    go_wp2_with fail
    refine (HDN.out _ (by first | exact PB | exact PB.drew)).mono ?_
    rintro e w10 ⟨rfl, hb10⟩
    replace P0 := Lib.hid (Blk.below' (w := w9.drew) P0.out hb10)
    replace P1 := Lib.hid (Blk.below' (w := w9.drew) P1.out hb10)
    replace P2 := Lib.hid (Blk.below' (w := w9.drew) P2.out hb10)
    replace PB := bthen PB.drew hb10
    clear hb10 q0 e0 e1
    have q0 := Blk.cell0 P0.out
    have e0 := Blk.cell0 P2.out; have e1 := Blk.cell1 P2.out
    have f0 := P1.out.frozen 0; have f1 := P1.out.frozen 1; have f2 := P1.out.frozen 2
    have d0 := Blk.cell0 P1.out; have d1 := Blk.cell1 P1.out; have d2 := Blk.cell2 P1.out
    have m0 : w.heap.size ≠ w.heap.size + 1 := by omega
    have m1 : b2 ≠ w.heap.size + 1 := by omega
    go_wp2_with fail
    refine sched_back (by rw [HF2.out]; exact ⟨q0, e0, e1⟩) ?_
    repeat (first | (refine wpSched_free rfl ?_; intro K hK; go_big_quiet_op; go_big_quiet_on) | (refine wpSched_wantS _ rfl rfl rfl ?_; intro K hK; go_big_quiet_op; go_big_quiet_on) | (refine wpSched_skipS _ rfl rfl rfl rfl ?_; simp only [Act.put, List.setIfInBounds_toArray, List.set_cons_zero, List.set_cons_succ]) | (refine wpSched_skipU _ rfl rfl rfl ?_; simp only [Act.put, List.setIfInBounds_toArray, List.set_cons_zero, List.set_cons_succ]))
    refine wpSched_other ?_
    go_wp2_with fail
    refine sched_back (by rw [HF2.out]; exact ⟨Blk.cell0 (Blk.far (Blk.far (Blk.far P0.out (p := ⟨w.heap.size + 1, 0, none⟩) m0 _) (p := ⟨w.heap.size + 1, 1, none⟩) m0 _) (p := ⟨w.heap.size + 1, 2, none⟩) m0 _), Blk.cell0 (Blk.far (Blk.far (Blk.far P2.out (p := ⟨w.heap.size + 1, 0, none⟩) m1 _) (p := ⟨w.heap.size + 1, 1, none⟩) m1 _) (p := ⟨w.heap.size + 1, 2, none⟩) m1 _), Blk.cell1 (Blk.far (Blk.far (Blk.far P2.out (p := ⟨w.heap.size + 1, 0, none⟩) m1 _) (p := ⟨w.heap.size + 1, 1, none⟩) m1 _) (p := ⟨w.heap.size + 1, 2, none⟩) m1 _)⟩) ?_
    repeat (first | (refine wpSched_free rfl ?_; intro K hK; go_big_quiet_op; go_big_quiet_on) | (refine wpSched_wantS _ rfl rfl rfl ?_; intro K hK; go_big_quiet_op; go_big_quiet_on) | (refine wpSched_skipS _ rfl rfl rfl rfl ?_; simp only [Act.put, List.setIfInBounds_toArray, List.set_cons_zero, List.set_cons_succ]) | (refine wpSched_skipU _ rfl rfl rfl ?_; simp only [Act.put, List.setIfInBounds_toArray, List.set_cons_zero, List.set_cons_succ]))
    refine wpSched_nil ?_
    go_wp2_with fail
    (apply bodyPost_ret; (simp [results, Tryz.results64, go_sem, d0, d1, d2]; rfl); rfl)
    exact ⟨rfl, (by repeat (first | exact Below.refl _ _ | assumption | refine Below.alloc ?_ (by first | exact Nat.le_refl _ | assumption | omega | (simp <;> omega)) _ | refine Below.setCell ?_ (by first | exact Nat.le_refl _ | assumption | omega | (simp <;> omega)) _ | refine Below.drew ?_ | refine below_drewN ?_ _))⟩
/-- LeafEdit of the reference, whole. -/
theorem rlEdit_any (tx d : ByteArray) (sf : Nat) (l : List Ed) (A : Option Addr) (m c B : Nat) (w : World) (hr : Rd w B 3 A m (edCells l)) (hB : B ≤ w.heap.size) (hm : m ≤ 9223372036854775807) (ht : TabI w) (hd : d.size ≤ 4000) :
    Calls Tryz.prog 64 #[.agg #[.string tx, .string d, .int .i64 (sf : Int)], .slice A m c] w fun e w' => e = .returned (.tuple #[.agg #[.string (lfT tx d l), .string (lfD tx d l), .int .i64 (sf : Int)], .int .i64 (lfE tx d l)]) ∧ Below w.heap.size w w' := by
  by_cases hz : edErr tx.size l = 0
  · by_cases hq : appErr d (recE (S (wrL l))) = 0
    · have e0 : lfE tx d l = 0 := by unfold lfE; rw [if_pos hz, hq]
      have e1 : lfT tx d l = S (edDone (L tx) l) := by unfold lfT; rw [if_pos e0]
      have e2 : lfD tx d l = appD d (recE (S (wrL l))) := by unfold lfD; rw [if_pos e0]
      rw [e0, e1, e2]
      exact rlEditOk_any tx d sf l A m c B w hr hB hm ht hd hz hq
    · have e0 : lfE tx d l = appErr d (recE (S (wrL l))) := by unfold lfE; rw [if_pos hz]
      have e1 : lfT tx d l = tx := by unfold lfT; rw [e0, if_neg hq]
      have e2 : lfD tx d l = d := by unfold lfD; rw [e0, if_neg hq]
      rw [e0, e1, e2]
      exact rlEditFull_any tx d sf l A m c B w hr hB hm ht hd hz hq
  · have e0 : lfE tx d l = edErr tx.size l := by unfold lfE; rw [if_neg hz]
    have e1 : lfT tx d l = tx := by unfold lfT; rw [e0, if_neg hz]
    have e2 : lfD tx d l = d := by unfold lfD; rw [e0, if_neg hz]
    rw [e0, e1, e2]
    exact rlEditBad_any tx d sf l A m c B w hr hB hm hz
end Go.Proofs.YtplgghjdidmcfaaGreatDoor
namespace Go.Proofs.YtplgghjdidmcfaaGreatDoor
open Go.RowKit
theorem fin_own {w8 : World} {K : Nat → Prop} {B g1 g2 : Nat} {A9 : Option Addr} {n9 c9 : Nat} {xs : List Value} (h : OwnO w8 B 9 1 (.slice A9 n9 c9) n9 xs) (hK : ∀ k, K k → k < B) (h1 : g1 < B) (h2 : g2 < B) {u4 v4 v5 a0 a1 a2 a3 a4 a5 : Value} :
    RdK (((((((((w8.setCell ⟨g1, 4, none⟩ u4).setCell ⟨g1, 4, none⟩ v4).setCell ⟨g1, 5, none⟩ v5).setCell ⟨g2, 0, none⟩ a0).setCell ⟨g2, 1, none⟩ a1).setCell ⟨g2, 2, none⟩ a2).setCell ⟨g2, 3, none⟩ a3).setCell ⟨g2, 4, none⟩ a4).setCell ⟨g2, 5, none⟩ a5) K 1 A9 n9 xs := by
  obtain ⟨A, c, hv, _, _, ho⟩ := RdK.own (own6 (a0 := a0) (a1 := a1) (a2 := a2) (a3 := a3) (a4 := a4) (a5 := a5) (own1H (i := 5) (a := v5) (own1H (i := 4) (a := v4) (own1H (i := 4) (a := u4) h h1) h1) h1) h2) hK
  cases hv
  exact ho
set_option maxRecDepth 100000 in
theorem cut_ownW {w8 : World} {B nb N k c8 : Nat} {a8 : Addr} {rb : List (List UInt8)} {rtx : ByteArray} (h : OwnO w8 B 9 1 (.slice (some a8) N c8) N (strCells rb ++ [.string rtx])) (hN : nb + 1 = N) (hnb : rb.length = nb) (hk : k ≤ N) :
    ∃ A9, (∀ W, (Instr.sliceAt 25 (.slice (some a8) N c8) (some (.int .i64 (k : Int))) none none).run Tryz.prog W = .ok (.slice A9 (N - k) (c8 - k)) W) ∧
      OwnO w8 B 9 1 (.slice A9 ((rb ++ [L rtx]).drop k).length (c8 - k)) ((rb ++ [L rtx]).drop k).length (strCells ((rb ++ [L rtx]).drop k)) ∧ ((rb ++ [L rtx]).drop k).length = N - k := by
  have hl : ((rb ++ [L rtx]).drop k).length = N - k := by
    rw [List.length_drop, List.length_append, hnb, List.length_singleton, hN]
  have e : strCells (rb ++ [L rtx]) = strCells rb ++ [.string rtx] := by unfold strCells; rw [List.map_append]; rfl
  refine ⟨_, fun W => run_behindH (size := 1) Tryz.underlying25 (by kernel_rfl) (some a8) N c8 k hk W, ?_, hl⟩
  rw [hl, ← strCells_drop, e]
  have h2 := h.behind (some a8) c8 k rfl hk (by simp)
  rw [Nat.mul_one] at h2 ⊢
  exact h2
set_option maxRecDepth 100000 in
set_option maxHeartbeats 8000000 in
theorem refPg2 (r : Rc) (x : Dd) (K : Nat → Prop) (w : World) (hf : RfOk w K r x) (hkk : x.kind = 2) : Calls Tryz.prog 37 #[r.val, x.val, .func (.func 10) #[] #[]] w (PgAns w K r x) := by
  obtain ⟨i0, hi0, hz0, hz1, hz2⟩ := info_parts info_st
  have hq := pg2 (s := r.s) hkk
  obtain ⟨hr, hK, hok, hre, hxm, htb, ⟨mx, hmx⟩, hmg⟩ := hf
  have HR := Lib.hid hr
  have HOK := Lib.hid hok
  have HRE : Hid (∀ W, Below w.heap.size w W → Rd W w.heap.size 3 x.A x.m (edCells x.l)) := fun W hW => hre.below hW
  have HTB : Hid (∀ W, Below w.heap.size w W → TabI W) := fun W hW => tabI_stays htb hW
  have HMX : Hid (∀ W, Below w.heap.size w W → W.cell? ⟨0, 0, none⟩ = some (.int .i64 mx)) := fun W hb => (hb.cell (p := ⟨0, 0, none⟩) hmg).trans hmx
  have HKK := Lib.hid hK
  have HP3 := Lib.hid (p3_new w r.arr x)
  have hbA : Below w.heap.size w (((w.alloc (.cells r.arr 82)).alloc (.cells x.cells 32)).alloc (.cells zPage 82)) := (by repeat (first | exact Below.refl _ _ | assumption | refine Below.alloc ?_ (by first | exact Nat.le_refl _ | assumption | omega | (simp <;> omega)) _ | refine Below.setCell ?_ (by first | exact Nat.le_refl _ | assumption | omega | (simp <;> omega)) _ | refine Below.drew ?_ | refine below_drewN ?_ _))
  have HBA := Lib.hid hbA
  unfold PgAns
  obtain ⟨wA, hwA⟩ : ∃ wA, wA = (((w.alloc (.cells r.arr 82)).alloc (.cells x.cells 32)).alloc (.cells zPage 82)) := ⟨_, rfl⟩
  rw [← hwA] at HP3 HBA
  have HWA := Lib.hid hwA
  clear hwA
  clear hr hK hok hre htb hmx hbA
  rw [hq.1, hq.2]
  clear hq
  have hn30 : r.s.back.length + r.s.onward.length ≤ 30 := HOK.out.es.n
  by_cases hm0 : x.m = 0
  · have hl0 : x.l.length = 0 := by have := Rd.rec_len ed_len (by omega) (HRE.out w (Below.refl _ _)); omega
    have HE : Hid (edPE r.s x.l = 5) := by unfold Hid edPE; rw [if_pos hl0]
    have HPP : Hid (edP r.s x.l = r.s) := by unfold Hid edP; rw [if_neg (by rw [HE.out]; decide)]
    rw [HE.out, HPP.out]
    clear hl0
    obtain ⟨xk, xn, xnm, xt, xA, xm, xc, xl⟩ := x
    obtain ⟨⟨rn, rtx, rd, rsf, rb, ro⟩, rAb, rcb, rAo, rco⟩ := r
    unfold Dd.val Rc.val
    unfold Rc.arr Dd.cells at HWA
    unfold Rc.arr at HP3
    simp only at *
    subst hkk
    obtain ⟨nb, hnb⟩ : ∃ nb, rb.length = nb := ⟨_, rfl⟩
    obtain ⟨no, hno⟩ : ∃ no, ro.length = no := ⟨_, rfl⟩
    rw [hnb, hno] at HP3 HWA ⊢
    have HNB := Lib.hid hnb
    have HNO := Lib.hid hno
    clear hnb hno
    subst hm0
    go_enter Tryz.func37, Tryz.ntmps37
    go_wp2_with fail
    (apply bodyPost_ret; (simp [results, Tryz.results37, go_sem]; rfl); rfl)
    refine ⟨⟨⟨rn, rtx, rd, rsf, rb, ro⟩, rAb, rcb, rAo, rco⟩, ?_, rfl, fin_rc (by repeat (first | exact Below.refl _ _ | assumption | refine Below.alloc ?_ (by first | exact Nat.le_refl _ | assumption | omega | (simp <;> omega)) _ | refine Below.setCell ?_ (by first | exact Nat.le_refl _ | assumption | omega | (simp <;> omega)) _ | refine Below.drew ?_ | refine below_drewN ?_ _)) (fun W hW => HR.out.below hW)⟩
    rw [HNB.out, HNO.out]
  · obtain ⟨xk, xn, xnm, xt, xA, xm, xc, xl⟩ := x
    obtain ⟨⟨rn, rtx, rd, rsf, rb, ro⟩, rAb, rcb, rAo, rco⟩ := r
    unfold Dd.val Rc.val
    unfold Rc.arr Dd.cells at HWA
    unfold Rc.arr at HP3
    simp only at *
    subst hkk
    obtain ⟨nb, hnb⟩ : ∃ nb, rb.length = nb := ⟨_, rfl⟩
    obtain ⟨no, hno⟩ : ∃ no, ro.length = no := ⟨_, rfl⟩
    rw [hnb, hno] at HP3 HWA ⊢
    have HNB := Lib.hid hnb
    have HNO := Lib.hid hno
    clear hnb hno
    rw [HNB.out, HNO.out] at hn30
    have g0 : ((xm : Int) == 0) = false := by rw [beq_eq_false_iff_ne]; omega
    have g0' : (xm == 0) = false := by rw [beq_eq_false_iff_ne]; exact hm0
    have HFS : Hid (∀ {s : Ps}, edP ⟨rn, rtx, rd, rsf, rb, ro⟩ xl = s → s = edP ⟨rn, rtx, rd, rsf, rb, ro⟩ xl) := fun h => h.symm
    obtain ⟨EX, hEX⟩ : ∃ EX, EX = edPE ⟨rn, rtx, rd, rsf, rb, ro⟩ xl := ⟨_, rfl⟩
    rw [← hEX]
    have HFE := Lib.hid hEX
    clear hEX
    have hrb := HR.out.b
    simp only at hrb
    rw [HNB.out] at hrb
    have HRBK : Hid (∀ W, Below w.heap.size w W → Rd W w.heap.size 1 rAb nb (strCells rb)) := fun W hW => hrb.rd.below hW
    have HEE : Hid (Rd wA wA.heap.size 3 xA xm (edCells xl)) := (HRE.out wA HBA.out).more HBA.out.size
    have HEM := Lib.hid hxm
    have HBE := HBA
    have HPQ := HP3
    clear hrb
    go_enter Tryz.func37, Tryz.ntmps37
    go_wp2_with fail
    rw [← HWA.out]
    have HLE := Lib.hid (rlEdit_any rtx rd rsf xl xA xm xc wA.heap.size wA (HEE.out) (Nat.le_refl _) HEM.out (HTB.out wA HBE.out) HOK.out.lf.size)
    have hlen := Rd.rec_len ed_len (by omega) HEE.out
    by_cases hz : lfE rtx rd xl = 0
    · have HZ := Lib.hid hz
      have HPP : Hid (edP ⟨rn, rtx, rd, rsf, rb, ro⟩ xl = ⟨rn, lfT rtx rd xl, lfD rtx rd xl, rsf, (rb ++ [L rtx]).drop (nb + 1 - 30), []⟩) := by
        unfold Hid edP
        rw [if_pos (by unfold edPE; rw [if_neg (by omega)]; exact hz)]
        show (⟨rn, lfT rtx rd xl, lfD rtx rd xl, rsf, (rb ++ [L rtx]).drop (rb.length + 1 - 30), []⟩ : Ps) = _
        rw [HNB.out]
      have HPE5 : Hid (edPE ⟨rn, rtx, rd, rsf, rb, ro⟩ xl = 0) := by unfold Hid edPE; rw [if_neg (by omega)]; exact hz
      rw [hz] at HLE
      clear hz hlen
      generalize lfT rtx rd xl = tx' at *
      generalize lfD rtx rd xl = d' at *
      refine HLE.out.mono ?_
      rintro e w5 ⟨rfl, hb5⟩
      have HB5 := Lib.hid (HBE.out.trans (hb5.mono HBE.out.size))
      have HP5 := Lib.hid (HPQ.out.below hb5)
      have HB6 : Hid (Below w.heap.size w (((w5.setCell ⟨w.heap.size, 1, none⟩ (.string tx')).setCell ⟨w.heap.size, 2, none⟩ (.string d')).setCell ⟨w.heap.size, 3, none⟩ (.int .i64 (rsf : Int)))) := bel3 HB5.out
      have HP6 : Hid (P3 (((w5.setCell ⟨w.heap.size, 1, none⟩ (.string tx')).setCell ⟨w.heap.size, 2, none⟩ (.string d')).setCell ⟨w.heap.size, 3, none⟩ (.int .i64 (rsf : Int))) w.heap.size #[.string rn, .string tx', .string d', .int .i64 (rsf : Int), .slice rAb nb rcb, .slice rAo no rco] ⟨2, xn, xnm, xt, xA, xm, xc, xl⟩) := ((HP5.out.set_ 1 _).set_ 2 _).set_ 3 _
      have HCL := Lib.hid (cloneStr_all rAb nb rcb w.heap.size rb _ (HRBK.out _ HB6.out) HB6.out.size (by omega))
      have HP := HP5
      clear hb5 HLE HP5 HPQ
      have e0 := HP.out.p.cell 0; have e1 := HP.out.p.cell 1; have e2 := HP.out.p.cell 2; have e3 := HP.out.p.cell 3; have e4 := HP.out.p.cell 4; have e5 := HP.out.p.cell 5
      have ef0 := HP.out.p.frozen 0; have ef1 := HP.out.p.frozen 1; have ef2 := HP.out.p.frozen 2; have ef3 := HP.out.p.frozen 3; have ef4 := HP.out.p.frozen 4; have ef5 := HP.out.p.frozen 5
      have d1 : w5.cell? ⟨w.heap.size + 1, 1, none⟩ = some (.int .i64 xn) := HP.out.d.cell 1
      have d3 : w5.cell? ⟨w.heap.size + 1, 3, none⟩ = some (.string xt) := HP.out.d.cell 3
      have d4 : w5.cell? ⟨w.heap.size + 1, 4, none⟩ = some (.slice xA xm xc) := HP.out.d.cell 4
      have z0 : w5.cell? ⟨w.heap.size + 1 + 1, 0, none⟩ = some (.string ⟨#[]⟩) := HP.out.z.cell 0
      have z1 : w5.cell? ⟨w.heap.size + 1 + 1, 1, none⟩ = some (.string ⟨#[]⟩) := HP.out.z.cell 1
      have z2 : w5.cell? ⟨w.heap.size + 1 + 1, 2, none⟩ = some (.string ⟨#[]⟩) := HP.out.z.cell 2
      have z3 : w5.cell? ⟨w.heap.size + 1 + 1, 3, none⟩ = some (.int .i64 0) := HP.out.z.cell 3
      have z4 : w5.cell? ⟨w.heap.size + 1 + 1, 4, none⟩ = some (.slice none 0 0) := HP.out.z.cell 4
      have z5 : w5.cell? ⟨w.heap.size + 1 + 1, 5, none⟩ = some (.slice none 0 0) := HP.out.z.cell 5
      have zf0 := HP.out.z.frozen 0; have zf1 := HP.out.z.frozen 1; have zf2 := HP.out.z.frozen 2; have zf3 := HP.out.z.frozen 3; have zf4 := HP.out.z.frozen 4; have zf5 := HP.out.z.frozen 5
      go_wp2_with fail
      clear e0 e1 e2 e3 e4 e5 ef0 ef1 ef2 ef3 ef4 ef5 d1 d3 d4 z0 z1 z2 z3 z4 z5 zf0 zf1 zf2 zf3 zf4 zf5
      generalize (((w5.setCell ⟨w.heap.size, 1, none⟩ (.string tx')).setCell ⟨w.heap.size, 2, none⟩ (.string d')).setCell ⟨w.heap.size, 3, none⟩ (.int .i64 (rsf : Int))) = w6 at *
      refine HCL.out.mono ?_
      rintro e w7 ⟨v7, rfl, hown7, hb7⟩
      have hs67 := hb7.size
      have hs6 := HB6.out.size
      have hg26 : w.heap.size + 1 + 1 < w6.heap.size := HP6.out.z.lt
      have hnew := cell_one_new w7 (.string rtx) 9
      have hownA := hown7.alloc (.cells #[.string rtx] 9)
      have HG6 : Hid (∀ k, K k → k < w6.heap.size) := fun k hk => Nat.lt_of_lt_of_le (HKK.out k hk) hs6
      have HB67 : Hid (Below w6.heap.size w6 (w7.alloc (.cells #[.string rtx] 9))) := hb7.alloc hs67 _
      have HP6K := HP6
      have HP7 := Lib.hid (HP6.out.below hb7)
      clear HP6 HCL hb7 HP HB5
      have hsz8 : w6.heap.size ≤ (w7.alloc (.cells #[.string rtx] 9)).heap.size := HB67.out.size
      obtain ⟨N, hN⟩ : ∃ N, nb + 1 = N := ⟨_, rfl⟩
      have HN := Lib.hid hN
      by_cases h31 : N = 31
      · have hmax : max 0 ((N : Int) - 30) = 1 := by rw [Int.max_eq_right (by omega)]; omega
        have H30 : Hid (nb + 1 - 30 = 1) := by unfold Hid; omega
        clear hN h31
        go_wp2_with (at_builtin; go_must (refine wpList_appG rfl _ _ _ rfl w6.heap.size 9 i0 _ 1 16 Tryz.underlying25 hi0 hz0 hz1 hz2 rfl (by omega) _ nb (strCells rb) rfl hownA ⟨w7.heap.size, 0, none⟩ 1 1 [.string rtx] rfl rfl hnew (by simp [Value.oneCell']) (by omega) (by omega) (by simp at hsz8 ⊢; omega) ?_); intro v8 w8 hown8 hg8 hb8; have hO8 := OwnO.of_own hown8; rw [HN.out] at hO8; obtain ⟨A8, c8, rfl, hn8, hm8, hrd8⟩ := OwnO.form hO8; obtain ⟨a8, eA8, _, _⟩ := hrd8.2 (by have := HN.out; omega); subst eA8; obtain ⟨A9, hcut0, ho9, hl9⟩ := cut_ownW (k := 1) hO8 HN.out HNB.out (by have := HN.out; omega); have hcut : ∀ W, (Instr.sliceAt 25 (.slice (some a8) N c8) (some (.int .i64 (1 : Int))) none none).run Tryz.prog W = .ok (.slice A9 (N - 1) (c8 - 1)) W := hcut0; clear hcut0; (try simp only [Nat.sub_zero] at hcut); have HO9 := Lib.hid ho9; have HL9 := Lib.hid hl9; clear ho9 hl9; have HB8 := Lib.hid (HB6.out.trans ((HB67.out.trans hb8).mono HB6.out.size)); have HP := Lib.hid (HP6K.out.below (HB67.out.trans hb8)); have HC8 : Hid (N ≤ c8 ∧ c8 ≤ maxLen) := ⟨hn8, hm8⟩; clear hown8 hg8 hb8 hO8 hownA hnew hrd8 hm8; have e0 := HP.out.p.cell 0; have e1 := HP.out.p.cell 1; have e2 := HP.out.p.cell 2; have e3 := HP.out.p.cell 3; have e4 := HP.out.p.cell 4; have e5 := HP.out.p.cell 5; have ef4 := HP.out.p.frozen 4; have ef5 := HP.out.p.frozen 5; have z0 : w8.cell? ⟨w.heap.size + 1 + 1, 0, none⟩ = some (.string ⟨#[]⟩) := HP.out.z.cell 0; have z1 : w8.cell? ⟨w.heap.size + 1 + 1, 1, none⟩ = some (.string ⟨#[]⟩) := HP.out.z.cell 1; have z2 : w8.cell? ⟨w.heap.size + 1 + 1, 2, none⟩ = some (.string ⟨#[]⟩) := HP.out.z.cell 2; have z3 : w8.cell? ⟨w.heap.size + 1 + 1, 3, none⟩ = some (.int .i64 0) := HP.out.z.cell 3; have z4 : w8.cell? ⟨w.heap.size + 1 + 1, 4, none⟩ = some (.slice none 0 0) := HP.out.z.cell 4; have z5 : w8.cell? ⟨w.heap.size + 1 + 1, 5, none⟩ = some (.slice none 0 0) := HP.out.z.cell 5; have zf0 := HP.out.z.frozen 0; have zf1 := HP.out.z.frozen 1; have zf2 := HP.out.z.frozen 2; have zf3 := HP.out.z.frozen 3; have zf4 := HP.out.z.frozen 4; have zf5 := HP.out.z.frozen 5)
        (apply bodyPost_ret; (simp [results, Tryz.results37, go_sem, z0, z1, z2, z3, z4, z5]; rfl); rfl)
        have l1 := HL9.out
        refine ⟨⟨⟨rn, tx', d', rsf, (rb ++ [L rtx]).drop 1, []⟩, A9, c8 - 1, none, 0⟩, ?_, HFS.out (HPP.out.trans (by rw [H30.out])), ?_⟩
        · rw [HFE.out, HPE5.out]
          simp only [l1, Nat.sub_zero, List.length_nil]
        · exact ⟨⟨fin_own HO9.out HG6.out (show w.heap.size < w6.heap.size by omega) hg26, RdK.nil_ _ K 1, ⟨by rw [l1]; exact Nat.sub_le_sub_right HC8.out.1 _, Nat.le_trans (Nat.sub_le _ _) HC8.out.2⟩, ⟨Nat.le_refl _, Nat.zero_le _⟩⟩, bel6 (bel1 (bel1 (bel1 HB8.out (Nat.le_refl _)) (Nat.le_refl _)) (Nat.le_refl _)) (le2 _)⟩
      · have hmax : max 0 ((N : Int) - 30) = 0 := by rw [Int.max_eq_left (by omega)]
        have H30 : Hid (nb + 1 - 30 = 0) := by unfold Hid; omega
        clear hN h31
        go_wp2_with (at_builtin; go_must (refine wpList_appG rfl _ _ _ rfl w6.heap.size 9 i0 _ 1 16 Tryz.underlying25 hi0 hz0 hz1 hz2 rfl (by omega) _ nb (strCells rb) rfl hownA ⟨w7.heap.size, 0, none⟩ 1 1 [.string rtx] rfl rfl hnew (by simp [Value.oneCell']) (by omega) (by omega) (by simp at hsz8 ⊢; omega) ?_); intro v8 w8 hown8 hg8 hb8; have hO8 := OwnO.of_own hown8; rw [HN.out] at hO8; obtain ⟨A8, c8, rfl, hn8, hm8, hrd8⟩ := OwnO.form hO8; obtain ⟨a8, eA8, _, _⟩ := hrd8.2 (by have := HN.out; omega); subst eA8; obtain ⟨A9, hcut0, ho9, hl9⟩ := cut_ownW (k := 0) hO8 HN.out HNB.out (by have := HN.out; omega); have hcut : ∀ W, (Instr.sliceAt 25 (.slice (some a8) N c8) (some (.int .i64 (0 : Int))) none none).run Tryz.prog W = .ok (.slice A9 (N - 0) (c8 - 0)) W := hcut0; clear hcut0; (try simp only [Nat.sub_zero] at hcut); have HO9 := Lib.hid ho9; have HL9 := Lib.hid hl9; clear ho9 hl9; have HB8 := Lib.hid (HB6.out.trans ((HB67.out.trans hb8).mono HB6.out.size)); have HP := Lib.hid (HP6K.out.below (HB67.out.trans hb8)); have HC8 : Hid (N ≤ c8 ∧ c8 ≤ maxLen) := ⟨hn8, hm8⟩; clear hown8 hg8 hb8 hO8 hownA hnew hrd8 hm8; have e0 := HP.out.p.cell 0; have e1 := HP.out.p.cell 1; have e2 := HP.out.p.cell 2; have e3 := HP.out.p.cell 3; have e4 := HP.out.p.cell 4; have e5 := HP.out.p.cell 5; have ef4 := HP.out.p.frozen 4; have ef5 := HP.out.p.frozen 5; have z0 : w8.cell? ⟨w.heap.size + 1 + 1, 0, none⟩ = some (.string ⟨#[]⟩) := HP.out.z.cell 0; have z1 : w8.cell? ⟨w.heap.size + 1 + 1, 1, none⟩ = some (.string ⟨#[]⟩) := HP.out.z.cell 1; have z2 : w8.cell? ⟨w.heap.size + 1 + 1, 2, none⟩ = some (.string ⟨#[]⟩) := HP.out.z.cell 2; have z3 : w8.cell? ⟨w.heap.size + 1 + 1, 3, none⟩ = some (.int .i64 0) := HP.out.z.cell 3; have z4 : w8.cell? ⟨w.heap.size + 1 + 1, 4, none⟩ = some (.slice none 0 0) := HP.out.z.cell 4; have z5 : w8.cell? ⟨w.heap.size + 1 + 1, 5, none⟩ = some (.slice none 0 0) := HP.out.z.cell 5; have zf0 := HP.out.z.frozen 0; have zf1 := HP.out.z.frozen 1; have zf2 := HP.out.z.frozen 2; have zf3 := HP.out.z.frozen 3; have zf4 := HP.out.z.frozen 4; have zf5 := HP.out.z.frozen 5)
        (apply bodyPost_ret; (simp [results, Tryz.results37, go_sem, z0, z1, z2, z3, z4, z5]; rfl); rfl)
        have l1 := HL9.out
        refine ⟨⟨⟨rn, tx', d', rsf, (rb ++ [L rtx]).drop 0, []⟩, A9, c8 - 0, none, 0⟩, ?_, HFS.out (HPP.out.trans (by rw [H30.out])), ?_⟩
        · rw [HFE.out, HPE5.out]
          simp only [l1, Nat.sub_zero, List.length_nil]
        · exact ⟨⟨fin_own HO9.out HG6.out (show w.heap.size < w6.heap.size by omega) hg26, RdK.nil_ _ K 1, ⟨by rw [l1]; exact Nat.sub_le_sub_right HC8.out.1 _, Nat.le_trans (Nat.sub_le _ _) HC8.out.2⟩, ⟨Nat.le_refl _, Nat.zero_le _⟩⟩, bel6 (bel1 (bel1 (bel1 HB8.out (Nat.le_refl _)) (Nat.le_refl _)) (Nat.le_refl _)) (le2 _)⟩
    · have HN2 : Hid (edPE ⟨rn, rtx, rd, rsf, rb, ro⟩ xl = lfE rtx rd xl ∧ edP ⟨rn, rtx, rd, rsf, rb, ro⟩ xl = ⟨rn, rtx, rd, rsf, rb, ro⟩) := by
        have h1 : edPE ⟨rn, rtx, rd, rsf, rb, ro⟩ xl = lfE rtx rd xl := by unfold edPE; rw [if_neg (by omega)]
        exact ⟨h1, by unfold edP; rw [if_neg (by rw [h1]; exact hz)]⟩
      have hlt : lfT rtx rd xl = rtx := by unfold lfT; rw [if_neg hz]
      have hld : lfD rtx rd xl = rd := by unfold lfD; rw [if_neg hz]
      rw [hlt, hld] at HLE
      have g1 : (lfE rtx rd xl == 0) = false := by rw [beq_eq_false_iff_ne]; exact hz
      clear hz hlen hlt hld
      refine HLE.out.mono ?_
      rintro e w5 ⟨rfl, hb5⟩
      have HB5 := Lib.hid (HBE.out.trans (hb5.mono HBE.out.size))
      have HP5 := Lib.hid (HPQ.out.below hb5)
      clear hb5
      have HP := HP5
      have e0 := HP.out.p.cell 0; have e1 := HP.out.p.cell 1; have e2 := HP.out.p.cell 2; have e3 := HP.out.p.cell 3; have e4 := HP.out.p.cell 4; have e5 := HP.out.p.cell 5
      have ef0 := HP.out.p.frozen 0; have ef1 := HP.out.p.frozen 1; have ef2 := HP.out.p.frozen 2; have ef3 := HP.out.p.frozen 3; have ef4 := HP.out.p.frozen 4; have ef5 := HP.out.p.frozen 5
      have d1 : w5.cell? ⟨w.heap.size + 1, 1, none⟩ = some (.int .i64 xn) := HP.out.d.cell 1
      have d3 : w5.cell? ⟨w.heap.size + 1, 3, none⟩ = some (.string xt) := HP.out.d.cell 3
      have d4 : w5.cell? ⟨w.heap.size + 1, 4, none⟩ = some (.slice xA xm xc) := HP.out.d.cell 4
      have z0 : w5.cell? ⟨w.heap.size + 1 + 1, 0, none⟩ = some (.string ⟨#[]⟩) := HP.out.z.cell 0
      have z1 : w5.cell? ⟨w.heap.size + 1 + 1, 1, none⟩ = some (.string ⟨#[]⟩) := HP.out.z.cell 1
      have z2 : w5.cell? ⟨w.heap.size + 1 + 1, 2, none⟩ = some (.string ⟨#[]⟩) := HP.out.z.cell 2
      have z3 : w5.cell? ⟨w.heap.size + 1 + 1, 3, none⟩ = some (.int .i64 0) := HP.out.z.cell 3
      have z4 : w5.cell? ⟨w.heap.size + 1 + 1, 4, none⟩ = some (.slice none 0 0) := HP.out.z.cell 4
      have z5 : w5.cell? ⟨w.heap.size + 1 + 1, 5, none⟩ = some (.slice none 0 0) := HP.out.z.cell 5
      have zf0 := HP.out.z.frozen 0; have zf1 := HP.out.z.frozen 1; have zf2 := HP.out.z.frozen 2; have zf3 := HP.out.z.frozen 3; have zf4 := HP.out.z.frozen 4; have zf5 := HP.out.z.frozen 5
      go_wp2_with fail
      (apply bodyPost_ret; (simp [results, Tryz.results37, go_sem, z0, z1, z2, z3, z4, z5]; rfl); rfl)
      refine ⟨⟨⟨rn, rtx, rd, rsf, rb, ro⟩, rAb, rcb, rAo, rco⟩, ?_, HFS.out HN2.out.2, fin_rc (bel6 (bel3 HB5.out) (le2 _)) (fun W hW => HR.out.below hW)⟩
      rw [HNB.out, HNO.out, HFE.out, HN2.out.1]
end Go.Proofs.YtplgghjdidmcfaaGreatDoor
