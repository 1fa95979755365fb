/- A row whose cells turn: small facts for exchanges. A region that draws its order, whose last operation waits for all others: the walk along a schedule; what the schedule's loads lean on need not hold behind that last operation. No program in sight. A region that draws its order, walked along a tree of schedules: where several operations that make memory may come up, each of them; the last operations come one by one and wait for all others, and what the loads lean on need not hold behind the first of them. No program in sight. -/
import Derived.Test.YtmikckhihfcooaaPk08
import Derived.Test.YtmikckhihfcooaaPk03
namespace Go.Proofs.Ytmikckhihfcooaa
open Go.RowKit
theorem own_setS {w : World} {base : Nat} {e : TypeId} {size n c : Nat} {ad : Addr} {xs : List Value} (h : OwnO w base e size (.slice (some ad) n c) n xs) {j : Nat} (hj : j < n * size) (u : Value) :
    OwnO (w.setCell (ad.add j) u) base e size (.slice (some ad) n c) n (xs.set j u) ∧ w.frozen? (ad.add j) = false := by
  rcases h.2 with ⟨h1, _⟩ | ⟨g, o, cap, cur, h1, h2, h3, h4, h5, h6, h7⟩
  · cases h1
  · injection h1 with h1 _ h1c
    injection h1 with h1
    subst h1; subst h1c
    have hadd : (⟨g, o, none⟩ : Addr).add j = ⟨g, o + j, none⟩ := by unfold Addr.add; split <;> simp_all
    rw [hadd]
    refine ⟨⟨by rw [List.length_set]; exact h.1, .inr ⟨g, o, c, cur.setIfInBounds (o + j) u, rfl, h2, by simp [World.setCell, Array.getElem?_modify, h3], h4, h5, by simpa using h6, ?_⟩⟩, by simp [World.frozen?, h3]⟩
    rw [Array.toList_setIfInBounds, ← h7]
    apply List.ext_getElem?
    intro i
    rw [List.getElem?_take, List.getElem?_drop, List.getElem?_set, List.getElem?_set, List.getElem?_take, List.getElem?_drop, List.length_take, List.length_drop]
    have hcl : cur.toList.length = cur.size := by simp
    have hnc : n * size ≤ c * size := Nat.mul_le_mul_right _ h4
    by_cases e : j = i
    · subst e
      rw [if_pos rfl, if_pos hj, if_pos rfl, if_pos (by omega), if_pos (by omega)]
    · by_cases hi : i < n * size
      · rw [if_pos hi, if_neg (show ¬ o + j = o + i by omega), if_neg e, if_pos hi]
      · rw [if_neg hi, if_neg e, if_neg hi]
theorem own_addrS {w : World} {base : Nat} {e : TypeId} {size n c : Nat} {ad : Addr} {xs : List Value} (h : OwnO w base e size (.slice (some ad) n c) n xs) : ∀ i j, i ≠ j → ad.add i ≠ ad.add j := by
  rcases h.2 with ⟨h1, _⟩ | ⟨g, o, cap, cur, h1, _⟩
  · cases h1
  · injection h1 with h1
    injection h1 with h1
    subst h1
    intro i j hij he
    have hadd : ∀ j, (⟨g, o, none⟩ : Addr).add j = ⟨g, o + j, none⟩ := fun j => by unfold Addr.add; split <;> simp_all
    rw [hadd, hadd] at he
    injection he with _ he
    omega
theorem add_one (ad : Addr) (k : Nat) : ad.add (k + 1) = ⟨(ad.add k).block, (ad.add k).off + 1, none⟩ := by rw [← add_add]; rfl
theorem add_two (ad : Addr) (k : Nat) : ad.add (k + 2) = ⟨(ad.add k).block, (ad.add k).off + 2, none⟩ := by rw [← add_add]; rfl
theorem gb_at {w w' : World} {ad : Addr} (h : w.grownBy w' (some ad.block)) (p : Addr) (u : Value) (hp : p.block = ad.block) : w.grownBy (w'.setCell p u) (some ad.block) :=
  gb_trans h ⟨rfl, rfl, rfl, by simp [World.setCell], fun k _ hk => Below.heap_setCell w' p u k (fun e => hk (by rw [e, hp]))⟩
/-- Two of a row exchanged. -/
theorem swap_two {α : Type} (A B C : List α) (x y : α) {i j : Nat} (hi : i = A.length) (hj : j = A.length + 1 + B.length) :
    (A ++ x :: (B ++ y :: C))[i]? = some x ∧ (A ++ x :: (B ++ y :: C))[j]? = some y ∧ ((A ++ x :: (B ++ y :: C)).set i y).set j x = A ++ y :: (B ++ x :: C) ∧ ((A ++ x :: (B ++ y :: C)).set j x).set i y = A ++ y :: (B ++ x :: C) := by
  subst hi; subst hj
  have e : ∀ z : α, A ++ z :: (B ++ y :: C) = (A ++ z :: B) ++ y :: C := fun z => by simp
  have hl : ∀ z : α, A.length + 1 + B.length = (A ++ z :: B).length := fun z => by simp; omega
  have s1 : ∀ (P : List α) (u v : α) (Q : List α), (P ++ u :: Q).set P.length v = P ++ v :: Q := fun P u v Q => by
    rw [List.set_append_right _ _ (Nat.le_refl _), Nat.sub_self]; rfl
  refine ⟨by simp, ?_, ?_, ?_⟩
  · rw [e x, hl x]; simp
  · rw [s1, e y, hl y, s1]; simp
  · rw [e x, hl x, s1]
    have : (A ++ x :: B) ++ x :: C = A ++ x :: (B ++ x :: C) := by simp
    rw [this, s1]
end Go.Proofs.Ytmikckhihfcooaa
namespace Go.Proofs.Ytmikckhihfcooaa
open Go.RowKit
section
variable {P : Program} {ops : Array Oper} {Q : Exit → Act → World → Prop} {S : World → Prop} {z : Nat}
/-- Does operation z wait for all others? -/
def lastB (ops : Array Oper) (z : Nat) (oz : Oper) : Bool := (List.range ops.size).all fun i => i == z || oz.after.any fun e => Region.binds .any e && (e.on == i || (match ops[e.on]? with
  | some o => o.after.any fun e' => Region.binds .any e' && e'.on == i
  | none => false))
/-- Whatever has come up, all that it waits for has come up. -/
def RgClosed (ops : Array Oper) (listed : Array Bool) : Prop := ∀ j o, listed.getD j false = true → ops[j]? = some o → ∀ e ∈ o.after, Region.binds .any e = true → listed.getD e.on false = true
theorem getD_true_of_set {listed : Array Bool} {i j : Nat} (h : (listed.setIfInBounds i true).getD j false = true) (hne : j ≠ i) : listed.getD j false = true := by
  rw [getD_set_ne false (Ne.symm hne)] at h; exact h
theorem RgClosed.set_ {ops : Array Oper} {listed : Array Bool} {i : Nat} (h : RgClosed ops listed) (hi : i ∈ Region.ready .any ops listed) : RgClosed ops (listed.setIfInBounds i true) := by
  intro j o hj ho e he hb
  by_cases hji : j = i
  · subst hji
    obtain ⟨_, o', ho', hall⟩ := mem_ready.1 hi
    rw [ho] at ho'; cases ho'
    exact getD_set_true (hall e he hb)
  · exact getD_set_true (h j o (getD_true_of_set hj hji) ho e he hb)
theorem RgClosed.start (ops : Array Oper) (n : Nat) : RgClosed ops (Array.replicate n false) := by
  intro j o hj
  exfalso
  rw [Array.getD_eq_getD_getElem?, Array.getElem?_replicate] at hj
  split at hj <;> simp at hj
/-- Whatever order is picked, till z alone is left. -/
def wpAnyT (P : Program) (ops : Array Oper) (Q : Exit → Act → World → Prop) (S : World → Prop) (z : Nat) : Nat → Array Bool → Act → World → Prop
  | 0, listed, a, w => Region.ready .any ops listed = [z] ∧ Region.ready .any ops (listed.setIfInBounds z true) = [] ∧ wpOp P ops Q z (fun a' w' => Q .normal a' w') a w
  | fuel + 1, listed, a, w => Region.ready .any ops listed ≠ [] ∧ ∀ i ∈ Region.ready .any ops listed, wpOp P ops Q i (fun a' w' => S w' ∧ wpAnyT P ops Q S z fuel (listed.setIfInBounds i true) a' w') a w
theorem wpAny_of_T : ∀ (fuel : Nat) (listed : Array Bool) (a : Act) (w : World), wpAnyT P ops Q S z fuel listed a w → wpAny P .any ops Q (fuel + 1) listed a w
  | 0, listed, a, w, h => by
    obtain ⟨h1, h2, h3⟩ := h
    refine ⟨fun h => (by rw [h1] at h; cases h), fun i hi => ?_⟩
    rw [h1] at hi
    obtain rfl : i = z := by simpa using hi
    exact wpOp_mono (fun a' w' h' => ⟨h2, h'⟩) h3
  | fuel + 1, _, _, _, h => ⟨fun h0 => absurd h0 h.1, fun i hi => wpOp_mono (fun a' w' h' => wpAny_of_T fuel _ a' w' h'.2) (h.2 i hi)⟩
theorem wpAnyT_first {i : Nat} {oi oz : Oper} {v : Value} (hz : ops[z]? = some oz) (hl : lastB ops z oz = true) (hi : ops[i]? = some oi) (hiz : i ≠ z) (hsel : ∀ (j : Nat) (o : Oper) cs b, ops[j]? = some o → o.op ≠ .select cs b)
    (hQ : ∀ c a w, Q (.panic c) (a.put oi.dst v) w → Q (.panic c) a w) :
    ∀ (fuel : Nat) (listed : Array Bool) (a : Act) (w : World), RgClosed ops listed →
      (∀ j oj, ops[j]? = some oj → j ≠ i → listed.getD j true = false → (∀ e ∈ oj.after, Region.binds .any e = true → e.on ≠ i) → oi.apart ops oj = true) →
      i ∈ Region.ready .any ops listed → YieldsIf P ops S oi v a → S w →
      wpAnyT P ops Q S z fuel (listed.setIfInBounds i true) (a.put oi.dst v) w → wpAnyT P ops Q S z (fuel + 1) listed a w := by
  have hun : ∀ (listed : Array Bool), i ∈ Region.ready .any ops listed → listed.getD i false = true → False := by
    intro listed hr h1
    have h0 := (mem_ready.1 hr).1
    rcases Nat.lt_or_ge i listed.size with h' | h'
    · simp [h'] at h0 h1; rw [h0] at h1; cases h1
    · simp [Array.getElem?_eq_none h'] at h1
  have hno : ∀ (listed : Array Bool) (j : Nat), j ∈ Region.ready .any ops listed → i ∈ Region.ready .any ops listed → j ≠ i → ∀ oj, ops[j]? = some oj → ∀ e ∈ oj.after, Region.binds .any e = true → e.on ≠ i := by
    intro listed j hj hr _ oj hoj e he hb heq
    obtain ⟨_, oj', hoj', hall⟩ := mem_ready.1 hj
    rw [hoj] at hoj'
    cases hoj'
    exact hun listed hr (by rw [← heq]; exact hall e he hb)
  intro fuel
  induction fuel with
  | zero =>
    intro listed a w hcl _ hr hy hS H
    refine ⟨fun h => (by rw [h] at hr; cases hr), fun j hj => ?_⟩
    by_cases hji : j = i
    · subst hji; exact hy.wpOp hi hS ⟨hS, H⟩
    · exfalso
      have hm := ready_mono hj hji
      rw [H.1] at hm
      obtain rfl : j = z := by simpa using hm
      have hli : i < ops.size := (Array.getElem?_eq_some_iff.1 hi).1
      have h1 := List.all_eq_true.1 hl i (List.mem_range.2 hli)
      simp only [Bool.or_eq_true, beq_iff_eq] at h1
      rcases h1 with h1 | h1
      · exact hiz h1
      · rw [Array.any_eq_true] at h1
        obtain ⟨q, hq, h2⟩ := h1
        simp only [Bool.and_eq_true, Bool.or_eq_true, beq_iff_eq] at h2
        rcases h2.2 with h3 | h3
        · exact hno listed j hj hr hji oz hz _ (Array.getElem_mem hq) h2.1 h3
        · obtain ⟨_, oj', hoj', hall⟩ := mem_ready.1 hj
          rw [hz] at hoj'
          cases hoj'
          have h4 := hall _ (Array.getElem_mem hq) h2.1
          cases ho : ops[(oz.after[q]).on]? with
          | none => rw [ho] at h3; simp at h3
          | some o =>
            rw [ho] at h3
            simp only [Array.any_eq_true] at h3
            obtain ⟨q', hq', h5⟩ := h3
            simp only [Bool.and_eq_true, beq_iff_eq] at h5
            have h6 := hcl _ o h4 ho _ (Array.getElem_mem hq') h5.1
            rw [h5.2] at h6
            exact hun listed hr h6
  | succ fuel ih =>
    intro listed a w hcl hfree hr hy hS H
    refine ⟨fun h => (by rw [h] at hr; cases hr), fun j hj => ?_⟩
    by_cases hji : j = i
    · subst hji; exact hy.wpOp hi hS ⟨hS, H⟩
    · have h1 := H.2 j (ready_mono hj hji)
      obtain ⟨hjun, oj, hoj, hall⟩ := mem_ready.1 hj
      have h2 := wpOp_putIf hoj (hfree j oj hoj hji hjun (hno listed j hj hr hji oj hoj)) (fun cs b => hsel i oi cs b hi) (fun cs b => hsel j oj cs b hoj) hQ hy h1
      have hfree' : ∀ k ok, ops[k]? = some ok → k ≠ i → (listed.setIfInBounds j true).getD k true = false →
          (∀ e ∈ ok.after, Region.binds .any e = true → e.on ≠ i) → oi.apart ops ok = true := fun k ok hk hki hun hno' => by
        refine hfree k ok hk hki ?_ hno'
        by_cases hjk : j = k
        · subst hjk; exact hjun
        · rw [getD_set_ne true hjk] at hun; exact hun
      refine wpOp_mono (fun a' w' h3 => ⟨h3.2.1, ih (listed.setIfInBounds j true) a' w' (hcl.set_ hj) hfree' (ready_mono hr (Ne.symm hji)) h3.1 h3.2.1 ?_⟩) h2
      rw [Array.setIfInBounds_comm _ _ hji]
      exact h3.2.2
/-- As Q, but that behind the walk operation z is still to be done. -/
def Qz (P : Program) (ops : Array Oper) (Q : Exit → Act → World → Prop) (oz : Oper) : Exit → Act → World → Prop
  | .normal, a, w => wpList P ops Q [oz] a w
  | .exit id, a, w => Q (.exit id) a w
  | .goto l, a, w => Q (.goto l) a w
  | .ret, a, w => Q .ret a w
  | .panic c, a, w => Q (.panic c) a w
  | .outgrown, a, w => Q .outgrown a w
/-- May the schedule be followed, till z alone is left? -/
def schedZ (ops : Array Oper) (z : Nat) : List (Nat × Bool) → Array Bool → Bool
  | [], listed => (Region.ready .any ops listed == [z]) && (Region.ready .any ops (listed.setIfInBounds z true)).isEmpty
  | (i, true) :: rest, listed => (i != z) && (Region.ready .any ops listed).contains i && Region.free .any ops listed i && (match ops[i]? with | some o => stillKind o | none => false) && schedZ ops z rest (listed.setIfInBounds i true)
  | (i, false) :: rest, listed => (Region.ready .any ops listed == [i]) && schedZ ops z rest (listed.setIfInBounds i true)
theorem wpOp_of_list {K : Act → World → Prop} {R : Exit → Act → World → Prop} {i : Nat} {o : Oper} {a : Act} {w : World} (hi : ops[i]? = some o) (h : wpList P ops R [o] a w)
    (hn : ∀ a w, R .normal a w → K a w) (hp : ∀ c a w, R (.panic c) a w → Q (.panic c) a w) (ho : LetsOut R → LetsOut Q) : wpOp P ops Q i K a w := by
  unfold wpList at h
  unfold wpOp
  simp only [hi]
  by_cases hw : Region.wanted o (yielded ops a.tmps) = true
  · rw [if_pos hw] at h ⊢
    rcases h with h | ⟨h1, h2⟩
    · left
      unfold Oper.wp at h ⊢
      generalize (execOp a.eval o).run P w = r at *
      cases r with
      | ok n w' =>
        cases n <;> simp only [Oper.upon] at h ⊢
        case enter f args =>
          exact h.mono fun e w'' hh => by
            cases e with
            | returned v => exact hn _ _ hh
            | panicked c => exact hp _ _ _ hh
            | outgrown => exact ho hh
        case row row args => exact h.mono fun v w'' hh => hn _ _ hh
        all_goals first
          | exact hn _ _ h
          | exact h
      | halt x w' =>
        cases x <;> simp only [Oper.upon] at h ⊢
        all_goals first
          | exact hp _ _ _ h
          | exact h
    · exact .inr ⟨h1, ho h2⟩
  · rw [if_neg hw] at h ⊢
    exact hn _ _ h
theorem wpAnyT_sched {oz : Oper} (hz : ops[z]? = some oz) (hl : lastB ops z oz = true) (hs : Region.noSelect ops = true) (hQ : ∀ c a (d : Tmp) v w, Q (.panic c) (Act.put a (some d) v) w → Q (.panic c) a w) :
    ∀ (σ : List (Nat × Bool)) (listed : Array Bool) (a : Act) (w : World), RgClosed ops listed → schedZ ops z σ listed = true → S w → wpSched P ops S (Qz P ops Q oz) (opersOf ops σ) a w → wpAnyT P ops Q S z σ.length listed a w
  | [], listed, a, w, _, hB, _, h => by
    simp only [schedZ, Bool.and_eq_true, beq_iff_eq, List.isEmpty_iff] at hB
    refine ⟨hB.1, hB.2, ?_⟩
    simp only [opersOf] at h
    unfold wpSched at h
    replace h := h.out
    exact wpOp_of_list hz h (fun _ _ h => h) (fun _ _ _ h => h) (fun h => h)
  | (i, true) :: rest, listed, a, w, hcl, hB, hC, h => by
    simp only [schedZ, Bool.and_eq_true, bne_iff_ne] at hB
    obtain ⟨⟨⟨⟨hne, hr⟩, hf⟩, hk⟩, hB'⟩ := hB
    cases hi : ops[i]? with
    | none => rw [hi] at hk; simp at hk
    | some o =>
      rw [hi] at hk
      simp only [opersOf, hi] at h
      unfold wpSched at h
      replace h := h.out
      by_cases hw : Region.wanted o (yielded ops a.tmps) = true
      · rw [if_pos hw] at h
        obtain ⟨v, h1, h2⟩ := h
        exact wpAnyT_first hz hl hi hne (Region.noSelect_spec hs) (fun c a w hh => hQput hQ c a _ _ w hh) _ _ _ _ hcl (Region.free_spec hi hf) (by simpa using hr) (yieldsIf_of_quiet hk hw h1) hC (wpAnyT_sched hz hl hs hQ rest _ _ _ (hcl.set_ (by simpa using hr)) hB' hC h2)
      · rw [if_neg hw] at h
        exact wpAnyT_first hz hl hi hne (Region.noSelect_spec hs) (fun c a w hh => hQput hQ c a _ _ w hh) _ _ _ _ hcl (Region.free_spec hi hf) (by simpa using hr) (.inr ⟨by simpa using hw, rfl⟩) hC (wpAnyT_sched hz hl hs hQ rest _ _ _ (hcl.set_ (by simpa using hr)) hB' hC h)
  | (i, false) :: rest, listed, a, w, hcl, hB, hC, h => by
    simp only [schedZ, Bool.and_eq_true, beq_iff_eq] at hB
    obtain ⟨hr, hB'⟩ := hB
    refine ⟨by rw [hr]; simp, fun j hj => ?_⟩
    rw [hr] at hj
    obtain rfl : j = i := by simpa using hj
    cases hi : ops[j]? with
    | none =>
      exfalso
      have hm : j ∈ Region.ready .any ops listed := by rw [hr]; simp
      obtain ⟨_, o, ho, _⟩ := mem_ready.1 hm
      rw [hi] at ho; cases ho
    | some o =>
      simp only [opersOf, hi] at h
      unfold wpSched at h
      replace h := h.out
      exact wpOp_of_list hi h (fun a w hh => ⟨hh.1, wpAnyT_sched hz hl hs hQ rest _ _ _ (hcl.set_ (by rw [hr]; simp)) hB' hh.1 hh.2⟩) (fun _ _ _ h => h) (fun ⟨a, w, hh⟩ => ⟨a, w, hh⟩)
theorem wp_region_schedZ {id : Nat} {a : Act} {w : World} (σ : List (Nat × Bool)) (z : Nat) (oz : Oper) (F : World → Prop) (hm : P.follows .mixedOrders = true) (hs : Region.noSelect ops = true) (hz : ops[z]? = some oz) (hl : lastB ops z oz = true) (hlen : σ.length + 1 = ops.size)
    (hQ : ∀ c a (d : Tmp) v w, Q (.panic c) (Act.put a (some d) v) w → Q (.panic c) a w) (hB : schedZ ops z σ (Array.replicate ops.size false) = true) (hF : F w) (hd : F w → F w.drew)
    (h : Nonempty (Wof F) → wpSched P ops (fun w' => ∃ p : Wof F, w' = p.w) (Qz P ops Q oz) (opersOf ops σ) a w.drew) : (Code.region id ops true).wp P Q a w := by
  refine wp_region_any hm ?_
  rw [← hlen]
  exact wpAny_of_T _ _ _ _ (wpAnyT_sched hz hl hs hQ σ _ a _ (RgClosed.start _ _) (by rw [hlen]; exact hB) ⟨⟨_, hd hF⟩, rfl⟩ (h ⟨⟨_, hF⟩⟩))
theorem qz_nil {oz : Oper} {a : Act} {w : World} (h : wpList P ops Q [oz] a w) : Qz P ops Q oz .normal a w := h
end
end Go.Proofs.Ytmikckhihfcooaa
namespace Go.Proofs.Ytmikckhihfcooaa
open Go.RowKit
inductive STree
  | nil
  | op (i : Nat) (b : Bool) (t : STree)
  | fork (i j : Nat) (ti tj : STree)
inductive OTree
  | nil
  | op (b : Bool) (o : Oper) (t : OTree)
  | fork (oi oj : Oper) (ti tj : OTree)
section
variable {P : Program} {ops : Array Oper} {Q : Exit → Act → World → Prop} {S : World → Prop} {z : Nat} {zt : List Nat}
/-- Does i wait for j? -/
def ancB (ops : Array Oper) : Nat → Nat → Nat → Bool
  | 0, _, _ => false
  | f + 1, i, j => match ops[i]? with
    | some o => o.after.any fun e => Region.binds .any e && (e.on == j || ancB ops f e.on j)
    | none => false
theorem anc_listed {listed : Array Bool} (hcl : RgClosed ops listed) : ∀ (f i j : Nat), listed.getD i false = true → ancB ops f i j = true → listed.getD j false = true
  | 0, _, _, _, h => by cases h
  | f + 1, i, j, hi, h => by
    unfold ancB at h
    cases ho : ops[i]? with
    | none => rw [ho] at h; cases h
    | some o =>
      rw [ho] at h
      simp only [Array.any_eq_true] at h
      obtain ⟨q, hq, h2⟩ := h
      simp only [Bool.and_eq_true, Bool.or_eq_true, beq_iff_eq] at h2
      have h3 := hcl i o hi ho _ (Array.getElem_mem hq) h2.1
      rcases h2.2 with h4 | h4
      · rw [← h4]; exact h3
      · exact anc_listed hcl f _ j h3 h4
/-- Does z wait for all but the last ones? -/
def lastU (ops : Array Oper) (z : Nat) (zt : List Nat) : Bool := (List.range ops.size).all fun i => i == z || zt.contains i || ancB ops 1 z i || ancB ops 8 z i
def wpChain (P : Program) (ops : Array Oper) (Q : Exit → Act → World → Prop) : List Nat → Array Bool → Act → World → Prop
  | [], listed, a, w => Region.ready .any ops listed = [] ∧ Q .normal a w
  | z :: zs, listed, a, w => Region.ready .any ops listed = [z] ∧ wpOp P ops Q z (fun a' w' => wpChain P ops Q zs (listed.setIfInBounds z true) a' w') a w
theorem wpAny_of_chain : ∀ (zs : List Nat) (listed : Array Bool) (a : Act) (w : World), wpChain P ops Q zs listed a w → wpAny P .any ops Q zs.length listed a w
  | [], listed, a, w, h => h
  | z :: zs, listed, a, w, h => by
    obtain ⟨h1, h2⟩ := h
    refine ⟨fun h => (by rw [h1] at h; cases h), fun i hi => ?_⟩
    rw [h1] at hi
    obtain rfl : i = z := by simpa using hi
    exact wpOp_mono (fun a' w' h' => wpAny_of_chain zs _ a' w' h') h2
def wpAnyU (P : Program) (ops : Array Oper) (Q : Exit → Act → World → Prop) (S : World → Prop) (z : Nat) (zt : List Nat) : Nat → Array Bool → Act → World → Prop
  | 0, listed, a, w => wpChain P ops Q (z :: zt) listed a w
  | fuel + 1, listed, a, w => Region.ready .any ops listed ≠ [] ∧ ∀ i ∈ Region.ready .any ops listed, wpOp P ops Q i (fun a' w' => S w' ∧ wpAnyU P ops Q S z zt fuel (listed.setIfInBounds i true) a' w') a w
theorem wpAny_of_U : ∀ (fuel : Nat) (listed : Array Bool) (a : Act) (w : World), wpAnyU P ops Q S z zt fuel listed a w → wpAny P .any ops Q (fuel + (zt.length + 1)) listed a w
  | 0, listed, a, w, h => by
    have := wpAny_of_chain (z :: zt) listed a w h
    rw [List.length_cons] at this
    rw [Nat.zero_add]; exact this
  | fuel + 1, listed, a, w, h => by
    have e : fuel + 1 + (zt.length + 1) = (fuel + (zt.length + 1)) + 1 := by omega
    rw [e]
    exact ⟨fun h0 => absurd h0 h.1, fun i hi => wpOp_mono (fun a' w' h' => wpAny_of_U fuel _ a' w' h'.2) (h.2 i hi)⟩
theorem wpAnyU_first {i : Nat} {oi : Oper} {v : Value} (hl : lastU ops z zt = true) (hi : ops[i]? = some oi) (hiz : i ≠ z) (hizt : zt.contains i = false) (hsel : ∀ (j : Nat) (o : Oper) cs b, ops[j]? = some o → o.op ≠ .select cs b)
    (hQ : ∀ c a w, Q (.panic c) (a.put oi.dst v) w → Q (.panic c) a w) :
    ∀ (fuel : Nat) (listed : Array Bool) (a : Act) (w : World), RgClosed ops listed →
      (∀ j oj, ops[j]? = some oj → j ≠ i → listed.getD j true = false → (∀ e ∈ oj.after, Region.binds .any e = true → e.on ≠ i) → oi.apart ops oj = true) →
      i ∈ Region.ready .any ops listed → YieldsIf P ops S oi v a → S w →
      wpAnyU P ops Q S z zt fuel (listed.setIfInBounds i true) (a.put oi.dst v) w → wpAnyU P ops Q S z zt (fuel + 1) listed a w := by
  have hun : ∀ (listed : Array Bool), i ∈ Region.ready .any ops listed → listed.getD i false = true → False := by
    intro listed hr h1
    have h0 := (mem_ready.1 hr).1
    rcases Nat.lt_or_ge i listed.size with h' | h'
    · simp [h'] at h0 h1; rw [h0] at h1; cases h1
    · simp [Array.getElem?_eq_none h'] at h1
  have hno : ∀ (listed : Array Bool) (j : Nat), j ∈ Region.ready .any ops listed → i ∈ Region.ready .any ops listed → j ≠ i → ∀ oj, ops[j]? = some oj → ∀ e ∈ oj.after, Region.binds .any e = true → e.on ≠ i := by
    intro listed j hj hr _ oj hoj e he hb heq
    obtain ⟨_, oj', hoj', hall⟩ := mem_ready.1 hj
    rw [hoj] at hoj'
    cases hoj'
    exact hun listed hr (by rw [← heq]; exact hall e he hb)
  intro fuel
  induction fuel with
  | zero =>
    intro listed a w hcl _ hr hy hS H
    refine ⟨fun h => (by rw [h] at hr; cases hr), fun j hj => ?_⟩
    by_cases hji : j = i
    · subst hji; exact hy.wpOp hi hS ⟨hS, H⟩
    · exfalso
      have hm := ready_mono hj hji
      rw [H.1] at hm
      obtain rfl : j = z := by simpa using hm
      have hli : i < ops.size := (Array.getElem?_eq_some_iff.1 hi).1
      have h1 := List.all_eq_true.1 hl i (List.mem_range.2 hli)
      simp only [Bool.or_eq_true, beq_iff_eq] at h1
      have key : ∀ f, ancB ops (f + 1) j i = true → False := fun f h1 => by
        unfold ancB at h1
        obtain ⟨_, oj', hoj', hall⟩ := mem_ready.1 hj
        rw [hoj'] at h1
        simp only [Array.any_eq_true] at h1
        obtain ⟨q, hq, h2⟩ := h1
        simp only [Bool.and_eq_true, Bool.or_eq_true, beq_iff_eq] at h2
        have h3 := hall _ (Array.getElem_mem hq) h2.1
        rcases h2.2 with h4 | h4
        · rw [h4] at h3; exact hun listed hr h3
        · exact hun listed hr (anc_listed hcl _ _ _ h3 h4)
      rcases h1 with ((h1 | h1) | h1) | h1
      · exact hiz h1
      · rw [hizt] at h1; cases h1
      · exact key 0 h1
      · exact key 7 h1
  | succ fuel ih =>
    intro listed a w hcl hfree hr hy hS H
    refine ⟨fun h => (by rw [h] at hr; cases hr), fun j hj => ?_⟩
    by_cases hji : j = i
    · subst hji; exact hy.wpOp hi hS ⟨hS, H⟩
    · have h1 := H.2 j (ready_mono hj hji)
      obtain ⟨hjun, oj, hoj, hall⟩ := mem_ready.1 hj
      have h2 := wpOp_putIf hoj (hfree j oj hoj hji hjun (hno listed j hj hr hji oj hoj)) (fun cs b => hsel i oi cs b hi) (fun cs b => hsel j oj cs b hoj) hQ hy h1
      have hfree' : ∀ k ok, ops[k]? = some ok → k ≠ i → (listed.setIfInBounds j true).getD k true = false →
          (∀ e ∈ ok.after, Region.binds .any e = true → e.on ≠ i) → oi.apart ops ok = true := fun k ok hk hki hun hno' => by
        refine hfree k ok hk hki ?_ hno'
        by_cases hjk : j = k
        · subst hjk; exact hjun
        · rw [getD_set_ne true hjk] at hun; exact hun
      refine wpOp_mono (fun a' w' h3 => ⟨h3.2.1, ih (listed.setIfInBounds j true) a' w' (hcl.set_ hj) hfree' (ready_mono hr (Ne.symm hji)) h3.1 h3.2.1 ?_⟩) h2
      rw [Array.setIfInBounds_comm _ _ hji]
      exact h3.2.2
/-- The last ones, one by one. -/
def wpTail (P : Program) (ops : Array Oper) (Q : Exit → Act → World → Prop) : List Oper → Act → World → Prop
  | [], a, w => Q .normal a w
  | o :: r, a, w => wpList P ops (schedTo (fun _ => True) (fun a' w' => wpTail P ops Q r a' w') Q) [o] a w
def opsAt (ops : Array Oper) : List Nat → List Oper
  | [] => []
  | i :: r => match ops[i]? with
    | some o => o :: opsAt ops r
    | none => opsAt ops r
def Qt (P : Program) (ops : Array Oper) (Q : Exit → Act → World → Prop) (zs : List Oper) : Exit → Act → World → Prop
  | .normal, a, w => wpTail P ops Q zs a w
  | .exit id, a, w => Q (.exit id) a w
  | .goto l, a, w => Q (.goto l) a w
  | .ret, a, w => Q .ret a w
  | .panic c, a, w => Q (.panic c) a w
  | .outgrown, a, w => Q .outgrown a w
def chainB (ops : Array Oper) : List Nat → Array Bool → Bool
  | [], listed => (Region.ready .any ops listed).isEmpty
  | z :: zs, listed => (Region.ready .any ops listed == [z]) && chainB ops zs (listed.setIfInBounds z true)
theorem wpChain_of : ∀ (zs : List Nat) (listed : Array Bool) (a : Act) (w : World), chainB ops zs listed = true → wpTail P ops Q (opsAt ops zs) a w → wpChain P ops Q zs listed a w
  | [], listed, a, w, hB, h => by
    simp only [chainB, List.isEmpty_iff] at hB
    exact ⟨hB, h⟩
  | z :: zs, listed, a, w, hB, h => by
    simp only [chainB, Bool.and_eq_true, beq_iff_eq] at hB
    obtain ⟨h1, h2⟩ := hB
    refine ⟨h1, ?_⟩
    have hm : z ∈ Region.ready .any ops listed := by rw [h1]; simp
    obtain ⟨_, o, ho, _⟩ := mem_ready.1 hm
    simp only [opsAt, ho] at h
    unfold wpTail at h
    exact wpOp_of_list ho h (fun a w hh => wpChain_of zs _ a w h2 hh.2) (fun _ _ _ h => h) (fun ⟨a, w, hh⟩ => ⟨a, w, hh⟩)
def schedT (ops : Array Oper) (z : Nat) (zt : List Nat) : Nat → STree → Array Bool → Bool
  | 0, .nil, listed => chainB ops (z :: zt) listed
  | n + 1, .op i true t, listed => (i != z) && !zt.contains i && (Region.ready .any ops listed).contains i && Region.free .any ops listed i && (match ops[i]? with | some o => stillKind o | none => false) && schedT ops z zt n t (listed.setIfInBounds i true)
  | n + 1, .op i false t, listed => (Region.ready .any ops listed == [i]) && schedT ops z zt n t (listed.setIfInBounds i true)
  | n + 1, .fork i j ti tj, listed => (Region.ready .any ops listed == [i, j]) && schedT ops z zt n ti (listed.setIfInBounds i true) && schedT ops z zt n tj (listed.setIfInBounds j true)
  | _, _, _ => false
def opersT (ops : Array Oper) : STree → OTree
  | .nil => .nil
  | .op i b t => match ops[i]? with
    | some o => .op b o (opersT ops t)
    | none => .nil
  | .fork i j ti tj => match ops[i]?, ops[j]? with
    | some oi, some oj => .fork oi oj (opersT ops ti) (opersT ops tj)
    | _, _ => .nil
def wpT (P : Program) (ops : Array Oper) (C : World → Prop) (Q : Exit → Act → World → Prop) : OTree → Act → World → Prop
  | .nil, a, w => Shut (Q .normal a w)
  | .op true o t, a, w => Shut (if Region.wanted o (yielded ops a.tmps) then o.quiet P a C (fun a' => wpT P ops C Q t a' w) else wpT P ops C Q t (a.put o.dst undef) w)
  | .op false o t, a, w => Shut (wpList P ops (schedTo C (fun a' w' => wpT P ops C Q t a' w') Q) [o] a w)
  | .fork oi oj ti tj, a, w => Shut (wpList P ops (schedTo C (fun a' w' => wpT P ops C Q ti a' w') Q) [oi] a w ∧ wpList P ops (schedTo C (fun a' w' => wpT P ops C Q tj a' w') Q) [oj] a w)
theorem wpAnyU_sched (hl : lastU ops z zt = true) (hs : Region.noSelect ops = true) (hQ : ∀ c a (d : Tmp) v w, Q (.panic c) (Act.put a (some d) v) w → Q (.panic c) a w) :
    ∀ (n : Nat) (σ : STree) (listed : Array Bool) (a : Act) (w : World), RgClosed ops listed → schedT ops z zt n σ listed = true → S w → wpT P ops S (Qt P ops Q (opsAt ops (z :: zt))) (opersT ops σ) a w → wpAnyU P ops Q S z zt n listed a w
  | 0, .nil, listed, a, w, _, hB, _, h => wpChain_of (z :: zt) listed a w hB h.out
  | 0, .op .., _, _, _, _, hB, _, _ => by simp [schedT] at hB
  | 0, .fork .., _, _, _, _, hB, _, _ => by simp [schedT] at hB
  | _ + 1, .nil, _, _, _, _, hB, _, _ => by simp [schedT] at hB
  | n + 1, .op i true t, listed, a, w, hcl, hB, hC, h => by
    simp only [schedT, Bool.and_eq_true, bne_iff_ne, Bool.not_eq_true'] at hB
    obtain ⟨⟨⟨⟨⟨hne, hnt⟩, hr⟩, hf⟩, hk⟩, hB'⟩ := hB
    cases hi : ops[i]? with
    | none => rw [hi] at hk; simp at hk
    | some o =>
      rw [hi] at hk
      simp only [opersT, hi] at h
      unfold wpT at h
      replace h := h.out
      by_cases hw : Region.wanted o (yielded ops a.tmps) = true
      · rw [if_pos hw] at h
        obtain ⟨v, h1, h2⟩ := h
        exact wpAnyU_first hl hi hne hnt (Region.noSelect_spec hs) (fun c a w hh => hQput hQ c a _ _ w hh) _ _ _ _ hcl (Region.free_spec hi hf) (by simpa using hr) (yieldsIf_of_quiet hk hw h1) hC (wpAnyU_sched hl hs hQ n t _ _ _ (hcl.set_ (by simpa using hr)) hB' hC h2)
      · rw [if_neg hw] at h
        exact wpAnyU_first hl hi hne hnt (Region.noSelect_spec hs) (fun c a w hh => hQput hQ c a _ _ w hh) _ _ _ _ hcl (Region.free_spec hi hf) (by simpa using hr) (.inr ⟨by simpa using hw, rfl⟩) hC (wpAnyU_sched hl hs hQ n t _ _ _ (hcl.set_ (by simpa using hr)) hB' hC h)
  | n + 1, .op i false t, listed, a, w, hcl, hB, hC, h => by
    simp only [schedT, Bool.and_eq_true, beq_iff_eq] at hB
    obtain ⟨hr, hB'⟩ := hB
    refine ⟨by rw [hr]; simp, fun j hj => ?_⟩
    have hj0 := hj
    rw [hr] at hj
    obtain rfl : j = i := by simpa using hj
    obtain ⟨_, o, hi, _⟩ := mem_ready.1 hj0
    simp only [opersT, hi] at h
    unfold wpT at h
    replace h := h.out
    exact wpOp_of_list hi h (fun a w hh => ⟨hh.1, wpAnyU_sched hl hs hQ n t _ _ _ (hcl.set_ hj0) hB' hh.1 hh.2⟩) (fun _ _ _ h => h) (fun ⟨a, w, hh⟩ => ⟨a, w, hh⟩)
  | n + 1, .fork i j ti tj, listed, a, w, hcl, hB, hC, h => by
    simp only [schedT, Bool.and_eq_true, beq_iff_eq] at hB
    obtain ⟨⟨hr, hBi⟩, hBj⟩ := hB
    have hmi : i ∈ Region.ready .any ops listed := by rw [hr]; simp
    have hmj : j ∈ Region.ready .any ops listed := by rw [hr]; simp
    obtain ⟨_, oi, hi, _⟩ := mem_ready.1 hmi
    obtain ⟨_, oj, hj, _⟩ := mem_ready.1 hmj
    simp only [opersT, hi, hj] at h
    unfold wpT at h
    replace h := h.out
    refine ⟨by rw [hr]; simp, fun q hq => ?_⟩
    rw [hr] at hq
    simp only [List.mem_cons, List.not_mem_nil, or_false] at hq
    rcases hq with rfl | rfl
    · exact wpOp_of_list hi h.1 (fun a w hh => ⟨hh.1, wpAnyU_sched hl hs hQ n ti _ _ _ (hcl.set_ hmi) hBi hh.1 hh.2⟩) (fun _ _ _ h => h) (fun ⟨a, w, hh⟩ => ⟨a, w, hh⟩)
    · exact wpOp_of_list hj h.2 (fun a w hh => ⟨hh.1, wpAnyU_sched hl hs hQ n tj _ _ _ (hcl.set_ hmj) hBj hh.1 hh.2⟩) (fun _ _ _ h => h) (fun ⟨a, w, hh⟩ => ⟨a, w, hh⟩)
/- The same check with what has come up as a list: the kernel reckons with it in no time. -/
def arrOf (n : Nat) (dn : List Nat) : Array Bool := ((List.range n).map fun j => dn.contains j).toArray
theorem arrOf_size (n : Nat) (dn : List Nat) : (arrOf n dn).size = n := by simp [arrOf]
theorem arrOf_getD (n : Nat) (dn : List Nat) (j : Nat) (d : Bool) : (arrOf n dn).getD j d = if j < n then dn.contains j else d := by
  unfold arrOf
  by_cases h : j < n
  · rw [if_pos h]; simp [h]
  · rw [if_neg h]; simp [h]
theorem arrOf_nil (n : Nat) : Array.replicate n false = arrOf n [] := by
  unfold arrOf
  apply Array.ext
  · simp
  · intro i h1 h2; simp
theorem arrOf_get {n : Nat} (dn : List Nat) {j : Nat} (h : j < (arrOf n dn).size) : (arrOf n dn)[j] = dn.contains j := by
  simp [arrOf]
theorem arrOf_set {n : Nat} (dn : List Nat) {i : Nat} (_hi : i < n) : (arrOf n dn).setIfInBounds i true = arrOf n (i :: dn) := by
  apply Array.ext
  · rw [Array.size_setIfInBounds, arrOf_size, arrOf_size]
  · intro j h1 h2
    have h3 : j < (arrOf n dn).size := by rw [Array.size_setIfInBounds] at h1; exact h1
    rw [Array.getElem_setIfInBounds h3, arrOf_get, arrOf_get, List.contains_cons]
    by_cases e : i = j
    · subst e; simp
    · rw [if_neg e]
      have : (j == i) = false := by rw [beq_eq_false_iff_ne]; exact Ne.symm e
      rw [this, Bool.false_or]
def readyL (ops : Array Oper) (dn : List Nat) : List Nat :=
  (List.range ops.size).filter fun i => !dn.contains i && ((ops[i]?).map (·.after.all fun e => !Region.binds .any e || (decide (e.on < ops.size) && dn.contains e.on))).getD false
theorem readyL_eq (ops : Array Oper) (dn : List Nat) : Region.ready .any ops (arrOf ops.size dn) = readyL ops dn := by
  unfold Region.ready readyL
  apply List.filter_congr
  intro i hi
  rw [List.mem_range] at hi
  rw [arrOf_getD, if_pos hi]
  have hf : (fun (e : _) => !Region.binds .any e || (arrOf ops.size dn).getD e.on false) = fun e => !Region.binds .any e || (decide (e.on < ops.size) && dn.contains e.on) := by
    funext e
    rw [arrOf_getD]
    by_cases h : e.on < ops.size
    · rw [if_pos h]; simp [h]
    · rw [if_neg h]; simp [h]
  rw [hf]
def freeL (ops : Array Oper) (dn : List Nat) (i : Nat) : Bool :=
  match ops[i]? with
  | none => false
  | some oi => (List.range ops.size).all fun j => j == i || dn.contains j || match ops[j]? with
      | some oj => oj.after.any (fun e => Region.binds .any e && e.on == i) || oi.apart ops oj
      | none => true
theorem freeL_eq (ops : Array Oper) (dn : List Nat) (i : Nat) : Region.free .any ops (arrOf ops.size dn) i = freeL ops dn i := by
  unfold Region.free freeL
  cases ops[i]? with
  | none => rfl
  | some oi =>
    simp only
    rw [Bool.eq_iff_iff, List.all_eq_true, List.all_eq_true]
    constructor
    · intro h j hj
      have h1 := h j hj
      rw [List.mem_range] at hj
      rw [arrOf_getD, if_pos hj] at h1
      exact h1
    · intro h j hj
      have h1 := h j hj
      rw [List.mem_range] at hj
      rw [arrOf_getD, if_pos hj]
      exact h1
theorem ready_lt {dn : List Nat} {i : Nat} (h : i ∈ readyL ops dn) : i < ops.size := List.mem_range.1 (List.mem_filter.1 h).1
def chainL (ops : Array Oper) : List Nat → List Nat → Bool
  | [], dn => (readyL ops dn).isEmpty
  | z :: zs, dn => (readyL ops dn == [z]) && chainL ops zs (z :: dn)
theorem chainL_B : ∀ (zs : List Nat) (dn : List Nat), chainL ops zs dn = true → chainB ops zs (arrOf ops.size dn) = true
  | [], dn, h => by unfold chainB; rw [readyL_eq]; exact h
  | z :: zs, dn, h => by
    unfold chainB; rw [readyL_eq]
    simp only [chainL, Bool.and_eq_true, beq_iff_eq] at h ⊢
    have hz : z < ops.size := ready_lt (dn := dn) (by rw [h.1]; simp)
    exact ⟨h.1, by rw [arrOf_set _ hz]; exact chainL_B zs _ h.2⟩
def schedL (ops : Array Oper) (z : Nat) (zt : List Nat) : Nat → STree → List Nat → Bool
  | 0, .nil, dn => chainL ops (z :: zt) dn
  | n + 1, .op i true t, dn => (i != z) && !zt.contains i && (readyL ops dn).contains i && freeL ops dn i && (match ops[i]? with | some o => stillKind o | none => false) && schedL ops z zt n t (i :: dn)
  | n + 1, .op i false t, dn => (readyL ops dn == [i]) && schedL ops z zt n t (i :: dn)
  | n + 1, .fork i j ti tj, dn => (readyL ops dn == [i, j]) && schedL ops z zt n ti (i :: dn) && schedL ops z zt n tj (j :: dn)
  | _, _, _ => false
theorem schedL_T : ∀ (n : Nat) (σ : STree) (dn : List Nat), schedL ops z zt n σ dn = true → schedT ops z zt n σ (arrOf ops.size dn) = true
  | 0, .nil, dn, h => chainL_B _ _ h
  | 0, .op .., _, h => by simp [schedL] at h
  | 0, .fork .., _, h => by simp [schedL] at h
  | _ + 1, .nil, _, h => by simp [schedL] at h
  | n + 1, .op i true t, dn, h => by
    simp only [schedL, Bool.and_eq_true] at h
    obtain ⟨⟨⟨⟨⟨h1, h2⟩, h3⟩, h4⟩, h5⟩, h6⟩ := h
    have hi : i < ops.size := ready_lt (dn := dn) (by simpa using h3)
    simp only [schedT, readyL_eq, freeL_eq, arrOf_set _ hi, Bool.and_eq_true]
    exact ⟨⟨⟨⟨⟨h1, h2⟩, h3⟩, h4⟩, h5⟩, schedL_T n t _ h6⟩
  | n + 1, .op i false t, dn, h => by
    simp only [schedL, Bool.and_eq_true, beq_iff_eq] at h
    have hi : i < ops.size := ready_lt (dn := dn) (by rw [h.1]; simp)
    simp only [schedT, readyL_eq, arrOf_set _ hi, Bool.and_eq_true, beq_iff_eq]
    exact ⟨h.1, schedL_T n t _ h.2⟩
  | n + 1, .fork i j ti tj, dn, h => by
    simp only [schedL, Bool.and_eq_true, beq_iff_eq] at h
    have hi : i < ops.size := ready_lt (dn := dn) (by rw [h.1.1]; simp)
    have hj : j < ops.size := ready_lt (dn := dn) (by rw [h.1.1]; simp)
    simp only [schedT, readyL_eq, arrOf_set _ hi, arrOf_set _ hj, Bool.and_eq_true, beq_iff_eq]
    exact ⟨⟨h.1.1, schedL_T n ti _ h.1.2⟩, schedL_T n tj _ h.2⟩
theorem wp_region_schedT {id : Nat} {a : Act} {w : World} (σ : STree) (n z : Nat) (zt : List Nat) (F : World → Prop) (hm : P.follows .mixedOrders = true) (hs : Region.noSelect ops = true) (hl : lastU ops z zt = true) (hlen : n + (zt.length + 1) = ops.size)
    (hQ : ∀ c a (d : Tmp) v w, Q (.panic c) (Act.put a (some d) v) w → Q (.panic c) a w) (hB : schedL ops z zt n σ [] = true) (hF : F w) (hd : F w → F w.drew)
    (h : Nonempty (Wof F) → wpT P ops (fun w' => ∃ p : Wof F, w' = p.w) (Qt P ops Q (opsAt ops (z :: zt))) (opersT ops σ) a w.drew) : (Code.region id ops true).wp P Q a w := by
  refine wp_region_any hm ?_
  rw [← hlen]
  exact wpAny_of_U n _ a _ (wpAnyU_sched hl hs hQ n σ _ a _ (RgClosed.start _ _) (by rw [hlen, arrOf_nil]; exact schedL_T _ _ _ hB) ⟨⟨_, hd hF⟩, rfl⟩ (h ⟨⟨_, hF⟩⟩))
theorem wpT_nil {C : World → Prop} {a : Act} {w : World} {zs : List Oper} (h : wpTail P ops Q zs a w) : wpT P ops C (Qt P ops Q zs) .nil a w := ⟨h⟩
theorem wpTail_cons {a : Act} {w : World} {o : Oper} {r : List Oper} (h : wpList P ops (schedTo (fun _ => True) (fun a' w' => wpTail P ops Q r a' w') Q) [o] a w) : wpTail P ops Q (o :: r) a w := h
theorem wpTail_nil {a : Act} {w : World} (h : Q .normal a w) : wpTail P ops Q [] a w := h
theorem tail_back {K : Act → World → Prop} {a : Act} {w : World} (h : K a w) : schedTo (fun _ => True) K Q .normal a w := ⟨trivial, h⟩
theorem wpT_want {C : World → Prop} {a : Act} {w : World} {o : Oper} {t : OTree} (hw : Region.wanted o (yielded ops a.tmps) = true)
    (h : ∀ K : Act → Prop, (∀ a, wpT P ops C Q t a w → K a) → o.quiet P a C K) : wpT P ops C Q (.op true o t) a w := by
  unfold wpT
  refine ⟨?_⟩
  rw [if_pos hw]
  exact h _ (fun _ h => h)
theorem wpT_skip {C : World → Prop} {a : Act} {w : World} {o : Oper} {t : OTree} (hw : Region.wanted o (yielded ops a.tmps) = false)
    (h : wpT P ops C Q t (a.put o.dst undef) w) : wpT P ops C Q (.op true o t) a w := by
  unfold wpT
  refine ⟨?_⟩
  rw [if_neg (by rw [hw]; simp)]
  exact h
theorem wpT_free {C : World → Prop} {a : Act} {w : World} {o : Oper} {t : OTree} (hg : o.guard = none)
    (h : ∀ K : Act → Prop, (∀ a, wpT P ops C Q t a w → K a) → o.quiet P a C K) : wpT P ops C Q (.op true o t) a w := wpT_want (wanted_none hg) h
theorem wpT_wantS {C : World → Prop} {a : Act} {w : World} {o : Oper} {t : OTree} {j : Nat} {b : Bool} (d : Tmp) (hg : o.guard = some (j, b)) (hd : (ops[j]?).bind (·.dst) = some d) (hv : a.tmps[d]? = some (.bool b))
    (h : ∀ K : Act → Prop, (∀ a, wpT P ops C Q t a w → K a) → o.quiet P a C K) : wpT P ops C Q (.op true o t) a w := wpT_want ((wanted_slot d hg hd hv).trans (by simp [boolOf])) h
theorem wpT_skipS {C : World → Prop} {a : Act} {w : World} {o : Oper} {t : OTree} {j : Nat} {b c : Bool} (d : Tmp) (hg : o.guard = some (j, b)) (hd : (ops[j]?).bind (·.dst) = some d) (hv : a.tmps[d]? = some (.bool c)) (hb : (c == b) = false)
    (h : wpT P ops C Q t (a.put o.dst undef) w) : wpT P ops C Q (.op true o t) a w := wpT_skip ((wanted_slot d hg hd hv).trans (by simpa [boolOf] using hb)) h
theorem wpT_skipU {C : World → Prop} {a : Act} {w : World} {o : Oper} {t : OTree} {j : Nat} {b : Bool} (d : Tmp) (hg : o.guard = some (j, b)) (hd : (ops[j]?).bind (·.dst) = some d) (hv : a.tmps[d]? = some undef)
    (h : wpT P ops C Q t (a.put o.dst undef) w) : wpT P ops C Q (.op true o t) a w := wpT_skip ((wanted_slot d hg hd hv).trans rfl) h
theorem wpT_other {C : World → Prop} {a : Act} {w : World} {o : Oper} {t : OTree} (h : wpList P ops (schedTo C (fun a' w' => wpT P ops C Q t a' w') Q) [o] a w) : wpT P ops C Q (.op false o t) a w := ⟨h⟩
theorem wpT_fork {C : World → Prop} {a : Act} {w : World} {oi oj : Oper} {ti tj : OTree} (h1 : wpList P ops (schedTo C (fun a' w' => wpT P ops C Q ti a' w') Q) [oi] a w) (h2 : wpList P ops (schedTo C (fun a' w' => wpT P ops C Q tj a' w') Q) [oj] a w) :
    wpT P ops C Q (.fork oi oj ti tj) a w := ⟨⟨h1, h2⟩⟩
end
end Go.Proofs.Ytmikckhihfcooaa
