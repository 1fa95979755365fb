/- The walks of package shift's Check, Do and Past, and of the reference's. A region that draws its order, walked once along a schedule: operations that yield in every world of a class are taken as soon as they may come up; where one of the others comes up, it is the only one that may. No program in sight. The walk of shift.Do. -/
import Derived.Test.YtmikckhihfcooaaPk01
import Derived.OrdersHeld
import Derived.Deep.RegionHeld
namespace Go.Proofs.Ytmikckhihfcooaa
open Go.RowKit
theorem op_out {a p b e : Int} {z : Op} {c : Int} (h : (⟨a, p, b⟩ : Op) = z) (he : e = c) :
    Ending.returned (.tuple #[.agg #[.int .i64 a, .int .i64 p, .int .u8 b], .int .i64 e]) = .returned (.tuple #[z.val, .int .i64 c]) := by subst h; subst he; rfl
theorem op_out1 {a p b : Int} {z : Op} (h : (⟨a, p, b⟩ : Op) = z) : Ending.returned (.agg #[.int .i64 a, .int .i64 p, .int .u8 b]) = .returned z.val := by subst h; rfl
theorem opErr_bound {n : Int} {x : Op} (h : opErr n x = 0) : 0 ≤ n ∧ n ≤ 200 ∧ 0 ≤ x.pos ∧ x.pos ≤ n := by
  unfold opErr at h; grind
end Go.Proofs.Ytmikckhihfcooaa
namespace Go.Proofs.Ytmikckhihfcooaa
open Go.RowKit

/-- An operation that, where it goes through, hands back a value: it calls no Go function and writes nothing by its kind. -/
def stillKind (o : Oper) : Bool :=
  match o.op with
  | .move _ | .assign _ | .nilCheck _ | .pick .. | .load .. | .binOp .. | .unOp .. | .convert .. | .slice .. | .fieldAddr .. | .field .. | .indexAddr .. | .index .. | .lookup .. | .extract .. | .build .. => true
  | .call c => match c.callee with
    | .builtin .len | .builtin .cap | .builtin .min | .builtin .max => true
    | _ => false
  | _ => false

theorem value_of_v {P : Program} {s : Sem Value} {w w' : World} {n : Next} (h : (do let x ← s; pure (Next.value x) : Sem Next).run P w = .ok n w') : ∃ u, n = .value u := by
  simp only [Sem.run_bind, Sem.run_pure] at h
  cases hs : s.run P w with
  | ok v w1 => rw [hs] at h; simp only [Result.andThen_ok, Result.ok.injEq] at h; exact ⟨v, h.1.symm⟩
  | halt x w1 => rw [hs] at h; simp [Result.andThen] at h

theorem ok_bind {α β : Type} {s : Sem α} {k : α → Sem β} {P : Program} {w w' : World} {b : β} (h : (s >>= k).run P w = .ok b w') : ∃ a w1, (k a).run P w1 = .ok b w' := by
  rw [Sem.run_bind] at h
  cases hs : s.run P w with
  | ok a w1 => rw [hs] at h; exact ⟨a, w1, h⟩
  | halt x w1 => rw [hs] at h; simp [Result.andThen] at h
theorem not_ok_panic (P : Program) (w w' : World) {n : Next} : ¬ (runtimePanic .nilDeref : Sem Next).run P w = .ok n w' := by
  intro h
  simp [runtimePanic, goPanic, go_sem] at h
theorem stillKind_value {o : Oper} (hk : stillKind o = true) {ρ : Operand → Value} {P : Program} {w w' : World} {n : Next} (h : (execOp ρ o).run P w = .ok n w') : ∃ u, n = .value u := by
  unfold stillKind at hk
  unfold execOp at h
  cases ho : o.op <;> rw [ho] at hk h <;> simp only [Bool.false_eq_true] at hk <;> dsimp only at h
  case move => simp only [Sem.run_pure, Result.ok.injEq] at h; exact ⟨_, h.1.symm⟩
  case assign => simp only [Sem.run_pure, Result.ok.injEq] at h; exact ⟨_, h.1.symm⟩
  case pick c a b =>
    simp only [Sem.run_bind, Sem.run_pure] at h
    cases hs : (asBool (ρ c)).run P w with
    | ok v w1 => rw [hs] at h; simp only [Result.andThen_ok, Result.ok.injEq] at h; exact ⟨_, h.1.symm⟩
    | halt x w1 => rw [hs] at h; simp [Result.andThen] at h
  case nilCheck x =>
    split at h
    · exact absurd h (not_ok_panic _ _ _)
    · exact absurd h (not_ok_panic _ _ _)
    · exact absurd h (not_ok_panic _ _ _)
    · split at h
      · exact absurd h (not_ok_panic _ _ _)
      · obtain ⟨a, w1, h⟩ := ok_bind h
        obtain ⟨b, w2, h⟩ := ok_bind h
        split at h
        · obtain ⟨c, w3, h⟩ := ok_bind h
          simp only [Sem.run_pure, Result.ok.injEq] at h; exact ⟨_, h.1.symm⟩
        · simp only [Sem.run_pure, Result.ok.injEq] at h; exact ⟨_, h.1.symm⟩
      · simp only [Sem.run_pure, Result.ok.injEq] at h; exact ⟨_, h.1.symm⟩
    · simp only [Sem.run_pure, Result.ok.injEq] at h; exact ⟨_, h.1.symm⟩
  case call c =>
    obtain ⟨callee, args, argTypes⟩ := c
    cases callee with
    | builtin b =>
      simp only [resolve, invoke, Sem.run_bind, Sem.run_pure, Result.andThen_ok] at h
      cases b <;> simp only [Bool.false_eq_true] at hk <;> exact value_of_v (by simpa [builtin, Sem.run_bind, Sem.run_pure] using h)
    | _ => simp only [Bool.false_eq_true] at hk
  all_goals exact value_of_v h

section
variable {P : Program} {ops : Array Oper} {Q : Exit → Act → World → Prop} {C : World → Prop}

theorem yieldsIf_of_quiet {o : Oper} {a : Act} {v : Value} (hk : stillKind o = true) (hw : Region.wanted o (yielded ops a.tmps) = true) (h : ∀ w, C w → o.quietAt P a C w v) : YieldsIf P ops C o v a := by
  refine .inl ⟨hw, fun w hC => ?_⟩
  have h1 := h w hC
  unfold Oper.quietAt at h1
  cases hr : (execOp a.eval o).run P w with
  | ok n w' =>
    rw [hr] at h1
    obtain ⟨u, rfl⟩ := stillKind_value hk hr
    simp only [Oper.quietUpon] at h1
    rw [h1.1, h1.2]
  | halt x w' => rw [hr] at h1; simp only [Oper.quietUpon] at h1

/-- What stands behind one operation of the other kind. -/
def schedTo (C : World → Prop) (K : Act → World → Prop) (Q : Exit → Act → World → Prop) : Exit → Act → World → Prop
  | .normal, a, w => C w ∧ K a w
  | .exit id, a, w => Q (.exit id) a w
  | .goto l, a, w => Q (.goto l) a w
  | .ret, a, w => Q .ret a w
  | .panic c, a, w => Q (.panic c) a w
  | .outgrown, a, w => Q .outgrown a w

/-- A fact that nothing unfolds into. -/
structure Shut (p : Prop) : Prop where
  out : p
/-- THE WALK ALONG A SCHEDULE (true: yields in every world of the class). -/
def wpSched (P : Program) (ops : Array Oper) (C : World → Prop) (Q : Exit → Act → World → Prop) : List (Bool × Oper) → Act → World → Prop
  | [], a, w => Shut (Q .normal a w)
  | (true, o) :: rest, a, w => Shut (if Region.wanted o (yielded ops a.tmps) then o.quiet P a C (fun a' => wpSched P ops C Q rest a' w) else wpSched P ops C Q rest (a.put o.dst undef) w)
  | (false, o) :: rest, a, w => Shut (wpList P ops (schedTo C (fun a' w' => wpSched P ops C Q rest a' w') Q) [o] a w)

/-- May the schedule be followed? -/
def schedB (ops : Array Oper) : List (Nat × Bool) → Array Bool → Bool
  | [], listed => (Region.ready .any ops listed).isEmpty
  | (i, true) :: rest, listed => (Region.ready .any ops listed).contains i && Region.free .any ops listed i && (match ops[i]? with | some o => stillKind o | none => false) && schedB ops rest (listed.setIfInBounds i true)
  | (i, false) :: rest, listed => (Region.ready .any ops listed == [i]) && schedB ops rest (listed.setIfInBounds i true)
def opersOf (ops : Array Oper) : List (Nat × Bool) → List (Bool × Oper)
  | [] => []
  | (i, b) :: rest => match ops[i]? with
    | some o => (b, o) :: opersOf ops rest
    | none => opersOf ops rest

theorem hQput (hQ : ∀ c a (d : Tmp) v w, Q (.panic c) (Act.put a (some d) v) w → Q (.panic c) a w) (c : List PanicEntry) (a : Act) (d : Option Tmp) (v : Value) (w : World) (h : Q (.panic c) (Act.put a d v) w) : Q (.panic c) a w := by
  cases d with
  | none => exact h
  | some d => exact hQ c a d v w h
theorem wpAnyH_sched (hs : Region.noSelect ops = true) (hQ : ∀ c a (d : Tmp) v w, Q (.panic c) (Act.put a (some d) v) w → Q (.panic c) a w) :
    ∀ (σ : List (Nat × Bool)) (listed : Array Bool) (a : Act) (w : World), schedB ops σ listed = true → C w → wpSched P ops C Q (opersOf ops σ) a w → wpAnyH P .any ops Q C σ.length listed a w
  | [], listed, a, w, hB, _, h => by
    refine ⟨?_, h.out⟩
    simpa [schedB] using hB
  | (i, true) :: rest, listed, a, w, hB, hC, h => by
    simp only [schedB, Bool.and_eq_true] at hB
    obtain ⟨⟨⟨hr, hf⟩, hk⟩, hB'⟩ := hB
    cases hi : ops[i]? with
    | none => rw [hi] at hk; simp at hk
    | some o =>
      rw [hi] at hk
      simp only [opersOf, hi] at h
      unfold wpSched at h
      replace h := h.out
      by_cases hw : Region.wanted o (yielded ops a.tmps) = true
      · rw [if_pos hw] at h
        obtain ⟨v, h1, h2⟩ := h
        exact wpAnyH_take hi hs hf hr (fun c a w hh => hQput hQ c a _ _ w hh) (yieldsIf_of_quiet hk hw h1) hC (wpAnyH_sched hs hQ rest _ _ _ hB' hC h2)
      · rw [if_neg hw] at h
        exact wpAnyH_take hi hs hf hr (fun c a w hh => hQput hQ c a _ _ w hh) (.inr ⟨by simpa using hw, rfl⟩) hC (wpAnyH_sched hs hQ rest _ _ _ hB' hC h)
  | (i, false) :: rest, listed, a, w, hB, hC, h => by
    simp only [schedB, Bool.and_eq_true, beq_iff_eq] at hB
    obtain ⟨hr, hB'⟩ := hB
    refine wpAnyH_all hr (by simp) fun j hj => ?_
    obtain rfl : j = i := by simpa using hj
    cases hi : ops[j]? with
    | none =>
      exfalso
      have hm : j ∈ Region.ready .any ops listed := by rw [hr]; simp
      obtain ⟨_, o, ho, _⟩ := mem_ready.1 hm
      rw [hi] at ho; cases ho
    | some o =>
      simp only [opersOf, hi] at h
      unfold wpSched at h
      replace h := h.out
      unfold wpList at h
      unfold wpOp
      simp only [hi]
      have hlet : LetsOut (schedTo C (fun a' w' => wpSched P ops C Q (opersOf ops rest) a' w') Q) → LetsOut Q := fun ⟨a, w, hh⟩ => ⟨a, w, hh⟩
      by_cases hw : Region.wanted o (yielded ops a.tmps) = true
      · rw [if_pos hw] at h ⊢
        rcases h with h | ⟨h1, h2⟩
        · left
          unfold Oper.wp at h ⊢
          generalize (execOp a.eval o).run P w = r at *
          cases r with
          | ok n w' =>
            cases n <;> simp only [Oper.upon] at h ⊢
            case enter f args =>
              exact h.mono fun e w'' hh => by
                cases e with
                | returned v => exact ⟨hh.1, wpAnyH_sched hs hQ rest _ _ _ hB' hh.1 hh.2⟩
                | panicked c => exact hh
                | outgrown => exact hlet hh
            case row row args => exact h.mono fun v w'' hh => ⟨hh.1, wpAnyH_sched hs hQ rest _ _ _ hB' hh.1 hh.2⟩
            all_goals first
              | exact ⟨h.1, wpAnyH_sched hs hQ rest _ _ _ hB' h.1 h.2⟩
              | exact h
          | halt x w' =>
            cases x <;> simp only [Oper.upon] at h ⊢
            all_goals exact h
        · exact .inr ⟨h1, hlet h2⟩
      · rw [if_neg hw] at h ⊢
        exact ⟨h.1, wpAnyH_sched hs hQ rest _ _ _ hB' h.1 h.2⟩

theorem wp_region_sched {id : Nat} {a : Act} {w : World} (σ : List (Nat × Bool)) (C : World → Prop) (hm : P.follows .mixedOrders = true) (hs : Region.noSelect ops = true) (hlen : σ.length = ops.size)
    (hQ : ∀ c a (d : Tmp) v w, Q (.panic c) (Act.put a (some d) v) w → Q (.panic c) a w) (hB : schedB ops σ (Array.replicate ops.size false) = true) (hC : C w.drew)
    (h : wpSched P ops C Q (opersOf ops σ) a w.drew) : (Code.region id ops true).wp P Q a w :=
  wp_region_held hm (by rw [← hlen]; exact wpAnyH_sched hs hQ σ _ a _ (by rw [hlen]; exact hB) hC h)
theorem wpSched_nil {a : Act} {w : World} (h : Q .normal a w) : wpSched P ops C Q [] a w := ⟨h⟩
theorem wpSched_want {a : Act} {w : World} {o : Oper} {rest : List (Bool × Oper)} (hw : Region.wanted o (yielded ops a.tmps) = true)
    (h : ∀ K : Act → Prop, (∀ a, wpSched P ops C Q rest a w → K a) → o.quiet P a C K) : wpSched P ops C Q ((true, o) :: rest) a w := by
  unfold wpSched
  refine ⟨?_⟩
  rw [if_pos hw]
  exact h _ (fun _ h => h)
theorem wpSched_skip {a : Act} {w : World} {o : Oper} {rest : List (Bool × Oper)} (hw : Region.wanted o (yielded ops a.tmps) = false)
    (h : wpSched P ops C Q rest (a.put o.dst undef) w) : wpSched P ops C Q ((true, o) :: rest) a w := by
  unfold wpSched
  refine ⟨?_⟩
  rw [if_neg (by rw [hw]; simp)]
  exact h
theorem wanted_none {tmps : Array Value} {o : Oper} (hg : o.guard = none) : Region.wanted o (yielded ops tmps) = true := by unfold Region.wanted; rw [hg]
def boolOf : Value → Option Bool
  | .bool c => some c
  | _ => none
theorem wanted_slot {ops : Array Oper} {tmps : Array Value} {o : Oper} {j : Nat} {b : Bool} (d : Tmp) {v : Value} (hg : o.guard = some (j, b)) (hd : (ops[j]?).bind (·.dst) = some d) (hv : tmps[d]? = some v) :
    Region.wanted o (yielded ops tmps) = (boolOf v == some b) := by
  unfold Region.wanted
  rw [hg]
  have e : yielded ops tmps j = boolOf v := by
    unfold yielded
    generalize he : ((ops[j]?).bind (·.dst)).bind (tmps[·]?) = x
    have hx : x = some v := by rw [← he, hd]; exact hv
    subst hx
    cases v <;> rfl
  show (yielded ops tmps j == some b) = _
  rw [e]
theorem wpSched_free {a : Act} {w : World} {o : Oper} {rest : List (Bool × Oper)} (hg : o.guard = none)
    (h : ∀ K : Act → Prop, (∀ a, wpSched P ops C Q rest a w → K a) → o.quiet P a C K) : wpSched P ops C Q ((true, o) :: rest) a w := wpSched_want (wanted_none hg) h
theorem wpSched_wantS {a : Act} {w : World} {o : Oper} {rest : List (Bool × Oper)} {j : Nat} {b : Bool} (d : Tmp) (hg : o.guard = some (j, b)) (hd : (ops[j]?).bind (·.dst) = some d) (hv : a.tmps[d]? = some (.bool b))
    (h : ∀ K : Act → Prop, (∀ a, wpSched P ops C Q rest a w → K a) → o.quiet P a C K) : wpSched P ops C Q ((true, o) :: rest) a w := wpSched_want ((wanted_slot d hg hd hv).trans (by simp [boolOf])) h
theorem wpSched_skipS {a : Act} {w : World} {o : Oper} {rest : List (Bool × Oper)} {j : Nat} {b c : Bool} (d : Tmp) (hg : o.guard = some (j, b)) (hd : (ops[j]?).bind (·.dst) = some d) (hv : a.tmps[d]? = some (.bool c)) (hb : (c == b) = false)
    (h : wpSched P ops C Q rest (a.put o.dst undef) w) : wpSched P ops C Q ((true, o) :: rest) a w := wpSched_skip ((wanted_slot d hg hd hv).trans (by simpa [boolOf] using hb)) h
theorem wpSched_skipU {a : Act} {w : World} {o : Oper} {rest : List (Bool × Oper)} {j : Nat} {b : Bool} (d : Tmp) (hg : o.guard = some (j, b)) (hd : (ops[j]?).bind (·.dst) = some d) (hv : a.tmps[d]? = some undef)
    (h : wpSched P ops C Q rest (a.put o.dst undef) w) : wpSched P ops C Q ((true, o) :: rest) a w := wpSched_skip ((wanted_slot d hg hd hv).trans rfl) h
theorem wpSched_other {a : Act} {w : World} {o : Oper} {rest : List (Bool × Oper)} (h : wpList P ops (schedTo C (fun a' w' => wpSched P ops C Q rest a' w') Q) [o] a w) : wpSched P ops C Q ((false, o) :: rest) a w := ⟨h⟩
end
/-- The worlds in which F holds. -/
structure Wof (F : World → Prop) where
  w : World
  h : F w
def inWof (F : World → Prop) : World → Prop := fun w' => ∃ p : Wof F, w' = p.w
theorem wp_region_schedF {P : Program} {ops : Array Oper} {Q : Exit → Act → World → Prop} {id : Nat} {a : Act} {w : World} (σ : List (Nat × Bool)) (F : World → Prop) (hm : P.follows .mixedOrders = true) (hs : Region.noSelect ops = true) (hlen : σ.length = ops.size)
    (hQ : ∀ c a (d : Tmp) v w, Q (.panic c) (Act.put a (some d) v) w → Q (.panic c) a w) (hB : schedB ops σ (Array.replicate ops.size false) = true) (hF : F w) (hd : F w → F w.drew)
    (h : Nonempty (Wof F) → wpSched P ops (fun w' => ∃ p : Wof F, w' = p.w) Q (opersOf ops σ) a w.drew) : (Code.region id ops true).wp P Q a w :=
  wp_region_sched σ _ hm hs hlen hQ hB ⟨⟨_, hd hF⟩, rfl⟩ (h ⟨⟨_, hF⟩⟩)
theorem sched_back {F : World → Prop} {K : Act → World → Prop} {Q : Exit → Act → World → Prop} {a : Act} {w : World} (hF : F w) (h : K a w) : schedTo (fun w' => ∃ p : Wof F, w' = p.w) K Q .normal a w := ⟨⟨⟨w, hF⟩, rfl⟩, h⟩
end Go.Proofs.Ytmikckhihfcooaa
namespace Go.Proofs.Ytmikckhihfcooaa
open Go.RowKit
/-- What an operation makes of a text. -/
def doB (s : ByteArray) (x : Op) : ByteArray :=
  if x.kind = 1 then s.extract 0 x.pos.toNat ++ S [UInt8.ofNat x.b.toNat] ++ s.extract x.pos.toNat s.size
  else if x.kind = 2 then s.extract 0 x.pos.toNat ++ s.extract (x.pos.toNat + 1) s.size
  else s
theorem one_cells (b : Int) (h0 : 0 ≤ b) (h1 : b < 256) : (#[Value.int .u8 b] : Array Value).toList = byteCells [UInt8.ofNat b.toNat] := by
  have h : b = ((UInt8.ofNat b.toNat).toNat : Int) := by rw [UInt8.toNat_ofNat']; omega
  rw [byteCells, List.map_cons, ← h]; rfl
theorem opErr_kind {n : Int} {x : Op} (h : opErr n x = 0) : (x.kind = 1 ∧ 0 ≤ x.pos ∧ x.pos ≤ n ∨ x.kind = 2 ∧ 0 ≤ x.pos ∧ x.pos < n ∨ x.kind = 3) ∧ 0 ≤ n ∧ n ≤ 200 := by
  unfold opErr at h; grind
end Go.Proofs.Ytmikckhihfcooaa
