/- A block that is known whole, and a world in which one block alone has turned. word.Check and the reference's Long: is a string too long? A region that draws its order, walked once along a schedule: operations that yield in every world of a class are taken as soon as they may come up; where one of the others comes up, it is the only one that may. No program in sight. -/
import Derived.Test.YtncakjchaniheaaPk01
import Derived.OrdersHeld
import Derived.Deep.RegionHeld
namespace Go.Proofs.Ytncakjchaniheaa
open Go.RowKit
/-- Block g is these cells. -/
def Blk (w : World) (g : Nat) (t : TypeId) (cs : Array Value) : Prop := w.heap[g]? = some (.cells cs t (0, 0))
section
variable {w w' : World} {g : Nat} {t : TypeId} {cs : Array Value}
theorem Blk.lt (h : Blk w g t cs) : g < w.heap.size := (Array.getElem?_eq_some_iff.1 h).1
theorem Blk.cell (h : Blk w g t cs) (i : Nat) : w.cell? ⟨g, i, none⟩ = cs[i]? := cell_of_row w g i cs t (0, 0) h
theorem Blk.cell0 {a : Value} {r : List Value} (h : Blk w g t ⟨a :: r⟩) : w.cell? ⟨g, 0, none⟩ = some a := h.cell 0
theorem Blk.cell1 {a b : Value} {r : List Value} (h : Blk w g t ⟨a :: b :: r⟩) : w.cell? ⟨g, 1, none⟩ = some b := h.cell 1
theorem Blk.cell2 {a b c : Value} {r : List Value} (h : Blk w g t ⟨a :: b :: c :: r⟩) : w.cell? ⟨g, 2, none⟩ = some c := h.cell 2
theorem Blk.frozen (h : Blk w g t cs) (i : Nat) : w.frozen? ⟨g, i, none⟩ = false := by
  unfold Blk at h
  simp [World.frozen?, h]
theorem Blk.new_ (w : World) (t : TypeId) (cs : Array Value) : Blk (w.alloc (.cells cs t)) w.heap.size t cs := heap_alloc_new w _
theorem Blk.drew (h : Blk w g t cs) : Blk w.drew g t cs := h
theorem Blk.drewN (h : Blk w g t cs) (n : Nat) : Blk (w.drewN n) g t cs := h
theorem Blk.below {B : Nat} (h : Blk w g t cs) (hb : Below B w w') (hg : g < B) : Blk w' g t cs := (hb.block g hg).trans h
theorem Blk.below' (h : Blk w g t cs) (hb : Below w.heap.size w w') : Blk w' g t cs := h.below hb h.lt
theorem Blk.alloc (h : Blk w g t cs) (o : Obj) : Blk (w.alloc o) g t cs := h.below' ((Below.refl _ _).alloc (Nat.le_refl _) _)
theorem Blk.set_ (h : Blk w g t cs) (i : Nat) (u : Value) : Blk (w.setCell ⟨g, i, none⟩ u) g t (cs.setIfInBounds i u) := by
  unfold Blk at h ⊢
  simp [World.setCell, Array.getElem?_modify, h]
theorem Blk.far (h : Blk w g t cs) {p : Addr} (hp : g ≠ p.block) (u : Value) : Blk (w.setCell p u) g t cs := (Below.heap_setCell w p u g hp).trans h
theorem Blk.grown {row : Option Nat} (h : Blk w g t cs) (hb : w.grownBy w' row) (hg : some g ≠ row) : Blk w' g t cs := (hb.block g h.lt hg).trans h
end
section
variable {w w' w2 : World} {row : Option Nat} {g : Nat}
theorem gb_refl (w : World) (row : Option Nat) : w.grownBy w row := ⟨rfl, rfl, rfl, Nat.le_refl _, fun _ _ _ => rfl⟩
theorem gb_trans (h : w.grownBy w' row) (k : w'.grownBy w2 row) : w.grownBy w2 row :=
  ⟨k.os.trans h.os, k.tape.trans h.tape, k.output.trans h.output, Nat.le_trans h.size k.size, fun i hi hr => (k.block i (Nat.lt_of_lt_of_le hi h.size) hr).trans (h.block i hi hr)⟩
theorem gb_of_below (h : Below w.heap.size w w') (row : Option Nat) : w.grownBy w' row := ⟨h.os, h.tape, h.output, h.size, fun k hk _ => h.block k hk⟩
theorem gb_below (h : w.grownBy w' row) (k : Below w'.heap.size w' w2) : w.grownBy w2 row := gb_trans h (gb_of_below k row)
theorem gb_set (h : w.grownBy w' (some g)) (i : Nat) (u : Value) : w.grownBy (w'.setCell ⟨g, i, none⟩ u) (some g) :=
  gb_trans h ⟨rfl, rfl, rfl, by simp [World.setCell], fun k _ hk => Below.heap_setCell w' ⟨g, i, none⟩ u k (fun e => hk (by rw [e]))⟩
theorem gb_alloc (h : w.grownBy w' row) (o : Obj) : w.grownBy (w'.alloc o) row := gb_below h ((Below.refl _ _).alloc (Nat.le_refl _) _)
theorem gb_drewN (h : w.grownBy w' row) (n : Nat) : w.grownBy (w'.drewN n) row := gb_below h (below_drewN (Below.refl _ _) _)
theorem gb_drew (h : w.grownBy w' row) : w.grownBy w'.drew row := gb_below h (Below.drew (Below.refl _ _))
theorem below_gb {base : Nat} {a : World} (h : Below base a w) (hg : w.grownBy w' (some g)) (hb : base ≤ g) (hs : base ≤ w.heap.size) : Below base a w' :=
  h.grown hg hs (fun k hk => by cases hk; exact hb)
end
end Go.Proofs.Ytncakjchaniheaa
namespace Go.Proofs.Ytncakjchaniheaa
open Go.RowKit
def longErr (n : Nat) : Int := if 200 < n then 2 else 0
/-- Of several. -/
def longAll (l : List ByteArray) : Int := if ∃ s ∈ l, 200 < s.size then 2 else 0
theorem longAll_one (s : ByteArray) : longAll [s] = longErr s.size := by simp [longAll, longErr]
theorem wordCheck_any (s : ByteArray) (w : World) :
    Calls Try.prog 11 #[.string s] w fun e w' => e = .returned (.int .i64 (longErr s.size)) ∧ Below w.heap.size w w' := by
  unfold longErr
  go_enter Try.func11, Try.ntmps11
  go_wp2
  all_goals go_ret
  all_goals refine ⟨ret_int ?_, Below.refl _ _⟩
  all_goals rfl
set_option maxRecDepth 100000 in
theorem long_any (l : List ByteArray) (A : Option Addr) (n c B : Nat) (w : World) (hr : Rd w B 1 A n (l.map .string)) (hn : n ≤ 9223372036854775807) :
    Calls Try.prog 7 #[.slice A n c] w fun e w' => e = .returned (.int .i64 (longAll l)) ∧ Below w.heap.size w w' := by
  have hlen : l.length = n := by simpa using hr.1
  have HR := Lib.hid hr; clear hr
  go_enter Try.func7, Try.ntmps7
  go_wp2
  go_loop [2, 7] (fun _ i => ∃ k : Nat, k ≤ n ∧ i = .int .i64 k ∧ ∀ s ∈ l.take k, ¬ 200 < s.size) (fun _ i => n - (intOf i).toNat)
  case atStart => exact ⟨0, Nat.zero_le _, rfl, by simp⟩
  case round =>
    obtain ⟨k, hk, rfl, hno⟩ := hrel
    have HNO := Lib.hid hno; clear hno
    by_cases hlt : k < n
    · obtain ⟨ad, u, rfl, hb, hu, hc⟩ := HR.out.at_ hlt
      simp only [List.getElem?_map, Option.map_eq_some_iff] at hu
      obtain ⟨s, hs, rfl⟩ := hu
      by_cases h2 : 200 < s.size
      · have HL : Hid (longAll l = 2) := by unfold Hid longAll; rw [if_pos ⟨s, List.mem_of_getElem? hs, h2⟩]
        clear hs
        go_wp2
        go_ret
        exact ⟨ret_int HL.out.symm, Below.refl _ _⟩
      · have HS : Hid (∀ x ∈ l.take (k + 1), ¬ 200 < x.size) := by
          intro x hx
          rw [List.take_add_one, hs] at hx
          simp only [List.mem_append, Option.toList_some, List.mem_singleton] at hx
          rcases hx with hx | rfl
          · exact HNO.out x hx
          · exact h2
        clear hs
        go_wp2
        go_round
        case rel => exact ⟨k + 1, by omega, by go_num, HS.out⟩
        case measure => simp [intOf]; omega
    · have HL : Hid (longAll l = 0) := by
        unfold Hid longAll
        rw [if_neg]
        rintro ⟨s, hs, h2⟩
        exact HNO.out s (by rw [List.take_of_length_le (by omega)]; exact hs) h2
      go_wp2
      go_ret
      exact ⟨ret_int HL.out.symm, Below.refl _ _⟩
end Go.Proofs.Ytncakjchaniheaa
namespace Go.Proofs.Ytncakjchaniheaa
open Go.RowKit

/-- An operation that, where it goes through, hands back a value: it calls no Go function and writes nothing by its kind. -/
def stillKind (o : Oper) : Bool :=
  match o.op with
  | .move _ | .assign _ | .nilCheck _ | .pick .. | .load .. | .binOp .. | .unOp .. | .convert .. | .slice .. | .fieldAddr .. | .field .. | .indexAddr .. | .index .. | .lookup .. | .extract .. | .build .. => true
  | .call c => match c.callee with
    | .builtin .len | .builtin .cap | .builtin .min | .builtin .max => true
    | _ => false
  | _ => false

theorem value_of_v {P : Program} {s : Sem Value} {w w' : World} {n : Next} (h : (do let x ← s; pure (Next.value x) : Sem Next).run P w = .ok n w') : ∃ u, n = .value u := by
  simp only [Sem.run_bind, Sem.run_pure] at h
  cases hs : s.run P w with
  | ok v w1 => rw [hs] at h; simp only [Result.andThen_ok, Result.ok.injEq] at h; exact ⟨v, h.1.symm⟩
  | halt x w1 => rw [hs] at h; simp [Result.andThen] at h

theorem ok_bind {α β : Type} {s : Sem α} {k : α → Sem β} {P : Program} {w w' : World} {b : β} (h : (s >>= k).run P w = .ok b w') : ∃ a w1, (k a).run P w1 = .ok b w' := by
  rw [Sem.run_bind] at h
  cases hs : s.run P w with
  | ok a w1 => rw [hs] at h; exact ⟨a, w1, h⟩
  | halt x w1 => rw [hs] at h; simp [Result.andThen] at h
theorem not_ok_panic (P : Program) (w w' : World) {n : Next} : ¬ (runtimePanic .nilDeref : Sem Next).run P w = .ok n w' := by
  intro h
  simp [runtimePanic, goPanic, go_sem] at h
theorem stillKind_value {o : Oper} (hk : stillKind o = true) {ρ : Operand → Value} {P : Program} {w w' : World} {n : Next} (h : (execOp ρ o).run P w = .ok n w') : ∃ u, n = .value u := by
  unfold stillKind at hk
  unfold execOp at h
  cases ho : o.op <;> rw [ho] at hk h <;> simp only [Bool.false_eq_true] at hk <;> dsimp only at h
  case move => simp only [Sem.run_pure, Result.ok.injEq] at h; exact ⟨_, h.1.symm⟩
  case assign => simp only [Sem.run_pure, Result.ok.injEq] at h; exact ⟨_, h.1.symm⟩
  case pick c a b =>
    simp only [Sem.run_bind, Sem.run_pure] at h
    cases hs : (asBool (ρ c)).run P w with
    | ok v w1 => rw [hs] at h; simp only [Result.andThen_ok, Result.ok.injEq] at h; exact ⟨_, h.1.symm⟩
    | halt x w1 => rw [hs] at h; simp [Result.andThen] at h
  case nilCheck x =>
    split at h
    · exact absurd h (not_ok_panic _ _ _)
    · exact absurd h (not_ok_panic _ _ _)
    · exact absurd h (not_ok_panic _ _ _)
    · split at h
      · exact absurd h (not_ok_panic _ _ _)
      · obtain ⟨a, w1, h⟩ := ok_bind h
        obtain ⟨b, w2, h⟩ := ok_bind h
        split at h
        · obtain ⟨c, w3, h⟩ := ok_bind h
          simp only [Sem.run_pure, Result.ok.injEq] at h; exact ⟨_, h.1.symm⟩
        · simp only [Sem.run_pure, Result.ok.injEq] at h; exact ⟨_, h.1.symm⟩
      · simp only [Sem.run_pure, Result.ok.injEq] at h; exact ⟨_, h.1.symm⟩
    · simp only [Sem.run_pure, Result.ok.injEq] at h; exact ⟨_, h.1.symm⟩
  case call c =>
    obtain ⟨callee, args, argTypes⟩ := c
    cases callee with
    | builtin b =>
      simp only [resolve, invoke, Sem.run_bind, Sem.run_pure, Result.andThen_ok] at h
      cases b <;> simp only [Bool.false_eq_true] at hk <;> exact value_of_v (by simpa [builtin, Sem.run_bind, Sem.run_pure] using h)
    | _ => simp only [Bool.false_eq_true] at hk
  all_goals exact value_of_v h

section
variable {P : Program} {ops : Array Oper} {Q : Exit → Act → World → Prop} {C : World → Prop}

theorem yieldsIf_of_quiet {o : Oper} {a : Act} {v : Value} (hk : stillKind o = true) (hw : Region.wanted o (yielded ops a.tmps) = true) (h : ∀ w, C w → o.quietAt P a C w v) : YieldsIf P ops C o v a := by
  refine .inl ⟨hw, fun w hC => ?_⟩
  have h1 := h w hC
  unfold Oper.quietAt at h1
  cases hr : (execOp a.eval o).run P w with
  | ok n w' =>
    rw [hr] at h1
    obtain ⟨u, rfl⟩ := stillKind_value hk hr
    simp only [Oper.quietUpon] at h1
    rw [h1.1, h1.2]
  | halt x w' => rw [hr] at h1; simp only [Oper.quietUpon] at h1

/-- What stands behind one operation of the other kind. -/
def schedTo (C : World → Prop) (K : Act → World → Prop) (Q : Exit → Act → World → Prop) : Exit → Act → World → Prop
  | .normal, a, w => C w ∧ K a w
  | .exit id, a, w => Q (.exit id) a w
  | .goto l, a, w => Q (.goto l) a w
  | .ret, a, w => Q .ret a w
  | .panic c, a, w => Q (.panic c) a w
  | .outgrown, a, w => Q .outgrown a w

/-- A fact that nothing unfolds into. -/
structure Shut (p : Prop) : Prop where
  out : p
/-- THE WALK ALONG A SCHEDULE (true: yields in every world of the class). -/
def wpSched (P : Program) (ops : Array Oper) (C : World → Prop) (Q : Exit → Act → World → Prop) : List (Bool × Oper) → Act → World → Prop
  | [], a, w => Shut (Q .normal a w)
  | (true, o) :: rest, a, w => Shut (if Region.wanted o (yielded ops a.tmps) then o.quiet P a C (fun a' => wpSched P ops C Q rest a' w) else wpSched P ops C Q rest (a.put o.dst undef) w)
  | (false, o) :: rest, a, w => Shut (wpList P ops (schedTo C (fun a' w' => wpSched P ops C Q rest a' w') Q) [o] a w)

/-- May the schedule be followed? -/
def schedB (ops : Array Oper) : List (Nat × Bool) → Array Bool → Bool
  | [], listed => (Region.ready .any ops listed).isEmpty
  | (i, true) :: rest, listed => (Region.ready .any ops listed).contains i && Region.free .any ops listed i && (match ops[i]? with | some o => stillKind o | none => false) && schedB ops rest (listed.setIfInBounds i true)
  | (i, false) :: rest, listed => (Region.ready .any ops listed == [i]) && schedB ops rest (listed.setIfInBounds i true)
def opersOf (ops : Array Oper) : List (Nat × Bool) → List (Bool × Oper)
  | [] => []
  | (i, b) :: rest => match ops[i]? with
    | some o => (b, o) :: opersOf ops rest
    | none => opersOf ops rest

theorem hQput (hQ : ∀ c a (d : Tmp) v w, Q (.panic c) (Act.put a (some d) v) w → Q (.panic c) a w) (c : List PanicEntry) (a : Act) (d : Option Tmp) (v : Value) (w : World) (h : Q (.panic c) (Act.put a d v) w) : Q (.panic c) a w := by
  cases d with
  | none => exact h
  | some d => exact hQ c a d v w h
theorem wpAnyH_sched (hs : Region.noSelect ops = true) (hQ : ∀ c a (d : Tmp) v w, Q (.panic c) (Act.put a (some d) v) w → Q (.panic c) a w) :
    ∀ (σ : List (Nat × Bool)) (listed : Array Bool) (a : Act) (w : World), schedB ops σ listed = true → C w → wpSched P ops C Q (opersOf ops σ) a w → wpAnyH P .any ops Q C σ.length listed a w
  | [], listed, a, w, hB, _, h => by
    refine ⟨?_, h.out⟩
    simpa [schedB] using hB
  | (i, true) :: rest, listed, a, w, hB, hC, h => by
    simp only [schedB, Bool.and_eq_true] at hB
    obtain ⟨⟨⟨hr, hf⟩, hk⟩, hB'⟩ := hB
    cases hi : ops[i]? with
    | none => rw [hi] at hk; simp at hk
    | some o =>
      rw [hi] at hk
      simp only [opersOf, hi] at h
      unfold wpSched at h
      replace h := h.out
      by_cases hw : Region.wanted o (yielded ops a.tmps) = true
      · rw [if_pos hw] at h
        obtain ⟨v, h1, h2⟩ := h
        exact wpAnyH_take hi hs hf hr (fun c a w hh => hQput hQ c a _ _ w hh) (yieldsIf_of_quiet hk hw h1) hC (wpAnyH_sched hs hQ rest _ _ _ hB' hC h2)
      · rw [if_neg hw] at h
        exact wpAnyH_take hi hs hf hr (fun c a w hh => hQput hQ c a _ _ w hh) (.inr ⟨by simpa using hw, rfl⟩) hC (wpAnyH_sched hs hQ rest _ _ _ hB' hC h)
  | (i, false) :: rest, listed, a, w, hB, hC, h => by
    simp only [schedB, Bool.and_eq_true, beq_iff_eq] at hB
    obtain ⟨hr, hB'⟩ := hB
    refine wpAnyH_all hr (by simp) fun j hj => ?_
    obtain rfl : j = i := by simpa using hj
    cases hi : ops[j]? with
    | none =>
      exfalso
      have hm : j ∈ Region.ready .any ops listed := by rw [hr]; simp
      obtain ⟨_, o, ho, _⟩ := mem_ready.1 hm
      rw [hi] at ho; cases ho
    | some o =>
      simp only [opersOf, hi] at h
      unfold wpSched at h
      replace h := h.out
      unfold wpList at h
      unfold wpOp
      simp only [hi]
      have hlet : LetsOut (schedTo C (fun a' w' => wpSched P ops C Q (opersOf ops rest) a' w') Q) → LetsOut Q := fun ⟨a, w, hh⟩ => ⟨a, w, hh⟩
      by_cases hw : Region.wanted o (yielded ops a.tmps) = true
      · rw [if_pos hw] at h ⊢
        rcases h with h | ⟨h1, h2⟩
        · left
          unfold Oper.wp at h ⊢
          generalize (execOp a.eval o).run P w = r at *
          cases r with
          | ok n w' =>
            cases n <;> simp only [Oper.upon] at h ⊢
            case enter f args =>
              exact h.mono fun e w'' hh => by
                cases e with
                | returned v => exact ⟨hh.1, wpAnyH_sched hs hQ rest _ _ _ hB' hh.1 hh.2⟩
                | panicked c => exact hh
                | outgrown => exact hlet hh
            case row row args => exact h.mono fun v w'' hh => ⟨hh.1, wpAnyH_sched hs hQ rest _ _ _ hB' hh.1 hh.2⟩
            all_goals first
              | exact ⟨h.1, wpAnyH_sched hs hQ rest _ _ _ hB' h.1 h.2⟩
              | exact h
          | halt x w' =>
            cases x <;> simp only [Oper.upon] at h ⊢
            all_goals exact h
        · exact .inr ⟨h1, hlet h2⟩
      · rw [if_neg hw] at h ⊢
        exact ⟨h.1, wpAnyH_sched hs hQ rest _ _ _ hB' h.1 h.2⟩

theorem wp_region_sched {id : Nat} {a : Act} {w : World} (σ : List (Nat × Bool)) (C : World → Prop) (hm : P.follows .mixedOrders = true) (hs : Region.noSelect ops = true) (hlen : σ.length = ops.size)
    (hQ : ∀ c a (d : Tmp) v w, Q (.panic c) (Act.put a (some d) v) w → Q (.panic c) a w) (hB : schedB ops σ (Array.replicate ops.size false) = true) (hC : C w.drew)
    (h : wpSched P ops C Q (opersOf ops σ) a w.drew) : (Code.region id ops true).wp P Q a w :=
  wp_region_held hm (by rw [← hlen]; exact wpAnyH_sched hs hQ σ _ a _ (by rw [hlen]; exact hB) hC h)
theorem wpSched_nil {a : Act} {w : World} (h : Q .normal a w) : wpSched P ops C Q [] a w := ⟨h⟩
theorem wpSched_want {a : Act} {w : World} {o : Oper} {rest : List (Bool × Oper)} (hw : Region.wanted o (yielded ops a.tmps) = true)
    (h : ∀ K : Act → Prop, (∀ a, wpSched P ops C Q rest a w → K a) → o.quiet P a C K) : wpSched P ops C Q ((true, o) :: rest) a w := by
  unfold wpSched
  refine ⟨?_⟩
  rw [if_pos hw]
  exact h _ (fun _ h => h)
theorem wpSched_skip {a : Act} {w : World} {o : Oper} {rest : List (Bool × Oper)} (hw : Region.wanted o (yielded ops a.tmps) = false)
    (h : wpSched P ops C Q rest (a.put o.dst undef) w) : wpSched P ops C Q ((true, o) :: rest) a w := by
  unfold wpSched
  refine ⟨?_⟩
  rw [if_neg (by rw [hw]; simp)]
  exact h
theorem wanted_none {tmps : Array Value} {o : Oper} (hg : o.guard = none) : Region.wanted o (yielded ops tmps) = true := by unfold Region.wanted; rw [hg]
def boolOf : Value → Option Bool
  | .bool c => some c
  | _ => none
theorem wanted_slot {ops : Array Oper} {tmps : Array Value} {o : Oper} {j : Nat} {b : Bool} (d : Tmp) {v : Value} (hg : o.guard = some (j, b)) (hd : (ops[j]?).bind (·.dst) = some d) (hv : tmps[d]? = some v) :
    Region.wanted o (yielded ops tmps) = (boolOf v == some b) := by
  unfold Region.wanted
  rw [hg]
  have e : yielded ops tmps j = boolOf v := by
    unfold yielded
    generalize he : ((ops[j]?).bind (·.dst)).bind (tmps[·]?) = x
    have hx : x = some v := by rw [← he, hd]; exact hv
    subst hx
    cases v <;> rfl
  show (yielded ops tmps j == some b) = _
  rw [e]
theorem wpSched_free {a : Act} {w : World} {o : Oper} {rest : List (Bool × Oper)} (hg : o.guard = none)
    (h : ∀ K : Act → Prop, (∀ a, wpSched P ops C Q rest a w → K a) → o.quiet P a C K) : wpSched P ops C Q ((true, o) :: rest) a w := wpSched_want (wanted_none hg) h
theorem wpSched_wantS {a : Act} {w : World} {o : Oper} {rest : List (Bool × Oper)} {j : Nat} {b : Bool} (d : Tmp) (hg : o.guard = some (j, b)) (hd : (ops[j]?).bind (·.dst) = some d) (hv : a.tmps[d]? = some (.bool b))
    (h : ∀ K : Act → Prop, (∀ a, wpSched P ops C Q rest a w → K a) → o.quiet P a C K) : wpSched P ops C Q ((true, o) :: rest) a w := wpSched_want ((wanted_slot d hg hd hv).trans (by simp [boolOf])) h
theorem wpSched_skipS {a : Act} {w : World} {o : Oper} {rest : List (Bool × Oper)} {j : Nat} {b c : Bool} (d : Tmp) (hg : o.guard = some (j, b)) (hd : (ops[j]?).bind (·.dst) = some d) (hv : a.tmps[d]? = some (.bool c)) (hb : (c == b) = false)
    (h : wpSched P ops C Q rest (a.put o.dst undef) w) : wpSched P ops C Q ((true, o) :: rest) a w := wpSched_skip ((wanted_slot d hg hd hv).trans (by simpa [boolOf] using hb)) h
theorem wpSched_skipU {a : Act} {w : World} {o : Oper} {rest : List (Bool × Oper)} {j : Nat} {b : Bool} (d : Tmp) (hg : o.guard = some (j, b)) (hd : (ops[j]?).bind (·.dst) = some d) (hv : a.tmps[d]? = some undef)
    (h : wpSched P ops C Q rest (a.put o.dst undef) w) : wpSched P ops C Q ((true, o) :: rest) a w := wpSched_skip ((wanted_slot d hg hd hv).trans rfl) h
theorem wpSched_other {a : Act} {w : World} {o : Oper} {rest : List (Bool × Oper)} (h : wpList P ops (schedTo C (fun a' w' => wpSched P ops C Q rest a' w') Q) [o] a w) : wpSched P ops C Q ((false, o) :: rest) a w := ⟨h⟩
end
/-- The worlds in which F holds. -/
structure Wof (F : World → Prop) where
  w : World
  h : F w
def inWof (F : World → Prop) : World → Prop := fun w' => ∃ p : Wof F, w' = p.w
theorem wp_region_schedF {P : Program} {ops : Array Oper} {Q : Exit → Act → World → Prop} {id : Nat} {a : Act} {w : World} (σ : List (Nat × Bool)) (F : World → Prop) (hm : P.follows .mixedOrders = true) (hs : Region.noSelect ops = true) (hlen : σ.length = ops.size)
    (hQ : ∀ c a (d : Tmp) v w, Q (.panic c) (Act.put a (some d) v) w → Q (.panic c) a w) (hB : schedB ops σ (Array.replicate ops.size false) = true) (hF : F w) (hd : F w → F w.drew)
    (h : Nonempty (Wof F) → wpSched P ops (fun w' => ∃ p : Wof F, w' = p.w) Q (opersOf ops σ) a w.drew) : (Code.region id ops true).wp P Q a w :=
  wp_region_sched σ _ hm hs hlen hQ hB ⟨⟨_, hd hF⟩, rfl⟩ (h ⟨⟨_, hF⟩⟩)
theorem sched_back {F : World → Prop} {K : Act → World → Prop} {Q : Exit → Act → World → Prop} {a : Act} {w : World} (hF : F w) (h : K a w) : schedTo (fun w' => ∃ p : Wof F, w' = p.w) K Q .normal a w := ⟨⟨⟨w, hF⟩, rfl⟩, h⟩
end Go.Proofs.Ytncakjchaniheaa
