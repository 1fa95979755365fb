/- A script as a text: reading, the program's way and the document's (plain). A region that draws its order, walked once along a schedule: operations that yield in every world of a class are taken as soon as they may come up; where one of the others comes up, it is the only one that may. No program in sight. edit.Check, the reference's EditsErr and Grows. -/
import Derived.Test.YtplgghjdidmcfaaGreatDoorPk02
import Derived.Test.YtplgghjdidmcfaaGreatDoorPk01
import Derived.OrdersHeld
import Derived.Deep.RegionHeld
namespace Go.Proofs.YtplgghjdidmcfaaGreatDoor
def scrOneE (x : Ed) : Int := if x.at_ < 0 ∨ 200 < x.at_ ∨ x.del < 0 ∨ 200 < x.del then 1 else if 40 < x.ins.length then 2 else 0
def scrGo : List Ed → Int
  | [] => 0
  | x :: l => if scrOneE x = 0 then scrGo l else scrOneE x
def scrErr (l : List Ed) : Int := if 20 < l.length then 2 else scrGo l
theorem scrGo_take {l : List Ed} {k : Nat} (h : ∀ i, i < k → ∀ x, l[i]? = some x → scrOneE x = 0) : scrGo l = scrGo (l.drop k) := by
  induction l generalizing k with
  | nil => simp
  | cons x l ih =>
    cases k with
    | zero => rfl
    | succ k =>
      rw [List.drop_succ_cons, scrGo, if_pos (h 0 (by omega) x rfl)]
      exact ih fun i hi y hy => h (i + 1) (by omega) y (by simpa using hy)
theorem scrGo_zero {l : List Ed} : scrGo l = 0 ↔ ∀ x ∈ l, scrOneE x = 0 := by
  induction l with
  | nil => simp [scrGo]
  | cons x l ih =>
    rw [scrGo]
    by_cases h : scrOneE x = 0
    · rw [if_pos h, ih]; simp [h]
    · rw [if_neg h]; simp [h]
theorem scrErr_zero {l : List Ed} : scrErr l = 0 ↔ l.length ≤ 20 ∧ ∀ x ∈ l, scrOneE x = 0 := by
  unfold scrErr
  by_cases h : 20 < l.length
  · rw [if_pos h]
    constructor
    · intro h2; cases h2
    · intro h2; omega
  · rw [if_neg h, scrGo_zero]
    exact ⟨fun h2 => ⟨by omega, h2⟩, fun h2 => h2.2⟩
def rest3 (r : List UInt8) (a d n : Nat) : Option (Ed × List UInt8) := if n < r.length ∧ r.getD n 0 = 59 then some (⟨(a : Int), (d : Int), r.take n⟩, r.drop (n + 1)) else none
def entryR (s : List UInt8) : Option (Ed × List UInt8) := match cutNum s 32 with
  | none => none
  | some (a, r1) => match cutNum r1 32 with
    | none => none
    | some (d, r2) => match cutNum r2 58 with
      | none => none
      | some (n, r3) => rest3 r3 a d n
def entryP (s : List UInt8) : Option (Ed × List UInt8) := match progNum s 32 200 with
  | none => none
  | some (a, r1) => match progNum r1 32 200 with
    | none => none
    | some (d, r2) => match progNum r2 58 40 with
      | none => none
      | some (n, r3) => rest3 r3 a d n
theorem rest3_some {r r' : List UInt8} {a d n : Nat} {x : Ed} (h : rest3 r a d n = some (x, r')) : x = ⟨(a : Int), (d : Int), r.take n⟩ ∧ n < r.length ∧ r' = r.drop (n + 1) := by
  unfold rest3 at h
  split at h
  · rename_i h1
    simp only [Option.some.injEq, Prod.mk.injEq] at h
    exact ⟨h.1.symm, h1.1, h.2.symm⟩
  · cases h
def fits (o : Option (Ed × List UInt8)) : Option (Ed × List UInt8) := match o with
  | some p => if scrOneE p.1 = 0 then some p else none
  | none => none
theorem fits_rest3 (r : List UInt8) (a d n : Nat) : fits (rest3 r a d n) = if a ≤ 200 ∧ d ≤ 200 ∧ n ≤ 40 then rest3 r a d n else none := by
  cases h : rest3 r a d n with
  | none => simp [fits]
  | some p =>
    obtain ⟨x, r'⟩ := p
    obtain ⟨h1, h2, _⟩ := rest3_some h
    have h3 : (r.take n).length = n := by rw [List.length_take]; omega
    unfold fits
    simp only
    subst h1
    by_cases hh : a ≤ 200 ∧ d ≤ 200 ∧ n ≤ 40
    · rw [if_pos hh, if_pos]
      unfold scrOneE
      rw [h3, if_neg (by simp only; omega), if_neg (by omega)]
    · rw [if_neg hh, if_neg]
      unfold scrOneE
      rw [h3]
      intro h4
      split at h4
      · cases h4
      · split at h4
        · cases h4
        · rename_i h5 h6
          simp only at h5
          omega
theorem entryP_eq (s : List UInt8) : entryP s = fits (entryR s) := by
  unfold entryP entryR progNum
  cases cutNum s 32 with
  | none => rfl
  | some p1 =>
    obtain ⟨a, r1⟩ := p1
    simp only
    cases h2 : cutNum r1 32 with
    | none =>
      simp only [fits]
      by_cases ha : a ≤ 200
      · rw [if_pos ha]; simp only [h2]
      · rw [if_neg ha]
    | some p2 =>
      obtain ⟨d, r2⟩ := p2
      simp only
      cases h3 : cutNum r2 58 with
      | none =>
        simp only [fits]
        by_cases ha : a ≤ 200
        · rw [if_pos ha]; simp only [h2]
          by_cases hd : d ≤ 200
          · rw [if_pos hd]; simp only [h3]
          · rw [if_neg hd]
        · rw [if_neg ha]
      | some p3 =>
        obtain ⟨n, r3⟩ := p3
        simp only
        rw [fits_rest3]
        by_cases ha : a ≤ 200
        · rw [if_pos ha]; simp only [h2]
          by_cases hd : d ≤ 200
          · rw [if_pos hd]; simp only [h3]
            by_cases hn : n ≤ 40
            · rw [if_pos hn, if_pos ⟨ha, hd, hn⟩]
            · rw [if_neg hn, if_neg (fun h => hn h.2.2)]
          · rw [if_neg hd, if_neg (fun h => hd h.2.1)]
        · rw [if_neg ha, if_neg (fun h => ha h.1)]
theorem cutNum_len {s r : List UInt8} {c : UInt8} {v : Nat} (h : cutNum s c = some (v, r)) : r.length < s.length := by
  unfold cutNum at h
  cases hc : cutSB s c with
  | none => rw [hc] at h; cases h
  | some p =>
    rw [hc] at h
    simp only [Option.map_eq_some_iff, Prod.mk.injEq] at h
    obtain ⟨v', _, _, rfl⟩ := h
    exact cutSB_len (a := p.1) (r := p.2) hc
theorem entryR_len {s r : List UInt8} {x : Ed} (h : entryR s = some (x, r)) : r.length < s.length := by
  unfold entryR at h
  cases h1 : cutNum s 32 with
  | none => rw [h1] at h; cases h
  | some p1 =>
    obtain ⟨a, r1⟩ := p1
    rw [h1] at h
    simp only at h
    cases h2 : cutNum r1 32 with
    | none => rw [h2] at h; cases h
    | some p2 =>
      obtain ⟨d, r2⟩ := p2
      rw [h2] at h
      simp only at h
      cases h3 : cutNum r2 58 with
      | none => rw [h3] at h; cases h
      | some p3 =>
        obtain ⟨n, r3⟩ := p3
        rw [h3] at h
        simp only at h
        obtain ⟨_, _, rfl⟩ := rest3_some h
        have := cutNum_len h1
        have := cutNum_len h2
        have := cutNum_len h3
        rw [List.length_drop]; omega
def readF : Nat → List UInt8 → Option (List Ed)
  | 0, _ => none
  | f + 1, s => if s = [] then some [] else match entryR s with
    | none => none
    | some p => (readF f p.2).map (p.1 :: ·)
theorem readF_more : ∀ (f : Nat) {g : Nat} {s : List UInt8}, s.length < f → s.length < g → readF f s = readF g s := by
  intro f
  induction f with
  | zero => intro g s h; omega
  | succ f ih =>
    intro g s h1 h2
    obtain ⟨g, rfl⟩ : ∃ g', g = g' + 1 := ⟨g - 1, by omega⟩
    rw [readF, readF]
    by_cases hs : s = []
    · rw [if_pos hs, if_pos hs]
    · rw [if_neg hs, if_neg hs]
      cases he : entryR s with
      | none => rfl
      | some p =>
        have := entryR_len (x := p.1) (r := p.2) he
        simp only
        rw [ih (g := g) (s := p.2) (by omega) (by omega)]
def readR (s : List UInt8) : Option (List Ed) := readF (s.length + 1) s
theorem readR_nil : readR [] = some [] := rfl
theorem readR_step {s : List UInt8} (hs : s ≠ []) : readR s = match entryR s with
    | none => none
    | some p => (readR p.2).map (p.1 :: ·) := by
  unfold readR
  rw [readF, if_neg hs]
  cases he : entryR s with
  | none => rfl
  | some p =>
    have := entryR_len (x := p.1) (r := p.2) he
    simp only
    rw [readF_more s.length (g := p.2.length + 1) (s := p.2) (by omega) (by omega)]
/-- What the program reads behind n entries. -/
def readP (n : Nat) (s : List UInt8) : Option (List Ed) := match readR s with
  | some out => if n + out.length ≤ 20 ∧ ∀ x ∈ out, scrOneE x = 0 then some out else none
  | none => none
theorem readP_nil {n : Nat} (h : n ≤ 20) : readP n [] = some [] := by
  unfold readP; rw [readR_nil]; simp; omega
theorem readP_full {s : List UInt8} (hs : s ≠ []) : readP 20 s = none := by
  unfold readP
  rw [readR_step hs]
  cases entryR s with
  | none => rfl
  | some p =>
    simp only
    cases readR p.2 with
    | none => rfl
    | some out => simp only [Option.map_some]; rw [if_neg]; rintro ⟨h, _⟩; rw [List.length_cons] at h; omega
theorem readP_step {s : List UInt8} {n : Nat} (hs : s ≠ []) : readP n s = match entryP s with
    | none => none
    | some p => (readP (n + 1) p.2).map (p.1 :: ·) := by
  rw [entryP_eq]
  unfold readP
  rw [readR_step hs]
  cases entryR s with
  | none => rfl
  | some p =>
    simp only [fits]
    cases hr : readR p.2 with
    | none =>
      simp only [Option.map_none]
      by_cases h : scrOneE p.1 = 0
      · rw [if_pos h]; simp only [hr, Option.map_none]
      · rw [if_neg h]
    | some out =>
      simp only [Option.map_some]
      by_cases h : scrOneE p.1 = 0
      · rw [if_pos h]; simp only [hr]
        by_cases h2 : n + 1 + out.length ≤ 20 ∧ ∀ x ∈ out, scrOneE x = 0
        · rw [if_pos h2, if_pos ⟨by rw [List.length_cons]; omega, fun x hx => by
            rcases List.mem_cons.1 hx with rfl | hx
            · exact h
            · exact h2.2 x hx⟩]; rfl
        · rw [if_neg h2, if_neg (fun h3 => h2 ⟨by have := h3.1; rw [List.length_cons] at this; omega, fun x hx => h3.2 x (List.mem_cons_of_mem _ hx)⟩)]; rfl
      · rw [if_neg h, if_neg (fun h3 => h (h3.2 _ List.mem_cons_self))]
theorem readP_zero (s : List UInt8) : readP 0 s = match readR s with
    | some out => if scrErr out = 0 then some out else none
    | none => none := by
  unfold readP
  cases readR s with
  | none => rfl
  | some out =>
    simp only [Nat.zero_add]
    by_cases h : scrErr out = 0
    · rw [if_pos h, if_pos (scrErr_zero.1 h)]
    · rw [if_neg h, if_neg (fun h2 => h (scrErr_zero.2 h2))]
theorem map_app {o : Option (List Ed)} {out : List Ed} {x : Ed} : ((o.map (x :: ·)).map (out ++ ·)) = o.map ((out ++ [x]) ++ ·) := by
  cases o with
  | none => rfl
  | some l => simp
end Go.Proofs.YtplgghjdidmcfaaGreatDoor
namespace Go.Proofs.YtplgghjdidmcfaaGreatDoor
open Go.RowKit

/-- An operation that, where it goes through, hands back a value: it calls no Go function and writes nothing by its kind. -/
def stillKind (o : Oper) : Bool :=
  match o.op with
  | .move _ | .assign _ | .nilCheck _ | .pick .. | .load .. | .binOp .. | .unOp .. | .convert .. | .slice .. | .fieldAddr .. | .field .. | .indexAddr .. | .index .. | .lookup .. | .extract .. | .build .. => true
  | .call c => match c.callee with
    | .builtin .len | .builtin .cap | .builtin .min | .builtin .max => true
    | _ => false
  | _ => false

theorem value_of_v {P : Program} {s : Sem Value} {w w' : World} {n : Next} (h : (do let x ← s; pure (Next.value x) : Sem Next).run P w = .ok n w') : ∃ u, n = .value u := by
  simp only [Sem.run_bind, Sem.run_pure] at h
  cases hs : s.run P w with
  | ok v w1 => rw [hs] at h; simp only [Result.andThen_ok, Result.ok.injEq] at h; exact ⟨v, h.1.symm⟩
  | halt x w1 => rw [hs] at h; simp [Result.andThen] at h

theorem ok_bind {α β : Type} {s : Sem α} {k : α → Sem β} {P : Program} {w w' : World} {b : β} (h : (s >>= k).run P w = .ok b w') : ∃ a w1, (k a).run P w1 = .ok b w' := by
  rw [Sem.run_bind] at h
  cases hs : s.run P w with
  | ok a w1 => rw [hs] at h; exact ⟨a, w1, h⟩
  | halt x w1 => rw [hs] at h; simp [Result.andThen] at h
theorem not_ok_panic (P : Program) (w w' : World) {n : Next} : ¬ (runtimePanic .nilDeref : Sem Next).run P w = .ok n w' := by
  intro h
  simp [runtimePanic, goPanic, go_sem] at h
theorem stillKind_value {o : Oper} (hk : stillKind o = true) {ρ : Operand → Value} {P : Program} {w w' : World} {n : Next} (h : (execOp ρ o).run P w = .ok n w') : ∃ u, n = .value u := by
  unfold stillKind at hk
  unfold execOp at h
  cases ho : o.op <;> rw [ho] at hk h <;> simp only [Bool.false_eq_true] at hk <;> dsimp only at h
  case move => simp only [Sem.run_pure, Result.ok.injEq] at h; exact ⟨_, h.1.symm⟩
  case assign => simp only [Sem.run_pure, Result.ok.injEq] at h; exact ⟨_, h.1.symm⟩
  case pick c a b =>
    simp only [Sem.run_bind, Sem.run_pure] at h
    cases hs : (asBool (ρ c)).run P w with
    | ok v w1 => rw [hs] at h; simp only [Result.andThen_ok, Result.ok.injEq] at h; exact ⟨_, h.1.symm⟩
    | halt x w1 => rw [hs] at h; simp [Result.andThen] at h
  case nilCheck x =>
    split at h
    · exact absurd h (not_ok_panic _ _ _)
    · exact absurd h (not_ok_panic _ _ _)
    · exact absurd h (not_ok_panic _ _ _)
    · split at h
      · exact absurd h (not_ok_panic _ _ _)
      · obtain ⟨a, w1, h⟩ := ok_bind h
        obtain ⟨b, w2, h⟩ := ok_bind h
        split at h
        · obtain ⟨c, w3, h⟩ := ok_bind h
          simp only [Sem.run_pure, Result.ok.injEq] at h; exact ⟨_, h.1.symm⟩
        · simp only [Sem.run_pure, Result.ok.injEq] at h; exact ⟨_, h.1.symm⟩
      · simp only [Sem.run_pure, Result.ok.injEq] at h; exact ⟨_, h.1.symm⟩
    · simp only [Sem.run_pure, Result.ok.injEq] at h; exact ⟨_, h.1.symm⟩
  case call c =>
    obtain ⟨callee, args, argTypes⟩ := c
    cases callee with
    | builtin b =>
      simp only [resolve, invoke, Sem.run_bind, Sem.run_pure, Result.andThen_ok] at h
      cases b <;> simp only [Bool.false_eq_true] at hk <;> exact value_of_v (by simpa [builtin, Sem.run_bind, Sem.run_pure] using h)
    | _ => simp only [Bool.false_eq_true] at hk
  all_goals exact value_of_v h

section
variable {P : Program} {ops : Array Oper} {Q : Exit → Act → World → Prop} {C : World → Prop}

theorem yieldsIf_of_quiet {o : Oper} {a : Act} {v : Value} (hk : stillKind o = true) (hw : Region.wanted o (yielded ops a.tmps) = true) (h : ∀ w, C w → o.quietAt P a C w v) : YieldsIf P ops C o v a := by
  refine .inl ⟨hw, fun w hC => ?_⟩
  have h1 := h w hC
  unfold Oper.quietAt at h1
  cases hr : (execOp a.eval o).run P w with
  | ok n w' =>
    rw [hr] at h1
    obtain ⟨u, rfl⟩ := stillKind_value hk hr
    simp only [Oper.quietUpon] at h1
    rw [h1.1, h1.2]
  | halt x w' => rw [hr] at h1; simp only [Oper.quietUpon] at h1

/-- What stands behind one operation of the other kind. -/
def schedTo (C : World → Prop) (K : Act → World → Prop) (Q : Exit → Act → World → Prop) : Exit → Act → World → Prop
  | .normal, a, w => C w ∧ K a w
  | .exit id, a, w => Q (.exit id) a w
  | .goto l, a, w => Q (.goto l) a w
  | .ret, a, w => Q .ret a w
  | .panic c, a, w => Q (.panic c) a w
  | .outgrown, a, w => Q .outgrown a w

/-- A fact that nothing unfolds into. -/
structure Shut (p : Prop) : Prop where
  out : p
/-- THE WALK ALONG A SCHEDULE (true: yields in every world of the class). -/
def wpSched (P : Program) (ops : Array Oper) (C : World → Prop) (Q : Exit → Act → World → Prop) : List (Bool × Oper) → Act → World → Prop
  | [], a, w => Shut (Q .normal a w)
  | (true, o) :: rest, a, w => Shut (if Region.wanted o (yielded ops a.tmps) then o.quiet P a C (fun a' => wpSched P ops C Q rest a' w) else wpSched P ops C Q rest (a.put o.dst undef) w)
  | (false, o) :: rest, a, w => Shut (wpList P ops (schedTo C (fun a' w' => wpSched P ops C Q rest a' w') Q) [o] a w)

/-- May the schedule be followed? -/
def schedB (ops : Array Oper) : List (Nat × Bool) → Array Bool → Bool
  | [], listed => (Region.ready .any ops listed).isEmpty
  | (i, true) :: rest, listed => (Region.ready .any ops listed).contains i && Region.free .any ops listed i && (match ops[i]? with | some o => stillKind o | none => false) && schedB ops rest (listed.setIfInBounds i true)
  | (i, false) :: rest, listed => (Region.ready .any ops listed == [i]) && schedB ops rest (listed.setIfInBounds i true)
def opersOf (ops : Array Oper) : List (Nat × Bool) → List (Bool × Oper)
  | [] => []
  | (i, b) :: rest => match ops[i]? with
    | some o => (b, o) :: opersOf ops rest
    | none => opersOf ops rest

theorem hQput (hQ : ∀ c a (d : Tmp) v w, Q (.panic c) (Act.put a (some d) v) w → Q (.panic c) a w) (c : List PanicEntry) (a : Act) (d : Option Tmp) (v : Value) (w : World) (h : Q (.panic c) (Act.put a d v) w) : Q (.panic c) a w := by
  cases d with
  | none => exact h
  | some d => exact hQ c a d v w h
theorem wpAnyH_sched (hs : Region.noSelect ops = true) (hQ : ∀ c a (d : Tmp) v w, Q (.panic c) (Act.put a (some d) v) w → Q (.panic c) a w) :
    ∀ (σ : List (Nat × Bool)) (listed : Array Bool) (a : Act) (w : World), schedB ops σ listed = true → C w → wpSched P ops C Q (opersOf ops σ) a w → wpAnyH P .any ops Q C σ.length listed a w
  | [], listed, a, w, hB, _, h => by
    refine ⟨?_, h.out⟩
    simpa [schedB] using hB
  | (i, true) :: rest, listed, a, w, hB, hC, h => by
    simp only [schedB, Bool.and_eq_true] at hB
    obtain ⟨⟨⟨hr, hf⟩, hk⟩, hB'⟩ := hB
    cases hi : ops[i]? with
    | none => rw [hi] at hk; simp at hk
    | some o =>
      rw [hi] at hk
      simp only [opersOf, hi] at h
      unfold wpSched at h
      replace h := h.out
      by_cases hw : Region.wanted o (yielded ops a.tmps) = true
      · rw [if_pos hw] at h
        obtain ⟨v, h1, h2⟩ := h
        exact wpAnyH_take hi hs hf hr (fun c a w hh => hQput hQ c a _ _ w hh) (yieldsIf_of_quiet hk hw h1) hC (wpAnyH_sched hs hQ rest _ _ _ hB' hC h2)
      · rw [if_neg hw] at h
        exact wpAnyH_take hi hs hf hr (fun c a w hh => hQput hQ c a _ _ w hh) (.inr ⟨by simpa using hw, rfl⟩) hC (wpAnyH_sched hs hQ rest _ _ _ hB' hC h)
  | (i, false) :: rest, listed, a, w, hB, hC, h => by
    simp only [schedB, Bool.and_eq_true, beq_iff_eq] at hB
    obtain ⟨hr, hB'⟩ := hB
    refine wpAnyH_all hr (by simp) fun j hj => ?_
    obtain rfl : j = i := by simpa using hj
    cases hi : ops[j]? with
    | none =>
      exfalso
      have hm : j ∈ Region.ready .any ops listed := by rw [hr]; simp
      obtain ⟨_, o, ho, _⟩ := mem_ready.1 hm
      rw [hi] at ho; cases ho
    | some o =>
      simp only [opersOf, hi] at h
      unfold wpSched at h
      replace h := h.out
      unfold wpList at h
      unfold wpOp
      simp only [hi]
      have hlet : LetsOut (schedTo C (fun a' w' => wpSched P ops C Q (opersOf ops rest) a' w') Q) → LetsOut Q := fun ⟨a, w, hh⟩ => ⟨a, w, hh⟩
      by_cases hw : Region.wanted o (yielded ops a.tmps) = true
      · rw [if_pos hw] at h ⊢
        rcases h with h | ⟨h1, h2⟩
        · left
          unfold Oper.wp at h ⊢
          generalize (execOp a.eval o).run P w = r at *
          cases r with
          | ok n w' =>
            cases n <;> simp only [Oper.upon] at h ⊢
            case enter f args =>
              exact h.mono fun e w'' hh => by
                cases e with
                | returned v => exact ⟨hh.1, wpAnyH_sched hs hQ rest _ _ _ hB' hh.1 hh.2⟩
                | panicked c => exact hh
                | outgrown => exact hlet hh
            case row row args => exact h.mono fun v w'' hh => ⟨hh.1, wpAnyH_sched hs hQ rest _ _ _ hB' hh.1 hh.2⟩
            all_goals first
              | exact ⟨h.1, wpAnyH_sched hs hQ rest _ _ _ hB' h.1 h.2⟩
              | exact h
          | halt x w' =>
            cases x <;> simp only [Oper.upon] at h ⊢
            all_goals exact h
        · exact .inr ⟨h1, hlet h2⟩
      · rw [if_neg hw] at h ⊢
        exact ⟨h.1, wpAnyH_sched hs hQ rest _ _ _ hB' h.1 h.2⟩

theorem wp_region_sched {id : Nat} {a : Act} {w : World} (σ : List (Nat × Bool)) (C : World → Prop) (hm : P.follows .mixedOrders = true) (hs : Region.noSelect ops = true) (hlen : σ.length = ops.size)
    (hQ : ∀ c a (d : Tmp) v w, Q (.panic c) (Act.put a (some d) v) w → Q (.panic c) a w) (hB : schedB ops σ (Array.replicate ops.size false) = true) (hC : C w.drew)
    (h : wpSched P ops C Q (opersOf ops σ) a w.drew) : (Code.region id ops true).wp P Q a w :=
  wp_region_held hm (by rw [← hlen]; exact wpAnyH_sched hs hQ σ _ a _ (by rw [hlen]; exact hB) hC h)
theorem wpSched_nil {a : Act} {w : World} (h : Q .normal a w) : wpSched P ops C Q [] a w := ⟨h⟩
theorem wpSched_want {a : Act} {w : World} {o : Oper} {rest : List (Bool × Oper)} (hw : Region.wanted o (yielded ops a.tmps) = true)
    (h : ∀ K : Act → Prop, (∀ a, wpSched P ops C Q rest a w → K a) → o.quiet P a C K) : wpSched P ops C Q ((true, o) :: rest) a w := by
  unfold wpSched
  refine ⟨?_⟩
  rw [if_pos hw]
  exact h _ (fun _ h => h)
theorem wpSched_skip {a : Act} {w : World} {o : Oper} {rest : List (Bool × Oper)} (hw : Region.wanted o (yielded ops a.tmps) = false)
    (h : wpSched P ops C Q rest (a.put o.dst undef) w) : wpSched P ops C Q ((true, o) :: rest) a w := by
  unfold wpSched
  refine ⟨?_⟩
  rw [if_neg (by rw [hw]; simp)]
  exact h
theorem wanted_none {tmps : Array Value} {o : Oper} (hg : o.guard = none) : Region.wanted o (yielded ops tmps) = true := by unfold Region.wanted; rw [hg]
def boolOf : Value → Option Bool
  | .bool c => some c
  | _ => none
theorem wanted_slot {ops : Array Oper} {tmps : Array Value} {o : Oper} {j : Nat} {b : Bool} (d : Tmp) {v : Value} (hg : o.guard = some (j, b)) (hd : (ops[j]?).bind (·.dst) = some d) (hv : tmps[d]? = some v) :
    Region.wanted o (yielded ops tmps) = (boolOf v == some b) := by
  unfold Region.wanted
  rw [hg]
  have e : yielded ops tmps j = boolOf v := by
    unfold yielded
    generalize he : ((ops[j]?).bind (·.dst)).bind (tmps[·]?) = x
    have hx : x = some v := by rw [← he, hd]; exact hv
    subst hx
    cases v <;> rfl
  show (yielded ops tmps j == some b) = _
  rw [e]
theorem wpSched_free {a : Act} {w : World} {o : Oper} {rest : List (Bool × Oper)} (hg : o.guard = none)
    (h : ∀ K : Act → Prop, (∀ a, wpSched P ops C Q rest a w → K a) → o.quiet P a C K) : wpSched P ops C Q ((true, o) :: rest) a w := wpSched_want (wanted_none hg) h
theorem wpSched_wantS {a : Act} {w : World} {o : Oper} {rest : List (Bool × Oper)} {j : Nat} {b : Bool} (d : Tmp) (hg : o.guard = some (j, b)) (hd : (ops[j]?).bind (·.dst) = some d) (hv : a.tmps[d]? = some (.bool b))
    (h : ∀ K : Act → Prop, (∀ a, wpSched P ops C Q rest a w → K a) → o.quiet P a C K) : wpSched P ops C Q ((true, o) :: rest) a w := wpSched_want ((wanted_slot d hg hd hv).trans (by simp [boolOf])) h
theorem wpSched_skipS {a : Act} {w : World} {o : Oper} {rest : List (Bool × Oper)} {j : Nat} {b c : Bool} (d : Tmp) (hg : o.guard = some (j, b)) (hd : (ops[j]?).bind (·.dst) = some d) (hv : a.tmps[d]? = some (.bool c)) (hb : (c == b) = false)
    (h : wpSched P ops C Q rest (a.put o.dst undef) w) : wpSched P ops C Q ((true, o) :: rest) a w := wpSched_skip ((wanted_slot d hg hd hv).trans (by simpa [boolOf] using hb)) h
theorem wpSched_skipU {a : Act} {w : World} {o : Oper} {rest : List (Bool × Oper)} {j : Nat} {b : Bool} (d : Tmp) (hg : o.guard = some (j, b)) (hd : (ops[j]?).bind (·.dst) = some d) (hv : a.tmps[d]? = some undef)
    (h : wpSched P ops C Q rest (a.put o.dst undef) w) : wpSched P ops C Q ((true, o) :: rest) a w := wpSched_skip ((wanted_slot d hg hd hv).trans rfl) h
theorem wpSched_other {a : Act} {w : World} {o : Oper} {rest : List (Bool × Oper)} (h : wpList P ops (schedTo C (fun a' w' => wpSched P ops C Q rest a' w') Q) [o] a w) : wpSched P ops C Q ((false, o) :: rest) a w := ⟨h⟩
end
/-- The worlds in which F holds. -/
structure Wof (F : World → Prop) where
  w : World
  h : F w
def inWof (F : World → Prop) : World → Prop := fun w' => ∃ p : Wof F, w' = p.w
theorem wp_region_schedF {P : Program} {ops : Array Oper} {Q : Exit → Act → World → Prop} {id : Nat} {a : Act} {w : World} (σ : List (Nat × Bool)) (F : World → Prop) (hm : P.follows .mixedOrders = true) (hs : Region.noSelect ops = true) (hlen : σ.length = ops.size)
    (hQ : ∀ c a (d : Tmp) v w, Q (.panic c) (Act.put a (some d) v) w → Q (.panic c) a w) (hB : schedB ops σ (Array.replicate ops.size false) = true) (hF : F w) (hd : F w → F w.drew)
    (h : Nonempty (Wof F) → wpSched P ops (fun w' => ∃ p : Wof F, w' = p.w) Q (opersOf ops σ) a w.drew) : (Code.region id ops true).wp P Q a w :=
  wp_region_sched σ _ hm hs hlen hQ hB ⟨⟨_, hd hF⟩, rfl⟩ (h ⟨⟨_, hF⟩⟩)
theorem sched_back {F : World → Prop} {K : Act → World → Prop} {Q : Exit → Act → World → Prop} {a : Act} {w : World} (hF : F w) (h : K a w) : schedTo (fun w' => ∃ p : Wof F, w' = p.w) K Q .normal a w := ⟨⟨⟨w, hF⟩, rfl⟩, h⟩
end Go.Proofs.YtplgghjdidmcfaaGreatDoor
namespace Go.Proofs.YtplgghjdidmcfaaGreatDoor
open Go.RowKit
def Ed.cells (x : Ed) : List Value := [.int .i64 x.at_, .int .i64 x.del, .string (S x.ins)]
def edCells (l : List Ed) : List Value := l.flatMap Ed.cells
theorem flat_len {α : Type} {ec : α → List Value} {m : Nat} (hec : ∀ x, (ec x).length = m) (l : List α) : (l.flatMap ec).length = l.length * m := by
  induction l with
  | nil => simp
  | cons a l ih => rw [List.flatMap_cons, List.length_append, ih, hec, List.length_cons, Nat.add_mul, Nat.one_mul, Nat.add_comm]
theorem flat_get {α : Type} {ec : α → List Value} {m : Nat} (hec : ∀ x, (ec x).length = m) (l : List α) (k : Nat) (hk : k < l.length) (j : Nat) (hj : j < m) : (l.flatMap ec)[k * m + j]? = (ec (l[k]'hk))[j]? := by
  induction l generalizing k with
  | nil => simp at hk
  | cons a l ih =>
    rw [List.flatMap_cons]
    cases k with
    | zero => rw [List.getElem?_append_left (by rw [hec]; omega)]; simp
    | succ k =>
      have := ih k (by simpa using hk)
      rw [List.getElem?_append_right (by rw [hec, Nat.add_mul]; omega), hec, List.getElem_cons_succ, ← this, Nat.add_mul]
      congr 1; omega
/-- A record of a slice that reads. -/
theorem Rd.at_rec {α : Type} {ec : α → List Value} {m : Nat} (hec : ∀ x, (ec x).length = m) (hm : 0 < m) {w : World} {B n : Nat} {A : Option Addr} {l : List α} (h : Rd w B m A n (l.flatMap ec)) {k : Nat} (hk : k < n) :
    ∃ ad, ∃ hl : k < l.length, A = some ad ∧ ad.block < B ∧ ∀ j u, (ec l[k])[j]? = some u → w.cell? (ad.add (k * m + j)) = some u := by
  have hl : l.length = n := by
    have := h.1
    rw [flat_len hec] at this
    exact Nat.eq_of_mul_eq_mul_right hm this
  obtain ⟨ad, e, hb, hc⟩ := h.2 (by omega)
  refine ⟨ad, by omega, e, hb, fun j u hu => ?_⟩
  have hj : j < m := by rw [← hec (l[k]'(by omega))]; exact (List.getElem?_eq_some_iff.1 hu).1
  exact hc _ _ (by rw [flat_get hec l k (by omega) j hj]; exact hu)
theorem Rd.rec_len {α : Type} {ec : α → List Value} {m : Nat} (hec : ∀ x, (ec x).length = m) (hm : 0 < m) {w : World} {B n : Nat} {A : Option Addr} {l : List α} (h : Rd w B m A n (l.flatMap ec)) : l.length = n := by
  have := h.1
  rw [flat_len hec] at this
  exact Nat.eq_of_mul_eq_mul_right hm this
theorem ed_len (x : Ed) : x.cells.length = 3 := rfl
theorem Rd.at_ed {w : World} {B n : Nat} {A : Option Addr} {l : List Ed} (h : Rd w B 3 A n (edCells l)) {k : Nat} (hk : k < n) :
    ∃ ad, ∃ hl : k < l.length, A = some ad ∧ ad.block < B ∧ w.cell? (ad.add (k * 3)) = some (.int .i64 l[k].at_) ∧ w.cell? ⟨(ad.add (k * 3)).block, (ad.add (k * 3)).off + 1, none⟩ = some (.int .i64 l[k].del) ∧
      w.cell? ⟨(ad.add (k * 3)).block, (ad.add (k * 3)).off + 2, none⟩ = some (.string (S l[k].ins)) := by
  obtain ⟨ad, hl, e, hb, hc⟩ := Rd.at_rec ed_len (by omega) h hk
  refine ⟨ad, hl, e, hb, hc 0 _ rfl, ?_, ?_⟩
  · have h1 := hc 1 _ rfl
    rwa [← add_add] at h1
  · have h1 := hc 2 _ rfl
    rwa [← add_add] at h1
theorem isEmpty_size (l : List UInt8) : (S l).toList.isEmpty = decide (l.length = 0) := by
  have : (S l).toList = l := ByteArray.toList_eq _
  rw [this]; cases l <;> simp
/-- As the checks ask it. -/
def edAt (n : Int) (k : Nat) (e : Int) (x : Ed) : Int :=
  if x.at_ < 0 ∨ x.del < 0 ∨ n < x.at_ ∨ n < x.at_ + x.del then 1 else if 40 < x.ins.length then 2 else if x.del = 0 ∧ x.ins.length = 0 then 5 else if 0 < k ∧ x.at_ ≤ e then 6 else 0
/-- Where the loop of the checks stands. -/
structure EdAt (n : Int) (l : List Ed) (k : Nat) (e : Int) : Prop where
  le : k ≤ l.length
  e0 : 0 ≤ e
  e1 : e ≤ n
  go : edGo n none n l = edGo n (lastEnd (l.take k)) (n + grows (l.take k)) (l.drop k)
  last : lastEnd (l.take k) = if k = 0 then none else some e
  lo : -(200 * k : Int) ≤ grows (l.take k)
  hi : grows (l.take k) ≤ 40 * k
  chain : ∀ x ∈ l.take k, 0 ≤ x.del ∧ x.del ≤ 200 ∧ x.ins.length ≤ 40
theorem edAt_eq {n : Int} {l : List Ed} {k : Nat} {e : Int} (h : EdAt n l k e) (x : Ed) : edOne n (lastEnd (l.take k)) x = edAt n k e x := by
  unfold edOne edAt
  rw [h.last]
  have : (∃ e_1, (if k = 0 then none else some e) = some e_1 ∧ x.at_ ≤ e_1) ↔ (0 < k ∧ x.at_ ≤ e) := by
    by_cases hk : k = 0
    · simp [hk]
    · rw [if_neg hk]
      constructor
      · rintro ⟨_, h1, h2⟩; cases h1; exact ⟨by omega, h2⟩
      · rintro ⟨_, h2⟩; exact ⟨_, rfl, h2⟩
  simp only [this]
theorem EdAt.start {n : Int} (h : 0 ≤ n) (l : List Ed) : EdAt n l 0 0 := ⟨Nat.zero_le _, Int.le_refl _, h, by simp [lastEnd, grows], by simp [lastEnd], by simp [grows], by simp [grows], by simp⟩
theorem EdAt.step {n : Int} {l : List Ed} {k : Nat} {e : Int} (h : EdAt n l k e) (hn : n ≤ 200) (hk : k < l.length) (h0 : edAt n k e l[k] = 0) : EdAt n l (k + 1) (l[k].at_ + l[k].del) ∧ grows (l.take (k + 1)) = grows (l.take k) + (l[k].ins.length - l[k].del) := by
  have hg : grows (l.take (k + 1)) = grows (l.take k) + (l[k].ins.length - l[k].del) := by
    rw [List.take_succ_eq_append_getElem hk, grows_append]; simp [grows]
  have h1 := edAt_eq h l[k]
  rw [h0] at h1
  obtain ⟨a, b, c, d, f, _⟩ := edOne_zero h1
  have hlo := h.lo
  have hhi := h.hi
  refine ⟨⟨hk, by omega, d, edGo_take n l k hk h.go h1, ?_, by rw [hg]; omega, by rw [hg]; omega, ?_⟩, hg⟩
  · rw [lastEnd_take l k hk, if_neg (by omega)]
  · intro x hx
    rw [List.take_succ_eq_append_getElem hk] at hx
    rcases List.mem_append.1 hx with hx | hx
    · exact h.chain x hx
    · simp only [List.mem_singleton] at hx; subst hx; omega
theorem EdAt.bad {n : Int} {l : List Ed} {k : Nat} {e : Int} (h : EdAt n l k e) (hn0 : 0 ≤ n) (hn : n ≤ 200) (hl : l.length ≤ 20) (hk : k < l.length) {c : Int} (hc : edAt n k e l[k] = c) (hc0 : c ≠ 0) : edErr n l = c := by
  have h1 := edAt_eq h l[k]
  unfold edErr
  rw [if_neg (by omega), if_neg (by omega), edGo_bad n l k hk h.go (by rw [h1, hc]; exact hc0), h1, hc]
theorem EdAt.fin {n : Int} {l : List Ed} {k : Nat} {e : Int} (h : EdAt n l k e) (hn0 : 0 ≤ n) (hn : n ≤ 200) (hl : l.length ≤ 20) (hk : ¬ k < l.length) : edErr n l = if 200 < n + grows (l.take k) then 11 else 0 := by
  obtain rfl : k = l.length := by have := h.le; omega
  unfold edErr
  rw [if_neg (by omega), if_neg (by omega), edGo_end n l h.go, List.take_length]
set_option maxRecDepth 100000 in
set_option maxHeartbeats 2000000 in
theorem edCheck_any (n : Int) (l : List Ed) (A : Option Addr) (m c B : Nat) (w : World) (hr : Rd w B 3 A m (edCells l)) (hB : B ≤ w.heap.size) (hm : m ≤ 9223372036854775807) :
    Calls Tryz.prog 169 #[.int .i64 n, .slice A m c] w fun e w' => e = .returned (.int .i64 (edErr n l)) ∧ Below w.heap.size w w' := by
  have hlen := Rd.rec_len ed_len (by omega) hr
  by_cases hn : n < 0 ∨ 200 < n
  · have HE : Hid (edErr n l = 1) := by unfold Hid edErr; rw [if_pos hn]
    have HN := Lib.hid hn; clear hn hr
    go_enter Tryz.func169, Tryz.ntmps169
    go_wp2
    all_goals first
      | (go_ret; exact ⟨ret_int HE.out.symm, Below.refl _ _⟩)
      | (exfalso; have := HN.out; omega)
  have hn0 : 0 ≤ n := by omega
  have hn1 : n ≤ 200 := by omega
  have HN := Lib.hid hn; clear hn
  by_cases h20 : 20 < m
  · have HE : Hid (edErr n l = 2) := by unfold Hid edErr; rw [if_neg HN.out, if_pos (by omega)]
    clear hr
    go_enter Tryz.func169, Tryz.ntmps169
    go_wp2
    go_ret
    exact ⟨ret_int HE.out.symm, Below.refl _ _⟩
  have HR := Lib.hid hr; clear hr
  have HL := Lib.hid hlen; clear hlen
  go_enter Tryz.func169, Tryz.ntmps169
  go_wp2
  go_loopw [5, 6, 21] (fun e s i wr => ∃ (k : Nat) (e' : Int), EdAt n l k e' ∧ i = .int .i64 k ∧ e = .int .i64 e' ∧ s = .int .i64 (n + grows (l.take k)) ∧ Below w.heap.size w wr)
    (fun _ _ i _ => m - (intOf i).toNat)
  case atStart => exact ⟨0, 0, EdAt.start hn0 l, rfl, rfl, by simp [grows], Below.refl _ _⟩
  case round =>
    obtain ⟨k, e', HA, rfl, rfl, rfl, hb⟩ := hrel
    have hk := HA.le
    rw [HL.out] at hk
    have hbs := hb.size
    have he0 := HA.e0
    have he1 := HA.e1
    have glo := HA.lo
    have ghi := HA.hi
    by_cases hlt : k < m
    · obtain ⟨ad, hl, rfl, hab, c0, c1, c2⟩ := (HR.out.below (hb.mono hB)).at_ed hlt
      have HSt : Hid (edAt n k e' l[k] = 0 → EdAt n l (k + 1) (l[k].at_ + l[k].del) ∧ grows (l.take (k + 1)) = grows (l.take k) + (l[k].ins.length - l[k].del)) := HA.step hn1 hl
      have HBd : Hid (∀ c, edAt n k e' l[k] = c → c ≠ 0 → edErr n l = c) := fun c => HA.bad hn0 hn1 (by rw [HL.out]; omega) hl
      have hz : (S l[k].ins).size = l[k].ins.length := S_size _
      have HZ := Lib.hid hz; clear hz
      generalize l[k] = x at *
      generalize grows (l.take k) = g at *
      obtain ⟨xa, xd, xi⟩ := x
      simp only at c0 c1 c2 HSt HBd HZ
      clear HA
      have HZ1 : Hid ((S xi).toList.isEmpty = decide (xi.length = 0)) := isEmpty_size xi
      go_wp2
      all_goals first
        | (go_ret
           refine ⟨ret_int (HBd.out _ ?_ (by decide)).symm, (by repeat (first | exact Below.refl _ _ | assumption | refine Below.alloc ?_ (by first | exact Nat.le_refl _ | assumption | omega | (simp <;> omega)) _ | refine Below.setCell ?_ (by first | exact Nat.le_refl _ | assumption | omega | (simp <;> omega)) _ | refine Below.drew ?_ | refine below_drewN ?_ _))⟩
           go_light
           have hz := HZ.out; have hz1 := HZ1.out
           clear HBd HSt HZ HZ1
           unfold edAt
           grind)
        | (go_roundw
           case rel =>
             go_light
             have hz := HZ.out; have hz1 := HZ1.out
             have h0 : edAt n k e' ⟨xa, xd, xi⟩ = 0 := by
               clear HBd HSt HZ HZ1
               unfold edAt
               grind
             obtain ⟨h1, h2⟩ := HSt.out h0
             exact ⟨k + 1, _, h1, by go_num, by first | rfl | (congr 1; omega), by rw [h2, hz]; congr 1; omega, (by repeat (first | exact Below.refl _ _ | assumption | refine Below.alloc ?_ (by first | exact Nat.le_refl _ | assumption | omega | (simp <;> omega)) _ | refine Below.setCell ?_ (by first | exact Nat.le_refl _ | assumption | omega | (simp <;> omega)) _ | refine Below.drew ?_ | refine below_drewN ?_ _))⟩
           case measure => simp [intOf]; omega)
    · have HF := Lib.hid (HA.fin hn0 hn1 (by rw [HL.out]; omega) (by rw [HL.out]; omega))
      clear HA
      go_wp2
      all_goals go_ret
      all_goals refine ⟨ret_int ?_, hb⟩
      all_goals (rw [HF.out]; split <;> first | rfl | omega)
end Go.Proofs.YtplgghjdidmcfaaGreatDoor
