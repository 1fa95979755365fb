/- code.Front and the document's FrontCode. A region that draws its order, walked once along a schedule: operations that yield in every world of a class are taken as soon as they may come up; where one of the others comes up, it is the only one that may. No program in sight. Words of bits in order, as plain lists. No program in sight. -/
import Derived.Test.YtncakjchaniheaaDoorPk04
import Derived.Test.YtncakjchaniheaaDoorPk05
import Derived.Test.YtncakjchaniheaaDoorPk01
import Derived.OrdersHeld
import Derived.Deep.RegionHeld
namespace Go.Proofs.YtncakjchaniheaaDoor
open Go.RowKit
def pfx (p s : List UInt8) : Bool := Lib.hasPrefix s p
theorem pfx_iff {p s : List UInt8} : pfx p s = true ↔ s.take p.length = p := by
  unfold pfx Lib.hasPrefix
  rw [List.isPrefixOf_iff_prefix, List.prefix_iff_eq_take]
  exact eq_comm
theorem pfx_len {p s : List UInt8} (h : pfx p s = true) : p.length ≤ s.length := by
  have := congrArg List.length (pfx_iff.1 h)
  rw [List.length_take] at this
  omega
/-- No word begins another one. -/
def IsFront (l : List (List UInt8)) : Prop := ∀ i k, i < l.length → k < l.length → i ≠ k → pfx (l.getD i []) (l.getD k []) = false
noncomputable def frontB (l : List (List UInt8)) : Bool := @decide (IsFront l) (Classical.propDecidable _)
theorem frontB_t {l : List (List UInt8)} (h : IsFront l) : frontB l = true := @decide_eq_true _ (Classical.propDecidable _) h
theorem frontB_f {l : List (List UInt8)} {i k : Nat} (hi : i < l.length) (hk : k < l.length) (hne : i ≠ k) (h : pfx (l.getD i []) (l.getD k []) = true) : frontB l = false :=
  @decide_eq_false _ (Classical.propDecidable _) fun hf => by rw [hf i k hi hk hne] at h; cases h
theorem list_range (l : List (List UInt8)) : (List.range l.length).map (fun i => l.getD i []) = l := by
  apply List.ext_getElem
  · simp
  · intro j h1 h2
    simp only [List.getElem_map, List.getElem_range]
    rw [List.getD_eq_getElem?_getD, List.getElem?_eq_getElem h2]; rfl
def ordP (l : List (List UInt8)) : List Nat := srtL (fun i => l.getD i []) l.length
theorem ordP_srt (l : List (List UInt8)) : Srt (fun i => l.getD i []) l.length (ordP l) := srt_is _ _
theorem sortB_ordP (l : List (List UInt8)) : sortB l = (ordP l).map fun i => l.getD i [] := by
  have h := srt_sortB (fun i => l.getD i []) l.length
  rw [list_range] at h
  exact h
def sAt (l : List (List UInt8)) (i : Nat) : List UInt8 := l.getD ((ordP l).getD i 0) []
theorem sortB_at {l : List (List UInt8)} {i : Nat} (h : i < l.length) : (sortB l).getD i [] = sAt l i := by
  rw [sortB_ordP, List.getD_eq_getElem?_getD, List.getElem?_map, List.getElem?_eq_getElem (by rw [(ordP_srt l).len]; exact h), sAt, (ordP_srt l).get h]; rfl
theorem adj_f {l : List (List UInt8)} {j : Nat} (hj : j + 1 < l.length) (h : pfx (sAt l j) (sAt l (j + 1)) = true) : frontB l = false :=
  frontB_f ((ordP_srt l).lt (by omega)) ((ordP_srt l).lt hj) (fun e => by have := (ordP_srt l).inj (show j < l.length by omega) hj e; omega) h
theorem adj_t {l : List (List UInt8)} (hc : Cod l) (h : ∀ j, j + 1 < l.length → pfx (sAt l j) (sAt l (j + 1)) = false) : frontB l = true := by
  refine frontB_t fun i k hi hk hne => ?_
  cases hp : pfx (l.getD i []) (l.getD k []) with
  | false => rfl
  | true =>
    exfalso
    obtain ⟨a, ha, ea⟩ := (ordP_srt l).sur hi
    obtain ⟨b, hb, eb⟩ := (ordP_srt l).sur hk
    have ha1 : sAt l a = l.getD i [] := by unfold sAt; rw [ea]
    have hb1 : sAt l b = l.getD k [] := by unfold sAt; rw [eb]
    have ht := pfx_iff.1 hp
    have hlen := pfx_len hp
    have hle : l.getD i [] ≤ l.getD k [] := by
      have h2 : l.getD i [] ++ (l.getD k []).drop (l.getD i []).length = l.getD k [] := by
        conv => rhs; rw [← List.take_append_drop (l.getD i []).length (l.getD k [])]
        rw [ht]
      have h3 : ∀ x y : List UInt8, x ≤ x ++ y := by
        intro x y
        induction x with
        | nil => exact List.nil_le _
        | cons c x ih => exact cons_leB.2 (.inr ⟨rfl, ih⟩)
      rw [← h2]; exact h3 _ _
    have hab : a < b := by
      rcases Nat.lt_trichotomy a b with h1 | h1 | h1
      · exact h1
      · exfalso; subst h1; rw [ea] at eb; exact hne eb
      · exfalso
        have h4 := (ordP_srt l).mono (show b ≤ a by omega) ha
        have h5 : l.getD k [] ≤ l.getD i [] := by
          have e1 : l.getD ((ordP l).getD b 0) [] = l.getD k [] := hb1
          have e2 : l.getD ((ordP l).getD a 0) [] = l.getD i [] := ha1
          have h4 : l.getD ((ordP l).getD b 0) [] ≤ l.getD ((ordP l).getD a 0) [] := h4
          rw [e1, e2] at h4
          exact h4
        exact hne (hc.inj i k hi hk (List.le_antisymm hle h5))
    have g1 : sAt l a ≤ sAt l (a + 1) := (ordP_srt l).mono (by omega) (by omega)
    have g2 : sAt l (a + 1) ≤ sAt l b := (ordP_srt l).mono (by omega) hb
    rw [ha1] at g1
    rw [hb1] at g2
    obtain ⟨m1, m2⟩ := mid_lcp (l.getD i []).length _ _ _ g1 g2 (Nat.le_refl _) hlen (by rw [List.take_length, ht])
    have := h a (by omega)
    rw [ha1] at this
    have h6 : pfx (l.getD i []) (sAt l (a + 1)) = true := pfx_iff.2 (by rw [m2, ht])
    rw [h6] at this
    cases this
set_option maxRecDepth 100000 in
set_option maxHeartbeats 4000000 in
theorem codeFront_any (A : Option Addr) (n c B : Nat) (l : List (List UInt8)) (w : World) (hr : Rd w B 1 A n (strCells l)) (hn : n ≤ c) (hB : B ≤ w.heap.size) (hx : ∀ x ∈ l, x.length ≤ maxLen) :
    Calls Tryd.prog 26 #[.slice A n c] w fun e w' => e = .returned (.tuple #[.bool (if codeErr l = 0 then frontB l else false), .int .i64 (codeErr l)]) ∧ Below w.heap.size w w' := by
  have hl : l.length = n := by have := hr.1; simpa [strCells] using this
  have HC := Lib.hid (codeCheck_any A n c B l w hr hn hB hx)
  have HR := Lib.hid hr
  clear hr
  by_cases hE : codeErr l = 0
  · have HCO := Lib.hid (cod_of hE)
    have HEE := Lib.hid hE
    have hlen := HCO.out.len
    rw [hE] at HC
    rw [if_pos hE, hE]
    clear hE
    go_enter Tryd.func26, Tryd.ntmps26
    go_wp2_with fail
    refine HC.out.mono ?_
    rintro e w1 ⟨rfl, hb1⟩
    have HR1 := Lib.hid (HR.out.below (hb1.mono hB))
    clear HR HC
    go_wp2_with fail
    go_loopw [16] (fun iv wr => ∃ i : Nat, i ≤ n ∧ iv = .int .i64 (i : Int) ∧ Hid (∀ i' k, i' < i → k < n → i' ≠ k → pfx (l.getD i' []) (l.getD k []) = false) ∧ wr = w1) (fun iv _ => n - (intOf iv).toNat)
    case atStart => exact ⟨0, Nat.zero_le _, rfl, Lib.hid (fun i' k h => by omega), rfl⟩
    case round =>
      obtain ⟨i, hi, rfl, HN, rfl⟩ := hrel
      by_cases hlt : i < n
      · have g1 : decide ((i : Int) < (n : Int)) = true := decide_eq_true (by omega)
        have g1' : decide (i < n) = true := decide_eq_true hlt
        obtain ⟨ad, rfl, hab, c0⟩ := str_cell HR1.out hlt
        obtain ⟨X, hX⟩ : ∃ X, S (l.getD i []) = X := ⟨_, rfl⟩
        rw [hX] at c0
        have HX := Lib.hid hX
        clear hX
        go_wp2_with fail
        go_loopw [23] (fun kv wr2 => ∃ k : Nat, k ≤ n ∧ kv = .int .i64 (k : Int) ∧ Hid (∀ k', k' < k → i ≠ k' → pfx (l.getD i []) (l.getD k' []) = false) ∧ wr2 = wr) (fun kv _ => n - (intOf kv).toNat)
        case atStart => exact ⟨0, Nat.zero_le _, rfl, Lib.hid (fun k' h => by omega), rfl⟩
        case round =>
          obtain ⟨k, hk, rfl, HK, rfl⟩ := hrel
          by_cases hkt : k < n
          · have g2 : decide ((k : Int) < (n : Int)) = true := decide_eq_true (by omega)
            have g2' : decide (k < n) = true := decide_eq_true hkt
            obtain ⟨ad', hA, _, c1⟩ := str_cell HR1.out hkt
            cases hA
            obtain ⟨Y, hY⟩ : ∃ Y, S (l.getD k []) = Y := ⟨_, rfl⟩
            rw [hY] at c1
            have HPX : Hid (∀ W, Calls Tryd.prog 27 #[.string Y, .string X] W fun e W' => e = .returned (.bool (pfx (l.getD i []) (l.getD k []))) ∧ W' = W) := fun W => by
              have h := Tryd.strings_HasPrefix Y X W
              rw [← hY, ← HX.out] at h ⊢
              exact h
            clear hY
            by_cases hik : i = k
            · have HK2 : Hid (∀ k', k' < k + 1 → i ≠ k' → pfx (l.getD i []) (l.getD k' []) = false) := fun k' hk' hne => by
                rcases Nat.lt_or_ge k' k with h1 | h1
                · exact HK.out k' h1 hne
                · exact absurd (show i = k' by omega) hne
              subst hik
              go_wp2_with fail
              go_roundw
              case rel => exact ⟨i + 1, by omega, by go_num, HK2, by first | rfl | trivial⟩
              case measure => simp [intOf]; omega
            · have g3 : ((i : Int) == (k : Int)) = false := by rw [beq_eq_false_iff_ne]; omega
              have g3n : ((i : Int) != (k : Int)) = true := by rw [bne, g3]; rfl
              have g3' : (i == k) = false := by rw [beq_eq_false_iff_ne]; exact hik
              cases hp : pfx (l.getD i []) (l.getD k []) with
              | true =>
                have HV := Lib.hid (frontB_f (by omega) (by omega) hik hp)
                rw [hp] at HPX
                clear hp hik
                go_wp2_with fail
                refine (HPX.out _).mono ?_
                rintro e w2 ⟨rfl, rfl⟩
                go_wp2_with fail
                go_ret2
                rw [HV.out]
                exact ⟨rfl, hb1⟩
              | false =>
                have HK2 : Hid (∀ k', k' < k + 1 → i ≠ k' → pfx (l.getD i []) (l.getD k' []) = false) := fun k' hk' hne => by
                  rcases Nat.lt_or_ge k' k with h1 | h1
                  · exact HK.out k' h1 hne
                  · obtain rfl : k' = k := by omega
                    exact hp
                rw [hp] at HPX
                clear hp hik
                go_wp2_with fail
                refine (HPX.out _).mono ?_
                rintro e w2 ⟨rfl, rfl⟩
                go_wp2_with fail
                go_roundw
                case rel => exact ⟨k + 1, by omega, by go_num, HK2, by first | rfl | trivial⟩
                case measure => simp [intOf]; omega
          · obtain rfl : k = n := by omega
            have g2 : decide ((k : Int) < (k : Int)) = false := decide_eq_false (by omega)
            have g2' : decide (k < k) = false := decide_eq_false hkt
            have HN2 : Hid (∀ i' k', i' < i + 1 → k' < k → i' ≠ k' → pfx (l.getD i' []) (l.getD k' []) = false) := fun i' k' h1 h2 h3 => by
              rcases Nat.lt_or_ge i' i with h4 | h4
              · exact HN.out i' k' h4 h2 h3
              · obtain rfl : i' = i := by omega
                exact HK.out k' h2 h3
            go_wp2_with fail
            go_roundw
            case rel => exact ⟨i + 1, by omega, by go_num, HN2, by first | rfl | trivial⟩
            case measure => simp [intOf]; omega
      · obtain rfl : i = n := by omega
        have g1 : decide ((i : Int) < (i : Int)) = false := decide_eq_false (by omega)
        have g1' : decide (i < i) = false := decide_eq_false hlt
        have HV := Lib.hid (frontB_t (l := l) fun i' k h1 h2 h3 => HN.out i' k (by omega) (by omega) h3)
        go_wp2_with fail
        go_ret2
        rw [HV.out]
        exact ⟨rfl, hb1⟩
  · rw [if_neg hE]
    obtain ⟨E, hEE⟩ : ∃ E, codeErr l = E := ⟨_, rfl⟩
    rw [hEE] at HC hE ⊢
    clear hEE
    have g1 : (E == 0) = false := by rw [beq_eq_false_iff_ne]; exact hE
    have g2 : (E != 0) = true := by rw [bne, g1]; rfl
    clear hE
    go_enter Tryd.func26, Tryd.ntmps26
    go_wp2_with fail
    refine HC.out.mono ?_
    rintro e w1 ⟨rfl, hb1⟩
    go_wp2_with fail
    go_ret2
    exact ⟨rfl, hb1⟩
end Go.Proofs.YtncakjchaniheaaDoor
namespace Go.Proofs.YtncakjchaniheaaDoor
open Go.RowKit

/-- An operation that, where it goes through, hands back a value: it calls no Go function and writes nothing by its kind. -/
def stillKind (o : Oper) : Bool :=
  match o.op with
  | .move _ | .assign _ | .nilCheck _ | .pick .. | .load .. | .binOp .. | .unOp .. | .convert .. | .slice .. | .fieldAddr .. | .field .. | .indexAddr .. | .index .. | .lookup .. | .extract .. | .build .. => true
  | .call c => match c.callee with
    | .builtin .len | .builtin .cap | .builtin .min | .builtin .max => true
    | _ => false
  | _ => false

theorem value_of_v {P : Program} {s : Sem Value} {w w' : World} {n : Next} (h : (do let x ← s; pure (Next.value x) : Sem Next).run P w = .ok n w') : ∃ u, n = .value u := by
  simp only [Sem.run_bind, Sem.run_pure] at h
  cases hs : s.run P w with
  | ok v w1 => rw [hs] at h; simp only [Result.andThen_ok, Result.ok.injEq] at h; exact ⟨v, h.1.symm⟩
  | halt x w1 => rw [hs] at h; simp [Result.andThen] at h

theorem ok_bind {α β : Type} {s : Sem α} {k : α → Sem β} {P : Program} {w w' : World} {b : β} (h : (s >>= k).run P w = .ok b w') : ∃ a w1, (k a).run P w1 = .ok b w' := by
  rw [Sem.run_bind] at h
  cases hs : s.run P w with
  | ok a w1 => rw [hs] at h; exact ⟨a, w1, h⟩
  | halt x w1 => rw [hs] at h; simp [Result.andThen] at h
theorem not_ok_panic (P : Program) (w w' : World) {n : Next} : ¬ (runtimePanic .nilDeref : Sem Next).run P w = .ok n w' := by
  intro h
  simp [runtimePanic, goPanic, go_sem] at h
theorem stillKind_value {o : Oper} (hk : stillKind o = true) {ρ : Operand → Value} {P : Program} {w w' : World} {n : Next} (h : (execOp ρ o).run P w = .ok n w') : ∃ u, n = .value u := by
  unfold stillKind at hk
  unfold execOp at h
  cases ho : o.op <;> rw [ho] at hk h <;> simp only [Bool.false_eq_true] at hk <;> dsimp only at h
  case move => simp only [Sem.run_pure, Result.ok.injEq] at h; exact ⟨_, h.1.symm⟩
  case assign => simp only [Sem.run_pure, Result.ok.injEq] at h; exact ⟨_, h.1.symm⟩
  case pick c a b =>
    simp only [Sem.run_bind, Sem.run_pure] at h
    cases hs : (asBool (ρ c)).run P w with
    | ok v w1 => rw [hs] at h; simp only [Result.andThen_ok, Result.ok.injEq] at h; exact ⟨_, h.1.symm⟩
    | halt x w1 => rw [hs] at h; simp [Result.andThen] at h
  case nilCheck x =>
    split at h
    · exact absurd h (not_ok_panic _ _ _)
    · exact absurd h (not_ok_panic _ _ _)
    · exact absurd h (not_ok_panic _ _ _)
    · split at h
      · exact absurd h (not_ok_panic _ _ _)
      · obtain ⟨a, w1, h⟩ := ok_bind h
        obtain ⟨b, w2, h⟩ := ok_bind h
        split at h
        · obtain ⟨c, w3, h⟩ := ok_bind h
          simp only [Sem.run_pure, Result.ok.injEq] at h; exact ⟨_, h.1.symm⟩
        · simp only [Sem.run_pure, Result.ok.injEq] at h; exact ⟨_, h.1.symm⟩
      · simp only [Sem.run_pure, Result.ok.injEq] at h; exact ⟨_, h.1.symm⟩
    · simp only [Sem.run_pure, Result.ok.injEq] at h; exact ⟨_, h.1.symm⟩
  case call c =>
    obtain ⟨callee, args, argTypes⟩ := c
    cases callee with
    | builtin b =>
      simp only [resolve, invoke, Sem.run_bind, Sem.run_pure, Result.andThen_ok] at h
      cases b <;> simp only [Bool.false_eq_true] at hk <;> exact value_of_v (by simpa [builtin, Sem.run_bind, Sem.run_pure] using h)
    | _ => simp only [Bool.false_eq_true] at hk
  all_goals exact value_of_v h

section
variable {P : Program} {ops : Array Oper} {Q : Exit → Act → World → Prop} {C : World → Prop}

theorem yieldsIf_of_quiet {o : Oper} {a : Act} {v : Value} (hk : stillKind o = true) (hw : Region.wanted o (yielded ops a.tmps) = true) (h : ∀ w, C w → o.quietAt P a C w v) : YieldsIf P ops C o v a := by
  refine .inl ⟨hw, fun w hC => ?_⟩
  have h1 := h w hC
  unfold Oper.quietAt at h1
  cases hr : (execOp a.eval o).run P w with
  | ok n w' =>
    rw [hr] at h1
    obtain ⟨u, rfl⟩ := stillKind_value hk hr
    simp only [Oper.quietUpon] at h1
    rw [h1.1, h1.2]
  | halt x w' => rw [hr] at h1; simp only [Oper.quietUpon] at h1

/-- What stands behind one operation of the other kind. -/
def schedTo (C : World → Prop) (K : Act → World → Prop) (Q : Exit → Act → World → Prop) : Exit → Act → World → Prop
  | .normal, a, w => C w ∧ K a w
  | .exit id, a, w => Q (.exit id) a w
  | .goto l, a, w => Q (.goto l) a w
  | .ret, a, w => Q .ret a w
  | .panic c, a, w => Q (.panic c) a w
  | .outgrown, a, w => Q .outgrown a w

/-- A fact that nothing unfolds into. -/
structure Shut (p : Prop) : Prop where
  out : p
/-- THE WALK ALONG A SCHEDULE (true: yields in every world of the class). -/
def wpSched (P : Program) (ops : Array Oper) (C : World → Prop) (Q : Exit → Act → World → Prop) : List (Bool × Oper) → Act → World → Prop
  | [], a, w => Shut (Q .normal a w)
  | (true, o) :: rest, a, w => Shut (if Region.wanted o (yielded ops a.tmps) then o.quiet P a C (fun a' => wpSched P ops C Q rest a' w) else wpSched P ops C Q rest (a.put o.dst undef) w)
  | (false, o) :: rest, a, w => Shut (wpList P ops (schedTo C (fun a' w' => wpSched P ops C Q rest a' w') Q) [o] a w)

/-- May the schedule be followed? -/
def schedB (ops : Array Oper) : List (Nat × Bool) → Array Bool → Bool
  | [], listed => (Region.ready .any ops listed).isEmpty
  | (i, true) :: rest, listed => (Region.ready .any ops listed).contains i && Region.free .any ops listed i && (match ops[i]? with | some o => stillKind o | none => false) && schedB ops rest (listed.setIfInBounds i true)
  | (i, false) :: rest, listed => (Region.ready .any ops listed == [i]) && schedB ops rest (listed.setIfInBounds i true)
def opersOf (ops : Array Oper) : List (Nat × Bool) → List (Bool × Oper)
  | [] => []
  | (i, b) :: rest => match ops[i]? with
    | some o => (b, o) :: opersOf ops rest
    | none => opersOf ops rest

theorem hQput (hQ : ∀ c a (d : Tmp) v w, Q (.panic c) (Act.put a (some d) v) w → Q (.panic c) a w) (c : List PanicEntry) (a : Act) (d : Option Tmp) (v : Value) (w : World) (h : Q (.panic c) (Act.put a d v) w) : Q (.panic c) a w := by
  cases d with
  | none => exact h
  | some d => exact hQ c a d v w h
theorem wpAnyH_sched (hs : Region.noSelect ops = true) (hQ : ∀ c a (d : Tmp) v w, Q (.panic c) (Act.put a (some d) v) w → Q (.panic c) a w) :
    ∀ (σ : List (Nat × Bool)) (listed : Array Bool) (a : Act) (w : World), schedB ops σ listed = true → C w → wpSched P ops C Q (opersOf ops σ) a w → wpAnyH P .any ops Q C σ.length listed a w
  | [], listed, a, w, hB, _, h => by
    refine ⟨?_, h.out⟩
    simpa [schedB] using hB
  | (i, true) :: rest, listed, a, w, hB, hC, h => by
    simp only [schedB, Bool.and_eq_true] at hB
    obtain ⟨⟨⟨hr, hf⟩, hk⟩, hB'⟩ := hB
    cases hi : ops[i]? with
    | none => rw [hi] at hk; simp at hk
    | some o =>
      rw [hi] at hk
      simp only [opersOf, hi] at h
      unfold wpSched at h
      replace h := h.out
      by_cases hw : Region.wanted o (yielded ops a.tmps) = true
      · rw [if_pos hw] at h
        obtain ⟨v, h1, h2⟩ := h
        exact wpAnyH_take hi hs hf hr (fun c a w hh => hQput hQ c a _ _ w hh) (yieldsIf_of_quiet hk hw h1) hC (wpAnyH_sched hs hQ rest _ _ _ hB' hC h2)
      · rw [if_neg hw] at h
        exact wpAnyH_take hi hs hf hr (fun c a w hh => hQput hQ c a _ _ w hh) (.inr ⟨by simpa using hw, rfl⟩) hC (wpAnyH_sched hs hQ rest _ _ _ hB' hC h)
  | (i, false) :: rest, listed, a, w, hB, hC, h => by
    simp only [schedB, Bool.and_eq_true, beq_iff_eq] at hB
    obtain ⟨hr, hB'⟩ := hB
    refine wpAnyH_all hr (by simp) fun j hj => ?_
    obtain rfl : j = i := by simpa using hj
    cases hi : ops[j]? with
    | none =>
      exfalso
      have hm : j ∈ Region.ready .any ops listed := by rw [hr]; simp
      obtain ⟨_, o, ho, _⟩ := mem_ready.1 hm
      rw [hi] at ho; cases ho
    | some o =>
      simp only [opersOf, hi] at h
      unfold wpSched at h
      replace h := h.out
      unfold wpList at h
      unfold wpOp
      simp only [hi]
      have hlet : LetsOut (schedTo C (fun a' w' => wpSched P ops C Q (opersOf ops rest) a' w') Q) → LetsOut Q := fun ⟨a, w, hh⟩ => ⟨a, w, hh⟩
      by_cases hw : Region.wanted o (yielded ops a.tmps) = true
      · rw [if_pos hw] at h ⊢
        rcases h with h | ⟨h1, h2⟩
        · left
          unfold Oper.wp at h ⊢
          generalize (execOp a.eval o).run P w = r at *
          cases r with
          | ok n w' =>
            cases n <;> simp only [Oper.upon] at h ⊢
            case enter f args =>
              exact h.mono fun e w'' hh => by
                cases e with
                | returned v => exact ⟨hh.1, wpAnyH_sched hs hQ rest _ _ _ hB' hh.1 hh.2⟩
                | panicked c => exact hh
                | outgrown => exact hlet hh
            case row row args => exact h.mono fun v w'' hh => ⟨hh.1, wpAnyH_sched hs hQ rest _ _ _ hB' hh.1 hh.2⟩
            all_goals first
              | exact ⟨h.1, wpAnyH_sched hs hQ rest _ _ _ hB' h.1 h.2⟩
              | exact h
          | halt x w' =>
            cases x <;> simp only [Oper.upon] at h ⊢
            all_goals exact h
        · exact .inr ⟨h1, hlet h2⟩
      · rw [if_neg hw] at h ⊢
        exact ⟨h.1, wpAnyH_sched hs hQ rest _ _ _ hB' h.1 h.2⟩

theorem wp_region_sched {id : Nat} {a : Act} {w : World} (σ : List (Nat × Bool)) (C : World → Prop) (hm : P.follows .mixedOrders = true) (hs : Region.noSelect ops = true) (hlen : σ.length = ops.size)
    (hQ : ∀ c a (d : Tmp) v w, Q (.panic c) (Act.put a (some d) v) w → Q (.panic c) a w) (hB : schedB ops σ (Array.replicate ops.size false) = true) (hC : C w.drew)
    (h : wpSched P ops C Q (opersOf ops σ) a w.drew) : (Code.region id ops true).wp P Q a w :=
  wp_region_held hm (by rw [← hlen]; exact wpAnyH_sched hs hQ σ _ a _ (by rw [hlen]; exact hB) hC h)
theorem wpSched_nil {a : Act} {w : World} (h : Q .normal a w) : wpSched P ops C Q [] a w := ⟨h⟩
theorem wpSched_want {a : Act} {w : World} {o : Oper} {rest : List (Bool × Oper)} (hw : Region.wanted o (yielded ops a.tmps) = true)
    (h : ∀ K : Act → Prop, (∀ a, wpSched P ops C Q rest a w → K a) → o.quiet P a C K) : wpSched P ops C Q ((true, o) :: rest) a w := by
  unfold wpSched
  refine ⟨?_⟩
  rw [if_pos hw]
  exact h _ (fun _ h => h)
theorem wpSched_skip {a : Act} {w : World} {o : Oper} {rest : List (Bool × Oper)} (hw : Region.wanted o (yielded ops a.tmps) = false)
    (h : wpSched P ops C Q rest (a.put o.dst undef) w) : wpSched P ops C Q ((true, o) :: rest) a w := by
  unfold wpSched
  refine ⟨?_⟩
  rw [if_neg (by rw [hw]; simp)]
  exact h
theorem wanted_none {tmps : Array Value} {o : Oper} (hg : o.guard = none) : Region.wanted o (yielded ops tmps) = true := by unfold Region.wanted; rw [hg]
def boolOf : Value → Option Bool
  | .bool c => some c
  | _ => none
theorem wanted_slot {ops : Array Oper} {tmps : Array Value} {o : Oper} {j : Nat} {b : Bool} (d : Tmp) {v : Value} (hg : o.guard = some (j, b)) (hd : (ops[j]?).bind (·.dst) = some d) (hv : tmps[d]? = some v) :
    Region.wanted o (yielded ops tmps) = (boolOf v == some b) := by
  unfold Region.wanted
  rw [hg]
  have e : yielded ops tmps j = boolOf v := by
    unfold yielded
    generalize he : ((ops[j]?).bind (·.dst)).bind (tmps[·]?) = x
    have hx : x = some v := by rw [← he, hd]; exact hv
    subst hx
    cases v <;> rfl
  show (yielded ops tmps j == some b) = _
  rw [e]
theorem wpSched_free {a : Act} {w : World} {o : Oper} {rest : List (Bool × Oper)} (hg : o.guard = none)
    (h : ∀ K : Act → Prop, (∀ a, wpSched P ops C Q rest a w → K a) → o.quiet P a C K) : wpSched P ops C Q ((true, o) :: rest) a w := wpSched_want (wanted_none hg) h
theorem wpSched_wantS {a : Act} {w : World} {o : Oper} {rest : List (Bool × Oper)} {j : Nat} {b : Bool} (d : Tmp) (hg : o.guard = some (j, b)) (hd : (ops[j]?).bind (·.dst) = some d) (hv : a.tmps[d]? = some (.bool b))
    (h : ∀ K : Act → Prop, (∀ a, wpSched P ops C Q rest a w → K a) → o.quiet P a C K) : wpSched P ops C Q ((true, o) :: rest) a w := wpSched_want ((wanted_slot d hg hd hv).trans (by simp [boolOf])) h
theorem wpSched_skipS {a : Act} {w : World} {o : Oper} {rest : List (Bool × Oper)} {j : Nat} {b c : Bool} (d : Tmp) (hg : o.guard = some (j, b)) (hd : (ops[j]?).bind (·.dst) = some d) (hv : a.tmps[d]? = some (.bool c)) (hb : (c == b) = false)
    (h : wpSched P ops C Q rest (a.put o.dst undef) w) : wpSched P ops C Q ((true, o) :: rest) a w := wpSched_skip ((wanted_slot d hg hd hv).trans (by simpa [boolOf] using hb)) h
theorem wpSched_skipU {a : Act} {w : World} {o : Oper} {rest : List (Bool × Oper)} {j : Nat} {b : Bool} (d : Tmp) (hg : o.guard = some (j, b)) (hd : (ops[j]?).bind (·.dst) = some d) (hv : a.tmps[d]? = some undef)
    (h : wpSched P ops C Q rest (a.put o.dst undef) w) : wpSched P ops C Q ((true, o) :: rest) a w := wpSched_skip ((wanted_slot d hg hd hv).trans rfl) h
theorem wpSched_other {a : Act} {w : World} {o : Oper} {rest : List (Bool × Oper)} (h : wpList P ops (schedTo C (fun a' w' => wpSched P ops C Q rest a' w') Q) [o] a w) : wpSched P ops C Q ((false, o) :: rest) a w := ⟨h⟩
end
/-- The worlds in which F holds. -/
structure Wof (F : World → Prop) where
  w : World
  h : F w
def inWof (F : World → Prop) : World → Prop := fun w' => ∃ p : Wof F, w' = p.w
theorem wp_region_schedF {P : Program} {ops : Array Oper} {Q : Exit → Act → World → Prop} {id : Nat} {a : Act} {w : World} (σ : List (Nat × Bool)) (F : World → Prop) (hm : P.follows .mixedOrders = true) (hs : Region.noSelect ops = true) (hlen : σ.length = ops.size)
    (hQ : ∀ c a (d : Tmp) v w, Q (.panic c) (Act.put a (some d) v) w → Q (.panic c) a w) (hB : schedB ops σ (Array.replicate ops.size false) = true) (hF : F w) (hd : F w → F w.drew)
    (h : Nonempty (Wof F) → wpSched P ops (fun w' => ∃ p : Wof F, w' = p.w) Q (opersOf ops σ) a w.drew) : (Code.region id ops true).wp P Q a w :=
  wp_region_sched σ _ hm hs hlen hQ hB ⟨⟨_, hd hF⟩, rfl⟩ (h ⟨⟨_, hF⟩⟩)
theorem sched_back {F : World → Prop} {K : Act → World → Prop} {Q : Exit → Act → World → Prop} {a : Act} {w : World} (hF : F w) (h : K a w) : schedTo (fun w' => ∃ p : Wof F, w' = p.w) K Q .normal a w := ⟨⟨⟨w, hF⟩, rfl⟩, h⟩
end Go.Proofs.YtncakjchaniheaaDoor
namespace Go.Proofs.YtncakjchaniheaaDoor
/-- The n lowest bits of x, the highest first. -/
def bw (x : Nat) : Nat → List UInt8
  | 0 => []
  | n + 1 => UInt8.ofNat (48 + x / 2 ^ n % 2) :: bw x n
theorem bw_len (x n : Nat) : (bw x n).length = n := by
  induction n with
  | zero => rfl
  | succ n ih => simp [bw, ih]
theorem mod_succ (x n : Nat) : x % 2 ^ (n + 1) = x / 2 ^ n % 2 * 2 ^ n + x % 2 ^ n := by
  rw [Nat.pow_succ, Nat.mod_mul, Nat.mul_comm]; omega
theorem bw_less (n m x y : Nat) (h : m ≤ n) : (!Op.bytesLess (bw y m) (bw x n) || (bw y m).isPrefixOf (bw x n)) = decide (x % 2 ^ n / 2 ^ (n - m) ≤ y % 2 ^ m) := by
  induction m generalizing n with
  | zero =>
    have h0 : x % 2 ^ n / 2 ^ (n - 0) = 0 := Nat.div_eq_of_lt (Nat.mod_lt _ (Nat.two_pow_pos _))
    rw [h0]; simp [bw]
  | succ m ih =>
    obtain ⟨n, rfl⟩ : ∃ k, n = k + 1 := ⟨n - 1, by omega⟩
    have ih := ih n (by omega)
    have e1 : n + 1 - (m + 1) = n - m := by omega
    have e2 : x % 2 ^ (n + 1) / 2 ^ (n - m) = x / 2 ^ n % 2 * 2 ^ m + x % 2 ^ n / 2 ^ (n - m) := by
      rw [mod_succ]
      have : (2 : Nat) ^ n = 2 ^ m * 2 ^ (n - m) := by rw [← Nat.pow_add]; congr 1; omega
      have e3 : x / 2 ^ n % 2 * 2 ^ n = 2 ^ (n - m) * (x / 2 ^ n % 2 * 2 ^ m) := by
        rw [this, Nat.mul_comm (2 ^ (n - m)), Nat.mul_assoc]
      rw [e3, Nat.mul_add_div (Nat.two_pow_pos _)]
    rw [e1, e2, mod_succ y m]
    have hx : x / 2 ^ n % 2 < 2 := Nat.mod_lt _ (by omega)
    have hy : y / 2 ^ m % 2 < 2 := Nat.mod_lt _ (by omega)
    have hb : y % 2 ^ m < 2 ^ m := Nat.mod_lt _ (Nat.two_pow_pos _)
    have hd : x % 2 ^ n / 2 ^ (n - m) < 2 ^ m := by
      rw [Nat.div_lt_iff_lt_mul (Nat.two_pow_pos _), ← Nat.pow_add, show m + (n - m) = n by omega]
      exact Nat.mod_lt _ (Nat.two_pow_pos _)
    simp only [bw]
    generalize x % 2 ^ n / 2 ^ (n - m) = X at *
    generalize y % 2 ^ m = Y at *
    generalize (2 : Nat) ^ m = M at *
    generalize x / 2 ^ n % 2 = bx at *
    generalize y / M % 2 = by_ at *
    have d1 : ¬ (48 : UInt8) < 48 := by decide
    have d2 : ¬ (49 : UInt8) < 49 := by decide
    have d3 : (48 : UInt8) < 49 := by decide
    have d4 : ¬ (49 : UInt8) < 48 := by decide
    rcases (by omega : bx = 0 ∨ bx = 1) with rfl | rfl <;> rcases (by omega : by_ = 0 ∨ by_ = 1) with rfl | rfl <;> simp [Op.bytesLess, List.isPrefixOf]
    · simpa using ih
    · omega
    · omega
    · simpa using ih
/-- The words so far end at e; x is the first that may be. -/
theorem code_ok {n m x y e : Nat} (h : m ≤ n) (hn : n ≤ 12) (hx : x < 2 ^ n) (hy : y < 2 ^ m) (he : (y + 1) * 2 ^ (12 - m) = e) :
    (!Op.bytesLess (bw y m) (bw x n) || (bw y m).isPrefixOf (bw x n)) = decide (x * 2 ^ (12 - n) < e) := by
  rw [bw_less n m x y h, Nat.mod_eq_of_lt hx, Nat.mod_eq_of_lt hy, Bool.eq_iff_iff, decide_eq_true_iff, decide_eq_true_iff, ← he, ← Nat.lt_succ_iff, Nat.div_lt_iff_lt_mul (Nat.two_pow_pos _)]
  have : (2 : Nat) ^ (12 - m) = 2 ^ (n - m) * 2 ^ (12 - n) := by rw [← Nat.pow_add]; congr 1; omega
  rw [this, ← Nat.mul_assoc]
  exact (Nat.mul_lt_mul_right (Nat.two_pow_pos _)).symm
end Go.Proofs.YtncakjchaniheaaDoor
