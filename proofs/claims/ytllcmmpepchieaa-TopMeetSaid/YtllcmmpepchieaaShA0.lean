/- Rows of operations past each other, as plain functions. No program in sight. -/
import Derived.Test.YtllcmmpepchieaaShift0
namespace Go.Proofs.Ytllcmmpepchieaa
open Go.RowKit
def opSz (x : Op) : Int := if x.kind = 1 then 1 else if x.kind = 2 then -1 else 0
theorem opSz_bd (x : Op) : -1 ≤ opSz x ∧ opSz x ≤ 1 := by
  unfold opSz
  by_cases h1 : x.kind = 1
  · rw [if_pos h1]; omega
  · rw [if_neg h1]
    by_cases h2 : x.kind = 2
    · rw [if_pos h2]; omega
    · rw [if_neg h2]; omega
def szs : List Op → Int
  | [] => 0
  | x :: r => opSz x + szs r
theorem szs_append (a b : List Op) : szs (a ++ b) = szs a + szs b := by
  induction a with
  | nil => simp [szs]
  | cons x a ih => simp only [List.cons_append, szs, ih]; omega
theorem szs_bd (l : List Op) : -(l.length : Int) ≤ szs l ∧ szs l ≤ l.length := by
  induction l with
  | nil => simp [szs]
  | cons x l ih => have := opSz_bd x; simp only [szs, List.length_cons]; omega
/-- May x be done at a text of n bytes (room aside)? -/
def vld (n : Int) (x : Op) : Prop := (x.kind = 1 ∧ 0 ≤ x.pos ∧ x.pos ≤ n) ∨ (x.kind = 2 ∧ 0 ≤ x.pos ∧ x.pos < n ∧ x.b = 0) ∨ (x.kind = 3 ∧ x.pos = 0 ∧ x.b = 0)
theorem vld_of_err {n : Int} {x : Op} (h : opErr n x = 0) : vld n x ∧ 0 ≤ n ∧ n ≤ 200 ∧ 0 ≤ n + opSz x ∧ n + opSz x ≤ 200 := by
  unfold opErr at h; unfold vld opSz; grind
theorem err_of_vld {n : Int} {x : Op} (h : vld n x) (h0 : 0 ≤ n) (h1 : n < 200) : opErr n x = 0 := by
  unfold vld at h; unfold opErr; grind
theorem vld_grow {n : Int} {x : Op} (h : vld n x) (h0 : 0 ≤ n) : 0 ≤ n + opSz x := by
  unfold vld at h; unfold opSz; grind
theorem vld_pos {n : Int} {x : Op} (h : vld n x) (h0 : 0 ≤ n) : 0 ≤ x.pos ∧ x.pos ≤ n ∧ (x.kind = 1 ∨ x.kind = 2 ∨ x.kind = 3) := by
  unfold vld at h; grind
theorem tp {n : Int} {x y : Op} (f : Bool) (hx : vld n x) (hy : vld n y) (_h0 : 0 ≤ n) : vld (n + opSz y) (past x y f) ∧ vld (n + opSz x) (past y x (!f)) ∧ opSz x + opSz (past y x (!f)) = opSz y + opSz (past x y f) := by
  obtain ⟨xk, xp, xb⟩ := x
  obtain ⟨yk, yp, yb⟩ := y
  simp only [vld] at hx hy
  rcases hx with ⟨rfl, x1, x2⟩ | ⟨rfl, x1, x2, x3⟩ | ⟨rfl, x1, x3⟩ <;> rcases hy with ⟨rfl, y1, y2⟩ | ⟨rfl, y1, y2, y3⟩ | ⟨rfl, y1, y3⟩
  all_goals
    rcases Int.lt_trichotomy xp yp with hl | hl | hl
  all_goals
    have e1 : (yp < xp) ↔ ¬ (xp ≤ yp) := by omega
    have e3 : (yp = xp) ↔ (xp = yp) := eq_comm
    cases f <;> simp only [past, opSz, vld, Bool.not_true, Bool.not_false, e3] <;> simp <;> grind
/-- A row of operations, each behind those ahead of it. -/
def okL (n : Int) : List Op → Prop
  | [] => True
  | x :: r => vld n x ∧ okL (n + opSz x) r
theorem okL_drop {n : Int} {l : List Op} (h : okL n l) : ∀ k, okL (n + szs (l.take k)) (l.drop k) := by
  induction l generalizing n with
  | nil => intro k; simp [okL]
  | cons x l ih =>
    intro k
    cases k with
    | zero => simpa [szs] using h
    | succ k =>
      have := ih h.2 k
      simp only [List.take_succ_cons, List.drop_succ_cons, szs]
      rw [show n + (opSz x + szs (l.take k)) = n + opSz x + szs (l.take k) by omega]
      exact this
theorem okL_at {n : Int} {l : List Op} (h : okL n l) {k : Nat} (hk : k < l.length) : vld (n + szs (l.take k)) l[k] := by
  have := okL_drop h k
  rw [List.drop_eq_getElem_cons hk] at this
  exact this.1
theorem okL_pos {n : Int} {l : List Op} (h : okL n l) (h0 : 0 ≤ n) : ∀ k, 0 ≤ n + szs (l.take k) := by
  induction l generalizing n with
  | nil => intro k; simpa [szs] using h0
  | cons x l ih =>
    intro k
    cases k with
    | zero => simpa [szs] using h0
    | succ k =>
      have := ih h.2 (vld_grow h.1 h0) k
      simp only [List.take_succ_cons, szs]; omega
/-- x past a row; the row past x. -/
def rowX (f : Bool) (x : Op) : List Op → Op
  | [] => x
  | y :: r => rowX f (past x y f) r
def rowL (f : Bool) (x : Op) : List Op → List Op
  | [] => []
  | y :: r => past y x (!f) :: rowL f (past x y f) r
theorem rowL_length (f : Bool) (l : List Op) : ∀ x, (rowL f x l).length = l.length := by
  induction l with
  | nil => intro x; rfl
  | cons y l ih => intro x; simp [rowL, ih]
theorem rowX_snoc (f : Bool) (l : List Op) (y : Op) : ∀ x, rowX f x (l ++ [y]) = past (rowX f x l) y f := by
  induction l with
  | nil => intro x; rfl
  | cons z l ih => intro x; simp only [List.cons_append, rowX]; exact ih _
theorem rowL_snoc (f : Bool) (l : List Op) (y : Op) : ∀ x, rowL f x (l ++ [y]) = rowL f x l ++ [past y (rowX f x l) (!f)] := by
  induction l with
  | nil => intro x; rfl
  | cons z l ih => intro x; simp only [List.cons_append, rowL, rowX]; rw [ih]
theorem row_ok (f : Bool) {n : Int} {l : List Op} (h : okL n l) (h0 : 0 ≤ n) : ∀ {x : Op}, vld n x → okL (n + opSz x) (rowL f x l) ∧ (∀ k, k ≤ l.length → vld (n + szs (l.take k)) (rowX f x (l.take k))) := by
  induction l generalizing n with
  | nil =>
    intro x hx
    refine ⟨trivial, fun k hk => ?_⟩
    obtain rfl : k = 0 := by simpa using hk
    simpa [szs, rowX] using hx
  | cons y l ih =>
    intro x hx
    obtain ⟨t1, t2, t3⟩ := tp f hx h.1 h0
    obtain ⟨i1, i2⟩ := ih h.2 (vld_grow h.1 h0) t1
    refine ⟨⟨t2, ?_⟩, fun k hk => ?_⟩
    · rw [show n + opSz x + opSz (past y x (!f)) = n + opSz y + opSz (past x y f) by omega]; exact i1
    · cases k with
      | zero => simpa [szs, rowX] using hx
      | succ k =>
        have := i2 k (by simpa using hk)
        simp only [List.take_succ_cons, szs, rowX]
        rw [show n + (opSz y + szs (l.take k)) = n + opSz y + szs (l.take k) by omega]
        exact this
/-- All of a past l, one by one: what becomes of them, and of l. -/
def runO (f : Bool) : List Op → List Op → List Op
  | [], _ => []
  | x :: a, l => rowX f x l :: runO f a (rowL f x l)
def runL (f : Bool) : List Op → List Op → List Op
  | [], l => l
  | x :: a, l => runL f a (rowL f x l)
theorem runL_length (f : Bool) (a : List Op) : ∀ l, (runL f a l).length = l.length := by
  induction a with
  | nil => intro l; rfl
  | cons x a ih => intro l; rw [runL, ih, rowL_length]
theorem runO_length (f : Bool) (a : List Op) : ∀ l, (runO f a l).length = a.length := by
  induction a with
  | nil => intro l; rfl
  | cons x a ih => intro l; simp [runO, ih]
theorem runL_snoc (f : Bool) (a : List Op) (x : Op) : ∀ l, runL f (a ++ [x]) l = rowL f x (runL f a l) := by
  induction a with
  | nil => intro l; rfl
  | cons y a ih => intro l; simp only [List.cons_append, runL]; exact ih _
theorem runO_snoc (f : Bool) (a : List Op) (x : Op) : ∀ l, runO f (a ++ [x]) l = runO f a l ++ [rowX f x (runL f a l)] := by
  induction a with
  | nil => intro l; rfl
  | cons y a ih => intro l; simp only [List.cons_append, runO, runL]; rw [ih]
theorem run_cons (f : Bool) (a : List Op) (b : List Op) : ∀ x, runO f b (x :: a) = runO f (rowL (!f) x b) a ∧ runL f b (x :: a) = rowX (!f) x b :: runL f (rowL (!f) x b) a := by
  induction b generalizing a with
  | nil => intro x; exact ⟨rfl, rfl⟩
  | cons y b ih =>
    intro x
    simp only [runO, runL, rowX, rowL, Bool.not_not]
    obtain ⟨h1, h2⟩ := ih (rowL f (past y x f) a) (past x y (!f))
    rw [h1, h2]
    exact ⟨rfl, rfl⟩
/-- It is the same, whichever goes first. -/
theorem run_swap (f : Bool) (a : List Op) : ∀ b, runO (!f) b a = runL f a b ∧ runL (!f) b a = runO f a b := by
  induction a with
  | nil =>
    intro b
    constructor
    · rw [runL]
      induction b with
      | nil => rfl
      | cons y b ih => simp only [runO, rowX, rowL]; rw [ih]
    · rw [runO]
      induction b with
      | nil => rfl
      | cons y b ih => simp only [runL, rowL]; exact ih
  | cons x a ih =>
    intro b
    obtain ⟨h1, h2⟩ := run_cons (!f) a b x
    rw [Bool.not_not] at h1 h2
    rw [h1, h2, runL, runO]
    exact ⟨(ih _).1, by rw [(ih _).2]⟩
theorem run_ok (f : Bool) {a : List Op} : ∀ {n : Int} {l : List Op}, okL n a → okL n l → 0 ≤ n → ∀ k, k ≤ a.length → okL (n + szs (a.take k)) (runL f (a.take k) l) := by
  induction a with
  | nil => intro n l _ hl _ k _; simpa [szs, runL] using hl
  | cons x a ih =>
    intro n l ha hl h0 k hk
    cases k with
    | zero => simpa [szs, runL] using hl
    | succ k =>
      have := ih ha.2 (row_ok f hl h0 ha.1).1 (vld_grow ha.1 h0) k (by simpa using hk)
      simp only [List.take_succ_cons, szs, runL]
      rw [show n + (opSz x + szs (a.take k)) = n + opSz x + szs (a.take k) by omega]
      exact this
/-- What is asked of one of the two rows. -/
def chk (la lb : Int) (m : Int) : List Op → Int
  | [] => if 200 < wrap64 (wrap64 (m + la) + lb) then 11 else 0
  | x :: r => if opErr m x = 0 then chk la lb (m + opSz x) r else opErr m x
def allErr (n : Int) (a b : List Op) : Int :=
  if 30 < a.length ∨ 30 < b.length then 2 else if chk a.length b.length n a = 0 then chk a.length b.length n b else chk a.length b.length n a
theorem chk_step {la lb m : Int} {l : List Op} {k : Nat} (hk : k < l.length) (h : opErr (m + szs (l.take k)) l[k] = 0) : chk la lb (m + szs (l.take k)) (l.drop k) = chk la lb (m + szs (l.take (k + 1))) (l.drop (k + 1)) ∧ m + szs (l.take (k + 1)) = m + szs (l.take k) + opSz l[k] := by
  rw [List.drop_eq_getElem_cons hk, chk, if_pos h, List.take_succ_eq_append_getElem hk, szs_append]
  simp only [szs, Int.add_zero]
  rw [show m + (szs (l.take k) + opSz l[k]) = m + szs (l.take k) + opSz l[k] by omega]
  exact ⟨rfl, rfl⟩
theorem chk_bad {la lb m : Int} {l : List Op} {k : Nat} (hk : k < l.length) (h : opErr (m + szs (l.take k)) l[k] ≠ 0) : chk la lb (m + szs (l.take k)) (l.drop k) = opErr (m + szs (l.take k)) l[k] := by
  rw [List.drop_eq_getElem_cons hk, chk, if_neg h]
theorem chk_end {la lb m : Int} {l : List Op} : chk la lb (m + szs (l.take l.length)) (l.drop l.length) = if 200 < wrap64 (wrap64 (m + szs l + la) + lb) then 11 else 0 := by
  rw [List.drop_length, List.take_length, chk]
theorem chk_ok {la lb : Int} {l : List Op} : ∀ {m : Int}, chk la lb m l = 0 → okL m l ∧ ¬ 200 < wrap64 (wrap64 (m + szs l + la) + lb) ∧ (0 < l.length → 0 ≤ m ∧ 0 ≤ m + szs l ∧ m + szs l ≤ 200) := by
  induction l with
  | nil =>
    intro m h
    rw [chk] at h
    refine ⟨trivial, fun h2 => ?_, fun h => absurd h (by simp)⟩
    simp only [szs, Int.add_zero] at h2
    rw [if_pos h2] at h; omega
  | cons x l ih =>
    intro m h
    rw [chk] at h
    by_cases hx : opErr m x = 0
    · rw [if_pos hx] at h
      obtain ⟨h1, h2, h3⟩ := ih h
      obtain ⟨v1, v2, v3, v4, v5⟩ := vld_of_err hx
      simp only [szs]
      rw [← Int.add_assoc]
      refine ⟨⟨v1, h1⟩, h2, fun _ => ⟨v2, ?_⟩⟩
      cases l with
      | nil => simp only [szs]; omega
      | cons y l => have := h3 (by simp); omega
    · rw [if_neg hx] at h; exact absurd h hx
/-- Where there is something to do: both rows may be done, and there is room. -/
structure AllOk (n : Int) (a b : List Op) : Prop where
  n0 : 0 ≤ n
  oa : okL n a
  ob : okL n b
  ra : ∀ k, k ≤ a.length → n + szs (a.take k) + b.length ≤ 200
  rb : ∀ k, k ≤ b.length → n + szs (b.take k) + a.length ≤ 200
theorem wrap_room {x la lb : Int} (h0 : 0 ≤ x) (h1 : x ≤ 200) (ha : 0 ≤ la) (ha' : la ≤ 30) (hb : 0 ≤ lb) (hb' : lb ≤ 30) (h : ¬ 200 < wrap64 (wrap64 (x + la) + lb)) : x + la + lb ≤ 200 := by
  rw [IntWalk.wrap64_in (x + la) ⟨by omega, by omega⟩, IntWalk.wrap64_in _ ⟨by omega, by omega⟩] at h
  omega
theorem room {n : Int} {a : List Op} {lb : Int} (h : n + szs a + a.length + lb ≤ 200) (k : Nat) (_hk : k ≤ a.length) : n + szs (a.take k) + lb ≤ 200 := by
  have e : szs a = szs (a.take k) + szs (a.drop k) := by rw [← szs_append, List.take_append_drop]
  have := (szs_bd (a.drop k)).1
  rw [List.length_drop] at this
  omega
theorem allOk {n : Int} {a b : List Op} (h : allErr n a b = 0) (ha : 0 < a.length) (hb : 0 < b.length) : AllOk n a b ∧ a.length ≤ 30 ∧ b.length ≤ 30 := by
  unfold allErr at h
  by_cases h3 : 30 < a.length ∨ 30 < b.length
  · rw [if_pos h3] at h; omega
  · rw [if_neg h3] at h
    by_cases hc : chk a.length b.length n a = 0
    · rw [if_pos hc] at h
      obtain ⟨a1, a2, a3⟩ := chk_ok hc
      obtain ⟨b1, b2, b3⟩ := chk_ok h
      obtain ⟨a4, a5, a6⟩ := a3 ha
      obtain ⟨b4, b5, b6⟩ := b3 hb
      have r1 := wrap_room a5 a6 (by omega) (by omega) (by omega) (by omega) a2
      have r2 := wrap_room b5 b6 (by omega) (by omega) (by omega) (by omega) b2
      exact ⟨⟨a4, a1, b1, fun k hk => room (by omega) k hk, fun k hk => room (by omega) k hk⟩, by omega, by omega⟩
    · rw [if_neg hc] at h; exact absurd h hc
end Go.Proofs.Ytllcmmpepchieaa
