/- Scripts of edits, their errors, and what they make of a text. No program in sight. Scripts that do not touch, operation by operation (plain). Two scripts that do not touch: at one time, or one behind the other (plain). -/
import Derived.Test.YtmikckhihfcooaaPk01
namespace Go.Proofs.Ytmikckhihfcooaa
structure Ed where
  at_ : Int
  del : Int
  ins : List UInt8
deriving DecidableEq, Inhabited
/-- One edit behind another one that ends at p. -/
def edOne (n : Int) (p : Option Int) (x : Ed) : Int :=
  if x.at_ < 0 ∨ x.del < 0 ∨ n < x.at_ ∨ n < x.at_ + x.del then 1 else if 40 < x.ins.length then 2 else if x.del = 0 ∧ x.ins.length = 0 then 5 else if ∃ e, p = some e ∧ x.at_ ≤ e then 6 else 0
def edGo (n : Int) : Option Int → Int → List Ed → Int
  | _, size, [] => if 200 < size then 11 else 0
  | p, size, x :: r => if edOne n p x = 0 then edGo n (some (x.at_ + x.del)) (size + (x.ins.length - x.del)) r else edOne n p x
/-- The error of a script. -/
def edErr (n : Int) (l : List Ed) : Int := if n < 0 ∨ 200 < n then 1 else if 20 < l.length then 2 else edGo n none n l
def grows : List Ed → Int
  | [] => 0
  | x :: r => (x.ins.length - x.del) + grows r
theorem grows_append (a b : List Ed) : grows (a ++ b) = grows a + grows b := by
  induction a with
  | nil => simp [grows]
  | cons x a ih => simp [grows, ih]; omega
def lastEnd (l : List Ed) : Option Int := l.getLast?.map fun x => x.at_ + x.del
/-- Where the checks stand. -/
theorem edGo_take (n : Int) (l : List Ed) (k : Nat) (hk : k < l.length) (h : edGo n none n l = edGo n (lastEnd (l.take k)) (n + grows (l.take k)) (l.drop k)) (h0 : edOne n (lastEnd (l.take k)) l[k] = 0) :
    edGo n none n l = edGo n (lastEnd (l.take (k + 1))) (n + grows (l.take (k + 1))) (l.drop (k + 1)) := by
  rw [h, List.drop_eq_getElem_cons hk, edGo, if_pos h0, List.take_succ_eq_append_getElem hk, grows_append]
  simp only [grows, lastEnd, List.getLast?_append, List.getLast?_singleton, Option.some_or, Option.map_some]
  congr 1; omega
theorem edGo_bad (n : Int) (l : List Ed) (k : Nat) (hk : k < l.length) (h : edGo n none n l = edGo n (lastEnd (l.take k)) (n + grows (l.take k)) (l.drop k)) (h0 : edOne n (lastEnd (l.take k)) l[k] ≠ 0) :
    edGo n none n l = edOne n (lastEnd (l.take k)) l[k] := by
  rw [h, List.drop_eq_getElem_cons hk, edGo, if_neg h0]
theorem edGo_end (n : Int) (l : List Ed) (h : edGo n none n l = edGo n (lastEnd (l.take l.length)) (n + grows (l.take l.length)) (l.drop l.length)) : edGo n none n l = if 200 < n + grows l then 11 else 0 := by
  rw [h, List.drop_length, List.take_length, edGo]
theorem lastEnd_take (l : List Ed) (k : Nat) (hk : k < l.length) : lastEnd (l.take (k + 1)) = some (l[k].at_ + l[k].del) := by
  unfold lastEnd
  rw [List.take_succ_eq_append_getElem hk, List.getLast?_append]
  simp
/-- A right script, from a place on. -/
inductive Chain (n : Int) : Option Int → List Ed → Prop
  | nil (p) : Chain n p []
  | cons (p x r) : edOne n p x = 0 → Chain n (some (x.at_ + x.del)) r → Chain n p (x :: r)
theorem edGo_zero {n : Int} {l : List Ed} : ∀ {p : Option Int} {s : Int}, edGo n p s l = 0 ↔ Chain n p l ∧ s + grows l ≤ 200 := by
  induction l with
  | nil =>
    intro p s
    simp only [edGo, grows]
    constructor
    · intro h; exact ⟨.nil _, by split at h <;> omega⟩
    · rintro ⟨_, h⟩; rw [if_neg (by omega)]
  | cons x r ih =>
    intro p s
    simp only [edGo, grows]
    by_cases h : edOne n p x = 0
    · rw [if_pos h, ih]
      constructor
      · rintro ⟨a, b⟩; exact ⟨.cons _ _ _ h a, by omega⟩
      · rintro ⟨a, b⟩; cases a; exact ⟨by assumption, by omega⟩
    · rw [if_neg h]
      constructor
      · intro h'; exact absurd h' h
      · rintro ⟨a, b⟩; cases a; exact absurd (by assumption) h
theorem edErr_zero {n : Int} {l : List Ed} : edErr n l = 0 ↔ 0 ≤ n ∧ n ≤ 200 ∧ l.length ≤ 20 ∧ Chain n none l ∧ n + grows l ≤ 200 := by
  unfold edErr
  by_cases h1 : n < 0 ∨ 200 < n
  · rw [if_pos h1]
    constructor
    · intro h; cases h
    · rintro ⟨_, _, _⟩; omega
  · rw [if_neg h1]
    by_cases h2 : 20 < l.length
    · rw [if_pos h2]
      constructor
      · intro h; cases h
      · rintro ⟨_, _, _, _⟩; omega
    · rw [if_neg h2, edGo_zero]
      constructor
      · rintro ⟨a, b⟩; exact ⟨by omega, by omega, by omega, a, b⟩
      · rintro ⟨_, _, _, a, b⟩; exact ⟨a, b⟩
theorem edOne_zero {n : Int} {p : Option Int} {x : Ed} (h : edOne n p x = 0) : 0 ≤ x.at_ ∧ 0 ≤ x.del ∧ x.at_ ≤ n ∧ x.at_ + x.del ≤ n ∧ x.ins.length ≤ 40 ∧ ¬ (x.del = 0 ∧ x.ins.length = 0) ∧ ∀ e, p = some e → e < x.at_ := by
  unfold edOne at h
  by_cases h1 : x.at_ < 0 ∨ x.del < 0 ∨ n < x.at_ ∨ n < x.at_ + x.del
  · rw [if_pos h1] at h; cases h
  · rw [if_neg h1] at h
    by_cases h2 : 40 < x.ins.length
    · rw [if_pos h2] at h; cases h
    · rw [if_neg h2] at h
      by_cases h3 : x.del = 0 ∧ x.ins.length = 0
      · rw [if_pos h3] at h; cases h
      · rw [if_neg h3] at h
        by_cases h4 : ∃ e, p = some e ∧ x.at_ ≤ e
        · rw [if_pos h4] at h; cases h
        · refine ⟨by omega, by omega, by omega, by omega, by omega, h3, fun e he => ?_⟩
          exact Int.lt_of_not_ge fun hh => h4 ⟨e, he, hh⟩
theorem Chain.mem {n : Int} {p : Option Int} {l : List Ed} (h : Chain n p l) : ∀ x ∈ l, 0 ≤ x.at_ ∧ 0 ≤ x.del ∧ x.at_ + x.del ≤ n ∧ x.ins.length ≤ 40 ∧ ¬ (x.del = 0 ∧ x.ins.length = 0) ∧ ∀ e, p = some e → e < x.at_ := by
  induction h with
  | nil p => intro x hx; cases hx
  | cons p y r h0 h ih =>
    intro x hx
    have h1 := edOne_zero h0
    rcases List.mem_cons.1 hx with rfl | hx
    · exact ⟨h1.1, h1.2.1, h1.2.2.2.1, h1.2.2.2.2.1, h1.2.2.2.2.2.1, h1.2.2.2.2.2.2⟩
    · obtain ⟨a, b, c, d, e, f⟩ := ih x hx
      refine ⟨a, b, c, d, e, fun q hq => ?_⟩
      have := h1.2.2.2.2.2.2 q hq
      have := f _ rfl
      omega
theorem Chain.grows_le {n : Int} {p : Option Int} {l : List Ed} (h : Chain n p l) : - (n : Int) * l.length ≤ grows l ∧ grows l ≤ 40 * l.length := by
  induction h with
  | nil p => simp [grows]
  | cons p x r h0 h ih =>
    have h1 := edOne_zero h0
    simp only [grows, List.length_cons]
    have e : -n * ((r.length + 1 : Nat) : Int) = -n * r.length - n := by
      rw [Int.natCast_add, Int.mul_add]; simp; omega
    rw [e]
    have e2 : ((r.length + 1 : Nat) : Int) = (r.length : Int) + 1 := by omega
    constructor <;> omega
/-- A text, edited, from the place p on. -/
def edTo (s : List UInt8) : Nat → List Ed → List UInt8
  | p, [] => s.drop p
  | p, x :: r => (s.drop p).take (x.at_.toNat - p) ++ x.ins ++ edTo s (x.at_ + x.del).toNat r
/-- The last one first. -/
def edDone (s : List UInt8) : List Ed → List UInt8
  | [] => s
  | x :: r => (edDone s r).take x.at_.toNat ++ x.ins ++ (edDone s r).drop (x.at_ + x.del).toNat
def after (p : Nat) : Option Int → Prop
  | none => p = 0
  | some e => e = (p : Int)
theorem edDone_eq {n : Nat} {s : List UInt8} (hs : s.length = n) {l : List Ed} : ∀ {p : Option Int} {k : Nat}, Chain n p l → after k p → k ≤ n → edDone s l = s.take k ++ edTo s k l := by
  induction l with
  | nil => intro p k _ _ _; simp [edDone, edTo]
  | cons x r ih =>
    intro p k hc ha hk
    cases hc with
    | cons _ _ _ h0 h =>
      obtain ⟨h1, h2, h3, h4, h5, h6, h7⟩ := edOne_zero h0
      have hk2 : (k : Int) ≤ x.at_ := by
        cases p with
        | none => simp only [after] at ha; omega
        | some e => simp only [after] at ha; have := h7 e rfl; omega
      obtain ⟨a, ha'⟩ := Int.eq_ofNat_of_zero_le h1
      obtain ⟨d, hd'⟩ := Int.eq_ofNat_of_zero_le h2
      have e1 := ih (p := some (x.at_ + x.del)) (k := a + d) h (by simp only [after]; omega) (by omega)
      simp only [edDone, edTo]
      rw [e1, ha', hd']
      have t1 : ((a : Int) + (d : Int)).toNat = a + d := by omega
      have t2 : ((a : Int)).toNat = a := by omega
      rw [t1, t2]
      have l1 : (s.take (a + d)).length = a + d := by rw [List.length_take]; omega
      rw [List.take_append_of_le_length (by omega), List.drop_append_of_le_length (by omega), List.take_take, Nat.min_eq_left (by omega)]
      have e3 : s.take a = s.take k ++ (s.drop k).take (a - k) := by
        rw [← List.take_add]; congr 1; omega
      have e4 : (s.take (a + d)).drop (a + d) = [] := List.drop_of_length_le (by omega)
      rw [e3, e4]
      simp
theorem edDone_is {s : List UInt8} {l : List Ed} (h : edErr s.length l = 0) : edDone s l = edTo s 0 l := by
  obtain ⟨_, _, _, h, _⟩ := edErr_zero.1 h
  have := edDone_eq rfl h (k := 0) rfl (Nat.zero_le _)
  simpa using this
theorem edTo_length {n : Nat} {s : List UInt8} (hs : s.length = n) {l : List Ed} : ∀ {p : Option Int} {k : Nat}, Chain n p l → after k p → k ≤ n → ((edTo s k l).length : Int) = n - k + grows l := by
  induction l with
  | nil => intro p k _ _ _; simp [edTo, grows]; omega
  | cons x r ih =>
    intro p k hc ha hk
    cases hc with
    | cons _ _ _ h0 h =>
      obtain ⟨h1, h2, h3, h4, h5, h6, h7⟩ := edOne_zero h0
      have hk2 : (k : Int) ≤ x.at_ := by
        cases p with
        | none => simp only [after] at ha; omega
        | some e => simp only [after] at ha; have := h7 e rfl; omega
      have e1 := ih (p := some (x.at_ + x.del)) (k := (x.at_ + x.del).toNat) h (by simp only [after]; omega) (by omega)
      simp only [edTo, grows, List.length_append, List.length_take, List.length_drop]
      omega
end Go.Proofs.Ytmikckhihfcooaa
namespace Go.Proofs.Ytmikckhihfcooaa
/-- An edit, byte by byte. -/
def putsE (p : Int) : List UInt8 → List Op
  | [] => []
  | b :: r => ⟨1, p, (b.toNat : Int)⟩ :: putsE (p + 1) r
def opsE (x : Ed) : List Op := List.replicate x.del.toNat ⟨2, x.at_, 0⟩ ++ putsE x.at_ x.ins
/-- Edits, the last one first in the list. -/
def opsR : List Ed → List Op
  | [] => []
  | x :: r => opsE x ++ opsR r
def shO (d : Int) (y : Op) : Op := ⟨y.kind, y.pos + d, y.b⟩
theorem shO_sz (d : Int) (y : Op) : opSz (shO d y) = opSz y := rfl
theorem shO_shO (d e : Int) (y : Op) : shO d (shO e y) = shO (e + d) y := by unfold shO; simp only [Int.add_assoc]
def K12 (x : Op) : Prop := x.kind = 1 ∨ x.kind = 2
/-- All of these happen below p. -/
def blw (p : Int) : List Op → Prop
  | [] => True
  | x :: r => (x.pos < p ∧ 0 ≤ x.pos ∧ K12 x) ∧ blw (p + opSz x) r
theorem blw_append {p : Int} {a b : List Op} : blw p (a ++ b) ↔ blw p a ∧ blw (p + szs a) b := by
  induction a generalizing p with
  | nil => simp [blw, szs]
  | cons x a ih =>
    simp only [List.cons_append, blw, szs]
    rw [ih, Int.add_assoc]
    exact and_assoc.symm
theorem blw_mono {p q : Int} (h : p ≤ q) : ∀ {a : List Op}, blw p a → blw q a := by
  intro a
  induction a generalizing p q with
  | nil => intro _; trivial
  | cons x a ih =>
    rintro ⟨⟨h1, h2, h3⟩, h4⟩
    exact ⟨⟨by omega, h2, h3⟩, ih (by omega) h4⟩
theorem past_up {x y : Op} (f : Bool) (hx : K12 x) (hy : K12 y) (h : x.pos < y.pos) : past x y f = x ∧ past y x f = shO (opSz x) y := by
  obtain ⟨kx, px, bx⟩ := x
  obtain ⟨ky, py, bye⟩ := y
  unfold K12 at hx hy
  simp only at hx hy h
  unfold past shO opSz
  simp only
  rcases hx with rfl | rfl <;> rcases hy with rfl | rfl <;>
    · refine ⟨?_, ?_⟩
      all_goals repeat (first | rw [if_neg (by omega)] | rw [if_pos (by omega)])
      all_goals try (congr 1)
theorem row_up {f : Bool} {x : Op} (hx : K12 x) : ∀ {h r : List Op}, (∀ y ∈ h, x.pos < y.pos ∧ K12 y) → rowX f x (h ++ r) = rowX f x r ∧ rowL f x (h ++ r) = h.map (shO (opSz x)) ++ rowL f x r := by
  intro h
  induction h with
  | nil => intro r _; exact ⟨rfl, rfl⟩
  | cons y h ih =>
    intro r hh
    obtain ⟨h1, h2⟩ := hh y List.mem_cons_self
    obtain ⟨e1, _⟩ := past_up f hx h2 h1
    obtain ⟨_, e2⟩ := past_up (!f) hx h2 h1
    obtain ⟨i1, i2⟩ := ih (r := r) fun z hz => hh z (List.mem_cons_of_mem _ hz)
    simp only [List.cons_append, rowX, rowL, List.map_cons]
    rw [e1, e2, i1, i2]
    exact ⟨rfl, rfl⟩
theorem run_up (f : Bool) : ∀ {a h r : List Op} {p : Int}, blw p a → (∀ y ∈ h, p ≤ y.pos ∧ K12 y) → runL f a (h ++ r) = h.map (shO (szs a)) ++ runL f a r ∧ runO f a (h ++ r) = runO f a r := by
  intro a
  induction a with
  | nil =>
    intro h r p _ _
    refine ⟨?_, rfl⟩
    have e : h.map (shO (szs [])) = h := by
      conv => rhs; rw [← List.map_id h]
      apply List.map_congr_left
      intro y _
      unfold shO szs
      simp
    simp only [runL]
    rw [e]
  | cons x a ih =>
    intro h r p hb hh
    obtain ⟨⟨h1, _, h3⟩, h4⟩ := hb
    obtain ⟨e1, e2⟩ := row_up (f := f) (x := x) h3 (h := h) (r := r) fun y hy => ⟨by have := (hh y hy).1; omega, (hh y hy).2⟩
    simp only [runL, runO]
    rw [e1, e2]
    obtain ⟨i1, i2⟩ := ih (h := h.map (shO (opSz x))) (r := rowL f x r) h4 (by
      intro y hy
      obtain ⟨z, hz, rfl⟩ := List.mem_map.1 hy
      have := hh z hz
      exact ⟨by show p + opSz x ≤ z.pos + opSz x; omega, this.2⟩)
    rw [i1, i2, List.map_map]
    refine ⟨?_, rfl⟩
    congr 1
    apply List.map_congr_left
    intro y _
    show shO (szs a) (shO (opSz x) y) = shO (szs (x :: a)) y
    rw [shO_shO]; rfl
theorem run_dn (f : Bool) {h a b : List Op} {p : Int} (hb : blw p b) (hh : ∀ y ∈ h, p ≤ y.pos ∧ K12 y) : runL f (h ++ a) b = runL f a b ∧ runO f (h ++ a) b = h.map (shO (szs b)) ++ runO f a b := by
  obtain ⟨h1, h2⟩ := run_up (!f) (r := a) hb hh
  obtain ⟨e1, e2⟩ := run_swap f (h ++ a) b
  obtain ⟨e3, e4⟩ := run_swap f a b
  rw [← e1, ← e2, h1, h2, e3, e4]
  exact ⟨rfl, rfl⟩
/-- What operations make of a text. -/
def doL (s : List UInt8) (x : Op) : List UInt8 :=
  if x.kind = 1 then s.take x.pos.toNat ++ [UInt8.ofNat x.b.toNat] ++ s.drop x.pos.toNat
  else if x.kind = 2 then s.take x.pos.toNat ++ s.drop (x.pos.toNat + 1)
  else s
def doAll (s : List UInt8) (l : List Op) : List UInt8 := l.foldl doL s
theorem doAll_append (s : List UInt8) (a b : List Op) : doAll s (a ++ b) = doAll (doAll s a) b := List.foldl_append
theorem doAll_cons (s : List UInt8) (x : Op) (a : List Op) : doAll s (x :: a) = doAll (doL s x) a := rfl
theorem doL_len {s : List UInt8} {x : Op} (h : vld s.length x) : ((doL s x).length : Int) = s.length + opSz x := by
  unfold vld at h
  unfold doL opSz
  rcases h with ⟨h, h1, h2⟩ | ⟨h, h1, h2, _⟩ | ⟨h, h1, _⟩
  · rw [if_pos h, if_pos h, List.length_append, List.length_append, List.length_take, List.length_drop, List.length_singleton]
    omega
  · rw [if_neg (by omega), if_pos h, if_neg (by omega), if_pos h, List.length_append, List.length_take, List.length_drop]
    omega
  · rw [if_neg (by omega), if_neg (by omega), if_neg (by omega), if_neg (by omega)]; omega
theorem doL_far (s t : List UInt8) {y : Op} {j : Int} (hj : 0 ≤ j) (hp : y.pos = s.length + j) (hk : K12 y) : doL (s ++ t) y = s ++ doL t ⟨y.kind, j, y.b⟩ := by
  obtain ⟨k, p, b⟩ := y
  simp only at hp hk
  unfold K12 at hk
  simp only at hk
  obtain ⟨j', rfl⟩ := Int.eq_ofNat_of_zero_le hj
  have e : p.toNat = s.length + j' := by omega
  have e2 : ((j' : Nat) : Int).toNat = j' := by omega
  unfold doL
  simp only
  rcases hk with rfl | rfl
  · rw [if_pos rfl, if_pos rfl, e, e2, List.take_length_add_append, List.drop_length_add_append]
    simp
  · rw [if_neg (by decide), if_pos rfl, if_neg (by decide), if_pos rfl, e, e2, List.take_length_add_append, Nat.add_assoc, List.drop_length_add_append]
    simp
theorem split_at {s : List UInt8} {p : Nat} (h : p ≤ s.length) : ∃ a b, s = a ++ b ∧ a.length = p := ⟨s.take p, s.drop p, (List.take_append_drop _ _).symm, by rw [List.length_take]; omega⟩
/-- What happens below, and what above: in either order. -/
theorem do_swap {s : List UInt8} {x y : Op} (hx : K12 x) (hy : K12 y) (h0 : 0 ≤ x.pos) (h : x.pos < y.pos) (hl : x.pos < s.length) : doL (doL s x) (shO (opSz x) y) = doL (doL s y) x := by
  obtain ⟨kx, px, bx⟩ := x
  obtain ⟨ky, py, bye⟩ := y
  simp only at h0 h hl
  obtain ⟨p, rfl⟩ := Int.eq_ofNat_of_zero_le h0
  obtain ⟨a, b, rfl, ha⟩ := split_at (s := s) (p := p) (by omega)
  have hb : 0 < b.length := by rw [List.length_append] at hl; omega
  rcases hx with hx | hx
  · simp only at hx
    subst hx
    have e1 : ∀ t : List UInt8, doL (a ++ t) ⟨1, (p : Int), bx⟩ = a ++ [UInt8.ofNat bx.toNat] ++ t := by
      intro t
      have e : doL (a ++ t) ⟨1, (p : Int), bx⟩ = (a ++ t).take p ++ [UInt8.ofNat bx.toNat] ++ (a ++ t).drop p := by
        unfold doL
        rw [if_pos rfl]; rfl
      rw [e, List.take_left' ha, List.drop_left' ha]
    rw [e1, doL_far (a ++ [UInt8.ofNat bx.toNat]) b (y := shO (opSz ⟨1, (p : Int), bx⟩) ⟨ky, py, bye⟩) (j := py - p) (by omega) (by
      rw [List.length_append, List.length_singleton, ha]
      show py + 1 = _
      omega) hy, doL_far a b (y := ⟨ky, py, bye⟩) (j := py - p) (by omega) (by show py = _; omega) hy, e1]
    rfl
  · simp only at hx
    subst hx
    cases b with
    | nil => simp at hb
    | cons c b =>
      have e1 : ∀ t : List UInt8, doL (a ++ c :: t) ⟨2, (p : Int), bx⟩ = a ++ t := by
        intro t
        have e : doL (a ++ c :: t) ⟨2, (p : Int), bx⟩ = (a ++ c :: t).take p ++ (a ++ c :: t).drop (p + 1) := by
          unfold doL
          rw [if_neg (show ¬ (2 : Int) = 1 by decide), if_pos rfl]; rfl
        rw [e, List.take_left' ha, ← ha, List.drop_length_add_append]; rfl
      have e2 : a ++ c :: b = (a ++ [c]) ++ b := by simp
      rw [e1, doL_far a b (y := shO (opSz ⟨2, (p : Int), bx⟩) ⟨ky, py, bye⟩) (j := py - p - 1) (by omega) (by
        show py + -1 = _
        omega) hy, e2, doL_far (a ++ [c]) b (y := ⟨ky, py, bye⟩) (j := py - p - 1) (by omega) (by rw [List.length_append, List.length_singleton, ha]; show py = _; omega) hy]
      rw [List.append_assoc]
      exact (e1 _).symm
theorem doL_len12 {s : List UInt8} {x : Op} (hx : K12 x) (h0 : 0 ≤ x.pos) (hl : x.pos < s.length) : ((doL s x).length : Int) = s.length + opSz x := by
  unfold doL opSz
  rcases hx with h | h
  · rw [if_pos h, if_pos h, List.length_append, List.length_append, List.length_take, List.length_drop, List.length_singleton]
    omega
  · rw [if_neg (by omega), if_pos h, if_neg (by omega), if_pos h, List.length_append, List.length_take, List.length_drop]
    omega
theorem doAll_one : ∀ {a : List Op} {y : Op} {s : List UInt8} {p : Int}, K12 y → blw p a → p ≤ s.length → p ≤ y.pos → doAll s (a ++ [shO (szs a) y]) = doAll s (y :: a) := by
  intro a
  induction a with
  | nil =>
    intro y s p _ _ _ _
    have e : shO (szs []) y = y := by unfold shO szs; simp
    rw [List.nil_append, e]
  | cons x a ih =>
    intro y s p hy hb hp hy2
    obtain ⟨⟨h1, h2, h3⟩, h4⟩ := hb
    rw [List.cons_append, doAll_cons]
    have e : shO (szs (x :: a)) y = shO (szs a) (shO (opSz x) y) := by rw [shO_shO]; rfl
    have hl := doL_len12 h3 h2 (show x.pos < s.length by omega)
    rw [e, ih (y := shO (opSz x) y) hy h4 (by rw [hl]; omega) (by show p + opSz x ≤ y.pos + opSz x; omega), doAll_cons, do_swap h3 hy h2 (by omega) (by omega), doAll_cons, doAll_cons]
theorem doAll_swap : ∀ {h a : List Op} {s : List UInt8} {p : Int}, blw p a → (∀ y ∈ h, p ≤ y.pos ∧ K12 y) → (∀ k, k ≤ h.length → p ≤ ((doAll s (h.take k)).length : Int)) → doAll s (a ++ h.map (shO (szs a))) = doAll s (h ++ a) := by
  intro h
  induction h with
  | nil => intro a s p _ _ _; simp
  | cons y h ih =>
    intro a s p hb hh hl
    have h1 := hh y List.mem_cons_self
    rw [List.map_cons]
    have e : a ++ shO (szs a) y :: h.map (shO (szs a)) = (a ++ [shO (szs a) y]) ++ h.map (shO (szs a)) := by simp
    rw [e, doAll_append, doAll_one (y := y) h1.2 hb (by simpa [doAll] using hl 0 (Nat.zero_le _)) h1.1, ← doAll_append, List.cons_append, doAll_cons, ih hb (fun z hz => hh z (List.mem_cons_of_mem _ hz)) (fun k hk => by
      have := hl (k + 1) (by simpa using hk)
      rw [List.take_succ_cons, doAll_cons] at this
      exact this), List.cons_append, doAll_cons]
end Go.Proofs.Ytmikckhihfcooaa
namespace Go.Proofs.Ytmikckhihfcooaa
theorem putsE_snoc (l : List UInt8) (b : UInt8) : ∀ p, putsE p (l ++ [b]) = putsE p l ++ [⟨1, p + l.length, (b.toNat : Int)⟩] := by
  induction l with
  | nil => intro p; simp [putsE]
  | cons c l ih =>
    intro p
    simp only [List.cons_append, putsE, List.length_cons]
    rw [ih]
    congr 4
    omega
theorem putsE_len (l : List UInt8) : ∀ p, (putsE p l).length = l.length := by
  induction l with
  | nil => intro p; rfl
  | cons b l ih => intro p; simp [putsE, ih]
theorem opsE_len (x : Ed) : (opsE x).length = x.del.toNat + x.ins.length := by unfold opsE; rw [List.length_append, List.length_replicate, putsE_len]
theorem szs_rep (n : Nat) (p : Int) : szs (List.replicate n ⟨2, p, 0⟩) = -(n : Int) := by
  induction n with
  | zero => simp [szs]
  | succ n ih => rw [List.replicate_succ, szs, ih]; show -1 + _ = _; omega
theorem szs_puts (l : List UInt8) : ∀ p, szs (putsE p l) = (l.length : Int) := by
  induction l with
  | nil => intro p; rfl
  | cons b l ih => intro p; rw [putsE, szs, ih, List.length_cons]; show 1 + _ = _; omega
theorem szs_opsE {x : Ed} (h : 0 ≤ x.del) : szs (opsE x) = x.ins.length - x.del := by
  unfold opsE
  rw [szs_append, szs_rep, szs_puts]; omega
theorem puts_pos (l : List UInt8) : ∀ p, ∀ y ∈ putsE p l, p ≤ y.pos ∧ K12 y := by
  induction l with
  | nil => intro p y h; cases h
  | cons b l ih =>
    intro p y h
    rcases List.mem_cons.1 h with rfl | h
    · exact ⟨Int.le_refl _, .inl rfl⟩
    · have := ih (p + 1) y h
      exact ⟨by omega, this.2⟩
theorem opsE_pos (x : Ed) : ∀ y ∈ opsE x, x.at_ ≤ y.pos ∧ K12 y := by
  intro y h
  rcases List.mem_append.1 h with h | h
  · rw [(List.mem_replicate.1 h).2]
    exact ⟨Int.le_refl _, .inr rfl⟩
  · exact puts_pos _ _ y h
theorem blw_rep {a : Int} (h0 : 0 ≤ a) : ∀ (n : Nat) (p : Int), a + n < p → blw p (List.replicate n ⟨2, a, 0⟩) := by
  intro n
  induction n with
  | zero => intro p _; trivial
  | succ n ih =>
    intro p h
    rw [List.replicate_succ]
    refine ⟨⟨by show a < p; omega, h0, .inr rfl⟩, ih _ ?_⟩
    show a + n < p + -1
    omega
theorem blw_puts (l : List UInt8) : ∀ {a p : Int}, 0 ≤ a → a < p → blw p (putsE a l) := by
  induction l with
  | nil => intro a p _ _; trivial
  | cons b l ih =>
    intro a p h0 h
    refine ⟨⟨h, h0, .inl rfl⟩, ih (by omega) ?_⟩
    show a + 1 < p + 1
    omega
theorem blw_opsE {x : Ed} {p : Int} (h0 : 0 ≤ x.at_) (h1 : 0 ≤ x.del) (h : x.at_ + x.del < p) : blw p (opsE x) := by
  unfold opsE
  rw [blw_append, szs_rep]
  exact ⟨blw_rep h0 _ _ (by omega), blw_puts _ h0 (by omega)⟩
theorem okL_append {n : Int} {a b : List Op} : okL n (a ++ b) ↔ okL n a ∧ okL (n + szs a) b := by
  induction a generalizing n with
  | nil => simp [okL, szs]
  | cons x a ih =>
    simp only [List.cons_append, okL, szs]
    rw [ih, Int.add_assoc, and_assoc]
theorem okL_rep {a : Int} (h0 : 0 ≤ a) : ∀ (k : Nat) (n : Int), a + k ≤ n → okL n (List.replicate k ⟨2, a, 0⟩) := by
  intro k
  induction k with
  | zero => intro n _; trivial
  | succ k ih =>
    intro n h
    rw [List.replicate_succ]
    refine ⟨.inr (.inl ⟨rfl, h0, by show a < n; omega, rfl⟩), ih _ ?_⟩
    show a + k ≤ n + -1
    omega
theorem okL_puts (l : List UInt8) : ∀ {a n : Int}, 0 ≤ a → a ≤ n → okL n (putsE a l) := by
  induction l with
  | nil => intro a n _ _; trivial
  | cons b l ih =>
    intro a n h0 h
    refine ⟨.inl ⟨rfl, h0, h⟩, ih (by omega) ?_⟩
    show a + 1 ≤ n + 1
    omega
theorem okL_opsE {x : Ed} {n : Int} (h0 : 0 ≤ x.at_) (h1 : 0 ≤ x.del) (h : x.at_ + x.del ≤ n) : okL n (opsE x) := by
  unfold opsE
  rw [okL_append, szs_rep]
  exact ⟨okL_rep h0 _ _ (by omega), okL_puts _ h0 (by omega)⟩
/-- Edits, the last one first: apart, and right. -/
def Desc (l : List Ed) : Prop := l.Pairwise (fun z w => w.at_ + w.del < z.at_) ∧ ∀ z ∈ l, 0 ≤ z.at_ ∧ 0 ≤ z.del
theorem Desc.tail {x : Ed} {l : List Ed} (h : Desc (x :: l)) : Desc l ∧ (∀ z ∈ l, z.at_ + z.del < x.at_) ∧ 0 ≤ x.at_ ∧ 0 ≤ x.del := by
  obtain ⟨h1, h2⟩ := h
  obtain ⟨h3, h4⟩ := List.pairwise_cons.1 h1
  exact ⟨⟨h4, fun z hz => h2 z (List.mem_cons_of_mem _ hz)⟩, h3, h2 x List.mem_cons_self⟩
theorem blw_opsR : ∀ {l : List Ed} {p : Int}, Desc l → (∀ z ∈ l, z.at_ + z.del < p) → blw p (opsR l) := by
  intro l
  induction l with
  | nil => intro p _ _; trivial
  | cons x l ih =>
    intro p hd hp
    obtain ⟨h1, h2, h3, h4⟩ := hd.tail
    have hx := hp x List.mem_cons_self
    unfold opsR
    rw [blw_append, szs_opsE h4]
    exact ⟨blw_opsE h3 h4 hx, ih h1 fun z hz => by have := h2 z hz; omega⟩
theorem okL_opsR : ∀ {l : List Ed} {n : Int}, Desc l → (∀ z ∈ l, z.at_ + z.del ≤ n) → okL n (opsR l) := by
  intro l
  induction l with
  | nil => intro p _ _; trivial
  | cons x l ih =>
    intro n hd hp
    obtain ⟨h1, h2, h3, h4⟩ := hd.tail
    have hx := hp x List.mem_cons_self
    unfold opsR
    rw [okL_append, szs_opsE h4]
    exact ⟨okL_opsE h3 h4 hx, ih h1 fun z hz => by have := h2 z hz; omega⟩
theorem doAll_rep : ∀ (k p : Nat) (s : List UInt8), p ≤ s.length → doAll s (List.replicate k ⟨2, (p : Int), 0⟩) = s.take p ++ s.drop (p + k) := by
  intro k
  induction k with
  | zero => intro p s _; simp [doAll]
  | succ k ih =>
    intro p s h
    have e : doL s ⟨2, (p : Int), 0⟩ = s.take p ++ s.drop (p + 1) := by
      unfold doL
      rw [if_neg (show ¬ (2 : Int) = 1 by decide), if_pos rfl]; rfl
    have hl : (s.take p).length = p := by rw [List.length_take]; omega
    rw [List.replicate_succ, doAll_cons, e, ih p _ (by rw [List.length_append, hl]; omega), List.take_left' hl]
    congr 1
    have e2 : p + k = (s.take p).length + k := by rw [hl]
    rw [e2, List.drop_length_add_append, List.drop_drop]
    congr 1; omega
theorem doAll_puts : ∀ (l a b : List UInt8), doAll (a ++ b) (putsE (a.length : Int) l) = a ++ l ++ b := by
  intro l
  induction l with
  | nil => intro a b; simp [doAll, putsE]
  | cons c l ih =>
    intro a b
    have e : doL (a ++ b) ⟨1, (a.length : Int), (c.toNat : Int)⟩ = (a ++ [c]) ++ b := by
      have e : doL (a ++ b) ⟨1, (a.length : Int), (c.toNat : Int)⟩ = (a ++ b).take a.length ++ [UInt8.ofNat c.toNat] ++ (a ++ b).drop a.length := by
        unfold doL
        rw [if_pos rfl]; rfl
      rw [e, List.take_left' rfl, List.drop_left' rfl, UInt8.ofNat_toNat]
    rw [putsE, doAll_cons, e]
    have e2 : ((a.length : Int)) + 1 = ((a ++ [c]).length : Int) := by rw [List.length_append, List.length_singleton]; omega
    rw [e2, ih]
    simp
theorem doAll_opsE {x : Ed} {s : List UInt8} (h0 : 0 ≤ x.at_) (h1 : 0 ≤ x.del) (h : x.at_ + x.del ≤ s.length) : doAll s (opsE x) = s.take x.at_.toNat ++ x.ins ++ s.drop (x.at_ + x.del).toNat := by
  obtain ⟨a, d, i⟩ := x
  simp only at h0 h1 h ⊢
  obtain ⟨p, rfl⟩ := Int.eq_ofNat_of_zero_le h0
  obtain ⟨k, rfl⟩ := Int.eq_ofNat_of_zero_le h1
  unfold opsE
  simp only
  have hl : (s.take p).length = p := by rw [List.length_take]; omega
  rw [doAll_append, Int.toNat_natCast, doAll_rep k p s (by omega)]
  have e : ((p : Nat) : Int) = ((s.take p).length : Int) := by rw [hl]
  have e3 : ((p : Int) + (k : Int)).toNat = p + k := by omega
  rw [show putsE ((p : Nat) : Int) i = putsE ((s.take p).length : Int) i by rw [← e], doAll_puts, Int.toNat_natCast, e3]
theorem opsE_floor {x : Ed} {s : List UInt8} (h0 : 0 ≤ x.at_) (h1 : 0 ≤ x.del) (h : x.at_ + x.del ≤ s.length) : ∀ k, k ≤ (opsE x).length → x.at_ ≤ ((doAll s ((opsE x).take k)).length : Int) := by
  intro k _
  obtain ⟨a, d, i⟩ := x
  simp only at h0 h1 h ⊢
  obtain ⟨p, rfl⟩ := Int.eq_ofNat_of_zero_le h0
  obtain ⟨q, rfl⟩ := Int.eq_ofNat_of_zero_le h1
  unfold opsE
  simp only
  have hl : (s.take p).length = p := by rw [List.length_take]; omega
  rcases Nat.lt_or_ge k q with hk | hk
  · rw [Int.toNat_natCast, List.take_append_of_le_length (by rw [List.length_replicate]; omega), List.take_replicate, Nat.min_eq_left (by omega), doAll_rep k p s (by omega), List.length_append, hl]
    omega
  · have e : (List.replicate (q : Int).toNat (⟨2, (p : Int), 0⟩ : Op) ++ putsE p i).take k = List.replicate q ⟨2, (p : Int), 0⟩ ++ putsE p (i.take (k - q)) := by
      rw [Int.toNat_natCast, List.take_append, List.take_of_length_le (by rw [List.length_replicate]; exact hk), List.length_replicate]
      congr 1
      have : ∀ (l : List UInt8) (a : Int) (j : Nat), (putsE a l).take j = putsE a (l.take j) := by
        intro l
        induction l with
        | nil => intro a j; simp [putsE]
        | cons b l ih =>
          intro a j
          cases j with
          | zero => rfl
          | succ j => simp only [putsE, List.take_succ_cons, ih]
      exact this _ _ _
    rw [e, doAll_append, doAll_rep q p s (by omega)]
    have e2 : ((p : Nat) : Int) = ((s.take p).length : Int) := by rw [hl]
    rw [show putsE ((p : Nat) : Int) (i.take (k - q)) = putsE ((s.take p).length : Int) (i.take (k - q)) by rw [← e2], doAll_puts, List.length_append, List.length_append, hl]
    omega
/-- Two scripts, the last edits first, and both as one. -/
inductive MrgR : List Ed → List Ed → List Ed → Prop
  | nil : MrgR [] [] []
  | left {x : Ed} {a b m : List Ed} : (∀ z ∈ b, z.at_ + z.del < x.at_) → MrgR a b m → MrgR (x :: a) b (x :: m)
  | right {y : Ed} {a b m : List Ed} : (∀ z ∈ a, z.at_ + z.del < y.at_) → MrgR a b m → MrgR a (y :: b) (y :: m)
theorem meetR {f : Bool} {a b m : List Ed} (h : MrgR a b m) : Desc a → Desc b → ∀ s : List UInt8, (∀ z ∈ a, z.at_ + z.del ≤ s.length) → (∀ z ∈ b, z.at_ + z.del ≤ s.length) →
    doAll s (opsR a ++ runL f (opsR a) (opsR b)) = doAll s (opsR m) ∧ doAll s (opsR b ++ runO f (opsR a) (opsR b)) = doAll s (opsR m) := by
  induction h with
  | nil => intro _ _ s _ _; exact ⟨rfl, rfl⟩
  | @left x a b m hx _ ih =>
    intro ha hb s la lb
    obtain ⟨a1, a2, a3, a4⟩ := ha.tail
    have hxl := la x List.mem_cons_self
    have hfl := opsE_floor a3 a4 hxl
    have hsl : x.at_ ≤ ((doAll s (opsE x)).length : Int) := by have := hfl _ (Nat.le_refl _); rwa [List.take_length] at this
    obtain ⟨i1, i2⟩ := ih a1 hb (doAll s (opsE x)) (fun z hz => by have := a2 z hz; omega) (fun z hz => by have := hx z hz; omega)
    have hbl : blw x.at_ (opsR b) := blw_opsR hb hx
    obtain ⟨r1, r2⟩ := run_dn f (a := opsR a) hbl (opsE_pos x)
    simp only [opsR]
    rw [r1, r2]
    refine ⟨?_, ?_⟩
    · rw [List.append_assoc, doAll_append, i1, ← doAll_append]
    · rw [← List.append_assoc, doAll_append, doAll_swap hbl (opsE_pos x) hfl, ← doAll_append, List.append_assoc, doAll_append, i2, ← doAll_append]
  | @right y a b m hy _ ih =>
    intro ha hb s la lb
    obtain ⟨b1, b2, b3, b4⟩ := hb.tail
    have hyl := lb y List.mem_cons_self
    have hfl := opsE_floor b3 b4 hyl
    have hsl : y.at_ ≤ ((doAll s (opsE y)).length : Int) := by have := hfl _ (Nat.le_refl _); rwa [List.take_length] at this
    obtain ⟨i1, i2⟩ := ih ha b1 (doAll s (opsE y)) (fun z hz => by have := hy z hz; omega) (fun z hz => by have := b2 z hz; omega)
    have hal : blw y.at_ (opsR a) := blw_opsR ha hy
    obtain ⟨r1, r2⟩ := run_up f (r := opsR b) hal (opsE_pos y)
    simp only [opsR]
    rw [r1, r2]
    refine ⟨?_, ?_⟩
    · rw [← List.append_assoc, doAll_append, doAll_swap hal (opsE_pos y) hfl, ← doAll_append, List.append_assoc, doAll_append, i1, ← doAll_append]
    · rw [List.append_assoc, doAll_append, i2, ← doAll_append]
theorem opsR_append (a b : List Ed) : opsR (a ++ b) = opsR a ++ opsR b := by
  induction a with
  | nil => rfl
  | cons x a ih => simp only [List.cons_append, opsR, ih, List.append_assoc]
/-- A script, operation by operation. -/
def opsL (l : List Ed) : List Op := opsR l.reverse
theorem opsL_cons (x : Ed) (l : List Ed) : opsL (x :: l) = opsL l ++ opsE x := by
  unfold opsL
  rw [List.reverse_cons, opsR_append]
  show _ ++ (opsE x ++ []) = _
  rw [List.append_nil]
theorem doAll_opsL {n : Nat} {s : List UInt8} (hs : s.length = n) : ∀ {l : List Ed} {p : Option Int} {k : Nat}, Chain n p l → after k p → k ≤ n → doAll s (opsL l) = edDone s l := by
  intro l
  induction l with
  | nil => intro p k _ _ _; rfl
  | cons x r ih =>
    intro p k hc ha hk
    cases hc with
    | cons _ _ _ h0 h =>
      obtain ⟨h1, h2, h3, h4, h5, h6, h7⟩ := edOne_zero h0
      obtain ⟨a, ha'⟩ := Int.eq_ofNat_of_zero_le h1
      obtain ⟨d, hd'⟩ := Int.eq_ofNat_of_zero_le h2
      have hr := ih (k := a + d) h (by simp only [after]; omega) (by omega)
      have e1 := edDone_eq (s := s) hs h (k := a + d) (by simp only [after]; omega) (by omega)
      have hlen : x.at_ + x.del ≤ ((edDone s r).length : Int) := by
        rw [e1, List.length_append, List.length_take]; omega
      rw [opsL_cons, doAll_append, hr, doAll_opsE h1 h2 hlen]
      simp only [edDone, List.append_assoc]
end Go.Proofs.Ytmikckhihfcooaa
