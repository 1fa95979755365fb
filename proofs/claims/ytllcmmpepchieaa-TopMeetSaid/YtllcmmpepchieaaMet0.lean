/- Scripts that do not touch, operation by operation (plain). -/
import Derived.Test.YtllcmmpepchieaaShA0
import Derived.Test.YtllcmmpepchieaaEdit0
namespace Go.Proofs.Ytllcmmpepchieaa
/-- An edit, byte by byte. -/
def putsE (p : Int) : List UInt8 → List Op
  | [] => []
  | b :: r => ⟨1, p, (b.toNat : Int)⟩ :: putsE (p + 1) r
def opsE (x : Ed) : List Op := List.replicate x.del.toNat ⟨2, x.at_, 0⟩ ++ putsE x.at_ x.ins
/-- Edits, the last one first in the list. -/
def opsR : List Ed → List Op
  | [] => []
  | x :: r => opsE x ++ opsR r
def shO (d : Int) (y : Op) : Op := ⟨y.kind, y.pos + d, y.b⟩
theorem shO_sz (d : Int) (y : Op) : opSz (shO d y) = opSz y := rfl
theorem shO_shO (d e : Int) (y : Op) : shO d (shO e y) = shO (e + d) y := by unfold shO; simp only [Int.add_assoc]
def K12 (x : Op) : Prop := x.kind = 1 ∨ x.kind = 2
/-- All of these happen below p. -/
def blw (p : Int) : List Op → Prop
  | [] => True
  | x :: r => (x.pos < p ∧ 0 ≤ x.pos ∧ K12 x) ∧ blw (p + opSz x) r
theorem blw_append {p : Int} {a b : List Op} : blw p (a ++ b) ↔ blw p a ∧ blw (p + szs a) b := by
  induction a generalizing p with
  | nil => simp [blw, szs]
  | cons x a ih =>
    simp only [List.cons_append, blw, szs]
    rw [ih, Int.add_assoc]
    exact and_assoc.symm
theorem blw_mono {p q : Int} (h : p ≤ q) : ∀ {a : List Op}, blw p a → blw q a := by
  intro a
  induction a generalizing p q with
  | nil => intro _; trivial
  | cons x a ih =>
    rintro ⟨⟨h1, h2, h3⟩, h4⟩
    exact ⟨⟨by omega, h2, h3⟩, ih (by omega) h4⟩
theorem past_up {x y : Op} (f : Bool) (hx : K12 x) (hy : K12 y) (h : x.pos < y.pos) : past x y f = x ∧ past y x f = shO (opSz x) y := by
  obtain ⟨kx, px, bx⟩ := x
  obtain ⟨ky, py, bye⟩ := y
  unfold K12 at hx hy
  simp only at hx hy h
  unfold past shO opSz
  simp only
  rcases hx with rfl | rfl <;> rcases hy with rfl | rfl <;>
    · refine ⟨?_, ?_⟩
      all_goals repeat (first | rw [if_neg (by omega)] | rw [if_pos (by omega)])
      all_goals try (congr 1)
theorem row_up {f : Bool} {x : Op} (hx : K12 x) : ∀ {h r : List Op}, (∀ y ∈ h, x.pos < y.pos ∧ K12 y) → rowX f x (h ++ r) = rowX f x r ∧ rowL f x (h ++ r) = h.map (shO (opSz x)) ++ rowL f x r := by
  intro h
  induction h with
  | nil => intro r _; exact ⟨rfl, rfl⟩
  | cons y h ih =>
    intro r hh
    obtain ⟨h1, h2⟩ := hh y List.mem_cons_self
    obtain ⟨e1, _⟩ := past_up f hx h2 h1
    obtain ⟨_, e2⟩ := past_up (!f) hx h2 h1
    obtain ⟨i1, i2⟩ := ih (r := r) fun z hz => hh z (List.mem_cons_of_mem _ hz)
    simp only [List.cons_append, rowX, rowL, List.map_cons]
    rw [e1, e2, i1, i2]
    exact ⟨rfl, rfl⟩
theorem run_up (f : Bool) : ∀ {a h r : List Op} {p : Int}, blw p a → (∀ y ∈ h, p ≤ y.pos ∧ K12 y) → runL f a (h ++ r) = h.map (shO (szs a)) ++ runL f a r ∧ runO f a (h ++ r) = runO f a r := by
  intro a
  induction a with
  | nil =>
    intro h r p _ _
    refine ⟨?_, rfl⟩
    have e : h.map (shO (szs [])) = h := by
      conv => rhs; rw [← List.map_id h]
      apply List.map_congr_left
      intro y _
      unfold shO szs
      simp
    simp only [runL]
    rw [e]
  | cons x a ih =>
    intro h r p hb hh
    obtain ⟨⟨h1, _, h3⟩, h4⟩ := hb
    obtain ⟨e1, e2⟩ := row_up (f := f) (x := x) h3 (h := h) (r := r) fun y hy => ⟨by have := (hh y hy).1; omega, (hh y hy).2⟩
    simp only [runL, runO]
    rw [e1, e2]
    obtain ⟨i1, i2⟩ := ih (h := h.map (shO (opSz x))) (r := rowL f x r) h4 (by
      intro y hy
      obtain ⟨z, hz, rfl⟩ := List.mem_map.1 hy
      have := hh z hz
      exact ⟨by show p + opSz x ≤ z.pos + opSz x; omega, this.2⟩)
    rw [i1, i2, List.map_map]
    refine ⟨?_, rfl⟩
    congr 1
    apply List.map_congr_left
    intro y _
    show shO (szs a) (shO (opSz x) y) = shO (szs (x :: a)) y
    rw [shO_shO]; rfl
theorem run_dn (f : Bool) {h a b : List Op} {p : Int} (hb : blw p b) (hh : ∀ y ∈ h, p ≤ y.pos ∧ K12 y) : runL f (h ++ a) b = runL f a b ∧ runO f (h ++ a) b = h.map (shO (szs b)) ++ runO f a b := by
  obtain ⟨h1, h2⟩ := run_up (!f) (r := a) hb hh
  obtain ⟨e1, e2⟩ := run_swap f (h ++ a) b
  obtain ⟨e3, e4⟩ := run_swap f a b
  rw [← e1, ← e2, h1, h2, e3, e4]
  exact ⟨rfl, rfl⟩
/-- What operations make of a text. -/
def doL (s : List UInt8) (x : Op) : List UInt8 :=
  if x.kind = 1 then s.take x.pos.toNat ++ [UInt8.ofNat x.b.toNat] ++ s.drop x.pos.toNat
  else if x.kind = 2 then s.take x.pos.toNat ++ s.drop (x.pos.toNat + 1)
  else s
def doAll (s : List UInt8) (l : List Op) : List UInt8 := l.foldl doL s
theorem doAll_append (s : List UInt8) (a b : List Op) : doAll s (a ++ b) = doAll (doAll s a) b := List.foldl_append
theorem doAll_cons (s : List UInt8) (x : Op) (a : List Op) : doAll s (x :: a) = doAll (doL s x) a := rfl
theorem doL_len {s : List UInt8} {x : Op} (h : vld s.length x) : ((doL s x).length : Int) = s.length + opSz x := by
  unfold vld at h
  unfold doL opSz
  rcases h with ⟨h, h1, h2⟩ | ⟨h, h1, h2, _⟩ | ⟨h, h1, _⟩
  · rw [if_pos h, if_pos h, List.length_append, List.length_append, List.length_take, List.length_drop, List.length_singleton]
    omega
  · rw [if_neg (by omega), if_pos h, if_neg (by omega), if_pos h, List.length_append, List.length_take, List.length_drop]
    omega
  · rw [if_neg (by omega), if_neg (by omega), if_neg (by omega), if_neg (by omega)]; omega
theorem doL_far (s t : List UInt8) {y : Op} {j : Int} (hj : 0 ≤ j) (hp : y.pos = s.length + j) (hk : K12 y) : doL (s ++ t) y = s ++ doL t ⟨y.kind, j, y.b⟩ := by
  obtain ⟨k, p, b⟩ := y
  simp only at hp hk
  unfold K12 at hk
  simp only at hk
  obtain ⟨j', rfl⟩ := Int.eq_ofNat_of_zero_le hj
  have e : p.toNat = s.length + j' := by omega
  have e2 : ((j' : Nat) : Int).toNat = j' := by omega
  unfold doL
  simp only
  rcases hk with rfl | rfl
  · rw [if_pos rfl, if_pos rfl, e, e2, List.take_length_add_append, List.drop_length_add_append]
    simp
  · rw [if_neg (by decide), if_pos rfl, if_neg (by decide), if_pos rfl, e, e2, List.take_length_add_append, Nat.add_assoc, List.drop_length_add_append]
    simp
theorem split_at {s : List UInt8} {p : Nat} (h : p ≤ s.length) : ∃ a b, s = a ++ b ∧ a.length = p := ⟨s.take p, s.drop p, (List.take_append_drop _ _).symm, by rw [List.length_take]; omega⟩
/-- What happens below, and what above: in either order. -/
theorem do_swap {s : List UInt8} {x y : Op} (hx : K12 x) (hy : K12 y) (h0 : 0 ≤ x.pos) (h : x.pos < y.pos) (hl : x.pos < s.length) : doL (doL s x) (shO (opSz x) y) = doL (doL s y) x := by
  obtain ⟨kx, px, bx⟩ := x
  obtain ⟨ky, py, bye⟩ := y
  simp only at h0 h hl
  obtain ⟨p, rfl⟩ := Int.eq_ofNat_of_zero_le h0
  obtain ⟨a, b, rfl, ha⟩ := split_at (s := s) (p := p) (by omega)
  have hb : 0 < b.length := by rw [List.length_append] at hl; omega
  rcases hx with hx | hx
  · simp only at hx
    subst hx
    have e1 : ∀ t : List UInt8, doL (a ++ t) ⟨1, (p : Int), bx⟩ = a ++ [UInt8.ofNat bx.toNat] ++ t := by
      intro t
      have e : doL (a ++ t) ⟨1, (p : Int), bx⟩ = (a ++ t).take p ++ [UInt8.ofNat bx.toNat] ++ (a ++ t).drop p := by
        unfold doL
        rw [if_pos rfl]; rfl
      rw [e, List.take_left' ha, List.drop_left' ha]
    rw [e1, doL_far (a ++ [UInt8.ofNat bx.toNat]) b (y := shO (opSz ⟨1, (p : Int), bx⟩) ⟨ky, py, bye⟩) (j := py - p) (by omega) (by
      rw [List.length_append, List.length_singleton, ha]
      show py + 1 = _
      omega) hy, doL_far a b (y := ⟨ky, py, bye⟩) (j := py - p) (by omega) (by show py = _; omega) hy, e1]
    rfl
  · simp only at hx
    subst hx
    cases b with
    | nil => simp at hb
    | cons c b =>
      have e1 : ∀ t : List UInt8, doL (a ++ c :: t) ⟨2, (p : Int), bx⟩ = a ++ t := by
        intro t
        have e : doL (a ++ c :: t) ⟨2, (p : Int), bx⟩ = (a ++ c :: t).take p ++ (a ++ c :: t).drop (p + 1) := by
          unfold doL
          rw [if_neg (show ¬ (2 : Int) = 1 by decide), if_pos rfl]; rfl
        rw [e, List.take_left' ha, ← ha, List.drop_length_add_append]; rfl
      have e2 : a ++ c :: b = (a ++ [c]) ++ b := by simp
      rw [e1, doL_far a b (y := shO (opSz ⟨2, (p : Int), bx⟩) ⟨ky, py, bye⟩) (j := py - p - 1) (by omega) (by
        show py + -1 = _
        omega) hy, e2, doL_far (a ++ [c]) b (y := ⟨ky, py, bye⟩) (j := py - p - 1) (by omega) (by rw [List.length_append, List.length_singleton, ha]; show py = _; omega) hy]
      rw [List.append_assoc]
      exact (e1 _).symm
theorem doL_len12 {s : List UInt8} {x : Op} (hx : K12 x) (h0 : 0 ≤ x.pos) (hl : x.pos < s.length) : ((doL s x).length : Int) = s.length + opSz x := by
  unfold doL opSz
  rcases hx with h | h
  · rw [if_pos h, if_pos h, List.length_append, List.length_append, List.length_take, List.length_drop, List.length_singleton]
    omega
  · rw [if_neg (by omega), if_pos h, if_neg (by omega), if_pos h, List.length_append, List.length_take, List.length_drop]
    omega
theorem doAll_one : ∀ {a : List Op} {y : Op} {s : List UInt8} {p : Int}, K12 y → blw p a → p ≤ s.length → p ≤ y.pos → doAll s (a ++ [shO (szs a) y]) = doAll s (y :: a) := by
  intro a
  induction a with
  | nil =>
    intro y s p _ _ _ _
    have e : shO (szs []) y = y := by unfold shO szs; simp
    rw [List.nil_append, e]
  | cons x a ih =>
    intro y s p hy hb hp hy2
    obtain ⟨⟨h1, h2, h3⟩, h4⟩ := hb
    rw [List.cons_append, doAll_cons]
    have e : shO (szs (x :: a)) y = shO (szs a) (shO (opSz x) y) := by rw [shO_shO]; rfl
    have hl := doL_len12 h3 h2 (show x.pos < s.length by omega)
    rw [e, ih (y := shO (opSz x) y) hy h4 (by rw [hl]; omega) (by show p + opSz x ≤ y.pos + opSz x; omega), doAll_cons, do_swap h3 hy h2 (by omega) (by omega), doAll_cons, doAll_cons]
theorem doAll_swap : ∀ {h a : List Op} {s : List UInt8} {p : Int}, blw p a → (∀ y ∈ h, p ≤ y.pos ∧ K12 y) → (∀ k, k ≤ h.length → p ≤ ((doAll s (h.take k)).length : Int)) → doAll s (a ++ h.map (shO (szs a))) = doAll s (h ++ a) := by
  intro h
  induction h with
  | nil => intro a s p _ _ _; simp
  | cons y h ih =>
    intro a s p hb hh hl
    have h1 := hh y List.mem_cons_self
    rw [List.map_cons]
    have e : a ++ shO (szs a) y :: h.map (shO (szs a)) = (a ++ [shO (szs a) y]) ++ h.map (shO (szs a)) := by simp
    rw [e, doAll_append, doAll_one (y := y) h1.2 hb (by simpa [doAll] using hl 0 (Nat.zero_le _)) h1.1, ← doAll_append, List.cons_append, doAll_cons, ih hb (fun z hz => hh z (List.mem_cons_of_mem _ hz)) (fun k hk => by
      have := hl (k + 1) (by simpa using hk)
      rw [List.take_succ_cons, doAll_cons] at this
      exact this), List.cons_append, doAll_cons]
end Go.Proofs.Ytllcmmpepchieaa
