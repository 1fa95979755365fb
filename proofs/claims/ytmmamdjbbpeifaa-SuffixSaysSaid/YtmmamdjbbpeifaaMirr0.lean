/- What is the same from behind: the arms of all middles. Plain lists, no program in sight. -/
import Derived.Test.YtmmamdjbbpeifaaBase
namespace Go.Proofs.Ytmmamdjbbpeifaa
/-- A text with gaps: the byte i stands at 2 i + 1. -/
def gap (s : List UInt8) (j : Nat) : Option UInt8 := if j % 2 = 1 then some (s.getD (j / 2) 0) else none
/-- The middle k reaches so far. -/
structure Rad (s : List UInt8) (k r : Nat) : Prop where
  lo : r ≤ k
  hi : k + r ≤ 2 * s.length
  eq : ∀ d, d ≤ r → gap s (k - d) = gap s (k + d)
def MaxR (s : List UInt8) (k r : Nat) : Prop := Rad s k r ∧ ¬ Rad s k (r + 1)
theorem Rad.zero {s : List UInt8} {k : Nat} (h : k ≤ 2 * s.length) : Rad s k 0 := ⟨Nat.zero_le _, by omega, fun d hd => by
  obtain rfl : d = 0 := by omega
  rfl⟩
theorem Rad.less {s : List UInt8} {k r q : Nat} (h : Rad s k r) (hq : q ≤ r) : Rad s k q := ⟨by have := h.lo; omega, by have := h.hi; omega, fun d hd => h.eq d (by omega)⟩
theorem MaxR.uniq {s : List UInt8} {k r q : Nat} (h : MaxR s k r) (h' : MaxR s k q) : r = q := by
  rcases Nat.lt_trichotomy r q with h1 | h1 | h1
  · exact absurd (h'.1.less h1) h.2
  · exact h1
  · exact absurd (h.1.less h1) h'.2
theorem MaxR.ge {s : List UInt8} {k r q : Nat} (h : MaxR s k r) (h' : Rad s k q) : q ≤ r := Nat.le_of_not_lt fun h1 => h.2 (h'.less h1)
/-- One step further. -/
theorem Rad.more {s : List UInt8} {k r : Nat} (h : Rad s k r) (hl : r < k) (hh : k + r < 2 * s.length) (he : (k + r) % 2 = 1 ∨ s.getD ((k - r) / 2 - 1) 0 = s.getD ((k + r) / 2) 0) : Rad s k (r + 1) := by
  refine ⟨hl, by omega, fun d hd => ?_⟩
  by_cases e : d ≤ r
  · exact h.eq d e
  · obtain rfl : d = r + 1 := by omega
    unfold gap
    rcases Nat.mod_two_eq_zero_or_one (k + r) with h0 | h0
    · have he2 := he.resolve_left (by omega)
      rw [if_pos (by omega), if_pos (by omega)]
      rw [show (k - (r + 1)) / 2 = (k - r) / 2 - 1 by omega, show (k + (r + 1)) / 2 = (k + r) / 2 by omega, he2]
    · rw [if_neg (by omega), if_neg (by omega)]
theorem MaxR.of_stop {s : List UInt8} {k r : Nat} (h : Rad s k r) (hs : k ≤ r ∨ 2 * s.length ≤ k + r ∨ ((k + r) % 2 = 0 ∧ s.getD ((k - r) / 2 - 1) 0 ≠ s.getD ((k + r) / 2) 0)) : MaxR s k r := by
  refine ⟨h, fun h1 => ?_⟩
  rcases hs with hs | hs | ⟨h0, hs⟩
  · have := h1.lo; omega
  · have := h1.hi; omega
  · have h2 := h1.eq (r + 1) (Nat.le_refl _)
    have h3 := h1.lo
    unfold gap at h2
    rw [if_pos (by omega), if_pos (by omega), show (k - (r + 1)) / 2 = (k - r) / 2 - 1 by omega, show (k + (r + 1)) / 2 = (k + r) / 2 by omega] at h2
    exact hs (Option.some.inj h2)
/-- What a middle tells of another one on its right. -/
theorem Rad.mirror {s : List UInt8} {mid R k q : Nat} (h : Rad s mid R) (hk : mid ≤ k) (hke : k ≤ mid + R) (h2 : Rad s (2 * mid - k) q) {n : Nat} (hn : n ≤ q) (hn2 : k + n ≤ mid + R) : Rad s k n := by
  have l1 := h.lo
  have l2 := h2.lo
  refine ⟨by omega, by have := h.hi; omega, fun d hd => ?_⟩
  -- the place x on the right of mid reads as 2 mid - x
  have key : ∀ x, mid ≤ x → x ≤ mid + R → gap s (2 * mid - x) = gap s x := fun x h3 h4 => by
    have := h.eq (x - mid) (by omega)
    rw [show mid - (x - mid) = 2 * mid - x by omega, show mid + (x - mid) = x by omega] at this
    exact this
  have e1 := key (k + d) (by omega) (by omega)
  have e2 := h2.eq d (by omega)
  have e3 : gap s (k - d) = gap s (2 * mid - k + d) := by
    rcases Nat.lt_or_ge (k - d) mid with h5 | h5
    · have := key (2 * mid - (k - d)) (by omega) (by omega)
      rw [show 2 * mid - (2 * mid - (k - d)) = k - d by omega, show 2 * mid - (k - d) = 2 * mid - k + d by omega] at this
      exact this
    · have := key (k - d) h5 (by omega)
      rw [show 2 * mid - (k - d) = 2 * mid - k + d by omega] at this
      exact this.symm
  rw [e3, ← e2, ← e1]
  congr 1; omega
/-- Is a part the same from behind? -/
def mirB (x : List UInt8) : Bool := decide (x.reverse = x)
def part (s : List UInt8) (i k : Nat) : List UInt8 := (s.drop i).take (k - i)
theorem part_len {s : List UInt8} {i k : Nat} (h : k ≤ s.length) : (part s i k).length = k - i := by unfold part; rw [List.length_take, List.length_drop]; omega
theorem part_get {s : List UInt8} {i k j : Nat} (hj : j < k - i) : (part s i k).getD j 0 = s.getD (i + j) 0 := by
  unfold part
  rw [List.getD_eq_getElem?_getD, List.getElem?_take_of_lt hj, List.getElem?_drop, ← List.getD_eq_getElem?_getD]
theorem mirB_iff {x : List UInt8} : mirB x = true ↔ ∀ j, j < x.length → x.getD j 0 = x.getD (x.length - 1 - j) 0 := by
  unfold mirB
  rw [decide_eq_true_iff]
  constructor
  · intro h j hj
    have h1 : x.reverse.getD j 0 = x.getD j 0 := by rw [h]
    rw [← h1, List.getD_eq_getElem?_getD, List.getElem?_reverse hj, ← List.getD_eq_getElem?_getD]
  · intro h
    apply List.ext_getElem
    · simp
    · intro j h1 h2
      have h3 := h j h2
      rw [List.getElem_reverse]
      rw [List.getD_eq_getElem?_getD, List.getElem?_eq_getElem h2, List.getD_eq_getElem?_getD, List.getElem?_eq_getElem (by omega)] at h3
      exact h3.symm
/-- A part that is the same from behind is an arm of its middle. -/
theorem rad_of_mir {s : List UInt8} {i k : Nat} (hik : i ≤ k) (hk : k ≤ s.length) (h : mirB (part s i k) = true) : Rad s (i + k) (k - i) := by
  rw [mirB_iff] at h
  rw [part_len hk] at h
  refine ⟨by omega, by omega, fun d hd => ?_⟩
  unfold gap
  rcases Nat.mod_two_eq_zero_or_one (i + k + d) with h0 | h0
  · rw [if_neg (by omega), if_neg (by omega)]
  · rw [if_pos (by omega), if_pos (by omega)]
    congr 1
    have h1 := h ((i + k - d) / 2 - i) (by omega)
    rw [part_get (by omega), part_get (by omega)] at h1
    rw [show i + ((i + k - d) / 2 - i) = (i + k - d) / 2 by omega, show i + (k - i - 1 - ((i + k - d) / 2 - i)) = (i + k + d) / 2 by omega] at h1
    exact h1
theorem mir_of_rad {s : List UInt8} {i k : Nat} (hik : i ≤ k) (hk : k ≤ s.length) (h : Rad s (i + k) (k - i)) : mirB (part s i k) = true := by
  rw [mirB_iff, part_len hk]
  intro j hj
  rw [part_get hj, part_get (by omega)]
  have key : ∀ a b, a ≤ b → i ≤ a → b < k → a + b + 1 = i + k → s.getD a 0 = s.getD b 0 := fun a b hab ha hb e => by
    have h1 := h.eq (b - a) (by omega)
    unfold gap at h1
    rw [if_pos (by omega), if_pos (by omega), show (i + k - (b - a)) / 2 = a by omega, show (i + k + (b - a)) / 2 = b by omega] at h1
    exact Option.some.inj h1
  rcases Nat.le_total (i + j) (i + (k - i - 1 - j)) with h2 | h2
  · exact key _ _ h2 (by omega) (by omega) (by omega)
  · exact (key _ _ h2 (by omega) (by omega) (by omega)).symm
/-- The longest arm ends at bytes. -/
theorem MaxR.even {s : List UInt8} {k r : Nat} (h : MaxR s k r) : (k + r) % 2 = 0 := by
  rcases Nat.mod_two_eq_zero_or_one (k + r) with h0 | h0
  · exact h0
  · exfalso
    have h1 := h.1.lo
    have h2 := h.1.hi
    exact h.2 (h.1.more (by omega) (by omega) (.inl h0))
theorem MaxR.part_ {s : List UInt8} {k r : Nat} (h : MaxR s k r) : mirB (part s ((k - r) / 2) ((k + r) / 2)) = true := by
  have h0 := h.even
  have h1 := h.1.lo
  have h2 := h.1.hi
  refine mir_of_rad (by omega) (by omega) ?_
  rw [show (k - r) / 2 + (k + r) / 2 = k by omega, show (k + r) / 2 - (k - r) / 2 = r by omega]
  exact h.1
/-- The arms by trial: what is known of the middle c. -/
theorem arm_is {s : List UInt8} {c r : Nat} (h : MaxR s c r) {o : Int} (h1 : o = 0 ∨ ∃ i k, i < k ∧ k ≤ s.length ∧ i + k = c ∧ mirB (part s i k) = true ∧ o = ((k - i : Nat) : Int))
    (h2 : ∀ i k, i < k → k ≤ s.length → i + k = c → mirB (part s i k) = true → ((k - i : Nat) : Int) ≤ o) : o = (r : Int) := by
  have a1 : o ≤ (r : Int) := by
    rcases h1 with rfl | ⟨i, k, hik, hk, rfl, hm, rfl⟩
    · omega
    · have := h.ge (rad_of_mir (by omega) hk hm); omega
  have a2 : (r : Int) ≤ o := by
    rcases Nat.eq_zero_or_pos r with h0 | h0
    · subst h0
      rcases h1 with rfl | ⟨i, k, hik, _, _, _, rfl⟩
      · exact Int.le_refl _
      · omega
    · have e0 := h.even
      have l1 := h.1.lo
      have l2 := h.1.hi
      have := h2 ((c - r) / 2) ((c + r) / 2) (by omega) (by omega) (by omega) h.part_
      omega
  omega
/-- There is a longest arm. -/
theorem maxR_ex {s : List UInt8} {k : Nat} (h : k ≤ 2 * s.length) : ∃ r, MaxR s k r := by
  have key : ∀ m r, k = r + m → Rad s k r → ∃ r, MaxR s k r := by
    intro m
    induction m with
    | zero => intro r e hr; exact ⟨r, hr, fun h1 => by have := h1.lo; omega⟩
    | succ m ih =>
      intro r e hr
      by_cases h1 : Rad s k (r + 1)
      · exact ih (r + 1) (by omega) h1
      · exact ⟨r, hr, h1⟩
  exact key k 0 (by omega) (Rad.zero h)
/-- Where the search for arms stands ahead of the middle k. -/
structure MnAt (s : List UInt8) (k : Nat) (o : List Int) (mid e : Nat) : Prop where
  len : o.length = 2 * s.length + 1
  done : ∀ j, j < k → ∃ r : Nat, o.getD j 0 = (r : Int) ∧ MaxR s j r
  mid_ : e = 0 ∨ (mid < k ∧ ∃ r : Nat, o.getD mid 0 = (r : Int) ∧ MaxR s mid r ∧ e = mid + r)
theorem MnAt.start (s : List UInt8) : MnAt s 0 (List.replicate (2 * s.length + 1) 0) 0 0 := ⟨by simp, fun j h => by omega, .inl rfl⟩
/-- What the middle at hand begins with. -/
theorem MnAt.first {s : List UInt8} {k mid e : Nat} {o : List Int} (h : MnAt s k o mid e) (hke : k < e) :
    mid < k ∧ k ≤ 2 * mid ∧ ∃ q : Nat, o.getD (2 * mid - k) 0 = (q : Int) ∧ q ≤ 2 * s.length ∧ e ≤ 2 * s.length ∧ Rad s k (min q (e - k)) := by
  rcases h.mid_ with rfl | ⟨hm, r, h1, h2, rfl⟩
  · omega
  · have l1 := h2.1.lo
    have l2 := h2.1.hi
    obtain ⟨q, hq, hq2⟩ := h.done (2 * mid - k) (by omega)
    have l3 := hq2.1.lo
    refine ⟨hm, by omega, q, hq, by omega, by omega, ?_⟩
    exact h2.1.mirror (Nat.le_of_lt hm) (Nat.le_of_lt hke) hq2.1 (Nat.min_le_left _ _) (by omega)
theorem MnAt.step {s : List UInt8} {k mid e r : Nat} {o : List Int} (h : MnAt s k o mid e) (hk : k ≤ 2 * s.length) (hr : MaxR s k r) :
    MnAt s (k + 1) (o.set k (r : Int)) (if e < k + r then k else mid) (if e < k + r then k + r else e) := by
  have hg : ∀ j, (o.set k (r : Int)).getD j 0 = if j = k then (r : Int) else o.getD j 0 := fun j => by
    rw [List.getD_eq_getElem?_getD, List.getElem?_set]
    by_cases e1 : k = j
    · subst e1; rw [if_pos rfl, if_pos rfl, if_pos (by rw [h.len]; omega)]; rfl
    · rw [if_neg e1, if_neg (fun h => e1 h.symm), ← List.getD_eq_getElem?_getD]
  refine ⟨by rw [List.length_set, h.len], fun j hj => ?_, ?_⟩
  · rw [hg]
    by_cases e1 : j = k
    · subst e1; rw [if_pos rfl]; exact ⟨r, rfl, hr⟩
    · rw [if_neg e1]; exact h.done j (by omega)
  · by_cases e1 : e < k + r
    · rw [if_pos e1, if_pos e1]
      exact .inr ⟨by omega, r, by rw [hg, if_pos rfl], hr, rfl⟩
    · rw [if_neg e1, if_neg e1]
      rcases h.mid_ with h2 | ⟨hm, q, h1, h2, h3⟩
      · exact .inl h2
      · exact .inr ⟨by omega, q, by rw [hg, if_neg (by omega)]; exact h1, h2, h3⟩
end Go.Proofs.Ytmmamdjbbpeifaa
