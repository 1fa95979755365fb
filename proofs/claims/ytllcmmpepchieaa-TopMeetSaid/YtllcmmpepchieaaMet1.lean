/- Two scripts that do not touch: at one time, or one behind the other (plain). -/
import Derived.Test.YtllcmmpepchieaaMet0
namespace Go.Proofs.Ytllcmmpepchieaa
theorem putsE_snoc (l : List UInt8) (b : UInt8) : ∀ p, putsE p (l ++ [b]) = putsE p l ++ [⟨1, p + l.length, (b.toNat : Int)⟩] := by
  induction l with
  | nil => intro p; simp [putsE]
  | cons c l ih =>
    intro p
    simp only [List.cons_append, putsE, List.length_cons]
    rw [ih]
    congr 4
    omega
theorem putsE_len (l : List UInt8) : ∀ p, (putsE p l).length = l.length := by
  induction l with
  | nil => intro p; rfl
  | cons b l ih => intro p; simp [putsE, ih]
theorem opsE_len (x : Ed) : (opsE x).length = x.del.toNat + x.ins.length := by unfold opsE; rw [List.length_append, List.length_replicate, putsE_len]
theorem szs_rep (n : Nat) (p : Int) : szs (List.replicate n ⟨2, p, 0⟩) = -(n : Int) := by
  induction n with
  | zero => simp [szs]
  | succ n ih => rw [List.replicate_succ, szs, ih]; show -1 + _ = _; omega
theorem szs_puts (l : List UInt8) : ∀ p, szs (putsE p l) = (l.length : Int) := by
  induction l with
  | nil => intro p; rfl
  | cons b l ih => intro p; rw [putsE, szs, ih, List.length_cons]; show 1 + _ = _; omega
theorem szs_opsE {x : Ed} (h : 0 ≤ x.del) : szs (opsE x) = x.ins.length - x.del := by
  unfold opsE
  rw [szs_append, szs_rep, szs_puts]; omega
theorem puts_pos (l : List UInt8) : ∀ p, ∀ y ∈ putsE p l, p ≤ y.pos ∧ K12 y := by
  induction l with
  | nil => intro p y h; cases h
  | cons b l ih =>
    intro p y h
    rcases List.mem_cons.1 h with rfl | h
    · exact ⟨Int.le_refl _, .inl rfl⟩
    · have := ih (p + 1) y h
      exact ⟨by omega, this.2⟩
theorem opsE_pos (x : Ed) : ∀ y ∈ opsE x, x.at_ ≤ y.pos ∧ K12 y := by
  intro y h
  rcases List.mem_append.1 h with h | h
  · rw [(List.mem_replicate.1 h).2]
    exact ⟨Int.le_refl _, .inr rfl⟩
  · exact puts_pos _ _ y h
theorem blw_rep {a : Int} (h0 : 0 ≤ a) : ∀ (n : Nat) (p : Int), a + n < p → blw p (List.replicate n ⟨2, a, 0⟩) := by
  intro n
  induction n with
  | zero => intro p _; trivial
  | succ n ih =>
    intro p h
    rw [List.replicate_succ]
    refine ⟨⟨by show a < p; omega, h0, .inr rfl⟩, ih _ ?_⟩
    show a + n < p + -1
    omega
theorem blw_puts (l : List UInt8) : ∀ {a p : Int}, 0 ≤ a → a < p → blw p (putsE a l) := by
  induction l with
  | nil => intro a p _ _; trivial
  | cons b l ih =>
    intro a p h0 h
    refine ⟨⟨h, h0, .inl rfl⟩, ih (by omega) ?_⟩
    show a + 1 < p + 1
    omega
theorem blw_opsE {x : Ed} {p : Int} (h0 : 0 ≤ x.at_) (h1 : 0 ≤ x.del) (h : x.at_ + x.del < p) : blw p (opsE x) := by
  unfold opsE
  rw [blw_append, szs_rep]
  exact ⟨blw_rep h0 _ _ (by omega), blw_puts _ h0 (by omega)⟩
theorem okL_append {n : Int} {a b : List Op} : okL n (a ++ b) ↔ okL n a ∧ okL (n + szs a) b := by
  induction a generalizing n with
  | nil => simp [okL, szs]
  | cons x a ih =>
    simp only [List.cons_append, okL, szs]
    rw [ih, Int.add_assoc, and_assoc]
theorem okL_rep {a : Int} (h0 : 0 ≤ a) : ∀ (k : Nat) (n : Int), a + k ≤ n → okL n (List.replicate k ⟨2, a, 0⟩) := by
  intro k
  induction k with
  | zero => intro n _; trivial
  | succ k ih =>
    intro n h
    rw [List.replicate_succ]
    refine ⟨.inr (.inl ⟨rfl, h0, by show a < n; omega, rfl⟩), ih _ ?_⟩
    show a + k ≤ n + -1
    omega
theorem okL_puts (l : List UInt8) : ∀ {a n : Int}, 0 ≤ a → a ≤ n → okL n (putsE a l) := by
  induction l with
  | nil => intro a n _ _; trivial
  | cons b l ih =>
    intro a n h0 h
    refine ⟨.inl ⟨rfl, h0, h⟩, ih (by omega) ?_⟩
    show a + 1 ≤ n + 1
    omega
theorem okL_opsE {x : Ed} {n : Int} (h0 : 0 ≤ x.at_) (h1 : 0 ≤ x.del) (h : x.at_ + x.del ≤ n) : okL n (opsE x) := by
  unfold opsE
  rw [okL_append, szs_rep]
  exact ⟨okL_rep h0 _ _ (by omega), okL_puts _ h0 (by omega)⟩
/-- Edits, the last one first: apart, and right. -/
def Desc (l : List Ed) : Prop := l.Pairwise (fun z w => w.at_ + w.del < z.at_) ∧ ∀ z ∈ l, 0 ≤ z.at_ ∧ 0 ≤ z.del
theorem Desc.tail {x : Ed} {l : List Ed} (h : Desc (x :: l)) : Desc l ∧ (∀ z ∈ l, z.at_ + z.del < x.at_) ∧ 0 ≤ x.at_ ∧ 0 ≤ x.del := by
  obtain ⟨h1, h2⟩ := h
  obtain ⟨h3, h4⟩ := List.pairwise_cons.1 h1
  exact ⟨⟨h4, fun z hz => h2 z (List.mem_cons_of_mem _ hz)⟩, h3, h2 x List.mem_cons_self⟩
theorem blw_opsR : ∀ {l : List Ed} {p : Int}, Desc l → (∀ z ∈ l, z.at_ + z.del < p) → blw p (opsR l) := by
  intro l
  induction l with
  | nil => intro p _ _; trivial
  | cons x l ih =>
    intro p hd hp
    obtain ⟨h1, h2, h3, h4⟩ := hd.tail
    have hx := hp x List.mem_cons_self
    unfold opsR
    rw [blw_append, szs_opsE h4]
    exact ⟨blw_opsE h3 h4 hx, ih h1 fun z hz => by have := h2 z hz; omega⟩
theorem okL_opsR : ∀ {l : List Ed} {n : Int}, Desc l → (∀ z ∈ l, z.at_ + z.del ≤ n) → okL n (opsR l) := by
  intro l
  induction l with
  | nil => intro p _ _; trivial
  | cons x l ih =>
    intro n hd hp
    obtain ⟨h1, h2, h3, h4⟩ := hd.tail
    have hx := hp x List.mem_cons_self
    unfold opsR
    rw [okL_append, szs_opsE h4]
    exact ⟨okL_opsE h3 h4 hx, ih h1 fun z hz => by have := h2 z hz; omega⟩
theorem doAll_rep : ∀ (k p : Nat) (s : List UInt8), p ≤ s.length → doAll s (List.replicate k ⟨2, (p : Int), 0⟩) = s.take p ++ s.drop (p + k) := by
  intro k
  induction k with
  | zero => intro p s _; simp [doAll]
  | succ k ih =>
    intro p s h
    have e : doL s ⟨2, (p : Int), 0⟩ = s.take p ++ s.drop (p + 1) := by
      unfold doL
      rw [if_neg (show ¬ (2 : Int) = 1 by decide), if_pos rfl]; rfl
    have hl : (s.take p).length = p := by rw [List.length_take]; omega
    rw [List.replicate_succ, doAll_cons, e, ih p _ (by rw [List.length_append, hl]; omega), List.take_left' hl]
    congr 1
    have e2 : p + k = (s.take p).length + k := by rw [hl]
    rw [e2, List.drop_length_add_append, List.drop_drop]
    congr 1; omega
theorem doAll_puts : ∀ (l a b : List UInt8), doAll (a ++ b) (putsE (a.length : Int) l) = a ++ l ++ b := by
  intro l
  induction l with
  | nil => intro a b; simp [doAll, putsE]
  | cons c l ih =>
    intro a b
    have e : doL (a ++ b) ⟨1, (a.length : Int), (c.toNat : Int)⟩ = (a ++ [c]) ++ b := by
      have e : doL (a ++ b) ⟨1, (a.length : Int), (c.toNat : Int)⟩ = (a ++ b).take a.length ++ [UInt8.ofNat c.toNat] ++ (a ++ b).drop a.length := by
        unfold doL
        rw [if_pos rfl]; rfl
      rw [e, List.take_left' rfl, List.drop_left' rfl, UInt8.ofNat_toNat]
    rw [putsE, doAll_cons, e]
    have e2 : ((a.length : Int)) + 1 = ((a ++ [c]).length : Int) := by rw [List.length_append, List.length_singleton]; omega
    rw [e2, ih]
    simp
theorem doAll_opsE {x : Ed} {s : List UInt8} (h0 : 0 ≤ x.at_) (h1 : 0 ≤ x.del) (h : x.at_ + x.del ≤ s.length) : doAll s (opsE x) = s.take x.at_.toNat ++ x.ins ++ s.drop (x.at_ + x.del).toNat := by
  obtain ⟨a, d, i⟩ := x
  simp only at h0 h1 h ⊢
  obtain ⟨p, rfl⟩ := Int.eq_ofNat_of_zero_le h0
  obtain ⟨k, rfl⟩ := Int.eq_ofNat_of_zero_le h1
  unfold opsE
  simp only
  have hl : (s.take p).length = p := by rw [List.length_take]; omega
  rw [doAll_append, Int.toNat_natCast, doAll_rep k p s (by omega)]
  have e : ((p : Nat) : Int) = ((s.take p).length : Int) := by rw [hl]
  have e3 : ((p : Int) + (k : Int)).toNat = p + k := by omega
  rw [show putsE ((p : Nat) : Int) i = putsE ((s.take p).length : Int) i by rw [← e], doAll_puts, Int.toNat_natCast, e3]
theorem opsE_floor {x : Ed} {s : List UInt8} (h0 : 0 ≤ x.at_) (h1 : 0 ≤ x.del) (h : x.at_ + x.del ≤ s.length) : ∀ k, k ≤ (opsE x).length → x.at_ ≤ ((doAll s ((opsE x).take k)).length : Int) := by
  intro k _
  obtain ⟨a, d, i⟩ := x
  simp only at h0 h1 h ⊢
  obtain ⟨p, rfl⟩ := Int.eq_ofNat_of_zero_le h0
  obtain ⟨q, rfl⟩ := Int.eq_ofNat_of_zero_le h1
  unfold opsE
  simp only
  have hl : (s.take p).length = p := by rw [List.length_take]; omega
  rcases Nat.lt_or_ge k q with hk | hk
  · rw [Int.toNat_natCast, List.take_append_of_le_length (by rw [List.length_replicate]; omega), List.take_replicate, Nat.min_eq_left (by omega), doAll_rep k p s (by omega), List.length_append, hl]
    omega
  · have e : (List.replicate (q : Int).toNat (⟨2, (p : Int), 0⟩ : Op) ++ putsE p i).take k = List.replicate q ⟨2, (p : Int), 0⟩ ++ putsE p (i.take (k - q)) := by
      rw [Int.toNat_natCast, List.take_append, List.take_of_length_le (by rw [List.length_replicate]; exact hk), List.length_replicate]
      congr 1
      have : ∀ (l : List UInt8) (a : Int) (j : Nat), (putsE a l).take j = putsE a (l.take j) := by
        intro l
        induction l with
        | nil => intro a j; simp [putsE]
        | cons b l ih =>
          intro a j
          cases j with
          | zero => rfl
          | succ j => simp only [putsE, List.take_succ_cons, ih]
      exact this _ _ _
    rw [e, doAll_append, doAll_rep q p s (by omega)]
    have e2 : ((p : Nat) : Int) = ((s.take p).length : Int) := by rw [hl]
    rw [show putsE ((p : Nat) : Int) (i.take (k - q)) = putsE ((s.take p).length : Int) (i.take (k - q)) by rw [← e2], doAll_puts, List.length_append, List.length_append, hl]
    omega
/-- Two scripts, the last edits first, and both as one. -/
inductive MrgR : List Ed → List Ed → List Ed → Prop
  | nil : MrgR [] [] []
  | left {x : Ed} {a b m : List Ed} : (∀ z ∈ b, z.at_ + z.del < x.at_) → MrgR a b m → MrgR (x :: a) b (x :: m)
  | right {y : Ed} {a b m : List Ed} : (∀ z ∈ a, z.at_ + z.del < y.at_) → MrgR a b m → MrgR a (y :: b) (y :: m)
theorem meetR {f : Bool} {a b m : List Ed} (h : MrgR a b m) : Desc a → Desc b → ∀ s : List UInt8, (∀ z ∈ a, z.at_ + z.del ≤ s.length) → (∀ z ∈ b, z.at_ + z.del ≤ s.length) →
    doAll s (opsR a ++ runL f (opsR a) (opsR b)) = doAll s (opsR m) ∧ doAll s (opsR b ++ runO f (opsR a) (opsR b)) = doAll s (opsR m) := by
  induction h with
  | nil => intro _ _ s _ _; exact ⟨rfl, rfl⟩
  | @left x a b m hx _ ih =>
    intro ha hb s la lb
    obtain ⟨a1, a2, a3, a4⟩ := ha.tail
    have hxl := la x List.mem_cons_self
    have hfl := opsE_floor a3 a4 hxl
    have hsl : x.at_ ≤ ((doAll s (opsE x)).length : Int) := by have := hfl _ (Nat.le_refl _); rwa [List.take_length] at this
    obtain ⟨i1, i2⟩ := ih a1 hb (doAll s (opsE x)) (fun z hz => by have := a2 z hz; omega) (fun z hz => by have := hx z hz; omega)
    have hbl : blw x.at_ (opsR b) := blw_opsR hb hx
    obtain ⟨r1, r2⟩ := run_dn f (a := opsR a) hbl (opsE_pos x)
    simp only [opsR]
    rw [r1, r2]
    refine ⟨?_, ?_⟩
    · rw [List.append_assoc, doAll_append, i1, ← doAll_append]
    · rw [← List.append_assoc, doAll_append, doAll_swap hbl (opsE_pos x) hfl, ← doAll_append, List.append_assoc, doAll_append, i2, ← doAll_append]
  | @right y a b m hy _ ih =>
    intro ha hb s la lb
    obtain ⟨b1, b2, b3, b4⟩ := hb.tail
    have hyl := lb y List.mem_cons_self
    have hfl := opsE_floor b3 b4 hyl
    have hsl : y.at_ ≤ ((doAll s (opsE y)).length : Int) := by have := hfl _ (Nat.le_refl _); rwa [List.take_length] at this
    obtain ⟨i1, i2⟩ := ih ha b1 (doAll s (opsE y)) (fun z hz => by have := hy z hz; omega) (fun z hz => by have := b2 z hz; omega)
    have hal : blw y.at_ (opsR a) := blw_opsR ha hy
    obtain ⟨r1, r2⟩ := run_up f (r := opsR b) hal (opsE_pos y)
    simp only [opsR]
    rw [r1, r2]
    refine ⟨?_, ?_⟩
    · rw [← List.append_assoc, doAll_append, doAll_swap hal (opsE_pos y) hfl, ← doAll_append, List.append_assoc, doAll_append, i1, ← doAll_append]
    · rw [List.append_assoc, doAll_append, i2, ← doAll_append]
theorem opsR_append (a b : List Ed) : opsR (a ++ b) = opsR a ++ opsR b := by
  induction a with
  | nil => rfl
  | cons x a ih => simp only [List.cons_append, opsR, ih, List.append_assoc]
/-- A script, operation by operation. -/
def opsL (l : List Ed) : List Op := opsR l.reverse
theorem opsL_cons (x : Ed) (l : List Ed) : opsL (x :: l) = opsL l ++ opsE x := by
  unfold opsL
  rw [List.reverse_cons, opsR_append]
  show _ ++ (opsE x ++ []) = _
  rw [List.append_nil]
theorem doAll_opsL {n : Nat} {s : List UInt8} (hs : s.length = n) : ∀ {l : List Ed} {p : Option Int} {k : Nat}, Chain n p l → after k p → k ≤ n → doAll s (opsL l) = edDone s l := by
  intro l
  induction l with
  | nil => intro p k _ _ _; rfl
  | cons x r ih =>
    intro p k hc ha hk
    cases hc with
    | cons _ _ _ h0 h =>
      obtain ⟨h1, h2, h3, h4, h5, h6, h7⟩ := edOne_zero h0
      obtain ⟨a, ha'⟩ := Int.eq_ofNat_of_zero_le h1
      obtain ⟨d, hd'⟩ := Int.eq_ofNat_of_zero_le h2
      have hr := ih (k := a + d) h (by simp only [after]; omega) (by omega)
      have e1 := edDone_eq (s := s) hs h (k := a + d) (by simp only [after]; omega) (by omega)
      have hlen : x.at_ + x.del ≤ ((edDone s r).length : Int) := by
        rw [e1, List.length_append, List.length_take]; omega
      rw [opsL_cons, doAll_append, hr, doAll_opsE h1 h2 hlen]
      simp only [edDone, List.append_assoc]
end Go.Proofs.Ytllcmmpepchieaa
