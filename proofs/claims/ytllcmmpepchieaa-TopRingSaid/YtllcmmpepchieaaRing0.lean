/- Rings and lines of signs: what both sides reckon; that they agree is reckoned out, for there are few cases. No program in sight. -/
import Derived.Test.YtllcmmpepchieaaLynX
import Derived.Test.YtllcmmpepchieaaLynU
namespace Go.Proofs.Ytllcmmpepchieaa
def sg (c : Nat) : UInt8 := 97 + UInt8.ofNat c
def allW (k : Nat) : Nat → List (List UInt8)
  | 0 => [[]]
  | n + 1 => (allW k n).flatMap fun w => (List.range k).map fun c => w ++ [sg c]
def isLst (w : List UInt8) : Bool := decide (turn w (lst w w.length) = w)
/-- The programs' count of rings. -/
def ringS (k n : Nat) : Nat → Nat
  | 0 => 0
  | t + 1 => ringS k n t + k ^ Nat.gcd t n
def ringsF (k n : Nat) : Nat := ringS k n n / n
/-- The program's counts of words. -/
def wsub (all : List Int) (d : Nat) : Nat → Int → Int
  | 0, x => x
  | c + 1, x => let y := wsub all d c x; if c = 0 then y else if d % c = 0 then y - c * all.getD c 0 else y
def wlist (k : Nat) : Nat → List Int
  | 0 => [0]
  | d + 1 => wlist k d ++ [wsub (wlist k d) (d + 1) (d + 1) ((k : Int) ^ (d + 1)) / ((d + 1 : Nat) : Int)]
def wordsF (k n : Nat) : Int := (wlist k n).getD n 0
/-- The program's line, with so many steps left. -/
def lineRun (n : Nat) (last : UInt8) : Nat → List UInt8 → List UInt8 → Option (List UInt8)
  | 0, _, _ => none
  | f + 1, w, out => let o := if n % w.length = 0 then out ++ w else out
    if nextE w n last = 0 then lineRun n last f (nextV w n last) o else some o
/-- The document's line. -/
def genF (k n : Nat) : Nat → Nat → List Nat → List Nat × List UInt8
  | 0, p, a => (a, if n % p = 0 then ((a.drop 1).take p).map sg else [])
  | m + 1, p, a =>
    let t := n - m
    let r := genF k n m p (a.set t (a.getD (t - p) 0))
    let x0 := r.1.getD (t - p) 0 + 1
    (List.range (k - x0)).foldl (fun acc i => let r2 := genF k n m t (acc.1.set t (x0 + i)); (r2.1, acc.2 ++ r2.2)) r
def lineR (k n : Nat) : List UInt8 := (genF k n n 1 (List.replicate (n + 1) 0)).2
def okB (k n : Nat) : Bool := (allW k n).countP isLst == ringsF k n && ((allW k n).countP lynB : Int) == wordsF k n && lineRun n (sg (k - 1)) 600 [97] [] == some (lineR k n)
/-- A power, under a name of its own. -/
def kp (k n : Nat) : Nat := k ^ n
theorem kp_zero (k : Nat) : kp k 0 = 1 := Nat.pow_zero k
theorem kp_succ (k n : Nat) : kp k (n + 1) = kp k n * k := Nat.pow_succ ..
theorem kp_pos {k : Nat} (h : 1 ≤ k) (n : Nat) : 1 ≤ kp k n := Nat.pow_pos h
theorem kp_mono {k : Nat} (h : 1 ≤ k) {m n : Nat} (hm : m ≤ n) : kp k m ≤ kp k n := Nat.pow_le_pow_right h hm
def wv (k c : Nat) : Int := (wlist k c).getD c 0
theorem wlist_len (k : Nat) : ∀ d, (wlist k d).length = d + 1
  | 0 => rfl
  | d + 1 => by rw [wlist, List.length_append, wlist_len k d]; rfl
theorem wlist_get (k : Nat) : ∀ (d c : Nat), c ≤ d → (wlist k d).getD c 0 = wv k c
  | 0, c, h => by obtain rfl : c = 0 := by omega
                  rfl
  | d + 1, c, h => by
    by_cases e : c = d + 1
    · subst e; rfl
    · rw [wlist, List.getD_eq_getElem?_getD, List.getElem?_append_left (by rw [wlist_len]; omega), ← List.getD_eq_getElem?_getD]
      exact wlist_get k d c (by omega)
/-- What is left of the words of d signs behind the first c numbers. -/
def wx (k d c : Nat) : Int := wsub (wlist k (d - 1)) d c (kp k d : Nat)
theorem wx_one (k d : Nat) : wx k d 1 = (kp k d : Nat) := by simp [wx, wsub]
theorem wx_step (k d : Nat) {c : Nat} (h0 : 0 < c) (h : c < d) : wx k d (c + 1) = if d % c = 0 then wx k d c - c * wv k c else wx k d c := by
  unfold wx
  rw [wsub, if_neg (by omega), wlist_get k (d - 1) c (by omega)]
theorem wv_of (k : Nat) {d : Nat} (h : 0 < d) : wv k d = wx k d d / (d : Int) := by
  obtain ⟨m, rfl⟩ : ∃ m, d = m + 1 := ⟨d - 1, by omega⟩
  unfold wv wx
  rw [wlist, List.getD_eq_getElem?_getD, List.getElem?_append_right (by rw [wlist_len]; omega), wlist_len, Nat.sub_self]
  rw [Nat.add_sub_cancel]
  simp only [List.getElem?_cons_zero, Option.getD_some]
  congr 2
/-- One sign: one word of one sign, none that is longer. -/
theorem w_one : ∀ d, (∀ c, c ≤ d → wv 1 c = if c = 1 then 1 else 0) ∧ ∀ c, 1 ≤ c → c ≤ d → wx 1 d c = if c = 1 then 1 else 0
  | 0 => ⟨fun c hc => by obtain rfl : c = 0 := by omega
                         rfl, fun c h1 h2 => by omega⟩
  | d + 1 => by
    have ih := w_one d
    have hx : ∀ c, 1 ≤ c → c ≤ d + 1 → wx 1 (d + 1) c = if c = 1 then 1 else 0 := by
      intro c
      induction c with
      | zero => intro h; omega
      | succ c ihc =>
        intro _ hc
        rcases Nat.eq_zero_or_pos c with h0 | h0
        · subst h0; rw [wx_one]; simp [kp]
        · rw [wx_step 1 (d + 1) h0 (by omega), ihc h0 (by omega), ih.1 c (by omega)]
          by_cases h1 : c = 1
          · subst h1; simp [Nat.mod_one]
          · rw [if_neg h1, if_neg (show ¬ c + 1 = 1 by omega)]; simp
    refine ⟨fun c hc => ?_, hx⟩
    by_cases e : c = d + 1
    · subst e
      rw [wv_of 1 (Nat.succ_pos d), hx (d + 1) (by omega) (Nat.le_refl _)]
      by_cases h1 : d = 0
      · subst h1; rfl
      · rw [if_neg (show ¬ d + 1 = 1 by omega)]; simp
    · exact ih.1 c (by omega)
def wbB (k d : Nat) : Bool := decide (0 ≤ wv k d ∧ wv k d ≤ 512) && (List.range (d + 1)).all fun c => decide (0 ≤ wx k d c ∧ wx k d c ≤ 512)
theorem wb_2 : ((List.range 10).all fun n => wbB 2 n) = true := by kernel_rfl
theorem wb_3 : ((List.range 6).all fun n => wbB 3 n) = true := by kernel_rfl
theorem wb_4 : ((List.range 5).all fun n => wbB 4 n) = true := by kernel_rfl
theorem wb_5 : ((List.range 4).all fun n => wbB 5 n) = true := by kernel_rfl
theorem wb_6 : ((List.range 4).all fun n => wbB 6 n) = true := by kernel_rfl
theorem wb_7 : ((List.range 4).all fun n => wbB 7 n) = true := by kernel_rfl
theorem wb_8 : ((List.range 4).all fun n => wbB 8 n) = true := by kernel_rfl
theorem few {k n : Nat} (h2 : 2 ≤ k) (h8 : k ≤ 8) (h : k ^ n ≤ 512) : (k = 2 ∧ n < 10) ∨ (k = 3 ∧ n < 6) ∨ (k = 4 ∧ n < 5) ∨ (k = 5 ∧ n < 4) ∨ (k = 6 ∧ n < 4) ∨ (k = 7 ∧ n < 4) ∨ (k = 8 ∧ n < 4) := by
  have key : ∀ b m : Nat, 1 ≤ b → b = k → 512 < b ^ m → n < m := fun b m hb e hm => by
    subst e
    refine Decidable.byContradiction fun h9 => ?_
    have := Nat.pow_le_pow_right hb (show m ≤ n by omega)
    omega
  have hk : k = 2 ∨ k = 3 ∨ k = 4 ∨ k = 5 ∨ k = 6 ∨ k = 7 ∨ k = 8 := by omega
  rcases hk with e | e | e | e | e | e | e
  · exact .inl ⟨e, key 2 10 (by omega) e.symm (by decide)⟩
  · exact .inr (.inl ⟨e, key 3 6 (by omega) e.symm (by decide)⟩)
  · exact .inr (.inr (.inl ⟨e, key 4 5 (by omega) e.symm (by decide)⟩))
  · exact .inr (.inr (.inr (.inl ⟨e, key 5 4 (by omega) e.symm (by decide)⟩)))
  · exact .inr (.inr (.inr (.inr (.inl ⟨e, key 6 4 (by omega) e.symm (by decide)⟩))))
  · exact .inr (.inr (.inr (.inr (.inr (.inl ⟨e, key 7 4 (by omega) e.symm (by decide)⟩)))))
  · exact .inr (.inr (.inr (.inr (.inr (.inr ⟨e, key 8 4 (by omega) e.symm (by decide)⟩)))))
theorem wbB_all {k d : Nat} (h2 : 2 ≤ k) (h8 : k ≤ 8) (h : k ^ d ≤ 512) : wbB k d = true := by
  rcases few h2 h8 h with ⟨rfl, hd⟩ | ⟨rfl, hd⟩ | ⟨rfl, hd⟩ | ⟨rfl, hd⟩ | ⟨rfl, hd⟩ | ⟨rfl, hd⟩ | ⟨rfl, hd⟩
  · exact List.all_eq_true.1 wb_2 d (List.mem_range.2 hd)
  · exact List.all_eq_true.1 wb_3 d (List.mem_range.2 hd)
  · exact List.all_eq_true.1 wb_4 d (List.mem_range.2 hd)
  · exact List.all_eq_true.1 wb_5 d (List.mem_range.2 hd)
  · exact List.all_eq_true.1 wb_6 d (List.mem_range.2 hd)
  · exact List.all_eq_true.1 wb_7 d (List.mem_range.2 hd)
  · exact List.all_eq_true.1 wb_8 d (List.mem_range.2 hd)
theorem w_bounds {k d : Nat} (h1 : 1 ≤ k) (h8 : k ≤ 8) (h : kp k d ≤ 512) : (0 ≤ wv k d ∧ wv k d ≤ 512) ∧ ∀ c, 1 ≤ c → c ≤ d → 0 ≤ wx k d c ∧ wx k d c ≤ 512 := by
  rcases Nat.lt_or_ge k 2 with h2 | h2
  · obtain rfl : k = 1 := by omega
    obtain ⟨ha, hb⟩ := w_one d
    refine ⟨?_, fun c hc hd => ?_⟩
    · rw [ha d (Nat.le_refl _)]; split <;> omega
    · rw [hb c hc hd]; split <;> omega
  · have := wbB_all h2 h8 h
    simp only [wbB, Bool.and_eq_true, decide_eq_true_eq, List.all_eq_true, List.mem_range] at this
    exact ⟨this.1, fun c _ hd => this.2 c (by omega)⟩
theorem ringS_le (k n : Nat) (hn : 1 ≤ n) (h1 : 1 ≤ k) (h : kp k n ≤ 512) : ∀ t, ringS k n t ≤ t * 512
  | 0 => Nat.le_refl _
  | t + 1 => by
    have h2 := ringS_le k n hn h1 h t
    have h3 : kp k (Nat.gcd t n) ≤ kp k n := kp_mono h1 (Nat.le_of_dvd hn (Nat.gcd_dvd_right t n))
    rw [ringS]
    unfold kp at h h3
    omega
end Go.Proofs.Ytllcmmpepchieaa
