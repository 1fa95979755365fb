/- The edits between pairs of places at which two texts have the same byte. No program in sight. -/
import Derived.Test.YtolnhplgaolieaaEdit0
namespace Go.Proofs.Ytolnhplgaolieaa
/-- Pairs of places, from two places on, at which both have the same byte. -/
inductive Ms (a b : List UInt8) : Nat → Nat → List (Nat × Nat) → Prop
  | nil (i k) : i ≤ a.length → k ≤ b.length → Ms a b i k []
  | cons (i k x y r) : i ≤ x → k ≤ y → x < a.length → y < b.length → a[x]? = b[y]? → Ms a b (x + 1) (y + 1) r → Ms a b i k ((x, y) :: r)
def edOf (a b : List UInt8) : Nat → Nat → List (Nat × Nat) → List Ed
  | i, k, [] => if i < a.length ∨ k < b.length then [⟨i, a.length - i, b.drop k⟩] else []
  | i, k, (x, y) :: r => (if i < x ∨ k < y then [⟨i, x - i, (b.drop k).take (y - k)⟩] else []) ++ edOf a b (x + 1) (y + 1) r
def cost : List Ed → Int
  | [] => 0
  | x :: r => x.del + x.ins.length + cost r
theorem cost_append (a b : List Ed) : cost (a ++ b) = cost a + cost b := by
  induction a with
  | nil => simp [cost]
  | cons x a ih => simp [cost, ih]; omega
theorem edOf_cost {a b : List UInt8} {i k : Nat} {ms : List (Nat × Nat)} (h : Ms a b i k ms) : cost (edOf a b i k ms) = (a.length - i : Int) + (b.length - k) - 2 * ms.length ∧ (ms.length : Int) ≤ a.length - i ∧ (ms.length : Int) ≤ b.length - k := by
  induction h with
  | nil i k h1 h2 =>
    simp only [edOf]
    split
    · simp [cost]; omega
    · simp [cost]; omega
  | cons i k x y r h1 h2 h3 h4 h5 h6 ih =>
    simp only [edOf, cost_append, List.length_cons]
    split
    · simp only [cost, List.length_take, List.length_drop]; omega
    · simp only [cost]; omega
theorem cost_nonneg_len {n : Int} {p : Option Int} {l : List Ed} (h : Chain n p l) : (l.length : Int) ≤ cost l := by
  induction h with
  | nil => simp [cost]
  | cons p x r h0 h ih =>
    have := edOne_zero h0
    simp only [cost, List.length_cons]; omega
def before (i : Nat) (p : Option Int) : Prop := ∀ e, p = some e → e < i
theorem edOf_chain {a b : List UInt8} {i k : Nat} {ms : List (Nat × Nat)} (h : Ms a b i k ms) : ∀ p, before i p → (a.length - i : Int) + (b.length - k) - 2 * ms.length ≤ 20 → Chain a.length p (edOf a b i k ms) := by
  induction h with
  | nil i k h1 h2 =>
    intro p hp hc
    simp only [edOf]
    split
    · refine .cons _ _ _ ?_ (.nil _)
      unfold edOne
      simp only [List.length_drop, List.length_nil] at *
      rw [if_neg (by omega), if_neg (by omega), if_neg (by omega), if_neg]
      rintro ⟨e, he, hh⟩
      have := hp e he
      omega
    · exact .nil _
  | cons i k x y r h1 h2 h3 h4 h5 h6 ih =>
    intro p hp hc
    have hcost := edOf_cost h6
    simp only [List.length_cons] at hc
    have hc' : (a.length - (x + 1 : Nat) : Int) + (b.length - (y + 1 : Nat)) - 2 * r.length ≤ 20 := by omega
    simp only [edOf]
    split
    · refine .cons _ _ _ ?_ (ih _ ?_ hc')
      · unfold edOne
        simp only [List.length_take, List.length_drop]
        rw [if_neg (by omega), if_neg (by omega), if_neg (by omega), if_neg]
        rintro ⟨e, he, hh⟩
        have := hp e he
        omega
      · intro e he
        simp only [Option.some.injEq] at he
        omega
    · refine ih p (fun e he => ?_) hc'
      have := hp e he
      omega
theorem take_one (l : List UInt8) (x : Nat) (c : UInt8) (h : l[x]? = some c) : l.drop x = c :: l.drop (x + 1) := by
  obtain ⟨hx, rfl⟩ := List.getElem?_eq_some_iff.1 h
  exact List.drop_eq_getElem_cons hx
theorem edOf_to {a b : List UInt8} {i k : Nat} {ms : List (Nat × Nat)} (h : Ms a b i k ms) : ∀ j, j ≤ i → edTo a j (edOf a b i k ms) = (a.drop j).take (i - j) ++ b.drop k := by
  induction h with
  | nil i k h1 h2 =>
    intro j hj
    simp only [edOf]
    split
    · simp only [edTo]
      have e1 : ((i : Int)).toNat = i := by omega
      have e2 : (((i : Int) + ((a.length : Int) - (i : Int))).toNat) = a.length := by omega
      rw [e1, e2, List.drop_length]
      simp
    · simp only [edTo]
      rw [List.drop_of_length_le (by omega : b.length ≤ k), List.take_of_length_le (by rw [List.length_drop]; omega)]
      simp
  | cons i k x y r h1 h2 h3 h4 h5 h6 ih =>
    intro j hj
    obtain ⟨c, hc⟩ : ∃ c, b[y]? = some c := ⟨_, List.getElem?_eq_getElem h4⟩
    have hca : a[x]? = some c := by rw [h5, hc]
    have e4 := take_one a x c hca
    have e5 := take_one b y c hc
    have hb : b.drop k = (b.drop k).take (y - k) ++ b.drop y := by
      have := (List.take_append_drop (y - k) (b.drop k)).symm
      rw [List.drop_drop, show k + (y - k) = y by omega] at this
      exact this
    simp only [edOf]
    split
    · simp only [List.singleton_append, edTo]
      have e1 : ((i : Int)).toNat = i := by omega
      have e2 : (((i : Int) + ((x : Int) - (i : Int))).toNat) = x := by omega
      rw [e1, e2, ih x (by omega), show x + 1 - x = 1 by omega, e4]
      conv => rhs; rw [hb, e5]
      simp
    · rw [List.nil_append, ih j (by omega)]
      obtain rfl : i = x := by omega
      obtain rfl : k = y := by omega
      have : a.drop j = (a.drop j).take (i - j) ++ a.drop i := by
        have := (List.take_append_drop (i - j) (a.drop j)).symm
        rw [List.drop_drop, show j + (i - j) = i by omega] at this
        exact this
      have h7 : (a.drop j).take (i + 1 - j) = (a.drop j).take (i - j) ++ [c] := by
        conv => lhs; rw [this, e4]
        rw [List.take_append, List.length_take, List.length_drop]
        rw [List.take_of_length_le (by rw [List.length_take, List.length_drop]; omega)]
        rw [show i + 1 - j - min (i - j) (a.length - j) = 1 by omega]
        rfl
      rw [h7, e5]
      simp
/-- The edits of a row of pairs. -/
theorem edOf_right {a b : List UInt8} {ms : List (Nat × Nat)} (h : Ms a b 0 0 ms) (ha : a.length ≤ 200) (hb : b.length ≤ 200) (hc : (a.length : Int) + b.length - 2 * ms.length ≤ 20) :
    edErr a.length (edOf a b 0 0 ms) = 0 ∧ edDone a (edOf a b 0 0 ms) = b ∧ cost (edOf a b 0 0 ms) = (a.length : Int) + b.length - 2 * ms.length := by
  have h1 := edOf_chain h none (fun _ h => by cases h) (by omega)
  have h2 := edOf_cost h
  have h3 := cost_nonneg_len h1
  have h4 := edOf_to h 0 (Nat.le_refl _)
  have h5 := edTo_length rfl h1 (k := 0) rfl (Nat.zero_le _)
  rw [h4] at h5
  simp only [Nat.sub_zero, List.take_zero, List.nil_append, List.drop_zero] at h4 h5
  have h6 : edErr a.length (edOf a b 0 0 ms) = 0 := edErr_zero.2 ⟨by omega, by omega, by omega, h1, by omega⟩
  refine ⟨h6, ?_, by omega⟩
  rw [edDone_is h6, h4]
end Go.Proofs.Ytolnhplgaolieaa
