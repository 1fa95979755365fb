/- The words that are made for lengths, in order. No program in sight. The two ways to reckon the checksum, as functions on numbers, and that they agree. No program in sight. The walks of package sum and of the reference's checksum. -/
import Derived.Test.YtncakjchaniheaaPk05
import Derived.Test.YtncakjchaniheaaPk01
namespace Go.Proofs.Ytncakjchaniheaa
/-- What the words before (n, i) take. -/
def nxF (n i : Nat) : Nat → List Nat → Nat
  | _, [] => 0
  | j, m :: r => (if m < n ∨ (m = n ∧ j < i) then 2 ^ (12 - m) else 0) + nxF n i (j + 1) r
def nx (ns : List Nat) (n i : Nat) : Nat := nxF n i 0 ns
def total : List Nat → Nat
  | [] => 0
  | m :: r => 2 ^ (12 - m) + total r
theorem nxF_succ (n i : Nat) (ns : List Nat) : ∀ j, nxF n (i + 1) j ns = nxF n i j ns + if j ≤ i ∧ ns[i - j]? = some n then 2 ^ (12 - n) else 0 := by
  induction ns with
  | nil => intro j; simp [nxF]
  | cons m r ih =>
    intro j
    simp only [nxF, ih (j + 1)]
    by_cases hj : j = i
    · subst hj
      have h1 : ¬ (j + 1 ≤ j ∧ r[j - (j + 1)]? = some n) := fun h => by omega
      have h3 : (m :: r)[j - j]? = some m := by rw [Nat.sub_self]; rfl
      rw [if_neg h1, h3]
      by_cases hm : m = n
      · subst hm
        rw [if_pos (.inr ⟨rfl, by omega⟩), if_neg (by omega), if_pos ⟨Nat.le_refl _, rfl⟩]
        omega
      · rw [if_neg (fun h : j ≤ j ∧ some m = some n => hm (by injection h.2))]
        by_cases hmn : m < n
        · rw [if_pos (.inl hmn), if_pos (.inl hmn)]; omega
        · rw [if_neg (by omega), if_neg (by omega)]; omega
    · by_cases hji : j < i
      · have e : i - j = (i - (j + 1)) + 1 := by omega
        rw [e, List.getElem?_cons_succ]
        have h2 : (m < n ∨ (m = n ∧ j < i + 1)) ↔ (m < n ∨ (m = n ∧ j < i)) := by omega
        have h4 : (j + 1 ≤ i ∧ r[i - (j + 1)]? = some n) ↔ (j ≤ i ∧ r[i - (j + 1)]? = some n) := by
          constructor <;> rintro ⟨a, b⟩ <;> exact ⟨by omega, b⟩
        simp only [h2, h4]
        omega
      · rw [if_neg (fun h => by omega : ¬ (j + 1 ≤ i ∧ _)), if_neg (fun h => by omega : ¬ (j ≤ i ∧ _))]
        have h2 : (m < n ∨ (m = n ∧ j < i + 1)) ↔ (m < n ∨ (m = n ∧ j < i)) := by omega
        simp only [h2]
        omega
theorem nx_hit {ns : List Nat} {n i : Nat} (h : ns[i]? = some n) : nx ns n (i + 1) = nx ns n i + 2 ^ (12 - n) := by
  unfold nx; rw [nxF_succ, if_pos ⟨Nat.zero_le _, by simpa using h⟩]
theorem nx_miss {ns : List Nat} {n i : Nat} (h : ns[i]? ≠ some n) : nx ns n (i + 1) = nx ns n i := by
  unfold nx; rw [nxF_succ, if_neg (fun hh => h (by simpa using hh.2))]; omega
theorem nx_next (ns : List Nat) (n : Nat) : nx ns (n + 1) 0 = nx ns n ns.length := by
  have key : ∀ (ns : List Nat) j k, j + ns.length ≤ k → nxF (n + 1) 0 j ns = nxF n k j ns := by
    intro ns
    induction ns with
    | nil => intros; rfl
    | cons m r ih =>
      intro j k hk
      simp only [List.length_cons] at hk
      simp only [nxF]
      rw [ih (j + 1) k (by omega)]
      congr 1
      have h2 : (m < n + 1 ∨ (m = n + 1 ∧ j < 0)) ↔ (m < n ∨ (m = n ∧ j < k)) := by omega
      simp only [h2]
  exact key ns 0 _ (by omega)
theorem nx_one {ns : List Nat} (h : ∀ m ∈ ns, 1 ≤ m) : nx ns 1 0 = 0 := by
  have key : ∀ (ns : List Nat), (∀ m ∈ ns, 1 ≤ m) → ∀ j, nxF 1 0 j ns = 0 := by
    intro ns
    induction ns with
    | nil => intros; rfl
    | cons m r ih =>
      intro h j
      have := h m (by simp)
      simp only [nxF]
      rw [if_neg (by omega), ih (fun x hx => h x (by simp [hx]))]
  exact key ns h 0
theorem nx_le (ns : List Nat) (n i : Nat) : nx ns n i ≤ total ns := by
  have key : ∀ (ns : List Nat) j, nxF n i j ns ≤ total ns := by
    intro ns
    induction ns with
    | nil => intros; exact Nat.le_refl _
    | cons m r ih =>
      intro j
      have := ih (j + 1)
      have hp : 0 < 2 ^ (12 - m) := Nat.two_pow_pos _
      simp only [nxF, total]
      split <;> omega
  exact key ns 0
theorem nx_dvd {ns : List Nat} {n i : Nat} (hn : n ≤ 12) : 2 ^ (12 - n) ∣ nx ns n i := by
  have key : ∀ (ns : List Nat) j, 2 ^ (12 - n) ∣ nxF n i j ns := by
    intro ns
    induction ns with
    | nil => intro j; exact Nat.dvd_zero _
    | cons m r ih =>
      intro j
      simp only [nxF]
      refine Nat.dvd_add ?_ (ih _)
      split
      · exact Nat.pow_dvd_pow 2 (by omega)
      · exact Nat.dvd_zero _
  exact key ns 0
/-- The word at a place. -/
def wdAt (ns : List Nat) (j : Nat) : List UInt8 := bw (nx ns (ns.getD j 0) j / 2 ^ (12 - ns.getD j 0)) (ns.getD j 0)
def codesL (ns : List Nat) : List (List UInt8) := (List.range ns.length).map (wdAt ns)
/-- What has been laid down before (n, i). -/
def outAt (ns : List Nat) (n i : Nat) : List (List UInt8) := (List.range ns.length).map fun j => if ns.getD j 0 < n ∨ (ns.getD j 0 = n ∧ j < i) then wdAt ns j else []
theorem outAt_len (ns : List Nat) (n i : Nat) : (outAt ns n i).length = ns.length := by simp [outAt]
theorem outAt_hit {ns : List Nat} {n i : Nat} (hn : ns.getD i 0 = n) : outAt ns n (i + 1) = (outAt ns n i).set i (wdAt ns i) := by
  apply List.ext_getElem
  · simp [outAt]
  · intro j h1 h2
    simp only [outAt, List.getElem_map, List.getElem_range, List.getElem_set]
    by_cases hij : i = j
    · subst hij; rw [if_pos rfl, if_pos (.inr ⟨hn, by omega⟩)]
    · rw [if_neg hij]
      have : (ns.getD j 0 < n ∨ (ns.getD j 0 = n ∧ j < i + 1)) ↔ (ns.getD j 0 < n ∨ (ns.getD j 0 = n ∧ j < i)) := by omega
      simp only [this]
theorem outAt_miss {ns : List Nat} {n i : Nat} (hn : ns.getD i 0 ≠ n) : outAt ns n (i + 1) = outAt ns n i := by
  apply List.ext_getElem
  · simp [outAt]
  · intro j h1 h2
    simp only [outAt, List.getElem_map, List.getElem_range]
    have : (ns.getD j 0 < n ∨ (ns.getD j 0 = n ∧ j < i + 1)) ↔ (ns.getD j 0 < n ∨ (ns.getD j 0 = n ∧ j < i)) := by
      by_cases hij : j = i
      · subst hij; omega
      · omega
    simp only [this]
theorem outAt_next (ns : List Nat) (n : Nat) : outAt ns (n + 1) 0 = outAt ns n ns.length := by
  apply List.ext_getElem
  · simp [outAt]
  · intro j h1 h2
    have hj : j < ns.length := by simpa [outAt] using h1
    simp only [outAt, List.getElem_map, List.getElem_range]
    have : (ns.getD j 0 < n + 1 ∨ (ns.getD j 0 = n + 1 ∧ j < 0)) ↔ (ns.getD j 0 < n ∨ (ns.getD j 0 = n ∧ j < ns.length)) := by omega
    simp only [this]
theorem outAt_one {ns : List Nat} (h : ∀ m ∈ ns, 1 ≤ m) : outAt ns 1 0 = List.replicate ns.length [] := by
  apply List.ext_getElem
  · simp [outAt]
  · intro j h1 h2
    have hj : j < ns.length := by simpa [outAt] using h1
    simp only [outAt, List.getElem_map, List.getElem_range, List.getElem_replicate]
    have hm : 1 ≤ ns.getD j 0 := by
      rw [List.getD_eq_getElem?_getD, List.getElem?_eq_getElem hj]
      exact h _ (List.getElem_mem hj)
    rw [if_neg (by omega)]
theorem outAt_end {ns : List Nat} (h : ∀ m ∈ ns, m ≤ 12) : outAt ns 13 0 = codesL ns := by
  apply List.ext_getElem
  · simp [outAt, codesL]
  · intro j h1 h2
    have hj : j < ns.length := by simpa [outAt] using h1
    simp only [outAt, codesL, List.getElem_map, List.getElem_range]
    have hm : ns.getD j 0 ≤ 12 := by
      rw [List.getD_eq_getElem?_getD, List.getElem?_eq_getElem hj]
      exact h _ (List.getElem_mem hj)
    rw [if_pos (.inl (by omega))]
end Go.Proofs.Ytncakjchaniheaa
namespace Go.Proofs.Ytncakjchaniheaa
/-- One step from the lowest bit on. -/
def lsb (x : Nat) : Nat := (x / 2) ^^^ ((x % 2) * 2197175160)
def lsbN : Nat → Nat → Nat
  | 0, x => x
  | n + 1, x => lsb (lsbN n x)
/-- A whole byte. -/
def lsbByte (x : Nat) (c : UInt8) : Nat := lsbN 8 (x ^^^ c.toNat)
def lsbAll (x : Nat) (l : List UInt8) : Nat := l.foldl lsbByte x
/-- One step from the highest bit on, a bit of input. -/
def msb (x b : Nat) : Nat := if (x / 2147483648) ^^^ b = 1 then (x * 2 % 4294967296) ^^^ 517762881 else x * 2 % 4294967296
def msbN (c : Nat) : Nat → Nat → Nat
  | 0, x => x
  | n + 1, x => msb (msbN c n x) (c / 2 ^ n % 2)
def msbByte (x : Nat) (c : UInt8) : Nat := msbN c.toNat 8 x
def msbAll (x : Nat) (l : List UInt8) : Nat := l.foldl msbByte x
/-- The bits from behind, the n lowest ones done. -/
def backN (x : Nat) : Nat → Nat
  | 0 => 0
  | n + 1 => backN x n ||| ((x / 2 ^ n % 2) * 2 ^ (31 - n))

/-- x has the bits of y from behind. -/
def Turned (x y : Nat) : Prop := x < 4294967296 ∧ y < 4294967296 ∧ ∀ i, i < 32 → x.testBit i = y.testBit (31 - i)

theorem msb_lt (x b : Nat) : msb x b < 4294967296 := by
  unfold msb
  have h : x * 2 % 4294967296 < 2 ^ 32 := Nat.mod_lt _ (by decide)
  split
  · exact Nat.xor_lt_two_pow h (by decide)
  · exact h
theorem lsb_walk (Y : Nat) (hY : Y < 4294967296) : bits BinOp.xor IntKind.u32 ((Y : Int) / 2) (bits BinOp.and IntKind.u32 (Y : Int) 1 * 2197175160 % 4294967296) = ((lsb Y : Nat) : Int) := by
  have h1 := u32_and_nat Y 1 hY (by omega)
  rw [nat_mask1] at h1
  rw [show ((1 : Int)) = ((1 : Nat) : Int) from rfl, h1]
  have h2 : ((Y % 2 : Nat) : Int) * 2197175160 % 4294967296 = ((Y % 2 * 2197175160 : Nat) : Int) := by omega
  rw [h2, show (Y : Int) / 2 = ((Y / 2 : Nat) : Int) from by omega]
  exact u32_xor_nat _ _ (by omega) (by omega)
theorem take_succ_getD (l : List UInt8) (k : Nat) (h : k < l.length) : l.take (k + 1) = l.take k ++ [l.getD k 0] := by
  rw [List.take_succ_eq_append_getElem h, List.getD_eq_getElem?_getD, List.getElem?_eq_getElem h]; rfl
theorem lsbAll_snoc (x : Nat) (l : List UInt8) (k : Nat) (h : k < l.length) : lsbAll x (l.take (k + 1)) = lsbByte (lsbAll x (l.take k)) (l.getD k 0) := by
  unfold lsbAll
  rw [take_succ_getD l k h, List.foldl_append]; rfl
theorem msbAll_snoc (x : Nat) (l : List UInt8) (k : Nat) (h : k < l.length) : msbAll x (l.take (k + 1)) = msbByte (msbAll x (l.take k)) (l.getD k 0) := by
  unfold msbAll
  rw [take_succ_getD l k h, List.foldl_append]; rfl
theorem lsb_lt (x : Nat) (h : x < 4294967296) : lsb x < 4294967296 := by
  unfold lsb
  exact Nat.xor_lt_two_pow (n := 32) (by omega) (by rcases Nat.mod_two_eq_zero_or_one x with e | e <;> rw [e] <;> decide)
theorem not32 (X : Nat) (hX : X < 4294967296) : 4294967295 ^^^ X = 4294967295 - X := by
  have h := congrArg BitVec.toNat (BitVec.allOnes_xor (x := BitVec.ofNat 32 X))
  rw [BitVec.toNat_xor, BitVec.toNat_not, BitVec.toNat_ofNat, Nat.mod_eq_of_lt (by omega), BitVec.toNat_allOnes] at h
  simpa using h
theorem not_walk (X : Nat) (hX : X < 4294967296) : bits BinOp.xor IntKind.u32 IntKind.u32.max (X : Int) = ((4294967295 - X : Nat) : Int) := by
  have h := u32_xor_nat 4294967295 X (by omega) hX
  rw [not32 X hX] at h
  exact h
theorem bit_walk (Y c j : Nat) (hY : Y < 4294967296) (hc : c < 256) : bits BinOp.xor IntKind.u32 ((Y : Int) / 2147483648) (bits BinOp.and IntKind.u8 ((c : Int) / 2 ^ j) 1 % 4294967296) = (((Y / 2147483648) ^^^ (c / 2 ^ j % 2) : Nat) : Int) := by
  have e : ((c : Int) / 2 ^ j) = ((c / 2 ^ j : Nat) : Int) := by
    rw [Int.natCast_ediv, Int.natCast_pow]; rfl
  have hlt : c / 2 ^ j < 256 := Nat.lt_of_le_of_lt (Nat.div_le_self _ _) hc
  have h1 := u8_and_nat (c / 2 ^ j) 1 hlt (by omega)
  rw [nat_mask1] at h1
  rw [e, show ((1 : Int)) = ((1 : Nat) : Int) from rfl, h1]
  have h2 : ((c / 2 ^ j % 2 : Nat) : Int) % 4294967296 = ((c / 2 ^ j % 2 : Nat) : Int) := by omega
  rw [h2, show (Y : Int) / 2147483648 = ((Y / 2147483648 : Nat) : Int) from by omega]
  exact u32_xor_nat _ _ (by omega) (by omega)
theorem shl_walk (Y : Nat) : Value.int IntKind.u32 ((Y : Int) * 2 % 4294967296) = .int .u32 ((Y * 2 % 4294967296 : Nat) : Int) := congrArg _ (by omega)
theorem xor_walk (Y : Nat) : Value.int IntKind.u32 (bits BinOp.xor IntKind.u32 ((Y : Int) * 2 % 4294967296) 517762881) = .int .u32 (((Y * 2 % 4294967296) ^^^ 517762881 : Nat) : Int) := by
  rw [show (Y : Int) * 2 % 4294967296 = ((Y * 2 % 4294967296 : Nat) : Int) from by omega]
  exact congrArg _ (u32_xor_nat _ 517762881 (Nat.mod_lt _ (by omega)) (by omega))
theorem backN_lt (x n : Nat) : backN x n < 4294967296 := by
  induction n with
  | zero => show (0:Nat) < _; omega
  | succ n ih =>
    refine Nat.or_lt_two_pow (n := 32) ih ?_
    have h1 : x / 2 ^ n % 2 < 2 := Nat.mod_lt _ (by decide)
    have h2 : 2 ^ (31 - n) ≤ 2 ^ 31 := Nat.pow_le_pow_right (by omega) (by omega)
    have h3 : x / 2 ^ n % 2 * 2 ^ (31 - n) ≤ 1 * 2 ^ 31 := Nat.mul_le_mul (by omega) h2
    omega
theorem back_walk (X Y j : Nat) (hX : X < 4294967296) (hY : Y < 4294967296) : Value.int IntKind.u32 (bits BinOp.or IntKind.u32 (Y : Int) (bits BinOp.and IntKind.u32 ((X : Int) / 2 ^ j) 1 * 2 ^ (31 - j) % 4294967296)) = .int .u32 ((Y ||| X / 2 ^ j % 2 * 2 ^ (31 - j) : Nat) : Int) := by
  have e : ((X : Int) / 2 ^ j) = ((X / 2 ^ j : Nat) : Int) := by
    rw [Int.natCast_ediv, Int.natCast_pow]; rfl
  have hlt : X / 2 ^ j < 4294967296 := Nat.lt_of_le_of_lt (Nat.div_le_self _ _) hX
  have h1 := u32_and_nat (X / 2 ^ j) 1 hlt (by omega)
  rw [nat_mask1] at h1
  rw [e, show ((1 : Int)) = ((1 : Nat) : Int) from rfl, h1]
  have h3 : X / 2 ^ j % 2 * 2 ^ (31 - j) < 4294967296 := by
    have h1 : X / 2 ^ j % 2 < 2 := Nat.mod_lt _ (by decide)
    have h2 : 2 ^ (31 - j) ≤ 2 ^ 31 := Nat.pow_le_pow_right (by omega) (by omega)
    have h3 : X / 2 ^ j % 2 * 2 ^ (31 - j) ≤ 1 * 2 ^ 31 := Nat.mul_le_mul (by omega) h2
    omega
  have h2 : ((X / 2 ^ j % 2 : Nat) : Int) * 2 ^ (31 - j) % 4294967296 = ((X / 2 ^ j % 2 * 2 ^ (31 - j) : Nat) : Int) := by
    have e2 : ((X / 2 ^ j % 2 * 2 ^ (31 - j) : Nat) : Int) = ((X / 2 ^ j % 2 : Nat) : Int) * 2 ^ (31 - j) := by rw [Int.natCast_mul, Int.natCast_pow]; rfl
    rw [← e2]
    omega
  rw [h2]
  exact congrArg _ (u32_or_nat _ _ hY h3)
theorem lsbN_lt (n x : Nat) (h : x < 4294967296) : lsbN n x < 4294967296 := by
  induction n with
  | zero => exact h
  | succ n ih => exact lsb_lt _ ih
theorem tb (x i : Nat) : x.testBit i = decide (x / 2 ^ i % 2 = 1) := by
  rw [Nat.testBit_eq_decide_div_mod_eq]
theorem mod2_testBit (x : Nat) : x % 2 = (x.testBit 0).toNat := by
  rw [tb]; rcases Nat.mod_two_eq_zero_or_one x with e | e <;> simp [e]

def polyT (i : Nat) : Bool := Nat.testBit 2197175160 i
theorem poly_turn : ∀ i, i < 32 → Nat.testBit 2197175160 i = Nat.testBit 517762881 (31 - i) := by decide

theorem lsb_testBit (x i : Nat) : (lsb x).testBit i = ((x.testBit (i + 1)).xor (x.testBit 0 && Nat.testBit 2197175160 i)) := by
  unfold lsb
  rw [Nat.testBit_xor]
  have h1 : (x / 2).testBit i = x.testBit (i + 1) := by rw [Nat.testBit_succ]
  rw [h1]
  rcases Nat.mod_two_eq_zero_or_one x with e | e
  · have : x.testBit 0 = false := by rw [tb]; simp [e]
    simp [e, this]
  · have : x.testBit 0 = true := by rw [tb]; simp [e]
    simp [e, this]

theorem msb_testBit (x b i : Nat) (hx : x < 4294967296) (hb : b < 2) (hi : i < 32) : (msb x b).testBit i = (((decide (0 < i)) && x.testBit (i - 1)).xor ((x.testBit 31).xor (decide (b = 1)) && Nat.testBit 517762881 i)) := by
  have hs : (x * 2 % 4294967296).testBit i = ((decide (0 < i)) && x.testBit (i - 1)) := by
    rw [show (4294967296 : Nat) = 2 ^ 32 from rfl, Nat.testBit_mod_two_pow]
    cases i with
    | zero => simp [tb]
    | succ i =>
      rw [show x * 2 = 2 * x from Nat.mul_comm _ _, Nat.testBit_succ]
      simp [hi]
  have h31 : x / 2147483648 = (x.testBit 31).toNat := by
    rw [tb, show (2 : Nat) ^ 31 = 2147483648 from rfl]
    have : x / 2147483648 < 2 := by omega
    rcases (by omega : x / 2147483648 = 0 ∨ x / 2147483648 = 1) with e | e <;> simp [e]
  unfold msb
  rw [h31]
  rcases (by omega : b = 0 ∨ b = 1) with rfl | rfl <;> cases h : x.testBit 31 <;> simp [hs, Nat.testBit_xor]

/-- One bit fed to both. -/
theorem turned_step {x y b : Nat} (h : Turned x y) (hb : b < 2) : Turned (lsb (x ^^^ b)) (msb y b) := by
  obtain ⟨hx, hy, ht⟩ := h
  refine ⟨lsb_lt _ (Nat.xor_lt_two_pow (n := 32) hx (by omega)), msb_lt _ _, fun i hi => ?_⟩
  rw [lsb_testBit, msb_testBit y b (31 - i) hy hb (by omega), Nat.testBit_xor, Nat.testBit_xor, ht 0 (by omega), poly_turn i hi]
  have hb1 : b.testBit (i + 1) = false := by
    rw [tb]
    have : b / 2 ^ (i + 1) = 0 := Nat.div_eq_of_lt (Nat.lt_of_lt_of_le hb (by rw [Nat.pow_succ]; have := Nat.one_le_two_pow (n := i); omega))
    simp [this]
  have hb0 : b.testBit 0 = decide (b = 1) := by rw [tb]; rcases (by omega : b = 0 ∨ b = 1) with rfl | rfl <;> rfl
  rw [hb1, hb0, Bool.xor_false]
  congr 1
  by_cases h31 : i = 31
  · subst h31
    have : x.testBit 32 = false := Nat.testBit_lt_two_pow hx
    simp [this]
  · rw [ht (i + 1) (by omega)]
    have e : 31 - (i + 1) = 31 - i - 1 := by omega
    rw [e]
    have : 0 < 31 - i := by omega
    simp [this]

theorem lsb_xor2 (x d : Nat) : lsb (x ^^^ (2 * d)) = lsb x ^^^ d := by
  apply Nat.eq_of_testBit_eq
  intro i
  rw [lsb_testBit, Nat.testBit_xor, Nat.testBit_xor, Nat.testBit_xor, lsb_testBit]
  have h1 : (2 * d).testBit (i + 1) = d.testBit i := by rw [Nat.testBit_succ]; simp
  have h0 : (2 * d).testBit 0 = false := by rw [tb]; simp
  rw [h1, h0, Bool.xor_false]
  cases x.testBit (i + 1) <;> cases d.testBit i <;> simp

theorem lsbN_xor (n : Nat) : ∀ x c : Nat, ∃ z, z = lsbN n (x ^^^ c) ∧ ∀ y, Turned x y → Turned (z ^^^ (c / 2 ^ n)) (msbN c n y) := by
  induction n with
  | zero =>
    intro x c
    refine ⟨_, rfl, fun y h => ?_⟩
    have : x ^^^ c ^^^ c = x := by rw [Nat.xor_assoc, Nat.xor_self, Nat.xor_zero]
    simpa [lsbN, msbN, this] using h
  | succ n ih =>
    intro x c
    obtain ⟨z, hz, h⟩ := ih x c
    refine ⟨_, rfl, fun y hy => ?_⟩
    have h1 := turned_step (b := c / 2 ^ n % 2) (h y hy) (Nat.mod_lt _ (by decide))
    have e : lsb (z ^^^ (c / 2 ^ n) ^^^ (c / 2 ^ n % 2)) = lsbN (n + 1) (x ^^^ c) ^^^ (c / 2 ^ (n + 1)) := by
      show _ = lsb (lsbN n (x ^^^ c)) ^^^ _
      rw [← hz]
      have e2 : (c / 2 ^ n) ^^^ (c / 2 ^ n % 2) = 2 * (c / 2 ^ (n + 1)) := by
        rw [Nat.pow_succ, ← Nat.div_div_eq_div_mul]
        generalize c / 2 ^ n = m
        apply Nat.eq_of_testBit_eq
        intro i
        rw [Nat.testBit_xor]
        cases i with
        | zero => rw [tb, tb, tb]; simp
        | succ i =>
          rw [Nat.testBit_succ, Nat.testBit_succ (m % 2), Nat.testBit_succ (2 * (m / 2))]
          have : m % 2 / 2 = 0 := by omega
          simp [this]
      rw [Nat.xor_assoc, e2, lsb_xor2]
    rw [e] at h1
    exact h1

theorem turned_byte {x y : Nat} (c : UInt8) (h : Turned x y) : Turned (lsbByte x c) (msbByte y c) := by
  obtain ⟨z, hz, hh⟩ := lsbN_xor 8 x c.toNat
  have := hh y h
  have hc : c.toNat / 2 ^ 8 = 0 := Nat.div_eq_of_lt c.toNat_lt
  rw [hc, Nat.xor_zero, hz] at this
  exact this
theorem turned_all (l : List UInt8) : ∀ {x y : Nat}, Turned x y → Turned (lsbAll x l) (msbAll y l) := by
  induction l with
  | nil => intro x y h; exact h
  | cons c l ih => intro x y h; exact ih (turned_byte c h)

theorem backN_testBit (x n i : Nat) (hn : n ≤ 32) : (backN x n).testBit i = (decide (31 - i < n ∧ i < 32) && x.testBit (31 - i)) := by
  induction n with
  | zero => simp [backN]
  | succ n ih =>
    unfold backN
    rw [Nat.testBit_or, ih (by omega)]
    have e : (x / 2 ^ n % 2 * 2 ^ (31 - n)).testBit i = (decide (i = 31 - n) && x.testBit n) := by
      rw [tb x n]
      rcases Nat.mod_two_eq_zero_or_one (x / 2 ^ n) with e | e
      · simp [e]
      · rw [e, Nat.one_mul, Nat.testBit_two_pow]
        by_cases h : i = 31 - n
        · subst h; simp
        · have : ¬ 31 - n = i := fun hh => h hh.symm
          simp [h, this]
    rw [e]
    by_cases h : i = 31 - n
    · subst h
      have h2 : 31 - (31 - n) = n := by omega
      rw [h2]
      have h3 : ¬ n < n := by omega
      simp [h3]; intro; omega
    · by_cases hi : i < 32
      · have : (31 - i < n + 1) ↔ (31 - i < n) := by omega
        simp [h, this]
      · simp [h, hi]
theorem back_turned {x y : Nat} (h : Turned x y) : backN y 32 = x := by
  obtain ⟨hx, hy, ht⟩ := h
  apply Nat.eq_of_testBit_eq
  intro i
  rw [backN_testBit _ _ _ (Nat.le_refl _)]
  by_cases hi : i < 32
  · rw [ht i hi]
    have : 31 - i < 32 ∧ i < 32 := ⟨by omega, hi⟩
    simp [this]
  · have : x.testBit i = false := Nat.testBit_lt_two_pow (Nat.lt_of_lt_of_le hx (Nat.pow_le_pow_right (n := 2) (by omega) (by omega : 32 ≤ i)))
    simp [hi, this]
theorem turned_ones : Turned 4294967295 4294967295 := by
  refine ⟨by decide, by decide, fun i hi => ?_⟩
  have h : ∀ j, j < 32 → Nat.testBit 4294967295 j = true := by decide
  rw [h i hi, h (31 - i) (by omega)]
/-- The checksum, both ways. -/
def sumNat (l : List UInt8) : Nat := 4294967295 - lsbAll 4294967295 l
theorem sums_agree (l : List UInt8) : backN (msbAll 4294967295 l) 32 = lsbAll 4294967295 l := back_turned (turned_all l turned_ones)
theorem lsbAll_lt (l : List UInt8) : lsbAll 4294967295 l < 4294967296 := (turned_all l turned_ones).1
theorem msbAll_lt (l : List UInt8) : msbAll 4294967295 l < 4294967296 := (turned_all l turned_ones).2.1
theorem sumNat_lt (l : List UInt8) : sumNat l < 4294967296 := by unfold sumNat; omega
theorem msb_sum (l : List UInt8) : 4294967295 - backN (msbAll 4294967295 l) 32 = sumNat l := by rw [sums_agree]; rfl
end Go.Proofs.Ytncakjchaniheaa
namespace Go.Proofs.Ytncakjchaniheaa
open Go.RowKit
/-- The four bytes of a sum. -/
def fourL (x : Nat) : List UInt8 := [UInt8.ofNat x, UInt8.ofNat (x / 256), UInt8.ofNat (x / 65536), UInt8.ofNat (x / 16777216)]
def fourB (x : Nat) : ByteArray := ⟨(fourL x).toArray⟩
theorem four_cells (x : Nat) (hx : x < 4294967296) : (#[Value.int .u8 ((x : Int) % 256), .int .u8 ((x : Int) / 256 % 256), .int .u8 ((x : Int) / 65536 % 256), .int .u8 ((x : Int) / 16777216)] : Array Value).toList = byteCells (fourL x) := by
  have h0 : (x : Int) % 256 = ((UInt8.ofNat x).toNat : Int) := by rw [UInt8.toNat_ofNat']; omega
  have h1 : (x : Int) / 256 % 256 = ((UInt8.ofNat (x / 256)).toNat : Int) := by rw [UInt8.toNat_ofNat']; omega
  have h2 : (x : Int) / 65536 % 256 = ((UInt8.ofNat (x / 65536)).toNat : Int) := by rw [UInt8.toNat_ofNat']; omega
  have h3 : (x : Int) / 16777216 = ((UInt8.ofNat (x / 16777216)).toNat : Int) := by rw [UInt8.toNat_ofNat']; omega
  rw [h0, h1, h2, h3]
  rfl
theorem four_conv (x : Nat) (hx : x < 4294967296) (w : World) :
    (convert 40 9 (.slice (some ⟨w.heap.size, 0, none⟩) 4 4)).run Try.prog (w.alloc (.cells #[Value.int .u8 ((x : Int) % 256), .int .u8 ((x : Int) / 256 % 256), .int .u8 ((x : Int) / 65536 % 256), .int .u8 ((x : Int) / 16777216)] 5)) =
      .ok (.string (fourB x)) (w.alloc (.cells #[Value.int .u8 ((x : Int) % 256), .int .u8 ((x : Int) / 256 % 256), .int .u8 ((x : Int) / 65536 % 256), .int .u8 ((x : Int) / 16777216)] 5)) :=
  run_bytes_string _ Try.underlying40 Try.underlying5 Try.underlying9 (A := some ⟨w.heap.size, 0, none⟩) (n := 4) (c := 4) (B := w.heap.size + 1) (l := fourL x)
    (by rw [← four_cells x hx]; exact Rd.new_ (n := 4) (size := 1) w _ _ (Nat.lt_succ_self _) rfl)
/-- Right: the last four bytes are the sum of the others. -/
def rightB (s : ByteArray) : Bool := decide (4 ≤ s.size) && ((fourB (sumNat (L (s.extract 0 (s.size - 4))))).toList == (s.extract (s.size - 4) s.size).toList)
theorem right_more (s : ByteArray) (h : 4 < s.size) : rightB s = ((fourB (sumNat (L (s.extract 0 (s.size - 4))))).toList == (s.extract (s.size - 4) s.size).toList) := by
  unfold rightB; simp; omega
theorem right_four (s : ByteArray) (h : s.size = 4) : rightB s = ((fourB (sumNat (L ByteArray.empty))).toList == (s.extract 0 4).toList) := by
  unfold rightB; rw [h]
  have : s.extract 0 (4 - 4) = ByteArray.empty := by simp
  rw [this]; simp
theorem right_less (s : ByteArray) (h : s.size < 4) : rightB s = false := by
  unfold rightB; simp; omega
end Go.Proofs.Ytncakjchaniheaa
