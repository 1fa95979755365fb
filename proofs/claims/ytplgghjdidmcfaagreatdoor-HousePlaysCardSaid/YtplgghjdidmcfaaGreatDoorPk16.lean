/- code.Sum, the reference's LensErr, code.bits. code.bits. The words that are made for lengths, in order. No program in sight. -/
import Derived.Test.YtplgghjdidmcfaaGreatDoorPk15
import Derived.Test.YtplgghjdidmcfaaGreatDoorPk04
import Derived.Test.YtplgghjdidmcfaaGreatDoorPk03
import Derived.Test.YtplgghjdidmcfaaGreatDoorPk05
namespace Go.Proofs.YtplgghjdidmcfaaGreatDoor
open Go.RowKit
/-- The size of a word's share. -/
def share (n : Int) : Int := 2 ^ (12 - n).toNat
def lensGo : Int → List Int → Int × Int
  | s, [] => (s, 0)
  | s, n :: r => if n < 1 ∨ 12 < n then (0, 1) else lensGo (s + share n) r
def lensErr (l : List Int) : Int × Int := if 12 < l.length then (0, 2) else lensGo 0 l
theorem twelve {p : Int → Prop} {n : Int} (h0 : 1 ≤ n) (h1 : n ≤ 12) (h : ∀ k : Fin 12, p ((k.val : Int) + 1)) : p n := by
  have := h ⟨(n - 1).toNat, by omega⟩
  rwa [show (((n - 1).toNat : Int) + 1) = n by omega] at this
theorem share_bd (n : Int) (h0 : 1 ≤ n) (h1 : n ≤ 12) : 1 ≤ share n ∧ share n ≤ 2048 := twelve (p := fun n => 1 ≤ share n ∧ share n ≤ 2048) h0 h1 (by decide)
theorem share_shr (n : Int) (h0 : 1 ≤ n) (h1 : n ≤ 12) : (4096 : Int) / 2 ^ n.toNat = share n := twelve (p := fun n => (4096 : Int) / 2 ^ n.toNat = share n) h0 h1 (by decide)
theorem int_cell {w : World} {B n : Nat} {A : Option Addr} {l : List Int} (h : Rd w B 1 A n (ints l)) {k : Nat} (hk : k < n) : ∃ ad, ∃ hl : k < l.length, A = some ad ∧ ad.block < B ∧ w.cell? (ad.add k) = some (.int .i64 l[k]) := by
  obtain ⟨ad, u, hA, hb, hu, hc⟩ := h.at_ hk
  obtain ⟨x, hx, rfl⟩ := ints_at hu
  obtain ⟨hl, rfl⟩ := List.getElem?_eq_some_iff.1 hx
  exact ⟨ad, hl, hA, hb, hc⟩
theorem ints_len {w : World} {B n : Nat} {A : Option Addr} {l : List Int} (h : Rd w B 1 A n (ints l)) : l.length = n := by
  have := h.1; simpa [ints] using this
end Go.Proofs.YtplgghjdidmcfaaGreatDoor
namespace Go.Proofs.YtplgghjdidmcfaaGreatDoor
open Go.RowKit
theorem ofInt_64 (a : Nat) (ha : a < 4096) : (BitVec.ofInt 64 (a : Int)).toNat = a := by
  rw [BitVec.ofInt_natCast, BitVec.toNat_ofNat]; exact Nat.mod_eq_of_lt (by omega)
theorem i64_and_nat (a b : Nat) (ha : a < 4096) (hb : b < 4096) : bits .and .i64 (a : Int) (b : Int) = ((a &&& b : Nat) : Int) := by
  have hx : a &&& b < 2 ^ 12 := Nat.and_lt_two_pow _ (by omega)
  show IntKind.i64.wrap ((BitVec.ofInt 64 (a : Int) &&& BitVec.ofInt 64 (b : Int)).toNat : Int) = _
  rw [BitVec.toNat_and, ofInt_64 a ha, ofInt_64 b hb, IntWalk.i64_in _ (by omega)]
theorem bw_step (x j : Nat) : bw x (j + 1) = UInt8.ofNat (48 + x / 2 ^ j % 2) :: bw x j := rfl
theorem rune0 (W : World) : (convert 21 9 (.int .i32 48)).run Tryz.prog W = .ok (.string (S [48])) W := by kernel_rfl
theorem rune1 (W : World) : (convert 21 9 (.int .i32 49)).run Tryz.prog W = .ok (.string (S [49])) W := by kernel_rfl
end Go.Proofs.YtplgghjdidmcfaaGreatDoor
namespace Go.Proofs.YtplgghjdidmcfaaGreatDoor
/-- What the words before (n, i) take. -/
def nxF (n i : Nat) : Nat → List Nat → Nat
  | _, [] => 0
  | j, m :: r => (if m < n ∨ (m = n ∧ j < i) then 2 ^ (12 - m) else 0) + nxF n i (j + 1) r
def nx (ns : List Nat) (n i : Nat) : Nat := nxF n i 0 ns
def total : List Nat → Nat
  | [] => 0
  | m :: r => 2 ^ (12 - m) + total r
theorem nxF_succ (n i : Nat) (ns : List Nat) : ∀ j, nxF n (i + 1) j ns = nxF n i j ns + if j ≤ i ∧ ns[i - j]? = some n then 2 ^ (12 - n) else 0 := by
  induction ns with
  | nil => intro j; simp [nxF]
  | cons m r ih =>
    intro j
    simp only [nxF, ih (j + 1)]
    by_cases hj : j = i
    · subst hj
      have h1 : ¬ (j + 1 ≤ j ∧ r[j - (j + 1)]? = some n) := fun h => by omega
      have h3 : (m :: r)[j - j]? = some m := by rw [Nat.sub_self]; rfl
      rw [if_neg h1, h3]
      by_cases hm : m = n
      · subst hm
        rw [if_pos (.inr ⟨rfl, by omega⟩), if_neg (by omega), if_pos ⟨Nat.le_refl _, rfl⟩]
        omega
      · rw [if_neg (fun h : j ≤ j ∧ some m = some n => hm (by injection h.2))]
        by_cases hmn : m < n
        · rw [if_pos (.inl hmn), if_pos (.inl hmn)]; omega
        · rw [if_neg (by omega), if_neg (by omega)]; omega
    · by_cases hji : j < i
      · have e : i - j = (i - (j + 1)) + 1 := by omega
        rw [e, List.getElem?_cons_succ]
        have h2 : (m < n ∨ (m = n ∧ j < i + 1)) ↔ (m < n ∨ (m = n ∧ j < i)) := by omega
        have h4 : (j + 1 ≤ i ∧ r[i - (j + 1)]? = some n) ↔ (j ≤ i ∧ r[i - (j + 1)]? = some n) := by
          constructor <;> rintro ⟨a, b⟩ <;> exact ⟨by omega, b⟩
        simp only [h2, h4]
        omega
      · rw [if_neg (fun h => by omega : ¬ (j + 1 ≤ i ∧ _)), if_neg (fun h => by omega : ¬ (j ≤ i ∧ _))]
        have h2 : (m < n ∨ (m = n ∧ j < i + 1)) ↔ (m < n ∨ (m = n ∧ j < i)) := by omega
        simp only [h2]
        omega
theorem nx_hit {ns : List Nat} {n i : Nat} (h : ns[i]? = some n) : nx ns n (i + 1) = nx ns n i + 2 ^ (12 - n) := by
  unfold nx; rw [nxF_succ, if_pos ⟨Nat.zero_le _, by simpa using h⟩]
theorem nx_miss {ns : List Nat} {n i : Nat} (h : ns[i]? ≠ some n) : nx ns n (i + 1) = nx ns n i := by
  unfold nx; rw [nxF_succ, if_neg (fun hh => h (by simpa using hh.2))]; omega
theorem nx_next (ns : List Nat) (n : Nat) : nx ns (n + 1) 0 = nx ns n ns.length := by
  have key : ∀ (ns : List Nat) j k, j + ns.length ≤ k → nxF (n + 1) 0 j ns = nxF n k j ns := by
    intro ns
    induction ns with
    | nil => intros; rfl
    | cons m r ih =>
      intro j k hk
      simp only [List.length_cons] at hk
      simp only [nxF]
      rw [ih (j + 1) k (by omega)]
      congr 1
      have h2 : (m < n + 1 ∨ (m = n + 1 ∧ j < 0)) ↔ (m < n ∨ (m = n ∧ j < k)) := by omega
      simp only [h2]
  exact key ns 0 _ (by omega)
theorem nx_one {ns : List Nat} (h : ∀ m ∈ ns, 1 ≤ m) : nx ns 1 0 = 0 := by
  have key : ∀ (ns : List Nat), (∀ m ∈ ns, 1 ≤ m) → ∀ j, nxF 1 0 j ns = 0 := by
    intro ns
    induction ns with
    | nil => intros; rfl
    | cons m r ih =>
      intro h j
      have := h m (by simp)
      simp only [nxF]
      rw [if_neg (by omega), ih (fun x hx => h x (by simp [hx]))]
  exact key ns h 0
theorem nx_le (ns : List Nat) (n i : Nat) : nx ns n i ≤ total ns := by
  have key : ∀ (ns : List Nat) j, nxF n i j ns ≤ total ns := by
    intro ns
    induction ns with
    | nil => intros; exact Nat.le_refl _
    | cons m r ih =>
      intro j
      have := ih (j + 1)
      have hp : 0 < 2 ^ (12 - m) := Nat.two_pow_pos _
      simp only [nxF, total]
      split <;> omega
  exact key ns 0
theorem nx_dvd {ns : List Nat} {n i : Nat} (hn : n ≤ 12) : 2 ^ (12 - n) ∣ nx ns n i := by
  have key : ∀ (ns : List Nat) j, 2 ^ (12 - n) ∣ nxF n i j ns := by
    intro ns
    induction ns with
    | nil => intro j; exact Nat.dvd_zero _
    | cons m r ih =>
      intro j
      simp only [nxF]
      refine Nat.dvd_add ?_ (ih _)
      split
      · exact Nat.pow_dvd_pow 2 (by omega)
      · exact Nat.dvd_zero _
  exact key ns 0
/-- The word at a place. -/
def wdAt (ns : List Nat) (j : Nat) : List UInt8 := bw (nx ns (ns.getD j 0) j / 2 ^ (12 - ns.getD j 0)) (ns.getD j 0)
def codesL (ns : List Nat) : List (List UInt8) := (List.range ns.length).map (wdAt ns)
/-- What has been laid down before (n, i). -/
def outAt (ns : List Nat) (n i : Nat) : List (List UInt8) := (List.range ns.length).map fun j => if ns.getD j 0 < n ∨ (ns.getD j 0 = n ∧ j < i) then wdAt ns j else []
theorem outAt_len (ns : List Nat) (n i : Nat) : (outAt ns n i).length = ns.length := by simp [outAt]
theorem outAt_hit {ns : List Nat} {n i : Nat} (hn : ns.getD i 0 = n) : outAt ns n (i + 1) = (outAt ns n i).set i (wdAt ns i) := by
  apply List.ext_getElem
  · simp [outAt]
  · intro j h1 h2
    simp only [outAt, List.getElem_map, List.getElem_range, List.getElem_set]
    by_cases hij : i = j
    · subst hij; rw [if_pos rfl, if_pos (.inr ⟨hn, by omega⟩)]
    · rw [if_neg hij]
      have : (ns.getD j 0 < n ∨ (ns.getD j 0 = n ∧ j < i + 1)) ↔ (ns.getD j 0 < n ∨ (ns.getD j 0 = n ∧ j < i)) := by omega
      simp only [this]
theorem outAt_miss {ns : List Nat} {n i : Nat} (hn : ns.getD i 0 ≠ n) : outAt ns n (i + 1) = outAt ns n i := by
  apply List.ext_getElem
  · simp [outAt]
  · intro j h1 h2
    simp only [outAt, List.getElem_map, List.getElem_range]
    have : (ns.getD j 0 < n ∨ (ns.getD j 0 = n ∧ j < i + 1)) ↔ (ns.getD j 0 < n ∨ (ns.getD j 0 = n ∧ j < i)) := by
      by_cases hij : j = i
      · subst hij; omega
      · omega
    simp only [this]
theorem outAt_next (ns : List Nat) (n : Nat) : outAt ns (n + 1) 0 = outAt ns n ns.length := by
  apply List.ext_getElem
  · simp [outAt]
  · intro j h1 h2
    have hj : j < ns.length := by simpa [outAt] using h1
    simp only [outAt, List.getElem_map, List.getElem_range]
    have : (ns.getD j 0 < n + 1 ∨ (ns.getD j 0 = n + 1 ∧ j < 0)) ↔ (ns.getD j 0 < n ∨ (ns.getD j 0 = n ∧ j < ns.length)) := by omega
    simp only [this]
theorem outAt_one {ns : List Nat} (h : ∀ m ∈ ns, 1 ≤ m) : outAt ns 1 0 = List.replicate ns.length [] := by
  apply List.ext_getElem
  · simp [outAt]
  · intro j h1 h2
    have hj : j < ns.length := by simpa [outAt] using h1
    simp only [outAt, List.getElem_map, List.getElem_range, List.getElem_replicate]
    have hm : 1 ≤ ns.getD j 0 := by
      rw [List.getD_eq_getElem?_getD, List.getElem?_eq_getElem hj]
      exact h _ (List.getElem_mem hj)
    rw [if_neg (by omega)]
theorem outAt_end {ns : List Nat} (h : ∀ m ∈ ns, m ≤ 12) : outAt ns 13 0 = codesL ns := by
  apply List.ext_getElem
  · simp [outAt, codesL]
  · intro j h1 h2
    have hj : j < ns.length := by simpa [outAt] using h1
    simp only [outAt, codesL, List.getElem_map, List.getElem_range]
    have hm : ns.getD j 0 ≤ 12 := by
      rw [List.getD_eq_getElem?_getD, List.getElem?_eq_getElem hj]
      exact h _ (List.getElem_mem hj)
    rw [if_pos (.inl (by omega))]
end Go.Proofs.YtplgghjdidmcfaaGreatDoor
