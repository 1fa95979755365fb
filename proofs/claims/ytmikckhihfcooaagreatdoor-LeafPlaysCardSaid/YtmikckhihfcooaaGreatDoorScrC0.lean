/- Numerals: what Trim and Atoi answer there (plain), and their calls. -/
import Derived.Test.YtmikckhihfcooaaGreatDoorShelf
import Derived.Test.YtmikckhihfcooaaGreatDoorScr1
import Derived.Test.YtmikckhihfcooaaGreatDoorCdpB
namespace Go.Proofs.YtmikckhihfcooaaGreatDoor
open Go.RowKit
def digs : List UInt8 := [48, 49, 50, 51, 52, 53, 54, 55, 56, 57]
def digB : ByteArray := ⟨#[48, 49, 50, 51, 52, 53, 54, 55, 56, 57]⟩
def isDg (b : UInt8) : Bool := decide (48 ≤ b.toNat ∧ b.toNat ≤ 57)
set_option maxRecDepth 100000 in
theorem dg_in (b : UInt8) : digs.contains b = isDg b := by
  have h : ∀ n : Fin 256, digs.contains (UInt8.ofNat n.val) = isDg (UInt8.ofNat n.val) := by decide
  have := h ⟨b.toNat, b.toNat_lt⟩
  simpa using this
theorem trim_digs (w : List UInt8) : Lib.trimS w digs = [] ↔ w.all isDg = true := by
  have e : (fun b => digs.contains b) = isDg := funext dg_in
  unfold Lib.trimS Lib.trimLeftS Lib.trimRightS
  rw [e, dropWhile_nil, List.all_reverse]
  constructor
  · intro h
    have h2 : (w.reverse.dropWhile isDg) = [] := by
      cases h3 : w.reverse.dropWhile isDg with
      | nil => rfl
      | cons a r =>
        exfalso
        rw [h3, List.all_cons, Bool.and_eq_true] at h
        have := List.head?_dropWhile_not isDg w.reverse
        rw [h3] at this
        simp [h.1] at this
    have h3 := dropWhile_nil.1 h2
    rwa [List.all_reverse] at h3
  · intro h
    have h2 : w.reverse.all isDg = true := by rw [List.all_reverse]; exact h
    rw [dropWhile_nil.2 h2]; rfl
theorem dec_all : ∀ (w : List UInt8) (acc : Nat), (w.all isDg = true → ∃ v, Lib.decFrom acc w = some v) ∧ (w.all isDg = false → Lib.decFrom acc w = none) := by
  intro w
  induction w with
  | nil => intro acc; exact ⟨fun _ => ⟨acc, rfl⟩, fun h => by cases h⟩
  | cons b w ih =>
    intro acc
    rw [Lib.decFrom]
    unfold Lib.digitVal
    rw [List.all_cons]
    by_cases h : 48 ≤ b.toNat ∧ b.toNat ≤ 57
    · rw [if_pos h, show isDg b = true from decide_eq_true h]
      simp only [Bool.true_and]
      exact ih _
    · rw [if_neg h, show isDg b = false from decide_eq_false h]
      simp
theorem valNum_bad {a : List UInt8} (h : okNum a = false ∨ a.all isDg = false) : valNum a = none := by
  unfold valNum
  rcases h with h | h
  · rw [h]; rfl
  · split
    · exact (dec_all a 0).2 h
    · rfl
theorem okNum_1 : okNum [] = false := by decide
theorem okNum_2 {a : List UInt8} (h : 3 < a.length) : okNum a = false := decide_eq_false fun h2 => by omega
theorem okNum_3 {a : List UInt8} (h : a.getD 0 0 = 48) (h1 : 1 < a.length) : okNum a = false := decide_eq_false fun h2 => h2.2.2 ⟨h, h1⟩
theorem okNum_4 {a : List UInt8} (h0 : a.length ≠ 0) (h1 : a.length ≤ 3) (h : ¬ (a.getD 0 0 = 48 ∧ 1 < a.length)) : okNum a = true := decide_eq_true ⟨h0, h1, h⟩
theorem dec_small : ∀ (w : List UInt8) (acc v : Nat), Lib.decFrom acc w = some v → v < (acc + 1) * 10 ^ w.length := by
  intro w
  induction w with
  | nil => intro acc v h; simp [Lib.decFrom] at h; subst h; simp
  | cons b w ih =>
    intro acc v h
    rw [Lib.decFrom] at h
    cases hd : Lib.digitVal b with
    | none => rw [hd] at h; cases h
    | some d =>
      rw [hd] at h
      obtain ⟨_, h1, h2⟩ := dig48 hd
      have := ih _ _ h
      rw [List.length_cons, Nat.pow_succ, Nat.mul_comm (10 ^ w.length) 10, ← Nat.mul_assoc]
      exact Nat.lt_of_lt_of_le this (Nat.mul_le_mul_right _ (by omega))
theorem valNum_small {a : List UInt8} {v : Nat} (h : valNum a = some v) : v ≤ 999 := by
  unfold valNum at h
  split at h
  · rename_i ho
    have h1 := dec_small _ _ _ h
    have h2 := of_decide_eq_true ho
    have h3 : 10 ^ a.length ≤ 10 ^ 3 := Nat.pow_le_pow_right (by omega) h2.2.1
    have h4 : (0 + 1) * 10 ^ a.length ≤ 1000 := by omega
    omega
  · cases h
theorem atoi_dig {a : List UInt8} {v : Nat} (hd : a.all isDg = true) (h0 : a.length ≠ 0) (h : Lib.decFrom 0 a = some v) : Lib.atoi a = some (v : Int) := by
  cases a with
  | nil => exact absurd rfl h0
  | cons b r =>
    rw [List.all_cons, Bool.and_eq_true] at hd
    have hb := of_decide_eq_true hd.1
    have h45 : (b == 45) = false := by rw [beq_eq_false_iff_ne]; intro e; subst e; exact absurd hb.1 (by decide)
    have h43 : (b == 43) = false := by rw [beq_eq_false_iff_ne]; intro e; subst e; exact absurd hb.1 (by decide)
    unfold Lib.atoi
    simp only
    rw [h45, h43]
    simp only [Bool.false_eq_true, if_false]
    have : Lib.decNat (b :: r) = some v := h
    rw [this]; rfl
theorem trim_digits (X : ByteArray) (hX : X.size ≤ 9223372036854775807) (W : World) :
    Calls Tryz.prog 60 #[.string X, .string ⟨#[48, 49, 50, 51, 52, 53, 54, 55, 56, 57]⟩] W fun e W' => e = .returned (.string (S (Lib.trimS (L X) digs))) ∧ Below W.heap.size W W' :=
  Any.strings_Trim_laid Tryz.lays160 (by kernel_rfl) X ⟨#[48, 49, 50, 51, 52, 53, 54, 55, 56, 57]⟩ W (by omega) (by decide) (ascii_of_all (by decide))
end Go.Proofs.YtmikckhihfcooaaGreatDoor
