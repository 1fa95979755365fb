/- code.Make. -/
import Derived.Test.YtllcmmpepchieaaCodeB
import Derived.Test.YtllcmmpepchieaaCode1
import Derived.Test.YtllcmmpepchieaaStrC
namespace Go.Proofs.Ytllcmmpepchieaa
open Go.RowKit
def nInts (ns : List Nat) : List Int := ns.map fun (n : Nat) => (n : Int)
theorem share_nat (m : Nat) (h : m ≤ 12) : share (m : Int) = ((2 ^ (12 - m) : Nat) : Int) := by
  unfold share
  rw [show (12 - (m : Int)).toNat = 12 - m by omega, Int.natCast_pow]; rfl
theorem lensGo_nat {l : List Int} : ∀ {s x : Int}, lensGo s l = (x, 0) → ∃ ns : List Nat, l = nInts ns ∧ (∀ m ∈ ns, 1 ≤ m ∧ m ≤ 12) ∧ x = s + (total ns : Nat) := by
  induction l with
  | nil =>
    intro s x h
    simp only [lensGo, Prod.mk.injEq] at h
    exact ⟨[], rfl, by simp, by simp [total, h.1]⟩
  | cons n r ih =>
    intro s x h
    rw [lensGo] at h
    by_cases hn : n < 1 ∨ 12 < n
    · rw [if_pos hn] at h; simp at h
    · rw [if_neg hn] at h
      obtain ⟨m, rfl⟩ := Int.eq_ofNat_of_zero_le (show 0 ≤ n by omega)
      obtain ⟨ns, rfl, h1, h2⟩ := ih h
      refine ⟨m :: ns, rfl, ?_, ?_⟩
      · intro y hy
        rcases List.mem_cons.1 hy with rfl | hy
        · omega
        · exact h1 y hy
      · rw [h2, share_nat m (by omega)]
        simp only [total]
        omega
theorem lensErr_nat {l : List Int} {x : Int} (h : lensErr l = (x, 0)) : ∃ ns : List Nat, l = nInts ns ∧ (∀ m ∈ ns, 1 ≤ m ∧ m ≤ 12) ∧ ns.length ≤ 12 ∧ x = (total ns : Nat) := by
  unfold lensErr at h
  by_cases h12 : 12 < l.length
  · rw [if_pos h12] at h; simp at h
  · rw [if_neg h12] at h
    obtain ⟨ns, rfl, h1, h2⟩ := lensGo_nat h
    exact ⟨ns, rfl, h1, by simpa [nInts] using h12, by omega⟩
theorem nInts_len (ns : List Nat) : (nInts ns).length = ns.length := by simp [nInts]
theorem nInts_get (ns : List Nat) (k : Nat) (h : k < (nInts ns).length) : (nInts ns)[k] = ((ns.getD k 0 : Nat) : Int) := by
  have h2 : k < ns.length := by rwa [nInts_len] at h
  simp [nInts, List.getD_eq_getElem?_getD, List.getElem?_eq_getElem h2]
theorem pow_shr (n : Nat) (h : n ≤ 12) : (12 - (n : Int)).toNat = 12 - n := by omega
theorem made_one (z : Value) (hz : z.cells = #[z]) (m : Nat) : (madeCells z.cells (m * 1)).toList = List.replicate m z := by
  rw [hz]
  apply List.ext_getElem
  · simp [size_madeCells]
  · intro j h1 h2
    simp [madeCells, Nat.mod_one]
theorem pw_bd (n : Nat) : 1 ≤ 2 ^ (12 - n) ∧ 2 ^ (12 - n) ≤ 4096 := ⟨Nat.one_le_two_pow, Nat.le_trans (Nat.pow_le_pow_right (by omega) (Nat.sub_le _ _)) (by decide)⟩
theorem pw_add (a n : Nat) (h : a ≤ 4096) : wrap64 ((a : Int) + wrap64 (2 ^ (12 - n))) = ((a + 2 ^ (12 - n) : Nat) : Int) := by
  have hp := pw_bd n
  have e : (2 : Int) ^ (12 - n) = ((2 ^ (12 - n) : Nat) : Int) := by rw [Int.natCast_pow]; rfl
  rw [e, IntWalk.wrap64_in ((2 ^ (12 - n) : Nat) : Int) ⟨by omega, by omega⟩, IntWalk.wrap64_in _ ⟨by omega, by omega⟩]; omega
theorem div_cast (a n : Nat) : (a : Int) / 2 ^ n = ((a / 2 ^ n : Nat) : Int) := by rw [Int.natCast_ediv, Int.natCast_pow]; rfl
end Go.Proofs.Ytllcmmpepchieaa
