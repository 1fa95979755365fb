/- word.Root and the document's root. -/
import Derived.Test.YtllcmmpepchieaaWord2

namespace Go.Proofs.Ytllcmmpepchieaa
open Go.RowKit
theorem pI_all (s : List UInt8) : pI s (s.length + 1) = (perAll s).map Int.ofNat := rfl
theorem rootN_hit {s : List UInt8} {k : Nat} (hk : k < (perAll s).length) (hn : ∀ j (h : j < (perAll s).length), j < k → s.length % (perAll s)[j] ≠ 0) (h0 : s.length % (perAll s)[k] = 0) : rootN s = (perAll s)[k] := by
  unfold rootN
  generalize perAll s = P at *
  have e : P = P.take k ++ P[k] :: P.drop (k + 1) := by
    rw [← List.drop_eq_getElem_cons hk, List.take_append_drop]
  have := rootF_hit s P[k] (P.drop (k + 1)) h0 (P.take k) fun q hq => by
    obtain ⟨j, hj, rfl⟩ := List.getElem_of_mem hq
    rw [List.length_take] at hj
    rw [List.getElem_take]
    exact hn j (by omega) (by omega)
  rw [← e] at this
  exact this
theorem rootN_miss {s : List UInt8} (hn : ∀ j (h : j < (perAll s).length), s.length % (perAll s)[j] ≠ 0) : rootN s = 0 := by
  unfold rootN
  refine rootF_miss s _ fun q hq => ?_
  obtain ⟨j, hj, rfl⟩ := List.getElem_of_mem hq
  exact hn j hj
theorem wrap_div {a b : Nat} (h : a ≤ 200) : wrap64 ((a : Int) / (b : Int)) = ((a / b : Nat) : Int) := by
  have : a / b ≤ a := Nat.div_le_self _ _
  rw [show (a : Int) / (b : Int) = ((a / b : Nat) : Int) from rfl]
  generalize a / b = q at *
  rw [IntWalk.wrap64_in _ ⟨by omega, by omega⟩]
theorem tmod_nat (a b : Nat) : Int.tmod (a : Int) (b : Int) = ((a % b : Nat) : Int) := by
  rw [Int.tmod_eq_emod_of_nonneg (by omega)]; omega
theorem tdiv_nat (a b : Nat) : Int.tdiv (a : Int) (b : Int) = ((a / b : Nat) : Int) := by
  rw [Int.tdiv_eq_ediv_of_nonneg (by omega)]; omega
end Go.Proofs.Ytllcmmpepchieaa
