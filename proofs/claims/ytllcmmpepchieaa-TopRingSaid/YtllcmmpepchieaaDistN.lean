/- dist.Near and dist.Swaps. -/
import Derived.Test.YtllcmmpepchieaaDistO
import Derived.Test.YtllcmmpepchieaaOwn2
import Derived.Test.YtllcmmpepchieaaLogW
namespace Go.Proofs.Ytllcmmpepchieaa
open Go.RowKit
/-- The places of the words that are near, of the first k. -/
def nearAt (a : List UInt8) (most : Int) (l : List (List UInt8)) (k : Nat) : List Int := ((List.range k).filter fun i => decide (((lev a (l.getD i []) : Nat) : Int) ≤ most)).map fun (i : Nat) => (i : Int)
theorem nearAt_zero (a : List UInt8) (most : Int) (l : List (List UInt8)) : nearAt a most l 0 = [] := rfl
theorem nearAt_hit {a : List UInt8} {most : Int} {l : List (List UInt8)} {k : Nat} (h : ((lev a (l.getD k []) : Nat) : Int) ≤ most) : nearAt a most l (k + 1) = nearAt a most l k ++ [(k : Int)] := by
  have e : List.filter (fun i => decide (((lev a (l.getD i []) : Nat) : Int) ≤ most)) [k] = [k] := List.filter_cons_of_pos (decide_eq_true h)
  unfold nearAt; rw [List.range_succ, List.filter_append, List.map_append, e]; rfl
theorem nearAt_miss {a : List UInt8} {most : Int} {l : List (List UInt8)} {k : Nat} (h : ¬ ((lev a (l.getD k []) : Nat) : Int) ≤ most) : nearAt a most l (k + 1) = nearAt a most l k := by
  have e : List.filter (fun i => decide (((lev a (l.getD i []) : Nat) : Int) ≤ most)) [k] = [] := List.filter_cons_of_neg (by show ¬ (decide _ = true); rw [decide_eq_true_iff]; exact h)
  unfold nearAt; rw [List.range_succ, List.filter_append, List.map_append, e]; simp
theorem nearAt_len (a : List UInt8) (most : Int) (l : List (List UInt8)) (k : Nat) : (nearAt a most l k).length ≤ k := by
  unfold nearAt; rw [List.length_map]; exact Nat.le_trans (List.length_filter_le _ _) (by simp)
theorem ints_app (l m : List Int) : ints (l ++ m) = ints l ++ ints m := by simp [ints]
def nearErr (s : ByteArray) (l : List (List UInt8)) : Int := if 200 < s.size ∨ 200 < l.length ∨ ∃ x ∈ l, 200 < x.length then 2 else 0
/-- In how many of the first k places two texts are unlike. -/
def ham (a b : List UInt8) : Nat → Nat
  | 0 => 0
  | k + 1 => ham a b k + if a.getD k 0 = b.getD k 0 then 0 else 1
theorem ham_le (a b : List UInt8) (k : Nat) : ham a b k ≤ k := by
  induction k with
  | zero => exact Nat.le_refl _
  | succ k ih => rw [ham]; split <;> omega
end Go.Proofs.Ytllcmmpepchieaa
