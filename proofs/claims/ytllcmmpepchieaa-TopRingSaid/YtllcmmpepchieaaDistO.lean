/- same.Check, dist.Of and dist.Swaps. -/
import Derived.Test.YtllcmmpepchieaaTab
import Derived.Test.YtllcmmpepchieaaDist0
import Derived.Test.YtllcmmpepchieaaWordC
import Derived.BigRegion
namespace Go.Proofs.Ytllcmmpepchieaa
open Go.RowKit
theorem long2 (s t : ByteArray) : longAll [s, t] = if 200 < s.size ∨ 200 < t.size then 2 else 0 := by simp [longAll]
theorem getD_set (l : List Int) (k j : Nat) (v : Int) (h : k < l.length) : (l.set k v).getD j 0 = if j = k then v else l.getD j 0 := by
  rw [List.getD_eq_getElem?_getD, List.getD_eq_getElem?_getD, List.getElem?_set]
  by_cases hj : j = k
  · subst hj; simp [h]
  · have : ¬ k = j := fun e => hj e.symm
    simp [hj, this]
/-- How far the beginnings are. -/
def levT (s t : ByteArray) (i k : Nat) : Nat := lev ((L s).take i) ((L t).take k)
theorem take_byte (s : ByteArray) (k : Nat) (h : k < s.size) : (L s).take (k + 1) = (L s).take k ++ [s[k]] := by
  rw [List.take_succ_eq_append_getElem (by rw [L_len]; exact h), getB s k h, List.getD_eq_getElem?_getD, List.getElem?_eq_getElem (by rw [L_len]; exact h)]; rfl
theorem levT_step (s t : ByteArray) (i k : Nat) (hi : i < s.size) (hk : k < t.size) : levT s t (i + 1) (k + 1) = min (levT s t i k + if s[i] = t[k] then 0 else 1) (min (levT s t (i + 1) k + 1) (levT s t i (k + 1) + 1)) := by
  unfold levT; rw [take_byte s i hi, take_byte t k hk, lev_snoc]
theorem levT_zero_left (s t : ByteArray) (k : Nat) (hk : k ≤ t.size) : levT s t 0 k = k := by
  unfold levT; rw [List.take_zero, lev_nil_left, List.length_take, L_len]; omega
theorem levT_zero_right (s t : ByteArray) (i : Nat) (hi : i ≤ s.size) : levT s t i 0 = i := by
  unfold levT; rw [List.take_zero, lev_nil_right, List.length_take, L_len]; omega
theorem levT_all (s t : ByteArray) : levT s t s.size t.size = lev (L s) (L t) := by
  unfold levT; rw [List.take_of_length_le (by rw [L_len]; exact Nat.le_refl _), List.take_of_length_le (by rw [L_len]; exact Nat.le_refl _)]
theorem levT_le (s t : ByteArray) (i k : Nat) : levT s t i k ≤ s.size + t.size := by
  have := lev_len ((L s).take i) ((L t).take k)
  simp only [List.length_take, L_len] at this
  unfold levT; omega
/-- Where the inner loop stands: k places of the row are new. -/
structure OfIn (s t : ByteArray) (wr : World) (base g i k : Nat) (l : List Int) : Prop where
  row : ArrI wr base g (t.size + 1) l
  new : ∀ j, j ≤ k → l.getD j 0 = (levT s t (i + 1) j : Nat)
  old : ∀ j, k < j → j ≤ t.size → l.getD j 0 = (levT s t i j : Nat)
theorem OfIn.step {s t : ByteArray} {wr : World} {base g i k : Nat} {l : List Int} (h : OfIn s t wr base g i k l) (hk : k < t.size) (n : Nat) {v : Int} (hv : v = (levT s t (i + 1) (k + 1) : Nat)) :
    OfIn s t ((wr.drewN n).setCell ⟨g, k + 1, none⟩ (.int .i64 v)) base g i (k + 1) (l.set (k + 1) v) := by
  have hl := h.row.len
  refine ⟨(h.row.drewN n).set_ _ _, fun j hj => ?_, fun j h1 h2 => ?_⟩
  · rw [getD_set _ _ _ _ (by omega)]
    by_cases hq : j = k + 1
    · subst hq; rw [if_pos rfl]; exact hv
    · rw [if_neg hq]; exact h.new j (by omega)
  · rw [getD_set _ _ _ _ (by omega), if_neg (by omega)]; exact h.old j (by omega) h2
end Go.Proofs.Ytllcmmpepchieaa
