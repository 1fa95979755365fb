/- The reference's FarOf. -/
import Derived.Test.YtolnhplgaolieaaTab
import Derived.Test.YtolnhplgaolieaaDist0
import Derived.BigRegion
namespace Go.Proofs.Ytolnhplgaolieaa
open Go.RowKit
theorem getD_set (l : List Int) (k j : Nat) (v : Int) (h : k < l.length) : (l.set k v).getD j 0 = if j = k then v else l.getD j 0 := by
  rw [List.getD_eq_getElem?_getD, List.getD_eq_getElem?_getD, List.getElem?_set]
  by_cases hj : j = k
  · subst hj; simp [h]
  · have : ¬ k = j := fun e => hj e.symm
    simp [hj, this]
theorem drop_byte (s : ByteArray) (k : Nat) (h : k < s.size) : (L s).drop k = s[k] :: (L s).drop (k + 1) := by
  rw [List.drop_eq_getElem_cons (by rw [L_len]; exact h), getB s k h, List.getD_eq_getElem?_getD, List.getElem?_eq_getElem (by rw [L_len]; exact h)]; rfl
/-- Where the inner loop stands. -/
structure FarIn (s t : ByteArray) (w wr : World) (gT : Nat) (G : Nat → Nat) (i k : Nat) (R : Nat → List Int) : Prop where
  tab : Tab wr w.heap.size gT (s.size + 1) (t.size + 1) (fun j => i ≤ j ∧ j ≤ s.size) G R
  old : ∀ j, i + 1 ≤ j → j ≤ s.size → ∀ k, k ≤ t.size → (R j).getD k 0 = (lev ((L s).drop j) ((L t).drop k) : Nat)
  new : ∀ k', k ≤ k' → k' ≤ t.size → (R i).getD k' 0 = (lev ((L s).drop i) ((L t).drop k') : Nat)
theorem FarIn.step {s t : ByteArray} {w wr : World} {gT : Nat} {G : Nat → Nat} {i k : Nat} {R : Nat → List Int} (h : FarIn s t w wr gT G i (k + 1) R) (hi : i ≤ s.size) (hk : k ≤ t.size) {v : Int} (hv : v = (lev ((L s).drop i) ((L t).drop k) : Nat)) :
    FarIn s t w (wr.setCell ⟨G i, k, none⟩ (.int .i64 v)) gT G i k (fun j => if j = i then (R i).set k v else R j) := by
  have hl := (h.tab.row i ⟨Nat.le_refl _, hi⟩).len
  refine ⟨h.tab.set_ ⟨Nat.le_refl _, hi⟩ k v, fun j h1 h2 q hq => ?_, fun q h1 h2 => ?_⟩
  · simp only [show ¬ j = i by omega, if_false]; exact h.old j h1 h2 q hq
  · simp only [if_true]
    rw [getD_set _ _ _ _ (by omega)]
    by_cases hq : q = k
    · subst hq; rw [if_pos rfl]; exact hv
    · rw [if_neg hq]; exact h.new q (by omega) h2
theorem FarIn.drewN {s t : ByteArray} {w wr : World} {gT : Nat} {G : Nat → Nat} {i k : Nat} {R : Nat → List Int} (h : FarIn s t w wr gT G i k R) (n : Nat) : FarIn s t w (wr.drewN n) gT G i k R :=
  ⟨h.tab.drewN n, h.old, h.new⟩
theorem lev_drop_left (s t : ByteArray) (k : Nat) (hk : k ≤ t.size) : ((t.size : Int) - (k : Int)) = (lev ((L s).drop s.size) ((L t).drop k) : Nat) := by
  rw [List.drop_of_length_le (by rw [L_len]; exact Nat.le_refl _), lev_nil_left, List.length_drop, L_len]; omega
theorem lev_drop_right (s t : ByteArray) (i : Nat) (hi : i ≤ s.size) : ((s.size : Int) - (i : Int)) = (lev ((L s).drop i) ((L t).drop t.size) : Nat) := by
  rw [List.drop_of_length_le (l := L t) (by rw [L_len]; exact Nat.le_refl _), lev_nil_right, List.length_drop, L_len]; omega
end Go.Proofs.Ytolnhplgaolieaa
