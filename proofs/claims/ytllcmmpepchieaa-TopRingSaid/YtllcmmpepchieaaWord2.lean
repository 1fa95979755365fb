/- The document's borders and periods, and word.Periods. -/
import Derived.Test.YtllcmmpepchieaaWord1
namespace Go.Proofs.Ytllcmmpepchieaa
open Go.RowKit
theorem ext_bd {s : ByteArray} {n k : Nat} (hk : k ≤ n) (hn : n ≤ s.size) : s.extract 0 k = s.extract (n - k) n ↔ Bd (L s) n k := by
  rw [bd_iff_take hk (by rw [L_len]; exact hn)]
  constructor
  · intro h
    have := congrArg L h
    rw [L_extract, L_extract, List.drop_zero, Nat.sub_zero] at this
    rw [List.drop_take]; exact this
  · intro h
    apply L_inj
    rw [L_extract, L_extract, List.drop_zero, Nat.sub_zero, h, List.drop_take]
theorem neS (x y : ByteArray) : (x.toList != y.toList) = decide (x ≠ y) := by
  rw [bne, beqB]; simp
/-- Periods as ints. -/
def pI (s : List UInt8) (m : Nat) : List Int := (pers s m).map Int.ofNat
theorem pers_len (s : List UInt8) : ∀ m, (pers s m).length ≤ m
  | 0 => Nat.le_refl _
  | m + 1 => by
    have := pers_len s m
    rw [pers]; split
    · rw [List.length_append, List.length_singleton]; omega
    · omega
theorem pI_len (s : List UInt8) (m : Nat) : (pI s m).length ≤ m := by rw [pI, List.length_map]; exact pers_len s m
theorem pI_hit {s : List UInt8} {m : Nat} (h0 : 0 < m) (h : perB s m = true) : pI s (m + 1) = pI s m ++ [(m : Int)] := by
  rw [pI, pers, if_pos ⟨h0, h⟩, List.map_append]; rfl
theorem pI_miss {s : List UInt8} {m : Nat} (h : perB s m = false) : pI s (m + 1) = pI s m := by
  rw [pI, pers, if_neg (by rw [h]; simp)]; rfl
theorem eqS (x y : ByteArray) : (x.toList == y.toList) = decide (x = y) := beqB x y
theorem ext_per {s : ByteArray} {p : Nat} (hp : p ≤ s.size) : (s.extract p s.size = s.extract 0 (s.size - p)) ↔ perB (L s) p = true := by
  unfold perB
  rw [decide_eq_true_eq, L_len]
  have := ext_bd (s := s) (n := s.size) (k := s.size - p) (by omega) (Nat.le_refl _)
  rw [show s.size - (s.size - p) = p by omega] at this
  rw [← this]
  exact eq_comm
end Go.Proofs.Ytllcmmpepchieaa
