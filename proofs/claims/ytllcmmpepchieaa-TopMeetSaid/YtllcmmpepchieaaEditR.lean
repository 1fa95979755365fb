/- The reference's Grows and EditsErr. -/
import Derived.Test.YtllcmmpepchieaaEditW
namespace Go.Proofs.Ytllcmmpepchieaa
open Go.RowKit
/-- Edits that are small. -/
def Small (l : List Ed) : Prop := ∀ x ∈ l, 0 ≤ x.del ∧ x.del ≤ 200 ∧ x.ins.length ≤ 40
theorem Small.grows {l : List Ed} (h : Small l) : -(200 * l.length : Int) ≤ grows l ∧ grows l ≤ 40 * l.length := by
  induction l with
  | nil => simp [Go.Proofs.Ytllcmmpepchieaa.grows]
  | cons x r ih =>
    have h1 := h x (by simp)
    have h2 := ih (fun y hy => h y (by simp [hy]))
    simp only [Go.Proofs.Ytllcmmpepchieaa.grows, List.length_cons]
    omega
theorem grows_take_succ (l : List Ed) (k : Nat) (hk : k < l.length) : grows (l.take (k + 1)) = grows (l.take k) + (l[k].ins.length - l[k].del) := by
  rw [List.take_succ_eq_append_getElem hk, grows_append]; simp [grows]
theorem Small.take {l : List Ed} (h : Small l) (k : Nat) : Small (l.take k) := fun x hx => h x (List.mem_of_mem_take hx)
theorem EdAt.lastE {n : Int} {l : List Ed} {k : Nat} {e : Int} (h : EdAt n l k e) (hk : 0 < k) : ∃ hl : k - 1 < l.length, e = l[k - 1].at_ + l[k - 1].del ∧ 0 ≤ l[k - 1].del ∧ l[k - 1].del ≤ 200 := by
  have hle := h.le
  have h1 := h.last
  obtain ⟨j, rfl⟩ : ∃ j, k = j + 1 := ⟨k - 1, by omega⟩
  have h2 := lastEnd_take l j (by omega)
  rw [h1, if_neg (by omega)] at h2
  injection h2 with h2
  have h3 := h.chain l[j] (by rw [List.take_succ_eq_append_getElem (show j < l.length by omega)]; exact List.mem_append_right _ (by simp))
  exact ⟨by omega, h2, h3.1, h3.2.1⟩
end Go.Proofs.Ytllcmmpepchieaa
