/- The walks of package log's frames and scans, and of the reference's. -/
import Derived.Test.YtllcmmpepchieaaLog0
import Derived.Test.YtllcmmpepchieaaEq
namespace Go.Proofs.Ytllcmmpepchieaa
open Go.RowKit
def hdL (n : Nat) : List UInt8 := [UInt8.ofNat (n / 256), UInt8.ofNat n]
theorem hd_cells (n : Nat) (h : n ≤ 1100) : (#[Value.int .u8 ((n : Int) / 256), .int .u8 ((n : Int) % 256)] : Array Value).toList = byteCells (hdL n) := by
  have h0 : (n : Int) / 256 = ((UInt8.ofNat (n / 256)).toNat : Int) := by rw [UInt8.toNat_ofNat']; omega
  have h1 : (n : Int) % 256 = ((UInt8.ofNat n).toNat : Int) := by rw [UInt8.toNat_ofNat']; omega
  rw [h0, h1]; rfl
theorem frame_is (s : ByteArray) : S (hdL s.size) ++ s ++ fourB (sumNat (L (S (hdL s.size) ++ s))) = S (frameL (L s)) := by
  have h1 : S (hdL s.size) ++ s = S (UInt8.ofNat ((L s).length / 256) :: UInt8.ofNat (L s).length :: L s) := by
    rw [append_S, L_S, L_len]; rfl
  rw [h1, append_S, L_S]; rfl
theorem hd_size (n : Nat) : (S (hdL n)).size ≤ 2 := by rw [S_size]; exact Nat.le_refl _
theorem four_size (n : Nat) : (fourB n).size ≤ 4 := Nat.le_refl _
/-- What a scan's relation holds at a place. -/
structure ScanAt (l : List UInt8) (at_ : Nat) (recs : List (List UInt8)) : Prop where
  count : recs.length * 6 ≤ at_
  le : at_ ≤ l.length
  recs : recs ++ (scanL (l.drop at_)).1 = (scanL l).1
  sum : at_ + (scanL (l.drop at_)).2 = (scanL l).2
theorem ScanAt.done {l : List UInt8} {at_ : Nat} {recs : List (List UInt8)} (h : ScanAt l at_ recs) (hn : ¬ frameOk (l.drop at_)) : recs = (scanL l).1 ∧ at_ = (scanL l).2 := by
  have h1 := h.recs; have h2 := h.sum
  rw [scanL_no hn] at h1 h2
  exact ⟨by simpa using h1, by simpa using h2⟩
theorem ScanAt.step {l : List UInt8} {at_ : Nat} {recs : List (List UInt8)} (h : ScanAt l at_ recs) (hn : frameOk (l.drop at_)) : ScanAt l (at_ + (headNum (l.drop at_) + 6)) (recs ++ [recOf (l.drop at_)]) := by
  have h1 := h.recs; have h2 := h.sum; have h3 := h.le
  have h4 := hn.2.2.1
  rw [List.length_drop] at h4
  rw [scanL_ok hn, List.drop_drop] at h1 h2
  exact ⟨by have := h.count; simp only [List.length_append, List.length_cons, List.length_nil]; omega, by omega, by simpa using h1, by simp only at h2; omega⟩
def strCells (l : List (List UInt8)) : List Value := l.map fun r => .string (S r)
theorem info_str : (Try.prog.info? 9).map (fun i => (i.zero, i.size, i.bytes)) = some (some (.string ByteArray.empty), 1, 16) := by kernel_rfl
theorem oneCell_str (l : List (List UInt8)) : ∀ u ∈ strCells l, u.oneCell' = true := by
  intro u hu
  obtain ⟨r, _, rfl⟩ := List.mem_map.1 hu
  rfl
/-- slices.Equal on two slices of the same strings. -/
theorem str_at {l : List (List UInt8)} {k : Nat} {u : Value} (h : (strCells l)[k]? = some u) : ∃ x, l[k]? = some x ∧ u = .string (S x) := by
  unfold strCells at h
  rw [List.getElem?_map] at h
  cases hx : l[k]? with
  | none => rw [hx] at h; simp at h
  | some x => rw [hx] at h; exact ⟨x, rfl, by simpa using h.symm⟩
end Go.Proofs.Ytllcmmpepchieaa
