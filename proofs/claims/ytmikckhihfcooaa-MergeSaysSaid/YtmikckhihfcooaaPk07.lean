/- Frames and what a scan finds, as functions on lists of bytes; the program's test and the reference's agree. No program in sight. What slices.Equal returns on two slices of the same cells. The walks of package log's frames and scans, and of the reference's. -/
import Derived.Test.YtmikckhihfcooaaPk06
import Derived.Test.YtmikckhihfcooaaPk01
namespace Go.Proofs.Ytmikckhihfcooaa
/-- A record's number in the frame that begins here. -/
def headNum (l : List UInt8) : Nat := (l.getD 0 0).toNat * 256 + (l.getD 1 0).toNat
def sumEnd (l : List UInt8) : List UInt8 := fourL (sumNat l)
def frameL (rec : List UInt8) : List UInt8 := (UInt8.ofNat (rec.length / 256) :: UInt8.ofNat rec.length :: rec) ++ sumEnd (UInt8.ofNat (rec.length / 256) :: UInt8.ofNat rec.length :: rec)
/-- Is there a whole frame here? -/
def frameOk (l : List UInt8) : Prop := 6 ≤ l.length ∧ headNum l ≤ 1100 ∧ headNum l + 6 ≤ l.length ∧ sumEnd (l.take (headNum l + 2)) = (l.drop (headNum l + 2)).take 4
instance (l : List UInt8) : Decidable (frameOk l) := by unfold frameOk; infer_instance
def recOf (l : List UInt8) : List UInt8 := (l.drop 2).take (headNum l)
def scanN : Nat → List UInt8 → List (List UInt8) × Nat
  | 0, _ => ([], 0)
  | f + 1, l => if frameOk l then (recOf l :: (scanN f (l.drop (headNum l + 6))).1, (scanN f (l.drop (headNum l + 6))).2 + headNum l + 6) else ([], 0)
def scanL (l : List UInt8) : List (List UInt8) × Nat := scanN l.length l

theorem scanN_more (f g : Nat) (l : List UInt8) (h1 : l.length ≤ f) (h2 : l.length ≤ g) : scanN f l = scanN g l := by
  induction f generalizing g l with
  | zero =>
    cases g with
    | zero => rfl
    | succ g =>
      have : ¬ frameOk l := fun h => by have := h.1; omega
      simp [scanN, this]
  | succ f ih =>
    cases g with
    | zero =>
      have : ¬ frameOk l := fun h => by have := h.1; omega
      simp [scanN, this]
    | succ g =>
      unfold scanN
      split
      · rw [ih g (l.drop (headNum l + 6)) (by rw [List.length_drop]; omega) (by rw [List.length_drop]; omega)]
      · rfl
theorem scanL_eq (l : List UInt8) : scanL l = if frameOk l then (recOf l :: (scanL (l.drop (headNum l + 6))).1, (scanL (l.drop (headNum l + 6))).2 + headNum l + 6) else ([], 0) := by
  unfold scanL
  rcases hl : l.length with _ | n
  · have : ¬ frameOk l := fun h => by have := h.1; omega
    simp [scanN, this]
  · rw [scanN]
    split
    · rw [scanN_more n (l.drop (headNum l + 6)).length _ (by rw [List.length_drop]; omega) (Nat.le_refl _)]
    · rfl
theorem scanL_ok {l : List UInt8} (h : frameOk l) : scanL l = (recOf l :: (scanL (l.drop (headNum l + 6))).1, (scanL (l.drop (headNum l + 6))).2 + headNum l + 6) := by rw [scanL_eq, if_pos h]
theorem scanL_no {l : List UInt8} (h : ¬ frameOk l) : scanL l = ([], 0) := by rw [scanL_eq, if_neg h]
theorem scanL_le (l : List UInt8) : (scanL l).2 ≤ l.length := by
  have key : ∀ n (l : List UInt8), l.length ≤ n → (scanL l).2 ≤ l.length := by
    intro n
    induction n with
    | zero => intro l h; rw [scanL_no (fun hh => by have := hh.1; omega)]; simp
    | succ n ih =>
      intro l h
      by_cases hf : frameOk l
      · rw [scanL_ok hf]
        have := ih (l.drop (headNum l + 6)) (by rw [List.length_drop]; omega)
        rw [List.length_drop] at this
        have := hf.2.2.1
        simp only
        omega
      · rw [scanL_no hf]; simp
  exact key _ l (Nat.le_refl _)
theorem scanL_count (l : List UInt8) : (scanL l).1.length * 6 ≤ l.length := by
  have key : ∀ n (l : List UInt8), l.length ≤ n → (scanL l).1.length * 6 ≤ l.length := by
    intro n
    induction n with
    | zero => intro l h; rw [scanL_no (fun hh => by have := hh.1; omega)]; simp
    | succ n ih =>
      intro l h
      by_cases hf : frameOk l
      · rw [scanL_ok hf]
        have := ih (l.drop (headNum l + 6)) (by rw [List.length_drop]; omega)
        rw [List.length_drop] at this
        have := hf.2.2.1
        simp only [List.length_cons]
        omega
      · rw [scanL_no hf]; simp
  exact key _ l (Nat.le_refl _)

theorem headNum_lt (l : List UInt8) : headNum l < 65536 := by
  unfold headNum
  have h1 := UInt8.toNat_lt (l.getD 0 0)
  have h2 := UInt8.toNat_lt (l.getD 1 0)
  omega
/-- The program's test of a frame. -/
theorem right_iff {l : List UInt8} {n : Nat} (hn : n + 6 ≤ l.length) : rightB (S (l.take (n + 6))) = true ↔ sumEnd (l.take (n + 2)) = (l.drop (n + 2)).take 4 := by
  unfold rightB
  have hl : (l.take (n + 6)).length = n + 6 := by rw [List.length_take]; omega
  rw [S_size, L_extract, L_S, hl, extract_S, L_S]
  rw [beqB]
  have e1 : List.take (n + 6 - 4 - 0) (List.drop 0 (List.take (n + 6) l)) = l.take (n + 2) := by rw [List.drop_zero, List.take_take]; congr 1; omega
  have e2 : List.take (n + 6 - (n + 6 - 4)) (List.drop (n + 6 - 4) (List.take (n + 6) l)) = (l.drop (n + 2)).take 4 := by
    rw [List.drop_take]; rw [List.take_take]; congr 1; omega
  rw [e1, e2]
  simp only [Bool.and_eq_true, decide_eq_true_eq]
  constructor
  · rintro ⟨_, h⟩; exact S_inj h
  · intro h; exact ⟨by omega, congrArg S h⟩
/-- The reference's test of a frame. -/
theorem frame_iff {l : List UInt8} (h6 : headNum l + 6 ≤ l.length) : frameL (recOf l) = l.take (headNum l + 6) ↔ sumEnd (l.take (headNum l + 2)) = (l.drop (headNum l + 2)).take 4 := by
  rcases l with _ | ⟨a, _ | ⟨b, r⟩⟩
  · simp only [List.length_nil] at h6; omega
  · simp only [List.length_cons, List.length_nil] at h6; omega
  · have hn : headNum (a :: b :: r) = a.toNat * 256 + b.toNat := rfl
    generalize hN : headNum (a :: b :: r) = n at *
    have hr : recOf (a :: b :: r) = r.take n := by unfold recOf; rw [hN]; rfl
    have hlen : (r.take n).length = n := by rw [List.length_take]; simp only [List.length_cons] at h6; omega
    have ha := UInt8.toNat_lt a
    have hb := UInt8.toNat_lt b
    have e1 : UInt8.ofNat (n / 256) = a := by
      have : n / 256 = a.toNat := by omega
      rw [this]; simp
    have e2 : UInt8.ofNat n = b := by
      apply UInt8.toNat_inj.1
      rw [UInt8.toNat_ofNat']; omega
    rw [hr]
    unfold frameL
    rw [hlen, e1, e2]
    have e3 : List.take (n + 2) (a :: b :: r) = a :: b :: r.take n := rfl
    have e4 : List.take (n + 6) (a :: b :: r) = (a :: b :: r.take n) ++ List.take 4 (List.drop (n + 2) (a :: b :: r)) := by
      rw [← e3]
      have : n + 6 = (n + 2) + 4 := by omega
      rw [this, List.take_add]
    rw [e3, e4]
    exact List.append_cancel_left_eq _ _ _ |>.to_iff
theorem frameL_length (rec : List UInt8) : (frameL rec).length = rec.length + 6 := by
  unfold frameL sumEnd fourL; simp
end Go.Proofs.Ytmikckhihfcooaa
namespace Go.Proofs.Ytmikckhihfcooaa
open Go.RowKit

def ints (l : List Int) : List Value := l.map (.int .i64 ·)

theorem ints_at {l : List Int} {k : Nat} {u : Value} (h : (ints l)[k]? = some u) : ∃ x, l[k]? = some x ∧ u = .int .i64 x := by
  unfold ints at h
  rw [List.getElem?_map] at h
  cases hx : l[k]? with
  | none => rw [hx] at h; simp at h
  | some x => rw [hx] at h; exact ⟨x, rfl, by simpa using h.symm⟩

end Go.Proofs.Ytmikckhihfcooaa
namespace Go.Proofs.Ytmikckhihfcooaa
open Go.RowKit
def hdL (n : Nat) : List UInt8 := [UInt8.ofNat (n / 256), UInt8.ofNat n]
theorem hd_cells (n : Nat) (h : n ≤ 1100) : (#[Value.int .u8 ((n : Int) / 256), .int .u8 ((n : Int) % 256)] : Array Value).toList = byteCells (hdL n) := by
  have h0 : (n : Int) / 256 = ((UInt8.ofNat (n / 256)).toNat : Int) := by rw [UInt8.toNat_ofNat']; omega
  have h1 : (n : Int) % 256 = ((UInt8.ofNat n).toNat : Int) := by rw [UInt8.toNat_ofNat']; omega
  rw [h0, h1]; rfl
theorem frame_is (s : ByteArray) : S (hdL s.size) ++ s ++ fourB (sumNat (L (S (hdL s.size) ++ s))) = S (frameL (L s)) := by
  have h1 : S (hdL s.size) ++ s = S (UInt8.ofNat ((L s).length / 256) :: UInt8.ofNat (L s).length :: L s) := by
    rw [append_S, L_S, L_len]; rfl
  rw [h1, append_S, L_S]; rfl
theorem hd_size (n : Nat) : (S (hdL n)).size ≤ 2 := by rw [S_size]; exact Nat.le_refl _
theorem four_size (n : Nat) : (fourB n).size ≤ 4 := Nat.le_refl _
/-- What a scan's relation holds at a place. -/
structure ScanAt (l : List UInt8) (at_ : Nat) (recs : List (List UInt8)) : Prop where
  count : recs.length * 6 ≤ at_
  le : at_ ≤ l.length
  recs : recs ++ (scanL (l.drop at_)).1 = (scanL l).1
  sum : at_ + (scanL (l.drop at_)).2 = (scanL l).2
theorem ScanAt.done {l : List UInt8} {at_ : Nat} {recs : List (List UInt8)} (h : ScanAt l at_ recs) (hn : ¬ frameOk (l.drop at_)) : recs = (scanL l).1 ∧ at_ = (scanL l).2 := by
  have h1 := h.recs; have h2 := h.sum
  rw [scanL_no hn] at h1 h2
  exact ⟨by simpa using h1, by simpa using h2⟩
theorem ScanAt.step {l : List UInt8} {at_ : Nat} {recs : List (List UInt8)} (h : ScanAt l at_ recs) (hn : frameOk (l.drop at_)) : ScanAt l (at_ + (headNum (l.drop at_) + 6)) (recs ++ [recOf (l.drop at_)]) := by
  have h1 := h.recs; have h2 := h.sum; have h3 := h.le
  have h4 := hn.2.2.1
  rw [List.length_drop] at h4
  rw [scanL_ok hn, List.drop_drop] at h1 h2
  exact ⟨by have := h.count; simp only [List.length_append, List.length_cons, List.length_nil]; omega, by omega, by simpa using h1, by simp only at h2; omega⟩
def strCells (l : List (List UInt8)) : List Value := l.map fun r => .string (S r)
theorem info_str : (Try.prog.info? 9).map (fun i => (i.zero, i.size, i.bytes)) = some (some (.string ByteArray.empty), 1, 16) := by kernel_rfl
theorem oneCell_str (l : List (List UInt8)) : ∀ u ∈ strCells l, u.oneCell' = true := by
  intro u hu
  obtain ⟨r, _, rfl⟩ := List.mem_map.1 hu
  rfl
/-- slices.Equal on two slices of the same strings. -/
theorem str_at {l : List (List UInt8)} {k : Nat} {u : Value} (h : (strCells l)[k]? = some u) : ∃ x, l[k]? = some x ∧ u = .string (S x) := by
  unfold strCells at h
  rw [List.getElem?_map] at h
  cases hx : l[k]? with
  | none => rw [hx] at h; simp at h
  | some x => rw [hx] at h; exact ⟨x, rfl, by simpa using h.symm⟩
end Go.Proofs.Ytmikckhihfcooaa
