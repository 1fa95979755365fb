/- edit.Place, the reference's Done. -/
import Derived.Test.YtmikckhihfcooaaGreatDoorEditA
namespace Go.Proofs.YtmikckhihfcooaaGreatDoor
open Go.RowKit
/-- What Place answers. -/
def plErr (n : Int) (l : List Ed) (at_ : Int) : Int := if edErr n l = 0 then (if at_ < 0 ∨ n < at_ then 1 else 0) else edErr n l
def plOut (n : Int) (l : List Ed) (at_ : Int) : Int × Bool := if plErr n l at_ = 0 then plc at_ 0 l else (0, false)
theorem ret_ibi {a b : Int} {x y : Bool} {p q : Int} (h : a = b) (k : x = y) (m : p = q) : Ending.returned (.tuple #[.int .i64 a, .bool x, .int .i64 p]) = .returned (.tuple #[.int .i64 b, .bool y, .int .i64 q]) := by rw [h, k, m]
/-- What the reference's Done has come to, the k first edits still to do. -/
theorem done_bounds {s : List UInt8} {l : List Ed} (h : edErr s.length l = 0) {k : Nat} (hk : k < l.length) :
    ∃ a d : Nat, l[k].at_ = a ∧ l[k].del = d ∧ a + d ≤ (edDone s (l.drop (k + 1))).length ∧ (edDone s (l.drop (k + 1))).length ≤ 1000 ∧ l[k].ins.length ≤ 40 ∧
      edDone s (l.drop k) = (edDone s (l.drop (k + 1))).take a ++ l[k].ins ++ (edDone s (l.drop (k + 1))).drop (a + d) := by
  obtain ⟨h0, h1, h2, hc, h3⟩ := edErr_zero.1 h
  have hm := hc.mem l[k] (List.getElem_mem hk)
  obtain ⟨a, ha⟩ := Int.eq_ofNat_of_zero_le hm.1
  obtain ⟨d, hd⟩ := Int.eq_ofNat_of_zero_le hm.2.1
  have hch : ∀ (l : List Ed) (p : Option Int), Chain s.length p l → ∀ j, ∃ q, Chain s.length q (l.drop j) ∧ (∀ (hj : j - 1 < l.length), 0 < j → q = some (l[j - 1].at_ + l[j - 1].del)) := by
    intro l p hc
    induction hc with
    | nil => intro j; exact ⟨none, by rw [List.drop_nil]; exact .nil _, fun hj => by simp at hj⟩
    | cons p x r h0 h ih =>
      intro j
      cases j with
      | zero => exact ⟨p, .cons _ _ _ h0 h, fun _ h => absurd h (by omega)⟩
      | succ j =>
        obtain ⟨q, hq, hq2⟩ := ih j
        cases j with
        | zero => exact ⟨_, h, fun _ _ => rfl⟩
        | succ j => exact ⟨q, hq, fun hj _ => by have := hq2 (by simpa using hj) (by omega); simpa using this⟩
  obtain ⟨q, hq, hq2⟩ := hch l none hc (k + 1)
  have hq3 := hq2 (by simpa using hk) (by omega)
  simp only [Nat.add_sub_cancel] at hq3
  subst hq3
  have hle : a + d ≤ s.length := by omega
  have e1 := edDone_eq rfl hq (k := a + d) (by simp only [after]; omega) hle
  have e2 := edTo_length rfl hq (k := a + d) (by simp only [after]; omega) hle
  have e3 := congrArg List.length e1
  rw [List.length_append, List.length_take] at e3
  have e4 := hq.grows_le
  have e5 : (l.drop (k + 1)).length ≤ 20 := by rw [List.length_drop]; omega
  refine ⟨a, d, ha, hd, by omega, by omega, hm.2.2.2.1, ?_⟩
  rw [drop_cons_get hk, edDone, ha, hd]
  congr 1
set_option maxRecDepth 100000 in
set_option maxHeartbeats 2000000 in
theorem edDone_any (s : ByteArray) (l : List Ed) (A : Option Addr) (m c B : Nat) (w : World) (hr : Rd w B 3 A m (edCells l)) (hB : B ≤ w.heap.size) (hE : edErr s.size l = 0) :
    Calls Tryz.prog 27 #[.string s, .slice A m c] w fun e w' => e = .returned (.string (S (edDone (L s) l))) ∧ Below w.heap.size w w' := by
  have hlen := Rd.rec_len ed_len (by omega) hr
  have HR := Lib.hid hr; clear hr
  have HL := Lib.hid hlen; clear hlen
  have HE' : Hid (edErr (L s).length l = 0) := by unfold Hid; rw [L_len]; exact hE
  have hl20 : m ≤ 20 := by rw [← HL.out]; exact (edErr_zero.1 hE).2.2.1
  clear hE
  go_enter Tryz.func27, Tryz.ntmps27
  go_wp2_with fail
  go_loopw [0, 5] (fun o i wr => ∃ k : Nat, k ≤ m ∧ i = .int .i64 ((k : Int) - 1) ∧ o = .string (S (edDone (L s) (l.drop k))) ∧ Below w.heap.size w wr) (fun _ i _ => (intOf i + 1).toNat)
  case atStart => exact ⟨m, Nat.le_refl _, rfl, by rw [List.drop_of_length_le (by rw [HL.out]; exact Nat.le_refl _)]; rfl, Below.refl _ _⟩
  case round =>
    obtain ⟨k, hk, rfl, rfl, hb⟩ := hrel
    have hbs := hb.size
    by_cases hlt : 0 < k
    · obtain ⟨k, rfl⟩ : ∃ j, k = j + 1 := ⟨k - 1, by omega⟩
      obtain ⟨ad, hl, rfl, hab, c0, c1, c2⟩ := (HR.out.below (hb.mono hB)).at_ed (k := k) (by omega)
      obtain ⟨a, d, ha, hd, hz1, hz2, hz3, hst⟩ := done_bounds HE'.out hl
      have HST := Lib.hid hst; clear hst
      rw [ha] at c0
      rw [hd] at c1
      have HAD := Lib.hid (And.intro ha hd); clear ha hd
      generalize edDone (L s) (l.drop (k + 1)) = cur at *
      generalize l[k].ins = xi at *
      have q1 : (S cur).size ≤ 1000 := by rw [S_size]; exact hz2
      have q2 : a + d ≤ (S cur).size := by rw [S_size]; exact hz1
      have q3 : (S xi).size ≤ 40 := by rw [S_size]; exact hz3
      have q4 : ((S cur).extract 0 a).size ≤ 1000 := by rw [ByteArray.size_extract]; omega
      have q5 : ((S cur).extract (a + d) (S cur).size).size ≤ 1000 := by rw [ByteArray.size_extract]; omega
      have q6 : ((S cur).extract 0 a ++ S xi).size ≤ 1040 := by rw [ByteArray.size_append]; omega
      have e0 : (((k + 1 : Nat) : Int) - 1) = (k : Int) := by omega
      rw [e0]
      have HEX : Hid ((S cur).extract 0 a ++ S xi ++ (S cur).extract (a + d) (S cur).size = S (cur.take a ++ xi ++ cur.drop (a + d))) := by
        unfold Hid
        rw [append_S, append_S, L_S, L_extract, L_extract, L_S, L_S, List.drop_zero, S_size, Nat.sub_zero, List.take_of_length_le (l := cur.drop (a + d)) (by rw [List.length_drop]; exact Nat.le_refl _)]
      go_wp2_with fail
      go_quiet (fail)
      go_wp2_with fail
      go_roundw
      case rel => exact ⟨k, by omega, rfl, by rw [HEX.out, HST.out], (by repeat (first | exact Below.refl _ _ | assumption | refine Below.alloc ?_ (by first | exact Nat.le_refl _ | assumption | omega | (simp <;> omega)) _ | refine Below.setCell ?_ (by first | exact Nat.le_refl _ | assumption | omega | (simp <;> omega)) _ | refine Below.drew ?_ | refine below_drewN ?_ _))⟩
      case measure => simp [intOf]
    · obtain rfl : k = 0 := by omega
      go_wp2_with fail
      go_ret
      exact ⟨rfl, hb⟩
end Go.Proofs.YtmikckhihfcooaaGreatDoor
