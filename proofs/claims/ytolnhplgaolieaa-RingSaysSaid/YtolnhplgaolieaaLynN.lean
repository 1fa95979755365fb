/- lyndon.Next, slices.Max of bytes, the document's next word. -/
import Derived.Test.YtolnhplgaolieaaLynN0
import Derived.Test.YtolnhplgaolieaaLynV
import Derived.Test.YtolnhplgaolieaaAppZ
import Derived.Test.YtolnhplgaolieaaWord4
namespace Go.Proofs.Ytolnhplgaolieaa
open Go.RowKit
theorem info_u8 : (Try.prog.info? 5).map (fun i => (i.zero, i.size, i.bytes)) = some (some (.int .u8 0), 1, 1) := by kernel_rfl
theorem byteCells_at (l : List UInt8) {k : Nat} (h : k < l.length) : (byteCells l)[k]? = some (.int .u8 ((l.getD k 0).toNat : Int)) := by
  rw [byteCells, List.getElem?_map, List.getD_eq_getElem?_getD, List.getElem?_eq_getElem h]; rfl
theorem byteCells_snoc (l : List UInt8) (x : UInt8) : byteCells (l ++ [x]) = byteCells l ++ [.int .u8 (x.toNat : Int)] := by simp [byteCells]
theorem byteCells_len (l : List UInt8) : (byteCells l).length = l.length := by simp [byteCells]
set_option maxRecDepth 100000 in
set_option maxHeartbeats 4000000 in
theorem maxBytes_any (l : List UInt8) (A : Option Addr) (n c B : Nat) (w : World) (hr : Rd w B 1 A n (byteCells l)) (h0 : 0 < n) (hn : n ≤ 9223372036854775807) :
    Calls Try.prog 36 #[.slice A n c] w fun e w' => e = .returned (.int .u8 ((maxB l).toNat : Int)) ∧ Below w.heap.size w w' := by
  have hl : l.length = n := by have := hr.1; rw [byteCells_len] at this; omega
  obtain ⟨ad, rfl, hab, hc⟩ := hr.2 h0
  have HC : Hid (∀ k, k < n → w.cell? (ad.add k) = some (.int .u8 ((l.getD k 0).toNat : Int))) := fun k hk => hc k _ (byteCells_at l (by omega))
  have c0 := HC.out 0 h0
  have e0 : ad.add 0 = ad := by unfold Addr.add; rfl
  rw [e0] at c0
  have HM : Hid (maxB l = (l.take n).tail.foldl max (l.getD 0 0)) := by
    unfold Hid
    rw [List.take_of_length_le (by omega)]
    cases l with
    | nil => simp at hl; omega
    | cons x l => rfl
  have HS : Hid (∀ k, 1 ≤ k → k < n → (l.take (k + 1)).tail.foldl max (l.getD 0 0) = max ((l.take k).tail.foldl max (l.getD 0 0)) (l.getD k 0)) := fun k h1 h2 => by
    cases l with
    | nil => simp at hl; omega
    | cons x l =>
      obtain ⟨j, rfl⟩ : ∃ j, k = j + 1 := ⟨k - 1, by omega⟩
      simp only [List.length_cons] at hl
      rw [List.take_succ_cons, List.take_succ_cons, List.tail_cons, List.tail_cons, List.take_succ_eq_append_getElem (by omega), List.foldl_append]
      simp [List.getElem?_eq_getElem (show j < l.length by omega)]
  have hst : ∀ k, 1 ≤ k → ((l.take 1).tail.foldl max (l.getD 0 0)) = l.getD 0 0 := fun _ _ => by cases l <;> rfl
  have HST := Lib.hid (hst 1 (Nat.le_refl _))
  clear hst hc e0
  have g0 : decide ((n : Int) < 1) = false := decide_eq_false (by omega)
  generalize hm0 : l.getD 0 0 = m0 at *
  clear hm0
  go_enter Try.func36, Try.ntmps36
  go_wp2_with fail
  go_loopw [3, 4] (fun m i wr => ∃ k : Nat, 1 ≤ k ∧ k ≤ n ∧ i = .int .i64 (k : Int) ∧ m = .int .u8 (((l.take k).tail.foldl max m0).toNat : Int) ∧ wr = w) (fun _ i _ => n - (intOf i).toNat)
  case atStart => exact ⟨1, Nat.le_refl _, h0, rfl, by rw [HST.out], rfl⟩
  case round =>
    obtain ⟨k, hk1, hk, rfl, rfl, rfl⟩ := hrel
    by_cases hlt : k < n
    · have g1 : decide ((k : Int) < (n : Int)) = true := decide_eq_true (by omega)
      have c1 := HC.out k hlt
      have HQ := Lib.hid (HS.out k hk1 hlt)
      generalize (l.take k).tail.foldl max m0 = q at *
      generalize l.getD k 0 = x at *
      have HX : Hid (max (q.toNat : Int) (x.toNat : Int) = ((max q x).toNat : Int)) := by
        unfold Hid
        show _ = ((if q ≤ x then x else q).toNat : Int)
        by_cases hqx : q ≤ x
        · rw [if_pos hqx]; have : q.toNat ≤ x.toNat := hqx; omega
        · rw [if_neg hqx]; have : x.toNat < q.toNat := UInt8.not_le.1 hqx; omega
      go_wp2_with fail
      go_roundw
      case rel =>
        refine ⟨k + 1, by omega, by omega, by go_num, ?_, by first | rfl | trivial⟩
        rw [HQ.out]
        exact congrArg (Value.int .u8) HX.out
      case measure => simp [intOf]; omega
    · obtain rfl : k = n := by omega
      have g1 : decide ((k : Int) < (k : Int)) = false := by simp
      go_wp2_with fail
      go_ret
      rw [HM.out]
      exact ⟨rfl, Below.refl _ _⟩
end Go.Proofs.Ytolnhplgaolieaa
