/- A known word's turns. -/
import Derived.Test.YtllcmmpepchieaaTrn0
import Derived.Test.YtllcmmpepchieaaTrnA0
import Derived.Test.YtllcmmpepchieaaEditA
namespace Go.Proofs.Ytllcmmpepchieaa
open Go.RowKit
theorem turnO_is {s : List UInt8} {o : List Nat} (hp : o.Perm (List.range s.length)) (hw : o.Pairwise fun x y => ¬ ltT s y x) : turnO s = o := by
  refine List.Perm.eq_of_pairwise (le := fun x y => ¬ ltT s y x) (fun a b _ _ h1 h2 => (ltT_tri h1 h2).symm) (turnO_pw s) hw ((turnO_perm s).trans hp.symm)
def banana : List UInt8 := [98, 97, 110, 97, 110, 97]
theorem banana_O : turnO banana = [5, 3, 1, 0, 4, 2] := turnO_is (by decide) (by decide)
theorem banana_L : turnL banana = [110, 110, 98, 97, 97, 97] := by
  unfold turnL; rw [banana_O]; rfl
theorem banana_at : turnAt banana = 3 := by
  unfold turnAt; rw [if_neg (by decide), banana_O]; rfl
open Go.RowKit
theorem hello_err : edErr 5 [⟨0, 1, [74]⟩] = 0 := by decide +kernel
theorem hello_out : apOut ⟨#[104, 101, 108, 108, 111]⟩ [⟨0, 1, [74]⟩] = ⟨#[74, 101, 108, 108, 111]⟩ := by
  unfold apOut
  rw [show edErr (⟨#[104, 101, 108, 108, 111]⟩ : ByteArray).size [⟨0, 1, [74]⟩] = 0 from hello_err, if_pos rfl]
  rfl
set_option maxRecDepth 100000 in
set_option maxHeartbeats 2000000 in
theorem works_any (w : World) : Calls Try.prog 9 #[] w fun e w' => e = .returned (.bool true) ∧ Below w.heap.size w w' := by
  have HP := Lib.hid (fun W => turnPut_any ⟨#[98, 97, 110, 97, 110, 97]⟩ (by decide) W)
  have e1 : turnL (L ⟨#[98, 97, 110, 97, 110, 97]⟩) = [110, 110, 98, 97, 97, 97] := banana_L
  have e2 : turnAt (L ⟨#[98, 97, 110, 97, 110, 97]⟩) = 3 := banana_at
  rw [e1, e2] at HP
  have e3 : S [110, 110, 98, 97, 97, 97] = ⟨#[110, 110, 98, 97, 97, 97]⟩ := rfl
  rw [e3] at HP
  have HE : Hid (∀ W : World, Calls Try.prog 13 #[.string ⟨#[104, 101, 108, 108, 111]⟩, .slice (some ⟨W.heap.size, 0, none⟩) 1 1] (W.alloc (.cells #[.int .i64 0, .int .i64 1, .string ⟨#[74]⟩] 30)) fun e w' => e = .returned (.tuple #[.string ⟨#[74, 101, 108, 108, 111]⟩, .int .i64 0]) ∧ Below (W.alloc (.cells #[.int .i64 0, .int .i64 1, .string ⟨#[74]⟩] 30)).heap.size (W.alloc (.cells #[.int .i64 0, .int .i64 1, .string ⟨#[74]⟩] 30)) w') := fun W => by
    have h := edApply_any ⟨#[104, 101, 108, 108, 111]⟩ [⟨0, 1, [74]⟩] (some ⟨W.heap.size, 0, none⟩) 1 1 (W.heap.size + 1) (W.alloc (.cells #[.int .i64 0, .int .i64 1, .string ⟨#[74]⟩] 30)) (Rd.new_ (size := 3) W _ _ (Nat.lt_succ_self _) rfl) (by simp) (by decide) (by decide)
    rw [hello_out, show edErr (⟨#[104, 101, 108, 108, 111]⟩ : ByteArray).size [⟨0, 1, [74]⟩] = 0 from hello_err] at h
    exact h
  clear e1 e2 e3
  go_enter Try.func9, Try.ntmps9
  go_wp2_with fail
  refine (HP.out _).mono ?_
  rintro e w1 ⟨rfl, hb1⟩
  go_wp2_with fail
  refine (HE.out _).mono ?_
  rintro e w2 ⟨rfl, hb2⟩
  have hb3 := bthen hb1 (bthen ((Below.refl w1.heap.size w1).alloc (Nat.le_refl _) _) hb2)
  go_wp2_with fail
  go_ret
  exact ⟨rfl, hb3⟩
theorem goodOne_any (w : World) : Calls Try.prog 59 #[.int .i64 0] w fun e w' => e = .returned (.bool false) ∧ Below w.heap.size w w' := by
  go_enter Try.func59, Try.ntmps59
  go_wp2_with fail
  go_ret
  exact ⟨rfl, (by repeat (first | exact Below.refl _ _ | assumption | refine Below.alloc ?_ (by first | exact Nat.le_refl _ | assumption | omega | (simp <;> omega)) _ | refine Below.setCell ?_ (by first | exact Nat.le_refl _ | assumption | omega | (simp <;> omega)) _ | refine Below.drew ?_ | refine below_drewN ?_ _))⟩
set_option maxRecDepth 100000 in
set_option maxHeartbeats 1000000 in
theorem goodI_any (A : Option Addr) (m c B : Nat) (w : World) (hr : Rd w B 1 A m (ints (List.replicate m 0))) (hB : B ≤ w.heap.size) (hm : m ≤ 9223372036854775807) :
    Calls Try.prog 86 #[.slice A m c, .func (.func 59) #[] #[]] w fun e w' => e = .returned (.int .i64 (-1)) ∧ Below w.heap.size w w' := by
  have HR := Lib.hid hr; clear hr
  have HX := Lib.hid goodOne_any
  go_enter Try.func86, Try.ntmps86
  go_wp2_with fail
  go_loopw [8] (fun i wr => ∃ k : Nat, k ≤ m ∧ i = .int .i64 k ∧ Below w.heap.size w wr) (fun i _ => m - (intOf i).toNat)
  case atStart => exact ⟨0, Nat.zero_le _, rfl, Below.refl _ _⟩
  case round =>
    obtain ⟨k, hk, rfl, hb⟩ := hrel
    have hbs := hb.size
    by_cases hlt : k < m
    · have g1 : decide ((k : Int) < (m : Int)) = true := decide_eq_true (by omega)
      have g1' : decide (k < m) = true := decide_eq_true hlt
      obtain ⟨ad, u, rfl, _, hu, cc⟩ := (HR.out.below (hb.mono hB)).at_ hlt
      have hu2 : u = .int .i64 0 := by
        obtain ⟨x, hx, rfl⟩ := ints_at hu
        rw [List.getElem?_replicate, if_pos hlt] at hx
        cases hx; rfl
      subst hu2
      clear hu
      go_wp2_with fail
      refine (HX.out _).mono ?_
      rintro e w2 ⟨rfl, hb2⟩
      have hb3 := bthen hb hb2
      go_wp2_with fail
      go_roundw
      case rel => exact ⟨k + 1, by omega, by go_num, hb3⟩
      case measure => simp [intOf]; omega
    · obtain rfl : k = m := by omega
      have g1 : decide ((k : Int) < (k : Int)) = false := decide_eq_false (by omega)
      have g1' : decide (k < k) = false := decide_eq_false hlt
      go_wp2_with fail
      go_ret
      exact ⟨rfl, hb⟩
theorem good_any (A : Option Addr) (m c B : Nat) (w : World) (hr : Rd w B 1 A m (ints (List.replicate m 0))) (hB : B ≤ w.heap.size) (hm : m ≤ 9223372036854775807) :
    Calls Try.prog 24 #[.slice A m c] w fun e w' => e = .returned (.bool true) ∧ Below w.heap.size w w' := by
  have HC : Hid (Calls Try.prog 58 #[.slice A m c, .func (.func 59) #[] #[]] w fun e w' => e = .returned (.bool false) ∧ Below w.heap.size w w') := by
    have HI := Lib.hid (goodI_any A m c B w hr hB hm)
    unfold Hid
    clear hr
    go_enter Try.func58, Try.ntmps58
    go_wp2_with fail
    refine HI.out.mono ?_
    rintro e w2 ⟨rfl, hb2⟩
    go_wp2_with fail
    go_ret
    exact ⟨rfl, hb2⟩
  clear hr
  go_enter Try.func24, Try.ntmps24
  go_wp2_with fail
  refine HC.out.mono ?_
  rintro e w2 ⟨rfl, hb2⟩
  go_wp2_with fail
  go_ret
  exact ⟨rfl, hb2⟩
theorem rest_any (k : Int) (n : Nat) (h0 : 0 < n) (hn : n ≤ 1000000) (w : World) :
    Calls Try.prog 61 #[.int .i64 k, .int .i64 (n : Int)] w fun e w' => (∃ r : Nat, r < n ∧ e = .returned (.int .i64 (r : Int))) ∧ w' = w := by
  have b1 := Int.tmod_lt_of_pos k (show (0 : Int) < n by omega)
  have b2 := Int.lt_tmod_of_pos k (show (0 : Int) < n by omega)
  have g0 : ((n : Int) == 0) = false := by rw [beq_eq_false_iff_ne]; omega
  have g0' : (n == 0) = false := by rw [beq_eq_false_iff_ne]; omega
  generalize hz : Int.tmod k (n : Int) = z at *
  have HZ := Lib.hid hz
  by_cases hneg : z < 0
  · have g1 : decide (z < 0) = true := decide_eq_true hneg
    obtain ⟨r, hr⟩ : ∃ r : Nat, z + (n : Int) = (r : Int) := ⟨(z + n).toNat, by omega⟩
    have HR := Lib.hid hr
    have hrn : r < n := by omega
    clear hneg hr
    go_enter Try.func61, Try.ntmps61
    go_wp2_with fail
    go_ret
    exact ⟨⟨r, hrn, by rw [HR.out]; rfl⟩, rfl⟩
  · have g1 : decide (z < 0) = false := decide_eq_false hneg
    obtain ⟨r, hr⟩ : ∃ r : Nat, z = (r : Int) := ⟨z.toNat, by omega⟩
    have HR := Lib.hid hr
    have hrn : r < n := by omega
    clear hneg hr
    go_enter Try.func61, Try.ntmps61
    go_wp2_with fail
    go_ret
    exact ⟨⟨r, hrn, by rw [HR.out]; rfl⟩, rfl⟩
theorem within_any (k : Int) (n : Nat) (h0 : 0 < n) (hn : n ≤ 1000000) (w : World) :
    Calls Try.prog 26 #[.int .i64 k, .int .i64 (n : Int)] w fun e w' => (∃ r : Nat, r < n ∧ e = .returned (.int .i64 (r : Int))) ∧ w' = w := by
  have HR := Lib.hid (rest_any k n h0 hn w)
  go_enter Try.func26, Try.ntmps26
  go_wp2_with fail
  refine HR.out.mono ?_
  rintro e w2 ⟨⟨r, hr, rfl⟩, rfl⟩
  go_wp2_with fail
  go_ret
  exact ⟨⟨r, hr, rfl⟩, rfl⟩
end Go.Proofs.Ytllcmmpepchieaa
