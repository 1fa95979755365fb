/- script.Write. -/
import Derived.Test.YtmikckhihfcooaaGreatDoorScrA
import Derived.Test.YtmikckhihfcooaaGreatDoorScrC
import Derived.Lib.SmallJoins
import Derived.Lib.ItoaLen
namespace Go.Proofs.YtmikckhihfcooaaGreatDoor
open Go.RowKit
def wrE (x : Ed) : List UInt8 := Lib.itoa x.at_ ++ ([32] ++ (Lib.itoa x.del ++ ([32] ++ (Lib.itoa (x.ins.length : Int) ++ ([58] ++ (x.ins ++ [59]))))))
def wrL (l : List Ed) : List UInt8 := l.flatMap wrE
theorem wrL_snoc {l : List Ed} {k : Nat} (hk : k < l.length) : wrL (l.take (k + 1)) = wrL (l.take k) ++ wrE l[k] := by
  unfold wrL
  rw [List.take_add_one, List.getElem?_eq_getElem hk, List.flatMap_append]; simp
def TabI (w : World) : Prop := Lib.TabIs Tryz.prog w "internal/strconv.uint64pow10" .u64 Lib.pow10Tab
theorem itoa_any (n : Int) (h0 : -9223372036854775808 ≤ n) (h1 : n ≤ 9223372036854775807) {w W : World} (ht : TabI w) (hb : Below w.heap.size w W) :
    Calls Tryz.prog 37 #[.int .i64 n] W fun e w' => e = .returned (.string (S (Lib.itoa n))) ∧ Below W.heap.size W w' := by
  refine (Tryz.strconv_Itoa n h0 h1 W (Go.Joins.tab_stays (g := Tryz.prog.globalNamed "internal/strconv.uint64pow10" |>.getD 0) (by kernel_rfl) ht hb (Nat.le_refl _))).mono ?_
  rintro e w' ⟨rfl, k, os, rfl⟩
  exact ⟨rfl, below_regrown W _ os⟩
theorem scrOne_zero {x : Ed} (h : scrOne x = 0) : 0 ≤ x.at_ ∧ x.at_ ≤ 200 ∧ 0 ≤ x.del ∧ x.del ≤ 200 ∧ x.ins.length ≤ 40 := by
  unfold scrOne at h
  split at h
  · cases h
  · split at h
    · cases h
    · omega
theorem wr_cat (a n1 n2 n3 xi : List UInt8) : S a ++ (S n1 ++ ⟨#[32]⟩ ++ S n2 ++ ⟨#[32]⟩ ++ S n3 ++ ⟨#[58]⟩ ++ S xi ++ ⟨#[59]⟩) = S (a ++ (n1 ++ ([32] ++ (n2 ++ ([32] ++ (n3 ++ ([58] ++ (xi ++ [59])))))))) := by
  have e1 : (⟨#[32]⟩ : ByteArray) = S [32] := rfl
  have e2 : (⟨#[58]⟩ : ByteArray) = S [58] := rfl
  have e3 : (⟨#[59]⟩ : ByteArray) = S [59] := rfl
  rw [e1, e2, e3]
  simp only [append_S, L_S, List.append_assoc]
set_option maxRecDepth 100000 in
set_option maxHeartbeats 16000000 in
theorem write_any (l : List Ed) (A : Option Addr) (m c B : Nat) (w : World) (hr : Rd w B 3 A m (edCells l)) (hB : B ≤ w.heap.size) (hm : m ≤ 9223372036854775807) (ht : TabI w) :
    Calls Tryz.prog 24 #[.slice A m c] w fun e w' => e = .returned (.tuple #[.string (if scrErr l = 0 then S (wrL l) else ⟨#[]⟩), .int .i64 (scrErr l)]) ∧ Below w.heap.size w w' := by
  have HCK := Lib.hid (fun W (hb : Below w.heap.size w W) => scrCheck_any l A m c B W (hr.below (hb.mono hB)) (Nat.le_trans hB hb.size) hm)
  have hlen := Rd.rec_len ed_len (by omega) hr
  have HR := Lib.hid hr; clear hr
  have HL := Lib.hid hlen; clear hlen
  by_cases hz : scrErr l = 0
  · have hall := (scrErr_zero.1 hz).2
    have HALL : Hid (∀ k (h : k < l.length), scrOne l[k] = 0) := fun k h => hall _ (List.getElem_mem h)
    rw [if_pos hz, hz]
    rw [hz] at HCK
    have hm20 : m ≤ 20 := by have := (scrErr_zero.1 hz).1; have := HL.out; omega
    clear hall hz
    go_enter Tryz.func24, Tryz.ntmps24
    go_wp2_with fail
    refine (HCK.out _ (by repeat (first | exact Below.refl _ _ | assumption | refine Below.alloc ?_ (by first | exact Nat.le_refl _ | assumption | omega | (simp <;> omega)) _ | refine Below.setCell ?_ (by first | exact Nat.le_refl _ | assumption | omega | (simp <;> omega)) _ | refine Below.drew ?_ | refine below_drewN ?_ _))).mono ?_
    rintro e w1 ⟨rfl, hb1⟩
    go_wp2_with fail
    go_loopw [5, 15] (fun ov iv wr => ∃ (k : Nat) (O : ByteArray), k ≤ m ∧ iv = .int .i64 k ∧ ov = .string O ∧ O.size ≤ 120 * k ∧ Hid (O = S (wrL (l.take k))) ∧ Below w.heap.size w wr)
      (fun _ i _ => m - (intOf i).toNat)
    case atStart => exact ⟨0, ⟨#[]⟩, Nat.zero_le _, rfl, rfl, Nat.le_refl _, Lib.hid rfl, hb1⟩
    case round =>
      obtain ⟨k, O, hk, rfl, rfl, hOs, HO, hb⟩ := hrel
      have hbs := hb.size
      by_cases hlt : k < m
      · obtain ⟨ad, hl, rfl, hab, c0, c1, c2⟩ := (HR.out.below (hb.mono hB)).at_ed hlt
        obtain ⟨hx0, hx1, hx2, hx3, hx4⟩ := scrOne_zero (HALL.out k hl)
        have HSN := Lib.hid (wrL_snoc hl)
        have hzz : (S l[k].ins).size = l[k].ins.length := S_size _
        have HZ := Lib.hid hzz; clear hzz
        generalize l[k] = x at *
        obtain ⟨xa, xd, xi⟩ := x
        simp only at c0 c1 c2 HZ hx0 hx1 hx2 hx3 hx4
        have HI0 := Lib.hid (fun W (hW : Below w.heap.size w W) => itoa_any xa (by omega) (by omega) ht hW)
        have HI1 := Lib.hid (fun W (hW : Below w.heap.size w W) => itoa_any xd (by omega) (by omega) ht hW)
        have HI2 := Lib.hid (fun W (hW : Below w.heap.size w W) => itoa_any ((S xi).size : Int) (by rw [HZ.out]; omega) (by rw [HZ.out]; omega) ht hW)
        have HEX : Hid (O ++ (S (Lib.itoa xa) ++ ⟨#[32]⟩ ++ S (Lib.itoa xd) ++ ⟨#[32]⟩ ++ S (Lib.itoa ((S xi).size : Int)) ++ ⟨#[58]⟩ ++ S xi ++ ⟨#[59]⟩) = S (wrL (l.take (k + 1)))) := by
          unfold Hid
          rw [HO.out, wr_cat, HSN.out, HZ.out]; rfl
        have z0 : (S (Lib.itoa xa)).size ≤ 21 := by rw [S_size]; exact Lib.itoa_length_le _ (by omega) (by omega)
        have z1 : (S (Lib.itoa xd)).size ≤ 21 := by rw [S_size]; exact Lib.itoa_length_le _ (by omega) (by omega)
        have z2 : (S (Lib.itoa ((S xi).size : Int))).size ≤ 21 := by rw [S_size]; exact Lib.itoa_length_le _ (by rw [HZ.out]; omega) (by rw [HZ.out]; omega)
        have z3 : (S xi).size ≤ 40 := by rw [HZ.out]; omega
        clear HO HSN HZ hx0 hx1 hx2 hx3 hx4
        generalize S (Lib.itoa ((S xi).size : Int)) = Y2 at *
        generalize S (Lib.itoa xa) = Y0 at *
        generalize S (Lib.itoa xd) = Y1 at *
        generalize S xi = X at *
        have g1 : decide ((k : Int) < (m : Int)) = true := decide_eq_true (by omega)
        have g1' : decide (k < m) = true := decide_eq_true hlt
        go_wp2_with fail
        have hbA : Below wr.heap.size wr (wr.alloc (.cells #[.int .i64 xa, .int .i64 xd, .string X] 67)) := (Below.refl _ _).alloc (Nat.le_refl _) _
        have c0' : (wr.alloc (.cells #[.int .i64 xa, .int .i64 xd, .string X] 67)).cell? ⟨wr.heap.size, 0, none⟩ = some (.int .i64 xa) := by simp
        have c1' : (wr.alloc (.cells #[.int .i64 xa, .int .i64 xd, .string X] 67)).cell? ⟨wr.heap.size, 1, none⟩ = some (.int .i64 xd) := by simp
        have c3' : (wr.alloc (.cells #[.int .i64 xa, .int .i64 xd, .string X] 67)).cell? ⟨wr.heap.size, 2, none⟩ = some (.string X) := by simp
        have hB12 := bthen hb hbA
        have hsB := hB12.size
        generalize (wr.alloc (.cells #[.int .i64 xa, .int .i64 xd, .string X] 67)) = wa at *
        have c0r := cell_regrown c0'; have c1r := cell_regrown c1'; have c3r := cell_regrown c3'
        refine wp_region_quiet_below (by kernel_rfl) (by kernel_rfl) ?_
        repeat (go_big_quiet_step ((first
          | (go_at_call_of 37 (Value.int .i64 xa); exact Calls.regrown_of (HI0.out _ (hB12.trans ((below_regrown _ _ _).mono hsB))))
          | (go_at_call_of 37 (Value.int .i64 xd); exact Calls.regrown_of (HI1.out _ (hB12.trans ((below_regrown _ _ _).mono hsB))))
          | (go_at_call_of 37 (Value.int .i64 (X.size : Int)); exact Calls.regrown_of (HI2.out _ (hB12.trans ((below_regrown _ _ _).mono hsB)))))))
        refine wpQuiet_nil ?_
        intro w5 hb50
        have hb5 := below_of_regrown hb50
        clear hb50
        go_wp2_with fail
        go_roundw
        case rel => exact ⟨k + 1, _, by omega, by go_num, rfl, by simp only [ByteArray.size_append]; have e1 : (⟨#[32]⟩ : ByteArray).size = 1 := rfl; have e2 : (⟨#[58]⟩ : ByteArray).size = 1 := rfl; have e3 : (⟨#[59]⟩ : ByteArray).size = 1 := rfl; omega, HEX, bthen hB12 hb5⟩
        case measure => simp [intOf]; omega
      · have hkm : k = m := by omega
        subst hkm
        have g1 : decide ((k : Int) < (k : Int)) = false := decide_eq_false (by omega)
        have g1' : decide (k < k) = false := decide_eq_false hlt
        have HF : Hid (O = S (wrL l)) := by
          have := HO.out
          rw [List.take_of_length_le (by rw [HL.out]; exact Nat.le_refl _)] at this
          exact this
        clear HO
        go_wp2_with fail
        go_ret2
        rw [HF.out]
        exact ⟨rfl, hb⟩
  · rw [if_neg hz]
    have g1 : (scrErr l != (0 : Int)) = true := by rw [bne_iff_ne]; exact hz
    clear hz
    generalize scrErr l = z at *
    go_enter Tryz.func24, Tryz.ntmps24
    go_wp2_with fail
    refine (HCK.out _ (by repeat (first | exact Below.refl _ _ | assumption | refine Below.alloc ?_ (by first | exact Nat.le_refl _ | assumption | omega | (simp <;> omega)) _ | refine Below.setCell ?_ (by first | exact Nat.le_refl _ | assumption | omega | (simp <;> omega)) _ | refine Below.drew ?_ | refine below_drewN ?_ _))).mono ?_
    rintro e w1 ⟨rfl, hb1⟩
    go_wp2_with fail
    go_ret2
    exact ⟨rfl, hb1⟩
end Go.Proofs.YtmikckhihfcooaaGreatDoor
