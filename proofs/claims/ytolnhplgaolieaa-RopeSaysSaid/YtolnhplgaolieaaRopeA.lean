/- rope.Check, rope.Text and the document's errors of a rope. -/
import Derived.Test.YtolnhplgaolieaaRope0
import Derived.Test.YtolnhplgaolieaaJoinS
import Derived.Test.YtolnhplgaolieaaEditW
import Derived.Test.YtolnhplgaolieaaDistN
namespace Go.Proofs.Ytolnhplgaolieaa
open Go.RowKit
/-- A rope as a value. -/
def ropeV (A : Option Addr) (n c : Nat) : Value := .agg #[.slice A n c]
theorem strCells_len' {p : Parts} {w : World} {B n : Nat} {A : Option Addr} (h : Rd w B 1 A n (strCells p)) : p.length = n := by have := h.1; simpa [strCells] using this
set_option maxRecDepth 100000 in
set_option maxHeartbeats 4000000 in
theorem ropeCheck_any (p : Parts) (A : Option Addr) (n c B : Nat) (w : World) (hr : Rd w B 1 A n (strCells p)) (hB : B ≤ w.heap.size) (hn : n ≤ 9223372036854775807) (hsz : ∀ x ∈ p, x.length ≤ 9223372036854775807) :
    Calls Try.prog 69 #[.agg #[.slice A n c]] w fun e w' => e = .returned (.int .i64 (ropeErr p)) ∧ Below w.heap.size w w' := by
  have hpn := strCells_len' hr
  have hb0 : Below w.heap.size w (w.alloc (.cells #[.slice A n c] 89)) := (by repeat (first | exact Below.refl _ _ | assumption | refine Below.alloc ?_ (by first | exact Nat.le_refl _ | assumption | omega | (simp <;> omega)) _ | refine Below.setCell ?_ (by first | exact Nat.le_refl _ | assumption | omega | (simp <;> omega)) _ | refine Below.drew ?_ | refine below_drewN ?_ _))
  have HR : Hid (Rd (w.alloc (.cells #[.slice A n c] 89)) B 1 A n (strCells p)) := hr.alloc hB _
  have HSZ := Lib.hid hsz
  have HPN := Lib.hid hpn
  clear hr hsz hpn
  by_cases h60 : 60 < n
  · have g1 : decide ((60 : Int) < (n : Int)) = true := decide_eq_true (by omega)
    have HE : Hid (ropeErr p = 2) := by unfold Hid ropeErr; rw [HPN.out, if_pos h60]
    go_enter Try.func69, Try.ntmps69
    go_wp2_with fail
    go_ret
    rw [HE.out]
    exact ⟨rfl, hb0⟩
  have g1 : decide ((60 : Int) < (n : Int)) = false := decide_eq_false (by omega)
  have HE : Hid (ropeErr p = ropeGo 0 p) := by unfold Hid ropeErr; rw [HPN.out, if_neg h60]
  go_enter Try.func69, Try.ntmps69
  go_wp2_with fail
  generalize hw1 : (w.alloc (.cells #[.slice A n c] 89)) = w1 at *
  clear hw1
  go_loopw [3, 13] (fun s i wr => ∃ k : Nat, k ≤ n ∧ i = .int .i64 (k : Int) ∧ s = .int .i64 (tot (p.take k) : Nat) ∧ tot (p.take k) ≤ 200 ∧ ropeGo 0 p = ropeGo (tot (p.take k)) (p.drop k) ∧ wr = w1) (fun _ i _ => n - (intOf i).toNat)
  case atStart => exact ⟨0, Nat.zero_le _, rfl, rfl, Nat.zero_le _, rfl, rfl⟩
  case round =>
    obtain ⟨k, hk, rfl, rfl, ht, hgo, rfl⟩ := hrel
    have HGO := Lib.hid hgo
    clear hgo
    by_cases hlt : k < n
    · have g2 : decide ((k : Int) < (n : Int)) = true := decide_eq_true (by omega)
      obtain ⟨ad, rfl, hab, hc⟩ := str_cell HR.out hlt
      have hts := tot_succ p (k := k) (by rw [HPN.out]; exact hlt)
      have HTS := Lib.hid hts
      have hxl : (p.getD k []).length ≤ 9223372036854775807 := by
        have hkp : k < p.length := by rw [HPN.out]; exact hlt
        rw [List.getD_eq_getElem?_getD, List.getElem?_eq_getElem hkp]
        exact HSZ.out _ (List.getElem_mem hkp)
      have HST : Hid (ropeGo (tot (p.take k)) (p.drop k) = if (p.getD k []).length = 0 then 5 else if 200 < tot (p.take k) + (p.getD k []).length then 2 else ropeGo (tot (p.take k) + (p.getD k []).length) (p.drop (k + 1))) := by
        have hkp : k < p.length := by rw [HPN.out]; exact hlt
        unfold Hid
        conv => lhs; rw [List.drop_eq_getElem_cons hkp, ropeGo]
        rw [List.getD_eq_getElem?_getD, List.getElem?_eq_getElem hkp]; rfl
      clear hts
      have hxs := S_size (p.getD k [])
      have hxe := isEmpty_size (p.getD k [])
      generalize p.getD k [] = x at *
      generalize tot (p.take k) = t at *
      by_cases h0 : x.length = 0
      · have g3 : (S x).toList.isEmpty = true := by rw [hxe, decide_eq_true h0]
        have HF : Hid (ropeErr p = 5) := by unfold Hid; rw [HE.out, HGO.out, HST.out, if_pos h0]
        clear hxe
        go_wp2_with fail
        go_ret
        rw [HF.out]
        exact ⟨rfl, hb0⟩
      · have g3 : (S x).toList.isEmpty = false := by rw [hxe, decide_eq_false h0]
        have g3' : ((S x).toList == []) = false := by
          rw [beq_eq_false_iff_ne]; intro h; rw [h] at g3; cases g3
        clear hxe
        by_cases h2 : 200 < t + x.length
        · have HF : Hid (ropeErr p = 2) := by unfold Hid; rw [HE.out, HGO.out, HST.out, if_neg h0, if_pos h2]
          have g4 : decide ((200 : Int) - (t : Int) < ((S x).size : Int)) = true := decide_eq_true (by omega)
          go_wp2_with fail
          go_ret
          rw [HF.out]
          exact ⟨rfl, hb0⟩
        · have g4 : decide ((200 : Int) - (t : Int) < ((S x).size : Int)) = false := decide_eq_false (by omega)
          have HN : Hid (ropeGo 0 p = ropeGo (t + x.length) (p.drop (k + 1))) := by unfold Hid; rw [HGO.out, HST.out, if_neg h0, if_neg h2]
          go_wp2_with fail
          go_roundw
          case rel =>
            refine ⟨k + 1, by omega, by go_num, ?_, by rw [HTS.out]; omega, by rw [HTS.out]; exact HN.out, by first | rfl | trivial⟩
            rw [HTS.out, ← hxs]; go_num
          case measure => simp [intOf]; omega
    · obtain rfl : k = n := by omega
      have g2 : decide ((k : Int) < (k : Int)) = false := by simp
      have HF : Hid (ropeErr p = 0) := by
        unfold Hid; rw [HE.out, HGO.out, List.drop_of_length_le (by rw [HPN.out]; exact Nat.le_refl _)]; rfl
      go_wp2_with fail
      go_ret
      rw [HF.out]
      exact ⟨rfl, hb0⟩
set_option maxRecDepth 100000 in
set_option maxHeartbeats 4000000 in
theorem ropeErrR_any (p : Parts) (A : Option Addr) (n c B : Nat) (w : World) (hr : Rd w B 1 A n (strCells p)) (hB : B ≤ w.heap.size) (hn : n ≤ 9223372036854775807) (hnc : n ≤ c) (hsz : ∀ x ∈ p, x.length ≤ 140737488351232) :
    Calls Try.prog 68 #[.agg #[.slice A n c]] w fun e w' => e = .returned (.int .i64 (ropeErr p)) ∧ Below w.heap.size w w' := by
  have hpn := strCells_len' hr
  have hb0 : Below w.heap.size w (w.alloc (.cells #[.slice A n c] 89)) := (by repeat (first | exact Below.refl _ _ | assumption | refine Below.alloc ?_ (by first | exact Nat.le_refl _ | assumption | omega | (simp <;> omega)) _ | refine Below.setCell ?_ (by first | exact Nat.le_refl _ | assumption | omega | (simp <;> omega)) _ | refine Below.drew ?_ | refine below_drewN ?_ _))
  have HR : Hid (Rd (w.alloc (.cells #[.slice A n c] 89)) B 1 A n (strCells p)) := hr.alloc hB _
  have HSZ := Lib.hid hsz
  have HPN := Lib.hid hpn
  clear hr hsz hpn
  by_cases h60 : 60 < n
  · have g1 : decide ((60 : Int) < (n : Int)) = true := decide_eq_true (by omega)
    have HE : Hid (ropeErr p = 2) := by unfold Hid ropeErr; rw [HPN.out, if_pos h60]
    go_enter Try.func68, Try.ntmps68
    go_wp2_with fail
    go_ret
    rw [HE.out]
    exact ⟨rfl, hb0⟩
  have g1 : decide ((60 : Int) < (n : Int)) = false := decide_eq_false (by omega)
  have HE : Hid (ropeErr p = ropeGo 0 p) := by unfold Hid ropeErr; rw [HPN.out, if_neg h60]
  have HB0 : Hid (Blk (w.alloc (.cells #[.slice A n c] 89)) w.heap.size 89 #[.slice A n c]) := Blk.new_ _ _ _
  have hbz : B ≤ (w.alloc (.cells #[.slice A n c] 89)).heap.size := by simp; omega
  go_enter Try.func68, Try.ntmps68
  go_wp2_with fail
  generalize (w.alloc (.cells #[.slice A n c] 89)) = w1 at *
  have hg1 := HB0.out.lt
  go_loopw [13] (fun i wr => ∃ k : Nat, k ≤ n ∧ i = .int .i64 (k : Int) ∧ tot (p.take k) ≤ 200 ∧ ropeGo 0 p = ropeGo (tot (p.take k)) (p.drop k) ∧ Below w1.heap.size w1 wr) (fun i _ => n - (intOf i).toNat)
  case atStart => exact ⟨0, Nat.zero_le _, rfl, Nat.zero_le _, rfl, Below.refl _ _⟩
  case round =>
    obtain ⟨k, hk, rfl, ht, hgo, hb⟩ := hrel
    have HGO := Lib.hid hgo
    clear hgo
    have HR1 := Lib.hid (HR.out.below (hb.mono hbz))
    have q0 := Blk.cell0 (HB0.out.below' hb)
    have hbk := hb.size
    by_cases hlt : k < n
    · have g2 : decide ((k : Int) < (n : Int)) = true := decide_eq_true (by omega)
      obtain ⟨ad, rfl, hab, hc⟩ := str_cell HR1.out hlt
      have hkp : k < p.length := by rw [HPN.out]; exact hlt
      have hts := tot_succ p (k := k) hkp
      have HTS := Lib.hid hts
      have hxl : (p.getD k []).length ≤ 140737488351232 := by
        rw [List.getD_eq_getElem?_getD, List.getElem?_eq_getElem hkp]
        exact HSZ.out _ (List.getElem_mem hkp)
      have HST : Hid (ropeGo (tot (p.take k)) (p.drop k) = if (p.getD k []).length = 0 then 5 else if 200 < tot (p.take k) + (p.getD k []).length then 2 else ropeGo (tot (p.take k) + (p.getD k []).length) (p.drop (k + 1))) := by
        unfold Hid
        conv => lhs; rw [List.drop_eq_getElem_cons hkp, ropeGo]
        rw [List.getD_eq_getElem?_getD, List.getElem?_eq_getElem hkp]; rfl
      have HJ : Hid (∀ w', Below w1.heap.size w1 w' → Calls Try.prog 34 #[.slice (some ad) (k + 1) c, .string ⟨#[]⟩] w' fun e w'' => e = .returned (.string (S (p.take (k + 1)).flatten)) ∧ Below w'.heap.size w' w'') := fun w' hb' => by
        have hrd := HR.out.below (hb'.mono hbz)
        have hrt : Rd w' B 1 (some ad) (k + 1) (strCells (p.take (k + 1))) := by
          refine ⟨by rw [strCells, List.length_map, List.length_take]; omega, fun _ => ?_⟩
          obtain ⟨ad', e, h1, h2⟩ := hrd.2 (by omega)
          refine ⟨ad', e, h1, fun j u hu => h2 j u ?_⟩
          rw [strCells, List.map_take] at hu
          have hj : j < k + 1 := by
            have := (List.getElem?_eq_some_iff.1 hu).1
            rw [List.length_take] at this; omega
          rw [List.getElem?_take_of_lt hj] at hu
          exact hu
        exact joinS _ _ (k + 1) c B w' hrt (by have := hb'.size; omega) (by omega) (by omega) (by show tot (p.take (k + 1)) ≤ _; rw [hts]; omega)
      have hfs : (S (p.take (k + 1)).flatten).size = tot (p.take k) + (p.getD k []).length := by rw [S_size]; exact hts
      clear hts
      have hxs := S_size (p.getD k [])
      have hxe := isEmpty_size (p.getD k [])
      generalize S (p.take (k + 1)).flatten = F at *
      generalize p.getD k [] = x at *
      generalize tot (p.take k) = t at *
      by_cases h0 : x.length = 0
      · have g3 : (S x).toList.isEmpty = true := by rw [hxe, decide_eq_true h0]
        have HF : Hid (ropeErr p = 5) := by unfold Hid; rw [HE.out, HGO.out, HST.out, if_pos h0]
        clear hxe
        go_wp2_with fail
        go_ret
        rw [HF.out]
        exact ⟨rfl, hb0.trans (hb.mono (by omega))⟩
      · have g3 : (S x).toList.isEmpty = false := by rw [hxe, decide_eq_false h0]
        have g3' : ((S x).toList == []) = false := by
          rw [beq_eq_false_iff_ne]; intro h; rw [h] at g3; cases g3
        clear hxe
        by_cases h2 : 200 < t + x.length
        · have HF : Hid (ropeErr p = 2) := by unfold Hid; rw [HE.out, HGO.out, HST.out, if_neg h0, if_pos h2]
          have g4 : decide ((200 : Int) < (F.size : Int)) = true := decide_eq_true (by omega)
          go_wp2_with fail
          refine (HJ.out _ hb).mono ?_
          rintro e w5 ⟨rfl, hb5⟩
          go_wp2_with fail
          go_ret
          rw [HF.out]
          exact ⟨rfl, hb0.trans ((bthen hb hb5).mono (by omega))⟩
        · have g4 : decide ((200 : Int) < (F.size : Int)) = false := decide_eq_false (by omega)
          have HN : Hid (ropeGo 0 p = ropeGo (t + x.length) (p.drop (k + 1))) := by unfold Hid; rw [HGO.out, HST.out, if_neg h0, if_neg h2]
          go_wp2_with fail
          refine (HJ.out _ hb).mono ?_
          rintro e w5 ⟨rfl, hb5⟩
          go_wp2_with fail
          go_roundw
          case rel => exact ⟨k + 1, by omega, by go_num, by rw [HTS.out]; omega, by rw [HTS.out]; exact HN.out, bthen hb hb5⟩
          case measure => simp [intOf]; omega
    · obtain rfl : k = n := by omega
      have g2 : decide ((k : Int) < (k : Int)) = false := by simp
      have HF : Hid (ropeErr p = 0) := by
        unfold Hid; rw [HE.out, HGO.out, List.drop_of_length_le (by rw [HPN.out]; exact Nat.le_refl _)]; rfl
      go_wp2_with fail
      go_ret
      rw [HF.out]
      exact ⟨rfl, hb0.trans (hb.mono (by omega))⟩
/-- What Text answers. -/
def textV (p : Parts) : List UInt8 := if ropeErr p = 0 then p.flatten else []
set_option maxRecDepth 100000 in
set_option maxHeartbeats 4000000 in
theorem ropeText_any (p : Parts) (A : Option Addr) (n c B : Nat) (w : World) (hr : Rd w B 1 A n (strCells p)) (hB : B ≤ w.heap.size) (hn : n ≤ 9223372036854775807) (hnc : n ≤ c) (hsz : ∀ x ∈ p, x.length ≤ 9223372036854775807) :
    Calls Try.prog 62 #[.agg #[.slice A n c]] w fun e w' => e = .returned (.tuple #[.string (S (textV p)), .int .i64 (ropeErr p)]) ∧ Below w.heap.size w w' := by
  have hpn := strCells_len' hr
  have hb0 : Below w.heap.size w (w.alloc (.cells #[.slice A n c] 89)) := (by repeat (first | exact Below.refl _ _ | assumption | refine Below.alloc ?_ (by first | exact Nat.le_refl _ | assumption | omega | (simp <;> omega)) _ | refine Below.setCell ?_ (by first | exact Nat.le_refl _ | assumption | omega | (simp <;> omega)) _ | refine Below.drew ?_ | refine below_drewN ?_ _))
  have HR : Hid (Rd (w.alloc (.cells #[.slice A n c] 89)) B 1 A n (strCells p)) := hr.alloc hB _
  have HB0 : Hid (Blk (w.alloc (.cells #[.slice A n c] 89)) w.heap.size 89 #[.slice A n c]) := Blk.new_ _ _ _
  have hbz : B ≤ (w.alloc (.cells #[.slice A n c] 89)).heap.size := by simp; omega
  have HCK := Lib.hid (ropeCheck_any p A n c B _ HR.out hbz hn hsz)
  have HPN := Lib.hid hpn
  clear hr hsz hpn
  by_cases he : ropeErr p = 0
  · have HV : Hid (textV p = p.flatten) := by unfold Hid textV; rw [if_pos he]
    have HOK := Lib.hid (ropeErr_zero.1 he)
    have HE := Lib.hid he
    clear he
    rw [HE.out] at HCK
    go_enter Try.func62, Try.ntmps62
    go_wp2_with fail
    refine (HCK.out).mono ?_
    rintro e w2 ⟨rfl, hb2⟩
    have q0 := Blk.cell0 (HB0.out.below' hb2)
    have HR2 := Lib.hid (HR.out.below (hb2.mono hbz))
    have hz2 := hb2.size
    go_wp2_with fail
    refine (joinS p A n c B _ HR2.out (by omega) hnc (by have := HOK.out.n; have := HPN.out; omega) (by have := HOK.out.t; unfold tot at this; omega)).mono ?_
    rintro e w3 ⟨rfl, hb3⟩
    go_wp2_with fail
    go_ret2
    rw [HV.out, HE.out]
    exact ⟨rfl, hb0.trans ((bthen hb2 hb3).mono (by simp))⟩
  · have HV : Hid (textV p = []) := by unfold Hid textV; rw [if_neg he]
    have g1 : (ropeErr p != 0) = true := by rw [bne_iff_ne]; exact he
    have g2 : (ropeErr p == 0) = false := by rw [beq_eq_false_iff_ne]; exact he
    clear he
    generalize ropeErr p = e0 at *
    go_enter Try.func62, Try.ntmps62
    go_wp2_with fail
    refine (HCK.out).mono ?_
    rintro e w2 ⟨rfl, hb2⟩
    go_wp2_with fail
    go_ret2
    rw [HV.out]
    exact ⟨rfl, hb0.trans (hb2.mono (by simp))⟩
end Go.Proofs.Ytolnhplgaolieaa
