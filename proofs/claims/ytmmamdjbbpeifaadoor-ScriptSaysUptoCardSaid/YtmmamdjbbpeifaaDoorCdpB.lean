/- code.Check and the document's CodeErr. -/
import Derived.Test.YtmmamdjbbpeifaaDoorShelf
import Derived.Test.YtmmamdjbbpeifaaDoorCdpA
import Derived.Test.YtmmamdjbbpeifaaDoorCdp0
import Derived.Shelf.Strings.SlTrimAscii
namespace Go.Proofs.YtmmamdjbbpeifaaDoor
open Go.RowKit
theorem trim_bits (X : ByteArray) (hX : X.size ≤ 9223372036854775807) (W : World) :
    Calls Tryd.prog 39 #[.string X, .string ⟨#[48, 49]⟩] W fun e W' => e = .returned (.string (S (Lib.trimS (L X) [48, 49]))) ∧ Below W.heap.size W W' :=
  Any.strings_Trim_laid Tryd.lays160 (by kernel_rfl) X ⟨#[48, 49]⟩ W (by omega) (by decide) (ascii_of_all (by decide))
theorem emp_facts (p : ByteArray) : (p.size = 0 → (p.toList == []) = true ∧ p.toList.isEmpty = true) ∧ (p.size ≠ 0 → (p.toList == []) = false ∧ p.toList.isEmpty = false) := by
  constructor
  · intro h0
    have hpe : p.data.toList = [] := List.eq_nil_of_length_eq_zero (by rw [blen]; exact h0)
    rw [ByteArray.toList_eq, hpe]
    exact ⟨rfl, rfl⟩
  · intro h0
    have hpe : p.data.toList ≠ [] := fun h => h0 (by rw [← blen, h]; rfl)
    rw [ByteArray.toList_eq]
    exact ⟨by rw [beq_eq_false_iff_ne]; exact hpe, by rw [List.isEmpty_eq_false_iff]; exact hpe⟩
theorem strCells_pre (l : List (List UInt8)) (k : Nat) : (strCells l).take k = strCells (l.take k) := by simp [strCells, List.map_take]
theorem Rd.pre {w : World} {B n k : Nat} {A : Option Addr} {l : List (List UInt8)} (h : Rd w B 1 A n (strCells l)) (hk : k ≤ n) : Rd w B 1 A k (strCells (l.take k)) := by
  refine ⟨?_, fun h0 => ?_⟩
  · have := h.1
    simp only [strCells, List.length_map] at this ⊢
    rw [List.length_take]; omega
  · obtain ⟨ad, h1, h2, h3⟩ := h.2 (by omega)
    refine ⟨ad, h1, h2, fun j u hu => h3 j u ?_⟩
    rw [← strCells_pre] at hu
    rw [List.getElem?_take] at hu
    split at hu
    · exact hu
    · cases hu
set_option maxRecDepth 100000 in
set_option maxHeartbeats 8000000 in
theorem codeCheck_any (A : Option Addr) (n c B : Nat) (l : List (List UInt8)) (w : World) (hr : Rd w B 1 A n (strCells l)) (hn : n ≤ c) (hB : B ≤ w.heap.size) (hx : ∀ x ∈ l, x.length ≤ maxLen) :
    Calls Tryd.prog 16 #[.slice A n c] w fun e w' => e = .returned (.int .i64 (codeErr l)) ∧ Below w.heap.size w w' := by
  have hl : l.length = n := by have := hr.1; simpa [strCells] using this
  have hml : maxLen ≤ 9223372036854775807 := by decide
  have HR := Lib.hid hr
  clear hr
  by_cases hbig : 12 < n
  · have HE : Hid (codeErr l = 2) := by unfold Hid codeErr; rw [if_pos (by omega)]
    have g1 : decide ((12 : Int) < (n : Int)) = true := decide_eq_true (by omega)
    go_enter Tryd.func16, Tryd.ntmps16
    go_wp2_with fail
    go_ret
    rw [HE.out]
    exact ⟨rfl, Below.refl _ _⟩
  have g0 : decide ((12 : Int) < (n : Int)) = false := decide_eq_false (by omega)
  go_enter Tryd.func16, Tryd.ntmps16
  go_wp2_with fail
  go_loopw [10] (fun iv wr => ∃ i : Nat, i ≤ n ∧ iv = .int .i64 (i : Int) ∧ Hid (errTo l i = 0) ∧ Below w.heap.size w wr) (fun iv _ => n - (intOf iv).toNat)
  case atStart => exact ⟨0, Nat.zero_le _, rfl, rfl, Below.refl _ _⟩
  case round =>
    obtain ⟨i, hi, rfl, HE, hb⟩ := hrel
    by_cases hlt : i < n
    · have g1 : decide ((i : Int) < (n : Int)) = true := decide_eq_true (by omega)
      have g1' : decide (i < n) = true := decide_eq_true hlt
      have hxi : (l.getD i []).length ≤ maxLen := hx _ (by rw [List.getD_eq_getElem?_getD, List.getElem?_eq_getElem (by omega)]; exact List.getElem_mem _)
      have HRr := HR.out.below (hb.mono hB)
      obtain ⟨ad, rfl, hab, c0⟩ := str_cell HRr hlt
      have HRi := Lib.hid (HRr.pre (k := i) hi)
      clear HRr
      have HBAD : Hid (∀ e : Int, wE (l.take i) (l.getD i []) = e → e ≠ 0 → codeErr l = e) := fun e h1 h2 => codeErr_bad (by omega) HE.out (by omega) h1 h2
      have HGO := Lib.hid (errTo_go HE.out)
      clear HE
      obtain ⟨u, hu⟩ : ∃ u, l.getD i [] = u := ⟨_, rfl⟩
      rw [hu] at c0 HBAD HGO hxi
      have HPRE : Hid (∀ W, Rd W B 1 (some ad) i (strCells (l.take i)) → Calls Tryd.prog 36 #[.slice (some ad) i c, .string (S u)] W fun e w' => e = .returned (.bool (decide (u ∈ l.take i))) ∧ w' = W) := fun W h => contains_str (some ad) i c B (l.take i) (S u) W h (by omega)
      generalize l.take i = pre at *
      clear hu
      obtain ⟨X, hX⟩ : ∃ X, S u = X := ⟨_, rfl⟩
      have hxz : X.size = u.length := by rw [← hX, S_size]
      have HLX : Hid (L X = u) := by rw [← hX]; exact L_S u
      rw [hX] at c0 HPRE
      clear hX
      by_cases h0 : u = []
      · have hz : X.size = 0 := by rw [hxz, h0]; rfl
        obtain ⟨g2, g3⟩ := (emp_facts X).1 hz
        have HV := Lib.hid (HBAD.out 5 (by rw [h0]; exact wE_5) (by decide))
        clear h0 hxz
        go_wp2_with fail
        go_ret
        rw [HV.out]
        exact ⟨rfl, hb⟩
      obtain ⟨g2, g3⟩ := (emp_facts X).2 (by rw [hxz]; intro h; exact h0 (List.eq_nil_of_length_eq_zero h))
      have H0 := Lib.hid h0
      clear h0
      by_cases h1 : 12 < u.length
      · have g4 : decide ((12 : Int) < (X.size : Int)) = true := decide_eq_true (by omega)
        have g4' : decide (12 < X.size) = true := decide_eq_true (by omega)
        have HV := Lib.hid (HBAD.out 2 (wE_2 h1) (by decide))
        clear h1 hxz
        go_wp2_with fail
        go_ret
        rw [HV.out]
        exact ⟨rfl, hb⟩
      have g4 : decide ((12 : Int) < (X.size : Int)) = false := decide_eq_false (by omega)
      have g4' : decide (12 < X.size) = false := decide_eq_false (by omega)
      have HTR := Lib.hid (trim_bits X (by omega))
      rw [HLX.out] at HTR
      cases hbit : u.all isBit with
      | false =>
        have HV := Lib.hid (HBAD.out 3 (wE_3 H0.out (by omega) hbit) (by decide))
        have ht : Lib.trimS u [48, 49] ≠ [] := fun h => by rw [trim_nil, hbit] at h; cases h
        obtain ⟨T, hT⟩ : ∃ T, S (Lib.trimS u [48, 49]) = T := ⟨_, rfl⟩
        have htz : T.size ≠ 0 := by rw [← hT, S_size]; intro h; exact ht (List.eq_nil_of_length_eq_zero h)
        obtain ⟨g5, g6⟩ := (emp_facts T).2 htz
        rw [hT] at HTR
        clear hT ht htz hbit hxz
        go_wp2_with fail
        refine (HTR.out _).mono ?_
        rintro e w2 ⟨rfl, hb2⟩
        go_wp2_with fail
        go_ret
        rw [HV.out]
        exact ⟨rfl, bthen hb hb2⟩
      | true =>
        have ht : Lib.trimS u [48, 49] = [] := (trim_nil u).2 hbit
        rw [ht] at HTR
        obtain ⟨T, hT⟩ : ∃ T, S ([] : List UInt8) = T := ⟨_, rfl⟩
        have htz : T.size = 0 := by rw [← hT, S_size]; rfl
        obtain ⟨g5, g6⟩ := (emp_facts T).1 htz
        rw [hT] at HTR
        clear hT htz
        cases hm : decide (u ∈ pre) with
        | true =>
          have HV := Lib.hid (HBAD.out 10 (wE_10 H0.out (by omega) hbit (of_decide_eq_true hm)) (by decide))
          rw [hm] at HPRE
          clear hm hbit hxz ht
          go_wp2_with fail
          refine (HTR.out _).mono ?_
          rintro e w2 ⟨rfl, hb2⟩
          go_wp2_with fail
          refine (HPRE.out _ (HRi.out.below (hb2.mono (Nat.le_trans hB hb.size)))).mono ?_
          rintro e w3 ⟨rfl, rfl⟩
          go_wp2_with fail
          go_ret
          rw [HV.out]
          exact ⟨rfl, bthen hb hb2⟩
        | false =>
          have HV : Hid (errTo l (i + 1) = 0) := by rw [Hid, HGO.out]; exact wE_0 H0.out (by omega) hbit (of_decide_eq_false hm)
          rw [hm] at HPRE
          clear hm hbit hxz ht
          go_wp2_with fail
          refine (HTR.out _).mono ?_
          rintro e w2 ⟨rfl, hb2⟩
          go_wp2_with fail
          refine (HPRE.out _ (HRi.out.below (hb2.mono (Nat.le_trans hB hb.size)))).mono ?_
          rintro e w3 ⟨rfl, rfl⟩
          go_wp2_with fail
          go_roundw
          case rel => exact ⟨i + 1, by omega, by go_num, HV, bthen hb hb2⟩
          case measure => simp [intOf]; omega
    · obtain rfl : i = n := by omega
      have g1 : decide ((i : Int) < (i : Int)) = false := decide_eq_false (by omega)
      have g1' : decide (i < i) = false := decide_eq_false hlt
      have HV : Hid (codeErr l = 0) := by
        unfold Hid codeErr
        rw [if_neg (by omega), hl]; exact HE.out
      go_wp2_with fail
      go_ret
      rw [HV.out]
      exact ⟨rfl, hb⟩
set_option maxRecDepth 100000 in
set_option maxHeartbeats 8000000 in
theorem refCodeErr_any (A : Option Addr) (n c B : Nat) (l : List (List UInt8)) (w : World) (hr : Rd w B 1 A n (strCells l)) (hn : n ≤ 9223372036854775807) (hx : ∀ x ∈ l, x.length ≤ maxLen) :
    Calls Tryd.prog 15 #[.slice A n c] w fun e w' => e = .returned (.int .i64 (codeErr l)) ∧ w' = w := by
  have hl : l.length = n := by have := hr.1; simpa [strCells] using this
  have hml : maxLen ≤ 9223372036854775807 := by decide
  have HR := Lib.hid hr
  clear hr
  by_cases hbig : 12 < n
  · have HE : Hid (codeErr l = 2) := by unfold Hid codeErr; rw [if_pos (by omega)]
    have g1 : decide ((12 : Int) < (n : Int)) = true := decide_eq_true (by omega)
    go_enter Tryd.func15, Tryd.ntmps15
    go_wp2_with fail
    go_ret
    rw [HE.out]
    exact ⟨rfl, rfl⟩
  have g0 : decide ((12 : Int) < (n : Int)) = false := decide_eq_false (by omega)
  go_enter Tryd.func15, Tryd.ntmps15
  go_wp2_with fail
  go_loopw [10] (fun iv wr => ∃ i : Nat, i ≤ n ∧ iv = .int .i64 (i : Int) ∧ Hid (errTo l i = 0) ∧ wr = w) (fun iv _ => n - (intOf iv).toNat)
  case atStart => exact ⟨0, Nat.zero_le _, rfl, rfl, rfl⟩
  case round =>
    obtain ⟨i, hi, rfl, HE, rfl⟩ := hrel
    by_cases hlt : i < n
    · have g1 : decide ((i : Int) < (n : Int)) = true := decide_eq_true (by omega)
      have g1' : decide (i < n) = true := decide_eq_true hlt
      have hxi : (l.getD i []).length ≤ maxLen := hx _ (by rw [List.getD_eq_getElem?_getD, List.getElem?_eq_getElem (by omega)]; exact List.getElem_mem _)
      obtain ⟨ad, rfl, hab, c0⟩ := str_cell HR.out hlt
      have HBAD : Hid (∀ e : Int, wE (l.take i) (l.getD i []) = e → e ≠ 0 → codeErr l = e) := fun e h1 h2 => codeErr_bad (by omega) HE.out (by omega) h1 h2
      have HGO := Lib.hid (errTo_go HE.out)
      have HIX := Lib.hid (idxL2_lt (l := l) (i := i) (by omega))
      clear HE
      obtain ⟨u, hu⟩ : ∃ u, l.getD i [] = u := ⟨_, rfl⟩
      rw [hu] at c0 HBAD HGO hxi HIX
      have HPRE := Lib.hid (index_str (some ad) n c B l (S u) wr HR.out (by omega))
      rw [L_S] at HPRE
      have hz1 : -1 ≤ idxL2 l u ∧ idxL2 l u ≤ 12 := by
        unfold idxL2
        split
        · rename_i hm
          have := List.idxOf_lt_length_of_mem hm
          omega
        · omega
      generalize idxL2 l u = z at *
      generalize l.take i = pre at *
      clear hu
      obtain ⟨X, hX⟩ : ∃ X, S u = X := ⟨_, rfl⟩
      have hxz : X.size = u.length := by rw [← hX, S_size]
      have HLX : Hid (L X = u) := by rw [← hX]; exact L_S u
      rw [hX] at c0 HPRE
      clear hX
      by_cases h0 : u = []
      · have hz : X.size = 0 := by rw [hxz, h0]; rfl
        have g2 : ((X.size : Int) == 0) = true := by rw [beq_iff_eq]; omega
        have g2' : (X.size == 0) = true := by rw [beq_iff_eq]; omega
        have HV := Lib.hid (HBAD.out 5 (by rw [h0]; exact wE_5) (by decide))
        clear h0 hxz hz
        go_wp2_with fail
        go_ret
        rw [HV.out]
        exact ⟨rfl, rfl⟩
      have hx0 : X.size ≠ 0 := by rw [hxz]; intro h; exact h0 (List.eq_nil_of_length_eq_zero h)
      have g2 : ((X.size : Int) == 0) = false := by rw [beq_eq_false_iff_ne]; omega
      have g2' : (X.size == 0) = false := by rw [beq_eq_false_iff_ne]; omega
      have H0 := Lib.hid h0
      clear h0 hx0
      by_cases h1 : 12 < u.length
      · have g4 : decide ((12 : Int) < (X.size : Int)) = true := decide_eq_true (by omega)
        have g4' : decide (12 < X.size) = true := decide_eq_true (by omega)
        have HV := Lib.hid (HBAD.out 2 (wE_2 h1) (by decide))
        clear h1 hxz
        go_wp2_with fail
        go_ret
        rw [HV.out]
        exact ⟨rfl, rfl⟩
      have g4 : decide ((12 : Int) < (X.size : Int)) = false := decide_eq_false (by omega)
      have g4' : decide (12 < X.size) = false := decide_eq_false (by omega)
      have HC0 := fun W => Tryd.strings_Count_one X 48 W
      have HC1 := fun W => Tryd.strings_Count_one X 49 W
      have hcb := count_bits u
      have e0 : Lib.countByte X.data.toList 48 = u.count 48 := by rw [← HLX.out]; rfl
      have e1 : Lib.countByte X.data.toList 49 = u.count 49 := by rw [← HLX.out]; rfl
      have l0 : u.count 48 ≤ u.length := List.count_le_length
      have l1 : u.count 49 ≤ u.length := List.count_le_length
      rw [e0] at HC0
      rw [e1] at HC1
      clear e0 e1
      generalize u.count 48 = n0 at *
      generalize u.count 49 = n1 at *
      rw [← hxz] at hcb l0 l1
      have hX12 : X.size ≤ 12 := by omega
      have HC0 := Lib.hid HC0
      have HC1 := Lib.hid HC1
      cases hbit : u.all isBit with
      | false =>
        have HV := Lib.hid (HBAD.out 3 (wE_3 H0.out (by omega) hbit) (by decide))
        have hne : n0 + n1 ≠ X.size := fun h => by rw [hcb.1 h] at hbit; cases hbit
        have g5 : ((n0 : Int) + (n1 : Int) == (X.size : Int)) = false := by rw [beq_eq_false_iff_ne]; omega
        clear hcb hbit hne hxz
        go_wp2_with fail
        refine (HC0.out _).mono ?_
        rintro e w2 ⟨rfl, rfl⟩
        go_wp2_with fail
        refine (HC1.out _).mono ?_
        rintro e w3 ⟨rfl, rfl⟩
        go_wp2_with fail
        go_ret
        rw [HV.out]
        exact ⟨rfl, rfl⟩
      | true =>
        have hne : n0 + n1 = X.size := hcb.2 hbit
        have g5 : ((n0 : Int) + (n1 : Int) == (X.size : Int)) = true := by rw [beq_iff_eq]; omega
        have HNE := Lib.hid hne
        by_cases hzi : z < (i : Int)
        · have g6 : decide (z < (i : Int)) = true := decide_eq_true hzi
          have HV := Lib.hid (HBAD.out 10 (wE_10 H0.out (by omega) hbit (HIX.out.1 hzi)) (by decide))
          clear hcb hbit hne hxz
          go_wp2_with fail
          refine (HC0.out _).mono ?_
          rintro e w2 ⟨rfl, rfl⟩
          go_wp2_with fail
          refine (HC1.out _).mono ?_
          rintro e w3 ⟨rfl, rfl⟩
          go_wp2_with fail
          refine HPRE.out.mono ?_
          rintro e w4 ⟨rfl, rfl⟩
          go_wp2_with fail
          go_ret
          rw [HV.out]
          exact ⟨rfl, rfl⟩
        · have g6 : decide (z < (i : Int)) = false := decide_eq_false hzi
          have HV : Hid (errTo l (i + 1) = 0) := by
            rw [Hid, HGO.out]
            exact wE_0 H0.out (by omega) hbit (fun h => hzi (HIX.out.2 h))
          clear hcb hbit hne hxz
          go_wp2_with fail
          refine (HC0.out _).mono ?_
          rintro e w2 ⟨rfl, rfl⟩
          go_wp2_with fail
          refine (HC1.out _).mono ?_
          rintro e w3 ⟨rfl, rfl⟩
          go_wp2_with fail
          refine HPRE.out.mono ?_
          rintro e w4 ⟨rfl, rfl⟩
          go_wp2_with fail
          go_roundw
          case rel => exact ⟨i + 1, by omega, by go_num, HV, by first | rfl | trivial⟩
          case measure => simp [intOf]; omega
    · obtain rfl : i = n := by omega
      have g1 : decide ((i : Int) < (i : Int)) = false := decide_eq_false (by omega)
      have g1' : decide (i < i) = false := decide_eq_false hlt
      have HV : Hid (codeErr l = 0) := by
        unfold Hid codeErr
        rw [if_neg (by omega), hl]; exact HE.out
      go_wp2_with fail
      go_ret
      rw [HV.out]
      exact ⟨rfl, rfl⟩
end Go.Proofs.YtmmamdjbbpeifaaDoor
