/- pack.Put and the law's joined. -/
import Derived.Test.YtmmamdjbbpeifaaDoorBld
import Derived.Test.YtmmamdjbbpeifaaDoorCdpB
namespace Go.Proofs.YtmmamdjbbpeifaaDoor
open Go.RowKit
def joinI (l : List (List UInt8)) (text : List Int) : List UInt8 := text.flatMap fun k => l.getD k.toNat []
theorem joinI_snoc (l : List (List UInt8)) (t : List Int) (k : Int) : joinI l (t ++ [k]) = joinI l t ++ l.getD k.toNat [] := by simp [joinI]
theorem joinI_take {l : List (List UInt8)} {t : List Int} {i : Nat} (h : i < t.length) : joinI l (t.take (i + 1)) = joinI l (t.take i) ++ l.getD (t.getD i 0).toNat [] := by
  have e : t.getD i 0 = t[i] := by rw [List.getD_eq_getElem?_getD, List.getElem?_eq_getElem h]; rfl
  rw [e, List.take_add_one, List.getElem?_eq_getElem h]
  exact joinI_snoc _ _ _
theorem joinI_len {l : List (List UInt8)} (hl : ∀ i, i < l.length → (l.getD i []).length ≤ 12) (t : List Int) : (joinI l t).length ≤ t.length * 12 := by
  induction t with
  | nil => simp [joinI]
  | cons k t ih =>
    have e : joinI l (k :: t) = l.getD k.toNat [] ++ joinI l t := by simp [joinI]
    rw [e, List.length_append, List.length_cons, Nat.succ_mul]
    have : (l.getD k.toNat []).length ≤ 12 := by
      rcases Nat.lt_or_ge k.toNat l.length with h | h
      · exact hl _ h
      · rw [List.getD_eq_getElem?_getD, List.getElem?_eq_none h]; simp
    omega
/-- A number that is none of a word. -/
def bad (n : Nat) (k : Int) : Bool := decide (k < 0 ∨ (n : Int) ≤ k)
def putErr (n : Nat) (t : List Int) : Int := if 200 < t.length then 2 else if t.any (bad n) then 1 else 0
theorem bad_any {n : Nat} {t : List Int} {i : Nat} (hi : i < t.length) (h : bad n (t.getD i 0) = true) : t.any (bad n) = true := by
  rw [List.any_eq_true]
  refine ⟨t.getD i 0, ?_, h⟩
  rw [List.getD_eq_getElem?_getD, List.getElem?_eq_getElem hi]; exact List.getElem_mem _
theorem bad_none {n : Nat} {t : List Int} (h : ∀ i, i < t.length → bad n (t.getD i 0) = false) : t.any (bad n) = false := by
  rw [List.any_eq_false]
  intro x hx
  obtain ⟨i, hi, e⟩ := List.mem_iff_getElem.1 hx
  have := h i hi
  rw [List.getD_eq_getElem?_getD, List.getElem?_eq_getElem hi] at this
  rw [← e]
  simp only [Option.getD_some] at this
  rw [this]; decide
theorem intCell {w : World} {B n k : Nat} {A : Option Addr} {t : List Int} (hr : Rd w B 1 A n (ints t)) (hk : k < n) :
    ∃ ad : Addr, A = some ad ∧ ad.block < B ∧ w.cell? (ad.add k) = some (.int .i64 (t.getD k 0)) := by
  have hlen : t.length = n := by have := hr.1; simpa [ints] using this
  obtain ⟨ad, u, hA, hb, hu, hc⟩ := hr.at_ hk
  rw [ints, List.getElem?_map, List.getElem?_eq_getElem (by omega)] at hu
  obtain rfl := Option.some.inj hu
  refine ⟨ad, hA, hb, ?_⟩
  rw [hc, List.getD_eq_getElem?_getD, List.getElem?_eq_getElem (by omega)]; rfl
set_option maxRecDepth 100000 in
set_option maxHeartbeats 4000000 in
theorem joined_any (A : Option Addr) (n c B : Nat) (l : List (List UInt8)) (A2 : Option Addr) (m c2 B2 : Nat) (t : List Int) (w : World) (hr : Rd w B 1 A n (strCells l)) (hB : B ≤ w.heap.size) (hr2 : Rd w B2 1 A2 m (ints t)) (hB2 : B2 ≤ w.heap.size)
    (hm : m ≤ 100000) (hl : ∀ i, i < l.length → (l.getD i []).length ≤ 12) (hbad : t.any (bad n) = false) :
    Calls Tryd.prog 24 #[.slice A n c, .slice A2 m c2] w fun e w' => e = .returned (.string (S (joinI l t))) ∧ Below w.heap.size w w' := by
  have hln : l.length = n := by have := hr.1; simpa [strCells] using this
  have hlm : t.length = m := by have := hr2.1; simpa [ints] using this
  have HR := Lib.hid hr
  have HR2 := Lib.hid hr2
  have HL := Lib.hid hl
  have HBAD : Hid (∀ i, i < m → 0 ≤ t.getD i 0 ∧ t.getD i 0 < (n : Int)) := fun i hi => by
    have h := List.any_eq_false.1 hbad (t.getD i 0) (by rw [List.getD_eq_getElem?_getD, List.getElem?_eq_getElem (by omega)]; exact List.getElem_mem _)
    have h : bad n (t.getD i 0) = false := by simpa using h
    have h := of_decide_eq_false h
    omega
  clear hr hr2 hl hbad
  go_enter Tryd.func24, Tryd.ntmps24
  have hb0 : Below w.heap.size w (w.alloc (.cells #[.pointer none, .slice none 0 0] 58)) := (Below.refl _ _).alloc (Nat.le_refl _) _
  have hbld : Bld w.heap.size w.heap.size [] (w.alloc (.cells #[.pointer none, .slice none 0 0] 58)) := Lib.fresh_isBuilder _ _ w
  go_wp2_with fail
  go_loopw [10] (fun iv wr => ∃ i : Nat, i ≤ m ∧ iv = .int .i64 (i : Int) ∧ Bld w.heap.size w.heap.size (joinI l (t.take i)) wr ∧ Below w.heap.size w wr) (fun iv _ => m - (intOf iv).toNat)
  case atStart => exact ⟨0, Nat.zero_le _, rfl, hbld, hb0⟩
  case round =>
    clear hbld hb0
    obtain ⟨i, hi, rfl, hbd, hb⟩ := hrel
    by_cases hlt : i < m
    · have g1 : decide ((i : Int) < (m : Int)) = true := decide_eq_true (by omega)
      have g1' : decide (i < m) = true := decide_eq_true hlt
      obtain ⟨ad2, rfl, _, c0⟩ := intCell (HR2.out.below (hb.mono hB2)) hlt
      obtain ⟨hk1, hk2⟩ := HBAD.out i hlt
      have HJ := Lib.hid (joinI_take (l := l) (t := t) (i := i) (by omega))
      have hjl := joinI_len HL.out (t.take i)
      rw [List.length_take] at hjl
      obtain ⟨K, hK⟩ : ∃ K : Nat, t.getD i 0 = (K : Int) := ⟨(t.getD i 0).toNat, by omega⟩
      rw [hK] at c0 HJ hk1 hk2
      rw [Int.toNat_natCast] at HJ
      have hKn : K < n := by omega
      obtain ⟨ad, rfl, _, c1⟩ := str_cell (HR.out.below (hb.mono hB)) hKn
      have hxl := HL.out K (by omega)
      obtain ⟨X, hX⟩ : ∃ X, S (l.getD K []) = X := ⟨_, rfl⟩
      have hxz : X.size ≤ 12 := by rw [← hX, S_size]; exact hxl
      have HLX : Hid (L X = l.getD K []) := by rw [← hX]; exact L_S _
      rw [hX] at c1
      have hjb : (joinI l (t.take i)).length ≤ 1200000 := by omega
      have HW := Lib.hid (bldWrite w.heap.size w.heap.size (joinI l (t.take i)) X wr hbd (by omega) hb.size)
      rw [HLX.out, ← HJ.out] at HW
      clear hK hX hxl hjl hbd hk1 hk2
      go_wp2_with fail
      refine HW.out.mono ?_
      rintro e w3 ⟨⟨v, rfl⟩, hbd3, hb3⟩
      go_wp2_with fail
      go_roundw
      case rel => exact ⟨i + 1, by omega, by go_num, hbd3, hb.trans hb3⟩
      case measure => simp [intOf]; omega
    · obtain rfl : i = m := by omega
      have g1 : decide ((i : Int) < (i : Int)) = false := decide_eq_false (by omega)
      have g1' : decide (i < i) = false := decide_eq_false hlt
      rw [List.take_of_length_le (by omega)] at hbd
      have HS := Lib.hid (bldString w.heap.size w.heap.size _ wr hbd hb.size)
      clear hbd
      go_wp2_with fail
      refine HS.out.mono ?_
      rintro e w3 ⟨rfl, hb3⟩
      go_wp2_with fail
      go_ret
      exact ⟨rfl, hb.trans hb3⟩
def packErr (l : List (List UInt8)) (t : List Int) : Int := if codeErr l = 0 then putErr l.length t else codeErr l
def packOut (l : List (List UInt8)) (t : List Int) : List UInt8 := if packErr l t = 0 then joinI l t else []
theorem packOut_bad {l : List (List UInt8)} {t : List Int} (h : packErr l t ≠ 0) : packOut l t = [] := if_neg h
theorem packOut_ok {l : List (List UInt8)} {t : List Int} (h : packErr l t = 0) : packOut l t = joinI l t := if_pos h
set_option maxRecDepth 100000 in
set_option maxHeartbeats 4000000 in
theorem packPut_any (A : Option Addr) (n c B : Nat) (l : List (List UInt8)) (A2 : Option Addr) (m c2 B2 : Nat) (t : List Int) (w : World) (hr : Rd w B 1 A n (strCells l)) (hB : B ≤ w.heap.size) (hr2 : Rd w B2 1 A2 m (ints t)) (hB2 : B2 ≤ w.heap.size)
    (hn : n ≤ c) (hx : ∀ x ∈ l, x.length ≤ maxLen) :
    Calls Tryd.prog 19 #[.slice A n c, .slice A2 m c2] w fun e w' => e = .returned (.tuple #[.string (S (packOut l t)), .int .i64 (packErr l t)]) ∧ Below w.heap.size w w' := by
  have hln : l.length = n := by have := hr.1; simpa [strCells] using this
  have hlm : t.length = m := by have := hr2.1; simpa [ints] using this
  have HC := Lib.hid (codeCheck_any A n c B l w hr hn hB hx)
  have HR := Lib.hid hr
  have HR2 := Lib.hid hr2
  clear hr hr2 hx
  by_cases hE : codeErr l = 0
  case neg =>
    have HP : packErr l t = codeErr l := if_neg hE
    rw [packOut_bad (by rw [HP]; exact hE), HP]
    obtain ⟨E, hEE⟩ : ∃ E, codeErr l = E := ⟨_, rfl⟩
    rw [hEE] at HC hE ⊢
    clear hEE HP
    have g1 : (E == 0) = false := by rw [beq_eq_false_iff_ne]; exact hE
    have g2 : (E != 0) = true := by rw [bne, g1]; rfl
    clear hE
    go_enter Tryd.func19, Tryd.ntmps19
    go_wp2_with fail
    refine HC.out.mono ?_
    rintro e w1 ⟨rfl, hb1⟩
    go_wp2_with fail
    go_ret2
    exact ⟨rfl, hb1⟩
  have HP : Hid (packErr l t = putErr n t) := by unfold Hid packErr; rw [if_pos hE, hln]
  have hco := cod_of hE
  have HL := Lib.hid hco.le
  have hn12 := hco.len
  rw [hE] at HC
  clear hE hco
  by_cases hbig : 200 < m
  · have HE : Hid (packErr l t = 2) := by unfold Hid; rw [HP.out, putErr, if_pos (by omega)]
    rw [packOut_bad (by rw [HE.out]; decide), HE.out]
    have g1 : decide ((200 : Int) < (m : Int)) = true := decide_eq_true (by omega)
    go_enter Tryd.func19, Tryd.ntmps19
    go_wp2_with fail
    refine HC.out.mono ?_
    rintro e w1 ⟨rfl, hb1⟩
    go_wp2_with fail
    go_ret2
    exact ⟨rfl, hb1⟩
  have g1 : decide ((200 : Int) < (m : Int)) = false := decide_eq_false (by omega)
  go_enter Tryd.func19, Tryd.ntmps19
  go_wp2_with fail
  refine HC.out.mono ?_
  rintro e w1 ⟨rfl, hb1⟩
  have hw1 : w.heap.size ≤ w1.heap.size := hb1.size
  have hb0 : Below w1.heap.size w1 (w1.alloc (.cells #[.pointer none, .slice none 0 0] 58)) := (Below.refl _ _).alloc (Nat.le_refl _) _
  have hbld : Bld w1.heap.size w1.heap.size [] (w1.alloc (.cells #[.pointer none, .slice none 0 0] 58)) := Lib.fresh_isBuilder _ _ w1
  have HRa := Lib.hid (HR.out.below (hb1.mono hB))
  have HR2a := Lib.hid (HR2.out.below (hb1.mono hB2))
  clear HR HR2
  go_wp2_with fail
  go_loopw [20] (fun iv wr => ∃ i : Nat, i ≤ m ∧ iv = .int .i64 (i : Int) ∧ Hid (∀ j, j < i → bad n (t.getD j 0) = false) ∧ Bld w1.heap.size w1.heap.size (joinI l (t.take i)) wr ∧ Below w1.heap.size w1 wr) (fun iv _ => m - (intOf iv).toNat)
  case atStart => exact ⟨0, Nat.zero_le _, rfl, Lib.hid (fun j h => by omega), hbld, hb0⟩
  case round =>
    clear hbld hb0
    obtain ⟨i, hi, rfl, HN, hbd, hb⟩ := hrel
    by_cases hlt : i < m
    · have g3 : decide ((i : Int) < (m : Int)) = true := decide_eq_true (by omega)
      have g3' : decide (i < m) = true := decide_eq_true hlt
      obtain ⟨ad2, rfl, _, c0⟩ := intCell (HR2a.out.below (hb.mono (Nat.le_trans hB2 hw1))) hlt
      have HJ := Lib.hid (joinI_take (l := l) (t := t) (i := i) (by omega))
      have hjl := joinI_len HL.out (t.take i)
      rw [List.length_take] at hjl
      have hjb : (joinI l (t.take i)).length ≤ 2400 := by omega
      have HBT : Hid (bad n (t.getD i 0) = true → packErr l t = 1) := fun h => by
        rw [HP.out, putErr, if_neg (by omega), bad_any (i := i) (by omega) h]; rfl
      have HNX : Hid (bad n (t.getD i 0) = false → ∀ j, j < i + 1 → bad n (t.getD j 0) = false) := fun h j hj => by
        rcases Nat.lt_or_ge j i with h1 | h1
        · exact HN.out j h1
        · obtain rfl : j = i := by omega
          exact h
      obtain ⟨k, hk⟩ : ∃ k, t.getD i 0 = k := ⟨_, rfl⟩
      rw [hk] at c0 HJ HBT HNX
      clear hk hjl
      by_cases hk0 : k < 0
      · have g4 : decide (k < (0 : Int)) = true := decide_eq_true hk0
        have HE := Lib.hid (HBT.out (decide_eq_true (.inl hk0)))
        clear hbd HBT HNX HJ
        go_wp2_with fail
        go_ret2
        rw [packOut_bad (by rw [HE.out]; decide), HE.out]
        exact ⟨rfl, bthen hb1 hb⟩
      have g4 : decide (k < (0 : Int)) = false := decide_eq_false hk0
      by_cases hkn : (n : Int) ≤ k
      · have g5 : decide ((n : Int) ≤ k) = true := decide_eq_true hkn
        have HE := Lib.hid (HBT.out (decide_eq_true (.inr hkn)))
        clear hbd HBT HNX HJ
        go_wp2_with fail
        go_ret2
        rw [packOut_bad (by rw [HE.out]; decide), HE.out]
        exact ⟨rfl, bthen hb1 hb⟩
      have HN2 := Lib.hid (HNX.out (decide_eq_false (by omega)))
      obtain ⟨K, rfl⟩ : ∃ K : Nat, k = (K : Int) := ⟨k.toNat, by omega⟩
      have g5 : decide ((n : Int) ≤ (K : Int)) = false := decide_eq_false hkn
      have g5' : decide (n ≤ K) = false := decide_eq_false (by omega)
      have hKn : K < n := by omega
      rw [Int.toNat_natCast] at HJ
      obtain ⟨ad, rfl, _, c1⟩ := str_cell (HRa.out.below (hb.mono (Nat.le_trans hB hw1))) hKn
      have hxl := HL.out K (by omega)
      obtain ⟨X, hX⟩ : ∃ X, S (l.getD K []) = X := ⟨_, rfl⟩
      have hxz : X.size ≤ 12 := by rw [← hX, S_size]; exact hxl
      have HLX : Hid (L X = l.getD K []) := by rw [← hX]; exact L_S _
      rw [hX] at c1
      have HW := Lib.hid (bldWrite w1.heap.size w1.heap.size (joinI l (t.take i)) X wr hbd (by omega) hb.size)
      rw [HLX.out, ← HJ.out] at HW
      clear hX hxl hbd HBT HNX hk0 hkn
      go_wp2_with fail
      refine HW.out.mono ?_
      rintro e w3 ⟨⟨v, rfl⟩, hbd3, hb3⟩
      go_wp2_with fail
      go_roundw
      case rel => exact ⟨i + 1, by omega, by go_num, HN2, hbd3, hb.trans hb3⟩
      case measure => simp [intOf]; omega
    · obtain rfl : i = m := by omega
      have g3 : decide ((i : Int) < (i : Int)) = false := decide_eq_false (by omega)
      have g3' : decide (i < i) = false := decide_eq_false hlt
      rw [List.take_of_length_le (by omega)] at hbd
      have HE : Hid (packErr l t = 0) := by
        unfold Hid
        rw [HP.out, putErr, if_neg (by omega), bad_none fun j hj => HN.out j (by omega)]; rfl
      have HS := Lib.hid (bldString w1.heap.size w1.heap.size _ wr hbd hb.size)
      clear hbd
      go_wp2_with fail
      refine HS.out.mono ?_
      rintro e w3 ⟨rfl, hb3⟩
      go_wp2_with fail
      go_ret2
      rw [packOut_ok HE.out, HE.out]
      exact ⟨rfl, bthen hb1 (hb.trans hb3)⟩
end Go.Proofs.YtmmamdjbbpeifaaDoor
