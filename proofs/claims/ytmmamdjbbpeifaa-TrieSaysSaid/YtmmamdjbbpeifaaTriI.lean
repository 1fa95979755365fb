/- trie.Fronts, walked. -/
import Derived.Test.YtmmamdjbbpeifaaTriH
import Derived.Test.YtmmamdjbbpeifaaTriD
namespace Go.Proofs.Ytmmamdjbbpeifaa
open Go.RowKit
theorem nisC_app (a b : List Nat) : nisC (a ++ b) = nisC a ++ nisC b := List.map_append
set_option maxRecDepth 100000 in
theorem frontsErr_any (F : ByteArray) (A : Option Addr) (n c B : Nat) (l : List (List UInt8)) (w : World) (hr : Rd w B 1 A n (strCells l)) (hn : n ≤ c) (hB : B ≤ w.heap.size) (hnc : n ≤ 140737488351232) (hx : ∀ x ∈ l, x.length ≤ maxLen) (h : patErr l ≠ 0) :
    Calls Try.prog 23 #[.slice A n c, .string F] w fun e w' => e = .returned (.tuple #[.slice none 0 0, .int .i64 (patErr l)]) ∧ Below w.heap.size w w' := by
  have HB0 : Hid (Below w.heap.size w (w.alloc (.cells #[.slice A n c] 36))) := (Below.refl _ _).alloc (Nat.le_refl _) _
  have HC := Lib.hid (trieCheck_any A n c B l _ (hr.below (HB0.out.mono hB)) hn hnc hx)
  have g1 : (patErr l != 0) = true := by rw [bne_iff_ne]; exact h
  clear h hr hx
  generalize patErr l = er at *
  go_enter Try.func23, Try.ntmps23
  go_wp2_with fail
  refine HC.out.mono ?_
  rintro e w1 ⟨rfl, rfl⟩
  go_wp2_with fail
  go_ret2
  exact ⟨rfl, HB0.out⟩
theorem pre_take {p f : List UInt8} : f.isPrefixOf p = decide (f.length ≤ p.length ∧ p.take f.length = f) := by
  rw [Bool.eq_iff_iff, decide_eq_true_iff, List.isPrefixOf_iff_prefix, List.prefix_iff_eq_take]
  constructor
  · intro h
    refine ⟨?_, h.symm⟩
    have := congrArg List.length h
    rw [List.length_take] at this
    omega
  · rintro ⟨_, h⟩; exact h.symm
theorem eqT (x y : ByteArray) : (x.toList == y.toList) = decide (L x = L y) := by
  rw [ByteArray.toList_eq, ByteArray.toList_eq, Bool.eq_iff_iff, beq_iff_eq, decide_eq_true_iff]; rfl
set_option maxRecDepth 100000 in
set_option maxHeartbeats 4000000 in
theorem fronts_any (F : ByteArray) (A : Option Addr) (n c B : Nat) (ps : List (List UInt8)) (w : World) (hr : Rd w B 1 A n (strCells ps)) (hn : n ≤ c) (hB : B ≤ w.heap.size) (h : patErr ps = 0) :
    Calls Try.prog 23 #[.slice A n c, .string F] w fun e w' => ∃ v, e = .returned (.tuple #[v, .int .i64 0]) ∧ w'.ownsRow w.heap.size 3 1 v (frS ps (L F)).length (nisC (frS ps (L F))) ∧ Below w.heap.size w w' := by
  obtain ⟨i0, hi0, hz0, hz1, hz2⟩ := info_parts info_int
  obtain ⟨hp1, hp2, hp3⟩ := pat_of h
  have hpl : ps.length = n := by have := hr.1; simpa [strCells] using this
  have hb0 : Below w.heap.size w (w.alloc (.cells #[.slice A n c] 36)) := (Below.refl _ _).alloc (Nat.le_refl _) _
  have hbk := Blk.new_ w 36 #[.slice A n c]
  have HC := Lib.hid (trieCheck_any A n c B ps _ (hr.below (hb0.mono hB)) hn (by omega) (fun x hx => Nat.le_trans (hp3 x hx).2 (by decide)))
  rw [h] at HC
  have HR := Lib.hid ((hr.below (hb0.mono hB)).more (Nat.le_trans hB hb0.size))
  have HPL := Lib.hid hpl
  have HP2 := Lib.hid hp2
  have HP3 := Lib.hid hp3
  have hn10 : n ≤ 10 := by omega
  have k0 := hbk.cell0
  have HBK := Lib.hid hbk
  have HSZ : Hid (w.heap.size < (w.alloc (.cells #[.slice A n c] 36)).heap.size) := HBK.out.lt
  have HB0 := Lib.hid hb0
  clear hr hpl hp2 hp3 h hp1 hbk hb0
  obtain ⟨wb, hwb⟩ : ∃ wb, wb = w.alloc (.cells #[.slice A n c] 36) := ⟨_, rfl⟩
  rw [← hwb] at HC HR k0 HBK HSZ HB0
  have HWB := Lib.hid hwb
  clear hwb
  go_enter Try.func23, Try.ntmps23
  go_wp2_with fail
  rw [← HWB.out]
  refine HC.out.mono ?_
  rintro e w1 ⟨rfl, rfl⟩
  go_wp2_with fail
  go_loopw [7, 17] (fun ov kv wr => ∃ k : Nat, k ≤ n ∧ kv = .int .i64 (k : Int) ∧ Hid (wr.ownsRow w1.heap.size 3 1 ov (frN ps (L F) k).length (nisC (frN ps (L F) k))) ∧ Below w1.heap.size w1 wr) (fun _ kv _ => n - (intOf kv).toNat)
  case atStart => exact ⟨0, Nat.zero_le _, rfl, World.ownsRow_nil _ _ _ _, Below.refl _ _⟩
  case round =>
    obtain ⟨k, hk, rfl, HO, hb⟩ := hrel
    have hbs := hb.size
    by_cases hlt : k < n
    · have g1 : decide ((k : Int) < (n : Int)) = true := decide_eq_true (by omega)
      have g1' : decide (k < n) = true := decide_eq_true hlt
      obtain ⟨ad, rfl, _, c0⟩ := str_cell (HR.out.below hb) hlt
      have HSN := Lib.hid (frN_snoc (ps := ps) (hd := L F) k)
      have hql := frN_len (ps := ps) (hd := L F) k
      have HPT := Lib.hid (pre_take (p := ps.getD k []) (f := L F))
      generalize ps.getD k [] = p at *
      obtain ⟨X, hX⟩ : ∃ X, S p = X := ⟨_, rfl⟩
      have HLX : Hid (L X = p) := by rw [← hX]; exact L_S p
      have HXZ : Hid (X.size = p.length) := by rw [← hX]; exact S_size p
      have HFZ : Hid ((L F).length = F.size) := L_len F
      rw [hX] at c0
      clear hX
      by_cases hle : F.size ≤ X.size
      · have g2 : decide ((F.size : Int) ≤ (X.size : Int)) = true := decide_eq_true (by omega)
        have g2' : decide (F.size ≤ X.size) = true := decide_eq_true hle
        have HEX : Hid (L (X.extract 0 F.size) = p.take (L F).length) := by
          rw [Hid, L_extract, List.drop_zero, Nat.sub_zero, HLX.out, HFZ.out]
        by_cases he : p.take (L F).length = L F
        · have g3 : ((X.extract 0 F.size).toList == F.toList) = true := by rw [eqT, HEX.out]; exact decide_eq_true he
          have HV : Hid (frN ps (L F) (k + 1) = frN ps (L F) k ++ [k]) := by
            rw [Hid, HSN.out, if_pos (by rw [HPT.out]; exact decide_eq_true ⟨by have := HFZ.out; have := HXZ.out; omega, he⟩)]
          clear he HSN HPT HEX
          have hHOA := HO.out.alloc (.cells #[.int .i64 (k : Int)] 3)
          have HOX := HO
          clear HO
          generalize frN ps (L F) k = q at *
          go_wp2_with (at_builtin; go_must (refine wpList_app rfl _ _ _ rfl w1.heap.size 3 i0 _ 1 8 Try.underlying22 hi0 hz0 hz1 hz2 rfl (by omega) _ q.length (nisC q) rfl hHOA ⟨wr.heap.size, 0, none⟩ 1 1 [.int .i64 (k : Int)] rfl rfl (cell_one_new _ _ _) (by simp [Value.oneCell']) (by omega) (by omega) (by simp; omega) ?_); intro v6 w6 hown6 hb6)
          have HN : Hid (w6.ownsRow w1.heap.size 3 1 v6 (q ++ [k]).length (nisC (q ++ [k]))) := by
            rw [Hid, nisC_app, List.length_append]; exact hown6
          have hb7 : Below w1.heap.size w1 w6 := (hb.alloc hbs _).trans hb6
          clear hown6 hHOA
          go_roundw
          case rel => exact ⟨k + 1, by omega, by go_num, by rw [HV.out]; exact HN.out, hb7⟩
          case measure => simp [intOf]; omega
        · have g3 : ((X.extract 0 F.size).toList == F.toList) = false := by rw [eqT, HEX.out]; exact decide_eq_false he
          have HV : Hid (frN ps (L F) (k + 1) = frN ps (L F) k) := by
            rw [Hid, HSN.out, if_neg (by rw [HPT.out, decide_eq_true_iff]; exact fun h => he h.2), List.append_nil]
          clear he HSN HPT HEX
          go_wp2_with fail
          go_roundw
          case rel => exact ⟨k + 1, by omega, by go_num, by rw [HV.out]; exact HO.out, hb⟩
          case measure => simp [intOf]; omega
      · have g2 : decide ((F.size : Int) ≤ (X.size : Int)) = false := decide_eq_false (by omega)
        have g2' : decide (F.size ≤ X.size) = false := decide_eq_false hle
        have HV : Hid (frN ps (L F) (k + 1) = frN ps (L F) k) := by
          rw [Hid, HSN.out, if_neg (by rw [HPT.out, decide_eq_true_iff]; exact fun h => by have := h.1; rw [HFZ.out, ← HXZ.out] at this; omega), List.append_nil]
        clear HSN HPT
        go_wp2_with fail
        go_roundw
        case rel => exact ⟨k + 1, by omega, by go_num, by rw [HV.out]; exact HO.out, hb⟩
        case measure => simp [intOf]; omega
    · obtain rfl : k = n := by omega
      have g1 : decide ((k : Int) < (k : Int)) = false := decide_eq_false (by omega)
      have g1' : decide (k < k) = false := decide_eq_false hlt
      have hql := frN_len (ps := ps) (hd := L F) k
      have HSRT := Lib.hid (sortFr_any ps k HPL.out HP2.out A c w.heap.size _ u7 w1 wr HO.out hb HSZ.out k0 HR.out (fun i hi => frN_lt hi) (by omega))
      have HE : Hid (((frN ps (L F) k).mergeSort fun x y => decide (ps.getD x [] ≤ ps.getD y [])) = frS ps (L F)) := by rw [Hid, frS, HPL.out]
      have HEL : Hid ((frN ps (L F) k).length = (frS ps (L F)).length) := by rw [Hid, frS_len, HPL.out]
      rw [HE.out, HEL.out] at HSRT
      clear HO
      go_wp2_with fail
      refine HSRT.out.mono ?_
      rintro e w6 ⟨rfl, hown6, hb6⟩
      have HO6 := Lib.hid hown6
      clear hown6
      go_wp2_with fail
      go_ret2
      exact ⟨_, rfl, own_lower HO6.out HB0.out.size, bthen HB0.out hb6⟩
end Go.Proofs.Ytmmamdjbbpeifaa
