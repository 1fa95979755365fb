/- The document's unlike parts, and the mirrored ones among them. -/
import Derived.Test.YtmmamdjbbpeifaaRevB
import Derived.Test.YtmmamdjbbpeifaaMirr2
import Derived.Test.YtmmamdjbbpeifaaLynW
import Derived.Test.YtmmamdjbbpeifaaSortS
namespace Go.Proofs.Ytmmamdjbbpeifaa
open Go.RowKit
set_option maxRecDepth 100000 in
set_option maxHeartbeats 8000000 in
theorem factors_any (s : ByteArray) (hs : s.size ≤ 200) (w : World) :
    Calls Try.prog 20 #[.string s] w fun e w' => ∃ A c, e = .returned (.slice A (fact (L s)).length c) ∧ w'.ownsRow w.heap.size 9 1 (.slice A (fact (L s)).length c) (fact (L s)).length (strCells (fact (L s))) ∧ Below w.heap.size w w' := by
  obtain ⟨i0, hi0, hz0, hz1, hz2⟩ := info_parts info_str
  have HZ : Hid ((L s).length = s.size) := L_len s
  go_enter Try.func20, Try.ntmps20
  go_wp2_with fail
  go_loopw [8, 3] (fun iv a wr => ∃ i : Nat, i ≤ s.size ∧ iv = .int .i64 (i : Int) ∧ wr.ownsRow w.heap.size 9 1 a (facs (L s) i).length (strCells (facs (L s) i)) ∧ Below w.heap.size w wr) (fun iv _ _ => s.size - (intOf iv).toNat)
  case atStart => exact ⟨0, Nat.zero_le _, rfl, World.ownsRow_nil _ _ _ _, Below.refl _ _⟩
  case round =>
    obtain ⟨i, hi, rfl, hown, hb⟩ := hrel
    by_cases hlt : i < s.size
    · have g1 : decide (i < s.size) = true := decide_eq_true hlt
      have g1' : decide ((i : Int) < (s.size : Int)) = true := decide_eq_true (by omega)
      have hfl := facs_len (L s) i
      rw [HZ.out] at hfl
      have hfl2 : (facs (L s) i).length ≤ 40000 := Nat.le_trans hfl (Nat.le_trans (Nat.mul_le_mul (by omega : i ≤ 200) hs) (by omega))
      clear hfl
      obtain ⟨l0, hl0⟩ : ∃ l0, facs (L s) i = l0 := ⟨_, rfl⟩
      have HL0 := Lib.hid hl0
      rw [hl0] at hown hfl2
      clear hl0
      have HOWN := Lib.hid hown
      clear hown
      have hb0 := hb
      clear hb
      go_wp2_with fail
      go_loopw [5, 3] (fun kv a wr => ∃ (k m : Nat) (out : List (List UInt8)), k = i + 1 + m ∧ k ≤ s.size + 1 ∧ kv = .int .i64 (k : Int) ∧ Hid (out = l0 ++ facR (L s) i m) ∧ wr.ownsRow w.heap.size 9 1 a out.length (strCells out) ∧ Below w.heap.size w wr) (fun kv _ _ => s.size + 1 - (intOf kv).toNat)
      case atStart => exact ⟨i + 1, 0, l0, by omega, by omega, by go_num, Lib.hid (by rw [facR_zero, List.append_nil]), HOWN.out, hb0⟩
      case round =>
        clear HOWN hb0
        obtain ⟨k, m, out, hkm, hk, rfl, HO, hown, hb⟩ := hrel
        have HOWN := Lib.hid hown
        clear hown
        by_cases hks : k ≤ s.size
        · have g2 : decide ((k : Int) ≤ (s.size : Int)) = true := decide_eq_true (by omega)
          have g2' : decide (k ≤ s.size) = true := decide_eq_true hks
          have hlen : out.length ≤ 100000 := by
            rw [HO.out, List.length_append, facR_len]; omega
          have hik : i ≤ k := by omega
          have HX : Hid (s.extract i k = S (part (L s) i k)) := extract_S s i k
          have HN : Hid (out ++ [part (L s) i k] = l0 ++ facR (L s) i (m + 1)) := by
            unfold Hid; rw [facR_succ, ← List.append_assoc, ← HO.out, hkm]
          clear HO
          have HKM := Lib.hid hkm
          clear hkm
          go_wp2_with (at_builtin; go_must (refine wpList_appG rfl _ _ _ rfl w.heap.size 9 i0 _ 1 16 Try.underlying36 hi0 hz0 hz1 hz2 rfl (by omega) _ out.length (strCells out) rfl (World.ownsRow.alloc (w := wr) HOWN.out _) ⟨wr.heap.size, 0, none⟩ 1 1 [.string (s.extract i k)] rfl rfl (cell_one_new _ _ _) (by simp [Value.oneCell']) (by omega) (by omega) (by have := (hb).size; simp at this ⊢; omega) ?_); intro v6 w6 hown6 hg6 hb6; have hb6' := ((hb).alloc (hb).size _).trans hb6)
          clear hg6 hb6
          go_roundw
          case rel =>
            refine ⟨k + 1, m + 1, _, by have := HKM.out; omega, by omega, by go_num, HN, ?_, hb6'⟩
            rw [List.length_append, List.length_singleton, ← strCells_snoc', ← HX.out]
            exact hown6
          case measure => simp [intOf]; omega
        · have g2 : decide ((k : Int) ≤ (s.size : Int)) = false := decide_eq_false (by omega)
          have g2' : decide (k ≤ s.size) = false := decide_eq_false hks
          have HD : Hid (out = facs (L s) (i + 1)) := by
            unfold Hid
            rw [HO.out, facs, HL0.out, HZ.out, show m = s.size - i by omega]
          clear HO hkm
          go_wp2_with fail
          go_roundw
          case rel =>
            refine ⟨i + 1, by omega, by go_num, ?_, hb⟩
            rw [← HD.out]; exact HOWN.out
          case measure => simp [intOf]; omega
    · obtain rfl : i = s.size := by omega
      have g1 : decide (s.size < s.size) = false := decide_eq_false hlt
      have g1' : decide ((s.size : Int) < (s.size : Int)) = false := decide_eq_false (by omega)
      have hfl := facs_len (L s) s.size
      rw [HZ.out] at hfl
      have hfl2 : (facs (L s) s.size).length ≤ 40000 := Nat.le_trans hfl (Nat.le_trans (Nat.mul_le_mul hs hs) (by omega))
      clear hfl
      have HF : Hid (fact (L s) = Lib.compact (sortB (facs (L s) s.size))) := by unfold Hid fact sortB; rw [HZ.out]
      obtain ⟨l, hl⟩ : ∃ l, facs (L s) s.size = l := ⟨_, rfl⟩
      rw [hl] at hown hfl2 HF
      clear hl
      go_wp2_with fail
      refine (sortStr_own l _ w wr hown hb (by omega)).mono ?_
      rintro e w2 ⟨rfl, hown2, hb2⟩
      go_wp2_with fail
      refine (compStr_own (sortB l) _ w w2 (by rw [sortB_len]; exact hown2) hb2 (by rw [sortB_len]; omega)).mono ?_
      rintro e w3 ⟨v3, c3, rfl, hown3, hb3⟩
      go_wp2_with fail
      go_ret
      rw [HF.out]
      exact ⟨_, _, rfl, hown3, hb3⟩
theorem bestIf {s b t : List UInt8} (hm : mirB t = true) : (b.length < t.length → bestStep s b t = t) ∧ (t.length < b.length → bestStep s b t = b) ∧
    (t.length = b.length → Lib.index s t < Lib.index s b → bestStep s b t = t) ∧ (t.length = b.length → ¬ Lib.index s t < Lib.index s b → bestStep s b t = b) := by
  unfold bestStep
  refine ⟨fun h => if_pos ⟨hm, .inl h⟩, fun h => if_neg ?_, fun h h2 => if_pos ⟨hm, .inr ⟨h, h2⟩⟩, fun h h2 => if_neg ?_⟩
  · rintro ⟨_, h2⟩; omega
  · rintro ⟨_, h3⟩; omega
theorem bestNo {s b t : List UInt8} (hm : mirB t = false) : bestStep s b t = b := by
  unfold bestStep
  exact if_neg (by rw [hm]; rintro ⟨h, _⟩; cases h)
theorem fact_lenB (s : List UInt8) : (fact s).length ≤ s.length * s.length := by
  have h1 := comp_le ((facs s s.length).mergeSort fun x y => decide (x ≤ y))
  rw [List.length_mergeSort] at h1
  exact Nat.le_trans h1 (facs_len s s.length)
theorem fact_getB (s : List UInt8) {p : Nat} (h : p < (fact s).length) : ((fact s).getD p []).length ≤ s.length := by
  have h1 : (fact s).getD p [] ∈ fact s := by
    rw [List.getD_eq_getElem?_getD, List.getElem?_eq_getElem h]; exact List.getElem_mem _
  obtain ⟨i, k, h2, h3, h4⟩ := (fact_mem s _).1 h1
  rw [h4, part_len h3]; omega
theorem best_lenB (s : List UInt8) : ∀ p, p ≤ (fact s).length → (bestOf s p).length ≤ s.length := by
  intro p
  induction p with
  | zero => intro _; exact Nat.zero_le _
  | succ p ih =>
    intro h
    rw [bestOf_succ s p h]
    rcases (bestStep_spec s (bestOf s p) ((fact s).getD p [])).1 with h1 | ⟨h1, _⟩
    · rw [h1]; exact ih (by omega)
    · rw [h1]; exact fact_getB s h
set_option maxRecDepth 100000 in
set_option maxHeartbeats 8000000 in
theorem mirrorsOf_any (s : ByteArray) (hs : s.size ≤ 200) (w : World) (m0 : Int) (hm0 : w.cell? ⟨0, 0, none⟩ = some (.int .i64 m0)) :
    Calls Try.prog 11 #[.string s] w fun e w' => e = .returned (.tuple #[.int .i64 (cntOf (L s) (fact (L s)).length : Nat), .string (S (bestOf (L s) (fact (L s)).length))]) ∧ Below w.heap.size w w' := by
  have HZ : Hid ((L s).length = s.size) := L_len s
  have hFB := fact_lenB (L s)
  rw [HZ.out] at hFB
  have hFB2 : (fact (L s)).length ≤ 40000 := Nat.le_trans hFB (Nat.le_trans (Nat.mul_le_mul hs hs) (by omega))
  clear hFB
  have h0 : (0 : Nat) < w.heap.size := by
    rcases Nat.eq_zero_or_pos w.heap.size with h | h
    · exfalso
      have : w.heap[0]? = none := Array.getElem?_eq_none (by omega)
      simp [World.cell?, this] at hm0
    · exact h
  go_enter Try.func11, Try.ntmps11
  go_wp2_with fail
  refine (factors_any s hs _).mono ?_
  rintro e w1 ⟨A, c, rfl, hown, hb1⟩
  have HRD := Lib.hid (Rd.of_own hown)
  have HIX : Hid (∀ (x : ByteArray) (W : World), Below w.heap.size w W → Calls Try.prog 43 #[.string s, .string x] W fun e W' => e = .returned (.int .i64 (Lib.index (L s) (L x))) ∧ Below W.heap.size W W') := fun x W hW =>
    (Try.strings_Index s x m0 W (by omega) ((hW.cell (p := ⟨0, 0, none⟩) h0).trans hm0)).mono fun e W' h => ⟨h.1, by rw [h.2]; exact Below.refl _ _⟩
  clear hown hm0
  obtain ⟨N, hN⟩ : ∃ N, (fact (L s)).length = N := ⟨_, rfl⟩
  rw [hN] at hFB2 HRD
  have HN := Lib.hid hN
  rw [hN]
  clear hN
  go_wp2_with fail
  go_loopw [11, 4, 5] (fun iv nv bv wr => ∃ p : Nat, p ≤ N ∧ iv = .int .i64 (p : Int) ∧ nv = .int .i64 (cntOf (L s) p : Nat) ∧ bv = .string (S (bestOf (L s) p)) ∧ Below w1.heap.size w1 wr) (fun iv _ _ _ => N - (intOf iv).toNat)
  case atStart => exact ⟨0, Nat.zero_le _, rfl, rfl, rfl, Below.refl _ _⟩
  case round =>
    obtain ⟨p, hp, rfl, rfl, rfl, hb⟩ := hrel
    by_cases hlt : p < N
    · have g1 : decide ((p : Int) < (N : Int)) = true := decide_eq_true (by omega)
      have HCN := Lib.hid (cntOf_succ (L s) p (by rw [HN.out]; exact hlt))
      have HBN := Lib.hid (bestOf_succ (L s) p (by rw [HN.out]; exact hlt))
      have hcl := cntOf_le (L s) p
      have htl := fact_getB (L s) (p := p) (by rw [HN.out]; exact hlt)
      have hbl := best_lenB (L s) p (by rw [HN.out]; omega)
      rw [HZ.out] at htl hbl
      obtain ⟨ad, u, hA, hab, hu, hc⟩ := (HRD.out.below hb).at_ hlt
      rw [strCells, List.getElem?_map, List.getElem?_eq_getElem (by rw [HN.out]; exact hlt)] at hu
      have hu2 : u = .string (S ((fact (L s)).getD p [])) := by
        rw [List.getD_eq_getElem?_getD, List.getElem?_eq_getElem (by rw [HN.out]; exact hlt)]
        exact (Option.some.inj hu).symm
      subst hu2
      clear hu
      subst hA
      obtain ⟨t, ht⟩ : ∃ t, (fact (L s)).getD p [] = t := ⟨_, rfl⟩
      rw [ht] at htl hc HCN HBN
      clear ht
      obtain ⟨b, hb9⟩ : ∃ b, bestOf (L s) p = b := ⟨_, rfl⟩
      rw [hb9] at hbl HBN ⊢
      clear hb9
      obtain ⟨n, hn9⟩ : ∃ n, cntOf (L s) p = n := ⟨_, rfl⟩
      rw [hn9] at hcl HCN ⊢
      clear hn9
      have hbw := bthen hb1 hb
      obtain ⟨X, hX⟩ : ∃ X, S t = X := ⟨_, rfl⟩
      have HLX : Hid (L X = t) := by rw [← hX]; exact L_S t
      have hxz : X.size = t.length := by rw [← hX, S_size]
      obtain ⟨Y, hY⟩ : ∃ Y, S b = Y := ⟨_, rfl⟩
      have HLY : Hid (L Y = b) := by rw [← hY]; exact L_S b
      have hyz : Y.size = b.length := by rw [← hY, S_size]
      rw [hX] at hc
      rw [hY]
      have HSX := Lib.hid hX
      have HSY := Lib.hid hY
      clear hX hY
      have hxs : X.size ≤ 9223372036854775807 := by omega
      have HM := Lib.hid (refMirror_any X hxs)
      clear hxs
      go_wp2_with fail
      refine (HM.out _).mono ?_
      rintro e w3 ⟨rfl, hb3⟩
      rw [HLX.out]
      have hb0 := bthen hbw hb3
      have hb4 := bthen hb hb3
      cases hm : mirB t with
      | false =>
        have HB2 : Hid (bestOf (L s) (p + 1) = b) := by unfold Hid; rw [HBN.out, bestNo hm]
        have HC2 : Hid (cntOf (L s) (p + 1) = n) := by unfold Hid; rw [HCN.out, hm]; rfl
        clear HM hm
        go_wp2_with fail
        go_roundw
        case rel => exact ⟨p + 1, by omega, by go_num, by rw [HC2.out], by rw [HB2.out, HSY.out], hb4⟩
        case measure => simp [intOf]; omega
      | true =>
        have HC2 : Hid (cntOf (L s) (p + 1) = n + 1) := by unfold Hid; rw [HCN.out, hm]; rfl
        obtain ⟨q1, q2, q3, q4⟩ := bestIf (s := L s) (b := b) hm
        rw [← HBN.out] at q1 q2 q3 q4
        rw [← hxz, ← hyz] at q1 q2 q3 q4
        clear HM hm
        rcases Nat.lt_trichotomy Y.size X.size with hc1 | hc1 | hc1
        · have HB2 := Lib.hid (q1 hc1)
          have g2 : decide ((Y.size : Int) < (X.size : Int)) = true := decide_eq_true (by omega)
          have g2' : decide (Y.size < X.size) = true := decide_eq_true (by omega)
          clear q1 q2 q3 q4 hxz hyz
          go_wp2_with fail
          go_roundw
          case rel => exact ⟨p + 1, by omega, by go_num, by rw [HC2.out]; go_num, by rw [HB2.out, HSX.out], hb4⟩
          case measure => simp [intOf]; omega
        · obtain ⟨ix, hix⟩ : ∃ ix, Lib.index (L s) (L X) = ix := ⟨_, rfl⟩
          obtain ⟨iy, hiy⟩ : ∃ iy, Lib.index (L s) (L Y) = iy := ⟨_, rfl⟩
          have H1 := HIX.out X
          have H2 := HIX.out Y
          rw [hix] at H1
          rw [hiy] at H2
          have H1 := Lib.hid H1
          have H2 := Lib.hid H2
          rw [HLX.out] at hix
          rw [HLY.out] at hiy
          rw [hix, hiy] at q3 q4
          have g2 : decide ((Y.size : Int) < (X.size : Int)) = false := decide_eq_false (by omega)
          have g2' : decide (Y.size < X.size) = false := decide_eq_false (by omega)
          have g3 : ((X.size : Int) == (Y.size : Int)) = true := by rw [beq_iff_eq]; omega
          have g3' : (X.size == Y.size) = true := by rw [beq_iff_eq]; omega
          have hsB : w.heap.size ≤ w3.heap.size := hb0.size
          by_cases hlt2 : ix < iy
          · have g4 : decide (ix < iy) = true := decide_eq_true hlt2
            have HB2 := Lib.hid (q3 hc1.symm hlt2)
            clear q1 q2 q3 q4 hxz hyz hix hiy hc1 hlt2
            go_wp2_with fail
            refine (H1.out _ hb0).mono ?_
            rintro e w5 ⟨rfl, hb5⟩
            go_wp2_with fail
            refine (H2.out _ (hb0.trans (hb5.mono hsB))).mono ?_
            rintro e w6 ⟨rfl, hb6⟩
            go_wp2_with fail
            go_roundw
            case rel => exact ⟨p + 1, by omega, by go_num, by rw [HC2.out]; go_num, by rw [HB2.out, HSX.out], bthen (bthen hb4 hb5) hb6⟩
            case measure => simp [intOf]; omega
          · have g4 : decide (ix < iy) = false := decide_eq_false hlt2
            have HB2 := Lib.hid (q4 hc1.symm hlt2)
            clear q1 q2 q3 q4 hxz hyz hix hiy hc1 hlt2
            go_wp2_with fail
            refine (H1.out _ hb0).mono ?_
            rintro e w5 ⟨rfl, hb5⟩
            go_wp2_with fail
            refine (H2.out _ (hb0.trans (hb5.mono hsB))).mono ?_
            rintro e w6 ⟨rfl, hb6⟩
            go_wp2_with fail
            go_roundw
            case rel => exact ⟨p + 1, by omega, by go_num, by rw [HC2.out]; go_num, by rw [HB2.out, HSY.out], bthen (bthen hb4 hb5) hb6⟩
            case measure => simp [intOf]; omega
        · have HB2 := Lib.hid (q2 hc1)
          have g2 : decide ((Y.size : Int) < (X.size : Int)) = false := decide_eq_false (by omega)
          have g2' : decide (Y.size < X.size) = false := decide_eq_false (by omega)
          have g3 : ((X.size : Int) == (Y.size : Int)) = false := by rw [beq_eq_false_iff_ne]; omega
          have g3' : (X.size == Y.size) = false := by rw [beq_eq_false_iff_ne]; omega
          clear q1 q2 q3 q4 hxz hyz
          go_wp2_with fail
          go_roundw
          case rel => exact ⟨p + 1, by omega, by go_num, by rw [HC2.out]; go_num, by rw [HB2.out, HSY.out], hb4⟩
          case measure => simp [intOf]; omega
    · obtain rfl : p = N := by omega
      go_wp2_with fail
      go_ret2
      rw [HN.out]
      exact ⟨rfl, bthen hb1 hb⟩
end Go.Proofs.Ytmmamdjbbpeifaa
