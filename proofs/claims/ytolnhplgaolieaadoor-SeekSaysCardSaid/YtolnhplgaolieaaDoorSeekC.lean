/- seek.Put; the document's FindOf and Alike. -/
import Derived.Test.YtolnhplgaolieaaDoorSeekA
namespace Go.Proofs.YtolnhplgaolieaaDoor
open Go.RowKit
set_option maxRecDepth 100000 in
set_option maxHeartbeats 4000000 in
theorem alikeZ_any (a b : ByteArray) (ha : a.size ≤ 200) (hb : b.size ≤ 200) (w : World) :
    Calls Tryd.prog 8 #[.string a, .string b] w fun e w' => e = .returned (.int .i64 (lcp (L a) (L b) : Nat)) ∧ Below w.heap.size w w' := by
  have HA : Hid ((L a).length = a.size) := L_len a
  have HB : Hid ((L b).length = b.size) := L_len b
  rcases Nat.lt_or_ge b.size a.size with hmn | hmn
  all_goals
    go_enter Tryd.func8, Tryd.ntmps8
    go_wp2
    go_loopw [5] (fun nv wr => ∃ n m : Nat, nv = .int .i64 (n : Int) ∧ n ≤ a.size ∧ n ≤ b.size ∧ Hid (∀ j, j < n → (L a).getD j 0 = (L b).getD j 0) ∧ wr = w.drewN m) (fun nv _ => a.size - (intOf nv).toNat)
    case atStart => exact ⟨0, 0, rfl, Nat.zero_le _, Nat.zero_le _, Lib.hid (fun j hj => by omega), rfl⟩
    case round =>
      obtain ⟨n, m, rfl, hna, hnb, HT, rfl⟩ := hrel
      by_cases h1 : n < a.size ∧ n < b.size
      · obtain ⟨h1, h2⟩ := h1
        have e1 := getB a n h1
        have e2 := getB b n h2
        have g1 : decide ((n : Int) < min (a.size : Int) (b.size : Int)) = true := decide_eq_true (by omega)
        by_cases he : a[n] = b[n]
        · have g2 : ((a[n].toNat : Int) == (b[n].toNat : Int)) = true := by rw [he]; exact beq_self_eq_true _
          have HN : Hid (∀ j, j < n + 1 → (L a).getD j 0 = (L b).getD j 0) := fun j hj => by
            rcases Nat.lt_or_ge j n with h3 | h3
            · exact HT.out j h3
            · obtain rfl : j = n := by omega
              rw [← e1, ← e2, he]
          clear e1 e2 he
          go_wp2
          go_quiet (fail)
          go_wp2
          go_roundw
          case rel => exact ⟨n + 1, _, by go_num, by omega, by omega, HN, rfl⟩
          case measure => simp [intOf]; omega
        · have g2 : ((a[n].toNat : Int) == (b[n].toNat : Int)) = false := by
            rw [beq_eq_false_iff_ne]; intro h; exact he (UInt8.toNat_inj.1 (by omega))
          have HN := Lib.hid (lcp_eq (L a) (L b) n (by rw [HA.out]; exact hna) (by rw [HB.out]; exact hnb) HT.out (.inr (.inr (by rw [← e1, ← e2]; exact he))))
          clear e1 e2 he
          go_wp2
          go_quiet (fail)
          go_wp2
          go_ret
          exact ⟨ret_int (by rw [HN.out]), (by repeat (first | exact Below.refl _ _ | assumption | refine Below.alloc ?_ (by first | exact Nat.le_refl _ | assumption | omega | (simp <;> omega)) _ | refine Below.setCell ?_ (by first | exact Nat.le_refl _ | assumption | omega | (simp <;> omega)) _ | refine Below.drew ?_ | refine below_drewN ?_ _))⟩
      · have HN := Lib.hid (lcp_eq (L a) (L b) n (by rw [HA.out]; exact hna) (by rw [HB.out]; exact hnb) HT.out (by rw [HA.out, HB.out]; omega))
        have g1 : decide ((n : Int) < min (a.size : Int) (b.size : Int)) = false := decide_eq_false (by omega)
        first | (have g3 : decide ((n : Int) < (b.size : Int)) = false := decide_eq_false (by omega); have g4 : decide (n < b.size) = false := decide_eq_false (by omega)) | (have g3 : decide ((n : Int) < (a.size : Int)) = false := decide_eq_false (by omega); have g4 : decide (n < a.size) = false := decide_eq_false (by omega))
        clear h1
        go_wp2
        go_quiet (fail)
        go_wp2
        go_ret
        exact ⟨ret_int (by rw [HN.out]), (by repeat (first | exact Below.refl _ _ | assumption | refine Below.alloc ?_ (by first | exact Nat.le_refl _ | assumption | omega | (simp <;> omega)) _ | refine Below.setCell ?_ (by first | exact Nat.le_refl _ | assumption | omega | (simp <;> omega)) _ | refine Below.drew ?_ | refine below_drewN ?_ _))⟩
theorem hitB_eq (s p : ByteArray) (i : Nat) : ((s.extract i (i + p.size)).toList == p.toList) = hitB (L s) (L p) i := by
  rw [beqB, hitB, L_len, Bool.eq_iff_iff, decide_eq_true_iff, decide_eq_true_iff, extract_S, Nat.add_sub_cancel_left]
  constructor
  · intro h; have := congrArg L h; rwa [L_S] at this
  · intro h; rw [h]; rfl
theorem findI_succ (s p : List UInt8) (n : Nat) : findI s p (n + 1) = findI s p n ++ if hitB s p n = true then [(n : Int)] else [] := by
  unfold findI
  rw [finds_succ, List.map_append]
  congr 1
  split <;> rfl
set_option maxRecDepth 100000 in
set_option maxHeartbeats 4000000 in
theorem findOf_any (s p : ByteArray) (hs : s.size ≤ 200) (hp : p.size ≤ 200) (w : World) :
    Calls Tryd.prog 10 #[.string s, .string p] w fun e w' => ∃ v, e = .returned v ∧ w'.ownsRow w.heap.size 3 1 v (findI (L s) (L p) (s.size + 1 - p.size)).length (ints (findI (L s) (L p) (s.size + 1 - p.size))) ∧ Below w.heap.size w w' := by
  obtain ⟨i0, hi0, hz0, hz1, hz2⟩ := info_parts info_int
  obtain ⟨N, hN⟩ : ∃ N, s.size + 1 - p.size = N := ⟨_, rfl⟩
  have HNN := Lib.hid hN
  go_enter Tryd.func10, Tryd.ntmps10
  go_wp2_with fail
  go_loopw [6, 5] (fun iv ov wr => ∃ i : Nat, i ≤ N ∧ iv = .int .i64 (i : Int) ∧ wr.ownsRow w.heap.size 3 1 ov (findI (L s) (L p) i).length (ints (findI (L s) (L p) i)) ∧ Below w.heap.size w wr) (fun iv _ _ => N - (intOf iv).toNat)
  case atStart => exact ⟨0, Nat.zero_le _, rfl, World.ownsRow_nil _ _ _ _, Below.refl _ _⟩
  case round =>
    obtain ⟨i, hi, rfl, hown, hb⟩ := hrel
    by_cases hlt : i < N
    · have g1 : decide ((i : Int) + (p.size : Int) ≤ (s.size : Int)) = true := decide_eq_true (by omega)
      have gx : ((i : Int) + (p.size : Int)).toNat = i + p.size := by omega
      have hroom : i + p.size ≤ s.size := by omega
      have HST := Lib.hid (findI_succ (L s) (L p) i)
      have HEQ := Lib.hid (hitB_eq s p i)
      have hfl := finds_len (L s) (L p) i
      have hfl2 := findI_len (L s) (L p) i
      obtain ⟨F, hF⟩ : ∃ F, findI (L s) (L p) i = F := ⟨_, rfl⟩
      rw [hF] at hown HST hfl2
      have hFb : F.length ≤ 201 := by omega
      clear hF hfl hfl2 hN
      have HOWN := Lib.hid hown
      clear hown
      cases hh : hitB (L s) (L p) i with
      | true =>
        rw [hh] at HEQ HST
        have g2 : ((s.extract i (i + p.size)).toList == p.toList) = true := HEQ.out
        have HNX : Hid (findI (L s) (L p) (i + 1) = F ++ [(i : Int)]) := by
          have h := HST.out
          rw [if_pos rfl] at h
          exact h
        clear HEQ HST hh
        go_wp2_with (at_builtin; go_must (refine wpList_appG rfl _ _ _ rfl w.heap.size 3 i0 _ 1 8 Tryd.underlying22 hi0 hz0 hz1 hz2 rfl (by omega) _ F.length (ints F) rfl (World.ownsRow.alloc (w := wr) HOWN.out _) ⟨wr.heap.size, 0, none⟩ 1 1 [.int .i64 ((i : Int))] rfl rfl (cell_one_new _ _ _) (by simp [Value.oneCell']) (by omega) (by omega) (by have := (hb).size; simp at this ⊢; omega) ?_); intro v6 w6 hown6 hg6 hb6; have hb6' := ((hb).alloc (hb).size _).trans hb6)
        clear hg6 hb6
        go_roundw
        case rel =>
          refine ⟨i + 1, by omega, by go_num, ?_, hb6'⟩
          rw [HNX.out, List.length_append, List.length_singleton, ints_snoc]
          exact hown6
        case measure => simp [intOf]; omega
      | false =>
        rw [hh] at HEQ HST
        have g2 : ((s.extract i (i + p.size)).toList == p.toList) = false := HEQ.out
        have HNX : Hid (findI (L s) (L p) (i + 1) = F) := by
          have h := HST.out
          rw [if_neg (by decide), List.append_nil] at h
          exact h
        clear HEQ HST hh
        go_wp2_with fail
        go_roundw
        case rel =>
          refine ⟨i + 1, by omega, by go_num, ?_, hb⟩
          rw [HNX.out]
          exact HOWN.out
        case measure => simp [intOf]; omega
    · obtain rfl : i = N := by omega
      have g1 : decide ((i : Int) + (p.size : Int) ≤ (s.size : Int)) = false := decide_eq_false (by omega)
      have hiB : i ≤ 201 := by omega
      clear hN
      go_wp2_with fail
      go_ret
      rw [HNN.out]
      exact ⟨_, rfl, hown, hb⟩
set_option maxHeartbeats 2000000 in
theorem seekPut_err (s p by_ : ByteArray) (h : seekErr s p ≠ 0) (w : World) : Calls Tryd.prog 6 #[.string s, .string p, .string by_] w fun e w' => e = .returned (.tuple #[.string ⟨#[]⟩, .int .i64 0, .int .i64 (seekErr s p)]) ∧ Below w.heap.size w w' := by
  have HC := Lib.hid (seekFind_err s p h)
  generalize seekErr s p = E at *
  have g1 : (E == 0) = false := by rw [beq_eq_false_iff_ne]; exact h
  have g2 : (E != 0) = true := by rw [bne, g1]; rfl
  clear h
  go_enter Tryd.func6, Tryd.ntmps6
  go_wp2_with fail
  refine (HC.out _).mono ?_
  rintro e w1 ⟨rfl, hb1⟩
  go_wp2_with fail
  go_ret3
  exact ⟨rfl, hb1⟩
set_option maxHeartbeats 2000000 in
theorem seekPut_by (s p by_ : ByteArray) (hs : s.size ≤ 200) (hp : p.size ≤ 200) (hp0 : 0 < p.size) (hy : 200 < by_.size) (w : World) : Calls Tryd.prog 6 #[.string s, .string p, .string by_] w fun e w' => e = .returned (.tuple #[.string ⟨#[]⟩, .int .i64 0, .int .i64 2]) ∧ Below w.heap.size w w' := by
  have HC := Lib.hid (seekFind_any s p hs hp hp0)
  have HE : Hid (longErr by_.size = 2) := by unfold Hid longErr; rw [if_pos hy]
  go_enter Tryd.func6, Tryd.ntmps6
  go_wp2_with fail
  refine (HC.out _).mono ?_
  rintro e w1 ⟨v, rfl, _, hb1⟩
  go_wp2_with fail
  refine (wordCheck_any by_ _).mono ?_
  rintro e w2 ⟨rfl, hb2⟩
  rw [HE.out]
  go_wp2_with fail
  go_ret3
  exact ⟨rfl, bthen hb1 hb2⟩
set_option maxRecDepth 100000 in
set_option maxHeartbeats 4000000 in
theorem seekPut_any (s p by_ : ByteArray) (hs : s.size ≤ 200) (hp : p.size ≤ 200) (hp0 : 0 < p.size) (hy : by_.size ≤ 200) (w : World) :
    Calls Tryd.prog 6 #[.string s, .string p, .string by_] w fun e w' => e = .returned (.tuple #[.string (S (Lib.replaceAll (L s) (L p) (L by_))), .int .i64 (Lib.count (L s) (L p) : Nat), .int .i64 0]) ∧ Below w.heap.size w w' := by
  have HC := Lib.hid (seekFind_any s p hs hp hp0)
  have HE : Hid (longErr by_.size = 0) := by unfold Hid longErr; rw [if_neg (by omega)]
  have HS : Hid ((L s).length = s.size) := L_len s
  have HP : Hid ((L p).length = p.size) := L_len p
  have HY : Hid ((L by_).length = by_.size) := L_len by_
  have HPN : Hid (L p ≠ []) := fun h => by have := HP.out; rw [h] at this; simp at this; omega
  obtain ⟨N, hN⟩ : ∃ N, s.size + 1 - p.size = N := ⟨_, rfl⟩
  rw [hN] at HC
  have hNb : N ≤ 201 := by omega
  have HNP : Hid (N + p.size ≤ s.size + 1 ∨ N = 0) := by unfold Hid; omega
  have hfl := finds_len (L s) (L p) N
  have hfl2 := findI_len (L s) (L p) N
  have HFA := fun q (h : q < (finds (L s) (L p) N).length) => findI_at (L s) (L p) N h
  have HFA := Lib.hid HFA
  obtain ⟨K, hK⟩ : ∃ K, (finds (L s) (L p) N).length = K := ⟨_, rfl⟩
  rw [hK] at hfl hfl2
  rw [hfl2] at HC
  have HKK := Lib.hid hK
  have hN2 := Lib.hid hN
  clear hfl2 hK hN
  go_enter Tryd.func6, Tryd.ntmps6
  go_wp2_with fail
  refine (HC.out _).mono ?_
  rintro e w1 ⟨v, rfl, hown, hb1⟩
  obtain ⟨A, c0, rfl, _, _, hrd⟩ := own_form hown
  have HRD := Lib.hid hrd
  clear hown hrd
  go_wp2_with fail
  refine (wordCheck_any by_ _).mono ?_
  rintro e w2 ⟨rfl, hb2⟩
  rw [HE.out]
  have HRD2 := Lib.hid (HRD.out.below hb2)
  have hb12 := bthen hb1 hb2
  clear HRD hb1 hb2
  go_wp2_with fail
  go_loopw [33, 12, 13, 14] (fun qv ov av cv wr => ∃ (q a c : Nat) (out : List UInt8), q ≤ K ∧ a ≤ s.size ∧ qv = .int .i64 (q : Int) ∧ ov = .string (S out) ∧ av = .int .i64 (a : Int) ∧ cv = .int .i64 (c : Int) ∧ Hid (PutAt (L s) (L p) (L by_) N q a c out) ∧ wr = w2) (fun qv _ _ _ _ => K - (intOf qv).toNat)
  case atStart => exact ⟨0, 0, 0, [], Nat.zero_le _, Nat.zero_le _, rfl, rfl, rfl, rfl, Lib.hid (PutAt.start _ _ _ _), rfl⟩
  case round =>
    obtain ⟨q, a, c, out, hq, has, rfl, rfl, rfl, rfl, HPA, rfl⟩ := hrel
    have hcq := HPA.out.cq
    have hol := HPA.out.len
    rw [HY.out] at hol
    have hmul : c * by_.size ≤ 201 * 200 := Nat.mul_le_mul (by omega) hy
    have hob : out.length ≤ 41000 := by omega
    clear hol hmul
    by_cases hlt : q < K
    · have g1 : decide ((q : Int) < (K : Int)) = true := decide_eq_true (by omega)
      have g1' : decide (q < K) = true := decide_eq_true hlt
      obtain ⟨ad, u, hA, hab, hu, hc⟩ := HRD2.out.at_ hlt
      rw [ints_getD _ _ (by rw [findI_len, HKK.out]; exact hlt), HFA.out q (by rw [HKK.out]; exact hlt)] at hu
      obtain rfl := Option.some.inj hu
      clear hu
      subst hA
      have hSK := fun h => HPA.out.skip (by_ := L by_) h
      have HSK := Lib.hid hSK
      have HHT : Hid (a ≤ (finds (L s) (L p) N).getD q 0 → N ≠ 0 → (finds (L s) (L p) N).getD q 0 + p.size ≤ s.size ∧ PutAt (L s) (L p) (L by_) N (q + 1) ((finds (L s) (L p) N).getD q 0 + p.size) (c + 1) (out ++ ((L s).drop a).take ((finds (L s) (L p) N).getD q 0 - a) ++ L by_)) := fun h hN0 => by
        have := HPA.out.hit HPN.out (by rw [HP.out, HS.out]; exact HNP.out.resolve_right hN0) (by rw [HKK.out]; exact hlt) rfl h
        rw [HP.out, HS.out] at this
        exact this
      clear hSK
      generalize (finds (L s) (L p) N).getD q 0 = i at *
      obtain ⟨O, hO⟩ : ∃ O, S out = O := ⟨_, rfl⟩
      have hOz : O.size ≤ 41000 := by rw [← hO, S_size]; exact hob
      rw [hO]
      have HO := Lib.hid hO
      clear hO
      by_cases hai : a ≤ i
      · have g2 : decide ((a : Int) ≤ (i : Int)) = true := decide_eq_true (by omega)
        have g2' : decide (a ≤ i) = true := decide_eq_true hai
        obtain ⟨hroom, hn⟩ := HHT.out hai (by omega)
        have HN := Lib.hid hn
        have hex : (s.extract a i).size ≤ 200 := by rw [ByteArray.size_extract]; omega
        have HX : Hid (O ++ (s.extract a i ++ by_) = S (out ++ ((L s).drop a).take (i - a) ++ L by_)) := by
          unfold Hid
          rw [← HO.out, extract_S, append_S, append_S, L_S, L_S, L_S, List.append_assoc]
        clear hn HHT HSK
        go_wp2_with fail
        go_roundw
        case rel => exact ⟨q + 1, i + p.size, c + 1, _, by omega, hroom, by go_num, congrArg Value.string HX.out, by go_num, by go_num, HN, by first | rfl | trivial⟩
        case measure => simp [intOf]; omega
      · have g2 : decide ((a : Int) ≤ (i : Int)) = false := decide_eq_false (by omega)
        have g2' : decide (a ≤ i) = false := decide_eq_false hai
        have HN := Lib.hid (HSK.out (by omega))
        clear HHT HSK
        go_wp2_with fail
        go_roundw
        case rel => exact ⟨q + 1, a, c, out, by omega, has, by go_num, by rw [HO.out], rfl, rfl, HN, by first | rfl | trivial⟩
        case measure => simp [intOf]; omega
    · obtain rfl : q = K := by omega
      have g1 : decide ((q : Int) < (q : Int)) = false := decide_eq_false (by omega)
      have g1' : decide (q < q) = false := decide_eq_false hlt
      have hfin := HPA.out
      rw [← HKK.out] at hfin
      have hf := hfin.fin HPN.out (by rw [HS.out, HP.out]; exact hN2.out.symm)
      obtain ⟨hf1, hf2⟩ := hf
      obtain ⟨O, hO⟩ : ∃ O, S out = O := ⟨_, rfl⟩
      have hOz : O.size ≤ 41000 := by rw [← hO, S_size]; exact hob
      have hex : (s.extract a s.size).size ≤ 200 := by rw [ByteArray.size_extract]; omega
      have HX : Hid (O ++ s.extract a s.size = S (Lib.replaceAll (L s) (L p) (L by_))) := by
        unfold Hid
        rw [← hf1, ← hO, extract_S, append_S, L_S, L_S, List.take_of_length_le (by rw [List.length_drop, HS.out]; exact Nat.le_refl _)]
      rw [hO]
      have HF2 := Lib.hid hf2
      clear hO hf1 hf2 hfin
      go_wp2_with fail
      go_ret3
      rw [← HX.out, ← HF2.out]
      exact ⟨rfl, hb12⟩
end Go.Proofs.YtolnhplgaolieaaDoor
