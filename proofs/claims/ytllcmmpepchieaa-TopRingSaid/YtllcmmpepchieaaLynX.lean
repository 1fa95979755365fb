/- lyndon.Next. -/
import Derived.Test.YtllcmmpepchieaaLynN
namespace Go.Proofs.Ytllcmmpepchieaa
open Go.RowKit
/-- What Next answers: an error, or the word. -/
def nextE (s : List UInt8) (n : Int) (last : UInt8) : Int :=
  if n < 1 ∨ 200 < n then 1 else if n < (s.length : Int) then 2 else if lynB s = false then 3 else if anyGt s last = true then 1 else if stp (wd s n.toNat) last n.toNat = 0 then 4 else 0
def nextV (s : List UInt8) (n : Int) (last : UInt8) : List UInt8 := if nextE s n last = 0 then nextW s n.toNat last else []
theorem nextV_err {s : List UInt8} {n : Int} {last : UInt8} (h : nextE s n last ≠ 0) : nextV s n last = [] := by unfold nextV; rw [if_neg h]
theorem u8_succ {x last : UInt8} (h : x < last) : ((x.toNat : Int) + 1) % 256 = ((x + 1).toNat : Int) := by
  have h1 : x.toNat < last.toNat := h
  have h2 : last.toNat < 256 := last.toNat_lt
  rw [UInt8.toNat_add]
  show _ = (((x.toNat + 1) % 256 : Nat) : Int)
  omega
set_option maxRecDepth 100000 in
set_option maxHeartbeats 8000000 in
theorem lynNext_any (s : ByteArray) (n : Int) (last : UInt8) (hs : s.size ≤ 140737488351232) (hn0 : -9223372036854775808 ≤ n) (hn1 : n ≤ 9223372036854775807) (w : World) :
    Calls Try.prog 63 #[.string s, .int .i64 n, .int .u8 (last.toNat : Int)] w fun e w' => e = .returned (.tuple #[.string (S (nextV (L s) n last)), .int .i64 (nextE (L s) n last)]) ∧ Below w.heap.size w w' := by
  obtain ⟨i0, hi0, hz0, hz1, hz2⟩ := info_parts info_u8
  have HLL : Hid ((L s).length = s.size) := L_len s
  by_cases hn : n < 1 ∨ 200 < n
  · have HE : Hid (nextE (L s) n last = 1) := by unfold Hid nextE; rw [if_pos hn]
    have HV : Hid (nextV (L s) n last = []) := nextV_err (by rw [HE.out]; decide)
    rw [HE.out, HV.out]
    by_cases h1 : n < 1
    · have g1 : decide (n < 1) = true := decide_eq_true h1
      go_enter Try.func63, Try.ntmps63
      go_wp2_with fail
      go_ret2
      exact ⟨rfl, Below.refl _ _⟩
    · have g1 : decide (n < 1) = false := decide_eq_false h1
      have g2 : decide ((200 : Int) < n) = true := decide_eq_true (by omega)
      go_enter Try.func63, Try.ntmps63
      go_wp2_with fail
      go_ret2
      exact ⟨rfl, Below.refl _ _⟩
  obtain ⟨N, rfl⟩ : ∃ N : Nat, n = (N : Int) := ⟨n.toNat, by omega⟩
  have g1 : decide ((N : Int) < 1) = false := decide_eq_false (by omega)
  have g2 : decide ((200 : Int) < (N : Int)) = false := decide_eq_false (by omega)
  by_cases hsn : N < s.size
  · have HE : Hid (nextE (L s) (N : Int) last = 2) := by unfold Hid nextE; rw [if_neg hn, if_pos (by rw [HLL.out]; omega)]
    have HV : Hid (nextV (L s) (N : Int) last = []) := nextV_err (by rw [HE.out]; decide)
    rw [HE.out, HV.out]
    clear hn
    have g3 : decide ((N : Int) < (s.size : Int)) = true := decide_eq_true (by omega)
    have g3' : decide (N < s.size) = true := decide_eq_true (by omega)
    go_enter Try.func63, Try.ntmps63
    go_wp2_with fail
    go_ret2
    exact ⟨rfl, Below.refl _ _⟩
  have g3 : decide ((N : Int) < (s.size : Int)) = false := decide_eq_false (by omega)
  have g3' : decide (N < s.size) = false := decide_eq_false (by omega)
  have hs2 : s.size ≤ 200 := by omega
  cases hly : lynB (L s) with
  | false =>
    have HE : Hid (nextE (L s) (N : Int) last = 3) := by unfold Hid nextE; rw [if_neg hn, if_neg (by rw [HLL.out]; omega), if_pos hly]
    have HV : Hid (nextV (L s) (N : Int) last = []) := nextV_err (by rw [HE.out]; decide)
    rw [HE.out, HV.out]
    have HLY := Lib.hid hly
    clear hn hly
    go_enter Try.func63, Try.ntmps63
    go_wp2_with fail
    refine (lynIs_any s hs2 _).mono ?_
    rintro e w1 ⟨rfl, hb1⟩
    rw [HLY.out]
    go_wp2_with fail
    go_ret2
    exact ⟨rfl, hb1⟩
  | true =>
  have hpos : 0 < s.size := by
    rcases Nat.eq_zero_or_pos s.size with h | h
    · have h0 : L s = [] := List.eq_nil_of_length_eq_zero (by rw [L_len]; exact h)
      rw [h0] at hly; cases hly
    · exact h
  have hsN : s.size ≤ N := by omega
  have hN200 : N ≤ 200 := by omega
  have HLY := Lib.hid hly
  have HE1 : Hid (anyGt (L s) last = true → nextE (L s) (N : Int) last = 1) := fun h => by unfold nextE; rw [if_neg hn, if_neg (by rw [HLL.out]; omega), if_neg (by rw [hly]; decide), if_pos h]
  have HE2 : Hid (anyGt (L s) last = false → nextE (L s) (N : Int) last = if stp (wd (L s) N) last N = 0 then 4 else 0) := fun h => by
    unfold nextE
    rw [if_neg hn, if_neg (by rw [HLL.out]; omega), if_neg (by rw [hly]; decide), if_neg (by rw [h]; decide)]
    rfl
  clear hn hly
  have hcv := fun W => Lib.run_convert_string_bytes (P := Try.prog) W 9 63 5 s Try.underlying9 Try.underlying63 Try.underlying5
  go_enter Try.func63, Try.ntmps63
  go_wp2_with fail
  refine (lynIs_any s hs2 _).mono ?_
  rintro e w1 ⟨rfl, hb1⟩
  rw [HLY.out]
  have hb2 : Below w1.heap.size w1 (Lib.bytesWorld w1 5 s) := bytesWorld_below w1 _ s
  have hrd : Rd (Lib.bytesWorld w1 5 s) (w1.heap.size + 1) 1 (some ⟨w1.heap.size, 0, none⟩) s.size (byteCells (L s)) := bytesWorld_rd w1 _ s (Nat.lt_succ_self _)
  have hsz2 : w1.heap.size + 1 ≤ (Lib.bytesWorld w1 5 s).heap.size := by rw [Lib.bytesWorld_size]; exact Nat.le_refl _
  have HRD := Lib.hid hrd
  have HSZ2 := Lib.hid hsz2
  clear hrd hsz2
  go_wp2_with fail
  generalize Lib.bytesWorld w1 5 s = w2 at *
  have hb2' := bthen hb1 hb2
  generalize w1.heap.size = g at *
  clear hb2
  go_loopw [34] (fun i wr => ∃ k : Nat, k ≤ s.size ∧ i = .int .i64 (k : Int) ∧ (∀ j, j < k → ¬ last < (L s).getD j 0) ∧ wr = w2) (fun i _ => s.size - (intOf i).toNat)
  case atStart => exact ⟨0, Nat.zero_le _, rfl, fun j h => by omega, rfl⟩
  case round =>
    obtain ⟨k, hk, rfl, hno, rfl⟩ := hrel
    have HNO := Lib.hid hno
    clear hno
    by_cases hlt : k < s.size
    · have g4 : decide ((k : Int) < (s.size : Int)) = true := decide_eq_true (by omega)
      obtain ⟨ad, u, hA, hab, hu, hc⟩ := HRD.out.at_ hlt
      cases hA
      rw [byteCells_at (L s) (by rw [HLL.out]; exact hlt)] at hu
      obtain rfl := Option.some.inj hu
      have hadd : (⟨g, 0, none⟩ : Addr).add k = ⟨g, k, none⟩ := by unfold Addr.add; split <;> simp_all
      rw [hadd] at hc
      clear hu hadd
      by_cases hgt : last < (L s).getD k 0
      · have HA : Hid (anyGt (L s) last = true) := by
          unfold Hid anyGt
          rw [List.any_eq_true]
          refine ⟨(L s).getD k 0, ?_, by rw [decide_eq_true_eq]; exact hgt⟩
          rw [List.getD_eq_getElem?_getD, List.getElem?_eq_getElem (by rw [HLL.out]; exact hlt)]
          exact List.getElem_mem _
        have HE := Lib.hid (HE1.out HA.out)
        have HV : Hid (nextV (L s) (N : Int) last = []) := nextV_err (by rw [HE.out]; decide)
        have g5 : decide (last.toNat < ((L s).getD k 0).toNat) = true := decide_eq_true hgt
        clear hgt
        generalize (L s).getD k 0 = x at *
        go_wp2_with fail
        go_ret2
        rw [HE.out, HV.out]
        exact ⟨rfl, hb2'⟩
      · have HN : Hid (∀ j, j < k + 1 → ¬ last < (L s).getD j 0) := fun j hj => by
          by_cases hjk : j = k
          · subst hjk; exact hgt
          · exact HNO.out j (by omega)
        have g5 : decide (last.toNat < ((L s).getD k 0).toNat) = false := decide_eq_false hgt
        clear hgt
        generalize (L s).getD k 0 = x at *
        go_wp2_with fail
        go_roundw
        case rel => exact ⟨k + 1, by omega, by go_num, HN.out, by first | rfl | trivial⟩
        case measure => simp [intOf]; omega
    · obtain rfl : k = s.size := by omega
      have g4 : decide ((s.size : Int) < (s.size : Int)) = false := by simp
      have HA : Hid (anyGt (L s) last = false) := by
        unfold Hid anyGt
        rw [List.any_eq_false]
        intro c hc
        obtain ⟨j, hj, rfl⟩ := List.getElem_of_mem hc
        have := HNO.out j (by rw [HLL.out] at hj; exact hj)
        rw [List.getD_eq_getElem?_getD, List.getElem?_eq_getElem hj] at this
        rw [decide_eq_true_eq]; exact this
      have HE := Lib.hid (HE2.out HA.out)
      have HNG : Hid (∀ i, ¬ last < wdb (L s) i) := fun i => by
        unfold wdb
        refine HNO.out _ ?_
        rw [HLL.out]; exact Nat.mod_lt _ hpos
      clear HE1 HE2 HNO HRD
      have hOZ : OwnZ (Lib.bytesWorld wr 5 s) w.heap.size 5 1 (.slice (some ⟨wr.heap.size, 0, none⟩) s.size (grownCap wr s.size 0 5)) s.size (byteCells (L s)) := OwnZ.bytes wr _ s hb2'.size (by unfold maxLen; omega)
      have HOZ := Lib.hid hOZ
      have hb3 : Below wr.heap.size wr (Lib.bytesWorld wr 5 s) := bytesWorld_below wr _ s
      clear hOZ
      go_wp2_with fail
      generalize Lib.bytesWorld wr 5 s = w3 at *
      have hb3' := bthen hb2' hb3
      clear hb2' hb3
      generalize hcp : grownCap wr s.size 0 5 = cp at *
      clear hcp
      generalize wr.heap.size = g3 at *
      go_loopw [12, 13] (fun b i wr => ∃ k : Nat, s.size ≤ k ∧ k ≤ N ∧ i = .int .i64 (k : Int) ∧ OwnZ wr w.heap.size 5 1 b k (byteCells (wd (L s) k)) ∧ Below w.heap.size w wr) (fun _ i _ => N - (intOf i).toNat)
      case atStart => exact ⟨s.size, Nat.le_refl _, hsN, rfl, by
        have h1 := wd_self (L s)
        rw [HLL.out] at h1
        rw [h1]; exact HOZ.out, hb3'⟩
      case round =>
        clear HOZ hb3'
        obtain ⟨k, hk1, hk2, rfl, hoz, hb⟩ := hrel
        obtain ⟨A, c, rfl, hkc, hcm, hrd⟩ := hoz.form
        have HOZ := Lib.hid hoz
        have hbs := hb.size
        clear hoz
        by_cases hkN : k < N
        · have g6 : decide ((k : Int) < (N : Int)) = true := decide_eq_true (by omega)
          have g6' : decide (k < N) = true := decide_eq_true (by omega)
          obtain ⟨ad, u, rfl, hab, hu, hc⟩ := hrd.at_ (k := k - s.size) (by omega)
          rw [byteCells_at _ (by rw [wd_len]; omega), wd_at _ (by omega)] at hu
          have hwb : wdb (L s) (k - s.size) = wdb (L s) k := by
            have := wdb_back (L s) (k := k) (by rw [HLL.out]; exact hk1)
            rw [HLL.out] at this; exact this
          rw [hwb] at hu
          obtain rfl := Option.some.inj hu
          have HQ : Hid (byteCells (wd (L s) (k + 1)) = byteCells (wd (L s) k) ++ [.int .u8 ((wdb (L s) k).toNat : Int)]) := by
            unfold Hid; rw [wd_succ, byteCells_snoc]
          clear hu hwb hrd
          generalize wdb (L s) k = x at *
          go_wp2_with (at_builtin; go_must (refine wpList_appZ rfl _ _ _ rfl w.heap.size 5 i0 _ 1 1 Try.underlying63 hi0 hz0 hz1 hz2 rfl (by omega) _ k (byteCells (wd (L s) k)) rfl (HOZ.out.below (w' := wr.alloc _) ((Below.refl _ _).alloc (Nat.le_refl _) _)) ⟨wr.heap.size, 0, none⟩ 1 1 [.int .u8 (x.toNat : Int)] rfl rfl (cell_one_new _ _ _) (by simp [Value.oneCell']) (by omega) (by omega) (by simp; omega) ?_); intro v6 w6 hown6 hg6 hb6 ha6)
          have hb6' := (hb.alloc hbs _).trans hb6
          clear hg6 hb6 ha6
          go_roundw
          case rel =>
            refine ⟨k + 1, by omega, by omega, by go_num, ?_, hb6'⟩
            rw [HQ.out]
            exact hown6
          case measure => simp [intOf]; omega
        · obtain rfl : k = N := by omega
          have g6 : decide ((k : Int) < (k : Int)) = false := by simp
          clear hrd
          go_wp2_with fail
          go_loopw [12] (fun b wr => ∃ m : Nat, m ≤ k ∧ stp (wd (L s) k) last k = stp (wd (L s) k) last m ∧ OwnZ wr w.heap.size 5 1 b m (byteCells (wd (L s) m)) ∧ Below w.heap.size w wr) (fun b _ => match b with | .slice _ m _ => m | _ => 0)
          case atStart => exact ⟨k, Nat.le_refl _, rfl, HOZ.out, hb⟩
          case round =>
            clear HOZ hb
            obtain ⟨m, hm, hst, hoz, hb⟩ := hrel
            obtain ⟨A, c, rfl, hmc, hcm, hrd⟩ := hoz.form
            have HOZ := Lib.hid hoz
            have HST := Lib.hid hst
            clear hoz hst
            have hbs := hb.size
            rcases Nat.eq_zero_or_pos m with hm0 | hm0
            · subst hm0
              have HE4 : Hid (nextE (L s) (k : Int) last = 4) := by unfold Hid; rw [HE.out, HST.out, stp, if_pos rfl]
              have HV : Hid (nextV (L s) (k : Int) last = []) := nextV_err (by rw [HE4.out]; decide)
              clear hrd
              go_wp2_with fail
              go_ret2
              rw [HE4.out, HV.out]
              exact ⟨rfl, hb⟩
            · obtain ⟨g, o, cap, hv, hbg, hglt, hfz, hcell, hset⟩ := HOZ.out.cellAt (k := m - 1) (by omega)
              injection hv with hA hm' hc'
              subst hA
              subst hc'
              have hc := hcell _ (byteCells_at _ (by rw [wd_len]; omega))
              rw [wd_at _ (by omega)] at hc
              have HSET := Lib.hid hset
              clear hcell hset hrd
              have g7 : decide ((0 : Int) < (m : Int)) = true := decide_eq_true (by omega)
              have g8 : decide (0 < m) = true := decide_eq_true (by omega)
              have HSM : Hid (stp (wd (L s) k) last m = if wdb (L s) (m - 1) = last then stp (wd (L s) k) last (m - 1) else m) := by
                obtain ⟨q, rfl⟩ : ∃ q, m = q + 1 := ⟨m - 1, by omega⟩
                unfold Hid
                rw [stp, wd_at _ (by omega), Nat.add_sub_cancel]
              by_cases hx : wdb (L s) (m - 1) = last
              · have HN : Hid (stp (wd (L s) k) last k = stp (wd (L s) k) last (m - 1)) := by unfold Hid; rw [HST.out, HSM.out, if_pos hx]
                have g9 : (((wdb (L s) (m - 1)).toNat : Int) == (last.toNat : Int)) = true := by rw [hx]; simp
                have HF : Hid (OwnZ wr w.heap.size 5 1 (.slice (some ⟨g, o, none⟩) (m - 1) c) (m - 1) (byteCells (wd (L s) (m - 1)))) := by
                  have := HOZ.out.front _ _ (m - 1) rfl (by omega) (by simp)
                  rw [Nat.mul_one, byteCells, ← List.map_take, wd_take _ (by omega)] at this
                  exact this
                clear hx
                generalize wdb (L s) (m - 1) = x at *
                go_wp2_with fail
                go_roundw
                case rel => exact ⟨m - 1, by omega, HN.out, HF.out, hb⟩
                case measure => simp; omega
              · have HM : Hid (stp (wd (L s) k) last k = m) := by unfold Hid; rw [HST.out, HSM.out, if_neg hx]
                have HE0 : Hid (nextE (L s) (k : Int) last = 0) := by unfold Hid; rw [HE.out, HM.out, if_neg (by omega)]
                have HV : Hid (nextV (L s) (k : Int) last = wd (L s) (m - 1) ++ [wdb (L s) (m - 1) + 1]) := by
                  unfold Hid nextV
                  rw [if_pos HE0.out, nextW]
                  show wd (L s) (stp (wd (L s) k) last k - 1) ++ [wdb (L s) (stp (wd (L s) k) last k - 1) + 1] = _
                  rw [HM.out]
                have g9 : (((wdb (L s) (m - 1)).toNat : Int) == (last.toNat : Int)) = false := by
                  rw [beq_eq_false_iff_ne]; intro h; exact hx (UInt8.toNat_inj.1 (by omega))
                have hlt : wdb (L s) (m - 1) < last := by
                  have h1 : ¬ last.toNat < (wdb (L s) (m - 1)).toNat := HNG.out (m - 1)
                  have h2 : (wdb (L s) (m - 1)).toNat ≠ last.toNat := fun h => hx (UInt8.toNat_inj.1 h)
                  show (wdb (L s) (m - 1)).toNat < last.toNat
                  omega
                have gU := u8_succ hlt
                have HB : Hid ((byteCells (wd (L s) m)).set (m - 1) (.int .u8 ((wdb (L s) (m - 1) + 1).toNat : Int)) = byteCells (wd (L s) (m - 1) ++ [wdb (L s) (m - 1) + 1])) := by
                  unfold Hid
                  obtain ⟨q, rfl⟩ : ∃ q, m = q + 1 := ⟨m - 1, by omega⟩
                  rw [Nat.add_sub_cancel, wd_succ, byteCells_snoc, byteCells_snoc, List.set_append_right _ _ (by rw [byteCells_len, wd_len]; exact Nat.le_refl _), byteCells_len, wd_len, Nat.sub_self]
                  rfl
                clear hx hlt HNG HSM HST HE HM
                have hset1 := HSET.out (.int .u8 ((wdb (L s) (m - 1) + 1).toNat : Int))
                rw [HB.out] at hset1
                generalize wdb (L s) (m - 1) + 1 = y at *
                generalize wdb (L s) (m - 1) = x at *
                generalize wd (L s) (m - 1) ++ [y] = Y at *
                obtain ⟨A', c', hv', _, _, hrd'⟩ := hset1.form
                injection hv' with hA' _ hc''
                subst hA'
                subst hc''
                have hcv2 := run_bytes_string (P := Try.prog) (c := c) _ Try.underlying63 Try.underlying5 Try.underlying9 hrd'
                have hbF : Below w.heap.size w (wr.setCell ⟨g, o + (m - 1), none⟩ (.int .u8 (y.toNat : Int))) := Below.setCell hb (p := ⟨g, o + (m - 1), none⟩) hbg _
                clear hset1 hrd' HOZ HSET
                go_wp2_with fail
                go_ret2
                rw [HE0.out, HV.out]
                exact ⟨rfl, hbF⟩
end Go.Proofs.Ytllcmmpepchieaa
