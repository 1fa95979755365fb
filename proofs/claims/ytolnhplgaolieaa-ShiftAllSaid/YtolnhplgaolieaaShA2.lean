/- The reference's AllErr. -/
import Derived.Test.YtolnhplgaolieaaShA1
namespace Go.Proofs.Ytolnhplgaolieaa
open Go.RowKit
theorem two_rows (w : World) (a b : Value) (t : TypeId) : (w.alloc (.cells #[a, b] t)).cell? ⟨w.heap.size, 0, none⟩ = some a ∧ (w.alloc (.cells #[a, b] t)).cell? ⟨w.heap.size, 1, none⟩ = some b := by
  constructor <;> simp
structure OpsOk (l : List Op) : Prop where
  k : ∀ x ∈ l, -9223372036854775808 ≤ x.kind ∧ x.kind ≤ 9223372036854775807
  b : ∀ x ∈ l, 0 ≤ x.b ∧ x.b < 256
theorem allErr_zero {n : Int} {a b : List Op} (h : ¬ (30 < a.length ∨ 30 < b.length)) : allErr n a b = if chk a.length b.length n a = 0 then chk a.length b.length n b else chk a.length b.length n a := by
  unfold allErr; rw [if_neg h]
set_option maxRecDepth 100000 in
set_option maxHeartbeats 8000000 in
theorem allErrR_any (n : Int) (a b : List Op) (A B : Option Addr) (na ca nb cb D : Nat) (w : World) (ha : Rd w D 3 A na (opCells a)) (hb : Rd w D 3 B nb (opCells b)) (hD : D ≤ w.heap.size)
    (hna : na ≤ 140737488351232) (hnb : nb ≤ 140737488351232) (hoa : OpsOk a) (hob : OpsOk b) :
    Calls Try.prog 39 #[.int .i64 n, .slice A na ca, .slice B nb cb] w fun e w' => e = .returned (.int .i64 (allErr n a b)) ∧ Below w.heap.size w w' := by
  have hla := Rd.rec_len op_len (by omega) ha
  have hlb := Rd.rec_len op_len (by omega) hb
  by_cases h30 : 30 < na ∨ 30 < nb
  · have HE : Hid (allErr n a b = 2) := by unfold Hid allErr; rw [if_pos (by omega)]
    have g1 : decide (30 < max na nb) = true := decide_eq_true (by omega)
    rcases Nat.lt_or_ge na nb with ho | ho
    all_goals
      clear ha hb
      go_enter Try.func39, Try.ntmps39
      go_wp2
      all_goals first
        | (go_ret; exact ⟨ret_int HE.out.symm, (by repeat (first | exact Below.refl _ _ | assumption | refine Below.alloc ?_ (by first | exact Nat.le_refl _ | assumption | omega | (simp <;> omega)) _ | refine Below.setCell ?_ (by first | exact Nat.le_refl _ | assumption | omega | (simp <;> omega)) _ | refine Below.drew ?_ | refine below_drewN ?_ _))⟩)
        | (exfalso; omega)
  · have ha30 : na ≤ 30 := by omega
    have hb30 : nb ≤ 30 := by omega
    have HE := Lib.hid (allErr_zero (n := n) (a := a) (b := b) (by omega))
    rw [hla, hlb] at HE
    have HA := Lib.hid ha
    have HB := Lib.hid hb
    have HLA := Lib.hid hla
    have HLB := Lib.hid hlb
    clear ha hb hla hlb h30
    go_enter Try.func39, Try.ntmps39
    go_wp2
    all_goals try (exfalso; omega)
    all_goals
      obtain ⟨d0, d1⟩ := two_rows w (.slice A na ca) (.slice B nb cb) 56
      have hb1 : Below w.heap.size w (w.alloc (.cells #[.slice A na ca, .slice B nb cb] 56)) := (by repeat (first | exact Below.refl _ _ | assumption | refine Below.alloc ?_ (by first | exact Nat.le_refl _ | assumption | omega | (simp <;> omega)) _ | refine Below.setCell ?_ (by first | exact Nat.le_refl _ | assumption | omega | (simp <;> omega)) _ | refine Below.drew ?_ | refine below_drewN ?_ _))
      have D0 := Lib.hid d0
      have D1 := Lib.hid d1
      have hgl : w.heap.size < (w.alloc (.cells #[.slice A na ca, .slice B nb cb] 56)).heap.size := by simp
      clear d0 d1
      generalize (w.alloc (.cells #[.slice A na ca, .slice B nb cb] 56)) = w2 at *
      go_loopw [23] (fun k wr => ∃ k' : Nat, k' ≤ 2 ∧ k = .int .i64 k' ∧ (0 < k' → chk na nb n a = 0) ∧ (1 < k' → chk na nb n b = 0) ∧ Below w2.heap.size w2 wr) (fun k _ => 2 - (intOf k).toNat)
      case atStart => exact ⟨0, by omega, rfl, fun h => by omega, fun h => by omega, Below.refl _ _⟩
      case round =>
        obtain ⟨k, hk, rfl, hk0, hk1, hb⟩ := hrel
        have HK0 := Lib.hid hk0
        have HK1 := Lib.hid hk1
        clear hk0 hk1
        by_cases hk2 : k < 2
        · have g1 : decide ((k : Int) < 2) = true := decide_eq_true (by omega)
          have hpk : ∃ (l : List Op) (X : Option Addr) (nx cx : Nat), w2.cell? ⟨w.heap.size, k, none⟩ = some (.slice X nx cx) ∧ Rd w D 3 X nx (opCells l) ∧ l.length = nx ∧ nx ≤ 30 ∧ OpsOk l ∧
              (chk na nb n l = 0 → (0 < k + 1 → chk na nb n a = 0) ∧ (1 < k + 1 → chk na nb n b = 0)) ∧ (chk na nb n l ≠ 0 → allErr n a b = chk na nb n l) := by
            by_cases h0 : k = 0
            · subst h0
              exact ⟨a, A, na, ca, D0.out, HA.out, HLA.out, ha30, hoa, fun h => ⟨fun _ => h, fun h => by omega⟩, fun h => by rw [HE.out, if_neg h]⟩
            · obtain rfl : k = 1 := by omega
              have hz := HK0.out (by omega)
              exact ⟨b, B, nb, cb, D1.out, HB.out, HLB.out, hb30, hob, fun h => ⟨fun _ => hz, fun _ => h⟩, fun h => by rw [HE.out, if_pos hz]⟩
          obtain ⟨l, X, nx, cx, hcx, hrx, hlx, hnx, hox, hp1, hp2⟩ := hpk
          have hcx' := (hb.cell (p := ⟨w.heap.size, k, none⟩) hgl).trans hcx
          have HX := Lib.hid hrx
          have HLX := Lib.hid hlx
          have HP1 := Lib.hid hp1
          have HP2 := Lib.hid hp2
          clear hcx hrx hlx hp1 hp2
          go_wp2_with fail
          go_loopw [9, 30] (fun m i wr => ∃ (j : Nat) (m' : Int), j ≤ nx ∧ i = .int .i64 j ∧ m = .int .i64 m' ∧ m' = n + szs (l.take j) ∧ chk na nb n l = chk na nb m' (l.drop j) ∧ Below w2.heap.size w2 wr) (fun _ i _ => nx - (intOf i).toNat)
          case atStart => exact ⟨0, n, Nat.zero_le _, rfl, rfl, by simp [szs], by simp, hb⟩
          case round =>
            clear hb hcx'
            obtain ⟨j, m, hj, rfl, rfl, hm, hch, hb⟩ := hrel
            have HM := Lib.hid hm
            have HCH := Lib.hid hch
            clear hm hch
            have hbw := bthen hb1 hb
            by_cases hlt : j < nx
            · have g2 : decide ((j : Int) < (nx : Int)) = true := decide_eq_true (by omega)
              obtain ⟨ad, hl, rfl, hab, c0, c1, c2⟩ := (HX.out.below (hbw.mono hD)).at_op hlt
              have hxk := hox.k l[j] (List.getElem_mem hl)
              have hxb := hox.b l[j] (List.getElem_mem hl)
              have HST : Hid (opErr m l[j] = 0 → chk na nb n l = chk na nb (m + opSz l[j]) (l.drop (j + 1)) ∧ m + opSz l[j] = n + szs (l.take (j + 1))) := fun h => by
                rw [HM.out] at h
                obtain ⟨h1, h2⟩ := chk_step (la := na) (lb := nb) hl h
                rw [HCH.out, HM.out, h1, h2]
                exact ⟨rfl, rfl⟩
              have HBD : Hid (opErr m l[j] ≠ 0 → chk na nb n l = opErr m l[j]) := fun h => by
                rw [HM.out] at h
                rw [HCH.out, HM.out, chk_bad hl h]
              generalize l[j] = x at *
              have hsz := opSz_bd x
              have HA0 : Hid (Blk (wr.alloc (.cells #[.int .i64 x.kind, .int .i64 x.pos, .int .u8 x.b] 64)) wr.heap.size 64 #[.int .i64 x.kind, .int .i64 x.pos, .int .u8 x.b]) := Blk.new_ _ _ _
              go_wp2_with fail
              refine (shOpErr_any m x _ hxb.1 hxk).mono ?_
              rintro e w4 ⟨rfl, hb4⟩
              have H4 := HA0.out.below' hb4
              have hb4' : Below wr.heap.size wr w4 := ((Below.refl _ _).alloc (Nat.le_refl _) _).trans (hb4.mono (by simp))
              have q0 := Blk.cell0 H4; have q1 := Blk.cell1 H4; have q2 := Blk.cell2 H4
              clear H4 HA0 hb4
              by_cases he : opErr m x = 0
              · rw [he]
                obtain ⟨v1, v2, v3, v4, v5⟩ := vld_of_err he
                have HST2 := Lib.hid (HST.out he)
                clear he HST HBD v1
                go_wp2_with fail
                refine (longer_any x _ hxk).mono ?_
                rintro e w5 ⟨rfl, hb5⟩
                clear q0 q1 q2
                go_wp2_with fail
                go_roundw
                case rel => exact ⟨j + 1, m + opSz x, by omega, by go_num, rfl, HST2.out.2, HST2.out.1, bthen hb (bthen hb4' hb5)⟩
                case measure => simp [intOf]; omega
              · have hbd := HBD.out he
                have HR : Hid (allErr n a b = opErr m x) := by unfold Hid; rw [HP2.out (by rw [hbd]; exact he), hbd]
                have g3 : (opErr m x != 0) = true := by rw [bne_iff_ne]; exact he
                clear hbd he HBD HST
                generalize opErr m x = ee at *
                go_wp2_with fail
                go_ret
                exact ⟨by rw [HR.out]; rfl, bthen hbw hb4'⟩
            · obtain rfl : j = nx := by omega
              have g2 : decide ((j : Int) < (j : Int)) = false := decide_eq_false (by omega)
              have hend : chk na nb n l = if 200 < wrap64 (wrap64 (m + na) + nb) then 11 else 0 := by
                have e := chk_end (la := na) (lb := nb) (m := n) (l := l)
                rw [HLX.out] at e
                have e2 : m = n + szs l := by rw [HM.out, ← HLX.out, List.take_length]
                rw [← HM.out, ← e2] at e
                rw [HCH.out, e]
              by_cases hf : 200 < wrap64 (wrap64 (m + na) + nb)
              · rw [if_pos hf] at hend
                have HR : Hid (allErr n a b = 11) := by unfold Hid; rw [HP2.out (by rw [hend]; decide), hend]
                have g4 : decide (200 < wrap64 (wrap64 (m + na) + nb)) = true := decide_eq_true hf
                clear hend hf
                go_wp2_with fail
                go_ret
                exact ⟨by rw [HR.out]; rfl, hbw⟩
              · rw [if_neg hf] at hend
                have g4 : decide (200 < wrap64 (wrap64 (m + na) + nb)) = false := decide_eq_false hf
                have HZ := Lib.hid (HP1.out hend)
                clear hend hf
                go_wp2_with fail
                go_roundw
                case rel => exact ⟨k + 1, by omega, by go_num, HZ.out.1, HZ.out.2, hb⟩
                case measure => simp [intOf]; omega
        · obtain rfl : k = 2 := by omega
          have HR : Hid (allErr n a b = 0) := by
            unfold Hid; rw [HE.out, if_pos (HK0.out (by omega))]; exact HK1.out (by omega)
          go_wp2_with fail
          go_ret
          exact ⟨by rw [HR.out]; rfl, bthen hb1 hb⟩
end Go.Proofs.Ytolnhplgaolieaa
