/- The reference's BehindOf, walked. merge.Behind at scripts that go together, walked. The law MergeSays, walked. -/
import Derived.Test.YtmikckhihfcooaaPk14
import Derived.Test.YtmikckhihfcooaaPk15
import Derived.Test.YtmikckhihfcooaaPk18
namespace Go.Proofs.Ytmikckhihfcooaa
open Go.RowKit
/-- The edits that lie wholly ahead of a place. -/
def ahd (x : Int) (a : List Ed) : List Ed := a.filter fun y => decide (y.at_ + y.del < x)
theorem ahd_grows (x : Ed) : ∀ a : List Ed, grows (ahd x.at_ a) = shR x a
  | [] => rfl
  | y :: a => by
    have ih := ahd_grows x a
    unfold ahd at ih ⊢
    rw [List.filter_cons, shR]
    by_cases h : y.at_ + y.del < x.at_
    · rw [if_pos (decide_eq_true h), if_pos h, grows, ih, S_size]
    · rw [if_neg (by simpa using h), if_neg h, ih]; omega
theorem ahd_succ {x : Int} {a : List Ed} {k : Nat} (hk : k < a.length) : ahd x (a.take (k + 1)) = ahd x (a.take k) ++ (if a[k].at_ + a[k].del < x then [a[k]] else []) := by
  unfold ahd
  rw [List.take_succ_eq_append_getElem hk, List.filter_append]
  congr 1
  by_cases h : a[k].at_ + a[k].del < x <;> simp [h]
theorem ahd_len (x : Int) (a : List Ed) : (ahd x a).length ≤ a.length := List.length_filter_le _ _
theorem ahd_small {x : Int} {a : List Ed} (h : Small a) : Small (ahd x a) := fun y hy => h y (List.mem_filter.1 hy).1
theorem beh_succ {a b : List Ed} {i : Nat} (hi : i < b.length) : behE a (b.take (i + 1)) = behE a (b.take i) ++ (if b[i] ∈ a then [] else [⟨b[i].at_ + shR b[i] a, b[i].del, b[i].ins⟩]) := by
  unfold behE
  rw [List.take_succ_eq_append_getElem hi, List.filter_append, List.map_append]
  congr 1
  by_cases h : b[i] ∈ a <;> simp [h]
theorem beh_len (a b : List Ed) : (behE a b).length ≤ b.length := by
  unfold behE
  rw [List.length_map]
  exact List.length_filter_le _ _
set_option maxRecDepth 100000 in
set_option maxHeartbeats 16000000 in
theorem refBehind_any (n : Int) (a b : List Ed) (A A2 : Option Addr) (m c m2 c2 B : Nat) (w : World) (hr : Rd w B 3 A m (edCells a)) (hr2 : Rd w B 3 A2 m2 (edCells b)) (hB : B ≤ w.heap.size) (ha : edErr n a = 0) (hb : edErr n b = 0) :
    Calls Try.prog 10 #[.slice A m c, .slice A2 m2 c2] w fun e w' => ∃ v, e = .returned v ∧ w'.ownsRow w.heap.size 30 3 v (behE a b).length (edCells (behE a b)) ∧ Below w.heap.size w w' := by
  obtain ⟨i0, hi0, hz0, hz1, hz2⟩ := info_parts info_edM
  have hal := Rd.rec_len ed_len9 (by omega) hr
  have hbl := Rd.rec_len ed_len9 (by omega) hr2
  have HBA := Lib.hid (ed_bd ha)
  have HBB := Lib.hid (ed_bd hb)
  have hm20 : m ≤ 20 := by have := (edErr_zero.1 ha).2.2.1; omega
  have hm220 : m2 ≤ 20 := by have := (edErr_zero.1 hb).2.2.1; omega
  have HSM := Lib.hid (edErr_small ha)
  have HAL := Lib.hid hal
  have HBL := Lib.hid hbl
  have H1 : Hid (∀ W, Below w.heap.size w W → Rd W B 3 A m (edCells a)) := fun W hW => hr.below (hW.mono hB)
  have H2 : Hid (∀ W, Below w.heap.size w W → Rd W B 3 A2 m2 (edCells b)) := fun W hW => hr2.below (hW.mono hB)
  clear hr hr2 ha hb hal hbl
  go_enter Try.func10, Try.ntmps10
  go_wp2_with fail
  go_loopw [5, 13] (fun ov iv wr => ∃ i : Nat, i ≤ m2 ∧ iv = .int .i64 (i : Int) ∧ Hid (wr.ownsRow w.heap.size 30 3 ov (behE a (b.take i)).length (edCells (behE a (b.take i)))) ∧ Below w.heap.size w wr) (fun _ iv _ => m2 - (intOf iv).toNat)
  case atStart => exact ⟨0, Nat.zero_le _, rfl, World.ownsRow_nil _ _ _ _, Below.refl _ _⟩
  case round =>
    obtain ⟨i, hi, rfl, HO, hb⟩ := hrel
    obtain ⟨wz, hwz⟩ : ∃ wz : World, wz = wr := ⟨_, rfl⟩
    subst hwz
    have hbs := hb.size
    by_cases hlt : i < m2
    · have g1 : decide ((i : Int) < (m2 : Int)) = true := decide_eq_true (by omega)
      have g1' : decide (i < m2) = true := decide_eq_true hlt
      have hil : i < b.length := by rw [HBL.out]; exact hlt
      obtain ⟨bd, rfl, _, d0, d1, d2⟩ := ed_cell (H2.out wz hb) hil HBL.out
      have HSC := Lib.hid (beh_succ (a := a) hil)
      have hbx := HBB.out _ (List.getElem_mem hil)
      have hql : (behE a (b.take i)).length ≤ 20 := by have := beh_len a (b.take i); rw [List.length_take] at this; omega
      obtain ⟨Q, hQ⟩ : ∃ Q, behE a (b.take i) = Q := ⟨_, rfl⟩
      rw [hQ] at HO HSC hql
      clear hQ
      generalize b[i] = x at *
      obtain ⟨xa, xd, xi⟩ := x
      simp only at hbx
      have d0 : wz.cell? (bd.add (i * 3)) = some (.int .i64 xa) := d0
      have d1 : wz.cell? ⟨(bd.add (i * 3)).block, (bd.add (i * 3)).off + 1, none⟩ = some (.int .i64 xd) := d1
      have d2 : wz.cell? ⟨(bd.add (i * 3)).block, (bd.add (i * 3)).off + 2, none⟩ = some (.string (S xi)) := d2
      have hbA : Below w.heap.size w (wz.alloc (.cells #[.int .i64 xa, .int .i64 xd, .string (S xi)] 30)) := hb.alloc hbs _
      have HBK := Lib.hid (Blk.new_ wz 30 #[.int .i64 xa, .int .i64 xd, .string (S xi)])
      have HCO := Lib.hid (edContains_any a ⟨xa, xd, xi⟩ A m c B _ (H1.out _ hbA) (Nat.le_trans hB hbA.size) (by omega))
      have hgz : wz.heap.size < (wz.alloc (.cells #[.int .i64 xa, .int .i64 xd, .string (S xi)] 30)).heap.size := by simp
      have HOK : Hid (∀ W, Below wz.heap.size wz W → W.ownsRow w.heap.size 30 3 u5 Q.length (edCells Q)) := fun W hW => own_below HO.out hW
      have HBK0 : Hid (∀ W, Below wz.heap.size wz W → Below w.heap.size w W) := fun W hW => hb.trans (hW.mono hbs)
      have hbzA : Below wz.heap.size wz (wz.alloc (.cells #[.int .i64 xa, .int .i64 xd, .string (S xi)] 30)) := (Below.refl _ _).alloc (Nat.le_refl _) _
      clear HO hil hb
      have k0 := HBK.out.cell0
      have k1 := HBK.out.cell1
      have k2 := HBK.out.cell2
      go_wp2_with fail
      generalize (wz.alloc (.cells #[.int .i64 xa, .int .i64 xd, .string (S xi)] 30)) = wA at *
      refine HCO.out.mono ?_
      rintro e w5 ⟨rfl, hb5⟩
      have HBK5 := Lib.hid (HBK.out.below' hb5)
      have hz5 : Below wz.heap.size wz w5 := hbzA.trans (hb5.mono hbzA.size)
      have HO5 := Lib.hid (HOK.out _ hz5)
      have hB5 := bthen hbA hb5
      have hg5 : wz.heap.size < w5.heap.size := Nat.lt_of_lt_of_le hgz hb5.size
      generalize hg : wz.heap.size = g at *
      have HG := Lib.hid hg
      clear hg
      clear k0 k1 k2 HBK HCO hbA hbzA hb5 hgz d0 d1 d2
      by_cases hin : (⟨xa, xd, xi⟩ : Ed) ∈ a
      · have HN : Hid (w5.ownsRow w.heap.size 30 3 u5 (behE a (b.take (i + 1))).length (edCells (behE a (b.take (i + 1))))) := by
          rw [HSC.out, if_pos hin, List.append_nil]; exact HO5.out
        have g2 : decide ((⟨xa, xd, xi⟩ : Ed) ∈ a) = true := decide_eq_true hin
        clear hin
        go_wp2_with fail
        go_roundw
        case rel => exact ⟨i + 1, by omega, by go_num, HN.out, hB5⟩
        case measure => simp [intOf]; omega
      · rw [if_neg hin] at HSC
        have g2 : decide ((⟨xa, xd, xi⟩ : Ed) ∈ a) = false := decide_eq_false hin
        clear hin
        have hB5s := hB5.size
        go_wp2_with fail
        go_loopw [8, 22] (fun ov kv w2 => ∃ k : Nat, k ≤ m ∧ kv = .int .i64 (k : Int) ∧ Hid (w2.ownsRow w5.heap.size 30 3 ov (ahd xa (a.take k)).length (edCells (ahd xa (a.take k)))) ∧ Below w5.heap.size w5 w2) (fun _ kv _ => m - (intOf kv).toNat)
        case atStart => exact ⟨0, Nat.zero_le _, rfl, World.ownsRow_nil _ _ _ _, Below.refl _ _⟩
        case round =>
          obtain ⟨k, hk, rfl, HP, hb⟩ := hrel
          have hbs2 := hb.size
          have HBK6 := HBK5.out.below' hb
          have hB6 := bthen hB5 hb
          by_cases hkt : k < m
          · have g3 : decide ((k : Int) < (m : Int)) = true := decide_eq_true (by omega)
            have g3' : decide (k < m) = true := decide_eq_true hkt
            have hkl : k < a.length := by rw [HAL.out]; exact hkt
            obtain ⟨ad, rfl, _, c0, c1, c2'⟩ := ed_cell (H1.out wr hB6) hkl HAL.out
            have HSA := Lib.hid (ahd_succ (x := xa) hkl)
            have hby := HBA.out _ (List.getElem_mem hkl)
            have hpl : (ahd xa (a.take k)).length ≤ 20 := by have := ahd_len xa (a.take k); rw [List.length_take] at this; omega
            obtain ⟨P, hP⟩ : ∃ P, ahd xa (a.take k) = P := ⟨_, rfl⟩
            rw [hP] at HP HSA hpl
            clear hP
            generalize a[k] = y at *
            obtain ⟨ya, yd, yi⟩ := y
            simp only at hby
            have c0 : wr.cell? (ad.add (k * 3)) = some (.int .i64 ya) := c0
            have c1 : wr.cell? ⟨(ad.add (k * 3)).block, (ad.add (k * 3)).off + 1, none⟩ = some (.int .i64 yd) := c1
            have c2' : wr.cell? ⟨(ad.add (k * 3)).block, (ad.add (k * 3)).off + 2, none⟩ = some (.string (S yi)) := c2'
            have hbA : Below w5.heap.size w5 (wr.alloc (.cells #[.int .i64 ya, .int .i64 yd, .string (S yi)] 30)) := hb.alloc hbs2 _
            have HY := Lib.hid (Blk.new_ wr 30 #[.int .i64 ya, .int .i64 yd, .string (S yi)])
            have HPA := Lib.hid (HP.out.alloc (.cells #[.int .i64 ya, .int .i64 yd, .string (S yi)] 30))
            have HXA := Lib.hid (HBK6.alloc (.cells #[.int .i64 ya, .int .i64 yd, .string (S yi)] 30))
            clear HP HBK6 hkl hb
            have k0 := HXA.out.cell0
            have y0 := HY.out.cell0
            have y1 := HY.out.cell1
            have y2 := HY.out.cell2
            by_cases hh : ya + yd < xa
            · rw [if_pos hh] at HSA
              have g4 : decide (ya + yd < xa) = true := decide_eq_true hh
              have hbsA := hbA.size
              have hownA := HPA.out.alloc (.cells #[.int .i64 ya, .int .i64 yd, .string (S yi)] 30)
              have hnew := cells_new3 (wr.alloc (.cells #[.int .i64 ya, .int .i64 yd, .string (S yi)] 30)) (.int .i64 ya) (.int .i64 yd) (.string (S yi)) 30
              rw [World.size_alloc] at hnew
              go_wp2_with (at_builtin; go_must (refine wpList_app rfl _ _ _ rfl w5.heap.size 30 i0 _ 3 32 Try.underlying22 hi0 hz0 hz1 hz2 rfl (by omega) _ P.length (edCells P) rfl hownA ⟨wr.heap.size + 1, 0, none⟩ 1 1 [.int .i64 ya, .int .i64 yd, .string (S yi)] rfl rfl hnew (by simp [Value.oneCell']) (by omega) (by omega) (by simp; omega) ?_); intro v6 w6 hown6 hb6)
              have HN : Hid (w6.ownsRow w5.heap.size 30 3 v6 (ahd xa (a.take (k + 1))).length (edCells (ahd xa (a.take (k + 1))))) := by rw [Hid, HSA.out, edCells_app, edCells_one, List.length_append]; exact hown6
              have hb7 : Below w5.heap.size w5 w6 := (hbA.alloc hbsA _).trans hb6
              go_roundw
              case rel => exact ⟨k + 1, by omega, by go_num, HN.out, hb7⟩
              case measure => simp [intOf]; omega
            · rw [if_neg hh, List.append_nil] at HSA
              have g4 : decide (ya + yd < xa) = false := decide_eq_false hh
              have HN : Hid ((wr.alloc (.cells #[.int .i64 ya, .int .i64 yd, .string (S yi)] 30)).ownsRow w5.heap.size 30 3 u8 (ahd xa (a.take (k + 1))).length (edCells (ahd xa (a.take (k + 1))))) := by rw [Hid, HSA.out]; exact HPA.out
              go_wp2_with fail
              go_roundw
              case rel => exact ⟨k + 1, by omega, by go_num, HN.out, hbA⟩
              case measure => simp [intOf]; omega
          · obtain rfl : k = m := by omega
            have g3 : decide ((k : Int) < (k : Int)) = false := decide_eq_false (by omega)
            have g3' : decide (k < k) = false := decide_eq_false hkt
            have htk : a.take k = a := List.take_of_length_le (by rw [HAL.out]; exact Nat.le_refl _)
            rw [htk] at HP
            have hpl : (ahd xa a).length ≤ 20 := by have := ahd_len xa a; rw [HAL.out] at this; omega
            have HGR : Hid (grows (ahd xa a) = shR ⟨xa, xd, xi⟩ a) := ahd_grows ⟨xa, xd, xi⟩ a
            have hsm : Small (ahd xa a) := ahd_small HSM.out
            have hgw := hsm.grows
            have HSP := Lib.hid hsm
            obtain ⟨P, hP⟩ : ∃ P, ahd xa a = P := ⟨_, rfl⟩
            rw [hP] at HP hpl HGR hgw HSP
            clear hP hsm htk
            obtain ⟨A8, c8, hv8, hn8, hm8, hrd8⟩ := own_form HP.out
            have HRD := Lib.hid hrd8
            have HV8 := Lib.hid hv8
            rw [HV8.out]
            have k0 := HBK6.cell0
            have HBK7 := Lib.hid HBK6
            have hz6 : Below g wz wr := hz5.trans (hb.mono (by rw [← HG.out]; exact hz5.size))
            have hg6 : g < wr.heap.size := HBK6.lt
            rw [← HGR.out] at HSC
            have hgl : -4000 ≤ grows P := by omega
            have hgh : grows P ≤ 800 := by omega
            have HZ6 := Lib.hid hz6
            have hgz : w.heap.size ≤ g := hbs
            have hgG : w.heap.size ≤ wr.heap.size := Nat.le_trans hB5s hbs2
            clear HBK6 hrd8 hv8 hgw hz6 hb
            go_wp2_with fail
            obtain ⟨F1, hFd⟩ : ∃ F : World → Prop, F = fun w' => w'.cell? ⟨g, 0, none⟩ = some (.int .i64 xa) := ⟨_, rfl⟩
            have HF1 := Lib.hid hFd
            clear hFd
            have hcell10 : ∀ p' : Wof F1, p'.w.cell? ⟨g, 0, none⟩ = some (.int .i64 xa) := fun ⟨x, hx⟩ => by rw [HF1.out] at hx; exact hx
            refine wp_region_schedZ [(0, true), (1, true), (2, true), (3, false), (4, true), (5, true)] 6 _ F1 (by kernel_rfl) (by kernel_rfl) rfl (by kernel_rfl) rfl (fun _ _ _ _ _ h => h) (by kernel_rfl) (by rw [HF1.out]; first | ((repeat' apply And.intro) <;> assumption) | trivial | (simp; done) | (simp [*]; done)) (by rw [HF1.out]; exact fun h => h) ?_
            intro hne1
            simp only [opersOf, List.getElem?_toArray, List.getElem?_cons_succ, List.getElem?_cons_zero]
            repeat (first | (refine wpSched_free rfl ?_; intro K hK; go_big_quiet_op; go_big_quiet_on) | (refine wpSched_wantS _ rfl rfl rfl ?_; intro K hK; go_big_quiet_op; go_big_quiet_on) | (refine wpSched_skipS _ rfl rfl rfl rfl ?_; simp only [Act.put, List.setIfInBounds_toArray, List.set_cons_zero, List.set_cons_succ]) | (refine wpSched_skipU _ rfl rfl rfl ?_; simp only [Act.put, List.setIfInBounds_toArray, List.set_cons_zero, List.set_cons_succ]))
            refine wpSched_other ?_
            go_wp2_with fail
            refine (grows_any P A8 P.length c8 wr.heap.size _ (HRD.out.below (Below.drew (Below.refl _ _))) (Nat.le_refl _) (by omega) HSP.out).mono ?_
            rintro e w7 ⟨rfl, hb7⟩
            have hb67 : Below wr.heap.size wr w7 := (Below.drew (Below.refl _ _)).trans hb7
            have hx7 := HBK7.out.below' hb67
            have k0' := hx7.cell0
            have hf7 := hx7.frozen 0
            have HX7 := Lib.hid hx7
            have HZ7 := Lib.hid (HZ6.out.trans (hb67.mono (by rw [← HG.out]; exact HZ6.out.size)))
            generalize grows P = G at *
            clear hb7 hb67 hx7 k0 HRD HSP HP
            go_wp2_with fail
            refine sched_back (by rw [HF1.out]; exact k0') ?_
            repeat (first | (refine wpSched_free rfl ?_; intro K hK; go_big_quiet_op; go_big_quiet_on) | (refine wpSched_wantS _ rfl rfl rfl ?_; intro K hK; go_big_quiet_op; go_big_quiet_on) | (refine wpSched_skipS _ rfl rfl rfl rfl ?_; simp only [Act.put, List.setIfInBounds_toArray, List.set_cons_zero, List.set_cons_succ]) | (refine wpSched_skipU _ rfl rfl rfl ?_; simp only [Act.put, List.setIfInBounds_toArray, List.set_cons_zero, List.set_cons_succ]))
            refine wpSched_nil ?_
            refine qz_nil ?_
            have HX8 : Hid (Blk (w7.setCell ⟨g, 0, none⟩ (.int .i64 (xa + G))) g 30 #[.int .i64 (xa + G), .int .i64 xd, .string (S xi)]) := HX7.out.set_ 0 _
            have hz8 : Below g wz (w7.setCell ⟨g, 0, none⟩ (.int .i64 (xa + G))) := HZ7.out.setCell (p := ⟨g, 0, none⟩) (Nat.le_refl _) _
            have hO8 := HOK.out _ hz8
            have hB8 := HBK0.out _ hz8
            obtain ⟨w8, hw8⟩ : ∃ w8, w8 = w7.setCell ⟨g, 0, none⟩ (.int .i64 (xa + G)) := ⟨_, rfl⟩
            have x0 := HX8.out.cell0
            have x1 := HX8.out.cell1
            have x2 := HX8.out.cell2
            have hbs8 := hB8.size
            have hownA := hO8
            have hnew := cells_new3 (w7.setCell ⟨g, 0, none⟩ (.int .i64 (xa + G))) (.int .i64 (xa + G)) (.int .i64 xd) (.string (S xi)) 30
            rw [World.size_setCell] at hnew
            go_wp2_with (at_builtin; go_must (refine wpList_app rfl _ _ _ rfl w.heap.size 30 i0 _ 3 32 Try.underlying22 hi0 hz0 hz1 hz2 rfl (by omega) _ Q.length (edCells Q) rfl (hownA.alloc _) ⟨w7.heap.size, 0, none⟩ 1 1 [.int .i64 (xa + G), .int .i64 xd, .string (S xi)] rfl rfl hnew (by simp [Value.oneCell']) (by omega) (by omega) (by simp at hbs8 ⊢; omega) ?_); intro v6 w6 hown6 hb6)
            have HN : Hid (w6.ownsRow w.heap.size 30 3 v6 (behE a (b.take (i + 1))).length (edCells (behE a (b.take (i + 1))))) := by rw [Hid, HSC.out, edCells_app, edCells_one, List.length_append]; exact hown6
            have hb9 : Below w.heap.size w w6 := (hB8.alloc hbs8 _).trans hb6
            go_roundw
            case rel => exact ⟨i + 1, by omega, by go_num, HN.out, hb9⟩
            case measure => simp [intOf]; omega
    · obtain rfl : i = m2 := by omega
      have g1 : decide ((i : Int) < (i : Int)) = false := decide_eq_false (by omega)
      have g1' : decide (i < i) = false := decide_eq_false hlt
      have HN : Hid (wz.ownsRow w.heap.size 30 3 u5 (behE a b).length (edCells (behE a b))) := by
        have htk : b.take i = b := List.take_of_length_le (by rw [HBL.out]; exact Nat.le_refl _)
        have h := HO.out
        rw [htk] at h
        exact h
      go_wp2_with fail
      go_ret
      exact ⟨_, rfl, HN.out, hb⟩
end Go.Proofs.Ytmikckhihfcooaa
namespace Go.Proofs.Ytmikckhihfcooaa
open Go.RowKit
theorem bothE_zero {n : Int} {a b : List Ed} (h : bothE n a b = 0) : edErr n a = 0 ∧ edErr n b = 0 ∧ noClash a b := by
  unfold bothE at h
  by_cases h1 : edErr n a = 0
  · rw [if_neg (fun h => h h1)] at h
    by_cases h2 : edErr n b = 0
    · rw [if_neg (fun h => h h2)] at h
      by_cases h3 : noClash a b
      · exact ⟨h1, h2, h3⟩
      · rw [if_neg h3] at h; cases h
    · rw [if_pos h2] at h; exact absurd h h2
  · rw [if_pos h1] at h; exact absurd h h1
theorem shC_app (x : Ed) : ∀ a b : List Ed, shC x (a ++ b) = shC x a + shC x b
  | [], b => by simp [shC]
  | y :: a, b => by rw [List.cons_append, shC, shC, shC_app x a b]; omega
theorem shC_succ {x : Ed} {a : List Ed} {k : Nat} (hk : k < a.length) : shC x (a.take (k + 1)) = shC x (a.take k) + (if a[k].at_ < x.at_ then ((S a[k].ins).size : Int) - a[k].del else 0) := by
  rw [List.take_succ_eq_append_getElem hk, shC_app]
  congr 1
  rw [shC, shC, Int.add_zero]
  by_cases h : a[k].at_ < x.at_
  · rw [if_pos ⟨fun e => by rw [e] at h; omega, h⟩, if_pos h]
  · rw [if_neg (fun e => h e.2), if_neg h]
theorem shC_bd {x : Ed} : ∀ {a : List Ed}, Small a → -(200 * (a.length : Int)) ≤ shC x a ∧ shC x a ≤ 40 * (a.length : Int)
  | [], _ => by simp [shC]
  | y :: a, h => by
    have ih := shC_bd (x := x) (a := a) fun z hz => h z (.tail _ hz)
    have h1 := h y (.head _)
    have h2 := S_size y.ins
    rw [shC, List.length_cons]
    split <;> omega
set_option maxRecDepth 100000 in
set_option maxHeartbeats 16000000 in
theorem behind_any (n : Int) (a b : List Ed) (A A2 : Option Addr) (m c m2 c2 B : Nat) (w : World) (hr : Rd w B 3 A m (edCells a)) (hr2 : Rd w B 3 A2 m2 (edCells b)) (hB : B ≤ w.heap.size) (h : bothE n a b = 0) :
    Calls Try.prog 5 #[.int .i64 n, .slice A m c, .slice A2 m2 c2] w fun e w' => ∃ v, e = .returned (.tuple #[v, .int .i64 0]) ∧ w'.ownsRow w.heap.size 30 3 v (behE a b).length (edCells (behE a b)) ∧ Below w.heap.size w w' := by
  obtain ⟨ha, hb, hnc⟩ := bothE_zero h
  obtain ⟨i0, hi0, hz0, hz1, hz2⟩ := info_parts info_edM
  have hal := Rd.rec_len ed_len9 (by omega) hr
  have hbl := Rd.rec_len ed_len9 (by omega) hr2
  have HC : Hid (Calls Try.prog 4 #[.int .i64 n, .slice A m c, .slice A2 m2 c2] w fun e w' => ∃ v, e = .returned (.tuple #[v, .int .i64 0]) ∧ Below w.heap.size w w') := by
    refine (both_any n a b A A2 m c m2 c2 B w hr hr2 hB ha hb).mono ?_
    rintro e w' ⟨v, rfl, _, _, hb⟩
    exact ⟨v, by rw [h], hb⟩
  have HBA := Lib.hid (ed_bd ha)
  have HBB := Lib.hid (ed_bd hb)
  have hm20 : m ≤ 20 := by have := (edErr_zero.1 ha).2.2.1; omega
  have hm220 : m2 ≤ 20 := by have := (edErr_zero.1 hb).2.2.1; omega
  have HSM := Lib.hid (edErr_small ha)
  have HSH : Hid (∀ x ∈ b, shC x a = shR x a) := fun x hx => sh_same (HBB.out x hx).2.2.1 (fun y hy => hnc y hy x hx) fun y hy => (HBA.out y hy).2.2.1
  have HAL := Lib.hid hal
  have HBL := Lib.hid hbl
  have H1 : Hid (∀ W, Below w.heap.size w W → Rd W B 3 A m (edCells a)) := fun W hW => hr.below (hW.mono hB)
  have H2 : Hid (∀ W, Below w.heap.size w W → Rd W B 3 A2 m2 (edCells b)) := fun W hW => hr2.below (hW.mono hB)
  clear hr hr2 ha hb hal hbl h hnc
  go_enter Try.func5, Try.ntmps5
  go_wp2_with fail
  refine HC.out.mono ?_
  rintro e w1 ⟨v1, rfl, hb1⟩
  go_wp2_with fail
  go_loopw [10, 29] (fun ov iv wr => ∃ i : Nat, i ≤ m2 ∧ iv = .int .i64 (i : Int) ∧ Hid (wr.ownsRow w.heap.size 30 3 ov (behE a (b.take i)).length (edCells (behE a (b.take i)))) ∧ Below w.heap.size w wr) (fun _ iv _ => m2 - (intOf iv).toNat)
  case atStart => exact ⟨0, Nat.zero_le _, rfl, World.ownsRow_nil _ _ _ _, hb1⟩
  case round =>
    clear hb1
    obtain ⟨i, hi, rfl, HO, hb⟩ := hrel
    obtain ⟨wz, hwz⟩ : ∃ wz : World, wz = wr := ⟨_, rfl⟩
    subst hwz
    have hbs := hb.size
    by_cases hlt : i < m2
    · have g1 : decide ((i : Int) < (m2 : Int)) = true := decide_eq_true (by omega)
      have g1' : decide (i < m2) = true := decide_eq_true hlt
      have hil : i < b.length := by rw [HBL.out]; exact hlt
      obtain ⟨bd, rfl, _, d0, d1, d2⟩ := ed_cell (H2.out wz hb) hil HBL.out
      have HSC := Lib.hid (beh_succ (a := a) hil)
      have hbx := HBB.out _ (List.getElem_mem hil)
      have HSX := Lib.hid (HSH.out _ (List.getElem_mem hil))
      have hql : (behE a (b.take i)).length ≤ 20 := by have := beh_len a (b.take i); rw [List.length_take] at this; omega
      obtain ⟨Q, hQ⟩ : ∃ Q, behE a (b.take i) = Q := ⟨_, rfl⟩
      rw [hQ] at HO HSC hql
      clear hQ
      generalize b[i] = x at *
      obtain ⟨xa, xd, xi⟩ := x
      simp only at hbx
      have d0 : wz.cell? (bd.add (i * 3)) = some (.int .i64 xa) := d0
      have d1 : wz.cell? ⟨(bd.add (i * 3)).block, (bd.add (i * 3)).off + 1, none⟩ = some (.int .i64 xd) := d1
      have d2 : wz.cell? ⟨(bd.add (i * 3)).block, (bd.add (i * 3)).off + 2, none⟩ = some (.string (S xi)) := d2
      have HBK := Lib.hid (Blk.new_ wz 30 #[.int .i64 xa, .int .i64 xd, .string (S xi)])
      have HOK : Hid (∀ W, Below wz.heap.size wz W → W.ownsRow w.heap.size 30 3 u10 Q.length (edCells Q)) := fun W hW => own_below HO.out hW
      have HBK0 : Hid (∀ W, Below wz.heap.size wz W → Below w.heap.size w W) := fun W hW => hb.trans (hW.mono hbs)
      have hbzA : Below wz.heap.size wz (wz.alloc (.cells #[.int .i64 xa, .int .i64 xd, .string (S xi)] 30)) := (Below.refl _ _).alloc (Nat.le_refl _) _
      clear HO hil hb
      go_wp2_with fail
      generalize (wz.alloc (.cells #[.int .i64 xa, .int .i64 xd, .string (S xi)] 30)) = wA at *
      generalize hg : wz.heap.size = g at *
      have HG := Lib.hid hg
      clear hg
      go_loopw [13, 14, 35] (fun mv av kv w2 => ∃ k : Nat, k ≤ m ∧ Hid (mv = .int .i64 (shC ⟨xa, xd, xi⟩ (a.take k))) ∧ Hid (av = .bool (decide ((⟨xa, xd, xi⟩ : Ed) ∈ a.take k))) ∧ kv = .int .i64 (k : Int) ∧ Below wA.heap.size wA w2) (fun _ _ kv _ => m - (intOf kv).toNat)
      case atStart => exact ⟨0, Nat.zero_le _, rfl, by rw [Hid, List.take_zero]; rfl, rfl, Below.refl _ _⟩
      case round =>
        obtain ⟨k, hk, HM, HV, rfl, hb⟩ := hrel
        have hbs2 := hb.size
        have HX6 := HBK.out.below' hb
        have hz6 : Below g wz wr := hbzA.trans (hb.mono (by rw [← HG.out]; exact hbzA.size))
        have hB6 := HBK0.out _ hz6
        have hmv : -4000 ≤ shC ⟨xa, xd, xi⟩ (a.take k) ∧ shC ⟨xa, xd, xi⟩ (a.take k) ≤ 800 := by
          have h1 := shC_bd (x := ⟨xa, xd, xi⟩) (HSM.out.take k)
          have h2 : (a.take k).length ≤ 20 := by rw [List.length_take, HAL.out]; omega
          omega
        obtain ⟨hmv1, hmv2⟩ := hmv
        by_cases hkt : k < m
        · have g3 : decide ((k : Int) < (m : Int)) = true := decide_eq_true (by omega)
          have g3' : decide (k < m) = true := decide_eq_true hkt
          have hkl : k < a.length := by rw [HAL.out]; exact hkt
          obtain ⟨ad, rfl, _, c0, c1, c2'⟩ := ed_cell (H1.out wr hB6) hkl HAL.out
          have HS1 := Lib.hid (shC_succ (x := ⟨xa, xd, xi⟩) hkl)
          have HTK : Hid (a.take (k + 1) = a.take k ++ [a[k]]) := List.take_succ_eq_append_getElem hkl
          have hby := HBA.out _ (List.getElem_mem hkl)
          have hys := HSM.out _ (List.getElem_mem hkl)
          generalize a[k] = y at *
          obtain ⟨ya, yd, yi⟩ := y
          simp only at hby hys
          have hyz : (S yi).size ≤ 40 := by rw [S_size]; exact hys.2.2
          have c0 : wr.cell? (ad.add (k * 3)) = some (.int .i64 ya) := c0
          have c1 : wr.cell? ⟨(ad.add (k * 3)).block, (ad.add (k * 3)).off + 1, none⟩ = some (.int .i64 yd) := c1
          have c2' : wr.cell? ⟨(ad.add (k * 3)).block, (ad.add (k * 3)).off + 2, none⟩ = some (.string (S yi)) := c2'
          have hbA : Below wA.heap.size wA (wr.alloc (.cells #[.int .i64 ya, .int .i64 yd, .string (S yi)] 30)) := hb.alloc hbs2 _
          have HY := Lib.hid (Blk.new_ wr 30 #[.int .i64 ya, .int .i64 yd, .string (S yi)])
          have HXA := Lib.hid (HX6.alloc (.cells #[.int .i64 ya, .int .i64 yd, .string (S yi)] 30))
          have HSE : Hid ((S yi).toList = (S xi).toList ↔ yi = xi) := by rw [Hid, ByteArray.toList_eq, ByteArray.toList_eq]; exact Iff.rfl
          have HME : Hid (decide ((⟨xa, xd, xi⟩ : Ed) ∈ a.take (k + 1)) = (decide ((⟨xa, xd, xi⟩ : Ed) ∈ a.take k) || decide (ya = xa ∧ yd = xd ∧ yi = xi))) := by
            rw [Hid, Bool.eq_iff_iff, Bool.or_eq_true, decide_eq_true_iff, decide_eq_true_iff, decide_eq_true_iff, HTK.out, List.mem_append, List.mem_singleton, Ed.mk.injEq]
            constructor
            · rintro (h | ⟨h1, h2, h3⟩)
              · exact .inl h
              · exact .inr ⟨h1.symm, h2.symm, h3.symm⟩
            · rintro (h | ⟨h1, h2, h3⟩)
              · exact .inl h
              · exact .inr ⟨h1.symm, h2.symm, h3.symm⟩
          obtain ⟨mz, hmz⟩ : ∃ mz, shC ⟨xa, xd, xi⟩ (a.take k) = mz := ⟨_, rfl⟩
          obtain ⟨az, haz⟩ : ∃ az, decide ((⟨xa, xd, xi⟩ : Ed) ∈ a.take k) = az := ⟨_, rfl⟩
          rw [hmz] at HM HS1 hmv1 hmv2
          rw [haz] at HV HME
          have eM := HM.out
          have eV := HV.out
          subst eM eV
          clear HM HV hmz haz HTK hkl hb HX6
          have k0 := HXA.out.cell0
          have k1 := HXA.out.cell1
          have k2 := HXA.out.cell2
          have y0 := HY.out.cell0
          have y1 := HY.out.cell1
          have y2 := HY.out.cell2
          by_cases h1 : ya = xa ∧ yd = xd ∧ (S yi).toList = (S xi).toList
          · have HN2 : Hid (Value.bool true = .bool (decide ((⟨xa, xd, xi⟩ : Ed) ∈ a.take (k + 1)))) := by
              rw [Hid, HME.out, decide_eq_true ⟨h1.1, h1.2.1, HSE.out.1 h1.2.2⟩, Bool.or_true]
            have HN1 : Hid (Value.int .i64 mz = .int .i64 (shC ⟨xa, xd, xi⟩ (a.take (k + 1)))) := by
              rw [Hid, HS1.out, if_neg (by show ¬ ya < xa; omega), Int.add_zero]
            have g5 : decide (ya < xa) = false := decide_eq_false (by omega)
            have g6 : ((S yi).toList == (S xi).toList) = true := by rw [beq_iff_eq]; exact h1.2.2
            obtain ⟨e1, e2, _⟩ := h1
            clear HME HSE HS1
            generalize S yi = Y at *
            generalize S xi = X at *
            subst e1
            subst e2
            go_wp2_with fail
            go_roundw
            case rel => exact ⟨k + 1, by omega, HN1.out, HN2.out, by go_num, hbA⟩
            case measure => simp [intOf]; omega
          · have HN2 : Hid (Value.bool az = .bool (decide ((⟨xa, xd, xi⟩ : Ed) ∈ a.take (k + 1)))) := by
              rw [Hid, HME.out, decide_eq_false (fun h => h1 ⟨h.1, h.2.1, HSE.out.2 h.2.2⟩), Bool.or_false]
            by_cases h2 : ya < xa
            · have HN1 : Hid (Value.int .i64 (mz + ((S yi).size - yd)) = .int .i64 (shC ⟨xa, xd, xi⟩ (a.take (k + 1)))) := by
                rw [Hid, HS1.out, if_pos h2]
              have g5 : decide (ya < xa) = true := decide_eq_true h2
              have g6 : (ya == xa) = false := by rw [beq_eq_false_iff_ne]; omega
              clear HME HSE HS1 h1
              generalize S yi = Y at *
              go_wp2_with fail
              go_roundw
              case rel => exact ⟨k + 1, by omega, HN1.out, HN2.out, by go_num, hbA⟩
              case measure => simp [intOf]; omega
            · have HN1 : Hid (Value.int .i64 mz = .int .i64 (shC ⟨xa, xd, xi⟩ (a.take (k + 1)))) := by
                rw [Hid, HS1.out, if_neg h2, Int.add_zero]
              have g5 : decide (ya < xa) = false := decide_eq_false h2
              clear HME HSE HS1
              generalize S yi = Y at *
              generalize S xi = X at *
              by_cases e1 : ya = xa
              · subst e1
                by_cases e2 : yd = xd
                · subst e2
                  have g6 : (Y.toList == X.toList) = false := by rw [beq_eq_false_iff_ne]; exact fun h => h1 ⟨rfl, rfl, h⟩
                  clear h1
                  go_wp2_with fail
                  go_roundw
                  case rel => exact ⟨k + 1, by omega, HN1.out, HN2.out, by go_num, hbA⟩
                  case measure => simp [intOf]; omega
                · have g6 : (yd == xd) = false := by rw [beq_eq_false_iff_ne]; exact e2
                  clear h1
                  go_wp2_with fail
                  go_roundw
                  case rel => exact ⟨k + 1, by omega, HN1.out, HN2.out, by go_num, hbA⟩
                  case measure => simp [intOf]; omega
              · have g6 : (ya == xa) = false := by rw [beq_eq_false_iff_ne]; exact e1
                clear h1
                go_wp2_with fail
                go_roundw
                case rel => exact ⟨k + 1, by omega, HN1.out, HN2.out, by go_num, hbA⟩
                case measure => simp [intOf]; omega
        · obtain rfl : k = m := by omega
          have g3 : decide ((k : Int) < (k : Int)) = false := decide_eq_false (by omega)
          have g3' : decide (k < k) = false := decide_eq_false hkt
          have htk : a.take k = a := List.take_of_length_le (by rw [HAL.out]; exact Nat.le_refl _)
          rw [htk] at HM HV hmv1 hmv2
          rw [HSX.out] at HM hmv1 hmv2
          have eM := HM.out
          have eV := HV.out
          subst eM eV
          clear HM HV htk hb HSX
          have k0 := HX6.cell0
          have k1 := HX6.cell1
          have k2 := HX6.cell2
          by_cases hin : (⟨xa, xd, xi⟩ : Ed) ∈ a
          · have HN : Hid (wr.ownsRow w.heap.size 30 3 u10 (behE a (b.take (i + 1))).length (edCells (behE a (b.take (i + 1))))) := by
              rw [HSC.out, if_pos hin, List.append_nil]; exact HOK.out _ hz6
            have g2 : decide ((⟨xa, xd, xi⟩ : Ed) ∈ a) = true := decide_eq_true hin
            clear hin HX6
            go_wp2_with fail
            go_roundw
            case rel => exact ⟨i + 1, by omega, by go_num, HN.out, hB6⟩
            case measure => simp [intOf]; omega
          · rw [if_neg hin] at HSC
            have g2 : decide ((⟨xa, xd, xi⟩ : Ed) ∈ a) = false := decide_eq_false hin
            obtain ⟨G, hG⟩ : ∃ G, shR ⟨xa, xd, xi⟩ a = G := ⟨_, rfl⟩
            rw [hG] at HSC hmv1 hmv2 ⊢
            clear hin hG
            have hf6 := HX6.frozen 0
            have HX8 : Hid (Blk (wr.setCell ⟨g, 0, none⟩ (.int .i64 (xa + G))) g 30 #[.int .i64 (xa + G), .int .i64 xd, .string (S xi)]) := HX6.set_ 0 _
            have hz8 : Below g wz (wr.setCell ⟨g, 0, none⟩ (.int .i64 (xa + G))) := hz6.setCell (p := ⟨g, 0, none⟩) (Nat.le_refl _) _
            have hO8 := HOK.out _ hz8
            have hB8 := HBK0.out _ hz8
            have x0 := HX8.out.cell0
            have x1 := HX8.out.cell1
            have x2 := HX8.out.cell2
            have hbs8 := hB8.size
            have hnew := cells_new3 (wr.setCell ⟨g, 0, none⟩ (.int .i64 (xa + G))) (.int .i64 (xa + G)) (.int .i64 xd) (.string (S xi)) 30
            rw [World.size_setCell] at hnew
            clear HX6
            go_wp2_with (at_builtin; go_must (refine wpList_app rfl _ _ _ rfl w.heap.size 30 i0 _ 3 32 Try.underlying22 hi0 hz0 hz1 hz2 rfl (by omega) _ Q.length (edCells Q) rfl (hO8.alloc _) ⟨wr.heap.size, 0, none⟩ 1 1 [.int .i64 (xa + G), .int .i64 xd, .string (S xi)] rfl rfl hnew (by simp [Value.oneCell']) (by omega) (by omega) (by simp at hbs8 ⊢; omega) ?_); intro v6 w6 hown6 hb6)
            have HN : Hid (w6.ownsRow w.heap.size 30 3 v6 (behE a (b.take (i + 1))).length (edCells (behE a (b.take (i + 1))))) := by rw [Hid, HSC.out, edCells_app, edCells_one, List.length_append]; exact hown6
            have hb9 : Below w.heap.size w w6 := (hB8.alloc hbs8 _).trans hb6
            go_roundw
            case rel => exact ⟨i + 1, by omega, by go_num, HN.out, hb9⟩
            case measure => simp [intOf]; omega
    · obtain rfl : i = m2 := by omega
      have g1 : decide ((i : Int) < (i : Int)) = false := decide_eq_false (by omega)
      have g1' : decide (i < i) = false := decide_eq_false hlt
      have HN : Hid (wz.ownsRow w.heap.size 30 3 u10 (behE a b).length (edCells (behE a b))) := by
        have htk : b.take i = b := List.take_of_length_le (by rw [HBL.out]; exact Nat.le_refl _)
        have h := HO.out
        rw [htk] at h
        exact h
      go_wp2_with fail
      (apply bodyPost_ret; (simp [results, Try.results5, go_sem]; rfl); rfl)
      exact ⟨_, rfl, HN.out, hb⟩
end Go.Proofs.Ytmikckhihfcooaa
namespace Go.Proofs.Ytmikckhihfcooaa
open Go.RowKit
set_option maxRecDepth 100000 in
set_option maxHeartbeats 4000000 in
theorem mergeSaysA_any (n : Int) (a b : List Ed) (A A2 : Option Addr) (m c m2 c2 : Nat) (w : World) (hr : Rd w w.heap.size 3 A m (edCells a)) (hr2 : Rd w w.heap.size 3 A2 m2 (edCells b)) (hm : m ≤ 9223372036854775807) (hm2 : m2 ≤ 9223372036854775807) (h : ¬ (edErr n a = 0 ∧ edErr n b = 0)) :
    Calls Try.prog 3 #[.int .i64 n, .slice A m c, .slice A2 m2 c2] w fun e w' => e = .returned (.bool true) ∧ Below w.heap.size w w' := by
  have H1 : Hid (∀ W, Below w.heap.size w W → Rd W w.heap.size 3 A m (edCells a)) := fun W hW => hr.below hW
  have H2 : Hid (∀ W, Below w.heap.size w W → Rd W w.heap.size 3 A2 m2 (edCells b)) := fun W hW => hr2.below hW
  have HBO := Lib.hid (fun W (hW : Below w.heap.size w W) => bothErr_any n a b A A2 m c m2 c2 w.heap.size W (H1.out W hW) (H2.out W hW) hW.size hm hm2 h)
  have he : (if edErr n a = 0 then edErr n b else edErr n a) = bothE n a b := by
    by_cases h1 : edErr n a = 0
    · rw [if_pos h1, bothE_b h1 (fun h2 => h ⟨h1, h2⟩)]
    · rw [if_neg h1, bothE_a h1]
  have hne : bothE n a b ≠ 0 := by
    rw [← he]
    by_cases h1 : edErr n a = 0
    · rw [if_pos h1]; exact fun h2 => h ⟨h1, h2⟩
    · rw [if_neg h1]; exact h1
  have HBH := Lib.hid (fun W (hW : Below w.heap.size w W) => behindErr_any n a b A A2 m c m2 c2 w.heap.size W (H1.out W hW) (H2.out W hW) hW.size hm hm2 hne)
  have HEA := Lib.hid (fun W (hW : Below w.heap.size w W) => editsErr_any n a A m c w.heap.size W (H1.out W hW) hW.size hm)
  have HEB := Lib.hid (fun W (hW : Below w.heap.size w W) => editsErr_any n b A2 m2 c2 w.heap.size W (H2.out W hW) hW.size hm2)
  have HCK := Lib.hid (fun W (hW : Below w.heap.size w W) => mergeCheck_any n a b A A2 m c m2 c2 w.heap.size W (H1.out W hW) (H2.out W hW) hW.size hm hm2)
  rw [he] at HCK
  have g1 : (bothE n a b != 0) = true := by rw [bne_iff_ne]; exact hne
  clear hr hr2 H1 H2
  by_cases h1 : edErr n a = 0
  · rw [if_pos h1] at he
    rw [h1] at HEA
    rw [he] at HEB
    clear h he hne h1
    generalize bothE n a b = z at *
    go_enter Try.func3, Try.ntmps3
    go_wp2_with fail
    refine (HBO.out w (Below.refl _ _)).mono ?_
    rintro e w1 ⟨rfl, _, hb1⟩
    go_wp2_with fail
    refine (HBH.out w1 hb1).mono ?_
    rintro e w2 ⟨rfl, hb2⟩
    have hB2 := bthen hb1 hb2
    go_wp2_with fail
    refine (HEA.out w2 hB2).mono ?_
    rintro e w3 ⟨rfl, hb3⟩
    have hB3 := bthen hB2 hb3
    go_wp2_with fail
    refine (HEB.out w3 hB3).mono ?_
    rintro e w4 ⟨rfl, hb4⟩
    have hB4 := bthen hB3 hb4
    go_wp2_with fail
    refine (HCK.out w4 hB4).mono ?_
    rintro e w5 ⟨rfl, hb5⟩
    have hB5 := bthen hB4 hb5
    go_wp2_with fail
    go_ret
    exact ⟨rfl, hB5⟩
  · rw [if_neg h1] at he
    rw [he] at HEA
    clear h he hne h1 HEB
    have g2 : (bothE n a b == 0) = false := by rw [beq_eq_false_iff_ne]; rw [bne_iff_ne] at g1; exact g1
    generalize bothE n a b = z at *
    go_enter Try.func3, Try.ntmps3
    go_wp2_with fail
    refine (HBO.out w (Below.refl _ _)).mono ?_
    rintro e w1 ⟨rfl, _, hb1⟩
    go_wp2_with fail
    refine (HBH.out w1 hb1).mono ?_
    rintro e w2 ⟨rfl, hb2⟩
    have hB2 := bthen hb1 hb2
    go_wp2_with fail
    refine (HEA.out w2 hB2).mono ?_
    rintro e w3 ⟨rfl, hb3⟩
    have hB3 := bthen hB2 hb3
    go_wp2_with fail
    refine (HCK.out w3 hB3).mono ?_
    rintro e w5 ⟨rfl, hb5⟩
    have hB5 := bthen hB3 hb5
    go_wp2_with fail
    go_ret
    exact ⟨rfl, hB5⟩
set_option maxRecDepth 100000 in
set_option maxHeartbeats 4000000 in
theorem mergeSays_any (n : Int) (a b : List Ed) (A A2 : Option Addr) (m c m2 c2 : Nat) (w : World) (hr : Rd w w.heap.size 3 A m (edCells a)) (hr2 : Rd w w.heap.size 3 A2 m2 (edCells b)) (hm : m ≤ 9223372036854775807) (hm2 : m2 ≤ 9223372036854775807) :
    Calls Try.prog 3 #[.int .i64 n, .slice A m c, .slice A2 m2 c2] w fun e w' => e = .returned (.bool true) ∧ Below w.heap.size w w' := by
  by_cases h : edErr n a = 0 ∧ edErr n b = 0
  · obtain ⟨ha, hb⟩ := h
    have H1 : Hid (∀ W, Below w.heap.size w W → Rd W w.heap.size 3 A m (edCells a)) := fun W hW => hr.below hW
    have H2 : Hid (∀ W, Below w.heap.size w W → Rd W w.heap.size 3 A2 m2 (edCells b)) := fun W hW => hr2.below hW
    have HBO := Lib.hid (fun W (hW : Below w.heap.size w W) => both_any n a b A A2 m c m2 c2 w.heap.size W (H1.out W hW) (H2.out W hW) hW.size ha hb)
    have HRB := Lib.hid (fun W (hW : Below w.heap.size w W) => refBoth_any n a b A A2 m c m2 c2 w.heap.size W (H1.out W hW) (H2.out W hW) hW.size ha hb)
    have HEA := Lib.hid (fun W (hW : Below w.heap.size w W) => editsErr_any n a A m c w.heap.size W (H1.out W hW) hW.size hm)
    have HEB := Lib.hid (fun W (hW : Below w.heap.size w W) => editsErr_any n b A2 m2 c2 w.heap.size W (H2.out W hW) hW.size hm2)
    have HCK := Lib.hid (fun W (hW : Below w.heap.size w W) => mergeCheck_any n a b A A2 m c m2 c2 w.heap.size W (H1.out W hW) (H2.out W hW) hW.size hm hm2)
    rw [if_pos ha, hb] at HCK
    rw [ha] at HEA
    rw [hb] at HEB
    have ham : m ≤ 20 := by have := (edErr_zero.1 ha).2.2.1; have h2 := Rd.rec_len ed_len9 (by omega) hr; omega
    have hbm : m2 ≤ 20 := by have := (edErr_zero.1 hb).2.2.1; have h2 := Rd.rec_len ed_len9 (by omega) hr2; omega
    have hal := Rd.rec_len ed_len9 (by omega) hr
    have hbl := Rd.rec_len ed_len9 (by omega) hr2
    by_cases hz : bothE n a b = 0
    · have HBH := Lib.hid (fun W (hW : Below w.heap.size w W) => behind_any n a b A A2 m c m2 c2 w.heap.size W (H1.out W hW) (H2.out W hW) hW.size hz)
      have HRH := Lib.hid (fun W (hW : Below w.heap.size w W) => refBehind_any n a b A A2 m c m2 c2 w.heap.size W (H1.out W hW) (H2.out W hW) hW.size ha hb)
      have hml := mergeB_len a b
      have hel := beh_len a b
      have HZ := Lib.hid hz
      obtain ⟨M, hM⟩ : ∃ M, mergeB a b = M := ⟨_, rfl⟩
      obtain ⟨E, hE⟩ : ∃ E, behE a b = E := ⟨_, rfl⟩
      simp only [hM] at HBO HRB hml
      simp only [hE] at HBH HRH hel
      simp only [hz] at HBO HRB
      have hM40 : M.length ≤ 40 := by omega
      have hE40 : E.length ≤ 20 := by omega
      clear hr hr2 ha hb hz hM hE hml hel hal hbl H1 H2
      go_enter Try.func3, Try.ntmps3
      go_wp2_with fail
      refine (HBO.out w (Below.refl _ _)).mono ?_
      rintro e w1 ⟨v1, rfl, _, hq1, hb1⟩
      obtain ⟨A4, c4, rfl, _, _, hrd4⟩ := own_form (hq1 trivial)
      have HR4 := Lib.hid hrd4
      clear hq1 hrd4
      go_wp2_with fail
      refine (HBH.out w1 hb1).mono ?_
      rintro e w2 ⟨v2, rfl, hq2, hb2⟩
      obtain ⟨A5, c5, rfl, _, _, hrd5⟩ := own_form hq2
      have HR5 := Lib.hid hrd5
      have hB2 := bthen hb1 hb2
      clear hq2 hrd5
      go_wp2_with fail
      refine (HEA.out w2 hB2).mono ?_
      rintro e w3 ⟨rfl, hb3⟩
      have hB3 := bthen hB2 hb3
      go_wp2_with fail
      refine (HEB.out w3 hB3).mono ?_
      rintro e w4 ⟨rfl, hb4⟩
      have hB4 := bthen hB3 hb4
      go_wp2_with fail
      refine (HCK.out w4 hB4).mono ?_
      rintro e w5 ⟨rfl, hb5⟩
      have hB5 := bthen hB4 hb5
      go_wp2_with fail
      refine (HRB.out w5 hB5).mono ?_
      rintro e w6 ⟨v6, rfl, _, hq6, hb6⟩
      obtain ⟨A6, c6, rfl, _, _, hrd6⟩ := (hq6 trivial).form
      have hB6 := bthen hB5 hb6
      have hb15 : Below w1.heap.size w1 w6 := bthen (bthen (bthen (bthen hb2 hb3) hb4) hb5) hb6
      have HAL := Lib.hid (alikeEdM_true A4 A6 M.length c4 c6 w1.heap.size w6.heap.size M w6 (by omega) (HR4.out.below hb15) hrd6)
      have hb26 : Below w2.heap.size w2 w6 := bthen (bthen (bthen hb3 hb4) hb5) hb6
      clear hq6 hrd6
      go_wp2_with fail
      refine HAL.out.mono ?_
      rintro e w7 ⟨rfl, hb7⟩
      have hB7 := bthen hB6 hb7
      go_wp2_with fail
      refine (HRH.out w7 hB7).mono ?_
      rintro e w8 ⟨v8, rfl, hq8, hb8⟩
      obtain ⟨A8, c8, rfl, _, _, hrd8⟩ := own_form hq8
      have hB8 := bthen hB7 hb8
      have HAE := Lib.hid (alikeEdM_true A5 A8 E.length c5 c8 w2.heap.size w8.heap.size E w8 (by omega) (HR5.out.below (bthen (bthen hb26 hb7) hb8)) hrd8)
      clear hq8 hrd8 HAL
      go_wp2_with fail
      refine HAE.out.mono ?_
      rintro e w9 ⟨rfl, hb9⟩
      go_wp2_with fail
      go_ret
      exact ⟨rfl, bthen hB8 hb9⟩
    · have HBH := Lib.hid (fun W (hW : Below w.heap.size w W) => behindErr_any n a b A A2 m c m2 c2 w.heap.size W (H1.out W hW) (H2.out W hW) hW.size (by omega) (by omega) hz)
      have g1 : (bothE n a b != 0) = true := by rw [bne_iff_ne]; exact hz
      have HZ := Lib.hid hz
      clear hr hr2 ha hb hz hal hbl H1 H2
      generalize bothE n a b = z at *
      go_enter Try.func3, Try.ntmps3
      go_wp2_with fail
      refine (HBO.out w (Below.refl _ _)).mono ?_
      rintro e w1 ⟨v1, rfl, hq1, _, hb1⟩
      obtain rfl := hq1 HZ.out
      clear hq1
      go_wp2_with fail
      refine (HBH.out w1 hb1).mono ?_
      rintro e w2 ⟨rfl, hb2⟩
      have hB2 := bthen hb1 hb2
      go_wp2_with fail
      refine (HEA.out w2 hB2).mono ?_
      rintro e w3 ⟨rfl, hb3⟩
      have hB3 := bthen hB2 hb3
      go_wp2_with fail
      refine (HEB.out w3 hB3).mono ?_
      rintro e w4 ⟨rfl, hb4⟩
      have hB4 := bthen hB3 hb4
      go_wp2_with fail
      refine (HCK.out w4 hB4).mono ?_
      rintro e w5 ⟨rfl, hb5⟩
      have hB5 := bthen hB4 hb5
      go_wp2_with fail
      refine (HRB.out w5 hB5).mono ?_
      rintro e w6 ⟨v6, rfl, hq6, _, hb6⟩
      obtain rfl := hq6 HZ.out
      have hB6 := bthen hB5 hb6
      clear hq6
      go_wp2_with fail
      go_ret
      exact ⟨rfl, hB6⟩
  · exact mergeSaysA_any n a b A A2 m c m2 c2 w hr hr2 hm hm2 h
end Go.Proofs.Ytmikckhihfcooaa
