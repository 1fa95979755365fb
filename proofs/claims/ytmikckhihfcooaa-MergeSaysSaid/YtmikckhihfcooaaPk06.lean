/- merge.Both. The two ways to reckon the checksum, as functions on numbers, and that they agree. No program in sight. The walks of package sum and of the reference's checksum. -/
import Derived.Test.YtmikckhihfcooaaPk04
import Derived.Test.YtmikckhihfcooaaPk05
import Derived.Test.YtmikckhihfcooaaPk01
namespace Go.Proofs.Ytmikckhihfcooaa
open Go.RowKit
theorem info_edM : (Try.prog.info? 30).map (fun i => (i.zero, i.size, i.bytes)) = some (some (.agg #[.int .i64 0, .int .i64 0, .string ByteArray.empty]), 3, 32) := by kernel_rfl
def noClash (a b : List Ed) : Prop := ∀ x ∈ a, ∀ y ∈ b, ¬ clashE x y
instance (a b : List Ed) : Decidable (noClash a b) := by unfold noClash; infer_instance
/-- The error of both as one. -/
def bothE (n : Int) (a b : List Ed) : Int := if edErr n a ≠ 0 then edErr n a else if edErr n b ≠ 0 then edErr n b else if noClash a b then edErr n (mergeB a b) else 9
theorem bothE_a {n : Int} {a b : List Ed} (h : edErr n a ≠ 0) : bothE n a b = edErr n a := if_pos h
theorem bothE_b {n : Int} {a b : List Ed} (h : edErr n a = 0) (h2 : edErr n b ≠ 0) : bothE n a b = edErr n b := by unfold bothE; rw [if_neg (by omega), if_pos h2]
theorem bothE_c {n : Int} {a b : List Ed} (h : edErr n a = 0) (h2 : edErr n b = 0) (h3 : ¬ noClash a b) : bothE n a b = 9 := by unfold bothE; rw [if_neg (by omega), if_neg (by omega), if_neg h3]
theorem bothE_ok {n : Int} {a b : List Ed} (h : edErr n a = 0) (h2 : edErr n b = 0) (h3 : noClash a b) : bothE n a b = edErr n (mergeB a b) := by unfold bothE; rw [if_neg (by omega), if_neg (by omega), if_pos h3]
theorem ed_bd {n : Int} {l : List Ed} (h : edErr n l = 0) : ∀ x ∈ l, 0 ≤ x.at_ ∧ x.at_ ≤ 200 ∧ 0 ≤ x.del ∧ x.del ≤ 200 := by
  obtain ⟨h0, h1, h2, h3, h4⟩ := edErr_zero.1 h
  intro x hx
  have := h3.mem x hx
  omega
theorem ed_cell {w : World} {B n k : Nat} {A : Option Addr} {l : List Ed} (h : Rd w B 3 A n (edCells l)) (hl : k < l.length) (hn : l.length = n) : ∃ ad, A = some ad ∧ ad.block < B ∧ w.cell? (ad.add (k * 3)) = some (.int .i64 l[k].at_) ∧ w.cell? ⟨(ad.add (k * 3)).block, (ad.add (k * 3)).off + 1, none⟩ = some (.int .i64 l[k].del) ∧
      w.cell? ⟨(ad.add (k * 3)).block, (ad.add (k * 3)).off + 2, none⟩ = some (.string (S l[k].ins)) := by
  obtain ⟨ad, _, h1, h2, h3, h4, h5⟩ := h.at_ed (k := k) (by omega)
  exact ⟨ad, h1, h2, h3, h4, h5⟩
set_option maxRecDepth 100000 in
theorem bothErr_any (n : Int) (a b : List Ed) (A A2 : Option Addr) (m c m2 c2 B : Nat) (w : World) (hr : Rd w B 3 A m (edCells a)) (hr2 : Rd w B 3 A2 m2 (edCells b)) (hB : B ≤ w.heap.size) (hm : m ≤ 9223372036854775807) (hm2 : m2 ≤ 9223372036854775807) (h : ¬ (edErr n a = 0 ∧ edErr n b = 0)) :
    Calls Try.prog 4 #[.int .i64 n, .slice A m c, .slice A2 m2 c2] w fun e w' => e = .returned (.tuple #[.slice none 0 0, .int .i64 (bothE n a b)]) ∧ bothE n a b ≠ 0 ∧ Below w.heap.size w w' := by
  have HC := Lib.hid (mergeCheck_any n a b A A2 m c m2 c2 B w hr hr2 hB hm hm2)
  have he : (if edErr n a = 0 then edErr n b else edErr n a) = bothE n a b := by
    by_cases h1 : edErr n a = 0
    · rw [if_pos h1, bothE_b h1 (fun h2 => h ⟨h1, h2⟩)]
    · rw [if_neg h1, bothE_a h1]
  have hne : bothE n a b ≠ 0 := by
    rw [← he]
    by_cases h1 : edErr n a = 0
    · rw [if_pos h1]; exact fun h2 => h ⟨h1, h2⟩
    · rw [if_neg h1]; exact h1
  rw [he] at HC
  have HNE := Lib.hid hne
  have g1 : (bothE n a b != 0) = true := by rw [bne_iff_ne]; exact hne
  clear he hr hr2 h hne
  generalize bothE n a b = er at *
  go_enter Try.func4, Try.ntmps4
  go_wp2_with fail
  refine HC.out.mono ?_
  rintro e w1 ⟨rfl, hb1⟩
  go_wp2_with fail
  go_ret2
  exact ⟨rfl, HNE.out, hb1⟩
theorem edCells_app (a b : List Ed) : edCells (a ++ b) = edCells a ++ edCells b := by simp [edCells]
theorem edCells_one (x : Ed) : edCells [x] = [.int .i64 x.at_, .int .i64 x.del, .string (S x.ins)] := rfl
theorem mergeB_lt {x y : Ed} {a b : List Ed} (h : x.at_ < y.at_) : mergeB (x :: a) (y :: b) = x :: mergeB a (y :: b) := by rw [mergeB, if_pos h]
theorem mergeB_gt {x y : Ed} {a b : List Ed} (h : y.at_ < x.at_) : mergeB (x :: a) (y :: b) = y :: mergeB (x :: a) b := by rw [mergeB, if_neg (by omega), if_pos h]
theorem mergeB_eq {x y : Ed} {a b : List Ed} (h : ¬ x.at_ < y.at_) (h2 : ¬ y.at_ < x.at_) : mergeB (x :: a) (y :: b) = x :: mergeB a b := by rw [mergeB, if_neg h, if_neg h2]
set_option maxRecDepth 100000 in
set_option maxHeartbeats 16000000 in
theorem both_any (n : Int) (a b : List Ed) (A A2 : Option Addr) (m c m2 c2 B : Nat) (w : World) (hr : Rd w B 3 A m (edCells a)) (hr2 : Rd w B 3 A2 m2 (edCells b)) (hB : B ≤ w.heap.size) (ha : edErr n a = 0) (hb : edErr n b = 0) :
    Calls Try.prog 4 #[.int .i64 n, .slice A m c, .slice A2 m2 c2] w fun e w' => ∃ v, e = .returned (.tuple #[v, .int .i64 (bothE n a b)]) ∧ (bothE n a b ≠ 0 → v = .slice none 0 0) ∧ (bothE n a b = 0 → w'.ownsRow w.heap.size 30 3 v (mergeB a b).length (edCells (mergeB a b))) ∧ Below w.heap.size w w' := by
  obtain ⟨i0, hi0, hz0, hz1, hz2⟩ := info_parts info_edM
  have hal : a.length = m := by
    have := hr.1
    rw [show (edCells a).length = a.length * 3 from flat_len ed_len a] at this
    omega
  have hbl : b.length = m2 := by
    have := hr2.1
    rw [show (edCells b).length = b.length * 3 from flat_len ed_len b] at this
    omega
  have hm20 : m ≤ 20 := by have := (edErr_zero.1 ha).2.2.1; omega
  have hm220 : m2 ≤ 20 := by have := (edErr_zero.1 hb).2.2.1; omega
  have HC := Lib.hid (mergeCheck_any n a b A A2 m c m2 c2 B w hr hr2 hB (by omega) (by omega))
  rw [if_pos ha, hb] at HC
  have HBA := Lib.hid (ed_bd ha)
  have HBB := Lib.hid (ed_bd hb)
  have HEA := Lib.hid ha
  have HEB := Lib.hid hb
  have HAL := Lib.hid hal
  have HBL := Lib.hid hbl
  have H1 : Hid (∀ W, Below w.heap.size w W → Rd W B 3 A m (edCells a)) := fun W hW => hr.below (hW.mono hB)
  have H2 : Hid (∀ W, Below w.heap.size w W → Rd W B 3 A2 m2 (edCells b)) := fun W hW => hr2.below (hW.mono hB)
  clear hr hr2 ha hb hal hbl
  go_enter Try.func4, Try.ntmps4
  go_wp2_with fail
  refine HC.out.mono ?_
  rintro e w1 ⟨rfl, hb1⟩
  go_wp2_with fail
  go_loopw [26] (fun iv wr => ∃ i : Nat, i ≤ m ∧ iv = .int .i64 (i : Int) ∧ Hid (noClash (a.take i) b) ∧ Below w.heap.size w wr) (fun iv _ => m - (intOf iv).toNat)
  case atStart => exact ⟨0, Nat.zero_le _, rfl, (fun x hx => by rw [List.take_zero] at hx; cases hx), hb1⟩
  case round =>
    obtain ⟨i, hi, rfl, HN, hb⟩ := hrel
    have hbs := hb.size
    by_cases hlt : i < m
    · have g1 : decide ((i : Int) < (m : Int)) = true := decide_eq_true (by omega)
      have g1' : decide (i < m) = true := decide_eq_true hlt
      have hil : i < a.length := by rw [HAL.out]; exact hlt
      obtain ⟨ad, rfl, _, c0, c1, c2'⟩ := ed_cell (H1.out wr hb) hil HAL.out
      have HTK : Hid (a.take (i + 1) = a.take i ++ [a[i]]) := by rw [Hid, List.take_add_one, List.getElem?_eq_getElem hil]; rfl
      have hbx := HBA.out _ (List.getElem_mem hil)
      have HMA : Hid (a[i] ∈ a) := List.getElem_mem hil
      generalize a[i] = x at *
      obtain ⟨xa, xd, xi⟩ := x
      have hbk := Blk.new_ wr 30 #[.int .i64 xa, .int .i64 xd, .string (S xi)]
      have hbA : Below w.heap.size w (wr.alloc (.cells #[.int .i64 xa, .int .i64 xd, .string (S xi)] 30)) := hb.alloc hbs _
      have HBK := Lib.hid hbk
      clear hbk hil
      have c0 : wr.cell? (ad.add (i * 3)) = some (.int .i64 xa) := c0
      have c1 : wr.cell? ⟨(ad.add (i * 3)).block, (ad.add (i * 3)).off + 1, none⟩ = some (.int .i64 xd) := c1
      have c2' : wr.cell? ⟨(ad.add (i * 3)).block, (ad.add (i * 3)).off + 2, none⟩ = some (.string (S xi)) := c2'
      go_wp2_with fail
      generalize wr.heap.size = g at *
      go_loopw [32] (fun kv w2 => ∃ k : Nat, k ≤ m2 ∧ kv = .int .i64 (k : Int) ∧ Hid (∀ y ∈ b.take k, ¬ clashE ⟨xa, xd, xi⟩ y) ∧ Hid (Blk w2 g 30 #[.int .i64 xa, .int .i64 xd, .string (S xi)]) ∧ Below w.heap.size w w2) (fun kv _ => m2 - (intOf kv).toNat)
      case atStart => exact ⟨0, Nat.zero_le _, rfl, (fun y hy => by rw [List.take_zero] at hy; cases hy), HBK.out, hbA⟩
      case round =>
        clear HBK hbA hb hbs c0 c1 c2'
        obtain ⟨k, hk, rfl, HK, HBK, hb⟩ := hrel
        have hbs := hb.size
        by_cases hkt : k < m2
        · have g2 : decide ((k : Int) < (m2 : Int)) = true := decide_eq_true (by omega)
          have g2' : decide (k < m2) = true := decide_eq_true hkt
          have hkl : k < b.length := by rw [HBL.out]; exact hkt
          obtain ⟨bd, rfl, _, d0, d1, d2⟩ := ed_cell (H2.out wr hb) hkl HBL.out
          have HTB : Hid (b.take (k + 1) = b.take k ++ [b[k]]) := by rw [Hid, List.take_add_one, List.getElem?_eq_getElem hkl]; rfl
          have hby := HBB.out _ (List.getElem_mem hkl)
          have HMB : Hid (b[k] ∈ b) := List.getElem_mem hkl
          generalize b[k] = y at *
          have HCL := Lib.hid (fun W => clash_any ⟨xa, xd, xi⟩ y hbx hby W)
          obtain ⟨ya, yd, yi⟩ := y
          have d0 : wr.cell? (bd.add (k * 3)) = some (.int .i64 ya) := d0
          have d1 : wr.cell? ⟨(bd.add (k * 3)).block, (bd.add (k * 3)).off + 1, none⟩ = some (.int .i64 yd) := d1
          have d2 : wr.cell? ⟨(bd.add (k * 3)).block, (bd.add (k * 3)).off + 2, none⟩ = some (.string (S yi)) := d2
          have HBKA := Lib.hid (HBK.out.alloc (.cells #[.int .i64 ya, .int .i64 yd, .string (S yi)] 30))
          have hbA : Below w.heap.size w (wr.alloc (.cells #[.int .i64 ya, .int .i64 yd, .string (S yi)] 30)) := hb.alloc hbs _
          have k0 := HBKA.out.cell0
          have k1 := HBKA.out.cell1
          have k2 := HBKA.out.cell2
          clear hkl
          by_cases hcl : clashE ⟨xa, xd, xi⟩ ⟨ya, yd, yi⟩
          · have HV : Hid (bothE n a b = 9) := bothE_c HEA.out HEB.out fun h => h _ HMA.out _ HMB.out hcl
            have HCT : Hid (∀ W, Calls Try.prog 11 #[.agg #[.int .i64 xa, .int .i64 xd, .string (S xi)], .agg #[.int .i64 ya, .int .i64 yd, .string (S yi)]] W fun e w' => e = .returned (.bool true) ∧ Below W.heap.size W w') := fun W => by
              have h := HCL.out W
              rw [decide_eq_true hcl] at h
              exact h
            clear HCL hcl
            go_wp2_with fail
            refine (HCT.out _).mono ?_
            rintro e w3 ⟨rfl, hb3⟩
            have hb4 := bthen hbA hb3
            go_wp2_with fail
            go_ret2
            rw [HV.out]
            exact ⟨_, rfl, (fun _ => rfl), (fun h => absurd h (by decide)), hb4⟩
          · have HCT : Hid (∀ W, Calls Try.prog 11 #[.agg #[.int .i64 xa, .int .i64 xd, .string (S xi)], .agg #[.int .i64 ya, .int .i64 yd, .string (S yi)]] W fun e w' => e = .returned (.bool false) ∧ Below W.heap.size W w') := fun W => by
              have h := HCL.out W
              rw [decide_eq_false hcl] at h
              exact h
            have HK2 : Hid (∀ y ∈ b.take (k + 1), ¬ clashE ⟨xa, xd, xi⟩ y) := by
              rw [HTB.out]
              intro y hy
              rcases List.mem_append.1 hy with hy | hy
              · exact HK.out y hy
              · rw [List.mem_singleton.1 hy]; exact hcl
            clear HCL hcl
            go_wp2_with fail
            refine (HCT.out _).mono ?_
            rintro e w3 ⟨rfl, hb3⟩
            have hb4 := bthen hbA hb3
            have HBK3 := Lib.hid (HBKA.out.below' hb3)
            clear k0 k1 k2
            go_wp2_with fail
            go_roundw
            case rel => exact ⟨k + 1, by omega, by go_num, HK2.out, HBK3.out, hb4⟩
            case measure => simp [intOf]; omega
        · obtain rfl : k = m2 := by omega
          have g2 : decide ((k : Int) < (k : Int)) = false := decide_eq_false (by omega)
          have g2' : decide (k < k) = false := decide_eq_false hkt
          have HN2 : Hid (noClash (a.take (i + 1)) b) := by
            rw [HTK.out]
            intro x hx
            rcases List.mem_append.1 hx with hx | hx
            · exact HN.out x hx
            · rw [List.mem_singleton.1 hx]
              have h := HK.out
              rw [List.take_of_length_le (by rw [HBL.out]; exact Nat.le_refl _)] at h
              exact h
          go_wp2_with fail
          go_roundw
          case rel => exact ⟨i + 1, by omega, by go_num, HN2.out, hb⟩
          case measure => simp [intOf]; omega
    · obtain rfl : i = m := by omega
      have g1 : decide ((i : Int) < (i : Int)) = false := decide_eq_false (by omega)
      have g1' : decide (i < i) = false := decide_eq_false hlt
      have HNC : Hid (noClash a b) := by
        have h := HN.out
        rw [List.take_of_length_le (by rw [HAL.out]; exact Nat.le_refl _)] at h
        exact h
      have HV := Lib.hid (bothE_ok HEA.out HEB.out HNC.out)
      clear HN
      go_wp2_with fail
      clear g1 g1' hlt hi hbs
      have hmb := mergeB_len a b
      rw [HAL.out, HBL.out] at hmb
      go_loopw [13, 14, 15] (fun ov iv kv w2 => ∃ (j k : Nat) (q : List Ed), j ≤ i ∧ k ≤ m2 ∧ iv = .int .i64 (j : Int) ∧ kv = .int .i64 (k : Int) ∧ Hid (q ++ mergeB (a.drop j) (b.drop k) = mergeB a b) ∧ Hid (w2.ownsRow w.heap.size 30 3 ov q.length (edCells q)) ∧ Below w.heap.size w w2) (fun _ iv kv _ => (i - (intOf iv).toNat) + (m2 - (intOf kv).toNat))
      case atStart => exact ⟨0, 0, [], Nat.zero_le _, Nat.zero_le _, rfl, rfl, rfl, World.ownsRow_nil _ _ _ _, hb⟩
      case round =>
        clear hb
        obtain ⟨j, k, q, hj, hk, rfl, rfl, HQ, HO, hb⟩ := hrel
        have hbs := hb.size
        have hql : q.length ≤ i + m2 := by
          have h := congrArg List.length HQ.out
          rw [List.length_append] at h
          omega
        by_cases hjt : j < i
        · have g1 : decide ((j : Int) < (i : Int)) = true := decide_eq_true (by omega)
          have g1' : decide (j < i) = true := decide_eq_true hjt
          have f1 : ((j : Int) == (i : Int)) = false := by rw [beq_eq_false_iff_ne]; omega
          have f1' : (j == i) = false := by rw [beq_eq_false_iff_ne]; omega
          have hjl : j < a.length := by rw [HAL.out]; exact hjt
          obtain ⟨ad, eA, _, c0, c1, c2'⟩ := ed_cell (H1.out wr hb) hjl HAL.out
          subst eA
          have HDA : Hid (a.drop j = a[j] :: a.drop (j + 1)) := List.drop_eq_getElem_cons hjl
          generalize a[j] = x at *
          obtain ⟨xa, xd, xi⟩ := x
          have c0 : wr.cell? (ad.add (j * 3)) = some (.int .i64 xa) := c0
          have c1 : wr.cell? ⟨(ad.add (j * 3)).block, (ad.add (j * 3)).off + 1, none⟩ = some (.int .i64 xd) := c1
          have c2' : wr.cell? ⟨(ad.add (j * 3)).block, (ad.add (j * 3)).off + 2, none⟩ = some (.string (S xi)) := c2'
          clear hjl
          by_cases hkt : k < m2
          · have g2 : decide ((k : Int) < (m2 : Int)) = true := decide_eq_true (by omega)
            have g2' : decide (k < m2) = true := decide_eq_true hkt
            have f2 : ((k : Int) == (m2 : Int)) = false := by rw [beq_eq_false_iff_ne]; omega
            have f2' : (k == m2) = false := by rw [beq_eq_false_iff_ne]; omega
            have hkl : k < b.length := by rw [HBL.out]; exact hkt
            obtain ⟨bd, eB, _, d0, d1, d2⟩ := ed_cell (H2.out wr hb) hkl HBL.out
            subst eB
            have HDB : Hid (b.drop k = b[k] :: b.drop (k + 1)) := List.drop_eq_getElem_cons hkl
            generalize b[k] = y at *
            obtain ⟨ya, yd, yi⟩ := y
            have d0 : wr.cell? (bd.add (k * 3)) = some (.int .i64 ya) := d0
            have d1 : wr.cell? ⟨(bd.add (k * 3)).block, (bd.add (k * 3)).off + 1, none⟩ = some (.int .i64 yd) := d1
            have d2 : wr.cell? ⟨(bd.add (k * 3)).block, (bd.add (k * 3)).off + 2, none⟩ = some (.string (S yi)) := d2
            clear hkl
            by_cases h1 : xa < ya
            · have g3 : decide (xa < ya) = true := decide_eq_true h1
              have HQ2 : Hid (q ++ [⟨xa, xd, xi⟩] ++ mergeB (a.drop (j + 1)) (b.drop k) = mergeB a b) := by
                have h := HQ.out
                rw [HDA.out, HDB.out, mergeB_lt h1] at h
                rw [Hid, HDB.out, List.append_assoc]
                exact h
              clear HQ
              go_wp2_with fail
              go_quiet (fail)
              have hbD : Below wr.heap.size wr (wr.drewN nq) := below_drewN (Below.refl _ _) _
              have HBD := Lib.hid (bthen hb hbD)
              have HOD := Lib.hid (own_below HO.out hbD)
              clear hbD
              have c0 : (wr.drewN nq).cell? (ad.add (j * 3)) = some (.int .i64 xa) := c0
              have c1 : (wr.drewN nq).cell? ⟨(ad.add (j * 3)).block, (ad.add (j * 3)).off + 1, none⟩ = some (.int .i64 xd) := c1
              have c2' : (wr.drewN nq).cell? ⟨(ad.add (j * 3)).block, (ad.add (j * 3)).off + 2, none⟩ = some (.string (S xi)) := c2'
              clear d0 d1 d2
              generalize wr.drewN nq = w3 at *
              have hbs3 : w.heap.size ≤ w3.heap.size := HBD.out.size
              have hownA := HOD.out.alloc (.cells #[.int .i64 xa, .int .i64 xd, .string (S xi)] 30)
              have hnew := cells_new3 w3 (.int .i64 xa) (.int .i64 xd) (.string (S xi)) 30
              go_wp2_with (at_builtin; go_must (refine wpList_app rfl _ _ _ rfl w.heap.size 30 i0 _ 3 32 Try.underlying22 hi0 hz0 hz1 hz2 rfl (by omega) _ q.length (edCells q) rfl hownA ⟨w3.heap.size, 0, none⟩ 1 1 [.int .i64 xa, .int .i64 xd, .string (S xi)] rfl rfl hnew (by simp [Value.oneCell']) (by omega) (by omega) (by simp; omega) ?_); intro v6 w6 hown6 hb6)
              have HN : Hid (w6.ownsRow w.heap.size 30 3 v6 (q ++ [(⟨xa, xd, xi⟩ : Ed)]).length (edCells (q ++ [(⟨xa, xd, xi⟩ : Ed)]))) := by rw [Hid, edCells_app, edCells_one, List.length_append]; exact hown6
              have hb7 : Below w.heap.size w w6 := (HBD.out.alloc hbs3 _).trans hb6
              clear hown6 hownA hnew
              go_roundw
              case rel => exact ⟨j + 1, k, q ++ [(⟨xa, xd, xi⟩ : Ed)], by omega, by omega, by first | rfl | go_num, by first | rfl | go_num, HQ2.out, HN.out, hb7⟩
              case measure => simp [intOf]; omega
            · have g3 : decide (xa < ya) = false := decide_eq_false h1
              by_cases h2 : ya < xa
              · have g4 : decide (ya < xa) = true := decide_eq_true h2
                have HQ2 : Hid (q ++ [⟨ya, yd, yi⟩] ++ mergeB (a.drop j) (b.drop (k + 1)) = mergeB a b) := by
                  have h := HQ.out
                  rw [HDA.out, HDB.out, mergeB_gt h2] at h
                  rw [Hid, HDA.out, List.append_assoc]
                  exact h
                clear HQ
                go_wp2_with fail
                go_quiet (fail)
                have hbD : Below wr.heap.size wr (wr.drewN nq) := below_drewN (Below.refl _ _) _
                have HBD := Lib.hid (bthen hb hbD)
                have HOD := Lib.hid (own_below HO.out hbD)
                clear hbD
                have c0 : (wr.drewN nq).cell? (ad.add (j * 3)) = some (.int .i64 xa) := c0
                have d0 : (wr.drewN nq).cell? (bd.add (k * 3)) = some (.int .i64 ya) := d0
                have d1 : (wr.drewN nq).cell? ⟨(bd.add (k * 3)).block, (bd.add (k * 3)).off + 1, none⟩ = some (.int .i64 yd) := d1
                have d2 : (wr.drewN nq).cell? ⟨(bd.add (k * 3)).block, (bd.add (k * 3)).off + 2, none⟩ = some (.string (S yi)) := d2
                have hbOLD := hb
                clear c1 c2' HO hb hbs
                generalize wr.drewN nq = wr at *
                have HO := HOD
                have hb := HBD.out
                clear HOD HBD hbOLD nq
                go_wp2_with fail
                go_quiet (fail)
                have hbD : Below wr.heap.size wr (wr.drewN nq) := below_drewN (Below.refl _ _) _
                have HBD := Lib.hid (bthen hb hbD)
                have HOD := Lib.hid (own_below HO.out hbD)
                clear hbD
                have d0 : (wr.drewN nq).cell? (bd.add (k * 3)) = some (.int .i64 ya) := d0
                have d1 : (wr.drewN nq).cell? ⟨(bd.add (k * 3)).block, (bd.add (k * 3)).off + 1, none⟩ = some (.int .i64 yd) := d1
                have d2 : (wr.drewN nq).cell? ⟨(bd.add (k * 3)).block, (bd.add (k * 3)).off + 2, none⟩ = some (.string (S yi)) := d2
                clear c0
                generalize wr.drewN nq = w3 at *
                have hbs3 : w.heap.size ≤ w3.heap.size := HBD.out.size
                have hownA := HOD.out.alloc (.cells #[.int .i64 ya, .int .i64 yd, .string (S yi)] 30)
                have hnew := cells_new3 w3 (.int .i64 ya) (.int .i64 yd) (.string (S yi)) 30
                go_wp2_with (at_builtin; go_must (refine wpList_app rfl _ _ _ rfl w.heap.size 30 i0 _ 3 32 Try.underlying22 hi0 hz0 hz1 hz2 rfl (by omega) _ q.length (edCells q) rfl hownA ⟨w3.heap.size, 0, none⟩ 1 1 [.int .i64 ya, .int .i64 yd, .string (S yi)] rfl rfl hnew (by simp [Value.oneCell']) (by omega) (by omega) (by simp; omega) ?_); intro v6 w6 hown6 hb6)
                have HN : Hid (w6.ownsRow w.heap.size 30 3 v6 (q ++ [(⟨ya, yd, yi⟩ : Ed)]).length (edCells (q ++ [(⟨ya, yd, yi⟩ : Ed)]))) := by rw [Hid, edCells_app, edCells_one, List.length_append]; exact hown6
                have hb7 : Below w.heap.size w w6 := (HBD.out.alloc hbs3 _).trans hb6
                clear hown6 hownA hnew
                go_roundw
                case rel => exact ⟨j, k + 1, q ++ [(⟨ya, yd, yi⟩ : Ed)], by omega, by omega, by first | rfl | go_num, by first | rfl | go_num, HQ2.out, HN.out, hb7⟩
                case measure => simp [intOf]; omega
              · have g4 : decide (ya < xa) = false := decide_eq_false h2
                have HQ2 : Hid (q ++ [⟨xa, xd, xi⟩] ++ mergeB (a.drop (j + 1)) (b.drop (k + 1)) = mergeB a b) := by
                  have h := HQ.out
                  rw [HDA.out, HDB.out, mergeB_eq h1 h2] at h
                  rw [Hid, List.append_assoc]
                  exact h
                clear HQ d1 d2
                go_wp2_with fail
                go_quiet (fail)
                have hbD : Below wr.heap.size wr (wr.drewN nq) := below_drewN (Below.refl _ _) _
                have HBD := Lib.hid (bthen hb hbD)
                have HOD := Lib.hid (own_below HO.out hbD)
                clear hbD
                have c0 : (wr.drewN nq).cell? (ad.add (j * 3)) = some (.int .i64 xa) := c0
                have c1 : (wr.drewN nq).cell? ⟨(ad.add (j * 3)).block, (ad.add (j * 3)).off + 1, none⟩ = some (.int .i64 xd) := c1
                have c2' : (wr.drewN nq).cell? ⟨(ad.add (j * 3)).block, (ad.add (j * 3)).off + 2, none⟩ = some (.string (S xi)) := c2'
                have d0 : (wr.drewN nq).cell? (bd.add (k * 3)) = some (.int .i64 ya) := d0
                clear HO hb hbs
                generalize wr.drewN nq = wr at *
                have HO := HOD
                have hb := HBD.out
                clear HOD HBD nq
                go_wp2_with fail
                go_quiet (fail)
                have hbD : Below wr.heap.size wr (wr.drewN nq) := below_drewN (Below.refl _ _) _
                have HBD := Lib.hid (bthen hb hbD)
                have HOD := Lib.hid (own_below HO.out hbD)
                clear hbD
                have c0 : (wr.drewN nq).cell? (ad.add (j * 3)) = some (.int .i64 xa) := c0
                have c1 : (wr.drewN nq).cell? ⟨(ad.add (j * 3)).block, (ad.add (j * 3)).off + 1, none⟩ = some (.int .i64 xd) := c1
                have c2' : (wr.drewN nq).cell? ⟨(ad.add (j * 3)).block, (ad.add (j * 3)).off + 2, none⟩ = some (.string (S xi)) := c2'
                clear d0
                generalize wr.drewN nq = w3 at *
                have hbs3 : w.heap.size ≤ w3.heap.size := HBD.out.size
                have hownA := HOD.out.alloc (.cells #[.int .i64 xa, .int .i64 xd, .string (S xi)] 30)
                have hnew := cells_new3 w3 (.int .i64 xa) (.int .i64 xd) (.string (S xi)) 30
                go_wp2_with (at_builtin; go_must (refine wpList_app rfl _ _ _ rfl w.heap.size 30 i0 _ 3 32 Try.underlying22 hi0 hz0 hz1 hz2 rfl (by omega) _ q.length (edCells q) rfl hownA ⟨w3.heap.size, 0, none⟩ 1 1 [.int .i64 xa, .int .i64 xd, .string (S xi)] rfl rfl hnew (by simp [Value.oneCell']) (by omega) (by omega) (by simp; omega) ?_); intro v6 w6 hown6 hb6)
                have HN : Hid (w6.ownsRow w.heap.size 30 3 v6 (q ++ [(⟨xa, xd, xi⟩ : Ed)]).length (edCells (q ++ [(⟨xa, xd, xi⟩ : Ed)]))) := by rw [Hid, edCells_app, edCells_one, List.length_append]; exact hown6
                have hb7 : Below w.heap.size w w6 := (HBD.out.alloc hbs3 _).trans hb6
                clear hown6 hownA hnew
                go_roundw
                case rel => exact ⟨j + 1, k + 1, q ++ [(⟨xa, xd, xi⟩ : Ed)], by omega, by omega, by first | rfl | go_num, by first | rfl | go_num, HQ2.out, HN.out, hb7⟩
                case measure => simp [intOf]; omega
          · obtain rfl : k = m2 := by omega
            have g2 : decide ((k : Int) < (k : Int)) = false := decide_eq_false (by omega)
            have g2' : decide (k < k) = false := decide_eq_false hkt
            have HDB : Hid (b.drop k = []) := List.drop_of_length_le (by rw [HBL.out]; exact Nat.le_refl _)
            have HQ2 : Hid (q ++ [⟨xa, xd, xi⟩] ++ mergeB (a.drop (j + 1)) (b.drop k) = mergeB a b) := by
              have h := HQ.out
              rw [HDA.out, HDB.out, mergeB_nil] at h
              rw [Hid, HDB.out, mergeB_nil, List.append_assoc]
              exact h
            clear HQ
            go_wp2_with fail
            go_quiet (fail)
            have hbD : Below wr.heap.size wr (wr.drewN nq) := below_drewN (Below.refl _ _) _
            have HBD := Lib.hid (bthen hb hbD)
            have HOD := Lib.hid (own_below HO.out hbD)
            clear hbD
            have c0 : (wr.drewN nq).cell? (ad.add (j * 3)) = some (.int .i64 xa) := c0
            have c1 : (wr.drewN nq).cell? ⟨(ad.add (j * 3)).block, (ad.add (j * 3)).off + 1, none⟩ = some (.int .i64 xd) := c1
            have c2' : (wr.drewN nq).cell? ⟨(ad.add (j * 3)).block, (ad.add (j * 3)).off + 2, none⟩ = some (.string (S xi)) := c2'
            generalize wr.drewN nq = w3 at *
            have hbs3 : w.heap.size ≤ w3.heap.size := HBD.out.size
            have hownA := HOD.out.alloc (.cells #[.int .i64 xa, .int .i64 xd, .string (S xi)] 30)
            have hnew := cells_new3 w3 (.int .i64 xa) (.int .i64 xd) (.string (S xi)) 30
            go_wp2_with (at_builtin; go_must (refine wpList_app rfl _ _ _ rfl w.heap.size 30 i0 _ 3 32 Try.underlying22 hi0 hz0 hz1 hz2 rfl (by omega) _ q.length (edCells q) rfl hownA ⟨w3.heap.size, 0, none⟩ 1 1 [.int .i64 xa, .int .i64 xd, .string (S xi)] rfl rfl hnew (by simp [Value.oneCell']) (by omega) (by omega) (by simp; omega) ?_); intro v6 w6 hown6 hb6)
            have HN : Hid (w6.ownsRow w.heap.size 30 3 v6 (q ++ [(⟨xa, xd, xi⟩ : Ed)]).length (edCells (q ++ [(⟨xa, xd, xi⟩ : Ed)]))) := by rw [Hid, edCells_app, edCells_one, List.length_append]; exact hown6
            have hb7 : Below w.heap.size w w6 := (HBD.out.alloc hbs3 _).trans hb6
            clear hown6 hownA hnew
            go_roundw
            case rel => exact ⟨j + 1, k, q ++ [(⟨xa, xd, xi⟩ : Ed)], by omega, by omega, by first | rfl | go_num, by first | rfl | go_num, HQ2.out, HN.out, hb7⟩
            case measure => simp [intOf]; omega
        · obtain rfl : j = i := by omega
          have g1 : decide ((j : Int) < (j : Int)) = false := decide_eq_false (by omega)
          have g1' : decide (j < j) = false := decide_eq_false hjt
          have HDA : Hid (a.drop j = []) := List.drop_of_length_le (by rw [HAL.out]; exact Nat.le_refl _)
          have hmn : ∀ l : List Ed, mergeB [] l = l := fun l => by simp [mergeB]
          have HMN := Lib.hid hmn
          clear hmn
          by_cases hkt : k < m2
          · have g2 : decide ((k : Int) < (m2 : Int)) = true := decide_eq_true (by omega)
            have g2' : decide (k < m2) = true := decide_eq_true hkt
            have f2 : ((k : Int) == (m2 : Int)) = false := by rw [beq_eq_false_iff_ne]; omega
            have f2' : (k == m2) = false := by rw [beq_eq_false_iff_ne]; omega
            have hkl : k < b.length := by rw [HBL.out]; exact hkt
            obtain ⟨bd, eB, _, d0, d1, d2⟩ := ed_cell (H2.out wr hb) hkl HBL.out
            subst eB
            have HDB : Hid (b.drop k = b[k] :: b.drop (k + 1)) := List.drop_eq_getElem_cons hkl
            generalize b[k] = y at *
            obtain ⟨ya, yd, yi⟩ := y
            have d0 : wr.cell? (bd.add (k * 3)) = some (.int .i64 ya) := d0
            have d1 : wr.cell? ⟨(bd.add (k * 3)).block, (bd.add (k * 3)).off + 1, none⟩ = some (.int .i64 yd) := d1
            have d2 : wr.cell? ⟨(bd.add (k * 3)).block, (bd.add (k * 3)).off + 2, none⟩ = some (.string (S yi)) := d2
            clear hkl
            have HQ2 : Hid (q ++ [⟨ya, yd, yi⟩] ++ mergeB (a.drop j) (b.drop (k + 1)) = mergeB a b) := by
              have h := HQ.out
              rw [HDA.out, HDB.out, HMN.out] at h
              rw [Hid, HDA.out, HMN.out, List.append_assoc]
              exact h
            clear HQ
            go_wp2_with fail
            go_quiet (fail)
            have hbD : Below wr.heap.size wr (wr.drewN nq) := below_drewN (Below.refl _ _) _
            have HBD := Lib.hid (bthen hb hbD)
            have HOD := Lib.hid (own_below HO.out hbD)
            clear hbD
            have d0 : (wr.drewN nq).cell? (bd.add (k * 3)) = some (.int .i64 ya) := d0
            have d1 : (wr.drewN nq).cell? ⟨(bd.add (k * 3)).block, (bd.add (k * 3)).off + 1, none⟩ = some (.int .i64 yd) := d1
            have d2 : (wr.drewN nq).cell? ⟨(bd.add (k * 3)).block, (bd.add (k * 3)).off + 2, none⟩ = some (.string (S yi)) := d2
            clear HO hb hbs
            generalize wr.drewN nq = wr at *
            have HO := HOD
            have hb := HBD.out
            clear HOD HBD nq
            go_wp2_with fail
            go_quiet (fail)
            have hbD : Below wr.heap.size wr (wr.drewN nq) := below_drewN (Below.refl _ _) _
            have HBD := Lib.hid (bthen hb hbD)
            have HOD := Lib.hid (own_below HO.out hbD)
            clear hbD
            have d0 : (wr.drewN nq).cell? (bd.add (k * 3)) = some (.int .i64 ya) := d0
            have d1 : (wr.drewN nq).cell? ⟨(bd.add (k * 3)).block, (bd.add (k * 3)).off + 1, none⟩ = some (.int .i64 yd) := d1
            have d2 : (wr.drewN nq).cell? ⟨(bd.add (k * 3)).block, (bd.add (k * 3)).off + 2, none⟩ = some (.string (S yi)) := d2
            generalize wr.drewN nq = w3 at *
            have hbs3 : w.heap.size ≤ w3.heap.size := HBD.out.size
            have hownA := HOD.out.alloc (.cells #[.int .i64 ya, .int .i64 yd, .string (S yi)] 30)
            have hnew := cells_new3 w3 (.int .i64 ya) (.int .i64 yd) (.string (S yi)) 30
            go_wp2_with (at_builtin; go_must (refine wpList_app rfl _ _ _ rfl w.heap.size 30 i0 _ 3 32 Try.underlying22 hi0 hz0 hz1 hz2 rfl (by omega) _ q.length (edCells q) rfl hownA ⟨w3.heap.size, 0, none⟩ 1 1 [.int .i64 ya, .int .i64 yd, .string (S yi)] rfl rfl hnew (by simp [Value.oneCell']) (by omega) (by omega) (by simp; omega) ?_); intro v6 w6 hown6 hb6)
            have HN : Hid (w6.ownsRow w.heap.size 30 3 v6 (q ++ [(⟨ya, yd, yi⟩ : Ed)]).length (edCells (q ++ [(⟨ya, yd, yi⟩ : Ed)]))) := by rw [Hid, edCells_app, edCells_one, List.length_append]; exact hown6
            have hb7 : Below w.heap.size w w6 := (HBD.out.alloc hbs3 _).trans hb6
            clear hown6 hownA hnew
            go_roundw
            case rel => exact ⟨j, k + 1, q ++ [(⟨ya, yd, yi⟩ : Ed)], by omega, by omega, by first | rfl | go_num, by first | rfl | go_num, HQ2.out, HN.out, hb7⟩
            case measure => simp [intOf]; omega
          · obtain rfl : k = m2 := by omega
            have g2 : decide ((k : Int) < (k : Int)) = false := decide_eq_false (by omega)
            have g2' : decide (k < k) = false := decide_eq_false hkt
            have HQE : Hid (q = mergeB a b) := by
              have h := HQ.out
              rw [HDA.out, List.drop_of_length_le (by rw [HBL.out]; exact Nat.le_refl _), HMN.out, List.append_nil] at h
              exact h
            have HVQ : Hid (bothE n a b = edErr n q) := by rw [Hid, HV.out, HQE.out]
            obtain ⟨A5, c5, rfl, hn5, hm5, hrd5⟩ := own_form HO.out
            have HCE := Lib.hid (edCheck_any n q A5 q.length c5 wr.heap.size wr hrd5 (Nat.le_refl _) (by omega))
            rw [← HVQ.out] at HCE
            clear HQ hrd5 hql hmb
            by_cases h0 : bothE n a b = 0
            · have HE0 := Lib.hid h0
              rw [h0] at HCE
              clear h0
              go_wp2_with fail
              refine HCE.out.mono ?_
              rintro e w5 ⟨rfl, hb5⟩
              have HO5 := Lib.hid (own_below HO.out hb5)
              go_wp2_with fail
              go_ret2
              exact ⟨.slice A5 q.length c5, by rw [HE0.out]; rfl, (fun h => absurd HE0.out h), (fun _ => by rw [← HQE.out]; exact HO5.out), hb.trans (hb5.mono hbs)⟩
            · have HE0 := Lib.hid h0
              obtain ⟨er, her⟩ : ∃ er, bothE n a b = er := ⟨_, rfl⟩
              have g3 : (er != 0) = true := by rw [bne_iff_ne, ← her]; exact h0
              rw [her] at HCE HE0
              have HER := Lib.hid her
              clear her h0
              go_wp2_with fail
              refine HCE.out.mono ?_
              rintro e w5 ⟨rfl, hb5⟩
              go_wp2_with fail
              go_ret2
              rw [HER.out]
              exact ⟨.slice none 0 0, rfl, (fun _ => rfl), (fun h => absurd h HE0.out), hb.trans (hb5.mono hbs)⟩
end Go.Proofs.Ytmikckhihfcooaa
namespace Go.Proofs.Ytmikckhihfcooaa
/-- One step from the lowest bit on. -/
def lsb (x : Nat) : Nat := (x / 2) ^^^ ((x % 2) * 2197175160)
def lsbN : Nat → Nat → Nat
  | 0, x => x
  | n + 1, x => lsb (lsbN n x)
/-- A whole byte. -/
def lsbByte (x : Nat) (c : UInt8) : Nat := lsbN 8 (x ^^^ c.toNat)
def lsbAll (x : Nat) (l : List UInt8) : Nat := l.foldl lsbByte x
/-- One step from the highest bit on, a bit of input. -/
def msb (x b : Nat) : Nat := if (x / 2147483648) ^^^ b = 1 then (x * 2 % 4294967296) ^^^ 517762881 else x * 2 % 4294967296
def msbN (c : Nat) : Nat → Nat → Nat
  | 0, x => x
  | n + 1, x => msb (msbN c n x) (c / 2 ^ n % 2)
def msbByte (x : Nat) (c : UInt8) : Nat := msbN c.toNat 8 x
def msbAll (x : Nat) (l : List UInt8) : Nat := l.foldl msbByte x
/-- The bits from behind, the n lowest ones done. -/
def backN (x : Nat) : Nat → Nat
  | 0 => 0
  | n + 1 => backN x n ||| ((x / 2 ^ n % 2) * 2 ^ (31 - n))

/-- x has the bits of y from behind. -/
def Turned (x y : Nat) : Prop := x < 4294967296 ∧ y < 4294967296 ∧ ∀ i, i < 32 → x.testBit i = y.testBit (31 - i)

theorem msb_lt (x b : Nat) : msb x b < 4294967296 := by
  unfold msb
  have h : x * 2 % 4294967296 < 2 ^ 32 := Nat.mod_lt _ (by decide)
  split
  · exact Nat.xor_lt_two_pow h (by decide)
  · exact h
theorem lsb_walk (Y : Nat) (hY : Y < 4294967296) : bits BinOp.xor IntKind.u32 ((Y : Int) / 2) (bits BinOp.and IntKind.u32 (Y : Int) 1 * 2197175160 % 4294967296) = ((lsb Y : Nat) : Int) := by
  have h1 := u32_and_nat Y 1 hY (by omega)
  rw [nat_mask1] at h1
  rw [show ((1 : Int)) = ((1 : Nat) : Int) from rfl, h1]
  have h2 : ((Y % 2 : Nat) : Int) * 2197175160 % 4294967296 = ((Y % 2 * 2197175160 : Nat) : Int) := by omega
  rw [h2, show (Y : Int) / 2 = ((Y / 2 : Nat) : Int) from by omega]
  exact u32_xor_nat _ _ (by omega) (by omega)
theorem take_succ_getD (l : List UInt8) (k : Nat) (h : k < l.length) : l.take (k + 1) = l.take k ++ [l.getD k 0] := by
  rw [List.take_succ_eq_append_getElem h, List.getD_eq_getElem?_getD, List.getElem?_eq_getElem h]; rfl
theorem lsbAll_snoc (x : Nat) (l : List UInt8) (k : Nat) (h : k < l.length) : lsbAll x (l.take (k + 1)) = lsbByte (lsbAll x (l.take k)) (l.getD k 0) := by
  unfold lsbAll
  rw [take_succ_getD l k h, List.foldl_append]; rfl
theorem msbAll_snoc (x : Nat) (l : List UInt8) (k : Nat) (h : k < l.length) : msbAll x (l.take (k + 1)) = msbByte (msbAll x (l.take k)) (l.getD k 0) := by
  unfold msbAll
  rw [take_succ_getD l k h, List.foldl_append]; rfl
theorem lsb_lt (x : Nat) (h : x < 4294967296) : lsb x < 4294967296 := by
  unfold lsb
  exact Nat.xor_lt_two_pow (n := 32) (by omega) (by rcases Nat.mod_two_eq_zero_or_one x with e | e <;> rw [e] <;> decide)
theorem not32 (X : Nat) (hX : X < 4294967296) : 4294967295 ^^^ X = 4294967295 - X := by
  have h := congrArg BitVec.toNat (BitVec.allOnes_xor (x := BitVec.ofNat 32 X))
  rw [BitVec.toNat_xor, BitVec.toNat_not, BitVec.toNat_ofNat, Nat.mod_eq_of_lt (by omega), BitVec.toNat_allOnes] at h
  simpa using h
theorem not_walk (X : Nat) (hX : X < 4294967296) : bits BinOp.xor IntKind.u32 IntKind.u32.max (X : Int) = ((4294967295 - X : Nat) : Int) := by
  have h := u32_xor_nat 4294967295 X (by omega) hX
  rw [not32 X hX] at h
  exact h
theorem bit_walk (Y c j : Nat) (hY : Y < 4294967296) (hc : c < 256) : bits BinOp.xor IntKind.u32 ((Y : Int) / 2147483648) (bits BinOp.and IntKind.u8 ((c : Int) / 2 ^ j) 1 % 4294967296) = (((Y / 2147483648) ^^^ (c / 2 ^ j % 2) : Nat) : Int) := by
  have e : ((c : Int) / 2 ^ j) = ((c / 2 ^ j : Nat) : Int) := by
    rw [Int.natCast_ediv, Int.natCast_pow]; rfl
  have hlt : c / 2 ^ j < 256 := Nat.lt_of_le_of_lt (Nat.div_le_self _ _) hc
  have h1 := u8_and_nat (c / 2 ^ j) 1 hlt (by omega)
  rw [nat_mask1] at h1
  rw [e, show ((1 : Int)) = ((1 : Nat) : Int) from rfl, h1]
  have h2 : ((c / 2 ^ j % 2 : Nat) : Int) % 4294967296 = ((c / 2 ^ j % 2 : Nat) : Int) := by omega
  rw [h2, show (Y : Int) / 2147483648 = ((Y / 2147483648 : Nat) : Int) from by omega]
  exact u32_xor_nat _ _ (by omega) (by omega)
theorem shl_walk (Y : Nat) : Value.int IntKind.u32 ((Y : Int) * 2 % 4294967296) = .int .u32 ((Y * 2 % 4294967296 : Nat) : Int) := congrArg _ (by omega)
theorem xor_walk (Y : Nat) : Value.int IntKind.u32 (bits BinOp.xor IntKind.u32 ((Y : Int) * 2 % 4294967296) 517762881) = .int .u32 (((Y * 2 % 4294967296) ^^^ 517762881 : Nat) : Int) := by
  rw [show (Y : Int) * 2 % 4294967296 = ((Y * 2 % 4294967296 : Nat) : Int) from by omega]
  exact congrArg _ (u32_xor_nat _ 517762881 (Nat.mod_lt _ (by omega)) (by omega))
theorem backN_lt (x n : Nat) : backN x n < 4294967296 := by
  induction n with
  | zero => show (0:Nat) < _; omega
  | succ n ih =>
    refine Nat.or_lt_two_pow (n := 32) ih ?_
    have h1 : x / 2 ^ n % 2 < 2 := Nat.mod_lt _ (by decide)
    have h2 : 2 ^ (31 - n) ≤ 2 ^ 31 := Nat.pow_le_pow_right (by omega) (by omega)
    have h3 : x / 2 ^ n % 2 * 2 ^ (31 - n) ≤ 1 * 2 ^ 31 := Nat.mul_le_mul (by omega) h2
    omega
theorem back_walk (X Y j : Nat) (hX : X < 4294967296) (hY : Y < 4294967296) : Value.int IntKind.u32 (bits BinOp.or IntKind.u32 (Y : Int) (bits BinOp.and IntKind.u32 ((X : Int) / 2 ^ j) 1 * 2 ^ (31 - j) % 4294967296)) = .int .u32 ((Y ||| X / 2 ^ j % 2 * 2 ^ (31 - j) : Nat) : Int) := by
  have e : ((X : Int) / 2 ^ j) = ((X / 2 ^ j : Nat) : Int) := by
    rw [Int.natCast_ediv, Int.natCast_pow]; rfl
  have hlt : X / 2 ^ j < 4294967296 := Nat.lt_of_le_of_lt (Nat.div_le_self _ _) hX
  have h1 := u32_and_nat (X / 2 ^ j) 1 hlt (by omega)
  rw [nat_mask1] at h1
  rw [e, show ((1 : Int)) = ((1 : Nat) : Int) from rfl, h1]
  have h3 : X / 2 ^ j % 2 * 2 ^ (31 - j) < 4294967296 := by
    have h1 : X / 2 ^ j % 2 < 2 := Nat.mod_lt _ (by decide)
    have h2 : 2 ^ (31 - j) ≤ 2 ^ 31 := Nat.pow_le_pow_right (by omega) (by omega)
    have h3 : X / 2 ^ j % 2 * 2 ^ (31 - j) ≤ 1 * 2 ^ 31 := Nat.mul_le_mul (by omega) h2
    omega
  have h2 : ((X / 2 ^ j % 2 : Nat) : Int) * 2 ^ (31 - j) % 4294967296 = ((X / 2 ^ j % 2 * 2 ^ (31 - j) : Nat) : Int) := by
    have e2 : ((X / 2 ^ j % 2 * 2 ^ (31 - j) : Nat) : Int) = ((X / 2 ^ j % 2 : Nat) : Int) * 2 ^ (31 - j) := by rw [Int.natCast_mul, Int.natCast_pow]; rfl
    rw [← e2]
    omega
  rw [h2]
  exact congrArg _ (u32_or_nat _ _ hY h3)
theorem lsbN_lt (n x : Nat) (h : x < 4294967296) : lsbN n x < 4294967296 := by
  induction n with
  | zero => exact h
  | succ n ih => exact lsb_lt _ ih
theorem tb (x i : Nat) : x.testBit i = decide (x / 2 ^ i % 2 = 1) := by
  rw [Nat.testBit_eq_decide_div_mod_eq]
theorem mod2_testBit (x : Nat) : x % 2 = (x.testBit 0).toNat := by
  rw [tb]; rcases Nat.mod_two_eq_zero_or_one x with e | e <;> simp [e]

def polyT (i : Nat) : Bool := Nat.testBit 2197175160 i
theorem poly_turn : ∀ i, i < 32 → Nat.testBit 2197175160 i = Nat.testBit 517762881 (31 - i) := by decide

theorem lsb_testBit (x i : Nat) : (lsb x).testBit i = ((x.testBit (i + 1)).xor (x.testBit 0 && Nat.testBit 2197175160 i)) := by
  unfold lsb
  rw [Nat.testBit_xor]
  have h1 : (x / 2).testBit i = x.testBit (i + 1) := by rw [Nat.testBit_succ]
  rw [h1]
  rcases Nat.mod_two_eq_zero_or_one x with e | e
  · have : x.testBit 0 = false := by rw [tb]; simp [e]
    simp [e, this]
  · have : x.testBit 0 = true := by rw [tb]; simp [e]
    simp [e, this]

theorem msb_testBit (x b i : Nat) (hx : x < 4294967296) (hb : b < 2) (hi : i < 32) : (msb x b).testBit i = (((decide (0 < i)) && x.testBit (i - 1)).xor ((x.testBit 31).xor (decide (b = 1)) && Nat.testBit 517762881 i)) := by
  have hs : (x * 2 % 4294967296).testBit i = ((decide (0 < i)) && x.testBit (i - 1)) := by
    rw [show (4294967296 : Nat) = 2 ^ 32 from rfl, Nat.testBit_mod_two_pow]
    cases i with
    | zero => simp [tb]
    | succ i =>
      rw [show x * 2 = 2 * x from Nat.mul_comm _ _, Nat.testBit_succ]
      simp [hi]
  have h31 : x / 2147483648 = (x.testBit 31).toNat := by
    rw [tb, show (2 : Nat) ^ 31 = 2147483648 from rfl]
    have : x / 2147483648 < 2 := by omega
    rcases (by omega : x / 2147483648 = 0 ∨ x / 2147483648 = 1) with e | e <;> simp [e]
  unfold msb
  rw [h31]
  rcases (by omega : b = 0 ∨ b = 1) with rfl | rfl <;> cases h : x.testBit 31 <;> simp [hs, Nat.testBit_xor]

/-- One bit fed to both. -/
theorem turned_step {x y b : Nat} (h : Turned x y) (hb : b < 2) : Turned (lsb (x ^^^ b)) (msb y b) := by
  obtain ⟨hx, hy, ht⟩ := h
  refine ⟨lsb_lt _ (Nat.xor_lt_two_pow (n := 32) hx (by omega)), msb_lt _ _, fun i hi => ?_⟩
  rw [lsb_testBit, msb_testBit y b (31 - i) hy hb (by omega), Nat.testBit_xor, Nat.testBit_xor, ht 0 (by omega), poly_turn i hi]
  have hb1 : b.testBit (i + 1) = false := by
    rw [tb]
    have : b / 2 ^ (i + 1) = 0 := Nat.div_eq_of_lt (Nat.lt_of_lt_of_le hb (by rw [Nat.pow_succ]; have := Nat.one_le_two_pow (n := i); omega))
    simp [this]
  have hb0 : b.testBit 0 = decide (b = 1) := by rw [tb]; rcases (by omega : b = 0 ∨ b = 1) with rfl | rfl <;> rfl
  rw [hb1, hb0, Bool.xor_false]
  congr 1
  by_cases h31 : i = 31
  · subst h31
    have : x.testBit 32 = false := Nat.testBit_lt_two_pow hx
    simp [this]
  · rw [ht (i + 1) (by omega)]
    have e : 31 - (i + 1) = 31 - i - 1 := by omega
    rw [e]
    have : 0 < 31 - i := by omega
    simp [this]

theorem lsb_xor2 (x d : Nat) : lsb (x ^^^ (2 * d)) = lsb x ^^^ d := by
  apply Nat.eq_of_testBit_eq
  intro i
  rw [lsb_testBit, Nat.testBit_xor, Nat.testBit_xor, Nat.testBit_xor, lsb_testBit]
  have h1 : (2 * d).testBit (i + 1) = d.testBit i := by rw [Nat.testBit_succ]; simp
  have h0 : (2 * d).testBit 0 = false := by rw [tb]; simp
  rw [h1, h0, Bool.xor_false]
  cases x.testBit (i + 1) <;> cases d.testBit i <;> simp

theorem lsbN_xor (n : Nat) : ∀ x c : Nat, ∃ z, z = lsbN n (x ^^^ c) ∧ ∀ y, Turned x y → Turned (z ^^^ (c / 2 ^ n)) (msbN c n y) := by
  induction n with
  | zero =>
    intro x c
    refine ⟨_, rfl, fun y h => ?_⟩
    have : x ^^^ c ^^^ c = x := by rw [Nat.xor_assoc, Nat.xor_self, Nat.xor_zero]
    simpa [lsbN, msbN, this] using h
  | succ n ih =>
    intro x c
    obtain ⟨z, hz, h⟩ := ih x c
    refine ⟨_, rfl, fun y hy => ?_⟩
    have h1 := turned_step (b := c / 2 ^ n % 2) (h y hy) (Nat.mod_lt _ (by decide))
    have e : lsb (z ^^^ (c / 2 ^ n) ^^^ (c / 2 ^ n % 2)) = lsbN (n + 1) (x ^^^ c) ^^^ (c / 2 ^ (n + 1)) := by
      show _ = lsb (lsbN n (x ^^^ c)) ^^^ _
      rw [← hz]
      have e2 : (c / 2 ^ n) ^^^ (c / 2 ^ n % 2) = 2 * (c / 2 ^ (n + 1)) := by
        rw [Nat.pow_succ, ← Nat.div_div_eq_div_mul]
        generalize c / 2 ^ n = m
        apply Nat.eq_of_testBit_eq
        intro i
        rw [Nat.testBit_xor]
        cases i with
        | zero => rw [tb, tb, tb]; simp
        | succ i =>
          rw [Nat.testBit_succ, Nat.testBit_succ (m % 2), Nat.testBit_succ (2 * (m / 2))]
          have : m % 2 / 2 = 0 := by omega
          simp [this]
      rw [Nat.xor_assoc, e2, lsb_xor2]
    rw [e] at h1
    exact h1

theorem turned_byte {x y : Nat} (c : UInt8) (h : Turned x y) : Turned (lsbByte x c) (msbByte y c) := by
  obtain ⟨z, hz, hh⟩ := lsbN_xor 8 x c.toNat
  have := hh y h
  have hc : c.toNat / 2 ^ 8 = 0 := Nat.div_eq_of_lt c.toNat_lt
  rw [hc, Nat.xor_zero, hz] at this
  exact this
theorem turned_all (l : List UInt8) : ∀ {x y : Nat}, Turned x y → Turned (lsbAll x l) (msbAll y l) := by
  induction l with
  | nil => intro x y h; exact h
  | cons c l ih => intro x y h; exact ih (turned_byte c h)

theorem backN_testBit (x n i : Nat) (hn : n ≤ 32) : (backN x n).testBit i = (decide (31 - i < n ∧ i < 32) && x.testBit (31 - i)) := by
  induction n with
  | zero => simp [backN]
  | succ n ih =>
    unfold backN
    rw [Nat.testBit_or, ih (by omega)]
    have e : (x / 2 ^ n % 2 * 2 ^ (31 - n)).testBit i = (decide (i = 31 - n) && x.testBit n) := by
      rw [tb x n]
      rcases Nat.mod_two_eq_zero_or_one (x / 2 ^ n) with e | e
      · simp [e]
      · rw [e, Nat.one_mul, Nat.testBit_two_pow]
        by_cases h : i = 31 - n
        · subst h; simp
        · have : ¬ 31 - n = i := fun hh => h hh.symm
          simp [h, this]
    rw [e]
    by_cases h : i = 31 - n
    · subst h
      have h2 : 31 - (31 - n) = n := by omega
      rw [h2]
      have h3 : ¬ n < n := by omega
      simp [h3]; intro; omega
    · by_cases hi : i < 32
      · have : (31 - i < n + 1) ↔ (31 - i < n) := by omega
        simp [h, this]
      · simp [h, hi]
theorem back_turned {x y : Nat} (h : Turned x y) : backN y 32 = x := by
  obtain ⟨hx, hy, ht⟩ := h
  apply Nat.eq_of_testBit_eq
  intro i
  rw [backN_testBit _ _ _ (Nat.le_refl _)]
  by_cases hi : i < 32
  · rw [ht i hi]
    have : 31 - i < 32 ∧ i < 32 := ⟨by omega, hi⟩
    simp [this]
  · have : x.testBit i = false := Nat.testBit_lt_two_pow (Nat.lt_of_lt_of_le hx (Nat.pow_le_pow_right (n := 2) (by omega) (by omega : 32 ≤ i)))
    simp [hi, this]
theorem turned_ones : Turned 4294967295 4294967295 := by
  refine ⟨by decide, by decide, fun i hi => ?_⟩
  have h : ∀ j, j < 32 → Nat.testBit 4294967295 j = true := by decide
  rw [h i hi, h (31 - i) (by omega)]
/-- The checksum, both ways. -/
def sumNat (l : List UInt8) : Nat := 4294967295 - lsbAll 4294967295 l
theorem sums_agree (l : List UInt8) : backN (msbAll 4294967295 l) 32 = lsbAll 4294967295 l := back_turned (turned_all l turned_ones)
theorem lsbAll_lt (l : List UInt8) : lsbAll 4294967295 l < 4294967296 := (turned_all l turned_ones).1
theorem msbAll_lt (l : List UInt8) : msbAll 4294967295 l < 4294967296 := (turned_all l turned_ones).2.1
theorem sumNat_lt (l : List UInt8) : sumNat l < 4294967296 := by unfold sumNat; omega
theorem msb_sum (l : List UInt8) : 4294967295 - backN (msbAll 4294967295 l) 32 = sumNat l := by rw [sums_agree]; rfl
end Go.Proofs.Ytmikckhihfcooaa
namespace Go.Proofs.Ytmikckhihfcooaa
open Go.RowKit
/-- The four bytes of a sum. -/
def fourL (x : Nat) : List UInt8 := [UInt8.ofNat x, UInt8.ofNat (x / 256), UInt8.ofNat (x / 65536), UInt8.ofNat (x / 16777216)]
def fourB (x : Nat) : ByteArray := ⟨(fourL x).toArray⟩
theorem four_cells (x : Nat) (hx : x < 4294967296) : (#[Value.int .u8 ((x : Int) % 256), .int .u8 ((x : Int) / 256 % 256), .int .u8 ((x : Int) / 65536 % 256), .int .u8 ((x : Int) / 16777216)] : Array Value).toList = byteCells (fourL x) := by
  have h0 : (x : Int) % 256 = ((UInt8.ofNat x).toNat : Int) := by rw [UInt8.toNat_ofNat']; omega
  have h1 : (x : Int) / 256 % 256 = ((UInt8.ofNat (x / 256)).toNat : Int) := by rw [UInt8.toNat_ofNat']; omega
  have h2 : (x : Int) / 65536 % 256 = ((UInt8.ofNat (x / 65536)).toNat : Int) := by rw [UInt8.toNat_ofNat']; omega
  have h3 : (x : Int) / 16777216 = ((UInt8.ofNat (x / 16777216)).toNat : Int) := by rw [UInt8.toNat_ofNat']; omega
  rw [h0, h1, h2, h3]
  rfl
/-- Right: the last four bytes are the sum of the others. -/
def rightB (s : ByteArray) : Bool := decide (4 ≤ s.size) && ((fourB (sumNat (L (s.extract 0 (s.size - 4))))).toList == (s.extract (s.size - 4) s.size).toList)
theorem right_more (s : ByteArray) (h : 4 < s.size) : rightB s = ((fourB (sumNat (L (s.extract 0 (s.size - 4))))).toList == (s.extract (s.size - 4) s.size).toList) := by
  unfold rightB; simp; omega
theorem right_four (s : ByteArray) (h : s.size = 4) : rightB s = ((fourB (sumNat (L ByteArray.empty))).toList == (s.extract 0 4).toList) := by
  unfold rightB; rw [h]
  have : s.extract 0 (4 - 4) = ByteArray.empty := by simp
  rw [this]; simp
theorem right_less (s : ByteArray) (h : s.size < 4) : rightB s = false := by
  unfold rightB; simp; omega
end Go.Proofs.Ytmikckhihfcooaa
