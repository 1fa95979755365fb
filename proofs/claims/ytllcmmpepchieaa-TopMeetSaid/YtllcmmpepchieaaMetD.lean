/- quilltop.ops and typed. -/
import Derived.Test.YtllcmmpepchieaaMetC
import Derived.Test.YtllcmmpepchieaaByA
import Derived.Test.YtllcmmpepchieaaOwn2
namespace Go.Proofs.Ytllcmmpepchieaa
open Go.RowKit
theorem opCells_one1 (x : Op) : opCells [x] = [.int .i64 x.kind, .int .i64 x.pos, .int .u8 x.b] := rfl
theorem opsE_long {x : Ed} (h : 0 ≤ x.del ∧ x.del ≤ 200 ∧ x.ins.length ≤ 40) : (opsE x).length ≤ 240 := by rw [opsE_len]; omega
theorem opsL_long : ∀ {l : List Ed}, (∀ x ∈ l, 0 ≤ x.del ∧ x.del ≤ 200 ∧ x.ins.length ≤ 40) → (opsL l).length ≤ 240 * l.length
  | [], _ => by simp [opsL, opsR]
  | x :: l, h => by
    rw [opsL_cons, List.length_append, List.length_cons]
    have h1 := opsE_long (h x List.mem_cons_self)
    have h2 := opsL_long fun y hy => h y (List.mem_cons_of_mem _ hy)
    omega
theorem ed_bd2 {n : Int} {l : List Ed} (h : edErr n l = 0) : l.length ≤ 20 ∧ ∀ x ∈ l, 0 ≤ x.at_ ∧ x.at_ ≤ 200 ∧ 0 ≤ x.del ∧ x.del ≤ 200 ∧ x.ins.length ≤ 40 := by
  obtain ⟨h0, h1, h2, h3, h4⟩ := edErr_zero.1 h
  refine ⟨h2, fun x hx => ?_⟩
  have := h3.mem x hx
  omega
theorem putsE_take {l : List UInt8} {q : Nat} (h : q < l.length) (p : Int) : putsE p (l.take (q + 1)) = putsE p (l.take q) ++ [⟨1, p + q, ((l.getD q 0).toNat : Int)⟩] := by
  rw [List.take_add_one, List.getElem?_eq_getElem h]
  show putsE p (l.take q ++ [l[q]]) = _
  rw [putsE_snoc, List.length_take, Nat.min_eq_left (by omega), List.getD_eq_getElem?_getD, List.getElem?_eq_getElem h]; rfl
set_option maxRecDepth 100000 in
set_option maxHeartbeats 16000000 in
theorem ops_any (n : Int) (l : List Ed) (A : Option Addr) (m c B : Nat) (w : World) (hr : Rd w B 3 A m (edCells l)) (hB : B ≤ w.heap.size) (hE : edErr n l = 0) :
    Calls Try.prog 15 #[.slice A m c] w fun e w' => ∃ v, e = .returned v ∧ w'.ownsRow w.heap.size 43 3 v (opsL l).length (opCells (opsL l)) ∧ Below w.heap.size w w' := by
  obtain ⟨i0, hi0, hz0, hz1, hz2⟩ := info_parts info_op
  have hal := Rd.rec_len ed_len (by omega) hr
  obtain ⟨hl20, hbd⟩ := ed_bd2 hE
  have HR := Lib.hid hr
  have HAL := Lib.hid hal
  have HBD := Lib.hid hbd
  have hm20 : m ≤ 20 := by omega
  have hcv := fun W s => Lib.run_convert_string_bytes (P := Try.prog) W 9 63 5 s Try.underlying9 Try.underlying63 Try.underlying5
  clear hr hal hbd hE hl20
  go_enter Try.func15, Try.ntmps15
  go_wp2_with fail
  go_loopw [3, 4] (fun ov iv wr => ∃ (j : Nat) (z : Int), j ≤ m ∧ iv = .int .i64 z ∧ z + 1 = (j : Int) ∧ Hid (wr.ownsRow w.heap.size 43 3 ov (opsL (l.drop j)).length (opCells (opsL (l.drop j)))) ∧ Below w.heap.size w wr) (fun _ iv _ => (intOf iv + 1).toNat)
  case atStart => exact ⟨m, (m : Int) - 1, Nat.le_refl _, rfl, by omega, by rw [List.drop_of_length_le (by rw [HAL.out]; exact Nat.le_refl _)]; exact World.ownsRow_nil _ _ _ _, Below.refl _ _⟩
  case round =>
    obtain ⟨j, z, hj, rfl, hz, HO, hb⟩ := hrel
    have hbs := hb.size
    rcases Nat.eq_zero_or_pos j with hj0 | hj0
    · subst hj0
      obtain rfl : z = -1 := by omega
      rw [List.drop_zero] at HO
      clear hz
      go_wp2_with fail
      go_ret
      exact ⟨_, rfl, HO.out, hb⟩
    · obtain ⟨i, rfl⟩ : ∃ i, j = i + 1 := ⟨j - 1, by omega⟩
      obtain rfl : z = (i : Int) := by omega
      have g1 : decide ((0 : Int) ≤ (i : Int)) = true := decide_eq_true (by omega)
      have hil : i < l.length := by rw [HAL.out]; omega
      obtain ⟨ad, rfl, hab, c0, c1, c2'⟩ := ed_cell (HR.out.below (hb.mono hB)) hil HAL.out
      have HDR : Hid (l.drop i = l[i] :: l.drop (i + 1)) := List.drop_eq_getElem_cons hil
      have hbx := HBD.out _ (List.getElem_mem hil)
      have hlq : (opsL (l.drop (i + 1))).length ≤ 4800 := by
        have h1 := opsL_long (l := l.drop (i + 1)) fun x hx => by have := HBD.out x (List.mem_of_mem_drop hx); omega
        rw [List.length_drop, HAL.out] at h1
        omega
      have hdrop : Rd w B 3 (some ad) m (edCells l) := HR.out
      generalize l[i] = x at *
      obtain ⟨xa, xd, xi⟩ := x
      simp only at hbx
      obtain ⟨d, rfl⟩ := Int.eq_ofNat_of_zero_le (a := xd) (by omega)
      have hd200 : d ≤ 200 := by omega
      have HOC := Lib.hid (opsL_cons ⟨xa, (d : Int), xi⟩ (l.drop (i + 1)))
      generalize opsL (l.drop (i + 1)) = q0 at *
      have HC : Hid (∀ W, Below w.heap.size w W → W.cell? (ad.add (i * 3)) = some (.int .i64 xa) ∧ W.cell? ⟨(ad.add (i * 3)).block, (ad.add (i * 3)).off + 2, none⟩ = some (.string (S xi))) := fun W hW =>
        ⟨(hW.cell (p := ad.add (i * 3)) (by rw [blk_add]; omega)).trans ((hb.cell (p := ad.add (i * 3)) (by rw [blk_add]; omega)).symm.trans c0), (hW.cell (p := ⟨(ad.add (i * 3)).block, (ad.add (i * 3)).off + 2, none⟩) (by rw [blk_add]; omega)).trans ((hb.cell (p := ⟨(ad.add (i * 3)).block, (ad.add (i * 3)).off + 2, none⟩) (by rw [blk_add]; omega)).symm.trans c2')⟩
      have c1 : wr.cell? ⟨(ad.add (i * 3)).block, (ad.add (i * 3)).off + 1, none⟩ = some (.int .i64 (d : Int)) := c1
      clear hz hj0 c0 c2' hdrop hil
      go_wp2_with fail
      go_loopw [3, 19] (fun ov kv wq => ∃ k : Nat, k ≤ d ∧ kv = .int .i64 (k : Int) ∧ Hid (wq.ownsRow w.heap.size 43 3 ov (q0 ++ List.replicate k (⟨2, xa, 0⟩ : Op)).length (opCells (q0 ++ List.replicate k ⟨2, xa, 0⟩))) ∧ Below w.heap.size w wq) (fun _ kv _ => d - (intOf kv).toNat)
      case atStart => exact ⟨0, Nat.zero_le _, rfl, by rw [Hid]; simpa using HO.out, hb⟩
      case round =>
        clear HO hb hbs c1
        obtain ⟨k, hk, rfl, HO, hb⟩ := hrel
        have hbs := hb.size
        obtain ⟨c0, c2'⟩ := HC.out _ hb
        by_cases hkd : k < d
        · have g2 : decide ((k : Int) < (d : Int)) = true := decide_eq_true (by omega)
          have g2' : decide (k < d) = true := decide_eq_true hkd
          have HSN : Hid (q0 ++ List.replicate (k + 1) ⟨2, xa, 0⟩ = (q0 ++ List.replicate k ⟨2, xa, 0⟩) ++ [(⟨2, xa, 0⟩ : Op)]) := by rw [Hid, List.replicate_succ', List.append_assoc]
          have hql : (q0 ++ List.replicate k (⟨2, xa, 0⟩ : Op)).length ≤ 5000 := by rw [List.length_append, List.length_replicate]; omega
          generalize q0 ++ List.replicate k (⟨2, xa, 0⟩ : Op) = q at *
          have hown := HO.out.alloc (.cells #[.int .i64 2, .int .i64 xa, .int .u8 0] 43)
          have hnew := cells_new3 wr (.int .i64 2) (.int .i64 xa) (.int .u8 0) 43
          clear HO c2'
          go_wp2_with (at_builtin; go_must (refine wpList_app rfl _ _ _ rfl w.heap.size 43 i0 _ 3 24 Try.underlying35 hi0 hz0 hz1 hz2 rfl (by omega) _ q.length (opCells q) rfl hown ⟨wr.heap.size, 0, none⟩ 1 1 [.int .i64 2, .int .i64 xa, .int .u8 0] rfl rfl hnew (by simp [Value.oneCell']) (by omega) (by omega) (by simp; omega) ?_); intro v6 w6 hown6 hb6)
          have HN : Hid (w6.ownsRow w.heap.size 43 3 v6 (q ++ [(⟨2, xa, 0⟩ : Op)]).length (opCells (q ++ [(⟨2, xa, 0⟩ : Op)]))) := by rw [Hid, opCells_append, opCells_one1, List.length_append]; exact hown6
          have hb7 : Below w.heap.size w w6 := (hb.alloc hbs _).trans hb6
          clear hown6 hown hnew
          go_roundw
          case rel => exact ⟨k + 1, by omega, by go_num, by rw [HSN.out]; exact HN.out, hb7⟩
          case measure => simp [intOf]; omega
        · obtain rfl : k = d := by omega
          have g2 : decide ((k : Int) < (k : Int)) = false := decide_eq_false (by omega)
          have g2' : decide (k < k) = false := decide_eq_false hkd
          have HOE : Hid (opsE ⟨xa, (k : Int), xi⟩ = List.replicate k ⟨2, xa, 0⟩ ++ putsE xa xi) := rfl
          have hql0 : (q0 ++ List.replicate k (⟨2, xa, 0⟩ : Op)).length ≤ 5000 := by rw [List.length_append, List.length_replicate]; omega
          have HBASE : Hid (opsL (⟨xa, (k : Int), xi⟩ :: l.drop (i + 1)) = (q0 ++ List.replicate k ⟨2, xa, 0⟩) ++ putsE xa xi) := by rw [Hid, HOC.out, HOE.out, List.append_assoc]
          generalize q0 ++ List.replicate k (⟨2, xa, 0⟩ : Op) = q1 at *
          have hcvx := fun W => hcv W (S xi)
          have hby := BtAt.new_ wr (S xi)
          rw [L_S] at hby
          have hbw := bytesWorld_below wr 5 (S xi)
          have HSZ : Hid ((S xi).size = xi.length) := S_size xi
          have hsz : (S xi).size ≤ 40 := by rw [HSZ.out]; omega
          have HO1 := Lib.hid (own_below HO.out hbw)
          have hb1 := hb.trans (hbw.mono hbs)
          have HBY := Lib.hid hby
          clear HO hby c0
          go_wp2_with fail
          clear hcvx
          generalize Lib.bytesWorld wr 5 (S xi) = w1 at *
          generalize wr.heap.size = gb at *
          go_loopw [3, 38] (fun ov kv wq => ∃ q : Nat, q ≤ xi.length ∧ kv = .int .i64 (q : Int) ∧ Hid (wq.ownsRow w.heap.size 43 3 ov (q1 ++ putsE xa (xi.take q)).length (opCells (q1 ++ putsE xa (xi.take q)))) ∧ BtAt wq gb xi ∧ Below w.heap.size w wq) (fun _ kv _ => (S xi).size - (intOf kv).toNat)
          case atStart => exact ⟨0, Nat.zero_le _, rfl, by rw [Hid]; simpa [putsE] using HO1.out, HBY.out, hb1⟩
          case round =>
            clear HO1 HBY hb1 hb hbs hbw c2'
            obtain ⟨q, hq, rfl, HO, hby, hb⟩ := hrel
            have hbs := hb.size
            by_cases hqt : q < xi.length
            · have g3 : decide ((q : Int) < ((S xi).size : Int)) = true := decide_eq_true (by rw [HSZ.out]; omega)
              have g3' : decide (q < (S xi).size) = true := decide_eq_true (by rw [HSZ.out]; exact hqt)
              have cb := hby.cell hqt
              obtain ⟨c0, _⟩ := HC.out _ hb
              have HSN : Hid (q1 ++ putsE xa (xi.take (q + 1)) = (q1 ++ putsE xa (xi.take q)) ++ [(⟨1, xa + q, ((xi.getD q 0).toNat : Int)⟩ : Op)]) := by rw [Hid, putsE_take hqt, List.append_assoc]
              have hql : (q1 ++ putsE xa (xi.take q)).length ≤ 6000 := by rw [List.length_append, putsE_len, List.length_take]; omega
              generalize q1 ++ putsE xa (xi.take q) = qq at *
              generalize xi.getD q 0 = b at *
              have hown := HO.out.alloc (.cells #[.int .i64 1, .int .i64 (xa + (q : Int)), .int .u8 (b.toNat : Int)] 43)
              have hnew := cells_new3 wr (.int .i64 1) (.int .i64 (xa + (q : Int))) (.int .u8 (b.toNat : Int)) 43
              have HBY := Lib.hid (hby.alloc (.cells #[.int .i64 1, .int .i64 (xa + (q : Int)), .int .u8 (b.toNat : Int)] 43))
              clear HO hby
              go_wp2_with (at_builtin; go_must (refine wpList_appG rfl _ _ _ rfl w.heap.size 43 i0 _ 3 24 Try.underlying35 hi0 hz0 hz1 hz2 rfl (by omega) u3 qq.length (opCells qq) rfl hown ⟨wr.heap.size, 0, none⟩ 1 1 [.int .i64 1, .int .i64 (xa + (q : Int)), .int .u8 (b.toNat : Int)] rfl rfl hnew (by simp [Value.oneCell']) (by omega) (by omega) (by simp; omega) ?_); intro v6 w6 hown6 hg6 hb6)
              have HN : Hid (w6.ownsRow w.heap.size 43 3 v6 (qq ++ [(⟨1, xa + q, (b.toNat : Int)⟩ : Op)]).length (opCells (qq ++ [(⟨1, xa + q, (b.toNat : Int)⟩ : Op)]))) := by rw [Hid, opCells_append, opCells_one1, List.length_append]; exact hown6
              have hby6 := HBY.out.kept hg6 (HBY.out.ne_own hown (by decide))
              have hb7 : Below w.heap.size w w6 := (hb.alloc hbs _).trans hb6
              clear hown6 hown hnew hg6
              go_roundw
              case rel => exact ⟨q + 1, by omega, by go_num, by rw [HSN.out]; exact HN.out, hby6, hb7⟩
              case measure => simp [intOf]; have := HSZ.out; omega
            · have g3 : decide ((q : Int) < ((S xi).size : Int)) = false := decide_eq_false (by rw [HSZ.out]; omega)
              have g3' : decide (q < (S xi).size) = false := decide_eq_false (by rw [HSZ.out]; omega)
              have hqe : q = xi.length := by omega
              subst hqe
              rw [List.take_length, ← HBASE.out, ← HDR.out] at HO
              clear hby
              go_wp2_with fail
              go_roundw
              case rel => exact ⟨i, (i : Int) - 1, by omega, rfl, by omega, HO, hb⟩
              case measure => simp [intOf]
set_option maxRecDepth 100000 in
set_option maxHeartbeats 4000000 in
theorem typed_any (s : ByteArray) (l : List Op) (A : Option Addr) (m c B : Nat) (w : World) (hr : Rd w B 3 A m (opCells l)) (hB : B ≤ w.heap.size) (hm : m ≤ 1000000) (hg : GoOk s.size l) (hbt : ∀ x ∈ l, 0 ≤ x.b ∧ x.b < 256) :
    Calls Try.prog 16 #[.string s, .slice A m c] w fun e w' => e = .returned (.tuple #[.string (S (doAll (L s) l)), .bool true]) ∧ Below w.heap.size w w' := by
  have hll := Rd.rec_len op_len (by omega) hr
  have HR := Lib.hid hr
  have HLL := Lib.hid hll
  have HBT := Lib.hid hbt
  have HG := Lib.hid hg
  clear hr hll hbt hg
  go_enter Try.func16, Try.ntmps16
  go_wp2_with fail
  go_loopw [0, 12] (fun tv kv wr => ∃ (k : Nat) (t : ByteArray), k ≤ m ∧ kv = .int .i64 (k : Int) ∧ tv = .string t ∧ Hid (doAll (L t) (l.drop k) = doAll (L s) l) ∧ Hid (GoOk t.size (l.drop k)) ∧ Below w.heap.size w wr) (fun _ kv _ => m - (intOf kv).toNat)
  case atStart => exact ⟨0, s, Nat.zero_le _, rfl, rfl, rfl, HG.out, Below.refl _ _⟩
  case round =>
    obtain ⟨k, t, hk, rfl, rfl, HD, HGK, hb⟩ := hrel
    have hbs := hb.size
    by_cases hlt : k < m
    · have g1 : decide ((k : Int) < (m : Int)) = true := decide_eq_true (by omega)
      have g1' : decide (k < m) = true := decide_eq_true hlt
      obtain ⟨ad, hkl, rfl, _, c0, c1, c2⟩ := (HR.out.below (hb.mono hB)).at_op hlt
      have HDR : Hid (l.drop k = l[k] :: l.drop (k + 1)) := List.drop_eq_getElem_cons hkl
      have hbx := HBT.out _ (List.getElem_mem hkl)
      generalize l[k] = x at *
      rw [HDR.out] at HD HGK
      obtain ⟨hE, hG2⟩ := GoOk.head HGK.out
      have HE := Lib.hid (fun W => shDo_any t x hbx.1 hbx.2 W hE)
      have hv : vld t.size x := (vld_of_err hE).1
      have HD2 : Hid (doAll (L (doB t x)) (l.drop (k + 1)) = doAll (L s) l) := by rw [Hid, doB_L, ← doAll_cons]; exact HD.out
      have HG2 : Hid (GoOk (doB t x).size (l.drop (k + 1))) := by
        have h1 := doL_len (s := L t) (x := x) (by rw [L_len]; exact hv)
        rw [← doB_L, L_len, L_len] at h1
        rw [Hid, h1]; exact hG2
      clear hE hG2 hv HD HGK
      obtain ⟨xk, xp, xb⟩ := x
      generalize doB t ⟨xk, xp, xb⟩ = t2 at *
      have hbx2 := Blk.new_ wr 43 #[.int .i64 xk, .int .i64 xp, .int .u8 xb]
      have HE2 : Hid (∀ W, Calls Try.prog 43 #[.string t, .agg #[.int .i64 xk, .int .i64 xp, .int .u8 xb]] W fun e w' => e = .returned (.tuple #[.string t2, .int .i64 0]) ∧ Below W.heap.size W w') := HE.out
      have hbA : Below w.heap.size w (wr.alloc (.cells #[.int .i64 xk, .int .i64 xp, .int .u8 xb] 43)) := hb.alloc hbs _
      have c0 : wr.cell? (ad.add (k * 3)) = some (.int .i64 xk) := c0
      have c1 : wr.cell? ⟨(ad.add (k * 3)).block, (ad.add (k * 3)).off + 1, none⟩ = some (.int .i64 xp) := c1
      have c2 : wr.cell? ⟨(ad.add (k * 3)).block, (ad.add (k * 3)).off + 2, none⟩ = some (.int .u8 xb) := c2
      clear HE hbx2
      go_wp2_with fail
      refine (HE2.out _).mono ?_
      rintro e w3 ⟨rfl, hb3⟩
      have hb4 := bthen hbA hb3
      go_wp2_with fail
      go_roundw
      case rel => exact ⟨k + 1, t2, by omega, by go_num, rfl, HD2.out, HG2.out, hb4⟩
      case measure => simp [intOf]; omega
    · obtain rfl : k = m := by omega
      have g1 : decide ((k : Int) < (k : Int)) = false := decide_eq_false (by omega)
      have g1' : decide (k < k) = false := decide_eq_false hlt
      have HV : Hid (S (doAll (L s) l) = t) := by
        have h := HD.out
        rw [List.drop_of_length_le (by rw [HLL.out]; exact Nat.le_refl _)] at h
        rw [Hid, ← h]; exact S_L t
      clear HD HGK
      go_wp2_with fail
      go_ret2
      rw [HV.out]
      exact ⟨rfl, hb⟩
end Go.Proofs.Ytllcmmpepchieaa
