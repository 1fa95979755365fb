/- The bytes behind '[]byte(s)', beside a row that grows. quilltop.ops and typed. slices.Index, Contains at edits; ContainsFunc with the law's closure. -/
import Derived.Test.YtmikckhihfcooaaPk05
import Derived.Lib.ConvBytes
import Derived.Test.YtmikckhihfcooaaPk17
namespace Go.Proofs.Ytmikckhihfcooaa
open Go.RowKit
def BtAt (w : World) (g : Nat) (l : List UInt8) : Prop := ∃ cs q, w.heap[g]? = some (.cells cs 5 q) ∧ ∀ j, j < l.length → cs[j]? = some (.int .u8 ((l.getD j 0).toNat : Int))
section
variable {w w' : World} {g : Nat} {l : List UInt8}
theorem BtAt.lt (h : BtAt w g l) : g < w.heap.size := by
  obtain ⟨cs, q, h, _⟩ := h
  exact (Array.getElem?_eq_some_iff.1 h).1
theorem BtAt.cell (h : BtAt w g l) {j : Nat} (hj : j < l.length) : w.cell? ⟨g, j, none⟩ = some (.int .u8 ((l.getD j 0).toNat : Int)) := by
  obtain ⟨cs, q, h, hc⟩ := h
  rw [cell_of_row w g j cs 5 q h]
  exact hc j hj
theorem BtAt.kept {row : Option Nat} (h : BtAt w g l) (hg : w.grownBy w' row) (hne : some g ≠ row) : BtAt w' g l := by
  have hl := h.lt
  obtain ⟨cs, q, h, hc⟩ := h
  exact ⟨cs, q, (hg.block g hl hne).trans h, hc⟩
theorem BtAt.below (h : BtAt w g l) (hb : Below w.heap.size w w') : BtAt w' g l := h.kept (gb_of_below hb none) (by simp)
theorem BtAt.alloc (h : BtAt w g l) (o : Obj) : BtAt (w.alloc o) g l := h.below ((Below.refl _ _).alloc (Nat.le_refl _) _)
theorem BtAt.ne_own (h : BtAt w g l) {base size n : Nat} {e : TypeId} {v : Value} {xs : List Value} (ho : w.ownsRow base e size v n xs) (hne : e ≠ 5) : some g ≠ v.ownBlock := by
  obtain ⟨cs, q, h, _⟩ := h
  rcases ho.2 with ⟨rfl, _⟩ | ⟨g', cap, cur, rfl, _, hh, _⟩
  · simp [Value.ownBlock]
  · intro he
    simp only [Value.ownBlock, Option.some.injEq] at he
    subst he
    rw [hh] at h
    injection h with h
    injection h with _ ht _
    exact hne ht
theorem BtAt.new_ (w : World) (s : ByteArray) : BtAt (Lib.bytesWorld w 5 s) w.heap.size (L s) := by
  refine ⟨_, _, Lib.bytesWorld_at_new w 5 s, fun j hj => ?_⟩
  have h := Lib.bytesWorld_cell w 5 s j (by rw [L_len] at hj; exact hj)
  rw [cell_of_row _ _ j _ 5 _ (Lib.bytesWorld_at_new w 5 s)] at h
  exact h
end
end Go.Proofs.Ytmikckhihfcooaa
namespace Go.Proofs.Ytmikckhihfcooaa
open Go.RowKit
theorem opCells_one1 (x : Op) : opCells [x] = [.int .i64 x.kind, .int .i64 x.pos, .int .u8 x.b] := rfl
theorem opsE_long {x : Ed} (h : 0 ≤ x.del ∧ x.del ≤ 200 ∧ x.ins.length ≤ 40) : (opsE x).length ≤ 240 := by rw [opsE_len]; omega
theorem opsL_long : ∀ {l : List Ed}, (∀ x ∈ l, 0 ≤ x.del ∧ x.del ≤ 200 ∧ x.ins.length ≤ 40) → (opsL l).length ≤ 240 * l.length
  | [], _ => by simp [opsL, opsR]
  | x :: l, h => by
    rw [opsL_cons, List.length_append, List.length_cons]
    have h1 := opsE_long (h x List.mem_cons_self)
    have h2 := opsL_long fun y hy => h y (List.mem_cons_of_mem _ hy)
    omega
theorem ed_bd2 {n : Int} {l : List Ed} (h : edErr n l = 0) : l.length ≤ 20 ∧ ∀ x ∈ l, 0 ≤ x.at_ ∧ x.at_ ≤ 200 ∧ 0 ≤ x.del ∧ x.del ≤ 200 ∧ x.ins.length ≤ 40 := by
  obtain ⟨h0, h1, h2, h3, h4⟩ := edErr_zero.1 h
  refine ⟨h2, fun x hx => ?_⟩
  have := h3.mem x hx
  omega
theorem putsE_take {l : List UInt8} {q : Nat} (h : q < l.length) (p : Int) : putsE p (l.take (q + 1)) = putsE p (l.take q) ++ [⟨1, p + q, ((l.getD q 0).toNat : Int)⟩] := by
  rw [List.take_add_one, List.getElem?_eq_getElem h]
  show putsE p (l.take q ++ [l[q]]) = _
  rw [putsE_snoc, List.length_take, Nat.min_eq_left (by omega), List.getD_eq_getElem?_getD, List.getElem?_eq_getElem h]; rfl
end Go.Proofs.Ytmikckhihfcooaa
namespace Go.Proofs.Ytmikckhihfcooaa
open Go.RowKit
set_option maxRecDepth 100000 in
set_option maxHeartbeats 2000000 in
theorem edIndex_any (l : List Ed) (x : Ed) (A : Option Addr) (m c B : Nat) (w : World) (hr : Rd w B 3 A m (edCells l)) (hB : B ≤ w.heap.size) (hm : m ≤ 9223372036854775807) :
    Calls Try.prog 26 #[.slice A m c, .agg #[.int .i64 x.at_, .int .i64 x.del, .string (S x.ins)]] w fun e w' => ∃ i : Int, e = .returned (.int .i64 i) ∧ decide (0 ≤ i) = decide (x ∈ l) ∧ Below w.heap.size w w' := by
  have hlen := Rd.rec_len ed_len (by omega) hr
  have HR := Lib.hid hr; clear hr
  have HL := Lib.hid hlen; clear hlen
  obtain ⟨xa, xd, xi⟩ := x
  have HB0 : Hid (Below w.heap.size w (w.alloc (.cells #[.int .i64 xa, .int .i64 xd, .string (S xi)] 30))) := (Below.refl _ _).alloc (Nat.le_refl _) _
  have hbk := Blk.new_ w 30 #[.int .i64 xa, .int .i64 xd, .string (S xi)]
  have HBK := Lib.hid hbk
  clear hbk
  go_enter Try.func26, Try.ntmps26
  go_wp2_with fail
  generalize w.alloc (.cells #[.int .i64 xa, .int .i64 xd, .string (S xi)] 30) = wb at *
  obtain ⟨g, hg⟩ : ∃ g, w.heap.size = g := ⟨_, rfl⟩
  rw [hg] at HBK ⊢
  have HG := Lib.hid hg
  clear hg
  go_loopw [8] (fun i wr => ∃ k : Nat, k ≤ m ∧ Hid (⟨xa, xd, xi⟩ ∉ l.take k) ∧ i = .int .i64 k ∧ Below wb.heap.size wb wr) (fun i _ => m - (intOf i).toNat)
  case atStart => exact ⟨0, Nat.zero_le _, (by rw [Hid, List.take_zero]; exact List.not_mem_nil), rfl, Below.refl _ _⟩
  case round =>
    obtain ⟨k, hk, HN, rfl, hb⟩ := hrel
    have hbs := hb.size
    have hBK := HBK.out.below' hb
    have k0 := hBK.cell0
    have k1 := hBK.cell1
    have k2 := hBK.cell2
    clear hBK
    by_cases hlt : k < m
    · have g1 : decide ((k : Int) < (m : Int)) = true := decide_eq_true (by omega)
      have g1' : decide (k < m) = true := decide_eq_true hlt
      obtain ⟨ad, hl, rfl, hab, c0, c1, c2⟩ := (HR.out.below ((HB0.out.mono hB).trans (hb.mono (Nat.le_trans hB HB0.out.size)))).at_ed hlt
      have HTK : Hid (l.take (k + 1) = l.take k ++ [l[k]]) := by rw [Hid, List.take_add_one, List.getElem?_eq_getElem hl]; rfl
      have HMM : Hid (l[k] ∈ l) := List.getElem_mem hl
      generalize l[k] = y at *
      obtain ⟨ya, yd, yi⟩ := y
      simp only at c0 c1 c2
      have HSE : Hid ((S xi).toList = (S yi).toList ↔ xi = yi) := by rw [Hid, ByteArray.toList_eq, ByteArray.toList_eq]; exact Iff.rfl
      have HEQ : Hid ((⟨xa, xd, xi⟩ : Ed) = ⟨ya, yd, yi⟩ ↔ (xa = ya ∧ xd = yd ∧ xi = yi)) := by rw [Hid, Ed.mk.injEq]
      generalize S xi = X at *
      generalize S yi = Y at *
      have HNO : Hid (¬ (xa = ya ∧ xd = yd ∧ X.toList = Y.toList) → (⟨xa, xd, xi⟩ : Ed) ∉ l.take (k + 1)) := by
        intro hne
        rw [HTK.out]
        intro h
        rcases List.mem_append.1 h with h | h
        · exact HN.out h
        · have h2 := HEQ.out.1 (List.mem_singleton.1 h)
          exact hne ⟨h2.1, h2.2.1, HSE.out.2 h2.2.2⟩
      clear HTK HN
      by_cases h1 : xa = ya
      · by_cases h2 : xd = yd
        · by_cases h3 : X.toList = Y.toList
          · have HV : Hid (decide ((⟨xa, xd, xi⟩ : Ed) ∈ l) = true) := decide_eq_true (by rw [HEQ.out.2 ⟨h1, h2, HSE.out.1 h3⟩]; exact HMM.out)
            have g2 : (X.toList == Y.toList) = true := by rw [beq_iff_eq]; exact h3
            subst h1
            subst h2
            have hbf : Below w.heap.size w (wr.drewN 0) := HB0.out.trans (hb.mono HB0.out.size)
            clear HEQ HNO HMM h3
            go_wp2_with fail
            go_quiet (fail)
            go_wp2_with fail
            go_ret
            exact ⟨_, rfl, by rw [HV.out]; exact decide_eq_true (by omega), below_drewN hbf _⟩
          · have g2 : (X.toList == Y.toList) = false := by rw [beq_eq_false_iff_ne]; exact h3
            have HV := Lib.hid (HNO.out fun h => h3 h.2.2)
            subst h1
            subst h2
            clear HEQ HNO HMM h3
            go_wp2_with fail
            go_quiet (fail)
            go_wp2_with fail
            go_roundw
            case rel => exact ⟨k + 1, by omega, HV.out, by go_num, below_drewN hb _⟩
            case measure => simp [intOf]; omega
        · have g2 : (xd == yd) = false := by rw [beq_eq_false_iff_ne]; exact h2
          have HV := Lib.hid (HNO.out fun h => h2 h.2.1)
          subst h1
          clear HEQ HNO HMM h2
          go_wp2_with fail
          go_quiet (fail)
          go_wp2_with fail
          go_roundw
          case rel => exact ⟨k + 1, by omega, HV.out, by go_num, below_drewN hb _⟩
          case measure => simp [intOf]; omega
      · have g2 : (xa == ya) = false := by rw [beq_eq_false_iff_ne]; exact h1
        have HV := Lib.hid (HNO.out fun h => h1 h.1)
        clear HEQ HNO HMM h1
        go_wp2_with fail
        go_quiet (fail)
        go_wp2_with fail
        go_roundw
        case rel => exact ⟨k + 1, by omega, HV.out, by go_num, below_drewN hb _⟩
        case measure => simp [intOf]; omega
    · obtain rfl : k = m := by omega
      have g1 : decide ((k : Int) < (k : Int)) = false := decide_eq_false (by omega)
      have g1' : decide (k < k) = false := decide_eq_false hlt
      have HV : Hid (decide ((⟨xa, xd, xi⟩ : Ed) ∈ l) = false) := decide_eq_false (by have h := HN.out; rwa [List.take_of_length_le (by rw [HL.out]; exact Nat.le_refl _)] at h)
      have hbf : Below w.heap.size w wr := HB0.out.trans (hb.mono HB0.out.size)
      go_wp2_with fail
      go_ret
      exact ⟨-1, rfl, by rw [HV.out]; rfl, by first | exact hbf | (rw [← HG.out]; exact hbf)⟩
set_option maxHeartbeats 1000000 in
theorem edContains_any (l : List Ed) (x : Ed) (A : Option Addr) (m c B : Nat) (w : World) (hr : Rd w B 3 A m (edCells l)) (hB : B ≤ w.heap.size) (hm : m ≤ 9223372036854775807) :
    Calls Try.prog 22 #[.slice A m c, .agg #[.int .i64 x.at_, .int .i64 x.del, .string (S x.ins)]] w fun e w' => e = .returned (.bool (decide (x ∈ l))) ∧ Below w.heap.size w w' := by
  have hb0 : Below w.heap.size w (w.alloc (.cells #[.int .i64 x.at_, .int .i64 x.del, .string (S x.ins)] 30)) := (Below.refl _ _).alloc (Nat.le_refl _) _
  have HIX := Lib.hid (edIndex_any l x A m c B _ (hr.below (hb0.mono hB)) (Nat.le_trans hB hb0.size) hm)
  have HB0 := Lib.hid hb0
  clear hr hb0
  generalize decide (x ∈ l) = r at *
  obtain ⟨xa, xd, xi⟩ := x
  go_enter Try.func22, Try.ntmps22
  go_wp2_with fail
  refine HIX.out.mono ?_
  rintro e w1 ⟨i, rfl, hi, hb1⟩
  have HI := Lib.hid hi
  clear hi
  go_wp2_with fail
  go_ret
  exact ⟨ret_bool HI.out, bthen HB0.out hb1⟩
def anyIn (a b : List Ed) : Bool := a.any fun x => decide (x ∈ b)
end Go.Proofs.Ytmikckhihfcooaa
