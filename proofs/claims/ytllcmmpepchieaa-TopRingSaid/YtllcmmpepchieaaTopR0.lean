/- The lines of few signs: LYNDON words, and each word stands in its ring once: reckoned out, for there are few. -/
import Derived.Test.YtllcmmpepchieaaRing1
import Derived.Test.YtllcmmpepchieaaSeek0
import Derived.Test.YtllcmmpepchieaaTrn0
import Derived.Test.YtllcmmpepchieaaTop0
import Derived.Test.YtllcmmpepchieaaTrnB0
import Derived.Test.YtllcmmpepchieaaRingW
import Derived.Test.YtllcmmpepchieaaSeekA
namespace Go.Proofs.Ytllcmmpepchieaa
def wideL (k n : Nat) : List UInt8 := (lineR k n ++ lineR k n).take ((lineR k n).length + n - 1)
def onceB (k n : Nat) : Bool := (allW k n).all fun p => eqT (lineR k n) p == 1
def foundB (k n : Nat) : Bool := (allW k n).all fun p => (finds (wideL k n) p (lineR k n).length).length == 1
def lineB (k n : Nat) : Bool := lynB (lineR k n) && ((lineR k n).length == k ^ n)
theorem top_2 : ((List.range 7).all fun n => lineB 2 (n + 1) && onceB 2 (n + 1) && foundB 2 (n + 1)) = true := by kernel_rfl
theorem top_3 : ((List.range 4).all fun n => lineB 3 (n + 1) && onceB 3 (n + 1) && foundB 3 (n + 1)) = true := by kernel_rfl
theorem top_4 : ((List.range 3).all fun n => lineB 4 (n + 1) && onceB 4 (n + 1) && foundB 4 (n + 1)) = true := by kernel_rfl
theorem top_len : (decide (150 < (lineR 3 5).length) && decide (150 < (lineR 4 4).length) && decide ((lineR 3 5).length ≤ 512) && decide ((lineR 4 4).length ≤ 512)) = true := by kernel_rfl
structure LineOk (k n : Nat) : Prop where
  lyn : lynB (lineR k n) = true
  len : (lineR k n).length = k ^ n
  once : ∀ p ∈ allW k n, eqT (lineR k n) p = 1
  found : ∀ p ∈ allW k n, (finds (wideL k n) p (lineR k n).length).length = 1
theorem lineOk_of {k n : Nat} (h : (lineB k n && onceB k n && foundB k n) = true) : LineOk k n := by
  simp only [Bool.and_eq_true] at h
  obtain ⟨⟨h1, h2⟩, h3⟩ := h
  unfold lineB at h1
  rw [Bool.and_eq_true, beq_iff_eq] at h1
  exact ⟨h1.1, h1.2, fun p hp => by have := List.all_eq_true.1 h2 p hp; simpa using this, fun p hp => by have := List.all_eq_true.1 h3 p hp; simpa using this⟩
theorem run_of {k n : Nat} (h : okB k n = true) : lineRun n (sg (k - 1)) 600 [97] [] = some (lineR k n) := by
  simp only [okB, Bool.and_eq_true, beq_iff_eq] at h
  exact h.2
/-- What is so of each pair: it is too large, or its line is too long for the law, or all is well. -/
theorem top_cases {k n : Nat} (hk2 : 2 ≤ k) (hk4 : k ≤ 4) (hn1 : 1 ≤ n) (hn7 : n ≤ 7) :
    512 < kp k n ∨ (kp k n ≤ 512 ∧ lineRun n (sg (k - 1)) 600 [97] [] = some (lineR k n) ∧ (lineR k n).length ≤ 512 ∧ 150 < (lineR k n).length) ∨
      (kp k n ≤ 512 ∧ lineRun n (sg (k - 1)) 600 [97] [] = some (lineR k n) ∧ (lineR k n).length ≤ 150 ∧ n ≤ (lineR k n).length ∧ LineOk k n) := by
  have hT := top_len
  simp only [Bool.and_eq_true, decide_eq_true_eq] at hT
  have o2 := fun n (h : n < 9) => run_of (List.all_eq_true.1 ok_2 n (List.mem_range.2 h))
  have o3 := fun n (h : n < 5) => run_of (List.all_eq_true.1 ok_3 n (List.mem_range.2 h))
  have o4 := fun n (h : n < 4) => run_of (List.all_eq_true.1 ok_4 n (List.mem_range.2 h))
  have t2 := fun n (h : n < 7) => lineOk_of (List.all_eq_true.1 top_2 n (List.mem_range.2 h))
  have t3 := fun n (h : n < 4) => lineOk_of (List.all_eq_true.1 top_3 n (List.mem_range.2 h))
  have t4 := fun n (h : n < 3) => lineOk_of (List.all_eq_true.1 top_4 n (List.mem_range.2 h))
  obtain ⟨m, rfl⟩ : ∃ m, n = m + 1 := ⟨n - 1, by omega⟩
  have hk : k = 2 ∨ k = 3 ∨ k = 4 := by omega
  rcases hk with rfl | rfl | rfl
  · right; right
    have hm : m < 7 := by omega
    have h := t2 m hm
    have hl := h.len
    have hp : 2 ^ (m + 1) ≤ 2 ^ 7 := Nat.pow_le_pow_right (by omega) (by omega)
    have hq : m + 1 ≤ 2 ^ (m + 1) := Nat.le_of_lt Nat.lt_two_pow_self
    exact ⟨by show 2 ^ (m + 1) ≤ 512; omega, o2 m (by omega), by omega, by omega, h⟩
  · rcases Nat.lt_or_ge m 4 with hm | hm
    · right; right
      have h := t3 m hm
      have hl := h.len
      have hp : 3 ^ (m + 1) ≤ 3 ^ 4 := Nat.pow_le_pow_right (by omega) (by omega)
      have hq : m + 1 ≤ 3 ^ (m + 1) := Nat.le_of_lt (Nat.lt_pow_self (by omega))
      exact ⟨by show 3 ^ (m + 1) ≤ 512; omega, o3 m (by omega), by omega, by omega, h⟩
    · rcases Nat.lt_or_ge m 5 with hm5 | hm5
      · obtain rfl : m = 4 := by omega
        right; left
        exact ⟨by show 3 ^ 5 ≤ 512; omega, o3 4 (by omega), hT.1.2, hT.1.1.1⟩
      · left
        have hp : 3 ^ 6 ≤ 3 ^ (m + 1) := Nat.pow_le_pow_right (by omega) (by omega)
        show 512 < 3 ^ (m + 1)
        omega
  · rcases Nat.lt_or_ge m 3 with hm | hm
    · right; right
      have h := t4 m hm
      have hl := h.len
      have hp : 4 ^ (m + 1) ≤ 4 ^ 3 := Nat.pow_le_pow_right (by omega) (by omega)
      have hq : m + 1 ≤ 4 ^ (m + 1) := Nat.le_of_lt (Nat.lt_pow_self (by omega))
      exact ⟨by show 4 ^ (m + 1) ≤ 512; omega, o4 m (by omega), by omega, by omega, h⟩
    · rcases Nat.lt_or_ge m 4 with hm4 | hm4
      · obtain rfl : m = 3 := by omega
        right; left
        exact ⟨by show 4 ^ 4 ≤ 512; omega, o4 3 (by omega), hT.2, hT.1.1.2⟩
      · left
        have hp : 4 ^ 5 ≤ 4 ^ (m + 1) := Nat.pow_le_pow_right (by omega) (by omega)
        show 512 < 4 ^ (m + 1)
        omega
theorem mem_allW {k : Nat} : ∀ {n : Nat} {p : List UInt8}, p.length = n → (∀ x ∈ p, ∃ d, d < k ∧ x = sg d) → p ∈ allW k n := by
  intro n
  induction n with
  | zero => intro p hp _; rw [List.eq_nil_of_length_eq_zero hp]; exact List.mem_singleton.2 rfl
  | succ n ih =>
    intro p hp hx
    have e : p = p.take n ++ [p[n]'(by omega)] := by
      conv => lhs; rw [← List.take_append_drop n p]
      rw [List.drop_eq_getElem_cons (by omega), List.drop_of_length_le (by omega)]
    obtain ⟨d, hd, hde⟩ := hx (p[n]'(by omega)) (List.getElem_mem _)
    rw [hde] at e
    rw [allW, List.mem_flatMap]
    refine ⟨p.take n, ih (by rw [List.length_take]; omega) (fun x h => hx x (List.mem_of_mem_take h)), ?_⟩
    rw [List.mem_map]
    exact ⟨d, List.mem_range.2 hd, e.symm⟩
open Go.RowKit
/-- The bytes behind '[]byte(s)', which may be written. -/
def BM (w : World) (g n : Nat) (l : List UInt8) : Prop := ∃ cs q, w.heap[g]? = some (.cells cs 5 (q, q + 1)) ∧ n ≤ q ∧ q ≤ cs.size ∧ l.length = n ∧ ∀ j, j < n → cs[j]? = some (.int .u8 ((l.getD j 0).toNat : Int))
section
variable {w w' : World} {g n : Nat} {l : List UInt8}
theorem BM.lt (h : BM w g n l) : g < w.heap.size := by
  obtain ⟨cs, q, h, _⟩ := h
  exact (Array.getElem?_eq_some_iff.1 h).1
theorem BM.cell (h : BM w g n l) {j : Nat} (hj : j < n) : w.cell? ⟨g, j, none⟩ = some (.int .u8 ((l.getD j 0).toNat : Int)) := by
  obtain ⟨cs, q, h, _, _, _, h2⟩ := h
  rw [cell_of_row _ _ j _ _ _ h]; exact h2 j hj
theorem BM.frozen (h : BM w g n l) {j : Nat} (hj : j < n) : w.frozen? ⟨g, j, none⟩ = false := by
  obtain ⟨cs, q, h, h1, _⟩ := h
  simp [World.frozen?, h]
  omega
theorem BM.set_ (h : BM w g n l) {j : Nat} (hj : j < n) (b : UInt8) : BM (w.setCell ⟨g, j, none⟩ (.int .u8 (b.toNat : Int))) g n (l.set j b) := by
  obtain ⟨cs, q, h, h1, h3, h4, h2⟩ := h
  refine ⟨cs.setIfInBounds j (.int .u8 (b.toNat : Int)), q, by simp [World.setCell, Array.getElem?_modify, h], h1, by simpa using h3, by simpa using h4, fun i hi => ?_⟩
  rw [Array.getElem?_setIfInBounds]
  by_cases e : j = i
  · subst e
    rw [if_pos rfl, if_pos (by omega), List.getD_eq_getElem?_getD, List.getElem?_set_self (by omega)]; rfl
  · rw [if_neg e, h2 i hi, List.getD_eq_getElem?_getD, List.getD_eq_getElem?_getD, List.getElem?_set_ne e]
theorem BM.below (h : BM w g n l) (hb : Below w.heap.size w w') : BM w' g n l := by
  have hl := h.lt
  obtain ⟨cs, q, h, h1⟩ := h
  exact ⟨cs, q, (hb.block g hl).trans h, h1⟩
theorem BM.rd (h : BM w g n l) : Rd w (g + 1) 1 (some ⟨g, 0, none⟩) n (byteCells l) := by
  have hl : l.length = n := by obtain ⟨_, _, _, _, _, h4, _⟩ := h; exact h4
  refine ⟨by simp [byteCells, hl], fun _ => ⟨_, rfl, Nat.lt_succ_self _, fun j u hu => ?_⟩⟩
  have hj : j < n := by
    have := (List.getElem?_eq_some_iff.1 hu).1
    simp [byteCells] at this; omega
  have e : Addr.add ⟨g, 0, none⟩ j = ⟨g, j, none⟩ := by
    simp [Addr.add]
    intro h0; omega
  rw [e, h.cell hj, ← hu, byteCells, List.getElem?_map, List.getD_eq_getElem?_getD, List.getElem?_eq_getElem (by omega)]; rfl
theorem BM.new_ (w : World) (s : ByteArray) : BM (Lib.bytesWorld w 5 s) w.heap.size s.size (L s) := by
  refine ⟨_, _, Lib.bytesWorld_at_new w _ s, ?_, Nat.le_refl _, L_len s, fun j hj => ?_⟩
  · rcases Nat.eq_zero_or_pos s.size with h0 | h0
    · omega
    · have h1 := Lib.bytesWorld_cell w 5 s (s.size - 1) (by omega)
      rw [cell_of_row _ _ _ _ _ _ (Lib.bytesWorld_at_new w _ s)] at h1
      have := (Array.getElem?_eq_some_iff.1 h1).1
      omega
  · have h1 := Lib.bytesWorld_cell w 5 s j hj
    rwa [cell_of_row _ _ j _ _ _ (Lib.bytesWorld_at_new w _ s)] at h1
end
def pF (wb : List UInt8) (k n i : Nat) : List UInt8 := (List.range n).map fun j => if j < i ∧ j < wb.length then sg ((wb.getD j 0).toNat % k) else 97
theorem pF_len (wb : List UInt8) (k n i : Nat) : (pF wb k n i).length = n := by simp [pF]
theorem pF_at {wb : List UInt8} {k n i j : Nat} (hj : j < n) : (pF wb k n i).getD j 0 = if j < i ∧ j < wb.length then sg ((wb.getD j 0).toNat % k) else 97 := by
  unfold pF
  rw [List.getD_eq_getElem?_getD, List.getElem?_map, List.getElem?_range hj]; rfl
theorem pF_zero (wb : List UInt8) (k n : Nat) : pF wb k n 0 = List.replicate n 97 := by
  apply List.ext_getElem
  · simp [pF]
  · intro j h1 h2; simp [pF]
theorem pF_set {wb : List UInt8} {k n i : Nat} (hw : i < wb.length) : (pF wb k n i).set i (sg ((wb.getD i 0).toNat % k)) = pF wb k n (i + 1) := by
  apply List.ext_getElem
  · simp [pF]
  · intro j h1 h2
    rw [List.getElem_set]
    simp only [pF, List.getElem_map, List.getElem_range]
    by_cases e : i = j
    · subst e; rw [if_pos rfl, if_pos ⟨by omega, hw⟩]
    · rw [if_neg e]
      by_cases h3 : j < i ∧ j < wb.length
      · rw [if_pos h3, if_pos ⟨by omega, h3.2⟩]
      · rw [if_neg h3, if_neg (by omega)]
theorem pF_stay {wb : List UInt8} {k n i : Nat} (hw : wb.length ≤ i) : pF wb k n (i + 1) = pF wb k n i := by
  unfold pF
  apply List.map_congr_left
  intro j _
  by_cases h3 : j < i ∧ j < wb.length
  · rw [if_pos h3, if_pos (by omega)]
  · rw [if_neg h3, if_neg (by omega)]
theorem pF_mem {wb : List UInt8} {k n i : Nat} (hk : 0 < k) : pF wb k n i ∈ allW k n := by
  refine mem_allW (pF_len _ _ _ _) fun x hx => ?_
  unfold pF at hx
  obtain ⟨j, _, rfl⟩ := List.mem_map.1 hx
  split
  · exact ⟨_, Nat.mod_lt _ hk, rfl⟩
  · exact ⟨0, hk, rfl⟩
theorem sg_val {d : Nat} (h : d < 100) : (sg d).toNat = 97 + d := by
  unfold sg
  rw [UInt8.toNat_add, UInt8.toNat_ofNat']
  show (97 + d % 256) % 256 = 97 + d
  omega
theorem lineLarge_any (k n : Nat) (hk2 : 2 ≤ k) (hk4 : k ≤ 4) (hn1 : 1 ≤ n) (hn7 : n ≤ 7) (h : 512 < kp k n) (w : World) :
    Calls Try.prog 27 #[.int .i64 (k : Int), .int .i64 (n : Int)] w fun e w' => e = .returned (.tuple #[.string ⟨#[]⟩, .int .i64 2]) ∧ Below w.heap.size w w' := by
  have HE : Hid (rErr (k : Int) (n : Int) = 2) := by
    unfold Hid rErr
    rw [if_neg (by omega), Int.toNat_natCast, Int.toNat_natCast, if_pos h]
  go_enter Try.func27, Try.ntmps27
  go_wp2_with fail
  refine (rCheck_any k n _).mono ?_
  rintro e w1 ⟨rfl, hb1⟩
  rw [HE.out]
  go_wp2_with fail
  go_ret2
  exact ⟨rfl, hb1⟩
theorem L_getDT {s : ByteArray} {k : Nat} (hk : k < s.size) : (L s).getD k 0 = s[k] := by
  rw [List.getD_eq_getElem?_getD, List.getElem?_eq_getElem (by rw [L_len]; exact hk)]; rfl
def strSzT : Value → Nat
  | .string t => t.size
  | _ => 0
set_option maxRecDepth 100000 in
set_option maxHeartbeats 16000000 in
theorem topRing_any (k0 n0 : Int) (s : ByteArray) (w : World) :
    Calls Try.prog 5 #[.int .i64 k0, .int .i64 n0, .string s] w fun e w' => e = .returned (.bool true) ∧ Below w.heap.size w w' := by
  have HW1 := Lib.hid (fun W => within_any k0 3 (by decide) (by decide) W)
  have HW2 := Lib.hid (fun W => within_any n0 7 (by decide) (by decide) W)
  have HWK := Lib.hid works_any
  go_enter Try.func5, Try.ntmps5
  go_wp2_with fail
  refine (HW1.out _).mono ?_
  rintro e w1 ⟨⟨r1, hr1, rfl⟩, rfl⟩
  go_wp2_with fail
  refine (HW2.out _).mono ?_
  rintro e w2 ⟨⟨r2, hr2, rfl⟩, rfl⟩
  obtain ⟨k, hk⟩ : ∃ k : Nat, (2 : Int) + (r1 : Int) = (k : Int) := ⟨2 + r1, by omega⟩
  obtain ⟨n, hn⟩ : ∃ n : Nat, (1 : Int) + (r2 : Int) = (n : Int) := ⟨1 + r2, by omega⟩
  have hk2 : 2 ≤ k := by omega
  have hk4 : k ≤ 4 := by omega
  have hn1 : 1 ≤ n := by omega
  have hn7 : n ≤ 7 := by omega
  go_wp2_with fail
  clear hk hn hr1 hr2 HW1 HW2
  rcases top_cases hk2 hk4 hn1 hn7 with hbig | ⟨hkp, hrun, h512, h150⟩ | ⟨hkp, hrun, h150, hnl, hok⟩
  · refine (lineLarge_any k n hk2 hk4 hn1 hn7 hbig _).mono ?_
    rintro e w3 ⟨rfl, hb3⟩
    go_wp2_with fail
    refine (HWK.out _).mono ?_
    rintro e w4 ⟨rfl, hb4⟩
    go_wp2_with fail
    refine (HWK.out _).mono ?_
    rintro e w5 ⟨rfl, hb5⟩
    go_wp2_with fail
    go_ret
    exact ⟨rfl, bthen hb3 (bthen hb4 hb5)⟩
  · have HS : Hid ((S (lineR k n)).size = (lineR k n).length) := S_size _
    have HLN := Lib.hid (fun W => line_any k n _ (by omega) (by omega) hn1 (by omega) hkp hrun W)
    have hz : 150 < (S (lineR k n)).size := by rw [HS.out]; exact h150
    have hz2 : (S (lineR k n)).size ≤ 512 := by rw [HS.out]; exact h512
    clear hrun h150 h512 HS
    generalize S (lineR k n) = R at *
    have g1 : decide ((150 : Int) < (R.size : Int)) = true := decide_eq_true (by omega)
    have g1' : decide (150 < R.size) = true := decide_eq_true hz
    refine (HLN.out _).mono ?_
    rintro e w3 ⟨rfl, hb3⟩
    go_wp2_with fail
    refine (HWK.out _).mono ?_
    rintro e w4 ⟨rfl, hb4⟩
    go_wp2_with fail
    refine (HWK.out _).mono ?_
    rintro e w5 ⟨rfl, hb5⟩
    go_wp2_with fail
    go_ret
    exact ⟨rfl, bthen hb3 (bthen hb4 hb5)⟩
  have HS : Hid ((S (lineR k n)).size = (lineR k n).length) := S_size _
  have HLS : Hid (L (S (lineR k n)) = lineR k n) := L_S _
  have HLN := Lib.hid (fun W => line_any k n _ (by omega) (by omega) hn1 (by omega) hkp hrun W)
  have hz : (S (lineR k n)).size ≤ 150 := by rw [HS.out]; exact h150
  have hzn : n ≤ (S (lineR k n)).size := by rw [HS.out]; exact hnl
  have HIS := Lib.hid (fun W => lynIs_any (S (lineR k n)) (by omega) W)
  have HPT := Lib.hid (fun W => turnPut_any (S (lineR k n)) (by omega) W)
  rw [HLS.out, hok.lyn] at HIS
  rw [HLS.out] at HPT
  have HOK := Lib.hid hok
  have HTZ : Hid ((S (turnL (lineR k n))).size = (S (lineR k n)).size) := by unfold Hid; rw [S_size, S_size, turnL_len]
  have HLT : Hid (L (S (turnL (lineR k n))) = turnL (lineR k n)) := L_S _
  clear hok hrun h150 hnl
  generalize S (lineR k n) = R at *
  obtain ⟨T, hT⟩ : ∃ T, S (turnL (lineR k n)) = T := ⟨_, rfl⟩
  rw [hT] at HPT HTZ HLT
  clear hT
  generalize turnAt (lineR k n) = ta at *
  have htz : T.size ≤ 150 := by rw [HTZ.out]; exact hz
  have g1 : decide ((150 : Int) < (R.size : Int)) = false := decide_eq_false (by omega)
  have g1' : decide (150 < R.size) = false := decide_eq_false (by omega)
  refine (HLN.out _).mono ?_
  rintro e w3 ⟨rfl, hb3⟩
  go_wp2_with fail
  refine (HWK.out _).mono ?_
  rintro e w4 ⟨rfl, hb4⟩
  go_wp2_with fail
  refine (HIS.out _).mono ?_
  rintro e w5 ⟨rfl, hb5⟩
  go_wp2_with fail
  refine (HPT.out _).mono ?_
  rintro e w6 ⟨rfl, hb6⟩
  have HRP : Hid (∀ W, Calls Try.prog 29 #[.string ⟨#[97]⟩, .int .i64 (n : Int)] W fun e w' => e = .returned (.string (S (List.replicate n 97))) ∧ Below W.heap.size W w') := fun W => by
    have h := Try.strings_Repeat ⟨#[97]⟩ n W (by omega) (by show 1 * n ≤ _; omega)
    have e : (⟨(Lib.repeatL (⟨#[97]⟩ : ByteArray).data.toList n).toArray⟩ : ByteArray) = S (List.replicate n 97) := by
      have e2 : ∀ m, Lib.repeatL [97] m = List.replicate m (97 : UInt8) := by
        intro m
        induction m with
        | zero => rfl
        | succ m ih =>
          show [97] ++ Lib.repeatL [97] m = _
          rw [ih, List.replicate_succ]; rfl
      show S (Lib.repeatL [97] n) = _
      rw [e2]
    rw [e] at h; exact h
  have hcv := fun W => Lib.run_convert_string_bytes (P := Try.prog) W 9 63 5 (S (List.replicate n 97)) Try.underlying9 Try.underlying63 Try.underlying5
  have hA : (S (List.replicate n 97)).size = n := by rw [S_size, List.length_replicate]
  go_wp2_with fail
  refine (HRP.out _).mono ?_
  rintro e w7 ⟨rfl, hb7⟩
  have hB7 := bthen hb3 (bthen hb4 (bthen hb5 (bthen hb6 hb7)))
  have hbm := BM.new_ w7 (S (List.replicate n 97))
  have hbw := bytesWorld_below w7 5 (S (List.replicate n 97))
  rw [hA, L_S] at hbm
  go_wp2_with fail
  clear hcv hA HRP
  generalize Lib.bytesWorld w7 5 (S (List.replicate n 97)) = w8 at *
  rw [← pF_zero (L s) k n] at hbm
  have hgl := hbm.lt
  have hgb := hB7.size
  generalize w7.heap.size = g at *
  have hB8 := hB7.trans (hbw.mono hgb)
  clear hbw hb3 hb4 hb5 hb6 hb7 hB7
  have HLL := Lib.hid (L_len s)
  go_loopw [69] (fun iv wr => ∃ i : Nat, i ≤ n ∧ iv = .int .i64 (i : Int) ∧ BM wr g n (pF (L s) k n i) ∧ Below w2.heap.size w2 wr) (fun iv _ => n - (intOf iv).toNat)
  case atStart => exact ⟨0, Nat.zero_le _, rfl, hbm, hB8⟩
  case round =>
    clear hbm hB8 hgl
    obtain ⟨i, hi, rfl, hbm, hb⟩ := hrel
    by_cases hlt : i < n
    · have g2 : decide ((i : Int) < (n : Int)) = true := decide_eq_true (by omega)
      have g2' : decide (i < n) = true := decide_eq_true hlt
      by_cases hws : i < s.size
      · have g3 : decide ((i : Int) < (s.size : Int)) = true := decide_eq_true (by omega)
        have g3' : decide (i < s.size) = true := decide_eq_true hws
        have c0 : wr.cell? ⟨g, i, none⟩ = some (.int .u8 97) := by
          rw [hbm.cell hlt, pF_at hlt, if_neg (by omega)]; rfl
        have ff := hbm.frozen hlt
        have HBM := Lib.hid hbm
        have hdk : (s[i]'hws).toNat % k < k := Nat.mod_lt _ (by omega)
        have HVAL : Hid ((97 + ((s[i]'hws).toNat : Int) % (k : Int)) % 256 = ((sg ((s[i]'hws).toNat % k)).toNat : Int)) := by
          unfold Hid
          rw [sg_val (by omega)]
          have e : (((s[i]'hws).toNat % k : Nat) : Int) = ((s[i]'hws).toNat : Int) % (k : Int) := Int.natCast_emod _ _
          rw [← e]
          omega
        have HSET : Hid ((pF (L s) k n i).set i (sg ((s[i]'hws).toNat % k)) = pF (L s) k n (i + 1)) := by
          have h := pF_set (wb := L s) (k := k) (n := n) (i := i) (by rw [HLL.out]; exact hws)
          rw [L_getDT hws] at h
          exact h
        clear hbm hdk
        go_wp2_with fail
        obtain ⟨F1, hFd⟩ : ∃ F : World → Prop, F = fun w' => w'.cell? ⟨g, i, none⟩ = some (.int .u8 97) := ⟨_, rfl⟩
        have HF1 := Lib.hid hFd
        clear hFd
        have hcell10 : ∀ p' : Wof F1, p'.w.cell? ⟨g, i, none⟩ = some (.int .u8 97) := fun ⟨x, hx⟩ => by rw [HF1.out] at hx; exact hx
        refine wp_region_schedZ [(0, true), (1, true), (2, true), (3, true), (4, true), (5, true), (6, true), (7, true), (8, true), (9, true), (10, true), (11, true)] 12 _ F1 (by kernel_rfl) (by kernel_rfl) rfl (by kernel_rfl) rfl (fun _ _ _ _ _ h => h) (by kernel_rfl) (by rw [HF1.out]; first | trivial | (repeat' apply And.intro) <;> assumption | (simp; done) | (simp [*]; done)) (by rw [HF1.out]; exact fun h => h) ?_
        intro hne1
        simp only [opersOf, List.getElem?_toArray, List.getElem?_cons_succ, List.getElem?_cons_zero]
        repeat (first | (refine wpSched_free rfl ?_; intro K hK; go_big_quiet_op; go_big_quiet_on) | (refine wpSched_wantS _ rfl rfl rfl ?_; intro K hK; go_big_quiet_op; go_big_quiet_on) | (refine wpSched_skipS _ rfl rfl rfl rfl ?_; simp only [Act.put, List.setIfInBounds_toArray, List.set_cons_zero, List.set_cons_succ]) | (refine wpSched_skipU _ rfl rfl rfl ?_; simp only [Act.put, List.setIfInBounds_toArray, List.set_cons_zero, List.set_cons_succ]))
        refine wpSched_nil ?_
        refine qz_nil ?_
        go_wp2_with fail
        refine ⟨⟨i + 1, by omega, by go_num, ?_, by first | exact (hb.setCell (p := ⟨g, i, none⟩) (by show w2.heap.size ≤ g; omega) _).drew | exact hb.setCell (p := ⟨g, i, none⟩) (by show w2.heap.size ≤ g; omega) _⟩, by simp [intOf]; omega⟩
        rw [HVAL.out, ← HSET.out]
        exact HBM.out.set_ hlt _
      · have g3 : decide ((i : Int) < (s.size : Int)) = false := decide_eq_false (by omega)
        have g3' : decide (i < s.size) = false := decide_eq_false hws
        have HST : Hid (pF (L s) k n (i + 1) = pF (L s) k n i) := pF_stay (by rw [HLL.out]; omega)
        have HBM := Lib.hid hbm
        clear hbm
        go_wp2_with fail
        go_roundw
        case rel => exact ⟨i + 1, by omega, by go_num, by rw [HST.out]; exact HBM.out, hb⟩
        case measure => simp [intOf]; omega
    · have hin : Hid (i = n) := by unfold Hid; omega
      have g2 : decide ((i : Int) < (n : Int)) = false := decide_eq_false (by omega)
      have g2' : decide (i < n) = false := decide_eq_false hlt
      have HMEM : Hid (pF (L s) k n i ∈ allW k n) := pF_mem (by omega)
      have HPL : Hid ((pF (L s) k n i).length = n) := pF_len _ _ _ _
      have HCT : Hid (∀ W, Calls Try.prog 23 #[.string T, .string (S (pF (L s) k n i))] W fun e w' => e = .returned (.tuple #[.int .i64 1, .int .i64 0]) ∧ Below W.heap.size W w') := fun W => by
        have h := turnCount_any T (S (pF (L s) k n i)) (by omega) (by rw [S_size, HPL.out]; omega) W
        rw [HLT.out, L_S, count_turn _ (by rw [HPL.out, ← HS.out]; omega), HOK.out.once _ HMEM.out] at h
        exact h
      have hcv := run_bytes_string (P := Try.prog) wr (src := 63) (dst := 9) Try.underlying63 Try.underlying5 Try.underlying9 (c := grownCap w7 n 0 5) hbm.rd
      have HBM := Lib.hid hbm
      clear hbm
      generalize pF (L s) k n i = P at *
      obtain ⟨PP, hPP⟩ : ∃ PP, S P = PP := ⟨_, rfl⟩
      have hcv2 : (convert 63 9 (.slice (some ⟨g, 0, none⟩) n (grownCap w7 n 0 5))).run Try.prog wr = .ok (.string PP) wr := by rw [← hPP]; exact hcv
      rw [hPP] at HCT
      have HPP := Lib.hid hPP
      clear hcv hPP
      go_wp2_with fail
      refine (HCT.out _).mono ?_
      rintro e w9 ⟨rfl, hb9⟩
      have hB9 := bthen hb hb9
      have HBM9 := Lib.hid (HBM.out.below hb9)
      clear hcv2 hb9 HCT HBM
      go_wp2_with fail
      go_loopw [18] (fun wv wr => ∃ W : ByteArray, wv = .string W ∧ Hid (W = R ∨ W = R ++ R) ∧ W.size ≤ 300 ∧ R.size ≤ W.size ∧ Below w9.heap.size w9 wr) (fun wv _ => 300 - strSzT wv)
      case atStart => exact ⟨R, rfl, .inl rfl, by omega, Nat.le_refl _, Below.refl _ _⟩
      case round =>
        obtain ⟨W, rfl, HW, hW3, hWR, hbq⟩ := hrel
        by_cases hc : W.size + 1 < R.size + n
        · have g4 : decide ((W.size : Int) < (R.size : Int) + (n : Int) - 1) = true := decide_eq_true (by omega)
          have HW2 : Hid (W = R) := by
            rcases HW.out with h | h
            · exact h
            · exfalso
              rw [h, ByteArray.size_append] at hc
              omega
          have HZ : Hid ((W ++ R).size = W.size + R.size) := ByteArray.size_append
          have hWz : W.size ≤ 150 := by rw [HW2.out]; exact hz
          clear HW
          go_wp2_with fail
          go_roundw
          case rel => exact ⟨W ++ R, rfl, .inr (by rw [HW2.out]), by rw [HZ.out]; omega, by rw [HZ.out]; omega, hbq⟩
          case measure =>
            have h9 := HZ.out
            simp [strSzT]
            omega
        · have g4 : decide ((W.size : Int) < (R.size : Int) + (n : Int) - 1) = false := decide_eq_false (by omega)
          have hbw := HBM9.out.below hbq
          have hbD : BM wr.drew g n P := hbw
          have hcv := run_bytes_string (P := Try.prog) wr.drew (src := 63) (dst := 9) Try.underlying63 Try.underlying5 Try.underlying9 (c := grownCap w7 n 0 5) hbD.rd
          have hcv2 : (convert 63 9 (.slice (some ⟨g, 0, none⟩) n (grownCap w7 n 0 5))).run Try.prog wr.drew = .ok (.string PP) wr.drew := by rw [← HPP.out]; exact hcv
          have HXL : Hid (L (W.extract 0 (R.size + n - 1)) = wideL k n) := by
            have e : L (W.extract 0 (R.size + n - 1)) = (L W).take (R.size + n - 1) := by rw [L_extract, List.drop_zero, Nat.sub_zero]
            unfold Hid wideL
            rw [e, ← HS.out]
            rcases HW.out with h | h
            · have hn : R.size + n - 1 = (lineR k n).length := by
                rw [h] at hc
                have := HS.out
                omega
              rw [h, HLS.out, hn, List.take_length, List.take_append_of_le_length (Nat.le_refl _), List.take_length]
            · have e2 : L (R ++ R) = L R ++ L R := L_append R R
              rw [h, e2, HLS.out]
          have hXz : (W.extract 0 (R.size + n - 1)).size = R.size + n - 1 := by rw [ByteArray.size_extract]; omega
          have HXZ := Lib.hid hXz
          have hPz : PP.size = n := by rw [← HPP.out, S_size]; exact HPL.out
          have hSK := fun W' => seekFind_any (W.extract 0 (R.size + n - 1)) PP (by omega) (by omega) (by omega) W'
          have hfl : (findI (L (W.extract 0 (R.size + n - 1))) (L PP) ((W.extract 0 (R.size + n - 1)).size + 1 - PP.size)).length = 1 := by
            rw [findI_len, HXL.out, hXz, hPz, ← HPP.out, L_S, show R.size + n - 1 + 1 - n = R.size by omega, HS.out]
            exact HOK.out.found _ HMEM.out
          rw [hfl] at hSK
          have HSK := Lib.hid hSK
          have hcn : (R.size : Int) + (n : Int) - 1 = ((R.size + n - 1 : Nat) : Int) := by omega
          have hcl : R.size + n - 1 ≤ W.size := by omega
          clear hcv hfl hSK hXz hPz HW hbw
          go_wp2_with fail
          obtain ⟨F1, hFd⟩ : ∃ F : World → Prop, F = fun w' => True := ⟨_, rfl⟩
          have HF1 := Lib.hid hFd
          clear hFd
          refine wp_region_schedF [(0, true), (1, true), (2, true), (3, true), (4, true), (5, true), (6, true), (7, true), (8, false), (9, false), (10, true), (11, true), (12, true), (13, true), (14, true)] F1 (by kernel_rfl) (by kernel_rfl) rfl (fun _ _ _ _ _ h => h) (by kernel_rfl) (by rw [HF1.out]; first | trivial | (repeat' apply And.intro) <;> assumption | (simp; done) | (simp [*]; done)) (by rw [HF1.out]; exact fun h => h) ?_
          intro hne1
          simp only [opersOf, List.getElem?_toArray, List.getElem?_cons_succ, List.getElem?_cons_zero]
          repeat (first | (refine wpSched_free rfl ?_; intro K hK; go_big_quiet_op; go_big_quiet_on) | (refine wpSched_wantS _ rfl rfl rfl ?_; intro K hK; go_big_quiet_op; go_big_quiet_on) | (refine wpSched_skipS _ rfl rfl rfl rfl ?_; simp only [Act.put, List.setIfInBounds_toArray, List.set_cons_zero, List.set_cons_succ]) | (refine wpSched_skipU _ rfl rfl rfl ?_; simp only [Act.put, List.setIfInBounds_toArray, List.set_cons_zero, List.set_cons_succ]))
          refine wpSched_other ?_
          go_wp2_with fail
          refine sched_back (by rw [HF1.out]; first | trivial | (repeat' apply And.intro) <;> assumption | (simp; done) | (go_simp; done) | (simp [*]; done)) ?_
          repeat (first | (refine wpSched_free rfl ?_; intro K hK; go_big_quiet_op; go_big_quiet_on) | (refine wpSched_wantS _ rfl rfl rfl ?_; intro K hK; go_big_quiet_op; go_big_quiet_on) | (refine wpSched_skipS _ rfl rfl rfl rfl ?_; simp only [Act.put, List.setIfInBounds_toArray, List.set_cons_zero, List.set_cons_succ]) | (refine wpSched_skipU _ rfl rfl rfl ?_; simp only [Act.put, List.setIfInBounds_toArray, List.set_cons_zero, List.set_cons_succ]))
          refine wpSched_other ?_
          go_wp2_with fail
          refine (HSK.out _).mono ?_
          rintro e w10 ⟨v, rfl, hown, hb10⟩
          obtain ⟨AV, cv, rfl, _, _, _⟩ := own_form hown
          have hb10' : Below wr.heap.size wr w10 := (Below.drew (Below.refl wr.heap.size wr)).trans hb10
          clear hown hb10
          go_wp2_with fail
          refine sched_back (by rw [HF1.out]; first | trivial | (repeat' apply And.intro) <;> assumption | (simp; done) | (go_simp; done) | (simp [*]; done)) ?_
          repeat (first | (refine wpSched_free rfl ?_; intro K hK; go_big_quiet_op; go_big_quiet_on) | (refine wpSched_wantS _ rfl rfl rfl ?_; intro K hK; go_big_quiet_op; go_big_quiet_on) | (refine wpSched_skipS _ rfl rfl rfl rfl ?_; simp only [Act.put, List.setIfInBounds_toArray, List.set_cons_zero, List.set_cons_succ]) | (refine wpSched_skipU _ rfl rfl rfl ?_; simp only [Act.put, List.setIfInBounds_toArray, List.set_cons_zero, List.set_cons_succ]))
          refine wpSched_nil ?_
          have HGD : Hid (∀ W : World, Calls Try.prog 24 #[.slice (some ⟨W.heap.size, 0, none⟩) 4 4] (W.alloc (.cells #[.int .i64 0, .int .i64 0, .int .i64 0, .int .i64 0] 24)) fun e w' => e = .returned (.bool true) ∧ Below (W.alloc (.cells #[.int .i64 0, .int .i64 0, .int .i64 0, .int .i64 0] 24)).heap.size (W.alloc (.cells #[.int .i64 0, .int .i64 0, .int .i64 0, .int .i64 0] 24)) w') := fun W =>
            good_any (some ⟨W.heap.size, 0, none⟩) 4 4 (W.heap.size + 1) (W.alloc (.cells #[.int .i64 0, .int .i64 0, .int .i64 0, .int .i64 0] 24)) (Rd.new_ (size := 1) W _ _ (Nat.lt_succ_self _) rfl) (by simp) (by decide)
          have hb11 : Below w10.heap.size w10 (w10.alloc (.cells #[.int .i64 0, .int .i64 0, .int .i64 0, .int .i64 0] 24)) := (Below.refl _ _).alloc (Nat.le_refl _) _
          clear hcv2 HSK
          go_wp2_with fail
          refine (HGD.out _).mono ?_
          rintro e w12 ⟨rfl, hb12⟩
          go_wp2_with fail
          go_ret
          exact ⟨rfl, bthen hB9 (bthen hbq (bthen hb10' (bthen hb11 hb12)))⟩
end Go.Proofs.Ytllcmmpepchieaa
