/- word.Check and the reference's Long: is a string too long? same.Check, dist.Of and dist.Swaps. The edits between pairs of places at which two texts have the same byte. No program in sight. -/
import Derived.Test.YtplgghjdidmcfaaGreatDoorPk01
import Derived.Test.YtplgghjdidmcfaaGreatDoorPk17
import Derived.Test.YtplgghjdidmcfaaGreatDoorPk18
import Derived.BigRegion
import Derived.Test.YtplgghjdidmcfaaGreatDoorPk02
namespace Go.Proofs.YtplgghjdidmcfaaGreatDoor
open Go.RowKit
def longErr (n : Nat) : Int := if 200 < n then 2 else 0
/-- Of several. -/
def longAll (l : List ByteArray) : Int := if ∃ s ∈ l, 200 < s.size then 2 else 0
theorem longAll_one (s : ByteArray) : longAll [s] = longErr s.size := by simp [longAll, longErr]
theorem wordCheck_any (s : ByteArray) (w : World) :
    Calls Tryz.prog 134 #[.string s] w fun e w' => e = .returned (.int .i64 (longErr s.size)) ∧ Below w.heap.size w w' := by
  unfold longErr
  go_enter Tryz.func134, Tryz.ntmps134
  go_wp2
  all_goals go_ret
  all_goals refine ⟨ret_int ?_, Below.refl _ _⟩
  all_goals rfl
set_option maxRecDepth 100000 in
theorem long_any (l : List ByteArray) (A : Option Addr) (n c B : Nat) (w : World) (hr : Rd w B 1 A n (l.map .string)) (hn : n ≤ 9223372036854775807) :
    Calls Tryz.prog 154 #[.slice A n c] w fun e w' => e = .returned (.int .i64 (longAll l)) ∧ Below w.heap.size w w' := by
  have hlen : l.length = n := by simpa using hr.1
  have HR := Lib.hid hr; clear hr
  go_enter Tryz.func154, Tryz.ntmps154
  go_wp2
  go_loop [2, 7] (fun _ i => ∃ k : Nat, k ≤ n ∧ i = .int .i64 k ∧ ∀ s ∈ l.take k, ¬ 200 < s.size) (fun _ i => n - (intOf i).toNat)
  case atStart => exact ⟨0, Nat.zero_le _, rfl, by simp⟩
  case round =>
    obtain ⟨k, hk, rfl, hno⟩ := hrel
    have HNO := Lib.hid hno; clear hno
    by_cases hlt : k < n
    · obtain ⟨ad, u, rfl, hb, hu, hc⟩ := HR.out.at_ hlt
      simp only [List.getElem?_map, Option.map_eq_some_iff] at hu
      obtain ⟨s, hs, rfl⟩ := hu
      by_cases h2 : 200 < s.size
      · have HL : Hid (longAll l = 2) := by unfold Hid longAll; rw [if_pos ⟨s, List.mem_of_getElem? hs, h2⟩]
        clear hs
        go_wp2
        go_ret
        exact ⟨ret_int HL.out.symm, Below.refl _ _⟩
      · have HS : Hid (∀ x ∈ l.take (k + 1), ¬ 200 < x.size) := by
          intro x hx
          rw [List.take_add_one, hs] at hx
          simp only [List.mem_append, Option.toList_some, List.mem_singleton] at hx
          rcases hx with hx | rfl
          · exact HNO.out x hx
          · exact h2
        clear hs
        go_wp2
        go_round
        case rel => exact ⟨k + 1, by omega, by go_num, HS.out⟩
        case measure => simp [intOf]; omega
    · have HL : Hid (longAll l = 0) := by
        unfold Hid longAll
        rw [if_neg]
        rintro ⟨s, hs, h2⟩
        exact HNO.out s (by rw [List.take_of_length_le (by omega)]; exact hs) h2
      go_wp2
      go_ret
      exact ⟨ret_int HL.out.symm, Below.refl _ _⟩
end Go.Proofs.YtplgghjdidmcfaaGreatDoor
namespace Go.Proofs.YtplgghjdidmcfaaGreatDoor
open Go.RowKit
theorem long2 (s t : ByteArray) : longAll [s, t] = if 200 < s.size ∨ 200 < t.size then 2 else 0 := by simp [longAll]
set_option maxHeartbeats 2000000 in
theorem sameCheck_any (s t : ByteArray) (w : World) :
    Calls Tryz.prog 71 #[.string s, .string t] w fun e w' => e = .returned (.int .i64 (longAll [s, t])) ∧ Below w.heap.size w w' := by
  rw [long2]
  by_cases h : 200 < s.size
  · have HE : Hid (longErr s.size = 2) := by unfold Hid longErr; rw [if_pos h]
    rw [if_pos (Or.inl h)]
    clear h
    go_enter Tryz.func71, Tryz.ntmps71
    go_wp2_with fail
    refine (wordCheck_any s _).mono ?_
    rintro e w1 ⟨rfl, hb1⟩
    rw [HE.out]
    go_wp2_with fail
    go_ret
    exact ⟨rfl, hb1⟩
  · have HE : Hid (longErr s.size = 0) := by unfold Hid longErr; rw [if_neg h]
    have HT : Hid (longErr t.size = if 200 < s.size ∨ 200 < t.size then 2 else 0) := by
      unfold Hid longErr
      by_cases h2 : 200 < t.size
      · rw [if_pos h2, if_pos (Or.inr h2)]
      · rw [if_neg h2, if_neg (by omega)]
    clear h
    generalize (if 200 < s.size ∨ 200 < t.size then (2 : Int) else 0) = x at *
    go_enter Tryz.func71, Tryz.ntmps71
    go_wp2_with fail
    refine (wordCheck_any s _).mono ?_
    rintro e w1 ⟨rfl, hb1⟩
    rw [HE.out]
    go_wp2_with fail
    refine (wordCheck_any t _).mono ?_
    rintro e w2 ⟨rfl, hb2⟩
    rw [HT.out]
    go_wp2_with fail
    go_ret
    exact ⟨rfl, bthen hb1 hb2⟩
theorem getD_set (l : List Int) (k j : Nat) (v : Int) (h : k < l.length) : (l.set k v).getD j 0 = if j = k then v else l.getD j 0 := by
  rw [List.getD_eq_getElem?_getD, List.getD_eq_getElem?_getD, List.getElem?_set]
  by_cases hj : j = k
  · subst hj; simp [h]
  · have : ¬ k = j := fun e => hj e.symm
    simp [hj, this]
/-- How far the beginnings are. -/
def levT (s t : ByteArray) (i k : Nat) : Nat := lev ((L s).take i) ((L t).take k)
theorem take_byte (s : ByteArray) (k : Nat) (h : k < s.size) : (L s).take (k + 1) = (L s).take k ++ [s[k]] := by
  rw [List.take_succ_eq_append_getElem (by rw [L_len]; exact h), getB s k h, List.getD_eq_getElem?_getD, List.getElem?_eq_getElem (by rw [L_len]; exact h)]; rfl
theorem levT_step (s t : ByteArray) (i k : Nat) (hi : i < s.size) (hk : k < t.size) : levT s t (i + 1) (k + 1) = min (levT s t i k + if s[i] = t[k] then 0 else 1) (min (levT s t (i + 1) k + 1) (levT s t i (k + 1) + 1)) := by
  unfold levT; rw [take_byte s i hi, take_byte t k hk, lev_snoc]
theorem levT_zero_left (s t : ByteArray) (k : Nat) (hk : k ≤ t.size) : levT s t 0 k = k := by
  unfold levT; rw [List.take_zero, lev_nil_left, List.length_take, L_len]; omega
theorem levT_zero_right (s t : ByteArray) (i : Nat) (hi : i ≤ s.size) : levT s t i 0 = i := by
  unfold levT; rw [List.take_zero, lev_nil_right, List.length_take, L_len]; omega
theorem levT_all (s t : ByteArray) : levT s t s.size t.size = lev (L s) (L t) := by
  unfold levT; rw [List.take_of_length_le (by rw [L_len]; exact Nat.le_refl _), List.take_of_length_le (by rw [L_len]; exact Nat.le_refl _)]
theorem levT_le (s t : ByteArray) (i k : Nat) : levT s t i k ≤ s.size + t.size := by
  have := lev_len ((L s).take i) ((L t).take k)
  simp only [List.length_take, L_len] at this
  unfold levT; omega
/-- Where the inner loop stands: k places of the row are new. -/
structure OfIn (s t : ByteArray) (wr : World) (base g i k : Nat) (l : List Int) : Prop where
  row : ArrI wr base g (t.size + 1) l
  new : ∀ j, j ≤ k → l.getD j 0 = (levT s t (i + 1) j : Nat)
  old : ∀ j, k < j → j ≤ t.size → l.getD j 0 = (levT s t i j : Nat)
theorem OfIn.step {s t : ByteArray} {wr : World} {base g i k : Nat} {l : List Int} (h : OfIn s t wr base g i k l) (hk : k < t.size) (n : Nat) {v : Int} (hv : v = (levT s t (i + 1) (k + 1) : Nat)) :
    OfIn s t ((wr.drewN n).setCell ⟨g, k + 1, none⟩ (.int .i64 v)) base g i (k + 1) (l.set (k + 1) v) := by
  have hl := h.row.len
  refine ⟨(h.row.drewN n).set_ _ _, fun j hj => ?_, fun j h1 h2 => ?_⟩
  · rw [getD_set _ _ _ _ (by omega)]
    by_cases hq : j = k + 1
    · subst hq; rw [if_pos rfl]; exact hv
    · rw [if_neg hq]; exact h.new j (by omega)
  · rw [getD_set _ _ _ _ (by omega), if_neg (by omega)]; exact h.old j (by omega) h2
set_option maxRecDepth 100000 in
set_option maxHeartbeats 8000000 in
theorem distOf_any (s t : ByteArray) (hs : s.size ≤ 200) (ht : t.size ≤ 200) (w : World) :
    Calls Tryz.prog 153 #[.string s, .string t] w fun e w' => e = .returned (.tuple #[.int .i64 (lev (L s) (L t) : Nat), .int .i64 0]) ∧ Below w.heap.size w w' := by
  obtain ⟨i0, hi0, hz0, hz1, hz2⟩ := info_parts info_int
  have HV : Hid (longAll [s, t] = 0) := by unfold Hid; rw [long2, if_neg (by omega)]
  go_enter Tryz.func153, Tryz.ntmps153
  go_wp2_with fail
  refine (sameCheck_any s t _).mono ?_
  rintro e w1 ⟨rfl, hb1⟩
  rw [HV.out]
  go_wp2_with (at_make; go_must (refine wpList_make_full _ rfl _ _ _ rfl w.heap.size 3 i0 _ 1 Tryz.underlying91 hi0 hz0 hz1 .i64 .i64 ((t.size : Int) + 1) ((t.size : Int) + 1) (t.size + 1) rfl rfl (by omega) (by omega) (by rw [hz2]; omega) (by unfold maxLen; omega) hb1.size ?_); intro w2 hown2 hg2)
  have hb2 : Below w.heap.size w w2 := hb1.grown hg2 hb1.size (fun _ h => by cases h)
  have hgz : w.heap.size ≤ w1.heap.size := hb1.size
  have hown2 : ArrI w2 w.heap.size w1.heap.size (t.size + 1) (List.replicate (t.size + 1) 0) := by
    rw [made_ints] at hown2; exact hown2
  clear hg2 hb1
  generalize w1.heap.size = g at *
  go_loopw [25] (fun i wr => ∃ (k : Nat) (l : List Int), k ≤ t.size + 1 ∧ i = .int .i64 k ∧ ArrI wr w.heap.size g (t.size + 1) l ∧ (∀ j, j < k → l.getD j 0 = (j : Int)) ∧ Below w.heap.size w wr) (fun i _ => t.size + 1 - (intOf i).toNat)
  case atStart => exact ⟨0, _, Nat.zero_le _, rfl, hown2, fun j h => by omega, hb2⟩
  case round =>
    clear hown2 hb2
    obtain ⟨k, l, hk, rfl, hrow, hl, hb⟩ := hrel
    have HL := Lib.hid hl
    clear hl
    have hln := hrow.len
    by_cases hlt : k < t.size + 1
    · have c0 := hrow.at_ hlt
      have f0 := hrow.free k
      have HR := Lib.hid (hrow.set_ k (k : Int))
      have g1 : decide ((k : Int) < (t.size : Int) + 1) = true := decide_eq_true (by omega)
      clear hrow
      go_wp2_with fail
      go_roundw
      case rel =>
        refine ⟨k + 1, _, by omega, by go_num, HR.out, fun j hj => ?_, Below.setCell hb hgz _⟩
        rw [getD_set _ _ _ _ (by omega)]
        split
        · rename_i e; rw [e]
        · exact HL.out j (by omega)
      case measure => simp [intOf]; omega
    · obtain rfl : k = t.size + 1 := by omega
      have g1 : decide (((t.size + 1 : Nat) : Int) < (t.size : Int) + 1) = false := decide_eq_false (by omega)
      have HR0 := Lib.hid hrow
      clear hrow
      go_wp2_with fail
      go_loopw [35] (fun i wr => ∃ (i' : Nat) (l : List Int), i' ≤ s.size ∧ i = .int .i64 i' ∧ ArrI wr w.heap.size g (t.size + 1) l ∧ (∀ j, j ≤ t.size → l.getD j 0 = (levT s t i' j : Nat)) ∧ Below w.heap.size w wr) (fun i _ => s.size - (intOf i).toNat)
      case atStart => exact ⟨0, l, Nat.zero_le _, rfl, HR0.out, fun j hj => by rw [HL.out j (by omega), levT_zero_left s t j hj], hb⟩
      case round =>
        clear HR0 HL hb hln
        obtain ⟨i, l, hi, rfl, hrow, hl, hb⟩ := hrel
        obtain ⟨wo, hwo⟩ : ∃ wo : World, wo = wr := ⟨_, rfl⟩
        subst hwo
        have HL := Lib.hid hl
        clear hl
        have hln := hrow.len
        by_cases hlt : i < s.size
        · have g2 : decide ((i : Int) < (s.size : Int)) = true := decide_eq_true (by omega)
          have c0 := hrow.at_ (k := 0) (by omega)
          rw [HL.out 0 (Nat.zero_le _), levT_zero_right s t i hi] at c0
          have f0 := hrow.free 0
          have HI : Hid (OfIn s t (wo.setCell ⟨g, 0, none⟩ (.int .i64 ((i : Int) + 1))) w.heap.size g i 0 (l.set 0 ((i : Int) + 1))) := by
            refine ⟨hrow.set_ 0 _, fun j hj => ?_, fun j h1 h2 => ?_⟩
            · rw [getD_set _ _ _ _ (by omega), if_pos (by omega), show j = 0 by omega, levT_zero_right s t _ (by omega)]; omega
            · rw [getD_set _ _ _ _ (by omega), if_neg (by omega)]; exact HL.out j h2
          have hB := Below.setCell (p := ⟨g, 0, none⟩) hb hgz (.int .i64 ((i : Int) + 1))
          clear hrow
          go_wp2_with fail
          go_loopw [10, 47] (fun c k wr => ∃ (k' : Nat) (l : List Int), k' ≤ t.size ∧ k = .int .i64 k' ∧ c = .int .i64 (levT s t i k' : Nat) ∧ OfIn s t wr w.heap.size g i k' l ∧ Below w.heap.size w wr) (fun _ k _ => t.size - (intOf k).toNat)
          case atStart => exact ⟨0, _, Nat.zero_le _, rfl, by rw [levT_zero_right s t i hi], HI.out, hB⟩
          case round =>
            clear HI hB HL hb hln
            obtain ⟨k, l, hk, rfl, rfl, hO, hb⟩ := hrel
            by_cases hkt : k < t.size
            · have g3 : decide ((k : Int) < (t.size : Int)) = true := decide_eq_true (by omega)
              have c1 := hO.row.at_ (k := k + 1) (by omega)
              have c2 := hO.row.at_ (k := k) (by omega)
              have f1 := hO.row.free (k + 1)
              rw [hO.old (k + 1) (by omega) (by omega)] at c1
              rw [hO.new k (Nat.le_refl _)] at c2
              have HO : Hid (∀ (n : Nat) (v : Int), v = (levT s t (i + 1) (k + 1) : Nat) → OfIn s t ((wr.drewN n).setCell ⟨g, k + 1, none⟩ (.int .i64 v)) w.heap.size g i (k + 1) (l.set (k + 1) v)) := fun n v hv => hO.step hkt n hv
              have HS := Lib.hid (levT_step s t i k hlt hkt)
              have y1 := levT_le s t i k
              have y2 := levT_le s t (i + 1) k
              have y3 := levT_le s t i (k + 1)
              have y4 := levT_le s t (i + 1) (k + 1)
              clear hO
              generalize hx1 : levT s t i k = x1 at *
              generalize levT s t (i + 1) k = x2 at *
              generalize hx3 : levT s t i (k + 1) = x3 at *
              by_cases he : s[i] = t[k]
              · have g4 : ((s[i].toNat : Int) == (t[k].toNat : Int)) = true := by rw [he]; simp
                have g5 : ((s[i].toNat : Int) != (t[k].toNat : Int)) = false := by rw [he]; simp
                rw [if_pos he] at HS
                clear he
                go_wp2_with fail
                go_quiet (fail)
                go_wp2_with fail
                go_roundw
                case rel => exact ⟨k + 1, _, by omega, by go_num, by rw [hx3], HO.out _ _ (by rw [HS.out]; split <;> split <;> omega), Below.setCell (below_drewN hb _) hgz _⟩
                case measure => simp [intOf]; omega
              · have g4 : ((s[i].toNat : Int) == (t[k].toNat : Int)) = false := by
                  rw [beq_eq_false_iff_ne]; intro h; exact he (UInt8.toNat_inj.1 (by omega))
                have g5 : ((s[i].toNat : Int) != (t[k].toNat : Int)) = true := by
                  rw [bne_iff_ne]; intro h; exact he (UInt8.toNat_inj.1 (by omega))
                rw [if_neg he] at HS
                clear he
                go_wp2_with fail
                go_quiet (fail)
                go_wp2_with fail
                go_roundw
                case rel => exact ⟨k + 1, _, by omega, by go_num, by rw [hx3], HO.out _ _ (by rw [HS.out]; split <;> split <;> omega), Below.setCell (below_drewN hb _) hgz _⟩
                case measure => simp [intOf]; omega
            · obtain rfl : k = t.size := by omega
              have g3 : decide ((t.size : Int) < (t.size : Int)) = false := decide_eq_false (by omega)
              have HO := Lib.hid hO
              clear hO
              go_wp2_with fail
              go_roundw
              case rel => exact ⟨i + 1, l, by omega, by go_num, HO.out.row, fun j hj => HO.out.new j hj, hb⟩
              case measure => simp [intOf]; omega
        · obtain rfl : i = s.size := by omega
          have g2 : decide ((s.size : Int) < (s.size : Int)) = false := decide_eq_false (by omega)
          have c0 := hrow.at_ (k := t.size) (by omega)
          rw [HL.out t.size (Nat.le_refl _), levT_all] at c0
          clear hrow
          go_wp2_with fail
          go_ret2
          exact ⟨rfl, hb⟩
theorem distOf_long (s t : ByteArray) (h : 200 < s.size ∨ 200 < t.size) (w : World) :
    Calls Tryz.prog 153 #[.string s, .string t] w fun e w' => e = .returned (.tuple #[.int .i64 0, .int .i64 2]) ∧ Below w.heap.size w w' := by
  have HV : Hid (longAll [s, t] = 2) := by unfold Hid; rw [long2, if_pos h]
  clear h
  go_enter Tryz.func153, Tryz.ntmps153
  go_wp2_with fail
  refine (sameCheck_any s t _).mono ?_
  rintro e w1 ⟨rfl, hb1⟩
  rw [HV.out]
  go_wp2_with fail
  go_ret2
  exact ⟨rfl, hb1⟩
end Go.Proofs.YtplgghjdidmcfaaGreatDoor
namespace Go.Proofs.YtplgghjdidmcfaaGreatDoor
/-- Pairs of places, from two places on, at which both have the same byte. -/
inductive Ms (a b : List UInt8) : Nat → Nat → List (Nat × Nat) → Prop
  | nil (i k) : i ≤ a.length → k ≤ b.length → Ms a b i k []
  | cons (i k x y r) : i ≤ x → k ≤ y → x < a.length → y < b.length → a[x]? = b[y]? → Ms a b (x + 1) (y + 1) r → Ms a b i k ((x, y) :: r)
def edOf (a b : List UInt8) : Nat → Nat → List (Nat × Nat) → List Ed
  | i, k, [] => if i < a.length ∨ k < b.length then [⟨i, a.length - i, b.drop k⟩] else []
  | i, k, (x, y) :: r => (if i < x ∨ k < y then [⟨i, x - i, (b.drop k).take (y - k)⟩] else []) ++ edOf a b (x + 1) (y + 1) r
def cost : List Ed → Int
  | [] => 0
  | x :: r => x.del + x.ins.length + cost r
theorem cost_append (a b : List Ed) : cost (a ++ b) = cost a + cost b := by
  induction a with
  | nil => simp [cost]
  | cons x a ih => simp [cost, ih]; omega
theorem edOf_cost {a b : List UInt8} {i k : Nat} {ms : List (Nat × Nat)} (h : Ms a b i k ms) : cost (edOf a b i k ms) = (a.length - i : Int) + (b.length - k) - 2 * ms.length ∧ (ms.length : Int) ≤ a.length - i ∧ (ms.length : Int) ≤ b.length - k := by
  induction h with
  | nil i k h1 h2 =>
    simp only [edOf]
    split
    · simp [cost]; omega
    · simp [cost]; omega
  | cons i k x y r h1 h2 h3 h4 h5 h6 ih =>
    simp only [edOf, cost_append, List.length_cons]
    split
    · simp only [cost, List.length_take, List.length_drop]; omega
    · simp only [cost]; omega
theorem cost_nonneg_len {n : Int} {p : Option Int} {l : List Ed} (h : Chain n p l) : (l.length : Int) ≤ cost l := by
  induction h with
  | nil => simp [cost]
  | cons p x r h0 h ih =>
    have := edOne_zero h0
    simp only [cost, List.length_cons]; omega
def before (i : Nat) (p : Option Int) : Prop := ∀ e, p = some e → e < i
theorem edOf_chain {a b : List UInt8} {i k : Nat} {ms : List (Nat × Nat)} (h : Ms a b i k ms) : ∀ p, before i p → (a.length - i : Int) + (b.length - k) - 2 * ms.length ≤ 20 → Chain a.length p (edOf a b i k ms) := by
  induction h with
  | nil i k h1 h2 =>
    intro p hp hc
    simp only [edOf]
    split
    · refine .cons _ _ _ ?_ (.nil _)
      unfold edOne
      simp only [List.length_drop, List.length_nil] at *
      rw [if_neg (by omega), if_neg (by omega), if_neg (by omega), if_neg]
      rintro ⟨e, he, hh⟩
      have := hp e he
      omega
    · exact .nil _
  | cons i k x y r h1 h2 h3 h4 h5 h6 ih =>
    intro p hp hc
    have hcost := edOf_cost h6
    simp only [List.length_cons] at hc
    have hc' : (a.length - (x + 1 : Nat) : Int) + (b.length - (y + 1 : Nat)) - 2 * r.length ≤ 20 := by omega
    simp only [edOf]
    split
    · refine .cons _ _ _ ?_ (ih _ ?_ hc')
      · unfold edOne
        simp only [List.length_take, List.length_drop]
        rw [if_neg (by omega), if_neg (by omega), if_neg (by omega), if_neg]
        rintro ⟨e, he, hh⟩
        have := hp e he
        omega
      · intro e he
        simp only [Option.some.injEq] at he
        omega
    · refine ih p (fun e he => ?_) hc'
      have := hp e he
      omega
theorem take_one (l : List UInt8) (x : Nat) (c : UInt8) (h : l[x]? = some c) : l.drop x = c :: l.drop (x + 1) := by
  obtain ⟨hx, rfl⟩ := List.getElem?_eq_some_iff.1 h
  exact List.drop_eq_getElem_cons hx
theorem edOf_to {a b : List UInt8} {i k : Nat} {ms : List (Nat × Nat)} (h : Ms a b i k ms) : ∀ j, j ≤ i → edTo a j (edOf a b i k ms) = (a.drop j).take (i - j) ++ b.drop k := by
  induction h with
  | nil i k h1 h2 =>
    intro j hj
    simp only [edOf]
    split
    · simp only [edTo]
      have e1 : ((i : Int)).toNat = i := by omega
      have e2 : (((i : Int) + ((a.length : Int) - (i : Int))).toNat) = a.length := by omega
      rw [e1, e2, List.drop_length]
      simp
    · simp only [edTo]
      rw [List.drop_of_length_le (by omega : b.length ≤ k), List.take_of_length_le (by rw [List.length_drop]; omega)]
      simp
  | cons i k x y r h1 h2 h3 h4 h5 h6 ih =>
    intro j hj
    obtain ⟨c, hc⟩ : ∃ c, b[y]? = some c := ⟨_, List.getElem?_eq_getElem h4⟩
    have hca : a[x]? = some c := by rw [h5, hc]
    have e4 := take_one a x c hca
    have e5 := take_one b y c hc
    have hb : b.drop k = (b.drop k).take (y - k) ++ b.drop y := by
      have := (List.take_append_drop (y - k) (b.drop k)).symm
      rw [List.drop_drop, show k + (y - k) = y by omega] at this
      exact this
    simp only [edOf]
    split
    · simp only [List.singleton_append, edTo]
      have e1 : ((i : Int)).toNat = i := by omega
      have e2 : (((i : Int) + ((x : Int) - (i : Int))).toNat) = x := by omega
      rw [e1, e2, ih x (by omega), show x + 1 - x = 1 by omega, e4]
      conv => rhs; rw [hb, e5]
      simp
    · rw [List.nil_append, ih j (by omega)]
      obtain rfl : i = x := by omega
      obtain rfl : k = y := by omega
      have : a.drop j = (a.drop j).take (i - j) ++ a.drop i := by
        have := (List.take_append_drop (i - j) (a.drop j)).symm
        rw [List.drop_drop, show j + (i - j) = i by omega] at this
        exact this
      have h7 : (a.drop j).take (i + 1 - j) = (a.drop j).take (i - j) ++ [c] := by
        conv => lhs; rw [this, e4]
        rw [List.take_append, List.length_take, List.length_drop]
        rw [List.take_of_length_le (by rw [List.length_take, List.length_drop]; omega)]
        rw [show i + 1 - j - min (i - j) (a.length - j) = 1 by omega]
        rfl
      rw [h7, e5]
      simp
/-- The edits of a row of pairs. -/
theorem edOf_right {a b : List UInt8} {ms : List (Nat × Nat)} (h : Ms a b 0 0 ms) (ha : a.length ≤ 200) (hb : b.length ≤ 200) (hc : (a.length : Int) + b.length - 2 * ms.length ≤ 20) :
    edErr a.length (edOf a b 0 0 ms) = 0 ∧ edDone a (edOf a b 0 0 ms) = b ∧ cost (edOf a b 0 0 ms) = (a.length : Int) + b.length - 2 * ms.length := by
  have h1 := edOf_chain h none (fun _ h => by cases h) (by omega)
  have h2 := edOf_cost h
  have h3 := cost_nonneg_len h1
  have h4 := edOf_to h 0 (Nat.le_refl _)
  have h5 := edTo_length rfl h1 (k := 0) rfl (Nat.zero_le _)
  rw [h4] at h5
  simp only [Nat.sub_zero, List.take_zero, List.nil_append, List.drop_zero] at h4 h5
  have h6 : edErr a.length (edOf a b 0 0 ms) = 0 := edErr_zero.2 ⟨by omega, by omega, by omega, h1, by omega⟩
  refine ⟨h6, ?_, by omega⟩
  rw [edDone_is h6, h4]
end Go.Proofs.YtplgghjdidmcfaaGreatDoor
