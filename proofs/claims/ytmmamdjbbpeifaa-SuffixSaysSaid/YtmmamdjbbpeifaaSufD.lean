/- The document's ends of a word, what two texts have in common, and the longest part that stands twice. -/
import Derived.Test.YtmmamdjbbpeifaaLynW
import Derived.Test.YtmmamdjbbpeifaaSortS
import Derived.Test.YtmmamdjbbpeifaaSuf1
namespace Go.Proofs.Ytmmamdjbbpeifaa
open Go.RowKit
def dropsL (s : List UInt8) (c : Nat) : List (List UInt8) := (List.range c).map fun i => s.drop i
theorem dropsL_succ (s : List UInt8) (c : Nat) : dropsL s (c + 1) = dropsL s c ++ [s.drop c] := by simp [dropsL, List.range_succ]
theorem dropsL_len (s : List UInt8) (c : Nat) : (dropsL s c).length = c := by simp [dropsL]
def endsL (s : List UInt8) : List (List UInt8) := (ordS s).map fun i => s.drop i
theorem endsL_len (s : List UInt8) : (endsL s).length = s.length := by rw [endsL, List.length_map, ordS_len]
theorem endsL_at (s : List UInt8) {k : Nat} (h : k < s.length) : (endsL s)[k]? = some (sufA s k) := by
  unfold endsL sufA oS
  rw [List.getElem?_map, (ordS_srt s).get h, List.getElem?_eq_getElem (by rw [ordS_len]; exact h)]; rfl
theorem ends_sort (s : List UInt8) : sortB (dropsL s s.length) = endsL s := srt_sortB _ _
set_option maxRecDepth 100000 in
set_option maxHeartbeats 8000000 in
theorem ends_any (s : ByteArray) (hs : s.size ≤ 200) (w : World) :
    Calls Try.prog 18 #[.string s] w fun e w' => ∃ v, e = .returned v ∧ w'.ownsRow w.heap.size 9 1 v s.size (strCells (endsL (L s))) ∧ Below w.heap.size w w' := by
  obtain ⟨i0, hi0, hz0, hz1, hz2⟩ := info_parts info_str
  have HZ : Hid ((L s).length = s.size) := L_len s
  go_enter Try.func18, Try.ntmps18
  go_wp2_with fail
  go_loopw [7, 3] (fun iv a wr => ∃ i : Nat, i ≤ s.size ∧ iv = .int .i64 (i : Int) ∧ wr.ownsRow w.heap.size 9 1 a i (strCells (dropsL (L s) i)) ∧ Below w.heap.size w wr) (fun iv _ _ => s.size - (intOf iv).toNat)
  case atStart => exact ⟨0, Nat.zero_le _, rfl, World.ownsRow_nil _ _ _ _, Below.refl _ _⟩
  case round =>
    obtain ⟨i, hi, rfl, hown, hb⟩ := hrel
    by_cases hlt : i < s.size
    · have g1 : decide (i < s.size) = true := decide_eq_true hlt
      have g1' : decide ((i : Int) < (s.size : Int)) = true := decide_eq_true (by omega)
      obtain ⟨l, hl⟩ : ∃ l, dropsL (L s) i = l := ⟨_, rfl⟩
      have hll : l.length = i := by rw [← hl, dropsL_len]
      rw [hl, ← hll] at hown
      have HLL := Lib.hid hll
      have hbd : l.length ≤ 200 := by omega
      clear hll
      have HN : Hid (l ++ [(L s).drop i] = dropsL (L s) (i + 1)) := by unfold Hid; rw [dropsL_succ, hl]
      clear hl
      have HOWN := Lib.hid hown
      clear hown
      have HX : Hid (s.extract i s.size = S ((L s).drop i)) := by
        unfold Hid
        rw [extract_S, List.take_of_length_le (by rw [List.length_drop, HZ.out]; exact Nat.le_refl _)]
      go_wp2_with (at_builtin; go_must (refine wpList_appG rfl _ _ _ rfl w.heap.size 9 i0 _ 1 16 Try.underlying36 hi0 hz0 hz1 hz2 rfl (by omega) _ l.length (strCells l) rfl (World.ownsRow.alloc (w := wr) HOWN.out _) ⟨wr.heap.size, 0, none⟩ 1 1 [.string (s.extract i s.size)] rfl rfl (cell_one_new _ _ _) (by simp [Value.oneCell']) (by omega) (by omega) (by have := (hb).size; simp at this ⊢; omega) ?_); intro v6 w6 hown6 hg6 hb6; have hb6' := ((hb).alloc (hb).size _).trans hb6)
      clear hg6 hb6
      go_roundw
      case rel =>
        refine ⟨i + 1, by omega, by go_num, ?_, hb6'⟩
        rw [← HN.out, ← strCells_snoc', ← HX.out]
        rw [HLL.out] at hown6
        exact hown6
      case measure => simp [intOf]; omega
    · obtain rfl : i = s.size := by omega
      have g1 : decide (s.size < s.size) = false := decide_eq_false hlt
      have g1' : decide ((s.size : Int) < (s.size : Int)) = false := decide_eq_false (by omega)
      have HE : Hid (sortB (dropsL (L s) s.size) = endsL (L s)) := by
        unfold Hid; rw [← ends_sort, HZ.out]
      have hll := dropsL_len (L s) s.size
      generalize dropsL (L s) s.size = l at *
      rw [← hll] at hown
      have HLL := Lib.hid hll
      have hbd : l.length ≤ 200 := by omega
      clear hll
      go_wp2_with fail
      refine (sortStr_own l _ w wr hown hb (by omega)).mono ?_
      rintro e w2 ⟨rfl, hown2, hb2⟩
      rw [HE.out, HLL.out] at hown2
      go_wp2_with fail
      go_ret
      exact ⟨_, rfl, hown2, hb2⟩
set_option maxRecDepth 100000 in
set_option maxHeartbeats 4000000 in
theorem alikeB_any (a b : ByteArray) (ha : a.size ≤ 200) (hb : b.size ≤ 200) (w : World) :
    Calls Try.prog 19 #[.string a, .string b] w fun e w' => e = .returned (.int .i64 (lcpL (L a) (L b) : Nat)) ∧ Below w.heap.size w w' := by
  have HA : Hid ((L a).length = a.size) := L_len a
  have HB : Hid ((L b).length = b.size) := L_len b
  rcases Nat.lt_or_ge b.size a.size with hmn | hmn
  all_goals
    go_enter Try.func19, Try.ntmps19
    go_wp2
    go_loopw [5] (fun nv wr => ∃ n m : Nat, nv = .int .i64 (n : Int) ∧ n ≤ a.size ∧ n ≤ b.size ∧ Hid ((L a).take n = (L b).take n) ∧ wr = w.drewN m) (fun nv _ => a.size - (intOf nv).toNat)
    case atStart => exact ⟨0, 0, rfl, Nat.zero_le _, Nat.zero_le _, Lib.hid (by simp), rfl⟩
    case round =>
      obtain ⟨n, m, rfl, hna, hnb, HT, rfl⟩ := hrel
      by_cases h1 : n < a.size ∧ n < b.size
      · obtain ⟨h1, h2⟩ := h1
        have e1 := getB a n h1
        have e2 := getB b n h2
        have g1 : decide ((n : Int) < min (a.size : Int) (b.size : Int)) = true := decide_eq_true (by omega)
        by_cases he : a[n] = b[n]
        · have g2 : ((a[n].toNat : Int) == (b[n].toNat : Int)) = true := by rw [he]; exact beq_self_eq_true _
          have HN := Lib.hid (take_more HT.out (by rw [HA.out]; exact h1) (by rw [HB.out]; exact h2) (by rw [← e1, ← e2]; exact he))
          clear e1 e2 he
          go_wp2
          go_quiet (fail)
          go_wp2
          go_roundw
          case rel => exact ⟨n + 1, _, by go_num, by omega, by omega, HN, rfl⟩
          case measure => simp [intOf]; omega
        · have g2 : ((a[n].toNat : Int) == (b[n].toNat : Int)) = false := by
            rw [beq_eq_false_iff_ne]; intro h; exact he (UInt8.toNat_inj.1 (by omega))
          have HN := Lib.hid (lcpL_is (by rw [HA.out]; exact hna) (by rw [HB.out]; exact hnb) HT.out (.inr (.inr (by rw [← e1, ← e2]; exact he))))
          clear e1 e2 he
          go_wp2
          go_quiet (fail)
          go_wp2
          go_ret
          exact ⟨ret_int (by rw [HN.out]), (by repeat (first | exact Below.refl _ _ | assumption | refine Below.alloc ?_ (by first | exact Nat.le_refl _ | assumption | omega | (simp <;> omega)) _ | refine Below.setCell ?_ (by first | exact Nat.le_refl _ | assumption | omega | (simp <;> omega)) _ | refine Below.drew ?_ | refine below_drewN ?_ _))⟩
      · have HN := Lib.hid (lcpL_is (m := n) (by rw [HA.out]; exact hna) (by rw [HB.out]; exact hnb) HT.out (by rw [HA.out, HB.out]; omega))
        have g1 : decide ((n : Int) < min (a.size : Int) (b.size : Int)) = false := decide_eq_false (by omega)
        clear h1
        go_wp2
        go_quiet (fail)
        go_wp2
        go_ret
        exact ⟨ret_int (by rw [HN.out]), (by repeat (first | exact Below.refl _ _ | assumption | refine Below.alloc ?_ (by first | exact Nat.le_refl _ | assumption | omega | (simp <;> omega)) _ | refine Below.setCell ?_ (by first | exact Nat.le_refl _ | assumption | omega | (simp <;> omega)) _ | refine Below.drew ?_ | refine below_drewN ?_ _))⟩
end Go.Proofs.Ytmmamdjbbpeifaa
