/- dist.Near and dist.Swaps. -/
import Derived.Test.YthnedhfjochfnaaDistO
import Derived.Test.YthnedhfjochfnaaOwn2
import Derived.Test.YthnedhfjochfnaaLogW
namespace Go.Proofs.Ythnedhfjochfnaa
open Go.RowKit
/-- The places of the words that are near, of the first k. -/
def nearAt (a : List UInt8) (most : Int) (l : List (List UInt8)) (k : Nat) : List Int := ((List.range k).filter fun i => decide (((lev a (l.getD i []) : Nat) : Int) ≤ most)).map fun (i : Nat) => (i : Int)
theorem nearAt_zero (a : List UInt8) (most : Int) (l : List (List UInt8)) : nearAt a most l 0 = [] := rfl
theorem nearAt_hit {a : List UInt8} {most : Int} {l : List (List UInt8)} {k : Nat} (h : ((lev a (l.getD k []) : Nat) : Int) ≤ most) : nearAt a most l (k + 1) = nearAt a most l k ++ [(k : Int)] := by
  have e : List.filter (fun i => decide (((lev a (l.getD i []) : Nat) : Int) ≤ most)) [k] = [k] := List.filter_cons_of_pos (decide_eq_true h)
  unfold nearAt; rw [List.range_succ, List.filter_append, List.map_append, e]; rfl
theorem nearAt_miss {a : List UInt8} {most : Int} {l : List (List UInt8)} {k : Nat} (h : ¬ ((lev a (l.getD k []) : Nat) : Int) ≤ most) : nearAt a most l (k + 1) = nearAt a most l k := by
  have e : List.filter (fun i => decide (((lev a (l.getD i []) : Nat) : Int) ≤ most)) [k] = [] := List.filter_cons_of_neg (by show ¬ (decide _ = true); rw [decide_eq_true_iff]; exact h)
  unfold nearAt; rw [List.range_succ, List.filter_append, List.map_append, e]; simp
theorem nearAt_len (a : List UInt8) (most : Int) (l : List (List UInt8)) (k : Nat) : (nearAt a most l k).length ≤ k := by
  unfold nearAt; rw [List.length_map]; exact Nat.le_trans (List.length_filter_le _ _) (by simp)
theorem ints_app (l m : List Int) : ints (l ++ m) = ints l ++ ints m := by simp [ints]
theorem str_cell {w : World} {B n k : Nat} {A : Option Addr} {l : List (List UInt8)} (hr : Rd w B 1 A n (strCells l)) (hk : k < n) :
    ∃ ad : Addr, A = some ad ∧ ad.block < B ∧ w.cell? (ad.add k) = some (.string (S (l.getD k []))) := by
  have hlen : l.length = n := by have := hr.1; simpa [strCells] using this
  obtain ⟨ad, u, hA, hb, hu, hc⟩ := hr.at_ hk
  rw [strCells_at l k (by omega)] at hu
  obtain rfl := Option.some.inj hu
  exact ⟨ad, hA, hb, hc⟩
def nearErr (s : ByteArray) (l : List (List UInt8)) : Int := if 200 < s.size ∨ 200 < l.length ∨ ∃ x ∈ l, 200 < x.length then 2 else 0
theorem nearS (s : ByteArray) (h : 200 < s.size) (most : Int) (A : Option Addr) (n c : Nat) (w : World) :
    Calls Try.prog 55 #[.string s, .slice A n c, .int .i64 most] w fun e w' => e = .returned (.tuple #[.slice none 0 0, .int .i64 2]) ∧ Below w.heap.size w w' := by
  have HE : Hid (longErr s.size = 2) := by unfold Hid longErr; rw [if_pos h]
  clear h
  go_enter Try.func55, Try.ntmps55
  go_wp2_with fail
  refine (wordCheck_any s _).mono ?_
  rintro e w1 ⟨rfl, hb1⟩
  rw [HE.out]
  go_wp2_with fail
  go_ret2
  exact ⟨rfl, hb1⟩
theorem nearC (s : ByteArray) (hs : s.size ≤ 200) (most : Int) (A : Option Addr) (n c : Nat) (hn : 200 < n) (w : World) :
    Calls Try.prog 55 #[.string s, .slice A n c, .int .i64 most] w fun e w' => e = .returned (.tuple #[.slice none 0 0, .int .i64 2]) ∧ Below w.heap.size w w' := by
  have HE : Hid (longErr s.size = 0) := by unfold Hid longErr; rw [if_neg (by omega)]
  have g1 : decide ((200 : Int) < (n : Int)) = true := decide_eq_true (by omega)
  clear hs hn
  go_enter Try.func55, Try.ntmps55
  go_wp2_with fail
  refine (wordCheck_any s _).mono ?_
  rintro e w1 ⟨rfl, hb1⟩
  rw [HE.out]
  go_wp2_with fail
  go_ret2
  exact ⟨rfl, hb1⟩
set_option maxRecDepth 100000 in
set_option maxHeartbeats 4000000 in
theorem nearL (s : ByteArray) (hs : s.size ≤ 200) (most : Int) (l : List (List UInt8)) (A : Option Addr) (n c B : Nat) (hn : n ≤ 200) (w : World) (hr : Rd w B 1 A n (strCells l)) (hB : B ≤ w.heap.size) :
    Calls Try.prog 55 #[.string s, .slice A n c, .int .i64 most] w fun e w' => ∃ v x, e = .returned (.tuple #[v, .int .i64 x]) ∧
      ((∃ x ∈ l, 200 < x.length) → x = 2 ∧ v = .slice none 0 0) ∧ ((¬ ∃ x ∈ l, 200 < x.length) → x = 0 ∧ w'.ownsRow w.heap.size 3 1 v (nearAt (L s) most l n).length (ints (nearAt (L s) most l n))) ∧ Below w.heap.size w w' := by
  obtain ⟨i0, hi0, hz0, hz1, hz2⟩ := info_parts info_int
  have hlen : l.length = n := by have := hr.1; simpa [strCells] using this
  have HLN := Lib.hid hlen
  have HR := Lib.hid hr
  clear hr hlen
  have HE : Hid (longErr s.size = 0) := by unfold Hid longErr; rw [if_neg (by omega)]
  have g1 : decide ((200 : Int) < (n : Int)) = false := decide_eq_false (by omega)
  go_enter Try.func55, Try.ntmps55
  go_wp2_with fail
  refine (wordCheck_any s _).mono ?_
  rintro e w1 ⟨rfl, hb1⟩
  rw [HE.out]
  go_wp2_with fail
  go_loopw [9, 24] (fun o i wr => ∃ k : Nat, k ≤ n ∧ i = .int .i64 k ∧ (∀ x ∈ l.take k, ¬ 200 < x.length) ∧ wr.ownsRow w.heap.size 3 1 o (nearAt (L s) most l k).length (ints (nearAt (L s) most l k)) ∧ Below w.heap.size w wr) (fun _ i _ => n - (intOf i).toNat)
  case atStart => exact ⟨0, Nat.zero_le _, rfl, by simp, World.ownsRow_nil _ _ _ _, hb1⟩
  case round =>
    clear hb1
    obtain ⟨k, hk, rfl, hno, hown, hb⟩ := hrel
    have HNO := Lib.hid hno; clear hno
    by_cases hlt : k < n
    · have g2 : decide ((k : Int) < (n : Int)) = true := decide_eq_true (by omega)
      obtain ⟨ad, rfl, hab, hc⟩ := str_cell (HR.out.below (hb.mono hB)) hlt
      have HG : Hid (l[k]? = some (l.getD k [])) := by
        unfold Hid; have := HLN.out
        rw [List.getD_eq_getElem?_getD, List.getElem?_eq_getElem (by omega)]; rfl
      have HOWN := Lib.hid hown
      have HQ1 : Hid (((lev (L s) (l.getD k []) : Nat) : Int) ≤ most → nearAt (L s) most l (k + 1) = nearAt (L s) most l k ++ [(k : Int)]) := nearAt_hit
      have HQ0 : Hid (¬ ((lev (L s) (l.getD k []) : Nat) : Int) ≤ most → nearAt (L s) most l (k + 1) = nearAt (L s) most l k) := nearAt_miss
      clear hown
      generalize l.getD k [] = x at *
      by_cases hx : 200 < x.length
      · have HX := Lib.hid hx
        clear hx
        go_wp2_with fail
        refine (distOf_long s _ (.inr (by rw [S_size]; exact HX.out)) _).mono ?_
        rintro e w5 ⟨rfl, hb5⟩
        go_wp2_with fail
        go_ret2
        exact ⟨_, _, rfl, fun _ => ⟨rfl, rfl⟩, fun h => absurd ⟨_, List.mem_of_getElem? HG.out, HX.out⟩ h, bthen hb hb5⟩
      · have HN1 : Hid (∀ x ∈ l.take (k + 1), ¬ 200 < x.length) := by
          intro y hx'
          rw [List.take_add_one, HG.out] at hx'
          simp only [List.mem_append, Option.toList_some, List.mem_singleton] at hx'
          rcases hx' with hx' | rfl
          · exact HNO.out y hx'
          · exact hx
        have hql := nearAt_len (L s) most l k
        have HX := Lib.hid hx
        clear hx
        go_wp2_with fail
        refine (distOf_any s _ hs (by rw [S_size]; have := HX.out; omega) _).mono ?_
        rintro e w5 ⟨rfl, hb5⟩
        rw [L_S]
        have hown := own_below HOWN.out hb5
        have hb5' := bthen hb hb5
        clear hb HOWN hc hb5
        by_cases hd : ((lev (L s) x : Nat) : Int) ≤ most
        · have g3 : decide (((lev (L s) x : Nat) : Int) ≤ most) = true := decide_eq_true hd
          have HQ := Lib.hid (HQ1.out hd)
          clear hd
          clear HQ1 HQ0
          generalize lev (L s) x = d at *
          generalize nearAt (L s) most l k = q at *
          go_wp2_with (at_builtin; go_must (refine wpList_appG rfl _ _ _ rfl w.heap.size 3 i0 _ 1 8 Try.underlying22 hi0 hz0 hz1 hz2 rfl (by omega) _ q.length (ints q) rfl (hown.alloc _) ⟨w5.heap.size, 0, none⟩ 1 1 [.int .i64 (k : Int)] rfl rfl (cell_one_new _ _ _) (by simp [Value.oneCell']) (by omega) (by omega) (by have := hb5'.size; simp; omega) ?_); intro v6 w6 hown6 hg6 hb6)
          have hb6' := (hb5'.alloc hb5'.size _).trans hb6
          clear hg6 hb6 hown
          go_roundw
          case rel =>
            refine ⟨k + 1, by omega, by go_num, HN1.out, ?_, hb6'⟩
            rw [HQ.out, ints_app, List.length_append]
            exact hown6
          case measure => simp [intOf]; omega
        · have g3 : decide (((lev (L s) x : Nat) : Int) ≤ most) = false := decide_eq_false hd
          have HQ := Lib.hid (HQ0.out (by omega))
          have HO := Lib.hid hown
          clear hd hown
          go_wp2_with fail
          go_roundw
          case rel => exact ⟨k + 1, by omega, by go_num, HN1.out, by rw [HQ.out]; exact HO.out, hb5'⟩
          case measure => simp [intOf]; omega
    · obtain rfl : k = n := by omega
      have g2 : decide ((k : Int) < (k : Int)) = false := decide_eq_false (by omega)
      have HOWN := Lib.hid hown
      clear hown
      go_wp2_with fail
      go_ret2
      have hno : ¬ ∃ x ∈ l, 200 < x.length := by
        rintro ⟨x, hx, h2⟩
        have := HLN.out
        exact HNO.out x (by rw [List.take_of_length_le (by omega)]; exact hx) h2
      exact ⟨_, _, rfl, fun h => absurd h hno, fun _ => ⟨rfl, HOWN.out⟩, hb⟩
/-- In how many of the first k places two texts are unlike. -/
def ham (a b : List UInt8) : Nat → Nat
  | 0 => 0
  | k + 1 => ham a b k + if a.getD k 0 = b.getD k 0 then 0 else 1
theorem ham_le (a b : List UInt8) (k : Nat) : ham a b k ≤ k := by
  induction k with
  | zero => exact Nat.le_refl _
  | succ k ih => rw [ham]; split <;> omega
theorem swaps_long (s t : ByteArray) (h : 200 < s.size ∨ 200 < t.size) (w : World) :
    Calls Try.prog 56 #[.string s, .string t] w fun e w' => e = .returned (.tuple #[.int .i64 0, .int .i64 2]) ∧ Below w.heap.size w w' := by
  have HV : Hid (longAll [s, t] = 2) := by unfold Hid; rw [long2, if_pos h]
  clear h
  go_enter Try.func56, Try.ntmps56
  go_wp2_with fail
  refine (sameCheck_any s t _).mono ?_
  rintro e w1 ⟨rfl, hb1⟩
  rw [HV.out]
  go_wp2_with fail
  go_ret2
  exact ⟨rfl, hb1⟩
theorem swaps_ne (s t : ByteArray) (hs : s.size ≤ 200) (ht : t.size ≤ 200) (h : ¬ s.size = t.size) (w : World) :
    Calls Try.prog 56 #[.string s, .string t] w fun e w' => e = .returned (.tuple #[.int .i64 0, .int .i64 3]) ∧ Below w.heap.size w w' := by
  have HV : Hid (longAll [s, t] = 0) := by unfold Hid; rw [long2, if_neg (by omega)]
  have g1 : ((s.size : Int) != (t.size : Int)) = true := by rw [bne_iff_ne]; omega
  have g2 : ((s.size : Int) == (t.size : Int)) = false := by rw [beq_eq_false_iff_ne]; omega
  go_enter Try.func56, Try.ntmps56
  go_wp2_with fail
  refine (sameCheck_any s t _).mono ?_
  rintro e w1 ⟨rfl, hb1⟩
  rw [HV.out]
  go_wp2_with fail
  go_ret2
  exact ⟨rfl, hb1⟩
set_option maxRecDepth 100000 in
set_option maxHeartbeats 4000000 in
theorem swaps_eq (s t : ByteArray) (hs : s.size ≤ 200) (ht : t.size = s.size) (w : World) :
    Calls Try.prog 56 #[.string s, .string t] w fun e w' => e = .returned (.tuple #[.int .i64 (ham (L s) (L t) s.size : Nat), .int .i64 0]) ∧ Below w.heap.size w w' := by
  have HV : Hid (longAll [s, t] = 0) := by unfold Hid; rw [long2, if_neg (by omega)]
  have g1 : ((s.size : Int) != (t.size : Int)) = false := by rw [ht]; simp
  have g2 : ((s.size : Int) == (t.size : Int)) = true := by rw [ht]; simp
  go_enter Try.func56, Try.ntmps56
  go_wp2_with fail
  refine (sameCheck_any s t _).mono ?_
  rintro e w1 ⟨rfl, hb1⟩
  rw [HV.out]
  go_wp2_with fail
  go_loopw [7, 22] (fun c i wr => ∃ k : Nat, k ≤ s.size ∧ i = .int .i64 k ∧ c = .int .i64 (ham (L s) (L t) k : Nat) ∧ Below w.heap.size w wr) (fun _ i _ => s.size - (intOf i).toNat)
  case atStart => exact ⟨0, Nat.zero_le _, rfl, rfl, hb1⟩
  case round =>
    clear hb1
    obtain ⟨k, hk, rfl, rfl, hb⟩ := hrel
    by_cases hlt : k < s.size
    · have hltt : k < t.size := by omega
      have g3 : decide ((k : Int) < (s.size : Int)) = true := decide_eq_true (by omega)
      have hh : ham (L s) (L t) (k + 1) = ham (L s) (L t) k + if s[k] = t[k] then 0 else 1 := by rw [ham, ← getB s k hlt, ← getB t k hltt]
      have hle := ham_le (L s) (L t) k
      by_cases he : s[k] = t[k]
      · rw [if_pos he] at hh
        have g4 : ((s[k].toNat : Int) == (t[k].toNat : Int)) = true := by rw [he]; simp
        have g5 : ((s[k].toNat : Int) != (t[k].toNat : Int)) = false := by rw [he]; simp
        have HH := Lib.hid hh
        clear he hh
        go_wp2_with fail
        go_quiet (fail)
        go_wp2_with fail
        go_roundw
        case rel => exact ⟨k + 1, by omega, by go_num, by rw [HH.out, Nat.add_zero], below_drewN hb _⟩
        case measure => simp [intOf]; omega
      · rw [if_neg he] at hh
        have g4 : ((s[k].toNat : Int) == (t[k].toNat : Int)) = false := by
          rw [beq_eq_false_iff_ne]; intro h; exact he (UInt8.toNat_inj.1 (by omega))
        have g5 : ((s[k].toNat : Int) != (t[k].toNat : Int)) = true := by
          rw [bne_iff_ne]; intro h; exact he (UInt8.toNat_inj.1 (by omega))
        have HH := Lib.hid hh
        clear he hh
        go_wp2_with fail
        go_quiet (fail)
        go_wp2_with fail
        go_roundw
        case rel => exact ⟨k + 1, by omega, by go_num, by rw [HH.out]; go_num, below_drewN hb _⟩
        case measure => simp [intOf]; omega
    · obtain rfl : k = s.size := by omega
      have g3 : decide ((s.size : Int) < (s.size : Int)) = false := decide_eq_false (by omega)
      go_wp2_with fail
      go_ret2
      exact ⟨rfl, hb⟩
theorem alike_int_true (A B : Option Addr) (n c d BA BB : Nat) (l : List Int) (w : World) (hn : n ≤ 9223372036854775807)
    (ha : Rd w BA 1 A n (ints l)) (hb : Rd w BB 1 B n (ints l)) :
    Calls Try.prog 58 #[.slice A n c, .slice B n d] w fun e w' => e = .returned (.bool true) ∧ Below w.heap.size w w' := by
  have Ha := Lib.hid ha; clear ha
  have Hb := Lib.hid hb; clear hb
  go_enter Try.func58, Try.ntmps58
  go_wp2_with fail
  refine (equal_int_true A B n c d BA BB l _ hn Ha.out Hb.out).mono ?_
  rintro e w' ⟨rfl, k, rfl⟩
  go_wp2_with fail
  go_ret
  exact ⟨rfl, below_drewN (Below.refl _ _) _⟩
end Go.Proofs.Ythnedhfjochfnaa
