/- The document's words of so many signs, and its counts: walked. -/
import Derived.Test.YtolnhplgaolieaaRingW
namespace Go.Proofs.Ytolnhplgaolieaa
open Go.RowKit
def rowW (k : Nat) (x : List UInt8) : List (List UInt8) := (List.range k).map fun c => x ++ [sg c]
theorem allW_succ (k n : Nat) : allW k (n + 1) = (allW k n).flatMap (rowW k) := rfl
theorem rowW_len (k : Nat) (x : List UInt8) : (rowW k x).length = k := by simp [rowW]
theorem rowW_take (k : Nat) (x : List UInt8) {c : Nat} (h : c < k) : (rowW k x).take (c + 1) = (rowW k x).take c ++ [x ++ [sg c]] := by
  unfold rowW
  rw [← List.map_take, ← List.map_take, List.take_range, List.take_range, Nat.min_eq_left (by omega), Nat.min_eq_left (by omega), List.range_succ, List.map_append]
  rfl
theorem flat_rows_len (k : Nat) (l : List (List UInt8)) : (l.flatMap (rowW k)).length = l.length * k := by
  induction l with
  | nil => simp
  | cons x l ih => rw [List.flatMap_cons, List.length_append, ih, rowW_len, List.length_cons, Nat.add_mul]; omega
theorem allW_len (k : Nat) : ∀ n, (allW k n).length = kp k n
  | 0 => rfl
  | n + 1 => by rw [allW_succ, flat_rows_len, allW_len k n, kp_succ]
theorem allW_mem (k : Nat) : ∀ n, ∀ x ∈ allW k n, x.length = n
  | 0, x, h => by simp [allW] at h; subst h; rfl
  | n + 1, x, h => by
    rw [allW_succ] at h
    obtain ⟨y, hy, hx⟩ := List.mem_flatMap.1 h
    obtain ⟨c, _, rfl⟩ := List.mem_map.1 hx
    rw [List.length_append, allW_mem k n y hy]; rfl
theorem flat_take (k : Nat) (l : List (List UInt8)) {i : Nat} (h : i < l.length) : (l.take (i + 1)).flatMap (rowW k) = (l.take i).flatMap (rowW k) ++ rowW k l[i] := by
  rw [List.take_succ_eq_append_getElem h, List.flatMap_append]; simp
theorem sg_int {c : Nat} (h : c < 8) : (97 : Int) + (c : Int) = ((sg c).toNat : Int) := by
  unfold sg
  rw [UInt8.toNat_add, UInt8.toNat_ofNat']
  show _ = (((97 + c % 256) % 256 : Nat) : Int)
  omega
theorem strCells_app (a b : List (List UInt8)) : strCells (a ++ b) = strCells a ++ strCells b := by simp [strCells]
theorem own_str_snoc {w : World} {base : Nat} {v : Value} {l : List (List UInt8)} {y : List UInt8} {z : ByteArray} (h : w.ownsRow base 9 1 v (l.length + 1) (strCells l ++ [.string z])) (e : z = S y) :
    w.ownsRow base 9 1 v (l ++ [y]).length (strCells (l ++ [y])) := by
  subst e
  rw [List.length_append, List.length_singleton, strCells_app]; exact h
/-- A slice of words, wherever it lies. -/
def WordsAt (w : World) (l : List (List UInt8)) (v : Value) : Prop := ∃ A c, v = .slice A l.length c ∧ Rd w w.heap.size 1 A l.length (strCells l)
set_option maxRecDepth 100000 in
set_option maxHeartbeats 2000000 in
theorem allWords_any (k n : Nat) (h1 : 1 ≤ k) (h8 : k ≤ 8) (hn5 : n ≤ 512) (h : kp k n ≤ 512) (w : World) :
    Calls Try.prog 127 #[.int .i64 (k : Int), .int .i64 (n : Int)] w fun e w' => ∃ v, e = .returned v ∧ WordsAt w' (allW k n) v ∧ Below w.heap.size w w' := by
  obtain ⟨i0, hi0, hz0, hz1, hz2⟩ := info_parts info_str
  have HK : Hid (∀ j, j ≤ n → (allW k j).length ≤ 512) := fun j hj => by rw [allW_len]; exact Nat.le_trans (kp_mono h1 hj) h
  have HM : Hid (∀ j, ∀ x ∈ allW k j, x.length = j) := allW_mem k
  clear h
  have HA0 : Hid (Rd (w.alloc (.cells #[.string ⟨#[]⟩] 9)) (w.alloc (.cells #[.string ⟨#[]⟩] 9)).heap.size 1 (some ⟨w.heap.size, 0, none⟩) 1 (strCells (allW k 0))) := Rd.new_ (size := 1) (n := 1) w _ _ (by simp) rfl
  have hb0 : Below w.heap.size w (w.alloc (.cells #[.string ⟨#[]⟩] 9)) := (Below.refl _ _).alloc (Nat.le_refl _) _
  go_enter Try.func127, Try.ntmps127
  go_wp2_with fail
  go_loopw [5, 12] (fun o i wr => ∃ (j : Nat) (A : Option Addr) (m c : Nat), j ≤ n ∧ i = .int .i64 j ∧ o = .slice A m c ∧ m = (allW k j).length ∧ Rd wr wr.heap.size 1 A m (strCells (allW k j)) ∧ Below w.heap.size w wr) (fun _ i _ => n - (intOf i).toNat)
  case atStart => exact ⟨0, _, 1, 1, Nat.zero_le _, rfl, rfl, rfl, HA0.out, hb0⟩
  case round =>
    clear HA0 hb0
    obtain ⟨j, A, m, c, hj, rfl, rfl, hm, hrd, hb⟩ := hrel
    have HR := Lib.hid hrd
    have HMM := Lib.hid hm
    clear hrd hm
    by_cases hlt : j < n
    · have g1 : decide ((j : Int) < (n : Int)) = true := decide_eq_true (by omega)
      have hk1 := HK.out (j + 1) hlt
      have hml : m ≤ 512 := by rw [HMM.out]; exact HK.out j (by omega)
      have HSU : Hid (allW k (j + 1) = (allW k j).flatMap (rowW k)) := rfl
      have HXL := Lib.hid (HM.out j)
      have HK1 := Lib.hid hk1
      clear hk1
      generalize allW k j = l at *
      have HLF : Hid (∀ i c, i < l.length → c ≤ k → (((l.take i).flatMap (rowW k)).length + c ≤ 512)) := fun i c hi hc => by
        have h2 := HK1.out
        rw [HSU.out, flat_rows_len] at h2
        rw [flat_rows_len, List.length_take, Nat.min_eq_left (by omega)]
        have h3 := Nat.mul_le_mul_right k (show i + 1 ≤ l.length by omega)
        rw [Nat.add_mul] at h3; omega
      obtain ⟨wo, hwo⟩ : ∃ wo : World, wo = wr := ⟨_, rfl⟩
      subst hwo
      have hbo := hb.size
      go_wp2_with fail
      go_loopw [6, 16] (fun o i w2 => ∃ i' : Nat, i' ≤ m ∧ i = .int .i64 i' ∧ w2.ownsRow wo.heap.size 9 1 o ((l.take i').flatMap (rowW k)).length (strCells ((l.take i').flatMap (rowW k))) ∧ Below wo.heap.size wo w2) (fun _ i _ => m - (intOf i).toNat)
      case atStart => exact ⟨0, Nat.zero_le _, rfl, World.ownsRow_nil _ _ _ _, Below.refl _ _⟩
      case round =>
        obtain ⟨i', hi', rfl, ho, hb2⟩ := hrel
        have HO := Lib.hid ho
        clear ho
        by_cases hlm : i' < m
        · have g2 : decide ((i' : Int) < (m : Int)) = true := decide_eq_true (by omega)
          have hil : i' < l.length := by rw [← HMM.out]; exact hlm
          obtain ⟨ad, u, rfl, hab, hu, hc⟩ := (HR.out.below hb2).at_ hlm
          rw [strCells, List.getElem?_map, List.getElem?_eq_getElem hil] at hu
          obtain rfl := Option.some.inj hu
          have HFT := Lib.hid (flat_take k l hil)
          have HXI : Hid (l[i'].length = j) := HXL.out _ (List.getElem_mem hil)
          have HLI : Hid (∀ c, c ≤ k → ((l.take i').flatMap (rowW k)).length + c ≤ 512) := fun c hc => HLF.out i' c hil hc
          clear hu
          generalize l[i'] = x at *
          generalize hq : (l.take i').flatMap (rowW k) = q at *
          clear hq
          have HO0 : Hid (wr.ownsRow wo.heap.size 9 1 u6 (q ++ (rowW k x).take 0).length (strCells (q ++ (rowW k x).take 0))) := by unfold Hid; rw [List.take_zero, List.append_nil]; exact HO.out
          go_wp2_with fail
          go_loopw [6, 21] (fun o c w3 => ∃ c' : Nat, c' ≤ k ∧ c = .int .i64 c' ∧ w3.ownsRow wo.heap.size 9 1 o (q ++ (rowW k x).take c').length (strCells (q ++ (rowW k x).take c')) ∧ Below wo.heap.size wo w3) (fun _ c _ => k - (intOf c).toNat)
          case atStart => exact ⟨0, Nat.zero_le _, rfl, HO0.out, hb2⟩
          case round =>
            clear HO0 hb2 HO
            obtain ⟨c', hc', rfl, ho3, hb3⟩ := hrel
            by_cases hlc : c' < k
            · have g3 : decide ((c' : Int) < (k : Int)) = true := decide_eq_true (by omega)
              have e7 : (97 : Int) + (c' : Int) = ((sg c').toNat : Int) := sg_int (by omega)
              have HTK := Lib.hid (rowW_take k x hlc)
              have hql : (q ++ (rowW k x).take c').length ≤ 512 := by rw [List.length_append, List.length_take, rowW_len, Nat.min_eq_left hc']; exact HLI.out c' hc'
              have HO3 := Lib.hid ho3
              have hxz : (S x).size ≤ 512 := by rw [S_size, HXI.out]; omega
              have hcv := fun W => conv_new (P := Try.prog) Try.underlying52 Try.underlying5 Try.underlying9 W #[.int .u8 ((sg c').toNat : Int)] [sg c'] 1 1 rfl rfl
              have hz1' : (S [sg c']).size ≤ 1 := by rw [S_size]; simp
              have hb3s := hb3.size
              clear ho3
              go_wp2_with (at_builtin; go_must (refine wpList_appG rfl _ _ _ rfl wo.heap.size 9 i0 _ 1 16 Try.underlying44 hi0 hz0 hz1 hz2 rfl (by omega) _ (q ++ (rowW k x).take c').length (strCells (q ++ (rowW k x).take c')) rfl ((HO3.out.alloc _).alloc _) ⟨wr.heap.size + 1, 0, none⟩ 1 1 [.string (S x ++ S [sg c'])] rfl rfl (by have := cell_one_new (wr.alloc (.cells #[.int .u8 ((sg c').toNat : Int)] 5)) (.string (S x ++ S [sg c'])) 9; rw [World.size_alloc] at this; exact this) (by simp [Value.oneCell']) (by omega) (by omega) (by simp; omega) ?_); intro v6 w6 hown6 hg6 hb6)
              have HO6 : Hid (w6.ownsRow wo.heap.size 9 1 v6 (q ++ (rowW k x).take (c' + 1)).length (strCells (q ++ (rowW k x).take (c' + 1)))) := by
                unfold Hid
                rw [HTK.out, ← List.append_assoc]
                exact own_str_snoc hown6 (by rw [append_S, L_S, L_S])
              have hb6' : Below wo.heap.size wo w6 := ((hb3.alloc hb3s _).alloc (by simp; omega) _).trans hb6
              clear hown6 hg6 hb6 hcv HO3 e7
              go_roundw
              case rel => exact ⟨c' + 1, hlc, by go_num, HO6.out, hb6'⟩
              case measure => simp [intOf]; omega
            · obtain rfl : c' = k := by omega
              have g3 : decide ((c' : Int) < (c' : Int)) = false := by simp
              rw [List.take_of_length_le (by rw [rowW_len]; exact Nat.le_refl _), ← HFT.out] at ho3
              have HO3 := Lib.hid ho3
              clear ho3
              go_wp2_with fail
              go_roundw
              case rel => exact ⟨i' + 1, hlm, by go_num, HO3.out, hb3⟩
              case measure => simp [intOf]; omega
        · obtain rfl : i' = m := by omega
          have g2 : decide ((i' : Int) < (i' : Int)) = false := by simp
          obtain ⟨A6, c6, rfl, hc6, hcm6, hrd6⟩ := own_form HO.out
          have HQ6 : Hid ((l.take i').flatMap (rowW k) = allW k (j + 1)) := by unfold Hid; rw [HSU.out, List.take_of_length_le (by rw [← HMM.out]; exact Nat.le_refl _)]
          rw [HQ6.out] at hrd6
          have HR6 := Lib.hid hrd6
          have hb6 := bthen hb hb2
          have HLE : Hid (((l.take i').flatMap (rowW k)).length = (allW k (j + 1)).length) := by unfold Hid; rw [HQ6.out]
          clear hrd6
          go_wp2_with fail
          go_roundw
          case rel => exact ⟨j + 1, A6, _, c6, hlt, by go_num, rfl, HLE.out, by rw [HLE.out]; exact HR6.out, hb6⟩
          case measure => simp [intOf]; omega
    · obtain rfl : j = n := by omega
      have g1 : decide ((j : Int) < (j : Int)) = false := by simp
      have hmm := HMM.out
      subst hmm
      go_wp2_with fail
      go_ret
      exact ⟨_, rfl, ⟨_, _, rfl, HR.out⟩, hb⟩
open Go.RowKit
theorem leastW_any (x : List UInt8) (hx : x.length ≤ 512) (w : World) :
    Calls Try.prog 33 #[.string (S x)] w fun e w' => (∃ (y : List UInt8) (m : Int), e = .returned (.tuple #[.string (S y), .int .i64 m]) ∧ (y = x ↔ isLst x = true)) ∧ Below w.heap.size w w' := by
  refine (leastTurn_512 (S x) (by rw [S_size]; exact hx) w).mono ?_
  rintro e w' ⟨rfl, hb⟩
  refine ⟨⟨_, _, rfl, ?_⟩, hb⟩
  rw [L_S, S_size]
  unfold isLst
  rw [decide_eq_true_iff]
theorem S_ne {a b : List UInt8} (h : a ≠ b) : ((S a).toList == (S b).toList) = false := by
  rw [beq_eq_false_iff_ne]
  intro e
  rw [ByteArray.toList_eq, ByteArray.toList_eq] at e
  exact h e
theorem countP_snoc {α : Type} (p : α → Bool) (l : List α) {i : Nat} (h : i < l.length) : (l.take (i + 1)).countP p = (l.take i).countP p + if p l[i] = true then 1 else 0 := by
  rw [List.take_succ_eq_append_getElem h, List.countP_append, List.countP_singleton]
set_option maxRecDepth 100000 in
set_option maxHeartbeats 2000000 in
theorem ringsOf_any (k n : Nat) (h1 : 1 ≤ k) (h8 : k ≤ 8) (hn5 : n ≤ 512) (h : kp k n ≤ 512) (w : World) :
    Calls Try.prog 81 #[.int .i64 (k : Int), .int .i64 (n : Int)] w fun e w' => e = .returned (.tuple #[.int .i64 ((allW k n).countP isLst : Nat), .int .i64 ((allW k n).countP lynB : Nat)]) ∧ Below w.heap.size w w' := by
  have HM := Lib.hid (allW_mem k n)
  have hl5 : (allW k n).length ≤ 512 := by rw [allW_len]; exact h
  have HAW := Lib.hid (allWords_any k n h1 h8 hn5 h)
  clear h
  generalize allW k n = l at *
  go_enter Try.func81, Try.ntmps81
  go_wp2_with fail
  refine (HAW.out _).mono ?_
  rintro e w1 ⟨v, rfl, ⟨A, c, rfl, hrd⟩, hb1⟩
  have HR := Lib.hid hrd
  clear hrd HAW
  go_wp2_with fail
  go_loopw [6, 7, 16] (fun a b i wr => ∃ t : Nat, t ≤ l.length ∧ i = .int .i64 t ∧ a = .int .i64 ((l.take t).countP isLst : Nat) ∧ b = .int .i64 ((l.take t).countP lynB : Nat) ∧ Below w1.heap.size w1 wr) (fun _ _ i _ => l.length - (intOf i).toNat)
  case atStart => exact ⟨0, Nat.zero_le _, rfl, rfl, rfl, Below.refl _ _⟩
  case round =>
    obtain ⟨t, ht, rfl, rfl, rfl, hb⟩ := hrel
    have hc1 : (l.take t).countP isLst ≤ 512 := Nat.le_trans List.countP_le_length (by rw [List.length_take]; omega)
    have hc2 : (l.take t).countP lynB ≤ 512 := Nat.le_trans List.countP_le_length (by rw [List.length_take]; omega)
    by_cases hlt : t < l.length
    · have g1 : decide ((t : Int) < (l.length : Int)) = true := decide_eq_true (by omega)
      have g1' : decide (t < l.length) = true := decide_eq_true hlt
      obtain ⟨ad, u, rfl, hab, hu, hc⟩ := (HR.out.below hb).at_ hlt
      rw [strCells, List.getElem?_map, List.getElem?_eq_getElem hlt] at hu
      obtain rfl := Option.some.inj hu
      have HC1 := Lib.hid (countP_snoc isLst l hlt)
      have HC2 := Lib.hid (countP_snoc lynB l hlt)
      have hxl : l[t].length = n := HM.out _ (List.getElem_mem hlt)
      have hx5 : l[t].length ≤ 512 := by omega
      have HX5 := Lib.hid hx5
      have HLW := Lib.hid (leastW_any l[t] hx5)
      have HLY : Hid (∀ W, Calls Try.prog 32 #[.string (S l[t])] W fun e w' => e = .returned (.bool (lynB l[t])) ∧ Below W.heap.size W w') := fun W => by
        have := refLyndon_512 (S l[t]) (by rw [S_size]; exact hx5) W
        rw [L_S] at this; exact this
      clear hu hxl hx5
      generalize l[t] = x at *
      generalize (l.take t).countP isLst = q1 at *
      generalize (l.take t).countP lynB = q2 at *
      go_wp2_with fail
      refine (HLW.out _).mono ?_
      rintro e w2 ⟨⟨y, m, rfl, hy⟩, hb2⟩
      have hb2' := bthen hb hb2
      have HY := Lib.hid hy
      clear hy HLW
      cases hil : isLst x with
      | true =>
        have hyx := HY.out.2 hil
        subst hyx
        have HN1 : Hid ((l.take (t + 1)).countP isLst = q1 + 1) := by unfold Hid; rw [HC1.out, if_pos hil]
        clear HY HC1 hil
        have g2 : ((S y).toList == (S y).toList) = true := by simp
        go_wp2_with fail
        refine (HLY.out _).mono ?_
        rintro e w3 ⟨rfl, hb3⟩
        have hb3' := bthen hb2' hb3
        clear HLY
        generalize hly : lynB _ = ly at *
        cases ly with
        | true =>
          have HN2 : Hid ((l.take (t + 1)).countP lynB = q2 + 1) := by unfold Hid; rw [HC2.out]; first | rw [if_pos hly] | rfl | simp
          clear HC2 hly
          go_wp2_with fail
          go_roundw
          case rel => exact ⟨t + 1, hlt, by go_num, by rw [HN1.out] <;> go_num, by rw [HN2.out]; go_num, hb3'⟩
          case measure => simp [intOf]; omega
        | false =>
          have HN2 : Hid ((l.take (t + 1)).countP lynB = q2) := by unfold Hid; rw [HC2.out]; first | (rw [if_neg (by rw [hly]; simp)]; done) | rfl | simp
          clear HC2 hly
          go_wp2_with fail
          go_roundw
          case rel => exact ⟨t + 1, hlt, by go_num, by rw [HN1.out] <;> go_num, by rw [HN2.out], hb3'⟩
          case measure => simp [intOf]; omega
      | false =>
        have hyx : y ≠ x := fun e => by rw [HY.out.1 e] at hil; cases hil
        have HN1 : Hid ((l.take (t + 1)).countP isLst = q1) := by unfold Hid; rw [HC1.out, hil]; rfl
        have g2 := S_ne hyx
        clear HY HC1 hil hyx
        go_wp2_with fail
        refine (HLY.out _).mono ?_
        rintro e w3 ⟨rfl, hb3⟩
        have hb3' := bthen hb2' hb3
        clear HLY
        generalize hly : lynB _ = ly at *
        cases ly with
        | true =>
          have HN2 : Hid ((l.take (t + 1)).countP lynB = q2 + 1) := by unfold Hid; rw [HC2.out]; first | rw [if_pos hly] | rfl | simp
          clear HC2 hly
          go_wp2_with fail
          go_roundw
          case rel => exact ⟨t + 1, hlt, by go_num, by rw [HN1.out] <;> go_num, by rw [HN2.out]; go_num, hb3'⟩
          case measure => simp [intOf]; omega
        | false =>
          have HN2 : Hid ((l.take (t + 1)).countP lynB = q2) := by unfold Hid; rw [HC2.out]; first | (rw [if_neg (by rw [hly]; simp)]; done) | rfl | simp
          clear HC2 hly
          go_wp2_with fail
          go_roundw
          case rel => exact ⟨t + 1, hlt, by go_num, by rw [HN1.out] <;> go_num, by rw [HN2.out], hb3'⟩
          case measure => simp [intOf]; omega
    · obtain rfl : t = l.length := by omega
      have g1 : decide ((l.length : Int) < (l.length : Int)) = false := by simp
      have HT : Hid (l.take l.length = l) := List.take_length
      go_wp2_with fail
      go_ret2
      rw [HT.out]
      exact ⟨rfl, bthen hb1 hb⟩
end Go.Proofs.Ytolnhplgaolieaa
