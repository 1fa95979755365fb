/- rope.At; the parts of a text, as the document cuts them. -/
import Derived.Test.YtolnhplgaolieaaRopeG
import Derived.Test.YtolnhplgaolieaaWord3
import Derived.Test.YtolnhplgaolieaaLynW
namespace Go.Proofs.Ytolnhplgaolieaa
open Go.RowKit
/-- The first i parts, of K bytes each. -/
def pcs (K : Nat) (s : List UInt8) (i : Nat) : Parts := (List.range i).map fun j => (s.drop (j * K)).take K
def cnt (K n : Nat) : Nat := (n + K - 1) / K
def partsOf (K : Nat) (s : List UInt8) : Parts := pcs K s (cnt K s.length)
theorem pcs_len (K : Nat) (s : List UInt8) (i : Nat) : (pcs K s i).length = i := by simp [pcs]
theorem pcs_snoc (K : Nat) (s : List UInt8) (i : Nat) : pcs K s (i + 1) = pcs K s i ++ [(s.drop (i * K)).take K] := by
  unfold pcs; rw [List.range_succ, List.map_append]; rfl
theorem cnt_lt {K n i : Nat} (hK : 1 ≤ K) : i * K < n ↔ i < cnt K n := by
  unfold cnt
  rw [Nat.lt_div_iff_mul_lt (by omega)]
  omega
theorem cnt_le {K n : Nat} (hK : 1 ≤ K) : cnt K n ≤ n := by
  unfold cnt
  rcases Nat.eq_zero_or_pos n with h | h
  · subst h; rw [Nat.zero_add, Nat.div_eq_of_lt (by omega)]; exact Nat.le_refl _
  · rw [Nat.div_le_iff_le_mul_add_pred (by omega)]
    have : n ≤ K * n := Nat.le_mul_of_pos_left _ (by omega)
    omega
def atE (p : Parts) (i : Int) : Int := if ropeErr p ≠ 0 then ropeErr p else if i < 0 ∨ (tot p : Int) ≤ i then 1 else 0
def atV (p : Parts) (i : Int) : UInt8 := if atE p i = 0 then p.flatten.getD i.toNat 0 else 0
theorem flat_at (p : Parts) {k j : Nat} (hk : k < p.length) (hj : j < (p.getD k []).length) : p.flatten.getD (tot (p.take k) + j) 0 = (p.getD k []).getD j 0 := by
  have e : p = p.take k ++ (p.getD k [] :: p.drop (k + 1)) := by
    rw [List.getD_eq_getElem?_getD, List.getElem?_eq_getElem hk, Option.getD_some, ← List.drop_eq_getElem_cons hk, List.take_append_drop]
  generalize p.getD k [] = x at *
  have e2 : p.flatten = (p.take k).flatten ++ (x ++ (p.drop (k + 1)).flatten) := by
    conv => lhs; rw [e]
    rw [List.flatten_append, List.flatten_cons]
  rw [e2, List.getD_eq_getElem?_getD, List.getElem?_append_right (by unfold tot; omega)]
  unfold tot
  rw [Nat.add_sub_cancel_left, List.getElem?_append_left hj, ← List.getD_eq_getElem?_getD]
set_option maxRecDepth 100000 in
set_option maxHeartbeats 4000000 in
theorem ropeAt_any (p : Parts) (A : Option Addr) (n c B : Nat) (i : Int) (w : World) (hr : Rd w B 1 A n (strCells p)) (hB : B ≤ w.heap.size) (hn : n ≤ 9223372036854775807) (hsz : ∀ x ∈ p, x.length ≤ 9223372036854775807) (ha0 : -9223372036854775808 ≤ i) (ha1 : i ≤ 9223372036854775807) :
    Calls Try.prog 65 #[.agg #[.slice A n c], .int .i64 i] w fun e w' => e = .returned (.tuple #[.int .u8 ((atV p i).toNat : Int), .int .i64 (atE p i)]) ∧ Below w.heap.size w w' := by
  have hpn := strCells_len' hr
  have hb0 : Below w.heap.size w (w.alloc (.cells #[.slice A n c] 89)) := (by repeat (first | exact Below.refl _ _ | assumption | refine Below.alloc ?_ (by first | exact Nat.le_refl _ | assumption | omega | (simp <;> omega)) _ | refine Below.setCell ?_ (by first | exact Nat.le_refl _ | assumption | omega | (simp <;> omega)) _ | refine Below.drew ?_ | refine below_drewN ?_ _))
  have HR : Hid (Rd (w.alloc (.cells #[.slice A n c] 89)) B 1 A n (strCells p)) := hr.alloc hB _
  have HB0 : Hid (Blk (w.alloc (.cells #[.slice A n c] 89)) w.heap.size 89 #[.slice A n c]) := Blk.new_ _ _ _
  have hsz0 : (w.alloc (.cells #[.slice A n c] 89)).heap.size = w.heap.size + 1 := by simp
  have HC := Lib.hid (ropeCheck_any p A n c B _ HR.out (by rw [hsz0]; omega) hn hsz)
  have HSZ := Lib.hid hsz
  have HPN := Lib.hid hpn
  have HZ0 := Lib.hid hsz0
  clear hr hsz hpn hsz0
  by_cases he : ¬ ropeErr p = 0
  · have HE : Hid (atE p i = ropeErr p) := by unfold Hid atE; rw [if_pos he]
    have HV : Hid (((atV p i).toNat : Int) = 0) := by unfold Hid atV; rw [HE.out, if_neg he]; rfl
    have g1 : (ropeErr p != 0) = true := by rw [bne_iff_ne]; exact he
    rw [HE.out, HV.out]
    clear he
    generalize ropeErr p = e0 at *
    go_enter Try.func65, Try.ntmps65
    go_wp2_with fail
    generalize hw1 : (w.alloc (.cells #[.slice A n c] 89)) = w1 at *
    clear hw1
    refine (HC.out).mono ?_
    rintro e w2 ⟨rfl, hb2⟩
    have q2 := Blk.cell0 (HB0.out.below' hb2)
    have hbb := hb0.trans (hb2.mono (by rw [HZ0.out]; omega))
    go_wp2_with fail
    go_ret2
    exact ⟨rfl, hbb⟩
  have he := Decidable.not_not.1 he
  have HOK := Lib.hid (ropeErr_zero.1 he)
  have HE := Lib.hid he
  clear he
  rw [HE.out] at HC
  by_cases hneg : i < 0
  · have HE1 : Hid (atE p i = 1) := by unfold Hid atE; rw [if_neg (by rw [HE.out]; decide), if_pos (.inl hneg)]
    have HV : Hid (((atV p i).toNat : Int) = 0) := by unfold Hid atV; rw [HE1.out, if_neg (by decide)]; rfl
    rw [HE1.out, HV.out]
    have g1 : decide (i < 0) = true := decide_eq_true hneg
    go_enter Try.func65, Try.ntmps65
    go_wp2_with fail
    generalize hw1 : (w.alloc (.cells #[.slice A n c] 89)) = w1 at *
    clear hw1
    refine (HC.out).mono ?_
    rintro e w2 ⟨rfl, hb2⟩
    have q2 := Blk.cell0 (HB0.out.below' hb2)
    have hbb := hb0.trans (hb2.mono (by rw [HZ0.out]; omega))
    go_wp2_with fail
    go_ret2
    exact ⟨rfl, hbb⟩
  obtain ⟨r, rfl⟩ : ∃ r : Nat, i = (r : Int) := ⟨i.toNat, by omega⟩
  have g1 : decide ((r : Int) < 0) = false := decide_eq_false (by omega)
  clear hneg
  have hn60 : n ≤ 60 := by have := HOK.out.n; have := HPN.out; omega
  go_enter Try.func65, Try.ntmps65
  go_wp2_with fail
  generalize hw1 : (w.alloc (.cells #[.slice A n c] 89)) = w1 at *
  clear hw1
  refine (HC.out).mono ?_
  rintro e w2 ⟨rfl, hb2⟩
  have q2 := Blk.cell0 (HB0.out.below' hb2)
  have hbb := hb0.trans (hb2.mono (by rw [HZ0.out]; omega))
  have HR1 := Lib.hid (HR.out.below (hb2.mono (by rw [HZ0.out]; omega)))
  go_wp2_with fail
  go_loopw [1, 19] (fun a i wr => ∃ k : Nat, k ≤ n ∧ i = .int .i64 (k : Int) ∧ a = .int .i64 ((r - tot (p.take k) : Nat) : Int) ∧ tot (p.take k) ≤ r ∧ wr = w2) (fun _ i _ => n - (intOf i).toNat)
  case atStart => exact ⟨0, Nat.zero_le _, rfl, rfl, Nat.zero_le _, rfl⟩
  case round =>
    obtain ⟨k, hk, rfl, rfl, ht, rfl⟩ := hrel
    by_cases hlt : k < n
    · have g2 : decide ((k : Int) < (n : Int)) = true := decide_eq_true (by omega)
      obtain ⟨ad, rfl, hab, hc⟩ := str_cell HR1.out hlt
      have hkp : k < p.length := by rw [HPN.out]; exact hlt
      have HTS := Lib.hid (tot_succ p (k := k) hkp)
      have HFA := Lib.hid (fun j => flat_at p (k := k) (j := j) hkp)
      have hx200 : (p.getD k []).length ≤ 200 := by
        have h1 := HTS.out
        have h2 := tot_take_le p (k + 1)
        have h3 := HOK.out.t
        omega
      have hxs := S_size (p.getD k [])
      have HTP : Hid (tot (p.take (k + 1)) ≤ tot p) := tot_take_le p (k + 1)
      generalize p.getD k [] = x at *
      generalize tot (p.take k) = t at *
      obtain ⟨q, rfl⟩ : ∃ q, r = t + q := ⟨r - t, by omega⟩
      have eq1 : ((t + q - t : Nat) : Int) = (q : Int) := by rw [Nat.add_sub_cancel_left]
      rw [eq1]
      by_cases hqx : q < x.length
      · have g3 : decide ((q : Int) < ((S x).size : Int)) = true := decide_eq_true (by omega)
        have hqX : q < (S x).size := by omega
        have hX : (S x).size ≤ 200 := by omega
        have HE1 : Hid (atE p ((t + q : Nat) : Int) = 0) := by
          unfold Hid atE; rw [if_neg (by rw [HE.out]; decide), if_neg]
          have := HTP.out; have := HTS.out; omega
        have HV : Hid (atV p ((t + q : Nat) : Int) = (S x)[q]) := by
          unfold Hid atV; rw [HE1.out, if_pos rfl, Int.toNat_natCast, HFA.out q hqx, getB (S x) q hqX, L_S]
        have HXS := Lib.hid hxs
        clear hxs
        go_wp2_with fail
        go_ret2
        rw [HE1.out, HV.out]
        exact ⟨rfl, hbb⟩
      · have g3 : decide ((q : Int) < ((S x).size : Int)) = false := decide_eq_false (by omega)
        have hqX : (S x).size ≤ q := by omega
        have hX : (S x).size ≤ 200 := by omega
        have HXS := Lib.hid hxs
        clear hxs
        go_wp2_with fail
        go_roundw
        case rel => exact ⟨k + 1, by omega, by go_num, by rw [HTS.out]; have := HXS.out; go_num, by rw [HTS.out]; omega, by first | rfl | trivial⟩
        case measure => simp [intOf]; omega
    · obtain rfl : k = n := by omega
      have g2 : decide ((k : Int) < (k : Int)) = false := by simp
      have htk : p.take k = p := List.take_of_length_le (by rw [HPN.out]; exact Nat.le_refl _)
      rw [htk] at ht ⊢
      have HE1 : Hid (atE p (r : Int) = 1) := by unfold Hid atE; rw [if_neg (by rw [HE.out]; decide), if_pos (.inr (by omega))]
      have HV : Hid (((atV p (r : Int)).toNat : Int) = 0) := by unfold Hid atV; rw [HE1.out, if_neg (by decide)]; rfl
      go_wp2_with fail
      go_ret2
      rw [HE1.out, HV.out]
      exact ⟨rfl, hbb⟩
set_option maxRecDepth 100000 in
set_option maxHeartbeats 4000000 in
theorem partsOf_any (s : ByteArray) (K : Nat) (hs : s.size ≤ 200) (hK : 1 ≤ K) (hK2 : K ≤ 200) (w : World) :
    Calls Try.prog 66 #[.string s, .int .i64 (K : Int)] w fun e w' => ∃ v, e = .returned v ∧ w'.ownsRow w.heap.size 9 1 v (partsOf K (L s)).length (strCells (partsOf K (L s))) ∧ Below w.heap.size w w' := by
  obtain ⟨i0, hi0, hz0, hz1, hz2⟩ := info_parts info_str
  have HLL : Hid ((L s).length = s.size) := L_len s
  have HCL : Hid (cnt K s.size ≤ s.size) := cnt_le hK
  have HLT : Hid (∀ i, i * K < s.size ↔ i < cnt K s.size) := fun i => cnt_lt hK
  go_enter Try.func66, Try.ntmps66
  go_wp2_with fail
  go_loopw [5, 6] (fun o a wr => ∃ k : Nat, a = .int .i64 ((k * K : Nat) : Int) ∧ k ≤ cnt K s.size ∧ wr.ownsRow w.heap.size 9 1 o (pcs K (L s) k).length (strCells (pcs K (L s) k)) ∧ Below w.heap.size w wr) (fun _ a _ => s.size - (intOf a).toNat)
  case atStart => exact ⟨0, by simp, Nat.zero_le _, World.ownsRow_nil _ _ _ _, Below.refl _ _⟩
  case round =>
    obtain ⟨k, rfl, hk, hown, hb⟩ := hrel
    have HOWN := Lib.hid hown
    clear hown
    have hkl := pcs_len K (L s) k
    have hkz : k ≤ s.size := by have := HCL.out; omega
    have HSN := Lib.hid (pcs_snoc K (L s) k)
    have HL := Lib.hid (HLT.out k)
    have HKS : Hid ((k + 1) * K = k * K + K) := Nat.succ_mul k K
    by_cases hlt : k < cnt K s.size
    · have ha := HL.out.2 hlt
      generalize k * K = a at *
      have g1 : decide ((a : Int) < (s.size : Int)) = true := decide_eq_true (by omega)
      obtain ⟨m, hm⟩ : ∃ m : Nat, m = min s.size (a + K) := ⟨_, rfl⟩
      have hmn : min (s.size : Int) ((a : Int) + (K : Int)) = (m : Int) := by omega
      have hm1 : a ≤ m := by omega
      have hm2 : m ≤ s.size := by omega
      have HX : Hid (s.extract a m = S (((L s).drop a).take K)) := by
        unfold Hid
        rw [extract_S]
        congr 1
        rw [List.take_eq_take_iff, List.length_drop, HLL.out]; omega
      have HM := Lib.hid hm
      clear hm
      generalize pcs K (L s) k = out at *
      go_wp2_with (at_builtin; go_must (refine wpList_appG rfl _ _ _ rfl w.heap.size 9 i0 _ 1 16 Try.underlying44 hi0 hz0 hz1 hz2 rfl (by omega) _ out.length (strCells out) rfl (World.ownsRow.alloc (w := wr) HOWN.out _) ⟨wr.heap.size, 0, none⟩ 1 1 [.string (s.extract a m)] rfl rfl (cell_one_new _ _ _) (by simp [Value.oneCell']) (by omega) (by omega) (by have := (hb).size; simp at this ⊢; omega) ?_); intro v6 w6 hown6 hg6 hb6; have hb6' := ((hb).alloc (hb).size _).trans hb6)
      clear hg6 hb6
      go_roundw
      case rel =>
        refine ⟨k + 1, by rw [HKS.out]; go_num, by omega, ?_, hb6'⟩
        rw [HSN.out, List.length_append, List.length_singleton, ← strCells_snoc', ← HX.out]
        exact hown6
      case measure => simp [intOf]; omega
    · obtain rfl : k = cnt K s.size := by omega
      have ha : ¬ cnt K s.size * K < s.size := fun h => hlt (HL.out.1 h)
      have HQ : Hid (partsOf K (L s) = pcs K (L s) (cnt K s.size)) := by unfold Hid partsOf; rw [HLL.out]
      generalize cnt K s.size * K = a at *
      have g1 : decide ((a : Int) < (s.size : Int)) = false := decide_eq_false (by omega)
      go_wp2_with fail
      go_ret
      rw [HQ.out]
      exact ⟨_, rfl, HOWN.out, hb⟩
end Go.Proofs.Ytolnhplgaolieaa
