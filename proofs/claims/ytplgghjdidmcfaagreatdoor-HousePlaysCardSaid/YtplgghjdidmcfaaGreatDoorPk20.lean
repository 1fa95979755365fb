/- dist.Near and dist.Swaps. same.Long and same.Places. same.Places: the pairs that it finds, as a function of both strings. -/
import Derived.Test.YtplgghjdidmcfaaGreatDoorPk19
import Derived.Test.YtplgghjdidmcfaaGreatDoorPk05
import Derived.Test.YtplgghjdidmcfaaGreatDoorPk04
import Derived.Test.YtplgghjdidmcfaaGreatDoorPk18
import Derived.Test.YtplgghjdidmcfaaGreatDoorPk14
namespace Go.Proofs.YtplgghjdidmcfaaGreatDoor
open Go.RowKit
/-- The places of the words that are near, of the first k. -/
def nearAt (a : List UInt8) (most : Int) (l : List (List UInt8)) (k : Nat) : List Int := ((List.range k).filter fun i => decide (((lev a (l.getD i []) : Nat) : Int) ≤ most)).map fun (i : Nat) => (i : Int)
theorem nearAt_zero (a : List UInt8) (most : Int) (l : List (List UInt8)) : nearAt a most l 0 = [] := rfl
theorem nearAt_hit {a : List UInt8} {most : Int} {l : List (List UInt8)} {k : Nat} (h : ((lev a (l.getD k []) : Nat) : Int) ≤ most) : nearAt a most l (k + 1) = nearAt a most l k ++ [(k : Int)] := by
  have e : List.filter (fun i => decide (((lev a (l.getD i []) : Nat) : Int) ≤ most)) [k] = [k] := List.filter_cons_of_pos (decide_eq_true h)
  unfold nearAt; rw [List.range_succ, List.filter_append, List.map_append, e]; rfl
theorem nearAt_miss {a : List UInt8} {most : Int} {l : List (List UInt8)} {k : Nat} (h : ¬ ((lev a (l.getD k []) : Nat) : Int) ≤ most) : nearAt a most l (k + 1) = nearAt a most l k := by
  have e : List.filter (fun i => decide (((lev a (l.getD i []) : Nat) : Int) ≤ most)) [k] = [] := List.filter_cons_of_neg (by show ¬ (decide _ = true); rw [decide_eq_true_iff]; exact h)
  unfold nearAt; rw [List.range_succ, List.filter_append, List.map_append, e]; simp
theorem nearAt_len (a : List UInt8) (most : Int) (l : List (List UInt8)) (k : Nat) : (nearAt a most l k).length ≤ k := by
  unfold nearAt; rw [List.length_map]; exact Nat.le_trans (List.length_filter_le _ _) (by simp)
theorem ints_app (l m : List Int) : ints (l ++ m) = ints l ++ ints m := by simp [ints]
def nearErr (s : ByteArray) (l : List (List UInt8)) : Int := if 200 < s.size ∨ 200 < l.length ∨ ∃ x ∈ l, 200 < x.length then 2 else 0
/-- In how many of the first k places two texts are unlike. -/
def ham (a b : List UInt8) : Nat → Nat
  | 0 => 0
  | k + 1 => ham a b k + if a.getD k 0 = b.getD k 0 then 0 else 1
theorem ham_le (a b : List UInt8) (k : Nat) : ham a b k ≤ k := by
  induction k with
  | zero => exact Nat.le_refl _
  | succ k ih => rw [ham]; split <;> omega
end Go.Proofs.YtplgghjdidmcfaaGreatDoor
namespace Go.Proofs.YtplgghjdidmcfaaGreatDoor
open Go.RowKit
theorem sameLong_long (s t : ByteArray) (h : 200 < s.size ∨ 200 < t.size) (w : World) :
    Calls Tryz.prog 70 #[.string s, .string t] w fun e w' => e = .returned (.tuple #[.int .i64 0, .int .i64 2]) ∧ Below w.heap.size w w' := by
  have HV : Hid (longAll [s, t] = 2) := by unfold Hid; rw [long2, if_pos h]
  clear h
  go_enter Tryz.func70, Tryz.ntmps70
  go_wp2_with fail
  refine (sameCheck_any s t _).mono ?_
  rintro e w1 ⟨rfl, hb1⟩
  rw [HV.out]
  go_wp2_with fail
  go_ret2
  exact ⟨rfl, hb1⟩
theorem sameLong_any (s t : ByteArray) (hs : s.size ≤ 200) (ht : t.size ≤ 200) (w : World) :
    Calls Tryz.prog 70 #[.string s, .string t] w fun e w' => e = .returned (.tuple #[.int .i64 (lcs (L s) (L t) : Nat), .int .i64 0]) ∧ Below w.heap.size w w' := by
  have HV : Hid (longAll [s, t] = 0) := by unfold Hid; rw [long2, if_neg (by omega)]
  go_enter Tryz.func70, Tryz.ntmps70
  go_wp2_with fail
  refine (sameCheck_any s t _).mono ?_
  rintro e w1 ⟨rfl, hb1⟩
  rw [HV.out]
  go_wp2_with fail
  refine (table_any s t hs ht _).mono ?_
  rintro e w2 ⟨G, R, rfl, hT, hb2⟩
  have hb := bthen hb1 hb2
  obtain ⟨c0, c1⟩ := hT.cells (Nat.zero_le _) (Nat.zero_le _)
  rw [lcsD_zero] at c1
  clear hT
  go_wp2_with fail
  go_ret2
  exact ⟨rfl, hb⟩
theorem samePlaces_long (s t : ByteArray) (h : 200 < s.size ∨ 200 < t.size) (w : World) :
    Calls Tryz.prog 39 #[.string s, .string t] w fun e w' => e = .returned (.tuple #[.slice none 0 0, .slice none 0 0, .int .i64 2]) ∧ Below w.heap.size w w' := by
  have HV : Hid (longAll [s, t] = 2) := by unfold Hid; rw [long2, if_pos h]
  clear h
  go_enter Tryz.func39, Tryz.ntmps39
  go_wp2_with fail
  refine (sameCheck_any s t _).mono ?_
  rintro e w1 ⟨rfl, hb1⟩
  rw [HV.out]
  go_wp2_with fail
  go_ret3
  exact ⟨rfl, hb1⟩
theorem Ms.low {a b : List UInt8} {i k i' k' : Nat} {r : List (Nat × Nat)} (h : Ms a b i k r) (hi : i' ≤ i) (hk : k' ≤ k) : Ms a b i' k' r := by
  cases h with
  | nil _ _ h1 h2 => exact .nil _ _ (by omega) (by omega)
  | cons _ _ x y r h1 h2 h3 h4 h5 h6 => exact .cons _ _ x y r (by omega) (by omega) h3 h4 h5 h6
def fsts (l : List (Nat × Nat)) : List Int := l.map fun p => (p.1 : Int)
def snds (l : List (Nat × Nat)) : List Int := l.map fun p => (p.2 : Int)
theorem fsts_snoc (l : List (Nat × Nat)) (i k : Nat) : ints (fsts l) ++ [.int .i64 (i : Int)] = ints (fsts (l ++ [(i, k)])) := by simp [fsts, ints]
theorem snds_snoc (l : List (Nat × Nat)) (i k : Nat) : ints (snds l) ++ [.int .i64 (k : Int)] = ints (snds (l ++ [(i, k)])) := by simp [snds, ints]
/-- Where the walk through the table stands: what comes on makes pairs. -/
structure PlIn (s t : ByteArray) (base : Nat) (wr : World) (vx vy : Value) (ps : List (Nat × Nat)) (i k : Nat) : Prop where
  xs : wr.ownsRow base 3 1 vx ps.length (ints (fsts ps))
  ys : wr.ownsRow base 3 1 vy ps.length (ints (snds ps))
  ap : Apart vx vy
  on : ∀ r, Ms (L s) (L t) i k r → Ms (L s) (L t) 0 0 (ps ++ r)
  cnt : ps.length + lcsD s t i k = lcs (L s) (L t)
  le : i ≤ s.size ∧ k ≤ t.size
set_option maxRecDepth 100000 in
set_option maxHeartbeats 8000000 in
theorem samePlaces_any (s t : ByteArray) (hs : s.size ≤ 200) (ht : t.size ≤ 200) (w : World) :
    Calls Tryz.prog 39 #[.string s, .string t] w fun e w' => ∃ vx vy ps, e = .returned (.tuple #[vx, vy, .int .i64 0]) ∧ Ms (L s) (L t) 0 0 ps ∧ ps.length = lcs (L s) (L t) ∧
      w'.ownsRow w.heap.size 3 1 vx ps.length (ints (fsts ps)) ∧ w'.ownsRow w.heap.size 3 1 vy ps.length (ints (snds ps)) ∧ Below w.heap.size w w' := by
  obtain ⟨i0, hi0, hz0, hz1, hz2⟩ := info_parts info_int
  have HV : Hid (longAll [s, t] = 0) := by unfold Hid; rw [long2, if_neg (by omega)]
  have HQ := Lib.hid (lcs_le (L s) (L t))
  go_enter Tryz.func39, Tryz.ntmps39
  go_wp2_with fail
  refine (sameCheck_any s t _).mono ?_
  rintro e w1 ⟨rfl, hb1⟩
  rw [HV.out]
  go_wp2_with fail
  refine (table_any s t hs ht _).mono ?_
  rintro e w2 ⟨G, R, rfl, hT, hb2⟩
  have hb := bthen hb1 hb2
  have HT := Lib.hid hT
  have H0 : Hid (PlIn s t w2.heap.size w2 (.slice none 0 0) (.slice none 0 0) [] 0 0) :=
    ⟨World.ownsRow_nil _ _ _ _, World.ownsRow_nil _ _ _ _, Apart.none_left _, fun r h => h, by simp [lcsD_zero], Nat.zero_le _, Nat.zero_le _⟩
  clear hT hb1 hb2
  generalize w1.heap.size = gT at *
  go_wp2_with fail
  go_loopw [9, 10, 11, 12] (fun x y i k wr => ∃ (ps : List (Nat × Nat)) (i' k' : Nat), i = .int .i64 i' ∧ k = .int .i64 k' ∧ PlIn s t w2.heap.size wr x y ps i' k' ∧ Below w2.heap.size w2 wr) (fun _ _ i k _ => s.size - (intOf i).toNat + (t.size - (intOf k).toNat))
  case atStart => exact ⟨[], 0, 0, rfl, rfl, H0.out, Below.refl _ _⟩
  case round =>
    clear H0
    obtain ⟨ps, i, k, rfl, rfl, hP, hbr⟩ := hrel
    have HP := Lib.hid hP
    obtain ⟨hi, hk⟩ := hP.le
    obtain ⟨c0, c1⟩ := (HT.out.below hbr).cells hi hk
    have hbs := hbr.size
    clear hP
    have hpl : ps.length ≤ 200 := by
      have h1 := HP.out.cnt
      have h2 := HQ.out.1
      rw [L_len] at h2
      omega
    by_cases hz : 0 < lcsD s t i k
    · have g1 : decide (0 < lcsD s t i k) = true := decide_eq_true hz
      have hil : i < s.size := by
        rcases Nat.lt_or_ge i s.size with h | h
        · exact h
        · obtain rfl : i = s.size := by omega
          rw [lcsD_left] at hz; omega
      have hkl : k < t.size := by
        rcases Nat.lt_or_ge k t.size with h | h
        · exact h
        · obtain rfl : k = t.size := by omega
          rw [lcsD_right] at hz; omega
      have HS := Lib.hid (lcsD_step s t i k hil hkl)
      by_cases he : s[i] = t[k]
      · have g3 : ((s[i].toNat : Int) == (t[k].toNat : Int)) = true := by rw [he]; simp
        have hse := HS.out.trans (if_pos he)
        have HON : Hid (∀ r, Ms (L s) (L t) (i + 1) (k + 1) r → Ms (L s) (L t) 0 0 ((ps ++ [(i, k)]) ++ r)) := fun r hr => by
          rw [List.append_assoc]
          refine HP.out.on _ (.cons i k i k r (Nat.le_refl _) (Nat.le_refl _) (by rw [L_len]; exact hil) (by rw [L_len]; exact hkl) ?_ hr)
          rw [List.getElem?_eq_getElem (by rw [L_len]; exact hil), List.getElem?_eq_getElem (by rw [L_len]; exact hkl)]
          exact congrArg some he
        have HC : Hid ((ps ++ [(i, k)]).length + lcsD s t (i + 1) (k + 1) = lcs (L s) (L t)) := by
          unfold Hid; have := HP.out.cnt; rw [List.length_append, List.length_singleton]; omega
        have ownx := HP.out.xs
        have owny := Lib.hid HP.out.ys
        have HA := Lib.hid HP.out.ap
        clear he HS HP hse hz
        generalize lcsD s t i k = z0 at *
        go_wp2_with fail
        go_quiet (fail)
        have ownx2 := own_drewN ownx nq
        have owny2 := own_drewN owny.out nq
        have tok1 : True := trivial
        go_wp2_with (first
          | (at_builtin; have _t := tok1; go_must (refine wpList_appN rfl _ _ _ rfl w2.heap.size 3 i0 _ 1 8 Tryz.underlying91 hi0 hz0 hz1 hz2 rfl (by omega) _ ps.length (ints (fsts ps)) rfl (ownx2.alloc _) ⟨_, 0, none⟩ 1 1 [.int .i64 (i : Int)] rfl rfl (cell_one_new _ _ _) (by simp [Value.oneCell']) (by omega) (by omega) (by simp; omega) ?_); intro v6 w6 hown6 hg6 hb6 ha6; have owny6 := own_apart (owny2.alloc _) HA.out.comm hg6; have hap6 := apart_new (owny2.alloc _) HA.out.comm ha6; clear tok1 ownx2 owny2)
          | (at_builtin; go_must (refine wpList_appN rfl _ _ _ rfl w2.heap.size 3 i0 _ 1 8 Tryz.underlying91 hi0 hz0 hz1 hz2 rfl (by omega) _ ps.length (ints (snds ps)) rfl (owny6.alloc _) ⟨_, 0, none⟩ 1 1 [.int .i64 (k : Int)] rfl rfl (cell_one_new _ _ _) (by simp [Value.oneCell']) (by omega) (by omega) (by have := hb6.size; simp at this ⊢; omega) ?_); intro v7 w7 hown7 hg7 hb7 ha7; have ownx7 := own_apart (hown6.alloc _) hap6.comm hg7; have hap7 := apart_new (hown6.alloc _) hap6.comm ha7))
        have hB7 : Below w2.heap.size w2 w7 := by
          have h1 : Below w2.heap.size w2 w6 := ((below_drewN hbr nq).alloc (by simp; omega) _).trans hb6
          exact (h1.alloc h1.size _).trans hb7
        go_roundw
        case rel => exact ⟨ps ++ [(i, k)], i + 1, k + 1, by go_num, by go_num, ⟨by rw [← fsts_snoc, List.length_append]; exact ownx7, by rw [← snds_snoc, List.length_append]; exact hown7, hap7, HON.out, HC.out, by omega, by omega⟩, hB7⟩
        case measure => simp [intOf]; omega
      · have g3 : ((s[i].toNat : Int) == (t[k].toNat : Int)) = false := by
          rw [beq_eq_false_iff_ne]; intro h; exact he (UInt8.toNat_inj.1 (by omega))
        have hse := HS.out.trans (if_neg he)
        obtain ⟨d0, d1⟩ := (HT.out.below hbr).cells (i := i + 1) (k := k) (by omega) (by omega)
        obtain ⟨d2, d3⟩ := (HT.out.below hbr).cells (i := i) (k := k + 1) (by omega) (by omega)
        have HON1 : Hid (∀ r, Ms (L s) (L t) (i + 1) k r → Ms (L s) (L t) 0 0 (ps ++ r)) := fun r hr => HP.out.on r (hr.low (by omega) (Nat.le_refl _))
        have HON2 : Hid (∀ r, Ms (L s) (L t) i (k + 1) r → Ms (L s) (L t) 0 0 (ps ++ r)) := fun r hr => HP.out.on r (hr.low (Nat.le_refl _) (by omega))
        by_cases hge : lcsD s t i (k + 1) ≤ lcsD s t (i + 1) k
        · have HC : Hid (ps.length + lcsD s t (i + 1) k = lcs (L s) (L t)) := by
            unfold Hid; have := HP.out.cnt; omega
          have g4 : decide (lcsD s t i (k + 1) ≤ lcsD s t (i + 1) k) = true := decide_eq_true hge
          clear he HS hse hz hge
          generalize lcsD s t i k = z0 at *
          generalize hz1' : lcsD s t (i + 1) k = z1 at *
          generalize lcsD s t i (k + 1) = z2 at *
          go_wp2_with fail
          go_quiet (fail)
          go_wp2_with fail
          go_quiet (fail)
          go_wp2_with fail
          go_roundw
          case rel => exact ⟨ps, i + 1, k, by go_num, rfl, ⟨own_drewN HP.out.xs _, own_drewN HP.out.ys _, HP.out.ap, HON1.out, by rw [hz1']; exact HC.out, by omega, hk⟩, (by repeat (first | exact Below.refl _ _ | assumption | refine Below.alloc ?_ (by first | exact Nat.le_refl _ | assumption | omega | (simp <;> omega)) _ | refine Below.setCell ?_ (by first | exact Nat.le_refl _ | assumption | omega | (simp <;> omega)) _ | refine Below.drew ?_ | refine below_drewN ?_ _))⟩
          case measure => simp [intOf]; omega
        · have HC : Hid (ps.length + lcsD s t i (k + 1) = lcs (L s) (L t)) := by
            unfold Hid; have := HP.out.cnt; omega
          have g4 : decide (lcsD s t i (k + 1) ≤ lcsD s t (i + 1) k) = false := decide_eq_false hge
          clear he HS hse hz hge
          generalize lcsD s t i k = z0 at *
          generalize lcsD s t (i + 1) k = z1 at *
          generalize hz2' : lcsD s t i (k + 1) = z2 at *
          go_wp2_with fail
          go_quiet (fail)
          go_wp2_with fail
          go_quiet (fail)
          go_wp2_with fail
          go_roundw
          case rel => exact ⟨ps, i, k + 1, rfl, by go_num, ⟨own_drewN HP.out.xs _, own_drewN HP.out.ys _, HP.out.ap, HON2.out, by rw [hz2']; exact HC.out, hi, by omega⟩, (by repeat (first | exact Below.refl _ _ | assumption | refine Below.alloc ?_ (by first | exact Nat.le_refl _ | assumption | omega | (simp <;> omega)) _ | refine Below.setCell ?_ (by first | exact Nat.le_refl _ | assumption | omega | (simp <;> omega)) _ | refine Below.drew ?_ | refine below_drewN ?_ _))⟩
          case measure => simp [intOf]; omega
    · have g1 : decide (0 < lcsD s t i k) = false := decide_eq_false hz
      have HC : Hid (ps.length = lcs (L s) (L t)) := by
        unfold Hid; have := HP.out.cnt; omega
      have HM : Hid (Ms (L s) (L t) 0 0 ps) := by
        have := HP.out.on [] (.nil i k (by rw [L_len]; exact hi) (by rw [L_len]; exact hk))
        rw [List.append_nil] at this; exact this
      clear hz
      generalize lcsD s t i k = z0 at *
      go_wp2_with fail
      go_ret3
      exact ⟨_, _, ps, rfl, HM.out, HC.out, own_lower HP.out.xs hb.size, own_lower HP.out.ys hb.size, bthen hb hbr⟩
end Go.Proofs.YtplgghjdidmcfaaGreatDoor
namespace Go.Proofs.YtplgghjdidmcfaaGreatDoor
open Go.RowKit
/-- The pairs that the walk through the table finds from a place on. -/
def psF (s t : ByteArray) : Nat → Nat → Nat → List (Nat × Nat)
  | 0, _, _ => []
  | f + 1, i, k => if 0 < lcsD s t i k then (if (L s)[i]? = (L t)[k]? then (i, k) :: psF s t f (i + 1) (k + 1) else if lcsD s t i (k + 1) ≤ lcsD s t (i + 1) k then psF s t f (i + 1) k else psF s t f i (k + 1)) else []
def psAll (s t : ByteArray) : List (Nat × Nat) := psF s t (s.size + t.size + 1) 0 0
/-- What has been found, and what comes on, are all. -/
def DetP (s t : ByteArray) (ps : List (Nat × Nat)) (i k : Nat) : Prop := ∃ f, s.size - i + (t.size - k) < f ∧ ps ++ psF s t f i k = psAll s t
theorem DetP.start (s t : ByteArray) : DetP s t [] 0 0 := ⟨s.size + t.size + 1, by omega, rfl⟩
theorem DetP.both {s t : ByteArray} {ps : List (Nat × Nat)} {i k : Nat} (h : DetP s t ps i k) (hz : 0 < lcsD s t i k) (hi : i < s.size) (hk : k < t.size) (he : s[i] = t[k]) : DetP s t (ps ++ [(i, k)]) (i + 1) (k + 1) := by
  obtain ⟨f, hf, e⟩ := h
  obtain ⟨f, rfl⟩ : ∃ g, f = g + 1 := ⟨f - 1, by omega⟩
  have hq : (L s)[i]? = (L t)[k]? := by
    rw [List.getElem?_eq_getElem (by rw [L_len]; exact hi), List.getElem?_eq_getElem (by rw [L_len]; exact hk)]
    exact congrArg some he
  rw [psF, if_pos hz, if_pos hq] at e
  exact ⟨f, by omega, by rw [List.append_assoc]; exact e⟩
theorem getB_ne {s t : ByteArray} {i k : Nat} (hi : i < s.size) (hk : k < t.size) (he : s[i] ≠ t[k]) : (L s)[i]? ≠ (L t)[k]? := by
  rw [List.getElem?_eq_getElem (by rw [L_len]; exact hi), List.getElem?_eq_getElem (by rw [L_len]; exact hk)]
  exact fun h => he (Option.some.inj h)
theorem DetP.down {s t : ByteArray} {ps : List (Nat × Nat)} {i k : Nat} (h : DetP s t ps i k) (hz : 0 < lcsD s t i k) (hi : i < s.size) (hk : k < t.size) (he : s[i] ≠ t[k]) (hge : lcsD s t i (k + 1) ≤ lcsD s t (i + 1) k) : DetP s t ps (i + 1) k := by
  obtain ⟨f, hf, e⟩ := h
  obtain ⟨f, rfl⟩ : ∃ g, f = g + 1 := ⟨f - 1, by omega⟩
  rw [psF, if_pos hz, if_neg (getB_ne hi hk he), if_pos hge] at e
  exact ⟨f, by omega, e⟩
theorem DetP.right {s t : ByteArray} {ps : List (Nat × Nat)} {i k : Nat} (h : DetP s t ps i k) (hz : 0 < lcsD s t i k) (hi : i < s.size) (hk : k < t.size) (he : s[i] ≠ t[k]) (hge : ¬ lcsD s t i (k + 1) ≤ lcsD s t (i + 1) k) : DetP s t ps i (k + 1) := by
  obtain ⟨f, hf, e⟩ := h
  obtain ⟨f, rfl⟩ : ∃ g, f = g + 1 := ⟨f - 1, by omega⟩
  rw [psF, if_pos hz, if_neg (getB_ne hi hk he), if_neg hge] at e
  exact ⟨f, by omega, e⟩
theorem DetP.end_ {s t : ByteArray} {ps : List (Nat × Nat)} {i k : Nat} (h : DetP s t ps i k) (hz : ¬ 0 < lcsD s t i k) : ps = psAll s t := by
  obtain ⟨f, hf, e⟩ := h
  obtain ⟨f, rfl⟩ : ∃ g, f = g + 1 := ⟨f - 1, by omega⟩
  rw [psF, if_neg hz, List.append_nil] at e
  exact e
/-- Where the walk through the table stands: what comes on makes pairs, and which. -/
structure PlQ (s t : ByteArray) (base : Nat) (wr : World) (vx vy : Value) (ps : List (Nat × Nat)) (i k : Nat) : Prop where
  xs : wr.ownsRow base 3 1 vx ps.length (ints (fsts ps))
  ys : wr.ownsRow base 3 1 vy ps.length (ints (snds ps))
  ap : Apart vx vy
  on : ∀ r, Ms (L s) (L t) i k r → Ms (L s) (L t) 0 0 (ps ++ r)
  cnt : ps.length + lcsD s t i k = lcs (L s) (L t)
  le : i ≤ s.size ∧ k ≤ t.size
  det : DetP s t ps i k
set_option maxRecDepth 100000 in
set_option maxHeartbeats 8000000 in
theorem samePlacesQ_any (s t : ByteArray) (hs : s.size ≤ 200) (ht : t.size ≤ 200) (w : World) :
    Calls Tryz.prog 39 #[.string s, .string t] w fun e w' => ∃ vx vy ps, e = .returned (.tuple #[vx, vy, .int .i64 0]) ∧ Ms (L s) (L t) 0 0 ps ∧ ps.length = lcs (L s) (L t) ∧ ps = psAll s t ∧
      w'.ownsRow w.heap.size 3 1 vx ps.length (ints (fsts ps)) ∧ w'.ownsRow w.heap.size 3 1 vy ps.length (ints (snds ps)) ∧ Below w.heap.size w w' := by
  obtain ⟨i0, hi0, hz0, hz1, hz2⟩ := info_parts info_int
  have HV : Hid (longAll [s, t] = 0) := by unfold Hid; rw [long2, if_neg (by omega)]
  have HQ := Lib.hid (lcs_le (L s) (L t))
  go_enter Tryz.func39, Tryz.ntmps39
  go_wp2_with fail
  refine (sameCheck_any s t _).mono ?_
  rintro e w1 ⟨rfl, hb1⟩
  rw [HV.out]
  go_wp2_with fail
  refine (table_any s t hs ht _).mono ?_
  rintro e w2 ⟨G, R, rfl, hT, hb2⟩
  have hb := bthen hb1 hb2
  have HT := Lib.hid hT
  have H0 : Hid (PlQ s t w2.heap.size w2 (.slice none 0 0) (.slice none 0 0) [] 0 0) :=
    ⟨World.ownsRow_nil _ _ _ _, World.ownsRow_nil _ _ _ _, Apart.none_left _, fun r h => h, by simp [lcsD_zero], ⟨Nat.zero_le _, Nat.zero_le _⟩, DetP.start s t⟩
  clear hT hb1 hb2
  generalize w1.heap.size = gT at *
  go_wp2_with fail
  go_loopw [9, 10, 11, 12] (fun x y i k wr => ∃ (ps : List (Nat × Nat)) (i' k' : Nat), i = .int .i64 i' ∧ k = .int .i64 k' ∧ PlQ s t w2.heap.size wr x y ps i' k' ∧ Below w2.heap.size w2 wr) (fun _ _ i k _ => s.size - (intOf i).toNat + (t.size - (intOf k).toNat))
  case atStart => exact ⟨[], 0, 0, rfl, rfl, H0.out, Below.refl _ _⟩
  case round =>
    clear H0
    obtain ⟨ps, i, k, rfl, rfl, hP, hbr⟩ := hrel
    have HP := Lib.hid hP
    obtain ⟨hi, hk⟩ := hP.le
    obtain ⟨c0, c1⟩ := (HT.out.below hbr).cells hi hk
    have hbs := hbr.size
    clear hP
    have hpl : ps.length ≤ 200 := by
      have h1 := HP.out.cnt
      have h2 := HQ.out.1
      rw [L_len] at h2
      omega
    by_cases hz : 0 < lcsD s t i k
    · have g1 : decide (0 < lcsD s t i k) = true := decide_eq_true hz
      have hil : i < s.size := by
        rcases Nat.lt_or_ge i s.size with h | h
        · exact h
        · obtain rfl : i = s.size := by omega
          rw [lcsD_left] at hz; omega
      have hkl : k < t.size := by
        rcases Nat.lt_or_ge k t.size with h | h
        · exact h
        · obtain rfl : k = t.size := by omega
          rw [lcsD_right] at hz; omega
      have HS := Lib.hid (lcsD_step s t i k hil hkl)
      by_cases he : s[i] = t[k]
      · have g3 : ((s[i].toNat : Int) == (t[k].toNat : Int)) = true := by rw [he]; simp
        have hse := HS.out.trans (if_pos he)
        have HON : Hid (∀ r, Ms (L s) (L t) (i + 1) (k + 1) r → Ms (L s) (L t) 0 0 ((ps ++ [(i, k)]) ++ r)) := fun r hr => by
          rw [List.append_assoc]
          refine HP.out.on _ (.cons i k i k r (Nat.le_refl _) (Nat.le_refl _) (by rw [L_len]; exact hil) (by rw [L_len]; exact hkl) ?_ hr)
          rw [List.getElem?_eq_getElem (by rw [L_len]; exact hil), List.getElem?_eq_getElem (by rw [L_len]; exact hkl)]
          exact congrArg some he
        have HC : Hid ((ps ++ [(i, k)]).length + lcsD s t (i + 1) (k + 1) = lcs (L s) (L t)) := by
          unfold Hid; have := HP.out.cnt; rw [List.length_append, List.length_singleton]; omega
        have HD := Lib.hid (HP.out.det.both hz hil hkl he)
        have ownx := HP.out.xs
        have owny := Lib.hid HP.out.ys
        have HA := Lib.hid HP.out.ap
        clear he HS HP hse hz
        generalize lcsD s t i k = z0 at *
        go_wp2_with fail
        go_quiet (fail)
        have ownx2 := own_drewN ownx nq
        have owny2 := own_drewN owny.out nq
        have tok1 : True := trivial
        go_wp2_with (first
          | (at_builtin; have _t := tok1; go_must (refine wpList_appN rfl _ _ _ rfl w2.heap.size 3 i0 _ 1 8 Tryz.underlying91 hi0 hz0 hz1 hz2 rfl (by omega) _ ps.length (ints (fsts ps)) rfl (ownx2.alloc _) ⟨_, 0, none⟩ 1 1 [.int .i64 (i : Int)] rfl rfl (cell_one_new _ _ _) (by simp [Value.oneCell']) (by omega) (by omega) (by simp; omega) ?_); intro v6 w6 hown6 hg6 hb6 ha6; have owny6 := own_apart (owny2.alloc _) HA.out.comm hg6; have hap6 := apart_new (owny2.alloc _) HA.out.comm ha6; clear tok1 ownx2 owny2)
          | (at_builtin; go_must (refine wpList_appN rfl _ _ _ rfl w2.heap.size 3 i0 _ 1 8 Tryz.underlying91 hi0 hz0 hz1 hz2 rfl (by omega) _ ps.length (ints (snds ps)) rfl (owny6.alloc _) ⟨_, 0, none⟩ 1 1 [.int .i64 (k : Int)] rfl rfl (cell_one_new _ _ _) (by simp [Value.oneCell']) (by omega) (by omega) (by have := hb6.size; simp at this ⊢; omega) ?_); intro v7 w7 hown7 hg7 hb7 ha7; have ownx7 := own_apart (hown6.alloc _) hap6.comm hg7; have hap7 := apart_new (hown6.alloc _) hap6.comm ha7))
        have hB7 : Below w2.heap.size w2 w7 := by
          have h1 : Below w2.heap.size w2 w6 := ((below_drewN hbr nq).alloc (by simp; omega) _).trans hb6
          exact (h1.alloc h1.size _).trans hb7
        go_roundw
        case rel => exact ⟨ps ++ [(i, k)], i + 1, k + 1, by go_num, by go_num, ⟨by rw [← fsts_snoc, List.length_append]; exact ownx7, by rw [← snds_snoc, List.length_append]; exact hown7, hap7, HON.out, HC.out, ⟨by omega, by omega⟩, HD.out⟩, hB7⟩
        case measure => simp [intOf]; omega
      · have g3 : ((s[i].toNat : Int) == (t[k].toNat : Int)) = false := by
          rw [beq_eq_false_iff_ne]; intro h; exact he (UInt8.toNat_inj.1 (by omega))
        have hse := HS.out.trans (if_neg he)
        obtain ⟨d0, d1⟩ := (HT.out.below hbr).cells (i := i + 1) (k := k) (by omega) (by omega)
        obtain ⟨d2, d3⟩ := (HT.out.below hbr).cells (i := i) (k := k + 1) (by omega) (by omega)
        have HON1 : Hid (∀ r, Ms (L s) (L t) (i + 1) k r → Ms (L s) (L t) 0 0 (ps ++ r)) := fun r hr => HP.out.on r (hr.low (by omega) (Nat.le_refl _))
        have HON2 : Hid (∀ r, Ms (L s) (L t) i (k + 1) r → Ms (L s) (L t) 0 0 (ps ++ r)) := fun r hr => HP.out.on r (hr.low (Nat.le_refl _) (by omega))
        by_cases hge : lcsD s t i (k + 1) ≤ lcsD s t (i + 1) k
        · have HC : Hid (ps.length + lcsD s t (i + 1) k = lcs (L s) (L t)) := by
            unfold Hid; have := HP.out.cnt; omega
          have g4 : decide (lcsD s t i (k + 1) ≤ lcsD s t (i + 1) k) = true := decide_eq_true hge
          have HD := Lib.hid (HP.out.det.down hz hil hkl he hge)
          clear he HS hse hz hge
          generalize lcsD s t i k = z0 at *
          generalize hz1' : lcsD s t (i + 1) k = z1 at *
          generalize lcsD s t i (k + 1) = z2 at *
          go_wp2_with fail
          go_quiet (fail)
          go_wp2_with fail
          go_quiet (fail)
          go_wp2_with fail
          go_roundw
          case rel => exact ⟨ps, i + 1, k, by go_num, rfl, ⟨own_drewN HP.out.xs _, own_drewN HP.out.ys _, HP.out.ap, HON1.out, by rw [hz1']; exact HC.out, ⟨by omega, hk⟩, HD.out⟩, (by repeat (first | exact Below.refl _ _ | assumption | refine Below.alloc ?_ (by first | exact Nat.le_refl _ | assumption | omega | (simp <;> omega)) _ | refine Below.setCell ?_ (by first | exact Nat.le_refl _ | assumption | omega | (simp <;> omega)) _ | refine Below.drew ?_ | refine below_drewN ?_ _))⟩
          case measure => simp [intOf]; omega
        · have HC : Hid (ps.length + lcsD s t i (k + 1) = lcs (L s) (L t)) := by
            unfold Hid; have := HP.out.cnt; omega
          have g4 : decide (lcsD s t i (k + 1) ≤ lcsD s t (i + 1) k) = false := decide_eq_false hge
          have HD := Lib.hid (HP.out.det.right hz hil hkl he hge)
          clear he HS hse hz hge
          generalize lcsD s t i k = z0 at *
          generalize lcsD s t (i + 1) k = z1 at *
          generalize hz2' : lcsD s t i (k + 1) = z2 at *
          go_wp2_with fail
          go_quiet (fail)
          go_wp2_with fail
          go_quiet (fail)
          go_wp2_with fail
          go_roundw
          case rel => exact ⟨ps, i, k + 1, rfl, by go_num, ⟨own_drewN HP.out.xs _, own_drewN HP.out.ys _, HP.out.ap, HON2.out, by rw [hz2']; exact HC.out, ⟨hi, by omega⟩, HD.out⟩, (by repeat (first | exact Below.refl _ _ | assumption | refine Below.alloc ?_ (by first | exact Nat.le_refl _ | assumption | omega | (simp <;> omega)) _ | refine Below.setCell ?_ (by first | exact Nat.le_refl _ | assumption | omega | (simp <;> omega)) _ | refine Below.drew ?_ | refine below_drewN ?_ _))⟩
          case measure => simp [intOf]; omega
    · have g1 : decide (0 < lcsD s t i k) = false := decide_eq_false hz
      have HC : Hid (ps.length = lcs (L s) (L t)) := by
        unfold Hid; have := HP.out.cnt; omega
      have HM : Hid (Ms (L s) (L t) 0 0 ps) := by
        have := HP.out.on [] (.nil i k (by rw [L_len]; exact hi) (by rw [L_len]; exact hk))
        rw [List.append_nil] at this; exact this
      have HD := Lib.hid (HP.out.det.end_ hz)
      clear hz
      generalize lcsD s t i k = z0 at *
      go_wp2_with fail
      go_ret3
      exact ⟨_, _, ps, rfl, HM.out, HC.out, HD.out, own_lower HP.out.xs hb.size, own_lower HP.out.ys hb.size, bthen hb hbr⟩
end Go.Proofs.YtplgghjdidmcfaaGreatDoor
