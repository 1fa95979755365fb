/- The law SameSays, walked. -/
import Derived.Test.YtolnhplgaolieaaSameI
import Derived.Test.YtolnhplgaolieaaSameR
import Derived.Test.YtolnhplgaolieaaLogW
import Derived.Test.YtolnhplgaolieaaDiffW
namespace Go.Proofs.Ytolnhplgaolieaa
open Go.RowKit
theorem ms_at {a b : List UInt8} {i k : Nat} {ps : List (Nat × Nat)} (h : Ms a b i k ps) : ∀ (m : Nat) (hm : m < ps.length), i ≤ (ps[m]).1 ∧ k ≤ (ps[m]).2 ∧ (ps[m]).1 < a.length ∧ (ps[m]).2 < b.length ∧ a[(ps[m]).1]? = b[(ps[m]).2]? := by
  induction h with
  | nil => intro m hm; simp at hm
  | cons i k x y r h1 h2 h3 h4 h5 h6 ih =>
    intro m hm
    cases m with
    | zero => exact ⟨h1, h2, h3, h4, h5⟩
    | succ m =>
      obtain ⟨q1, q2, q3, q4, q5⟩ := ih m (by simpa using hm)
      simp only [List.getElem_cons_succ]
      exact ⟨by omega, by omega, q3, q4, q5⟩
theorem ms_up {a b : List UInt8} {i k : Nat} {ps : List (Nat × Nat)} (h : Ms a b i k ps) : ∀ (m : Nat) (hm : m + 1 < ps.length), (ps[m]).1 < (ps[m + 1]).1 ∧ (ps[m]).2 < (ps[m + 1]).2 := by
  induction h with
  | nil => intro m hm; simp at hm
  | cons i k x y r h1 h2 h3 h4 h5 h6 ih =>
    intro m hm
    cases m with
    | zero =>
      have := ms_at h6 0 (by simp at hm; omega)
      simp only [List.getElem_cons_succ, List.getElem_cons_zero]
      omega
    | succ m =>
      simp only [List.getElem_cons_succ]
      exact ih m (by simpa using hm)
theorem byte_eq (s t : ByteArray) (x y : Nat) (hx : x < s.size) (hy : y < t.size) (h : (L s)[x]? = (L t)[y]?) : s[x] = t[y] := by
  rw [List.getElem?_eq_getElem (by rw [L_len]; exact hx), List.getElem?_eq_getElem (by rw [L_len]; exact hy)] at h
  exact Option.some.inj h
theorem add_succ' (a : Addr) (m : Nat) : a.add (m + 1) = ⟨a.block, a.off + (m + 1), none⟩ := by unfold Addr.add; rw [if_neg (by omega)]
set_option maxRecDepth 100000 in
set_option maxHeartbeats 16000000 in
theorem sameSays_any (s t : ByteArray) (w : World) (hs0 : s.size ≤ 140737488351232) (ht0 : t.size ≤ 140737488351232) :
    Calls Try.prog 3 #[.string s, .string t] w fun e w' => e = .returned (.bool true) ∧ Below w.heap.size w w' := by
  by_cases hl : 200 < s.size ∨ 200 < t.size
  · have HV : Hid (longAll [s, t] = 2) := by unfold Hid; rw [long2, if_pos hl]
    have HL := Lib.hid hl
    clear hl
    go_enter Try.func3, Try.ntmps3
    go_wp2_with fail
    refine (sameLong_long s t HL.out _).mono ?_
    rintro e w1 ⟨rfl, hb1⟩
    go_wp2_with fail
    refine (samePlaces_long s t HL.out _).mono ?_
    rintro e w2 ⟨rfl, hb2⟩
    go_wp2_with fail
    refine (within_long s t HL.out _).mono ?_
    rintro e w3 ⟨rfl, hb3⟩
    go_wp2_with fail
    refine (long_any [s, t] _ 2 _ (w3.heap.size + 1) _ (Rd.new_ (size := 1) (n := 2) w3 _ _ (Nat.lt_succ_self _) rfl) (by omega)).mono ?_
    rintro e w4 ⟨rfl, hb4⟩
    rw [HV.out]
    have hb5 : Below w3.heap.size w3 w4 := ((Below.refl _ _).alloc (Nat.le_refl _) _).trans (hb4.mono (by simp))
    go_wp2_with fail
    refine (sameCheck_any s t _).mono ?_
    rintro e w6 ⟨rfl, hb6⟩
    rw [HV.out]
    go_wp2_with fail
    go_ret
    exact ⟨rfl, bthen hb1 (bthen hb2 (bthen hb3 (bthen hb5 hb6)))⟩
  have hs : s.size ≤ 200 := by omega
  have ht : t.size ≤ 200 := by omega
  have HV : Hid (longAll [s, t] = 0) := by unfold Hid; rw [long2, if_neg hl]
  clear hl
  go_enter Try.func3, Try.ntmps3
  go_wp2_with fail
  refine (sameLong_any s t hs ht _).mono ?_
  rintro e w1 ⟨rfl, hb1⟩
  go_wp2_with fail
  refine (samePlaces_any s t hs ht _).mono ?_
  rintro e w2 ⟨vx, vy, ps, rfl, hms, hpl, ownx, owny, hb2⟩
  obtain ⟨A, c, rfl, hnc, hcm, hrx⟩ := own_form ownx
  obtain ⟨A', c', rfl, hnc', hcm', hry⟩ := own_form owny
  have HX := Lib.hid hrx
  have HY := Lib.hid hry
  have HM := Lib.hid hms
  have HPL := Lib.hid hpl
  have hp2 : ps.length ≤ 200 := by
    have := (lcs_le (L s) (L t)).1
    rw [L_len] at this; omega
  clear hrx hry ownx owny hms hpl
  rw [← HPL.out]
  go_wp2_with fail
  refine (within_any s t hs ht _).mono ?_
  rintro e w3 ⟨rfl, hb3⟩
  go_wp2_with fail
  refine (long_any [s, t] _ 2 _ (w3.heap.size + 1) _ (Rd.new_ (size := 1) (n := 2) w3 _ _ (Nat.lt_succ_self _) rfl) (by omega)).mono ?_
  rintro e w4 ⟨rfl, hb4⟩
  rw [HV.out]
  have hb5 : Below w3.heap.size w3 w4 := ((Below.refl _ _).alloc (Nat.le_refl _) _).trans (hb4.mono (by simp))
  clear hb4
  go_wp2_with fail
  refine (sameCheck_any s t _).mono ?_
  rintro e w6 ⟨rfl, hb6⟩
  rw [HV.out]
  go_wp2_with fail
  refine (sameOf_any s t hs ht _).mono ?_
  rintro e w7 ⟨rfl, hb7⟩
  rw [← HPL.out]
  have hb27 : Below w2.heap.size w2 w7 := bthen hb3 (bthen hb5 (bthen hb6 hb7))
  have hbW : Below w.heap.size w w7 := bthen hb1 (bthen hb2 hb27)
  have hz2 := hb27.size
  clear hb1 hb2 hb3 hb5 hb6 hb7
  have gp : ((ps.length : Int) == (ps.length : Int)) = true := beq_self_eq_true _
  have gp2 : ((ps.length : Int) != (ps.length : Int)) = false := bne_self_eq_false _
  go_wp2_with fail
  go_loopw [100] (fun i wr => ∃ m : Nat, m ≤ ps.length ∧ i = .int .i64 m ∧ Below w7.heap.size w7 wr) (fun i _ => ps.length - (intOf i).toNat)
  case atStart => exact ⟨0, Nat.zero_le _, rfl, Below.refl _ _⟩
  case round =>
    obtain ⟨m, hm, rfl, hb⟩ := hrel
    by_cases hlt : m < ps.length
    · have g1 : decide (m < ps.length) = true := decide_eq_true hlt
      have g1' : decide ((m : Int) < (ps.length : Int)) = true := decide_eq_true (by omega)
      obtain ⟨ad, rfl, cx⟩ := fsts_at fsts Prod.fst (fun _ => rfl) ((HX.out.below hb27).below (hb.mono hz2)) hlt
      obtain ⟨ad', rfl, cy⟩ := fsts_at snds Prod.snd (fun _ => rfl) ((HY.out.below hb27).below (hb.mono hz2)) hlt
      obtain ⟨_, _, hx3, hy3, hxy⟩ := ms_at HM.out m hlt
      rw [L_len] at hx3 hy3
      have hbe := byte_eq s t _ _ hx3 hy3 hxy
      have HB : Hid (s[(ps[m]).1] = t[(ps[m]).2]) := hbe
      clear hbe hxy
      cases m with
      | zero =>
        have e0 : ad.add 0 = ad := by unfold Addr.add; rw [if_pos rfl]
        have e0' : ad'.add 0 = ad' := by unfold Addr.add; rw [if_pos rfl]
        rw [e0] at cx
        rw [e0'] at cy
        clear e0 e0'
        generalize (ps[0]).1 = x at *
        generalize (ps[0]).2 = y at *
        have n1 : decide ((x : Int) < 0) = false := decide_eq_false (by omega)
        have n2 : decide ((y : Int) < 0) = false := decide_eq_false (by omega)
        have g3 : decide (s.size ≤ x) = false := decide_eq_false (by omega)
        have g4 : decide (t.size ≤ y) = false := decide_eq_false (by omega)
        have g5 : ((s[x].toNat : Int) != (t[y].toNat : Int)) = false := by rw [HB.out]; simp
        have g6 : ((s[x].toNat : Int) == (t[y].toNat : Int)) = true := by rw [HB.out]; simp
        rw [show ((0 : Nat) : Int) = 0 from rfl]
        go_wp2_with fail
        refine wp_region_quiet_lit (by kernel_rfl) (by kernel_rfl) ?_
        dsimp only [List.append]
        repeat (go_big_quiet_step (fail))
        refine wpQuiet_nil ?_
        intro _ hw'
        obtain ⟨nq, hw''⟩ := hw'
        subst hw''
        go_wp2_with fail
        go_roundw
        case rel => exact ⟨1, by omega, rfl, below_drewN hb _⟩
        case measure => simp [intOf]; omega
      | succ m =>
        obtain ⟨hu1, hu2⟩ := ms_up HM.out m hlt
        obtain ⟨ad1, e1, dx⟩ := fsts_at fsts Prod.fst (fun _ => rfl) ((HX.out.below hb27).below (hb.mono hz2)) (show m < ps.length by omega)
        obtain ⟨ad2, e2, dy⟩ := fsts_at snds Prod.snd (fun _ => rfl) ((HY.out.below hb27).below (hb.mono hz2)) (show m < ps.length by omega)
        cases e1
        cases e2
        rw [add_succ'] at cx cy
        generalize (ps[m + 1]).1 = x at *
        generalize (ps[m + 1]).2 = y at *
        generalize (ps[m]).1 = x' at *
        generalize (ps[m]).2 = y' at *
        have n1 : decide ((x : Int) < 0) = false := decide_eq_false (by omega)
        have n2 : decide ((y : Int) < 0) = false := decide_eq_false (by omega)
        have g3 : decide (s.size ≤ x) = false := decide_eq_false (by omega)
        have g4 : decide (t.size ≤ y) = false := decide_eq_false (by omega)
        have g5 : ((s[x].toNat : Int) != (t[y].toNat : Int)) = false := by rw [HB.out]; simp
        have g6 : ((s[x].toNat : Int) == (t[y].toNat : Int)) = true := by rw [HB.out]; simp
        have g7 : decide (x ≤ x') = false := decide_eq_false (by omega)
        have g8 : decide (y ≤ y') = false := decide_eq_false (by omega)
        have q5 : decide (0 < m + 1) = true := decide_eq_true (Nat.succ_pos _)
        go_wp2_with fail
        refine wp_region_quiet_lit (by kernel_rfl) (by kernel_rfl) ?_
        dsimp only [List.append]
        repeat (go_big_quiet_step (fail))
        refine wpQuiet_nil ?_
        intro _ hw'
        obtain ⟨nq, hw''⟩ := hw'
        subst hw''
        go_wp2_with fail
        go_roundw
        case rel => exact ⟨m + 1 + 1, by omega, by go_num, below_drewN hb _⟩
        case measure => simp [intOf]; omega
    · obtain rfl : m = ps.length := by omega
      have g1 : decide (ps.length < ps.length) = false := decide_eq_false (by omega)
      have g1' : decide ((ps.length : Int) < (ps.length : Int)) = false := decide_eq_false (by omega)
      go_wp2_with fail
      refine (in_any _ s t (Nat.le_refl _) ht _).mono ?_
      rintro e w9 ⟨rfl, hb9⟩
      generalize subB (L s) (L t) = q at *
      have gq : (q == q) = true := beq_self_eq_true _
      go_wp2_with fail
      go_ret
      exact ⟨rfl, bthen hbW (bthen hb hb9)⟩
end Go.Proofs.Ytolnhplgaolieaa
