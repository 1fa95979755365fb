/- The law DiffSays, walked. -/
import Derived.Test.YthnedhfjochfnaaDiffW
import Derived.Test.YthnedhfjochfnaaSameR
import Derived.Test.YthnedhfjochfnaaEditB
namespace Go.Proofs.Ythnedhfjochfnaa
open Go.RowKit
theorem edOf_mem {a b : List UInt8} {i k : Nat} {ms : List (Nat × Nat)} (h : Ms a b i k ms) : ∀ x ∈ edOf a b i k ms, 0 ≤ x.del := by
  induction h with
  | nil i k h1 h2 =>
    intro x hx
    simp only [edOf] at hx
    split at hx
    · simp only [List.mem_singleton] at hx; subst hx; show (0 : Int) ≤ (a.length : Int) - i; omega
    · cases hx
  | cons i k x y r h1 h2 h3 h4 h5 h6 ih =>
    intro z hz
    simp only [edOf, List.mem_append] at hz
    rcases hz with hz | hz
    · split at hz
      · simp only [List.mem_singleton] at hz; subst hz; show (0 : Int) ≤ (x : Int) - i; omega
      · cases hz
    · exact ih z hz
theorem cost_take {l : List Ed} (h : ∀ x ∈ l, 0 ≤ x.del) {k : Nat} (hk : k < l.length) : cost (l.take (k + 1)) = cost (l.take k) + (l[k].del + l[k].ins.length) ∧ 0 ≤ cost (l.take k) ∧ 0 ≤ l[k].del ∧ cost (l.take (k + 1)) ≤ cost l := by
  have hp : ∀ (m : List Ed), (∀ x ∈ m, 0 ≤ x.del) → 0 ≤ cost m := by
    intro m
    induction m with
    | nil => intro _; exact Int.le_refl _
    | cons x m ih =>
      intro hm
      have h1 := ih (fun y hy => hm y (List.mem_cons_of_mem _ hy))
      have h2 := hm x List.mem_cons_self
      simp only [cost]; omega
  have e1 : cost (l.take (k + 1)) = cost (l.take k) + (l[k].del + l[k].ins.length) := by
    rw [List.take_succ_eq_append_getElem hk, cost_append]; simp [cost]
  have e2 : cost l = cost (l.take (k + 1)) + cost (l.drop (k + 1)) := by rw [← cost_append, List.take_append_drop]
  have h3 := hp (l.drop (k + 1)) (fun y hy => h y (List.mem_of_mem_drop hy))
  exact ⟨e1, hp _ (fun y hy => h y (List.mem_of_mem_take hy)), h _ (List.getElem_mem hk), by omega⟩
set_option maxRecDepth 100000 in
set_option maxHeartbeats 16000000 in
theorem diffSays_any (s t : ByteArray) (w : World) (hs0 : s.size ≤ 140737488351232) (ht0 : t.size ≤ 140737488351232) :
    Calls Try.prog 13 #[.string s, .string t] w fun e w' => e = .returned (.bool true) ∧ Below w.heap.size w w' := by
  by_cases hl : 200 < s.size ∨ 200 < t.size
  · have HV : Hid (longAll [s, t] = 2) := by unfold Hid; rw [long2, if_pos hl]
    have HL := Lib.hid hl
    clear hl
    go_enter Try.func13, Try.ntmps13
    go_wp2_with fail
    refine (diffMake_long s t HL.out _).mono ?_
    rintro e w1 ⟨rfl, hb1⟩
    go_wp2_with fail
    refine (diffCost_long s t HL.out _).mono ?_
    rintro e w2 ⟨rfl, hb2⟩
    go_wp2_with fail
    refine (long_any [s, t] _ 2 _ (w2.heap.size + 1) _ (Rd.new_ (size := 1) (n := 2) w2 _ _ (Nat.lt_succ_self _) rfl) (by omega)).mono ?_
    rintro e w3 ⟨rfl, hb3⟩
    rw [HV.out]
    have hb4 : Below w2.heap.size w2 w3 := ((Below.refl _ _).alloc (Nat.le_refl _) _).trans (hb3.mono (by simp))
    go_wp2_with fail
    go_ret
    exact ⟨rfl, bthen hb1 (bthen hb2 hb4)⟩
  have hs : s.size ≤ 200 := by omega
  have ht : t.size ≤ 200 := by omega
  have HV : Hid (longAll [s, t] = 0) := by unfold Hid; rw [long2, if_neg hl]
  have HD : Hid (dcost s t = (s.size : Int) + t.size - 2 * (lcs (L s) (L t) : Nat)) := rfl
  have HQ := (lcs_le (L s) (L t)).1
  rw [L_len] at HQ
  have HQ2 := (lcs_le (L s) (L t)).2
  rw [L_len] at HQ2
  clear hl
  by_cases hf : 20 < dcost s t
  · have hf2 : 20 < (s.size : Int) + t.size - 2 * (lcs (L s) (L t) : Nat) := hf
    have g1 : decide ((20 : Int) < (s.size : Int) + t.size - 2 * (lcs (L s) (L t) : Nat)) = true := decide_eq_true hf2
    go_enter Try.func13, Try.ntmps13
    go_wp2_with fail
    refine (diffMake_full s t hs ht hf _).mono ?_
    rintro e w1 ⟨rfl, hb1⟩
    go_wp2_with fail
    refine (diffCost_any s t hs ht _).mono ?_
    rintro e w2 ⟨rfl, hb2⟩
    rw [HD.out]
    generalize hlz : lcs (L s) (L t) = z at *
    go_wp2_with fail
    refine (long_any [s, t] _ 2 _ (w2.heap.size + 1) _ (Rd.new_ (size := 1) (n := 2) w2 _ _ (Nat.lt_succ_self _) rfl) (by omega)).mono ?_
    rintro e w3 ⟨rfl, hb3⟩
    rw [HV.out]
    have hb4 : Below w2.heap.size w2 w3 := ((Below.refl _ _).alloc (Nat.le_refl _) _).trans (hb3.mono (by simp))
    have HLZ := Lib.hid hlz
    clear hlz
    go_wp2_with fail
    refine (sameOf_any s t hs ht _).mono ?_
    rintro e w5 ⟨rfl, hb5⟩
    rw [HLZ.out]
    go_wp2_with fail
    go_ret
    exact ⟨rfl, bthen hb1 (bthen hb2 (bthen hb4 hb5))⟩
  · have hf2 : (s.size : Int) + t.size - 2 * (lcs (L s) (L t) : Nat) ≤ 20 := by have := HD.out; omega
    have hf3 : dcost s t ≤ 20 := by omega
    have g1 : decide ((20 : Int) < (s.size : Int) + t.size - 2 * (lcs (L s) (L t) : Nat)) = false := decide_eq_false (by omega)
    clear hf
    go_enter Try.func13, Try.ntmps13
    go_wp2_with fail
    refine (diffMake_any s t hs ht hf3 _).mono ?_
    rintro e w1 ⟨v, ps, rfl, hms, hpl, hown1, hb1⟩
    obtain ⟨A, c, rfl, hnc, hcm, hr1⟩ := own_form hown1
    have HR1 := Lib.hid hr1
    obtain ⟨hE, hDn, hC⟩ := edOf_right hms (by rw [L_len]; exact hs) (by rw [L_len]; exact ht) (by rw [L_len, L_len, hpl]; exact hf2)
    rw [L_len] at hE
    rw [L_len, L_len, hpl] at hC
    have HM := Lib.hid (edOf_mem hms)
    have hlen : (edOf (L s) (L t) 0 0 ps).length ≤ 20 := (edErr_zero.1 hE).2.2.1
    have HE := Lib.hid hE
    have HDN := Lib.hid hDn
    have HC := Lib.hid hC
    clear hE hDn hC hown1 hr1 hms hpl hf3
    go_wp2_with fail
    refine (diffCost_any s t hs ht _).mono ?_
    rintro e w2 ⟨rfl, hb2⟩
    rw [HD.out]
    generalize hlz : lcs (L s) (L t) = z at *
    have HLZ := Lib.hid hlz
    clear hlz
    generalize edOf (L s) (L t) 0 0 ps = l at *
    go_wp2_with fail
    refine (long_any [s, t] _ 2 _ (w2.heap.size + 1) _ (Rd.new_ (size := 1) (n := 2) w2 _ _ (Nat.lt_succ_self _) rfl) (by omega)).mono ?_
    rintro e w3 ⟨rfl, hb3⟩
    rw [HV.out]
    have hb4 : Below w2.heap.size w2 w3 := ((Below.refl _ _).alloc (Nat.le_refl _) _).trans (hb3.mono (by simp))
    clear hb3
    go_wp2_with fail
    refine (sameOf_any s t hs ht _).mono ?_
    rintro e w5 ⟨rfl, hb5⟩
    rw [HLZ.out]
    have hb15 : Below w1.heap.size w1 w5 := bthen hb2 (bthen hb4 hb5)
    have HR5 := Lib.hid (HR1.out.below hb15)
    clear HR1 hb2 hb4 hb5
    go_wp2_with fail
    refine (editsErr_any s.size l A l.length c _ w5 HR5.out hb15.size (by omega)).mono ?_
    rintro e w6 ⟨rfl, hb6⟩
    rw [HE.out]
    have HR6 := Lib.hid (HR5.out.below (hb6.mono hb15.size))
    have hb16 := bthen hb15 hb6
    go_wp2_with fail
    refine (edDone_any s l A l.length c _ w6 HR6.out hb16.size HE.out).mono ?_
    rintro e w7 ⟨rfl, hb7⟩
    have hb17 := bthen hb16 hb7
    have HR7 := Lib.hid (HR6.out.below (hb7.mono hb16.size))
    have e9 : S (edDone (L s) l) = t := by rw [HDN.out]; rfl
    rw [e9]
    clear e9
    have gt : (t.toList == t.toList) = true := beq_self_eq_true _
    have gt2 : (t.toList != t.toList) = false := bne_self_eq_false _
    go_wp2_with fail
    generalize hdz : (s.size : Int) + t.size - 2 * (z : Nat) = dz at *
    have hd0 : 0 ≤ dz := by omega
    have hbz : w1.heap.size ≤ w7.heap.size := hb17.size
    go_loopw [10, 92] (fun d i wr => ∃ k : Nat, k ≤ l.length ∧ i = .int .i64 k ∧ d = .int .i64 (dz - cost (l.take k)) ∧ Below w7.heap.size w7 wr) (fun _ i _ => l.length - (intOf i).toNat)
    case atStart => exact ⟨0, Nat.zero_le _, rfl, by rw [List.take_zero, cost]; go_num, Below.refl _ _⟩
    case round =>
      obtain ⟨k, hk, rfl, rfl, hb⟩ := hrel
      have HCE : Hid (cost l = dz) := HC.out
      by_cases hlt : k < l.length
      · have g5 : decide (k < l.length) = true := decide_eq_true hlt
        have g6 : decide ((k : Int) < (l.length : Int)) = true := decide_eq_true (by omega)
        obtain ⟨ad, hl, rfl, hab, c0, c1, c2⟩ := (HR7.out.below (hb.mono hbz)).at_ed hlt
        obtain ⟨q1, q2, q3, q4⟩ := cost_take HM.out hlt
        have q5 := HCE.out
        have HQ1 := Lib.hid q1
        have q6 : 0 ≤ dz - cost (l.take k) - (l[k].del + l[k].ins.length) := by omega
        have q7 : l[k].del ≤ 20 := by omega
        have q8 : (l[k].ins.length : Int) ≤ 20 := by omega
        have hzs : Hid ((S l[k].ins).size = l[k].ins.length) := S_size _
        have q9 : (S l[k].ins).size ≤ 20 := by rw [hzs.out]; omega
        have q10 : cost (l.take k) ≤ 20 := by omega
        clear q1 q4 q5
        generalize l[k] = x at *
        obtain ⟨xa, xd, xi⟩ := x
        simp only at c0 c1 c2 q3 q6 q7 q8 q9 hzs HQ1
        generalize hcc : cost (l.take k) = cc at *
        go_wp2_with fail
        go_roundw
        case rel => exact ⟨k + 1, by omega, by go_num, by rw [HQ1.out, hzs.out]; go_num, Below.alloc hb (by first | exact hb.size | omega) _⟩
        case measure => simp [intOf]; omega
      · obtain rfl : k = l.length := by omega
        have g5 : decide (l.length < l.length) = false := decide_eq_false (by omega)
        have g6 : decide ((l.length : Int) < (l.length : Int)) = false := decide_eq_false (by omega)
        have e0 : dz - cost (l.take l.length) = 0 := by rw [List.take_length, HCE.out]; omega
        rw [e0]
        go_wp2_with fail
        go_ret
        exact ⟨rfl, bthen hb1 (bthen hb17 hb)⟩
end Go.Proofs.Ythnedhfjochfnaa
