/- The law DistSays, walked. -/
import Derived.Test.YthnedhfjochfnaaDistF
import Derived.Test.YthnedhfjochfnaaDistN
namespace Go.Proofs.Ythnedhfjochfnaa
open Go.RowKit
theorem longs_strs (l : List (List UInt8)) : longAll (l.map S) = if ∃ x ∈ l, 200 < x.length then 2 else 0 := by
  unfold longAll
  have e : (∃ s ∈ l.map S, 200 < s.size) ↔ ∃ x ∈ l, 200 < x.length := by
    simp only [List.mem_map]
    constructor
    · rintro ⟨s, ⟨x, hx, rfl⟩, h⟩; rw [S_size] at h; exact ⟨x, hx, h⟩
    · rintro ⟨x, hx, h⟩; exact ⟨S x, ⟨x, hx, rfl⟩, by rw [S_size]; exact h⟩
  simp only [e]
theorem strCells_map (l : List (List UInt8)) : strCells l = (l.map S).map .string := by simp [strCells]
theorem dist_cases (s t : ByteArray) : (200 < s.size ∨ 200 < t.size) ∨ (s.size ≤ 200 ∧ t.size ≤ 200 ∧ ¬ s.size = t.size) ∨ (s.size ≤ 200 ∧ t.size = s.size) := by omega
theorem near_any (s : ByteArray) (most : Int) (l : List (List UInt8)) (A : Option Addr) (n c B : Nat) (w : World) (hr : Rd w B 1 A n (strCells l)) (hB : B ≤ w.heap.size) :
    Calls Try.prog 55 #[.string s, .slice A n c, .int .i64 most] w fun e w' => ∃ v x, e = .returned (.tuple #[v, .int .i64 x]) ∧
      ((200 < s.size ∨ 200 < n ∨ ∃ x ∈ l, 200 < x.length) → x = 2 ∧ v = .slice none 0 0) ∧ ((¬ (200 < s.size ∨ 200 < n ∨ ∃ x ∈ l, 200 < x.length)) → x = 0 ∧ w'.ownsRow w.heap.size 3 1 v (nearAt (L s) most l n).length (ints (nearAt (L s) most l n))) ∧ Below w.heap.size w w' := by
  by_cases h1 : 200 < s.size
  · refine (nearS s h1 most A n c w).mono fun e w' ⟨he, hb⟩ => ⟨_, _, he, fun _ => ⟨rfl, rfl⟩, fun h => absurd (.inl h1) h, hb⟩
  · by_cases h2 : 200 < n
    · refine (nearC s (by omega) most A n c h2 w).mono fun e w' ⟨he, hb⟩ => ⟨_, _, he, fun _ => ⟨rfl, rfl⟩, fun h => absurd (.inr (.inl h2)) h, hb⟩
    · refine (nearL s (by omega) most l A n c B (by omega) w hr hB).mono fun e w' ⟨v, x, he, h3, h4, hb⟩ => ⟨v, x, he, fun h => h3 ?_, fun h => h4 fun h5 => h (.inr (.inr h5)), hb⟩
      rcases h with h | h | h
      · exact absurd h h1
      · exact absurd h h2
      · exact h
theorem swaps_eq2 (s t : ByteArray) (hs : s.size ≤ 200) (ht : t.size = s.size) (w : World) :
    Calls Try.prog 56 #[.string s, .string t] w fun e w' => e = .returned (.tuple #[.int .i64 (ham (L s) (L t) (min s.size t.size) : Nat), .int .i64 0]) ∧ Below w.heap.size w w' := by
  rw [show min s.size t.size = s.size by omega]; exact swaps_eq s t hs ht w
set_option maxRecDepth 100000 in
set_option maxHeartbeats 16000000 in
theorem distSays_any (s t : ByteArray) (l : List (List UInt8)) (A : Option Addr) (n c : Nat) (most : Int) (w : World) (hs0 : s.size ≤ 140737488351232) (ht0 : t.size ≤ 140737488351232) (hn : n ≤ 140737488351232) (hr : Rd w w.heap.size 1 A n (strCells l)) :
    Calls Try.prog 11 #[.string s, .string t, .slice A n c, .int .i64 most] w fun e w' => e = .returned (.bool true) ∧ Below w.heap.size w w' := by
  obtain ⟨i0, hi0, hz0, hz1, hz2⟩ := info_parts info_int
  have HR := Lib.hid hr
  clear hr
  rcases dist_cases s t with hl | ⟨hs, ht, hne⟩ | ⟨hs, hts⟩
  case' inl =>
    have HV : Hid (longAll [s, t] = 2) := by unfold Hid; rw [long2, if_pos hl]
    go_enter Try.func11, Try.ntmps11
    go_wp2_with fail
    refine (distOf_long s t hl _).mono ?_
    rintro e w1 ⟨rfl, hb1⟩
    go_wp2_with fail
    refine (near_any s most l A n c _ w1 (HR.out.below hb1) hb1.size).mono ?_
    rintro e w2 ⟨v, x, rfl, hbad, hgood, hb2⟩
    have HBAD := Lib.hid hbad
    have HGOOD := Lib.hid hgood
    clear hbad hgood
    go_wp2_with fail
    refine (swaps_long s t hl _).mono ?_
    rintro e w3 ⟨rfl, hb3⟩
    go_wp2_with fail
    refine (long_any [s, t] _ 2 _ (w3.heap.size + 1) _ (Rd.new_ (size := 1) (n := 2) w3 _ _ (Nat.lt_succ_self _) rfl) (by omega)).mono ?_
    rintro e w5 ⟨rfl, hb4⟩
    rw [HV.out]
    have hb5 : Below w3.heap.size w3 w5 := ((Below.refl _ _).alloc (Nat.le_refl _) _).trans (hb4.mono (by simp))
    clear hb4 hl
  case' inr.inl =>
    have d1 : ((s.size : Int) != (t.size : Int)) = true := by rw [bne_iff_ne]; omega
    have d2 : ((s.size : Int) == (t.size : Int)) = false := by rw [beq_eq_false_iff_ne]; omega
    have HV : Hid (longAll [s, t] = 0) := by unfold Hid; rw [long2, if_neg (by omega)]
    go_enter Try.func11, Try.ntmps11
    go_wp2_with fail
    refine (distOf_any s t hs ht _).mono ?_
    rintro e w1 ⟨rfl, hb1⟩
    go_wp2_with fail
    refine (near_any s most l A n c _ w1 (HR.out.below hb1) hb1.size).mono ?_
    rintro e w2 ⟨v, x, rfl, hbad, hgood, hb2⟩
    have HBAD := Lib.hid hbad
    have HGOOD := Lib.hid hgood
    clear hbad hgood
    go_wp2_with fail
    refine (swaps_ne s t hs ht hne _).mono ?_
    rintro e w3 ⟨rfl, hb3⟩
    go_wp2_with fail
    refine (long_any [s, t] _ 2 _ (w3.heap.size + 1) _ (Rd.new_ (size := 1) (n := 2) w3 _ _ (Nat.lt_succ_self _) rfl) (by omega)).mono ?_
    rintro e w4 ⟨rfl, hb4⟩
    rw [HV.out]
    go_wp2_with fail
    refine (farOf_any s t hs ht _).mono ?_
    rintro e w5 ⟨rfl, hb4'⟩
    have hb5 : Below w3.heap.size w3 w5 := (((Below.refl _ _).alloc (Nat.le_refl _) _).trans (hb4.mono (by simp))).trans (hb4'.mono (by have := hb4.size; simp at this; omega))
    clear hb4 hb4' hs ht
  case' inr.inr =>
    have d1 : ((s.size : Int) != (t.size : Int)) = false := by rw [hts]; simp
    have d2 : ((s.size : Int) == (t.size : Int)) = true := by rw [hts]; simp
    have ht : t.size ≤ 200 := by omega
    have HV : Hid (longAll [s, t] = 0) := by unfold Hid; rw [long2, if_neg (by omega)]
    go_enter Try.func11, Try.ntmps11
    go_wp2_with fail
    refine (distOf_any s t hs ht _).mono ?_
    rintro e w1 ⟨rfl, hb1⟩
    go_wp2_with fail
    refine (near_any s most l A n c _ w1 (HR.out.below hb1) hb1.size).mono ?_
    rintro e w2 ⟨v, x, rfl, hbad, hgood, hb2⟩
    have HBAD := Lib.hid hbad
    have HGOOD := Lib.hid hgood
    clear hbad hgood
    go_wp2_with fail
    refine (swaps_eq2 s t hs hts _).mono ?_
    rintro e w3 ⟨rfl, hb3⟩
    go_wp2_with fail
    refine (long_any [s, t] _ 2 _ (w3.heap.size + 1) _ (Rd.new_ (size := 1) (n := 2) w3 _ _ (Nat.lt_succ_self _) rfl) (by omega)).mono ?_
    rintro e w4 ⟨rfl, hb4⟩
    rw [HV.out]
    go_wp2_with fail
    refine (farOf_any s t hs ht _).mono ?_
    rintro e w5 ⟨rfl, hb4'⟩
    have hb5 : Below w3.heap.size w3 w5 := (((Below.refl _ _).alloc (Nat.le_refl _) _).trans (hb4.mono (by simp))).trans (hb4'.mono (by have := hb4.size; simp at this; omega))
    clear hb4 hb4' hs ht
  all_goals
    have hord : t.size < s.size ∨ s.size ≤ t.size := Nat.lt_or_ge _ _
    rcases hord with ho | ho
  all_goals
    first
    | (exfalso; omega)
    | (have o1 : decide ((t.size : Int) < (s.size : Int)) = true := decide_eq_true (by omega)
       have o2 : decide (t.size < s.size) = true := decide_eq_true (by omega))
    | (have o1 : decide ((t.size : Int) < (s.size : Int)) = false := decide_eq_false (by omega)
       have o2 : decide (t.size < s.size) = false := decide_eq_false (by omega))
  all_goals
    have HGOOD5 : Hid (¬ (200 < s.size ∨ 200 < n ∨ ∃ x ∈ l, 200 < x.length) → x = 0 ∧ w5.ownsRow w1.heap.size 3 1 v (nearAt (L s) most l n).length (ints (nearAt (L s) most l n))) := fun h => ⟨(HGOOD.out h).1, own_below (own_below (HGOOD.out h).2 hb3) hb5⟩
    have hB5 : Below w.heap.size w w5 := bthen hb1 (bthen hb2 (bthen hb3 hb5))
    clear HGOOD hb1 hb2 hb3 hb5
    go_wp2_with fail
    generalize hmn : min s.size t.size = mn at *
    have hmns : mn ≤ s.size := by omega
    have hmnt : mn ≤ t.size := by omega
    go_loopw [16, 80] (fun c i wr => ∃ k : Nat, k ≤ mn ∧ i = .int .i64 k ∧ c = .int .i64 (ham (L s) (L t) k : Nat) ∧ Below w5.heap.size w5 wr) (fun _ i _ => mn - (intOf i).toNat)
    case atStart => exact ⟨0, Nat.zero_le _, rfl, rfl, Below.refl _ _⟩
    case round =>
      obtain ⟨k, hk, rfl, rfl, hb⟩ := hrel
      by_cases hlt : k < mn
      · have hlts : k < s.size := by omega
        have hltt : k < t.size := by omega
        have g3 : decide ((k : Int) < (s.size : Int)) = true := decide_eq_true (by omega)
        have g3' : decide ((k : Int) < (t.size : Int)) = true := decide_eq_true (by omega)
        have hh : ham (L s) (L t) (k + 1) = ham (L s) (L t) k + if s[k] = t[k] then 0 else 1 := by rw [ham, ← getB s k hlts, ← getB t k hltt]
        have hle := ham_le (L s) (L t) k
        by_cases he : s[k] = t[k]
        · rw [if_pos he] at hh
          have g4 : ((s[k].toNat : Int) == (t[k].toNat : Int)) = true := by rw [he]; simp
          have g5 : ((s[k].toNat : Int) != (t[k].toNat : Int)) = false := by rw [he]; simp
          have HH := Lib.hid hh
          clear he hh
          go_wp2_with fail
          go_quiet (fail)
          go_wp2_with fail
          go_roundw
          case rel => exact ⟨k + 1, by omega, by go_num, by rw [HH.out, Nat.add_zero], below_drewN hb _⟩
          case measure => simp [intOf]; omega
        · rw [if_neg he] at hh
          have g4 : ((s[k].toNat : Int) == (t[k].toNat : Int)) = false := by
            rw [beq_eq_false_iff_ne]; intro h; exact he (UInt8.toNat_inj.1 (by omega))
          have g5 : ((s[k].toNat : Int) != (t[k].toNat : Int)) = true := by
            rw [bne_iff_ne]; intro h; exact he (UInt8.toNat_inj.1 (by omega))
          have HH := Lib.hid hh
          clear he hh
          have hsz := s.size
          go_wp2_with fail
          go_quiet (fail)
          go_wp2_with fail
          go_roundw
          case rel => exact ⟨k + 1, by omega, by go_num, by rw [HH.out]; go_num, below_drewN hb _⟩
          case measure => simp [intOf]; omega
      · obtain rfl : k = mn := by omega
        first
          | (have g3 : decide ((k : Int) < (s.size : Int)) = false := decide_eq_false (by omega))
          | (have g3 : decide ((k : Int) < (t.size : Int)) = false := decide_eq_false (by omega))
        try (have hks : k = s.size := by omega
             rw [hks]
             clear hks
             generalize ham (L s) (L t) s.size = hh
             have g10 : ((hh : Int) != (hh : Int)) = false := bne_self_eq_false _
             have g11 : ((hh : Int) == (hh : Int)) = true := beq_self_eq_true _)
        go_wp2_with fail
        have hB6 := bthen hB5 hb
        refine (long_any [s] _ 1 _ (wr.heap.size + 1) _ (Rd.new_ (size := 1) (n := 1) wr _ _ (Nat.lt_succ_self _) rfl) (by omega)).mono ?_
        rintro e w6 ⟨rfl, hb6⟩
        have hb6' : Below wr.heap.size wr w6 := ((Below.refl _ _).alloc (Nat.le_refl _) _).trans (hb6.mono (by simp))
        rw [longAll_one]
        have hB7 := bthen hB6 hb6'
        have hb56 := bthen hb hb6'
        clear hb6 hb6' hB6 hb
        by_cases hsl : 200 < s.size
        · have HL : Hid (longErr s.size = 2) := by unfold Hid longErr; rw [if_pos hsl]
          rw [HL.out]
          obtain ⟨rfl, rfl⟩ := HBAD.out (.inl hsl)
          clear hsl
          go_wp2_with fail
          go_ret
          exact ⟨rfl, hB7⟩
        · have HL : Hid (longErr s.size = 0) := by unfold Hid longErr; rw [if_neg hsl]
          rw [HL.out]
          by_cases hnl : 200 < n
          · have g8 : decide ((200 : Int) < (n : Int)) = true := decide_eq_true (by omega)
            obtain ⟨rfl, rfl⟩ := HBAD.out (.inr (.inl hnl))
            clear hsl hnl
            go_wp2_with fail
            go_ret
            exact ⟨rfl, hB7⟩
          · have g8 : decide ((200 : Int) < (n : Int)) = false := decide_eq_false (by omega)
            have hr6 := HR.out.below hB7
            rw [strCells_map] at hr6
            go_wp2_with fail
            refine (long_any (l.map S) A n c _ w6 hr6 (by omega)).mono ?_
            rintro e w7 ⟨rfl, hb7⟩
            rw [longs_strs]
            clear hr6
            by_cases hx : ∃ x ∈ l, 200 < x.length
            · rw [if_pos hx]
              obtain ⟨rfl, rfl⟩ := HBAD.out (.inr (.inr hx))
              clear hx hsl hnl
              go_wp2_with fail
              go_ret
              exact ⟨rfl, bthen hB7 hb7⟩
            · rw [if_neg hx]
              obtain ⟨rfl, hown⟩ := HGOOD5.out (fun h => h.elim hsl fun h => h.elim hnl hx)
              obtain ⟨A9, c9, rfl, hn9, hm9, hrd9⟩ := own_form hown
              have hle58 := (bthen hb56 hb7).size
              have HR9 := Lib.hid (hrd9.below (bthen hb56 hb7))
              have hB8 := bthen hB7 hb7
              have HR8 := Lib.hid (HR.out.below hB8)
              have hss : s.size ≤ 200 := by omega
              have hnn : n ≤ 200 := by omega
              have HX := Lib.hid hx
              clear hown hrd9 hx hsl hnl hB7 hb7 hb56 hB5 HGOOD5 HBAD
              go_wp2_with fail
              generalize w7 = w8 at *
              go_loopw [18, 139] (fun o i wr => ∃ k : Nat, k ≤ n ∧ i = .int .i64 k ∧ wr.ownsRow w8.heap.size 3 1 o (nearAt (L s) most l k).length (ints (nearAt (L s) most l k)) ∧ Below w8.heap.size w8 wr) (fun _ i _ => n - (intOf i).toNat)
              case atStart => exact ⟨0, Nat.zero_le _, rfl, World.ownsRow_nil _ _ _ _, Below.refl _ _⟩
              case round =>
                obtain ⟨k, hk, rfl, hown, hb⟩ := hrel
                by_cases hlt : k < n
                · have gg2 : decide ((k : Int) < (n : Int)) = true := decide_eq_true (by omega)
                  obtain ⟨ad, rfl, hab, hc⟩ := str_cell (HR8.out.below (hb.mono hB8.size)) hlt
                  have hx2 : (l.getD k []).length ≤ 200 := by
                    have := HR8.out.1
                    have hl : k < l.length := by simp only [strCells, List.length_map] at this; omega
                    have h2 : ¬ 200 < (l.getD k []).length := fun h => HX.out ⟨_, by rw [List.getD_eq_getElem?_getD, List.getElem?_eq_getElem hl]; exact List.getElem_mem hl, h⟩
                    omega
                  have HOWN := Lib.hid hown
                  have HQ1 : Hid (((lev (L s) (l.getD k []) : Nat) : Int) ≤ most → nearAt (L s) most l (k + 1) = nearAt (L s) most l k ++ [(k : Int)]) := nearAt_hit
                  have HQ0 : Hid (¬ ((lev (L s) (l.getD k []) : Nat) : Int) ≤ most → nearAt (L s) most l (k + 1) = nearAt (L s) most l k) := nearAt_miss
                  have hql := nearAt_len (L s) most l k
                  clear hown
                  generalize l.getD k [] = y at *
                  go_wp2_with fail
                  refine (farOf_any s _ hss (by rw [S_size]; exact hx2) _).mono ?_
                  rintro e w5 ⟨rfl, hb5⟩
                  rw [L_S]
                  have hown := own_below HOWN.out hb5
                  have hb5' := bthen hb hb5
                  clear hb HOWN hc hb5
                  by_cases hd : ((lev (L s) y : Nat) : Int) ≤ most
                  · have g3 : decide (((lev (L s) y : Nat) : Int) ≤ most) = true := decide_eq_true hd
                    have HQ := Lib.hid (HQ1.out hd)
                    clear hd HQ1 HQ0
                    generalize lev (L s) y = d at *
                    generalize nearAt (L s) most l k = q at *
                    go_wp2_with (at_builtin; go_must (refine wpList_appG rfl _ _ _ rfl w8.heap.size 3 i0 _ 1 8 Try.underlying22 hi0 hz0 hz1 hz2 rfl (by omega) _ q.length (ints q) rfl (hown.alloc _) ⟨w5.heap.size, 0, none⟩ 1 1 [.int .i64 (k : Int)] rfl rfl (cell_one_new _ _ _) (by simp [Value.oneCell']) (by omega) (by omega) (by have := hb5'.size; simp; omega) ?_); intro v6 w6 hown6 hg6 hb6)
                    have hb6' := (hb5'.alloc hb5'.size _).trans hb6
                    clear hg6 hb6 hown
                    go_roundw
                    case rel =>
                      refine ⟨k + 1, by omega, by go_num, ?_, hb6'⟩
                      rw [HQ.out, ints_app, List.length_append]
                      exact hown6
                    case measure => simp [intOf]; omega
                  · have g3 : decide (((lev (L s) y : Nat) : Int) ≤ most) = false := decide_eq_false hd
                    have HQ := Lib.hid (HQ0.out (by omega))
                    have HO := Lib.hid hown
                    clear hd hown
                    go_wp2_with fail
                    go_roundw
                    case rel => exact ⟨k + 1, by omega, by go_num, by rw [HQ.out]; exact HO.out, hb5'⟩
                    case measure => simp [intOf]; omega
                · obtain rfl : k = n := by omega
                  have gg2 : decide ((k : Int) < (k : Int)) = false := decide_eq_false (by omega)
                  obtain ⟨A10, c10, rfl, hn10, hm10, hrd10⟩ := own_form hown
                  have HR10 := Lib.hid hrd10
                  have HR9' := Lib.hid (HR9.out.below (hb.mono hle58))
                  clear hown hrd10
                  go_wp2_with fail
                  refine (alike_int_true _ _ _ _ _ _ _ _ _ (by unfold maxLen at hm10; omega) HR9'.out HR10.out).mono ?_
                  rintro e w11 ⟨rfl, hb11⟩
                  go_wp2_with fail
                  go_ret
                  exact ⟨rfl, bthen hB8 (bthen hb hb11)⟩
end Go.Proofs.Ythnedhfjochfnaa
