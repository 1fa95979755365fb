/- What two texts begin with: the reference's Alike; edit.Of, the reference's Between. -/
import Derived.Test.YthnedhfjochfnaaBtw0
import Derived.Test.YthnedhfjochfnaaEditW
import Derived.Test.YthnedhfjochfnaaOwn2
namespace Go.Proofs.Ythnedhfjochfnaa
open Go.RowKit
set_option maxRecDepth 100000 in
set_option maxHeartbeats 1000000 in
theorem alikeN_any (s t : ByteArray) (hs : s.size ≤ 140737488351232) (ht : t.size ≤ 140737488351232) (w : World) :
    Calls Try.prog 85 #[.string s, .string t] w fun e w' => e = .returned (.int .i64 (cpl (L s) (L t) : Nat)) ∧ Below w.heap.size w w' := by
  rcases Nat.lt_or_ge t.size s.size with hmn | hmn
  all_goals
    go_enter Try.func85, Try.ntmps85
    go_wp2
    go_loopw [5] (fun i wr => ∃ k m : Nat, k ≤ cpl (L s) (L t) ∧ i = .int .i64 k ∧ wr = w.drewN m) (fun i _ => s.size - (intOf i).toNat)
    case atStart => exact ⟨0, 0, Nat.zero_le _, rfl, rfl⟩
    case round =>
      obtain ⟨k, m, hk, rfl, rfl⟩ := hrel
      have hcl := cpl_le (L s) (L t)
      rw [L_len, L_len] at hcl
      obtain ⟨hc1, hc2⟩ := hcl
      by_cases hlt : k < s.size ∧ k < t.size
      · obtain ⟨h1, h2⟩ := hlt
        have ES := Lib.hid (getB s k h1)
        have ET := Lib.hid (getB t k h2)
        by_cases he : s[k] = t[k]
        · have g2 : ((s[k].toNat : Int) == (t[k].toNat : Int)) = true := by rw [he]; simp
          have HN := Lib.hid (cpl_step hk (by rw [L_len]; exact h1) (by rw [L_len]; exact h2) (by rw [← ES.out, ← ET.out, he]))
          clear he
          go_wp2
          go_quiet (fail)
          go_wp2
          go_roundw
          case rel => exact ⟨k + 1, _, HN.out, by go_num, rfl⟩
          case measure => simp [intOf]; omega
        · have g2 : ((s[k].toNat : Int) == (t[k].toNat : Int)) = false := by
            rw [beq_eq_false_iff_ne]; intro h; exact he (UInt8.toNat_inj.1 (by omega))
          have HN := Lib.hid (cpl_stop' hk (by rw [← ES.out, ← ET.out]; exact he))
          clear he
          go_wp2
          go_quiet (fail)
          go_wp2
          go_ret
          exact ⟨ret_int (by rw [HN.out]), (by repeat (first | exact Below.refl _ _ | assumption | refine Below.alloc ?_ (by first | exact Nat.le_refl _ | assumption | omega | (simp <;> omega)) _ | refine Below.setCell ?_ (by first | exact Nat.le_refl _ | assumption | omega | (simp <;> omega)) _ | refine Below.drew ?_ | refine below_drewN ?_ _))⟩
      · have g1 : decide ((k : Int) < (if t.size < s.size then (t.size : Int) else (s.size : Int))) = false := decide_eq_false (by split <;> omega)
        have HN := Lib.hid (cpl_stop hk (by rw [L_len, L_len]; exact hlt))
        first | (have g3 : decide ((k : Int) < (t.size : Int)) = false := decide_eq_false (by omega); have g4 : decide (k < t.size) = false := decide_eq_false (by omega)) | (have g3 : decide ((k : Int) < (s.size : Int)) = false := decide_eq_false (by omega); have g4 : decide (k < s.size) = false := decide_eq_false (by omega))
        clear hlt
        go_wp2
        go_quiet (fail)
        go_wp2
        go_ret
        exact ⟨ret_int (by rw [HN.out]), (by repeat (first | exact Below.refl _ _ | assumption | refine Below.alloc ?_ (by first | exact Nat.le_refl _ | assumption | omega | (simp <;> omega)) _ | refine Below.setCell ?_ (by first | exact Nat.le_refl _ | assumption | omega | (simp <;> omega)) _ | refine Below.drew ?_ | refine below_drewN ?_ _))⟩
theorem rev_idx {l : List UInt8} {n k : Nat} (h : n + k < l.length) : (l.drop n).reverse.getD k 0 = l.getD (l.length - 1 - k) 0 := drop_rev_getD l n k h
set_option maxRecDepth 100000 in
set_option maxHeartbeats 1000000 in
theorem clone_ed (A : Option Addr) (n c B : Nat) (xs : List Value) (w : World) (hr : Rd w B 3 A n xs) (hB : B ≤ w.heap.size) (hx : ∀ u ∈ xs, u.oneCell' = true) (hn : n ≤ 1000) (hA : 0 < n) :
    Calls Try.prog 84 #[.slice A n c] w fun e w' => ∃ v, e = .returned v ∧ w'.ownsRow w.heap.size 73 3 v n xs ∧ Below w.heap.size w w' := by
  obtain ⟨i0, hi0, hz0, hz1, hz2⟩ := info_parts (P := Try.prog) (e := 73) (z := .agg #[.int .i64 0, .int .i64 0, .string ByteArray.empty]) (size := 3) (bytes := 32) (by kernel_rfl)
  obtain ⟨ad, rfl, hab, _⟩ := hr.2 hA
  have HR := Lib.hid hr; clear hr
  have HX := Lib.hid hx; clear hx
  have hnil := fun (W : World) => Lib.run_eql_slice_nil (P := Try.prog) W 66 73 (some ad) n c 0 0 Try.underlying66
  go_enter Try.func84, Try.ntmps84
  go_wp2_with (at_builtin; go_must (refine wpList_appRd rfl _ _ _ rfl w.heap.size 73 i0 _ 3 32 Try.underlying66 hi0 hz0 hz1 hz2 rfl (by omega) _ 0 [] rfl (World.ownsRow_lit w #[] 0 (Nat.le_refl _) (Nat.zero_le _) rfl) B (some ad) n c xs rfl (HR.out.alloc hB _) HX.out (by omega) (by omega) (by simp) ?_); intro v6 w6 hown6 hb6)
  go_ret
  exact ⟨v6, rfl, by simpa using hown6, ((Below.refl _ _).alloc (Nat.le_refl _) _).trans hb6⟩
theorem idx_back {P : Program} {t : TypeId} (h : P.underlying t = some .string) (s : ByteArray) (k : Nat) (hk : s.size - 1 - k < s.size) (W : World) :
    k < s.size → (Instr.index t (.string s) (.int .i64 ((s.size : Int) - 1 - (k : Int)))).run P W = .ok (.int .u8 (s[s.size - 1 - k].toNat : Int)) W := by
  intro hk2
  have e : ((s.size : Int) - 1 - (k : Int)) = ((s.size - 1 - k : Nat) : Int) := by omega
  rw [e, run_index_string W t s .i64 _ h, dif_pos ⟨by omega, by omega⟩]
  rfl
theorem edCells_one (l : List Ed) : ∀ u ∈ edCells l, u.oneCell' = true := by
  intro u hu
  obtain ⟨x, _, hx⟩ := List.mem_flatMap.1 hu
  simp only [Ed.cells, List.mem_cons, List.not_mem_nil, or_false] at hx
  rcases hx with rfl | rfl | rfl <;> rfl
theorem between_ne {s t : List UInt8} (h : s ≠ t) : between s t = [btw s t] := by unfold between; rw [if_neg h]
set_option maxRecDepth 100000 in
set_option maxHeartbeats 2000000 in
theorem editOf_long (s t : ByteArray) (h : 200 < s.size ∨ 200 < t.size) (w : World) :
    Calls Try.prog 41 #[.string s, .string t] w fun e w' => e = .returned (.tuple #[.slice none 0 0, .int .i64 2]) ∧ Below w.heap.size w w' := by
  have H := Lib.hid h; clear h
  go_enter Try.func41, Try.ntmps41
  go_wp2_with fail
  all_goals first
    | (go_ret2; exact ⟨rfl, Below.refl _ _⟩)
    | (exfalso; have := H.out; omega)
set_option maxRecDepth 100000 in
set_option maxHeartbeats 2000000 in
theorem editOf_any (s t : ByteArray) (hs : s.size ≤ 200) (ht : t.size ≤ 200) (w : World) :
    Calls Try.prog 41 #[.string s, .string t] w fun e w' => ∃ v, e = .returned (.tuple #[v, .int .i64 (edErr s.size (between (L s) (L t)))]) ∧
      (edErr s.size (between (L s) (L t)) ≠ 0 → v = .slice none 0 0) ∧ (edErr s.size (between (L s) (L t)) = 0 → w'.ownsRow w.heap.size 73 3 v (between (L s) (L t)).length (edCells (between (L s) (L t)))) ∧ Below w.heap.size w w' := by
  have hcl := cpl_le (L s) (L t)
  have hcs := csl_le (L s) (L t)
  rw [L_len, L_len] at hcl hcs
  obtain ⟨hc1, hc2⟩ := hcl
  obtain ⟨hd1, hd2⟩ := hcs
  rcases Nat.lt_or_ge t.size s.size with hmn | hmn
  all_goals
    go_enter Try.func41, Try.ntmps41
    go_wp2
    go_loopw [6] (fun i wr => ∃ k m : Nat, k ≤ cpl (L s) (L t) ∧ i = .int .i64 k ∧ wr = w.drewN m) (fun i _ => s.size - (intOf i).toNat)
    case atStart => exact ⟨0, 0, Nat.zero_le _, rfl, rfl⟩
    case round =>
      obtain ⟨k, m, hk, rfl, rfl⟩ := hrel
      by_cases hgo : k < cpl (L s) (L t)
      · have h1 : k < s.size := by omega
        have h2 : k < t.size := by omega
        have ES := Lib.hid (getB s k h1)
        have ET := Lib.hid (getB t k h2)
        have he : Hid (s[k] = t[k]) := by unfold Hid; rw [getB, getB]; exact cpl_eq hgo
        have g2 : ((s[k].toNat : Int) == (t[k].toNat : Int)) = true := by rw [he.out]; simp
        go_wp2
        go_quiet (fail)
        go_wp2
        go_roundw
        case rel => exact ⟨k + 1, _, hgo, by go_num, rfl⟩
        case measure => simp [intOf]; omega
      · obtain rfl : k = cpl (L s) (L t) := by omega
        have HNE : Hid (∀ (h1 : cpl (L s) (L t) < s.size) (h2 : cpl (L s) (L t) < t.size), ((s[cpl (L s) (L t)].toNat : Int) == (t[cpl (L s) (L t)].toNat : Int)) = false) := by
          intro h1 h2
          rw [beq_eq_false_iff_ne]
          intro h
          have := cpl_ne (L s) (L t) (by rw [L_len]; exact h1) (by rw [L_len]; exact h2)
          rw [← getB s _ h1, ← getB t _ h2] at this
          exact this (UInt8.toNat_inj.1 (by omega))
        have HBe : Hid (∀ k, k < csl (L s) (L t) → (L s).getD (s.size - 1 - k) 0 = (L t).getD (t.size - 1 - k) 0) := fun k hk => by
          have := csl_eq hk; rw [L_len, L_len] at this; exact this
        have HBn : Hid (cpl (L s) (L t) + csl (L s) (L t) < s.size → cpl (L s) (L t) + csl (L s) (L t) < t.size → ∀ (q1 : s.size - 1 - csl (L s) (L t) < s.size) (q2 : t.size - 1 - csl (L s) (L t) < t.size), ((s[s.size - 1 - csl (L s) (L t)].toNat : Int) == (t[t.size - 1 - csl (L s) (L t)].toNat : Int)) = false) := by
          intro h1 h2 q1 q2
          rw [beq_eq_false_iff_ne]
          intro h
          have := csl_ne (L s) (L t) (by rw [L_len]; exact h1) (by rw [L_len]; exact h2)
          rw [L_len, L_len, ← getB s _ q1, ← getB t _ q2] at this
          exact this (UInt8.toNat_inj.1 (by omega))
        have HBT : Hid (btw (L s) (L t) = ⟨(cpl (L s) (L t) : Nat), (s.size : Int) - (csl (L s) (L t) : Nat) - (cpl (L s) (L t) : Nat), L (t.extract (cpl (L s) (L t)) (t.size - csl (L s) (L t)))⟩) := by
          unfold Hid btw
          rw [L_len, L_len, L_extract]
          congr 1
          · omega
          · congr 1; omega
        have HBN : Hid (((btw (L s) (L t)).del = 0 ∧ (btw (L s) (L t)).ins.length = 0) ↔ L s = L t) := btw_none _ _
        generalize cpl (L s) (L t) = n at *
        by_cases hin : n < s.size ∧ n < t.size
        · obtain ⟨h1, h2⟩ := hin
          have g2 := HNE.out h1 h2
          go_wp2
          go_quiet (fail)
          go_wp2_with fail
          go_loopw [7] (fun i wr => ∃ k m : Nat, k ≤ csl (L s) (L t) ∧ i = .int .i64 k ∧ Below w.heap.size w wr) (fun i _ => s.size - (intOf i).toNat)
          case atStart => exact ⟨0, 0, Nat.zero_le _, rfl, (by repeat (first | exact Below.refl _ _ | assumption | refine Below.alloc ?_ (by first | exact Nat.le_refl _ | assumption | omega | (simp <;> omega)) _ | refine Below.setCell ?_ (by first | exact Nat.le_refl _ | assumption | omega | (simp <;> omega)) _ | refine Below.drew ?_ | refine below_drewN ?_ _))⟩
          case round =>
            obtain ⟨k, m', hk, rfl, hb⟩ := hrel
            by_cases hgo : k < csl (L s) (L t)
            · have q1 : s.size - 1 - k < s.size := by omega
              have q2 : t.size - 1 - k < t.size := by omega
              have ixs := fun W => idx_back (P := Try.prog) Try.underlying9 s k q1 W (by omega)
              have ixt := fun W => idx_back (P := Try.prog) Try.underlying9 t k q2 W (by omega)
              have g7 : decide ((k : Int) < (t.size : Int) - (n : Int)) = true := decide_eq_true (by omega)
              have g8 : decide ((k : Int) < (s.size : Int) - (n : Int)) = true := decide_eq_true (by omega)
              have he : Hid (s[s.size - 1 - k] = t[t.size - 1 - k]) := by unfold Hid; rw [getB, getB]; exact HBe.out k hgo
              have g5 : ((s[s.size - 1 - k].toNat : Int) == (t[t.size - 1 - k].toNat : Int)) = true := by rw [he.out]; simp
              go_wp2
              go_quiet (fail)
              go_wp2
              go_roundw
              case rel => exact ⟨k + 1, 0, hgo, by go_num, (by repeat (first | exact Below.refl _ _ | assumption | refine Below.alloc ?_ (by first | exact Nat.le_refl _ | assumption | omega | (simp <;> omega)) _ | refine Below.setCell ?_ (by first | exact Nat.le_refl _ | assumption | omega | (simp <;> omega)) _ | refine Below.drew ?_ | refine below_drewN ?_ _))⟩
              case measure => simp [intOf]; omega
            · obtain rfl : k = csl (L s) (L t) := by omega
              generalize csl (L s) (L t) = c at *
              by_cases hin2 : n + c < s.size ∧ n + c < t.size
              · have q1 : s.size - 1 - c < s.size := by omega
                have q2 : t.size - 1 - c < t.size := by omega
                have ixs := fun W => idx_back (P := Try.prog) Try.underlying9 s c q1 W (by omega)
                have ixt := fun W => idx_back (P := Try.prog) Try.underlying9 t c q2 W (by omega)
                have g7 : decide ((c : Int) < (t.size : Int) - (n : Int)) = true := decide_eq_true (by omega)
                have g8 : decide ((c : Int) < (s.size : Int) - (n : Int)) = true := decide_eq_true (by omega)
                have g5 := HBn.out hin2.1 hin2.2 q1 q2
                go_wp2
                go_quiet (fail)
                have hb9 := below_drewN hb nq
                have hs9 := hb9.size
                clear hb
                generalize World.drewN wr nq = w9 at *
                have HI : (t.extract n (t.size - c)).size ≤ 200 := by rw [ByteArray.size_extract]; omega
                clear HNE HBe HBn
                by_cases hst : L s = L t
                · obtain ⟨hz1, hz2⟩ := HBN.out.2 hst
                  have HE : Hid (edErr s.size (between (L s) (L t)) = 0 ∧ between (L s) (L t) = []) := by
                    unfold Hid between; rw [if_pos hst]; exact ⟨edErr_zero.2 ⟨by omega, by omega, by simp, .nil _, by simp [grows]; omega⟩, rfl⟩
                  rw [HBT.out] at hz1 hz2
                  simp only at hz1 hz2
                  have k1 : (((s.size : Int) - (c : Int) - (n : Int)) == 0) = true := by rw [hz1]; rfl
                  have k2 : (t.extract n (t.size - c)).toList.isEmpty = true := by rw [← S_L (t.extract n (t.size - c)), isEmpty_size, hz2]; rfl
                  clear hst hz1 hz2
                  go_wp2_with fail
                  go_ret2
                  exact ⟨_, by rw [HE.out.1]; rfl, fun h => absurd HE.out.1 h, fun _ => by rw [HE.out.2]; exact World.ownsRow_nil _ _ _ _, (by repeat (first | exact Below.refl _ _ | assumption | refine Below.alloc ?_ (by first | exact Nat.le_refl _ | assumption | omega | (simp <;> omega)) _ | refine Below.setCell ?_ (by first | exact Nat.le_refl _ | assumption | omega | (simp <;> omega)) _ | refine Below.drew ?_ | refine below_drewN ?_ _))⟩
                · have HBW : Hid (between (L s) (L t) = [btw (L s) (L t)]) := between_ne hst
                  have hnn := fun h => hst (HBN.out.1 h)
                  have HNN := Lib.hid hnn; clear hst hnn
                  rw [Hid, HBT.out] at HNN
                  simp only at HNN
                  have HNN := Lib.hid HNN
                  by_cases hd0 : (s.size : Int) - (c : Int) - (n : Int) = 0
                  · have k1 : (((s.size : Int) - (c : Int) - (n : Int)) == 0) = true := by rw [hd0]; rfl
                    have k2 : (t.extract n (t.size - c)).toList.isEmpty = false := by
                      rw [← S_L (t.extract n (t.size - c)), isEmpty_size, decide_eq_false_iff_not]
                      exact fun h => HNN.out ⟨hd0, h⟩
                    clear hd0
                    go_wp2_with fail
                    have hR1 : Rd ((w9.alloc (.cells #[.int .i64 (n : Int), .int .i64 ((s.size : Int) - (c : Int) - (n : Int)), .string (t.extract n (t.size - c))] 73)).alloc (.cells #[.int .i64 (n : Int), .int .i64 ((s.size : Int) - (c : Int) - (n : Int)), .string (t.extract n (t.size - c))] 73)) (w9.heap.size + 2) 3 (some ⟨w9.heap.size + 1, 0, none⟩) 1 (edCells (between (L s) (L t))) := by
                      rw [HBW.out, HBT.out]
                      have := Rd.new_ (size := 3) (n := 1) (w9.alloc (.cells #[.int .i64 (n : Int), .int .i64 ((s.size : Int) - (c : Int) - (n : Int)), .string (t.extract n (t.size - c))] 73)) #[.int .i64 (n : Int), .int .i64 ((s.size : Int) - (c : Int) - (n : Int)), .string (t.extract n (t.size - c))] 73 (B := w9.heap.size + 2) (by simp) rfl
                      simp only [World.size_alloc] at this
                      exact this
                    have hb10 : Below w.heap.size w ((w9.alloc (.cells #[.int .i64 (n : Int), .int .i64 ((s.size : Int) - (c : Int) - (n : Int)), .string (t.extract n (t.size - c))] 73)).alloc (.cells #[.int .i64 (n : Int), .int .i64 ((s.size : Int) - (c : Int) - (n : Int)), .string (t.extract n (t.size - c))] 73)) := (by repeat (first | exact Below.refl _ _ | assumption | refine Below.alloc ?_ (by first | exact Nat.le_refl _ | assumption | omega | (simp <;> omega)) _ | refine Below.setCell ?_ (by first | exact Nat.le_refl _ | assumption | omega | (simp <;> omega)) _ | refine Below.drew ?_ | refine below_drewN ?_ _))
                    have hz10 : ((w9.alloc (.cells #[.int .i64 (n : Int), .int .i64 ((s.size : Int) - (c : Int) - (n : Int)), .string (t.extract n (t.size - c))] 73)).alloc (.cells #[.int .i64 (n : Int), .int .i64 ((s.size : Int) - (c : Int) - (n : Int)), .string (t.extract n (t.size - c))] 73)).heap.size = w9.heap.size + 2 := by simp
                    have HZ10 := Lib.hid (Nat.le_of_eq hz10.symm); clear hz10
                    generalize ((w9.alloc (.cells #[.int .i64 (n : Int), .int .i64 ((s.size : Int) - (c : Int) - (n : Int)), .string (t.extract n (t.size - c))] 73)).alloc (.cells #[.int .i64 (n : Int), .int .i64 ((s.size : Int) - (c : Int) - (n : Int)), .string (t.extract n (t.size - c))] 73)) = w10 at *
                    refine (edCheck_any s.size (between (L s) (L t)) (some ⟨w9.heap.size + 1, 0, none⟩) 1 1 (w9.heap.size + 2) w10 hR1 HZ10.out (by omega)).mono ?_
                    rintro e w11 ⟨rfl, hb11⟩
                    have hR2 := hR1.below (hb11.mono HZ10.out)
                    have hb12 := bthen hb10 hb11
                    by_cases hE : edErr s.size (between (L s) (L t)) = 0
                    · have g9 : (edErr s.size (between (L s) (L t)) != 0) = false := by rw [hE]; rfl
                      have HE := Lib.hid hE; clear hE
                      have hl1 : (edCells (between (L s) (L t))).length ≤ 3 := by rw [HBW.out]; exact Nat.le_refl _
                      go_wp2_with fail
                      refine (clone_ed (some ⟨w9.heap.size + 1, 0, none⟩) 1 1 (w9.heap.size + 2) _ w11 hR2 (Nat.le_trans HZ10.out hb11.size) (edCells_one _) (by omega) (by omega)).mono ?_
                      rintro e w13 ⟨v13, rfl, hown13, hb13⟩
                      go_wp2_with fail
                      go_ret2
                      exact ⟨v13, by rw [HE.out]; rfl, fun h => absurd HE.out h, fun _ => by rw [show (between (L s) (L t)).length = 1 by rw [HBW.out]; rfl]; exact own_lower hown13 (hb12.size), bthen hb12 hb13⟩
                    · have g9 : (edErr s.size (between (L s) (L t)) != 0) = true := by simpa using hE
                      have HE := Lib.hid hE; clear hE
                      go_wp2_with fail
                      go_ret2
                      exact ⟨_, rfl, fun _ => rfl, fun h => absurd h HE.out, hb12⟩
                  · have k1 : (((s.size : Int) - (c : Int) - (n : Int)) == 0) = false := by simpa using hd0
                    clear hd0
                    go_wp2_with fail
                    have hR1 : Rd ((w9.alloc (.cells #[.int .i64 (n : Int), .int .i64 ((s.size : Int) - (c : Int) - (n : Int)), .string (t.extract n (t.size - c))] 73)).alloc (.cells #[.int .i64 (n : Int), .int .i64 ((s.size : Int) - (c : Int) - (n : Int)), .string (t.extract n (t.size - c))] 73)) (w9.heap.size + 2) 3 (some ⟨w9.heap.size + 1, 0, none⟩) 1 (edCells (between (L s) (L t))) := by
                      rw [HBW.out, HBT.out]
                      have := Rd.new_ (size := 3) (n := 1) (w9.alloc (.cells #[.int .i64 (n : Int), .int .i64 ((s.size : Int) - (c : Int) - (n : Int)), .string (t.extract n (t.size - c))] 73)) #[.int .i64 (n : Int), .int .i64 ((s.size : Int) - (c : Int) - (n : Int)), .string (t.extract n (t.size - c))] 73 (B := w9.heap.size + 2) (by simp) rfl
                      simp only [World.size_alloc] at this
                      exact this
                    have hb10 : Below w.heap.size w ((w9.alloc (.cells #[.int .i64 (n : Int), .int .i64 ((s.size : Int) - (c : Int) - (n : Int)), .string (t.extract n (t.size - c))] 73)).alloc (.cells #[.int .i64 (n : Int), .int .i64 ((s.size : Int) - (c : Int) - (n : Int)), .string (t.extract n (t.size - c))] 73)) := (by repeat (first | exact Below.refl _ _ | assumption | refine Below.alloc ?_ (by first | exact Nat.le_refl _ | assumption | omega | (simp <;> omega)) _ | refine Below.setCell ?_ (by first | exact Nat.le_refl _ | assumption | omega | (simp <;> omega)) _ | refine Below.drew ?_ | refine below_drewN ?_ _))
                    have hz10 : ((w9.alloc (.cells #[.int .i64 (n : Int), .int .i64 ((s.size : Int) - (c : Int) - (n : Int)), .string (t.extract n (t.size - c))] 73)).alloc (.cells #[.int .i64 (n : Int), .int .i64 ((s.size : Int) - (c : Int) - (n : Int)), .string (t.extract n (t.size - c))] 73)).heap.size = w9.heap.size + 2 := by simp
                    have HZ10 := Lib.hid (Nat.le_of_eq hz10.symm); clear hz10
                    generalize ((w9.alloc (.cells #[.int .i64 (n : Int), .int .i64 ((s.size : Int) - (c : Int) - (n : Int)), .string (t.extract n (t.size - c))] 73)).alloc (.cells #[.int .i64 (n : Int), .int .i64 ((s.size : Int) - (c : Int) - (n : Int)), .string (t.extract n (t.size - c))] 73)) = w10 at *
                    refine (edCheck_any s.size (between (L s) (L t)) (some ⟨w9.heap.size + 1, 0, none⟩) 1 1 (w9.heap.size + 2) w10 hR1 HZ10.out (by omega)).mono ?_
                    rintro e w11 ⟨rfl, hb11⟩
                    have hR2 := hR1.below (hb11.mono HZ10.out)
                    have hb12 := bthen hb10 hb11
                    by_cases hE : edErr s.size (between (L s) (L t)) = 0
                    · have g9 : (edErr s.size (between (L s) (L t)) != 0) = false := by rw [hE]; rfl
                      have HE := Lib.hid hE; clear hE
                      have hl1 : (edCells (between (L s) (L t))).length ≤ 3 := by rw [HBW.out]; exact Nat.le_refl _
                      go_wp2_with fail
                      refine (clone_ed (some ⟨w9.heap.size + 1, 0, none⟩) 1 1 (w9.heap.size + 2) _ w11 hR2 (Nat.le_trans HZ10.out hb11.size) (edCells_one _) (by omega) (by omega)).mono ?_
                      rintro e w13 ⟨v13, rfl, hown13, hb13⟩
                      go_wp2_with fail
                      go_ret2
                      exact ⟨v13, by rw [HE.out]; rfl, fun h => absurd HE.out h, fun _ => by rw [show (between (L s) (L t)).length = 1 by rw [HBW.out]; rfl]; exact own_lower hown13 (hb12.size), bthen hb12 hb13⟩
                    · have g9 : (edErr s.size (between (L s) (L t)) != 0) = true := by simpa using hE
                      have HE := Lib.hid hE; clear hE
                      go_wp2_with fail
                      go_ret2
                      exact ⟨_, rfl, fun _ => rfl, fun h => absurd h HE.out, hb12⟩
              · first | (have g6 : decide ((c : Int) < (t.size : Int) - (n : Int)) = false := decide_eq_false (by omega)) | (have g6 : decide ((c : Int) < (s.size : Int) - (n : Int)) = false := decide_eq_false (by omega))
                go_wp2
                go_quiet (fail)
                have hb9 := below_drewN hb nq
                have hs9 := hb9.size
                clear hb
                generalize World.drewN wr nq = w9 at *
                have HI : (t.extract n (t.size - c)).size ≤ 200 := by rw [ByteArray.size_extract]; omega
                clear HNE HBe HBn
                by_cases hst : L s = L t
                · obtain ⟨hz1, hz2⟩ := HBN.out.2 hst
                  have HE : Hid (edErr s.size (between (L s) (L t)) = 0 ∧ between (L s) (L t) = []) := by
                    unfold Hid between; rw [if_pos hst]; exact ⟨edErr_zero.2 ⟨by omega, by omega, by simp, .nil _, by simp [grows]; omega⟩, rfl⟩
                  rw [HBT.out] at hz1 hz2
                  simp only at hz1 hz2
                  have k1 : (((s.size : Int) - (c : Int) - (n : Int)) == 0) = true := by rw [hz1]; rfl
                  have k2 : (t.extract n (t.size - c)).toList.isEmpty = true := by rw [← S_L (t.extract n (t.size - c)), isEmpty_size, hz2]; rfl
                  clear hst hz1 hz2
                  go_wp2_with fail
                  go_ret2
                  exact ⟨_, by rw [HE.out.1]; rfl, fun h => absurd HE.out.1 h, fun _ => by rw [HE.out.2]; exact World.ownsRow_nil _ _ _ _, (by repeat (first | exact Below.refl _ _ | assumption | refine Below.alloc ?_ (by first | exact Nat.le_refl _ | assumption | omega | (simp <;> omega)) _ | refine Below.setCell ?_ (by first | exact Nat.le_refl _ | assumption | omega | (simp <;> omega)) _ | refine Below.drew ?_ | refine below_drewN ?_ _))⟩
                · have HBW : Hid (between (L s) (L t) = [btw (L s) (L t)]) := between_ne hst
                  have hnn := fun h => hst (HBN.out.1 h)
                  have HNN := Lib.hid hnn; clear hst hnn
                  rw [Hid, HBT.out] at HNN
                  simp only at HNN
                  have HNN := Lib.hid HNN
                  by_cases hd0 : (s.size : Int) - (c : Int) - (n : Int) = 0
                  · have k1 : (((s.size : Int) - (c : Int) - (n : Int)) == 0) = true := by rw [hd0]; rfl
                    have k2 : (t.extract n (t.size - c)).toList.isEmpty = false := by
                      rw [← S_L (t.extract n (t.size - c)), isEmpty_size, decide_eq_false_iff_not]
                      exact fun h => HNN.out ⟨hd0, h⟩
                    clear hd0
                    go_wp2_with fail
                    have hR1 : Rd ((w9.alloc (.cells #[.int .i64 (n : Int), .int .i64 ((s.size : Int) - (c : Int) - (n : Int)), .string (t.extract n (t.size - c))] 73)).alloc (.cells #[.int .i64 (n : Int), .int .i64 ((s.size : Int) - (c : Int) - (n : Int)), .string (t.extract n (t.size - c))] 73)) (w9.heap.size + 2) 3 (some ⟨w9.heap.size + 1, 0, none⟩) 1 (edCells (between (L s) (L t))) := by
                      rw [HBW.out, HBT.out]
                      have := Rd.new_ (size := 3) (n := 1) (w9.alloc (.cells #[.int .i64 (n : Int), .int .i64 ((s.size : Int) - (c : Int) - (n : Int)), .string (t.extract n (t.size - c))] 73)) #[.int .i64 (n : Int), .int .i64 ((s.size : Int) - (c : Int) - (n : Int)), .string (t.extract n (t.size - c))] 73 (B := w9.heap.size + 2) (by simp) rfl
                      simp only [World.size_alloc] at this
                      exact this
                    have hb10 : Below w.heap.size w ((w9.alloc (.cells #[.int .i64 (n : Int), .int .i64 ((s.size : Int) - (c : Int) - (n : Int)), .string (t.extract n (t.size - c))] 73)).alloc (.cells #[.int .i64 (n : Int), .int .i64 ((s.size : Int) - (c : Int) - (n : Int)), .string (t.extract n (t.size - c))] 73)) := (by repeat (first | exact Below.refl _ _ | assumption | refine Below.alloc ?_ (by first | exact Nat.le_refl _ | assumption | omega | (simp <;> omega)) _ | refine Below.setCell ?_ (by first | exact Nat.le_refl _ | assumption | omega | (simp <;> omega)) _ | refine Below.drew ?_ | refine below_drewN ?_ _))
                    have hz10 : ((w9.alloc (.cells #[.int .i64 (n : Int), .int .i64 ((s.size : Int) - (c : Int) - (n : Int)), .string (t.extract n (t.size - c))] 73)).alloc (.cells #[.int .i64 (n : Int), .int .i64 ((s.size : Int) - (c : Int) - (n : Int)), .string (t.extract n (t.size - c))] 73)).heap.size = w9.heap.size + 2 := by simp
                    have HZ10 := Lib.hid (Nat.le_of_eq hz10.symm); clear hz10
                    generalize ((w9.alloc (.cells #[.int .i64 (n : Int), .int .i64 ((s.size : Int) - (c : Int) - (n : Int)), .string (t.extract n (t.size - c))] 73)).alloc (.cells #[.int .i64 (n : Int), .int .i64 ((s.size : Int) - (c : Int) - (n : Int)), .string (t.extract n (t.size - c))] 73)) = w10 at *
                    refine (edCheck_any s.size (between (L s) (L t)) (some ⟨w9.heap.size + 1, 0, none⟩) 1 1 (w9.heap.size + 2) w10 hR1 HZ10.out (by omega)).mono ?_
                    rintro e w11 ⟨rfl, hb11⟩
                    have hR2 := hR1.below (hb11.mono HZ10.out)
                    have hb12 := bthen hb10 hb11
                    by_cases hE : edErr s.size (between (L s) (L t)) = 0
                    · have g9 : (edErr s.size (between (L s) (L t)) != 0) = false := by rw [hE]; rfl
                      have HE := Lib.hid hE; clear hE
                      have hl1 : (edCells (between (L s) (L t))).length ≤ 3 := by rw [HBW.out]; exact Nat.le_refl _
                      go_wp2_with fail
                      refine (clone_ed (some ⟨w9.heap.size + 1, 0, none⟩) 1 1 (w9.heap.size + 2) _ w11 hR2 (Nat.le_trans HZ10.out hb11.size) (edCells_one _) (by omega) (by omega)).mono ?_
                      rintro e w13 ⟨v13, rfl, hown13, hb13⟩
                      go_wp2_with fail
                      go_ret2
                      exact ⟨v13, by rw [HE.out]; rfl, fun h => absurd HE.out h, fun _ => by rw [show (between (L s) (L t)).length = 1 by rw [HBW.out]; rfl]; exact own_lower hown13 (hb12.size), bthen hb12 hb13⟩
                    · have g9 : (edErr s.size (between (L s) (L t)) != 0) = true := by simpa using hE
                      have HE := Lib.hid hE; clear hE
                      go_wp2_with fail
                      go_ret2
                      exact ⟨_, rfl, fun _ => rfl, fun h => absurd h HE.out, hb12⟩
                  · have k1 : (((s.size : Int) - (c : Int) - (n : Int)) == 0) = false := by simpa using hd0
                    clear hd0
                    go_wp2_with fail
                    have hR1 : Rd ((w9.alloc (.cells #[.int .i64 (n : Int), .int .i64 ((s.size : Int) - (c : Int) - (n : Int)), .string (t.extract n (t.size - c))] 73)).alloc (.cells #[.int .i64 (n : Int), .int .i64 ((s.size : Int) - (c : Int) - (n : Int)), .string (t.extract n (t.size - c))] 73)) (w9.heap.size + 2) 3 (some ⟨w9.heap.size + 1, 0, none⟩) 1 (edCells (between (L s) (L t))) := by
                      rw [HBW.out, HBT.out]
                      have := Rd.new_ (size := 3) (n := 1) (w9.alloc (.cells #[.int .i64 (n : Int), .int .i64 ((s.size : Int) - (c : Int) - (n : Int)), .string (t.extract n (t.size - c))] 73)) #[.int .i64 (n : Int), .int .i64 ((s.size : Int) - (c : Int) - (n : Int)), .string (t.extract n (t.size - c))] 73 (B := w9.heap.size + 2) (by simp) rfl
                      simp only [World.size_alloc] at this
                      exact this
                    have hb10 : Below w.heap.size w ((w9.alloc (.cells #[.int .i64 (n : Int), .int .i64 ((s.size : Int) - (c : Int) - (n : Int)), .string (t.extract n (t.size - c))] 73)).alloc (.cells #[.int .i64 (n : Int), .int .i64 ((s.size : Int) - (c : Int) - (n : Int)), .string (t.extract n (t.size - c))] 73)) := (by repeat (first | exact Below.refl _ _ | assumption | refine Below.alloc ?_ (by first | exact Nat.le_refl _ | assumption | omega | (simp <;> omega)) _ | refine Below.setCell ?_ (by first | exact Nat.le_refl _ | assumption | omega | (simp <;> omega)) _ | refine Below.drew ?_ | refine below_drewN ?_ _))
                    have hz10 : ((w9.alloc (.cells #[.int .i64 (n : Int), .int .i64 ((s.size : Int) - (c : Int) - (n : Int)), .string (t.extract n (t.size - c))] 73)).alloc (.cells #[.int .i64 (n : Int), .int .i64 ((s.size : Int) - (c : Int) - (n : Int)), .string (t.extract n (t.size - c))] 73)).heap.size = w9.heap.size + 2 := by simp
                    have HZ10 := Lib.hid (Nat.le_of_eq hz10.symm); clear hz10
                    generalize ((w9.alloc (.cells #[.int .i64 (n : Int), .int .i64 ((s.size : Int) - (c : Int) - (n : Int)), .string (t.extract n (t.size - c))] 73)).alloc (.cells #[.int .i64 (n : Int), .int .i64 ((s.size : Int) - (c : Int) - (n : Int)), .string (t.extract n (t.size - c))] 73)) = w10 at *
                    refine (edCheck_any s.size (between (L s) (L t)) (some ⟨w9.heap.size + 1, 0, none⟩) 1 1 (w9.heap.size + 2) w10 hR1 HZ10.out (by omega)).mono ?_
                    rintro e w11 ⟨rfl, hb11⟩
                    have hR2 := hR1.below (hb11.mono HZ10.out)
                    have hb12 := bthen hb10 hb11
                    by_cases hE : edErr s.size (between (L s) (L t)) = 0
                    · have g9 : (edErr s.size (between (L s) (L t)) != 0) = false := by rw [hE]; rfl
                      have HE := Lib.hid hE; clear hE
                      have hl1 : (edCells (between (L s) (L t))).length ≤ 3 := by rw [HBW.out]; exact Nat.le_refl _
                      go_wp2_with fail
                      refine (clone_ed (some ⟨w9.heap.size + 1, 0, none⟩) 1 1 (w9.heap.size + 2) _ w11 hR2 (Nat.le_trans HZ10.out hb11.size) (edCells_one _) (by omega) (by omega)).mono ?_
                      rintro e w13 ⟨v13, rfl, hown13, hb13⟩
                      go_wp2_with fail
                      go_ret2
                      exact ⟨v13, by rw [HE.out]; rfl, fun h => absurd HE.out h, fun _ => by rw [show (between (L s) (L t)).length = 1 by rw [HBW.out]; rfl]; exact own_lower hown13 (hb12.size), bthen hb12 hb13⟩
                    · have g9 : (edErr s.size (between (L s) (L t)) != 0) = true := by simpa using hE
                      have HE := Lib.hid hE; clear hE
                      go_wp2_with fail
                      go_ret2
                      exact ⟨_, rfl, fun _ => rfl, fun h => absurd h HE.out, hb12⟩
        · first | (have g3 : decide ((n : Int) < (t.size : Int)) = false := decide_eq_false (by omega); have g4 : decide (n < t.size) = false := decide_eq_false (by omega)) | (have g3 : decide ((n : Int) < (s.size : Int)) = false := decide_eq_false (by omega); have g4 : decide (n < s.size) = false := decide_eq_false (by omega))
          go_wp2
          go_quiet (fail)
          go_wp2_with fail
          go_loopw [7] (fun i wr => ∃ k m : Nat, k ≤ csl (L s) (L t) ∧ i = .int .i64 k ∧ Below w.heap.size w wr) (fun i _ => s.size - (intOf i).toNat)
          case atStart => exact ⟨0, 0, Nat.zero_le _, rfl, (by repeat (first | exact Below.refl _ _ | assumption | refine Below.alloc ?_ (by first | exact Nat.le_refl _ | assumption | omega | (simp <;> omega)) _ | refine Below.setCell ?_ (by first | exact Nat.le_refl _ | assumption | omega | (simp <;> omega)) _ | refine Below.drew ?_ | refine below_drewN ?_ _))⟩
          case round =>
            obtain ⟨k, m', hk, rfl, hb⟩ := hrel
            by_cases hgo : k < csl (L s) (L t)
            · have q1 : s.size - 1 - k < s.size := by omega
              have q2 : t.size - 1 - k < t.size := by omega
              have ixs := fun W => idx_back (P := Try.prog) Try.underlying9 s k q1 W (by omega)
              have ixt := fun W => idx_back (P := Try.prog) Try.underlying9 t k q2 W (by omega)
              have g7 : decide ((k : Int) < (t.size : Int) - (n : Int)) = true := decide_eq_true (by omega)
              have g8 : decide ((k : Int) < (s.size : Int) - (n : Int)) = true := decide_eq_true (by omega)
              have he : Hid (s[s.size - 1 - k] = t[t.size - 1 - k]) := by unfold Hid; rw [getB, getB]; exact HBe.out k hgo
              have g5 : ((s[s.size - 1 - k].toNat : Int) == (t[t.size - 1 - k].toNat : Int)) = true := by rw [he.out]; simp
              go_wp2
              go_quiet (fail)
              go_wp2
              go_roundw
              case rel => exact ⟨k + 1, 0, hgo, by go_num, (by repeat (first | exact Below.refl _ _ | assumption | refine Below.alloc ?_ (by first | exact Nat.le_refl _ | assumption | omega | (simp <;> omega)) _ | refine Below.setCell ?_ (by first | exact Nat.le_refl _ | assumption | omega | (simp <;> omega)) _ | refine Below.drew ?_ | refine below_drewN ?_ _))⟩
              case measure => simp [intOf]; omega
            · obtain rfl : k = csl (L s) (L t) := by omega
              generalize csl (L s) (L t) = c at *
              by_cases hin2 : n + c < s.size ∧ n + c < t.size
              · exfalso; omega
              · first | (have g6 : decide ((c : Int) < (t.size : Int) - (n : Int)) = false := decide_eq_false (by omega)) | (have g6 : decide ((c : Int) < (s.size : Int) - (n : Int)) = false := decide_eq_false (by omega))
                go_wp2
                go_quiet (fail)
                have hb9 := below_drewN hb nq
                have hs9 := hb9.size
                clear hb
                generalize World.drewN wr nq = w9 at *
                have HI : (t.extract n (t.size - c)).size ≤ 200 := by rw [ByteArray.size_extract]; omega
                clear HNE HBe HBn
                by_cases hst : L s = L t
                · obtain ⟨hz1, hz2⟩ := HBN.out.2 hst
                  have HE : Hid (edErr s.size (between (L s) (L t)) = 0 ∧ between (L s) (L t) = []) := by
                    unfold Hid between; rw [if_pos hst]; exact ⟨edErr_zero.2 ⟨by omega, by omega, by simp, .nil _, by simp [grows]; omega⟩, rfl⟩
                  rw [HBT.out] at hz1 hz2
                  simp only at hz1 hz2
                  have k1 : (((s.size : Int) - (c : Int) - (n : Int)) == 0) = true := by rw [hz1]; rfl
                  have k2 : (t.extract n (t.size - c)).toList.isEmpty = true := by rw [← S_L (t.extract n (t.size - c)), isEmpty_size, hz2]; rfl
                  clear hst hz1 hz2
                  go_wp2_with fail
                  go_ret2
                  exact ⟨_, by rw [HE.out.1]; rfl, fun h => absurd HE.out.1 h, fun _ => by rw [HE.out.2]; exact World.ownsRow_nil _ _ _ _, (by repeat (first | exact Below.refl _ _ | assumption | refine Below.alloc ?_ (by first | exact Nat.le_refl _ | assumption | omega | (simp <;> omega)) _ | refine Below.setCell ?_ (by first | exact Nat.le_refl _ | assumption | omega | (simp <;> omega)) _ | refine Below.drew ?_ | refine below_drewN ?_ _))⟩
                · have HBW : Hid (between (L s) (L t) = [btw (L s) (L t)]) := between_ne hst
                  have hnn := fun h => hst (HBN.out.1 h)
                  have HNN := Lib.hid hnn; clear hst hnn
                  rw [Hid, HBT.out] at HNN
                  simp only at HNN
                  have HNN := Lib.hid HNN
                  by_cases hd0 : (s.size : Int) - (c : Int) - (n : Int) = 0
                  · have k1 : (((s.size : Int) - (c : Int) - (n : Int)) == 0) = true := by rw [hd0]; rfl
                    have k2 : (t.extract n (t.size - c)).toList.isEmpty = false := by
                      rw [← S_L (t.extract n (t.size - c)), isEmpty_size, decide_eq_false_iff_not]
                      exact fun h => HNN.out ⟨hd0, h⟩
                    clear hd0
                    go_wp2_with fail
                    have hR1 : Rd ((w9.alloc (.cells #[.int .i64 (n : Int), .int .i64 ((s.size : Int) - (c : Int) - (n : Int)), .string (t.extract n (t.size - c))] 73)).alloc (.cells #[.int .i64 (n : Int), .int .i64 ((s.size : Int) - (c : Int) - (n : Int)), .string (t.extract n (t.size - c))] 73)) (w9.heap.size + 2) 3 (some ⟨w9.heap.size + 1, 0, none⟩) 1 (edCells (between (L s) (L t))) := by
                      rw [HBW.out, HBT.out]
                      have := Rd.new_ (size := 3) (n := 1) (w9.alloc (.cells #[.int .i64 (n : Int), .int .i64 ((s.size : Int) - (c : Int) - (n : Int)), .string (t.extract n (t.size - c))] 73)) #[.int .i64 (n : Int), .int .i64 ((s.size : Int) - (c : Int) - (n : Int)), .string (t.extract n (t.size - c))] 73 (B := w9.heap.size + 2) (by simp) rfl
                      simp only [World.size_alloc] at this
                      exact this
                    have hb10 : Below w.heap.size w ((w9.alloc (.cells #[.int .i64 (n : Int), .int .i64 ((s.size : Int) - (c : Int) - (n : Int)), .string (t.extract n (t.size - c))] 73)).alloc (.cells #[.int .i64 (n : Int), .int .i64 ((s.size : Int) - (c : Int) - (n : Int)), .string (t.extract n (t.size - c))] 73)) := (by repeat (first | exact Below.refl _ _ | assumption | refine Below.alloc ?_ (by first | exact Nat.le_refl _ | assumption | omega | (simp <;> omega)) _ | refine Below.setCell ?_ (by first | exact Nat.le_refl _ | assumption | omega | (simp <;> omega)) _ | refine Below.drew ?_ | refine below_drewN ?_ _))
                    have hz10 : ((w9.alloc (.cells #[.int .i64 (n : Int), .int .i64 ((s.size : Int) - (c : Int) - (n : Int)), .string (t.extract n (t.size - c))] 73)).alloc (.cells #[.int .i64 (n : Int), .int .i64 ((s.size : Int) - (c : Int) - (n : Int)), .string (t.extract n (t.size - c))] 73)).heap.size = w9.heap.size + 2 := by simp
                    have HZ10 := Lib.hid (Nat.le_of_eq hz10.symm); clear hz10
                    generalize ((w9.alloc (.cells #[.int .i64 (n : Int), .int .i64 ((s.size : Int) - (c : Int) - (n : Int)), .string (t.extract n (t.size - c))] 73)).alloc (.cells #[.int .i64 (n : Int), .int .i64 ((s.size : Int) - (c : Int) - (n : Int)), .string (t.extract n (t.size - c))] 73)) = w10 at *
                    refine (edCheck_any s.size (between (L s) (L t)) (some ⟨w9.heap.size + 1, 0, none⟩) 1 1 (w9.heap.size + 2) w10 hR1 HZ10.out (by omega)).mono ?_
                    rintro e w11 ⟨rfl, hb11⟩
                    have hR2 := hR1.below (hb11.mono HZ10.out)
                    have hb12 := bthen hb10 hb11
                    by_cases hE : edErr s.size (between (L s) (L t)) = 0
                    · have g9 : (edErr s.size (between (L s) (L t)) != 0) = false := by rw [hE]; rfl
                      have HE := Lib.hid hE; clear hE
                      have hl1 : (edCells (between (L s) (L t))).length ≤ 3 := by rw [HBW.out]; exact Nat.le_refl _
                      go_wp2_with fail
                      refine (clone_ed (some ⟨w9.heap.size + 1, 0, none⟩) 1 1 (w9.heap.size + 2) _ w11 hR2 (Nat.le_trans HZ10.out hb11.size) (edCells_one _) (by omega) (by omega)).mono ?_
                      rintro e w13 ⟨v13, rfl, hown13, hb13⟩
                      go_wp2_with fail
                      go_ret2
                      exact ⟨v13, by rw [HE.out]; rfl, fun h => absurd HE.out h, fun _ => by rw [show (between (L s) (L t)).length = 1 by rw [HBW.out]; rfl]; exact own_lower hown13 (hb12.size), bthen hb12 hb13⟩
                    · have g9 : (edErr s.size (between (L s) (L t)) != 0) = true := by simpa using hE
                      have HE := Lib.hid hE; clear hE
                      go_wp2_with fail
                      go_ret2
                      exact ⟨_, rfl, fun _ => rfl, fun h => absurd h HE.out, hb12⟩
                  · have k1 : (((s.size : Int) - (c : Int) - (n : Int)) == 0) = false := by simpa using hd0
                    clear hd0
                    go_wp2_with fail
                    have hR1 : Rd ((w9.alloc (.cells #[.int .i64 (n : Int), .int .i64 ((s.size : Int) - (c : Int) - (n : Int)), .string (t.extract n (t.size - c))] 73)).alloc (.cells #[.int .i64 (n : Int), .int .i64 ((s.size : Int) - (c : Int) - (n : Int)), .string (t.extract n (t.size - c))] 73)) (w9.heap.size + 2) 3 (some ⟨w9.heap.size + 1, 0, none⟩) 1 (edCells (between (L s) (L t))) := by
                      rw [HBW.out, HBT.out]
                      have := Rd.new_ (size := 3) (n := 1) (w9.alloc (.cells #[.int .i64 (n : Int), .int .i64 ((s.size : Int) - (c : Int) - (n : Int)), .string (t.extract n (t.size - c))] 73)) #[.int .i64 (n : Int), .int .i64 ((s.size : Int) - (c : Int) - (n : Int)), .string (t.extract n (t.size - c))] 73 (B := w9.heap.size + 2) (by simp) rfl
                      simp only [World.size_alloc] at this
                      exact this
                    have hb10 : Below w.heap.size w ((w9.alloc (.cells #[.int .i64 (n : Int), .int .i64 ((s.size : Int) - (c : Int) - (n : Int)), .string (t.extract n (t.size - c))] 73)).alloc (.cells #[.int .i64 (n : Int), .int .i64 ((s.size : Int) - (c : Int) - (n : Int)), .string (t.extract n (t.size - c))] 73)) := (by repeat (first | exact Below.refl _ _ | assumption | refine Below.alloc ?_ (by first | exact Nat.le_refl _ | assumption | omega | (simp <;> omega)) _ | refine Below.setCell ?_ (by first | exact Nat.le_refl _ | assumption | omega | (simp <;> omega)) _ | refine Below.drew ?_ | refine below_drewN ?_ _))
                    have hz10 : ((w9.alloc (.cells #[.int .i64 (n : Int), .int .i64 ((s.size : Int) - (c : Int) - (n : Int)), .string (t.extract n (t.size - c))] 73)).alloc (.cells #[.int .i64 (n : Int), .int .i64 ((s.size : Int) - (c : Int) - (n : Int)), .string (t.extract n (t.size - c))] 73)).heap.size = w9.heap.size + 2 := by simp
                    have HZ10 := Lib.hid (Nat.le_of_eq hz10.symm); clear hz10
                    generalize ((w9.alloc (.cells #[.int .i64 (n : Int), .int .i64 ((s.size : Int) - (c : Int) - (n : Int)), .string (t.extract n (t.size - c))] 73)).alloc (.cells #[.int .i64 (n : Int), .int .i64 ((s.size : Int) - (c : Int) - (n : Int)), .string (t.extract n (t.size - c))] 73)) = w10 at *
                    refine (edCheck_any s.size (between (L s) (L t)) (some ⟨w9.heap.size + 1, 0, none⟩) 1 1 (w9.heap.size + 2) w10 hR1 HZ10.out (by omega)).mono ?_
                    rintro e w11 ⟨rfl, hb11⟩
                    have hR2 := hR1.below (hb11.mono HZ10.out)
                    have hb12 := bthen hb10 hb11
                    by_cases hE : edErr s.size (between (L s) (L t)) = 0
                    · have g9 : (edErr s.size (between (L s) (L t)) != 0) = false := by rw [hE]; rfl
                      have HE := Lib.hid hE; clear hE
                      have hl1 : (edCells (between (L s) (L t))).length ≤ 3 := by rw [HBW.out]; exact Nat.le_refl _
                      go_wp2_with fail
                      refine (clone_ed (some ⟨w9.heap.size + 1, 0, none⟩) 1 1 (w9.heap.size + 2) _ w11 hR2 (Nat.le_trans HZ10.out hb11.size) (edCells_one _) (by omega) (by omega)).mono ?_
                      rintro e w13 ⟨v13, rfl, hown13, hb13⟩
                      go_wp2_with fail
                      go_ret2
                      exact ⟨v13, by rw [HE.out]; rfl, fun h => absurd HE.out h, fun _ => by rw [show (between (L s) (L t)).length = 1 by rw [HBW.out]; rfl]; exact own_lower hown13 (hb12.size), bthen hb12 hb13⟩
                    · have g9 : (edErr s.size (between (L s) (L t)) != 0) = true := by simpa using hE
                      have HE := Lib.hid hE; clear hE
                      go_wp2_with fail
                      go_ret2
                      exact ⟨_, rfl, fun _ => rfl, fun h => absurd h HE.out, hb12⟩
end Go.Proofs.Ythnedhfjochfnaa
