/- phrase.Put. -/
import Derived.Test.YthnedhfjochfnaaPhraseG
import Derived.Test.YthnedhfjochfnaaOwn2
namespace Go.Proofs.Ythnedhfjochfnaa
open Go.RowKit
def toI (l : List (Nat × UInt8)) : List (Int × UInt8) := l.map fun p => ((p.1 : Int), p.2)
theorem toI_append (a b : List (Nat × UInt8)) : toI (a ++ b) = toI a ++ toI b := by simp [toI]
theorem phrCells_append (a b : List (Int × UInt8)) : phrCells (a ++ b) = phrCells a ++ phrCells b := by simp [phrCells]
theorem info_phr : (Try.prog.info? 57).map (fun i => (i.zero, i.size, i.bytes)) = some (some (.agg #[.int .i64 0, .int .u8 0]), 2, 16) := by kernel_rfl
/-- Where the outer loop stands. -/
structure PutAt (l : List UInt8) (at_ : Nat) (T : List (List UInt8)) (o : List (Nat × UInt8)) : Prop where
  le : at_ ≤ l.length
  closed : Closed T
  len : T.length = o.length + 1
  cnt : o.length ≤ at_
  texts : ∀ t ∈ T, t.length ≤ l.length
  one : o ++ (lz T [] (l.drop at_)).1 = (lz [[]] [] l).1
  two : (lz T [] (l.drop at_)).2 = (lz [[]] [] l).2
theorem PutAt.start (l : List UInt8) : PutAt l 0 [[]] [] := ⟨Nat.zero_le _, Closed.start, rfl, Nat.le_refl _, by simp, by simp, by simp⟩
def bestT (T : List (List UInt8)) (u : List UInt8) : List UInt8 := T.getD (bestTo T u T.length) []
theorem lz_best {T : List (List UInt8)} (hC : Closed T) (u : List UInt8) : lz T [] u = if (bestT T u).length < u.length then ((bestTo T u T.length, u.getD (bestT T u).length 0) :: (lz (T ++ [u.take ((bestT T u).length + 1)]) [] (u.drop ((bestT T u).length + 1))).1, (lz (T ++ [u.take ((bestT T u).length + 1)]) [] (u.drop ((bestT T u).length + 1))).2) else ([], u) := by
  have h1 := lz_long hC u [] _ hC.mem (best_longest hC u)
  simp only [List.nil_append] at h1
  rw [h1, best_idx hC u]
  unfold bestT
  split
  · rename_i h
    have e : u.getD (T.getD (bestTo T u T.length) []).length 0 = u[(T.getD (bestTo T u T.length) []).length] := by
      rw [List.getD_eq_getElem?_getD, List.getElem?_eq_getElem h]; rfl
    rw [e]
  · rfl
theorem bestT_long {T : List (List UInt8)} (hC : Closed T) (u : List UInt8) : Longest T u (bestT T u) := best_longest hC u
theorem PutAt.done {l : List UInt8} {at_ : Nat} {T : List (List UInt8)} {o : List (Nat × UInt8)} (h : PutAt l at_ T o) (hd : at_ + (bestT T (l.drop at_)).length = l.length) : o = (lz [[]] [] l).1 ∧ l.drop at_ = (lz [[]] [] l).2 := by
  have h1 := lz_best h.closed (l.drop at_)
  have hl := h.le
  rw [if_neg (by rw [List.length_drop]; omega)] at h1
  have h2 := h.one; have h3 := h.two
  rw [h1] at h2 h3
  exact ⟨by simpa using h2, by simpa using h3⟩
theorem PutAt.fin {l : List UInt8} {T : List (List UInt8)} {o : List (Nat × UInt8)} (h : PutAt l l.length T o) : o = (lz [[]] [] l).1 ∧ [] = (lz [[]] [] l).2 := by
  have h2 := h.one; have h3 := h.two
  simp only [List.drop_length, lz, List.append_nil] at h2 h3
  exact ⟨h2, h3⟩
theorem bestT_pre {l : List UInt8} {at_ : Nat} {T : List (List UInt8)} {o : List (Nat × UInt8)} (h : PutAt l at_ T o) : at_ + (bestT T (l.drop at_)).length ≤ l.length := by
  have := (best_longest h.closed (l.drop at_)).pre.length_le
  rw [List.length_drop] at this
  have := h.le
  unfold bestT; omega
theorem PutAt.step {l : List UInt8} {at_ : Nat} {T : List (List UInt8)} {o : List (Nat × UInt8)} (h : PutAt l at_ T o) (hd : at_ + (bestT T (l.drop at_)).length ≠ l.length) :
    PutAt l (at_ + (bestT T (l.drop at_)).length + 1) (T ++ [(l.drop at_).take ((bestT T (l.drop at_)).length + 1)]) (o ++ [(bestTo T (l.drop at_) T.length, l.getD (at_ + (bestT T (l.drop at_)).length) 0)]) := by
  have hm := bestT_long h.closed (l.drop at_)
  have h1 := lz_best h.closed (l.drop at_)
  have hp := bestT_pre h
  have hl := h.le
  have hcl := h.closed; have hlen := h.len; have hcnt := h.cnt; have htx := h.texts; have h2 := h.one; have h3 := h.two
  clear h
  have hg : (l.drop at_).getD (bestT T (l.drop at_)).length 0 = l.getD (at_ + (bestT T (l.drop at_)).length) 0 := by
    rw [List.getD_eq_getElem?_getD, List.getD_eq_getElem?_getD, List.getElem?_drop]
  rw [hg] at h1
  generalize bestTo T (l.drop at_) T.length = bi at *
  have hlt : (bestT T (l.drop at_)).length < (l.drop at_).length := by rw [List.length_drop]; omega
  have htk : (l.drop at_).take ((bestT T (l.drop at_)).length + 1) = bestT T (l.drop at_) ++ [l.getD (at_ + (bestT T (l.drop at_)).length) 0] := by
    rw [← hg, List.getD_eq_getElem?_getD, List.getElem?_eq_getElem hlt, Option.getD_some, ← List.take_append_getElem hlt]
    congr 1
    obtain ⟨z, hz⟩ := hm.pre
    have : (l.drop at_).take (bestT T (l.drop at_)).length = ((bestT T (l.drop at_)) ++ z).take (bestT T (l.drop at_)).length := by rw [hz]
    rw [this]; simp
  generalize bestT T (l.drop at_) = m at *
  rw [if_pos hlt] at h1
  rw [h1] at h2 h3
  refine ⟨by omega, ?_, by simp [hlen], by simp; omega, ?_, ?_, ?_⟩
  · rw [htk]
    refine hcl.add hm.mem fun hin => ?_
    have := hm.max _ hin (by rw [← htk]; exact List.take_prefix _ _)
    simp at this
    omega
  · intro t ht
    simp only [List.mem_append, List.mem_singleton] at ht
    rcases ht with ht | rfl
    · exact htx t ht
    · simp; omega
  · rw [← h2, List.drop_drop, Nat.add_assoc]
    simp only [List.append_assoc, List.singleton_append]
  · rw [← h3, List.drop_drop, Nat.add_assoc]
theorem pre_iff {l t : List UInt8} {at_ : Nat} : S ((l.drop at_).take (at_ + t.length - at_)) = S t ↔ t <+: l.drop at_ := by
  rw [show at_ + t.length - at_ = t.length by omega]
  constructor
  · intro h2
    rw [← S_inj h2]; exact List.take_prefix _ _
  · rintro ⟨z, hz⟩
    rw [← hz]; simp
theorem better_no1 {T : List (List UInt8)} {u : List UInt8} {k : Nat} (h : ¬ (T.getD (bestTo T u k) []).length < (T.getD k []).length) : bestTo T u (k + 1) = bestTo T u k := by
  simp only [bestTo, better]; rw [if_neg (fun hh => h hh.1)]
theorem better_no2 {T : List (List UInt8)} {u : List UInt8} {k : Nat} (h : ¬ T.getD k [] <+: u) : bestTo T u (k + 1) = bestTo T u k := by
  simp only [bestTo, better]; rw [if_neg (fun hh => h hh.2)]
theorem better_yes {T : List (List UInt8)} {u : List UInt8} {k : Nat} (h : (T.getD (bestTo T u k) []).length < (T.getD k []).length) (h2 : T.getD k [] <+: u) : bestTo T u (k + 1) = k := by
  simp only [bestTo, better]; rw [if_pos ⟨h, h2⟩]
theorem str_cell {w : World} {B n : Nat} {A : Option Addr} {T : List (List UInt8)} (h : Rd w B 1 A n (strCells T)) {k : Nat} (hk : k < n) : ∃ ad, A = some ad ∧ ad.block < B ∧ w.cell? (ad.add k) = some (.string (S (T.getD k []))) := by
  obtain ⟨ad, u, hA, hb, hu, hc⟩ := h.at_ hk
  refine ⟨ad, hA, hb, ?_⟩
  rw [hc]
  simp only [strCells, List.getElem?_map, Option.map_eq_some_iff] at hu
  obtain ⟨t, h1, h2⟩ := hu
  rw [← h2, List.getD_eq_getElem?_getD, h1]; rfl
set_option maxRecDepth 100000 in
set_option maxHeartbeats 2000000 in
theorem phrPut_any (s : ByteArray) (hs : s.size ≤ 200) (w : World) :
    Calls Try.prog 31 #[.string s] w fun e w' => ∃ v, e = .returned (.tuple #[v, .string (S (lz [[]] [] (L s)).2), .int .i64 0]) ∧
      w'.ownsRow w.heap.size 57 2 v (lz [[]] [] (L s)).1.length (phrCells (toI (lz [[]] [] (L s)).1)) ∧ Below w.heap.size w w' := by
  obtain ⟨i0, hi0, hz0, hz1, hz2⟩ := info_parts info_str
  obtain ⟨j0, hj0, jz0, jz1, jz2⟩ := info_parts info_phr
  have hE : (longErr s.size != 0) = false := by unfold longErr; rw [if_neg (by omega)]; rfl
  go_enter Try.func31, Try.ntmps31
  go_wp2_with fail
  refine (wordCheck_any s _).mono ?_
  rintro e w1 ⟨rfl, hb1⟩
  go_wp2_with fail
  go_loopw [6, 7, 8] (fun o v i wr => ∃ (at_ : Nat) (T : List (List UInt8)) (ph : List (Nat × UInt8)), PutAt (L s) at_ T ph ∧ i = .int .i64 at_ ∧
      wr.ownsRow w.heap.size 57 2 o ph.length (phrCells (toI ph)) ∧ wr.ownsRow w.heap.size 9 1 v T.length (strCells T) ∧ Below w.heap.size w wr)
    (fun _ _ i _ => s.size - (intOf i).toNat)
  case atStart =>
    exact ⟨0, [[]], [], PutAt.start _, rfl, World.ownsRow_nil _ _ _ _, World.ownsRow_lit w1 _ 1 hb1.size (by unfold maxLen; omega) rfl, (hb1.alloc hb1.size _)⟩
  case round =>
    obtain ⟨at_, T, ph, HA, rfl, hownO, hownT, hb⟩ := hrel
    have hle := HA.le
    rw [L_len] at hle
    have hTl := HA.len
    have hcnt := HA.cnt
    by_cases hlt : at_ < s.size
    · have HA := Lib.hid HA
      obtain ⟨A2, c2, rfl, hn2, hm2, hrd2⟩ := own_form hownT
      have hT0 : 0 < T.length := by omega
      have hT1 : T.length ≤ 201 := by omega
      have HT := Lib.hid hTl; clear hTl
      obtain ⟨ad, rfl, hab, _⟩ := str_cell hrd2 hT0
      have hcell : ∀ k, k < T.length → wr.cell? (ad.add k) = some (.string (S (T.getD k []))) := fun k hk => by
        obtain ⟨ad', h1, _, h2⟩ := str_cell hrd2 hk
        cases h1; exact h2
      have HC := Lib.hid hcell; clear hcell
      have hsl : ∀ k, k < T.length → (S (T.getD k [])).size ≤ 200 := fun k hk => by
        have := HA.out.texts (T.getD k []) (by rw [List.getD_eq_getElem?_getD, List.getElem?_eq_getElem hk]; exact List.getElem_mem hk)
        rw [S_size]; rw [L_len] at this; omega
      have HSL := Lib.hid hsl; clear hsl
      have HB := Lib.hid (bestTo_long HA.out.closed ((L s).drop at_))
      go_wp2_with fail
      go_loop [9, 25] (fun b i => ∃ k : Nat, k ≤ T.length ∧ i = .int .i64 k ∧ b = .int .i64 (bestTo T ((L s).drop at_) k)) (fun _ i => T.length - (intOf i).toNat)
      case atStart => exact ⟨0, Nat.zero_le _, rfl, rfl⟩
      case round =>
        obtain ⟨k, hk, rfl, rfl⟩ := hrel
        have hbk := (HB.out k hk).1
        by_cases hkl : k < T.length
        · have cb := HC.out _ hbk
          have ck := HC.out k hkl
          have zb := HSL.out _ hbk
          have zk := HSL.out k hkl
          have N1 := Lib.hid (better_no1 (T := T) (u := (L s).drop at_) (k := k))
          have N2 := Lib.hid (better_no2 (T := T) (u := (L s).drop at_) (k := k))
          have Y1 := Lib.hid (better_yes (T := T) (u := (L s).drop at_) (k := k))
          generalize T.getD k [] = tk at *
          generalize T.getD (bestTo T ((L s).drop at_) k) [] = tb at *
          have PI := Lib.hid (pre_iff (l := L s) (t := tk) (at_ := at_))
          have ZK := Lib.hid (S_size tk)
          have ZB := Lib.hid (S_size tb)
          by_cases h1 : (S tb).size < (S tk).size
          · by_cases h2 : at_ + (S tk).size ≤ s.size
            · have hE : Hid (s.extract at_ (at_ + (S tk).size) = S (((L s).drop at_).take (at_ + tk.length - at_))) := by
                unfold Hid; rw [extract_S, S_size]
              by_cases h3 : tk <+: (L s).drop at_
              · have g3 : ((s.extract at_ (at_ + (S tk).size)).toList == (S tk).toList) = true := by
                  rw [beqB, decide_eq_true_iff, hE.out]; exact PI.out.2 h3
                have Y2 := Lib.hid (Y1.out (by rw [← ZK.out, ← ZB.out]; exact h1) h3)
                clear h3
                go_wp2
                go_round
                case rel => exact ⟨k + 1, by omega, by go_num, by rw [Y2.out]⟩
                case measure => simp [intOf]; omega
              · have g3 : ((s.extract at_ (at_ + (S tk).size)).toList == (S tk).toList) = false := by
                  rw [beqB, decide_eq_false_iff_not, hE.out]; exact fun h => h3 (PI.out.1 h)
                have Y2 := Lib.hid (N2.out h3)
                clear h3
                go_wp2
                go_round
                case rel => exact ⟨k + 1, by omega, by go_num, by rw [Y2.out]⟩
                case measure => simp [intOf]; omega
            · have Y2 := Lib.hid (N2.out (fun h => by have := h.length_le; rw [List.length_drop, L_len, ← ZK.out] at this; omega))
              go_wp2
              go_round
              case rel => exact ⟨k + 1, by omega, by go_num, by rw [Y2.out]⟩
              case measure => simp [intOf]; omega
          · have Y2 := Lib.hid (N1.out (by rw [← ZK.out, ← ZB.out]; exact h1))
            go_wp2
            go_round
            case rel => exact ⟨k + 1, by omega, by go_num, by rw [Y2.out]⟩
            case measure => simp [intOf]; omega
        · obtain rfl : k = T.length := by omega
          have cb := HC.out _ hbk
          have zb := HSL.out _ hbk
          have ZB := Lib.hid (S_size (bestT T ((L s).drop at_)))
          have HST := Lib.hid (HA.out.step)
          have HDN := Lib.hid (HA.out.done)
          have HPR := bestT_pre HA.out
          rw [L_len, ← ZB.out] at HPR
          change wr.cell? (ad.add (bestTo T ((L s).drop at_) T.length)) = some (.string (S (bestT T ((L s).drop at_)))) at cb
          change (S (bestT T ((L s).drop at_))).size ≤ 200 at zb
          have EX : Hid (s.extract at_ s.size = S ((L s).drop at_)) := by
            unfold Hid; rw [extract_S, List.take_of_length_le (by rw [List.length_drop, L_len]; omega)]
          generalize bestTo T ((L s).drop at_) T.length = bi at *
          by_cases hd : at_ + (S (bestT T ((L s).drop at_))).size = s.size
          · have HF := Lib.hid (HDN.out (by rw [L_len, ← ZB.out]; exact hd))
            have hd' : decide ((at_ : Int) + ((S (bestT T ((L s).drop at_))).size : Int) = (s.size : Int)) = true := decide_eq_true (by omega)
            have hd2 : (((at_ : Int) + ((S (bestT T ((L s).drop at_))).size : Int)) == (s.size : Int)) = true := by simpa using hd'
            clear hd
            generalize bestT T ((L s).drop at_) = bt at *
            go_wp2_with fail
            go_quiet (fail)
            go_wp2_with fail
            go_ret3
            exact ⟨_, by rw [EX.out, HF.out.2]; rfl, by rw [← HF.out.1]; exact own_drewN hownO _, below_drewN hb _⟩
          · have HF := Lib.hid (HST.out (by rw [L_len, ← ZB.out]; exact hd))
            have hd2 : (((at_ : Int) + ((S (bestT T ((L s).drop at_))).size : Int)) == (s.size : Int)) = false := by simp; omega
            clear HDN HST
            have hts : (S (bestT T ((L s).drop at_))).size = (bestT T ((L s).drop at_)).length := S_size _
            generalize bestT T ((L s).drop at_) = bt at *
            have HTS := Lib.hid hts; clear hts
            go_wp2_with (first
              | (at_builtin; refine wpList_appG rfl (.tmp 71) (.tmp 79) _ rfl w.heap.size 57 j0 _ 2 16 Try.underlying48 hj0 jz0 jz1 jz2 rfl (by omega) _ ph.length (phrCells (toI ph)) rfl (hownO.alloc _) ⟨wr.heap.size, 0, none⟩ 1 1 [.int .i64 bi, .int .u8 ((s[at_ + (S bt).size]'(by omega)).toNat : Int)] rfl rfl (cells_new2 _ _ _ _) (by simp [Value.oneCell']) (by omega) (by omega) (by have := hb.size; simp; omega) ?_
                 intro v6 w6 hown6 hg6 hb6
                 have hownT6 := own_grown (hownT.alloc _) (hownO.alloc _) (by decide) hg6
                 have hb6' := (hb.alloc hb.size _).trans hb6
                 clear hg6 hb6 hownT)
              | (at_builtin; go_must (refine wpList_appG rfl (.tmp 81) (.tmp 89) _ rfl w.heap.size 9 i0 _ 1 16 Try.underlying33 hi0 hz0 hz1 hz2 rfl (by omega) _ T.length (strCells T) rfl (hownT6.alloc _) ⟨w6.heap.size, 0, none⟩ 1 1 [.string (s.extract at_ (at_ + (S bt).size + 1))] rfl rfl (cell_one_new _ _ _) (by simp [Value.oneCell']) (by omega) (by omega) (by have := hb6'.size; simp; omega) ?_)
                 intro v7 w7 hown7 hg7 hb7
                 have hownO7 := own_grown (hown6.alloc _) (hownT6.alloc _) (by decide) hg7
                 have hb7' := (hb6'.alloc hb6'.size _).trans hb7
                 clear hg7 hb7 hown6 hb6'))
            go_roundw
            case rel =>
              refine ⟨_, _, _, HF.out, by rw [← HTS.out]; go_num, ?_, ?_, hb7'⟩
              · rw [getB] at hownO7
                rw [toI_append, phrCells_append, List.length_append, ← HTS.out]
                exact hownO7
              · have e1 : s.extract at_ (at_ + (S bt).size + 1) = S (((L s).drop at_).take (bt.length + 1)) := by
                  rw [extract_S, HTS.out]; congr 2; omega
                rw [e1] at hown7
                rw [List.length_append]
                simpa [strCells] using hown7
            case measure => simp [intOf]; omega
    · obtain rfl : at_ = s.size := by omega
      have HF := Lib.hid (PutAt.fin (l := L s) (by rw [L_len]; exact HA))
      clear HA
      go_wp2_with fail
      go_quiet (fail)
      go_wp2_with fail
      go_ret3
      exact ⟨_, by rw [← HF.out.2]; rfl, by rw [← HF.out.1]; exact own_drewN hownO _, below_drewN hb _⟩
end Go.Proofs.Ythnedhfjochfnaa
