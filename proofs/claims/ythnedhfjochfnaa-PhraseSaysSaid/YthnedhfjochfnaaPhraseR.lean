/- The reference's TextOf. -/
import Derived.Test.YthnedhfjochfnaaPhraseG
namespace Go.Proofs.Ythnedhfjochfnaa
open Go.RowKit
set_option maxRecDepth 100000 in
set_option maxHeartbeats 1000000 in
theorem phrTextOf_any (l : List (Int × UInt8)) (rest : ByteArray) (A : Option Addr) (n c B : Nat) (w : World) (hr : Rd w B 2 A n (phrCells l)) (hB : B ≤ w.heap.size) (hn : n ≤ 9223372036854775807) :
    Calls Try.prog 36 #[.slice A n c, .string rest] w fun e w' => e = .returned (.tuple #[.string (getOut l rest).1, .int .i64 (getOut l rest).2]) ∧ Below w.heap.size w w' := by
  obtain ⟨i0, hi0, hz0, hz1, hz2⟩ := info_parts info_str
  have hlen : l.length = n := by have := hr.1; rw [phr_len] at this; omega
  have HR := Lib.hid hr; clear hr
  go_enter Try.func36, Try.ntmps36
  by_cases h1 : 200 < rest.size
  · have hg : Hid (getOut l rest = (S [], 2)) := by unfold Hid getOut; rw [if_pos h1]
    go_wp2_with fail
    go_ret2
    exact ⟨by rw [hg.out]; rfl, Below.refl _ _⟩
  by_cases h2 : 200 < n
  · have hg : Hid (getOut l rest = (S [], 2)) := by unfold Hid getOut; rw [if_neg h1, hlen, if_pos h2]
    go_wp2_with fail
    go_ret2
    exact ⟨by rw [hg.out]; rfl, Below.refl _ _⟩
  have HG : Hid (getOut l rest = match phrText [[]] [] l with
    | (none, e) => (S [], e)
    | (some out, _) => if 200 < out.length + rest.size then (S [], 2) else (S out ++ rest, 0)) := by unfold Hid getOut; rw [if_neg h1, hlen, if_neg h2]; rfl
  have hcv : ∀ (c0 : UInt8) (W : World) (o : Obj), (convert 45 9 (.slice (some ⟨W.heap.size + 1, 0, none⟩) 1 1)).run Try.prog ((W.alloc o).alloc (.cells #[.int .u8 (c0.toNat : Int)] 5)) = .ok (.string (S [c0])) ((W.alloc o).alloc (.cells #[.int .u8 (c0.toNat : Int)] 5)) := by
    intro c0 W o
    have h := conv_new (P := Try.prog) Try.underlying45 Try.underlying5 Try.underlying9 (W.alloc o) #[.int .u8 (c0.toNat : Int)] [c0] 1 1 rfl rfl
    rwa [World.size_alloc] at h
  go_wp2_with fail
  go_loopw [6, 7, 21] (fun s v i wr => ∃ (k : Nat) (T : List (List UInt8)) (out : List UInt8), k ≤ n ∧ T.length = k ∧ (∀ t ∈ T, t.length ≤ k) ∧ out.length ≤ 200 ∧ phrText [[]] [] l = phrText ([] :: T) out (l.drop k) ∧ i = .int .i64 k ∧ s = .string (S out) ∧
      wr.ownsRow w.heap.size 9 1 v k (strCells T) ∧ Below w.heap.size w wr)
    (fun _ _ i _ => n - (intOf i).toNat)
  case atStart =>
    exact ⟨0, [], [], Nat.zero_le _, rfl, by simp, Nat.zero_le _, rfl, rfl, rfl, World.ownsRow_nil _ _ _ _, Below.refl _ _⟩
  case round =>
    obtain ⟨k, T, out, hk, hT, hTl, ho, hP, rfl, rfl, hown, hb⟩ := hrel
    have HP := Lib.hid hP; clear hP
    by_cases hlt : k < n
    · have HRr := HR.out.below (hb.mono hB)
      obtain ⟨ad, p, rfl, hab, hp, hc0, hc1⟩ := HRr.at_phr hlt
      have hd : l.drop k = p :: l.drop (k + 1) := by
        rw [List.drop_eq_getElem_cons (by omega)]
        congr 1
        rw [List.getElem?_eq_getElem (by omega)] at hp
        exact Option.some.inj hp
      rw [Hid, hd] at HP
      obtain ⟨b, c0⟩ := p
      simp only at hc0 hc1
      have HP := Lib.hid HP
      clear hp hd
      by_cases hbad : b < 0 ∨ (k : Int) < b
      · have hg : Hid (getOut l rest = (S [], 1)) := by
          unfold Hid
          rw [HG.out, HP.out, phrText, if_pos (by rw [List.length_cons, hT]; omega)]
        clear HP
        go_wp2_with fail
        all_goals go_ret2
        all_goals exact ⟨by rw [hg.out]; rfl, hb.alloc hb.size _⟩
      · obtain ⟨b, rfl⟩ := Int.eq_ofNat_of_zero_le (show 0 ≤ b by omega)
        have hbk : b ≤ k := by omega
        have hW2 : Below wr.heap.size wr (wr.alloc (.cells #[.int .i64 b, .int .u8 (c0.toNat : Int)] 57)) := (by repeat (first | exact Below.refl _ _ | assumption | refine Below.alloc ?_ (by simp <;> omega) _ | refine Below.setCell ?_ (by simp <;> omega) _ | refine Below.drew ?_))
        have hb2' := bthen hb hW2
        have hown2 := own_below hown hW2
        rcases b with _ | b
        · have HS := Lib.hid (rfl : ([] : List UInt8) ++ [c0] = [c0])
          obtain ⟨t, hT0⟩ : ∃ t : List UInt8, t = [] := ⟨_, rfl⟩
          have hts : t.length ≤ k := by rw [hT0]; exact Nat.zero_le _
          have htb : ([] :: T).getD 0 [] = t := by rw [hT0]; rfl
          have HT0 := Lib.hid hT0; clear hT0 HS
          have HTl := Lib.hid hTl; clear hTl
          have hz : (S [c0]).size ≤ 1 := by rw [S_size]; exact Nat.le_refl _
          have htz : (S t).size ≤ 200 := by rw [S_size]; omega
          have hq1 : ¬ 9223372036854775807 < (S t).size + (S [c0]).size := by omega
          have hW4 : Below wr.heap.size wr ((wr.alloc (.cells #[.int .i64 0, .int .u8 (c0.toNat : Int)] 57)).alloc (.cells #[.int .u8 (c0.toNat : Int)] 5)) := (by repeat (first | exact Below.refl _ _ | assumption | refine Below.alloc ?_ (by simp <;> omega) _ | refine Below.setCell ?_ (by simp <;> omega) _ | refine Below.drew ?_))
          have HOWN := Lib.hid (own_below hown hW4)
          have hb4 := bthen hb hW4
          have hnew : ∀ u : Value, ∀ (j : Nat) v, [u][j]? = some v → (((wr.alloc (.cells #[.int .i64 0, .int .u8 (c0.toNat : Int)] 57)).alloc (.cells #[.int .u8 (c0.toNat : Int)] 5)).alloc (.cells #[u] 9)).cell? (Addr.add ⟨wr.heap.size + 1 + 1, 0, none⟩ j) = some v := by
            intro u j v hj
            have := cell_one_new ((wr.alloc (.cells #[.int .i64 0, .int .u8 (c0.toNat : Int)] 57)).alloc (.cells #[.int .u8 (c0.toNat : Int)] 5)) u 9 j v hj
            simpa using this
          have eS : (⟨#[]⟩ : ByteArray) ++ S [c0] = S (t ++ [c0]) := by rw [HT0.out]; exact append_S (S []) (S [c0])
          have hsz : (S out).size + ((S t).size + (S [c0]).size) = (out ++ (t ++ [c0])).length := by rw [S_size, S_size, S_size]; simp
          have ht0 : (S t).size = 0 := by rw [HT0.out]; rfl
          have ES := Lib.hid eS; clear eS
          have hoS : (S out).size ≤ 200 := by rw [S_size]; exact ho
          by_cases hlg : 200 < (S out).size + (S [c0]).size
          · have hg : Hid (getOut l rest = (S [], 2)) := by
              unfold Hid
              rw [HG.out, HP.out, phrText, if_neg (by rw [List.length_cons, hT]; omega), Int.toNat_natCast, htb, if_pos (by rw [← hsz]; omega)]
            clear HP hsz htb
            go_wp2_with (at_builtin; go_must (refine wpList_app rfl _ _ _ rfl w.heap.size 9 i0 _ 1 16 Try.underlying33 hi0 hz0 hz1 hz2 rfl (by omega) _ k (strCells T) rfl (HOWN.out.alloc _) ⟨wr.heap.size + 1 + 1, 0, none⟩ 1 1 [.string (⟨#[]⟩ ++ S [c0])] rfl rfl (hnew _) (by simp [Value.oneCell']) (by omega) (by omega) (by have := hb.size; simp; omega) ?_); intro v6 w6 hown6 hb6)
            go_ret2
            exact ⟨by rw [hg.out]; rfl, (hb4.alloc hb4.size _).trans hb6⟩
          · have hn' : Hid (phrText [[]] [] l = phrText ([] :: (T ++ [t ++ [c0]])) (out ++ (t ++ [c0])) (l.drop (k + 1))) := by
              unfold Hid
              rw [HP.out, phrText, if_neg (by rw [List.length_cons, hT]; omega), Int.toNat_natCast, htb, if_neg (by rw [← hsz]; omega)]; rfl
            have HSZ := Lib.hid hsz
            clear HP hsz htb
            go_wp2_with (at_builtin; go_must (refine wpList_app rfl _ _ _ rfl w.heap.size 9 i0 _ 1 16 Try.underlying33 hi0 hz0 hz1 hz2 rfl (by omega) _ k (strCells T) rfl (HOWN.out.alloc _) ⟨wr.heap.size + 1 + 1, 0, none⟩ 1 1 [.string (⟨#[]⟩ ++ S [c0])] rfl rfl (hnew _) (by simp [Value.oneCell']) (by omega) (by omega) (by have := hb.size; simp; omega) ?_); intro v6 w6 hown6 hb6)
            go_roundw
            case rel =>
              rw [ES.out] at hown6
              refine ⟨k + 1, T ++ [t ++ [c0]], out ++ (t ++ [c0]), by omega, by simp [hT], ?_, by rw [← HSZ.out]; omega, hn'.out, by go_num, by rw [ES.out, append_S]; rfl, by simpa [strCells] using hown6, (hb4.alloc hb4.size _).trans hb6⟩
              intro x hx
              simp only [List.mem_append, List.mem_singleton] at hx
              rcases hx with hx | rfl
              · have := HTl.out x hx; omega
              · simp; omega
            case measure => simp [intOf]; omega
        · obtain ⟨A2, c2, rfl, hn2, hm2, hrd2⟩ := own_form hown
          obtain ⟨ad2, u2, rfl, hb2, hu2, hcell2⟩ := hrd2.at_ (k := b) (by omega)
          obtain ⟨t, ht, rfl⟩ : ∃ t, T[b]? = some t ∧ u2 = .string (S t) := by
            simp only [strCells, List.getElem?_map, Option.map_eq_some_iff] at hu2
            obtain ⟨t, h1, h2⟩ := hu2
            exact ⟨t, h1, h2.symm⟩
          clear hu2
          have hts : t.length ≤ k := hTl t (List.mem_of_getElem? ht)
          have htb : ([] :: T).getD (b + 1) [] = t := by rw [List.getD_eq_getElem?_getD, List.getElem?_cons_succ, ht]; rfl
          clear ht
          have e2 := fun o => (World.cell?_alloc_lt wr o (ad2.add b) (by rw [blk_add]; exact hb2)).trans hcell2
          have HTl := Lib.hid hTl; clear hTl
          have hz : (S [c0]).size ≤ 1 := by rw [S_size]; exact Nat.le_refl _
          have htz : (S t).size ≤ 200 := by rw [S_size]; omega
          have hq1 : ¬ 9223372036854775807 < (S t).size + (S [c0]).size := by omega
          have hW4 : Below wr.heap.size wr ((wr.alloc (.cells #[.int .i64 ((b : Int) + 1), .int .u8 (c0.toNat : Int)] 57)).alloc (.cells #[.int .u8 (c0.toNat : Int)] 5)) := (by repeat (first | exact Below.refl _ _ | assumption | refine Below.alloc ?_ (by simp <;> omega) _ | refine Below.setCell ?_ (by simp <;> omega) _ | refine Below.drew ?_))
          have HOWN := Lib.hid (own_below hown hW4)
          have hb4 := bthen hb hW4
          have hnew : ∀ u : Value, ∀ (j : Nat) v, [u][j]? = some v → (((wr.alloc (.cells #[.int .i64 ((b : Int) + 1), .int .u8 (c0.toNat : Int)] 57)).alloc (.cells #[.int .u8 (c0.toNat : Int)] 5)).alloc (.cells #[u] 9)).cell? (Addr.add ⟨wr.heap.size + 1 + 1, 0, none⟩ j) = some v := by
            intro u j v hj
            have := cell_one_new ((wr.alloc (.cells #[.int .i64 ((b : Int) + 1), .int .u8 (c0.toNat : Int)] 57)).alloc (.cells #[.int .u8 (c0.toNat : Int)] 5)) u 9 j v hj
            simpa using this
          have eS : S t ++ S [c0] = S (t ++ [c0]) := append_S _ _
          have hsz : (S out).size + ((S t).size + (S [c0]).size) = (out ++ (t ++ [c0])).length := by rw [S_size, S_size, S_size]; simp
          skip
          have ES := Lib.hid eS; clear eS
          have hoS : (S out).size ≤ 200 := by rw [S_size]; exact ho
          by_cases hlg : 200 < (S out).size + ((S t).size + (S [c0]).size)
          · have hg : Hid (getOut l rest = (S [], 2)) := by
              unfold Hid
              rw [HG.out, HP.out, phrText, if_neg (by rw [List.length_cons, hT]; omega), Int.toNat_natCast, htb, if_pos (by rw [← hsz]; omega)]
            clear HP hsz htb
            go_wp2_with (at_builtin; go_must (refine wpList_app rfl _ _ _ rfl w.heap.size 9 i0 _ 1 16 Try.underlying33 hi0 hz0 hz1 hz2 rfl (by omega) _ k (strCells T) rfl (HOWN.out.alloc _) ⟨wr.heap.size + 1 + 1, 0, none⟩ 1 1 [.string (S t ++ S [c0])] rfl rfl (hnew _) (by simp [Value.oneCell']) (by omega) (by omega) (by have := hb.size; simp; omega) ?_); intro v6 w6 hown6 hb6)
            go_ret2
            exact ⟨by rw [hg.out]; rfl, (hb4.alloc hb4.size _).trans hb6⟩
          · have hn' : Hid (phrText [[]] [] l = phrText ([] :: (T ++ [t ++ [c0]])) (out ++ (t ++ [c0])) (l.drop (k + 1))) := by
              unfold Hid
              rw [HP.out, phrText, if_neg (by rw [List.length_cons, hT]; omega), Int.toNat_natCast, htb, if_neg (by rw [← hsz]; omega)]; rfl
            have HSZ := Lib.hid hsz
            clear HP hsz htb
            go_wp2_with (at_builtin; go_must (refine wpList_app rfl _ _ _ rfl w.heap.size 9 i0 _ 1 16 Try.underlying33 hi0 hz0 hz1 hz2 rfl (by omega) _ k (strCells T) rfl (HOWN.out.alloc _) ⟨wr.heap.size + 1 + 1, 0, none⟩ 1 1 [.string (S t ++ S [c0])] rfl rfl (hnew _) (by simp [Value.oneCell']) (by omega) (by omega) (by have := hb.size; simp; omega) ?_); intro v6 w6 hown6 hb6)
            go_roundw
            case rel =>
              rw [ES.out] at hown6
              refine ⟨k + 1, T ++ [t ++ [c0]], out ++ (t ++ [c0]), by omega, by simp [hT], ?_, by rw [← HSZ.out]; omega, hn'.out, by go_num, by rw [ES.out, append_S]; rfl, by simpa [strCells] using hown6, (hb4.alloc hb4.size _).trans hb6⟩
              intro x hx
              simp only [List.mem_append, List.mem_singleton] at hx
              rcases hx with hx | rfl
              · have := HTl.out x hx; omega
              · simp; omega
            case measure => simp [intOf]; omega
    · obtain rfl : k = n := by omega
      have hP0 : phrText [[]] [] l = (some out, 0) := by rw [HP.out, List.drop_of_length_le (by omega), phrText]
      have hos : (S out).size = out.length := S_size _
      have hq2 : ¬ 9223372036854775807 < (S out).size + rest.size := by omega
      by_cases hlg : 200 < (S out).size + rest.size
      · have hg : Hid (getOut l rest = (S [], 2)) := by
          unfold Hid
          rw [HG.out, hP0]
          simp only
          rw [if_pos (by omega)]
        clear hP0 hos
        go_wp2_with fail
        go_ret2
        exact ⟨by rw [hg.out]; rfl, hb⟩
      · have hg : Hid (getOut l rest = (S out ++ rest, 0)) := by
          unfold Hid
          rw [HG.out, hP0]
          simp only
          rw [if_neg (by omega)]
        clear hP0 hos
        go_wp2_with fail
        go_ret2
        exact ⟨by rw [hg.out]; rfl, hb⟩
end Go.Proofs.Ythnedhfjochfnaa
