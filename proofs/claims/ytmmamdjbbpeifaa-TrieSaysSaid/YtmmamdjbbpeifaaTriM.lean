/- The law TrieSays, walked: right words. -/
import Derived.Test.YtmmamdjbbpeifaaTriL
namespace Go.Proofs.Ytmmamdjbbpeifaa
open Go.RowKit
theorem nis_at {w : World} {B n k : Nat} {A : Option Addr} {t : List Nat} (hr : Rd w B 1 A n (nisC t)) (hk : k < n) : ∃ ad, ∃ hl : k < t.length, A = some ad ∧ w.cell? (ad.add k) = some (.int .i64 ((t[k] : Nat) : Int)) := by
  have hl : t.length = n := by have := hr.1; simpa [nisC] using this
  obtain ⟨ad, hA, _, hc⟩ := hr.2 (by omega)
  exact ⟨ad, by omega, hA, hc k _ (by unfold nisC; rw [List.getElem?_map, List.getElem?_eq_getElem (by omega)]; rfl)⟩
set_option maxRecDepth 100000 in
set_option maxHeartbeats 16000000 in
theorem trieLong_any (s head : ByteArray) (A : Option Addr) (n c : Nat) (ps : List (List UInt8)) (w : World) (hr : Rd w w.heap.size 1 A n (strCells ps)) (hn : n ≤ c) (h : patErr ps = 0) (hs : longErr s.size ≠ 0) :
    Calls Try.prog 5 #[.string s, .slice A n c, .string head] w fun e w' => e = .returned (.bool true) ∧ Below w.heap.size w w' := by
  obtain ⟨i0, hi0, hz0, hz1, hz2⟩ := info_parts info_str
  obtain ⟨hp1, hp2, hp3⟩ := pat_of h
  have hpl : ps.length = n := by have := hr.1; simpa [strCells] using this
  have hn10 : n ≤ 10 := by omega
  have hx : ∀ x ∈ ps, x.length ≤ maxLen := fun x hx => Nat.le_trans (hp3 x hx).2 (by decide)
  have HFR : Hid (∀ W, Below w.heap.size w W → _) := fun W hW => fronts_any head A n c w.heap.size ps W (hr.below hW) hn hW.size h
  have HPE : Hid (∀ W, Below w.heap.size w W → Calls Try.prog 24 #[.slice A n c] W fun e w' => e = .returned (.int .i64 0) ∧ w' = W) := fun W hW => by
    have h1 := patsErr_any A n c w.heap.size ps W (hr.below hW) (by omega) (by omega) hx
    rw [h] at h1; exact h1
  have HCK : Hid (∀ W, Below w.heap.size w W → Calls Try.prog 25 #[.slice A n c] W fun e w' => e = .returned (.int .i64 0) ∧ w' = W) := fun W hW => by
    have h1 := trieCheck_any A n c w.heap.size ps W (hr.below hW) hn (by omega) hx
    rw [h] at h1; exact h1
  have HR : Hid (∀ W, Below w.heap.size w W → Rd W w.heap.size 1 A n (strCells ps)) := fun W hW => hr.below hW
  obtain ⟨nk, hnk⟩ : ∃ nk, (frS ps (L head)).length = nk := ⟨_, rfl⟩
  have HNK := Lib.hid hnk
  have HNL : Hid ((nmT ps (L head) n).length = nk) := by
    have h1 := congrArg List.length (nmT_sort ps (L head))
    rw [sortB_len, List.length_map, hnk, hpl] at h1
    exact h1
  have HNS : Hid (sortB (nmT ps (L head) n) = (frS ps (L head)).map fun i => ps.getD i []) := by rw [← hpl]; exact nmT_sort ps (L head)
  have HFL : Hid (∀ i ∈ frS ps (L head), i < n) := fun i hi => by rw [← hpl]; exact frS_lt hi
  have hnk10 : nk ≤ 10 := by
    have := nmT_len (ps := ps) (hd := L head) n
    rw [HNL.out] at this
    omega
  have HPL := Lib.hid hpl
  have HF := Lib.hid (findLong_any s A n c w hs)
  have HL : Hid (longAll [s] = longErr s.size) := by rw [Hid, longAll_one]
  have g9 : (longErr s.size != 0) = true := by rw [bne_iff_ne]; exact hs
  clear hr hx h hs hp1 hp2 hp3 hnk hpl
  generalize longErr s.size = le at *
  go_enter Try.func5, Try.ntmps5
  go_wp2_with fail
  refine HF.out.mono ?_
  rintro e w1 ⟨rfl, hb1⟩
  go_wp2_with fail
  refine (HFR.out w1 hb1).mono ?_
  rintro e w2 ⟨v2, rfl, hown2, hb2⟩
  have hB2 := bthen hb1 hb2
  rw [HNK.out] at hown2
  obtain ⟨A2, c2, rfl, hn2, hm2, hrd2⟩ := own_form hown2
  have HK : Hid (∀ W, Below w2.heap.size w2 W → Rd W w2.heap.size 1 A2 nk (nisC (frS ps (L head)))) := fun W hW => hrd2.below hW
  clear hown2 hrd2 hn2 hm2
  go_wp2_with fail
  refine (HPE.out w2 hB2).mono ?_
  rintro e w3 ⟨rfl, rfl⟩
  go_wp2_with fail
  refine (HCK.out w3 hB2).mono ?_
  rintro e w4 ⟨rfl, rfl⟩
  go_wp2_with fail
  go_loopw [13, 79] (fun ov kv wr => ∃ k : Nat, k ≤ n ∧ kv = .int .i64 (k : Int) ∧ Hid (wr.ownsRow w4.heap.size 9 1 ov (nmT ps (L head) k).length (strCells (nmT ps (L head) k))) ∧ Below w4.heap.size w4 wr) (fun _ kv _ => n - (intOf kv).toNat)
  case atStart => exact ⟨0, Nat.zero_le _, rfl, World.ownsRow_nil _ _ _ _, Below.refl _ _⟩
  case round =>
    obtain ⟨k, hk, rfl, HO, hb⟩ := hrel
    have hbs := hb.size
    have hql := nmT_len (ps := ps) (hd := L head) k
    by_cases hlt : k < n
    · have g1 : decide ((k : Int) < (n : Int)) = true := decide_eq_true (by omega)
      have g1' : decide (k < n) = true := decide_eq_true hlt
      obtain ⟨ad, rfl, _, c0⟩ := str_cell (HR.out wr (hB2.trans (hb.mono hB2.size))) hlt
      have HSN := Lib.hid (nmT_snoc (ps := ps) (hd := L head) (k := k) (by rw [HPL.out]; exact hlt))
      have HHP := Lib.hid (Try.strings_HasPrefix (S (ps.getD k [])) head wr)
      rw [S_data] at HHP
      have HHP2 : Hid (Calls Try.prog 26 #[.string (S (ps.getD k [])), .string head] wr fun e w' => e = .returned (.bool ((L head).isPrefixOf (ps.getD k []))) ∧ w' = wr) := HHP.out
      clear HHP
      generalize ps.getD k [] = p at *
      cases hp : (L head).isPrefixOf p with
      | true =>
        have HV : Hid (nmT ps (L head) (k + 1) = nmT ps (L head) k ++ [p]) := by rw [Hid, HSN.out, if_pos hp]
        rw [hp] at HHP2
        clear hp HSN
        generalize nmT ps (L head) k = q at *
        go_wp2_with fail
        refine HHP2.out.mono ?_
        rintro e w5 ⟨rfl, rfl⟩
        have hHOA := HO.out.alloc (.cells #[.string (S p)] 9)
        go_wp2_with (at_builtin; go_must (refine wpList_app rfl _ _ _ rfl w4.heap.size 9 i0 _ 1 16 Try.underlying36 hi0 hz0 hz1 hz2 rfl (by omega) _ q.length (strCells q) rfl hHOA ⟨w5.heap.size, 0, none⟩ 1 1 [.string (S p)] rfl rfl (cell_one_new _ _ _) (by simp [Value.oneCell']) (by omega) (by omega) (by simp; omega) ?_); intro v6 w6 hown6 hb6)
        have HN : Hid (w6.ownsRow w4.heap.size 9 1 v6 (q ++ [p]).length (strCells (q ++ [p]))) := by
          rw [Hid, List.length_append]
          have e : strCells (q ++ [p]) = strCells q ++ [.string (S p)] := by unfold strCells; rw [List.map_append]; rfl
          rw [e]; exact hown6
        have hb7 : Below w4.heap.size w4 w6 := (hb.alloc hbs _).trans hb6
        clear hown6 hHOA
        go_roundw
        case rel => exact ⟨k + 1, by omega, by go_num, by rw [HV.out]; exact HN.out, hb7⟩
        case measure => simp [intOf]; omega
      | false =>
        have HV : Hid (nmT ps (L head) (k + 1) = nmT ps (L head) k) := by rw [Hid, HSN.out, if_neg (by rw [hp]; decide), List.append_nil]
        rw [hp] at HHP2
        clear hp HSN
        go_wp2_with fail
        refine HHP2.out.mono ?_
        rintro e w5 ⟨rfl, rfl⟩
        go_wp2_with fail
        go_roundw
        case rel => exact ⟨k + 1, by omega, by go_num, by rw [HV.out]; exact HO.out, hb⟩
        case measure => simp [intOf]; omega
    · obtain rfl : k = n := by omega
      have g1 : decide ((k : Int) < (k : Int)) = false := decide_eq_false (by omega)
      have g1' : decide (k < k) = false := decide_eq_false hlt
      have HSS := Lib.hid (sortStr_own _ u13 w4 wr HO.out hb (by omega))
      rw [HNL.out, HNS.out] at HSS
      clear HO
      go_wp2_with fail
      refine HSS.out.mono ?_
      rintro e w5 ⟨rfl, hown5, hb5⟩
      obtain ⟨A5, c5, rfl, hn5, hm5, hrd5⟩ := own_form hown5
      have HNM := Lib.hid hrd5
      clear hown5 hrd5 hn5 hm5
      have hB5 := hB2.trans (hb5.mono hB2.size)
      have HK5 := Lib.hid (HK.out w5 hb5)
      have HR5 := Lib.hid (HR.out w5 hB5)
      go_wp2_with fail
      go_loopw [104] (fun kv wr => ∃ j q : Nat, j ≤ nk ∧ kv = .int .i64 (j : Int) ∧ wr = w5.drewN q) (fun kv _ => nk - (intOf kv).toNat)
      case atStart => exact ⟨0, 0, Nat.zero_le _, rfl, rfl⟩
      case round =>
        obtain ⟨j, q, hj, rfl, rfl⟩ := hrel
        by_cases hjt : j < nk
        · have g2 : decide ((j : Int) < (nk : Int)) = true := decide_eq_true (by omega)
          have g2' : decide (j < nk) = true := decide_eq_true hjt
          obtain ⟨xa, hxl, rfl, c0⟩ := nis_at HK5.out hjt
          have hxm := HFL.out _ (List.getElem_mem hxl)
          obtain ⟨na, eN, _, c2⟩ := str_cell HNM.out hjt
          have e2 : ((frS ps (L head)).map fun i => ps.getD i []).getD j [] = ps.getD ((frS ps (L head))[j]) [] := by
            rw [List.getD_eq_getElem?_getD, List.getElem?_map, List.getElem?_eq_getElem hxl]; rfl
          rw [e2] at c2
          generalize (frS ps (L head))[j] = x at *
          obtain ⟨pa, eP, _, c1⟩ := str_cell HR5.out hxm
          subst eN eP
          have g3 : decide ((x : Int) < 0) = false := decide_eq_false (by omega)
          have g4 : decide ((k : Int) ≤ (x : Int)) = false := decide_eq_false (by omega)
          have g4' : decide (k ≤ x) = false := decide_eq_false (by omega)
          clear e2
          generalize ps.getD x [] = p at *
          have c0 : (w5.drewN q).cell? (xa.add j) = some (.int .i64 (x : Int)) := c0
          have c1 : (w5.drewN q).cell? (pa.add x) = some (.string (S p)) := c1
          have c2 : (w5.drewN q).cell? (na.add j) = some (.string (S p)) := c2
          go_wp2_with fail
          go_quiet (fail)
          go_wp2_with fail
          go_roundw
          case rel => exact ⟨j + 1, _, by omega, by go_num, rfl⟩
          case measure => simp [intOf]; omega
        · obtain rfl : j = nk := by omega
          have g2 : decide ((j : Int) < (j : Int)) = false := decide_eq_false (by omega)
          have g2' : decide (j < j) = false := decide_eq_false hjt
          have hb6 : Below w5.heap.size w5 (w5.drewN q) := below_drewN (Below.refl _ _) _
          have hB6 := bthen hB5 hb6
          generalize w5.drewN q = w6 at *
          go_wp2_with fail
          refine (long_any [s] _ 1 _ (w6.heap.size + 1) _ (Rd.new_ (size := 1) (n := 1) w6 _ _ (Nat.lt_succ_self _) rfl) (by omega)).mono ?_
          rintro e w7 ⟨rfl, hb7⟩
          rw [HL.out]
          have hB7 := bthen (hB6.alloc hB6.size _) hb7
          go_wp2_with fail
          go_ret
          exact ⟨ret_bool (by simp), hB7⟩
set_option maxRecDepth 100000 in
set_option maxHeartbeats 16000000 in
theorem trieFine_any (s head : ByteArray) (A : Option Addr) (n c : Nat) (ps : List (List UInt8)) (w : World) (hr : Rd w w.heap.size 1 A n (strCells ps)) (hn : n ≤ c) (h : patErr ps = 0) (hs : s.size ≤ 200) :
    Calls Try.prog 5 #[.string s, .slice A n c, .string head] w fun e w' => e = .returned (.bool true) ∧ Below w.heap.size w w' := by
  obtain ⟨i0, hi0, hz0, hz1, hz2⟩ := info_parts info_str
  obtain ⟨hp1, hp2, hp3⟩ := pat_of h
  have hpl : ps.length = n := by have := hr.1; simpa [strCells] using this
  have hn10 : n ≤ 10 := by omega
  have hx : ∀ x ∈ ps, x.length ≤ maxLen := fun x hx => Nat.le_trans (hp3 x hx).2 (by decide)
  have HFR : Hid (∀ W, Below w.heap.size w W → _) := fun W hW => fronts_any head A n c w.heap.size ps W (hr.below hW) hn hW.size h
  have HPE : Hid (∀ W, Below w.heap.size w W → Calls Try.prog 24 #[.slice A n c] W fun e w' => e = .returned (.int .i64 0) ∧ w' = W) := fun W hW => by
    have h1 := patsErr_any A n c w.heap.size ps W (hr.below hW) (by omega) (by omega) hx
    rw [h] at h1; exact h1
  have HCK : Hid (∀ W, Below w.heap.size w W → Calls Try.prog 25 #[.slice A n c] W fun e w' => e = .returned (.int .i64 0) ∧ w' = W) := fun W hW => by
    have h1 := trieCheck_any A n c w.heap.size ps W (hr.below hW) hn (by omega) hx
    rw [h] at h1; exact h1
  have HR : Hid (∀ W, Below w.heap.size w W → Rd W w.heap.size 1 A n (strCells ps)) := fun W hW => hr.below hW
  obtain ⟨nk, hnk⟩ : ∃ nk, (frS ps (L head)).length = nk := ⟨_, rfl⟩
  have HNK := Lib.hid hnk
  have HNL : Hid ((nmT ps (L head) n).length = nk) := by
    have h1 := congrArg List.length (nmT_sort ps (L head))
    rw [sortB_len, List.length_map, hnk, hpl] at h1
    exact h1
  have HNS : Hid (sortB (nmT ps (L head) n) = (frS ps (L head)).map fun i => ps.getD i []) := by rw [← hpl]; exact nmT_sort ps (L head)
  have HFL : Hid (∀ i ∈ frS ps (L head), i < n) := fun i hi => by rw [← hpl]; exact frS_lt hi
  have hnk10 : nk ≤ 10 := by
    have := nmT_len (ps := ps) (hd := L head) n
    rw [HNL.out] at this
    omega
  have HPL := Lib.hid hpl
  have HF := Lib.hid (find_any s A n c w.heap.size ps w hr hn (Nat.le_refl _) hs h)
  have HL : Hid (longAll [s] = 0) := by rw [Hid, longAll_one]; exact if_neg (by omega)
  obtain ⟨nh, hnh⟩ : ∃ nh, (hitsTo ps (L s) s.size).length = nh := ⟨_, rfl⟩
  have HNH := Lib.hid hnh
  have hnh2 : nh ≤ 2000 := by
    have h1 := hitsTo_len (ps := ps) (s := L s) s.size
    have h2 := Nat.mul_le_mul hs hn10
    rw [hpl] at h1
    omega
  clear hnh
  clear hr hx h hp1 hp2 hp3 hnk hpl
  go_enter Try.func5, Try.ntmps5
  go_wp2_with fail
  refine HF.out.mono ?_
  rintro e w1 ⟨v1, rfl, hown1, hb1⟩
  rw [HNH.out] at hown1
  obtain ⟨A1, c1, rfl, hn1, hm1, hrd1⟩ := own_form hown1
  have HH : Hid (∀ W, Below w1.heap.size w1 W → Rd W w1.heap.size 2 A1 nh (hcCells (hitsTo ps (L s) s.size))) := fun W hW => hrd1.below hW
  clear hown1 hrd1
  go_wp2_with fail
  refine (HFR.out w1 hb1).mono ?_
  rintro e w2 ⟨v2, rfl, hown2, hb2⟩
  have hB2 := bthen hb1 hb2
  rw [HNK.out] at hown2
  obtain ⟨A2, c2, rfl, hn2, hm2, hrd2⟩ := own_form hown2
  have HK : Hid (∀ W, Below w2.heap.size w2 W → Rd W w2.heap.size 1 A2 nk (nisC (frS ps (L head)))) := fun W hW => hrd2.below hW
  clear hown2 hrd2 hn2 hm2
  go_wp2_with fail
  refine (HPE.out w2 hB2).mono ?_
  rintro e w3 ⟨rfl, rfl⟩
  go_wp2_with fail
  refine (HCK.out w3 hB2).mono ?_
  rintro e w4 ⟨rfl, rfl⟩
  go_wp2_with fail
  go_loopw [13, 79] (fun ov kv wr => ∃ k : Nat, k ≤ n ∧ kv = .int .i64 (k : Int) ∧ Hid (wr.ownsRow w4.heap.size 9 1 ov (nmT ps (L head) k).length (strCells (nmT ps (L head) k))) ∧ Below w4.heap.size w4 wr) (fun _ kv _ => n - (intOf kv).toNat)
  case atStart => exact ⟨0, Nat.zero_le _, rfl, World.ownsRow_nil _ _ _ _, Below.refl _ _⟩
  case round =>
    obtain ⟨k, hk, rfl, HO, hb⟩ := hrel
    have hbs := hb.size
    have hql := nmT_len (ps := ps) (hd := L head) k
    by_cases hlt : k < n
    · have g1 : decide ((k : Int) < (n : Int)) = true := decide_eq_true (by omega)
      have g1' : decide (k < n) = true := decide_eq_true hlt
      obtain ⟨ad, rfl, _, c0⟩ := str_cell (HR.out wr (hB2.trans (hb.mono hB2.size))) hlt
      have HSN := Lib.hid (nmT_snoc (ps := ps) (hd := L head) (k := k) (by rw [HPL.out]; exact hlt))
      have HHP := Lib.hid (Try.strings_HasPrefix (S (ps.getD k [])) head wr)
      rw [S_data] at HHP
      have HHP2 : Hid (Calls Try.prog 26 #[.string (S (ps.getD k [])), .string head] wr fun e w' => e = .returned (.bool ((L head).isPrefixOf (ps.getD k []))) ∧ w' = wr) := HHP.out
      clear HHP
      generalize ps.getD k [] = p at *
      cases hp : (L head).isPrefixOf p with
      | true =>
        have HV : Hid (nmT ps (L head) (k + 1) = nmT ps (L head) k ++ [p]) := by rw [Hid, HSN.out, if_pos hp]
        rw [hp] at HHP2
        clear hp HSN
        generalize nmT ps (L head) k = q at *
        go_wp2_with fail
        refine HHP2.out.mono ?_
        rintro e w5 ⟨rfl, rfl⟩
        have hHOA := HO.out.alloc (.cells #[.string (S p)] 9)
        go_wp2_with (at_builtin; go_must (refine wpList_app rfl _ _ _ rfl w4.heap.size 9 i0 _ 1 16 Try.underlying36 hi0 hz0 hz1 hz2 rfl (by omega) _ q.length (strCells q) rfl hHOA ⟨w5.heap.size, 0, none⟩ 1 1 [.string (S p)] rfl rfl (cell_one_new _ _ _) (by simp [Value.oneCell']) (by omega) (by omega) (by simp; omega) ?_); intro v6 w6 hown6 hb6)
        have HN : Hid (w6.ownsRow w4.heap.size 9 1 v6 (q ++ [p]).length (strCells (q ++ [p]))) := by
          rw [Hid, List.length_append]
          have e : strCells (q ++ [p]) = strCells q ++ [.string (S p)] := by unfold strCells; rw [List.map_append]; rfl
          rw [e]; exact hown6
        have hb7 : Below w4.heap.size w4 w6 := (hb.alloc hbs _).trans hb6
        clear hown6 hHOA
        go_roundw
        case rel => exact ⟨k + 1, by omega, by go_num, by rw [HV.out]; exact HN.out, hb7⟩
        case measure => simp [intOf]; omega
      | false =>
        have HV : Hid (nmT ps (L head) (k + 1) = nmT ps (L head) k) := by rw [Hid, HSN.out, if_neg (by rw [hp]; decide), List.append_nil]
        rw [hp] at HHP2
        clear hp HSN
        go_wp2_with fail
        refine HHP2.out.mono ?_
        rintro e w5 ⟨rfl, rfl⟩
        go_wp2_with fail
        go_roundw
        case rel => exact ⟨k + 1, by omega, by go_num, by rw [HV.out]; exact HO.out, hb⟩
        case measure => simp [intOf]; omega
    · obtain rfl : k = n := by omega
      have g1 : decide ((k : Int) < (k : Int)) = false := decide_eq_false (by omega)
      have g1' : decide (k < k) = false := decide_eq_false hlt
      have HSS := Lib.hid (sortStr_own _ u13 w4 wr HO.out hb (by omega))
      rw [HNL.out, HNS.out] at HSS
      clear HO
      go_wp2_with fail
      refine HSS.out.mono ?_
      rintro e w5 ⟨rfl, hown5, hb5⟩
      obtain ⟨A5, c5, rfl, hn5, hm5, hrd5⟩ := own_form hown5
      have HNM := Lib.hid hrd5
      clear hown5 hrd5 hn5 hm5
      have hB5 := hB2.trans (hb5.mono hB2.size)
      have HK5 := Lib.hid (HK.out w5 hb5)
      have HR5 := Lib.hid (HR.out w5 hB5)
      go_wp2_with fail
      go_loopw [104] (fun kv wr => ∃ j q : Nat, j ≤ nk ∧ kv = .int .i64 (j : Int) ∧ wr = w5.drewN q) (fun kv _ => nk - (intOf kv).toNat)
      case atStart => exact ⟨0, 0, Nat.zero_le _, rfl, rfl⟩
      case round =>
        obtain ⟨j, q, hj, rfl, rfl⟩ := hrel
        by_cases hjt : j < nk
        · have g2 : decide ((j : Int) < (nk : Int)) = true := decide_eq_true (by omega)
          have g2' : decide (j < nk) = true := decide_eq_true hjt
          obtain ⟨xa, hxl, rfl, c0⟩ := nis_at HK5.out hjt
          have hxm := HFL.out _ (List.getElem_mem hxl)
          obtain ⟨na, eN, _, c2⟩ := str_cell HNM.out hjt
          have e2 : ((frS ps (L head)).map fun i => ps.getD i []).getD j [] = ps.getD ((frS ps (L head))[j]) [] := by
            rw [List.getD_eq_getElem?_getD, List.getElem?_map, List.getElem?_eq_getElem hxl]; rfl
          rw [e2] at c2
          generalize (frS ps (L head))[j] = x at *
          obtain ⟨pa, eP, _, c1⟩ := str_cell HR5.out hxm
          subst eN eP
          have g3 : decide ((x : Int) < 0) = false := decide_eq_false (by omega)
          have g4 : decide ((k : Int) ≤ (x : Int)) = false := decide_eq_false (by omega)
          have g4' : decide (k ≤ x) = false := decide_eq_false (by omega)
          clear e2
          generalize ps.getD x [] = p at *
          have c0 : (w5.drewN q).cell? (xa.add j) = some (.int .i64 (x : Int)) := c0
          have c1 : (w5.drewN q).cell? (pa.add x) = some (.string (S p)) := c1
          have c2 : (w5.drewN q).cell? (na.add j) = some (.string (S p)) := c2
          go_wp2_with fail
          go_quiet (fail)
          go_wp2_with fail
          go_roundw
          case rel => exact ⟨j + 1, _, by omega, by go_num, rfl⟩
          case measure => simp [intOf]; omega
        · obtain rfl : j = nk := by omega
          have g2 : decide ((j : Int) < (j : Int)) = false := decide_eq_false (by omega)
          have g2' : decide (j < j) = false := decide_eq_false hjt
          have hb6 : Below w5.heap.size w5 (w5.drewN q) := below_drewN (Below.refl _ _) _
          have hB6 := bthen hB5 hb6
          generalize w5.drewN q = w6 at *
          go_wp2_with fail
          refine (long_any [s] _ 1 _ (w6.heap.size + 1) _ (Rd.new_ (size := 1) (n := 1) w6 _ _ (Nat.lt_succ_self _) rfl) (by omega)).mono ?_
          rintro e w7 ⟨rfl, hb7⟩
          rw [HL.out]
          have hB7 := bthen (hB6.alloc hB6.size _) hb7
          have hb17 : Below w1.heap.size w1 w7 := bthen (bthen (bthen (bthen hb2 hb5) hb6) ((Below.refl _ _).alloc (Nat.le_refl _) _)) hb7
          have HHO := Lib.hid (hitsOf_any s hs A k c w.heap.size ps w7 (HR.out w7 hB7) hB7.size hn10)
          go_wp2_with fail
          refine HHO.out.mono ?_
          rintro e w8 ⟨v8, rfl, hown8, hb8⟩
          rw [HNH.out] at hown8
          obtain ⟨A8, c8, rfl, hn8, hm8, hrd8⟩ := own_form hown8
          have HAL := Lib.hid (alike_hit_true A1 A8 nh c1 c8 _ _ _ w8 (by omega) (HH.out w8 (bthen hb17 hb8)) hrd8)
          clear hown8 hrd8
          go_wp2_with fail
          refine HAL.out.mono ?_
          rintro e w9 ⟨rfl, hb9⟩
          go_wp2_with fail
          go_ret
          exact ⟨rfl, bthen (bthen hB7 hb8) hb9⟩
/-- The law's call returns true. -/
theorem trieSays_any (s : ByteArray) (A : Option Addr) (n c : Nat) (ps : List (List UInt8)) (head : ByteArray) (w : World) (hr : Rd w w.heap.size 1 A n (strCells ps)) (hn : n ≤ c) (hnc : n ≤ 140737488351232) (hx : ∀ x ∈ ps, x.length ≤ maxLen) :
    Calls Try.prog 5 #[.string s, .slice A n c, .string head] w fun e w' => e = .returned (.bool true) ∧ Below w.heap.size w w' := by
  by_cases h : patErr ps = 0
  · by_cases hs : s.size ≤ 200
    · exact trieFine_any s head A n c ps w hr hn h hs
    · refine trieLong_any s head A n c ps w hr hn h ?_
      unfold longErr
      rw [if_pos (by omega)]
      decide
  · exact trieBad_any s head A n c ps w hr hn hnc hx h
end Go.Proofs.Ytmmamdjbbpeifaa
