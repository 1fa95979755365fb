/- trie.Find. -/
import Derived.Test.YtmmamdjbbpeifaaTriB
import Derived.Test.YtmmamdjbbpeifaaTriF
import Derived.Test.YtmmamdjbbpeifaaWordC
namespace Go.Proofs.Ytmmamdjbbpeifaa
open Go.RowKit
set_option maxRecDepth 100000 in
theorem findLong_any (s : ByteArray) (A : Option Addr) (n c : Nat) (w : World) (h : longErr s.size ≠ 0) :
    Calls Try.prog 22 #[.string s, .slice A n c] w fun e w' => e = .returned (.tuple #[.slice none 0 0, .int .i64 (longErr s.size)]) ∧ Below w.heap.size w w' := by
  have HC := Lib.hid (wordCheck_any s w)
  have g1 : (longErr s.size != 0) = true := by rw [bne_iff_ne]; exact h
  clear h
  generalize longErr s.size = er at *
  go_enter Try.func22, Try.ntmps22
  go_wp2_with fail
  refine HC.out.mono ?_
  rintro e w1 ⟨rfl, hb1⟩
  go_wp2_with fail
  go_ret2
  exact ⟨rfl, hb1⟩
set_option maxRecDepth 100000 in
theorem findPat_any (s : ByteArray) (A : Option Addr) (n c B : Nat) (l : List (List UInt8)) (w : World) (hr : Rd w B 1 A n (strCells l)) (hn : n ≤ c) (hB : B ≤ w.heap.size) (hnc : n ≤ 140737488351232) (hx : ∀ x ∈ l, x.length ≤ maxLen) (hs : longErr s.size = 0) (h : patErr l ≠ 0) :
    Calls Try.prog 22 #[.string s, .slice A n c] w fun e w' => e = .returned (.tuple #[.slice none 0 0, .int .i64 (patErr l)]) ∧ Below w.heap.size w w' := by
  have HC := Lib.hid (wordCheck_any s w)
  rw [hs] at HC
  have HP : Hid (∀ W, Below w.heap.size w W → Calls Try.prog 25 #[.slice A n c] W fun e w' => e = .returned (.int .i64 (patErr l)) ∧ w' = W) := fun W hW => trieCheck_any A n c B l W (hr.below (hW.mono hB)) hn hnc hx
  have g1 : (patErr l != 0) = true := by rw [bne_iff_ne]; exact h
  clear h hr hs hx
  generalize patErr l = er at *
  go_enter Try.func22, Try.ntmps22
  go_wp2_with fail
  refine HC.out.mono ?_
  rintro e w1 ⟨rfl, hb1⟩
  go_wp2_with fail
  refine (HP.out w1 hb1).mono ?_
  rintro e w2 ⟨rfl, rfl⟩
  go_wp2_with fail
  go_ret2
  exact ⟨rfl, hb1⟩
theorem shE_le {ps : List (List UInt8)} {e : Nat} {q r : List (Nat × Nat)} {u : List UInt8} (h : q ++ shE ps e u = r) : q.length ≤ r.length := by rw [← h, List.length_append]; omega
set_option maxRecDepth 100000 in
set_option maxHeartbeats 16000000 in
theorem find_any (s : ByteArray) (A0 : Option Addr) (n c0 B0 : Nat) (ps : List (List UInt8)) (w : World) (hr : Rd w B0 1 A0 n (strCells ps)) (hn : n ≤ c0) (hB0 : B0 ≤ w.heap.size) (hs : s.size ≤ 200) (h : patErr ps = 0) :
    Calls Try.prog 22 #[.string s, .slice A0 n c0] w fun e w' => ∃ v, e = .returned (.tuple #[v, .int .i64 0]) ∧ w'.ownsRow w.heap.size 49 2 v (hitsTo ps (L s) s.size).length (hcCells (hitsTo ps (L s) s.size)) ∧ Below w.heap.size w w' := by
  obtain ⟨i0, hi0, hz0, hz1, hz2⟩ := info_parts info_hit
  obtain ⟨hp1, hp2, hp3⟩ := pat_of h
  have hpl : ps.length = n := by have := hr.1; simpa [strCells] using this
  have HC := Lib.hid (wordCheck_any s w)
  rw [show longErr s.size = 0 from if_neg (by omega)] at HC
  have HP : Hid (∀ W, Below w.heap.size w W → Calls Try.prog 25 #[.slice A0 n c0] W fun e w' => e = .returned (.int .i64 0) ∧ w' = W) := fun W hW => by
    have h1 := trieCheck_any A0 n c0 B0 ps W (hr.below (hW.mono hB0)) hn (by omega) (fun x hx => Nat.le_trans (hp3 x hx).2 (by decide))
    rw [h] at h1
    exact h1
  have HBU : Hid (∀ W, Below w.heap.size w W → _) := fun W hW => buildA_any ps A0 n c0 B0 W (hr.below (hW.mono hB0)) (Nat.le_trans hB0 hW.size) (by omega) (fun p hp => (hp3 p hp).2) hp2
  have HR := Lib.hid hr
  have HPL := Lib.hid hpl
  have HP2 := Lib.hid hp2
  have HP3 := Lib.hid hp3
  have hn10 : n ≤ 10 := by omega
  have hcv := fun W => Lib.run_convert_string_bytes (P := Try.prog) W 9 68 5 s Try.underlying9 Try.underlying68 Try.underlying5
  clear hr hpl hp2 hp3 h hp1
  go_enter Try.func22, Try.ntmps22
  go_wp2_with fail
  refine HC.out.mono ?_
  rintro e w1 ⟨rfl, hb1⟩
  go_wp2_with fail
  refine (HP.out w1 hb1).mono ?_
  rintro e w2 ⟨rfl, rfl⟩
  go_wp2_with fail
  refine (HBU.out w2 hb1).mono ?_
  rintro e w3 ⟨T, wd, A, c, rfl, htb, hok, hen, hfl, hps, hT, hb3⟩
  have hb03 := bthen hb1 hb3
  have HTR := Lib.hid htb.rd
  have HOK := Lib.hid hok
  have HEN := Lib.hid hen
  have HFL := Lib.hid hfl
  have HPS := Lib.hid hps
  clear HC HP HBU htb hok hen hfl hps
  have hnxs : ∀ x ∈ T, x.nx.length ≤ 1000000 := fun x hx => by have := nx_all HOK.out x hx; omega
  have HNX := Lib.hid hnxs
  have hT0 : 0 < T.length := by
    have h1 := il_lt HOK.out.root
    rw [← HOK.out.len, List.length_map] at h1
    exact h1
  obtain ⟨ad, _, rfl, _, _⟩ := tm_at HTR.out.row hT0
  have hbw := bytesWorld_below w3 5 s
  have HBY := Lib.hid (ByAt.new_ w3 s)
  have HT4 := Lib.hid ((HTR.out.below hbw).more hbw.size)
  have hb04 := bthen hb03 hbw
  have HR4 := Lib.hid ((HR.out.below (hb04.mono hB0)).more (Nat.le_trans hB0 hb04.size))
  clear hnxs HTR HR hT0 hbw hb1 hb3 hb03
  go_wp2_with fail
  clear hcv
  generalize Lib.bytesWorld w3 5 s = w4 at *
  generalize w3.heap.size = gb at *
  have HST : Hid (wd[0]? = some (lsE wd ((L s).take 0))) := by rw [Hid, List.take_zero]; exact HOK.out.root
  go_loopw [9, 10, 30] (fun ov av iv wr => ∃ (i a : Nat), i ≤ s.size ∧ iv = .int .i64 (i : Int) ∧ av = .int .i64 (a : Int) ∧ Hid (wd[a]? = some (lsE wd ((L s).take i))) ∧ Hid (wr.ownsRow w4.heap.size 49 2 ov (foundE ps (L s) i).length (hcCells (foundE ps (L s) i))) ∧ Below w4.heap.size w4 wr) (fun _ _ iv _ => s.size - (intOf iv).toNat)
  case atStart => exact ⟨0, 0, Nat.zero_le _, rfl, rfl, HST.out, World.ownsRow_nil _ _ _ _, Below.refl _ _⟩
  case round =>
    clear HST
    obtain ⟨i, a, hi, rfl, rfl, HU, HO, hb⟩ := hrel
    have hbs := hb.size
    by_cases hlt : i < s.size
    · have g1 : decide ((i : Int) < (s.size : Int)) = true := decide_eq_true (by omega)
      have g1' : decide (i < s.size) = true := decide_eq_true hlt
      have hlL : i < (L s).length := by rw [L_len]; exact hlt
      have cb := (HBY.out.below hb).cell hlL
      have HTK : Hid ((L s).take (i + 1) = (L s).take i ++ [(L s).getD i 0]) := by
        rw [Hid, List.take_add_one, List.getElem?_eq_getElem hlL, List.getD_eq_getElem?_getD, List.getElem?_eq_getElem hlL]; rfl
      have HSN := Lib.hid (foundE_snoc (ps := ps) (L s) i)
      have hfl2 := foundE_len (ps := ps) (L s) (i + 1)
      rw [L_len] at hfl2
      have hm2 : (i + 1) * s.size ≤ 200 * 200 := Nat.mul_le_mul (by omega) hs
      generalize (L s).getD i 0 = b at *
      have HCALL := Lib.hid (step_any T wd (some ad) c a _ b w4.heap.size wr (HT4.out.below hb) hbs HOK.out HNX.out HU.out (fun k v _ _ => HFL.out k))
      have HU2 : Hid (wd[wd.idxOf (lsE wd (lsE wd ((L s).take i) ++ [b]))]? = some (lsE wd ((L s).take (i + 1)))) := by
        rw [Hid, HTK.out, lsE_snoc HOK.out.nil_mem HOK.out.pc ((L s).take i) b]
        exact idxOf_at (lsE_mem HOK.out.nil_mem _)
      have HCH := Lib.hid (shE_chain HPS.out (i + 1) ((L s).take (i + 1)))
      have hul : (lsE wd ((L s).take (i + 1))).length ≤ i + 1 := by
        have := (lsE_suf (wd := wd) ((L s).take (i + 1))).length_le
        rw [List.length_take] at this
        omega
      obtain ⟨tot, htot⟩ : ∃ tot, foundE ps (L s) (i + 1) = tot := ⟨_, rfl⟩
      rw [htot] at HSN hfl2
      obtain ⟨q0, hq0⟩ : ∃ q0, foundE ps (L s) i = q0 := ⟨_, rfl⟩
      rw [hq0] at HSN HO
      rw [HCH.out] at HSN
      have HTOT := Lib.hid htot
      have htl : tot.length ≤ 40000 := by omega
      clear htot hq0 HCH hlL HTK hfl2 hm2
      generalize wd.idxOf (lsE wd (lsE wd ((L s).take i) ++ [b])) = a2 at *
      obtain ⟨u0, hu0e⟩ : ∃ u0, lsE wd ((L s).take (i + 1)) = u0 := ⟨_, rfl⟩
      rw [hu0e] at HU2 HSN hul
      have HU0 := Lib.hid hu0e
      clear hu0e
      go_wp2_with fail
      refine HCALL.out.mono ?_
      rintro e w5 ⟨rfl, hb5⟩
      have hbw5 := bthen hb hb5
      have HO5 := Lib.hid (own_below HO.out hb5)
      clear HCALL HO hb5 cb
      go_wp2_with fail
      go_loopw [9, 13] (fun ov kv wr => ∃ (k : Nat) (u : List UInt8) (q : List (Nat × Nat)), kv = .int .i64 (k : Int) ∧ Hid (wd[k]? = some u) ∧ u.length ≤ i + 1 ∧ Hid (q ++ shE ps (i + 1) u = tot) ∧ Hid (wr.ownsRow w4.heap.size 49 2 ov q.length (hcCells q)) ∧ Below w4.heap.size w4 wr) (fun _ kv _ => (wd.getD (intOf kv).toNat []).length)
      case atStart => exact ⟨a2, u0, q0, rfl, HU2.out, hul, HSN.out.symm, HO5.out, hbw5⟩
      case round =>
        clear HU HSN HO5 hbw5 hb hbs hul
        obtain ⟨k, u, q, rfl, HK, hul, HQ, HO, hb⟩ := hrel
        have hbs := hb.size
        have hql := shE_le HQ.out
        by_cases hk0 : k = 0
        · subst hk0
          have hu0 : u = [] := Option.some.inj (HK.out.symm.trans HOK.out.root)
          subst hu0
          have HQ2 : Hid (q = tot) := by have := HQ.out; rw [shE, List.append_nil] at this; exact this
          have g2 : decide ((0 : Int) < ((0 : Nat) : Int)) = false := by decide
          have g2' : decide (0 < 0) = false := by decide
          have HO2 : Hid (wr.ownsRow w4.heap.size 49 2 u9 (foundE ps (L s) (i + 1)).length (hcCells (foundE ps (L s) (i + 1)))) := by rw [Hid, HTOT.out, ← HQ2.out]; exact HO.out
          clear HQ HO HQ2 HK
          go_wp2_with fail
          go_roundw
          case rel => exact ⟨i + 1, a2, by omega, by go_num, rfl, by rw [HU0.out]; exact HU2.out, HO2.out, hb⟩
          case measure => simp [intOf]; omega
        · have g2 : decide ((0 : Int) < (k : Int)) = true := decide_eq_true (by omega)
          have g2' : decide (0 < k) = true := decide_eq_true (by omega)
          have hu : u ≠ [] := by
            intro e
            have h1 := HK.out
            rw [e] at h1
            exact hk0 (HOK.out.zero h1)
          have hkT : k < T.length := by
            have h1 := il_lt HK.out
            rw [← HOK.out.len, List.length_map] at h1
            exact h1
          obtain ⟨_, hk2, eT, hadw, _, t1, t2⟩ := tm_at (HT4.out.below hb).row hkT
          cases eT
          have hnd := nd_at hkT
          have HSN2 := Lib.hid (shE_node HPS.out (i + 1) hu)
          generalize T[k] = x at *
          obtain ⟨xA, xc, nx, fl, en⟩ := x
          have HFK : Hid (wd[fl]? = some (lsE wd u.tail)) := HFL.out k _ u hnd HK.out hu
          have HENK := Lib.hid (HEN.out k _ u hnd HK.out)
          have hvl : (lsE wd u.tail).length < u.length := by
            have h1 := (lsE_suf (wd := wd) u.tail).length_le
            have h2 : 0 < u.length := List.length_pos_iff.2 hu
            rw [List.length_tail] at h1
            omega
          have HM1 : Hid ((wd.getD fl []).length < (wd.getD k []).length) := by
            rw [Hid, getD_some HFK.out, getD_some HK.out]; exact hvl
          have t1 : wr.cell? ⟨(ad.add (k * 3)).block, (ad.add (k * 3)).off + 1, none⟩ = some (.int .i64 (fl : Int)) := t1
          have t2 : wr.cell? ⟨(ad.add (k * 3)).block, (ad.add (k * 3)).off + 2, none⟩ = some (.int .i64 en) := t2
          clear hnd hk2 HK
          by_cases hup : u ∈ ps
          · have hix := idxOf_at hup
            have hixn : ps.idxOf u < n := by rw [← HPL.out]; exact il_lt hix
            have hen : en = ((ps.idxOf u : Nat) : Int) := HENK.out.1 _ hixn hix
            have HQ3 : Hid (q ++ [(i + 1 - u.length, ps.idxOf u)] ++ shE ps (i + 1) (lsE wd u.tail) = tot) := by
              have h1 := HQ.out
              rw [HSN2.out] at h1
              unfold entE at h1
              rw [if_pos hup, ← List.append_assoc] at h1
              exact h1
            obtain ⟨pa, eA, _, c0⟩ := str_cell (HR4.out.below hb) hixn
            rw [getD_some hix] at c0
            clear HQ HSN2 hup hix HENK hu
            generalize ps.idxOf u = idx at *
            subst hen
            have g3 : decide ((0 : Int) ≤ (idx : Int)) = true := decide_eq_true (by omega)
            subst eA
            obtain ⟨X, hX⟩ : ∃ X, S u = X := ⟨_, rfl⟩
            have hxz : X.size = u.length := by rw [← hX, S_size]
            rw [hX] at c0
            have hX200 : X.size ≤ i + 1 := by omega
            obtain ⟨pos, hpos⟩ : ∃ pos, i + 1 - u.length = pos := ⟨_, rfl⟩
            rw [hpos] at HQ3
            have HPOS : Hid ((i : Int) + 1 - (X.size : Int) = (pos : Int)) := by rw [Hid]; omega
            have hqn : q.length ≤ 40000 := by omega
            have hHOA := HO.out.alloc (.cells #[.int .i64 ((i : Int) + 1 - (X.size : Int)), .int .i64 (idx : Int)] 49)
            have hnew := cells_new2 wr (.int .i64 ((i : Int) + 1 - (X.size : Int))) (.int .i64 (idx : Int)) 49
            have HXZ := Lib.hid hxz
            clear hX hpos HO hxz
            go_wp2_with (at_builtin; go_must (refine wpList_app rfl _ _ _ rfl w4.heap.size 49 i0 _ 2 16 Try.underlying40 hi0 hz0 hz1 hz2 rfl (by omega) _ q.length (hcCells q) rfl hHOA ⟨wr.heap.size, 0, none⟩ 1 1 [.int .i64 ((i : Int) + 1 - (X.size : Int)), .int .i64 (idx : Int)] rfl rfl hnew (by simp [Value.oneCell']) (by omega) (by omega) (by simp; omega) ?_); intro v6 w6 hown6 hb6; have hb7 : Below w4.heap.size w4 w6 := (hb.alloc hbs _).trans hb6; have t1 := (hb7.cell (p := ⟨(ad.add (k * 3)).block, (ad.add (k * 3)).off + 1, none⟩) (by rw [blk_add]; exact hadw)).trans ((hb.cell (p := ⟨(ad.add (k * 3)).block, (ad.add (k * 3)).off + 1, none⟩) (by rw [blk_add]; exact hadw)).symm.trans t1))
            have HN : Hid (w6.ownsRow w4.heap.size 49 2 v6 (q ++ [(pos, idx)]).length (hcCells (q ++ [(pos, idx)]))) := by
              rw [Hid, hcCells_app, hcCells_one, List.length_append, ← HPOS.out]; exact hown6
            clear hown6 hHOA hnew
            go_roundw
            case rel => exact ⟨fl, lsE wd u.tail, q ++ [(pos, idx)], rfl, HFK.out, by omega, HQ3.out, HN.out, hb7⟩
            case measure => exact HM1.out
          · have hno : ∀ q, q < n → ps[q]? ≠ some u := fun q _ h => hup (List.mem_of_getElem? h)
            have hen : en = -1 := HENK.out.2 hno
            have HQ3 : Hid (q ++ shE ps (i + 1) (lsE wd u.tail) = tot) := by
              have h1 := HQ.out
              rw [HSN2.out] at h1
              unfold entE at h1
              rw [if_neg hup, List.nil_append] at h1
              exact h1
            subst hen
            clear HQ HSN2 hup HENK hu hno
            go_wp2_with fail
            go_roundw
            case rel => exact ⟨fl, lsE wd u.tail, q, rfl, HFK.out, by omega, HQ3.out, HO.out, hb⟩
            case measure => exact HM1.out
    · obtain rfl : i = s.size := by omega
      have g1 : decide ((s.size : Int) < (s.size : Int)) = false := decide_eq_false (by omega)
      have g1' : decide (s.size < s.size) = false := decide_eq_false hlt
      have hfl2 := foundE_len (ps := ps) (L s) s.size
      rw [L_len] at hfl2
      have hm2 : s.size * s.size ≤ 200 * 200 := Nat.mul_le_mul hs hs
      have hbd : ∀ y ∈ foundE ps (L s) s.size, y.1 < 1024 ∧ y.2 < 1024 := by
        intro y hy
        have hy2 : y ∈ foundE ps (L s) (L s).length := by rw [L_len]; exact hy
        rw [found_hits (fun p hp => (HP3.out p hp).1) HP2.out, hitsTo_mem, L_len, HPL.out] at hy2
        omega
      have HSRT := Lib.hid (sortHit_any _ _ w4 wr HO.out hb hbd (by omega))
      have hfs := found_sort (ps := ps) (s := L s) (fun p hp => (HP3.out p hp).1) HP2.out
      rw [L_len] at hfs
      rw [hfs] at HSRT
      have hlen : (foundE ps (L s) s.size).length = (hitsTo ps (L s) s.size).length := by rw [← hfs, List.length_mergeSort]
      rw [hlen] at HSRT
      clear hfs hlen hbd hfl2 hm2 HO
      go_wp2_with fail
      refine HSRT.out.mono ?_
      rintro e w6 ⟨rfl, hown6, hb6⟩
      have HO6 := Lib.hid hown6
      clear hown6
      go_wp2_with fail
      go_ret2
      exact ⟨_, rfl, own_lower HO6.out hb04.size, bthen hb04 hb6⟩
end Go.Proofs.Ytmmamdjbbpeifaa
