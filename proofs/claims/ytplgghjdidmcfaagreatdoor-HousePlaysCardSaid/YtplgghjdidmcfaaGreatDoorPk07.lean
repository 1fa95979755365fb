/- script.number. The document's numeral. script.Write. -/
import Derived.Test.YtplgghjdidmcfaaGreatDoorPk03
import Derived.Test.YtplgghjdidmcfaaGreatDoorPk06
import Derived.Lib.QuietBelow
import Derived.Test.YtplgghjdidmcfaaGreatDoorPk04
import Derived.Lib.SmallJoins
import Derived.Lib.ItoaLen
namespace Go.Proofs.YtplgghjdidmcfaaGreatDoor
open Go.RowKit
theorem L_getD {s : ByteArray} {k : Nat} (hk : k < s.size) : (L s).getD k 0 = s[k] := by
  rw [List.getD_eq_getElem?_getD, List.getElem?_eq_getElem (by rw [L_len]; exact hk)]; rfl
theorem take_snoc {l : List UInt8} {k : Nat} (hk : k < l.length) : l.take (k + 1) = l.take k ++ [l.getD k 0] := by
  rw [List.take_add_one, List.getElem?_eq_getElem hk, List.getD_eq_getElem?_getD, List.getElem?_eq_getElem hk]; rfl
theorem pre_snoc {l : List UInt8} {k : Nat} {c : UInt8} (hk : k < l.length) (h : ∀ b ∈ l.take k, b ≠ c) (h1 : l.getD k 0 ≠ c) : ∀ b ∈ l.take (k + 1), b ≠ c := fun b hb => by
  rw [take_snoc hk, List.mem_append] at hb
  rcases hb with hb | hb
  · exact h b hb
  · rw [List.mem_singleton.1 hb]; exact h1
theorem dec_snoc {l : List UInt8} {k n : Nat} (hk : k < l.length) (h : Lib.decFrom 0 (l.take k) = some n) : Lib.decFrom 0 (l.take (k + 1)) = if 48 ≤ (l.getD k 0).toNat ∧ (l.getD k 0).toNat ≤ 57 then some (n * 10 + ((l.getD k 0).toNat - 48)) else none := by
  rw [take_snoc hk, dec_app, h]
  simp only [Lib.decFrom, Lib.digitVal]
  split <;> rename_i h1 <;> split at h1 <;> simp_all
set_option maxRecDepth 100000 in
set_option maxHeartbeats 4000000 in
theorem number_any (s : ByteArray) (c : UInt8) (most : Nat) (hm9 : most ≤ 999) (hs : s.size ≤ 140737488355328) (w : World) :
    Calls Tryz.prog 172 #[.string s, .int .u8 (c.toNat : Int), .int .i64 (most : Int)] w fun e w' => ∃ (n : Int) (rest : ByteArray) (ok : Bool), e = .returned (.tuple #[.int .i64 n, .string rest, .bool ok]) ∧
      (ok = true → ∃ v : Nat, n = (v : Int) ∧ v ≤ most ∧ rest.size < s.size ∧ progNum (L s) c most = some (v, L rest)) ∧ (ok = false → progNum (L s) c most = none) ∧ Below w.heap.size w w' := by
  go_enter Tryz.func172, Tryz.ntmps172
  go_wp2_with fail
  go_loopw [9, 14] (fun nv iv wr => ∃ n k : Nat, k ≤ s.size ∧ nv = .int .i64 (n : Int) ∧ n ≤ most ∧ iv = .int .i64 (k : Int) ∧ Hid (Lib.decFrom 0 ((L s).take k) = some n ∧ ∀ b ∈ (L s).take k, b ≠ c) ∧ wr = w) (fun _ iv _ => s.size - (intOf iv).toNat)
  case atStart => exact ⟨0, 0, Nat.zero_le _, rfl, Nat.zero_le _, rfl, Lib.hid ⟨rfl, by simp⟩, rfl⟩
  case round =>
    obtain ⟨n, k, hk, rfl, hnm, rfl, HI, rfl⟩ := hrel
    by_cases hlt : k < s.size
    · have g1 : decide ((k : Int) < (s.size : Int)) = true := decide_eq_true (by omega)
      have g1' : decide (k < s.size) = true := decide_eq_true hlt
      have hkl : k < (L s).length := by rw [L_len]; exact hlt
      have HG := Lib.hid (L_getD hlt)
      by_cases hbc : s[k] = c
      · have g2 : ((s[k].toNat : Int) == (c.toNat : Int)) = true := by rw [hbc]; exact beq_self_eq_true _
        have g2' : (s[k].toNat == c.toNat) = true := by rw [hbc]; exact beq_self_eq_true _
        have HE := num_end hkl HI.out.2 HI.out.1 hnm hm9 (by rw [HG.out]; exact hbc)
        have hex : (s.extract (k + 1) s.size).size = s.size - (k + 1) := by rw [ByteArray.size_extract]; omega
        have HX : Hid (L (s.extract (k + 1) s.size) = (L s).drop (k + 1)) := by
          unfold Hid
          rw [L_extract, List.take_of_length_le (by rw [List.length_drop, L_len]; exact Nat.le_refl _)]
        rw [← HX.out] at HE
        have hs0 : 0 < s.size := by omega
        rw [L_getD hs0] at HE
        have HEH := Lib.hid HE
        clear hbc HG HX HE
        go_wp2_with fail
        clear g2 g2' g1 g1'
        rcases Nat.eq_zero_or_pos k with h0 | h0
        · subst h0
          have g3 : decide ((0 : Int) < ((0 : Nat) : Int)) = false := by decide
          have g3' : decide ((0 : Int) < 0) = false := by decide
          have HE2 : Hid (progNum (L s) c most = none) := HEH.out
          clear HEH
          go_quiet (fail)
          go_wp2_with fail
          (apply bodyPost_ret; (simp [results, Tryz.results172, go_sem]; rfl); rfl)
          exact ⟨_, _, false, rfl, (fun h => by cases h), (fun _ => HE2.out), (by repeat (first | exact Below.refl _ _ | assumption | refine Below.alloc ?_ (by first | exact Nat.le_refl _ | assumption | omega | (simp <;> omega)) _ | refine Below.setCell ?_ (by first | exact Nat.le_refl _ | assumption | omega | (simp <;> omega)) _ | refine Below.drew ?_ | refine below_drewN ?_ _))⟩
        · have g3 : decide ((0 : Int) < (k : Int)) = true := decide_eq_true (by omega)
          have g3' : decide (0 < k) = true := decide_eq_true h0
          by_cases h48 : s[0] = 48
          · have g4 : ((s[0].toNat : Int) == 48) = true := by rw [h48]; rfl
            have g4' : ((s[0].toNat : Int) != 48) = false := by rw [bne, g4]; rfl
            by_cases h1 : k = 1
            · subst h1
              have HE2 : Hid (progNum (L s) c most = some (n, L (s.extract (1 + 1) s.size))) := by
                have := HEH.out
                rw [h48] at this; exact this
              clear HEH h48
              go_quiet (fail)
              go_wp2_with fail
              (apply bodyPost_ret; (simp [results, Tryz.results172, go_sem]; rfl); rfl)
              exact ⟨(n : Int), s.extract 2 s.size, true, rfl, (fun _ => ⟨n, rfl, hnm, (by rw [ByteArray.size_extract]; omega), HE2.out⟩), (fun h => by cases h), (by repeat (first | exact Below.refl _ _ | assumption | refine Below.alloc ?_ (by first | exact Nat.le_refl _ | assumption | omega | (simp <;> omega)) _ | refine Below.setCell ?_ (by first | exact Nat.le_refl _ | assumption | omega | (simp <;> omega)) _ | refine Below.drew ?_ | refine below_drewN ?_ _))⟩
            · have g5 : ((k : Int) == 1) = false := by rw [beq_eq_false_iff_ne]; omega
              have g5' : (k == 1) = false := by rw [beq_eq_false_iff_ne]; exact h1
              have HE2 : Hid (progNum (L s) c most = none) := by
                have := HEH.out
                rw [if_neg (by rw [h48]; simp; exact fun _ => h1)] at this
                exact this
              clear HEH h48 h1
              go_quiet (fail)
              go_wp2_with fail
              (apply bodyPost_ret; (simp [results, Tryz.results172, go_sem]; rfl); rfl)
              exact ⟨_, _, false, rfl, (fun h => by cases h), (fun _ => HE2.out), (by repeat (first | exact Below.refl _ _ | assumption | refine Below.alloc ?_ (by first | exact Nat.le_refl _ | assumption | omega | (simp <;> omega)) _ | refine Below.setCell ?_ (by first | exact Nat.le_refl _ | assumption | omega | (simp <;> omega)) _ | refine Below.drew ?_ | refine below_drewN ?_ _))⟩
          · have hz : s[0].toNat ≠ 48 := fun e => h48 (UInt8.toNat_inj.1 (e.trans (rfl : 48 = (48 : UInt8).toNat)))
            have g4 : ((s[0].toNat : Int) == 48) = false := by rw [beq_eq_false_iff_ne]; omega
            have g4' : ((s[0].toNat : Int) != 48) = true := by rw [bne, g4]; rfl
            have HE2 : Hid (progNum (L s) c most = some (n, L (s.extract (k + 1) s.size))) := by
              have := HEH.out
              rw [if_pos (by simp [h48]; omega)] at this
              exact this
            clear HEH h48 hz
            go_quiet (fail)
            go_wp2_with fail
            (apply bodyPost_ret; (simp [results, Tryz.results172, go_sem]; rfl); rfl)
            exact ⟨_, _, true, rfl, (fun _ => ⟨n, rfl, hnm, (by omega), HE2.out⟩), (fun h => by cases h), (by repeat (first | exact Below.refl _ _ | assumption | refine Below.alloc ?_ (by first | exact Nat.le_refl _ | assumption | omega | (simp <;> omega)) _ | refine Below.setCell ?_ (by first | exact Nat.le_refl _ | assumption | omega | (simp <;> omega)) _ | refine Below.drew ?_ | refine below_drewN ?_ _))⟩
      · have hne : s[k].toNat ≠ c.toNat := fun e => hbc (UInt8.toNat_inj.1 e)
        have g2 : ((s[k].toNat : Int) == (c.toNat : Int)) = false := by rw [beq_eq_false_iff_ne]; omega
        have hps := pre_snoc hkl HI.out.2 (by rw [HG.out]; exact hbc)
        have hds := dec_snoc hkl HI.out.1
        have HPS := Lib.hid hps
        obtain ⟨bn, hbn0⟩ : ∃ bn, bn = ((L s).getD k 0).toNat := ⟨_, rfl⟩
        rw [← hbn0] at hds
        have hbn : bn = s[k].toNat := hbn0.trans (congrArg UInt8.toNat (L_getD hlt))
        have HDS : Hid ((48 ≤ bn ∧ bn ≤ 57 → Lib.decFrom 0 ((L s).take (k + 1)) = some (n * 10 + (bn - 48))) ∧ (¬ (48 ≤ bn ∧ bn ≤ 57) → Lib.decFrom 0 ((L s).take (k + 1)) = none)) :=
          ⟨fun h => by rw [if_pos h] at hds; exact hds, fun h => by rw [if_neg h] at hds; exact hds⟩
        have HBN := Lib.hid hbn
        clear hps hds hbc HI HG hne hbn hbn0
        go_wp2_with fail
        all_goals first
          | (go_roundw
             case rel =>
               have hbn := HBN.out
               have hd := HDS.out.1 (by omega)
               exact ⟨n * 10 + (bn - 48), k + 1, by omega, congrArg (Value.int .i64) (by omega), by omega, by go_num, Lib.hid ⟨hd, HPS.out⟩, by first | rfl | trivial⟩
             case measure => simp [intOf]; omega)
          | ((apply bodyPost_ret; (simp [results, Tryz.results172, go_sem]; rfl); rfl)
             first
               | refine ⟨_, _, .inl ⟨rfl, ?_, Below.refl _ _⟩⟩
               | refine ⟨_, _, false, rfl, (fun h => by cases h), (fun _ => ?_), Below.refl _ _⟩
             have hbn := HBN.out
             by_cases hdg : 48 ≤ bn ∧ bn ≤ 57
             · exact num_much HPS.out (HDS.out.1 hdg) (by omega)
             · exact num_stop HPS.out (HDS.out.2 hdg))
    · obtain rfl : k = s.size := by omega
      have g1 : decide ((s.size : Int) < (s.size : Int)) = false := decide_eq_false (by omega)
      have g1' : decide (s.size < s.size) = false := decide_eq_false hlt
      have HE2 : Hid (progNum (L s) c most = none) := by
        have h := HI.out.2
        rw [List.take_of_length_le (by rw [L_len]; exact Nat.le_refl _)] at h
        exact num_none h
      go_wp2_with fail
      (apply bodyPost_ret; (simp [results, Tryz.results172, go_sem]; rfl); rfl)
      exact ⟨_, _, false, rfl, (fun h => by cases h), (fun _ => HE2.out), Below.refl _ _⟩
end Go.Proofs.YtplgghjdidmcfaaGreatDoor
namespace Go.Proofs.YtplgghjdidmcfaaGreatDoor
open Go.RowKit
theorem trimB {a T : ByteArray} (h : S (Lib.trimS (L a) digs) = T) : ((L a).all isDg = true → T.size = 0) ∧ ((L a).all isDg = false → T.size ≠ 0) := by
  constructor
  · intro h1
    rw [← h, (trim_digs _).2 h1]; rfl
  · intro h1 h2
    have h3 : Lib.trimS (L a) digs = [] := by
      rw [← h, S_size] at h2
      exact List.eq_nil_of_length_eq_zero h2
    rw [(trim_digs _).1 h3] at h1; cases h1
def NumAns (a : ByteArray) (e : Ending) : Prop := e = .returned (.tuple #[.int .i64 (((valNum (L a)).getD 0 : Nat) : Int), .bool (valNum (L a)).isSome])
theorem numAns_none {a : ByteArray} (h : valNum (L a) = none) : NumAns a (.returned (.tuple #[.int .i64 0, .bool false])) := by
  unfold NumAns; rw [h]; rfl
theorem numAns_some {a : ByteArray} {v : Nat} (h : valNum (L a) = some v) : NumAns a (.returned (.tuple #[.int .i64 (v : Int), .bool true])) := by
  unfold NumAns; rw [h]; rfl
set_option maxRecDepth 100000 in
set_option maxHeartbeats 8000000 in
theorem numeral_any (a : ByteArray) (ha : a.size ≤ 9223372036854775807) (w : World) :
    Calls Tryz.prog 205 #[.string a] w fun e w' => NumAns a e ∧ Below w.heap.size w w' := by
  have hLl : (L a).length = a.size := L_len a
  by_cases h0 : a.size = 0
  · obtain ⟨g2, g3⟩ := (emp_facts a).1 h0
    have HV := Lib.hid (numAns_none (a := a) (valNum_bad (.inl (by rw [List.eq_nil_of_length_eq_zero (hLl.trans h0)]; exact okNum_1))))
    clear hLl h0
    go_enter Tryz.func205, Tryz.ntmps205
    go_wp2_with fail
    go_ret2
    exact ⟨HV.out, (by repeat (first | exact Below.refl _ _ | assumption | refine Below.alloc ?_ (by first | exact Nat.le_refl _ | assumption | omega | (simp <;> omega)) _ | refine Below.setCell ?_ (by first | exact Nat.le_refl _ | assumption | omega | (simp <;> omega)) _ | refine Below.drew ?_ | refine below_drewN ?_ _))⟩
  obtain ⟨g2, g3⟩ := (emp_facts a).2 h0
  by_cases h3 : 3 < a.size
  · have g4 : decide ((3 : Int) < (a.size : Int)) = true := decide_eq_true (by omega)
    have g4' : decide (3 < a.size) = true := decide_eq_true h3
    have HV := Lib.hid (numAns_none (a := a) (valNum_bad (.inl (okNum_2 (by rw [hLl]; exact h3)))))
    clear hLl h0 h3
    go_enter Tryz.func205, Tryz.ntmps205
    go_wp2_with fail
    go_ret2
    exact ⟨HV.out, (by repeat (first | exact Below.refl _ _ | assumption | refine Below.alloc ?_ (by first | exact Nat.le_refl _ | assumption | omega | (simp <;> omega)) _ | refine Below.setCell ?_ (by first | exact Nat.le_refl _ | assumption | omega | (simp <;> omega)) _ | refine Below.drew ?_ | refine below_drewN ?_ _))⟩
  have g4 : decide ((3 : Int) < (a.size : Int)) = false := decide_eq_false (by omega)
  have g4' : decide (3 < a.size) = false := decide_eq_false h3
  have HTR := Lib.hid (trim_digits a (by omega))
  obtain ⟨T, hT⟩ : ∃ T, S (Lib.trimS (L a) digs) = T := ⟨_, rfl⟩
  have htz := trimB hT
  rw [hT] at HTR
  clear hT
  have hs0 : 0 < a.size := by omega
  have hgd := L_getD hs0
  cases hdg : (L a).all isDg with
  | false =>
    obtain ⟨g5, g6⟩ := (emp_facts T).2 (htz.2 hdg)
    have HV := Lib.hid (numAns_none (a := a) (valNum_bad (.inr hdg)))
    clear hLl h0 h3 htz hdg hgd
    go_enter Tryz.func205, Tryz.ntmps205
    go_wp2_with fail
    refine (HTR.out _).mono ?_
    rintro e w2 ⟨rfl, hb2⟩
    go_wp2_with fail
    go_ret2
    exact ⟨HV.out, hb2⟩
  | true =>
    obtain ⟨g5, g6⟩ := (emp_facts T).1 (htz.1 hdg)
    have HDG := Lib.hid hdg
    clear htz hdg
    by_cases h48 : a[0] = 48 ∧ 1 < a.size
    · have g7 : ((a[0].toNat : Int) == 48) = true := by rw [h48.1]; rfl
      have g7' : (a[0].toNat == 48) = true := by rw [h48.1]; rfl
      have g8 : decide ((1 : Int) < (a.size : Int)) = true := decide_eq_true (by omega)
      have g8' : decide (1 < a.size) = true := decide_eq_true (by omega)
      have HV := Lib.hid (numAns_none (a := a) (valNum_bad (.inl (okNum_3 (by rw [hgd, h48.1]) (by rw [hLl]; exact h48.2)))))
      clear hLl h0 h3 hgd h48
      go_enter Tryz.func205, Tryz.ntmps205
      go_wp2_with fail
      refine (HTR.out _).mono ?_
      rintro e w2 ⟨rfl, hb2⟩
      go_wp2_with fail
      go_ret2
      exact ⟨HV.out, hb2⟩
    · obtain ⟨v, hv⟩ := (dec_all (L a) 0).1 HDG.out
      have hok : okNum (L a) = true := okNum_4 (by omega) (by omega) (fun h => h48 ⟨by rw [← hgd]; exact h.1, by omega⟩)
      have hval : valNum (L a) = some v := by unfold valNum; rw [hok]; exact hv
      have HV := Lib.hid (numAns_some hval)
      have HAT : Hid (∀ W, Calls Tryz.prog 161 #[.string a] W fun e w' => e = .returned (.tuple #[.int .i64 (v : Int), .nilIface]) ∧ Below W.heap.size W w') := fun W => (Tryz.strconv_Atoi a v (by omega) (by have := atoi_dig HDG.out (by omega) hv; exact this) W).mono (by
        rintro e w' ⟨rfl, t, rfl⟩
        exact ⟨rfl, bytesWorld_below _ _ _⟩)
      have g9 : ((a[0].toNat : Int) == 48) = true → decide ((1 : Int) < (a.size : Int)) = false ∧ decide (1 < a.size) = false := fun h => by
        have : ¬ 1 < a.size := fun h1 => h48 ⟨UInt8.toNat_inj.1 (by have := eq_of_beq h; exact Int.ofNat.inj this), h1⟩
        exact ⟨decide_eq_false (by omega), decide_eq_false this⟩
      clear hLl h0 h3 hgd h48 hv hval hok
      cases g7 : ((a[0].toNat : Int) == 48) with
      | true =>
        obtain ⟨g8, g8'⟩ := g9 g7
        clear g9
        go_enter Tryz.func205, Tryz.ntmps205
        go_wp2_with fail
        refine (HTR.out _).mono ?_
        rintro e w2 ⟨rfl, hb2⟩
        go_wp2_with fail
        refine (HAT.out _).mono ?_
        rintro e w3 ⟨rfl, hb3⟩
        go_wp2_with fail
        go_ret2
        exact ⟨HV.out, bthen hb2 hb3⟩
      | false =>
        clear g9
        go_enter Tryz.func205, Tryz.ntmps205
        go_wp2_with fail
        refine (HTR.out _).mono ?_
        rintro e w2 ⟨rfl, hb2⟩
        go_wp2_with fail
        refine (HAT.out _).mono ?_
        rintro e w3 ⟨rfl, hb3⟩
        go_wp2_with fail
        go_ret2
        exact ⟨HV.out, bthen hb2 hb3⟩
end Go.Proofs.YtplgghjdidmcfaaGreatDoor
namespace Go.Proofs.YtplgghjdidmcfaaGreatDoor
open Go.RowKit
def wrE (x : Ed) : List UInt8 := Lib.itoa x.at_ ++ ([32] ++ (Lib.itoa x.del ++ ([32] ++ (Lib.itoa (x.ins.length : Int) ++ ([58] ++ (x.ins ++ [59]))))))
def wrL (l : List Ed) : List UInt8 := l.flatMap wrE
theorem wrL_snoc {l : List Ed} {k : Nat} (hk : k < l.length) : wrL (l.take (k + 1)) = wrL (l.take k) ++ wrE l[k] := by
  unfold wrL
  rw [List.take_add_one, List.getElem?_eq_getElem hk, List.flatMap_append]; simp
def TabI (w : World) : Prop := Lib.TabIs Tryz.prog w "internal/strconv.uint64pow10" .u64 Lib.pow10Tab
theorem itoa_any (n : Int) (h0 : -9223372036854775808 ≤ n) (h1 : n ≤ 9223372036854775807) {w W : World} (ht : TabI w) (hb : Below w.heap.size w W) :
    Calls Tryz.prog 93 #[.int .i64 n] W fun e w' => e = .returned (.string (S (Lib.itoa n))) ∧ Below W.heap.size W w' := by
  refine (Tryz.strconv_Itoa n h0 h1 W (Go.Joins.tab_stays (g := Tryz.prog.globalNamed "internal/strconv.uint64pow10" |>.getD 0) (by kernel_rfl) ht hb (Nat.le_refl _))).mono ?_
  rintro e w' ⟨rfl, k, os, rfl⟩
  exact ⟨rfl, below_regrown W _ os⟩
theorem scrOne_zero {x : Ed} (h : scrOneE x = 0) : 0 ≤ x.at_ ∧ x.at_ ≤ 200 ∧ 0 ≤ x.del ∧ x.del ≤ 200 ∧ x.ins.length ≤ 40 := by
  unfold scrOneE at h
  split at h
  · cases h
  · split at h
    · cases h
    · omega
theorem wr_cat (a n1 n2 n3 xi : List UInt8) : S a ++ (S n1 ++ ⟨#[32]⟩ ++ S n2 ++ ⟨#[32]⟩ ++ S n3 ++ ⟨#[58]⟩ ++ S xi ++ ⟨#[59]⟩) = S (a ++ (n1 ++ ([32] ++ (n2 ++ ([32] ++ (n3 ++ ([58] ++ (xi ++ [59])))))))) := by
  have e1 : (⟨#[32]⟩ : ByteArray) = S [32] := rfl
  have e2 : (⟨#[58]⟩ : ByteArray) = S [58] := rfl
  have e3 : (⟨#[59]⟩ : ByteArray) = S [59] := rfl
  rw [e1, e2, e3]
  simp only [append_S, L_S, List.append_assoc]
set_option maxRecDepth 100000 in
set_option maxHeartbeats 16000000 in
theorem write_any (l : List Ed) (A : Option Addr) (m c B : Nat) (w : World) (hr : Rd w B 3 A m (edCells l)) (hB : B ≤ w.heap.size) (hm : m ≤ 9223372036854775807) (ht : TabI w) :
    Calls Tryz.prog 117 #[.slice A m c] w fun e w' => e = .returned (.tuple #[.string (if scrErr l = 0 then S (wrL l) else ⟨#[]⟩), .int .i64 (scrErr l)]) ∧ Below w.heap.size w w' := by
  have HCK := Lib.hid (fun W (hb : Below w.heap.size w W) => scrCheck_any l A m c B W (hr.below (hb.mono hB)) (Nat.le_trans hB hb.size) hm)
  have hlen := Rd.rec_len ed_len (by omega) hr
  have HR := Lib.hid hr; clear hr
  have HL := Lib.hid hlen; clear hlen
  by_cases hz : scrErr l = 0
  · have hall := (scrErr_zero.1 hz).2
    have HALL : Hid (∀ k (h : k < l.length), scrOneE l[k] = 0) := fun k h => hall _ (List.getElem_mem h)
    rw [if_pos hz, hz]
    rw [hz] at HCK
    have hm20 : m ≤ 20 := by have := (scrErr_zero.1 hz).1; have := HL.out; omega
    clear hall hz
    go_enter Tryz.func117, Tryz.ntmps117
    go_wp2_with fail
    refine (HCK.out _ (by repeat (first | exact Below.refl _ _ | assumption | refine Below.alloc ?_ (by first | exact Nat.le_refl _ | assumption | omega | (simp <;> omega)) _ | refine Below.setCell ?_ (by first | exact Nat.le_refl _ | assumption | omega | (simp <;> omega)) _ | refine Below.drew ?_ | refine below_drewN ?_ _))).mono ?_
    rintro e w1 ⟨rfl, hb1⟩
    go_wp2_with fail
    go_loopw [5, 15] (fun ov iv wr => ∃ (k : Nat) (O : ByteArray), k ≤ m ∧ iv = .int .i64 k ∧ ov = .string O ∧ O.size ≤ 120 * k ∧ Hid (O = S (wrL (l.take k))) ∧ Below w.heap.size w wr)
      (fun _ i _ => m - (intOf i).toNat)
    case atStart => exact ⟨0, ⟨#[]⟩, Nat.zero_le _, rfl, rfl, Nat.le_refl _, Lib.hid rfl, hb1⟩
    case round =>
      obtain ⟨k, O, hk, rfl, rfl, hOs, HO, hb⟩ := hrel
      have hbs := hb.size
      by_cases hlt : k < m
      · obtain ⟨ad, hl, rfl, hab, c0, c1, c2⟩ := (HR.out.below (hb.mono hB)).at_ed hlt
        obtain ⟨hx0, hx1, hx2, hx3, hx4⟩ := scrOne_zero (HALL.out k hl)
        have HSN := Lib.hid (wrL_snoc hl)
        have hzz : (S l[k].ins).size = l[k].ins.length := S_size _
        have HZ := Lib.hid hzz; clear hzz
        generalize l[k] = x at *
        obtain ⟨xa, xd, xi⟩ := x
        simp only at c0 c1 c2 HZ hx0 hx1 hx2 hx3 hx4
        have HI0 := Lib.hid (fun W (hW : Below w.heap.size w W) => itoa_any xa (by omega) (by omega) ht hW)
        have HI1 := Lib.hid (fun W (hW : Below w.heap.size w W) => itoa_any xd (by omega) (by omega) ht hW)
        have HI2 := Lib.hid (fun W (hW : Below w.heap.size w W) => itoa_any ((S xi).size : Int) (by rw [HZ.out]; omega) (by rw [HZ.out]; omega) ht hW)
        have HEX : Hid (O ++ (S (Lib.itoa xa) ++ ⟨#[32]⟩ ++ S (Lib.itoa xd) ++ ⟨#[32]⟩ ++ S (Lib.itoa ((S xi).size : Int)) ++ ⟨#[58]⟩ ++ S xi ++ ⟨#[59]⟩) = S (wrL (l.take (k + 1)))) := by
          unfold Hid
          rw [HO.out, wr_cat, HSN.out, HZ.out]; rfl
        have z0 : (S (Lib.itoa xa)).size ≤ 21 := by rw [S_size]; exact Lib.itoa_length_le _ (by omega) (by omega)
        have z1 : (S (Lib.itoa xd)).size ≤ 21 := by rw [S_size]; exact Lib.itoa_length_le _ (by omega) (by omega)
        have z2 : (S (Lib.itoa ((S xi).size : Int))).size ≤ 21 := by rw [S_size]; exact Lib.itoa_length_le _ (by rw [HZ.out]; omega) (by rw [HZ.out]; omega)
        have z3 : (S xi).size ≤ 40 := by rw [HZ.out]; omega
        clear HO HSN HZ hx0 hx1 hx2 hx3 hx4
        generalize S (Lib.itoa ((S xi).size : Int)) = Y2 at *
        generalize S (Lib.itoa xa) = Y0 at *
        generalize S (Lib.itoa xd) = Y1 at *
        generalize S xi = X at *
        have g1 : decide ((k : Int) < (m : Int)) = true := decide_eq_true (by omega)
        have g1' : decide (k < m) = true := decide_eq_true hlt
        go_wp2_with fail
        have hbA : Below wr.heap.size wr (wr.alloc (.cells #[.int .i64 xa, .int .i64 xd, .string X] 95)) := (Below.refl _ _).alloc (Nat.le_refl _) _
        have c0' : (wr.alloc (.cells #[.int .i64 xa, .int .i64 xd, .string X] 95)).cell? ⟨wr.heap.size, 0, none⟩ = some (.int .i64 xa) := by simp
        have c1' : (wr.alloc (.cells #[.int .i64 xa, .int .i64 xd, .string X] 95)).cell? ⟨wr.heap.size, 1, none⟩ = some (.int .i64 xd) := by simp
        have c3' : (wr.alloc (.cells #[.int .i64 xa, .int .i64 xd, .string X] 95)).cell? ⟨wr.heap.size, 2, none⟩ = some (.string X) := by simp
        have hB12 := bthen hb hbA
        have hsB := hB12.size
        generalize (wr.alloc (.cells #[.int .i64 xa, .int .i64 xd, .string X] 95)) = wa at *
        have c0r := cell_regrown c0'; have c1r := cell_regrown c1'; have c3r := cell_regrown c3'
        refine wp_region_quiet_below (by kernel_rfl) (by kernel_rfl) ?_
        repeat (go_big_quiet_step ((first
          | (go_at_call_of 93 (Value.int .i64 xa); exact Calls.regrown_of (HI0.out _ (hB12.trans ((below_regrown _ _ _).mono hsB))))
          | (go_at_call_of 93 (Value.int .i64 xd); exact Calls.regrown_of (HI1.out _ (hB12.trans ((below_regrown _ _ _).mono hsB))))
          | (go_at_call_of 93 (Value.int .i64 (X.size : Int)); exact Calls.regrown_of (HI2.out _ (hB12.trans ((below_regrown _ _ _).mono hsB)))))))
        refine wpQuiet_nil ?_
        intro w5 hb50
        have hb5 := below_of_regrown hb50
        clear hb50
        go_wp2_with fail
        go_roundw
        case rel => exact ⟨k + 1, _, by omega, by go_num, rfl, by simp only [ByteArray.size_append]; have e1 : (⟨#[32]⟩ : ByteArray).size = 1 := rfl; have e2 : (⟨#[58]⟩ : ByteArray).size = 1 := rfl; have e3 : (⟨#[59]⟩ : ByteArray).size = 1 := rfl; omega, HEX, bthen hB12 hb5⟩
        case measure => simp [intOf]; omega
      · have hkm : k = m := by omega
        subst hkm
        have g1 : decide ((k : Int) < (k : Int)) = false := decide_eq_false (by omega)
        have g1' : decide (k < k) = false := decide_eq_false hlt
        have HF : Hid (O = S (wrL l)) := by
          have := HO.out
          rw [List.take_of_length_le (by rw [HL.out]; exact Nat.le_refl _)] at this
          exact this
        clear HO
        go_wp2_with fail
        go_ret2
        rw [HF.out]
        exact ⟨rfl, hb⟩
  · rw [if_neg hz]
    have g1 : (scrErr l != (0 : Int)) = true := by rw [bne_iff_ne]; exact hz
    clear hz
    generalize scrErr l = z at *
    go_enter Tryz.func117, Tryz.ntmps117
    go_wp2_with fail
    refine (HCK.out _ (by repeat (first | exact Below.refl _ _ | assumption | refine Below.alloc ?_ (by first | exact Nat.le_refl _ | assumption | omega | (simp <;> omega)) _ | refine Below.setCell ?_ (by first | exact Nat.le_refl _ | assumption | omega | (simp <;> omega)) _ | refine Below.drew ?_ | refine below_drewN ?_ _))).mono ?_
    rintro e w1 ⟨rfl, hb1⟩
    go_wp2_with fail
    go_ret2
    exact ⟨rfl, hb1⟩
end Go.Proofs.YtplgghjdidmcfaaGreatDoor
