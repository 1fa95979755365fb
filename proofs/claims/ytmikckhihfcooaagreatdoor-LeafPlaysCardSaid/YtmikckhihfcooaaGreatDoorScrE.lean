/- The document's ReadOf. -/
import Derived.Test.YtmikckhihfcooaaGreatDoorScrD
import Derived.Test.YtmikckhihfcooaaGreatDoorScrA
namespace Go.Proofs.YtmikckhihfcooaaGreatDoor
open Go.RowKit
theorem cut_parts {s a r : List UInt8} {c : UInt8} {o : Bool} (h : Lib.cut s [c] = (a, r, o)) : (o = true ∧ cutB s c = some (a, r) ∧ r.length < s.length ∧ a.length ≤ s.length) ∨ (o = false ∧ cutB s c = none ∧ r = [] ∧ a = s) := by
  rw [cut_lib] at h
  cases hc : cutB s c with
  | none =>
    rw [hc] at h
    simp only [Prod.mk.injEq] at h
    exact .inr ⟨h.2.2.symm, rfl, h.2.1.symm, h.1.symm⟩
  | some p =>
    obtain ⟨x, y⟩ := p
    rw [hc] at h
    simp only [Prod.mk.injEq] at h
    obtain ⟨rfl, rfl, rfl⟩ := h
    refine .inl ⟨rfl, rfl, cutB_len hc, ?_⟩
    rw [(cutB_spec hc).1, List.length_append]; omega
theorem cutNum_t {s a r : List UInt8} {c : UInt8} {v : Nat} (h : Lib.cut s [c] = (a, r, true)) (hv : valNum a = some v) : cutNum s c = some (v, r) := by
  rcases cut_parts h with ⟨_, h1, _⟩ | ⟨h1, _⟩
  · unfold cutNum; rw [h1]; simp only; rw [hv]; rfl
  · cases h1
theorem cutNum_f1 {s a r : List UInt8} {c : UInt8} (h : Lib.cut s [c] = (a, r, false)) : cutNum s c = none := by
  rcases cut_parts h with ⟨h1, _⟩ | ⟨_, h1, _⟩
  · cases h1
  · unfold cutNum; rw [h1]
theorem cutNum_f2 {s a r : List UInt8} {c : UInt8} {o : Bool} (h : Lib.cut s [c] = (a, r, o)) (hv : valNum a = none) : cutNum s c = none := by
  rcases cut_parts h with ⟨_, h1, _⟩ | ⟨_, h1, _⟩
  · unfold cutNum; rw [h1]; simp only; rw [hv]; rfl
  · unfold cutNum; rw [h1]
theorem entryR_f {s a r1 d r2 c r3 : List UInt8} {o1 o2 o3 : Bool} (h1 : Lib.cut s [32] = (a, r1, o1)) (h2 : Lib.cut r1 [32] = (d, r2, o2)) (h3 : Lib.cut r2 [58] = (c, r3, o3))
    (h : o1 = false ∨ o2 = false ∨ o3 = false ∨ valNum a = none ∨ valNum d = none ∨ valNum c = none) : entryR s = none := by
  unfold entryR
  cases k1 : cutNum s 32 with
  | none => rfl
  | some p1 =>
    obtain ⟨v1, x1⟩ := p1
    cases o1 with
    | false => rw [cutNum_f1 h1] at k1; cases k1
    | true =>
    cases w1 : valNum a with
    | none => rw [cutNum_f2 h1 w1] at k1; cases k1
    | some u1 =>
    rw [cutNum_t h1 w1] at k1
    obtain ⟨rfl, rfl⟩ := Prod.mk.inj (Option.some.inj k1)
    simp only
    cases k2 : cutNum r1 32 with
    | none => rfl
    | some p2 =>
      obtain ⟨v2, x2⟩ := p2
      cases o2 with
      | false => rw [cutNum_f1 h2] at k2; cases k2
      | true =>
      cases w2 : valNum d with
      | none => rw [cutNum_f2 h2 w2] at k2; cases k2
      | some u2 =>
      rw [cutNum_t h2 w2] at k2
      obtain ⟨rfl, rfl⟩ := Prod.mk.inj (Option.some.inj k2)
      simp only
      cases k3 : cutNum r2 58 with
      | none => rfl
      | some p3 =>
        obtain ⟨v3, x3⟩ := p3
        exfalso
        cases o3 with
        | false => rw [cutNum_f1 h3] at k3; cases k3
        | true =>
        cases w3 : valNum c with
        | none => rw [cutNum_f2 h3 w3] at k3; cases k3
        | some u3 =>
        rw [w1, w2, w3] at h
        simp at h
theorem entryR_t {s a r1 d r2 c r3 : List UInt8} {va vd vc : Nat} (h1 : Lib.cut s [32] = (a, r1, true)) (h2 : Lib.cut r1 [32] = (d, r2, true)) (h3 : Lib.cut r2 [58] = (c, r3, true))
    (k1 : valNum a = some va) (k2 : valNum d = some vd) (k3 : valNum c = some vc) : entryR s = rest3 r3 va vd vc := by
  unfold entryR
  rw [cutNum_t h1 k1]; simp only
  rw [cutNum_t h2 k2]; simp only
  rw [cutNum_t h3 k3]
def RfAns (s : List UInt8) (out : List Ed) (ok : Bool) : Prop := (readR s = some out ∧ ok = decide (scrErr out = 0)) ∨ (readR s = none ∧ ok = false ∧ out = [])
theorem S_arr (l : List UInt8) : (⟨l.toArray⟩ : ByteArray) = S l := rfl
set_option maxRecDepth 100000 in
set_option maxHeartbeats 4000000 in
theorem cut_any (t : ByteArray) (c : UInt8) (m : Int) (W : World) (ht : t.size ≤ 1048576) (hm : W.cell? ⟨1, 0, none⟩ = some (.int .i64 m)) :
    Calls Tryz.prog 54 #[.string t, .string ⟨#[c]⟩] W fun e w' => ∃ (a r : ByteArray) (o : Bool), e = .returned (.tuple #[.string a, .string r, .bool o]) ∧ Lib.cut (L t) [c] = (L a, L r, o) ∧ a.size ≤ t.size ∧ r.size ≤ t.size ∧ (o = true → r.size < t.size) ∧ Below W.heap.size W w' := by
  refine (Tryz.strings_Cut t ⟨#[c]⟩ m W (by omega) hm).mono ?_
  rintro e w' ⟨rfl, n, rfl⟩
  have e1 : Lib.cut t.data.toList (⟨#[c]⟩ : ByteArray).data.toList = Lib.cut (L t) [c] := rfl
  rw [e1]
  obtain ⟨⟨a, r, o⟩, hq⟩ : ∃ q, Lib.cut (L t) [c] = q := ⟨_, rfl⟩
  rw [hq]
  refine ⟨S a, S r, o, rfl, by rw [L_S, L_S], ?_⟩
  rw [S_size, S_size, ← L_len t]
  have hbn : Below W.heap.size W (W.drewN n) := below_drewN (Below.refl _ _) n
  rcases cut_parts hq with ⟨h1, _, h2, h3⟩ | ⟨h1, _, h2, h3⟩
  · exact ⟨h3, by omega, fun _ => h2, hbn⟩
  · subst h2 h3
    exact ⟨Nat.le_refl _, by simp, (fun h => by rw [h1] at h; cases h), hbn⟩
theorem numeral_b (a : ByteArray) (ha : a.size ≤ 1048576) (w : World) :
    Calls Tryz.prog 55 #[.string a] w fun e w' => ∃ (n : Nat) (p : Bool), e = .returned (.tuple #[.int .i64 (n : Int), .bool p]) ∧ (p = true → valNum (L a) = some n) ∧ (p = false → valNum (L a) = none) ∧ n ≤ 999 ∧ Below w.heap.size w w' := by
  refine (numeral_any a (by omega) w).mono ?_
  rintro e w' ⟨he, hb⟩
  unfold NumAns at he
  cases hv : valNum (L a) with
  | none => rw [hv] at he; exact ⟨0, false, he, (fun h => by cases h), (fun _ => rfl), by omega, hb⟩
  | some v => rw [hv] at he; exact ⟨v, true, he, (fun _ => rfl), (fun h => by cases h), valNum_small hv, hb⟩
set_option maxRecDepth 100000 in
set_option maxHeartbeats 32000000 in
theorem readOf_any (s : ByteArray) (hs : s.size ≤ 1048576) (m : Int) (w : World) (hm : w.cell? ⟨1, 0, none⟩ = some (.int .i64 m)) (hw0 : 1 < w.heap.size) :
    Calls Tryz.prog 45 #[.string s] w fun e w' => ∃ (v : Value) (out : List Ed) (ok : Bool), e = .returned (.tuple #[v, .bool ok]) ∧ RfAns (L s) out ok ∧
      w'.ownsRow w.heap.size 67 3 v out.length (edCells out) ∧ Below w.heap.size w w' := by
  obtain ⟨i0, hi0, hz0, hz1, hz2⟩ := info_parts info_ed
  have HM : Hid (∀ W, Below w.heap.size w W → W.cell? ⟨1, 0, none⟩ = some (.int .i64 m)) := fun W hb => (hb.cell (p := ⟨1, 0, none⟩) hw0).trans hm
  clear hm
  go_enter Tryz.func45, Tryz.ntmps45
  go_wp2_with fail
  go_loopw [0, 4] (fun sv ov wr => ∃ (t : ByteArray) (q : List Ed), sv = .string t ∧ q.length + t.size ≤ s.size ∧ Hid (readR (L s) = (readR (L t)).map (q ++ ·)) ∧
      wr.ownsRow w.heap.size 67 3 ov q.length (edCells q) ∧ Below w.heap.size w wr) (fun sv _ _ => strSz sv)
  case atStart => exact ⟨s, [], rfl, by simp, Lib.hid (by simp), World.ownsRow_nil _ _ _ _, Below.refl _ _⟩
  case round =>
    obtain ⟨t, q, rfl, hts, HI, hown, hbr⟩ := hrel
    have hbs := hbr.size
    by_cases h0 : t.size = 0
    · obtain ⟨g2, g3⟩ := (emp_facts t).1 h0
      have HV : Hid (RfAns (L s) q (decide (scrErr q = 0))) := .inl ⟨by
        have := HI.out
        rw [List.eq_nil_of_length_eq_zero ((L_len t).trans h0), readR_nil] at this
        simpa using this, rfl⟩
      have HO := Lib.hid hown
      obtain ⟨A, c, rfl, hnc, hcm, hrx⟩ := own_form hown
      have hml : maxLen ≤ 9223372036854775807 := by decide
      have HER := Lib.hid (scrErrR_any q A q.length c wr.heap.size wr (Rd.of_own hown) (Nat.le_refl _) (by omega))
      clear h0 HI hown hrx
      have hdz : ((scrErr q == (0 : Int)) = decide (scrErr q = 0)) := by
        rw [Bool.eq_iff_iff]; simp
      have HDZ := Lib.hid hdz; clear hdz
      generalize scrErr q = z at *
      go_wp2_with fail
      refine HER.out.mono ?_
      rintro e w2 ⟨rfl, hb2⟩
      go_wp2_with fail
      go_ret2
      exact ⟨_, q, _, rfl, by rw [HDZ.out]; exact HV.out, own_below HO.out hb2, bthen hbr hb2⟩
    obtain ⟨g2, g3⟩ := (emp_facts t).2 h0
    have hne := nonempty_L h0
    have HBADE : Hid (entryR (L t) = none → RfAns (L s) [] false) := fun h => .inr ⟨by rw [HI.out, readR_step hne, h]; rfl, rfl, rfl⟩
    have HGO : Hid (∀ x t', entryR (L t) = some (x, L t') → readR (L s) = (readR (L t')).map ((q ++ [x]) ++ ·)) := fun x t' h => by
      rw [HI.out, readR_step hne, h]
      simp only
      rw [map_app]
    have hO := Lib.hid hown
    obtain ⟨A, c, rfl, hnc, hcm, hrx⟩ := own_form hown
    clear HI hown hne h0 hrx
    go_wp2_with fail
    refine (cut_any t 32 m _ (by omega) (HM.out _ hbr)).mono ?_
    rintro e w1 ⟨s1, r1, o1, rfl, hc1, hl1, hr1, ho1, hb1⟩
    have HC1 := Lib.hid hc1
    have HO1 := Lib.hid ho1
    clear hc1 ho1
    have hb5 := bthen hbr hb1
    go_wp2_with fail
    refine (cut_any r1 32 m _ (by omega) (HM.out _ hb5)).mono ?_
    rintro e w2 ⟨s2, r2, o2, rfl, hc2, hl2, hr2, ho2, hb2⟩
    have HC2 := Lib.hid hc2
    clear hc2 ho2
    have hb6 := bthen hb5 hb2
    go_wp2_with fail
    refine (cut_any r2 58 m _ (by omega) (HM.out _ hb6)).mono ?_
    rintro e w3 ⟨s3, r3, o3, rfl, hc3, hl3, hr3, ho3, hb3⟩
    have HC3 := Lib.hid hc3
    clear hc3 ho3
    have hb7 := bthen hb6 hb3
    go_wp2_with fail
    refine (numeral_b s1 (by omega) _).mono ?_
    rintro e w4 ⟨n1, p1, rfl, hy1, hz1', hn1, hb4⟩
    have hb8 := bthen hb7 hb4
    go_wp2_with fail
    refine (numeral_b s2 (by omega) _).mono ?_
    rintro e w5 ⟨n2, p2, rfl, hy2, hz2', hn2, hb5'⟩
    have hb9 := bthen hb8 hb5'
    go_wp2_with fail
    refine (numeral_b s3 (by omega) _).mono ?_
    rintro e w6 ⟨n3, p3, rfl, hy3, hz3', hn3, hb6'⟩
    have hb10 := bthen hb9 hb6'
    have hbs10 := hb10.size
    have HEF : Hid (o1 = false ∨ o2 = false ∨ o3 = false ∨ p1 = false ∨ p2 = false ∨ p3 = false → entryR (L t) = none) := fun h => entryR_f HC1.out HC2.out HC3.out (by
      rcases h with h | h | h | h | h | h
      · exact .inl h
      · exact .inr (.inl h)
      · exact .inr (.inr (.inl h))
      · exact .inr (.inr (.inr (.inl (hz1' h))))
      · exact .inr (.inr (.inr (.inr (.inl (hz2' h)))))
      · exact .inr (.inr (.inr (.inr (.inr (hz3' h))))))
    have HET : Hid (o1 = true → o2 = true → o3 = true → p1 = true → p2 = true → p3 = true → entryR (L t) = rest3 (L r3) n1 n2 n3) := fun k1 k2 k3 k4 k5 k6 => by
      subst k1 k2 k3
      exact entryR_t HC1.out HC2.out HC3.out (hy1 k4) (hy2 k5) (hy3 k6)
    have hown6 := Lib.hid (own_below hO.out (bthen hb1 (bthen hb2 (bthen hb3 (bthen hb4 (bthen hb5' hb6'))))))
    clear HC1 HC2 HC3 hy1 hy2 hy3 hz1' hz2' hz3' hO hb1 hb2 hb3 hb4 hb5' hb6' hb5 hb6 hb7 hb8 hb9 hbr
    cases o1 with
    | false =>
      have HV := Lib.hid (HBADE.out (HEF.out (.inl rfl)))
      clear HEF HET HGO HBADE
      go_wp2_with fail
      go_ret2
      exact ⟨_, [], false, rfl, HV.out, World.ownsRow_nil _ _ _ _, hb10⟩
    | true =>
    have ho1 := HO1.out rfl
    clear HO1
    cases o2 with
    | false =>
      have HV := Lib.hid (HBADE.out (HEF.out (.inr (.inl rfl))))
      clear HEF HET HGO HBADE
      go_wp2_with fail
      go_ret2
      exact ⟨_, [], false, rfl, HV.out, World.ownsRow_nil _ _ _ _, hb10⟩
    | true =>
    cases o3 with
    | false =>
      have HV := Lib.hid (HBADE.out (HEF.out (.inr (.inr (.inl rfl)))))
      clear HEF HET HGO HBADE
      go_wp2_with fail
      go_ret2
      exact ⟨_, [], false, rfl, HV.out, World.ownsRow_nil _ _ _ _, hb10⟩
    | true =>
    cases p1 with
    | false =>
      have HV := Lib.hid (HBADE.out (HEF.out (.inr (.inr (.inr (.inl rfl))))))
      clear HEF HET HGO HBADE
      go_wp2_with fail
      go_ret2
      exact ⟨_, [], false, rfl, HV.out, World.ownsRow_nil _ _ _ _, hb10⟩
    | true =>
    cases p2 with
    | false =>
      have HV := Lib.hid (HBADE.out (HEF.out (.inr (.inr (.inr (.inr (.inl rfl)))))))
      clear HEF HET HGO HBADE
      go_wp2_with fail
      go_ret2
      exact ⟨_, [], false, rfl, HV.out, World.ownsRow_nil _ _ _ _, hb10⟩
    | true =>
    cases p3 with
    | false =>
      have HV := Lib.hid (HBADE.out (HEF.out (.inr (.inr (.inr (.inr (.inr rfl)))))))
      clear HEF HET HGO HBADE
      go_wp2_with fail
      go_ret2
      exact ⟨_, [], false, rfl, HV.out, World.ownsRow_nil _ _ _ _, hb10⟩
    | true =>
    have HEN := Lib.hid (HET.out rfl rfl rfl rfl rfl rfl)
    clear HET HEF
    by_cases hlt : n3 < r3.size
    · have g5 : decide ((r3.size : Int) ≤ (n3 : Int)) = false := decide_eq_false (by omega)
      have g5' : decide (r3.size ≤ n3) = false := decide_eq_false (by omega)
      by_cases h59 : r3[n3] = 59
      · have g6 : ((r3[n3].toNat : Int) == 59) = true := by rw [h59]; rfl
        have g6' : (r3[n3].toNat == 59) = true := by rw [h59]; rfl
        have g6'' : ((r3[n3].toNat : Int) != 59) = false := by rw [bne, g6]; rfl
        have HN2 := Lib.hid (HGO.out _ _ (HEN.out.trans (rest3_t hlt h59)))
        have hex : (r3.extract (n3 + 1) r3.size).size < r3.size := by rw [ByteArray.size_extract]; omega
        have HEL : Hid (S ((L r3).take n3) = r3.extract 0 n3) := by
          unfold Hid
          rw [← L_pre, S_L]
        clear HEN HGO HBADE h59
        go_wp2_with (at_builtin; go_must (refine wpList_appG rfl _ _ _ rfl w.heap.size 67 i0 _ 3 32 Tryz.underlying32 hi0 hz0 hz1 hz2 rfl (by omega) _ q.length (edCells q) rfl (World.ownsRow.alloc hown6.out _) ⟨_, 0, none⟩ 1 1 [.int .i64 (n1 : Int), .int .i64 (n2 : Int), .string (r3.extract 0 n3)] rfl rfl (cells_new3 _ _ _ _ _) (by simp [Value.oneCell']) (by omega) (by omega) (by simp; omega) ?_); intro v6 w7 hown7 hg7 hb7)
        have hB6 : Below w.heap.size w w7 := (hb10.alloc (by have := hb10.size; omega) _).trans hb7
        go_roundw
        case rel =>
          refine ⟨_, q ++ [⟨(n1 : Int), (n2 : Int), (L r3).take n3⟩], rfl, by simp; omega, HN2, ?_, hB6⟩
          rw [List.length_append, edCells_append]
          have e1 : edCells [⟨(n1 : Int), (n2 : Int), (L r3).take n3⟩] = [.int .i64 (n1 : Int), .int .i64 (n2 : Int), .string (r3.extract 0 n3)] := by
            rw [← HEL.out]; rfl
          rw [e1]; exact hown7
        case measure => simp [strSz]; omega
      · have hz : r3[n3].toNat ≠ 59 := fun e => h59 (UInt8.toNat_inj.1 (e.trans (rfl : 59 = (59 : UInt8).toNat)))
        have g6 : ((r3[n3].toNat : Int) == 59) = false := by rw [beq_eq_false_iff_ne]; omega
        have g6' : (r3[n3].toNat == 59) = false := by rw [beq_eq_false_iff_ne]; exact hz
        have g6'' : ((r3[n3].toNat : Int) != 59) = true := by rw [bne, g6]; rfl
        have HV := Lib.hid (HBADE.out (HEN.out.trans (rest3_f2 hlt h59)))
        clear HEN HGO HBADE h59 hz
        go_wp2_with fail
        go_ret2
        exact ⟨_, [], false, rfl, HV.out, World.ownsRow_nil _ _ _ _, hb10⟩
    · have g5 : decide ((r3.size : Int) ≤ (n3 : Int)) = true := decide_eq_true (by omega)
      have g5' : decide (r3.size ≤ n3) = true := decide_eq_true (by omega)
      have HV := Lib.hid (HBADE.out (HEN.out.trans (rest3_f1 (by omega))))
      clear HEN HGO HBADE
      go_wp2_with fail
      go_ret2
      exact ⟨_, [], false, rfl, HV.out, World.ownsRow_nil _ _ _ _, hb10⟩
end Go.Proofs.YtmikckhihfcooaaGreatDoor
