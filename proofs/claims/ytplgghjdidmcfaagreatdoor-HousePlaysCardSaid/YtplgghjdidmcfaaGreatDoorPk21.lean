/- diff.Cost and diff.Make. diff.Make: its script as a function of both strings. A house of texts: what its deeds do to its pages (plain). -/
import Derived.Test.YtplgghjdidmcfaaGreatDoorPk20
import Derived.Test.YtplgghjdidmcfaaGreatDoorPk10
import Derived.Test.YtplgghjdidmcfaaGreatDoorPk13
import Derived.Test.YtplgghjdidmcfaaGreatDoorPk15
namespace Go.Proofs.YtplgghjdidmcfaaGreatDoor
open Go.RowKit
/-- How many bytes have to go, and to come. -/
def dcost (s t : ByteArray) : Int := (s.size : Int) + t.size - 2 * (lcs (L s) (L t) : Nat)
theorem diffCost_long (s t : ByteArray) (h : 200 < s.size ∨ 200 < t.size) (w : World) :
    Calls Tryz.prog 38 #[.string s, .string t] w fun e w' => e = .returned (.tuple #[.int .i64 0, .int .i64 2]) ∧ Below w.heap.size w w' := by
  have HV := Lib.hid h
  clear h
  go_enter Tryz.func38, Tryz.ntmps38
  go_wp2_with fail
  refine (sameLong_long s t HV.out _).mono ?_
  rintro e w1 ⟨rfl, hb1⟩
  go_wp2_with fail
  go_ret2
  exact ⟨rfl, hb1⟩
theorem diffCost_any (s t : ByteArray) (hs : s.size ≤ 200) (ht : t.size ≤ 200) (w : World) :
    Calls Tryz.prog 38 #[.string s, .string t] w fun e w' => e = .returned (.tuple #[.int .i64 (dcost s t), .int .i64 0]) ∧ Below w.heap.size w w' := by
  have HQ := (lcs_le (L s) (L t)).1
  rw [L_len] at HQ
  have HD : Hid (dcost s t = (s.size : Int) + t.size - 2 * (lcs (L s) (L t) : Nat)) := rfl
  go_enter Tryz.func38, Tryz.ntmps38
  go_wp2_with fail
  refine (sameLong_any s t hs ht _).mono ?_
  rintro e w1 ⟨rfl, hb1⟩
  generalize lcs (L s) (L t) = z at *
  go_wp2_with fail
  go_ret2
  exact ⟨by rw [HD.out]; rfl, hb1⟩
theorem diffMake_long (s t : ByteArray) (h : 200 < s.size ∨ 200 < t.size) (w : World) :
    Calls Tryz.prog 10 #[.string s, .string t] w fun e w' => e = .returned (.tuple #[.slice none 0 0, .int .i64 2]) ∧ Below w.heap.size w w' := by
  have HV := Lib.hid h
  clear h
  go_enter Tryz.func10, Tryz.ntmps10
  go_wp2_with fail
  refine (diffCost_long s t HV.out _).mono ?_
  rintro e w1 ⟨rfl, hb1⟩
  go_wp2_with fail
  go_ret2
  exact ⟨rfl, hb1⟩
theorem diffMake_full (s t : ByteArray) (hs : s.size ≤ 200) (ht : t.size ≤ 200) (h : 20 < dcost s t) (w : World) :
    Calls Tryz.prog 10 #[.string s, .string t] w fun e w' => e = .returned (.tuple #[.slice none 0 0, .int .i64 11]) ∧ Below w.heap.size w w' := by
  have g1 : decide ((20 : Int) < dcost s t) = true := decide_eq_true h
  clear h
  go_enter Tryz.func10, Tryz.ntmps10
  go_wp2_with fail
  refine (diffCost_any s t hs ht _).mono ?_
  rintro e w1 ⟨rfl, hb1⟩
  generalize dcost s t = z at *
  go_wp2_with fail
  go_ret2
  exact ⟨rfl, hb1⟩
theorem ms_next {a b : List UInt8} {i k : Nat} {ps : List (Nat × Nat)} {m : Nat} (h : Ms a b i k (ps.drop m)) (hm : m < ps.length) :
    i ≤ (ps[m]).1 ∧ k ≤ (ps[m]).2 ∧ (ps[m]).1 < a.length ∧ (ps[m]).2 < b.length ∧ Ms a b ((ps[m]).1 + 1) ((ps[m]).2 + 1) (ps.drop (m + 1)) ∧
      edOf a b i k (ps.drop m) = (if i < (ps[m]).1 ∨ k < (ps[m]).2 then [⟨i, (ps[m]).1 - i, (b.drop k).take ((ps[m]).2 - k)⟩] else []) ++ edOf a b ((ps[m]).1 + 1) ((ps[m]).2 + 1) (ps.drop (m + 1)) := by
  rw [List.drop_eq_getElem_cons hm] at h ⊢
  generalize ps[m] = p at *
  obtain ⟨px, py⟩ := p
  cases h with
  | cons _ _ x y r h1 h2 h3 h4 h5 h6 =>
    exact ⟨h1, h2, h3, h4, h6, by simp only [edOf]⟩
theorem ms_end {a b : List UInt8} {i k : Nat} {ps : List (Nat × Nat)} {m : Nat} (h : Ms a b i k (ps.drop m)) (hm : ¬ m < ps.length) :
    i ≤ a.length ∧ k ≤ b.length ∧ edOf a b i k (ps.drop m) = (if i < a.length ∨ k < b.length then [⟨i, a.length - i, (b.drop k).take (b.length - k)⟩] else []) := by
  have e : ps.drop m = [] := List.drop_of_length_le (by omega)
  rw [e] at h ⊢
  cases h with
  | nil _ _ h1 h2 =>
    refine ⟨h1, h2, ?_⟩
    simp only [edOf]
    rw [List.take_of_length_le (by rw [List.length_drop]; exact Nat.le_refl _)]
theorem fsts_at {w : World} {B : Nat} {A : Option Addr} {ps : List (Nat × Nat)} (f : List (Nat × Nat) → List Int) (g : Nat × Nat → Nat) (hf : ∀ l, f l = l.map fun p => (g p : Int)) (hr : Rd w B 1 A ps.length (ints (f ps))) {m : Nat} (hm : m < ps.length) :
    ∃ ad : Addr, A = some ad ∧ w.cell? (ad.add m) = some (.int .i64 (g ps[m] : Nat)) := by
  obtain ⟨ad, u, hA, _, hu, hc⟩ := hr.at_ hm
  rw [hf, ints, List.map_map, List.getElem?_map, List.getElem?_eq_getElem hm] at hu
  obtain rfl := Option.some.inj hu
  exact ⟨ad, hA, hc⟩
theorem edOf_len {a b : List UInt8} {i k : Nat} {ms : List (Nat × Nat)} (h : Ms a b i k ms) : ((edOf a b i k ms).length : Int) ≤ ms.length + 1 := by
  induction h with
  | nil i k h1 h2 => simp only [edOf]; split <;> simp
  | cons i k x y r h1 h2 h3 h4 h5 h6 ih =>
    simp only [edOf, List.length_append, List.length_cons]
    split <;> simp <;> omega
/-- Where the loop stands. -/
structure DfAt (a b : List UInt8) (ps : List (Nat × Nat)) (m i k : Nat) (q : List Ed) : Prop where
  ms : m ≤ ps.length → Ms a b i k (ps.drop m) ∧ edOf a b 0 0 ps = q ++ edOf a b i k (ps.drop m)
  fin : ps.length < m → q = edOf a b 0 0 ps
  le : q.length ≤ 500 ∧ i ≤ 300 ∧ k ≤ 300
theorem DfAt.end_ {a b : List UInt8} {ps : List (Nat × Nat)} {m i k : Nat} {q q' : List Ed} (h : DfAt a b ps m i k q) (hm : m = ps.length) (hl : (edOf a b 0 0 ps).length ≤ 500) (hA : a.length ≤ 200) (hB : b.length ≤ 200)
    (hq : q' = q ++ (if i < a.length ∨ k < b.length then [⟨i, a.length - i, (b.drop k).take (b.length - k)⟩] else [])) : DfAt a b ps (m + 1) (a.length + 1) (b.length + 1) q' := by
  obtain ⟨h1, h2⟩ := h.ms (by omega)
  have h3 := (ms_end h1 (by omega)).2.2
  have e : q' = edOf a b 0 0 ps := by rw [h2, h3, hq]
  exact ⟨fun h => by omega, fun _ => e, by rw [e]; exact hl, by omega, by omega⟩
theorem DfAt.next_ {a b : List UInt8} {ps : List (Nat × Nat)} {m i k : Nat} {q q' : List Ed} (h : DfAt a b ps m i k q) (hm : m < ps.length) (hl : (edOf a b 0 0 ps).length ≤ 500) (hA : a.length ≤ 200) (hB : b.length ≤ 200)
    (hq : q' = q ++ (if i < (ps[m]).1 ∨ k < (ps[m]).2 then [⟨i, (ps[m]).1 - i, (b.drop k).take ((ps[m]).2 - k)⟩] else [])) : DfAt a b ps (m + 1) ((ps[m]).1 + 1) ((ps[m]).2 + 1) q' := by
  obtain ⟨h1, h2⟩ := h.ms (by omega)
  obtain ⟨h3, h4, h5, h6, h7, h8⟩ := ms_next h1 hm
  have e : edOf a b 0 0 ps = q' ++ edOf a b ((ps[m]).1 + 1) ((ps[m]).2 + 1) (ps.drop (m + 1)) := by rw [h2, h8, hq, List.append_assoc]
  refine ⟨fun _ => ⟨h7, e⟩, fun hh => by omega, ?_, by omega, by omega⟩
  rw [e, List.length_append] at hl; omega
set_option maxRecDepth 100000 in
set_option maxHeartbeats 16000000 in
theorem diffMake_any (s t : ByteArray) (hs : s.size ≤ 200) (ht : t.size ≤ 200) (h : dcost s t ≤ 20) (w : World) :
    Calls Tryz.prog 10 #[.string s, .string t] w fun e w' => ∃ v ps, e = .returned (.tuple #[v, .int .i64 0]) ∧ Ms (L s) (L t) 0 0 ps ∧ ps.length = lcs (L s) (L t) ∧
      w'.ownsRow w.heap.size 95 3 v (edOf (L s) (L t) 0 0 ps).length (edCells (edOf (L s) (L t) 0 0 ps)) ∧ Below w.heap.size w w' := by
  obtain ⟨i0, hi0, hz0, hz1, hz2⟩ := info_parts info_ed
  have g1 : decide ((20 : Int) < dcost s t) = false := decide_eq_false (by omega)
  have HQ := (lcs_le (L s) (L t)).1
  rw [L_len] at HQ
  clear h
  go_enter Tryz.func10, Tryz.ntmps10
  go_wp2_with fail
  refine (diffCost_any s t hs ht _).mono ?_
  rintro e w1 ⟨rfl, hb1⟩
  generalize dcost s t = z at *
  go_wp2_with fail
  refine (samePlaces_any s t hs ht _).mono ?_
  rintro e w2 ⟨vx, vy, ps, rfl, hms, hpl, ownx, owny, hb2⟩
  obtain ⟨A, c, rfl, hnc, hcm, hrx⟩ := own_form ownx
  obtain ⟨A', c', rfl, hnc', hcm', hry⟩ := own_form owny
  have HX := Lib.hid hrx
  have HY := Lib.hid hry
  have HPL := Lib.hid hpl
  have hp2 : ps.length ≤ 200 := by omega
  have hb := bthen hb1 hb2
  have H0 : Hid (DfAt (L s) (L t) ps 0 0 0 []) := ⟨fun _ => ⟨hms, rfl⟩, fun h => absurd h (Nat.not_lt_zero _), by simp⟩
  have HM := Lib.hid hms
  have hel := edOf_len hms
  have HE : Hid ((edOf (L s) (L t) 0 0 ps).length ≤ 500) := by unfold Hid; omega
  have HLA : Hid ((L s).length = s.size) := L_len s
  have HLB : Hid ((L t).length = t.size) := L_len t
  clear hrx hry hpl hms hel ownx owny hb1 hb2 HQ
  have hz2' : w.heap.size ≤ w2.heap.size := hb.size
  go_wp2_with fail
  go_loopw [11, 12, 13, 38] (fun o i k m wr => ∃ (m' i' k' : Nat) (q : List Ed), m' ≤ ps.length + 1 ∧ m = .int .i64 m' ∧ i = .int .i64 i' ∧ k = .int .i64 k' ∧ DfAt (L s) (L t) ps m' i' k' q ∧
      wr.ownsRow w2.heap.size 95 3 o q.length (edCells q) ∧ Below w2.heap.size w2 wr) (fun _ _ _ m _ => ps.length + 1 - (intOf m).toNat)
  case atStart => exact ⟨0, 0, 0, [], Nat.zero_le _, rfl, rfl, rfl, H0.out, World.ownsRow_nil _ _ _ _, Below.refl _ _⟩
  case round =>
    clear H0
    obtain ⟨m, i, k, q, hm, rfl, rfl, rfl, hD, hown, hbr⟩ := hrel
    have HD := Lib.hid hD
    obtain ⟨hq5, hi5, hk5⟩ := hD.le
    clear hD
    have hbs := hbr.size
    by_cases hlt : m < ps.length + 1
    · have g2 : decide ((m : Int) < (ps.length : Int) + 1) = true := decide_eq_true (by omega)
      by_cases hmp : m < ps.length
      · have g3 : decide (m < ps.length) = true := decide_eq_true hmp
        obtain ⟨h3, h4, h5, h6, h7, h8⟩ := ms_next (HD.out.ms (by omega)).1 hmp
        obtain ⟨ad, rfl, cx⟩ := fsts_at fsts Prod.fst (fun _ => rfl) (HX.out.below hbr) hmp
        obtain ⟨ad', rfl, cy⟩ := fsts_at snds Prod.snd (fun _ => rfl) (HY.out.below hbr) hmp
        have HN : Hid (∀ q', q' = q ++ (if i < (ps[m]).1 ∨ k < (ps[m]).2 then [⟨i, (ps[m]).1 - i, ((L t).drop k).take ((ps[m]).2 - k)⟩] else []) → DfAt (L s) (L t) ps (m + 1) ((ps[m]).1 + 1) ((ps[m]).2 + 1) q') :=
          fun q' hq => HD.out.next_ hmp HE.out (by rw [HLA.out]; exact hs) (by rw [HLB.out]; exact ht) hq
        rw [HLA.out] at h5
        rw [HLB.out] at h6
        clear h7 h8
        generalize (ps[m]).1 = x at *
        generalize (ps[m]).2 = y at *
        by_cases hia : i < x
        · have e1 : decide (i < x) = true := decide_eq_true hia
          have HC : Hid (i < x ∨ k < y) := .inl hia
          go_wp2_with fail
          go_quiet (fail)
          have hown2 := (own_drewN hown nq)
          go_wp2_with (at_builtin; go_must (refine wpList_appG rfl _ _ _ rfl w2.heap.size 95 i0 _ 3 32 Tryz.underlying30 hi0 hz0 hz1 hz2 rfl (by omega) _ q.length (edCells q) rfl (hown2.alloc _) ⟨_, 0, none⟩ 1 1 [.int .i64 (i : Int), .int .i64 ((x : Int) - (i : Int)), .string (t.extract k y)] rfl rfl (cells_new3 _ _ _ _ _) (by simp [Value.oneCell']) (by omega) (by omega) (by simp; omega) ?_); intro v6 w6 hown6 hg6 hb6)
          have hB6 : Below w2.heap.size w2 w6 := (((below_drewN hbr nq)).alloc (by simp; omega) _).trans hb6
          go_roundw
          case rel =>
            refine ⟨m + 1, x + 1, y + 1, q ++ [⟨i, (x : Nat) - (i : Nat), ((L t).drop k).take (y - k)⟩], by omega, by go_num, by go_num, by go_num, HN.out _ (by rw [if_pos HC.out]), ?_, hB6⟩
            rw [List.length_append, edCells_append]
            have e1 : edCells [⟨(i : Int), (x : Nat) - (i : Nat), ((L t).drop k).take (y - k)⟩] = [.int .i64 (i : Int), .int .i64 ((x : Int) - (i : Int)), .string (t.extract k y)] := by
              rw [extract_S]; rfl
            rw [e1]; exact hown6
          case measure => simp [intOf]; omega
        · have e1 : decide (i < x) = false := decide_eq_false hia
          by_cases hkb : k < y
          · have e2 : decide (k < y) = true := decide_eq_true hkb
            have HC : Hid (i < x ∨ k < y) := .inr hkb
            go_wp2_with fail
            go_quiet (fail)
            have hown2 := (own_drewN hown nq)
            go_wp2_with (at_builtin; go_must (refine wpList_appG rfl _ _ _ rfl w2.heap.size 95 i0 _ 3 32 Tryz.underlying30 hi0 hz0 hz1 hz2 rfl (by omega) _ q.length (edCells q) rfl (hown2.alloc _) ⟨_, 0, none⟩ 1 1 [.int .i64 (i : Int), .int .i64 ((x : Int) - (i : Int)), .string (t.extract k y)] rfl rfl (cells_new3 _ _ _ _ _) (by simp [Value.oneCell']) (by omega) (by omega) (by simp; omega) ?_); intro v6 w6 hown6 hg6 hb6)
            have hB6 : Below w2.heap.size w2 w6 := (((below_drewN hbr nq)).alloc (by simp; omega) _).trans hb6
            go_roundw
            case rel =>
              refine ⟨m + 1, x + 1, y + 1, q ++ [⟨i, (x : Nat) - (i : Nat), ((L t).drop k).take (y - k)⟩], by omega, by go_num, by go_num, by go_num, HN.out _ (by rw [if_pos HC.out]), ?_, hB6⟩
              rw [List.length_append, edCells_append]
              have e1 : edCells [⟨(i : Int), (x : Nat) - (i : Nat), ((L t).drop k).take (y - k)⟩] = [.int .i64 (i : Int), .int .i64 ((x : Int) - (i : Int)), .string (t.extract k y)] := by
                rw [extract_S]; rfl
              rw [e1]; exact hown6
            case measure => simp [intOf]; omega
          · have e2 : decide (k < y) = false := decide_eq_false hkb
            have HC : Hid (¬ (i < x ∨ k < y)) := by unfold Hid; omega
            go_wp2_with fail
            go_quiet (fail)
            go_wp2_with fail
            go_roundw
            case rel => exact ⟨m + 1, x + 1, y + 1, q, by omega, by go_num, by go_num, by go_num, HN.out _ (by rw [if_neg HC.out, List.append_nil]), (own_drewN hown nq), (below_drewN hbr nq)⟩
            case measure => simp [intOf]; omega
      · have g3 : decide (m < ps.length) = false := decide_eq_false hmp
        obtain ⟨h3, h4, h8⟩ := ms_end (HD.out.ms (by omega)).1 hmp
        have HN : Hid (∀ q', q' = q ++ (if i < s.size ∨ k < t.size then [⟨i, s.size - i, ((L t).drop k).take (t.size - k)⟩] else []) → DfAt (L s) (L t) ps (m + 1) (s.size + 1) (t.size + 1) q') :=
          fun q' hq => by
            have := HD.out.end_ (q' := q') (by omega) HE.out (by rw [HLA.out]; exact hs) (by rw [HLB.out]; exact ht) (by rw [HLA.out, HLB.out]; exact hq)
            rw [HLA.out, HLB.out] at this
            exact this
        rw [HLA.out] at h3
        rw [HLB.out] at h4
        clear h8
        by_cases hia : i < s.size
        · have e1 : decide (i < s.size) = true := decide_eq_true hia
          have HC : Hid (i < s.size ∨ k < t.size) := .inl hia
          have hown2 := hown
          go_wp2_with (at_builtin; go_must (refine wpList_appG rfl _ _ _ rfl w2.heap.size 95 i0 _ 3 32 Tryz.underlying30 hi0 hz0 hz1 hz2 rfl (by omega) _ q.length (edCells q) rfl (hown2.alloc _) ⟨_, 0, none⟩ 1 1 [.int .i64 (i : Int), .int .i64 ((s.size : Int) - (i : Int)), .string (t.extract k t.size)] rfl rfl (cells_new3 _ _ _ _ _) (by simp [Value.oneCell']) (by omega) (by omega) (by simp; omega) ?_); intro v6 w6 hown6 hg6 hb6)
          have hB6 : Below w2.heap.size w2 w6 := ((hbr).alloc hbs _).trans hb6
          go_roundw
          case rel =>
            refine ⟨m + 1, s.size + 1, t.size + 1, q ++ [⟨i, (s.size : Nat) - (i : Nat), ((L t).drop k).take (t.size - k)⟩], by omega, by go_num, by go_num, by go_num, HN.out _ (by rw [if_pos HC.out]), ?_, hB6⟩
            rw [List.length_append, edCells_append]
            have e1 : edCells [⟨(i : Int), (s.size : Nat) - (i : Nat), ((L t).drop k).take (t.size - k)⟩] = [.int .i64 (i : Int), .int .i64 ((s.size : Int) - (i : Int)), .string (t.extract k t.size)] := by
              rw [extract_S]; rfl
            rw [e1]; exact hown6
          case measure => simp [intOf]; omega
        · have e1 : decide (i < s.size) = false := decide_eq_false hia
          by_cases hkb : k < t.size
          · have e2 : decide (k < t.size) = true := decide_eq_true hkb
            have HC : Hid (i < s.size ∨ k < t.size) := .inr hkb
            have hown2 := hown
            go_wp2_with (at_builtin; go_must (refine wpList_appG rfl _ _ _ rfl w2.heap.size 95 i0 _ 3 32 Tryz.underlying30 hi0 hz0 hz1 hz2 rfl (by omega) _ q.length (edCells q) rfl (hown2.alloc _) ⟨_, 0, none⟩ 1 1 [.int .i64 (i : Int), .int .i64 ((s.size : Int) - (i : Int)), .string (t.extract k t.size)] rfl rfl (cells_new3 _ _ _ _ _) (by simp [Value.oneCell']) (by omega) (by omega) (by simp; omega) ?_); intro v6 w6 hown6 hg6 hb6)
            have hB6 : Below w2.heap.size w2 w6 := ((hbr).alloc hbs _).trans hb6
            go_roundw
            case rel =>
              refine ⟨m + 1, s.size + 1, t.size + 1, q ++ [⟨i, (s.size : Nat) - (i : Nat), ((L t).drop k).take (t.size - k)⟩], by omega, by go_num, by go_num, by go_num, HN.out _ (by rw [if_pos HC.out]), ?_, hB6⟩
              rw [List.length_append, edCells_append]
              have e1 : edCells [⟨(i : Int), (s.size : Nat) - (i : Nat), ((L t).drop k).take (t.size - k)⟩] = [.int .i64 (i : Int), .int .i64 ((s.size : Int) - (i : Int)), .string (t.extract k t.size)] := by
                rw [extract_S]; rfl
              rw [e1]; exact hown6
            case measure => simp [intOf]; omega
          · have e2 : decide (k < t.size) = false := decide_eq_false hkb
            have HC : Hid (¬ (i < s.size ∨ k < t.size)) := by unfold Hid; omega
            go_wp2_with fail
            go_wp2_with fail
            go_roundw
            case rel => exact ⟨m + 1, s.size + 1, t.size + 1, q, by omega, by go_num, by go_num, by go_num, HN.out _ (by rw [if_neg HC.out, List.append_nil]), hown, hbr⟩
            case measure => simp [intOf]; omega
    · obtain rfl : m = ps.length + 1 := by omega
      have g2 : decide (((ps.length + 1 : Nat) : Int) < (ps.length : Int) + 1) = false := decide_eq_false (by omega)
      have HF := Lib.hid (HD.out.fin (by omega))
      have HO := Lib.hid hown
      clear hown
      go_wp2_with fail
      go_ret2
      exact ⟨_, ps, rfl, HM.out, HPL.out, by rw [← HF.out]; exact own_lower HO.out hz2', bthen hb hbr⟩
end Go.Proofs.YtplgghjdidmcfaaGreatDoor
namespace Go.Proofs.YtplgghjdidmcfaaGreatDoor
open Go.RowKit
set_option maxRecDepth 100000 in
set_option maxHeartbeats 16000000 in
theorem diffMakeQ_any (s t : ByteArray) (hs : s.size ≤ 200) (ht : t.size ≤ 200) (h : dcost s t ≤ 20) (w : World) :
    Calls Tryz.prog 10 #[.string s, .string t] w fun e w' => ∃ v, e = .returned (.tuple #[v, .int .i64 0]) ∧ Ms (L s) (L t) 0 0 (psAll s t) ∧ (psAll s t).length = lcs (L s) (L t) ∧
      w'.ownsRow w.heap.size 95 3 v (edOf (L s) (L t) 0 0 (psAll s t)).length (edCells (edOf (L s) (L t) 0 0 (psAll s t))) ∧ Below w.heap.size w w' := by
  obtain ⟨i0, hi0, hz0, hz1, hz2⟩ := info_parts info_ed
  have g1 : decide ((20 : Int) < dcost s t) = false := decide_eq_false (by omega)
  have HQ := (lcs_le (L s) (L t)).1
  rw [L_len] at HQ
  clear h
  obtain ⟨pz, hpz⟩ : ∃ pz, psAll s t = pz := ⟨_, rfl⟩
  rw [hpz]
  have HPZ := Lib.hid hpz
  clear hpz
  go_enter Tryz.func10, Tryz.ntmps10
  go_wp2_with fail
  refine (diffCost_any s t hs ht _).mono ?_
  rintro e w1 ⟨rfl, hb1⟩
  generalize dcost s t = z at *
  go_wp2_with fail
  refine (samePlacesQ_any s t hs ht _).mono ?_
  rintro e w2 ⟨vx, vy, ps, rfl, hms, hpl, hps, ownx, owny, hb2⟩
  obtain rfl : ps = pz := hps.trans HPZ.out
  clear hps
  obtain ⟨A, c, rfl, hnc, hcm, hrx⟩ := own_form ownx
  obtain ⟨A', c', rfl, hnc', hcm', hry⟩ := own_form owny
  have HX := Lib.hid hrx
  have HY := Lib.hid hry
  have HPL := Lib.hid hpl
  have hp2 : ps.length ≤ 200 := by omega
  have hb := bthen hb1 hb2
  have H0 : Hid (DfAt (L s) (L t) ps 0 0 0 []) := ⟨fun _ => ⟨hms, rfl⟩, fun h => absurd h (Nat.not_lt_zero _), by simp⟩
  have HM := Lib.hid hms
  have hel := edOf_len hms
  have HE : Hid ((edOf (L s) (L t) 0 0 ps).length ≤ 500) := by unfold Hid; omega
  have HLA : Hid ((L s).length = s.size) := L_len s
  have HLB : Hid ((L t).length = t.size) := L_len t
  clear hrx hry hpl hms hel ownx owny hb1 hb2 HQ
  have hz2' : w.heap.size ≤ w2.heap.size := hb.size
  go_wp2_with fail
  go_loopw [11, 12, 13, 38] (fun o i k m wr => ∃ (m' i' k' : Nat) (q : List Ed), m' ≤ ps.length + 1 ∧ m = .int .i64 m' ∧ i = .int .i64 i' ∧ k = .int .i64 k' ∧ DfAt (L s) (L t) ps m' i' k' q ∧
      wr.ownsRow w2.heap.size 95 3 o q.length (edCells q) ∧ Below w2.heap.size w2 wr) (fun _ _ _ m _ => ps.length + 1 - (intOf m).toNat)
  case atStart => exact ⟨0, 0, 0, [], Nat.zero_le _, rfl, rfl, rfl, H0.out, World.ownsRow_nil _ _ _ _, Below.refl _ _⟩
  case round =>
    clear H0
    obtain ⟨m, i, k, q, hm, rfl, rfl, rfl, hD, hown, hbr⟩ := hrel
    have HD := Lib.hid hD
    obtain ⟨hq5, hi5, hk5⟩ := hD.le
    clear hD
    have hbs := hbr.size
    by_cases hlt : m < ps.length + 1
    · have g2 : decide ((m : Int) < (ps.length : Int) + 1) = true := decide_eq_true (by omega)
      by_cases hmp : m < ps.length
      · have g3 : decide (m < ps.length) = true := decide_eq_true hmp
        obtain ⟨h3, h4, h5, h6, h7, h8⟩ := ms_next (HD.out.ms (by omega)).1 hmp
        obtain ⟨ad, rfl, cx⟩ := fsts_at fsts Prod.fst (fun _ => rfl) (HX.out.below hbr) hmp
        obtain ⟨ad', rfl, cy⟩ := fsts_at snds Prod.snd (fun _ => rfl) (HY.out.below hbr) hmp
        have HN : Hid (∀ q', q' = q ++ (if i < (ps[m]).1 ∨ k < (ps[m]).2 then [⟨i, (ps[m]).1 - i, ((L t).drop k).take ((ps[m]).2 - k)⟩] else []) → DfAt (L s) (L t) ps (m + 1) ((ps[m]).1 + 1) ((ps[m]).2 + 1) q') :=
          fun q' hq => HD.out.next_ hmp HE.out (by rw [HLA.out]; exact hs) (by rw [HLB.out]; exact ht) hq
        rw [HLA.out] at h5
        rw [HLB.out] at h6
        clear h7 h8
        generalize (ps[m]).1 = x at *
        generalize (ps[m]).2 = y at *
        by_cases hia : i < x
        · have e1 : decide (i < x) = true := decide_eq_true hia
          have HC : Hid (i < x ∨ k < y) := .inl hia
          go_wp2_with fail
          go_quiet (fail)
          have hown2 := (own_drewN hown nq)
          go_wp2_with (at_builtin; go_must (refine wpList_appG rfl _ _ _ rfl w2.heap.size 95 i0 _ 3 32 Tryz.underlying30 hi0 hz0 hz1 hz2 rfl (by omega) _ q.length (edCells q) rfl (hown2.alloc _) ⟨_, 0, none⟩ 1 1 [.int .i64 (i : Int), .int .i64 ((x : Int) - (i : Int)), .string (t.extract k y)] rfl rfl (cells_new3 _ _ _ _ _) (by simp [Value.oneCell']) (by omega) (by omega) (by simp; omega) ?_); intro v6 w6 hown6 hg6 hb6)
          have hB6 : Below w2.heap.size w2 w6 := (((below_drewN hbr nq)).alloc (by simp; omega) _).trans hb6
          go_roundw
          case rel =>
            refine ⟨m + 1, x + 1, y + 1, q ++ [⟨i, (x : Nat) - (i : Nat), ((L t).drop k).take (y - k)⟩], by omega, by go_num, by go_num, by go_num, HN.out _ (by rw [if_pos HC.out]), ?_, hB6⟩
            rw [List.length_append, edCells_append]
            have e1 : edCells [⟨(i : Int), (x : Nat) - (i : Nat), ((L t).drop k).take (y - k)⟩] = [.int .i64 (i : Int), .int .i64 ((x : Int) - (i : Int)), .string (t.extract k y)] := by
              rw [extract_S]; rfl
            rw [e1]; exact hown6
          case measure => simp [intOf]; omega
        · have e1 : decide (i < x) = false := decide_eq_false hia
          by_cases hkb : k < y
          · have e2 : decide (k < y) = true := decide_eq_true hkb
            have HC : Hid (i < x ∨ k < y) := .inr hkb
            go_wp2_with fail
            go_quiet (fail)
            have hown2 := (own_drewN hown nq)
            go_wp2_with (at_builtin; go_must (refine wpList_appG rfl _ _ _ rfl w2.heap.size 95 i0 _ 3 32 Tryz.underlying30 hi0 hz0 hz1 hz2 rfl (by omega) _ q.length (edCells q) rfl (hown2.alloc _) ⟨_, 0, none⟩ 1 1 [.int .i64 (i : Int), .int .i64 ((x : Int) - (i : Int)), .string (t.extract k y)] rfl rfl (cells_new3 _ _ _ _ _) (by simp [Value.oneCell']) (by omega) (by omega) (by simp; omega) ?_); intro v6 w6 hown6 hg6 hb6)
            have hB6 : Below w2.heap.size w2 w6 := (((below_drewN hbr nq)).alloc (by simp; omega) _).trans hb6
            go_roundw
            case rel =>
              refine ⟨m + 1, x + 1, y + 1, q ++ [⟨i, (x : Nat) - (i : Nat), ((L t).drop k).take (y - k)⟩], by omega, by go_num, by go_num, by go_num, HN.out _ (by rw [if_pos HC.out]), ?_, hB6⟩
              rw [List.length_append, edCells_append]
              have e1 : edCells [⟨(i : Int), (x : Nat) - (i : Nat), ((L t).drop k).take (y - k)⟩] = [.int .i64 (i : Int), .int .i64 ((x : Int) - (i : Int)), .string (t.extract k y)] := by
                rw [extract_S]; rfl
              rw [e1]; exact hown6
            case measure => simp [intOf]; omega
          · have e2 : decide (k < y) = false := decide_eq_false hkb
            have HC : Hid (¬ (i < x ∨ k < y)) := by unfold Hid; omega
            go_wp2_with fail
            go_quiet (fail)
            go_wp2_with fail
            go_roundw
            case rel => exact ⟨m + 1, x + 1, y + 1, q, by omega, by go_num, by go_num, by go_num, HN.out _ (by rw [if_neg HC.out, List.append_nil]), (own_drewN hown nq), (below_drewN hbr nq)⟩
            case measure => simp [intOf]; omega
      · have g3 : decide (m < ps.length) = false := decide_eq_false hmp
        obtain ⟨h3, h4, h8⟩ := ms_end (HD.out.ms (by omega)).1 hmp
        have HN : Hid (∀ q', q' = q ++ (if i < s.size ∨ k < t.size then [⟨i, s.size - i, ((L t).drop k).take (t.size - k)⟩] else []) → DfAt (L s) (L t) ps (m + 1) (s.size + 1) (t.size + 1) q') :=
          fun q' hq => by
            have := HD.out.end_ (q' := q') (by omega) HE.out (by rw [HLA.out]; exact hs) (by rw [HLB.out]; exact ht) (by rw [HLA.out, HLB.out]; exact hq)
            rw [HLA.out, HLB.out] at this
            exact this
        rw [HLA.out] at h3
        rw [HLB.out] at h4
        clear h8
        by_cases hia : i < s.size
        · have e1 : decide (i < s.size) = true := decide_eq_true hia
          have HC : Hid (i < s.size ∨ k < t.size) := .inl hia
          have hown2 := hown
          go_wp2_with (at_builtin; go_must (refine wpList_appG rfl _ _ _ rfl w2.heap.size 95 i0 _ 3 32 Tryz.underlying30 hi0 hz0 hz1 hz2 rfl (by omega) _ q.length (edCells q) rfl (hown2.alloc _) ⟨_, 0, none⟩ 1 1 [.int .i64 (i : Int), .int .i64 ((s.size : Int) - (i : Int)), .string (t.extract k t.size)] rfl rfl (cells_new3 _ _ _ _ _) (by simp [Value.oneCell']) (by omega) (by omega) (by simp; omega) ?_); intro v6 w6 hown6 hg6 hb6)
          have hB6 : Below w2.heap.size w2 w6 := ((hbr).alloc hbs _).trans hb6
          go_roundw
          case rel =>
            refine ⟨m + 1, s.size + 1, t.size + 1, q ++ [⟨i, (s.size : Nat) - (i : Nat), ((L t).drop k).take (t.size - k)⟩], by omega, by go_num, by go_num, by go_num, HN.out _ (by rw [if_pos HC.out]), ?_, hB6⟩
            rw [List.length_append, edCells_append]
            have e1 : edCells [⟨(i : Int), (s.size : Nat) - (i : Nat), ((L t).drop k).take (t.size - k)⟩] = [.int .i64 (i : Int), .int .i64 ((s.size : Int) - (i : Int)), .string (t.extract k t.size)] := by
              rw [extract_S]; rfl
            rw [e1]; exact hown6
          case measure => simp [intOf]; omega
        · have e1 : decide (i < s.size) = false := decide_eq_false hia
          by_cases hkb : k < t.size
          · have e2 : decide (k < t.size) = true := decide_eq_true hkb
            have HC : Hid (i < s.size ∨ k < t.size) := .inr hkb
            have hown2 := hown
            go_wp2_with (at_builtin; go_must (refine wpList_appG rfl _ _ _ rfl w2.heap.size 95 i0 _ 3 32 Tryz.underlying30 hi0 hz0 hz1 hz2 rfl (by omega) _ q.length (edCells q) rfl (hown2.alloc _) ⟨_, 0, none⟩ 1 1 [.int .i64 (i : Int), .int .i64 ((s.size : Int) - (i : Int)), .string (t.extract k t.size)] rfl rfl (cells_new3 _ _ _ _ _) (by simp [Value.oneCell']) (by omega) (by omega) (by simp; omega) ?_); intro v6 w6 hown6 hg6 hb6)
            have hB6 : Below w2.heap.size w2 w6 := ((hbr).alloc hbs _).trans hb6
            go_roundw
            case rel =>
              refine ⟨m + 1, s.size + 1, t.size + 1, q ++ [⟨i, (s.size : Nat) - (i : Nat), ((L t).drop k).take (t.size - k)⟩], by omega, by go_num, by go_num, by go_num, HN.out _ (by rw [if_pos HC.out]), ?_, hB6⟩
              rw [List.length_append, edCells_append]
              have e1 : edCells [⟨(i : Int), (s.size : Nat) - (i : Nat), ((L t).drop k).take (t.size - k)⟩] = [.int .i64 (i : Int), .int .i64 ((s.size : Int) - (i : Int)), .string (t.extract k t.size)] := by
                rw [extract_S]; rfl
              rw [e1]; exact hown6
            case measure => simp [intOf]; omega
          · have e2 : decide (k < t.size) = false := decide_eq_false hkb
            have HC : Hid (¬ (i < s.size ∨ k < t.size)) := by unfold Hid; omega
            go_wp2_with fail
            go_wp2_with fail
            go_roundw
            case rel => exact ⟨m + 1, s.size + 1, t.size + 1, q, by omega, by go_num, by go_num, by go_num, HN.out _ (by rw [if_neg HC.out, List.append_nil]), hown, hbr⟩
            case measure => simp [intOf]; omega
    · obtain rfl : m = ps.length + 1 := by omega
      have g2 : decide (((ps.length + 1 : Nat) : Int) < (ps.length : Int) + 1) = false := decide_eq_false (by omega)
      have HF := Lib.hid (HD.out.fin (by omega))
      have HO := Lib.hid hown
      clear hown
      go_wp2_with fail
      go_ret2
      exact ⟨_, rfl, HM.out, HPL.out, by rw [← HF.out]; exact own_lower HO.out hz2', bthen hb hbr⟩
end Go.Proofs.YtplgghjdidmcfaaGreatDoor
namespace Go.Proofs.YtplgghjdidmcfaaGreatDoor
open Go.RowKit
/-- A page: its name; its leaf's text, log and safe bytes; what it was, and may be. -/
structure Ps where
  nm : ByteArray
  tx : ByteArray
  d : ByteArray
  sf : Nat
  back : List (List UInt8)
  onward : List (List UInt8)
def Ps.es (s : Ps) : Es := ⟨L s.tx, s.back, s.onward⟩
structure PsOk (s : Ps) : Prop where
  lf : LfOk s.tx s.d s.sf
  es : EsOk s.es
def newPs (nm t : ByteArray) : Ps := ⟨nm, t, newD t, (newD t).size, [], []⟩
theorem PsOk.new_ {nm t : ByteArray} (h : t.size ≤ 200) : PsOk (newPs nm t) :=
  ⟨LfOk.new_ h, ⟨by show (L t).length ≤ 200; rw [L_len]; exact h, fun x hx => absurd hx (by simp [Ps.es, newPs]), fun x hx => absurd hx (by simp [Ps.es, newPs]), by simp [Ps.es, newPs]⟩⟩
theorem EsOk.bare {t : ByteArray} (h : t.size ≤ 200) : EsOk ⟨L t, [], []⟩ :=
  ⟨by show (L t).length ≤ 200; rw [L_len]; exact h, fun x hx => absurd hx (by simp), fun x hx => absurd hx (by simp), by simp⟩
/-- An edit of a page. -/
def edPE (s : Ps) (l : List Ed) : Int := if l.length = 0 then 5 else lfE s.tx s.d l
def edP (s : Ps) (l : List Ed) : Ps := if edPE s l = 0 then { s with tx := lfT s.tx s.d l, d := lfD s.tx s.d l, back := (s.back ++ [L s.tx]).drop (s.back.length + 1 - 30), onward := [] } else s
theorem edPE_zero {s : Ps} {l : List Ed} (h : edPE s l = 0) : ¬ l.length = 0 ∧ lfE s.tx s.d l = 0 ∧ edErr s.tx.size l = 0 ∧ lfT s.tx s.d l = S (edDone (L s.tx) l) ∧ doE s.es l = 0 ∧ doS s.es l = (edP s l).es := by
  have h0 : ¬ l.length = 0 := fun e => by unfold edPE at h; rw [if_pos e] at h; cases h
  have h1 : lfE s.tx s.d l = 0 := by unfold edPE at h; rwa [if_neg h0] at h
  have h2 : edErr s.tx.size l = 0 := by
    refine Decidable.byContradiction fun h2 => ?_
    unfold lfE at h1
    rw [if_neg h2] at h1
    exact h2 h1
  have h3 : lfT s.tx s.d l = S (edDone (L s.tx) l) := by unfold lfT; rw [if_pos h1]
  have h4 : doE s.es l = 0 := by
    unfold doE
    rw [show s.es.text = L s.tx from rfl, L_len, if_pos h2, if_neg h0]
  refine ⟨h0, h1, h2, h3, h4, ?_⟩
  unfold doS edP
  rw [if_pos h4, if_pos h]
  show (⟨edDone (L s.tx) l, _, _⟩ : Es) = ⟨L (lfT s.tx s.d l), _, _⟩
  rw [h3, L_S]
  rfl
theorem PsOk.ed {s : Ps} (h : PsOk s) (l : List Ed) : PsOk (edP s l) := by
  by_cases h0 : edPE s l = 0
  · obtain ⟨_, h1, h2, h3, h4, h5⟩ := edPE_zero h0
    refine ⟨?_, ?_⟩
    · unfold edP
      rw [if_pos h0]
      exact h.lf.edit' l
    · rw [← h5]; exact h.es.do_ l
  · unfold edP
    rw [if_neg h0]; exact h
/-- A step back. -/
def unT (s : Ps) : ByteArray := S (s.back.getD (s.back.length - 1) [])
def unPE (s : Ps) : Int := if s.back.length = 0 then 4 else lsE s.d (unT s)
def unP (s : Ps) : Ps := if unPE s = 0 then { s with tx := unT s, d := lsD s.d (unT s), back := s.back.take (s.back.length - 1), onward := s.onward ++ [L s.tx] } else s
theorem PsOk.un {s : Ps} (h : PsOk s) : PsOk (unP s) := by
  by_cases h0 : unPE s = 0
  · have hb : ¬ s.back.length = 0 := fun e => by unfold unPE at h0; rw [if_pos e] at h0; cases h0
    have h1 : lsE s.d (unT s) = 0 := by unfold unPE at h0; rwa [if_neg hb] at h0
    have h2 := h.lf.set' (unT s)
    have h3 := h.es.undo
    unfold undoS at h3
    rw [show s.es.back = s.back from rfl, if_neg hb] at h3
    unfold unP
    rw [if_pos h0]
    refine ⟨?_, ?_⟩
    · unfold lsT at h2
      rw [if_pos h1] at h2
      exact h2
    · have e : L (unT s) = s.back.getD (s.back.length - 1) [] := L_S _
      show EsOk ⟨L (unT s), _, _⟩
      rw [e]
      exact h3
  · unfold unP
    rw [if_neg h0]; exact h
/-- A step onward. -/
def reT (s : Ps) : ByteArray := S (s.onward.getD (s.onward.length - 1) [])
def rePE (s : Ps) : Int := if s.onward.length = 0 then 4 else lsE s.d (reT s)
def reP (s : Ps) : Ps := if rePE s = 0 then { s with tx := reT s, d := lsD s.d (reT s), back := s.back ++ [L s.tx], onward := s.onward.take (s.onward.length - 1) } else s
theorem PsOk.re {s : Ps} (h : PsOk s) : PsOk (reP s) := by
  by_cases h0 : rePE s = 0
  · have hb : ¬ s.onward.length = 0 := fun e => by unfold rePE at h0; rw [if_pos e] at h0; cases h0
    have h1 : lsE s.d (reT s) = 0 := by unfold rePE at h0; rwa [if_neg hb] at h0
    have h2 := h.lf.set' (reT s)
    have h3 := h.es.redo
    unfold redoS at h3
    rw [show s.es.onward = s.onward from rfl, if_neg hb] at h3
    unfold reP
    rw [if_pos h0]
    refine ⟨?_, ?_⟩
    · unfold lsT at h2
      rw [if_pos h1] at h2
      exact h2
    · have e : L (reT s) = s.onward.getD (s.onward.length - 1) [] := L_S _
      show EsOk ⟨L (reT s), _, _⟩
      rw [e]
      exact h3
  · unfold reP
    rw [if_neg h0]; exact h
def svP (s : Ps) : Ps := { s with sf := s.d.size }
theorem PsOk.sv {s : Ps} (h : PsOk s) : PsOk (svP s) := ⟨h.lf.save, h.es⟩
/-- A packing. -/
def paP (s : Ps) (stop : Int) : Ps := if pkE stop = 0 ∧ stop ≠ 0 then ⟨s.nm, pkT s.tx s.d s.sf stop, pkD s.tx s.d s.sf stop, pkF s.tx s.d s.sf stop, [], []⟩ else { s with d := pkD s.tx s.d s.sf stop, sf := pkF s.tx s.d s.sf stop }
theorem pkT_same {tx d : ByteArray} {sf : Nat} {stop : Int} (h : ¬ (pkE stop = 0 ∧ stop ≠ 0)) : pkT tx d sf stop = tx := by
  unfold pkT
  rw [if_neg]
  intro h2
  refine h ⟨?_, by omega⟩
  unfold pkE
  rw [if_pos (by omega)]
theorem PsOk.pa {s : Ps} (h : PsOk s) (stop : Int) : PsOk (paP s stop) := by
  have h1 := h.lf.pack stop
  by_cases h0 : pkE stop = 0 ∧ stop ≠ 0
  · unfold paP
    rw [if_pos h0]
    exact ⟨h1, EsOk.bare h1.text⟩
  · unfold paP
    rw [if_neg h0]
    rw [pkT_same h0] at h1
    exact ⟨h1, h.es⟩
theorem paP_bad {s : Ps} {stop : Int} (h : pkE stop ≠ 0) : paP s stop = s := by
  unfold paP
  rw [if_neg (fun e => h e.1)]
  have : ¬ (0 ≤ stop ∧ stop ≤ 3) := fun e => h (by unfold pkE; rw [if_pos e])
  unfold pkD pkF
  rw [if_neg (by omega), if_neg (by omega), if_neg (by omega), if_neg (by omega)]
/-- A crash. -/
def crPE (s : Ps) (keep : Int) : Int := craErr s.d s.sf keep
def crP (s : Ps) (keep : Int) : Ps := if crPE s keep = 0 then ⟨s.nm, cfLT s.tx s.d s.sf keep, craD s.d s.sf keep, craF s.d s.sf keep, [], []⟩ else s
theorem PsOk.cr {s : Ps} (h : PsOk s) (keep : Int) : PsOk (crP s keep) := by
  have h1 := h.lf.crash' keep
  by_cases h0 : crPE s keep = 0
  · unfold crP
    rw [if_pos h0]
    exact ⟨h1, EsOk.bare h1.text⟩
  · unfold crP
    rw [if_neg h0]; exact h
/-- The edits that make one text out of another. -/
def mkE (s t : ByteArray) : Int := if 200 < s.size ∨ 200 < t.size then 2 else if 20 < dcost s t then 11 else 0
def mkL (s t : ByteArray) : List Ed := edOf (L s) (L t) 0 0 (psAll s t)
def mkPE (s : Ps) (t : ByteArray) : Int := if mkE s.tx t = 0 then edPE s (mkL s.tx t) else mkE s.tx t
def mkP (s : Ps) (t : ByteArray) : Ps := if mkE s.tx t = 0 then edP s (mkL s.tx t) else s
theorem PsOk.mk_ {s : Ps} (h : PsOk s) (t : ByteArray) : PsOk (mkP s t) := by
  unfold mkP
  split
  · exact h.ed _
  · exact h
/-- A deed, as it is asked for. -/
structure Dd where
  kind : Int
  num : Int
  name : ByteArray
  text : ByteArray
  A : Option Addr
  m : Nat
  c : Nat
  l : List Ed
/-- Is it a name? -/
def lowerB (b : UInt8) : Bool := decide (97 ≤ b.toNat) && decide (b.toNat ≤ 122)
def named (s : ByteArray) : Bool := decide (0 < s.size) && decide (s.size ≤ 8) && (L s).all lowerB
/-- Deeds at a page that is there. -/
def pgE (s : Ps) (x : Dd) : Int :=
  if x.kind = 2 then edPE s x.l else if x.kind = 3 then unPE s else if x.kind = 4 then rePE s else if x.kind = 5 then 0 else if x.kind = 6 then pkE x.num else if x.kind = 7 then crPE s x.num else mkPE s x.text
def pgP (s : Ps) (x : Dd) : Ps :=
  if x.kind = 2 then edP s x.l else if x.kind = 3 then unP s else if x.kind = 4 then reP s else if x.kind = 5 then svP s else if x.kind = 6 then paP s x.num else if x.kind = 7 then crP s x.num else mkP s x.text
theorem PsOk.pg {s : Ps} (h : PsOk s) (x : Dd) : PsOk (pgP s x) := by
  unfold pgP
  repeat' split
  · exact h.ed _
  · exact h.un
  · exact h.re
  · exact h.sv
  · exact h.pa _
  · exact h.cr _
  · exact h.mk_ _
/-- Where a name stands; the number of the pages where it does not. -/
def fnd (nm : ByteArray) (P : List Ps) : Nat := P.findIdx fun s => decide (L s.nm = L nm)
def hsE (P : List Ps) (x : Dd) : Int :=
  if x.kind < 1 ∨ 10 < x.kind then 1 else if named x.name = false then 3 else
  if x.kind = 1 then (if fnd x.name P < P.length then 10 else if 6 ≤ P.length then 11 else if 200 < x.text.size then 2 else 0) else
  if h : fnd x.name P < P.length then (if x.kind = 8 ∨ x.kind = 9 then 0 else pgE P[fnd x.name P] x) else 4
def hsT (P : List Ps) (x : Dd) : ByteArray :=
  if h : x.kind = 8 ∧ named x.name = true ∧ fnd x.name P < P.length then (P[fnd x.name P]'h.2.2).tx else ⟨#[]⟩
def hsP (P : List Ps) (x : Dd) : List Ps :=
  if x.kind < 1 ∨ 10 < x.kind then P else if named x.name = false then P else
  if x.kind = 1 then (if fnd x.name P < P.length then P else if 6 ≤ P.length then P else if 200 < x.text.size then P else P ++ [newPs x.name x.text]) else
  if h : fnd x.name P < P.length then (if x.kind = 8 then P else if x.kind = 9 then P.eraseIdx (fnd x.name P) else P.set (fnd x.name P) (pgP P[fnd x.name P] x)) else P
structure HsOk (P : List Ps) : Prop where
  pg : ∀ s ∈ P, PsOk s
  n : P.length ≤ 6
theorem HsOk.nil_ : HsOk [] := ⟨fun s h => absurd h (by simp), by simp⟩
theorem HsOk.step {P : List Ps} (h : HsOk P) (x : Dd) : HsOk (hsP P x) := by
  unfold hsP
  split
  · exact h
  split
  · exact h
  split
  · split
    · exact h
    split
    · exact h
    split
    · exact h
    · rename_i h1 h2 h3
      refine ⟨fun s hs => ?_, by rw [List.length_append, List.length_singleton]; omega⟩
      rcases List.mem_append.1 hs with hs | hs
      · exact h.pg s hs
      · rw [List.mem_singleton.1 hs]; exact PsOk.new_ (by omega)
  split
  · rename_i hk
    split
    · exact h
    split
    · exact ⟨fun s hs => h.pg s (List.mem_of_mem_eraseIdx hs), by have := h.n; rw [List.length_eraseIdx]; split <;> omega⟩
    · refine ⟨fun s hs => ?_, by rw [List.length_set]; exact h.n⟩
      rcases List.mem_or_eq_of_mem_set hs with hs | hs
      · exact h.pg s hs
      · rw [hs]; exact (h.pg _ (List.getElem_mem hk)).pg x
  · exact h
end Go.Proofs.YtplgghjdidmcfaaGreatDoor
