/- diff.Cost and diff.Make. -/
import Derived.Test.YthnedhfjochfnaaSameP
import Derived.Test.YthnedhfjochfnaaEditA
namespace Go.Proofs.Ythnedhfjochfnaa
open Go.RowKit
/-- How many bytes have to go, and to come. -/
def dcost (s t : ByteArray) : Int := (s.size : Int) + t.size - 2 * (lcs (L s) (L t) : Nat)
theorem diffCost_long (s t : ByteArray) (h : 200 < s.size ∨ 200 < t.size) (w : World) :
    Calls Try.prog 67 #[.string s, .string t] w fun e w' => e = .returned (.tuple #[.int .i64 0, .int .i64 2]) ∧ Below w.heap.size w w' := by
  have HV := Lib.hid h
  clear h
  go_enter Try.func67, Try.ntmps67
  go_wp2_with fail
  refine (sameLong_long s t HV.out _).mono ?_
  rintro e w1 ⟨rfl, hb1⟩
  go_wp2_with fail
  go_ret2
  exact ⟨rfl, hb1⟩
theorem diffCost_any (s t : ByteArray) (hs : s.size ≤ 200) (ht : t.size ≤ 200) (w : World) :
    Calls Try.prog 67 #[.string s, .string t] w fun e w' => e = .returned (.tuple #[.int .i64 (dcost s t), .int .i64 0]) ∧ Below w.heap.size w w' := by
  have HQ := (lcs_le (L s) (L t)).1
  rw [L_len] at HQ
  have HD : Hid (dcost s t = (s.size : Int) + t.size - 2 * (lcs (L s) (L t) : Nat)) := rfl
  go_enter Try.func67, Try.ntmps67
  go_wp2_with fail
  refine (sameLong_any s t hs ht _).mono ?_
  rintro e w1 ⟨rfl, hb1⟩
  generalize lcs (L s) (L t) = z at *
  go_wp2_with fail
  go_ret2
  exact ⟨by rw [HD.out]; rfl, hb1⟩
theorem diffMake_long (s t : ByteArray) (h : 200 < s.size ∨ 200 < t.size) (w : World) :
    Calls Try.prog 66 #[.string s, .string t] w fun e w' => e = .returned (.tuple #[.slice none 0 0, .int .i64 2]) ∧ Below w.heap.size w w' := by
  have HV := Lib.hid h
  clear h
  go_enter Try.func66, Try.ntmps66
  go_wp2_with fail
  refine (diffCost_long s t HV.out _).mono ?_
  rintro e w1 ⟨rfl, hb1⟩
  go_wp2_with fail
  go_ret2
  exact ⟨rfl, hb1⟩
theorem diffMake_full (s t : ByteArray) (hs : s.size ≤ 200) (ht : t.size ≤ 200) (h : 20 < dcost s t) (w : World) :
    Calls Try.prog 66 #[.string s, .string t] w fun e w' => e = .returned (.tuple #[.slice none 0 0, .int .i64 11]) ∧ Below w.heap.size w w' := by
  have g1 : decide ((20 : Int) < dcost s t) = true := decide_eq_true h
  clear h
  go_enter Try.func66, Try.ntmps66
  go_wp2_with fail
  refine (diffCost_any s t hs ht _).mono ?_
  rintro e w1 ⟨rfl, hb1⟩
  generalize dcost s t = z at *
  go_wp2_with fail
  go_ret2
  exact ⟨rfl, hb1⟩
theorem ms_next {a b : List UInt8} {i k : Nat} {ps : List (Nat × Nat)} {m : Nat} (h : Ms a b i k (ps.drop m)) (hm : m < ps.length) :
    i ≤ (ps[m]).1 ∧ k ≤ (ps[m]).2 ∧ (ps[m]).1 < a.length ∧ (ps[m]).2 < b.length ∧ Ms a b ((ps[m]).1 + 1) ((ps[m]).2 + 1) (ps.drop (m + 1)) ∧
      edOf a b i k (ps.drop m) = (if i < (ps[m]).1 ∨ k < (ps[m]).2 then [⟨i, (ps[m]).1 - i, (b.drop k).take ((ps[m]).2 - k)⟩] else []) ++ edOf a b ((ps[m]).1 + 1) ((ps[m]).2 + 1) (ps.drop (m + 1)) := by
  rw [List.drop_eq_getElem_cons hm] at h ⊢
  generalize ps[m] = p at *
  obtain ⟨px, py⟩ := p
  cases h with
  | cons _ _ x y r h1 h2 h3 h4 h5 h6 =>
    exact ⟨h1, h2, h3, h4, h6, by simp only [edOf]⟩
theorem ms_end {a b : List UInt8} {i k : Nat} {ps : List (Nat × Nat)} {m : Nat} (h : Ms a b i k (ps.drop m)) (hm : ¬ m < ps.length) :
    i ≤ a.length ∧ k ≤ b.length ∧ edOf a b i k (ps.drop m) = (if i < a.length ∨ k < b.length then [⟨i, a.length - i, (b.drop k).take (b.length - k)⟩] else []) := by
  have e : ps.drop m = [] := List.drop_of_length_le (by omega)
  rw [e] at h ⊢
  cases h with
  | nil _ _ h1 h2 =>
    refine ⟨h1, h2, ?_⟩
    simp only [edOf]
    rw [List.take_of_length_le (by rw [List.length_drop]; exact Nat.le_refl _)]
theorem fsts_at {w : World} {B : Nat} {A : Option Addr} {ps : List (Nat × Nat)} (f : List (Nat × Nat) → List Int) (g : Nat × Nat → Nat) (hf : ∀ l, f l = l.map fun p => (g p : Int)) (hr : Rd w B 1 A ps.length (ints (f ps))) {m : Nat} (hm : m < ps.length) :
    ∃ ad : Addr, A = some ad ∧ w.cell? (ad.add m) = some (.int .i64 (g ps[m] : Nat)) := by
  obtain ⟨ad, u, hA, _, hu, hc⟩ := hr.at_ hm
  rw [hf, ints, List.map_map, List.getElem?_map, List.getElem?_eq_getElem hm] at hu
  obtain rfl := Option.some.inj hu
  exact ⟨ad, hA, hc⟩
theorem edOf_len {a b : List UInt8} {i k : Nat} {ms : List (Nat × Nat)} (h : Ms a b i k ms) : ((edOf a b i k ms).length : Int) ≤ ms.length + 1 := by
  induction h with
  | nil i k h1 h2 => simp only [edOf]; split <;> simp
  | cons i k x y r h1 h2 h3 h4 h5 h6 ih =>
    simp only [edOf, List.length_append, List.length_cons]
    split <;> simp <;> omega
/-- Where the loop stands. -/
structure DfAt (a b : List UInt8) (ps : List (Nat × Nat)) (m i k : Nat) (q : List Ed) : Prop where
  ms : m ≤ ps.length → Ms a b i k (ps.drop m) ∧ edOf a b 0 0 ps = q ++ edOf a b i k (ps.drop m)
  fin : ps.length < m → q = edOf a b 0 0 ps
  le : q.length ≤ 500 ∧ i ≤ 300 ∧ k ≤ 300
theorem DfAt.end_ {a b : List UInt8} {ps : List (Nat × Nat)} {m i k : Nat} {q q' : List Ed} (h : DfAt a b ps m i k q) (hm : m = ps.length) (hl : (edOf a b 0 0 ps).length ≤ 500) (hA : a.length ≤ 200) (hB : b.length ≤ 200)
    (hq : q' = q ++ (if i < a.length ∨ k < b.length then [⟨i, a.length - i, (b.drop k).take (b.length - k)⟩] else [])) : DfAt a b ps (m + 1) (a.length + 1) (b.length + 1) q' := by
  obtain ⟨h1, h2⟩ := h.ms (by omega)
  have h3 := (ms_end h1 (by omega)).2.2
  have e : q' = edOf a b 0 0 ps := by rw [h2, h3, hq]
  exact ⟨fun h => by omega, fun _ => e, by rw [e]; exact hl, by omega, by omega⟩
theorem DfAt.next_ {a b : List UInt8} {ps : List (Nat × Nat)} {m i k : Nat} {q q' : List Ed} (h : DfAt a b ps m i k q) (hm : m < ps.length) (hl : (edOf a b 0 0 ps).length ≤ 500) (hA : a.length ≤ 200) (hB : b.length ≤ 200)
    (hq : q' = q ++ (if i < (ps[m]).1 ∨ k < (ps[m]).2 then [⟨i, (ps[m]).1 - i, (b.drop k).take ((ps[m]).2 - k)⟩] else [])) : DfAt a b ps (m + 1) ((ps[m]).1 + 1) ((ps[m]).2 + 1) q' := by
  obtain ⟨h1, h2⟩ := h.ms (by omega)
  obtain ⟨h3, h4, h5, h6, h7, h8⟩ := ms_next h1 hm
  have e : edOf a b 0 0 ps = q' ++ edOf a b ((ps[m]).1 + 1) ((ps[m]).2 + 1) (ps.drop (m + 1)) := by rw [h2, h8, hq, List.append_assoc]
  refine ⟨fun _ => ⟨h7, e⟩, fun hh => by omega, ?_, by omega, by omega⟩
  rw [e, List.length_append] at hl; omega
set_option maxRecDepth 100000 in
set_option maxHeartbeats 16000000 in
theorem diffMake_any (s t : ByteArray) (hs : s.size ≤ 200) (ht : t.size ≤ 200) (h : dcost s t ≤ 20) (w : World) :
    Calls Try.prog 66 #[.string s, .string t] w fun e w' => ∃ v ps, e = .returned (.tuple #[v, .int .i64 0]) ∧ Ms (L s) (L t) 0 0 ps ∧ ps.length = lcs (L s) (L t) ∧
      w'.ownsRow w.heap.size 73 3 v (edOf (L s) (L t) 0 0 ps).length (edCells (edOf (L s) (L t) 0 0 ps)) ∧ Below w.heap.size w w' := by
  obtain ⟨i0, hi0, hz0, hz1, hz2⟩ := info_parts info_ed
  have g1 : decide ((20 : Int) < dcost s t) = false := decide_eq_false (by omega)
  have HQ := (lcs_le (L s) (L t)).1
  rw [L_len] at HQ
  clear h
  go_enter Try.func66, Try.ntmps66
  go_wp2_with fail
  refine (diffCost_any s t hs ht _).mono ?_
  rintro e w1 ⟨rfl, hb1⟩
  generalize dcost s t = z at *
  go_wp2_with fail
  refine (samePlaces_any s t hs ht _).mono ?_
  rintro e w2 ⟨vx, vy, ps, rfl, hms, hpl, ownx, owny, hb2⟩
  obtain ⟨A, c, rfl, hnc, hcm, hrx⟩ := own_form ownx
  obtain ⟨A', c', rfl, hnc', hcm', hry⟩ := own_form owny
  have HX := Lib.hid hrx
  have HY := Lib.hid hry
  have HPL := Lib.hid hpl
  have hp2 : ps.length ≤ 200 := by omega
  have hb := bthen hb1 hb2
  have H0 : Hid (DfAt (L s) (L t) ps 0 0 0 []) := ⟨fun _ => ⟨hms, rfl⟩, fun h => absurd h (Nat.not_lt_zero _), by simp⟩
  have HM := Lib.hid hms
  have hel := edOf_len hms
  have HE : Hid ((edOf (L s) (L t) 0 0 ps).length ≤ 500) := by unfold Hid; omega
  have HLA : Hid ((L s).length = s.size) := L_len s
  have HLB : Hid ((L t).length = t.size) := L_len t
  clear hrx hry hpl hms hel ownx owny hb1 hb2 HQ
  have hz2' : w.heap.size ≤ w2.heap.size := hb.size
  go_wp2_with fail
  go_loopw [11, 12, 13, 38] (fun o i k m wr => ∃ (m' i' k' : Nat) (q : List Ed), m' ≤ ps.length + 1 ∧ m = .int .i64 m' ∧ i = .int .i64 i' ∧ k = .int .i64 k' ∧ DfAt (L s) (L t) ps m' i' k' q ∧
      wr.ownsRow w2.heap.size 73 3 o q.length (edCells q) ∧ Below w2.heap.size w2 wr) (fun _ _ _ m _ => ps.length + 1 - (intOf m).toNat)
  case atStart => exact ⟨0, 0, 0, [], Nat.zero_le _, rfl, rfl, rfl, H0.out, World.ownsRow_nil _ _ _ _, Below.refl _ _⟩
  case round =>
    clear H0
    obtain ⟨m, i, k, q, hm, rfl, rfl, rfl, hD, hown, hbr⟩ := hrel
    have HD := Lib.hid hD
    obtain ⟨hq5, hi5, hk5⟩ := hD.le
    clear hD
    have hbs := hbr.size
    by_cases hlt : m < ps.length + 1
    · have g2 : decide ((m : Int) < (ps.length : Int) + 1) = true := decide_eq_true (by omega)
      by_cases hmp : m < ps.length
      · have g3 : decide (m < ps.length) = true := decide_eq_true hmp
        obtain ⟨h3, h4, h5, h6, h7, h8⟩ := ms_next (HD.out.ms (by omega)).1 hmp
        obtain ⟨ad, rfl, cx⟩ := fsts_at fsts Prod.fst (fun _ => rfl) (HX.out.below hbr) hmp
        obtain ⟨ad', rfl, cy⟩ := fsts_at snds Prod.snd (fun _ => rfl) (HY.out.below hbr) hmp
        have HN : Hid (∀ q', q' = q ++ (if i < (ps[m]).1 ∨ k < (ps[m]).2 then [⟨i, (ps[m]).1 - i, ((L t).drop k).take ((ps[m]).2 - k)⟩] else []) → DfAt (L s) (L t) ps (m + 1) ((ps[m]).1 + 1) ((ps[m]).2 + 1) q') :=
          fun q' hq => HD.out.next_ hmp HE.out (by rw [HLA.out]; exact hs) (by rw [HLB.out]; exact ht) hq
        rw [HLA.out] at h5
        rw [HLB.out] at h6
        clear h7 h8
        generalize (ps[m]).1 = x at *
        generalize (ps[m]).2 = y at *
        by_cases hia : i < x
        · have e1 : decide (i < x) = true := decide_eq_true hia
          have HC : Hid (i < x ∨ k < y) := .inl hia
          go_wp2_with fail
          go_quiet (fail)
          have hown2 := (own_drewN hown nq)
          go_wp2_with (at_builtin; go_must (refine wpList_appG rfl _ _ _ rfl w2.heap.size 73 i0 _ 3 32 Try.underlying66 hi0 hz0 hz1 hz2 rfl (by omega) _ q.length (edCells q) rfl (hown2.alloc _) ⟨_, 0, none⟩ 1 1 [.int .i64 (i : Int), .int .i64 ((x : Int) - (i : Int)), .string (t.extract k y)] rfl rfl (cells_new3 _ _ _ _ _) (by simp [Value.oneCell']) (by omega) (by omega) (by simp; omega) ?_); intro v6 w6 hown6 hg6 hb6)
          have hB6 : Below w2.heap.size w2 w6 := (((below_drewN hbr nq)).alloc (by simp; omega) _).trans hb6
          go_roundw
          case rel =>
            refine ⟨m + 1, x + 1, y + 1, q ++ [⟨i, (x : Nat) - (i : Nat), ((L t).drop k).take (y - k)⟩], by omega, by go_num, by go_num, by go_num, HN.out _ (by rw [if_pos HC.out]), ?_, hB6⟩
            rw [List.length_append, edCells_append]
            have e1 : edCells [⟨(i : Int), (x : Nat) - (i : Nat), ((L t).drop k).take (y - k)⟩] = [.int .i64 (i : Int), .int .i64 ((x : Int) - (i : Int)), .string (t.extract k y)] := by
              rw [extract_S]; rfl
            rw [e1]; exact hown6
          case measure => simp [intOf]; omega
        · have e1 : decide (i < x) = false := decide_eq_false hia
          by_cases hkb : k < y
          · have e2 : decide (k < y) = true := decide_eq_true hkb
            have HC : Hid (i < x ∨ k < y) := .inr hkb
            go_wp2_with fail
            go_quiet (fail)
            have hown2 := (own_drewN hown nq)
            go_wp2_with (at_builtin; go_must (refine wpList_appG rfl _ _ _ rfl w2.heap.size 73 i0 _ 3 32 Try.underlying66 hi0 hz0 hz1 hz2 rfl (by omega) _ q.length (edCells q) rfl (hown2.alloc _) ⟨_, 0, none⟩ 1 1 [.int .i64 (i : Int), .int .i64 ((x : Int) - (i : Int)), .string (t.extract k y)] rfl rfl (cells_new3 _ _ _ _ _) (by simp [Value.oneCell']) (by omega) (by omega) (by simp; omega) ?_); intro v6 w6 hown6 hg6 hb6)
            have hB6 : Below w2.heap.size w2 w6 := (((below_drewN hbr nq)).alloc (by simp; omega) _).trans hb6
            go_roundw
            case rel =>
              refine ⟨m + 1, x + 1, y + 1, q ++ [⟨i, (x : Nat) - (i : Nat), ((L t).drop k).take (y - k)⟩], by omega, by go_num, by go_num, by go_num, HN.out _ (by rw [if_pos HC.out]), ?_, hB6⟩
              rw [List.length_append, edCells_append]
              have e1 : edCells [⟨(i : Int), (x : Nat) - (i : Nat), ((L t).drop k).take (y - k)⟩] = [.int .i64 (i : Int), .int .i64 ((x : Int) - (i : Int)), .string (t.extract k y)] := by
                rw [extract_S]; rfl
              rw [e1]; exact hown6
            case measure => simp [intOf]; omega
          · have e2 : decide (k < y) = false := decide_eq_false hkb
            have HC : Hid (¬ (i < x ∨ k < y)) := by unfold Hid; omega
            go_wp2_with fail
            go_quiet (fail)
            go_wp2_with fail
            go_roundw
            case rel => exact ⟨m + 1, x + 1, y + 1, q, by omega, by go_num, by go_num, by go_num, HN.out _ (by rw [if_neg HC.out, List.append_nil]), (own_drewN hown nq), (below_drewN hbr nq)⟩
            case measure => simp [intOf]; omega
      · have g3 : decide (m < ps.length) = false := decide_eq_false hmp
        obtain ⟨h3, h4, h8⟩ := ms_end (HD.out.ms (by omega)).1 hmp
        have HN : Hid (∀ q', q' = q ++ (if i < s.size ∨ k < t.size then [⟨i, s.size - i, ((L t).drop k).take (t.size - k)⟩] else []) → DfAt (L s) (L t) ps (m + 1) (s.size + 1) (t.size + 1) q') :=
          fun q' hq => by
            have := HD.out.end_ (q' := q') (by omega) HE.out (by rw [HLA.out]; exact hs) (by rw [HLB.out]; exact ht) (by rw [HLA.out, HLB.out]; exact hq)
            rw [HLA.out, HLB.out] at this
            exact this
        rw [HLA.out] at h3
        rw [HLB.out] at h4
        clear h8
        by_cases hia : i < s.size
        · have e1 : decide (i < s.size) = true := decide_eq_true hia
          have HC : Hid (i < s.size ∨ k < t.size) := .inl hia
          have hown2 := hown
          go_wp2_with (at_builtin; go_must (refine wpList_appG rfl _ _ _ rfl w2.heap.size 73 i0 _ 3 32 Try.underlying66 hi0 hz0 hz1 hz2 rfl (by omega) _ q.length (edCells q) rfl (hown2.alloc _) ⟨_, 0, none⟩ 1 1 [.int .i64 (i : Int), .int .i64 ((s.size : Int) - (i : Int)), .string (t.extract k t.size)] rfl rfl (cells_new3 _ _ _ _ _) (by simp [Value.oneCell']) (by omega) (by omega) (by simp; omega) ?_); intro v6 w6 hown6 hg6 hb6)
          have hB6 : Below w2.heap.size w2 w6 := ((hbr).alloc hbs _).trans hb6
          go_roundw
          case rel =>
            refine ⟨m + 1, s.size + 1, t.size + 1, q ++ [⟨i, (s.size : Nat) - (i : Nat), ((L t).drop k).take (t.size - k)⟩], by omega, by go_num, by go_num, by go_num, HN.out _ (by rw [if_pos HC.out]), ?_, hB6⟩
            rw [List.length_append, edCells_append]
            have e1 : edCells [⟨(i : Int), (s.size : Nat) - (i : Nat), ((L t).drop k).take (t.size - k)⟩] = [.int .i64 (i : Int), .int .i64 ((s.size : Int) - (i : Int)), .string (t.extract k t.size)] := by
              rw [extract_S]; rfl
            rw [e1]; exact hown6
          case measure => simp [intOf]; omega
        · have e1 : decide (i < s.size) = false := decide_eq_false hia
          by_cases hkb : k < t.size
          · have e2 : decide (k < t.size) = true := decide_eq_true hkb
            have HC : Hid (i < s.size ∨ k < t.size) := .inr hkb
            have hown2 := hown
            go_wp2_with (at_builtin; go_must (refine wpList_appG rfl _ _ _ rfl w2.heap.size 73 i0 _ 3 32 Try.underlying66 hi0 hz0 hz1 hz2 rfl (by omega) _ q.length (edCells q) rfl (hown2.alloc _) ⟨_, 0, none⟩ 1 1 [.int .i64 (i : Int), .int .i64 ((s.size : Int) - (i : Int)), .string (t.extract k t.size)] rfl rfl (cells_new3 _ _ _ _ _) (by simp [Value.oneCell']) (by omega) (by omega) (by simp; omega) ?_); intro v6 w6 hown6 hg6 hb6)
            have hB6 : Below w2.heap.size w2 w6 := ((hbr).alloc hbs _).trans hb6
            go_roundw
            case rel =>
              refine ⟨m + 1, s.size + 1, t.size + 1, q ++ [⟨i, (s.size : Nat) - (i : Nat), ((L t).drop k).take (t.size - k)⟩], by omega, by go_num, by go_num, by go_num, HN.out _ (by rw [if_pos HC.out]), ?_, hB6⟩
              rw [List.length_append, edCells_append]
              have e1 : edCells [⟨(i : Int), (s.size : Nat) - (i : Nat), ((L t).drop k).take (t.size - k)⟩] = [.int .i64 (i : Int), .int .i64 ((s.size : Int) - (i : Int)), .string (t.extract k t.size)] := by
                rw [extract_S]; rfl
              rw [e1]; exact hown6
            case measure => simp [intOf]; omega
          · have e2 : decide (k < t.size) = false := decide_eq_false hkb
            have HC : Hid (¬ (i < s.size ∨ k < t.size)) := by unfold Hid; omega
            go_wp2_with fail
            go_wp2_with fail
            go_roundw
            case rel => exact ⟨m + 1, s.size + 1, t.size + 1, q, by omega, by go_num, by go_num, by go_num, HN.out _ (by rw [if_neg HC.out, List.append_nil]), hown, hbr⟩
            case measure => simp [intOf]; omega
    · obtain rfl : m = ps.length + 1 := by omega
      have g2 : decide (((ps.length + 1 : Nat) : Int) < (ps.length : Int) + 1) = false := decide_eq_false (by omega)
      have HF := Lib.hid (HD.out.fin (by omega))
      have HO := Lib.hid hown
      clear hown
      go_wp2_with fail
      go_ret2
      exact ⟨_, ps, rfl, HM.out, HPL.out, by rw [← HF.out]; exact own_lower HO.out hz2', bthen hb hbr⟩
end Go.Proofs.Ythnedhfjochfnaa
