/- slices.Index, Contains at edits; ContainsFunc with the law's closure. -/
import Derived.Test.YtllcmmpepchieaaMetD
namespace Go.Proofs.Ytllcmmpepchieaa
open Go.RowKit
set_option maxRecDepth 100000 in
set_option maxHeartbeats 2000000 in
theorem edIndex_any (l : List Ed) (x : Ed) (A : Option Addr) (m c B : Nat) (w : World) (hr : Rd w B 3 A m (edCells l)) (hB : B ≤ w.heap.size) (hm : m ≤ 9223372036854775807) :
    Calls Try.prog 39 #[.slice A m c, .agg #[.int .i64 x.at_, .int .i64 x.del, .string (S x.ins)]] w fun e w' => ∃ i : Int, e = .returned (.int .i64 i) ∧ decide (0 ≤ i) = decide (x ∈ l) ∧ Below w.heap.size w w' := by
  have hlen := Rd.rec_len ed_len (by omega) hr
  have HR := Lib.hid hr; clear hr
  have HL := Lib.hid hlen; clear hlen
  obtain ⟨xa, xd, xi⟩ := x
  have HB0 : Hid (Below w.heap.size w (w.alloc (.cells #[.int .i64 xa, .int .i64 xd, .string (S xi)] 30))) := (Below.refl _ _).alloc (Nat.le_refl _) _
  have hbk := Blk.new_ w 30 #[.int .i64 xa, .int .i64 xd, .string (S xi)]
  have HBK := Lib.hid hbk
  clear hbk
  go_enter Try.func39, Try.ntmps39
  go_wp2_with fail
  generalize w.alloc (.cells #[.int .i64 xa, .int .i64 xd, .string (S xi)] 30) = wb at *
  obtain ⟨g, hg⟩ : ∃ g, w.heap.size = g := ⟨_, rfl⟩
  rw [hg] at HBK ⊢
  have HG := Lib.hid hg
  clear hg
  go_loopw [8] (fun i wr => ∃ k : Nat, k ≤ m ∧ Hid (⟨xa, xd, xi⟩ ∉ l.take k) ∧ i = .int .i64 k ∧ Below wb.heap.size wb wr) (fun i _ => m - (intOf i).toNat)
  case atStart => exact ⟨0, Nat.zero_le _, (by rw [Hid, List.take_zero]; exact List.not_mem_nil), rfl, Below.refl _ _⟩
  case round =>
    obtain ⟨k, hk, HN, rfl, hb⟩ := hrel
    have hbs := hb.size
    have hBK := HBK.out.below' hb
    have k0 := hBK.cell0
    have k1 := hBK.cell1
    have k2 := hBK.cell2
    clear hBK
    by_cases hlt : k < m
    · have g1 : decide ((k : Int) < (m : Int)) = true := decide_eq_true (by omega)
      have g1' : decide (k < m) = true := decide_eq_true hlt
      obtain ⟨ad, hl, rfl, hab, c0, c1, c2⟩ := (HR.out.below ((HB0.out.mono hB).trans (hb.mono (Nat.le_trans hB HB0.out.size)))).at_ed hlt
      have HTK : Hid (l.take (k + 1) = l.take k ++ [l[k]]) := by rw [Hid, List.take_add_one, List.getElem?_eq_getElem hl]; rfl
      have HMM : Hid (l[k] ∈ l) := List.getElem_mem hl
      generalize l[k] = y at *
      obtain ⟨ya, yd, yi⟩ := y
      simp only at c0 c1 c2
      have HSE : Hid ((S xi).toList = (S yi).toList ↔ xi = yi) := by rw [Hid, ByteArray.toList_eq, ByteArray.toList_eq]; exact Iff.rfl
      have HEQ : Hid ((⟨xa, xd, xi⟩ : Ed) = ⟨ya, yd, yi⟩ ↔ (xa = ya ∧ xd = yd ∧ xi = yi)) := by rw [Hid, Ed.mk.injEq]
      generalize S xi = X at *
      generalize S yi = Y at *
      have HNO : Hid (¬ (xa = ya ∧ xd = yd ∧ X.toList = Y.toList) → (⟨xa, xd, xi⟩ : Ed) ∉ l.take (k + 1)) := by
        intro hne
        rw [HTK.out]
        intro h
        rcases List.mem_append.1 h with h | h
        · exact HN.out h
        · have h2 := HEQ.out.1 (List.mem_singleton.1 h)
          exact hne ⟨h2.1, h2.2.1, HSE.out.2 h2.2.2⟩
      clear HTK HN
      by_cases h1 : xa = ya
      · by_cases h2 : xd = yd
        · by_cases h3 : X.toList = Y.toList
          · have HV : Hid (decide ((⟨xa, xd, xi⟩ : Ed) ∈ l) = true) := decide_eq_true (by rw [HEQ.out.2 ⟨h1, h2, HSE.out.1 h3⟩]; exact HMM.out)
            have g2 : (X.toList == Y.toList) = true := by rw [beq_iff_eq]; exact h3
            subst h1
            subst h2
            have hbf : Below w.heap.size w (wr.drewN 0) := HB0.out.trans (hb.mono HB0.out.size)
            clear HEQ HNO HMM h3
            go_wp2_with fail
            go_quiet (fail)
            go_wp2_with fail
            go_ret
            exact ⟨_, rfl, by rw [HV.out]; exact decide_eq_true (by omega), below_drewN hbf _⟩
          · have g2 : (X.toList == Y.toList) = false := by rw [beq_eq_false_iff_ne]; exact h3
            have HV := Lib.hid (HNO.out fun h => h3 h.2.2)
            subst h1
            subst h2
            clear HEQ HNO HMM h3
            go_wp2_with fail
            go_quiet (fail)
            go_wp2_with fail
            go_roundw
            case rel => exact ⟨k + 1, by omega, HV.out, by go_num, below_drewN hb _⟩
            case measure => simp [intOf]; omega
        · have g2 : (xd == yd) = false := by rw [beq_eq_false_iff_ne]; exact h2
          have HV := Lib.hid (HNO.out fun h => h2 h.2.1)
          subst h1
          clear HEQ HNO HMM h2
          go_wp2_with fail
          go_quiet (fail)
          go_wp2_with fail
          go_roundw
          case rel => exact ⟨k + 1, by omega, HV.out, by go_num, below_drewN hb _⟩
          case measure => simp [intOf]; omega
      · have g2 : (xa == ya) = false := by rw [beq_eq_false_iff_ne]; exact h1
        have HV := Lib.hid (HNO.out fun h => h1 h.1)
        clear HEQ HNO HMM h1
        go_wp2_with fail
        go_quiet (fail)
        go_wp2_with fail
        go_roundw
        case rel => exact ⟨k + 1, by omega, HV.out, by go_num, below_drewN hb _⟩
        case measure => simp [intOf]; omega
    · obtain rfl : k = m := by omega
      have g1 : decide ((k : Int) < (k : Int)) = false := decide_eq_false (by omega)
      have g1' : decide (k < k) = false := decide_eq_false hlt
      have HV : Hid (decide ((⟨xa, xd, xi⟩ : Ed) ∈ l) = false) := decide_eq_false (by have h := HN.out; rwa [List.take_of_length_le (by rw [HL.out]; exact Nat.le_refl _)] at h)
      have hbf : Below w.heap.size w wr := HB0.out.trans (hb.mono HB0.out.size)
      go_wp2_with fail
      go_ret
      exact ⟨-1, rfl, by rw [HV.out]; rfl, by first | exact hbf | (rw [← HG.out]; exact hbf)⟩
set_option maxHeartbeats 1000000 in
theorem edContains_any (l : List Ed) (x : Ed) (A : Option Addr) (m c B : Nat) (w : World) (hr : Rd w B 3 A m (edCells l)) (hB : B ≤ w.heap.size) (hm : m ≤ 9223372036854775807) :
    Calls Try.prog 12 #[.slice A m c, .agg #[.int .i64 x.at_, .int .i64 x.del, .string (S x.ins)]] w fun e w' => e = .returned (.bool (decide (x ∈ l))) ∧ Below w.heap.size w w' := by
  have hb0 : Below w.heap.size w (w.alloc (.cells #[.int .i64 x.at_, .int .i64 x.del, .string (S x.ins)] 30)) := (Below.refl _ _).alloc (Nat.le_refl _) _
  have HIX := Lib.hid (edIndex_any l x A m c B _ (hr.below (hb0.mono hB)) (Nat.le_trans hB hb0.size) hm)
  have HB0 := Lib.hid hb0
  clear hr hb0
  generalize decide (x ∈ l) = r at *
  obtain ⟨xa, xd, xi⟩ := x
  go_enter Try.func12, Try.ntmps12
  go_wp2_with fail
  refine HIX.out.mono ?_
  rintro e w1 ⟨i, rfl, hi, hb1⟩
  have HI := Lib.hid hi
  clear hi
  go_wp2_with fail
  go_ret
  exact ⟨ret_bool HI.out, bthen HB0.out hb1⟩
set_option maxHeartbeats 1000000 in
theorem meetC_any (b : List Ed) (x : Ed) (A : Option Addr) (m c B g : Nat) (w : World) (hr : Rd w B 3 A m (edCells b)) (hB : B ≤ w.heap.size) (hm : m ≤ 9223372036854775807) (hg : g < w.heap.size) (hc : w.cell? ⟨g, 0, none⟩ = some (.slice A m c)) :
    Calls Try.prog 11 #[.agg #[.int .i64 x.at_, .int .i64 x.del, .string (S x.ins)], .pointer (some ⟨g, 0, none⟩)] w fun e w' => e = .returned (.bool (decide (x ∈ b))) ∧ Below w.heap.size w w' := by
  have hb0 : Below w.heap.size w (w.alloc (.cells #[.int .i64 x.at_, .int .i64 x.del, .string (S x.ins)] 30)) := (Below.refl _ _).alloc (Nat.le_refl _) _
  have HIX := Lib.hid (edContains_any b x A m c B _ (hr.below (hb0.mono hB)) (Nat.le_trans hB hb0.size) hm)
  have HB0 := Lib.hid hb0
  have hc0 := (hb0.cell (p := ⟨g, 0, none⟩) hg).trans hc
  clear hr hb0 hc
  generalize decide (x ∈ b) = r at *
  obtain ⟨xa, xd, xi⟩ := x
  go_enter Try.func11, Try.ntmps11
  go_wp2_with fail
  refine HIX.out.mono ?_
  rintro e w1 ⟨rfl, hb1⟩
  go_wp2_with fail
  go_ret
  exact ⟨rfl, bthen HB0.out hb1⟩
def anyIn (a b : List Ed) : Bool := a.any fun x => decide (x ∈ b)
set_option maxRecDepth 100000 in
set_option maxHeartbeats 1000000 in
theorem meetI_any (l b : List Ed) (A A2 : Option Addr) (m c m2 c2 B g : Nat) (w : World) (hr : Rd w B 3 A m (edCells l)) (hr2 : Rd w B 3 A2 m2 (edCells b)) (hB : B ≤ w.heap.size) (hm : m ≤ 9223372036854775807) (hm2 : m2 ≤ 9223372036854775807) (hg : g < w.heap.size) (hc : w.cell? ⟨g, 0, none⟩ = some (.slice A2 m2 c2)) :
    Calls Try.prog 38 #[.slice A m c, .func (.func 11) #[] #[.pointer (some ⟨g, 0, none⟩)]] w fun e w' => (∃ i : Int, e = .returned (.int .i64 i) ∧ (decide (0 ≤ i) = anyIn l b)) ∧ Below w.heap.size w w' := by
  have hlen := Rd.rec_len ed_len (by omega) hr
  have HR := Lib.hid hr
  have HL := Lib.hid hlen
  have HC : Hid (∀ W, Below w.heap.size w W → ∀ x : Ed, _) := fun W hW x => meetC_any b x A2 m2 c2 B g W (hr2.below (hW.mono hB)) (Nat.le_trans hB hW.size) hm2 (Nat.lt_of_lt_of_le hg hW.size) ((hW.cell (p := ⟨g, 0, none⟩) hg).trans hc)
  clear hr hlen hr2 hc
  go_enter Try.func38, Try.ntmps38
  go_wp2_with fail
  go_loopw [8] (fun i wr => ∃ k : Nat, k ≤ m ∧ Hid (∀ x ∈ l.take k, x ∉ b) ∧ i = .int .i64 k ∧ Below w.heap.size w wr) (fun i _ => m - (intOf i).toNat)
  case atStart => exact ⟨0, Nat.zero_le _, (fun x hx => by rw [List.take_zero] at hx; cases hx), rfl, Below.refl _ _⟩
  case round =>
    obtain ⟨k, hk, HNO, rfl, hb⟩ := hrel
    have hbs := hb.size
    by_cases hlt : k < m
    · have g1 : decide ((k : Int) < (m : Int)) = true := decide_eq_true (by omega)
      have g1' : decide (k < m) = true := decide_eq_true hlt
      obtain ⟨ad, hl, rfl, hab, c0, c1, c2'⟩ := (HR.out.below (hb.mono hB)).at_ed hlt
      have HX := Lib.hid (HC.out wr hb l[k])
      have HTK : Hid (l.take (k + 1) = l.take k ++ [l[k]]) := by rw [Hid, List.take_add_one, List.getElem?_eq_getElem hl]; rfl
      have HML : Hid (l[k] ∈ l) := List.getElem_mem hl
      generalize l[k] = x at *
      by_cases hin : x ∈ b
      · have HBG : Hid (anyIn l b = true) := List.any_eq_true.2 ⟨x, HML.out, decide_eq_true hin⟩
        rw [decide_eq_true hin] at HX
        clear hin HTK HML
        obtain ⟨xa, xd, xi⟩ := x
        simp only at c0 c1 c2' HX
        go_wp2_with fail
        refine HX.out.mono ?_
        rintro e w2 ⟨rfl, hb2⟩
        have hb3 := bthen hb hb2
        go_wp2_with fail
        go_ret
        exact ⟨⟨_, rfl, by rw [HBG.out]; exact decide_eq_true (by omega)⟩, hb3⟩
      · have HNX : Hid (∀ x ∈ l.take (k + 1), x ∉ b) := by
          rw [HTK.out]
          intro y hy
          rcases List.mem_append.1 hy with hy | hy
          · exact HNO.out y hy
          · rw [List.mem_singleton.1 hy]; exact hin
        rw [decide_eq_false hin] at HX
        clear hin HTK HML
        obtain ⟨xa, xd, xi⟩ := x
        simp only at c0 c1 c2' HX
        go_wp2_with fail
        refine HX.out.mono ?_
        rintro e w2 ⟨rfl, hb2⟩
        have hb3 := bthen hb hb2
        go_wp2_with fail
        go_roundw
        case rel => exact ⟨k + 1, by omega, HNX.out, by go_num, hb3⟩
        case measure => simp [intOf]; omega
    · obtain rfl : k = m := by omega
      have g1 : decide ((k : Int) < (k : Int)) = false := decide_eq_false (by omega)
      have g1' : decide (k < k) = false := decide_eq_false hlt
      have HBG : Hid (anyIn l b = false) := by
        unfold Hid anyIn
        rw [List.any_eq_false]
        intro x hx
        have h := HNO.out x (by rw [List.take_of_length_le (by rw [HL.out]; exact Nat.le_refl _)]; exact hx)
        simpa using h
      go_wp2_with fail
      go_ret
      exact ⟨⟨-1, rfl, by rw [HBG.out]; rfl⟩, hb⟩
set_option maxRecDepth 100000 in
theorem meetF_any (l b : List Ed) (A A2 : Option Addr) (m c m2 c2 B g : Nat) (w : World) (hr : Rd w B 3 A m (edCells l)) (hr2 : Rd w B 3 A2 m2 (edCells b)) (hB : B ≤ w.heap.size) (hm : m ≤ 9223372036854775807) (hm2 : m2 ≤ 9223372036854775807) (hg : g < w.heap.size) (hc : w.cell? ⟨g, 0, none⟩ = some (.slice A2 m2 c2)) :
    Calls Try.prog 10 #[.slice A m c, .func (.func 11) #[] #[.pointer (some ⟨g, 0, none⟩)]] w fun e w' => e = .returned (.bool (anyIn l b)) ∧ Below w.heap.size w w' := by
  have HR := Lib.hid (meetI_any l b A A2 m c m2 c2 B g w hr hr2 hB hm hm2 hg hc)
  clear hr hr2 hc
  go_enter Try.func10, Try.ntmps10
  go_wp2_with fail
  refine HR.out.mono ?_
  rintro e w2 ⟨⟨i, rfl, hi⟩, hb2⟩
  have HI := Lib.hid hi
  clear hi
  go_wp2_with fail
  go_ret
  exact ⟨ret_bool HI.out, hb2⟩
theorem cut_any (s : ByteArray) (n : Nat) (hn : n ≤ 1000000) (w : World) :
    Calls Try.prog 7 #[.string s, .int .i64 (n : Int)] w fun e w' => e = .returned (.string (s.extract 0 (min s.size n))) ∧ w' = w := by
  by_cases h : s.size ≤ n
  · have hm : min s.size n = s.size := Nat.min_eq_left h
    rw [hm]
    have HE : Hid (s.extract 0 s.size = s) := L_inj (by rw [L_extract, List.drop_zero, Nat.sub_zero, List.take_of_length_le (by rw [L_len]; exact Nat.le_refl _)])
    rw [HE.out]
    go_enter Try.func7, Try.ntmps7
    go_wp2_with fail
    all_goals go_ret
    all_goals exact ⟨rfl, rfl⟩
  · have hm : min s.size n = n := Nat.min_eq_right (by omega)
    rw [hm]
    go_enter Try.func7, Try.ntmps7
    go_wp2_with fail
    all_goals go_ret
    all_goals exact ⟨rfl, rfl⟩
end Go.Proofs.Ytllcmmpepchieaa
