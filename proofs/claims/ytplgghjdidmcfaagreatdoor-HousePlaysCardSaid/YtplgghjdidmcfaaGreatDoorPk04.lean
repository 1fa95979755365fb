/- script.Check and the document's ScriptErr. What slices.Equal returns on two slices of the same cells. The walks of package log's frames and scans, and of the reference's. -/
import Derived.Test.YtplgghjdidmcfaaGreatDoorPk03
import Derived.Test.YtplgghjdidmcfaaGreatDoorPk01
import Derived.Test.YtplgghjdidmcfaaGreatDoorPk02
namespace Go.Proofs.YtplgghjdidmcfaaGreatDoor
open Go.RowKit
theorem scr_bad {l : List Ed} {k : Nat} (h20 : l.length ≤ 20) (hk : k < l.length) (h : ∀ i, i < k → ∀ x, l[i]? = some x → scrOneE x = 0) {c : Int} (h1 : scrOneE l[k] = c) (hc : c ≠ 0) : scrErr l = c := by
  unfold scrErr
  rw [if_neg (by omega), scrGo_take h, List.drop_eq_getElem_cons hk, scrGo, if_neg (by rw [h1]; exact hc), h1]
theorem scr_next {l : List Ed} {k : Nat} (hk : k < l.length) (h : ∀ i, i < k → ∀ x, l[i]? = some x → scrOneE x = 0) (h0 : scrOneE l[k] = 0) : ∀ i, i < k + 1 → ∀ x, l[i]? = some x → scrOneE x = 0 := fun i hi x hx => by
  rcases Nat.lt_or_ge i k with h1 | h1
  · exact h i h1 x hx
  · obtain rfl : i = k := by omega
    rw [List.getElem?_eq_getElem hk] at hx
    cases hx; exact h0
theorem scr_end {l : List Ed} {k : Nat} (h20 : l.length ≤ 20) (hk : l.length ≤ k) (h : ∀ i, i < k → ∀ x, l[i]? = some x → scrOneE x = 0) : scrErr l = 0 := by
  unfold scrErr
  rw [if_neg (by omega), scrGo_take h, List.drop_eq_nil_of_le hk]; rfl
set_option maxRecDepth 100000 in
set_option maxHeartbeats 4000000 in
theorem scrCheck_any (l : List Ed) (A : Option Addr) (m c B : Nat) (w : World) (hr : Rd w B 3 A m (edCells l)) (hB : B ≤ w.heap.size) (hm : m ≤ 9223372036854775807) :
    Calls Tryz.prog 170 #[.slice A m c] w fun e w' => e = .returned (.int .i64 (scrErr l)) ∧ Below w.heap.size w w' := by
  have hlen := Rd.rec_len ed_len (by omega) hr
  by_cases h20 : 20 < m
  · have HE : Hid (scrErr l = 2) := by unfold Hid scrErr; rw [if_pos (by omega)]
    clear hr
    go_enter Tryz.func170, Tryz.ntmps170
    go_wp2
    go_ret
    exact ⟨ret_int HE.out.symm, Below.refl _ _⟩
  have HR := Lib.hid hr; clear hr
  have HL := Lib.hid hlen; clear hlen
  go_enter Tryz.func170, Tryz.ntmps170
  go_wp2
  go_loopw [10] (fun i wr => ∃ k : Nat, k ≤ m ∧ i = .int .i64 k ∧ Hid (∀ i, i < k → ∀ x, l[i]? = some x → scrOneE x = 0) ∧ Below w.heap.size w wr)
    (fun i _ => m - (intOf i).toNat)
  case atStart => exact ⟨0, Nat.zero_le _, rfl, Lib.hid (fun i hi => by omega), Below.refl _ _⟩
  case round =>
    obtain ⟨k, hk, rfl, HN, hb⟩ := hrel
    have hbs := hb.size
    by_cases hlt : k < m
    · obtain ⟨ad, hl, rfl, hab, c0, c1, c2⟩ := (HR.out.below (hb.mono hB)).at_ed hlt
      have HSt : Hid (scrOneE l[k] = 0 → ∀ i, i < k + 1 → ∀ x, l[i]? = some x → scrOneE x = 0) := scr_next hl HN.out
      have HBd : Hid (∀ c, scrOneE l[k] = c → c ≠ 0 → scrErr l = c) := fun c => scr_bad (by rw [HL.out]; omega) hl HN.out
      have hz : (S l[k].ins).size = l[k].ins.length := S_size _
      have HZ := Lib.hid hz; clear hz HN
      generalize l[k] = x at *
      obtain ⟨xa, xd, xi⟩ := x
      simp only at c0 c1 c2 HSt HBd HZ
      skip
      go_wp2
      all_goals first
        | (go_ret
           refine ⟨ret_int (HBd.out _ ?_ (by decide)).symm, (by repeat (first | exact Below.refl _ _ | assumption | refine Below.alloc ?_ (by first | exact Nat.le_refl _ | assumption | omega | (simp <;> omega)) _ | refine Below.setCell ?_ (by first | exact Nat.le_refl _ | assumption | omega | (simp <;> omega)) _ | refine Below.drew ?_ | refine below_drewN ?_ _))⟩
           go_light
           have hz := HZ.out
           clear HBd HSt HZ
           unfold scrOneE
           grind)
        | (go_roundw
           case rel =>
             go_light
             have hz := HZ.out
             have h0 : scrOneE ⟨xa, xd, xi⟩ = 0 := by
               clear HBd HSt HZ
               unfold scrOneE
               grind
             exact ⟨k + 1, by omega, by go_num, HSt.out h0, (by repeat (first | exact Below.refl _ _ | assumption | refine Below.alloc ?_ (by first | exact Nat.le_refl _ | assumption | omega | (simp <;> omega)) _ | refine Below.setCell ?_ (by first | exact Nat.le_refl _ | assumption | omega | (simp <;> omega)) _ | refine Below.drew ?_ | refine below_drewN ?_ _))⟩
           case measure => simp [intOf]; omega)
    · have HF := Lib.hid (scr_end (l := l) (k := k) (by rw [HL.out]; omega) (by rw [HL.out]; omega) HN.out)
      go_wp2
      all_goals go_ret
      all_goals exact ⟨ret_int HF.out.symm, hb⟩
set_option maxRecDepth 100000 in
set_option maxHeartbeats 4000000 in
theorem scrErrR_any (l : List Ed) (A : Option Addr) (m c B : Nat) (w : World) (hr : Rd w B 3 A m (edCells l)) (hB : B ≤ w.heap.size) (hm : m ≤ 9223372036854775807) :
    Calls Tryz.prog 206 #[.slice A m c] w fun e w' => e = .returned (.int .i64 (scrErr l)) ∧ Below w.heap.size w w' := by
  have hlen := Rd.rec_len ed_len (by omega) hr
  by_cases h20 : 20 < m
  · have HE : Hid (scrErr l = 2) := by unfold Hid scrErr; rw [if_pos (by omega)]
    clear hr
    go_enter Tryz.func206, Tryz.ntmps206
    go_wp2
    go_ret
    exact ⟨ret_int HE.out.symm, Below.refl _ _⟩
  have HR := Lib.hid hr; clear hr
  have HL := Lib.hid hlen; clear hlen
  go_enter Tryz.func206, Tryz.ntmps206
  go_wp2
  go_loopw [10] (fun i wr => ∃ k : Nat, k ≤ m ∧ i = .int .i64 k ∧ Hid (∀ i, i < k → ∀ x, l[i]? = some x → scrOneE x = 0) ∧ Below w.heap.size w wr)
    (fun i _ => m - (intOf i).toNat)
  case atStart => exact ⟨0, Nat.zero_le _, rfl, Lib.hid (fun i hi => by omega), Below.refl _ _⟩
  case round =>
    obtain ⟨k, hk, rfl, HN, hb⟩ := hrel
    have hbs := hb.size
    by_cases hlt : k < m
    · obtain ⟨ad, hl, rfl, hab, c0, c1, c2⟩ := (HR.out.below (hb.mono hB)).at_ed hlt
      have HSt : Hid (scrOneE l[k] = 0 → ∀ i, i < k + 1 → ∀ x, l[i]? = some x → scrOneE x = 0) := scr_next hl HN.out
      have HBd : Hid (∀ c, scrOneE l[k] = c → c ≠ 0 → scrErr l = c) := fun c => scr_bad (by rw [HL.out]; omega) hl HN.out
      have hz : (S l[k].ins).size = l[k].ins.length := S_size _
      have HZ := Lib.hid hz; clear hz HN
      generalize l[k] = x at *
      obtain ⟨xa, xd, xi⟩ := x
      simp only at c0 c1 c2 HSt HBd HZ
      skip
      go_wp2
      all_goals first
        | (go_ret
           refine ⟨ret_int (HBd.out _ ?_ (by decide)).symm, (by repeat (first | exact Below.refl _ _ | assumption | refine Below.alloc ?_ (by first | exact Nat.le_refl _ | assumption | omega | (simp <;> omega)) _ | refine Below.setCell ?_ (by first | exact Nat.le_refl _ | assumption | omega | (simp <;> omega)) _ | refine Below.drew ?_ | refine below_drewN ?_ _))⟩
           go_light
           have hz := HZ.out
           clear HBd HSt HZ
           unfold scrOneE
           grind)
        | (go_roundw
           case rel =>
             go_light
             have hz := HZ.out
             have h0 : scrOneE ⟨xa, xd, xi⟩ = 0 := by
               clear HBd HSt HZ
               unfold scrOneE
               grind
             exact ⟨k + 1, by omega, by go_num, HSt.out h0, (by repeat (first | exact Below.refl _ _ | assumption | refine Below.alloc ?_ (by first | exact Nat.le_refl _ | assumption | omega | (simp <;> omega)) _ | refine Below.setCell ?_ (by first | exact Nat.le_refl _ | assumption | omega | (simp <;> omega)) _ | refine Below.drew ?_ | refine below_drewN ?_ _))⟩
           case measure => simp [intOf]; omega)
    · have HF := Lib.hid (scr_end (l := l) (k := k) (by rw [HL.out]; omega) (by rw [HL.out]; omega) HN.out)
      go_wp2
      all_goals go_ret
      all_goals exact ⟨ret_int HF.out.symm, hb⟩
end Go.Proofs.YtplgghjdidmcfaaGreatDoor
namespace Go.Proofs.YtplgghjdidmcfaaGreatDoor
open Go.RowKit

def ints (l : List Int) : List Value := l.map (.int .i64 ·)

theorem ints_at {l : List Int} {k : Nat} {u : Value} (h : (ints l)[k]? = some u) : ∃ x, l[k]? = some x ∧ u = .int .i64 x := by
  unfold ints at h
  rw [List.getElem?_map] at h
  cases hx : l[k]? with
  | none => rw [hx] at h; simp at h
  | some x => rw [hx] at h; exact ⟨x, rfl, by simpa using h.symm⟩

end Go.Proofs.YtplgghjdidmcfaaGreatDoor
namespace Go.Proofs.YtplgghjdidmcfaaGreatDoor
open Go.RowKit
def hdL (n : Nat) : List UInt8 := [UInt8.ofNat (n / 256), UInt8.ofNat n]
theorem hd_cells (n : Nat) (h : n ≤ 1100) : (#[Value.int .u8 ((n : Int) / 256), .int .u8 ((n : Int) % 256)] : Array Value).toList = byteCells (hdL n) := by
  have h0 : (n : Int) / 256 = ((UInt8.ofNat (n / 256)).toNat : Int) := by rw [UInt8.toNat_ofNat']; omega
  have h1 : (n : Int) % 256 = ((UInt8.ofNat n).toNat : Int) := by rw [UInt8.toNat_ofNat']; omega
  rw [h0, h1]; rfl
theorem frame_is (s : ByteArray) : S (hdL s.size) ++ s ++ fourB (sumNat (L (S (hdL s.size) ++ s))) = S (frameL (L s)) := by
  have h1 : S (hdL s.size) ++ s = S (UInt8.ofNat ((L s).length / 256) :: UInt8.ofNat (L s).length :: L s) := by
    rw [append_S, L_S, L_len]; rfl
  rw [h1, append_S, L_S]; rfl
theorem hd_size (n : Nat) : (S (hdL n)).size ≤ 2 := by rw [S_size]; exact Nat.le_refl _
theorem four_size (n : Nat) : (fourB n).size ≤ 4 := Nat.le_refl _
set_option maxRecDepth 100000 in
set_option maxHeartbeats 400000 in
theorem frame_any (s : ByteArray) (hs : s.size ≤ 1100) (w : World) :
    Calls Tryz.prog 168 #[.string s] w fun e w' => e = .returned (.tuple #[.string (S (frameL (L s))), .int .i64 0]) ∧ Below w.heap.size w w' := by
  have hcv := conv_new (P := Tryz.prog) Tryz.underlying119 Tryz.underlying5 Tryz.underlying9 w #[Value.int .u8 ((s.size : Int) / 256), .int .u8 ((s.size : Int) % 256)] (hdL s.size) 2 2 (hd_cells _ hs) rfl
  have HF := Lib.hid (frame_is s)
  have z1 := hd_size s.size
  have z3 : (S (hdL s.size) ++ s).size ≤ 1102 := by rw [ByteArray.size_append]; omega
  have z2 := four_size (sumNat (L (S (hdL s.size) ++ s)))
  go_enter Tryz.func168, Tryz.ntmps168
  go_wp2_with fail
  refine (sumOf_any _ _ (by omega)).mono ?_
  rintro e w2 ⟨rfl, hb2⟩
  go_wp2_with fail
  refine (sumBytes_any _ (sumNat_lt _) _).mono ?_
  rintro e w3 ⟨rfl, hb3⟩
  generalize fourB (sumNat (L (S (hdL s.size) ++ s))) = F at *
  go_wp2_with fail
  go_ret2
  exact ⟨by rw [HF.out]; rfl, bthen (((Below.refl _ _).alloc (Nat.le_refl _) _).trans (hb2.mono (by simp))) hb3⟩
set_option maxRecDepth 100000 in
set_option maxHeartbeats 400000 in
theorem frameRef_any (s : ByteArray) (hs : s.size ≤ 1100) (w : World) :
    Calls Tryz.prog 128 #[.string s] w fun e w' => e = .returned (.string (S (frameL (L s)))) ∧ Below w.heap.size w w' := by
  have hcv := conv_new (P := Tryz.prog) Tryz.underlying119 Tryz.underlying5 Tryz.underlying9 w #[Value.int .u8 ((s.size : Int) / 256), .int .u8 ((s.size : Int) % 256)] (hdL s.size) 2 2 (hd_cells _ hs) rfl
  have HF := Lib.hid (frame_is s)
  have z1 := hd_size s.size
  have z3 : (S (hdL s.size) ++ s).size ≤ 1102 := by rw [ByteArray.size_append]; omega
  have z2 := four_size (sumNat (L (S (hdL s.size) ++ s)))
  go_enter Tryz.func128, Tryz.ntmps128
  go_wp2_with fail
  refine (sumRef_any _ _ (by omega)).mono ?_
  rintro e w2 ⟨rfl, hb2⟩
  go_wp2_with fail
  refine (sumFour_any _ (sumNat_lt _) _).mono ?_
  rintro e w3 ⟨rfl, hb3⟩
  generalize fourB (sumNat (L (S (hdL s.size) ++ s))) = F at *
  go_wp2_with fail
  go_ret
  exact ⟨by rw [HF.out]; rfl, bthen (((Below.refl _ _).alloc (Nat.le_refl _) _).trans (hb2.mono (by simp))) hb3⟩
set_option maxHeartbeats 400000 in
theorem frame_large (s : ByteArray) (hs : 1100 < s.size) (w : World) :
    Calls Tryz.prog 168 #[.string s] w fun e w' => e = .returned (.tuple #[.string (S []), .int .i64 2]) ∧ Below w.heap.size w w' := by
  go_enter Tryz.func168, Tryz.ntmps168
  go_wp2_with fail
  go_ret2
  exact ⟨rfl, Below.refl _ _⟩
/-- What a scan's relation holds at a place. -/
structure ScanAt (l : List UInt8) (at_ : Nat) (recs : List (List UInt8)) : Prop where
  count : recs.length * 6 ≤ at_
  le : at_ ≤ l.length
  recs : recs ++ (scanL (l.drop at_)).1 = (scanL l).1
  sum : at_ + (scanL (l.drop at_)).2 = (scanL l).2
theorem ScanAt.done {l : List UInt8} {at_ : Nat} {recs : List (List UInt8)} (h : ScanAt l at_ recs) (hn : ¬ frameOk (l.drop at_)) : recs = (scanL l).1 ∧ at_ = (scanL l).2 := by
  have h1 := h.recs; have h2 := h.sum
  rw [scanL_no hn] at h1 h2
  exact ⟨by simpa using h1, by simpa using h2⟩
theorem ScanAt.step {l : List UInt8} {at_ : Nat} {recs : List (List UInt8)} (h : ScanAt l at_ recs) (hn : frameOk (l.drop at_)) : ScanAt l (at_ + (headNum (l.drop at_) + 6)) (recs ++ [recOf (l.drop at_)]) := by
  have h1 := h.recs; have h2 := h.sum; have h3 := h.le
  have h4 := hn.2.2.1
  rw [List.length_drop] at h4
  rw [scanL_ok hn, List.drop_drop] at h1 h2
  exact ⟨by have := h.count; simp only [List.length_append, List.length_cons, List.length_nil]; omega, by omega, by simpa using h1, by simp only at h2; omega⟩
def strCells (l : List (List UInt8)) : List Value := l.map fun r => .string (S r)
theorem info_str : (Tryz.prog.info? 9).map (fun i => (i.zero, i.size, i.bytes)) = some (some (.string ByteArray.empty), 1, 16) := by kernel_rfl
set_option maxRecDepth 100000 in
set_option maxHeartbeats 1000000 in
theorem scan_any (s : ByteArray) (hs : s.size ≤ 16777216) (w : World) :
    Calls Tryz.prog 118 #[.string s] w fun e w' => ∃ v, e = .returned (.tuple #[v, .int .i64 ((scanL (L s)).2 : Nat)]) ∧
      w'.ownsRow w.heap.size 9 1 v (scanL (L s)).1.length (strCells (scanL (L s)).1) ∧ Below w.heap.size w w' := by
  obtain ⟨i0, hi0, hz0, hz1, hz2⟩ := info_parts info_str
  go_enter Tryz.func118, Tryz.ntmps118
  go_wp2
  go_loopw [4, 5] (fun v i wr => ∃ (at_ : Nat) (recs : List (List UInt8)), ScanAt (L s) at_ recs ∧ i = .int .i64 at_ ∧ wr.ownsRow w.heap.size 9 1 v recs.length (strCells recs) ∧ Below w.heap.size w wr)
    (fun _ i _ => s.size - (intOf i).toNat)
  case atStart => exact ⟨0, [], ⟨Nat.zero_le _, Nat.zero_le _, by simp, by simp⟩, rfl, World.ownsRow_nil _ _ _ _, Below.refl _ _⟩
  case round =>
    obtain ⟨at_, recs, HA, rfl, hown, hb⟩ := hrel
    have hle := HA.le
    rw [L_len] at hle
    by_cases h6 : at_ + 6 ≤ s.size
    · have ix0 := fun W => run_index_S (P := Tryz.prog) Tryz.underlying9 s at_ (by omega) W
      have ix1 : ∀ W, (Instr.index 9 (.string s) (.int .i64 ((at_ : Int) + 1))).run Tryz.prog W = .ok (.int .u8 (((L s).getD (at_ + 1) 0).toNat : Int)) W := fun W => run_index_S (P := Tryz.prog) Tryz.underlying9 s (at_ + 1) (by omega) W
      have hb0 := UInt8.toNat_lt ((L s).getD at_ 0)
      have hH : headNum ((L s).drop at_) = ((L s).getD at_ 0).toNat * 256 + ((L s).getD (at_ + 1) 0).toNat := by
        simp [headNum, List.getD_eq_getElem?_getD, List.getElem?_drop]
      have hb1 := UInt8.toNat_lt ((L s).getD (at_ + 1) 0)
      generalize ((L s).getD at_ 0).toNat = b0 at *
      generalize ((L s).getD (at_ + 1) 0).toNat = b1 at *
      have HN : Hid (headNum ((L s).drop at_) = b0 * 256 + b1) := hH
      clear hH
      have hlen : ((L s).drop at_).length = s.size - at_ := by rw [List.length_drop, L_len]
      have H1 := Lib.hid hlen; clear hlen
      by_cases hA : 1100 < b0 * 256 + b1
      · have HD := Lib.hid (HA.done (fun h => by have := h.2.1; rw [HN.out] at this; omega))
        go_wp2
        go_quiet (fail)
        go_wp2_with fail
        go_ret2
        exact ⟨u4, by rw [← HD.out.2]; rfl, by rw [← HD.out.1]; exact own_drewN hown _, below_drewN hb _⟩
      by_cases hB : s.size - at_ < b0 * 256 + b1 + 6
      · have HD := Lib.hid (HA.done (fun h => by have := h.2.2.1; rw [HN.out, H1.out] at this; omega))
        go_wp2
        go_quiet (fail)
        go_wp2_with fail
        go_ret2
        exact ⟨u4, by rw [← HD.out.2]; rfl, by rw [← HD.out.1]; exact own_drewN hown _, below_drewN hb _⟩
      have HE : Hid (s.extract at_ (at_ + (b0 * 256 + b1) + 6) = S (((L s).drop at_).take (headNum ((L s).drop at_) + 6))) := by
        unfold Hid
        rw [HN.out, extract_S]; congr 2; omega
      have HRi := Lib.hid (right_iff (l := (L s).drop at_) (n := headNum ((L s).drop at_)) (by rw [HN.out, H1.out]; omega))
      by_cases hC : rightB (s.extract at_ (at_ + (b0 * 256 + b1) + 6)) = true
      · have HO : Hid (frameOk ((L s).drop at_)) := ⟨by rw [H1.out]; omega, by rw [HN.out]; omega, by rw [HN.out, H1.out]; omega, HRi.out.1 (by rw [← HE.out]; exact hC)⟩
        have HS := Lib.hid (HA.step HO.out)
        go_wp2
        go_quiet (fail)
        go_wp2_with fail
        refine (sumRight_any _ (by simp; omega) _).mono ?_
        rintro e w5 ⟨rfl, hb5⟩
        have hown5 := own_below (own_drewN hown nq) hb5
        have hb5' : Below w.heap.size w w5 := (below_drewN hb _).trans (hb5.mono hb.size)
        have hcnt := HA.count
        clear hown hb hb5
        go_wp2_with (at_builtin; go_must (refine wpList_app rfl _ _ _ rfl w.heap.size 9 i0 _ 1 16 Tryz.underlying25 hi0 hz0 hz1 hz2 rfl (by omega) _ recs.length (strCells recs) rfl (hown5.alloc _) ⟨w5.heap.size, 0, none⟩ 1 1 [.string (s.extract (at_ + 2) (at_ + 2 + (b0 * 256 + b1)))] rfl rfl (cell_one_new _ _ _) (by simp [Value.oneCell']) (by omega) (by omega) (by have := hb5'.size; simp; omega) ?_); intro v6 w6 hown6 hb6)
        go_roundw
        case rel => exact ⟨_, _, HS.out, by rw [HN.out]; go_num, by
          have e1 : s.extract (at_ + 2) (at_ + 2 + (b0 * 256 + b1)) = S (recOf ((L s).drop at_)) := by
            rw [extract_S]; unfold recOf; rw [List.drop_drop, HN.out]; congr 2; omega
          rw [e1] at hown6
          simpa [strCells] using hown6, (hb5'.alloc hb5'.size _).trans hb6⟩
        case measure => simp [intOf]; omega
      · have hC' : rightB (s.extract at_ (at_ + (b0 * 256 + b1) + 6)) = false := by simpa using hC
        have HD := Lib.hid (HA.done (fun h => hC (by rw [HE.out]; exact HRi.out.2 h.2.2.2)))
        clear hC
        go_wp2
        go_quiet (fail)
        go_wp2_with fail
        refine (sumRight_any _ (by simp; omega) _).mono ?_
        rintro e w5 ⟨rfl, hb5⟩
        go_wp2_with fail
        go_ret2
        exact ⟨u4, by rw [← HD.out.2]; rfl, by rw [← HD.out.1]; exact own_below (own_drewN hown _) hb5, (below_drewN hb _).trans (hb5.mono hb.size)⟩
    · have HD := Lib.hid (HA.done (fun h => by have := h.1; rw [List.length_drop, L_len] at this; omega))
      go_wp2_with fail
      go_ret2
      exact ⟨u4, by rw [← HD.out.2]; rfl, by rw [← HD.out.1]; exact hown, hb⟩
theorem oneCell_str (l : List (List UInt8)) : ∀ u ∈ strCells l, u.oneCell' = true := by
  intro u hu
  obtain ⟨r, _, rfl⟩ := List.mem_map.1 hu
  rfl
set_option maxRecDepth 100000 in
set_option maxHeartbeats 1000000 in
theorem scanRef_any (n : Nat) : ∀ (s : ByteArray) (_hs : s.size ≤ 16777216) (_hn : s.size ≤ n) (w : World),
    Calls Tryz.prog 180 #[.string s] w fun e w' => ∃ v, e = .returned (.tuple #[v, .int .i64 ((scanL (L s)).2 : Nat)]) ∧
      w'.ownsRow w.heap.size 9 1 v (scanL (L s)).1.length (strCells (scanL (L s)).1) ∧ Below w.heap.size w w' := by
  induction n with
  | zero =>
    intro s hs hn w
    have HD := Lib.hid (scanL_no (l := L s) (fun h => by have := h.1; rw [L_len] at this; omega))
    go_enter Tryz.func180, Tryz.ntmps180
    go_wp2_with fail
    go_ret2
    exact ⟨_, by rw [HD.out]; rfl, by rw [HD.out]; exact World.ownsRow_nil _ _ _ _, Below.refl _ _⟩
  | succ n ih =>
    intro s hs hn w
    have IH := Lib.hid ih
    clear ih
    obtain ⟨i0, hi0, hz0, hz1, hz2⟩ := info_parts info_str
    by_cases h6 : 6 ≤ s.size
    · have ix0 : ∀ W, (Instr.index 9 (.string s) (.int .i64 0)).run Tryz.prog W = .ok (.int .u8 (((L s).getD 0 0).toNat : Int)) W := fun W => run_index_S (P := Tryz.prog) Tryz.underlying9 s 0 (by omega) W
      have ix1 : ∀ W, (Instr.index 9 (.string s) (.int .i64 1)).run Tryz.prog W = .ok (.int .u8 (((L s).getD 1 0).toNat : Int)) W := fun W => run_index_S (P := Tryz.prog) Tryz.underlying9 s 1 (by omega) W
      have hb0 := UInt8.toNat_lt ((L s).getD 0 0)
      have hb1 := UInt8.toNat_lt ((L s).getD 1 0)
      have HN : Hid (headNum (L s) = ((L s).getD 0 0).toNat * 256 + ((L s).getD 1 0).toNat) := rfl
      generalize ((L s).getD 0 0).toNat = b0 at *
      generalize ((L s).getD 1 0).toNat = b1 at *
      have H1 := Lib.hid (L_len s)
      by_cases hA : 1100 < b0 * 256 + b1
      · have g1 : decide ((1100 : Int) < (b0 : Int) * 256 + (b1 : Int)) = true := decide_eq_true (by omega)
        have HD := Lib.hid (scanL_no (l := L s) (fun h => by have := h.2.1; rw [HN.out] at this; omega))
        go_enter Tryz.func180, Tryz.ntmps180
        go_wp2
        refine wp_region_quiet_below (by kernel_rfl) (by kernel_rfl) ?_
        repeat (go_big_quiet_step (fail))
        refine wpQuiet_nil ?_
        intro w1 hb10
        have hb1 := below_of_regrown hb10
        clear hb10
        go_wp2
        refine wp_region_quiet_below (by kernel_rfl) (by kernel_rfl) ?_
        repeat (go_big_quiet_step (fail))
        refine wpQuiet_nil ?_
        intro w2 hb20
        have hb2 := below_of_regrown hb20
        clear hb20
        go_wp2_with fail
        go_ret2
        exact ⟨_, by rw [HD.out]; rfl, by rw [HD.out]; exact World.ownsRow_nil _ _ _ _, bthen hb1 hb2⟩
      have g1 : decide ((1100 : Int) < (b0 : Int) * 256 + (b1 : Int)) = false := decide_eq_false (by omega)
      by_cases hB : s.size < b0 * 256 + b1 + 6
      · have g2 : decide ((s.size : Int) < (b0 : Int) * 256 + (b1 : Int) + 6) = true := decide_eq_true (by omega)
        have HD := Lib.hid (scanL_no (l := L s) (fun h => by have := h.2.2.1; rw [HN.out, H1.out] at this; omega))
        go_enter Tryz.func180, Tryz.ntmps180
        go_wp2
        refine wp_region_quiet_below (by kernel_rfl) (by kernel_rfl) ?_
        repeat (go_big_quiet_step (fail))
        refine wpQuiet_nil ?_
        intro w1 hb10
        have hb1 := below_of_regrown hb10
        clear hb10
        go_wp2
        refine wp_region_quiet_below (by kernel_rfl) (by kernel_rfl) ?_
        repeat (go_big_quiet_step (fail))
        refine wpQuiet_nil ?_
        intro w2 hb20
        have hb2 := below_of_regrown hb20
        clear hb20
        go_wp2_with fail
        go_ret2
        exact ⟨_, by rw [HD.out]; rfl, by rw [HD.out]; exact World.ownsRow_nil _ _ _ _, bthen hb1 hb2⟩
      have g2 : decide ((s.size : Int) < (b0 : Int) * 256 + (b1 : Int) + 6) = false := decide_eq_false (by omega)
      have HE1 : Hid (s.extract 2 (2 + (b0 * 256 + b1)) = S (recOf (L s))) := by
        unfold Hid
        rw [extract_S]; unfold recOf; rw [HN.out]; congr 2; omega
      have HE2 : Hid (s.extract 0 (b0 * 256 + b1 + 6) = S ((L s).take (headNum (L s) + 6))) := by
        unfold Hid
        rw [extract_S, HN.out, List.drop_zero]; rfl
      have HF := Lib.hid (frame_iff (l := L s) (by rw [HN.out, H1.out]; omega))
      by_cases hC : sumEnd ((L s).take (headNum (L s) + 2)) = ((L s).drop (headNum (L s) + 2)).take 4
      · have HO : Hid (frameOk (L s)) := ⟨by rw [H1.out]; omega, by rw [HN.out]; omega, by rw [HN.out, H1.out]; omega, hC⟩
        have HS := Lib.hid (scanL_ok HO.out)
        have hq : ((S (frameL (L (s.extract 2 (2 + (b0 * 256 + b1)))))).toList == (s.extract 0 (b0 * 256 + b1 + 6)).toList) = true := by
          rw [beqB, decide_eq_true_iff, HE1.out, HE2.out, L_S, HF.out.2 hC]
        clear hC
        go_enter Tryz.func180, Tryz.ntmps180
        go_wp2
        refine wp_region_quiet_below (by kernel_rfl) (by kernel_rfl) ?_
        repeat (go_big_quiet_step (fail))
        refine wpQuiet_nil ?_
        intro w1 hb10
        have hb1 := below_of_regrown hb10
        clear hb10
        go_wp2
        refine wp_region_quiet_below (by kernel_rfl) (by kernel_rfl) ?_
        repeat (go_big_quiet_step ((go_at_call 128; exact Calls.regrown_of (frameRef_any _ (by first | omega | (simp <;> omega)) _))))
        refine wpQuiet_nil ?_
        intro w2 hb20
        have hb2 := below_of_regrown hb20
        clear hb20
        have HX : Hid (L (s.extract (b0 * 256 + b1 + 6) s.size) = (L s).drop (headNum (L s) + 6)) := by
          unfold Hid
          rw [L_extract, HN.out, List.take_of_length_le (by rw [List.length_drop, L_len]; omega)]
        go_wp2_with fail
        refine (IH.out (s.extract (b0 * 256 + b1 + 6) s.size) (by rw [ByteArray.size_extract]; omega) (by rw [ByteArray.size_extract]; omega) _).mono ?_
        rintro e w3 ⟨v3, rfl, hown3, hb3⟩
        obtain ⟨A3, c3, rfl, _, _, hrd3⟩ := own_form hown3
        have hcnt := scanL_count (L (s.extract (b0 * 256 + b1 + 6) s.size))
        rw [L_len, ByteArray.size_extract] at hcnt
        have hk3 := scanL_le (L (s.extract (b0 * 256 + b1 + 6) s.size))
        rw [L_len, ByteArray.size_extract] at hk3
        have hb3' : Below w.heap.size w w3 := bthen (bthen hb1 hb2) hb3
        rw [HX.out] at hrd3 hcnt hk3 ⊢
        clear hown3
        generalize (scanL ((L s).drop (headNum (L s) + 6))).2 = k3 at *
        generalize (scanL ((L s).drop (headNum (L s) + 6))).1 = l3 at *
        generalize hm3 : l3.length = m3 at *
        have HM3 := Lib.hid hm3; clear hm3
        go_wp2_with (at_builtin; go_must (refine wpList_appRd rfl _ _ _ rfl w.heap.size 9 i0 _ 1 16 Tryz.underlying25 hi0 hz0 hz1 hz2 rfl (by omega) _ 1 [.string (s.extract 2 (2 + (b0 * 256 + b1)))] rfl (World.ownsRow_lit w3 _ 1 hb3'.size (by unfold maxLen; omega) rfl) w3.heap.size A3 _ c3 (strCells l3) rfl (hrd3.alloc (Nat.le_refl _) _) (oneCell_str _) (by omega) (by omega) (by have := hb3'.size; simp; omega) ?_); intro v6 w6 hown6 hb6)
        go_ret2
        refine ⟨v6, ?_, ?_, (hb3'.alloc hb3'.size _).trans hb6⟩
        · rw [HS.out, HN.out]
          refine congrArg (fun x => Ending.returned (Value.tuple #[v6, Value.int IntKind.i64 x])) ?_
          show (k3 : Int) + ((b0 : Int) * 256 + (b1 : Int)) + 6 = ((k3 + (b0 * 256 + b1) + 6 : Nat) : Int)
          omega
        · rw [HE1.out] at hown6
          rw [HS.out, List.length_cons, HM3.out, Nat.add_comm]
          exact hown6
      · have HD := Lib.hid (scanL_no (l := L s) (fun h => hC h.2.2.2))
        have hq : ((S (frameL (L (s.extract 2 (2 + (b0 * 256 + b1)))))).toList == (s.extract 0 (b0 * 256 + b1 + 6)).toList) = false := by
          rw [beqB, decide_eq_false_iff_not, HE1.out, HE2.out, L_S]
          intro h; exact hC (HF.out.1 (S_inj h))
        clear hC
        go_enter Tryz.func180, Tryz.ntmps180
        go_wp2
        refine wp_region_quiet_below (by kernel_rfl) (by kernel_rfl) ?_
        repeat (go_big_quiet_step (fail))
        refine wpQuiet_nil ?_
        intro w1 hb10
        have hb1 := below_of_regrown hb10
        clear hb10
        go_wp2
        refine wp_region_quiet_below (by kernel_rfl) (by kernel_rfl) ?_
        repeat (go_big_quiet_step ((go_at_call 128; exact Calls.regrown_of (frameRef_any _ (by first | omega | (simp <;> omega)) _))))
        refine wpQuiet_nil ?_
        intro w2 hb20
        have hb2 := below_of_regrown hb20
        clear hb20
        go_wp2_with fail
        go_ret2
        exact ⟨_, by rw [HD.out]; rfl, by rw [HD.out]; exact World.ownsRow_nil _ _ _ _, bthen hb1 hb2⟩
    · have HD := Lib.hid (scanL_no (l := L s) (fun h => by have := h.1; rw [L_len] at this; omega))
      go_enter Tryz.func180, Tryz.ntmps180
      go_wp2_with fail
      go_ret2
      exact ⟨_, by rw [HD.out]; rfl, by rw [HD.out]; exact World.ownsRow_nil _ _ _ _, Below.refl _ _⟩
/-- slices.Equal on two slices of the same strings. -/
theorem str_at {l : List (List UInt8)} {k : Nat} {u : Value} (h : (strCells l)[k]? = some u) : ∃ x, l[k]? = some x ∧ u = .string (S x) := by
  unfold strCells at h
  rw [List.getElem?_map] at h
  cases hx : l[k]? with
  | none => rw [hx] at h; simp at h
  | some x => rw [hx] at h; exact ⟨x, rfl, by simpa using h.symm⟩
set_option maxHeartbeats 400000 in
theorem equal_str_true (A B : Option Addr) (n c d BA BB : Nat) (l : List (List UInt8)) (w : World) (hn : n ≤ 9223372036854775807)
    (ha : Rd w BA 1 A n (strCells l)) (hb : Rd w BB 1 B n (strCells l)) :
    Calls Tryz.prog 40 #[.slice A n c, .slice B n d] w fun e w' => e = .returned (.bool true) ∧ Below w.heap.size w w' := by
  have Ha := Lib.hid ha; clear ha
  have Hb := Lib.hid hb; clear hb
  go_enter Tryz.func40, Tryz.ntmps40
  go_wp2
  go_loopw [13] (fun i wr => ∃ k m : Nat, k ≤ n ∧ i = .int .i64 k ∧ wr = w.drewN m) (fun i _ => n - (intOf i).toNat)
  case atStart => exact ⟨0, 0, Nat.zero_le _, rfl, rfl⟩
  case round =>
    obtain ⟨k, m, hk, rfl, rfl⟩ := hrel
    by_cases hlt : k < n
    · obtain ⟨ad, u, rfl, _, hu, hca⟩ := Ha.out.at_ hlt
      obtain ⟨bd, u', rfl, _, hu', hcb⟩ := Hb.out.at_ hlt
      rw [hu] at hu'
      obtain rfl : u = u' := by simpa using hu'
      obtain ⟨x, hx, rfl⟩ := str_at hu
      clear hu hu' hx
      generalize S x = sx at *
      go_wp2
      go_quiet (fail)
      go_wp2
      go_roundw
      case rel => exact ⟨k + 1, _, by omega, by go_num, rfl⟩
      case measure => simp [intOf]; omega
    · go_wp2
      go_ret
      exact ⟨rfl, below_drewN (Below.refl _ _) _⟩
theorem alike_str_true (A B : Option Addr) (n c d BA BB : Nat) (l : List (List UInt8)) (w : World) (hn : n ≤ 9223372036854775807)
    (ha : Rd w BA 1 A n (strCells l)) (hb : Rd w BB 1 B n (strCells l)) :
    Calls Tryz.prog 11 #[.slice A n c, .slice B n d] w fun e w' => e = .returned (.bool true) ∧ Below w.heap.size w w' := by
  have Ha := Lib.hid ha; clear ha
  have Hb := Lib.hid hb; clear hb
  go_enter Tryz.func11, Tryz.ntmps11
  go_wp2_with fail
  refine (equal_str_true A B n c d BA BB l w hn Ha.out Hb.out).mono ?_
  rintro e w1 ⟨rfl, hb1⟩
  go_wp2_with fail
  go_ret
  exact ⟨rfl, hb1⟩
end Go.Proofs.YtplgghjdidmcfaaGreatDoor
