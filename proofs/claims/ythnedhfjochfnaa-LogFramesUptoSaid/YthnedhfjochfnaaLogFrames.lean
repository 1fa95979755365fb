/- The law LogFrames, walked: frames and scans are the reference's, for strings of at most 16777216 bytes. -/
import Derived.Test.YthnedhfjochfnaaLogW
namespace Go.Proofs.Ythnedhfjochfnaa
open Go.RowKit
set_option maxRecDepth 100000 in
set_option maxHeartbeats 1000000 in
theorem logFrames_any (r s : ByteArray) (hs : s.size ≤ 16777216) (w : World) :
    Calls Try.prog 5 #[.string r, .string s] w fun e w' => e = .returned (.bool true) ∧ Below w.heap.size w w' := by
  have hcnt := scanL_count (L s)
  rw [L_len] at hcnt
  by_cases hr : r.size ≤ 1100
  · go_enter Try.func5, Try.ntmps5
    go_wp2_with fail
    refine (frame_any r hr _).mono ?_
    rintro e w1 ⟨rfl, hb1⟩
    go_wp2_with fail
    refine (scan_any s hs _).mono ?_
    rintro e w2 ⟨v2, rfl, hown2, hb2⟩
    obtain ⟨A2, c2, rfl, _, _, hrd2⟩ := own_form hown2
    clear hown2
    go_wp2_with fail
    refine (frameRef_any r hr _).mono ?_
    rintro e w3 ⟨rfl, hb3⟩
    go_wp2_with fail
    refine (scanRef_any _ s hs (Nat.le_refl _) _).mono ?_
    rintro e w4 ⟨v4, rfl, hown4, hb4⟩
    obtain ⟨A4, c4, rfl, _, _, hrd4⟩ := own_form hown4
    clear hown4
    go_wp2_with fail
    refine (alike_str_true _ _ _ _ _ _ _ _ _ (by omega) ((hrd2.below hb3).below (hb4.mono hb3.size)) hrd4).mono ?_
    rintro e w5 ⟨rfl, hb5⟩
    go_wp2_with fail
    go_ret
    exact ⟨rfl, bthen (bthen (bthen (bthen hb1 hb2) hb3) hb4) hb5⟩
  · have hnil : (S []).toList = [] := ByteArray.toList_mk []
    go_enter Try.func5, Try.ntmps5
    go_wp2_with fail
    refine (frame_large r (by omega) _).mono ?_
    rintro e w1 ⟨rfl, hb1⟩
    go_wp2_with fail
    refine (scan_any s hs _).mono ?_
    rintro e w2 ⟨v2, rfl, hown2, hb2⟩
    obtain ⟨A2, c2, rfl, _, _, hrd2⟩ := own_form hown2
    clear hown2
    go_wp2_with fail
    refine (scanRef_any _ s hs (Nat.le_refl _) _).mono ?_
    rintro e w4 ⟨v4, rfl, hown4, hb4⟩
    obtain ⟨A4, c4, rfl, _, _, hrd4⟩ := own_form hown4
    clear hown4
    go_wp2_with fail
    refine (alike_str_true _ _ _ _ _ _ _ _ _ (by omega) (hrd2.below hb4) hrd4).mono ?_
    rintro e w5 ⟨rfl, hb5⟩
    go_wp2_with fail
    go_ret
    exact ⟨rfl, bthen (bthen (bthen hb1 hb2) hb4) hb5⟩
end Go.Proofs.Ythnedhfjochfnaa
