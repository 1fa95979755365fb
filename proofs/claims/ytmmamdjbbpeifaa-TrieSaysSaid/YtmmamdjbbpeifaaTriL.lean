/- The law TrieSays, walked. -/
import Derived.Test.YtmmamdjbbpeifaaTriG
import Derived.Test.YtmmamdjbbpeifaaTriI
namespace Go.Proofs.Ytmmamdjbbpeifaa
open Go.RowKit
theorem Rd.at_hit {w : World} {B n k : Nat} {A : Option Addr} {l : List (Nat × Nat)} (h : Rd w B 2 A n (hcCells l)) (hk : k < n) : ∃ ad, ∃ hl : k < l.length, A = some ad ∧ ad.block < B ∧ w.cell? (ad.add (k * 2)) = some (.int .i64 (l[k].1 : Int)) ∧ w.cell? ⟨(ad.add (k * 2)).block, (ad.add (k * 2)).off + 1, none⟩ = some (.int .i64 (l[k].2 : Int)) := by
  obtain ⟨ad, hl, e, hb, hc⟩ := Rd.at_rec hc_len (by omega) h hk
  refine ⟨ad, hl, e, hb, hc 0 _ rfl, ?_⟩
  have h1 := hc 1 _ rfl
  rwa [← add_add] at h1
set_option maxHeartbeats 400000 in
theorem equal_hit_true (A B : Option Addr) (n c d BA BB : Nat) (l : List (Nat × Nat)) (w : World) (hn : n ≤ 9223372036854775807)
    (ha : Rd w BA 2 A n (hcCells l)) (hb : Rd w BB 2 B n (hcCells l)) :
    Calls Try.prog 58 #[.slice A n c, .slice B n d] w fun e w' => e = .returned (.bool true) ∧ Below w.heap.size w w' := by
  have Ha := Lib.hid ha; clear ha
  have Hb := Lib.hid hb; clear hb
  go_enter Try.func58, Try.ntmps58
  go_wp2
  go_loopw [13] (fun i wr => ∃ k m : Nat, k ≤ n ∧ i = .int .i64 k ∧ wr = w.drewN m) (fun i _ => n - (intOf i).toNat)
  case atStart => exact ⟨0, 0, Nat.zero_le _, rfl, rfl⟩
  case round =>
    obtain ⟨k, m, hk, rfl, rfl⟩ := hrel
    by_cases hlt : k < n
    · obtain ⟨ad, hl, rfl, _, hc0, hc1⟩ := Ha.out.at_hit hlt
      obtain ⟨bd, _, rfl, _, hd0, hd1⟩ := Hb.out.at_hit hlt
      generalize l[k] = u at *
      obtain ⟨p, q⟩ := u
      simp only at hc0 hc1 hd0 hd1
      go_wp2
      go_quiet (fail)
      go_wp2
      go_roundw
      case rel => exact ⟨k + 1, _, by omega, by go_num, rfl⟩
      case measure => simp [intOf]; omega
    · go_wp2
      go_ret
      exact ⟨rfl, below_drewN (Below.refl _ _) _⟩
theorem alike_hit_true (A B : Option Addr) (n c d BA BB : Nat) (l : List (Nat × Nat)) (w : World) (hn : n ≤ 9223372036854775807)
    (ha : Rd w BA 2 A n (hcCells l)) (hb : Rd w BB 2 B n (hcCells l)) :
    Calls Try.prog 28 #[.slice A n c, .slice B n d] w fun e w' => e = .returned (.bool true) ∧ Below w.heap.size w w' := by
  have Ha := Lib.hid ha; clear ha
  have Hb := Lib.hid hb; clear hb
  go_enter Try.func28, Try.ntmps28
  go_wp2_with fail
  refine (equal_hit_true A B n c d BA BB l w hn Ha.out Hb.out).mono ?_
  rintro e w1 ⟨rfl, hb1⟩
  go_wp2_with fail
  go_ret
  exact ⟨rfl, hb1⟩
def nmT (ps : List (List UInt8)) (hd : List UInt8) (k : Nat) : List (List UInt8) := (ps.take k).filter fun p => hd.isPrefixOf p
theorem nmT_snoc {ps : List (List UInt8)} {hd : List UInt8} {k : Nat} (hk : k < ps.length) : nmT ps hd (k + 1) = nmT ps hd k ++ (if hd.isPrefixOf (ps.getD k []) then [ps.getD k []] else []) := by
  unfold nmT
  rw [List.take_add_one, List.getElem?_eq_getElem hk, List.filter_append]
  congr 1
  have e : ps.getD k [] = ps[k] := by rw [List.getD_eq_getElem?_getD, List.getElem?_eq_getElem hk]; rfl
  rw [e]
  show List.filter (fun p => hd.isPrefixOf p) [ps[k]] = _
  rw [List.filter_cons, List.filter_nil]
theorem nmT_len {ps : List (List UInt8)} {hd : List UInt8} (k : Nat) : (nmT ps hd k).length ≤ k := by
  unfold nmT
  refine Nat.le_trans (List.length_filter_le _ _) ?_
  rw [List.length_take]; omega
theorem nmT_sort (ps : List (List UInt8)) (hd : List UInt8) : sortB (nmT ps hd ps.length) = (frS ps hd).map fun i => ps.getD i [] := by
  rw [frS_names, frN_names]
  unfold nmT
  rw [List.take_length]
set_option maxRecDepth 100000 in
set_option maxHeartbeats 4000000 in
theorem trieBad_any (s head : ByteArray) (A : Option Addr) (n c : Nat) (ps : List (List UInt8)) (w : World) (hr : Rd w w.heap.size 1 A n (strCells ps)) (hn : n ≤ c) (hnc : n ≤ 140737488351232) (hx : ∀ x ∈ ps, x.length ≤ maxLen) (h : patErr ps ≠ 0) :
    Calls Try.prog 5 #[.string s, .slice A n c, .string head] w fun e w' => e = .returned (.bool true) ∧ Below w.heap.size w w' := by
  have g1 : (patErr ps != 0) = true := by rw [bne_iff_ne]; exact h
  have HFR : Hid (∀ W, Below w.heap.size w W → _) := fun W hW => frontsErr_any head A n c w.heap.size ps W (hr.below hW) hn hW.size hnc hx h
  have HPE : Hid (∀ W, Below w.heap.size w W → _) := fun W hW => patsErr_any A n c w.heap.size ps W (hr.below hW) (by omega) hnc hx
  have HCK : Hid (∀ W, Below w.heap.size w W → _) := fun W hW => trieCheck_any A n c w.heap.size ps W (hr.below hW) hn hnc hx
  by_cases hs : longErr s.size = 0
  · have HF := Lib.hid (findPat_any s A n c w.heap.size ps w hr hn (Nat.le_refl _) hnc hx hs h)
    have HL : Hid (longAll [s] = 0) := by rw [Hid, longAll_one]; exact hs
    clear hr hx h hs
    generalize patErr ps = er at *
    go_enter Try.func5, Try.ntmps5
    go_wp2_with fail
    refine HF.out.mono ?_
    rintro e w1 ⟨rfl, hb1⟩
    go_wp2_with fail
    refine (HFR.out w1 hb1).mono ?_
    rintro e w2 ⟨rfl, hb2⟩
    have hB2 := bthen hb1 hb2
    go_wp2_with fail
    refine (HPE.out w2 hB2).mono ?_
    rintro e w3 ⟨rfl, rfl⟩
    go_wp2_with fail
    refine (HCK.out w3 hB2).mono ?_
    rintro e w4 ⟨rfl, rfl⟩
    go_wp2_with fail
    refine (long_any [s] _ 1 _ (w4.heap.size + 1) _ (Rd.new_ (size := 1) (n := 1) w4 _ _ (Nat.lt_succ_self _) rfl) (by omega)).mono ?_
    rintro e w5 ⟨rfl, hb5⟩
    rw [HL.out]
    have hB5 := bthen (hB2.alloc hB2.size _) hb5
    go_wp2_with fail
    go_ret
    exact ⟨ret_bool (by simp), hB5⟩
  · have HF := Lib.hid (findLong_any s A n c w hs)
    have HL : Hid (longAll [s] = longErr s.size) := by rw [Hid, longAll_one]
    have g2 : (longErr s.size != 0) = true := by rw [bne_iff_ne]; exact hs
    clear hr hx h hs
    generalize longErr s.size = le at *
    generalize patErr ps = er at *
    go_enter Try.func5, Try.ntmps5
    go_wp2_with fail
    refine HF.out.mono ?_
    rintro e w1 ⟨rfl, hb1⟩
    go_wp2_with fail
    refine (HFR.out w1 hb1).mono ?_
    rintro e w2 ⟨rfl, hb2⟩
    have hB2 := bthen hb1 hb2
    go_wp2_with fail
    refine (HPE.out w2 hB2).mono ?_
    rintro e w3 ⟨rfl, rfl⟩
    go_wp2_with fail
    refine (HCK.out w3 hB2).mono ?_
    rintro e w4 ⟨rfl, rfl⟩
    go_wp2_with fail
    refine (long_any [s] _ 1 _ (w4.heap.size + 1) _ (Rd.new_ (size := 1) (n := 1) w4 _ _ (Nat.lt_succ_self _) rfl) (by omega)).mono ?_
    rintro e w5 ⟨rfl, hb5⟩
    rw [HL.out]
    have hB5 := bthen (hB2.alloc hB2.size _) hb5
    go_wp2_with fail
    go_ret
    exact ⟨ret_bool (by simp), hB5⟩
end Go.Proofs.Ytmmamdjbbpeifaa
