/- word.Root and the document's root. -/
import Derived.Test.YtolnhplgaolieaaWord2

namespace Go.Proofs.Ytolnhplgaolieaa
open Go.RowKit
theorem pI_all (s : List UInt8) : pI s (s.length + 1) = (perAll s).map Int.ofNat := rfl
theorem rootN_hit {s : List UInt8} {k : Nat} (hk : k < (perAll s).length) (hn : ∀ j (h : j < (perAll s).length), j < k → s.length % (perAll s)[j] ≠ 0) (h0 : s.length % (perAll s)[k] = 0) : rootN s = (perAll s)[k] := by
  unfold rootN
  generalize perAll s = P at *
  have e : P = P.take k ++ P[k] :: P.drop (k + 1) := by
    rw [← List.drop_eq_getElem_cons hk, List.take_append_drop]
  have := rootF_hit s P[k] (P.drop (k + 1)) h0 (P.take k) fun q hq => by
    obtain ⟨j, hj, rfl⟩ := List.getElem_of_mem hq
    rw [List.length_take] at hj
    rw [List.getElem_take]
    exact hn j (by omega) (by omega)
  rw [← e] at this
  exact this
theorem rootN_miss {s : List UInt8} (hn : ∀ j (h : j < (perAll s).length), s.length % (perAll s)[j] ≠ 0) : rootN s = 0 := by
  unfold rootN
  refine rootF_miss s _ fun q hq => ?_
  obtain ⟨j, hj, rfl⟩ := List.getElem_of_mem hq
  exact hn j hj
theorem wrap_div {a b : Nat} (h : a ≤ 200) : wrap64 ((a : Int) / (b : Int)) = ((a / b : Nat) : Int) := by
  have : a / b ≤ a := Nat.div_le_self _ _
  rw [show (a : Int) / (b : Int) = ((a / b : Nat) : Int) from rfl]
  generalize a / b = q at *
  rw [IntWalk.wrap64_in _ ⟨by omega, by omega⟩]
theorem tmod_nat (a b : Nat) : Int.tmod (a : Int) (b : Int) = ((a % b : Nat) : Int) := by
  rw [Int.tmod_eq_emod_of_nonneg (by omega)]; omega
theorem tdiv_nat (a b : Nat) : Int.tdiv (a : Int) (b : Int) = ((a / b : Nat) : Int) := by
  rw [Int.tdiv_eq_ediv_of_nonneg (by omega)]; omega
set_option maxHeartbeats 1000000 in
theorem wordRoot_large (s : ByteArray) (hs : 200 < s.size) (w : World) :
    Calls Try.prog 23 #[.string s] w fun e w' => e = .returned (.tuple #[.string ⟨#[]⟩, .int .i64 0, .int .i64 2]) ∧ Below w.heap.size w w' := by
  go_enter Try.func23, Try.ntmps23
  go_wp2_with fail
  refine (wordPeriods_large s hs _).mono ?_
  rintro e w1 ⟨rfl, hb1⟩
  go_wp2_with fail
  go_ret3
  exact ⟨rfl, hb1⟩
set_option maxRecDepth 100000 in
set_option maxHeartbeats 4000000 in
theorem wordRoot_any (s : ByteArray) (hs : s.size ≤ 200) (w : World) :
    Calls Try.prog 23 #[.string s] w fun e w' => e = .returned (.tuple #[.string (S ((L s).take (rootN (L s)))), .int .i64 ((s.size / rootN (L s) : Nat) : Int), .int .i64 0]) ∧ Below w.heap.size w w' := by
  have hml : (pI (L s) (s.size + 1)).length = (perAll (L s)).length := by rw [pI, List.length_map, perAll, L_len]
  have hpm : pI (L s) (s.size + 1) = (perAll (L s)).map Int.ofNat := by rw [pI, perAll, L_len]
  have hPm : (perAll (L s)).length ≤ s.size + 1 := by have := pers_len (L s) (s.size + 1); rw [perAll, L_len]; exact this
  have HPP : Hid (∀ j (h : j < (perAll (L s)).length), 0 < (perAll (L s))[j] ∧ (perAll (L s))[j] ≤ s.size) := fun j h => by
    have := perAll_mem.1 (List.getElem_mem h)
    rw [L_len] at this
    exact ⟨this.1, this.2.1⟩
  have HHIT : Hid (∀ k (hk : k < (perAll (L s)).length), (∀ j (h : j < (perAll (L s)).length), j < k → s.size % (perAll (L s))[j] ≠ 0) → s.size % (perAll (L s))[k] = 0 → rootN (L s) = (perAll (L s))[k]) := fun k hk h1 h2 =>
    rootN_hit hk (by rw [L_len]; exact h1) (by rw [L_len]; exact h2)
  have HMISS : Hid ((∀ j (h : j < (perAll (L s)).length), s.size % (perAll (L s))[j] ≠ 0) → rootN (L s) = 0) := fun h1 => rootN_miss (by rw [L_len]; exact h1)
  generalize perAll (L s) = P at *
  generalize rootN (L s) = R at *
  have HML := Lib.hid hml
  have HPM := Lib.hid hpm
  clear hml hpm
  go_enter Try.func23, Try.ntmps23
  go_wp2_with fail
  refine (wordPeriods_any s hs _).mono ?_
  rintro e w1 ⟨v, rfl, hown1, hb1⟩
  rw [HML.out, HPM.out] at hown1
  obtain ⟨A, c, rfl, hnc, hcm, hrd⟩ := own_form hown1
  have HRD := Lib.hid hrd
  clear hrd hown1
  go_wp2_with fail
  go_loopw [19] (fun i wr => ∃ k : Nat, k ≤ P.length ∧ i = .int .i64 (k : Int) ∧ (∀ j (h : j < P.length), j < k → s.size % P[j] ≠ 0) ∧ wr = w1) (fun i _ => P.length - (intOf i).toNat)
  case atStart => exact ⟨0, Nat.zero_le _, rfl, fun j h h2 => absurd h2 (by omega), rfl⟩
  case round =>
    obtain ⟨k, hk, rfl, hno, rfl⟩ := hrel
    have HNO := Lib.hid hno
    clear hno
    by_cases hlt : k < P.length
    · obtain ⟨ad, u, rfl, hab, hu, hc⟩ := HRD.out.at_ hlt
      have hu' : u = .int .i64 ((P[k] : Nat) : Int) := by
        have : (ints (P.map Int.ofNat))[k]? = some (.int .i64 ((P[k] : Nat) : Int)) := by
          rw [ints, List.getElem?_map, List.getElem?_map, List.getElem?_eq_getElem hlt]; rfl
        rw [this] at hu; exact (Option.some.inj hu).symm
      subst hu'
      obtain ⟨hp0, hps⟩ := HPP.out k hlt
      have HH : Hid (s.size % P[k] = 0 → R = P[k]) := HHIT.out k hlt HNO.out
      have HN : Hid (s.size % P[k] ≠ 0 → ∀ j (h : j < P.length), j < k + 1 → s.size % P[j] ≠ 0) := fun h0 j h hj => by
        by_cases hjk : j = k
        · subst hjk; exact h0
        · exact HNO.out j h (by omega)
      clear hu
      generalize P[k] = p at *
      have hm : (s.size : Int) % (p : Int) = ((s.size % p : Nat) : Int) := by omega
      have hd : (s.size : Int) / (p : Int) = ((s.size / p : Nat) : Int) := by omega
      have HD := Lib.hid hd
      have HM := Lib.hid hm
      clear hm hd
      by_cases hz : s.size % p = 0
      · have g1 : ((s.size : Int) % (p : Int) == 0) = true := by rw [HM.out, hz]; rfl
        obtain rfl := HH.out hz
        clear HH HN hz
        go_wp2_with fail
        go_quiet (fail)
        go_wp2_with fail
        go_ret3
        refine ⟨?_, below_drewN hb1 _⟩
        show Ending.returned (.tuple #[.string (s.extract 0 R), .int .i64 (wrap64 ((s.size : Int) / (R : Int))), .int .i64 0]) = _
        rw [wrap_div hs, extract_S, List.drop_zero, Nat.sub_zero]
      · have g1 : ((s.size : Int) % (p : Int) == 0) = false := by rw [beq_eq_false_iff_ne, HM.out]; omega
        have HN1 := Lib.hid (HN.out hz)
        clear HH HN hz
        go_wp2_with fail
        go_roundw
        case rel => exact ⟨k + 1, by omega, by go_num, HN1.out, by first | rfl | trivial⟩
        case measure => simp [intOf]; omega
    · obtain rfl : k = P.length := by omega
      have HR0 : Hid (R = 0) := HMISS.out fun j h => HNO.out j h h
      go_wp2_with fail
      go_ret3
      rw [HR0.out]
      exact ⟨by simp [S], hb1⟩
end Go.Proofs.Ytolnhplgaolieaa
