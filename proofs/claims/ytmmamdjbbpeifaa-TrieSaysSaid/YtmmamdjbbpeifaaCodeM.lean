/- code.Make. -/
import Derived.Test.YtmmamdjbbpeifaaCodeB
import Derived.Test.YtmmamdjbbpeifaaCode1
import Derived.Test.YtmmamdjbbpeifaaStrC
namespace Go.Proofs.Ytmmamdjbbpeifaa
open Go.RowKit
def nInts (ns : List Nat) : List Int := ns.map fun (n : Nat) => (n : Int)
theorem share_nat (m : Nat) (h : m ≤ 12) : share (m : Int) = ((2 ^ (12 - m) : Nat) : Int) := by
  unfold share
  rw [show (12 - (m : Int)).toNat = 12 - m by omega, Int.natCast_pow]; rfl
theorem lensGo_nat {l : List Int} : ∀ {s x : Int}, lensGo s l = (x, 0) → ∃ ns : List Nat, l = nInts ns ∧ (∀ m ∈ ns, 1 ≤ m ∧ m ≤ 12) ∧ x = s + (total ns : Nat) := by
  induction l with
  | nil =>
    intro s x h
    simp only [lensGo, Prod.mk.injEq] at h
    exact ⟨[], rfl, by simp, by simp [total, h.1]⟩
  | cons n r ih =>
    intro s x h
    rw [lensGo] at h
    by_cases hn : n < 1 ∨ 12 < n
    · rw [if_pos hn] at h; simp at h
    · rw [if_neg hn] at h
      obtain ⟨m, rfl⟩ := Int.eq_ofNat_of_zero_le (show 0 ≤ n by omega)
      obtain ⟨ns, rfl, h1, h2⟩ := ih h
      refine ⟨m :: ns, rfl, ?_, ?_⟩
      · intro y hy
        rcases List.mem_cons.1 hy with rfl | hy
        · omega
        · exact h1 y hy
      · rw [h2, share_nat m (by omega)]
        simp only [total]
        omega
theorem lensErr_nat {l : List Int} {x : Int} (h : lensErr l = (x, 0)) : ∃ ns : List Nat, l = nInts ns ∧ (∀ m ∈ ns, 1 ≤ m ∧ m ≤ 12) ∧ ns.length ≤ 12 ∧ x = (total ns : Nat) := by
  unfold lensErr at h
  by_cases h12 : 12 < l.length
  · rw [if_pos h12] at h; simp at h
  · rw [if_neg h12] at h
    obtain ⟨ns, rfl, h1, h2⟩ := lensGo_nat h
    exact ⟨ns, rfl, h1, by simpa [nInts] using h12, by omega⟩
theorem nInts_len (ns : List Nat) : (nInts ns).length = ns.length := by simp [nInts]
theorem nInts_get (ns : List Nat) (k : Nat) (h : k < (nInts ns).length) : (nInts ns)[k] = ((ns.getD k 0 : Nat) : Int) := by
  have h2 : k < ns.length := by rwa [nInts_len] at h
  simp [nInts, List.getD_eq_getElem?_getD, List.getElem?_eq_getElem h2]
theorem pow_shr (n : Nat) (h : n ≤ 12) : (12 - (n : Int)).toNat = 12 - n := by omega
theorem made_one (z : Value) (hz : z.cells = #[z]) (m : Nat) : (madeCells z.cells (m * 1)).toList = List.replicate m z := by
  rw [hz]
  apply List.ext_getElem
  · simp [size_madeCells]
  · intro j h1 h2
    simp [madeCells, Nat.mod_one]
theorem pw_bd (n : Nat) : 1 ≤ 2 ^ (12 - n) ∧ 2 ^ (12 - n) ≤ 4096 := ⟨Nat.one_le_two_pow, Nat.le_trans (Nat.pow_le_pow_right (by omega) (Nat.sub_le _ _)) (by decide)⟩
theorem pw_add (a n : Nat) (h : a ≤ 4096) : wrap64 ((a : Int) + wrap64 (2 ^ (12 - n))) = ((a + 2 ^ (12 - n) : Nat) : Int) := by
  have hp := pw_bd n
  have e : (2 : Int) ^ (12 - n) = ((2 ^ (12 - n) : Nat) : Int) := by rw [Int.natCast_pow]; rfl
  rw [e, IntWalk.wrap64_in ((2 ^ (12 - n) : Nat) : Int) ⟨by omega, by omega⟩, IntWalk.wrap64_in _ ⟨by omega, by omega⟩]; omega
theorem div_cast (a n : Nat) : (a : Int) / 2 ^ n = ((a / 2 ^ n : Nat) : Int) := by rw [Int.natCast_ediv, Int.natCast_pow]; rfl
set_option maxRecDepth 100000 in
set_option maxHeartbeats 2000000 in
theorem coMake_any (ns : List Nat) (x : Int) (A : Option Addr) (m c B : Nat) (w : World) (hr : Rd w B 1 A m (ints (nInts ns))) (hB : B ≤ w.heap.size) (hE : lensErr (nInts ns) = (x, 0)) (hns : ∀ m ∈ ns, 1 ≤ m ∧ m ≤ 12) (h12 : ns.length ≤ 12) (hx : x = (total ns : Nat)) (ht : total ns ≤ 4096) :
    Calls Try.prog 63 #[.slice A m c] w fun e w' => ∃ v, e = .returned (.tuple #[v, .int .i64 0]) ∧ w'.ownsRow w.heap.size 9 1 v m (strCells (codesL ns)) ∧ Below w.heap.size w w' := by
  obtain ⟨i0, hi0, hz0, hz1, hz2⟩ := info_parts info_str
  have hlen := ints_len hr
  rw [nInts_len] at hlen
  have hm12 : m ≤ 12 := by omega
  have HR := Lib.hid hr; clear hr
  have HL := Lib.hid hlen; clear hlen
  have HE := Lib.hid hE; clear hE
  have HX := Lib.hid hx; clear hx
  have HNS := Lib.hid hns; clear hns
  go_enter Try.func63, Try.ntmps63
  go_wp2_with fail
  refine (coSum_any (nInts ns) A m c B w HR.out (by omega)).mono ?_
  rintro e w1 ⟨rfl, hb1⟩
  rw [HE.out, HX.out]
  have g1 : decide ((4096 : Int) < ((total ns : Nat) : Int)) = false := decide_eq_false (by omega)
  go_wp2_with (at_make; go_must (refine wpList_make_full _ rfl _ _ _ rfl w.heap.size 9 i0 _ 1 Try.underlying36 hi0 hz0 hz1 .i64 .i64 _ _ m rfl rfl rfl rfl (by rw [hz2]; omega) (by unfold maxLen; omega) hb1.size ?_); intro w2 hown2 hg2)
  have hb2 : Below w.heap.size w w2 := hb1.grown hg2 hb1.size (fun _ h => by cases h)
  have hgz : w.heap.size ≤ w1.heap.size := hb1.size
  have hown2 : w2.ownsRow w.heap.size 9 1 (.slice (some ⟨w1.heap.size, 0, none⟩) m m) m (strCells (outAt ns 1 0)) := by
    rw [outAt_one (fun y hy => (HNS.out y hy).1), HL.out]
    have e : strCells (List.replicate m []) = List.replicate m (.string ByteArray.empty) := by rw [strCells, List.map_replicate]; rfl
    rw [made_one _ rfl] at hown2
    rw [e]; exact hown2
  clear hg2 hb1
  generalize w1.heap.size = g at *
  go_loopw [7, 8] (fun nxt n wr => ∃ n' : Nat, 1 ≤ n' ∧ n' ≤ 13 ∧ n = .int .i64 n' ∧ nxt = .int .i64 (nx ns n' 0 : Nat) ∧ wr.ownsRow w.heap.size 9 1 (.slice (some ⟨g, 0, none⟩) m m) m (strCells (outAt ns n' 0)) ∧ Below w.heap.size w wr) (fun _ n _ => 13 - (intOf n).toNat)
  case atStart => exact ⟨1, Nat.le_refl _, by omega, rfl, by rw [nx_one (fun y hy => (HNS.out y hy).1)]; rfl, hown2, hb2⟩
  case round =>
    obtain ⟨n, hn1, hn13, rfl, rfl, hown, hb⟩ := hrel
    by_cases hn12 : n ≤ 12
    · have g12 : decide ((n : Int) ≤ 12) = true := decide_eq_true (by omega)
      go_wp2_with fail
      go_loopw [7, 30] (fun nxt i wr => ∃ k : Nat, k ≤ m ∧ i = .int .i64 k ∧ nxt = .int .i64 (nx ns n k : Nat) ∧ wr.ownsRow w.heap.size 9 1 (.slice (some ⟨g, 0, none⟩) m m) m (strCells (outAt ns n k)) ∧ Below w.heap.size w wr) (fun _ i _ => m - (intOf i).toNat)
      case atStart => exact ⟨0, Nat.zero_le _, rfl, rfl, hown, hb⟩
      case round =>
        obtain ⟨k, hk, rfl, rfl, hown, hb⟩ := hrel
        have hbs := hb.size
        by_cases hlt : k < m
        · obtain ⟨ad, hl, rfl, hab, c0⟩ := int_cell (HR.out.below (hb.mono hB)) hlt
          rw [nInts_get] at c0
          by_cases hkn : ns.getD k 0 = n
          · rw [hkn] at c0
            have hq : nx ns n k + 2 ^ (12 - n) ≤ 4096 := by
              have h1 := nx_hit (ns := ns) (n := n) (i := k) (by rw [← hkn, List.getD_eq_getElem?_getD, List.getElem?_eq_getElem (by rw [HL.out]; exact hlt)]; rfl)
              have h2 := nx_le ns n (k + 1)
              omega
            have hW : Hid (bw (nx ns n k / 2 ^ (12 - n)) n = wdAt ns k) := by unfold Hid wdAt; rw [hkn]
            have hOH := Lib.hid (outAt_hit (ns := ns) (n := n) (i := k) hkn)
            have hNH := Lib.hid (nx_hit (ns := ns) (n := n) (i := k) (by rw [← hkn, List.getD_eq_getElem?_getD, List.getElem?_eq_getElem (by rw [HL.out]; exact hlt)]; rfl))
            have hp := pw_bd n
            have hnx : nx ns n k < 4096 := by omega
            clear hkn
            go_wp2_with fail
            rw [div_cast]
            refine (bits_any (nx ns n k / 2 ^ (12 - n)) n (Nat.lt_of_le_of_lt (Nat.div_le_self _ _) hnx) hn12 _).mono ?_
            rintro e w4 ⟨rfl, hb4⟩
            rw [hW.out]
            have hown4 := own_below hown hb4
            have hB4 := bthen hb hb4
            have k0 := hown4.cellAt k (by omega)
            rw [strCells_at _ _ (by rw [outAt_len, HL.out]; exact hlt)] at k0
            have k1 := hown4.frozenAt k
            have hs4 := hB4.size
            have hst := (hown4.stored k (.string (S (wdAt ns k)))).1
            have hgb : w.heap.size ≤ g := (hown4.lt g rfl).1
            rw [← strCells_set, ← hOH.out] at hst
            have HST := Lib.hid hst
            clear hst hown hown4
            generalize (outAt ns n k).getD k [] = old at *
            generalize wdAt ns k = wk at *
            go_wp2_with fail
            go_roundw
            case rel => exact ⟨k + 1, by omega, by go_num, by rw [pw_add _ _ (by omega), hNH.out], HST.out, (by repeat (first | exact Below.refl _ _ | assumption | refine Below.alloc ?_ (by first | exact Nat.le_refl _ | assumption | omega | (simp <;> omega)) _ | refine Below.setCell ?_ (by first | exact Nat.le_refl _ | assumption | omega | (simp <;> omega)) _ | refine Below.drew ?_ | refine below_drewN ?_ _))⟩
            case measure => simp [intOf]; omega
          · have hOM := Lib.hid (outAt_miss (ns := ns) (n := n) (i := k) hkn)
            have hNM := Lib.hid (nx_miss (ns := ns) (n := n) (i := k) (fun h => hkn (by rw [List.getD_eq_getElem?_getD, h]; rfl)))
            have g2 : (((ns.getD k 0 : Nat) : Int) == (n : Int)) = false := by rw [beq_eq_false_iff_ne]; omega
            clear hkn
            generalize ns.getD k 0 = q at *
            go_wp2_with fail
            go_roundw
            case rel => exact ⟨k + 1, by omega, by go_num, by rw [hNM.out], by rw [hOM.out]; exact hown, hb⟩
            case measure => simp [intOf]; omega
        · obtain rfl : k = m := by omega
          have hNN : Hid (nx ns (n + 1) 0 = nx ns n k) := by unfold Hid; rw [nx_next, HL.out]
          have hON : Hid (outAt ns (n + 1) 0 = outAt ns n k) := by unfold Hid; rw [outAt_next, HL.out]
          go_wp2_with fail
          go_roundw
          case rel => exact ⟨n + 1, by omega, by omega, by go_num, by rw [hNN.out], by rw [hON.out]; exact hown, hb⟩
          case measure => simp [intOf]; omega
    · obtain rfl : n = 13 := by omega
      have hOE : Hid (outAt ns 13 0 = codesL ns) := outAt_end (fun y hy => (HNS.out y hy).2)
      go_wp2_with fail
      go_ret2
      exact ⟨_, rfl, by rw [← hOE.out]; exact hown, hb⟩
end Go.Proofs.Ytmmamdjbbpeifaa
