/- slices.Reverse at bytes, and the document's Mirror. -/
import Derived.Test.YtmmamdjbbpeifaaLogW
import Derived.Test.YtmmamdjbbpeifaaMirrA
import Derived.Shelf.RegionOpenPlain
import Derived.Deep.LoopGhost
import Derived.Lib.Walk
import Derived.Sort.WalkB12
import Derived.Lib.SlicesMore
import Derived.Lib.OwnBridge
import Derived.Lib.ConvBytes
namespace Go.Proofs.Ytmmamdjbbpeifaa
open Go.RowKit Go.Proofs Go.Lib Go.Sort
def encB (b : UInt8) : Value := .int .u8 (b.toNat : Int)
theorem holds_bytes (w : World) (s : ByteArray) : Holds encB (Lib.bytesWorld w 5 s) w.heap.size 0 s.data := fun j hj => by
  rw [Nat.zero_add]
  refine ⟨?_, ?_⟩
  · rw [Lib.bytesWorld_cell w 5 s j hj, encB, getElem!_pos _ j hj, List.getD_eq_getElem?_getD, Array.getElem?_toList, Array.getElem?_eq_getElem hj]
    rfl
  · have h := Lib.bytesWorld_at_new w 5 s
    have h2 : s.data.size ≤ (Lib.bytesCells w 5 s).size := by simp [Lib.bytesCells]
    simp [World.frozen?, h]
    omega
set_option maxHeartbeats 1600000 in
set_option maxRecDepth 1000000 in
theorem rev_any (g c : Nat) (d : Array UInt8) (w0 w : World) (hH : Holds encB w g 0 d) (hg : w0.heap.size ≤ g) (hb : Below w0.heap.size w0 w) (hsz : d.size ≤ 9223372036854775807) :
    Calls Try.prog 72 #[.slice (some ⟨g, 0, none⟩) d.size c] w fun e w' => e = .returned (.tuple #[]) ∧ Holds encB w' g 0 d.reverse ∧ Below w0.heap.size w0 w' := by
  go_enter Try.func72, Try.ntmps72
  go_wp2
  go_loopg [2, 3] d.size (fun q s2 s3 wr => ∃ (i jn : Nat) (jz : Int) (dk : Array UInt8), s2 = .int .i64 i ∧ s3 = .int .i64 jz ∧ ((i : Int) < jz → jz = jn ∧ jn < d.size) ∧ (¬ (i : Int) < jz → ¬ i < jn) ∧ jn - i ≤ q ∧
    dk.size = d.size ∧ Holds encB wr g 0 dk ∧ Below w0.heap.size w0 wr ∧ reverseLoop i jn dk = reverseLoop 0 (d.size - 1) d)
  case atStart => exact ⟨0, d.size - 1, (d.size : Int) - 1, d, rfl, rfl, fun h => ⟨by omega, by omega⟩, fun h => by omega, by omega, rfl, hH, hb, rfl⟩
  case round =>
    obtain ⟨i, jn, jz, dk, rfl, rfl, h1, h2, hq, hds, hHk, hbk, heq⟩ := hrel
    by_cases hlt : (i : Int) < jz
    · obtain ⟨rfl, hjn⟩ := h1 hlt
      have hij : i < jn := by omega
      have hi : i < d.size := by omega
      have mixed : Try.prog.follows Departure.mixedOrders = true := by kernel_rfl
      obtain ⟨ci, fi⟩ := hHk i (by omega)
      obtain ⟨cj, fj⟩ := hHk jn (by omega)
      rw [Nat.zero_add] at ci fi cj fj
      unfold encB at ci cj
      have HK := Lib.hid hHk
      have HB := Lib.hid hbk
      clear hHk hbk hH hb h1 h2
      go_wp2_with fail
      go_region_o
      go_wp2
      go_roundg (jn - 1 - (i + 1))
      case measure => omega
      case rel =>
        rw [reverseLoop, if_pos hij] at heq
        have hwr : wr = putRow encB (Sort.ahead wr 0) g 0 dk := by rw [ahead_zero, putRow_self encB wr g 0 dk HK.out]
        have hsw := swap_world encB (by omega) (by omega) hwr (x := encB dk[jn]!) (y := encB dk[i]!) rfl rfl
        rw [Nat.zero_add, Nat.zero_add] at hsw
        have hsw' : ((wr.setCell ⟨g, i, none⟩ (.int .u8 (dk[jn]!.toNat : Int))).setCell ⟨g, jn, none⟩ (.int .u8 (dk[i]!.toNat : Int))).drew = putRow encB (Sort.ahead wr (0 + 1)) g 0 (swp dk i jn) := hsw
        rw [getElem!_pos dk jn (by omega), getElem!_pos dk i (by omega)] at hsw'
        refine ⟨i + 1, jn - 1, (jn : Int) - 1, swp dk i jn, by simp, rfl, fun h => ⟨by omega, by omega⟩, fun h => by omega, Nat.le_refl _, by rw [size_swp]; exact hds, ?_, ?_, heq⟩
        · rw [hsw']
          exact holds_putRow encB _ g 0 dk _ (holds_ahead encB wr _ g 0 dk HK.out) (size_swp _ _ _)
        · rw [hsw']
          exact Lib.below_putRow HB.out hg
    · have hnot := h2 hlt
      go_wp2
      go_end0
      rw [reverseLoop, if_neg hnot] at heq
      rw [← Lib.reverseLoop_reverse, ← heq]
      exact ⟨rfl, hHk, hbk⟩
theorem holds_rd {w : World} {g : Nat} {d : Array UInt8} (h : Holds encB w g 0 d) : Rd w (g + 1) 1 (some ⟨g, 0, none⟩) d.size (byteCells d.toList) := by
  refine ⟨by simp [byteCells], fun _ => ⟨_, rfl, Nat.lt_succ_self _, fun j u hu => ?_⟩⟩
  have hj : j < d.size := by
    have := (List.getElem?_eq_some_iff.1 hu).1
    simpa [byteCells] using this
  have hadd : (⟨g, 0, none⟩ : Addr).add j = ⟨g, j, none⟩ := by unfold Addr.add; split <;> simp_all
  have h1 := (h j hj).1
  rw [Nat.zero_add, getElem!_pos d j hj] at h1
  rw [hadd, h1, ← hu, byteCells, List.getElem?_map, Array.getElem?_toList, Array.getElem?_eq_getElem hj]
  rfl
theorem mirB_S (s : ByteArray) : ((⟨(L s).reverse.toArray⟩ : ByteArray).toList == s.toList) = mirB (L s) := by
  rw [beqB, mirB]
  congr 1
  rw [eq_iff_iff]
  constructor
  · intro h; exact congrArg L h
  · intro h; exact L_inj h
set_option maxHeartbeats 4000000 in
theorem refMirror_any (s : ByteArray) (hs : s.size ≤ 9223372036854775807) (w : World) :
    Calls Try.prog 42 #[.string s] w fun e w' => e = .returned (.bool (mirB (L s))) ∧ Below w.heap.size w w' := by
  have hcv := fun W => Lib.run_convert_string_bytes (P := Try.prog) W 9 68 5 s Try.underlying9 Try.underlying68 Try.underlying5
  have HM : Hid (((L s).reverse == s.toList) = mirB (L s)) := by
    have h := mirB_S s
    unfold Hid
    simpa using h
  go_enter Try.func42, Try.ntmps42
  have hb2 : Below w.heap.size w (Lib.bytesWorld w 5 s) := bytesWorld_below w _ s
  have HH : Hid (Holds encB (Lib.bytesWorld w 5 s) w.heap.size 0 s.data) := holds_bytes w s
  go_wp2_with fail
  generalize Lib.bytesWorld w 5 s = w2 at *
  generalize grownCap w s.size 0 5 = c9 at *
  clear hcv
  refine (rev_any w.heap.size _ s.data w w2 HH.out (Nat.le_refl _) hb2 hs).mono ?_
  rintro e w3 ⟨rfl, hH3, hb3⟩
  have hrd := holds_rd hH3
  rw [Array.toList_reverse, Array.size_reverse] at hrd
  have hcv2 := run_bytes_string (P := Try.prog) (c := c9) _ Try.underlying68 Try.underlying5 Try.underlying9 hrd
  have hcv3 : (convert 68 9 (.slice (some ⟨w.heap.size, 0, none⟩) s.size c9)).run Try.prog w3 = .ok (.string ⟨(L s).reverse.toArray⟩) w3 := hcv2
  clear hcv2 hrd hH3 HH hb2
  generalize (L s).reverse = q at *
  go_wp2_with fail
  go_ret
  exact ⟨ret_bool HM.out, hb3⟩
end Go.Proofs.Ytmmamdjbbpeifaa
