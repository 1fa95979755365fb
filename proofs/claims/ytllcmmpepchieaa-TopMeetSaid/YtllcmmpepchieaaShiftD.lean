/- The walk of shift.Do. -/
import Derived.Test.YtllcmmpepchieaaShiftW
import Derived.Test.YtllcmmpepchieaaSched
namespace Go.Proofs.Ytllcmmpepchieaa
open Go.RowKit
/-- What an operation makes of a text. -/
def doB (s : ByteArray) (x : Op) : ByteArray :=
  if x.kind = 1 then s.extract 0 x.pos.toNat ++ S [UInt8.ofNat x.b.toNat] ++ s.extract x.pos.toNat s.size
  else if x.kind = 2 then s.extract 0 x.pos.toNat ++ s.extract (x.pos.toNat + 1) s.size
  else s
theorem one_cells (b : Int) (h0 : 0 ≤ b) (h1 : b < 256) : (#[Value.int .u8 b] : Array Value).toList = byteCells [UInt8.ofNat b.toNat] := by
  have h : b = ((UInt8.ofNat b.toNat).toNat : Int) := by rw [UInt8.toNat_ofNat']; omega
  rw [byteCells, List.map_cons, ← h]; rfl
set_option maxRecDepth 100000 in
set_option maxHeartbeats 2000000 in
theorem shDo_one (s : ByteArray) (hs : s.size ≤ 200) (p b : Int) (h0 : 0 ≤ p) (h1 : p ≤ s.size) (hb0 : 0 ≤ b) (hb1 : b < 256) (hE : opErr s.size ⟨1, p, b⟩ = 0) (w : World) :
    Calls Try.prog 43 #[.string s, .agg #[.int .i64 1, .int .i64 p, .int .u8 b]] w fun e w' => e = .returned (.tuple #[.string (doB s ⟨1, p, b⟩), .int .i64 0]) ∧ Below w.heap.size w w' := by
  have HE := Lib.hid hE; clear hE
  have hcv : ∀ o0 o1, (convert 63 9 (.slice (some ⟨w.heap.size + 1 + 1, 0, none⟩) 1 1)).run Try.prog ((((w.alloc o0).alloc o1).alloc (.cells #[.int .u8 b] 5)).drew) = .ok (.string (S [UInt8.ofNat b.toNat])) ((((w.alloc o0).alloc o1).alloc (.cells #[.int .u8 b] 5)).drew) := fun o0 o1 =>
    run_bytes_string _ Try.underlying63 Try.underlying5 Try.underlying9 (B := w.heap.size + 1 + 1 + 1) (l := [UInt8.ofNat b.toNat]) (by
      rw [← one_cells b hb0 hb1]
      have := Rd.new_ (n := 1) (size := 1) ((w.alloc o0).alloc o1) #[.int .u8 b] 5 (B := w.heap.size + 1 + 1 + 1) (by simp) rfl
      simp only [World.size_alloc] at this
      exact this.drew)
  have hz : (S [UInt8.ofNat b.toNat]).size ≤ 1 := by rw [S_size]; exact Nat.le_refl _
  go_enter Try.func43, Try.ntmps43
  go_wp2_with fail
  refine (shCheck_any s.size ⟨1, p, b⟩ _).mono ?_
  rintro e w1 ⟨rfl, o1, rfl⟩
  rw [HE.out]
  go_wp2
  have hq1 : ¬ 9223372036854775807 < p.toNat + (S [UInt8.ofNat b.toNat]).size := by omega
  have hq2 : ¬ 9223372036854775807 < p.toNat + (S [UInt8.ofNat b.toNat]).size + (s.size - p.toNat) := by omega
  obtain ⟨F1, hFd⟩ : ∃ F : World → Prop, F = fun w' => w'.cell? ⟨w.heap.size, 1, none⟩ = some (.int .i64 p) ∧ w'.cell? ⟨w.heap.size, 2, none⟩ = some (.int .u8 b) := ⟨_, rfl⟩
  have HF1 := Lib.hid hFd
  clear hFd
  have hcell10 : ∀ p' : Wof F1, p'.w.cell? ⟨w.heap.size, 1, none⟩ = some (.int .i64 p) := fun ⟨x, hx⟩ => by rw [HF1.out] at hx; exact hx.1
  have hcell11 : ∀ p' : Wof F1, p'.w.cell? ⟨w.heap.size, 2, none⟩ = some (.int .u8 b) := fun ⟨x, hx⟩ => by rw [HF1.out] at hx; exact hx.2
  refine wp_region_schedF [(0, true), (1, true), (2, true), (3, true), (4, true), (5, true), (9, true), (10, true), (11, true), (12, true), (6, false), (7, false), (8, true), (13, true), (14, true), (15, true)] F1 (by kernel_rfl) (by kernel_rfl) rfl (fun _ _ _ _ _ h => h) (by kernel_rfl) (by rw [HF1.out]; first | trivial | (repeat' apply And.intro) <;> assumption | (simp; done) | (simp [*]; done)) (by rw [HF1.out]; exact fun h => h) ?_
  intro hne1
  simp only [opersOf, List.getElem?_toArray, List.getElem?_cons_succ, List.getElem?_cons_zero]
  repeat (first | (refine wpSched_free rfl ?_; intro K hK; go_big_quiet_op; go_big_quiet_on) | (refine wpSched_wantS _ rfl rfl rfl ?_; intro K hK; go_big_quiet_op; go_big_quiet_on) | (refine wpSched_skipS _ rfl rfl rfl rfl ?_; simp only [Act.put, List.setIfInBounds_toArray, List.set_cons_zero, List.set_cons_succ]) | (refine wpSched_skipU _ rfl rfl rfl ?_; simp only [Act.put, List.setIfInBounds_toArray, List.set_cons_zero, List.set_cons_succ]))
  refine wpSched_other ?_
  go_wp2_with fail
  refine sched_back (by rw [HF1.out]; first | trivial | (repeat' apply And.intro) <;> assumption | (simp; done) | (go_simp; done) | (simp [*]; done)) ?_
  repeat (first | (refine wpSched_free rfl ?_; intro K hK; go_big_quiet_op; go_big_quiet_on) | (refine wpSched_wantS _ rfl rfl rfl ?_; intro K hK; go_big_quiet_op; go_big_quiet_on) | (refine wpSched_skipS _ rfl rfl rfl rfl ?_; simp only [Act.put, List.setIfInBounds_toArray, List.set_cons_zero, List.set_cons_succ]) | (refine wpSched_skipU _ rfl rfl rfl ?_; simp only [Act.put, List.setIfInBounds_toArray, List.set_cons_zero, List.set_cons_succ]))
  refine wpSched_other ?_
  go_wp2_with fail
  refine sched_back (by rw [HF1.out]; first | trivial | (repeat' apply And.intro) <;> assumption | (simp; done) | (go_simp; done) | (simp [*]; done)) ?_
  repeat (first | (refine wpSched_free rfl ?_; intro K hK; go_big_quiet_op; go_big_quiet_on) | (refine wpSched_wantS _ rfl rfl rfl ?_; intro K hK; go_big_quiet_op; go_big_quiet_on) | (refine wpSched_skipS _ rfl rfl rfl rfl ?_; simp only [Act.put, List.setIfInBounds_toArray, List.set_cons_zero, List.set_cons_succ]) | (refine wpSched_skipU _ rfl rfl rfl ?_; simp only [Act.put, List.setIfInBounds_toArray, List.set_cons_zero, List.set_cons_succ]))
  refine wpSched_nil ?_
  go_wp2_with fail
  go_ret2
  exact ⟨rfl, (by repeat (first | exact Below.refl _ _ | assumption | refine Below.alloc ?_ (by first | exact Nat.le_refl _ | assumption | omega | (simp <;> omega)) _ | refine Below.setCell ?_ (by first | exact Nat.le_refl _ | assumption | omega | (simp <;> omega)) _ | refine Below.drew ?_ | refine below_drewN ?_ _))⟩
set_option maxRecDepth 100000 in
set_option maxHeartbeats 2000000 in
theorem shDo_two (s : ByteArray) (hs : s.size ≤ 200) (p b : Int) (h0 : 0 ≤ p) (h1 : p < s.size) (hE : opErr s.size ⟨2, p, b⟩ = 0) (w : World) :
    Calls Try.prog 43 #[.string s, .agg #[.int .i64 2, .int .i64 p, .int .u8 b]] w fun e w' => e = .returned (.tuple #[.string (doB s ⟨2, p, b⟩), .int .i64 0]) ∧ Below w.heap.size w w' := by
  have HE := Lib.hid hE; clear hE
  obtain ⟨p, rfl⟩ := Int.eq_ofNat_of_zero_le h0
  clear h0
  go_enter Try.func43, Try.ntmps43
  go_wp2_with fail
  refine (shCheck_any s.size ⟨2, p, b⟩ _).mono ?_
  rintro e w1 ⟨rfl, o1, rfl⟩
  rw [HE.out]
  go_wp2
  go_quiet (fail)
  go_wp2_with fail
  go_ret2
  exact ⟨rfl, below_drewN (by repeat (first | exact Below.refl _ _ | assumption | refine Below.alloc ?_ (by first | exact Nat.le_refl _ | assumption | omega | (simp <;> omega)) _ | refine Below.setCell ?_ (by first | exact Nat.le_refl _ | assumption | omega | (simp <;> omega)) _ | refine Below.drew ?_ | refine below_drewN ?_ _)) _⟩
set_option maxRecDepth 100000 in
set_option maxHeartbeats 2000000 in
theorem shDo_three (s : ByteArray) (p b : Int) (hE : opErr s.size ⟨3, p, b⟩ = 0) (w : World) :
    Calls Try.prog 43 #[.string s, .agg #[.int .i64 3, .int .i64 p, .int .u8 b]] w fun e w' => e = .returned (.tuple #[.string (doB s ⟨3, p, b⟩), .int .i64 0]) ∧ Below w.heap.size w w' := by
  have HE := Lib.hid hE; clear hE
  go_enter Try.func43, Try.ntmps43
  go_wp2_with fail
  refine (shCheck_any s.size ⟨3, p, b⟩ _).mono ?_
  rintro e w1 ⟨rfl, o1, rfl⟩
  rw [HE.out]
  go_wp2_with fail
  go_ret2
  exact ⟨rfl, (by repeat (first | exact Below.refl _ _ | assumption | refine Below.alloc ?_ (by first | exact Nat.le_refl _ | assumption | omega | (simp <;> omega)) _ | refine Below.setCell ?_ (by first | exact Nat.le_refl _ | assumption | omega | (simp <;> omega)) _ | refine Below.drew ?_ | refine below_drewN ?_ _))⟩
theorem opErr_kind {n : Int} {x : Op} (h : opErr n x = 0) : (x.kind = 1 ∧ 0 ≤ x.pos ∧ x.pos ≤ n ∨ x.kind = 2 ∧ 0 ≤ x.pos ∧ x.pos < n ∨ x.kind = 3) ∧ 0 ≤ n ∧ n ≤ 200 := by
  unfold opErr at h; grind
/-- shift.Do: an error, or the text behind the operation. -/
theorem shDo_any (s : ByteArray) (x : Op) (hb0 : 0 ≤ x.b) (hb1 : x.b < 256) (w : World) (hE : opErr s.size x = 0) :
    Calls Try.prog 43 #[.string s, x.val] w fun e w' => e = .returned (.tuple #[.string (doB s x), .int .i64 0]) ∧ Below w.heap.size w w' := by
  obtain ⟨h, h0, h1⟩ := opErr_kind hE
  obtain ⟨k, p, b⟩ := x
  simp only at h hb0 hb1
  rcases h with ⟨rfl, hp⟩ | ⟨rfl, hp⟩ | rfl
  · exact shDo_one s (by omega) p b hp.1 hp.2 hb0 hb1 hE w
  · exact shDo_two s (by omega) p b hp.1 hp.2 hE w
  · exact shDo_three s p b hE w
set_option maxRecDepth 100000 in
set_option maxHeartbeats 2000000 in
theorem shDo_err (s : ByteArray) (x : Op) (w : World) (hE : opErr s.size x ≠ 0) :
    Calls Try.prog 43 #[.string s, x.val] w fun e w' => e = .returned (.tuple #[.string (S []), .int .i64 (opErr s.size x)]) ∧ Below w.heap.size w w' := by
  have hE' : (opErr s.size x != 0) = true := by simpa using hE
  clear hE
  go_enter Try.func43, Try.ntmps43
  unfold Op.val
  go_wp2_with fail
  refine (shCheck_any s.size x _).mono ?_
  rintro e w1 ⟨rfl, o1, rfl⟩
  go_wp2_with fail
  go_ret2
  exact ⟨rfl, (by repeat (first | exact Below.refl _ _ | assumption | refine Below.alloc ?_ (by first | exact Nat.le_refl _ | assumption | omega | (simp <;> omega)) _ | refine Below.setCell ?_ (by first | exact Nat.le_refl _ | assumption | omega | (simp <;> omega)) _ | refine Below.drew ?_ | refine below_drewN ?_ _))⟩
end Go.Proofs.Ytllcmmpepchieaa
