/- The law ShiftSays, walked. -/
import Derived.Test.YthnedhfjochfnaaShiftR
import Derived.Test.YthnedhfjochfnaaShiftD
namespace Go.Proofs.Ythnedhfjochfnaa
open Go.RowKit
/-- Two operations lie in two blocks. -/
structure Has2 (w : World) (g : Nat) (x y : Op) : Prop where
  lt : g + 1 < w.heap.size
  lt0 : g < w.heap.size
  c0 : w.cell? ⟨g, 0, none⟩ = some (.int .i64 x.kind)
  c1 : w.cell? ⟨g, 1, none⟩ = some (.int .i64 x.pos)
  c2 : w.cell? ⟨g, 2, none⟩ = some (.int .u8 x.b)
  d0 : w.cell? ⟨g + 1, 0, none⟩ = some (.int .i64 y.kind)
  d1 : w.cell? ⟨g + 1, 1, none⟩ = some (.int .i64 y.pos)
  d2 : w.cell? ⟨g + 1, 2, none⟩ = some (.int .u8 y.b)
theorem Has2.below {w w' : World} {g : Nat} {x y : Op} (h : Has2 w g x y) (hb : Below w.heap.size w w') : Has2 w' g x y := by
  have hl := h.lt
  exact ⟨Nat.lt_of_lt_of_le hl hb.size, Nat.lt_of_lt_of_le h.lt0 hb.size, (hb.cell (p := ⟨g, 0, none⟩) (by simp; omega)).trans h.c0, (hb.cell (p := ⟨g, 1, none⟩) (by simp; omega)).trans h.c1, (hb.cell (p := ⟨g, 2, none⟩) (by simp; omega)).trans h.c2,
    (hb.cell (p := ⟨g + 1, 0, none⟩) (by simp; omega)).trans h.d0, (hb.cell (p := ⟨g + 1, 1, none⟩) (by simp; omega)).trans h.d1, (hb.cell (p := ⟨g + 1, 2, none⟩) (by simp; omega)).trans h.d2⟩
theorem Has2.new_ (w : World) (x y : Op) (t : TypeId) : Has2 ((w.alloc (.cells #[.int .i64 x.kind, .int .i64 x.pos, .int .u8 x.b] t)).alloc (.cells #[.int .i64 y.kind, .int .i64 y.pos, .int .u8 y.b] t)) w.heap.size x y := by
  refine ⟨by simp, by simp; omega, ?_, ?_, ?_, ?_, ?_, ?_⟩ <;> simp
structure Has1 (w : World) (g : Nat) (z : Op) : Prop where
  lt : g < w.heap.size
  z0 : w.cell? ⟨g, 0, none⟩ = some (.int .i64 z.kind)
  z1 : w.cell? ⟨g, 1, none⟩ = some (.int .i64 z.pos)
  z2 : w.cell? ⟨g, 2, none⟩ = some (.int .u8 z.b)
theorem Has1.below {w w' : World} {g : Nat} {z : Op} (h : Has1 w g z) (hb : Below w.heap.size w w') : Has1 w' g z :=
  ⟨Nat.lt_of_lt_of_le h.lt hb.size, (hb.cell (p := ⟨g, 0, none⟩) h.lt).trans h.z0, (hb.cell (p := ⟨g, 1, none⟩) h.lt).trans h.z1, (hb.cell (p := ⟨g, 2, none⟩) h.lt).trans h.z2⟩
theorem Has1.new_ (w : World) (z : Op) (t : TypeId) : Has1 (w.alloc (.cells #[.int .i64 z.kind, .int .i64 z.pos, .int .u8 z.b] t)) w.heap.size z := by
  refine ⟨by simp, ?_, ?_, ?_⟩ <;> simp
/-- What shift.Do answers. -/
def doOut (s : ByteArray) (x : Op) : ByteArray := if opErr s.size x = 0 then doB s x else S []
theorem shDo_all (s : ByteArray) (x : Op) (hb0 : 0 ≤ x.b) (hb1 : x.b < 256) (w : World) :
    Calls Try.prog 26 #[.string s, x.val] w fun e w' => e = .returned (.tuple #[.string (doOut s x), .int .i64 (opErr s.size x)]) ∧ Below w.heap.size w w' := by
  by_cases h : opErr s.size x = 0
  · have := shDo_any s x hb0 hb1 w h
    unfold doOut; rw [if_pos h, h]; exact this
  · have := shDo_err s x w h
    unfold doOut; rw [if_neg h]; exact this
set_option maxRecDepth 100000 in
set_option maxHeartbeats 4000000 in
theorem shiftSays_any (s : ByteArray) (n : Int) (x y : Op) (first : Bool) (hxb0 : 0 ≤ x.b) (hxb1 : x.b < 256) (hyb0 : 0 ≤ y.b)
    (hxk : -9223372036854775808 ≤ x.kind ∧ x.kind ≤ 9223372036854775807) (hyk : -9223372036854775808 ≤ y.kind ∧ y.kind ≤ 9223372036854775807) (w : World) :
    Calls Try.prog 6 #[.string s, .int .i64 n, x.val, y.val, .bool first] w fun e w' => e = .returned (.bool true) ∧ Below w.heap.size w w' := by
  have HX := Lib.hid hxk; have HY := Lib.hid hyk
  have HB := Lib.hid (And.intro hxb0 (And.intro hxb1 hyb0))
  clear hxk hyk hxb0 hxb1 hyb0
  go_enter Try.func6, Try.ntmps6
  have H0 := Has2.new_ w x y 40
  unfold Op.val
  go_wp2_with fail
  have hB0 : Below w.heap.size w ((w.alloc (.cells #[.int .i64 x.kind, .int .i64 x.pos, .int .u8 x.b] 40)).alloc (.cells #[.int .i64 y.kind, .int .i64 y.pos, .int .u8 y.b] 40)) := (by repeat (first | exact Below.refl _ _ | assumption | refine Below.alloc ?_ (by simp <;> omega) _ | refine Below.setCell ?_ (by simp <;> omega) _ | refine Below.drew ?_))
  generalize ((w.alloc (.cells #[.int .i64 x.kind, .int .i64 x.pos, .int .u8 x.b] 40)).alloc (.cells #[.int .i64 y.kind, .int .i64 y.pos, .int .u8 y.b] 40)) = w0 at *
  refine (shDo_all s x HB.out.1 HB.out.2.1 _).mono ?_
  rintro e w1 ⟨rfl, hb1⟩
  have H1 := H0.below hb1
  have hB1 := bthen hB0 hb1
  clear H0 hb1 hB0
  have HH := Lib.hid H1
  obtain ⟨hlt, hlt0, c0, c1, c2, d0, d1, d2⟩ := H1
  go_wp2_with fail
  refine (shPast_any n x y first _).mono ?_
  rintro e w2 ⟨rfl, hb2⟩
  have H2 := HH.out.below hb2
  have hB2 := bthen hB1 hb2
  clear hlt hlt0 c0 c1 c2 d0 d1 d2 HH hb2 hB1
  have HH := Lib.hid H2
  obtain ⟨hlt, hlt0, c0, c1, c2, d0, d1, d2⟩ := H2
  unfold Op.val
  go_wp2_with fail
  have HZ := Has1.new_ w2 (pastAns n x y first) 40
  have hb3 : Below w2.heap.size w2 (w2.alloc (.cells #[.int .i64 (pastAns n x y first).kind, .int .i64 (pastAns n x y first).pos, .int .u8 (pastAns n x y first).b] 40)) := (by repeat (first | exact Below.refl _ _ | assumption | refine Below.alloc ?_ (by simp <;> omega) _ | refine Below.setCell ?_ (by simp <;> omega) _ | refine Below.drew ?_))
  have H3 := HH.out.below hb3
  have hB3 := bthen hB2 hb3
  clear hlt hlt0 c0 c1 c2 d0 d1 d2 HH hb3 hB2
  have HZD := Lib.hid (rfl : pastAns n x y first = pastAns n x y first)
  generalize (w2.alloc (.cells #[.int .i64 (pastAns n x y first).kind, .int .i64 (pastAns n x y first).pos, .int .u8 (pastAns n x y first).b] 40)) = w3 at *
  generalize w2.heap.size = gz at *
  have HH := Lib.hid H3
  have HHZ := Lib.hid HZ
  obtain ⟨hlt, hlt0, c0, c1, c2, d0, d1, d2⟩ := H3
  obtain ⟨hltz, z0, z1, z2⟩ := HZ
  obtain ⟨F3, hFd⟩ : ∃ F : World → Prop, F = fun w' => w'.cell? ⟨w.heap.size, 0, none⟩ = some (.int .i64 x.kind) ∧ w'.cell? ⟨w.heap.size, 1, none⟩ = some (.int .i64 x.pos) ∧ w'.cell? ⟨w.heap.size, 2, none⟩ = some (.int .u8 x.b) := ⟨_, rfl⟩
  have HF3 := Lib.hid hFd
  clear hFd
  have hcell30 : ∀ p' : Wof F3, p'.w.cell? ⟨w.heap.size, 0, none⟩ = some (.int .i64 x.kind) := fun ⟨x, hx⟩ => by rw [HF3.out] at hx; exact hx.1
  have hcell31 : ∀ p' : Wof F3, p'.w.cell? ⟨w.heap.size, 1, none⟩ = some (.int .i64 x.pos) := fun ⟨x, hx⟩ => by rw [HF3.out] at hx; exact hx.2.1
  have hcell32 : ∀ p' : Wof F3, p'.w.cell? ⟨w.heap.size, 2, none⟩ = some (.int .u8 x.b) := fun ⟨x, hx⟩ => by rw [HF3.out] at hx; exact hx.2.2
  refine wp_region_schedF [(0, true), (1, true), (3, true), (4, true), (2, false), (5, false), (6, true)] F3 (by kernel_rfl) (by kernel_rfl) rfl (fun _ _ _ _ _ h => h) (by kernel_rfl) (by rw [HF3.out]; first | trivial | (repeat' apply And.intro) <;> assumption | (simp; done) | (simp [*]; done)) (by rw [HF3.out]; exact fun h => h) ?_
  intro hne3
  simp only [opersOf, List.getElem?_toArray, List.getElem?_cons_succ, List.getElem?_cons_zero]
  repeat (first | (refine wpSched_want rfl ?_; intro K hK; go_big_quiet_op; go_big_quiet_on) | (refine wpSched_skip rfl ?_; simp only [Act.put, List.setIfInBounds_toArray, List.set_cons_zero, List.set_cons_succ]))
  refine wpSched_other ?_
  go_wp2_with fail
  refine (shCheck_any n x _).mono ?_
  rintro e w4 ⟨rfl, o4, rfl⟩
  go_wp2_with fail
  refine sched_back (by rw [HF3.out]; first | trivial | (repeat' apply And.intro) <;> assumption | (simp; done) | (go_simp; done) | (simp [*]; done)) ?_
  repeat (first | (refine wpSched_want rfl ?_; intro K hK; go_big_quiet_op; go_big_quiet_on) | (refine wpSched_skip rfl ?_; simp only [Act.put, List.setIfInBounds_toArray, List.set_cons_zero, List.set_cons_succ]))
  refine wpSched_other ?_
  go_wp2_with fail
  refine (shOpErr_any n x _ HB.out.1 HX.out).mono ?_
  rintro e w5 ⟨rfl, hb5⟩
  have hb5' : Below w3.heap.size w3 w5 := by
    have h1 : Below w3.heap.size w3 (w3.alloc o4).drew := (by repeat (first | exact Below.refl _ _ | assumption | refine Below.alloc ?_ (by simp <;> omega) _ | refine Below.setCell ?_ (by simp <;> omega) _ | refine Below.drew ?_))
    exact bthen h1 hb5
  have H5 := HH.out.below hb5'
  have HZ5 := HHZ.out.below hb5'
  have hB5 := bthen hB3 hb5'
  clear hlt hlt0 c0 c1 c2 d0 d1 d2 HH hb5 hb5' hB3 hltz z0 z1 z2 HHZ
  have HH := Lib.hid H5
  have HHZ := Lib.hid HZ5
  obtain ⟨hlt, hlt0, c0, c1, c2, d0, d1, d2⟩ := H5
  obtain ⟨hltz, z0, z1, z2⟩ := HZ5
  go_wp2_with fail
  refine sched_back (by rw [HF3.out]; first | trivial | (repeat' apply And.intro) <;> assumption | (simp; done) | (go_simp; done) | (simp [*]; done)) ?_
  repeat (first | (refine wpSched_want rfl ?_; intro K hK; go_big_quiet_op; go_big_quiet_on) | (refine wpSched_skip rfl ?_; simp only [Act.put, List.setIfInBounds_toArray, List.set_cons_zero, List.set_cons_succ]))
  refine wpSched_nil ?_
  clear HF3 hcell30 hcell31 hcell32 hne3
  go_wp2_with fail
  refine (shOpErr_any s.size x _ HB.out.1 HX.out).mono ?_
  rintro e w6 ⟨rfl, hb6⟩
  have H6 := HH.out.below hb6
  have HZ6 := HHZ.out.below hb6
  have hB6 := bthen hB5 hb6
  clear hlt hlt0 c0 c1 c2 d0 d1 d2 HH hb6 hB5 hltz z0 z1 z2 HHZ
  have HH := Lib.hid H6
  have HHZ := Lib.hid HZ6
  obtain ⟨hlt, hlt0, c0, c1, c2, d0, d1, d2⟩ := H6
  obtain ⟨hltz, z0, z1, z2⟩ := HZ6
  go_upto_if 44 with (fail)
  go_cut [15, 16] (fun _ _ wx => Has2 wx w.heap.size x y ∧ Has1 wx gz (pastAns n x y first) ∧ Below w.heap.size w wx)
  case first =>
    by_cases hE : opErr s.size x = 0
    · have hE' : (opErr s.size x != 0) = false := by rw [hE]; rfl
      obtain ⟨hk, hs0, hs1⟩ := opErr_kind hE
      obtain ⟨k, p, b⟩ := x
      simp only at hk c0 c1 c2 HB
      rcases hk with ⟨rfl, hp0, hp1⟩ | ⟨rfl, hp0, hp1⟩ | rfl
      · have hd : doOut s ⟨1, p, b⟩ = s.extract 0 p.toNat ++ S [UInt8.ofNat b.toNat] ++ s.extract p.toNat s.size := by unfold doOut; rw [if_pos hE]; rfl
        have heq : ((doOut s ⟨1, p, b⟩).toList == (s.extract 0 p.toNat ++ S [UInt8.ofNat b.toNat] ++ s.extract p.toNat s.size).toList) = true := by rw [hd]; simp
        clear hd
        have hcv : (convert 45 9 (.slice (some ⟨w6.heap.size, 0, none⟩) 1 1)).run Try.prog ((w6.alloc (.cells #[.int .u8 b] 5)).drew) = .ok (.string (S [UInt8.ofNat b.toNat])) ((w6.alloc (.cells #[.int .u8 b] 5)).drew) :=
          run_bytes_string _ Try.underlying45 Try.underlying5 Try.underlying9 (B := w6.heap.size + 1) (l := [UInt8.ofNat b.toNat]) (by
            rw [← one_cells b HB.out.1 HB.out.2.1]
            exact (Rd.new_ (n := 1) (size := 1) w6 #[.int .u8 b] 5 (Nat.lt_succ_self _) rfl).drew)
        have hz : (S [UInt8.ofNat b.toNat]).size ≤ 1 := by rw [S_size]; exact Nat.le_refl _
        have hq1 : ¬ 9223372036854775807 < p.toNat + (S [UInt8.ofNat b.toNat]).size := by omega
        have hq2 : ¬ 9223372036854775807 < p.toNat + (S [UInt8.ofNat b.toNat]).size + (s.size - p.toNat) := by omega
        clear hE
        go_wp2_with fail
        obtain ⟨F4, hFd⟩ : ∃ F : World → Prop, F = fun w' => w'.cell? ⟨w.heap.size, 1, none⟩ = some (.int .i64 p) ∧ w'.cell? ⟨w.heap.size, 2, none⟩ = some (.int .u8 b) := ⟨_, rfl⟩
        have HF4 := Lib.hid hFd
        clear hFd
        have hcell40 : ∀ p' : Wof F4, p'.w.cell? ⟨w.heap.size, 1, none⟩ = some (.int .i64 p) := fun ⟨x, hx⟩ => by rw [HF4.out] at hx; exact hx.1
        have hcell41 : ∀ p' : Wof F4, p'.w.cell? ⟨w.heap.size, 2, none⟩ = some (.int .u8 b) := fun ⟨x, hx⟩ => by rw [HF4.out] at hx; exact hx.2
        refine wp_region_schedF [(0, true), (1, true), (2, true), (3, true), (4, true), (5, true), (9, true), (10, true), (11, true), (12, true), (6, false), (7, false), (8, true), (13, true), (14, true)] F4 (by kernel_rfl) (by kernel_rfl) rfl (fun _ _ _ _ _ h => h) (by kernel_rfl) (by rw [HF4.out]; first | trivial | (repeat' apply And.intro) <;> assumption | (simp; done) | (simp [*]; done)) (by rw [HF4.out]; exact fun h => h) ?_
        intro hne4
        simp only [opersOf, List.getElem?_toArray, List.getElem?_cons_succ, List.getElem?_cons_zero]
        repeat (first | (refine wpSched_want rfl ?_; intro K hK; go_big_quiet_op; go_big_quiet_on) | (refine wpSched_skip rfl ?_; simp only [Act.put, List.setIfInBounds_toArray, List.set_cons_zero, List.set_cons_succ]))
        refine wpSched_other ?_
        go_wp2_with fail
        refine sched_back (by rw [HF4.out]; first | trivial | (repeat' apply And.intro) <;> assumption | (simp; done) | (go_simp; done) | (simp [*]; done)) ?_
        repeat (first | (refine wpSched_want rfl ?_; intro K hK; go_big_quiet_op; go_big_quiet_on) | (refine wpSched_skip rfl ?_; simp only [Act.put, List.setIfInBounds_toArray, List.set_cons_zero, List.set_cons_succ]))
        refine wpSched_other ?_
        go_wp2_with fail
        refine sched_back (by rw [HF4.out]; first | trivial | (repeat' apply And.intro) <;> assumption | (simp; done) | (go_simp; done) | (simp [*]; done)) ?_
        repeat (first | (refine wpSched_want rfl ?_; intro K hK; go_big_quiet_op; go_big_quiet_on) | (refine wpSched_skip rfl ?_; simp only [Act.put, List.setIfInBounds_toArray, List.set_cons_zero, List.set_cons_succ]))
        refine wpSched_nil ?_
        have hb7 : Below w6.heap.size w6 ((w6.alloc (.cells #[.int .u8 b] 5)).drew) := (by repeat (first | exact Below.refl _ _ | assumption | refine Below.alloc ?_ (by simp <;> omega) _ | refine Below.setCell ?_ (by simp <;> omega) _ | refine Below.drew ?_))
        go_wp2_with fail
        go_meet
        exact ⟨HH.out.below hb7, HHZ.out.below hb7, bthen hB6 hb7⟩
      · have hd : doOut s ⟨2, p, b⟩ = s.extract 0 p.toNat ++ s.extract (p.toNat + 1) s.size := by unfold doOut; rw [if_pos hE]; rfl
        clear hE
        obtain ⟨p, rfl⟩ := Int.eq_ofNat_of_zero_le hp0
        rw [Int.toNat_natCast] at hd
        have heq : ((doOut s ⟨2, (p : Int), b⟩).toList == (s.extract 0 p ++ s.extract (p + 1) s.size).toList) = true := by rw [hd]; simp
        clear hp0 hd
        go_wp2_with fail
        go_quiet (fail)
        go_wp2_with fail
        go_meet
        exact ⟨HH.out.below (below_drewN (Below.refl _ _) _), HHZ.out.below (below_drewN (Below.refl _ _) _), bthen hB6 (below_drewN (Below.refl _ _) _)⟩
      · have hd : doOut s ⟨3, p, b⟩ = s := by unfold doOut; rw [if_pos hE]; rfl
        have heq : ((doOut s ⟨3, p, b⟩).toList == s.toList) = true := by rw [hd]; simp
        clear hE hd
        go_wp2_with fail
        go_meet
        exact ⟨HH.out, HHZ.out, hB6⟩
    · have hE' : (opErr s.size x != 0) = true := by simpa using hE
      have hd : (doOut s x).toList = [] := by unfold doOut; rw [if_neg hE]; exact ByteArray.toList_mk []
      clear hE
      go_wp2_with fail
      go_meet
      exact ⟨HH.out, HHZ.out, hB6⟩
  case rest =>
    obtain ⟨H7, HZ7, hB7⟩ := hcut
    have HH := Lib.hid H7
    have HHZ := Lib.hid HZ7
    obtain ⟨hlt, hlt0, c0, c1, c2, d0, d1, d2⟩ := H7
    obtain ⟨hltz, z0, z1, z2⟩ := HZ7
    go_wp2_with fail
    refine (shOpErr_any n x _ HB.out.1 HX.out).mono ?_
    rintro e w8 ⟨rfl, hb8⟩
    have H8 := HH.out.below hb8
    have HZ8 := HHZ.out.below hb8
    have hB8 := bthen hB7 hb8
    clear hlt hlt0 c0 c1 c2 d0 d1 d2 HH hb8 hB7 hltz z0 z1 z2 HHZ
    have HH := Lib.hid H8
    have HHZ := Lib.hid HZ8
    obtain ⟨hlt, hlt0, c0, c1, c2, d0, d1, d2⟩ := H8
    obtain ⟨hltz, z0, z1, z2⟩ := HZ8
    by_cases hE : opErr n x = 0
    · have hE1 : (opErr n x == 0) = true := by simpa using hE
      have hX := Lib.hid (opErr_bound hE)
      have hK := Lib.hid hE
      clear hE
      go_wp2_with fail
      refine (shOpErr_any n y _ HB.out.2.2 HY.out).mono ?_
      rintro e w9 ⟨rfl, hb9⟩
      have H9 := HH.out.below hb9
      have HZ9 := HHZ.out.below hb9
      have hB9 := bthen hB8 hb9
      clear hlt hlt0 c0 c1 c2 d0 d1 d2 HH hb9 hB8 hltz z0 z1 z2 HHZ
      have HHZ := Lib.hid HZ9
      have HH := Lib.hid H9
      obtain ⟨hlt, hlt0, c0, c1, c2, d0, d1, d2⟩ := H9
      obtain ⟨hltz, z0, z1, z2⟩ := HZ9
      by_cases hF : opErr n y = 0
      · have hF1 : (opErr n y != 0) = false := by rw [hF]; rfl
        have ha : pastAns n x y first = past x y first := by unfold pastAns; rw [if_pos ⟨hK.out, hF⟩]
        have hp : pastErr n x y = 0 := by unfold pastErr; rw [if_pos hK.out, hF]
        have hp1 : (pastErr n x y == 0) = true := by rw [hp]; rfl
        have hK2 := Lib.hid (opErr_kind hF)
        clear hF hp
        rw [ha] at z0 z1 z2
        go_wp2_with fail
        obtain ⟨F22, hFd⟩ : ∃ F : World → Prop, F = fun w' => w'.cell? ⟨gz, 0, none⟩ = some (.int .i64 (past x y first).kind) ∧ w'.cell? ⟨gz, 1, none⟩ = some (.int .i64 (past x y first).pos) ∧ w'.cell? ⟨gz, 2, none⟩ = some (.int .u8 (past x y first).b) ∧ w'.cell? ⟨w.heap.size, 0, none⟩ = some (.int .i64 x.kind) ∧ w'.cell? ⟨w.heap.size, 1, none⟩ = some (.int .i64 x.pos) ∧ w'.cell? ⟨w.heap.size, 2, none⟩ = some (.int .u8 x.b) ∧ w'.cell? ⟨w.heap.size + 1, 0, none⟩ = some (.int .i64 y.kind) ∧ w'.cell? ⟨w.heap.size + 1, 1, none⟩ = some (.int .i64 y.pos) ∧ w'.cell? ⟨w.heap.size + 1, 2, none⟩ = some (.int .u8 y.b) := ⟨_, rfl⟩
        have HF22 := Lib.hid hFd
        clear hFd
        have hcell220 : ∀ p' : Wof F22, p'.w.cell? ⟨gz, 0, none⟩ = some (.int .i64 (past x y first).kind) := fun ⟨x, hx⟩ => by rw [HF22.out] at hx; exact hx.1
        have hcell221 : ∀ p' : Wof F22, p'.w.cell? ⟨gz, 1, none⟩ = some (.int .i64 (past x y first).pos) := fun ⟨x, hx⟩ => by rw [HF22.out] at hx; exact hx.2.1
        have hcell222 : ∀ p' : Wof F22, p'.w.cell? ⟨gz, 2, none⟩ = some (.int .u8 (past x y first).b) := fun ⟨x, hx⟩ => by rw [HF22.out] at hx; exact hx.2.2.1
        have hcell223 : ∀ p' : Wof F22, p'.w.cell? ⟨w.heap.size, 0, none⟩ = some (.int .i64 x.kind) := fun ⟨x, hx⟩ => by rw [HF22.out] at hx; exact hx.2.2.2.1
        have hcell224 : ∀ p' : Wof F22, p'.w.cell? ⟨w.heap.size, 1, none⟩ = some (.int .i64 x.pos) := fun ⟨x, hx⟩ => by rw [HF22.out] at hx; exact hx.2.2.2.2.1
        have hcell225 : ∀ p' : Wof F22, p'.w.cell? ⟨w.heap.size, 2, none⟩ = some (.int .u8 x.b) := fun ⟨x, hx⟩ => by rw [HF22.out] at hx; exact hx.2.2.2.2.2.1
        have hcell226 : ∀ p' : Wof F22, p'.w.cell? ⟨w.heap.size + 1, 0, none⟩ = some (.int .i64 y.kind) := fun ⟨x, hx⟩ => by rw [HF22.out] at hx; exact hx.2.2.2.2.2.2.1
        have hcell227 : ∀ p' : Wof F22, p'.w.cell? ⟨w.heap.size + 1, 1, none⟩ = some (.int .i64 y.pos) := fun ⟨x, hx⟩ => by rw [HF22.out] at hx; exact hx.2.2.2.2.2.2.2.1
        have hcell228 : ∀ p' : Wof F22, p'.w.cell? ⟨w.heap.size + 1, 2, none⟩ = some (.int .u8 y.b) := fun ⟨x, hx⟩ => by rw [HF22.out] at hx; exact hx.2.2.2.2.2.2.2.2
        refine wp_region_schedF [(0, true), (1, true), (2, true), (3, true), (4, true), (5, true), (6, true), (7, false), (8, true), (9, true), (10, true)] F22 (by kernel_rfl) (by kernel_rfl) rfl (fun _ _ _ _ _ h => h) (by kernel_rfl) (by rw [HF22.out]; first | trivial | (repeat' apply And.intro) <;> assumption | (simp; done) | (simp [*]; done)) (by rw [HF22.out]; exact fun h => h) ?_
        intro hne22
        simp only [opersOf, List.getElem?_toArray, List.getElem?_cons_succ, List.getElem?_cons_zero]
        repeat (first | (refine wpSched_want rfl ?_; intro K hK; go_big_quiet_op; go_big_quiet_on) | (refine wpSched_skip rfl ?_; simp only [Act.put, List.setIfInBounds_toArray, List.set_cons_zero, List.set_cons_succ]))
        refine wpSched_other ?_
        go_wp2_with fail
        refine (shPastOf_any x y first _ hX.out.2.2.1 (Int.le_trans hX.out.2.2.2 hX.out.2.1) (by rcases hK2.out.1 with h | h | h; exact .inl h.1; exact .inr (.inl h.1); exact .inr (.inr h))).mono ?_
        rintro e w10 ⟨rfl, hb10⟩
        have hb10' : Below w9.heap.size w9 w10 := bthen (below_drewN (Below.refl _ _) _) hb10
        have hB10 := bthen hB9 hb10'
        have H10 := HH.out.below hb10'
        have HZ10 := HHZ.out.below hb10'
        rw [ha] at HZ10
        clear hlt hlt0 c0 c1 c2 d0 d1 d2 HH hb10 hb10' hltz z0 z1 z2 HHZ
        obtain ⟨hlt, hlt0, c0, c1, c2, d0, d1, d2⟩ := H10
        obtain ⟨hltz, z0, z1, z2⟩ := HZ10
        unfold Op.val
        go_wp2_with fail
        refine sched_back (by rw [HF22.out]; first | trivial | (repeat' apply And.intro) <;> assumption | (simp; done) | (go_simp; done) | (simp [*]; done)) ?_
        repeat (first | (refine wpSched_want rfl ?_; intro K hK; go_big_quiet_op; go_big_quiet_on) | (refine wpSched_skip rfl ?_; simp only [Act.put, List.setIfInBounds_toArray, List.set_cons_zero, List.set_cons_succ]))
        refine wpSched_nil ?_
        trace_state
        go_wp2_with fail
        go_ret
        exact ⟨rfl, hB10⟩
      · have hF1 : (opErr n y != 0) = true := by simpa using hF
        have ha : pastAns n x y first = ⟨0, 0, 0⟩ := by unfold pastAns; rw [if_neg (fun h => hF h.2)]
        have hp : pastErr n x y = opErr n y := by unfold pastErr; rw [if_pos hK.out]
        have hp1 : (pastErr n x y == opErr n y) = true := by rw [hp]; simp
        clear hF hp
        rw [ha] at z0 z1 z2
        go_wp2_with fail
        go_ret
        exact ⟨rfl, hB9⟩
    · have hE1 : (opErr n x == 0) = false := by simpa using hE
      have hE2 : (opErr n x != 0) = true := by simpa using hE
      have ha : pastAns n x y first = ⟨0, 0, 0⟩ := by unfold pastAns; rw [if_neg (fun h => hE h.1)]
      have hp : pastErr n x y = opErr n x := by unfold pastErr; rw [if_neg hE]
      have hp1 : (pastErr n x y == opErr n x) = true := by rw [hp]; simp
      clear hE hp
      rw [ha] at z0 z1 z2
      go_wp2_with fail
      go_ret
      exact ⟨rfl, hB8⟩
end Go.Proofs.Ythnedhfjochfnaa
