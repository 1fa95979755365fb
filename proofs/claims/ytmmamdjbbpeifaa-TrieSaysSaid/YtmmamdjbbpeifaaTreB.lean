/- The document's LeastCost: its function that takes the least one. -/
import Derived.Test.YtmmamdjbbpeifaaTre1
import Derived.Test.YtmmamdjbbpeifaaApp
import Derived.Test.YtmmamdjbbpeifaaBlk
import Derived.Test.YtmmamdjbbpeifaaSchedZ
import Derived.Test.YtmmamdjbbpeifaaTab
namespace Go.Proofs.Ytmmamdjbbpeifaa
open Go.RowKit
def intN (l : List Nat) : List Int := l.map fun (k : Nat) => (k : Int)
theorem intN_len (l : List Nat) : (intN l).length = l.length := by simp [intN]
theorem intN_drop (l : List Nat) : ints (intN (l.drop 1)) = (ints (intN l)).drop (1 * 1) := by simp [intN, ints]
theorem size_runT {P : Program} {e : TypeId} {i : TypeInfo} (hi : P.info? e = some i) (w : World) : (sizeOf e).run P w = .ok i.size w := by simp [sizeOf, typeInfo, hi, go_sem]
theorem run_behindT {P : Program} {t : TypeId} (ht : P.underlying t = some (.slice (P.elem t))) {size : Nat} (hz : (P.info? (P.elem t)).map (·.size) = some size) (A : Option Addr) (n c a : Nat) (hab : a ≤ n) (w : World) :
    (Instr.sliceAt t (.slice A n c) (some (.int .i64 (a : Int))) none none).run P w = .ok (.slice (if c = a then A else A.map (·.add (a * size))) (n - a) (c - a)) w := by
  obtain ⟨i, hi, rfl⟩ := Option.map_eq_some_iff.1 hz
  rw [run_sliceAt_slice w t _ _ _ _ ht, run_slice_l w t A n c ht .i64 a (by omega) (by omega)]
  rw [size_runT hi, Result.andThen]
  simp [sliced]
/-- The two rows, in their boxes. -/
structure Lq (w : World) (B ga gb : Nat) (va vb : Value) (a b : List Nat) : Prop where
  ba : Blk w ga 22 #[va]
  bb : Blk w gb 22 #[vb]
  ra : OwnO w 0 3 1 va a.length (ints (intN a))
  la : ∀ k, va.ownBlock = some k → k < B
  rb : OwnO w B 3 1 vb b.length (ints (intN b))
  lt : ga < B ∧ gb < B
  ne : ga ≠ gb
section
variable {w w' : World} {B ga gb : Nat} {va vb : Value} {a b : List Nat}
theorem own_drop {w : World} {base : Nat} {A : Option Addr} {c : Nat} {l : List Nat} (h : OwnO w base 3 1 (.slice A l.length c) l.length (ints (intN l))) (hl : 1 ≤ l.length) (hA : A ≠ none) :
    OwnO w base 3 1 (.slice (if c = 1 then A else A.map (·.add (1 * 1))) (l.length - 1) (c - 1)) (l.drop 1).length (ints (intN (l.drop 1))) := by
  have h1 := h.behind A c 1 rfl hl hA
  rw [intN_drop, List.length_drop]
  exact h1
theorem own_dropB {A : Option Addr} {n c : Nat} (hA : A ≠ none) : (Value.slice (if c = 1 then A else A.map (·.add (1 * 1))) (n - 1) (c - 1)).ownBlock = (Value.slice A n c).ownBlock := by
  cases A with
  | none => exact absurd rfl hA
  | some ad =>
    split
    · rfl
    · simp [Value.ownBlock, Addr.add]
theorem Lq.tailA {A : Option Addr} {c : Nat} (h : Lq w B ga gb (.slice A a.length c) vb a b) (hl : 1 ≤ a.length) (hA : A ≠ none) :
    Lq (w.setCell ⟨ga, 0, none⟩ (.slice (if c = 1 then A else A.map (·.add (1 * 1))) (a.length - 1) (c - 1))) B ga gb (.slice (if c = 1 then A else A.map (·.add (1 * 1))) (a.length - 1) (c - 1)) vb (a.drop 1) b := by
  have hra := own_drop h.ra hl hA
  refine ⟨?_, h.bb.far (fun e => h.ne e.symm) _, ?_, fun k hk => ?_, ?_, h.lt, h.ne⟩
  · have := h.ba.set_ 0 (.slice (if c = 1 then A else A.map (·.add (1 * 1))) (a.length - 1) (c - 1))
    exact this
  · exact hra.kept (gb_set (gb_refl _ _) 0 _) (hra.ne_blk h.ba (by decide))
  · rw [own_dropB hA] at hk
    exact h.la k hk
  · exact h.rb.kept (gb_set (gb_refl _ _) 0 _) (h.rb.ne_blk h.ba (by decide))
theorem Lq.tailB {A : Option Addr} {c : Nat} (h : Lq w B ga gb va (.slice A b.length c) a b) (hl : 1 ≤ b.length) (hA : A ≠ none) :
    Lq (w.setCell ⟨gb, 0, none⟩ (.slice (if c = 1 then A else A.map (·.add (1 * 1))) (b.length - 1) (c - 1))) B ga gb va (.slice (if c = 1 then A else A.map (·.add (1 * 1))) (b.length - 1) (c - 1)) a (b.drop 1) := by
  have hrb := own_drop h.rb hl hA
  refine ⟨h.ba.far h.ne _, ?_, ?_, h.la, ?_, h.lt, h.ne⟩
  · have := h.bb.set_ 0 (.slice (if c = 1 then A else A.map (·.add (1 * 1))) (b.length - 1) (c - 1))
    exact this
  · exact h.ra.kept (gb_set (gb_refl _ _) 0 _) (h.ra.ne_blk h.bb (by decide))
  · exact hrb.kept (gb_set (gb_refl _ _) 0 _) (hrb.ne_blk h.bb (by decide))
theorem Lq.drewN (h : Lq w B ga gb va vb a b) (q : Nat) : Lq (w.drewN q) B ga gb va vb a b := ⟨h.ba, h.bb, h.ra, h.la, h.rb, h.lt, h.ne⟩
theorem headN {w : World} {base : Nat} {A : Option Addr} {c : Nat} {l : List Nat} (h : OwnO w base 3 1 (.slice A l.length c) l.length (ints (intN l))) (hl : 1 ≤ l.length) : ∃ ad, A = some ad ∧ w.cell? ad = some (.int .i64 (l.getD 0 0 : Nat)) := by
  obtain ⟨A', c', hv, _, _, hr⟩ := h.form
  cases hv
  obtain ⟨ad, hA, _, hc⟩ := hr.2 hl
  refine ⟨ad, hA, ?_⟩
  have := hc 0 (.int .i64 ((intN l).getD 0 0)) (ints_getD _ _ (by rw [intN_len]; exact hl))
  have e : ad.add 0 = ad := by unfold Addr.add; rfl
  rw [e] at this
  rw [this]
  congr 2
  unfold intN
  rw [List.getD_eq_getElem?_getD, List.getElem?_map, List.getD_eq_getElem?_getD, List.getElem?_eq_getElem (by omega)]; rfl
end
set_option maxRecDepth 100000 in
set_option maxHeartbeats 8000000 in
theorem takeA_any (w : World) (B B0 ga gb : Nat) (va vb : Value) (a b : List Nat) (h : Lq w B ga gb va vb a b) (hne : takeA a b = true) (hp : 0 < a.length + b.length) (hB0 : B0 ≤ ga ∧ B0 ≤ gb) (hs : a.length ≤ 100 ∧ b.length ≤ 100) :
    Calls Try.prog 68 #[.pointer (some ⟨gb, 0, none⟩), .pointer (some ⟨ga, 0, none⟩)] w fun e w' => e = .returned (.int .i64 (a.getD 0 0 : Nat)) ∧ ∃ va', Lq w' B ga gb va' vb (a.drop 1) b ∧ Below B0 w w' := by
  have hal : 1 ≤ a.length := by
    cases a with
    | nil =>
      cases b with
      | nil => simp at hp
      | cons y b => cases hne
    | cons x a => simp
  obtain ⟨A, c, rfl, hnc, hcm, _⟩ := h.ra.form
  obtain ⟨Ab, cb, rfl, hncb, hcmb, _⟩ := h.rb.form
  obtain ⟨ad, rfl, c0⟩ := headN h.ra hal
  have b0 := h.ba.cell0
  have b1 := h.bb.cell0
  have hfz := h.ba.frozen 0
  have HT := Lib.hid (fun q => (h.drewN q).tailA hal (by simp))
  have hcut : ∀ W, (Instr.sliceAt 22 (.slice (some ad) a.length c) (some (.int .i64 1)) none none).run Try.prog W = .ok (.slice (if c = 1 then some ad else (some ad).map (·.add (1 * 1))) (a.length - 1) (c - 1)) W := fun W => run_behindT Try.underlying22 (by kernel_rfl) (some ad) a.length c 1 hal W
  generalize (if c = 1 then some ad else (some ad).map (·.add (1 * 1))) = A2 at *
  generalize hx : a.getD 0 0 = x at *
  have HX := Lib.hid hx
  have g3 : decide ((0 : Int) < (a.length : Int)) = true := decide_eq_true (by omega)
  have g3' : decide (0 < a.length) = true := decide_eq_true (by omega)
  have hc1 : 1 ≤ a.length := hal
  have hcap : a.length ≤ c := hnc
  rcases Nat.eq_zero_or_pos b.length with hb0 | hb0
  · have HB := Lib.hid hb0
    have g1 : ((b.length : Int) == 0) = true := by rw [beq_iff_eq]; omega
    have g1' : (b.length == 0) = true := by rw [beq_iff_eq]; exact hb0
    clear h hne hp hal hx hb0
    go_enter Try.func68, Try.ntmps68
    go_wp2_with fail
    go_quiet (fail)
    go_wp2_with fail
    obtain ⟨F1, hFd⟩ : ∃ F : World → Prop, F = fun w' => w'.cell? ⟨ga, 0, none⟩ = some (.slice (some ad) a.length c) ∧ w'.cell? ad = some (.int .i64 (x : Int)) := ⟨_, rfl⟩
    have HF1 := Lib.hid hFd
    clear hFd
    have hcell10 : ∀ p' : Wof F1, p'.w.cell? ⟨ga, 0, none⟩ = some (.slice (some ad) a.length c) := fun ⟨x, hx⟩ => by rw [HF1.out] at hx; exact hx.1
    have hcell11 : ∀ p' : Wof F1, p'.w.cell? ad = some (.int .i64 (x : Int)) := fun ⟨x, hx⟩ => by rw [HF1.out] at hx; exact hx.2
    refine wp_region_schedZ [(0, true), (1, true), (2, true), (3, true), (4, true), (5, true)] 6 _ F1 (by kernel_rfl) (by kernel_rfl) rfl (by kernel_rfl) rfl (fun _ _ _ _ _ h => h) (by kernel_rfl) (by rw [HF1.out]; first | trivial | (repeat' apply And.intro) <;> assumption | (simp; done) | (simp [*]; done)) (by rw [HF1.out]; exact fun h => h) ?_
    intro hne1
    simp only [opersOf, List.getElem?_toArray, List.getElem?_cons_succ, List.getElem?_cons_zero]
    repeat (first | (refine wpSched_free rfl ?_; intro K hK; go_big_quiet_op; go_big_quiet_on) | (refine wpSched_wantS _ rfl rfl rfl ?_; intro K hK; go_big_quiet_op; go_big_quiet_on) | (refine wpSched_skipS _ rfl rfl rfl rfl ?_; simp only [Act.put, List.setIfInBounds_toArray, List.set_cons_zero, List.set_cons_succ]) | (refine wpSched_skipU _ rfl rfl rfl ?_; simp only [Act.put, List.setIfInBounds_toArray, List.set_cons_zero, List.set_cons_succ]))
    refine wpSched_nil ?_
    refine qz_nil ?_
    go_wp2_with fail
    go_ret
    exact ⟨rfl, _, HT.out _, (below_drewN (Below.refl _ _) _).setCell (p := ⟨ga, 0, none⟩) hB0.1 _⟩
  · obtain ⟨bd, rfl, d0⟩ := headN h.rb hb0
    have hxy : a.getD 0 0 ≤ b.getD 0 0 := by
      cases a with
      | nil => simp at hal
      | cons x a =>
        cases b with
        | nil => simp at hb0
        | cons y b => exact of_decide_eq_true hne
    rw [hx] at hxy
    generalize b.getD 0 0 = y at *
    have g1 : ((b.length : Int) == 0) = false := by rw [beq_eq_false_iff_ne]; omega
    have g1' : (b.length == 0) = false := by rw [beq_eq_false_iff_ne]; omega
    have g4 : decide ((x : Int) ≤ (y : Int)) = true := decide_eq_true (by omega)
    have g4' : decide (x ≤ y) = true := decide_eq_true hxy
    have hbc : 1 ≤ b.length := hb0
    clear h hne hp hal hx hb0 hxy
    go_enter Try.func68, Try.ntmps68
    go_wp2_with fail
    go_quiet (fail)
    go_wp2_with fail
    obtain ⟨F1, hFd⟩ : ∃ F : World → Prop, F = fun w' => w'.cell? ⟨ga, 0, none⟩ = some (.slice (some ad) a.length c) ∧ w'.cell? ad = some (.int .i64 (x : Int)) := ⟨_, rfl⟩
    have HF1 := Lib.hid hFd
    clear hFd
    have hcell10 : ∀ p' : Wof F1, p'.w.cell? ⟨ga, 0, none⟩ = some (.slice (some ad) a.length c) := fun ⟨x, hx⟩ => by rw [HF1.out] at hx; exact hx.1
    have hcell11 : ∀ p' : Wof F1, p'.w.cell? ad = some (.int .i64 (x : Int)) := fun ⟨x, hx⟩ => by rw [HF1.out] at hx; exact hx.2
    refine wp_region_schedZ [(0, true), (1, true), (2, true), (3, true), (4, true), (5, true)] 6 _ F1 (by kernel_rfl) (by kernel_rfl) rfl (by kernel_rfl) rfl (fun _ _ _ _ _ h => h) (by kernel_rfl) (by rw [HF1.out]; first | trivial | (repeat' apply And.intro) <;> assumption | (simp; done) | (simp [*]; done)) (by rw [HF1.out]; exact fun h => h) ?_
    intro hne1
    simp only [opersOf, List.getElem?_toArray, List.getElem?_cons_succ, List.getElem?_cons_zero]
    repeat (first | (refine wpSched_free rfl ?_; intro K hK; go_big_quiet_op; go_big_quiet_on) | (refine wpSched_wantS _ rfl rfl rfl ?_; intro K hK; go_big_quiet_op; go_big_quiet_on) | (refine wpSched_skipS _ rfl rfl rfl rfl ?_; simp only [Act.put, List.setIfInBounds_toArray, List.set_cons_zero, List.set_cons_succ]) | (refine wpSched_skipU _ rfl rfl rfl ?_; simp only [Act.put, List.setIfInBounds_toArray, List.set_cons_zero, List.set_cons_succ]))
    refine wpSched_nil ?_
    refine qz_nil ?_
    go_wp2_with fail
    go_ret
    exact ⟨rfl, _, HT.out _, (below_drewN (Below.refl _ _) _).setCell (p := ⟨ga, 0, none⟩) hB0.1 _⟩
set_option maxRecDepth 100000 in
set_option maxHeartbeats 8000000 in
theorem takeB_any (w : World) (B B0 ga gb : Nat) (va vb : Value) (a b : List Nat) (h : Lq w B ga gb va vb a b) (hne : takeA a b = false) (hB0 : B0 ≤ ga ∧ B0 ≤ gb) (hs : a.length ≤ 100 ∧ b.length ≤ 100) :
    Calls Try.prog 68 #[.pointer (some ⟨gb, 0, none⟩), .pointer (some ⟨ga, 0, none⟩)] w fun e w' => e = .returned (.int .i64 (b.getD 0 0 : Nat)) ∧ ∃ vb', Lq w' B ga gb va vb' a (b.drop 1) ∧ Below B0 w w' := by
  have hbl : 1 ≤ b.length := by
    cases b with
    | nil => cases hne
    | cons y b => simp
  obtain ⟨A, c, rfl, hnc, hcm, _⟩ := h.ra.form
  obtain ⟨Ab, cb, rfl, hncb, hcmb, _⟩ := h.rb.form
  obtain ⟨bd, rfl, d0⟩ := headN h.rb hbl
  have b0 := h.ba.cell0
  have b1 := h.bb.cell0
  have hfz := h.bb.frozen 0
  have HT := Lib.hid (fun q => (h.drewN q).tailB hbl (by simp))
  have hcut : ∀ W, (Instr.sliceAt 22 (.slice (some bd) b.length cb) (some (.int .i64 1)) none none).run Try.prog W = .ok (.slice (if cb = 1 then some bd else (some bd).map (·.add (1 * 1))) (b.length - 1) (cb - 1)) W := fun W => run_behindT Try.underlying22 (by kernel_rfl) (some bd) b.length cb 1 hbl W
  generalize (if cb = 1 then some bd else (some bd).map (·.add (1 * 1))) = A2 at *
  generalize hy : b.getD 0 0 = y at *
  have HY := Lib.hid hy
  have g1 : ((b.length : Int) == 0) = false := by rw [beq_eq_false_iff_ne]; omega
  have g1' : (b.length == 0) = false := by rw [beq_eq_false_iff_ne]; omega
  have hc1 : 1 ≤ b.length := hbl
  rcases Nat.eq_zero_or_pos a.length with ha0 | ha0
  · have HB := Lib.hid ha0
    have g3 : decide ((0 : Int) < (a.length : Int)) = false := decide_eq_false (by omega)
    have g3' : decide (0 < a.length) = false := decide_eq_false (by omega)
    clear h hne hbl hy ha0
    go_enter Try.func68, Try.ntmps68
    go_wp2_with fail
    go_quiet (fail)
    go_wp2_with fail
    obtain ⟨F1, hFd⟩ : ∃ F : World → Prop, F = fun w' => w'.cell? ⟨gb, 0, none⟩ = some (.slice (some bd) b.length cb) ∧ w'.cell? bd = some (.int .i64 (y : Int)) := ⟨_, rfl⟩
    have HF1 := Lib.hid hFd
    clear hFd
    have hcell10 : ∀ p' : Wof F1, p'.w.cell? ⟨gb, 0, none⟩ = some (.slice (some bd) b.length cb) := fun ⟨x, hx⟩ => by rw [HF1.out] at hx; exact hx.1
    have hcell11 : ∀ p' : Wof F1, p'.w.cell? bd = some (.int .i64 (y : Int)) := fun ⟨x, hx⟩ => by rw [HF1.out] at hx; exact hx.2
    refine wp_region_schedZ [(0, true), (1, true), (2, true), (3, true), (4, true), (5, true)] 6 _ F1 (by kernel_rfl) (by kernel_rfl) rfl (by kernel_rfl) rfl (fun _ _ _ _ _ h => h) (by kernel_rfl) (by rw [HF1.out]; first | trivial | (repeat' apply And.intro) <;> assumption | (simp; done) | (simp [*]; done)) (by rw [HF1.out]; exact fun h => h) ?_
    intro hne1
    simp only [opersOf, List.getElem?_toArray, List.getElem?_cons_succ, List.getElem?_cons_zero]
    repeat (first | (refine wpSched_free rfl ?_; intro K hK; go_big_quiet_op; go_big_quiet_on) | (refine wpSched_wantS _ rfl rfl rfl ?_; intro K hK; go_big_quiet_op; go_big_quiet_on) | (refine wpSched_skipS _ rfl rfl rfl rfl ?_; simp only [Act.put, List.setIfInBounds_toArray, List.set_cons_zero, List.set_cons_succ]) | (refine wpSched_skipU _ rfl rfl rfl ?_; simp only [Act.put, List.setIfInBounds_toArray, List.set_cons_zero, List.set_cons_succ]))
    refine wpSched_nil ?_
    refine qz_nil ?_
    go_wp2_with fail
    go_ret
    exact ⟨rfl, _, HT.out _, (below_drewN (Below.refl _ _) _).setCell (p := ⟨gb, 0, none⟩) hB0.2 _⟩
  · obtain ⟨ad, rfl, c0⟩ := headN h.ra ha0
    have hxy : ¬ a.getD 0 0 ≤ b.getD 0 0 := by
      cases a with
      | nil => simp at ha0
      | cons x a =>
        cases b with
        | nil => simp at hbl
        | cons y b => exact of_decide_eq_false hne
    rw [hy] at hxy
    generalize a.getD 0 0 = x at *
    have g3 : decide ((0 : Int) < (a.length : Int)) = true := decide_eq_true (by omega)
    have g3' : decide (0 < a.length) = true := decide_eq_true (by omega)
    have g4 : decide ((x : Int) ≤ (y : Int)) = false := decide_eq_false (by omega)
    have g4' : decide (x ≤ y) = false := decide_eq_false hxy
    have hac : 1 ≤ a.length := ha0
    clear h hne hbl hy ha0 hxy
    go_enter Try.func68, Try.ntmps68
    go_wp2_with fail
    go_quiet (fail)
    go_wp2_with fail
    obtain ⟨F1, hFd⟩ : ∃ F : World → Prop, F = fun w' => w'.cell? ⟨gb, 0, none⟩ = some (.slice (some bd) b.length cb) ∧ w'.cell? bd = some (.int .i64 (y : Int)) := ⟨_, rfl⟩
    have HF1 := Lib.hid hFd
    clear hFd
    have hcell10 : ∀ p' : Wof F1, p'.w.cell? ⟨gb, 0, none⟩ = some (.slice (some bd) b.length cb) := fun ⟨x, hx⟩ => by rw [HF1.out] at hx; exact hx.1
    have hcell11 : ∀ p' : Wof F1, p'.w.cell? bd = some (.int .i64 (y : Int)) := fun ⟨x, hx⟩ => by rw [HF1.out] at hx; exact hx.2
    refine wp_region_schedZ [(0, true), (1, true), (2, true), (3, true), (4, true), (5, true)] 6 _ F1 (by kernel_rfl) (by kernel_rfl) rfl (by kernel_rfl) rfl (fun _ _ _ _ _ h => h) (by kernel_rfl) (by rw [HF1.out]; first | trivial | (repeat' apply And.intro) <;> assumption | (simp; done) | (simp [*]; done)) (by rw [HF1.out]; exact fun h => h) ?_
    intro hne1
    simp only [opersOf, List.getElem?_toArray, List.getElem?_cons_succ, List.getElem?_cons_zero]
    repeat (first | (refine wpSched_free rfl ?_; intro K hK; go_big_quiet_op; go_big_quiet_on) | (refine wpSched_wantS _ rfl rfl rfl ?_; intro K hK; go_big_quiet_op; go_big_quiet_on) | (refine wpSched_skipS _ rfl rfl rfl rfl ?_; simp only [Act.put, List.setIfInBounds_toArray, List.set_cons_zero, List.set_cons_succ]) | (refine wpSched_skipU _ rfl rfl rfl ?_; simp only [Act.put, List.setIfInBounds_toArray, List.set_cons_zero, List.set_cons_succ]))
    refine wpSched_nil ?_
    refine qz_nil ?_
    go_wp2_with fail
    go_ret
    exact ⟨rfl, _, HT.out _, (below_drewN (Below.refl _ _) _).setCell (p := ⟨gb, 0, none⟩) hB0.2 _⟩
theorem take_any (w : World) (B B0 ga gb : Nat) (va vb : Value) (a b : List Nat) (h : Lq w B ga gb va vb a b) (hp : 0 < a.length + b.length) (hB0 : B0 ≤ ga ∧ B0 ≤ gb) (hs : a.length ≤ 100 ∧ b.length ≤ 100) :
    Calls Try.prog 68 #[.pointer (some ⟨gb, 0, none⟩), .pointer (some ⟨ga, 0, none⟩)] w fun e w' => e = .returned (.int .i64 (takeV a b : Nat)) ∧ ∃ va' vb', Lq w' B ga gb va' vb' (takeL a b) (takeR a b) ∧ Below B0 w w' := by
  unfold takeV takeL takeR
  cases ht : takeA a b with
  | true =>
    refine (takeA_any w B B0 ga gb va vb a b h ht hp hB0 hs).mono ?_
    rintro e w' ⟨he, va', h1, h2⟩
    exact ⟨by rw [if_pos rfl]; exact he, va', vb, by rw [if_pos rfl, if_pos rfl]; exact h1, h2⟩
  | false =>
    refine (takeB_any w B B0 ga gb va vb a b h ht hB0 hs).mono ?_
    rintro e w' ⟨he, vb', h1, h2⟩
    exact ⟨by rw [if_neg (by simp)]; exact he, va, vb', by rw [if_neg (by simp), if_neg (by simp)]; exact h1, h2⟩
end Go.Proofs.Ytmmamdjbbpeifaa
