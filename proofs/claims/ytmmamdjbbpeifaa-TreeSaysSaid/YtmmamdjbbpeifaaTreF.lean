/- slices.Concat of two rows of numbers. -/
import Derived.Test.YtmmamdjbbpeifaaTreC
import Derived.Lib.AppendZeros
namespace Go.Proofs.Ytmmamdjbbpeifaa
open Go.RowKit
theorem intsT_len {w : World} {B n : Nat} {A : Option Addr} {l : List Int} (h : Rd w B 1 A n (ints l)) : l.length = n := by
  have := h.1; simpa [ints] using this
set_option maxRecDepth 100000 in
set_option maxHeartbeats 2000000 in
theorem growInt_any (N : Nat) (hN : N ≤ 1000) (w : World) :
    Calls Try.prog 90 #[.slice none 0 0, .int .i64 (N : Int)] w fun e w' => ∃ v, e = .returned v ∧ w'.ownsRow w.heap.size 3 1 v 0 [] ∧ Below w.heap.size w w' := by
  obtain ⟨i0, hi0, hz0, hz1, hz2⟩ := info_parts info_int
  rcases Nat.eq_zero_or_pos N with h0 | h0
  · subst h0
    go_enter Try.func90, Try.ntmps90
    go_wp2_with fail
    go_ret
    exact ⟨_, rfl, World.ownsRow_nil _ _ _ _, Below.refl _ _⟩
  · have hrz : ∀ ty, (Builtin.append_ #[22, 3] ty #[.slice none 0 0, .int .i64 (N : Int)]).run Try.prog w = _ := fun ty =>
      Lib.run_append_nil_zeros w 22 3 ty 3 i0 _ .i64 .i64 Try.underlying22 Try.underlying3 hi0 hz0 N h0 (by omega) (by omega) (by rw [hz2]; omega)
    have hge := grownCap_ge w N 0 3
    have hcm := grownCap_le_maxLen w N 0 3 (by unfold maxLen; omega)
    have HOWN : Hid ((w.drew.alloc (.cells (Builtin.zeroCells (Value.int IntKind.i64 0).cells N ++ Builtin.zeroCells (Value.int IntKind.i64 0).cells (grownCap w N 0 3 - N)) 3)).ownsRow w.heap.size 3 1 (.slice (some ⟨w.heap.size, 0, none⟩) 0 (grownCap w N 0 3)) 0 []) := by
      refine ⟨rfl, .inr ⟨w.heap.size, grownCap w N 0 3, _, rfl, Nat.le_refl _, heap_alloc_new w.drew _, Nat.zero_le _, hcm, ?_, by simp⟩⟩
      simp only [Array.size_append, size_zeroCells]
      have : (Value.int IntKind.i64 0).cells.size = 1 := rfl
      rw [this]; omega
    have hB : Below w.heap.size w (w.drew.alloc (.cells (Builtin.zeroCells (Value.int IntKind.i64 0).cells N ++ Builtin.zeroCells (Value.int IntKind.i64 0).cells (grownCap w N 0 3 - N)) 3)) := (by repeat (first | exact Below.refl _ _ | assumption | refine Below.alloc ?_ (by first | exact Nat.le_refl _ | assumption | omega | (simp <;> omega)) _ | refine Below.setCell ?_ (by first | exact Nat.le_refl _ | assumption | omega | (simp <;> omega)) _ | refine Below.drew ?_ | refine below_drewN ?_ _))
    generalize grownCap w N 0 3 = G at *
    have hGn : G ≤ 9223372036854775807 := by unfold maxLen at hcm; omega
    generalize (w.drew.alloc (.cells (Builtin.zeroCells (Value.int IntKind.i64 0).cells N ++ Builtin.zeroCells (Value.int IntKind.i64 0).cells (G - N)) 3)) = w9 at *
    go_enter Try.func90, Try.ntmps90
    go_wp2_with (at_builtin; refine Lib.wpList_append_run _ rfl _ _ _ _ rfl _ _ rfl rfl _ _ (hrz _) ?_)
    go_ret
    exact ⟨_, rfl, HOWN.out, hB⟩
def segT (p q : List Int) (k : Nat) : List Int := if k = 0 then [] else if k = 1 then p else p ++ q
set_option maxRecDepth 100000 in
set_option maxHeartbeats 4000000 in
theorem concatInt_any (p q : List Int) (A1 : Option Addr) (n1 c1 : Nat) (A2 : Option Addr) (n2 c2 B g : Nat) (w : World) (h1 : Rd w B 1 A1 n1 (ints p)) (h2 : Rd w B 1 A2 n2 (ints q)) (hB : B ≤ w.heap.size) (hg : g < w.heap.size)
    (k0 : w.cell? ⟨g, 0, none⟩ = some (.slice A1 n1 c1)) (k1 : w.cell? ⟨g, 1, none⟩ = some (.slice A2 n2 c2)) (hn1 : n1 ≤ 200) (hn2 : n2 ≤ 200) :
    Calls Try.prog 61 #[.slice (some ⟨g, 0, none⟩) 2 2] w fun e w' => ∃ v, e = .returned v ∧ w'.ownsRow w.heap.size 3 1 v (p ++ q).length (ints (p ++ q)) ∧ Below w.heap.size w w' := by
  obtain ⟨i0, hi0, hz0, hz1, hz2⟩ := info_parts info_int
  have hpn := intsT_len h1
  have hqn := intsT_len h2
  have H1 := Lib.hid h1
  have H2 := Lib.hid h2
  clear h1 h2
  go_enter Try.func61, Try.ntmps61
  go_wp2_with fail
  go_loopw [3, 11] (fun s i wr => ∃ k : Nat, k ≤ 2 ∧ i = .int .i64 (k : Int) ∧ s = .int .i64 ((segT p q k).length : Nat) ∧ wr = w) (fun _ i _ => 2 - (intOf i).toNat)
  case atStart => exact ⟨0, by omega, rfl, rfl, rfl⟩
  case round =>
    obtain ⟨k, hk, rfl, rfl, rfl⟩ := hrel
    obtain ⟨wo, hwo⟩ : ∃ wo : World, wo = wr := ⟨_, rfl⟩
    subst hwo
    obtain rfl | rfl | rfl : k = 0 ∨ k = 1 ∨ k = 2 := by omega
    · have e0 : (segT p q 0).length = 0 := rfl
      rw [e0]
      go_wp2_with fail
      go_roundw
      case rel => exact ⟨1, by omega, by go_num, by rw [show (segT p q 1).length = n1 from hpn], by first | rfl | trivial⟩
      case measure => simp [intOf]
    · have e0 : (segT p q 1).length = n1 := hpn
      rw [e0]
      go_wp2_with fail
      go_roundw
      case rel =>
        refine ⟨2, by omega, by go_num, ?_, by first | rfl | trivial⟩
        rw [show (segT p q 2).length = n1 + n2 by show (p ++ q).length = _; rw [List.length_append, hpn, hqn]]; go_num
      case measure => simp [intOf]
    · have e0 : (segT p q 2).length = n1 + n2 := by show (p ++ q).length = _; rw [List.length_append, hpn, hqn]
      rw [e0]
      go_wp2_with fail
      refine (growInt_any (n1 + n2) (by omega) _).mono ?_
      rintro e w5 ⟨v5, rfl, hown5, hb5⟩
      go_wp2_with fail
      go_loopw [6, 27] (fun o i wq => ∃ k : Nat, k ≤ 2 ∧ i = .int .i64 (k : Int) ∧ wq.ownsRow wo.heap.size 3 1 o (segT p q k).length (ints (segT p q k)) ∧ Below wo.heap.size wo wq) (fun _ i _ => 2 - (intOf i).toNat)
      case atStart => exact ⟨0, by omega, rfl, hown5, hb5⟩
      case round =>
        clear hown5 hb5
        obtain ⟨k, hk, rfl, hown, hb⟩ := hrel
        have HOWN := Lib.hid hown
        clear hown
        have c0 := (hb.cell (p := ⟨g, 0, none⟩) hg).trans k0
        have c1' := (hb.cell (p := ⟨g, 1, none⟩) hg).trans k1
        have hbs := hb.size
        obtain rfl | rfl | rfl : k = 0 ∨ k = 1 ∨ k = 2 := by omega
        · have hr := H1.out.below (hb.mono hB)
          go_wp2_with (at_builtin; go_must (refine wpList_appRd rfl _ _ _ rfl wo.heap.size 3 i0 _ 1 8 Try.underlying22 hi0 hz0 hz1 hz2 rfl (by omega) _ (segT p q 0).length (ints (segT p q 0)) rfl HOWN.out B A1 n1 c1 (ints p) rfl hr (ints_one _) (by show (0 + n1) * 8 ≤ _; omega) (by omega) hbs ?_); intro v6 w6 hown6 hb6)
          go_roundw
          case rel =>
            refine ⟨1, by omega, by go_num, ?_, hb.trans hb6⟩
            have e1 : (segT p q 1).length = (segT p q 0).length + n1 := by show p.length = 0 + n1; omega
            rw [e1]
            exact hown6
          case measure => simp [intOf]
        · have hr := H2.out.below (hb.mono hB)
          have e0 : (segT p q 1).length = n1 := hpn
          go_wp2_with (at_builtin; go_must (refine wpList_appRd rfl _ _ _ rfl wo.heap.size 3 i0 _ 1 8 Try.underlying22 hi0 hz0 hz1 hz2 rfl (by omega) _ (segT p q 1).length (ints (segT p q 1)) rfl HOWN.out B A2 n2 c2 (ints q) rfl hr (ints_one _) (by rw [e0]; omega) (by omega) hbs ?_); intro v6 w6 hown6 hb6)
          go_roundw
          case rel =>
            refine ⟨2, by omega, by go_num, ?_, hb.trans hb6⟩
            have e1 : (segT p q 2).length = (segT p q 1).length + n2 := by show (p ++ q).length = p.length + n2; rw [List.length_append, hqn]
            have e2 : ints (segT p q 2) = ints (segT p q 1) ++ ints q := by show ints (p ++ q) = ints p ++ ints q; simp [ints]
            rw [e1, e2]
            exact hown6
          case measure => simp [intOf]
        · go_wp2_with fail
          go_ret
          exact ⟨_, rfl, HOWN.out, hb⟩
end Go.Proofs.Ytmmamdjbbpeifaa
