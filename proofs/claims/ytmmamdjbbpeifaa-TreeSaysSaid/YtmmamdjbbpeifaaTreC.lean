/- The document's LeastCost. -/
import Derived.Test.YtmmamdjbbpeifaaTreB
import Derived.Test.YtmmamdjbbpeifaaSortS
import Derived.Test.YtmmamdjbbpeifaaShelf
namespace Go.Proofs.Ytmmamdjbbpeifaa
open Go.RowKit Go.Proofs
theorem ints_one (l : List Int) : ∀ u ∈ ints l, u.oneCell' = true := fun u hu => by
  obtain ⟨x, _, rfl⟩ := List.mem_map.1 hu; rfl
set_option maxRecDepth 100000 in
set_option maxHeartbeats 1000000 in
theorem cloneInt_any (A : Option Addr) (n c B : Nat) (l : List Int) (w : World) (hr : Rd w B 1 A n (ints l)) (hB : B ≤ w.heap.size) (hn : n ≤ 1000) :
    Calls Try.prog 66 #[.slice A n c] w fun e w' => ∃ v, e = .returned v ∧ w'.ownsRow w.heap.size 3 1 v n (ints l) ∧ Below w.heap.size w w' := by
  obtain ⟨i0, hi0, hz0, hz1, hz2⟩ := info_parts info_int
  have HR := Lib.hid hr
  have HX := Lib.hid (ints_one l)
  cases A with
  | none =>
    have h0 : n = 0 := by
      rcases Nat.eq_zero_or_pos n with h0 | h0
      · exact h0
      · obtain ⟨ad, h, _⟩ := hr.2 h0; cases h
    subst h0
    have hxs : l = [] := List.eq_nil_of_length_eq_zero (by have := hr.1; simpa [ints] using this)
    subst hxs
    clear hr
    have hnil := fun (W : World) => Lib.run_eql_slice_nil (P := Try.prog) W 22 3 none 0 c 0 0 Try.underlying22
    go_enter Try.func66, Try.ntmps66
    go_wp2_with fail
    go_ret
    exact ⟨_, rfl, World.ownsRow_nil _ _ _ _, Below.refl _ _⟩
  | some ad =>
    clear hr
    have hnil := fun (W : World) => Lib.run_eql_slice_nil (P := Try.prog) W 22 3 (some ad) n c 0 0 Try.underlying22
    go_enter Try.func66, Try.ntmps66
    go_wp2_with (at_builtin; go_must (refine wpList_appRd rfl _ _ _ rfl w.heap.size 3 i0 _ 1 8 Try.underlying22 hi0 hz0 hz1 hz2 rfl (by omega) _ 0 [] rfl (World.ownsRow_lit w #[] 0 (Nat.le_refl _) (Nat.zero_le _) rfl) B (some ad) n c (ints l) rfl (HR.out.alloc hB _) HX.out (by omega) (by omega) (by simp) ?_); intro v6 w6 hown6 hb6)
    go_ret
    exact ⟨v6, rfl, by simpa using hown6, ((Below.refl _ _).alloc (Nat.le_refl _) _).trans hb6⟩
theorem sort_intN (l : List Nat) : ((intN l).mergeSort fun x y => decide (x ≤ y)) = intN (srtN l) := by
  obtain ⟨h1, h2⟩ := srtN_up_perm l
  refine List.Perm.eq_of_pairwise (le := (· ≤ ·)) (fun _ _ _ _ h1 h2 => Int.le_antisymm h1 h2) ?_ ?_ ((List.mergeSort_perm _ _).trans (h2.map _).symm)
  · have h := List.pairwise_mergeSort (le := fun (x y : Int) => decide (x ≤ y)) (fun a b c h1 h2 => by
      rw [decide_eq_true_iff] at *; omega) (fun a b => by
      rw [Bool.or_eq_true, decide_eq_true_iff, decide_eq_true_iff]; omega) (intN l)
    exact h.imp fun h => by rwa [decide_eq_true_iff] at h
  · unfold intN
    rw [List.pairwise_map]
    exact h1.imp fun h => by omega
theorem gb_putRow {α : Type} [Inhabited α] {enc : α → Value} {w : World} {g n : Nat} {os : Array Obj} (d : Array α) : w.grownBy (Go.Sort.grow (Go.Sort.putRow enc (Go.Sort.ahead w n) g 0 d) os) (some g) := by
  refine ⟨rfl, rfl, rfl, by simp, fun k hk hne => ?_⟩
  rw [Go.Sort.heap_grow_old _ _ (by simpa using hk)]
  have : g ≠ k := fun e => hne (by rw [e])
  simp [Go.Sort.putRow, Go.Sort.mapBlock, Go.Sort.ahead, Array.getElem?_modify, this]
theorem below_growC (w : World) (os : Array Obj) : Below w.heap.size w (Go.Sort.grow w os) :=
  ⟨rfl, rfl, rfl, by simp, fun k hk => Go.Sort.heap_grow_old _ _ hk⟩
theorem sortInt_own (l : List Nat) (v : Value) (base : Nat) (w : World) (h : w.ownsRow base 3 1 v l.length (ints (intN l))) (hl : l.length < 4611686018427387904) :
    Calls Try.prog 67 #[v] w fun e w' => e = .returned (.tuple #[]) ∧ w'.ownsRow base 3 1 v l.length (ints (intN (srtN l))) ∧ w.grownBy w' v.ownBlock := by
  by_cases hv : v = .slice none 0 0
  · subst hv
    have h0 : l.length = 0 := by
      rcases h.2 with ⟨_, h0⟩ | ⟨g, cap, cur, hx, _⟩
      · exact h0
      · cases hx
    obtain rfl : l = [] := List.eq_nil_of_length_eq_zero h0
    refine (Try.slices_Sort_int_none none 0 w).mono ?_
    rintro e w' ⟨rfl, rfl⟩
    exact ⟨rfl, h, gb_refl _ _⟩
  · have h2 : w.ownsRow base 3 1 v l.length ((intN l).map (Value.int .i64)) := h
    obtain ⟨g, cap, rfl, hbase, hlt, _, _, _, hH⟩ := Lib.holds_of_ownsRow h2 hv
    have hz := Try.slices_Sort_int g 0 cap (intN l) w hH hlt (by rw [intN_len]; exact hl)
    rw [intN_len] at hz
    refine hz.mono ?_
    rintro e w' ⟨rfl, n, os, rfl⟩
    have hll : ((intN l).mergeSort fun x y => decide (x ≤ y)).length = l.length := by rw [List.length_mergeSort, intN_len]
    have h1 := Lib.ownsRow_putRow (q := n) h2 hll (Nat.le_refl _)
    rw [List.take_of_length_le (by rw [hll]; exact Nat.le_refl _)] at h1
    refine ⟨rfl, ?_, gb_putRow _⟩
    have h3 := own_below h1 (below_growC _ os)
    rw [sort_intN] at h3 ⊢
    exact h3
end Go.Proofs.Ytmmamdjbbpeifaa
