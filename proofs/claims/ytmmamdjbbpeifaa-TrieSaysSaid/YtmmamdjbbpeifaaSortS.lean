/- slices.Sort and slices.Compact at strings of the call's own. -/
import Derived.Test.YtmmamdjbbpeifaaShelf
import Derived.Test.YtmmamdjbbpeifaaLogW
import Derived.Sort.OwnSorted
import Derived.Lib.OwnBridge
namespace Go.Proofs.Ytmmamdjbbpeifaa
open Go.RowKit Go.Proofs
def sortB (l : List (List UInt8)) : List (List UInt8) := l.mergeSort fun x y => decide (x ≤ y)
theorem sortB_len (l : List (List UInt8)) : (sortB l).length = l.length := List.length_mergeSort l
theorem strCells_enc (l : List (List UInt8)) : strCells l = l.map encStr := rfl
theorem comp_le (l : List (List UInt8)) : (Lib.compact l).length ≤ l.length := by
  have h : ∀ (d : Array (List UInt8)) m, (Lib.compactUpTo d m).length ≤ m := by
    intro d m
    induction m with
    | zero => simp [Lib.compactUpTo]
    | succ m ih => rw [Lib.compactUpTo_succ, List.length_append]; split <;> simp <;> omega
  have := h l.toArray l.length
  simpa [Lib.compact] using this
theorem sortStr_own (l : List (List UInt8)) (v : Value) (w0 w : World) (h : w.ownsRow w0.heap.size 9 1 v l.length (strCells l)) (hb : Below w0.heap.size w0 w) (hl : l.length < 4611686018427387904) :
    Calls Try.prog 27 #[v] w fun e w' => e = .returned (.tuple #[]) ∧ w'.ownsRow w0.heap.size 9 1 v l.length (strCells (sortB l)) ∧ Below w0.heap.size w0 w' := by
  rcases h.2 with ⟨rfl, h0⟩ | ⟨g, cap, cur, rfl, hbase, hg, h1, h2, h3, h4⟩
  · obtain rfl : l = [] := List.eq_nil_of_length_eq_zero h0
    refine (Try.slices_Sort_string_none none 0 w).mono ?_
    rintro e w' ⟨rfl, rfl⟩
    have e0 : sortB [] = [] := by simp [sortB]
    rw [e0]
    exact ⟨rfl, h, hb⟩
  · refine (Try.slices_Sort_string g 0 cap l w (holds_of_block hg (by simpa [strCells_enc] using h4)) (Array.getElem?_eq_some_iff.1 hg).1 hl).mono ?_
    rintro e w' ⟨rfl, n, os, rfl⟩
    refine ⟨rfl, ?_, hb.grown (grownBy_sorted _) hb.size (fun k hk => by cases hk; exact hbase)⟩
    exact ownsRow_sorted (sortB_len l) hbase hg h1 h2 h3
theorem compStr_own (l : List (List UInt8)) (v : Value) (w0 w : World) (h : w.ownsRow w0.heap.size 9 1 v l.length (strCells l)) (hb : Below w0.heap.size w0 w) (hl : l.length < 4611686018427387904) :
    Calls Try.prog 41 #[v] w fun e w' => ∃ A c, e = .returned (.slice A (Lib.compact l).length c) ∧ w'.ownsRow w0.heap.size 9 1 (.slice A (Lib.compact l).length c) (Lib.compact l).length (strCells (Lib.compact l)) ∧ Below w0.heap.size w0 w' := by
  rcases h.2 with ⟨rfl, h0⟩ | ⟨g, cap, cur, rfl, hbase, hg, h1, h2, h3, h4⟩
  · obtain rfl : l = [] := List.eq_nil_of_length_eq_zero h0
    refine (Try.slices_Compact_string_empty none 0 w).mono ?_
    rintro e w' ⟨rfl, rfl⟩
    exact ⟨none, 0, rfl, h, hb⟩
  · refine (Try.slices_Compact_string g 0 cap l w (holds_of_block hg (by simpa [strCells_enc] using h4)) (by omega) h1).mono ?_
    rintro e w' ⟨rfl, q, rfl⟩
    have hle := comp_le l
    refine ⟨_, _, rfl, ?_, Lib.below_putRow hb hbase⟩
    have := Lib.ownsRow_putRow (enc := encStr) (q := q) (zs := l) (ys := Lib.compact l ++ List.replicate (l.length - (Lib.compact l).length) []) (k := (Lib.compact l).length) h (by simp; omega) hle
    rw [List.take_left'] at this
    · exact this
    · rfl
end Go.Proofs.Ytmmamdjbbpeifaa
