/- diff.Cost and diff.Make. -/
import Derived.Test.YtolnhplgaolieaaSameP
import Derived.Test.YtolnhplgaolieaaEditA
namespace Go.Proofs.Ytolnhplgaolieaa
open Go.RowKit
/-- How many bytes have to go, and to come. -/
def dcost (s t : ByteArray) : Int := (s.size : Int) + t.size - 2 * (lcs (L s) (L t) : Nat)
theorem ms_next {a b : List UInt8} {i k : Nat} {ps : List (Nat × Nat)} {m : Nat} (h : Ms a b i k (ps.drop m)) (hm : m < ps.length) :
    i ≤ (ps[m]).1 ∧ k ≤ (ps[m]).2 ∧ (ps[m]).1 < a.length ∧ (ps[m]).2 < b.length ∧ Ms a b ((ps[m]).1 + 1) ((ps[m]).2 + 1) (ps.drop (m + 1)) ∧
      edOf a b i k (ps.drop m) = (if i < (ps[m]).1 ∨ k < (ps[m]).2 then [⟨i, (ps[m]).1 - i, (b.drop k).take ((ps[m]).2 - k)⟩] else []) ++ edOf a b ((ps[m]).1 + 1) ((ps[m]).2 + 1) (ps.drop (m + 1)) := by
  rw [List.drop_eq_getElem_cons hm] at h ⊢
  generalize ps[m] = p at *
  obtain ⟨px, py⟩ := p
  cases h with
  | cons _ _ x y r h1 h2 h3 h4 h5 h6 =>
    exact ⟨h1, h2, h3, h4, h6, by simp only [edOf]⟩
theorem ms_end {a b : List UInt8} {i k : Nat} {ps : List (Nat × Nat)} {m : Nat} (h : Ms a b i k (ps.drop m)) (hm : ¬ m < ps.length) :
    i ≤ a.length ∧ k ≤ b.length ∧ edOf a b i k (ps.drop m) = (if i < a.length ∨ k < b.length then [⟨i, a.length - i, (b.drop k).take (b.length - k)⟩] else []) := by
  have e : ps.drop m = [] := List.drop_of_length_le (by omega)
  rw [e] at h ⊢
  cases h with
  | nil _ _ h1 h2 =>
    refine ⟨h1, h2, ?_⟩
    simp only [edOf]
    rw [List.take_of_length_le (by rw [List.length_drop]; exact Nat.le_refl _)]
theorem fsts_at {w : World} {B : Nat} {A : Option Addr} {ps : List (Nat × Nat)} (f : List (Nat × Nat) → List Int) (g : Nat × Nat → Nat) (hf : ∀ l, f l = l.map fun p => (g p : Int)) (hr : Rd w B 1 A ps.length (ints (f ps))) {m : Nat} (hm : m < ps.length) :
    ∃ ad : Addr, A = some ad ∧ w.cell? (ad.add m) = some (.int .i64 (g ps[m] : Nat)) := by
  obtain ⟨ad, u, hA, _, hu, hc⟩ := hr.at_ hm
  rw [hf, ints, List.map_map, List.getElem?_map, List.getElem?_eq_getElem hm] at hu
  obtain rfl := Option.some.inj hu
  exact ⟨ad, hA, hc⟩
theorem edOf_len {a b : List UInt8} {i k : Nat} {ms : List (Nat × Nat)} (h : Ms a b i k ms) : ((edOf a b i k ms).length : Int) ≤ ms.length + 1 := by
  induction h with
  | nil i k h1 h2 => simp only [edOf]; split <;> simp
  | cons i k x y r h1 h2 h3 h4 h5 h6 ih =>
    simp only [edOf, List.length_append, List.length_cons]
    split <;> simp <;> omega
/-- Where the loop stands. -/
structure DfAt (a b : List UInt8) (ps : List (Nat × Nat)) (m i k : Nat) (q : List Ed) : Prop where
  ms : m ≤ ps.length → Ms a b i k (ps.drop m) ∧ edOf a b 0 0 ps = q ++ edOf a b i k (ps.drop m)
  fin : ps.length < m → q = edOf a b 0 0 ps
  le : q.length ≤ 500 ∧ i ≤ 300 ∧ k ≤ 300
theorem DfAt.end_ {a b : List UInt8} {ps : List (Nat × Nat)} {m i k : Nat} {q q' : List Ed} (h : DfAt a b ps m i k q) (hm : m = ps.length) (hl : (edOf a b 0 0 ps).length ≤ 500) (hA : a.length ≤ 200) (hB : b.length ≤ 200)
    (hq : q' = q ++ (if i < a.length ∨ k < b.length then [⟨i, a.length - i, (b.drop k).take (b.length - k)⟩] else [])) : DfAt a b ps (m + 1) (a.length + 1) (b.length + 1) q' := by
  obtain ⟨h1, h2⟩ := h.ms (by omega)
  have h3 := (ms_end h1 (by omega)).2.2
  have e : q' = edOf a b 0 0 ps := by rw [h2, h3, hq]
  exact ⟨fun h => by omega, fun _ => e, by rw [e]; exact hl, by omega, by omega⟩
theorem DfAt.next_ {a b : List UInt8} {ps : List (Nat × Nat)} {m i k : Nat} {q q' : List Ed} (h : DfAt a b ps m i k q) (hm : m < ps.length) (hl : (edOf a b 0 0 ps).length ≤ 500) (hA : a.length ≤ 200) (hB : b.length ≤ 200)
    (hq : q' = q ++ (if i < (ps[m]).1 ∨ k < (ps[m]).2 then [⟨i, (ps[m]).1 - i, (b.drop k).take ((ps[m]).2 - k)⟩] else [])) : DfAt a b ps (m + 1) ((ps[m]).1 + 1) ((ps[m]).2 + 1) q' := by
  obtain ⟨h1, h2⟩ := h.ms (by omega)
  obtain ⟨h3, h4, h5, h6, h7, h8⟩ := ms_next h1 hm
  have e : edOf a b 0 0 ps = q' ++ edOf a b ((ps[m]).1 + 1) ((ps[m]).2 + 1) (ps.drop (m + 1)) := by rw [h2, h8, hq, List.append_assoc]
  refine ⟨fun _ => ⟨h7, e⟩, fun hh => by omega, ?_, by omega, by omega⟩
  rw [e, List.length_append] at hl; omega
end Go.Proofs.Ytolnhplgaolieaa
