/- Putting a text for a word, one place after the other (plain). -/
import Derived.Test.YtllcmmpepchieaaSeek0
import Derived.Lib.Replace
import Derived.Lib.CountLaws
namespace Go.Proofs.Ytllcmmpepchieaa
open Go.Lib
theorem occ_hit (s p : List UInt8) (a j : Nat) : occAt (s.drop a) p j = hitB s p (a + j) := by
  unfold occAt hitB
  rw [List.drop_drop, Bool.eq_iff_iff, List.isPrefixOf_iff_prefix, decide_eq_true_iff, List.prefix_iff_eq_take]
  exact eq_comm
theorem hit_room {s p : List UInt8} {j : Nat} (h : hitB s p j = true) : p.length + j ≤ s.length ∨ p = [] := by
  unfold hitB at h
  have h := congrArg List.length (of_decide_eq_true h)
  rw [List.length_take, List.length_drop] at h
  rcases Nat.eq_zero_or_pos p.length with h0 | h0
  · exact .inr (List.eq_nil_of_length_eq_zero h0)
  · left; omega
theorem finds_mem {s p : List UInt8} {n j : Nat} : j ∈ finds s p n ↔ j < n ∧ hitB s p j = true := by
  unfold finds; rw [List.mem_filter, List.mem_range]
theorem finds_lt {s p : List UInt8} {n r q : Nat} (hrq : r < q) (hq : q < (finds s p n).length) : (finds s p n).getD r 0 < (finds s p n).getD q 0 := by
  have hp : (finds s p n).Pairwise (· < ·) := List.pairwise_lt_range.filter _
  have := List.pairwise_iff_getElem.1 hp r q (by omega) hq hrq
  rw [List.getD_eq_getElem?_getD, List.getD_eq_getElem?_getD, List.getElem?_eq_getElem hq, List.getElem?_eq_getElem (show r < (finds s p n).length by omega)]
  exact this
/-- Of the places F the first q are done with. -/
structure PutAt (s p by_ : List UInt8) (N q a c : Nat) (out : List UInt8) : Prop where
  le : a ≤ s.length
  no : ∀ r, r < q → (finds s p N).getD r 0 < a
  cnt : count s p = c + count (s.drop a) p
  rep : ∀ K, replaceK p by_ (c + K) s = out ++ replaceK p by_ K (s.drop a)
  same : p = by_ → out = s.take a
  cq : c ≤ q
  len : out.length ≤ a + c * by_.length
theorem PutAt.start (s p by_ : List UInt8) (N : Nat) : PutAt s p by_ N 0 0 0 [] :=
  ⟨Nat.zero_le _, fun r h => by omega, by simp, fun K => by simp, fun _ => by simp, Nat.le_refl _, by simp⟩
theorem PutAt.skip {s p by_ out : List UInt8} {N q a c : Nat} (h : PutAt s p by_ N q a c out) (hlt : (finds s p N).getD q 0 < a) : PutAt s p by_ N (q + 1) a c out :=
  ⟨h.le, fun r hr => by
    rcases Nat.lt_or_ge r q with h1 | h1
    · exact h.no r h1
    · obtain rfl : r = q := by omega
      exact hlt, h.cnt, h.rep, h.same, by have := h.cq; omega, h.len⟩
theorem PutAt.hit {s p by_ out : List UInt8} {N q a c i : Nat} (h : PutAt s p by_ N q a c out) (hp : p ≠ []) (hN : N + p.length ≤ s.length + 1) (hq : q < (finds s p N).length) (hi : (finds s p N).getD q 0 = i) (hge : a ≤ i) :
    i + p.length ≤ s.length ∧ PutAt s p by_ N (q + 1) (i + p.length) (c + 1) (out ++ (s.drop a).take (i - a) ++ by_) := by
  have hpl : 0 < p.length := by
    rcases Nat.eq_zero_or_pos p.length with h0 | h0
    · exact absurd (List.eq_nil_of_length_eq_zero h0) hp
    · exact h0
  have hmem : i ∈ finds s p N := by
    rw [← hi, List.getD_eq_getElem?_getD, List.getElem?_eq_getElem hq]; exact List.getElem_mem _
  obtain ⟨hiN, hhit⟩ := finds_mem.1 hmem
  have hroom : i + p.length ≤ s.length := by omega
  have hidx : index (s.drop a) p = ((i - a : Nat) : Int) := by
    refine index_first (by rw [List.length_drop]; omega) (by rw [occ_hit, show a + (i - a) = i by omega]; exact hhit) fun j hj => ?_
    rw [occ_hit]
    cases hj2 : hitB s p (a + j) with
    | false => rfl
    | true =>
      exfalso
      obtain ⟨r, hr, e⟩ := List.mem_iff_getElem.1 (finds_mem.2 ⟨show a + j < N by omega, hj2⟩)
      have e2 : (finds s p N).getD r 0 = a + j := by rw [List.getD_eq_getElem?_getD, List.getElem?_eq_getElem hr]; exact e
      have hrq : r < q := by
        rcases Nat.lt_trichotomy r q with h1 | h1 | h1
        · exact h1
        · subst h1; omega
        · have := finds_lt h1 hr; omega
      have := h.no r hrq
      omega
  have hdd : (s.drop a).drop (i - a + p.length) = s.drop (i + p.length) := by rw [List.drop_drop]; congr 1; omega
  refine ⟨hroom, hroom, fun r hr => ?_, ?_, fun K => ?_, fun e => ?_, by have := h.cq; omega, ?_⟩
  · rcases Nat.lt_or_ge r q with h1 | h1
    · have := h.no r h1; omega
    · obtain rfl : r = q := by omega
      omega
  · rw [h.cnt, count_hit hp hidx, hdd]; omega
  · rw [show c + 1 + K = c + (K + 1) by omega, h.rep, replaceK_hit _ _ _ _ _ hidx, hdd]
    simp only [List.append_assoc]
  · rw [h.same e, ← e]
    have hh : (s.drop i).take p.length = p := by unfold hitB at hhit; exact of_decide_eq_true hhit
    have e1 : s.take a ++ (s.drop a).take (i - a) = s.take i := by
      rw [← List.take_add, show a + (i - a) = i by omega]
    rw [e1, List.take_add, hh]
  · rw [List.length_append, List.length_append, List.length_take, List.length_drop, Nat.succ_mul]
    have := h.len
    omega
theorem PutAt.fin {s p by_ out : List UInt8} {N a c : Nat} (h : PutAt s p by_ N (finds s p N).length a c out) (hp : p ≠ []) (hN : N = s.length + 1 - p.length) : out ++ s.drop a = replaceAll s p by_ ∧ c = count s p := by
  have hidx : index (s.drop a) p = -1 := by
    refine index_none fun j hj => ?_
    rw [occ_hit]
    cases hj2 : hitB s p (a + j) with
    | false => rfl
    | true =>
      exfalso
      have hroom : p.length + (a + j) ≤ s.length := (hit_room hj2).resolve_right hp
      obtain ⟨r, hr, e⟩ := List.mem_iff_getElem.1 (finds_mem.2 ⟨show a + j < N by omega, hj2⟩)
      have e2 : (finds s p N).getD r 0 = a + j := by rw [List.getD_eq_getElem?_getD, List.getElem?_eq_getElem hr]; exact e
      have := h.no r hr
      omega
  have hc : c = count s p := by rw [h.cnt, count_miss hidx]; omega
  refine ⟨?_, hc⟩
  unfold replaceAll replace
  by_cases e : p = by_
  · rw [if_pos (by rw [e]; simp), h.same e, List.take_append_drop]
  · rw [if_neg (by simpa using e)]
    have h2 := h.rep 0
    rw [Nat.add_zero] at h2
    unfold replaceNum
    rw [if_pos (.inl (by decide)), ← hc, h2]
    rfl
end Go.Proofs.Ytllcmmpepchieaa
