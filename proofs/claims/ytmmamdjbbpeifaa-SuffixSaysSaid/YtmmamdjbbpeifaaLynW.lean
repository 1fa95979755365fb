/- lyndon.Split, lyndon.Is. -/
import Derived.Test.YtmmamdjbbpeifaaLyn0
import Derived.Test.YtmmamdjbbpeifaaWordC
import Derived.Test.YtmmamdjbbpeifaaStrC
import Derived.Test.YtmmamdjbbpeifaaWord1
namespace Go.Proofs.Ytmmamdjbbpeifaa
open Go.RowKit
theorem strCells_snoc' (l : List (List UInt8)) (x : List UInt8) : strCells l ++ [.string (S x)] = strCells (l ++ [x]) := by simp [strCells]
theorem SpAt.addW {s : List UInt8} {out : List (List UInt8)} {at_ p : Nat} {U : List UInt8} (h : SpAt s out at_) (hU : (s.drop at_).take p = U) (hw : LyW U) (hn : at_ + p ≤ s.length) (hl : ∀ u, out.getLast? = some u → ¬ u < U) :
    SpAt s (out ++ [U]) (at_ + p) := by
  have hlu : U.length = p := by rw [← hU, List.length_take, List.length_drop]; omega
  have hg : ∀ i, i < p → U.getD i 0 = s.getD (at_ + i) 0 := fun i hi => by
    rw [← hU, List.getD_eq_getElem?_getD, List.getElem?_take_of_lt hi, List.getElem?_drop, ← List.getD_eq_getElem?_getD]
  have hp : LyP s at_ p := by
    unfold LyW at hw
    rw [hlu] at hw
    refine ⟨hw.1, fun d h1 h2 => ?_⟩
    obtain ⟨j, h3, h4, h5⟩ := hw.2 d h1 h2
    refine ⟨j, h3, fun i hi => ?_, ?_⟩
    · have := h4 i hi
      rw [Nat.zero_add, Nat.zero_add, hg i (by omega), hg (d + i) (by omega)] at this
      rw [Nat.add_assoc]; exact this
    · rw [Nat.zero_add, Nat.zero_add, hg j (by omega), hg (d + j) (by omega)] at h5
      rw [Nat.add_assoc at_ d j]; exact h5
  have := h.add hp hn (by rw [hU]; exact hl)
  rw [hU] at this
  exact this
theorem DuAt.copy {s : List UInt8} {at_ i k m : Nat} (h : DuAt s at_ i k) (hk : k ≤ s.length) (hm : at_ + m * (k - i) ≤ i) : (s.drop (at_ + m * (k - i))).take (k - i) = (s.drop at_).take (k - i) := by
  have h1 := h.le; have h2 := h.lt
  have hM := h.mod_
  generalize hp : k - i = p at *
  apply List.ext_getElem
  · simp only [List.length_take, List.length_drop]; omega
  · intro t ht1 ht2
    simp only [List.length_take, List.length_drop] at ht1 ht2
    rw [List.getElem_take, List.getElem_take, List.getElem_drop, List.getElem_drop]
    have e := hM (m * p + t) (by omega)
    rw [Nat.mul_comm m p, Nat.mul_add_mod, Nat.mod_eq_of_lt (by omega), Nat.mul_comm p m] at e
    rw [show at_ + (m * p + t) = at_ + m * p + t by omega, List.getD_eq_getElem?_getD, List.getElem?_eq_getElem (by omega), List.getD_eq_getElem?_getD, List.getElem?_eq_getElem (by omega)] at e
    exact e
/-- How the third loop stands. -/
structure EmAt (s : List UInt8) (at_ i k m a : Nat) (out : List (List UInt8)) : Prop where
  ea : a = at_ + m * (k - i)
  le : a ≤ k
  sp : SpAt s out a
  no : ∀ u, out.getLast? = some u → ¬ u < (s.drop at_).take (k - i)
  la : 1 ≤ m → out.getLast? = some ((s.drop at_).take (k - i))
  len : out.length ≤ a
theorem EmAt.step {s : List UInt8} {at_ i k m a : Nat} {out : List (List UInt8)} (h : EmAt s at_ i k m a out) (hd : DuAt s at_ i k) (hk : k ≤ s.length) (hi : a ≤ i) :
    EmAt s at_ i k (m + 1) (a + (k - i)) (out ++ [(s.drop a).take (k - i)]) := by
  have ha := h.ea
  have h1 := hd.le; have h2 := hd.lt
  have hc : (s.drop a).take (k - i) = (s.drop at_).take (k - i) := by
    rw [ha]; exact hd.copy hk (by omega)
  have hw : LyW ((s.drop at_).take (k - i)) := lyW_sub hd.ly (by omega)
  refine ⟨by rw [ha, Nat.succ_mul]; omega, by omega, ?_, ?_, ?_, ?_⟩
  · rw [hc]; exact h.sp.addW hc hw (by omega) h.no
  · intro u hu
    rw [List.getLast?_concat] at hu
    obtain rfl := Option.some.inj hu
    rw [hc]; exact List.lt_irrefl _
  · intro _; rw [List.getLast?_concat, hc]
  · rw [List.length_append, List.length_singleton]
    have := h.len; omega
theorem EmAt.fin {s : List UInt8} {at_ i k m a : Nat} {out : List (List UInt8)} (h : EmAt s at_ i k m a out) (hd : DuAt s at_ i k) (hk : k ≤ s.length) (he : k < s.length → s.getD k 0 < s.getD i 0) (hi : i < a) :
    ∀ u, out.getLast? = some u → NIr u (s.drop a) := by
  have h1 := hd.le; have h2 := hd.lt
  have hm : 1 ≤ m := by
    rcases Nat.eq_zero_or_pos m with h0 | h0
    · exfalso; have := h.ea; rw [h0, Nat.zero_mul] at this; omega
    · exact h0
  intro u hu
  rw [h.la hm] at hu
  obtain rfl := Option.some.inj hu
  have := h.ea
  have hle := h.le
  rw [this] at hi hle ⊢
  exact ni_end hd hk he hle hm hi
end Go.Proofs.Ytmmamdjbbpeifaa
