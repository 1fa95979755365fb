/- strings.Join with nothing between, of a row of strings. -/
import Derived.Test.YtolnhplgaolieaaStrC
import Derived.Test.YtolnhplgaolieaaShelf
namespace Go.Proofs.Ytolnhplgaolieaa
open Go.RowKit
theorem join_flat : ∀ xs : List (List UInt8), Lib.join xs [] = xs.flatten
  | [] => rfl
  | [x] => by simp [Lib.join, List.intercalate]
  | x :: y :: r => by
    have := join_flat (y :: r)
    simp only [Lib.join, List.intercalate] at this ⊢
    rw [List.intersperse_cons_cons, List.flatten_cons, List.flatten_cons, this]
    simp
theorem Rd.spot {w : World} {B n : Nat} {A : Option Addr} {xs : List Value} (h : Rd w B 1 A n xs) (hn : 0 < n) : ∃ b o, A = some ⟨b, o, none⟩ ∧ b < B ∧ ∀ (j : Nat) u, xs[j]? = some u → w.cell? ⟨b, o + j, none⟩ = some u := by
  obtain ⟨ad, e, hb, hc⟩ := h.2 hn
  have h0 : 0 < xs.length := by have := h.1; omega
  have hc0 := hc 0 _ (List.getElem?_eq_getElem h0)
  obtain ⟨b, o, sp⟩ := ad
  have hsp : sp = none := by
    cases sp with
    | none => rfl
    | some q =>
      exfalso
      have e0 : (⟨b, o, some q⟩ : Addr).add 0 = ⟨b, o, some q⟩ := by unfold Addr.add; rw [if_pos rfl]
      rw [e0] at hc0
      unfold World.cell? at hc0
      split at hc0
      · simp at hc0
      · cases hc0
  subst hsp
  refine ⟨b, o, e, hb, fun j u hu => ?_⟩
  have h1 := hc j u hu
  have e1 : (⟨b, o, none⟩ : Addr).add j = ⟨b, o + j, none⟩ := by unfold Addr.add; split <;> simp_all
  rwa [e1] at h1
theorem joinS (p : List (List UInt8)) (A : Option Addr) (n c B : Nat) (w : World) (hr : Rd w B 1 A n (strCells p)) (hB : B ≤ w.heap.size) (hnc : n ≤ c) (hn : n ≤ 140737488355328) (hl : p.flatten.length ≤ 140737488355328) :
    Calls Try.prog 34 #[.slice A n c, .string ⟨#[]⟩] w fun e w' => e = .returned (.string (S p.flatten)) ∧ Below w.heap.size w w' := by
  have hpn : p.length = n := by have := hr.1; simpa [strCells] using this
  rcases Nat.eq_zero_or_pos n with h0 | h0
  · subst h0
    obtain rfl : p = [] := List.eq_nil_of_length_eq_zero hpn
    refine (Try.strings_Join_none A c ⟨#[]⟩ w).mono ?_
    rintro e w' ⟨rfl, rfl⟩
    exact ⟨rfl, Below.refl _ _⟩
  · obtain ⟨b, o, rfl, hb, hc⟩ := hr.spot h0
    subst hpn
    have e1 : (p.map S).map (fun x : ByteArray => x.data.toList) = p := by
      rw [List.map_map]
      conv => rhs; rw [← List.map_id p]
      rfl
    have e0 : (⟨#[]⟩ : ByteArray).data.toList = [] := rfl
    have hj := join_flat p
    have key := Try.strings_Join b o c (p.map S) ⟨#[]⟩ w (fun j x hx => hc j _ (by
      rw [strCells, List.getElem?_map]
      rw [List.getElem?_map] at hx
      cases hp : p[j]? with
      | none => rw [hp] at hx; cases hx
      | some y => rw [hp] at hx; cases hx; rfl)) (by omega) (by rw [List.length_map]; exact hn) (by rw [List.length_map]; exact hnc) (by rw [e1, e0, hj]; exact hl)
    rw [List.length_map, e1, e0, hj] at key
    exact key
end Go.Proofs.Ytolnhplgaolieaa
