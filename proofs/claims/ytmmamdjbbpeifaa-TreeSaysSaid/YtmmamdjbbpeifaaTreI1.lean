/- The loop of tree.Lens that makes words longer (plain). -/
import Derived.Test.YtmmamdjbbpeifaaTreI0
namespace Go.Proofs.Ytmmamdjbbpeifaa
open Go.RowKit
theorem LnAt.small {ws T : List Nat} {l : List Pile} {out : List Nat} (h : LnAt ws T l out) (h2 : 2 ≤ l.length) (h12 : ws.length ≤ 12) : ∀ j, out.getD j 0 ≤ 12 := by
  rcases h with ⟨h1, _⟩ | ⟨f, h1, _, _⟩
  · omega
  · intro j
    rcases Nat.lt_or_ge j ws.length with hj | hj
    · have hm : j ∈ l.flatMap (·.2) := h1.mem.mem_iff.2 (List.mem_range.2 hj)
      obtain ⟨p, hp, hjp⟩ := List.mem_flatMap.1 hm
      have h3 := (h1.dep p hp j hjp).1
      have h4 := h1.mem.length_eq
      rw [List.length_range] at h4
      have h5 : p.2.length ≤ (l.flatMap (·.2)).length := by
        have : ∀ m : List Pile, p ∈ m → p.2.length ≤ (m.flatMap (·.2)).length := by
          intro m
          induction m with
          | nil => intro h; cases h
          | cons y m ih =>
            intro h
            rw [List.flatMap_cons, List.length_append]
            rcases List.mem_cons.1 h with rfl | h
            · omega
            · have := ih h; omega
        exact this l hp
      omega
    · rw [List.getD_eq_getElem?_getD, List.getElem?_eq_none (by rw [h1.len]; exact hj)]; exact Nat.zero_le _
theorem bump_le (ks : List Nat) : ∀ (out : List Nat) (j : Nat), (bump out ks).getD j 0 ≤ out.getD j 0 + ks.length := by
  induction ks with
  | nil => intro out j; exact Nat.le_refl _
  | cons k ks ih =>
    intro out j
    have h := ih (out.set k (out.getD k 0 + 1)) j
    show (bump (out.set k (out.getD k 0 + 1)) ks).getD j 0 ≤ _
    have h2 : (out.set k (out.getD k 0 + 1)).getD j 0 ≤ out.getD j 0 + 1 := by
      rcases Nat.lt_or_ge k out.length with hk | hk
      · rw [set_getD hk]
        split
        · rename_i e; subst e; exact Nat.le_refl _
        · omega
      · rw [List.set_eq_of_length_le hk]; omega
    rw [List.length_cons]; omega
theorem bump_snoc (out ks : List Nat) (k : Nat) : bump out (ks ++ [k]) = (bump out ks).set k ((bump out ks).getD k 0 + 1) := by
  unfold bump; rw [List.foldl_append]; rfl
theorem take_snocD {l : List Nat} {k : Nat} (h : k < l.length) : l.take (k + 1) = l.take k ++ [l.getD k 0] := by
  rw [List.take_add_one, List.getElem?_eq_getElem h, List.getD_eq_getElem?_getD, List.getElem?_eq_getElem h]; rfl
theorem intN_set (l : List Nat) (k v : Nat) : (intN l).set k ((v : Nat) : Int) = intN (l.set k v) := by
  unfold intN; rw [List.map_set]
theorem intN_get0 (l : List Nat) (k : Nat) : (intN l).getD k 0 = ((l.getD k 0 : Nat) : Int) := by
  unfold intN
  rw [List.getD_eq_getElem?_getD, List.getElem?_map, List.getD_eq_getElem?_getD]
  cases l[k]? <;> rfl
theorem pmCells_drop (p q : Pm) (r : List Pm) : (pmCells (p :: q :: r)).drop (2 * 2) = pmCells r := rfl
theorem OwnO.lowT {w : World} {base base' : Nat} {e : TypeId} {size n : Nat} {v : Value} {xs : List Value} (h : OwnO w base e size v n xs) (hb : base' ≤ base) : OwnO w base' e size v n xs := by
  refine ⟨h.1, ?_⟩
  rcases h.2 with h | ⟨g, o, cap, cur, h1, h2, h3⟩
  · exact .inl h
  · exact .inr ⟨g, o, cap, cur, h1, by omega, h3⟩
theorem OwnO.gout {w w' : World} {base g size n : Nat} {e : TypeId} {v : Value} {xs : List Value} (h : OwnO w base e size v n xs) (hg : g < base) (hgr : w.grownBy w' (some g)) : OwnO w' base e size v n xs := by
  refine h.kept hgr ?_
  cases hv : v.ownBlock with
  | none => exact .inl rfl
  | some kk =>
    refine .inr fun e => ?_
    have := (OwnO.lt h kk hv).1
    cases e
    omega
theorem own_cutB {ad : Addr} {n c k : Nat} {z : Nat} : (Value.slice (if c = k then some ad else (some ad).map (·.add z)) n (c - k)).ownBlock = some ad.block := by
  split
  · rfl
  · show some (ad.add z).block = _
    congr 1
    unfold Addr.add; split <;> rfl
end Go.Proofs.Ytmmamdjbbpeifaa
