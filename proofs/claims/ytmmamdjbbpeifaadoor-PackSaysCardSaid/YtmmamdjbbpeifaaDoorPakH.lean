/- What pack.Get and pack.Ways return, in all. -/
import Derived.Test.YtmmamdjbbpeifaaDoorPakB
import Derived.Test.YtmmamdjbbpeifaaDoorPakF
import Derived.Test.YtmmamdjbbpeifaaDoorPakG
import Derived.Test.YtmmamdjbbpeifaaDoorCdpD
namespace Go.Proofs.YtmmamdjbbpeifaaDoor
open Go.RowKit
/-- What Get says of a code l that is none bad. -/
def GetSays (l : List (List UInt8)) (n : Nat) (s : ByteArray) (ks : List Int) (e2 : Int) : Prop :=
  (frontB l = false → e2 = 3 ∧ ks = []) ∧ (frontB l = true → 4096 < s.size → e2 = 2 ∧ ks = []) ∧
  (frontB l = true → s.size ≤ 4096 → (e2 = 0 ∧ joinI l ks = L s ∧ ks.any (bad n) = false ∧ ks.length ≤ 4096 ∧ (s.size ≠ 0 → ks.length ≠ 0)) ∨ (e2 = 4 ∧ ks = [] ∧ s.size ≠ 0 ∧ wrap64 (cntC l (L s) s.size : Int) = 0))
theorem any_cons_bad {n : Nat} {k : Int} {ks : List Int} (h : (k :: ks).any (bad n) = false) : (0 ≤ k ∧ k < (n : Int)) ∧ ks.any (bad n) = false := by
  rw [List.any_cons, Bool.or_eq_false_iff] at h
  have := of_decide_eq_false h.1
  exact ⟨by omega, h.2⟩
theorem joinI_long {l : List (List UInt8)} {n : Nat} (hl : l.length = n) (hc : Cod l) : ∀ {ks : List Int}, ks.any (bad n) = false → ks.length ≤ (joinI l ks).length := by
  intro ks
  induction ks with
  | nil => intro _; simp
  | cons k ks ih =>
    intro h
    obtain ⟨h1, h2⟩ := any_cons_bad h
    have e : joinI l (k :: ks) = l.getD k.toNat [] ++ joinI l ks := by simp [joinI]
    have := ih h2
    have h3 := hc.ne k.toNat (by omega)
    have : 0 < (l.getD k.toNat []).length := by
      rcases Nat.eq_zero_or_pos (l.getD k.toNat []).length with h | h
      · exact absurd (List.eq_nil_of_length_eq_zero h) h3
      · exact h
    rw [e, List.length_append, List.length_cons]
    omega
theorem joinI_row {l : List (List UInt8)} {n : Nat} (hl : l.length = n) : ∀ {ks : List Int}, ks.any (bad n) = false → ∃ js : List Nat, (∀ k ∈ js, k < l.length) ∧ joinI l ks = js.flatMap fun k => l.getD k [] := by
  intro ks
  induction ks with
  | nil => intro _; exact ⟨[], by simp, rfl⟩
  | cons k ks ih =>
    intro h
    obtain ⟨h1, h2⟩ := any_cons_bad h
    obtain ⟨js, h3, h4⟩ := ih h2
    refine ⟨k.toNat :: js, ?_, ?_⟩
    · intro x hx
      rcases List.mem_cons.1 hx with rfl | hx
      · omega
      · exact h3 x hx
    · have e : joinI l (k :: ks) = l.getD k.toNat [] ++ joinI l ks := by simp [joinI]
      rw [e, h4, List.flatMap_cons]
theorem stuck_zero {l : List (List UInt8)} {n : Nat} {s : ByteArray} (hl : l.length = n) (hc : Cod l) (hf : IsFront l) {ks : List Int} {r : List UInt8} (h : L s = joinI l ks ++ r) (hb : ks.any (bad n) = false) (hst : Stuck l r) : s.size ≠ 0 ∧ wrap64 (cntC l (L s) s.size : Int) = 0 := by
  obtain ⟨js, h1, h2⟩ := joinI_row hl hb
  have hno : ¬ IsRow l (L s) := by rw [h, h2]; exact stuck_none hf h1 hst
  have e : (L s).take s.size = L s := by rw [← L_len]; exact List.take_length
  have := cnt_none (s := L s) hc s.size (by rw [L_len]; exact Nat.le_refl _) (by rw [e]; exact hno)
  refine ⟨fun h0 => ?_, by rw [this]; simp [wrap64]⟩
  rw [h0] at this
  exact absurd this (by rw [cnt_zero]; decide)
theorem packGet_all (A : Option Addr) (n c B : Nat) (l : List (List UInt8)) (s : ByteArray) (w : World) (hr : Rd w B 1 A n (strCells l)) (hn : n ≤ c) (hB : B ≤ w.heap.size) (hx : ∀ x ∈ l, x.length ≤ maxLen) (hE : codeErr l = 0) :
    Calls Tryd.prog 20 #[.slice A n c, .string s] w fun e w' => ∃ (A3 : Option Addr) (c3 : Nat) (ks : List Int) (e2 : Int), e = .returned (.tuple #[.slice A3 ks.length c3, .int .i64 e2]) ∧ ks.length ≤ 4096 ∧ Rd w' w'.heap.size 1 A3 ks.length (ints ks) ∧ GetSays l n s ks e2 ∧ Below w.heap.size w w' := by
  have hln : l.length = n := by have := hr.1; simpa [strCells] using this
  cases hf : frontB l with
  | false =>
    refine (packGet_form A n c B l s w hr hn hB hx hE hf).mono ?_
    rintro e w' ⟨rfl, hb⟩
    exact ⟨none, 0, [], 3, rfl, Nat.zero_le _, ⟨rfl, fun h => absurd h (Nat.lt_irrefl 0)⟩, ⟨fun _ => ⟨rfl, rfl⟩, fun h => (by rw [hf] at h; cases h), fun h => (by rw [hf] at h; cases h)⟩, hb⟩
  | true =>
    rcases Nat.lt_or_ge 4096 s.size with h4 | h4
    · refine (packGet_large A n c B l s w hr hn hB hx hE hf h4).mono ?_
      rintro e w' ⟨rfl, hb⟩
      exact ⟨none, 0, [], 2, rfl, Nat.zero_le _, ⟨rfl, fun h => absurd h (Nat.lt_irrefl 0)⟩, ⟨fun h => (by rw [hf] at h; cases h), fun _ _ => ⟨rfl, rfl⟩, fun _ h => by omega⟩, hb⟩
    · refine (packGet_any A n c B l s w hr hn hB hx hE hf h4).mono ?_
      rintro e w' ⟨h, hb⟩
      rcases h with ⟨v, ks, rfl, hown, hj, hbd⟩ | ⟨rfl, ks, r, h1, h2, h3⟩
      · obtain ⟨A3, c3, rfl, _, _, hrd⟩ := own_form hown
        have hkl := joinI_long hln (cod_of hE) hbd
        rw [hj, L_len] at hkl
        refine ⟨A3, c3, ks, 0, rfl, by omega, hrd, ⟨fun h => (by rw [hf] at h; cases h), fun _ h => by omega, fun _ _ => .inl ⟨rfl, hj, hbd, by omega, fun h0 hk => ?_⟩⟩, hb⟩
        have : ks = [] := List.eq_nil_of_length_eq_zero hk
        rw [this] at hj
        exact h0 (by rw [← L_len, ← hj]; rfl)
      · obtain ⟨h5, h6⟩ := stuck_zero hln (cod_of hE) (@of_decide_eq_true _ (Classical.propDecidable _) hf) h1 h2 h3
        exact ⟨none, 0, [], 4, rfl, Nat.zero_le _, ⟨rfl, fun h => absurd h (Nat.lt_irrefl 0)⟩, ⟨fun h => (by rw [hf] at h; cases h), fun _ h => by omega, fun _ _ => .inr ⟨rfl, rfl, h5, h6⟩⟩, hb⟩
def WaysSays (l : List (List UInt8)) (s : ByteArray) (x e3 : Int) : Prop := (40 < s.size → x = 0 ∧ e3 = 2) ∧ (s.size ≤ 40 → x = wrap64 (cntC l (L s) s.size : Int) ∧ e3 = 0)
theorem ways_all (A : Option Addr) (n c B : Nat) (l : List (List UInt8)) (s : ByteArray) (w : World) (hr : Rd w B 1 A n (strCells l)) (hn : n ≤ c) (hB : B ≤ w.heap.size) (hx : ∀ x ∈ l, x.length ≤ maxLen) (hE : codeErr l = 0) :
    Calls Tryd.prog 21 #[.slice A n c, .string s] w fun e w' => ∃ x e3, e = .returned (.tuple #[.int .i64 x, .int .i64 e3]) ∧ WaysSays l s x e3 ∧ Below w.heap.size w w' := by
  rcases Nat.lt_or_ge 40 s.size with h4 | h4
  · refine (ways_large A n c B l s w hr hn hB hx hE h4).mono ?_
    rintro e w' ⟨rfl, hb⟩
    exact ⟨_, _, rfl, ⟨fun _ => ⟨rfl, rfl⟩, fun h => by omega⟩, hb⟩
  · refine (ways_any A n c B l s w hr hn hB hx hE h4).mono ?_
    rintro e w' ⟨rfl, hb⟩
    exact ⟨_, _, rfl, ⟨fun h => by omega, fun _ => ⟨rfl, rfl⟩⟩, hb⟩
end Go.Proofs.YtmmamdjbbpeifaaDoor
