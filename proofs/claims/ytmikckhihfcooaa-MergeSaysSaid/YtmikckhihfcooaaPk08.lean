/- slices.Concat of two rows of edits. Stable sorting by merging: what a merge of two sorted rows is, part by part; the blocks (plain). 'append' to a row of the call's own: where the new row lies; rows that begin inside their block. -/
import Derived.Test.YtmikckhihfcooaaPk05
import Derived.Test.YtmikckhihfcooaaPk06
import Derived.Test.YtmikckhihfcooaaPk07
import Derived.Lib.AppendZeros
import Derived.Test.YtmikckhihfcooaaPk01
import Derived.Maps.AppendAt
namespace Go.Proofs.Ytmikckhihfcooaa
open Go.RowKit
theorem ed_one9 (l : List Ed) : ∀ u ∈ edCells l, u.oneCell' = true := by
  intro u hu
  unfold edCells at hu
  obtain ⟨x, _, hx⟩ := List.mem_flatMap.1 hu
  simp only [Ed.cells, List.mem_cons, List.not_mem_nil, or_false] at hx
  rcases hx with rfl | rfl | rfl <;> rfl
abbrev zEd : Value := .agg #[.int .i64 0, .int .i64 0, .string ByteArray.empty]
set_option maxRecDepth 100000 in
set_option maxHeartbeats 2000000 in
theorem growEd_any (N : Nat) (hN : N ≤ 1000) (w : World) :
    Calls Try.prog 24 #[.slice none 0 0, .int .i64 (N : Int)] w fun e w' => ∃ v, e = .returned v ∧ w'.ownsRow w.heap.size 30 3 v 0 [] ∧ Below w.heap.size w w' := by
  obtain ⟨i0, hi0, hz0, hz1, hz2⟩ := info_parts info_edM
  rcases Nat.eq_zero_or_pos N with h0 | h0
  · subst h0
    go_enter Try.func24, Try.ntmps24
    go_wp2_with fail
    go_ret
    exact ⟨_, rfl, World.ownsRow_nil _ _ _ _, Below.refl _ _⟩
  · have hrz : ∀ ty, (Builtin.append_ #[22, 3] ty #[.slice none 0 0, .int .i64 (N : Int)]).run Try.prog w = _ := fun ty =>
      Lib.run_append_nil_zeros w 22 3 ty 30 i0 _ .i64 .i64 Try.underlying22 Try.underlying3 hi0 hz0 N h0 (by omega) (by omega) (by rw [hz2]; omega)
    have hge := grownCap_ge w N 0 30
    have hcm := grownCap_le_maxLen w N 0 30 (by unfold maxLen; omega)
    have HOWN : Hid ((w.drew.alloc (.cells (Builtin.zeroCells zEd.cells N ++ Builtin.zeroCells zEd.cells (grownCap w N 0 30 - N)) 30)).ownsRow w.heap.size 30 3 (.slice (some ⟨w.heap.size, 0, none⟩) 0 (grownCap w N 0 30)) 0 []) := by
      refine ⟨rfl, .inr ⟨w.heap.size, grownCap w N 0 30, _, rfl, Nat.le_refl _, heap_alloc_new w.drew _, Nat.zero_le _, hcm, ?_, by simp⟩⟩
      simp only [Array.size_append, size_zeroCells]
      have : zEd.cells.size = 3 := rfl
      rw [this]; omega
    have hB : Below w.heap.size w (w.drew.alloc (.cells (Builtin.zeroCells zEd.cells N ++ Builtin.zeroCells zEd.cells (grownCap w N 0 30 - N)) 30)) := (by repeat (first | exact Below.refl _ _ | assumption | refine Below.alloc ?_ (by first | exact Nat.le_refl _ | assumption | omega | (simp <;> omega)) _ | refine Below.setCell ?_ (by first | exact Nat.le_refl _ | assumption | omega | (simp <;> omega)) _ | refine Below.drew ?_ | refine below_drewN ?_ _))
    generalize grownCap w N 0 30 = G at *
    have hGn : G ≤ 9223372036854775807 := by unfold maxLen at hcm; omega
    generalize (w.drew.alloc (.cells (Builtin.zeroCells zEd.cells N ++ Builtin.zeroCells zEd.cells (G - N)) 30)) = w9 at *
    go_enter Try.func24, Try.ntmps24
    go_wp2_with (at_builtin; refine Lib.wpList_append_run _ rfl _ _ _ _ rfl _ _ rfl rfl _ _ (hrz _) ?_)
    go_ret
    exact ⟨_, rfl, HOWN.out, hB⟩
def segE (p q : List Ed) (k : Nat) : List Ed := if k = 0 then [] else if k = 1 then p else p ++ q
set_option maxRecDepth 100000 in
set_option maxHeartbeats 4000000 in
theorem concatEd_any (p q : List Ed) (A1 : Option Addr) (n1 c1 : Nat) (A2 : Option Addr) (n2 c2 B g : Nat) (w : World) (h1 : Rd w B 3 A1 n1 (edCells p)) (h2 : Rd w B 3 A2 n2 (edCells q)) (hB : B ≤ w.heap.size) (hg : g < w.heap.size)
    (k0 : w.cell? ⟨g, 0, none⟩ = some (.slice A1 n1 c1)) (k1 : w.cell? ⟨g, 1, none⟩ = some (.slice A2 n2 c2)) (hn1 : n1 ≤ 500) (hn2 : n2 ≤ 500) :
    Calls Try.prog 17 #[.slice (some ⟨g, 0, none⟩) 2 2] w fun e w' => ∃ v, e = .returned v ∧ w'.ownsRow w.heap.size 30 3 v (p ++ q).length (edCells (p ++ q)) ∧ Below w.heap.size w w' := by
  obtain ⟨i0, hi0, hz0, hz1, hz2⟩ := info_parts info_edM
  have hpn := Rd.rec_len ed_len9 (by omega) h1
  have hqn := Rd.rec_len ed_len9 (by omega) h2
  have H1 := Lib.hid h1
  have H2 := Lib.hid h2
  clear h1 h2
  go_enter Try.func17, Try.ntmps17
  go_wp2_with fail
  go_loopw [3, 11] (fun s i wr => ∃ k : Nat, k ≤ 2 ∧ i = .int .i64 (k : Int) ∧ s = .int .i64 ((segE p q k).length : Nat) ∧ wr = w) (fun _ i _ => 2 - (intOf i).toNat)
  case atStart => exact ⟨0, by omega, rfl, rfl, rfl⟩
  case round =>
    obtain ⟨k, hk, rfl, rfl, rfl⟩ := hrel
    obtain ⟨wo, hwo⟩ : ∃ wo : World, wo = wr := ⟨_, rfl⟩
    subst hwo
    obtain rfl | rfl | rfl : k = 0 ∨ k = 1 ∨ k = 2 := by omega
    · have e0 : (segE p q 0).length = 0 := rfl
      rw [e0]
      go_wp2_with fail
      go_roundw
      case rel => exact ⟨1, by omega, by go_num, by rw [show (segE p q 1).length = n1 from hpn], by first | rfl | trivial⟩
      case measure => simp [intOf]
    · have e0 : (segE p q 1).length = n1 := hpn
      rw [e0]
      go_wp2_with fail
      go_roundw
      case rel =>
        refine ⟨2, by omega, by go_num, ?_, by first | rfl | trivial⟩
        rw [show (segE p q 2).length = n1 + n2 by show (p ++ q).length = _; rw [List.length_append, hpn, hqn]]; go_num
      case measure => simp [intOf]
    · have e0 : (segE p q 2).length = n1 + n2 := by show (p ++ q).length = _; rw [List.length_append, hpn, hqn]
      rw [e0]
      go_wp2_with fail
      refine (growEd_any (n1 + n2) (by omega) _).mono ?_
      rintro e w5 ⟨v5, rfl, hown5, hb5⟩
      go_wp2_with fail
      go_loopw [6, 27] (fun o i wq => ∃ k : Nat, k ≤ 2 ∧ i = .int .i64 (k : Int) ∧ wq.ownsRow wo.heap.size 30 3 o (segE p q k).length (edCells (segE p q k)) ∧ Below wo.heap.size wo wq) (fun _ i _ => 2 - (intOf i).toNat)
      case atStart => exact ⟨0, by omega, rfl, hown5, hb5⟩
      case round =>
        clear hown5 hb5
        obtain ⟨k, hk, rfl, hown, hb⟩ := hrel
        have HOWN := Lib.hid hown
        clear hown
        have c0 := (hb.cell (p := ⟨g, 0, none⟩) hg).trans k0
        have c1' := (hb.cell (p := ⟨g, 1, none⟩) hg).trans k1
        have hbs := hb.size
        obtain rfl | rfl | rfl : k = 0 ∨ k = 1 ∨ k = 2 := by omega
        · have hr := H1.out.below (hb.mono hB)
          go_wp2_with (at_builtin; go_must (refine wpList_appRd rfl _ _ _ rfl wo.heap.size 30 i0 _ 3 32 Try.underlying22 hi0 hz0 hz1 hz2 rfl (by omega) _ (segE p q 0).length (edCells (segE p q 0)) rfl HOWN.out B A1 n1 c1 (edCells p) rfl hr (ed_one9 _) (by show (0 + n1) * 32 ≤ _; omega) (by omega) hbs ?_); intro v6 w6 hown6 hb6)
          go_roundw
          case rel =>
            refine ⟨1, by omega, by go_num, ?_, hb.trans hb6⟩
            have e1 : (segE p q 1).length = (segE p q 0).length + n1 := by show p.length = 0 + n1; omega
            rw [e1]
            exact hown6
          case measure => simp [intOf]
        · have hr := H2.out.below (hb.mono hB)
          have e0 : (segE p q 1).length = n1 := hpn
          go_wp2_with (at_builtin; go_must (refine wpList_appRd rfl _ _ _ rfl wo.heap.size 30 i0 _ 3 32 Try.underlying22 hi0 hz0 hz1 hz2 rfl (by omega) _ (segE p q 1).length (edCells (segE p q 1)) rfl HOWN.out B A2 n2 c2 (edCells q) rfl hr (ed_one9 _) (by rw [e0]; omega) (by omega) hbs ?_); intro v6 w6 hown6 hb6)
          go_roundw
          case rel =>
            refine ⟨2, by omega, by go_num, ?_, hb.trans hb6⟩
            have e1 : (segE p q 2).length = (segE p q 1).length + n2 := by show (p ++ q).length = p.length + n2; rw [List.length_append, hqn]
            have e2 : edCells (segE p q 2) = edCells (segE p q 1) ++ edCells q := by show edCells (p ++ q) = edCells p ++ edCells q; exact edCells_app p q
            rw [e1, e2]
            exact hown6
          case measure => simp [intOf]
        · go_wp2_with fail
          go_ret
          exact ⟨_, rfl, HOWN.out, hb⟩
end Go.Proofs.Ytmikckhihfcooaa
namespace Go.Proofs.Ytmikckhihfcooaa
section
variable {α : Type} {le : α → α → Bool}
/-- An order in which equals may be unlike. -/
structure Tp (le : α → α → Bool) : Prop where
  trans : ∀ a b c, le a b = true → le b c = true → le a c = true
  total : ∀ a b, (le a b || le b a) = true
theorem Tp.flip (h : Tp le) {a b : α} (hn : le a b = false) : le b a = true := by
  have := h.total a b
  rw [hn, Bool.false_or] at this
  exact this
theorem merge_cc (x y : α) (a b : List α) : (x :: a).merge (y :: b) le = if le x y = true then x :: a.merge (y :: b) le else y :: (x :: a).merge b le := List.cons_merge_cons le x y a b
theorem merge_assoc' (h : Tp le) : ∀ (n : Nat) (a b c : List α), a.length + b.length + c.length ≤ n → (a.merge b le).merge c le = a.merge (b.merge c le) le
  | _, [], b, c, _ => by rw [List.nil_merge, List.nil_merge]
  | _, x :: a, [], c, _ => by rw [List.merge_right, List.nil_merge]
  | _, x :: a, y :: b, [], _ => by rw [List.merge_right, List.merge_right]
  | 0, x :: a, y :: b, z :: c, hn => absurd hn (by simp)
  | n + 1, x :: a, y :: b, z :: c, hn => by
    simp only [List.length_cons] at hn
    have i1 := merge_assoc' h n a (y :: b) (z :: c) (by simp only [List.length_cons]; omega)
    have i2 := merge_assoc' h n (x :: a) b (z :: c) (by simp only [List.length_cons]; omega)
    have i3 := merge_assoc' h n (x :: a) (y :: b) c (by simp only [List.length_cons]; omega)
    cases h1 : le x y with
    | true =>
      cases h2 : le y z with
      | true =>
        have h3 := h.trans x y z h1 h2
        rw [merge_cc x y, if_pos h1, merge_cc, if_pos h3, i1, merge_cc y z, if_pos h2, merge_cc, if_pos h1]
      | false =>
        have e : (y :: b).merge (z :: c) le = z :: (y :: b).merge c le := by rw [merge_cc, if_neg (by rw [h2]; decide)]
        cases h3 : le x z with
        | true =>
          rw [merge_cc x y, if_pos h1, merge_cc, if_pos h3, i1, e, merge_cc, if_pos h3]
        | false =>
          have e2 : x :: a.merge (y :: b) le = (x :: a).merge (y :: b) le := by rw [merge_cc, if_pos h1]
          rw [e, merge_cc x z, if_neg (by rw [h3]; decide), ← i3, merge_cc x y, if_pos h1, merge_cc, if_neg (by rw [h3]; decide)]
    | false =>
      cases h2 : le y z with
      | true =>
        rw [merge_cc x y, if_neg (by rw [h1]; decide), merge_cc, if_pos h2, i2, merge_cc y z, if_pos h2, merge_cc, if_neg (by rw [h1]; decide)]
      | false =>
        have h3 : le x z = false := by
          cases h3 : le x z with
          | false => rfl
          | true => rw [h.trans y x z (h.flip h1) h3] at h2; cases h2
        rw [merge_cc y z, if_neg (by rw [h2]; decide), merge_cc x z, if_neg (by rw [h3]; decide), ← i3, merge_cc x y, if_neg (by rw [h1]; decide), merge_cc, if_neg (by rw [h2]; decide)]
theorem merge_assoc (h : Tp le) (a b c : List α) : (a.merge b le).merge c le = a.merge (b.merge c le) le := merge_assoc' h _ a b c (Nat.le_refl _)
theorem mem_merge' {z : α} {a b : List α} : z ∈ a.merge b le ↔ z ∈ a ∨ z ∈ b := by
  rw [(List.merge_perm_append le).mem_iff, List.mem_append]
theorem merge_len (a b : List α) : (a.merge b le).length = a.length + b.length := by
  have := (List.merge_perm_append le (xs := a) (ys := b)).length_eq
  rwa [List.length_append] at this
def ssort (le : α → α → Bool) : List α → List α
  | [] => []
  | x :: l => [x].merge (ssort le l) le
theorem ssort_one (x : α) : ssort le [x] = [x] := by rw [ssort, ssort, List.merge_right]
theorem ssort_append (h : Tp le) : ∀ a b : List α, ssort le (a ++ b) = (ssort le a).merge (ssort le b) le
  | [], b => by rw [List.nil_append, ssort, List.nil_merge]
  | x :: a, b => by rw [List.cons_append, ssort, ssort_append h a b, ssort, merge_assoc h]
theorem ssort_snoc (h : Tp le) (l : List α) (x : α) : ssort le (l ++ [x]) = (ssort le l).merge [x] le := by rw [ssort_append h, ssort_one]
theorem ssort_perm : ∀ l : List α, (ssort le l).Perm l
  | [] => List.Perm.refl _
  | x :: l => by
    rw [ssort]
    refine (List.merge_perm_append le).trans ?_
    exact List.Perm.cons x (ssort_perm l)
theorem ssort_len (l : List α) : (ssort le l).length = l.length := (ssort_perm l).length_eq
def Srt (le : α → α → Bool) (l : List α) : Prop := l.Pairwise fun a b => le a b = true
theorem srt_merge (h : Tp le) {a b : List α} (ha : Srt le a) (hb : Srt le b) : Srt le (a.merge b le) := List.pairwise_merge h.trans h.total a b ha hb
theorem ssort_srt (h : Tp le) : ∀ l : List α, Srt le (ssort le l)
  | [] => List.Pairwise.nil
  | x :: l => by
    rw [ssort]
    exact srt_merge h (List.pairwise_singleton _ _) (ssort_srt h l)
/-- A merge falls apart where all ahead stand before all behind. -/
theorem merge_apart : ∀ (n : Nat) (u1 u2 v1 v2 : List α), u1.length + v1.length ≤ n → (∀ x ∈ u1, ∀ y ∈ v2, le x y = true) → (∀ y ∈ v1, ∀ x ∈ u2, le x y = false) →
    (u1 ++ u2).merge (v1 ++ v2) le = u1.merge v1 le ++ u2.merge v2 le
  | _, [], u2, [], v2, _, _, _ => by simp
  | _, [], [], y :: v1, v2, _, _, _ => by simp
  | 0, [], x :: u2, y :: v1, v2, hn, _, _ => absurd hn (by simp)
  | n + 1, [], x :: u2, y :: v1, v2, hn, h1, h2 => by
    have h3 := h2 y (by simp) x (by simp)
    have ih := merge_apart n [] (x :: u2) v1 v2 (by simpa using hn) (fun _ h => absurd h (by simp)) (fun y' hy x' hx => h2 y' (by simp [hy]) x' hx)
    rw [List.nil_append, List.nil_merge] at ih
    rw [List.nil_append, List.cons_append, merge_cc, if_neg (by rw [h3]; decide), ih, List.nil_merge]; rfl
  | _, x :: u1, u2, [], [], _, _, _ => by simp
  | 0, x :: u1, u2, [], y :: v2, hn, _, _ => absurd hn (by simp)
  | n + 1, x :: u1, u2, [], y :: v2, hn, h1, h2 => by
    have h3 := h1 x (by simp) y (by simp)
    have ih := merge_apart n u1 u2 [] (y :: v2) (by simpa using hn) (fun x' hx y' hy => h1 x' (by simp [hx]) y' hy) (fun _ h => absurd h (by simp))
    rw [List.nil_append, List.merge_right] at ih
    rw [List.nil_append, List.cons_append, merge_cc, if_pos h3, ih, List.merge_right]; rfl
  | 0, x :: u1, u2, y :: v1, v2, hn, _, _ => absurd hn (by simp)
  | n + 1, x :: u1, u2, y :: v1, v2, hn, h1, h2 => by
    simp only [List.length_cons] at hn
    rw [List.cons_append, List.cons_append, merge_cc, merge_cc]
    cases h3 : le x y with
    | true =>
      have ih := merge_apart n u1 u2 (y :: v1) v2 (by simp only [List.length_cons]; omega) (fun x' hx y' hy => h1 x' (by simp [hx]) y' hy) h2
      rw [if_pos rfl, if_pos rfl, ← List.cons_append, ih]; rfl
    | false =>
      have ih := merge_apart n (x :: u1) u2 v1 v2 (by simp only [List.length_cons]; omega) h1 (fun y' hy x' hx => h2 y' (by simp [hy]) x' hx)
      rw [if_neg (by decide), if_neg (by decide), ← List.cons_append, ih]; rfl
theorem srt_app {a b : List α} : Srt le (a ++ b) ↔ Srt le a ∧ Srt le b ∧ ∀ x ∈ a, ∀ y ∈ b, le x y = true := List.pairwise_append
/-- .. told by the four at the edge. -/
theorem merge_split (h : Tp le) {u1 u2 v1 v2 : List α} (hu : Srt le (u1 ++ u2)) (hv : Srt le (v1 ++ v2)) (h1 : ∀ x y, u1.getLast? = some x → v2.head? = some y → le x y = true) (h2 : ∀ x y, u2.head? = some x → v1.getLast? = some y → le x y = false) :
    (u1 ++ u2).merge (v1 ++ v2) le = u1.merge v1 le ++ u2.merge v2 le := by
  have lasts : ∀ {l : List α} {x y : α}, Srt le l → l.getLast? = some y → x ∈ l → le x y = true := by
    intro l x y hl hy hx
    obtain ⟨p, rfl⟩ := List.getLast?_eq_some_iff.1 hy
    rcases List.mem_append.1 hx with h3 | h3
    · exact (srt_app.1 hl).2.2 x h3 y (by simp)
    · rw [List.mem_singleton] at h3; subst h3
      have := h.total x x
      simpa using this
  have heads : ∀ {l : List α} {x y : α}, Srt le l → l.head? = some x → y ∈ l → le x y = true := by
    intro l x y hl hx hy
    cases l with
    | nil => cases hy
    | cons z l =>
      simp only [List.head?_cons, Option.some.injEq] at hx
      subst hx
      rcases List.mem_cons.1 hy with h3 | h3
      · subst h3
        have := h.total y y
        simpa using this
      · exact (List.pairwise_cons.1 hl).1 y h3
  obtain ⟨hu1, hu2, _⟩ := srt_app.1 hu
  obtain ⟨hv1, hv2, _⟩ := srt_app.1 hv
  refine merge_apart _ u1 u2 v1 v2 (Nat.le_refl _) (fun x hx y hy => ?_) (fun y hy x hx => ?_)
  · cases hl : u1.getLast? with
    | none => rw [List.getLast?_eq_none_iff.1 hl] at hx; cases hx
    | some x' =>
      cases hh : v2.head? with
      | none => rw [List.head?_eq_none_iff.1 hh] at hy; cases hy
      | some y' => exact h.trans _ _ _ (lasts hu1 hl hx) (h.trans _ _ _ (h1 x' y' hl hh) (heads hv2 hh hy))
  · cases hl : v1.getLast? with
    | none => rw [List.getLast?_eq_none_iff.1 hl] at hy; cases hy
    | some y' =>
      cases hh : u2.head? with
      | none => rw [List.head?_eq_none_iff.1 hh] at hx; cases hx
      | some x' =>
        have h3 := h2 x' y' hh hl
        cases h4 : le x y with
        | false => rfl
        | true =>
          rw [h.trans _ _ _ (heads hu2 hh hx) (h.trans _ _ _ h4 (lasts hv1 hl hy))] at h3
          cases h3
/-- One ahead of a sorted row: it goes behind all that stand before it. -/
theorem merge_one_l (h : Tp le) {x : α} {v1 v2 : List α} (hv : Srt le (v1 ++ v2)) (h1 : ∀ y, v2.head? = some y → le x y = true) (h2 : ∀ y, v1.getLast? = some y → le x y = false) : [x].merge (v1 ++ v2) le = v1 ++ x :: v2 := by
  have := merge_split h (u1 := []) (u2 := [x]) (v1 := v1) (v2 := v2) (List.pairwise_singleton _ _) hv (fun _ _ h => by cases h) (fun a b ha hb => by cases ha; exact h2 b hb)
  rw [List.nil_append, List.nil_merge] at this
  rw [this]
  congr 1
  cases v2 with
  | nil => exact List.merge_right _
  | cons y v2 => rw [merge_cc, if_pos (h1 y rfl), List.nil_merge]
theorem merge_one_r (h : Tp le) {y : α} {u1 u2 : List α} (hu : Srt le (u1 ++ u2)) (h1 : ∀ x, u1.getLast? = some x → le x y = true) (h2 : ∀ x, u2.head? = some x → le x y = false) : (u1 ++ u2).merge [y] le = u1 ++ y :: u2 := by
  have := merge_split h (u1 := u1) (u2 := u2) (v1 := []) (v2 := [y]) hu (List.pairwise_singleton _ _) (fun a b ha hb => by cases hb; exact h1 a ha) (fun _ _ _ h => by cases h)
  rw [List.nil_append, List.merge_right] at this
  rw [this]
  congr 1
  cases u2 with
  | nil => exact List.nil_merge _
  | cons x u2 => rw [merge_cc, if_neg (by rw [h2 x rfl]; decide), List.merge_right]
/-- Rows of sorted blocks. -/
def blks (le : α → α → Bool) (xs : List (List α)) : List α := (xs.map (ssort le)).flatten
theorem blks_nil : blks le [] = [] := rfl
theorem blks_snoc (xs : List (List α)) (x : List α) : blks le (xs ++ [x]) = blks le xs ++ ssort le x := by simp [blks]
theorem blks_cons (xs : List (List α)) (x : List α) : blks le (x :: xs) = ssort le x ++ blks le xs := by simp [blks]
theorem flat_len_of {B : Nat} : ∀ {xs : List (List α)}, (∀ x ∈ xs, x.length = B) → xs.flatten.length = xs.length * B
  | [], _ => by simp
  | x :: xs, h => by
    rw [List.flatten_cons, List.length_append, flat_len_of (fun y hy => h y (by simp [hy])), h x (by simp), List.length_cons, Nat.succ_mul]; omega
theorem mem_ssort {z : α} {l : List α} : z ∈ ssort le l ↔ z ∈ l := (ssort_perm l).mem_iff
theorem mem_blks {z : α} : ∀ {xs : List (List α)}, z ∈ blks le xs ↔ z ∈ xs.flatten
  | [] => Iff.rfl
  | x :: xs => by rw [blks_cons, List.mem_append, List.flatten_cons, List.mem_append, mem_ssort, mem_blks]
theorem ssort_nil : ssort le ([] : List α) = [] := rfl
theorem blks_len (xs : List (List α)) : (blks le xs).length = xs.flatten.length := by
  induction xs with
  | nil => rfl
  | cons x xs ih => rw [blks_cons, List.length_append, ih, ssort_len, List.flatten_cons, List.length_append]
/-- Where two rows are parted by a search from both ends. -/
theorem sym_plain (h : Tp le) {P u v C : List α} {a m b s e : Nat} (ha : a = P.length) (hm : m = a + u.length) (hb : b = m + v.length) (hu : Srt le u) (hv : Srt le v) (h1 : a ≤ s) (h2 : s ≤ m) (h3 : m ≤ e) (h4 : e ≤ b)
    (H1 : ∀ x y, a < s → e < b → (P ++ (u ++ (v ++ C)))[s - 1]? = some x → (P ++ (u ++ (v ++ C)))[e]? = some y → le x y = true)
    (H2 : ∀ x y, s < m → m < e → (P ++ (u ++ (v ++ C)))[s]? = some x → (P ++ (u ++ (v ++ C)))[e - 1]? = some y → le x y = false) :
    ∃ u1 u2 v1 v2, u = u1 ++ u2 ∧ v = v1 ++ v2 ∧ u1.length = s - a ∧ v1.length = e - m ∧ Srt le u1 ∧ Srt le u2 ∧ Srt le v1 ∧ Srt le v2 ∧ u.merge v le = u1.merge v1 le ++ u2.merge v2 le := by
  have eu : u.take (s - a) ++ u.drop (s - a) = u := List.take_append_drop _ _
  have ev : v.take (e - m) ++ v.drop (e - m) = v := List.take_append_drop _ _
  have su : Srt le (u.take (s - a) ++ u.drop (s - a)) := by rw [eu]; exact hu
  have sv : Srt le (v.take (e - m) ++ v.drop (e - m)) := by rw [ev]; exact hv
  have gu : ∀ i, i < u.length → (P ++ (u ++ (v ++ C)))[a + i]? = u[i]? := fun i hi => by
    rw [List.getElem?_append_right (by omega), List.getElem?_append_left (by omega)]; congr 1; omega
  have gv : ∀ i, i < v.length → (P ++ (u ++ (v ++ C)))[m + i]? = v[i]? := fun i hi => by
    rw [List.getElem?_append_right (by omega), List.getElem?_append_right (by omega), List.getElem?_append_left (by omega)]; congr 1; omega
  have hlast : ∀ (l : List α) (k : Nat), 0 < k → k ≤ l.length → (l.take k).getLast? = l[k - 1]? := fun l k h0 hk => by
    rw [List.getLast?_eq_getElem?, List.length_take, Nat.min_eq_left hk, List.getElem?_take, if_pos (by omega)]
  have hhead : ∀ (l : List α) (k : Nat), (l.drop k).head? = l[k]? := fun l k => by rw [List.head?_drop]
  have hmm := merge_split h su sv (fun x y hx hy => by
    rw [hhead] at hy
    have h6 := (List.getElem?_eq_some_iff.1 hy).1
    rcases Nat.eq_or_lt_of_le h1 with h5 | h5
    · rw [← h5, Nat.sub_self, List.take_zero] at hx; cases hx
    · rw [hlast _ _ (by omega) (by omega)] at hx
      refine H1 x y h5 (by omega) ?_ ?_
      · rw [← hx, ← gu _ (by omega)]; congr 1; omega
      · rw [← hy, ← gv _ h6]; congr 1; omega) (fun x y hx hy => by
    rw [hhead] at hx
    have h6 := (List.getElem?_eq_some_iff.1 hx).1
    rcases Nat.eq_or_lt_of_le h3 with h5 | h5
    · rw [← h5, Nat.sub_self, List.take_zero] at hy; cases hy
    · rw [hlast _ _ (by omega) (by omega)] at hy
      refine H2 x y (by omega) h5 ?_ ?_
      · rw [← hx, ← gu _ h6]; congr 1; omega
      · rw [← hy, ← gv _ (by omega)]; congr 1; omega)
  rw [eu, ev] at hmm
  obtain ⟨a1, a2, _⟩ := srt_app.1 su
  obtain ⟨b1, b2, _⟩ := srt_app.1 sv
  exact ⟨_, _, _, _, eu.symm, ev.symm, by rw [List.length_take]; omega, by rw [List.length_take]; omega, a1, a2, b1, b2, hmm⟩
end
end Go.Proofs.Ytmikckhihfcooaa
namespace Go.Proofs.Ytmikckhihfcooaa
open Go.RowKit
/-- As wpList_appG, and it is told where the new row lies. -/
theorem wpList_appN {P : Program} {w : World} {ops : Array Oper} {rest : List Oper} {o : Oper} {a : Act} {Q : Exit → Act → World → Prop} (hgd : o.guard = none) (s x : Operand) (t : TypeId)
    (ho : o.op = .call { callee := .builtin .append, args := #[s, x], argTypes := #[t, t] })
    (base : Nat) (e : TypeId) (i : TypeInfo) (z : Value) (size bytes : Nat) (ht : P.underlying t = some (.slice e)) (hi : P.info? e = some i) (hz : i.zero = some z)
    (hsize : i.size = size) (hby : i.bytes = bytes) (hzs : z.cells.size = size) (hsz : 0 < size)
    (v : Value) (n : Nat) (xs : List Value) (hs : a.eval s = v) (hown : w.ownsRow base e size v n xs)
    (ad : Addr) (m c : Nat) (news : List Value) (hx : a.eval x = .slice (some ad) m c) (hl : news.length = m * size) (hnews : ∀ j u, news[j]? = some u → w.cell? (ad.add j) = some u) (h1 : ∀ u ∈ news, u.oneCell' = true)
    (hbytes : (n + m) * bytes ≤ 140737488355328) (hb0 : 0 < bytes) (hbase : base ≤ w.heap.size)
    (h : ∀ v' w', w'.ownsRow base e size v' (n + m) (xs ++ news) → w.grownBy w' v.ownBlock → Below base w w' → (v'.ownBlock = v.ownBlock ∨ v'.ownBlock = some w.heap.size) → wpList P ops Q rest (a.put o.dst v') w') : wpList P ops Q (o :: rest) a w :=
  wpList_plain hgd fun _ hK => by
    obtain ⟨v', w', hr, h2, h3, _, h5⟩ := run_append_own_at (P := P) w base t o.type e i z size bytes ht hi hz hsize hby hzs hsz v n xs hown ad m c news hl hnews h1
      (by have := Nat.le_mul_of_pos_right (n + m) hb0; unfold maxLen; omega) hbytes hbase
    unfold Oper.wp execOp
    simp only [ho, resolve, invoke, builtin, Sem.run_bind, Sem.run_pure, Result.andThen_ok, List.map_toArray, List.map_cons, List.map_nil, hs, hx, hr]
    exact hK _ _ (h v' w' h2 h3 ((Below.refl base w).grown h3 hbase (fun k hk => (hown.lt k hk).1)) h5)
/-- Rows in unlike blocks. -/
def Apart (v v' : Value) : Prop := v.ownBlock = none ∨ v.ownBlock ≠ v'.ownBlock
theorem Apart.none_left (v : Value) : Apart (.slice none 0 0) v := .inl rfl
theorem Apart.symm {v v' : Value} (h : Apart v v') (hn : v'.ownBlock = none ∨ v.ownBlock ≠ none) : Apart v' v := by
  rcases h with h | h
  · rcases hn with h' | h'
    · exact .inl h'
    · exact absurd h h'
  · exact .inr (fun e => h e.symm)
theorem Apart.comm {v v' : Value} (h : Apart v v') : Apart v' v := by
  by_cases h' : v'.ownBlock = none
  · exact .inl h'
  · rcases h with h | h
    · exact .inr (fun e => h' (e.trans h))
    · exact .inr (fun e => h e.symm)
section
variable {w w' : World} {base base' : Nat} {e e' : TypeId} {size size' : Nat} {v v' u : Value} {n n' : Nat} {xs xs' : List Value}
/-- The row beside one that has been appended to. -/
theorem own_apart (h : w.ownsRow base e size v n xs) (ha : Apart v u) (hg : w.grownBy w' u.ownBlock) : w'.ownsRow base e size v n xs := h.kept hg ha
theorem apart_new (h : w.ownsRow base e size v n xs) (ha : Apart v u) (hu : v'.ownBlock = u.ownBlock ∨ v'.ownBlock = some w.heap.size) : Apart v v' := by
  rcases hu with hu | hu
  · rcases ha with ha | ha
    · exact .inl ha
    · exact .inr (by rw [hu]; exact ha)
  · cases hv : v.ownBlock with
    | none => exact .inl hv
    | some g =>
      refine .inr ?_
      rw [hv, hu]
      intro e
      have := (h.lt g hv).2
      simp only [Option.some.injEq] at e
      omega
end
/-- A row that begins at some place of its block. -/
def OwnO (w : World) (base : Nat) (e : TypeId) (size : Nat) (v : Value) (n : Nat) (xs : List Value) : Prop :=
  xs.length = n * size ∧ ((v = .slice none 0 0 ∧ n = 0) ∨ ∃ g o cap cur, v = .slice (some ⟨g, o, none⟩) n cap ∧ base ≤ g ∧ w.heap[g]? = some (.cells cur e (0, 0)) ∧ n ≤ cap ∧ cap ≤ maxLen ∧ o + cap * size ≤ cur.size ∧ (cur.toList.drop o).take (n * size) = xs)
section
variable {w w' : World} {base : Nat} {e : TypeId} {size : Nat} {v : Value} {n : Nat} {xs : List Value}
theorem OwnO.nil_ : OwnO w base e size (.slice none 0 0) 0 [] := ⟨by simp, .inl ⟨rfl, rfl⟩⟩
theorem OwnO.of_own (h : w.ownsRow base e size v n xs) : OwnO w base e size v n xs := by
  refine ⟨h.1, ?_⟩
  rcases h.2 with h | ⟨g, cap, cur, h1, h2, h3, h4, h5, h6, h7⟩
  · exact .inl h
  · exact .inr ⟨g, 0, cap, cur, h1, h2, h3, h4, h5, by omega, by simpa using h7⟩
theorem OwnO.lt (h : OwnO w base e size v n xs) : ∀ k, v.ownBlock = some k → base ≤ k ∧ k < w.heap.size := by
  intro k hk
  rcases h.2 with ⟨rfl, _⟩ | ⟨g, o, cap, cur, rfl, hb, hg, _⟩
  · simp [Value.ownBlock] at hk
  · simp [Value.ownBlock] at hk
    subst hk
    exact ⟨hb, (Array.getElem?_eq_some_iff.1 hg).1⟩
theorem OwnO.kept {row : Option Nat} (h : OwnO w base e size v n xs) (hg : w.grownBy w' row) (hne : v.ownBlock = none ∨ v.ownBlock ≠ row) : OwnO w' base e size v n xs := by
  refine ⟨h.1, ?_⟩
  rcases h.2 with hn | ⟨g, o, cap, cur, rfl, hb, hgg, rest⟩
  · exact .inl hn
  · refine .inr ⟨g, o, cap, cur, rfl, hb, ?_, rest⟩
    rw [hg.block g (Array.getElem?_eq_some_iff.1 hgg).1 (by simpa [Value.ownBlock] using hne)]
    exact hgg
theorem OwnO.below (h : OwnO w base e size v n xs) (hb : Below w.heap.size w w') : OwnO w' base e size v n xs := h.kept (gb_of_below hb none) (by cases hv : v.ownBlock <;> simp)
theorem OwnO.ne_blk {g : Nat} {t : TypeId} {cs : Array Value} (h : OwnO w base e size v n xs) (hg : Blk w g t cs) (hne : e ≠ t) : v.ownBlock = none ∨ v.ownBlock ≠ some g := by
  rcases h.2 with ⟨rfl, _⟩ | ⟨g', o, cap, cur, rfl, _, hh, _⟩
  · exact .inl rfl
  · refine .inr fun he => ?_
    simp only [Value.ownBlock, Option.some.injEq] at he
    subst he
    unfold Blk at hg
    rw [hh] at hg
    injection hg with hg
    injection hg with _ ht
    exact hne ht
theorem OwnO.form (h : OwnO w base e size v n xs) : ∃ A c, v = .slice A n c ∧ n ≤ c ∧ c ≤ maxLen ∧ Rd w w.heap.size size A n xs := by
  have h0 := h
  rcases h.2 with ⟨rfl, rfl⟩ | ⟨g, o, cap, cur, rfl, h2, h3, h4, h5, h6, h7⟩
  · have hx : xs = [] := List.eq_nil_of_length_eq_zero (by have := h.1; omega)
    subst hx
    exact ⟨none, 0, rfl, Nat.le_refl _, Nat.zero_le _, Rd.nil_⟩
  · refine ⟨_, cap, rfl, h4, h5, h.1, fun _ => ⟨_, rfl, (Array.getElem?_eq_some_iff.1 h3).1, fun j u hu => ?_⟩⟩
    have hadd : (⟨g, o, none⟩ : Addr).add j = ⟨g, o + j, none⟩ := by unfold Addr.add; split <;> simp_all
    rw [hadd, cell_of_row w g (o + j) cur e (0, 0) h3]
    rw [← h7] at hu
    have hj : j < n * size := by
      have := (List.getElem?_eq_some_iff.1 hu).1
      rw [List.length_take] at this; omega
    rw [List.getElem?_take_of_lt hj, List.getElem?_drop] at hu
    simpa using hu
/-- [:k]. -/
theorem OwnO.front (h : OwnO w base e size v n xs) (A : Option Addr) (c k : Nat) (hv : v = .slice A n c) (hk : k ≤ n) (hA : A ≠ none) : OwnO w base e size (.slice A k c) k (xs.take (k * size)) := by
  subst hv
  refine ⟨by rw [List.length_take, h.1]; exact Nat.min_eq_left (Nat.mul_le_mul_right _ hk), ?_⟩
  rcases h.2 with ⟨h1, _⟩ | ⟨g, o, cap, cur, h1, h2, h3, h4, h5, h6, h7⟩
  · injection h1 with h1; exact absurd h1 hA
  · injection h1 with h1 h1' h1''
    subst h1; subst h1''
    refine .inr ⟨g, o, c, cur, rfl, h2, h3, by omega, h5, h6, ?_⟩
    rw [← h7, List.take_take, Nat.min_eq_left (Nat.mul_le_mul_right _ hk)]
/-- [k:]. -/
theorem OwnO.behind (h : OwnO w base e size v n xs) (A : Option Addr) (c k : Nat) (hv : v = .slice A n c) (hk : k ≤ n) (hA : A ≠ none) : OwnO w base e size (.slice (if c = k then A else A.map (·.add (k * size))) (n - k) (c - k)) (n - k) (xs.drop (k * size)) := by
  subst hv
  refine ⟨by rw [List.length_drop, h.1, Nat.sub_mul], ?_⟩
  rcases h.2 with ⟨h1, _⟩ | ⟨g, o, cap, cur, h1, h2, h3, h4, h5, h6, h7⟩
  · injection h1 with h1; exact absurd h1 hA
  · injection h1 with h1 h1' h1''
    subst h1; subst h1''
    by_cases hc : c = k
    · rw [if_pos hc]
      have hn0 : n - k = 0 := by omega
      rw [hn0, show c - k = 0 by omega]
      refine .inr ⟨g, o, 0, cur, rfl, h2, h3, Nat.le_refl _, Nat.zero_le _, by omega, ?_⟩
      rw [List.drop_of_length_le (l := xs) (by rw [h.1]; exact Nat.mul_le_mul_right _ (by omega))]; simp
    · rw [if_neg hc]
      have hadd : (⟨g, o, none⟩ : Addr).add (k * size) = ⟨g, o + k * size, none⟩ := by unfold Addr.add; split <;> simp_all
      have hck : k * size + (c - k) * size = c * size := by rw [← Nat.add_mul]; congr 1; omega
      refine .inr ⟨g, o + k * size, c - k, cur, by rw [Option.map_some, hadd], h2, h3, by omega, by omega, by omega, ?_⟩
      rw [← h7, List.drop_take, List.drop_drop, Nat.sub_mul]
theorem run_append_O {P : Program} (t ty : TypeId) (i : TypeInfo) (z : Value) (bytes : Nat) (ht : P.underlying t = some (.slice e)) (hi : P.info? e = some i) (hz : i.zero = some z)
    (hsize : i.size = size) (hby : i.bytes = bytes) (hzs : z.cells.size = size) (hsz : 0 < size) (hown : OwnO w base e size v n xs)
    (a : Addr) (m c : Nat) (news : List Value) (hl : news.length = m * size) (hnews : ∀ j u, news[j]? = some u → w.cell? (a.add j) = some u) (h1 : ∀ u ∈ news, u.oneCell' = true)
    (h63 : n + m ≤ maxLen) (hbytes : (n + m) * bytes ≤ 140737488355328) (hbase : base ≤ w.heap.size) :
    ∃ v' w', (Builtin.append_ #[t, t] ty #[v, .slice (some a) m c]).run P w = .ok v' w' ∧ OwnO w' base e size v' (n + m) (xs ++ news) ∧ w.grownBy w' v.ownBlock ∧
      (v'.ownBlock = v.ownBlock ∨ v'.ownBlock = some w.heap.size) := by
  rcases hown.2 with ⟨rfl, rfl⟩ | ⟨g, o, cap, cur, rfl, hbg, hg, hnc, hcm, hcs, htake⟩
  · have hx : xs = [] := List.eq_nil_of_length_eq_zero (by simpa using hown.1)
    subst hx
    obtain ⟨v', w', h1, h2, h3, _, h5⟩ := run_append_own_at (P := P) w base t ty e i z size bytes ht hi hz hsize hby hzs hsz (.slice none 0 0) 0 [] (World.ownsRow_nil _ _ _ _) a m c news hl hnews h1 h63 hbytes hbase
    exact ⟨v', w', h1, OwnO.of_own h2, h3, h5⟩
  · subst hsize
    subst hby
    have hsmall : n + m ≤ 9223372036854775807 := by simp only [maxLen] at h63; omega
    have hlen : (xs ++ news).length = (n + m) * i.size := by rw [List.length_append, hown.1, hl, Nat.add_mul]
    by_cases hroom : n + m ≤ cap
    · have hfit : o + n * i.size + news.length ≤ cur.size := by
        rw [hl]
        have := Nat.mul_le_mul_right i.size hroom
        rw [Nat.add_mul] at this
        omega
      have hf := run_firstCells_some (P := P) w i.size m a m c news hl hnews
      have hst := run_storeCells_at P g (o + n * i.size) e news 0 cur w hg (by simpa using hfit) h1
      simp only [Nat.add_zero] at hst
      have hadd : (⟨g, o, none⟩ : Addr).add (n * i.size) = ⟨g, o + n * i.size, none⟩ := by unfold Addr.add; split <;> simp_all
      refine ⟨.slice (some ⟨g, o, none⟩) (n + m) cap, w.setRow g (cur.toList.take (o + n * i.size) ++ news ++ cur.toList.drop (o + n * i.size + news.length)).toArray, ?_, ⟨hlen, .inr ⟨g, o, cap, _, rfl, hbg, setRow_heap w g cur _ e _ hg, hroom, hcm, ?_, ?_⟩⟩, ⟨rfl, rfl, rfl, by simp, fun k _ hk => setRow_other w g k _ (fun e => hk (by simp [Value.ownBlock, e]))⟩, .inl rfl⟩
      · simp [Builtin.append_, run_underlying ht, sizeOf, typeInfo, hi, Builtin.lenOf, hroom, hf, hadd, hst]
      · simp only [List.size_toArray, List.length_append, List.length_take, List.length_drop, Array.length_toList]
        omega
      · have ht1 : (cur.toList.take (o + n * i.size)).drop o = xs := by rw [List.drop_take, Nat.add_sub_cancel_left, htake]
        have hlo : o ≤ (cur.toList.take (o + n * i.size)).length := by
          rw [List.length_take, Array.length_toList]; omega
        simp only [List.append_assoc]
        rw [List.drop_append_of_le_length hlo, ht1, ← List.append_assoc, ← hlen]
        exact List.take_left
    · have holds : ∀ j u, xs[j]? = some u → w.cell? ((⟨g, o, none⟩ : Addr).add j) = some u := by
        obtain ⟨A, c', hv, _, _, hr⟩ := hown.form
        intro j u hu
        rcases Nat.eq_zero_or_pos n with h0 | h0
        · have := hown.1
          rw [h0, Nat.zero_mul] at this
          have hj := (List.getElem?_eq_some_iff.1 hu).1
          omega
        · obtain ⟨ad, hA, _, hc⟩ := hr.2 h0
          injection hv with hv
          rw [← hv] at hA
          injection hA with hA
          rw [hA]; exact hc j u hu
      have hr := run_append_grow (P := P) w t ty e i z ht hi hz ⟨g, o, none⟩ n cap xs hown.1 holds a m c news hl hnews (by omega) (by omega) (growslice_fits (by omega) hbytes)
      have hge := grownCap_ge w (n + m) cap e
      have hcm' : grownCap w (n + m) cap e ≤ maxLen := grownCap_le_maxLen w (n + m) cap e h63
      refine ⟨_, _, hr, ⟨hlen, .inr ⟨w.heap.size, 0, _, _, rfl, hbase, heap_alloc_new w.drew _, hge, hcm', ?_, ?_⟩⟩, ⟨rfl, rfl, rfl, by simp, fun k hk _ => heap_alloc_old w.drew _ hk⟩, .inr rfl⟩
      · simp only [Array.size_append, List.size_toArray, size_zeroCells, hzs, hown.1, hl, ← Nat.add_mul, Nat.zero_add]
        apply Nat.le_of_eq
        congr 1
        omega
      · simp only [Array.toList_append, List.append_assoc, List.drop_zero]
        rw [← List.append_assoc, ← hlen]
        exact List.take_left
theorem wpList_appO {P : Program} {ops : Array Oper} {rest : List Oper} {o : Oper} {a : Act} {Q : Exit → Act → World → Prop} (hgd : o.guard = none) (s x : Operand) (t : TypeId)
    (ho : o.op = .call { callee := .builtin .append, args := #[s, x], argTypes := #[t, t] })
    (base : Nat) (e : TypeId) (i : TypeInfo) (z : Value) (size bytes : Nat) (ht : P.underlying t = some (.slice e)) (hi : P.info? e = some i) (hz : i.zero = some z)
    (hsize : i.size = size) (hby : i.bytes = bytes) (hzs : z.cells.size = size) (hsz : 0 < size)
    (v : Value) (n : Nat) (xs : List Value) (hs : a.eval s = v) (hown : OwnO w base e size v n xs)
    (ad : Addr) (m c : Nat) (news : List Value) (hx : a.eval x = .slice (some ad) m c) (hl : news.length = m * size) (hnews : ∀ j u, news[j]? = some u → w.cell? (ad.add j) = some u) (h1 : ∀ u ∈ news, u.oneCell' = true)
    (hbytes : (n + m) * bytes ≤ 140737488355328) (hb0 : 0 < bytes) (hbase : base ≤ w.heap.size)
    (h : ∀ v' w', OwnO w' base e size v' (n + m) (xs ++ news) → w.grownBy w' v.ownBlock → Below base w w' → (v'.ownBlock = v.ownBlock ∨ v'.ownBlock = some w.heap.size) → wpList P ops Q rest (a.put o.dst v') w') : wpList P ops Q (o :: rest) a w :=
  wpList_plain hgd fun _ hK => by
    obtain ⟨v', w', hr, h2, h3, h5⟩ := run_append_O (P := P) t o.type i z bytes ht hi hz hsize hby hzs hsz hown ad m c news hl hnews h1
      (by have := Nat.le_mul_of_pos_right (n + m) hb0; unfold maxLen; omega) hbytes hbase
    unfold Oper.wp execOp
    simp only [ho, resolve, invoke, builtin, Sem.run_bind, Sem.run_pure, Result.andThen_ok, List.map_toArray, List.map_cons, List.map_nil, hs, hx, hr]
    exact hK _ _ (h v' w' h2 h3 ((Below.refl base w).grown h3 hbase (fun k hk => (hown.lt k hk).1)) h5)
end
end Go.Proofs.Ytmikckhihfcooaa
