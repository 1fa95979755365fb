/- pack.Put and the law's joined. slices.Sort and slices.Compact at strings of the call's own. The ends of a word in order, and how much each has in common with the one ahead (plain). -/
import Derived.Test.YtncakjchaniheaaDoorPk03
import Derived.Test.YtncakjchaniheaaDoorPk04
import Derived.Test.YtncakjchaniheaaDoorShelf
import Derived.Test.YtncakjchaniheaaDoorPk02
import Derived.Sort.OwnSorted
import Derived.Lib.OwnBridge
namespace Go.Proofs.YtncakjchaniheaaDoor
open Go.RowKit
def joinI (l : List (List UInt8)) (text : List Int) : List UInt8 := text.flatMap fun k => l.getD k.toNat []
theorem joinI_snoc (l : List (List UInt8)) (t : List Int) (k : Int) : joinI l (t ++ [k]) = joinI l t ++ l.getD k.toNat [] := by simp [joinI]
theorem joinI_take {l : List (List UInt8)} {t : List Int} {i : Nat} (h : i < t.length) : joinI l (t.take (i + 1)) = joinI l (t.take i) ++ l.getD (t.getD i 0).toNat [] := by
  have e : t.getD i 0 = t[i] := by rw [List.getD_eq_getElem?_getD, List.getElem?_eq_getElem h]; rfl
  rw [e, List.take_add_one, List.getElem?_eq_getElem h]
  exact joinI_snoc _ _ _
theorem joinI_len {l : List (List UInt8)} (hl : ∀ i, i < l.length → (l.getD i []).length ≤ 12) (t : List Int) : (joinI l t).length ≤ t.length * 12 := by
  induction t with
  | nil => simp [joinI]
  | cons k t ih =>
    have e : joinI l (k :: t) = l.getD k.toNat [] ++ joinI l t := by simp [joinI]
    rw [e, List.length_append, List.length_cons, Nat.succ_mul]
    have : (l.getD k.toNat []).length ≤ 12 := by
      rcases Nat.lt_or_ge k.toNat l.length with h | h
      · exact hl _ h
      · rw [List.getD_eq_getElem?_getD, List.getElem?_eq_none h]; simp
    omega
/-- A number that is none of a word. -/
def bad (n : Nat) (k : Int) : Bool := decide (k < 0 ∨ (n : Int) ≤ k)
def putErr (n : Nat) (t : List Int) : Int := if 200 < t.length then 2 else if t.any (bad n) then 1 else 0
theorem bad_any {n : Nat} {t : List Int} {i : Nat} (hi : i < t.length) (h : bad n (t.getD i 0) = true) : t.any (bad n) = true := by
  rw [List.any_eq_true]
  refine ⟨t.getD i 0, ?_, h⟩
  rw [List.getD_eq_getElem?_getD, List.getElem?_eq_getElem hi]; exact List.getElem_mem _
theorem bad_none {n : Nat} {t : List Int} (h : ∀ i, i < t.length → bad n (t.getD i 0) = false) : t.any (bad n) = false := by
  rw [List.any_eq_false]
  intro x hx
  obtain ⟨i, hi, e⟩ := List.mem_iff_getElem.1 hx
  have := h i hi
  rw [List.getD_eq_getElem?_getD, List.getElem?_eq_getElem hi] at this
  rw [← e]
  simp only [Option.getD_some] at this
  rw [this]; decide
theorem intCell {w : World} {B n k : Nat} {A : Option Addr} {t : List Int} (hr : Rd w B 1 A n (ints t)) (hk : k < n) :
    ∃ ad : Addr, A = some ad ∧ ad.block < B ∧ w.cell? (ad.add k) = some (.int .i64 (t.getD k 0)) := by
  have hlen : t.length = n := by have := hr.1; simpa [ints] using this
  obtain ⟨ad, u, hA, hb, hu, hc⟩ := hr.at_ hk
  rw [ints, List.getElem?_map, List.getElem?_eq_getElem (by omega)] at hu
  obtain rfl := Option.some.inj hu
  refine ⟨ad, hA, hb, ?_⟩
  rw [hc, List.getD_eq_getElem?_getD, List.getElem?_eq_getElem (by omega)]; rfl
def packErr (l : List (List UInt8)) (t : List Int) : Int := if codeErr l = 0 then putErr l.length t else codeErr l
def packOut (l : List (List UInt8)) (t : List Int) : List UInt8 := if packErr l t = 0 then joinI l t else []
theorem packOut_bad {l : List (List UInt8)} {t : List Int} (h : packErr l t ≠ 0) : packOut l t = [] := if_neg h
theorem packOut_ok {l : List (List UInt8)} {t : List Int} (h : packErr l t = 0) : packOut l t = joinI l t := if_pos h
set_option maxRecDepth 100000 in
set_option maxHeartbeats 4000000 in
theorem packPut_any (A : Option Addr) (n c B : Nat) (l : List (List UInt8)) (A2 : Option Addr) (m c2 B2 : Nat) (t : List Int) (w : World) (hr : Rd w B 1 A n (strCells l)) (hB : B ≤ w.heap.size) (hr2 : Rd w B2 1 A2 m (ints t)) (hB2 : B2 ≤ w.heap.size)
    (hn : n ≤ c) (hx : ∀ x ∈ l, x.length ≤ maxLen) :
    Calls Tryd.prog 9 #[.slice A n c, .slice A2 m c2] w fun e w' => e = .returned (.tuple #[.string (S (packOut l t)), .int .i64 (packErr l t)]) ∧ Below w.heap.size w w' := by
  have hln : l.length = n := by have := hr.1; simpa [strCells] using this
  have hlm : t.length = m := by have := hr2.1; simpa [ints] using this
  have HC := Lib.hid (codeCheck_any A n c B l w hr hn hB hx)
  have HR := Lib.hid hr
  have HR2 := Lib.hid hr2
  clear hr hr2 hx
  by_cases hE : codeErr l = 0
  case neg =>
    have HP : packErr l t = codeErr l := if_neg hE
    rw [packOut_bad (by rw [HP]; exact hE), HP]
    obtain ⟨E, hEE⟩ : ∃ E, codeErr l = E := ⟨_, rfl⟩
    rw [hEE] at HC hE ⊢
    clear hEE HP
    have g1 : (E == 0) = false := by rw [beq_eq_false_iff_ne]; exact hE
    have g2 : (E != 0) = true := by rw [bne, g1]; rfl
    clear hE
    go_enter Tryd.func9, Tryd.ntmps9
    go_wp2_with fail
    refine HC.out.mono ?_
    rintro e w1 ⟨rfl, hb1⟩
    go_wp2_with fail
    go_ret2
    exact ⟨rfl, hb1⟩
  have HP : Hid (packErr l t = putErr n t) := by unfold Hid packErr; rw [if_pos hE, hln]
  have hco := cod_of hE
  have HL := Lib.hid hco.le
  have hn12 := hco.len
  rw [hE] at HC
  clear hE hco
  by_cases hbig : 200 < m
  · have HE : Hid (packErr l t = 2) := by unfold Hid; rw [HP.out, putErr, if_pos (by omega)]
    rw [packOut_bad (by rw [HE.out]; decide), HE.out]
    have g1 : decide ((200 : Int) < (m : Int)) = true := decide_eq_true (by omega)
    go_enter Tryd.func9, Tryd.ntmps9
    go_wp2_with fail
    refine HC.out.mono ?_
    rintro e w1 ⟨rfl, hb1⟩
    go_wp2_with fail
    go_ret2
    exact ⟨rfl, hb1⟩
  have g1 : decide ((200 : Int) < (m : Int)) = false := decide_eq_false (by omega)
  go_enter Tryd.func9, Tryd.ntmps9
  go_wp2_with fail
  refine HC.out.mono ?_
  rintro e w1 ⟨rfl, hb1⟩
  have hw1 : w.heap.size ≤ w1.heap.size := hb1.size
  have hb0 : Below w1.heap.size w1 (w1.alloc (.cells #[.pointer none, .slice none 0 0] 55)) := (Below.refl _ _).alloc (Nat.le_refl _) _
  have hbld : Bld w1.heap.size w1.heap.size [] (w1.alloc (.cells #[.pointer none, .slice none 0 0] 55)) := Lib.fresh_isBuilder _ _ w1
  have HRa := Lib.hid (HR.out.below (hb1.mono hB))
  have HR2a := Lib.hid (HR2.out.below (hb1.mono hB2))
  clear HR HR2
  go_wp2_with fail
  go_loopw [20] (fun iv wr => ∃ i : Nat, i ≤ m ∧ iv = .int .i64 (i : Int) ∧ Hid (∀ j, j < i → bad n (t.getD j 0) = false) ∧ Bld w1.heap.size w1.heap.size (joinI l (t.take i)) wr ∧ Below w1.heap.size w1 wr) (fun iv _ => m - (intOf iv).toNat)
  case atStart => exact ⟨0, Nat.zero_le _, rfl, Lib.hid (fun j h => by omega), hbld, hb0⟩
  case round =>
    clear hbld hb0
    obtain ⟨i, hi, rfl, HN, hbd, hb⟩ := hrel
    by_cases hlt : i < m
    · have g3 : decide ((i : Int) < (m : Int)) = true := decide_eq_true (by omega)
      have g3' : decide (i < m) = true := decide_eq_true hlt
      obtain ⟨ad2, rfl, _, c0⟩ := intCell (HR2a.out.below (hb.mono (Nat.le_trans hB2 hw1))) hlt
      have HJ := Lib.hid (joinI_take (l := l) (t := t) (i := i) (by omega))
      have hjl := joinI_len HL.out (t.take i)
      rw [List.length_take] at hjl
      have hjb : (joinI l (t.take i)).length ≤ 2400 := by omega
      have HBT : Hid (bad n (t.getD i 0) = true → packErr l t = 1) := fun h => by
        rw [HP.out, putErr, if_neg (by omega), bad_any (i := i) (by omega) h]; rfl
      have HNX : Hid (bad n (t.getD i 0) = false → ∀ j, j < i + 1 → bad n (t.getD j 0) = false) := fun h j hj => by
        rcases Nat.lt_or_ge j i with h1 | h1
        · exact HN.out j h1
        · obtain rfl : j = i := by omega
          exact h
      obtain ⟨k, hk⟩ : ∃ k, t.getD i 0 = k := ⟨_, rfl⟩
      rw [hk] at c0 HJ HBT HNX
      clear hk hjl
      by_cases hk0 : k < 0
      · have g4 : decide (k < (0 : Int)) = true := decide_eq_true hk0
        have HE := Lib.hid (HBT.out (decide_eq_true (.inl hk0)))
        clear hbd HBT HNX HJ
        go_wp2_with fail
        go_ret2
        rw [packOut_bad (by rw [HE.out]; decide), HE.out]
        exact ⟨rfl, bthen hb1 hb⟩
      have g4 : decide (k < (0 : Int)) = false := decide_eq_false hk0
      by_cases hkn : (n : Int) ≤ k
      · have g5 : decide ((n : Int) ≤ k) = true := decide_eq_true hkn
        have HE := Lib.hid (HBT.out (decide_eq_true (.inr hkn)))
        clear hbd HBT HNX HJ
        go_wp2_with fail
        go_ret2
        rw [packOut_bad (by rw [HE.out]; decide), HE.out]
        exact ⟨rfl, bthen hb1 hb⟩
      have HN2 := Lib.hid (HNX.out (decide_eq_false (by omega)))
      obtain ⟨K, rfl⟩ : ∃ K : Nat, k = (K : Int) := ⟨k.toNat, by omega⟩
      have g5 : decide ((n : Int) ≤ (K : Int)) = false := decide_eq_false hkn
      have g5' : decide (n ≤ K) = false := decide_eq_false (by omega)
      have hKn : K < n := by omega
      rw [Int.toNat_natCast] at HJ
      obtain ⟨ad, rfl, _, c1⟩ := str_cell (HRa.out.below (hb.mono (Nat.le_trans hB hw1))) hKn
      have hxl := HL.out K (by omega)
      obtain ⟨X, hX⟩ : ∃ X, S (l.getD K []) = X := ⟨_, rfl⟩
      have hxz : X.size ≤ 12 := by rw [← hX, S_size]; exact hxl
      have HLX : Hid (L X = l.getD K []) := by rw [← hX]; exact L_S _
      rw [hX] at c1
      have HW := Lib.hid (bldWrite w1.heap.size w1.heap.size (joinI l (t.take i)) X wr hbd (by omega) hb.size)
      rw [HLX.out, ← HJ.out] at HW
      clear hX hxl hbd HBT HNX hk0 hkn
      go_wp2_with fail
      refine HW.out.mono ?_
      rintro e w3 ⟨⟨v, rfl⟩, hbd3, hb3⟩
      go_wp2_with fail
      go_roundw
      case rel => exact ⟨i + 1, by omega, by go_num, HN2, hbd3, hb.trans hb3⟩
      case measure => simp [intOf]; omega
    · obtain rfl : i = m := by omega
      have g3 : decide ((i : Int) < (i : Int)) = false := decide_eq_false (by omega)
      have g3' : decide (i < i) = false := decide_eq_false hlt
      rw [List.take_of_length_le (by omega)] at hbd
      have HE : Hid (packErr l t = 0) := by
        unfold Hid
        rw [HP.out, putErr, if_neg (by omega), bad_none fun j hj => HN.out j (by omega)]; rfl
      have HS := Lib.hid (bldString w1.heap.size w1.heap.size _ wr hbd hb.size)
      clear hbd
      go_wp2_with fail
      refine HS.out.mono ?_
      rintro e w3 ⟨rfl, hb3⟩
      go_wp2_with fail
      go_ret2
      rw [packOut_ok HE.out, HE.out]
      exact ⟨rfl, bthen hb1 (hb.trans hb3)⟩
end Go.Proofs.YtncakjchaniheaaDoor
namespace Go.Proofs.YtncakjchaniheaaDoor
open Go.RowKit Go.Proofs
def sortB (l : List (List UInt8)) : List (List UInt8) := l.mergeSort fun x y => decide (x ≤ y)
theorem sortB_len (l : List (List UInt8)) : (sortB l).length = l.length := List.length_mergeSort l
theorem strCells_enc (l : List (List UInt8)) : strCells l = l.map encStr := rfl
theorem comp_le (l : List (List UInt8)) : (Lib.compact l).length ≤ l.length := by
  have h : ∀ (d : Array (List UInt8)) m, (Lib.compactUpTo d m).length ≤ m := by
    intro d m
    induction m with
    | zero => simp [Lib.compactUpTo]
    | succ m ih => rw [Lib.compactUpTo_succ, List.length_append]; split <;> simp <;> omega
  have := h l.toArray l.length
  simpa [Lib.compact] using this
end Go.Proofs.YtncakjchaniheaaDoor
namespace Go.Proofs.YtncakjchaniheaaDoor
/-- How many bytes two texts begin with in common. -/
def lcpL : List UInt8 → List UInt8 → Nat
  | x :: a, y :: b => if x = y then lcpL a b + 1 else 0
  | _, _ => 0
theorem lcpL_le : ∀ a b : List UInt8, lcpL a b ≤ a.length ∧ lcpL a b ≤ b.length
  | [], b => by cases b <;> simp [lcpL]
  | x :: a, [] => by simp [lcpL]
  | x :: a, y :: b => by
    have := lcpL_le a b
    unfold lcpL
    split
    · simp; omega
    · simp
theorem lcpL_take : ∀ a b : List UInt8, a.take (lcpL a b) = b.take (lcpL a b)
  | [], b => by cases b <;> simp [lcpL]
  | x :: a, [] => by simp [lcpL]
  | x :: a, y :: b => by
    have := lcpL_take a b
    unfold lcpL
    split
    · rename_i h; subst h; simp [this]
    · simp
theorem lcpL_ge : ∀ (m : Nat) (a b : List UInt8), m ≤ a.length → m ≤ b.length → a.take m = b.take m → m ≤ lcpL a b := by
  intro m
  induction m with
  | zero => intros; exact Nat.zero_le _
  | succ m ih =>
    intro a b h1 h2 h
    match a, b, h1, h2, h with
    | x :: a, y :: b, h1, h2, h =>
      simp at h h1 h2
      obtain ⟨rfl, h⟩ := h
      have := ih a b h1 h2 h
      unfold lcpL; rw [if_pos rfl]; omega
theorem take_less {a b : List UInt8} {m q : Nat} (h : a.take m = b.take m) (hq : q ≤ m) : a.take q = b.take q := by
  have := congrArg (List.take q) h
  rwa [List.take_take, List.take_take, Nat.min_eq_left hq] at this
theorem take_at {a b : List UInt8} {m j : Nat} (h : a.take m = b.take m) (hj : j < m) : a.getD j 0 = b.getD j 0 := by
  have h1 := congrArg (fun l => l.getD j 0) h
  simp only [List.getD_eq_getElem?_getD, List.getElem?_take_of_lt hj] at h1
  rw [List.getD_eq_getElem?_getD, List.getD_eq_getElem?_getD]; exact h1
theorem take_more {a b : List UInt8} {m : Nat} (h : a.take m = b.take m) (h1 : m < a.length) (h2 : m < b.length) (he : a.getD m 0 = b.getD m 0) : a.take (m + 1) = b.take (m + 1) := by
  rw [List.take_add_one, List.take_add_one, h]
  rw [List.getD_eq_getElem?_getD, List.getD_eq_getElem?_getD, List.getElem?_eq_getElem h1, List.getElem?_eq_getElem h2] at he
  rw [List.getElem?_eq_getElem h1, List.getElem?_eq_getElem h2]
  simp at he
  rw [he]
theorem lcpL_is {m : Nat} {a b : List UInt8} (h1 : m ≤ a.length) (h2 : m ≤ b.length) (h : a.take m = b.take m) (hs : a.length ≤ m ∨ b.length ≤ m ∨ a.getD m 0 ≠ b.getD m 0) : m = lcpL a b := by
  have g1 := lcpL_ge m a b h1 h2 h
  have g2 := lcpL_le a b
  rcases Nat.lt_or_ge m (lcpL a b) with h3 | h3
  · exfalso
    rcases hs with hs | hs | hs
    · omega
    · omega
    · exact hs (take_at (lcpL_take a b) h3)
  · omega
theorem cons_leB {x y : UInt8} {a b : List UInt8} : x :: a ≤ y :: b ↔ x < y ∨ (x = y ∧ a ≤ b) := List.cons_le_cons_iff
theorem nil_leB (a : List UInt8) : [] ≤ a := List.nil_le a
theorem not_cons_le_nil {x : UInt8} {a : List UInt8} : ¬ x :: a ≤ [] := by
  intro h
  have := List.le_antisymm h (List.nil_le _)
  cases this
theorem mid_lcp : ∀ (m : Nat) (a b c : List UInt8), a ≤ b → b ≤ c → m ≤ a.length → m ≤ c.length → a.take m = c.take m → m ≤ b.length ∧ b.take m = c.take m := by
  intro m
  induction m with
  | zero => intros; exact ⟨Nat.zero_le _, by simp⟩
  | succ m ih =>
    intro a b c hab hbc ha hc h
    match a, c, ha, hc, h with
    | x :: a, z :: c, ha, hc, h =>
      simp at h ha hc
      obtain ⟨rfl, h⟩ := h
      match b, hab, hbc with
      | [], hab, _ => exact absurd hab not_cons_le_nil
      | y :: b, hab, hbc =>
        rcases cons_leB.1 hab with h1 | ⟨rfl, h1⟩
        · rcases cons_leB.1 hbc with h2 | ⟨rfl, h2⟩
          · exact absurd (UInt8.lt_trans h1 h2) (UInt8.lt_irrefl _)
          · exact absurd h1 (UInt8.lt_irrefl _)
        · rcases cons_leB.1 hbc with h2 | ⟨_, h2⟩
          · exact absurd h2 (UInt8.lt_irrefl _)
          · obtain ⟨g1, g2⟩ := ih a b c h1 h2 ha hc h
            simp [g2]; omega
theorem take_leB : ∀ (m : Nat) (a c : List UInt8), a ≤ c → a.take m ≤ c.take m := by
  intro m
  induction m with
  | zero => intro a c _; simp
  | succ m ih =>
    intro a c h
    match a, c, h with
    | [], c, _ => simp
    | x :: a, [], h => exact absurd h not_cons_le_nil
    | x :: a, y :: c, h =>
      simp only [List.take_succ_cons]
      rcases cons_leB.1 h with h1 | ⟨h0, h1⟩
      · exact cons_leB.2 (.inl h1)
      · exact cons_leB.2 (.inr ⟨h0, ih a c h1⟩)
/-- The places of a family of texts, in the texts' order. -/
def srtL (f : Nat → List UInt8) (c : Nat) : List Nat := (List.range c).mergeSort fun x y => decide (f x ≤ f y)
theorem srt_sortB (f : Nat → List UInt8) (c : Nat) : sortB ((List.range c).map f) = (srtL f c).map f := by
  unfold sortB srtL
  rw [List.map_mergeSort]
  intro a _ b _; rfl
structure Srt (f : Nat → List UInt8) (c : Nat) (p : List Nat) : Prop where
  perm : p.Perm (List.range c)
  pw : p.Pairwise fun x y => f x ≤ f y
theorem srt_is (f : Nat → List UInt8) (c : Nat) : Srt f c (srtL f c) := by
  refine ⟨List.mergeSort_perm _ _, ?_⟩
  have h := List.pairwise_mergeSort (le := fun (x y : Nat) => decide (f x ≤ f y)) (fun a b c h1 h2 => by
    rw [decide_eq_true_iff] at *; exact List.le_trans h1 h2) (fun a b => by
    rw [Bool.or_eq_true, decide_eq_true_iff, decide_eq_true_iff]; exact List.le_total _ _) (List.range c)
  exact h.imp fun h => by rwa [decide_eq_true_iff] at h
section
variable {f : Nat → List UInt8} {c : Nat} {p : List Nat}
theorem Srt.len (h : Srt f c p) : p.length = c := by rw [h.perm.length_eq, List.length_range]
theorem Srt.get (h : Srt f c p) {i : Nat} (hi : i < c) : p.getD i 0 = p[i]'(by rw [h.len]; exact hi) := by
  rw [List.getD_eq_getElem?_getD, List.getElem?_eq_getElem (by rw [h.len]; exact hi)]; rfl
theorem Srt.lt (h : Srt f c p) {i : Nat} (hi : i < c) : p.getD i 0 < c := by
  rw [h.get hi]
  exact List.mem_range.1 (h.perm.mem_iff.1 (List.getElem_mem _))
theorem Srt.nodup (h : Srt f c p) : p.Nodup := h.perm.nodup_iff.2 List.nodup_range
theorem Srt.inj (h : Srt f c p) {i j : Nat} (hi : i < c) (hj : j < c) (e : p.getD i 0 = p.getD j 0) : i = j := by
  rw [h.get hi, h.get hj] at e
  exact (List.getElem_inj h.nodup).1 e
theorem Srt.sur (h : Srt f c p) {x : Nat} (hx : x < c) : ∃ i, i < c ∧ p.getD i 0 = x := by
  obtain ⟨i, hi, e⟩ := List.mem_iff_getElem.1 (h.perm.mem_iff.2 (List.mem_range.2 hx))
  rw [h.len] at hi
  exact ⟨i, hi, by rw [h.get hi]; exact e⟩
theorem Srt.mono (h : Srt f c p) {i j : Nat} (hij : i ≤ j) (hj : j < c) : f (p.getD i 0) ≤ f (p.getD j 0) := by
  rcases Nat.lt_or_ge i j with h1 | h1
  · rw [h.get hj, h.get (show i < c by omega)]
    exact List.pairwise_iff_getElem.1 h.pw i j _ _ h1
  · obtain rfl : i = j := by omega
    exact List.le_refl _
end
/-- Where the ends of s begin, in their order. -/
def ordS (s : List UInt8) : List Nat := srtL (fun i => s.drop i) s.length
theorem ordS_srt (s : List UInt8) : Srt (fun i => s.drop i) s.length (ordS s) := srt_is _ _
def oS (s : List UInt8) (k : Nat) : Nat := (ordS s).getD k 0
theorem oS_lt {s : List UInt8} {k : Nat} (h : k < s.length) : oS s k < s.length := (ordS_srt s).lt h
theorem ordS_len (s : List UInt8) : (ordS s).length = s.length := (ordS_srt s).len
def sufA (s : List UInt8) (k : Nat) : List UInt8 := s.drop (oS s k)
theorem sufA_len {s : List UInt8} {k : Nat} : (sufA s k).length = s.length - oS s k := List.length_drop
theorem sufA_le {s : List UInt8} {i j : Nat} (hij : i ≤ j) (hj : j < s.length) : sufA s i ≤ sufA s j := (ordS_srt s).mono hij hj
def lcpA (s : List UInt8) (k : Nat) : Nat := if k = 0 then 0 else lcpL (sufA s (k - 1)) (sufA s k)
theorem lcpA_pos {s : List UInt8} {k : Nat} (h : k ≠ 0) : lcpA s k = lcpL (sufA s (k - 1)) (sufA s k) := if_neg h
theorem lcpA_le (s : List UInt8) (k : Nat) : lcpA s k ≤ (sufA s k).length := by
  unfold lcpA
  split
  · exact Nat.zero_le _
  · exact (lcpL_le _ _).2
def rkS (s : List UInt8) (i : Nat) : Nat := (ordS s).idxOf i
theorem rkS_lt {s : List UInt8} {i : Nat} (h : i < s.length) : rkS s i < s.length := by
  have h1 : i ∈ ordS s := (ordS_srt s).perm.mem_iff.2 (List.mem_range.2 h)
  have h2 := List.idxOf_lt_length_of_mem h1
  rw [ordS_len] at h2
  exact h2
theorem oS_rk {s : List UInt8} {i : Nat} (h : i < s.length) : oS s (rkS s i) = i := by
  have h1 := rkS_lt h
  unfold oS
  rw [(ordS_srt s).get h1]
  exact List.getElem_idxOf _
theorem rk_oS {s : List UInt8} {k : Nat} (h : k < s.length) : rkS s (oS s k) = k :=
  (ordS_srt s).inj (rkS_lt (oS_lt h)) h (oS_rk (oS_lt h))
theorem drop_cons {s : List UInt8} {i : Nat} (h : i < s.length) : s.drop i = s.getD i 0 :: s.drop (i + 1) := by
  rw [List.drop_eq_getElem_cons h, List.getD_eq_getElem?_getD, List.getElem?_eq_getElem h]; rfl
/-- One byte further the common part is at most one shorter. -/
theorem kasai {s : List UInt8} {i : Nat} (hi : i + 1 < s.length) (hr : rkS s i ≠ 0) (hA : 2 ≤ lcpA s (rkS s i)) : rkS s (i + 1) ≠ 0 ∧ lcpA s (rkS s i) - 1 ≤ lcpA s (rkS s (i + 1)) := by
  have hri := rkS_lt (s := s) (i := i) (by omega)
  obtain ⟨k, hk⟩ : ∃ k, oS s (rkS s i - 1) = k := ⟨_, rfl⟩
  have hkn : k < s.length := by rw [← hk]; exact oS_lt (by omega)
  have hki : k ≠ i := by
    intro e
    have h1 := oS_rk (s := s) (i := i) (by omega)
    rw [← e, ← hk] at h1
    have := (ordS_srt s).inj (by rw [hk, e]; exact hri) (show rkS s i - 1 < s.length by omega) h1
    rw [hk, e] at this
    omega
  have hle := sufA_le (s := s) (i := rkS s i - 1) (j := rkS s i) (by omega) hri
  rw [lcpA_pos hr] at hA ⊢
  have hm := lcpL_le (sufA s (rkS s i - 1)) (sufA s (rkS s i))
  have ht := lcpL_take (sufA s (rkS s i - 1)) (sufA s (rkS s i))
  unfold sufA at hle hA hm ht ⊢
  rw [hk, oS_rk (by omega)] at hle hA hm ht ⊢
  generalize lcpL (s.drop k) (s.drop i) = m at *
  rw [List.length_drop, List.length_drop] at hm
  obtain ⟨q, rfl⟩ : ∃ q, m = q + 1 := ⟨m - 1, by omega⟩
  rw [drop_cons hkn, drop_cons (show i < s.length by omega)] at hle ht
  simp only [List.take_succ_cons, List.cons.injEq] at ht
  obtain ⟨ht0, ht⟩ := ht
  have hle2 : s.drop (k + 1) ≤ s.drop (i + 1) := by
    rcases cons_leB.1 hle with h1 | ⟨_, h1⟩
    · rw [ht0] at h1; exact absurd h1 (UInt8.lt_irrefl _)
    · exact h1
  have hk1 : k + 1 < s.length := by omega
  have hrk := rkS_lt hk1
  have hri1 := rkS_lt hi
  have hlt : rkS s (k + 1) < rkS s (i + 1) := by
    rcases Nat.lt_or_ge (rkS s (k + 1)) (rkS s (i + 1)) with h1 | h1
    · exact h1
    · exfalso
      have h2 := sufA_le (s := s) h1 hrk
      unfold sufA at h2
      rw [oS_rk hk1, oS_rk hi] at h2
      have := congrArg List.length (List.le_antisymm hle2 h2)
      rw [List.length_drop, List.length_drop] at this
      omega
  refine ⟨by omega, ?_⟩
  have g1 := sufA_le (s := s) (i := rkS s (k + 1)) (j := rkS s (i + 1) - 1) (by omega) (by omega)
  have g2 := sufA_le (s := s) (i := rkS s (i + 1) - 1) (j := rkS s (i + 1)) (by omega) hri1
  rw [lcpA_pos (by omega)]
  unfold sufA at g1 g2 ⊢
  rw [oS_rk hk1] at g1
  rw [oS_rk hi] at g2 ⊢
  obtain ⟨e1, e2⟩ := mid_lcp q _ _ _ g1 g2 (by rw [List.length_drop]; omega) (by rw [List.length_drop]; omega) ht
  rw [Nat.add_sub_cancel]
  exact lcpL_ge q _ _ e1 (by rw [List.length_drop]; omega) e2
end Go.Proofs.YtncakjchaniheaaDoor
