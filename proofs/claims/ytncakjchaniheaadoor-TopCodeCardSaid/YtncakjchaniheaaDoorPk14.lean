/- tree.Check and the document's WeightErr. What a row of lengths costs: tree.Cost and the law's own function. tree.Lens: the piles are laid. -/
import Derived.Test.YtncakjchaniheaaDoorPk08
import Derived.Test.YtncakjchaniheaaDoorPk06
import Derived.Test.YtncakjchaniheaaDoorPk07
import Derived.Test.YtncakjchaniheaaDoorPk13
import Derived.Test.YtncakjchaniheaaDoorPk11
namespace Go.Proofs.YtncakjchaniheaaDoor
open Go.RowKit
def badW (x : Int) : Bool := decide (x < 1 ∨ 10000 < x)
def wErr (l : List Int) : Int := if 12 < l.length then 2 else if l.any badW = true then 1 else 0
theorem wErr_large {l : List Int} (h : 12 < l.length) : wErr l = 2 := if_pos h
theorem wErr_bad {l : List Int} (h : l.length ≤ 12) {k : Nat} (hk : k < l.length) (hb : badW (l.getD k 0) = true) : wErr l = 1 := by
  unfold wErr
  rw [if_neg (by omega), if_pos]
  refine List.any_eq_true.2 ⟨l[k], List.getElem_mem hk, ?_⟩
  rw [List.getD_eq_getElem?_getD, List.getElem?_eq_getElem hk] at hb
  exact hb
theorem wErr_ok {l : List Int} (h : l.length ≤ 12) (hb : ∀ k, k < l.length → badW (l.getD k 0) = false) : wErr l = 0 := by
  unfold wErr
  rw [if_neg (by omega), if_neg]
  intro h2
  obtain ⟨x, hx, h3⟩ := List.any_eq_true.1 h2
  obtain ⟨k, hk, rfl⟩ := List.getElem_of_mem hx
  have := hb k hk
  rw [List.getD_eq_getElem?_getD, List.getElem?_eq_getElem hk] at this
  have h4 : badW l[k] = false := this
  rw [h4] at h3; cases h3
theorem intAt {w : World} {B n k : Nat} {A : Option Addr} {t : List Int} (hr : Rd w B 1 A n (ints t)) (hk : k < n) : ∃ ad, A = some ad ∧ w.cell? (ad.add k) = some (.int .i64 (t.getD k 0)) := by
  have hl : t.length = n := by have := hr.1; simpa [ints] using this
  obtain ⟨ad, hA, _, hc⟩ := hr.2 (by omega)
  exact ⟨ad, hA, hc k _ (ints_getD _ _ (by omega))⟩
set_option maxRecDepth 100000 in
set_option maxHeartbeats 4000000 in
theorem treeCheck_any (l : List Int) (A : Option Addr) (m c B : Nat) (w : World) (hr : Rd w B 1 A m (ints l)) (hm : m ≤ 9223372036854775807) :
    Calls Tryd.prog 35 #[.slice A m c] w fun e w' => e = .returned (.int .i64 (wErr l)) ∧ w' = w := by
  have hl : l.length = m := by have := hr.1; simpa [ints] using this
  have HR := Lib.hid hr
  clear hr
  by_cases hbig : 12 < m
  · have HE := Lib.hid (wErr_large (l := l) (by omega))
    have g1 : decide ((12 : Int) < (m : Int)) = true := decide_eq_true (by omega)
    have g1' : decide (12 < m) = true := decide_eq_true hbig
    go_enter Tryd.func35, Tryd.ntmps35
    go_wp2_with fail
    go_ret
    rw [HE.out]
    exact ⟨rfl, rfl⟩
  have g0 : decide ((12 : Int) < (m : Int)) = false := decide_eq_false (by omega)
  have g0' : decide (12 < m) = false := decide_eq_false hbig
  have HL := Lib.hid hl
  clear hl
  go_enter Tryd.func35, Tryd.ntmps35
  go_wp2_with fail
  go_loopw [10] (fun iv wr => ∃ i : Nat, i ≤ m ∧ iv = .int .i64 (i : Int) ∧ Hid (∀ k, k < i → badW (l.getD k 0) = false) ∧ wr = w) (fun iv _ => m - (intOf iv).toNat)
  case atStart => exact ⟨0, Nat.zero_le _, rfl, fun k hk => absurd hk (Nat.not_lt_zero _), rfl⟩
  case round =>
    obtain ⟨i, hi, rfl, HN, rfl⟩ := hrel
    by_cases hlt : i < m
    · have g1 : decide ((i : Int) < (m : Int)) = true := decide_eq_true (by omega)
      have g1' : decide (i < m) = true := decide_eq_true hlt
      obtain ⟨ad, rfl, c0⟩ := intAt HR.out hlt
      have HBAD : Hid (badW (l.getD i 0) = true → wErr l = 1) := fun h => wErr_bad (by rw [HL.out]; omega) (by rw [HL.out]; exact hlt) h
      have HGO : Hid (badW (l.getD i 0) = false → ∀ k, k < i + 1 → badW (l.getD k 0) = false) := fun h k hk => by
        rcases Nat.lt_or_ge k i with h1 | h1
        · exact HN.out k h1
        · obtain rfl : k = i := by omega
          exact h
      clear HN
      generalize l.getD i 0 = x at *
      by_cases h1 : x < 1
      · have g2 : decide (x < 1) = true := decide_eq_true h1
        have HV := Lib.hid (HBAD.out (decide_eq_true (.inl h1)))
        clear HBAD HGO h1
        go_wp2_with fail
        go_ret
        rw [HV.out]
        exact ⟨rfl, rfl⟩
      · have g2 : decide (x < 1) = false := decide_eq_false h1
        by_cases h2 : 10000 < x
        · have g3 : decide (10000 < x) = true := decide_eq_true h2
          have HV := Lib.hid (HBAD.out (decide_eq_true (.inr h2)))
          clear HBAD HGO h1 h2
          go_wp2_with fail
          go_ret
          rw [HV.out]
          exact ⟨rfl, rfl⟩
        · have g3 : decide (10000 < x) = false := decide_eq_false h2
          have HV := Lib.hid (HGO.out (decide_eq_false (by omega)))
          clear HBAD HGO h1 h2
          go_wp2_with fail
          go_roundw
          case rel => exact ⟨i + 1, by omega, by go_num, HV.out, by first | rfl | trivial⟩
          case measure => simp [intOf]; omega
    · have hie : Hid (i = m) := by unfold Hid; omega
      have g1 : decide ((i : Int) < (m : Int)) = false := decide_eq_false (by omega)
      have g1' : decide (i < m) = false := decide_eq_false hlt
      have HV := Lib.hid (wErr_ok (l := l) (by rw [HL.out]; omega) (fun k hk => HN.out k (by rw [HL.out] at hk; rw [hie.out]; exact hk)))
      clear HN
      go_wp2_with fail
      go_ret
      rw [HV.out]
      exact ⟨rfl, rfl⟩
end Go.Proofs.YtncakjchaniheaaDoor
namespace Go.Proofs.YtncakjchaniheaaDoor
open Go.RowKit
def costTo (ws ls : List Int) : Nat → Int
  | 0 => 0
  | k + 1 => costTo ws ls k + ws.getD k 0 * ls.getD k 0
theorem costTo_bd {ws ls : List Int} {n : Nat} (hw : ∀ k, k < n → 0 ≤ ws.getD k 0 ∧ ws.getD k 0 ≤ 10000) (hl : ∀ k, k < n → 0 ≤ ls.getD k 0 ∧ ls.getD k 0 ≤ 12) : ∀ k, k ≤ n → 0 ≤ costTo ws ls k ∧ costTo ws ls k ≤ 120000 * (k : Int) := by
  intro k
  induction k with
  | zero => intro _; exact ⟨Int.le_refl _, by simp [costTo]⟩
  | succ k ih =>
    intro hk
    obtain ⟨h1, h2⟩ := ih (by omega)
    obtain ⟨h3, h4⟩ := hw k (by omega)
    obtain ⟨h5, h6⟩ := hl k (by omega)
    have h7 : 0 ≤ ws.getD k 0 * ls.getD k 0 := Int.mul_nonneg h3 h5
    have h8 : ws.getD k 0 * ls.getD k 0 ≤ 10000 * 12 := Int.mul_le_mul h4 h6 h5 (by omega)
    unfold costTo
    omega
theorem wErr_bd {l : List Int} (h : wErr l = 0) : l.length ≤ 12 ∧ ∀ k, k < l.length → 1 ≤ l.getD k 0 ∧ l.getD k 0 ≤ 10000 := by
  unfold wErr at h
  by_cases h1 : 12 < l.length
  · rw [if_pos h1] at h; cases h
  · rw [if_neg h1] at h
    refine ⟨by omega, fun k hk => ?_⟩
    by_cases h2 : l.any badW = true
    · rw [if_pos h2] at h; cases h
    · have h3 := List.any_eq_false.1 (by simpa using h2) l[k] (List.getElem_mem hk)
      rw [List.getD_eq_getElem?_getD, List.getElem?_eq_getElem hk]
      show 1 ≤ l[k] ∧ l[k] ≤ 10000
      have h4 : badW l[k] = false := by simpa using h3
      have := of_decide_eq_false h4
      omega
theorem lensGo_bd : ∀ {l : List Int} {x : Int}, (lensGo x l).2 = 0 → ∀ k, k < l.length → 1 ≤ l.getD k 0 ∧ l.getD k 0 ≤ 12 := by
  intro l
  induction l with
  | nil => intro x _ k hk; simp at hk
  | cons y l ih =>
    intro x h k hk
    rw [lensGo] at h
    by_cases h1 : y < 1 ∨ 12 < y
    · rw [if_pos h1] at h; cases h
    · rw [if_neg h1] at h
      cases k with
      | zero => show 1 ≤ y ∧ y ≤ 12; omega
      | succ k => exact ih h k (by simpa using hk)
theorem lensErr_bd {l : List Int} (h : (lensErr l).2 = 0) : l.length ≤ 12 ∧ ∀ k, k < l.length → 1 ≤ l.getD k 0 ∧ l.getD k 0 ≤ 12 := by
  unfold lensErr at h
  by_cases h1 : 12 < l.length
  · rw [if_pos h1] at h; cases h
  · rw [if_neg h1] at h
    exact ⟨by omega, lensGo_bd h⟩
def costAns (ws ls : List Int) : Int × Int := if wErr ws ≠ 0 then (0, wErr ws) else if (lensErr ls).2 ≠ 0 then (0, (lensErr ls).2) else if ls.length ≠ ws.length then (0, 3) else (costTo ws ls ws.length, 0)
end Go.Proofs.YtncakjchaniheaaDoor
namespace Go.Proofs.YtncakjchaniheaaDoor
open Go.RowKit
theorem info_pile : (Tryd.prog.info? 75).map (fun i => (i.zero, i.size, i.bytes)) = some (some (.agg #[.int .i64 0, .slice none 0 0]), 2, 32) := by kernel_rfl
def lenW : Value → Nat
  | .slice _ n _ => n
  | _ => 0
/-- The first k piles. -/
def piP (ws : List Nat) (k : Nat) : List Pile := (List.range k).map fun j => (ws.getD j 0, [j])
theorem piP_snoc (ws : List Nat) (k : Nat) : piP ws (k + 1) = piP ws k ++ [(ws.getD k 0, [k])] := by
  unfold piP; rw [List.range_succ, List.map_append]; rfl
theorem intN_at {ws : List Nat} {k : Nat} (h : k < ws.length) : (intN ws).getD k 0 = (ws.getD k 0 : Nat) := by
  unfold intN
  rw [List.getD_eq_getElem?_getD, List.getElem?_map, List.getD_eq_getElem?_getD, List.getElem?_eq_getElem h]; rfl
theorem pile_new {w : World} {a : Nat} {A : Option Addr} {n c : Nat} : ∀ j u, ([.int .i64 (a : Int), .slice A n c] : List Value)[j]? = some u → (w.alloc (.cells #[.int .i64 (a : Int), .slice A n c] 75)).cell? (Addr.add ⟨w.heap.size, 0, none⟩ j) = some u := fun j u hu => by
  have e : Addr.add ⟨w.heap.size, 0, none⟩ j = ⟨w.heap.size, j, none⟩ := by unfold Addr.add; split <;> simp_all
  rw [e, (Blk.new_ w 75 #[.int .i64 (a : Int), .slice A n c]).cell j, ← hu, ← List.getElem?_toArray]
structure LnOk (w : World) (B : Nat) (A : Option Addr) (c : Nat) (l : List Pm) : Prop where
  row : OwnO w B 75 2 (.slice A l.length c) l.length (pmCells l)
  mem : ∀ x ∈ l, PlOk w B x
set_option maxRecDepth 100000 in
set_option maxHeartbeats 16000000 in
theorem lensErr_walk (ws : List Int) (A : Option Addr) (m c B : Nat) (w : World) (hr : Rd w B 1 A m (ints ws)) (hm : m ≤ 9223372036854775807) (h : wErr ws ≠ 0) :
    Calls Tryd.prog 21 #[.slice A m c] w fun e w' => e = .returned (.tuple #[.slice none 0 0, .int .i64 (wErr ws)]) ∧ w' = w := by
  have HCK := Lib.hid (treeCheck_any ws A m c B w hr hm)
  have g1 : (wErr ws != (0 : Int)) = true := by rw [bne_iff_ne]; exact h
  clear hr h
  generalize wErr ws = er at *
  go_enter Tryd.func21, Tryd.ntmps21
  go_wp2_with fail
  refine HCK.out.mono ?_
  rintro e w1 ⟨rfl, hw1⟩
  rw [hw1]
  clear hw1 w1
  go_wp2_with fail
  go_ret2
  exact ⟨rfl, rfl⟩
set_option maxRecDepth 100000 in
set_option maxHeartbeats 16000000 in
theorem lens_any (ws : List Nat) (A : Option Addr) (m c B : Nat) (w : World) (hr : Rd w B 1 A m (ints (intN ws))) (hB : B ≤ w.heap.size) (h0 : wErr (intN ws) = 0) (h12 : m ≤ 12) :
    Calls Tryd.prog 21 #[.slice A m c] w fun e w' => ∃ v, e = .returned (.tuple #[v, .int .i64 0]) ∧ w'.ownsRow w.heap.size 3 1 v m (ints (intN (lensOf ws))) ∧ Below w.heap.size w w' := by
  obtain ⟨i0, hi0, hz0, hz1, hz2⟩ := info_parts info_int
  obtain ⟨j0, hj0, hy0, hy1, hy2⟩ := info_parts info_pile
  have hwl : ws.length = m := by have := hr.1; simpa [ints, intN] using this
  have HCK := Lib.hid (treeCheck_any (intN ws) A m c B w hr (by omega))
  rw [h0] at HCK
  have HR := Lib.hid hr
  have HWL := Lib.hid hwl
  have HWT : Hid (∀ k, ws.getD k 0 ≤ 10000) := fun k => by
    rcases Nat.lt_or_ge k ws.length with h | h
    · have := ((wErr_bd h0).2 k (by rw [intN_len]; exact h)).2
      rw [intN_at h] at this
      omega
    · rw [List.getD_eq_getElem?_getD, List.getElem?_eq_none h]; exact Nat.zero_le _
  clear hr hwl h0
  go_enter Tryd.func21, Tryd.ntmps21
  go_wp2_with fail
  refine HCK.out.mono ?_
  rintro e w1 ⟨rfl, hw1⟩
  rw [hw1]
  clear hw1 w1
  go_wp2_with (at_make; go_must (refine wpList_make_full _ rfl _ _ _ rfl w.heap.size 3 i0 _ 1 Tryd.underlying25 hi0 hz0 hz1 .i64 .i64 (m : Int) (m : Int) m rfl rfl (by omega) (by omega) (by rw [hz2]; omega) (by unfold maxLen; omega) (Nat.le_refl _) ?_); intro w2 hown2 hg2)
  have hb2 : Below w.heap.size w w2 := (Below.refl _ _).grown hg2 (Nat.le_refl _) (fun _ h => by cases h)
  have hown2 : ArrI w2 w.heap.size w.heap.size m (intN (List.replicate m 0)) := by
    rw [made_ints] at hown2
    have e : intN (List.replicate m 0) = List.replicate m (0 : Int) := by simp [intN]
    rw [e]; exact hown2
  clear hg2
  obtain ⟨g, hg⟩ : ∃ g, w.heap.size = g := ⟨_, rfl⟩
  rw [hg] at hown2 ⊢
  have hgl := hown2.lt
  have HOUT := Lib.hid hown2
  have HG := Lib.hid hg
  clear hg hown2
  go_loopw [6, 22] (fun vl iv wr => ∃ (i : Nat) (l : List Pm) (Al : Option Addr) (cl : Nat), i ≤ m ∧ iv = .int .i64 (i : Int) ∧ vl = .slice Al l.length cl ∧ Hid (l.map Pm.pile = piP ws i) ∧ l.length = i ∧ LnOk wr w2.heap.size Al cl l ∧ Below w2.heap.size w2 wr) (fun _ iv _ => m - (intOf iv).toNat)
  case atStart => exact ⟨0, [], none, 0, Nat.zero_le _, rfl, rfl, rfl, rfl, ⟨OwnO.nil_, fun x hx => by cases hx⟩, Below.refl _ _⟩
  case round =>
    obtain ⟨i, l, Al, cl, hi, rfl, rfl, HP, hll, hln, hb⟩ := hrel
    have hbs := hb.size
    by_cases hlt : i < m
    · have g1 : decide ((i : Int) < (m : Int)) = true := decide_eq_true (by omega)
      have g1' : decide (i < m) = true := decide_eq_true hlt
      obtain ⟨ad, rfl, c0⟩ := intAt (HR.out.below ((hb2.mono hB).trans (hb.mono (by have := hb2.size; omega)))) hlt
      rw [intN_at (by rw [HWL.out]; exact hlt)] at c0
      have HPN : Hid (piP ws (i + 1) = piP ws i ++ [(ws.getD i 0, [i])]) := piP_snoc _ _
      generalize ws.getD i 0 = x at *
      have hbA : Below wr.heap.size wr (wr.alloc (.cells #[.int .i64 (i : Int)] 3)) := (Below.refl _ _).alloc (Nat.le_refl _) _
      have hpx : PlOk (wr.alloc (.cells #[.int .i64 (i : Int)] 3)) w2.heap.size ⟨x, some ⟨wr.heap.size, 0, none⟩, 1, [i]⟩ :=
        ⟨rfl, .inr ⟨wr.heap.size, 0, 1, #[.int .i64 (i : Int)], rfl, hbs, heap_alloc_new wr _, Nat.le_refl _, by decide, Nat.le_refl _, rfl⟩⟩
      have hlnA : LnOk (wr.alloc (.cells #[.int .i64 (i : Int)] 3)) w2.heap.size Al cl l := ⟨hln.row.below hbA, fun y hy => (hln.mem y hy).below hbA⟩
      have hszA : (wr.alloc (.cells #[.int .i64 (i : Int)] 3)).heap.size = wr.heap.size + 1 := by simp
      have hbB := (Below.refl wr.heap.size wr).trans hbA
      have hbw : Below w2.heap.size w2 (wr.alloc (.cells #[.int .i64 (i : Int)] 3)) := hb.trans (hbA.mono hbs)
      have hnew : ∀ j u, ([.int .i64 (x : Int), .slice (some ⟨wr.heap.size, 0, none⟩) 1 1] : List Value)[j]? = some u → ((wr.alloc (.cells #[.int .i64 (i : Int)] 3)).alloc (.cells #[.int .i64 (x : Int), .slice (some ⟨wr.heap.size, 0, none⟩) 1 1] 75)).cell? (Addr.add ⟨wr.heap.size + 1, 0, none⟩ j) = some u := by
        have h := pile_new (w := (wr.alloc (.cells #[.int .i64 (i : Int)] 3))) (a := x) (A := some ⟨wr.heap.size, 0, none⟩) (n := 1) (c := 1)
        rw [hszA] at h
        exact h
      have hbC : Below (wr.alloc (.cells #[.int .i64 (i : Int)] 3)).heap.size (wr.alloc (.cells #[.int .i64 (i : Int)] 3)) ((wr.alloc (.cells #[.int .i64 (i : Int)] 3)).alloc (.cells #[.int .i64 (x : Int), .slice (some ⟨wr.heap.size, 0, none⟩) 1 1] 75)) := (Below.refl _ _).alloc (Nat.le_refl _) _
      have hlnB : LnOk ((wr.alloc (.cells #[.int .i64 (i : Int)] 3)).alloc (.cells #[.int .i64 (x : Int), .slice (some ⟨wr.heap.size, 0, none⟩) 1 1] 75)) w2.heap.size Al cl l := ⟨hlnA.row.below hbC, fun y hy => (hlnA.mem y hy).below hbC⟩
      have hpxB := hpx.below hbC
      have hbwB : Below w2.heap.size w2 ((wr.alloc (.cells #[.int .i64 (i : Int)] 3)).alloc (.cells #[.int .i64 (x : Int), .slice (some ⟨wr.heap.size, 0, none⟩) 1 1] 75)) := hbw.trans (hbC.mono (by omega))
      have HLN := Lib.hid hlnB
      have HPX := Lib.hid hpxB
      have HBW := Lib.hid hbwB
      clear hln hlnA hpx hlnB hpxB hbB hbwB hbw hbA hbC
      go_wp2_with (at_builtin; go_must (refine wpList_appO rfl _ _ _ rfl w2.heap.size 75 j0 _ 2 32 Tryd.underlying73 hj0 hy0 hy1 hy2 rfl (by omega) _ l.length (pmCells l) rfl HLN.out.row ⟨wr.heap.size + 1, 0, none⟩ 1 1 [.int .i64 (x : Int), .slice (some ⟨wr.heap.size, 0, none⟩) 1 1] rfl rfl hnew (by simp [Value.oneCell']) (by omega) (by omega) (by simp; omega) ?_); intro v8 w8 hO8 hg8 hb8 _ha8)
      obtain ⟨A8, c8, rfl, _, _, _⟩ := hO8.form
      have hrow8 : OwnO w8 w2.heap.size 75 2 (.slice A8 (l ++ [(⟨x, some ⟨wr.heap.size, 0, none⟩, 1, [i]⟩ : Pm)]).length c8) (l ++ [(⟨x, some ⟨wr.heap.size, 0, none⟩, 1, [i]⟩ : Pm)]).length (pmCells (l ++ [⟨x, some ⟨wr.heap.size, 0, none⟩, 1, [i]⟩])) := by
        rw [pmCells_append, List.length_append, List.length_singleton]; exact hO8
      have hkeep : ∀ y : Pm, PlOk ((wr.alloc (.cells #[.int .i64 (i : Int)] 3)).alloc (.cells #[.int .i64 (x : Int), .slice (some ⟨wr.heap.size, 0, none⟩) 1 1] 75)) w2.heap.size y → PlOk w8 w2.heap.size y := fun y hy => OwnO.kept hy hg8 (own_ne_two hy HLN.out.row (by decide))
      go_roundw
      case rel =>
        refine ⟨i + 1, l ++ [⟨x, some ⟨wr.heap.size, 0, none⟩, 1, [i]⟩], A8, c8, by omega, by go_num, by rw [List.length_append, List.length_singleton], ?_, by rw [List.length_append, List.length_singleton]; omega, ⟨hrow8, fun y hy => ?_⟩, HBW.out.trans hb8⟩
        · unfold Hid
          rw [List.map_append, HP.out, HPN.out]; rfl
        · rcases List.mem_append.1 hy with hy | hy
          · exact hkeep y (HLN.out.mem y hy)
          · rw [List.mem_singleton.1 hy]; exact hkeep _ HPX.out
      case measure => simp [intOf]; omega
    · have him : Hid (i = m) := by unfold Hid; omega
      have g1 : decide ((i : Int) < (m : Int)) = false := decide_eq_false (by omega)
      have g1' : decide (i < m) = false := decide_eq_false hlt
      have HP2 : Hid (l.map Pm.pile = piles0 ws ws.length) := by rw [Hid, HP.out, him.out, HWL.out]; rfl
      have HLN := Lib.hid hln
      have hwB : w2.heap.size ≤ wr.heap.size := hbs
      have hbW : Below w.heap.size w wr := hb2.trans (hb.mono hb2.size)
      have hout := HOUT.out.below hb
      clear HP hln
      by_cases h1 : m = 1
      · have g2 : ((l.length : Int) == 1) = true := by rw [beq_iff_eq]; omega
        have g2' : (l.length == 1) = true := by rw [beq_iff_eq]; omega
        have co := hout.at_ (k := 0) (by omega)
        have ff := hout.free 0
        have HLS : Hid (LnAt ws (lensOf ws) (l.map Pm.pile) [1]) := by rw [Hid, HP2.out]; exact LnAt.one (by rw [HWL.out]; exact h1)
        have hset := hout.set_ 0 1
        have e : (intN (List.replicate m 0)).set 0 1 = intN [1] := by subst h1; rfl
        rw [e] at hset
        have HSET := Lib.hid hset
        have hgw : g < wr.heap.size := hout.lt.2
        have hm1 : 1 ≤ m := by omega
        clear hout hset e
        generalize (intN (List.replicate m 0)).getD 0 0 = z at *
        have g3 : decide ((1 : Int) < (l.length : Int)) = false := decide_eq_false (by omega)
        have g3' : decide (1 < l.length) = false := decide_eq_false (by omega)
        have HEL : Hid (lensOf ws = [1]) := by unfold Hid lensOf; rw [if_pos (by rw [HWL.out]; exact h1)]
        have HM1 := Lib.hid h1
        clear h1 hll
        go_wp2_with fail
        refine wp_loop_rounds 1 ?_
        rw [rounds_succ]
        go_wp2_with fail
        go_ret2
        rw [HEL.out]
        exact ⟨_, rfl, by rw [HG.out]; exact HSET.out, hbW.setCell (p := ⟨g, 0, none⟩) (by rw [HG.out]; exact Nat.le_refl _) _⟩
      · have g2 : ((l.length : Int) == 1) = false := by rw [beq_eq_false_iff_ne]; omega
        have g2' : (l.length == 1) = false := by rw [beq_eq_false_iff_ne]; omega
        have HLS : Hid (LnAt ws (lensOf ws) (l.map Pm.pile) (List.replicate m 0)) := by rw [Hid, HP2.out, ← HWL.out]; exact LnAt.start (by rw [HWL.out]; exact h1)
        have HOUT2 := Lib.hid hout
        have hlm0 : l.length ≤ m := by omega
        clear hout h1 hll
        go_wp2_with fail
        go_loopw [6] (fun vl wq => ∃ (l : List Pm) (Al : Option Addr) (cl : Nat) (out : List Nat), vl = .slice Al l.length cl ∧ Hid (LnAt ws (lensOf ws) (l.map Pm.pile) out) ∧ l.length ≤ m ∧ LnOk wq w2.heap.size Al cl l ∧ ArrI wq g g m (intN out) ∧ Below w.heap.size w wq ∧ w2.heap.size ≤ wq.heap.size) (fun vl _ => lenW vl)
        case atStart => exact ⟨l, Al, cl, _, rfl, HLS.out, hlm0, HLN.out, HOUT2.out, hbW, hwB⟩
        case round =>
          clear HLS HLN HOUT2 hbW hwB g2 g2' hlm0
          obtain ⟨l, Al, cl, out, rfl, HLS, hlm, hln, hout, hbW, hwB⟩ := hrel
          by_cases h2 : 2 ≤ l.length
          · have g3 : decide ((1 : Int) < (l.length : Int)) = true := decide_eq_true (by omega)
            have g3' : decide (1 < l.length) = true := decide_eq_true (by omega)
            obtain ⟨ad, rfl⟩ : ∃ ad, Al = some ad := by
              obtain ⟨A', c', hv, _, _, hr⟩ := hln.row.form
              cases hv
              obtain ⟨ad, h, _⟩ := hr.2 (by omega)
              exact ⟨ad, h⟩
            have hwt : ∀ x ∈ l, x.wt ≤ 1000000 := fun x hx => HLS.out.wt (by rw [List.length_map]; exact h2) HWT.out (by rw [HWL.out]; exact h12) x.pile (List.mem_map.2 ⟨x, hx, rfl⟩)
            have HSO := Lib.hid (stablePile_any l ad cl w2.heap.size _ hln.row (by omega) hwt)
            have hadB := (hln.row.lt ad.block rfl)
            have HLN := Lib.hid hln
            have HO := Lib.hid hout
            clear hln hout
            go_wp2_with fail
            refine HSO.out.mono ?_
            rintro e w5 ⟨rfl, hrow5, hg5⟩
            have hmem5 : ∀ x ∈ isrtM l, PlOk w5 w2.heap.size x := fun x hx => (HLN.out.mem x ((isrtM_perm l).mem_iff.1 hx)).row HLN.out.row hg5
            have hout5 : ArrI w5 g g m (intN out) := HO.out.kept hg5 (by intro e; injection e with e; have := HO.out.lt; omega)
            have hb5 : Below w.heap.size w w5 := hbW.grown hg5 (by rw [HG.out]; omega) (fun k hk => by cases hk; rw [HG.out]; omega)
            have hs5 := hg5.size
            have hwt5 : ∀ x ∈ isrtM l, x.wt ≤ 1000000 := fun x hx => hwt x ((isrtM_perm l).mem_iff.1 hx)
            have hlen5 := isrtM_len l
            have HPI := Lib.hid (isrtM_pile l)
            obtain ⟨p, q, r, hpq⟩ : ∃ p q r, isrtM l = p :: q :: r := by
              cases hi : isrtM l with
              | nil => rw [hi] at hlen5; simp at hlen5; omega
              | cons p s =>
                cases s with
                | nil => rw [hi] at hlen5; simp at hlen5; omega
                | cons q r => exact ⟨p, q, r, rfl⟩
            rw [hpq] at hrow5 hmem5 hlen5 HPI hwt5
            clear hwt
            have HSM := Lib.hid (HLS.out.small (by rw [List.length_map]; exact h2) (by rw [HWL.out]; exact h12))
            have HSTEP := Lib.hid (HLS.out.step (p := p.pile) (q := q.pile) (r := r.map Pm.pile) (by rw [HWL.out]; exact h12) HPI.out.symm)
            have hrowL : OwnO w5 w2.heap.size 75 2 (.slice (some ad) (p :: q :: r).length cl) (p :: q :: r).length (pmCells (p :: q :: r)) := by rw [hlen5]; exact hrow5
            have e0 : ad.add (0 * 2) = ad := by unfold Addr.add; rfl
            obtain ⟨c0, c1⟩ := pm_at hrowL (j := 0) (x := p) rfl
            obtain ⟨d0, d1⟩ := pm_at hrowL (j := 1) (x := q) rfl
            rw [e0] at c0 c1
            have hp5 := hmem5 p List.mem_cons_self
            have hq5 := hmem5 q (List.mem_cons_of_mem _ List.mem_cons_self)
            obtain ⟨pw, pA, pc, pm⟩ := p
            obtain ⟨qw, qA, qc, qm⟩ := q
            obtain ⟨_, _, hv1, _, _, hr1⟩ := OwnO.form hp5
            cases hv1
            obtain ⟨_, _, hv2, _, _, hr2⟩ := OwnO.form hq5
            cases hv2
            have hadl : ad.block < w5.heap.size := (hrowL.lt ad.block rfl).2
            have ea2 : ad.add (1 * 2) = ⟨ad.block, ad.off + 2, none⟩ := by unfold Addr.add; rfl
            rw [ea2] at d0 d1
            have HC4 : Hid (∀ W, Below w5.heap.size w5 W → W.cell? ad = some (.int .i64 (pw : Int)) ∧ W.cell? ⟨ad.block, ad.off + 1, none⟩ = some (.slice pA pm.length pc) ∧ W.cell? ⟨ad.block, ad.off + 2, none⟩ = some (.int .i64 (qw : Int)) ∧ W.cell? ⟨ad.block, ad.off + 2 + 1, none⟩ = some (.slice qA qm.length qc)) := fun W hW =>
              ⟨(hW.cell (p := ad) hadl).trans c0, (hW.cell (p := ⟨ad.block, ad.off + 1, none⟩) hadl).trans c1, (hW.cell (p := ⟨ad.block, ad.off + 2, none⟩) hadl).trans d0, (hW.cell (p := ⟨ad.block, ad.off + 2 + 1, none⟩) hadl).trans d1⟩
            obtain ⟨c0, c1, d0, d1⟩ := HC4.out w5 (Below.refl _ _)
            have H1 := Lib.hid hr1
            have H2 := Lib.hid hr2
            have hw12 : pm.length ≤ 12 ∧ qm.length ≤ 12 ∧ pm.length + qm.length ≤ 12 := by
              have := HSTEP.out.2.2.2
              simp only [Pm.pile, List.length_append] at this
              omega
            have hpwt : pw ≤ 1000000 ∧ qw ≤ 1000000 := ⟨hwt5 _ List.mem_cons_self, hwt5 _ (List.mem_cons_of_mem _ List.mem_cons_self)⟩
            clear HSO HLN HO HPI HLS hr1 hr2 hp5 hq5 hrowL ea2 e0
            go_wp2_with fail
            obtain ⟨F1, hFd⟩ : ∃ F : World → Prop, F = fun w' => w'.cell? ad = some (.int .i64 (pw : Int)) ∧ w'.cell? ⟨ad.block, ad.off + 1, none⟩ = some (.slice pA pm.length pc) ∧ w'.cell? ⟨ad.block, ad.off + 2, none⟩ = some (.int .i64 (qw : Int)) ∧ w'.cell? ⟨ad.block, ad.off + 2 + 1, none⟩ = some (.slice qA qm.length qc) := ⟨_, rfl⟩
            have HF1 := Lib.hid hFd
            clear hFd
            have hcell10 : ∀ p' : Wof F1, p'.w.cell? ad = some (.int .i64 (pw : Int)) := fun ⟨x, hx⟩ => by rw [HF1.out] at hx; exact hx.1
            have hcell11 : ∀ p' : Wof F1, p'.w.cell? ⟨ad.block, ad.off + 1, none⟩ = some (.slice pA pm.length pc) := fun ⟨x, hx⟩ => by rw [HF1.out] at hx; exact hx.2.1
            have hcell12 : ∀ p' : Wof F1, p'.w.cell? ⟨ad.block, ad.off + 2, none⟩ = some (.int .i64 (qw : Int)) := fun ⟨x, hx⟩ => by rw [HF1.out] at hx; exact hx.2.2.1
            have hcell13 : ∀ p' : Wof F1, p'.w.cell? ⟨ad.block, ad.off + 2 + 1, none⟩ = some (.slice qA qm.length qc) := fun ⟨x, hx⟩ => by rw [HF1.out] at hx; exact hx.2.2.2
            refine wp_region_schedT (.op 0 true (.op 1 true (.op 2 true (.op 3 true (.op 4 true (.op 5 true (.op 6 true (.op 7 true (.op 8 true (.op 9 true (.op 10 true (.op 11 true (.op 12 true (.op 13 true (.op 14 true (.op 15 true (.op 16 true (.fork 17 20 (.fork 18 20 (.op 19 true (.op 20 false .nil)) (.op 18 false (.op 19 true .nil))) (.op 17 false (.op 18 false (.op 19 true .nil))))))))))))))))))))) 21 21 [] F1 (by kernel_rfl) (by kernel_rfl) (by kernel_rfl) rfl (fun _ _ _ _ _ h => h) (by kernel_rfl) (by rw [HF1.out]; first | trivial | (repeat' apply And.intro) <;> assumption | (simp; done) | (simp [*]; done)) (by rw [HF1.out]; exact fun h => h) ?_
            intro hne1
            simp only [opersT, opsAt, List.getElem?_toArray, List.getElem?_cons_succ, List.getElem?_cons_zero]
            repeat (first | (refine wpT_free rfl ?_; intro K hK; go_big_quiet_op; go_big_quiet_on) | (refine wpT_wantS _ rfl rfl rfl ?_; intro K hK; go_big_quiet_op; go_big_quiet_on) | (refine wpT_skipS _ rfl rfl rfl rfl ?_; simp only [Act.put, List.setIfInBounds_toArray, List.set_cons_zero, List.set_cons_succ]) | (refine wpT_skipU _ rfl rfl rfl ?_; simp only [Act.put, List.setIfInBounds_toArray, List.set_cons_zero, List.set_cons_succ]))
            refine wpT_fork ?_ ?_
            · go_wp2_with fail
              have hbn1 : Below w5.heap.size w5 ((w5.alloc (.cells #[.slice pA pm.length pc, .slice qA qm.length qc] 25)).drew) := (by repeat (first | exact Below.refl _ _ | assumption | refine Below.alloc ?_ (by first | exact Nat.le_refl _ | assumption | omega | (simp <;> omega)) _ | refine Below.setCell ?_ (by first | exact Nat.le_refl _ | assumption | omega | (simp <;> omega)) _ | refine Below.drew ?_ | refine below_drewN ?_ _))
              have hk1 : Blk ((w5.alloc (.cells #[.slice pA pm.length pc, .slice qA qm.length qc] 25)).drew) w5.heap.size 25 #[.slice pA pm.length pc, .slice qA qm.length qc] := (Blk.new_ w5 25 _).drew
              have hgl1 : w5.heap.size < ((w5.alloc (.cells #[.slice pA pm.length pc, .slice qA qm.length qc] 25)).drew).heap.size := hk1.lt
              generalize ((w5.alloc (.cells #[.slice pA pm.length pc, .slice qA qm.length qc] 25)).drew) = w6 at *
              have k0 := hk1.cell0
              have k1 := hk1.cell1
              refine sched_back (by rw [HF1.out]; exact HC4.out _ hbn1) ?_
              repeat (first | (refine wpT_free rfl ?_; intro K hK; go_big_quiet_op; go_big_quiet_on) | (refine wpT_wantS _ rfl rfl rfl ?_; intro K hK; go_big_quiet_op; go_big_quiet_on) | (refine wpT_skipS _ rfl rfl rfl rfl ?_; simp only [Act.put, List.setIfInBounds_toArray, List.set_cons_zero, List.set_cons_succ]) | (refine wpT_skipU _ rfl rfl rfl ?_; simp only [Act.put, List.setIfInBounds_toArray, List.set_cons_zero, List.set_cons_succ]))
              refine wpT_fork ?_ ?_
              · go_wp2_with fail
                refine (concatInt_any (intN pm) (intN qm) pA pm.length pc qA qm.length qc w5.heap.size w5.heap.size w6 (H1.out.below hbn1) (H2.out.below hbn1) hbn1.size hgl1 k0 k1 (by omega) (by omega)).mono ?_
                rintro e w7 ⟨v, rfl, hown7, hb7⟩
                obtain ⟨km, hkm⟩ : ∃ km, km = pm ++ qm := ⟨_, rfl⟩
                have ekm : intN pm ++ intN qm = intN km := by rw [hkm]; unfold intN; rw [List.map_append]
                rw [ekm, intN_len] at hown7
                have hkl : km.length ≤ 12 := by rw [hkm, List.length_append]; omega
                have HKM := Lib.hid hkm
                clear hkm ekm
                obtain ⟨A9, c9, rfl, hn9, hm9, _⟩ := own_form hown7
                have hbn7 := bthen hbn1 hb7
                go_wp2_with fail
                refine sched_back (by rw [HF1.out]; exact HC4.out _ hbn7) ?_
                repeat (first | (refine wpT_free rfl ?_; intro K hK; go_big_quiet_op; go_big_quiet_on) | (refine wpT_wantS _ rfl rfl rfl ?_; intro K hK; go_big_quiet_op; go_big_quiet_on) | (refine wpT_skipS _ rfl rfl rfl rfl ?_; simp only [Act.put, List.setIfInBounds_toArray, List.set_cons_zero, List.set_cons_succ]) | (refine wpT_skipU _ rfl rfl rfl ?_; simp only [Act.put, List.setIfInBounds_toArray, List.set_cons_zero, List.set_cons_succ]))
                refine wpT_other ?_
                go_wp2_with fail
                refine sched_back (by rw [HF1.out]; exact HC4.out _ (hbn7.alloc hbn7.size _)) ?_
                repeat (first | (refine wpT_free rfl ?_; intro K hK; go_big_quiet_op; go_big_quiet_on) | (refine wpT_wantS _ rfl rfl rfl ?_; intro K hK; go_big_quiet_op; go_big_quiet_on) | (refine wpT_skipS _ rfl rfl rfl rfl ?_; simp only [Act.put, List.setIfInBounds_toArray, List.set_cons_zero, List.set_cons_succ]) | (refine wpT_skipU _ rfl rfl rfl ?_; simp only [Act.put, List.setIfInBounds_toArray, List.set_cons_zero, List.set_cons_succ]))
                refine wpT_nil ?_
                refine wpTail_cons ?_
                go_wp2_with fail
                refine tail_back ?_
                refine wpTail_nil ?_
                have hnb : w5.heap.size ≤ w7.heap.size := hbn7.size
                have hbk : Blk (w7.alloc (.cells #[.int .i64 ((pw : Int) + (qw : Int)), .slice A9 km.length c9] 75)) w7.heap.size 75 #[.int .i64 ((pw : Int) + (qw : Int)), .slice A9 km.length c9] := Blk.new_ w7 75 _
                have hba : Below w7.heap.size w7 (w7.alloc (.cells #[.int .i64 ((pw : Int) + (qw : Int)), .slice A9 km.length c9] 75)) := (Below.refl _ _).alloc (Nat.le_refl _) _
                have hbz := hbn7.trans (hba.mono hnb)
                have hrk : OwnO (w7.alloc (.cells #[.int .i64 ((pw : Int) + (qw : Int)), .slice A9 km.length c9] 75)) w5.heap.size 3 1 (.slice A9 km.length c9) km.length (ints (intN km)) := OwnO.lowT (OwnO.below (OwnO.of_own hown7) hba) hbn1.size
                clear hba hown7 hb7 hk1 hgl1 k0 k1 hbn1 hbn7 hn9 hm9
                generalize (w7.alloc (.cells #[.int .i64 ((pw : Int) + (qw : Int)), .slice A9 km.length c9] 75)) = wz at *
                generalize w7.heap.size = nb at *
                have hx0 := hbk.cell0
                have hx1 := hbk.cell1
                have hko : some g ≠ (some nb : Option Nat) := by intro e; injection e with e; omega
                have houtz := hout5.below hbz
                have HKO := Lib.hid hko
                have HBK := Lib.hid hbk
                have HRK := Lib.hid hrk
                have HBZ := Lib.hid hbz
                have HOZ := Lib.hid houtz
                clear hko hbk hrk hbz houtz
                go_wp2_with fail
                go_loopw [68] (fun kv wq => ∃ k : Nat, kv = .int .i64 (k : Int) ∧ k ≤ km.length ∧ wz.grownBy wq (some g) ∧ ArrI wq g g m (intN (bump out (km.take k)))) (fun kv _ => km.length - (intOf kv).toNat)
                case atStart => exact ⟨0, rfl, Nat.zero_le _, gb_refl _ _, HOZ.out⟩
                case round =>
                  obtain ⟨k, rfl, hk, hgr, hor⟩ := hrel
                  have hrkr : OwnO _ w5.heap.size 3 1 (.slice A9 km.length c9) km.length (ints (intN km)) := HRK.out.gout (by omega) hgr
                  by_cases hlt : k < km.length
                  · have g4 : decide ((k : Int) < (km.length : Int)) = true := decide_eq_true (by omega)
                    have g4' : decide (k < km.length) = true := decide_eq_true hlt
                    obtain ⟨Ar, cr, hvr, _, _, hrr⟩ := hrkr.form
                    cases hvr
                    obtain ⟨ak, rfl, c0⟩ := intAt hrr hlt
                    rw [intN_get0] at c0
                    have hjm : km.getD k 0 < m := by
                      rw [← HWL.out]
                      refine HSTEP.out.2.1 _ ?_
                      show km.getD k 0 ∈ pm ++ qm
                      rw [← HKM.out, List.getD_eq_getElem?_getD, List.getElem?_eq_getElem hlt]
                      exact List.getElem_mem hlt
                    have HBS : Hid (bump out (km.take (k + 1)) = (bump out (km.take k)).set (km.getD k 0) ((bump out (km.take k)).getD (km.getD k 0) 0 + 1)) := by
                      rw [Hid, take_snocD hlt, bump_snoc]
                    have hle : (bump out (km.take k)).getD (km.getD k 0) 0 ≤ 24 := by
                      have h1 := bump_le (km.take k) out (km.getD k 0)
                      have h2 := HSM.out (km.getD k 0)
                      rw [List.length_take] at h1
                      omega
                    generalize km.getD k 0 = j at *
                    have cj := hor.at_ hjm
                    have ff := hor.free j
                    rw [intN_get0] at cj
                    have hset := hor.set_ j ((((bump out (km.take k)).getD j 0 + 1 : Nat)) : Int)
                    rw [intN_set, ← HBS.out] at hset
                    have HSET := Lib.hid hset
                    have HGR := Lib.hid hgr
                    clear hset HBS hrr hrkr hor hgr
                    generalize (bump out (km.take k)).getD j 0 = z at *
                    go_wp2_with fail
                    go_roundw
                    case rel => exact ⟨k + 1, by go_num, by omega, gb_set HGR.out j _, by first | exact HSET.out | (have := HSET.out; push_cast at this; exact this)⟩
                    case measure => simp [intOf]; omega
                  · have g4 : decide ((k : Int) < (km.length : Int)) = false := decide_eq_false (by omega)
                    have g4' : decide (k < km.length) = false := decide_eq_false hlt
                    have hke : k = km.length := by omega
                    subst hke
                    rw [List.take_length] at hor
                    have hbkr := HBK.out.grown hgr (Ne.symm HKO.out)
                    have hrowr : OwnO _ w2.heap.size 75 2 (.slice (some ad) l.length cl) l.length (pmCells (⟨pw, pA, pc, pm⟩ :: ⟨qw, qA, qc, qm⟩ :: r)) := OwnO.gout (OwnO.below hrow5 HBZ.out) hgl.2 hgr
                    have hplr : ∀ x : Pm, PlOk w5 w2.heap.size x → PlOk _ w2.heap.size x := fun x hx => OwnO.gout (hx.below HBZ.out) hgl.2 hgr
                    have hcb := hrowr.behind (some ad) cl 2 rfl h2 (by simp)
                    rw [pmCells_drop] at hcb
                    have hcut : ∀ W, (Instr.sliceAt 73 (.slice (some ad) l.length cl) (some (.int .i64 2)) none none).run Tryd.prog W = .ok (.slice (if cl = 2 then some ad else (some ad).map (·.add (2 * 2))) (l.length - 2) (cl - 2)) W := fun W => run_behindT Tryd.underlying73 (by kernel_rfl) (some ad) l.length cl 2 h2 W
                    have hvb := own_cutB (ad := ad) (n := l.length - 2) (c := cl) (k := 2) (z := 2 * 2)
                    obtain ⟨vc, hvc⟩ : ∃ vc, vc = Value.slice (if cl = 2 then some ad else (some ad).map (·.add (2 * 2))) (l.length - 2) (cl - 2) := ⟨_, rfl⟩
                    rw [← hvc] at hcb hvb
                    have hcut2 : ∀ W, (Instr.sliceAt 73 (.slice (some ad) l.length cl) (some (.int .i64 2)) none none).run Tryd.prog W = .ok vc W := fun W => by rw [hvc]; exact hcut W
                    have hbelr : Below w.heap.size w wr := below_gb (hb5.trans (HBZ.out.mono hb5.size)) hgr (by rw [HG.out]; exact Nat.le_refl _) (Nat.le_trans hb5.size HBZ.out.size)
                    have hsr := hgr.size
                    have hsz := HBZ.out.size
                    have hq0 := hbkr.cell0
                    have hq1 := hbkr.cell1
                    have hpos : pw + qw ≤ 2000000 := by omega
                    have HGR2 := Lib.hid hgr
                    have HCB := Lib.hid hcb
                    have HVB := Lib.hid hvb
                    have HOR := Lib.hid hor
                    have HBR := Lib.hid hbkr
                    have HPR := Lib.hid hplr
                    have HBEL := Lib.hid hbelr
                    clear hcb hvb hor hbkr hplr hbelr hcut hvc hrkr hrowr hgr
                    go_wp2_with fail
                    obtain ⟨F1, hFd⟩ : ∃ F : World → Prop, F = fun w' => w'.cell? ⟨nb, 0, none⟩ = some (.int .i64 ((pw : Int) + (qw : Int))) ∧ w'.cell? ⟨nb, 1, none⟩ = some (.slice A9 km.length c9) := ⟨_, rfl⟩
                    have HF1 := Lib.hid hFd
                    clear hFd
                    have hcell10 : ∀ p' : Wof F1, p'.w.cell? ⟨nb, 0, none⟩ = some (.int .i64 ((pw : Int) + (qw : Int))) := fun ⟨x, hx⟩ => by rw [HF1.out] at hx; exact hx.1
                    have hcell11 : ∀ p' : Wof F1, p'.w.cell? ⟨nb, 1, none⟩ = some (.slice A9 km.length c9) := fun ⟨x, hx⟩ => by rw [HF1.out] at hx; exact hx.2
                    refine wp_region_schedF [(0, true), (1, true), (2, true), (3, false), (4, false), (5, true)] F1 (by kernel_rfl) (by kernel_rfl) rfl (fun _ _ _ _ _ h => h) (by kernel_rfl) (by rw [HF1.out]; first | trivial | (repeat' apply And.intro) <;> assumption | (simp; done) | (simp [*]; done)) (by rw [HF1.out]; exact fun h => h) ?_
                    intro hne1
                    simp only [opersOf, List.getElem?_toArray, List.getElem?_cons_succ, List.getElem?_cons_zero]
                    repeat (first | (refine wpSched_free rfl ?_; intro K hK; go_big_quiet_op; go_big_quiet_on) | (refine wpSched_wantS _ rfl rfl rfl ?_; intro K hK; go_big_quiet_op; go_big_quiet_on) | (refine wpSched_skipS _ rfl rfl rfl rfl ?_; simp only [Act.put, List.setIfInBounds_toArray, List.set_cons_zero, List.set_cons_succ]) | (refine wpSched_skipU _ rfl rfl rfl ?_; simp only [Act.put, List.setIfInBounds_toArray, List.set_cons_zero, List.set_cons_succ]))
                    refine wpSched_other ?_
                    go_wp2_with fail
                    have hba : Below wr.heap.size wr ((wr.alloc (.cells #[.int .i64 ((pw : Int) + (qw : Int)), .slice A9 km.length c9] 75)).drew) := Below.drew ((Below.refl _ _).alloc (Nat.le_refl _) _)
                    have hnewc : ∀ j u, ([.int .i64 ((pw : Int) + (qw : Int)), .slice A9 km.length c9] : List Value)[j]? = some u → ((wr.alloc (.cells #[.int .i64 ((pw : Int) + (qw : Int)), .slice A9 km.length c9] 75)).drew).cell? (Addr.add ⟨wr.heap.size, 0, none⟩ j) = some u := cells_new2 wr _ _ _
                    have hcbA := OwnO.below HCB.out hba
                    have hbkA := HBR.out.below' hba
                    have hplA : ∀ x : Pm, PlOk w5 w2.heap.size x → PlOk _ w2.heap.size x := fun x hx => (HPR.out x hx).below hba
                    have horA := HOR.out.below hba
                    have hbelA := HBEL.out.trans (hba.mono (Nat.le_trans hb5.size (Nat.le_trans HBZ.out.size hsr)))
                    have hszA : w2.heap.size ≤ ((wr.alloc (.cells #[.int .i64 ((pw : Int) + (qw : Int)), .slice A9 km.length c9] 75)).drew).heap.size := Nat.le_trans (by omega) hba.size
                    have hrkA : PlOk ((wr.alloc (.cells #[.int .i64 ((pw : Int) + (qw : Int)), .slice A9 km.length c9] 75)).drew) w2.heap.size ⟨pw + qw, A9, c9, km⟩ := PlOk.below (OwnO.gout (OwnO.lowT HRK.out (by omega)) hgl.2 HGR2.out) hba
                    have a0 := hbkA.cell0
                    have a1 := hbkA.cell1
                    refine sched_back (by rw [HF1.out]; exact ⟨a0, a1⟩) ?_
                    repeat (first | (refine wpSched_free rfl ?_; intro K hK; go_big_quiet_op; go_big_quiet_on) | (refine wpSched_wantS _ rfl rfl rfl ?_; intro K hK; go_big_quiet_op; go_big_quiet_on) | (refine wpSched_skipS _ rfl rfl rfl rfl ?_; simp only [Act.put, List.setIfInBounds_toArray, List.set_cons_zero, List.set_cons_succ]) | (refine wpSched_skipU _ rfl rfl rfl ?_; simp only [Act.put, List.setIfInBounds_toArray, List.set_cons_zero, List.set_cons_succ]))
                    refine wpSched_other ?_
                    go_wp2_with (at_builtin; go_must (refine wpList_appO rfl _ _ _ rfl w2.heap.size 75 j0 _ 2 32 Tryd.underlying73 hj0 hy0 hy1 hy2 rfl (by omega) vc (l.length - 2) (pmCells r) rfl hcbA ⟨wr.heap.size, 0, none⟩ 1 1 [.int .i64 ((pw : Int) + (qw : Int)), .slice A9 km.length c9] rfl rfl hnewc (by simp [Value.oneCell']) (by omega) (by omega) hszA ?_); intro v8 w8 hO8 hg8 hb8 _ha8)
                    obtain ⟨A8, c8, rfl, _, _, _⟩ := hO8.form
                    have hbk8 := hbkA.grown hg8 (by rw [HVB.out]; intro e; injection e with e; omega)
                    have r0 := hbk8.cell0
                    have r1 := hbk8.cell1
                    refine sched_back (by rw [HF1.out]; exact ⟨r0, r1⟩) ?_
                    repeat (first | (refine wpSched_free rfl ?_; intro K hK; go_big_quiet_op; go_big_quiet_on) | (refine wpSched_wantS _ rfl rfl rfl ?_; intro K hK; go_big_quiet_op; go_big_quiet_on) | (refine wpSched_skipS _ rfl rfl rfl rfl ?_; simp only [Act.put, List.setIfInBounds_toArray, List.set_cons_zero, List.set_cons_succ]) | (refine wpSched_skipU _ rfl rfl rfl ?_; simp only [Act.put, List.setIfInBounds_toArray, List.set_cons_zero, List.set_cons_succ]))
                    refine wpSched_nil ?_
                    have hl8 : l.length - 2 + 1 = (r ++ [(⟨pw + qw, A9, c9, km⟩ : Pm)]).length := by
                      rw [List.length_append, List.length_singleton]
                      simp only [List.length_cons] at hlen5
                      omega
                    have hrow8 : OwnO w8 w2.heap.size 75 2 (.slice A8 (r ++ [(⟨pw + qw, A9, c9, km⟩ : Pm)]).length c8) (r ++ [(⟨pw + qw, A9, c9, km⟩ : Pm)]).length (pmCells (r ++ [⟨pw + qw, A9, c9, km⟩])) := by
                      rw [pmCells_append, ← hl8]; exact hO8
                    rw [hl8]
                    have hkeep : ∀ y : Pm, PlOk _ w2.heap.size y → PlOk w8 w2.heap.size y := fun y hy => OwnO.kept hy hg8 (own_ne_two hy hcbA (by decide))
                    have hout8 := horA.kept hg8 (by rw [HVB.out]; intro e; injection e with e; omega)
                    have hbel8 := hbelA.trans (hb8.mono hb2.size)
                    have hs8 := Nat.le_trans hszA hb8.size
                    have HLA : Hid (LnAt ws (lensOf ws) ((r ++ [(⟨pw + qw, A9, c9, km⟩ : Pm)]).map Pm.pile) (bump out km)) := by
                      rw [Hid, List.map_append, HKM.out]; exact HSTEP.out.1
                    have HIN : Hid (∀ y ∈ r ++ [(⟨pw + qw, A9, c9, km⟩ : Pm)], PlOk w8 w2.heap.size y) := fun y hy => by
                      rcases List.mem_append.1 hy with hy | hy
                      · exact hkeep y (hplA y (hmem5 y (List.mem_cons_of_mem _ (List.mem_cons_of_mem _ hy))))
                      · rw [List.mem_singleton.1 hy]; exact hkeep _ hrkA
                    have hlr : (r ++ [(⟨pw + qw, A9, c9, km⟩ : Pm)]).length < l.length := by omega
                    generalize r ++ [(⟨pw + qw, A9, c9, km⟩ : Pm)] = ln at *
                    have HR8 := Lib.hid hrow8
                    have HU8 := Lib.hid hout8
                    clear hrow8 hout8 hl8 hkeep hcbA hbkA hplA horA hbelA hszA hrkA a0 a1 r0 r1 hbk8 hg8 hO8 hb8 hq0 hq1 hcut2
                    go_wp2_with fail
                    go_roundw
                    case rel => exact ⟨ln, A8, c8, _, rfl, HLA.out, by omega, ⟨HR8.out, HIN.out⟩, HU8.out, hbel8, hs8⟩
                    case measure => exact hlr
              · go_wp2_with fail
                have hbox : Blk (w6.alloc (.cells #[.int .i64 0, .slice none 0 0] 75)) w6.heap.size 75 #[.int .i64 0, .slice none 0 0] := Blk.new_ w6 75 _
                have hk7 := hk1.alloc (.cells #[.int .i64 0, .slice none 0 0] 75)
                have hbn7 := hbn1.alloc hbn1.size (.cells #[.int .i64 0, .slice none 0 0] 75)
                have hnb : w5.heap.size ≤ w6.heap.size := hbn1.size
                refine sched_back (by rw [HF1.out]; exact HC4.out _ hbn7) ?_
                clear hk1 hgl1 k0 k1 hbn1
                generalize (w6.alloc (.cells #[.int .i64 0, .slice none 0 0] 75)) = w7 at *
                generalize w6.heap.size = nb at *
                repeat (first | (refine wpT_free rfl ?_; intro K hK; go_big_quiet_op; go_big_quiet_on) | (refine wpT_wantS _ rfl rfl rfl ?_; intro K hK; go_big_quiet_op; go_big_quiet_on) | (refine wpT_skipS _ rfl rfl rfl rfl ?_; simp only [Act.put, List.setIfInBounds_toArray, List.set_cons_zero, List.set_cons_succ]) | (refine wpT_skipU _ rfl rfl rfl ?_; simp only [Act.put, List.setIfInBounds_toArray, List.set_cons_zero, List.set_cons_succ]))
                refine wpT_other ?_
                go_wp2_with fail
                refine (concatInt_any (intN pm) (intN qm) pA pm.length pc qA qm.length qc w5.heap.size w5.heap.size w7 (H1.out.below hbn7) (H2.out.below hbn7) hbn7.size hk7.lt hk7.cell0 hk7.cell1 (by omega) (by omega)).mono ?_
                rintro e w8 ⟨v, rfl, hown8, hb8⟩
                obtain ⟨km, hkm⟩ : ∃ km, km = pm ++ qm := ⟨_, rfl⟩
                have ekm : intN pm ++ intN qm = intN km := by rw [hkm]; unfold intN; rw [List.map_append]
                rw [ekm, intN_len] at hown8
                have hkl : km.length ≤ 12 := by rw [hkm, List.length_append]; omega
                have HKM := Lib.hid hkm
                clear hkm ekm
                obtain ⟨A9, c9, rfl, hn9, hm9, _⟩ := own_form hown8
                have hbn8 := bthen hbn7 hb8
                have hbx8 := hbox.below' hb8
                have hnb8 : nb < w7.heap.size := hbox.lt
                go_wp2_with fail
                refine sched_back (by rw [HF1.out]; exact HC4.out _ hbn8) ?_
                repeat (first | (refine wpT_free rfl ?_; intro K hK; go_big_quiet_op; go_big_quiet_on) | (refine wpT_wantS _ rfl rfl rfl ?_; intro K hK; go_big_quiet_op; go_big_quiet_on) | (refine wpT_skipS _ rfl rfl rfl rfl ?_; simp only [Act.put, List.setIfInBounds_toArray, List.set_cons_zero, List.set_cons_succ]) | (refine wpT_skipU _ rfl rfl rfl ?_; simp only [Act.put, List.setIfInBounds_toArray, List.set_cons_zero, List.set_cons_succ]))
                refine wpT_nil ?_
                refine wpTail_cons ?_
                have x0 := hbx8.cell0
                have x1 := hbx8.cell1
                have y0 := hbx8.frozen 0
                have y1 := hbx8.frozen 1
                have hbk : Blk ((w8.setCell ⟨nb, 0, none⟩ (.int .i64 ((pw : Int) + (qw : Int)))).setCell ⟨nb, 1, none⟩ (.slice A9 km.length c9)) nb 75 #[.int .i64 ((pw : Int) + (qw : Int)), .slice A9 km.length c9] := (hbx8.set_ 0 _).set_ 1 _
                have hbz : Below w5.heap.size w5 ((w8.setCell ⟨nb, 0, none⟩ (.int .i64 ((pw : Int) + (qw : Int)))).setCell ⟨nb, 1, none⟩ (.slice A9 km.length c9)) := (hbn8.setCell (p := ⟨nb, 0, none⟩) hnb _).setCell (p := ⟨nb, 1, none⟩) hnb _
                have hrk : OwnO ((w8.setCell ⟨nb, 0, none⟩ (.int .i64 ((pw : Int) + (qw : Int)))).setCell ⟨nb, 1, none⟩ (.slice A9 km.length c9)) w5.heap.size 3 1 (.slice A9 km.length c9) km.length (ints (intN km)) := OwnO.lowT (OwnO.gout (OwnO.of_own hown8) hnb8 (gb_set (gb_set (gb_refl _ _) 0 _) 1 _)) hbn7.size
                have HZS := Lib.hid (And.intro hbk (And.intro hbz hrk))
                clear hown8 hb8 hn9 hm9 hbk hbz hrk hk7 hbox hbx8
                obtain ⟨wz, hwz⟩ : ∃ wz, wz = ((w8.setCell ⟨nb, 0, none⟩ (.int .i64 ((pw : Int) + (qw : Int)))).setCell ⟨nb, 1, none⟩ (.slice A9 km.length c9)) := ⟨_, rfl⟩
                rw [← hwz] at HZS
                have HWZ := Lib.hid hwz
                clear hwz
                go_wp2_with fail
                refine tail_back ?_
                refine wpTail_nil ?_
                rw [← HWZ.out]
                clear HWZ x0 x1 y0 y1 hbn8 hbn7 hnb8
                obtain ⟨hbk, hbz, hrk⟩ := HZS.out
                clear HZS
                have hx0 := hbk.cell0
                have hx1 := hbk.cell1
                have hko : some g ≠ (some nb : Option Nat) := by intro e; injection e with e; omega
                have houtz := hout5.below hbz
                have HKO := Lib.hid hko
                have HBK := Lib.hid hbk
                have HRK := Lib.hid hrk
                have HBZ := Lib.hid hbz
                have HOZ := Lib.hid houtz
                clear hko hbk hrk hbz houtz
                go_wp2_with fail
                go_loopw [68] (fun kv wq => ∃ k : Nat, kv = .int .i64 (k : Int) ∧ k ≤ km.length ∧ wz.grownBy wq (some g) ∧ ArrI wq g g m (intN (bump out (km.take k)))) (fun kv _ => km.length - (intOf kv).toNat)
                case atStart => exact ⟨0, rfl, Nat.zero_le _, gb_refl _ _, HOZ.out⟩
                case round =>
                  obtain ⟨k, rfl, hk, hgr, hor⟩ := hrel
                  have hrkr : OwnO _ w5.heap.size 3 1 (.slice A9 km.length c9) km.length (ints (intN km)) := HRK.out.gout (by omega) hgr
                  by_cases hlt : k < km.length
                  · have g4 : decide ((k : Int) < (km.length : Int)) = true := decide_eq_true (by omega)
                    have g4' : decide (k < km.length) = true := decide_eq_true hlt
                    obtain ⟨Ar, cr, hvr, _, _, hrr⟩ := hrkr.form
                    cases hvr
                    obtain ⟨ak, rfl, c0⟩ := intAt hrr hlt
                    rw [intN_get0] at c0
                    have hjm : km.getD k 0 < m := by
                      rw [← HWL.out]
                      refine HSTEP.out.2.1 _ ?_
                      show km.getD k 0 ∈ pm ++ qm
                      rw [← HKM.out, List.getD_eq_getElem?_getD, List.getElem?_eq_getElem hlt]
                      exact List.getElem_mem hlt
                    have HBS : Hid (bump out (km.take (k + 1)) = (bump out (km.take k)).set (km.getD k 0) ((bump out (km.take k)).getD (km.getD k 0) 0 + 1)) := by
                      rw [Hid, take_snocD hlt, bump_snoc]
                    have hle : (bump out (km.take k)).getD (km.getD k 0) 0 ≤ 24 := by
                      have h1 := bump_le (km.take k) out (km.getD k 0)
                      have h2 := HSM.out (km.getD k 0)
                      rw [List.length_take] at h1
                      omega
                    generalize km.getD k 0 = j at *
                    have cj := hor.at_ hjm
                    have ff := hor.free j
                    rw [intN_get0] at cj
                    have hset := hor.set_ j ((((bump out (km.take k)).getD j 0 + 1 : Nat)) : Int)
                    rw [intN_set, ← HBS.out] at hset
                    have HSET := Lib.hid hset
                    have HGR := Lib.hid hgr
                    clear hset HBS hrr hrkr hor hgr
                    generalize (bump out (km.take k)).getD j 0 = z at *
                    go_wp2_with fail
                    go_roundw
                    case rel => exact ⟨k + 1, by go_num, by omega, gb_set HGR.out j _, by first | exact HSET.out | (have := HSET.out; push_cast at this; exact this)⟩
                    case measure => simp [intOf]; omega
                  · have g4 : decide ((k : Int) < (km.length : Int)) = false := decide_eq_false (by omega)
                    have g4' : decide (k < km.length) = false := decide_eq_false hlt
                    have hke : k = km.length := by omega
                    subst hke
                    rw [List.take_length] at hor
                    have hbkr := HBK.out.grown hgr (Ne.symm HKO.out)
                    have hrowr : OwnO _ w2.heap.size 75 2 (.slice (some ad) l.length cl) l.length (pmCells (⟨pw, pA, pc, pm⟩ :: ⟨qw, qA, qc, qm⟩ :: r)) := OwnO.gout (OwnO.below hrow5 HBZ.out) hgl.2 hgr
                    have hplr : ∀ x : Pm, PlOk w5 w2.heap.size x → PlOk _ w2.heap.size x := fun x hx => OwnO.gout (hx.below HBZ.out) hgl.2 hgr
                    have hcb := hrowr.behind (some ad) cl 2 rfl h2 (by simp)
                    rw [pmCells_drop] at hcb
                    have hcut : ∀ W, (Instr.sliceAt 73 (.slice (some ad) l.length cl) (some (.int .i64 2)) none none).run Tryd.prog W = .ok (.slice (if cl = 2 then some ad else (some ad).map (·.add (2 * 2))) (l.length - 2) (cl - 2)) W := fun W => run_behindT Tryd.underlying73 (by kernel_rfl) (some ad) l.length cl 2 h2 W
                    have hvb := own_cutB (ad := ad) (n := l.length - 2) (c := cl) (k := 2) (z := 2 * 2)
                    obtain ⟨vc, hvc⟩ : ∃ vc, vc = Value.slice (if cl = 2 then some ad else (some ad).map (·.add (2 * 2))) (l.length - 2) (cl - 2) := ⟨_, rfl⟩
                    rw [← hvc] at hcb hvb
                    have hcut2 : ∀ W, (Instr.sliceAt 73 (.slice (some ad) l.length cl) (some (.int .i64 2)) none none).run Tryd.prog W = .ok vc W := fun W => by rw [hvc]; exact hcut W
                    have hbelr : Below w.heap.size w wr := below_gb (hb5.trans (HBZ.out.mono hb5.size)) hgr (by rw [HG.out]; exact Nat.le_refl _) (Nat.le_trans hb5.size HBZ.out.size)
                    have hsr := hgr.size
                    have hsz := HBZ.out.size
                    have hq0 := hbkr.cell0
                    have hq1 := hbkr.cell1
                    have hpos : pw + qw ≤ 2000000 := by omega
                    have HGR2 := Lib.hid hgr
                    have HCB := Lib.hid hcb
                    have HVB := Lib.hid hvb
                    have HOR := Lib.hid hor
                    have HBR := Lib.hid hbkr
                    have HPR := Lib.hid hplr
                    have HBEL := Lib.hid hbelr
                    clear hcb hvb hor hbkr hplr hbelr hcut hvc hrkr hrowr hgr
                    go_wp2_with fail
                    obtain ⟨F1, hFd⟩ : ∃ F : World → Prop, F = fun w' => w'.cell? ⟨nb, 0, none⟩ = some (.int .i64 ((pw : Int) + (qw : Int))) ∧ w'.cell? ⟨nb, 1, none⟩ = some (.slice A9 km.length c9) := ⟨_, rfl⟩
                    have HF1 := Lib.hid hFd
                    clear hFd
                    have hcell10 : ∀ p' : Wof F1, p'.w.cell? ⟨nb, 0, none⟩ = some (.int .i64 ((pw : Int) + (qw : Int))) := fun ⟨x, hx⟩ => by rw [HF1.out] at hx; exact hx.1
                    have hcell11 : ∀ p' : Wof F1, p'.w.cell? ⟨nb, 1, none⟩ = some (.slice A9 km.length c9) := fun ⟨x, hx⟩ => by rw [HF1.out] at hx; exact hx.2
                    refine wp_region_schedF [(0, true), (1, true), (2, true), (3, false), (4, false), (5, true)] F1 (by kernel_rfl) (by kernel_rfl) rfl (fun _ _ _ _ _ h => h) (by kernel_rfl) (by rw [HF1.out]; first | trivial | (repeat' apply And.intro) <;> assumption | (simp; done) | (simp [*]; done)) (by rw [HF1.out]; exact fun h => h) ?_
                    intro hne1
                    simp only [opersOf, List.getElem?_toArray, List.getElem?_cons_succ, List.getElem?_cons_zero]
                    repeat (first | (refine wpSched_free rfl ?_; intro K hK; go_big_quiet_op; go_big_quiet_on) | (refine wpSched_wantS _ rfl rfl rfl ?_; intro K hK; go_big_quiet_op; go_big_quiet_on) | (refine wpSched_skipS _ rfl rfl rfl rfl ?_; simp only [Act.put, List.setIfInBounds_toArray, List.set_cons_zero, List.set_cons_succ]) | (refine wpSched_skipU _ rfl rfl rfl ?_; simp only [Act.put, List.setIfInBounds_toArray, List.set_cons_zero, List.set_cons_succ]))
                    refine wpSched_other ?_
                    go_wp2_with fail
                    have hba : Below wr.heap.size wr ((wr.alloc (.cells #[.int .i64 ((pw : Int) + (qw : Int)), .slice A9 km.length c9] 75)).drew) := Below.drew ((Below.refl _ _).alloc (Nat.le_refl _) _)
                    have hnewc : ∀ j u, ([.int .i64 ((pw : Int) + (qw : Int)), .slice A9 km.length c9] : List Value)[j]? = some u → ((wr.alloc (.cells #[.int .i64 ((pw : Int) + (qw : Int)), .slice A9 km.length c9] 75)).drew).cell? (Addr.add ⟨wr.heap.size, 0, none⟩ j) = some u := cells_new2 wr _ _ _
                    have hcbA := OwnO.below HCB.out hba
                    have hbkA := HBR.out.below' hba
                    have hplA : ∀ x : Pm, PlOk w5 w2.heap.size x → PlOk _ w2.heap.size x := fun x hx => (HPR.out x hx).below hba
                    have horA := HOR.out.below hba
                    have hbelA := HBEL.out.trans (hba.mono (Nat.le_trans hb5.size (Nat.le_trans HBZ.out.size hsr)))
                    have hszA : w2.heap.size ≤ ((wr.alloc (.cells #[.int .i64 ((pw : Int) + (qw : Int)), .slice A9 km.length c9] 75)).drew).heap.size := Nat.le_trans (by omega) hba.size
                    have hrkA : PlOk ((wr.alloc (.cells #[.int .i64 ((pw : Int) + (qw : Int)), .slice A9 km.length c9] 75)).drew) w2.heap.size ⟨pw + qw, A9, c9, km⟩ := PlOk.below (OwnO.gout (OwnO.lowT HRK.out (by omega)) hgl.2 HGR2.out) hba
                    have a0 := hbkA.cell0
                    have a1 := hbkA.cell1
                    refine sched_back (by rw [HF1.out]; exact ⟨a0, a1⟩) ?_
                    repeat (first | (refine wpSched_free rfl ?_; intro K hK; go_big_quiet_op; go_big_quiet_on) | (refine wpSched_wantS _ rfl rfl rfl ?_; intro K hK; go_big_quiet_op; go_big_quiet_on) | (refine wpSched_skipS _ rfl rfl rfl rfl ?_; simp only [Act.put, List.setIfInBounds_toArray, List.set_cons_zero, List.set_cons_succ]) | (refine wpSched_skipU _ rfl rfl rfl ?_; simp only [Act.put, List.setIfInBounds_toArray, List.set_cons_zero, List.set_cons_succ]))
                    refine wpSched_other ?_
                    go_wp2_with (at_builtin; go_must (refine wpList_appO rfl _ _ _ rfl w2.heap.size 75 j0 _ 2 32 Tryd.underlying73 hj0 hy0 hy1 hy2 rfl (by omega) vc (l.length - 2) (pmCells r) rfl hcbA ⟨wr.heap.size, 0, none⟩ 1 1 [.int .i64 ((pw : Int) + (qw : Int)), .slice A9 km.length c9] rfl rfl hnewc (by simp [Value.oneCell']) (by omega) (by omega) hszA ?_); intro v8 w8 hO8 hg8 hb8 _ha8)
                    obtain ⟨A8, c8, rfl, _, _, _⟩ := hO8.form
                    have hbk8 := hbkA.grown hg8 (by rw [HVB.out]; intro e; injection e with e; omega)
                    have r0 := hbk8.cell0
                    have r1 := hbk8.cell1
                    refine sched_back (by rw [HF1.out]; exact ⟨r0, r1⟩) ?_
                    repeat (first | (refine wpSched_free rfl ?_; intro K hK; go_big_quiet_op; go_big_quiet_on) | (refine wpSched_wantS _ rfl rfl rfl ?_; intro K hK; go_big_quiet_op; go_big_quiet_on) | (refine wpSched_skipS _ rfl rfl rfl rfl ?_; simp only [Act.put, List.setIfInBounds_toArray, List.set_cons_zero, List.set_cons_succ]) | (refine wpSched_skipU _ rfl rfl rfl ?_; simp only [Act.put, List.setIfInBounds_toArray, List.set_cons_zero, List.set_cons_succ]))
                    refine wpSched_nil ?_
                    have hl8 : l.length - 2 + 1 = (r ++ [(⟨pw + qw, A9, c9, km⟩ : Pm)]).length := by
                      rw [List.length_append, List.length_singleton]
                      simp only [List.length_cons] at hlen5
                      omega
                    have hrow8 : OwnO w8 w2.heap.size 75 2 (.slice A8 (r ++ [(⟨pw + qw, A9, c9, km⟩ : Pm)]).length c8) (r ++ [(⟨pw + qw, A9, c9, km⟩ : Pm)]).length (pmCells (r ++ [⟨pw + qw, A9, c9, km⟩])) := by
                      rw [pmCells_append, ← hl8]; exact hO8
                    rw [hl8]
                    have hkeep : ∀ y : Pm, PlOk _ w2.heap.size y → PlOk w8 w2.heap.size y := fun y hy => OwnO.kept hy hg8 (own_ne_two hy hcbA (by decide))
                    have hout8 := horA.kept hg8 (by rw [HVB.out]; intro e; injection e with e; omega)
                    have hbel8 := hbelA.trans (hb8.mono hb2.size)
                    have hs8 := Nat.le_trans hszA hb8.size
                    have HLA : Hid (LnAt ws (lensOf ws) ((r ++ [(⟨pw + qw, A9, c9, km⟩ : Pm)]).map Pm.pile) (bump out km)) := by
                      rw [Hid, List.map_append, HKM.out]; exact HSTEP.out.1
                    have HIN : Hid (∀ y ∈ r ++ [(⟨pw + qw, A9, c9, km⟩ : Pm)], PlOk w8 w2.heap.size y) := fun y hy => by
                      rcases List.mem_append.1 hy with hy | hy
                      · exact hkeep y (hplA y (hmem5 y (List.mem_cons_of_mem _ (List.mem_cons_of_mem _ hy))))
                      · rw [List.mem_singleton.1 hy]; exact hkeep _ hrkA
                    have hlr : (r ++ [(⟨pw + qw, A9, c9, km⟩ : Pm)]).length < l.length := by omega
                    generalize r ++ [(⟨pw + qw, A9, c9, km⟩ : Pm)] = ln at *
                    have HR8 := Lib.hid hrow8
                    have HU8 := Lib.hid hout8
                    clear hrow8 hout8 hl8 hkeep hcbA hbkA hplA horA hbelA hszA hrkA a0 a1 r0 r1 hbk8 hg8 hO8 hb8 hq0 hq1 hcut2
                    go_wp2_with fail
                    go_roundw
                    case rel => exact ⟨ln, A8, c8, _, rfl, HLA.out, by omega, ⟨HR8.out, HIN.out⟩, HU8.out, hbel8, hs8⟩
                    case measure => exact hlr
            · go_wp2_with fail
              have hbn1 : Below w5.heap.size w5 ((w5.alloc (.cells #[.int .i64 0, .slice none 0 0] 75)).drew) := Below.drew ((Below.refl _ _).alloc (Nat.le_refl _) _)
              have hb6 : Blk ((w5.alloc (.cells #[.int .i64 0, .slice none 0 0] 75)).drew) w5.heap.size 75 #[.int .i64 0, .slice none 0 0] := (Blk.new_ w5 75 _).drew
              generalize ((w5.alloc (.cells #[.int .i64 0, .slice none 0 0] 75)).drew) = w6 at *
              refine sched_back (by rw [HF1.out]; exact HC4.out _ hbn1) ?_
              repeat (first | (refine wpT_free rfl ?_; intro K hK; go_big_quiet_op; go_big_quiet_on) | (refine wpT_wantS _ rfl rfl rfl ?_; intro K hK; go_big_quiet_op; go_big_quiet_on) | (refine wpT_skipS _ rfl rfl rfl rfl ?_; simp only [Act.put, List.setIfInBounds_toArray, List.set_cons_zero, List.set_cons_succ]) | (refine wpT_skipU _ rfl rfl rfl ?_; simp only [Act.put, List.setIfInBounds_toArray, List.set_cons_zero, List.set_cons_succ]))
              refine wpT_other ?_
              go_wp2_with fail
              have hk7 : Blk (w6.alloc (.cells #[.slice pA pm.length pc, .slice qA qm.length qc] 25)) w6.heap.size 25 #[.slice pA pm.length pc, .slice qA qm.length qc] := Blk.new_ w6 25 _
              have hbox := hb6.alloc (.cells #[.slice pA pm.length pc, .slice qA qm.length qc] 25)
              have hbn7 := hbn1.alloc hbn1.size (.cells #[.slice pA pm.length pc, .slice qA qm.length qc] 25)
              have hnb : w5.heap.size ≤ w5.heap.size := Nat.le_refl _
              refine sched_back (by rw [HF1.out]; exact HC4.out _ hbn7) ?_
              clear hb6 hbn1
              generalize (w6.alloc (.cells #[.slice pA pm.length pc, .slice qA qm.length qc] 25)) = w7 at *
              generalize w6.heap.size = gb at *
              repeat (first | (refine wpT_free rfl ?_; intro K hK; go_big_quiet_op; go_big_quiet_on) | (refine wpT_wantS _ rfl rfl rfl ?_; intro K hK; go_big_quiet_op; go_big_quiet_on) | (refine wpT_skipS _ rfl rfl rfl rfl ?_; simp only [Act.put, List.setIfInBounds_toArray, List.set_cons_zero, List.set_cons_succ]) | (refine wpT_skipU _ rfl rfl rfl ?_; simp only [Act.put, List.setIfInBounds_toArray, List.set_cons_zero, List.set_cons_succ]))
              refine wpT_other ?_
              go_wp2_with fail
              refine (concatInt_any (intN pm) (intN qm) pA pm.length pc qA qm.length qc w5.heap.size gb w7 (H1.out.below hbn7) (H2.out.below hbn7) hbn7.size hk7.lt hk7.cell0 hk7.cell1 (by omega) (by omega)).mono ?_
              rintro e w8 ⟨v, rfl, hown8, hb8⟩
              obtain ⟨km, hkm⟩ : ∃ km, km = pm ++ qm := ⟨_, rfl⟩
              have ekm : intN pm ++ intN qm = intN km := by rw [hkm]; unfold intN; rw [List.map_append]
              rw [ekm, intN_len] at hown8
              have hkl : km.length ≤ 12 := by rw [hkm, List.length_append]; omega
              have HKM := Lib.hid hkm
              clear hkm ekm
              obtain ⟨A9, c9, rfl, hn9, hm9, _⟩ := own_form hown8
              have hbn8 := bthen hbn7 hb8
              have hbx8 := hbox.below' hb8
              have hnb8 : w5.heap.size < w7.heap.size := hbox.lt
              go_wp2_with fail
              refine sched_back (by rw [HF1.out]; exact HC4.out _ hbn8) ?_
              repeat (first | (refine wpT_free rfl ?_; intro K hK; go_big_quiet_op; go_big_quiet_on) | (refine wpT_wantS _ rfl rfl rfl ?_; intro K hK; go_big_quiet_op; go_big_quiet_on) | (refine wpT_skipS _ rfl rfl rfl rfl ?_; simp only [Act.put, List.setIfInBounds_toArray, List.set_cons_zero, List.set_cons_succ]) | (refine wpT_skipU _ rfl rfl rfl ?_; simp only [Act.put, List.setIfInBounds_toArray, List.set_cons_zero, List.set_cons_succ]))
              refine wpT_nil ?_
              refine wpTail_cons ?_
              have x0 := hbx8.cell0
              have x1 := hbx8.cell1
              have y0 := hbx8.frozen 0
              have y1 := hbx8.frozen 1
              have hbk : Blk ((w8.setCell ⟨w5.heap.size, 0, none⟩ (.int .i64 ((pw : Int) + (qw : Int)))).setCell ⟨w5.heap.size, 1, none⟩ (.slice A9 km.length c9)) w5.heap.size 75 #[.int .i64 ((pw : Int) + (qw : Int)), .slice A9 km.length c9] := (hbx8.set_ 0 _).set_ 1 _
              have hbz : Below w5.heap.size w5 ((w8.setCell ⟨w5.heap.size, 0, none⟩ (.int .i64 ((pw : Int) + (qw : Int)))).setCell ⟨w5.heap.size, 1, none⟩ (.slice A9 km.length c9)) := (hbn8.setCell (p := ⟨w5.heap.size, 0, none⟩) hnb _).setCell (p := ⟨w5.heap.size, 1, none⟩) hnb _
              have hrk : OwnO ((w8.setCell ⟨w5.heap.size, 0, none⟩ (.int .i64 ((pw : Int) + (qw : Int)))).setCell ⟨w5.heap.size, 1, none⟩ (.slice A9 km.length c9)) w5.heap.size 3 1 (.slice A9 km.length c9) km.length (ints (intN km)) := OwnO.lowT (OwnO.gout (OwnO.of_own hown8) hnb8 (gb_set (gb_set (gb_refl _ _) 0 _) 1 _)) hbn7.size
              have HZS := Lib.hid (And.intro hbk (And.intro hbz hrk))
              clear hown8 hb8 hn9 hm9 hbk hbz hrk hk7 hbox hbx8
              obtain ⟨wz, hwz⟩ : ∃ wz, wz = ((w8.setCell ⟨w5.heap.size, 0, none⟩ (.int .i64 ((pw : Int) + (qw : Int)))).setCell ⟨w5.heap.size, 1, none⟩ (.slice A9 km.length c9)) := ⟨_, rfl⟩
              rw [← hwz] at HZS
              have HWZ := Lib.hid hwz
              clear hwz
              go_wp2_with fail
              refine tail_back ?_
              refine wpTail_nil ?_
              rw [← HWZ.out]
              clear HWZ x0 x1 y0 y1 hbn8 hbn7 hnb8
              obtain ⟨hbk, hbz, hrk⟩ := HZS.out
              clear HZS
              have hx0 := hbk.cell0
              have hx1 := hbk.cell1
              have hko : some g ≠ (some w5.heap.size : Option Nat) := by intro e; injection e with e; omega
              have houtz := hout5.below hbz
              have HKO := Lib.hid hko
              have HBK := Lib.hid hbk
              have HRK := Lib.hid hrk
              have HBZ := Lib.hid hbz
              have HOZ := Lib.hid houtz
              clear hko hbk hrk hbz houtz
              go_wp2_with fail
              go_loopw [68] (fun kv wq => ∃ k : Nat, kv = .int .i64 (k : Int) ∧ k ≤ km.length ∧ wz.grownBy wq (some g) ∧ ArrI wq g g m (intN (bump out (km.take k)))) (fun kv _ => km.length - (intOf kv).toNat)
              case atStart => exact ⟨0, rfl, Nat.zero_le _, gb_refl _ _, HOZ.out⟩
              case round =>
                obtain ⟨k, rfl, hk, hgr, hor⟩ := hrel
                have hrkr : OwnO _ w5.heap.size 3 1 (.slice A9 km.length c9) km.length (ints (intN km)) := HRK.out.gout (by omega) hgr
                by_cases hlt : k < km.length
                · have g4 : decide ((k : Int) < (km.length : Int)) = true := decide_eq_true (by omega)
                  have g4' : decide (k < km.length) = true := decide_eq_true hlt
                  obtain ⟨Ar, cr, hvr, _, _, hrr⟩ := hrkr.form
                  cases hvr
                  obtain ⟨ak, rfl, c0⟩ := intAt hrr hlt
                  rw [intN_get0] at c0
                  have hjm : km.getD k 0 < m := by
                    rw [← HWL.out]
                    refine HSTEP.out.2.1 _ ?_
                    show km.getD k 0 ∈ pm ++ qm
                    rw [← HKM.out, List.getD_eq_getElem?_getD, List.getElem?_eq_getElem hlt]
                    exact List.getElem_mem hlt
                  have HBS : Hid (bump out (km.take (k + 1)) = (bump out (km.take k)).set (km.getD k 0) ((bump out (km.take k)).getD (km.getD k 0) 0 + 1)) := by
                    rw [Hid, take_snocD hlt, bump_snoc]
                  have hle : (bump out (km.take k)).getD (km.getD k 0) 0 ≤ 24 := by
                    have h1 := bump_le (km.take k) out (km.getD k 0)
                    have h2 := HSM.out (km.getD k 0)
                    rw [List.length_take] at h1
                    omega
                  generalize km.getD k 0 = j at *
                  have cj := hor.at_ hjm
                  have ff := hor.free j
                  rw [intN_get0] at cj
                  have hset := hor.set_ j ((((bump out (km.take k)).getD j 0 + 1 : Nat)) : Int)
                  rw [intN_set, ← HBS.out] at hset
                  have HSET := Lib.hid hset
                  have HGR := Lib.hid hgr
                  clear hset HBS hrr hrkr hor hgr
                  generalize (bump out (km.take k)).getD j 0 = z at *
                  go_wp2_with fail
                  go_roundw
                  case rel => exact ⟨k + 1, by go_num, by omega, gb_set HGR.out j _, by first | exact HSET.out | (have := HSET.out; push_cast at this; exact this)⟩
                  case measure => simp [intOf]; omega
                · have g4 : decide ((k : Int) < (km.length : Int)) = false := decide_eq_false (by omega)
                  have g4' : decide (k < km.length) = false := decide_eq_false hlt
                  have hke : k = km.length := by omega
                  subst hke
                  rw [List.take_length] at hor
                  have hbkr := HBK.out.grown hgr (Ne.symm HKO.out)
                  have hrowr : OwnO _ w2.heap.size 75 2 (.slice (some ad) l.length cl) l.length (pmCells (⟨pw, pA, pc, pm⟩ :: ⟨qw, qA, qc, qm⟩ :: r)) := OwnO.gout (OwnO.below hrow5 HBZ.out) hgl.2 hgr
                  have hplr : ∀ x : Pm, PlOk w5 w2.heap.size x → PlOk _ w2.heap.size x := fun x hx => OwnO.gout (hx.below HBZ.out) hgl.2 hgr
                  have hcb := hrowr.behind (some ad) cl 2 rfl h2 (by simp)
                  rw [pmCells_drop] at hcb
                  have hcut : ∀ W, (Instr.sliceAt 73 (.slice (some ad) l.length cl) (some (.int .i64 2)) none none).run Tryd.prog W = .ok (.slice (if cl = 2 then some ad else (some ad).map (·.add (2 * 2))) (l.length - 2) (cl - 2)) W := fun W => run_behindT Tryd.underlying73 (by kernel_rfl) (some ad) l.length cl 2 h2 W
                  have hvb := own_cutB (ad := ad) (n := l.length - 2) (c := cl) (k := 2) (z := 2 * 2)
                  obtain ⟨vc, hvc⟩ : ∃ vc, vc = Value.slice (if cl = 2 then some ad else (some ad).map (·.add (2 * 2))) (l.length - 2) (cl - 2) := ⟨_, rfl⟩
                  rw [← hvc] at hcb hvb
                  have hcut2 : ∀ W, (Instr.sliceAt 73 (.slice (some ad) l.length cl) (some (.int .i64 2)) none none).run Tryd.prog W = .ok vc W := fun W => by rw [hvc]; exact hcut W
                  have hbelr : Below w.heap.size w wr := below_gb (hb5.trans (HBZ.out.mono hb5.size)) hgr (by rw [HG.out]; exact Nat.le_refl _) (Nat.le_trans hb5.size HBZ.out.size)
                  have hsr := hgr.size
                  have hsz := HBZ.out.size
                  have hq0 := hbkr.cell0
                  have hq1 := hbkr.cell1
                  have hpos : pw + qw ≤ 2000000 := by omega
                  have HGR2 := Lib.hid hgr
                  have HCB := Lib.hid hcb
                  have HVB := Lib.hid hvb
                  have HOR := Lib.hid hor
                  have HBR := Lib.hid hbkr
                  have HPR := Lib.hid hplr
                  have HBEL := Lib.hid hbelr
                  clear hcb hvb hor hbkr hplr hbelr hcut hvc hrkr hrowr hgr
                  go_wp2_with fail
                  obtain ⟨F1, hFd⟩ : ∃ F : World → Prop, F = fun w' => w'.cell? ⟨w5.heap.size, 0, none⟩ = some (.int .i64 ((pw : Int) + (qw : Int))) ∧ w'.cell? ⟨w5.heap.size, 1, none⟩ = some (.slice A9 km.length c9) := ⟨_, rfl⟩
                  have HF1 := Lib.hid hFd
                  clear hFd
                  have hcell10 : ∀ p' : Wof F1, p'.w.cell? ⟨w5.heap.size, 0, none⟩ = some (.int .i64 ((pw : Int) + (qw : Int))) := fun ⟨x, hx⟩ => by rw [HF1.out] at hx; exact hx.1
                  have hcell11 : ∀ p' : Wof F1, p'.w.cell? ⟨w5.heap.size, 1, none⟩ = some (.slice A9 km.length c9) := fun ⟨x, hx⟩ => by rw [HF1.out] at hx; exact hx.2
                  refine wp_region_schedF [(0, true), (1, true), (2, true), (3, false), (4, false), (5, true)] F1 (by kernel_rfl) (by kernel_rfl) rfl (fun _ _ _ _ _ h => h) (by kernel_rfl) (by rw [HF1.out]; first | trivial | (repeat' apply And.intro) <;> assumption | (simp; done) | (simp [*]; done)) (by rw [HF1.out]; exact fun h => h) ?_
                  intro hne1
                  simp only [opersOf, List.getElem?_toArray, List.getElem?_cons_succ, List.getElem?_cons_zero]
                  repeat (first | (refine wpSched_free rfl ?_; intro K hK; go_big_quiet_op; go_big_quiet_on) | (refine wpSched_wantS _ rfl rfl rfl ?_; intro K hK; go_big_quiet_op; go_big_quiet_on) | (refine wpSched_skipS _ rfl rfl rfl rfl ?_; simp only [Act.put, List.setIfInBounds_toArray, List.set_cons_zero, List.set_cons_succ]) | (refine wpSched_skipU _ rfl rfl rfl ?_; simp only [Act.put, List.setIfInBounds_toArray, List.set_cons_zero, List.set_cons_succ]))
                  refine wpSched_other ?_
                  go_wp2_with fail
                  have hba : Below wr.heap.size wr ((wr.alloc (.cells #[.int .i64 ((pw : Int) + (qw : Int)), .slice A9 km.length c9] 75)).drew) := Below.drew ((Below.refl _ _).alloc (Nat.le_refl _) _)
                  have hnewc : ∀ j u, ([.int .i64 ((pw : Int) + (qw : Int)), .slice A9 km.length c9] : List Value)[j]? = some u → ((wr.alloc (.cells #[.int .i64 ((pw : Int) + (qw : Int)), .slice A9 km.length c9] 75)).drew).cell? (Addr.add ⟨wr.heap.size, 0, none⟩ j) = some u := cells_new2 wr _ _ _
                  have hcbA := OwnO.below HCB.out hba
                  have hbkA := HBR.out.below' hba
                  have hplA : ∀ x : Pm, PlOk w5 w2.heap.size x → PlOk _ w2.heap.size x := fun x hx => (HPR.out x hx).below hba
                  have horA := HOR.out.below hba
                  have hbelA := HBEL.out.trans (hba.mono (Nat.le_trans hb5.size (Nat.le_trans HBZ.out.size hsr)))
                  have hszA : w2.heap.size ≤ ((wr.alloc (.cells #[.int .i64 ((pw : Int) + (qw : Int)), .slice A9 km.length c9] 75)).drew).heap.size := Nat.le_trans (by omega) hba.size
                  have hrkA : PlOk ((wr.alloc (.cells #[.int .i64 ((pw : Int) + (qw : Int)), .slice A9 km.length c9] 75)).drew) w2.heap.size ⟨pw + qw, A9, c9, km⟩ := PlOk.below (OwnO.gout (OwnO.lowT HRK.out (by omega)) hgl.2 HGR2.out) hba
                  have a0 := hbkA.cell0
                  have a1 := hbkA.cell1
                  refine sched_back (by rw [HF1.out]; exact ⟨a0, a1⟩) ?_
                  repeat (first | (refine wpSched_free rfl ?_; intro K hK; go_big_quiet_op; go_big_quiet_on) | (refine wpSched_wantS _ rfl rfl rfl ?_; intro K hK; go_big_quiet_op; go_big_quiet_on) | (refine wpSched_skipS _ rfl rfl rfl rfl ?_; simp only [Act.put, List.setIfInBounds_toArray, List.set_cons_zero, List.set_cons_succ]) | (refine wpSched_skipU _ rfl rfl rfl ?_; simp only [Act.put, List.setIfInBounds_toArray, List.set_cons_zero, List.set_cons_succ]))
                  refine wpSched_other ?_
                  go_wp2_with (at_builtin; go_must (refine wpList_appO rfl _ _ _ rfl w2.heap.size 75 j0 _ 2 32 Tryd.underlying73 hj0 hy0 hy1 hy2 rfl (by omega) vc (l.length - 2) (pmCells r) rfl hcbA ⟨wr.heap.size, 0, none⟩ 1 1 [.int .i64 ((pw : Int) + (qw : Int)), .slice A9 km.length c9] rfl rfl hnewc (by simp [Value.oneCell']) (by omega) (by omega) hszA ?_); intro v8 w8 hO8 hg8 hb8 _ha8)
                  obtain ⟨A8, c8, rfl, _, _, _⟩ := hO8.form
                  have hbk8 := hbkA.grown hg8 (by rw [HVB.out]; intro e; injection e with e; omega)
                  have r0 := hbk8.cell0
                  have r1 := hbk8.cell1
                  refine sched_back (by rw [HF1.out]; exact ⟨r0, r1⟩) ?_
                  repeat (first | (refine wpSched_free rfl ?_; intro K hK; go_big_quiet_op; go_big_quiet_on) | (refine wpSched_wantS _ rfl rfl rfl ?_; intro K hK; go_big_quiet_op; go_big_quiet_on) | (refine wpSched_skipS _ rfl rfl rfl rfl ?_; simp only [Act.put, List.setIfInBounds_toArray, List.set_cons_zero, List.set_cons_succ]) | (refine wpSched_skipU _ rfl rfl rfl ?_; simp only [Act.put, List.setIfInBounds_toArray, List.set_cons_zero, List.set_cons_succ]))
                  refine wpSched_nil ?_
                  have hl8 : l.length - 2 + 1 = (r ++ [(⟨pw + qw, A9, c9, km⟩ : Pm)]).length := by
                    rw [List.length_append, List.length_singleton]
                    simp only [List.length_cons] at hlen5
                    omega
                  have hrow8 : OwnO w8 w2.heap.size 75 2 (.slice A8 (r ++ [(⟨pw + qw, A9, c9, km⟩ : Pm)]).length c8) (r ++ [(⟨pw + qw, A9, c9, km⟩ : Pm)]).length (pmCells (r ++ [⟨pw + qw, A9, c9, km⟩])) := by
                    rw [pmCells_append, ← hl8]; exact hO8
                  rw [hl8]
                  have hkeep : ∀ y : Pm, PlOk _ w2.heap.size y → PlOk w8 w2.heap.size y := fun y hy => OwnO.kept hy hg8 (own_ne_two hy hcbA (by decide))
                  have hout8 := horA.kept hg8 (by rw [HVB.out]; intro e; injection e with e; omega)
                  have hbel8 := hbelA.trans (hb8.mono hb2.size)
                  have hs8 := Nat.le_trans hszA hb8.size
                  have HLA : Hid (LnAt ws (lensOf ws) ((r ++ [(⟨pw + qw, A9, c9, km⟩ : Pm)]).map Pm.pile) (bump out km)) := by
                    rw [Hid, List.map_append, HKM.out]; exact HSTEP.out.1
                  have HIN : Hid (∀ y ∈ r ++ [(⟨pw + qw, A9, c9, km⟩ : Pm)], PlOk w8 w2.heap.size y) := fun y hy => by
                    rcases List.mem_append.1 hy with hy | hy
                    · exact hkeep y (hplA y (hmem5 y (List.mem_cons_of_mem _ (List.mem_cons_of_mem _ hy))))
                    · rw [List.mem_singleton.1 hy]; exact hkeep _ hrkA
                  have hlr : (r ++ [(⟨pw + qw, A9, c9, km⟩ : Pm)]).length < l.length := by omega
                  generalize r ++ [(⟨pw + qw, A9, c9, km⟩ : Pm)] = ln at *
                  have HR8 := Lib.hid hrow8
                  have HU8 := Lib.hid hout8
                  clear hrow8 hout8 hl8 hkeep hcbA hbkA hplA horA hbelA hszA hrkA a0 a1 r0 r1 hbk8 hg8 hO8 hb8 hq0 hq1 hcut2
                  go_wp2_with fail
                  go_roundw
                  case rel => exact ⟨ln, A8, c8, _, rfl, HLA.out, by omega, ⟨HR8.out, HIN.out⟩, HU8.out, hbel8, hs8⟩
                  case measure => exact hlr
          · have g3 : decide ((1 : Int) < (l.length : Int)) = false := decide_eq_false (by omega)
            have g3' : decide (1 < l.length) = false := decide_eq_false (by omega)
            have HV : Hid (out = lensOf ws) := HLS.out.end_ (by rw [List.length_map]; omega)
            have HO := Lib.hid hout
            clear hln hout
            go_wp2_with fail
            go_ret2
            rw [← HV.out]
            exact ⟨_, rfl, by rw [HG.out]; exact HO.out, hbW⟩
end Go.Proofs.YtncakjchaniheaaDoor
