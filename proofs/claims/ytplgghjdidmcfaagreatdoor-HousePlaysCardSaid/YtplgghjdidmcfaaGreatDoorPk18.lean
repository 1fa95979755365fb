/- How far two lists are from each other: from the front and from behind. No program in sight. The reference's FarOf. same.table: how much what is left of both has in common. -/
import Derived.Test.YtplgghjdidmcfaaGreatDoorPk01
import Derived.Test.YtplgghjdidmcfaaGreatDoorPk17
import Derived.BigRegion
namespace Go.Proofs.YtplgghjdidmcfaaGreatDoor
/-- How far two lists are from each other, from the front. -/
def lev : List UInt8 → List UInt8 → Nat
  | [], b => b.length
  | a, [] => a.length
  | x :: a, y :: b => if x = y then lev a b else 1 + min (lev a (y :: b)) (min (lev (x :: a) b) (lev a b))
termination_by a b => a.length + b.length
theorem lev_nil_left (b : List UInt8) : lev [] b = b.length := by rw [lev]
theorem lev_nil_right (a : List UInt8) : lev a [] = a.length := by cases a <;> simp [lev]
theorem lev_cons (x y : UInt8) (a b : List UInt8) : lev (x :: a) (y :: b) = if x = y then lev a b else 1 + min (lev a (y :: b)) (min (lev (x :: a) b) (lev a b)) := by rw [lev]
/-- A way to make the one of the other. -/
inductive Al : List UInt8 → List UInt8 → Nat → Prop
  | nil : Al [] [] 0
  | keep {a b n} (x) : Al a b n → Al (x :: a) (x :: b) n
  | sub {a b n} (x y) : Al a b n → Al (x :: a) (y :: b) (n + 1)
  | del {a b n} (x) : Al a b n → Al (x :: a) b (n + 1)
  | ins {a b n} (y) : Al a b n → Al a (y :: b) (n + 1)
theorem al_ins (b : List UInt8) : Al [] b b.length := by
  induction b with
  | nil => exact .nil
  | cons y b ih => exact .ins y ih
theorem al_del (a : List UInt8) : Al a [] a.length := by
  induction a with
  | nil => exact .nil
  | cons y b ih => exact .del y ih
theorem al_lev : ∀ (n : Nat) (a b : List UInt8), a.length + b.length ≤ n → Al a b (lev a b) := by
  intro n
  induction n with
  | zero =>
    intro a b h
    cases a with
    | nil => cases b with
      | nil => rw [lev_nil_left]; exact .nil
      | cons => simp only [List.length_cons] at h; omega
    | cons => simp only [List.length_cons] at h; omega
  | succ n ih =>
    intro a b h
    cases a with
    | nil => rw [lev_nil_left]; exact al_ins b
    | cons x a =>
      cases b with
      | nil => rw [lev_nil_right]; exact al_del _
      | cons y b =>
        simp only [List.length_cons] at h
        have h1 := ih a b (by omega)
        have h2 := ih a (y :: b) (by simp only [List.length_cons]; omega)
        have h3 := ih (x :: a) b (by simp only [List.length_cons]; omega)
        rw [lev_cons]
        split
        · rename_i e; subst e; exact .keep _ h1
        · rcases Nat.le_total (lev a (y :: b)) (min (lev (x :: a) b) (lev a b)) with e | e
          · rw [Nat.min_eq_left e, Nat.add_comm]; exact .del _ h2
          · rw [Nat.min_eq_right e]
            rcases Nat.le_total (lev (x :: a) b) (lev a b) with e | e
            · rw [Nat.min_eq_left e, Nat.add_comm]; exact .ins _ h3
            · rw [Nat.min_eq_right e, Nat.add_comm]; exact .sub _ _ h1
theorem lev_tail_left : ∀ (n : Nat) (a b : List UInt8) (x : UInt8), a.length + b.length ≤ n → lev a b ≤ lev (x :: a) b + 1 ∧ lev b a ≤ lev b (x :: a) + 1 := by
  intro n
  induction n with
  | zero =>
    intro a b x h
    cases a with
    | nil => cases b with
      | nil => simp [lev_nil_left, lev_nil_right]
      | cons => simp only [List.length_cons] at h; omega
    | cons => simp only [List.length_cons] at h; omega
  | succ n ih =>
    intro a b x h
    cases b with
    | nil => simp [lev_nil_left, lev_nil_right]; omega
    | cons y b =>
      simp only [List.length_cons] at h
      have h0 := ih a b x (by omega)
      cases a with
      | nil =>
        rw [lev_nil_left, lev_nil_right, lev_cons, lev_cons]
        simp only [List.length_cons, lev_nil_left, lev_nil_right]
        have h1 := ih [] b x (by simp; omega)
        simp only [lev_nil_left, lev_nil_right] at h1
        constructor <;> split <;> omega
      | cons z a =>
        simp only [List.length_cons] at h
        have h1 := ih a b z (by omega)
        have h2 := ih (z :: a) b x (by simp only [List.length_cons]; omega)
        rw [lev_cons x y, lev_cons y x]
        rw [lev_cons z y, lev_cons y z]
        have h3 := ih a b y (by omega)
        have h4 := ih b a y (by omega)
        constructor
        · split
          · rename_i e; subst e
            split <;> omega
          · split <;> omega
        · split
          · rename_i e; subst e
            split <;> omega
          · split <;> omega
theorem lev_le {a b : List UInt8} {n : Nat} (h : Al a b n) : lev a b ≤ n := by
  induction h with
  | nil => simp [lev_nil_left]
  | keep x h ih => rw [lev_cons, if_pos rfl]; exact ih
  | @sub a b n x y h ih =>
    rw [lev_cons]; split <;> omega
  | @del a b n x h ih =>
    cases b with
    | nil => rw [lev_nil_right] at *; simp; omega
    | cons y b =>
      rw [lev_cons]
      split
      · have := (lev_tail_left _ b a y (Nat.le_refl _)).2; omega
      · omega
  | @ins a b n y h ih =>
    cases a with
    | nil => rw [lev_nil_left] at *; simp; omega
    | cons x a =>
      rw [lev_cons]
      split
      · have := (lev_tail_left _ a b x (Nat.le_refl _)).1; omega
      · omega
theorem Al.snoc {a b : List UInt8} {n : Nat} (h : Al a b n) : (∀ x, Al (a ++ [x]) (b ++ [x]) n) ∧ (∀ x y, Al (a ++ [x]) (b ++ [y]) (n + 1)) ∧ (∀ x, Al (a ++ [x]) b (n + 1)) ∧ (∀ y, Al a (b ++ [y]) (n + 1)) := by
  induction h with
  | nil => exact ⟨fun x => .keep x .nil, fun x y => .sub x y .nil, fun x => .del x .nil, fun y => .ins y .nil⟩
  | keep z h ih => exact ⟨fun x => .keep z (ih.1 x), fun x y => .keep z (ih.2.1 x y), fun x => .keep z (ih.2.2.1 x), fun y => .keep z (ih.2.2.2 y)⟩
  | sub u z h ih => exact ⟨fun x => .sub u z (ih.1 x), fun x y => .sub u z (ih.2.1 x y), fun x => .sub u z (ih.2.2.1 x), fun y => .sub u z (ih.2.2.2 y)⟩
  | del z h ih => exact ⟨fun x => .del z (ih.1 x), fun x y => .del z (ih.2.1 x y), fun x => .del z (ih.2.2.1 x), fun y => .del z (ih.2.2.2 y)⟩
  | ins z h ih => exact ⟨fun x => .ins z (ih.1 x), fun x y => .ins z (ih.2.1 x y), fun x => .ins z (ih.2.2.1 x), fun y => .ins z (ih.2.2.2 y)⟩
theorem Al.rev {a b : List UInt8} {n : Nat} (h : Al a b n) : Al a.reverse b.reverse n := by
  induction h with
  | nil => exact .nil
  | keep z h ih => simp only [List.reverse_cons]; exact ih.snoc.1 z
  | sub u z h ih => simp only [List.reverse_cons]; exact ih.snoc.2.1 u z
  | del z h ih => simp only [List.reverse_cons]; exact ih.snoc.2.2.1 z
  | ins z h ih => simp only [List.reverse_cons]; exact ih.snoc.2.2.2 z
theorem lev_rev (a b : List UInt8) : lev a.reverse b.reverse = lev a b := by
  have h1 := lev_le (al_lev _ a b (Nat.le_refl _)).rev
  have h2 := lev_le (al_lev _ a.reverse b.reverse (Nat.le_refl _)).rev
  rw [List.reverse_reverse, List.reverse_reverse] at h2
  omega
theorem lev_min (x y : UInt8) (a b : List UInt8) : lev (x :: a) (y :: b) = min (lev a b + if x = y then 0 else 1) (min (lev (x :: a) b + 1) (lev a (y :: b) + 1)) := by
  have h1 := (lev_tail_left _ a b x (Nat.le_refl _)).1
  have h2 := (lev_tail_left _ b a y (Nat.le_refl _)).2
  rw [lev_cons]
  split <;> omega
theorem lev_snoc (x y : UInt8) (a b : List UInt8) : lev (a ++ [x]) (b ++ [y]) = min (lev a b + if x = y then 0 else 1) (min (lev (a ++ [x]) b + 1) (lev a (b ++ [y]) + 1)) := by
  rw [← lev_rev (a ++ [x]) (b ++ [y]), ← lev_rev (a ++ [x]) b, ← lev_rev a (b ++ [y]), ← lev_rev a b]
  simp only [List.reverse_append, List.reverse_cons, List.reverse_nil, List.nil_append, List.singleton_append]
  exact lev_min x y _ _
theorem lev_len (a b : List UInt8) : lev a b ≤ a.length + b.length := by
  refine lev_le (n := a.length + b.length) ?_
  induction a with
  | nil => simpa using al_ins b
  | cons x a ih => rw [List.length_cons, show a.length + 1 + b.length = a.length + b.length + 1 by omega]; exact .del x ih
end Go.Proofs.YtplgghjdidmcfaaGreatDoor
namespace Go.Proofs.YtplgghjdidmcfaaGreatDoor
open Go.RowKit
theorem getD_setF (l : List Int) (k j : Nat) (v : Int) (h : k < l.length) : (l.set k v).getD j 0 = if j = k then v else l.getD j 0 := by
  rw [List.getD_eq_getElem?_getD, List.getD_eq_getElem?_getD, List.getElem?_set]
  by_cases hj : j = k
  · subst hj; simp [h]
  · have : ¬ k = j := fun e => hj e.symm
    simp [hj, this]
theorem drop_byte (s : ByteArray) (k : Nat) (h : k < s.size) : (L s).drop k = s[k] :: (L s).drop (k + 1) := by
  rw [List.drop_eq_getElem_cons (by rw [L_len]; exact h), getB s k h, List.getD_eq_getElem?_getD, List.getElem?_eq_getElem (by rw [L_len]; exact h)]; rfl
/-- Where the inner loop stands. -/
structure FarIn (s t : ByteArray) (w wr : World) (gT : Nat) (G : Nat → Nat) (i k : Nat) (R : Nat → List Int) : Prop where
  tab : Tab wr w.heap.size gT (s.size + 1) (t.size + 1) (fun j => i ≤ j ∧ j ≤ s.size) G R
  old : ∀ j, i + 1 ≤ j → j ≤ s.size → ∀ k, k ≤ t.size → (R j).getD k 0 = (lev ((L s).drop j) ((L t).drop k) : Nat)
  new : ∀ k', k ≤ k' → k' ≤ t.size → (R i).getD k' 0 = (lev ((L s).drop i) ((L t).drop k') : Nat)
theorem FarIn.step {s t : ByteArray} {w wr : World} {gT : Nat} {G : Nat → Nat} {i k : Nat} {R : Nat → List Int} (h : FarIn s t w wr gT G i (k + 1) R) (hi : i ≤ s.size) (hk : k ≤ t.size) {v : Int} (hv : v = (lev ((L s).drop i) ((L t).drop k) : Nat)) :
    FarIn s t w (wr.setCell ⟨G i, k, none⟩ (.int .i64 v)) gT G i k (fun j => if j = i then (R i).set k v else R j) := by
  have hl := (h.tab.row i ⟨Nat.le_refl _, hi⟩).len
  refine ⟨h.tab.set_ ⟨Nat.le_refl _, hi⟩ k v, fun j h1 h2 q hq => ?_, fun q h1 h2 => ?_⟩
  · simp only [show ¬ j = i by omega, if_false]; exact h.old j h1 h2 q hq
  · simp only [if_true]
    rw [getD_setF _ _ _ _ (by omega)]
    by_cases hq : q = k
    · subst hq; rw [if_pos rfl]; exact hv
    · rw [if_neg hq]; exact h.new q (by omega) h2
theorem FarIn.drewN {s t : ByteArray} {w wr : World} {gT : Nat} {G : Nat → Nat} {i k : Nat} {R : Nat → List Int} (h : FarIn s t w wr gT G i k R) (n : Nat) : FarIn s t w (wr.drewN n) gT G i k R :=
  ⟨h.tab.drewN n, h.old, h.new⟩
theorem lev_drop_left (s t : ByteArray) (k : Nat) (hk : k ≤ t.size) : ((t.size : Int) - (k : Int)) = (lev ((L s).drop s.size) ((L t).drop k) : Nat) := by
  rw [List.drop_of_length_le (by rw [L_len]; exact Nat.le_refl _), lev_nil_left, List.length_drop, L_len]; omega
theorem lev_drop_right (s t : ByteArray) (i : Nat) (hi : i ≤ s.size) : ((s.size : Int) - (i : Int)) = (lev ((L s).drop i) ((L t).drop t.size) : Nat) := by
  rw [List.drop_of_length_le (l := L t) (by rw [L_len]; exact Nat.le_refl _), lev_nil_right, List.length_drop, L_len]; omega
set_option maxRecDepth 100000 in
set_option maxHeartbeats 8000000 in
theorem farOf_any (s t : ByteArray) (hs : s.size ≤ 200) (ht : t.size ≤ 200) (w : World) :
    Calls Tryz.prog 159 #[.string s, .string t] w fun e w' => e = .returned (.int .i64 (lev (L s) (L t) : Nat)) ∧ Below w.heap.size w w' := by
  obtain ⟨i0, hi0, hz0, hz1, hz2⟩ := info_parts info_int
  obtain ⟨j0, hj0, jz0, jz1, jz2⟩ := info_parts info_row
  go_enter Tryz.func159, Tryz.ntmps159
  go_wp2_with (at_make; go_must (refine wpList_make_full _ rfl _ _ _ rfl w.heap.size 91 j0 _ 1 Tryz.underlying139 hj0 jz0 jz1 .i64 .i64 ((s.size : Int) + 1) ((s.size : Int) + 1) (s.size + 1) rfl rfl (by omega) (by omega) (by rw [jz2]; omega) (by unfold maxLen; omega) (Nat.le_refl _) ?_); intro w2 hown2 hg2)
  have hb2 : Below w.heap.size w w2 := (Below.refl _ _).grown hg2 (Nat.le_refl _) (fun _ h => by cases h)
  clear hg2
  go_loopw [6] (fun i wr => ∃ (i' : Nat) (G : Nat → Nat) (R : Nat → List Int), i' ≤ s.size + 1 ∧ i = .int .i64 ((i' : Int) - 1) ∧ Tab wr w.heap.size w.heap.size (s.size + 1) (t.size + 1) (fun j => i' ≤ j ∧ j ≤ s.size) G R ∧
      (∀ j, i' ≤ j → j ≤ s.size → ∀ k, k ≤ t.size → (R j).getD k 0 = (lev ((L s).drop j) ((L t).drop k) : Nat)) ∧ Below w.heap.size w wr) (fun i _ => (intOf i + 1).toNat)
  case atStart =>
    refine ⟨s.size + 1, fun _ => 0, fun _ => [], Nat.le_refl _, by go_num, ?_, fun j h1 h2 => by omega, hb2⟩
    have h0 := Tab.start hown2 (t.size + 1) (fun _ => 0) (fun _ => [])
    exact ⟨h0.top.imp fun xs h => ⟨h.1, fun i hi => by omega⟩, fun i hi => by omega, fun i hi => by omega, fun i j hi => by omega⟩
  case round =>
    obtain ⟨i, G, R, hi, rfl, hT, hR, hb⟩ := hrel
    obtain ⟨wo, hwo⟩ : ∃ wo : World, wo = wr := ⟨_, rfl⟩
    subst hwo
    have HT := Lib.hid hT
    have HRv := Lib.hid hR
    clear hR
    have hbs := hb.size
    have hgl := hT.gT_lt.2
    by_cases hi0' : 0 < i
    · obtain ⟨i, rfl⟩ : ∃ j, i = j + 1 := ⟨i - 1, by omega⟩
      have e0 : (((i + 1 : Nat) : Int) - 1) = (i : Int) := by omega
      rw [e0]
      obtain ⟨u0, cs0, cf0⟩ := hT.slot (i := i) (by omega)
      clear hT
      go_wp2_with (at_make; go_must (refine wpList_make_full _ rfl _ _ _ rfl w.heap.size 3 i0 _ 1 Tryz.underlying91 hi0 hz0 hz1 .i64 .i64 ((t.size : Int) + 1) ((t.size : Int) + 1) (t.size + 1) rfl rfl (by omega) (by omega) (by rw [hz2]; omega) (by unfold maxLen; omega) hbs ?_); intro w3 hown3 hg3; have hcs3 := (hg3.cell cs0 (by simp)); have hcf3 := (hg3.frozen_far ⟨w.heap.size, i, none⟩ hgl (by simp)).trans cf0)
      have hb3 : Below wo.heap.size wo w3 := (Below.refl _ _).grown hg3 (Nat.le_refl _) (fun _ h => by cases h)
      have hrow3 : ArrI w3 w.heap.size wo.heap.size (t.size + 1) (List.replicate (t.size + 1) 0) := by
        rw [made_ints] at hown3; exact hown3
      have HF0 : Hid (FarIn s t w (w3.setCell ⟨w.heap.size, i, none⟩ (.slice (some ⟨wo.heap.size, 0, none⟩) (t.size + 1) (t.size + 1))) w.heap.size (fun j => if j = i then wo.heap.size else G j) i (t.size + 1) (fun j => if j = i then List.replicate (t.size + 1) 0 else R j)) := by
        refine ⟨((HT.out.below hb3).add (i := i) (fun h => by omega) (by omega) hrow3 (fun j hj => by have := (HT.out.row j hj).lt.2; omega)).congr (fun j => by omega), fun j h1 h2 q hq => ?_, fun q h1 h2 => by omega⟩
        simp only [show ¬ j = i by omega, if_false]; exact HRv.out j h1 h2 q hq
      have hB4 : Below w.heap.size w (w3.setCell ⟨w.heap.size, i, none⟩ (.slice (some ⟨wo.heap.size, 0, none⟩) (t.size + 1) (t.size + 1))) := Below.setCell (bthen hb hb3) (Nat.le_refl _) _
      clear hown3 hrow3 hg3 hb3 hcs3 hcf3 cs0 cf0
      generalize (fun j => if j = i then wo.heap.size else G j) = G' at *
      generalize (fun j => if j = i then List.replicate (t.size + 1) 0 else R j) = R0 at *
      generalize (w3.setCell ⟨w.heap.size, i, none⟩ (.slice (some ⟨wo.heap.size, 0, none⟩) (t.size + 1) (t.size + 1))) = w4 at *
      go_loopw [7] (fun k wr => ∃ (k' : Nat) (R' : Nat → List Int), k' ≤ t.size + 1 ∧ k = .int .i64 ((k' : Int) - 1) ∧ FarIn s t w wr w.heap.size G' i k' R' ∧ Below w.heap.size w wr) (fun k _ => (intOf k + 1).toNat)
      case atStart => exact ⟨t.size + 1, R0, Nat.le_refl _, by go_num, HF0.out, hB4⟩
      case round =>
        clear HF0 hB4 hb hbs hgl
        obtain ⟨k, R', hk, rfl, hF, hb⟩ := hrel
        have HF := Lib.hid hF
        have hbs := hb.size
        by_cases hk0 : 0 < k
        · obtain ⟨k, rfl⟩ : ∃ j, k = j + 1 := ⟨k - 1, by omega⟩
          have e1 : (((k + 1 : Nat) : Int) - 1) = (k : Int) := by omega
          rw [e1]
          have pI := hF.tab.ptr (i := i) ⟨Nat.le_refl _, by omega⟩
          have rI := (hF.tab.row i ⟨Nat.le_refl _, by omega⟩).at_ (k := k) (by omega)
          have fI := (hF.tab.row i ⟨Nat.le_refl _, by omega⟩).free k
          have gI := (hF.tab.row i ⟨Nat.le_refl _, by omega⟩).lt
          obtain ⟨gI0, gI1⟩ := gI
          have HS : Hid (∀ v : Int, v = (lev ((L s).drop i) ((L t).drop k) : Nat) → FarIn s t w (wr.setCell ⟨G' i, k, none⟩ (.int .i64 v)) w.heap.size G' i k (fun j => if j = i then (R' i).set k v else R' j)) := fun v hv => HF.out.step (by omega) (by omega) hv
          have HD : Hid (∀ (n : Nat) (v : Int), v = (lev ((L s).drop i) ((L t).drop k) : Nat) → FarIn s t w ((wr.drewN n).setCell ⟨G' i, k, none⟩ (.int .i64 v)) w.heap.size G' i k (fun j => if j = i then (R' i).set k v else R' j)) := fun n v hv => (HF.out.drewN n).step (by omega) (by omega) hv
          generalize (R' i).getD k 0 = old at *
          by_cases his : i = s.size
          · have HV := Lib.hid (lev_drop_left s t k (by omega))
            have g1 : ((i : Int) == (s.size : Int)) = true := by rw [his]; simp
            have HIS := Lib.hid his
            clear his hF
            go_wp2_with fail
            go_roundw
            case rel => exact ⟨k, _, by omega, by go_num, HS.out _ (by rw [HV.out, HIS.out]), Below.setCell hb gI0 _⟩
            case measure => simp [intOf]
          · have g1 : ((i : Int) == (s.size : Int)) = false := by rw [beq_eq_false_iff_ne]; omega
            have hil : i < s.size := by omega
            by_cases hkt : k = t.size
            · have HV := Lib.hid (lev_drop_right s t i (by omega))
              have g2 : ((k : Int) == (t.size : Int)) = true := by rw [hkt]; simp
              have HKT := Lib.hid hkt
              clear hkt hF
              go_wp2_with fail
              go_roundw
              case rel => exact ⟨k, _, by omega, by go_num, HS.out _ (by rw [HV.out, HKT.out]), Below.setCell hb gI0 _⟩
              case measure => simp [intOf]
            · have g2 : ((k : Int) == (t.size : Int)) = false := by rw [beq_eq_false_iff_ne]; omega
              have hkl : k < t.size := by omega
              have p1 := hF.tab.ptr (i := i + 1) ⟨by omega, by omega⟩
              have r10 := (hF.tab.row (i + 1) ⟨by omega, by omega⟩).at_ (k := k) (by omega)
              have r11 := (hF.tab.row (i + 1) ⟨by omega, by omega⟩).at_ (k := k + 1) (by omega)
              have r01 := (hF.tab.row i ⟨Nat.le_refl _, by omega⟩).at_ (k := k + 1) (by omega)
              rw [hF.old (i + 1) (Nat.le_refl _) (by omega) k (by omega)] at r10
              rw [hF.old (i + 1) (Nat.le_refl _) (by omega) (k + 1) (by omega)] at r11
              rw [hF.new (k + 1) (Nat.le_refl _) (by omega)] at r01
              have HLV : Hid (lev ((L s).drop i) ((L t).drop k) = if s[i] = t[k] then lev ((L s).drop (i + 1)) ((L t).drop (k + 1)) else 1 + min (lev ((L s).drop (i + 1)) ((L t).drop k)) (min (lev ((L s).drop i) ((L t).drop (k + 1))) (lev ((L s).drop (i + 1)) ((L t).drop (k + 1))))) := by
                have h1 := drop_byte s i hil
                have h2 := drop_byte t k hkl
                unfold Hid
                rw [h1, h2, lev_cons]
              have z1 := lev_len ((L s).drop (i + 1)) ((L t).drop k)
              have z2 := lev_len ((L s).drop (i + 1)) ((L t).drop (k + 1))
              have z3 := lev_len ((L s).drop i) ((L t).drop (k + 1))
              simp only [List.length_drop, L_len] at z1 z2 z3
              have y1 : lev ((L s).drop (i + 1)) ((L t).drop k) ≤ 400 := by omega
              have y2 : lev ((L s).drop (i + 1)) ((L t).drop (k + 1)) ≤ 400 := by omega
              have y3 : lev ((L s).drop i) ((L t).drop (k + 1)) ≤ 400 := by omega
              clear z1 z2 z3 hF
              generalize lev ((L s).drop (i + 1)) ((L t).drop k) = x1 at *
              generalize lev ((L s).drop (i + 1)) ((L t).drop (k + 1)) = x2 at *
              generalize lev ((L s).drop i) ((L t).drop (k + 1)) = x3 at *
              by_cases he : s[i] = t[k]
              · have g3 : ((s[i].toNat : Int) == (t[k].toNat : Int)) = true := by rw [he]; simp
                have HL2 := Lib.hid (HLV.out.trans (if_pos he))
                clear he HLV
                go_wp2_with fail
                go_quiet (fail)
                go_wp2_with fail
                go_region
                go_wp2_with fail
                go_roundw
                case rel => exact ⟨k, _, by omega, by go_num, HD.out _ _ (by rw [HL2.out]), Below.setCell (below_drewN hb _) gI0 _⟩
                case measure => simp [intOf]
              · have g3 : ((s[i].toNat : Int) == (t[k].toNat : Int)) = false := by
                  rw [beq_eq_false_iff_ne]; intro h; exact he (UInt8.toNat_inj.1 (by omega))
                have HL2 := Lib.hid (HLV.out.trans (if_neg he))
                clear he HLV
                go_wp2_with fail
                go_quiet (fail)
                go_wp2_with fail
                go_region
                go_wp2_with fail
                go_roundw
                case rel => exact ⟨k, _, by omega, by go_num, HD.out _ _ (by rw [HL2.out]; split <;> split <;> omega), Below.setCell (below_drewN hb _) gI0 _⟩
                case measure => simp [intOf]
        · obtain rfl : k = 0 := by omega
          clear hF
          go_wp2_with fail
          go_roundw
          case rel =>
            refine ⟨i, G', R', by omega, by go_num, HF.out.tab, fun j h1 h2 q hq => ?_, hb⟩
            by_cases hj : j = i
            · subst hj; exact HF.out.new q (Nat.zero_le _) hq
            · exact HF.out.old j (by omega) h2 q hq
          case measure => simp [intOf]
    · obtain rfl : i = 0 := by omega
      have p0 := hT.ptr (i := 0) ⟨Nat.le_refl _, Nat.zero_le _⟩
      have r0 := (hT.row 0 ⟨Nat.le_refl _, Nat.zero_le _⟩).at_ (k := 0) (by omega)
      rw [HRv.out 0 (Nat.le_refl _) (Nat.zero_le _) 0 (Nat.zero_le _)] at r0
      clear hT
      go_wp2_with fail
      go_ret
      exact ⟨by simp, (by repeat (first | exact Below.refl _ _ | assumption | refine Below.alloc ?_ (by first | exact Nat.le_refl _ | assumption | omega | (simp <;> omega)) _ | refine Below.setCell ?_ (by first | exact Nat.le_refl _ | assumption | omega | (simp <;> omega)) _ | refine Below.drew ?_ | refine below_drewN ?_ _))⟩
end Go.Proofs.YtplgghjdidmcfaaGreatDoor
namespace Go.Proofs.YtplgghjdidmcfaaGreatDoor
open Go.RowKit
/-- What is left of both has so much in common. -/
def lcsD (s t : ByteArray) (i k : Nat) : Nat := lcs ((L s).drop i) ((L t).drop k)
theorem lcsD_left (s t : ByteArray) (k : Nat) : lcsD s t s.size k = 0 := by
  unfold lcsD; rw [List.drop_of_length_le (by rw [L_len]; exact Nat.le_refl _), lcs_nil_left]
theorem lcsD_right (s t : ByteArray) (i : Nat) : lcsD s t i t.size = 0 := by
  unfold lcsD; rw [List.drop_of_length_le (l := L t) (by rw [L_len]; exact Nat.le_refl _), lcs_nil_right]
theorem lcsD_step (s t : ByteArray) (i k : Nat) (hi : i < s.size) (hk : k < t.size) : lcsD s t i k = if s[i] = t[k] then lcsD s t (i + 1) (k + 1) + 1 else max (lcsD s t (i + 1) k) (lcsD s t i (k + 1)) := by
  have h1 := drop_byte s i hi
  have h2 := drop_byte t k hk
  unfold lcsD
  rw [h1, h2, lcs_cons]
theorem lcsD_le (s t : ByteArray) (i k : Nat) : lcsD s t i k ≤ s.size ∧ lcsD s t i k ≤ t.size := by
  have := lcs_le ((L s).drop i) ((L t).drop k)
  simp only [List.length_drop, L_len] at this
  unfold lcsD; omega
theorem lcsD_zero (s t : ByteArray) : lcsD s t 0 0 = lcs (L s) (L t) := rfl
/-- Where the inner loop stands. -/
structure SameIn (s t : ByteArray) (base : Nat) (wr : World) (gT : Nat) (G : Nat → Nat) (i k : Nat) (R : Nat → List Int) : Prop where
  tab : Tab wr base gT (s.size + 1) (t.size + 1) (fun j => j ≤ s.size) G R
  old : ∀ j, i + 1 ≤ j → j ≤ s.size → ∀ k, k ≤ t.size → (R j).getD k 0 = (lcsD s t j k : Nat)
  new : ∀ k', k ≤ k' → k' ≤ t.size → (R i).getD k' 0 = (lcsD s t i k' : Nat)
  edge : ∀ j, j ≤ s.size → (R j).getD t.size 0 = 0
theorem SameIn.step {s t : ByteArray} {base : Nat} {wr : World} {gT : Nat} {G : Nat → Nat} {i k : Nat} {R : Nat → List Int} (h : SameIn s t base wr gT G i (k + 1) R) (hi : i ≤ s.size) (hk : k < t.size) (n : Nat) {v : Int} (hv : v = (lcsD s t i k : Nat)) :
    SameIn s t base ((wr.drewN n).setCell ⟨G i, k, none⟩ (.int .i64 v)) gT G i k (fun j => if j = i then (R i).set k v else R j) := by
  have hl := (h.tab.row i hi).len
  refine ⟨(h.tab.drewN n).set_ hi k v, fun j h1 h2 q hq => ?_, fun q h1 h2 => ?_, fun j h1 => ?_⟩
  · simp only [show ¬ j = i by omega, if_false]; exact h.old j h1 h2 q hq
  · simp only [if_true]
    rw [getD_setF _ _ _ _ (by omega)]
    by_cases hq : q = k
    · subst hq; rw [if_pos rfl]; exact hv
    · rw [if_neg hq]; exact h.new q (by omega) h2
  · by_cases hj : j = i
    · subst hj
      simp only [if_true]
      rw [getD_setF _ _ _ _ (by omega), if_neg (by omega)]; exact h.edge j h1
    · simp only [hj, if_false]; exact h.edge j h1
/-- The table as it is handed back. -/
structure SameTab (s t : ByteArray) (base : Nat) (wr : World) (gT : Nat) (G : Nat → Nat) (R : Nat → List Int) : Prop where
  tab : Tab wr base gT (s.size + 1) (t.size + 1) (fun j => j ≤ s.size) G R
  val : ∀ j, j ≤ s.size → ∀ k, k ≤ t.size → (R j).getD k 0 = (lcsD s t j k : Nat)
theorem SameTab.below {s t : ByteArray} {base : Nat} {w w' : World} {gT : Nat} {G : Nat → Nat} {R : Nat → List Int} (h : SameTab s t base w gT G R) (hb : Below w.heap.size w w') : SameTab s t base w' gT G R := ⟨h.tab.below hb, h.val⟩
theorem SameTab.cells {s t : ByteArray} {base : Nat} {w : World} {gT : Nat} {G : Nat → Nat} {R : Nat → List Int} (h : SameTab s t base w gT G R) {i k : Nat} (hi : i ≤ s.size) (hk : k ≤ t.size) :
    w.cell? ⟨gT, i, none⟩ = some (.slice (some ⟨G i, 0, none⟩) (t.size + 1) (t.size + 1)) ∧ w.cell? ⟨G i, k, none⟩ = some (.int .i64 (lcsD s t i k : Nat)) := by
  have h1 := h.tab.ptr (i := i) hi
  have h2 := (h.tab.row i hi).at_ (k := k) (by omega)
  rw [h.val i hi k hk] at h2
  exact ⟨h1, h2⟩
set_option maxRecDepth 100000 in
set_option maxHeartbeats 8000000 in
theorem table_any (s t : ByteArray) (hs : s.size ≤ 200) (ht : t.size ≤ 200) (w : World) :
    Calls Tryz.prog 72 #[.string s, .string t] w fun e w' => ∃ G R, e = .returned (.slice (some ⟨w.heap.size, 0, none⟩) (s.size + 1) (s.size + 1)) ∧ SameTab s t w.heap.size w' w.heap.size G R ∧ Below w.heap.size w w' := by
  obtain ⟨i0, hi0, hz0, hz1, hz2⟩ := info_parts info_int
  obtain ⟨j0, hj0, jz0, jz1, jz2⟩ := info_parts info_row
  go_enter Tryz.func72, Tryz.ntmps72
  go_wp2_with (at_make; go_must (refine wpList_make_full _ rfl _ _ _ rfl w.heap.size 91 j0 _ 1 Tryz.underlying139 hj0 jz0 jz1 .i64 .i64 ((s.size : Int) + 1) ((s.size : Int) + 1) (s.size + 1) rfl rfl (by omega) (by omega) (by rw [jz2]; omega) (by unfold maxLen; omega) (Nat.le_refl _) ?_); intro w2 hown2 hg2)
  have hb2 : Below w.heap.size w w2 := (Below.refl _ _).grown hg2 (Nat.le_refl _) (fun _ h => by cases h)
  clear hg2
  go_loopw [15] (fun i wr => ∃ (k : Nat) (G : Nat → Nat) (R : Nat → List Int), k ≤ s.size + 1 ∧ i = .int .i64 k ∧ Tab wr w.heap.size w.heap.size (s.size + 1) (t.size + 1) (fun j => j < k) G R ∧
      (∀ j, j < k → ∀ q, q ≤ t.size → (R j).getD q 0 = 0) ∧ Below w.heap.size w wr) (fun i _ => s.size + 1 - (intOf i).toNat)
  case atStart =>
    refine ⟨0, fun _ => 0, fun _ => [], Nat.zero_le _, rfl, ?_, fun j h1 => by omega, hb2⟩
    exact (Tab.start hown2 (t.size + 1) (fun _ => 0) (fun _ => [])).congr fun j => ⟨False.elim, fun h => absurd h (Nat.not_lt_zero _)⟩
  case round =>
    obtain ⟨i, G, R, hi, rfl, hT, hR, hb⟩ := hrel
    obtain ⟨wo, hwo⟩ : ∃ wo : World, wo = wr := ⟨_, rfl⟩
    subst hwo
    have HT := Lib.hid hT
    have HRv := Lib.hid hR
    clear hR
    have hbs := hb.size
    have hgl := hT.gT_lt.2
    by_cases hlt : i < s.size + 1
    · have g1 : decide ((i : Int) < (s.size : Int) + 1) = true := decide_eq_true (by omega)
      obtain ⟨u0, cs0, cf0⟩ := hT.slot (i := i) (by omega)
      clear hT
      go_wp2_with (at_make; go_must (refine wpList_make_full _ rfl _ _ _ rfl w.heap.size 3 i0 _ 1 Tryz.underlying91 hi0 hz0 hz1 .i64 .i64 ((t.size : Int) + 1) ((t.size : Int) + 1) (t.size + 1) rfl rfl (by omega) (by omega) (by rw [hz2]; omega) (by unfold maxLen; omega) hbs ?_); intro w3 hown3 hg3; have hcs3 := (hg3.cell cs0 (by simp)); have hcf3 := (hg3.frozen_far ⟨w.heap.size, i, none⟩ hgl (by simp)).trans cf0)
      have hb3 : Below wo.heap.size wo w3 := (Below.refl _ _).grown hg3 (Nat.le_refl _) (fun _ h => by cases h)
      have hrow3 : ArrI w3 w.heap.size wo.heap.size (t.size + 1) (List.replicate (t.size + 1) 0) := by
        rw [made_ints] at hown3; exact hown3
      have HF0 := Lib.hid (((HT.out.below hb3).add (i := i) (fun h => by omega) (by omega) hrow3 (fun j hj => by have := (HT.out.row j hj).lt.2; omega)).congr (E' := fun j => j < i + 1) (fun j => by omega))
      have hB4 : Below w.heap.size w (w3.setCell ⟨w.heap.size, i, none⟩ (.slice (some ⟨wo.heap.size, 0, none⟩) (t.size + 1) (t.size + 1))) := Below.setCell (bthen hb hb3) (Nat.le_refl _) _
      clear hown3 hrow3 hg3 hb3
      go_roundw
      case rel =>
        refine ⟨i + 1, _, _, by omega, by go_num, HF0.out, fun j hj q hq => ?_, hB4⟩
        by_cases hji : j = i
        · simp only [hji, if_true]
          rw [List.getD_eq_getElem?_getD, List.getElem?_eq_getElem (by rw [List.length_replicate]; omega)]; simp
        · simp only [hji, if_false]; exact HRv.out j (by omega) q hq
      case measure => simp [intOf]; omega
    · obtain rfl : i = s.size + 1 := by omega
      have g1 : decide (((s.size + 1 : Nat) : Int) < (s.size : Int) + 1) = false := decide_eq_false (by omega)
      clear hT
      go_wp2_with fail
      go_loopw [7] (fun i wr => ∃ (i' : Nat) (R : Nat → List Int), i' ≤ s.size ∧ i = .int .i64 ((i' : Int) - 1) ∧ Tab wr w.heap.size w.heap.size (s.size + 1) (t.size + 1) (fun j => j ≤ s.size) G R ∧
        (∀ j, i' ≤ j → j ≤ s.size → ∀ k, k ≤ t.size → (R j).getD k 0 = (lcsD s t j k : Nat)) ∧ (∀ j, j ≤ s.size → (R j).getD t.size 0 = 0) ∧ Below w.heap.size w wr) (fun i _ => (intOf i + 1).toNat)
      case atStart =>
        refine ⟨s.size, R, Nat.le_refl _, by go_num, HT.out.congr (fun j => by omega), fun j h1 h2 k hk => ?_, fun j hj => HRv.out j (by omega) _ (Nat.le_refl _), hb⟩
        obtain rfl : j = s.size := by omega
        rw [lcsD_left, HRv.out _ (by omega) k hk]; rfl
      case round =>
        clear HT HRv hb hbs hgl
        obtain ⟨i, R, hi, rfl, hT, hR, hE, hb⟩ := hrel
        obtain ⟨wo, hwo⟩ : ∃ wo : World, wo = wr := ⟨_, rfl⟩
        subst hwo
        have HT := Lib.hid hT
        have HRv := Lib.hid hR
        have HE := Lib.hid hE
        clear hR hE hT
        by_cases hi0' : 0 < i
        · obtain ⟨i, rfl⟩ : ∃ j, i = j + 1 := ⟨i - 1, by omega⟩
          have e0 : (((i + 1 : Nat) : Int) - 1) = (i : Int) := by omega
          rw [e0]
          have HF0 : Hid (SameIn s t w.heap.size wo w.heap.size G i t.size R) := ⟨HT.out, fun j h1 h2 k hk => HRv.out j h1 h2 k hk, fun k' h1 h2 => by
            obtain rfl : k' = t.size := by omega
            rw [lcsD_right, HE.out i (by omega)]; rfl, HE.out⟩
          go_wp2_with fail
          go_loopw [8] (fun k wr => ∃ (k' : Nat) (R' : Nat → List Int), k' ≤ t.size ∧ k = .int .i64 ((k' : Int) - 1) ∧ SameIn s t w.heap.size wr w.heap.size G i k' R' ∧ Below w.heap.size w wr) (fun k _ => (intOf k + 1).toNat)
          case atStart => exact ⟨t.size, R, Nat.le_refl _, by go_num, HF0.out, hb⟩
          case round =>
            clear HF0 hb HT HRv HE
            obtain ⟨k, R', hk, rfl, hF, hb⟩ := hrel
            have HF := Lib.hid hF
            have hbs := hb.size
            by_cases hk0 : 0 < k
            · obtain ⟨k, rfl⟩ : ∃ j, k = j + 1 := ⟨k - 1, by omega⟩
              have e1 : (((k + 1 : Nat) : Int) - 1) = (k : Int) := by omega
              rw [e1]
              have hil : i < s.size := by omega
              have hkl : k < t.size := by omega
              have pI := hF.tab.ptr (i := i) (show i ≤ s.size by omega)
              have rI := (hF.tab.row i (show i ≤ s.size by omega)).at_ (k := k) (by omega)
              have fI := (hF.tab.row i (show i ≤ s.size by omega)).free k
              have gI := (hF.tab.row i (show i ≤ s.size by omega)).lt
              obtain ⟨gI0, gI1⟩ := gI
              have HD : Hid (∀ (n : Nat) (v : Int), v = (lcsD s t i k : Nat) → SameIn s t w.heap.size ((wr.drewN n).setCell ⟨G i, k, none⟩ (.int .i64 v)) w.heap.size G i k (fun j => if j = i then (R' i).set k v else R' j)) := fun n v hv => HF.out.step (by omega) hkl n hv
              generalize (R' i).getD k 0 = old at *
              have p1 := hF.tab.ptr (i := i + 1) (show i + 1 ≤ s.size by omega)
              have r10 := (hF.tab.row (i + 1) (show i + 1 ≤ s.size by omega)).at_ (k := k) (by omega)
              have r11 := (hF.tab.row (i + 1) (show i + 1 ≤ s.size by omega)).at_ (k := k + 1) (by omega)
              have r01 := (hF.tab.row i (show i ≤ s.size by omega)).at_ (k := k + 1) (by omega)
              rw [hF.old (i + 1) (Nat.le_refl _) (by omega) k (by omega)] at r10
              rw [hF.old (i + 1) (Nat.le_refl _) (by omega) (k + 1) (by omega)] at r11
              rw [hF.new (k + 1) (Nat.le_refl _) (by omega)] at r01
              have HLV := Lib.hid (lcsD_step s t i k hil hkl)
              have y1 := (lcsD_le s t (i + 1) k).1
              have y2 := (lcsD_le s t (i + 1) (k + 1)).1
              have y3 := (lcsD_le s t i (k + 1)).1
              clear hF
              generalize lcsD s t (i + 1) k = x1 at *
              generalize lcsD s t (i + 1) (k + 1) = x2 at *
              generalize lcsD s t i (k + 1) = x3 at *
              by_cases he : s[i] = t[k]
              · have g3 : ((s[i].toNat : Int) == (t[k].toNat : Int)) = true := by rw [he]; simp
                have HL2 := Lib.hid (HLV.out.trans (if_pos he))
                clear he HLV
                go_wp2_with fail
                go_quiet (fail)
                go_wp2_with fail
                go_region
                go_wp2_with fail
                go_roundw
                case rel => exact ⟨k, _, by omega, by go_num, HD.out _ _ (by rw [HL2.out]; go_num), Below.setCell (below_drewN hb _) gI0 _⟩
                case measure => simp [intOf]
              · have g3 : ((s[i].toNat : Int) == (t[k].toNat : Int)) = false := by
                  rw [beq_eq_false_iff_ne]; intro h; exact he (UInt8.toNat_inj.1 (by omega))
                have HL2 := Lib.hid (HLV.out.trans (if_neg he))
                clear he HLV
                go_wp2_with fail
                go_quiet (fail)
                go_wp2_with fail
                go_region
                go_wp2_with fail
                go_roundw
                case rel => exact ⟨k, _, by omega, by go_num, HD.out _ _ (by rw [HL2.out]; first | (split <;> omega) | omega | (simp only [Int.max_def, Nat.max_def]; (repeat' split) <;> omega)), Below.setCell (below_drewN hb _) gI0 _⟩
                case measure => simp [intOf]
            · obtain rfl : k = 0 := by omega
              clear hF
              go_wp2_with fail
              go_roundw
              case rel =>
                refine ⟨i, R', by omega, by go_num, HF.out.tab, fun j h1 h2 q hq => ?_, HF.out.edge, hb⟩
                by_cases hj : j = i
                · subst hj; exact HF.out.new q (Nat.zero_le _) hq
                · exact HF.out.old j (by omega) h2 q hq
              case measure => simp [intOf]
        · obtain rfl : i = 0 := by omega
          go_wp2_with fail
          go_ret
          exact ⟨G, R, by first | rfl | simp, ⟨HT.out, fun j h1 k hk => HRv.out j (Nat.zero_le _) h1 k hk⟩, (by repeat (first | exact Below.refl _ _ | assumption | refine Below.alloc ?_ (by first | exact Nat.le_refl _ | assumption | omega | (simp <;> omega)) _ | refine Below.setCell ?_ (by first | exact Nat.le_refl _ | assumption | omega | (simp <;> omega)) _ | refine Below.drew ?_ | refine below_drewN ?_ _))⟩
end Go.Proofs.YtplgghjdidmcfaaGreatDoor
