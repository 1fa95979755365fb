/- A known word's turns. A row whose cells turn: small facts for exchanges. Rows of numbers side by side; slices.Index at numbers; a word too large for turn.Put. -/
import Derived.Test.YtncakjchaniheaaDoorPk18
import Derived.Test.YtncakjchaniheaaDoorPk20
import Derived.Test.YtncakjchaniheaaDoorPk09
import Derived.Test.YtncakjchaniheaaDoorPk19
namespace Go.Proofs.YtncakjchaniheaaDoor
open Go.RowKit
theorem turnO_is {s : List UInt8} {o : List Nat} (hp : o.Perm (List.range s.length)) (hw : o.Pairwise fun x y => ¬ ltT s y x) : turnO s = o := by
  refine List.Perm.eq_of_pairwise (le := fun x y => ¬ ltT s y x) (fun a b _ _ h1 h2 => (ltT_tri h1 h2).symm) (turnO_pw s) hw ((turnO_perm s).trans hp.symm)
def banana : List UInt8 := [98, 97, 110, 97, 110, 97]
theorem banana_O : turnO banana = [5, 3, 1, 0, 4, 2] := turnO_is (by decide) (by decide)
theorem banana_L : turnL banana = [110, 110, 98, 97, 97, 97] := by
  unfold turnL; rw [banana_O]; rfl
theorem banana_at : turnAt banana = 3 := by
  unfold turnAt; rw [if_neg (by decide), banana_O]; rfl
open Go.RowKit
theorem hello_err : edErr 5 [⟨0, 1, [74]⟩] = 0 := by decide +kernel
theorem hello_out : apOut ⟨#[104, 101, 108, 108, 111]⟩ [⟨0, 1, [74]⟩] = ⟨#[74, 101, 108, 108, 111]⟩ := by
  unfold apOut
  rw [show edErr (⟨#[104, 101, 108, 108, 111]⟩ : ByteArray).size [⟨0, 1, [74]⟩] = 0 from hello_err, if_pos rfl]
  rfl
set_option maxRecDepth 100000 in
set_option maxHeartbeats 2000000 in
theorem works_any (w : World) : Calls Tryd.prog 6 #[] w fun e w' => e = .returned (.bool true) ∧ Below w.heap.size w w' := by
  have HP := Lib.hid (fun W => turnPut_any ⟨#[98, 97, 110, 97, 110, 97]⟩ (by decide) W)
  have e1 : turnL (L ⟨#[98, 97, 110, 97, 110, 97]⟩) = [110, 110, 98, 97, 97, 97] := banana_L
  have e2 : turnAt (L ⟨#[98, 97, 110, 97, 110, 97]⟩) = 3 := banana_at
  rw [e1, e2] at HP
  have e3 : S [110, 110, 98, 97, 97, 97] = ⟨#[110, 110, 98, 97, 97, 97]⟩ := rfl
  rw [e3] at HP
  have HE : Hid (∀ W : World, Calls Tryd.prog 20 #[.string ⟨#[104, 101, 108, 108, 111]⟩, .slice (some ⟨W.heap.size, 0, none⟩) 1 1] (W.alloc (.cells #[.int .i64 0, .int .i64 1, .string ⟨#[74]⟩] 49)) fun e w' => e = .returned (.tuple #[.string ⟨#[74, 101, 108, 108, 111]⟩, .int .i64 0]) ∧ Below (W.alloc (.cells #[.int .i64 0, .int .i64 1, .string ⟨#[74]⟩] 49)).heap.size (W.alloc (.cells #[.int .i64 0, .int .i64 1, .string ⟨#[74]⟩] 49)) w') := fun W => by
    have h := edApply_any ⟨#[104, 101, 108, 108, 111]⟩ [⟨0, 1, [74]⟩] (some ⟨W.heap.size, 0, none⟩) 1 1 (W.heap.size + 1) (W.alloc (.cells #[.int .i64 0, .int .i64 1, .string ⟨#[74]⟩] 49)) (Rd.new_ (size := 3) W _ _ (Nat.lt_succ_self _) rfl) (by simp) (by decide) (by decide)
    rw [hello_out, show edErr (⟨#[104, 101, 108, 108, 111]⟩ : ByteArray).size [⟨0, 1, [74]⟩] = 0 from hello_err] at h
    exact h
  clear e1 e2 e3
  go_enter Tryd.func6, Tryd.ntmps6
  go_wp2_with fail
  refine (HP.out _).mono ?_
  rintro e w1 ⟨rfl, hb1⟩
  go_wp2_with fail
  refine (HE.out _).mono ?_
  rintro e w2 ⟨rfl, hb2⟩
  have hb3 := bthen hb1 (bthen ((Below.refl w1.heap.size w1).alloc (Nat.le_refl _) _) hb2)
  go_wp2_with fail
  go_ret
  exact ⟨rfl, hb3⟩
theorem goodOne_any (w : World) : Calls Tryd.prog 29 #[.int .i64 0] w fun e w' => e = .returned (.bool false) ∧ Below w.heap.size w w' := by
  go_enter Tryd.func29, Tryd.ntmps29
  go_wp2_with fail
  go_ret
  exact ⟨rfl, (by repeat (first | exact Below.refl _ _ | assumption | refine Below.alloc ?_ (by first | exact Nat.le_refl _ | assumption | omega | (simp <;> omega)) _ | refine Below.setCell ?_ (by first | exact Nat.le_refl _ | assumption | omega | (simp <;> omega)) _ | refine Below.drew ?_ | refine below_drewN ?_ _))⟩
set_option maxRecDepth 100000 in
set_option maxHeartbeats 1000000 in
theorem goodI_any (A : Option Addr) (m c B : Nat) (w : World) (hr : Rd w B 1 A m (ints (List.replicate m 0))) (hB : B ≤ w.heap.size) (hm : m ≤ 9223372036854775807) :
    Calls Tryd.prog 45 #[.slice A m c, .func (.func 29) #[] #[]] w fun e w' => e = .returned (.int .i64 (-1)) ∧ Below w.heap.size w w' := by
  have HR := Lib.hid hr; clear hr
  have HX := Lib.hid goodOne_any
  go_enter Tryd.func45, Tryd.ntmps45
  go_wp2_with fail
  go_loopw [8] (fun i wr => ∃ k : Nat, k ≤ m ∧ i = .int .i64 k ∧ Below w.heap.size w wr) (fun i _ => m - (intOf i).toNat)
  case atStart => exact ⟨0, Nat.zero_le _, rfl, Below.refl _ _⟩
  case round =>
    obtain ⟨k, hk, rfl, hb⟩ := hrel
    have hbs := hb.size
    by_cases hlt : k < m
    · have g1 : decide ((k : Int) < (m : Int)) = true := decide_eq_true (by omega)
      have g1' : decide (k < m) = true := decide_eq_true hlt
      obtain ⟨ad, u, rfl, _, hu, cc⟩ := (HR.out.below (hb.mono hB)).at_ hlt
      have hu2 : u = .int .i64 0 := by
        obtain ⟨x, hx, rfl⟩ := ints_at hu
        rw [List.getElem?_replicate, if_pos hlt] at hx
        cases hx; rfl
      subst hu2
      clear hu
      go_wp2_with fail
      refine (HX.out _).mono ?_
      rintro e w2 ⟨rfl, hb2⟩
      have hb3 := bthen hb hb2
      go_wp2_with fail
      go_roundw
      case rel => exact ⟨k + 1, by omega, by go_num, hb3⟩
      case measure => simp [intOf]; omega
    · obtain rfl : k = m := by omega
      have g1 : decide ((k : Int) < (k : Int)) = false := decide_eq_false (by omega)
      have g1' : decide (k < k) = false := decide_eq_false hlt
      go_wp2_with fail
      go_ret
      exact ⟨rfl, hb⟩
theorem good_any (A : Option Addr) (m c B : Nat) (w : World) (hr : Rd w B 1 A m (ints (List.replicate m 0))) (hB : B ≤ w.heap.size) (hm : m ≤ 9223372036854775807) :
    Calls Tryd.prog 11 #[.slice A m c] w fun e w' => e = .returned (.bool true) ∧ Below w.heap.size w w' := by
  have HC : Hid (Calls Tryd.prog 28 #[.slice A m c, .func (.func 29) #[] #[]] w fun e w' => e = .returned (.bool false) ∧ Below w.heap.size w w') := by
    have HI := Lib.hid (goodI_any A m c B w hr hB hm)
    unfold Hid
    clear hr
    go_enter Tryd.func28, Tryd.ntmps28
    go_wp2_with fail
    refine HI.out.mono ?_
    rintro e w2 ⟨rfl, hb2⟩
    go_wp2_with fail
    go_ret
    exact ⟨rfl, hb2⟩
  clear hr
  go_enter Tryd.func11, Tryd.ntmps11
  go_wp2_with fail
  refine HC.out.mono ?_
  rintro e w2 ⟨rfl, hb2⟩
  go_wp2_with fail
  go_ret
  exact ⟨rfl, hb2⟩
end Go.Proofs.YtncakjchaniheaaDoor
namespace Go.Proofs.YtncakjchaniheaaDoor
open Go.RowKit
theorem own_setS {w : World} {base : Nat} {e : TypeId} {size n c : Nat} {ad : Addr} {xs : List Value} (h : OwnO w base e size (.slice (some ad) n c) n xs) {j : Nat} (hj : j < n * size) (u : Value) :
    OwnO (w.setCell (ad.add j) u) base e size (.slice (some ad) n c) n (xs.set j u) ∧ w.frozen? (ad.add j) = false := by
  rcases h.2 with ⟨h1, _⟩ | ⟨g, o, cap, cur, h1, h2, h3, h4, h5, h6, h7⟩
  · cases h1
  · injection h1 with h1 _ h1c
    injection h1 with h1
    subst h1; subst h1c
    have hadd : (⟨g, o, none⟩ : Addr).add j = ⟨g, o + j, none⟩ := by unfold Addr.add; split <;> simp_all
    rw [hadd]
    refine ⟨⟨by rw [List.length_set]; exact h.1, .inr ⟨g, o, c, cur.setIfInBounds (o + j) u, rfl, h2, by simp [World.setCell, Array.getElem?_modify, h3], h4, h5, by simpa using h6, ?_⟩⟩, by simp [World.frozen?, h3]⟩
    rw [Array.toList_setIfInBounds, ← h7]
    apply List.ext_getElem?
    intro i
    rw [List.getElem?_take, List.getElem?_drop, List.getElem?_set, List.getElem?_set, List.getElem?_take, List.getElem?_drop, List.length_take, List.length_drop]
    have hcl : cur.toList.length = cur.size := by simp
    have hnc : n * size ≤ c * size := Nat.mul_le_mul_right _ h4
    by_cases e : j = i
    · subst e
      rw [if_pos rfl, if_pos hj, if_pos rfl, if_pos (by omega), if_pos (by omega)]
    · by_cases hi : i < n * size
      · rw [if_pos hi, if_neg (show ¬ o + j = o + i by omega), if_neg e, if_pos hi]
      · rw [if_neg hi, if_neg e, if_neg hi]
theorem own_addrS {w : World} {base : Nat} {e : TypeId} {size n c : Nat} {ad : Addr} {xs : List Value} (h : OwnO w base e size (.slice (some ad) n c) n xs) : ∀ i j, i ≠ j → ad.add i ≠ ad.add j := by
  rcases h.2 with ⟨h1, _⟩ | ⟨g, o, cap, cur, h1, _⟩
  · cases h1
  · injection h1 with h1
    injection h1 with h1
    subst h1
    intro i j hij he
    have hadd : ∀ j, (⟨g, o, none⟩ : Addr).add j = ⟨g, o + j, none⟩ := fun j => by unfold Addr.add; split <;> simp_all
    rw [hadd, hadd] at he
    injection he with _ he
    omega
theorem add_one (ad : Addr) (k : Nat) : ad.add (k + 1) = ⟨(ad.add k).block, (ad.add k).off + 1, none⟩ := by rw [← add_add]; rfl
theorem add_two (ad : Addr) (k : Nat) : ad.add (k + 2) = ⟨(ad.add k).block, (ad.add k).off + 2, none⟩ := by rw [← add_add]; rfl
theorem gb_at {w w' : World} {ad : Addr} (h : w.grownBy w' (some ad.block)) (p : Addr) (u : Value) (hp : p.block = ad.block) : w.grownBy (w'.setCell p u) (some ad.block) :=
  gb_trans h ⟨rfl, rfl, rfl, by simp [World.setCell], fun k _ hk => Below.heap_setCell w' p u k (fun e => hk (by rw [e, hp]))⟩
/-- Two of a row exchanged. -/
theorem swap_two {α : Type} (A B C : List α) (x y : α) {i j : Nat} (hi : i = A.length) (hj : j = A.length + 1 + B.length) :
    (A ++ x :: (B ++ y :: C))[i]? = some x ∧ (A ++ x :: (B ++ y :: C))[j]? = some y ∧ ((A ++ x :: (B ++ y :: C)).set i y).set j x = A ++ y :: (B ++ x :: C) ∧ ((A ++ x :: (B ++ y :: C)).set j x).set i y = A ++ y :: (B ++ x :: C) := by
  subst hi; subst hj
  have e : ∀ z : α, A ++ z :: (B ++ y :: C) = (A ++ z :: B) ++ y :: C := fun z => by simp
  have hl : ∀ z : α, A.length + 1 + B.length = (A ++ z :: B).length := fun z => by simp; omega
  have s1 : ∀ (P : List α) (u v : α) (Q : List α), (P ++ u :: Q).set P.length v = P ++ v :: Q := fun P u v Q => by
    rw [List.set_append_right _ _ (Nat.le_refl _), Nat.sub_self]; rfl
  refine ⟨by simp, ?_, ?_, ?_⟩
  · rw [e x, hl x]; simp
  · rw [s1, e y, hl y, s1]; simp
  · rw [e x, hl x, s1]
    have : (A ++ x :: B) ++ x :: C = A ++ x :: (B ++ x :: C) := by simp
    rw [this, s1]
end Go.Proofs.YtncakjchaniheaaDoor
namespace Go.Proofs.YtncakjchaniheaaDoor
open Go.RowKit
theorem apartO_nw {w w' : World} {base : Nat} {e : TypeId} {size n : Nat} {v u v' : Value} {xs : List Value} (h : OwnO w base e size v n xs) (ha : Apart v u) (hu : v'.ownBlock = u.ownBlock ∨ v'.ownBlock = some w'.heap.size) (hs : w.heap.size ≤ w'.heap.size) : Apart v v' := by
  rcases hu with hu | hu
  · rcases ha with ha | ha
    · exact .inl ha
    · exact .inr (by rw [hu]; exact ha)
  · cases hv : v.ownBlock with
    | none => exact .inl hv
    | some g =>
      refine .inr ?_
      rw [hv, hu]
      intro e
      have := (h.lt g hv).2
      simp only [Option.some.injEq] at e
      omega
theorem OwnO.lowN {w : World} {base base' : Nat} {e : TypeId} {size n : Nat} {v : Value} {xs : List Value} (h : OwnO w base e size v n xs) (hb : base' ≤ base) : OwnO w base' e size v n xs := by
  refine ⟨h.1, ?_⟩
  rcases h.2 with h | ⟨g, o, cap, cur, h1, h2, h3⟩
  · exact .inl h
  · exact .inr ⟨g, o, cap, cur, h1, by omega, h3⟩
abbrev Own1 (w : World) (base : Nat) (v : Value) (l : List Int) : Prop := OwnO w base 3 1 v l.length (ints l)
/-- Four rows of the call's own. -/
structure Rw4 (w : World) (base : Nat) (v0 : Value) (l0 : List Int) (v1 : Value) (l1 : List Int) (v2 : Value) (l2 : List Int) (v3 : Value) (l3 : List Int) : Prop where
  o0 : Own1 w base v0 l0
  o1 : Own1 w base v1 l1
  o2 : Own1 w base v2 l2
  o3 : Own1 w base v3 l3
  a01 : Apart v0 v1
  a02 : Apart v0 v2
  a03 : Apart v0 v3
  a12 : Apart v1 v2
  a13 : Apart v1 v3
  a23 : Apart v2 v3
section
variable {w w' : World} {base : Nat} {v0 v1 v2 v3 v6 : Value} {l0 l1 l2 l3 l6 : List Int}
theorem Rw4.below (h : Rw4 w base v0 l0 v1 l1 v2 l2 v3 l3) (hb : Below w.heap.size w w') : Rw4 w' base v0 l0 v1 l1 v2 l2 v3 l3 :=
  ⟨h.o0.below hb, h.o1.below hb, h.o2.below hb, h.o3.below hb, h.a01, h.a02, h.a03, h.a12, h.a13, h.a23⟩
theorem Rw4.up1 (h : Rw4 w base v0 l0 v1 l1 v2 l2 v3 l3) (hg : w.grownBy w' v1.ownBlock) (ho : Own1 w' base v6 l6) (ha : v6.ownBlock = v1.ownBlock ∨ v6.ownBlock = some w.heap.size) : Rw4 w' base v0 l0 v6 l6 v2 l2 v3 l3 :=
  ⟨h.o0.kept hg h.a01, ho, h.o2.kept hg h.a12.comm, h.o3.kept hg h.a13.comm, apartO_nw h.o0 h.a01 ha (Nat.le_refl _), h.a02, h.a03, (apartO_nw h.o2 h.a12.comm ha (Nat.le_refl _)).comm, (apartO_nw h.o3 h.a13.comm ha (Nat.le_refl _)).comm, h.a23⟩
theorem Rw4.sw12 (h : Rw4 w base v0 l0 v1 l1 v2 l2 v3 l3) : Rw4 w base v0 l0 v2 l2 v1 l1 v3 l3 := ⟨h.o0, h.o2, h.o1, h.o3, h.a02, h.a01, h.a03, h.a12.comm, h.a23, h.a13⟩
theorem Rw4.sw13 (h : Rw4 w base v0 l0 v1 l1 v2 l2 v3 l3) : Rw4 w base v0 l0 v3 l3 v2 l2 v1 l1 := ⟨h.o0, h.o3, h.o2, h.o1, h.a03, h.a02, h.a01, h.a23.comm, h.a13.comm, h.a12.comm⟩
theorem Rw4.up2 (h : Rw4 w base v0 l0 v1 l1 v2 l2 v3 l3) (hg : w.grownBy w' v2.ownBlock) (ho : Own1 w' base v6 l6) (ha : v6.ownBlock = v2.ownBlock ∨ v6.ownBlock = some w.heap.size) : Rw4 w' base v0 l0 v1 l1 v6 l6 v3 l3 := (h.sw12.up1 hg ho ha).sw12
theorem Rw4.up3 (h : Rw4 w base v0 l0 v1 l1 v2 l2 v3 l3) (hg : w.grownBy w' v3.ownBlock) (ho : Own1 w' base v6 l6) (ha : v6.ownBlock = v3.ownBlock ∨ v6.ownBlock = some w.heap.size) : Rw4 w' base v0 l0 v1 l1 v2 l2 v6 l6 := (h.sw13.up1 hg ho ha).sw13
/-- A number of the third row turned. -/
theorem Rw4.set2 {ad : Addr} {c : Nat} (h : Rw4 w base v0 l0 v1 l1 (.slice (some ad) l2.length c) l2 v3 l3) {j : Nat} (hj : j < l2.length) (x : Int) :
    Rw4 (w.setCell (ad.add j) (.int .i64 x)) base v0 l0 v1 l1 (.slice (some ad) l2.length c) (l2.set j x) v3 l3 ∧ w.frozen? (ad.add j) = false ∧ w.grownBy (w.setCell (ad.add j) (.int .i64 x)) (some ad.block) := by
  obtain ⟨h1, h2⟩ := own_setS h.o2 (j := j) (by omega) (.int .i64 x)
  have hg := gb_at (gb_refl w (some ad.block)) (ad.add j) (.int .i64 x) (blk_add _ _)
  refine ⟨h.up2 hg ?_ (.inl rfl), h2, hg⟩
  show OwnO _ _ _ _ _ (l2.set j x).length (ints (l2.set j x))
  rw [List.length_set]
  have e : ints (l2.set j x) = (ints l2).set j (.int .i64 x) := by unfold ints; rw [List.map_set]
  rw [e]; exact h1
theorem own1_at {ad : Addr} {c n : Nat} {l : List Int} (h : OwnO w base 3 1 (.slice (some ad) n c) n (ints l)) {k : Nat} (hk : k < n) : w.cell? (ad.add k) = some (.int .i64 (l.getD k 0)) := by
  obtain ⟨A', c', hv, _, _, hr⟩ := h.form
  cases hv
  obtain ⟨ad', hA, _, hc⟩ := intCell hr hk
  cases hA
  exact hc
theorem ints_cat (l : List Int) (x : Int) : ints (l ++ [x]) = ints l ++ [.int .i64 x] := by simp [ints]
end
theorem own1_cat {w : World} {base n : Nat} {v : Value} {l : List Int} {x : Int} (hn : n = l.length) (h : OwnO w base 3 1 v (n + 1) (ints l ++ [.int .i64 x])) : Own1 w base v (l ++ [x]) := by
  show OwnO w base 3 1 v (l ++ [x]).length (ints (l ++ [x]))
  rw [List.length_append, ints_cat, List.length_singleton, ← hn]; exact h
section
variable {w w' : World} {base n : Nat} {v0 v1 v2 v3 v6 : Value} {l0 l1 l2 l3 : List Int} {x : Int}
theorem Rw4.app1 (h : Rw4 w base v0 l0 v1 l1 v2 l2 v3 l3) (hn : n = l1.length) (hg : w.grownBy w' v1.ownBlock) (ho : OwnO w' base 3 1 v6 (n + 1) (ints l1 ++ [.int .i64 x])) (ha : v6.ownBlock = v1.ownBlock ∨ v6.ownBlock = some w.heap.size) : Rw4 w' base v0 l0 v6 (l1 ++ [x]) v2 l2 v3 l3 := h.up1 hg (own1_cat hn ho) ha
theorem Rw4.app2 (h : Rw4 w base v0 l0 v1 l1 v2 l2 v3 l3) (hn : n = l2.length) (hg : w.grownBy w' v2.ownBlock) (ho : OwnO w' base 3 1 v6 (n + 1) (ints l2 ++ [.int .i64 x])) (ha : v6.ownBlock = v2.ownBlock ∨ v6.ownBlock = some w.heap.size) : Rw4 w' base v0 l0 v1 l1 v6 (l2 ++ [x]) v3 l3 := h.up2 hg (own1_cat hn ho) ha
theorem Rw4.app3 (h : Rw4 w base v0 l0 v1 l1 v2 l2 v3 l3) (hn : n = l3.length) (hg : w.grownBy w' v3.ownBlock) (ho : OwnO w' base 3 1 v6 (n + 1) (ints l3 ++ [.int .i64 x])) (ha : v6.ownBlock = v3.ownBlock ∨ v6.ownBlock = some w.heap.size) : Rw4 w' base v0 l0 v1 l1 v2 l2 v6 (l3 ++ [x]) := h.up3 hg (own1_cat hn ho) ha
theorem Rw4.bel1 {w0 : World} (h : Rw4 w base v0 l0 v1 l1 v2 l2 v3 l3) (hb : Below base w0 w) (hs : base ≤ w.heap.size) (hg : w.grownBy w' v1.ownBlock) : Below base w0 w' := hb.grown hg hs (fun k hk => (h.o1.lt k hk).1)
end
def natI (l : List Nat) : List Int := l.map fun (k : Nat) => (k : Int)
theorem natI_snoc (l : List Nat) (k : Nat) : natI (l ++ [k]) = natI l ++ [(k : Int)] := by simp [natI]
theorem natI_len (l : List Nat) : (natI l).length = l.length := by simp [natI]
theorem natI_at (l : List Nat) {k : Nat} (h : k < l.length) : (natI l).getD k 0 = ((l.getD k 0 : Nat) : Int) := by
  unfold natI
  rw [List.getD_eq_getElem?_getD, List.getElem?_map, List.getD_eq_getElem?_getD, List.getElem?_eq_getElem h]; rfl
theorem natI_set (l : List Nat) (k x : Nat) : natI (l.set k x) = (natI l).set k (x : Int) := by unfold natI; rw [List.map_set]
theorem intN_natI (l : List Nat) : intN l = natI l := rfl
/-- A weight that has just been laid down, counted up. -/
theorem fresh_weight {w w' : World} {base c q : Nat} {wt : List Nat} {v0 v1 v3 v2 : Value} {l0 l1 l3 : List Int} {ad : Addr} (hq : q = wt.length) (h : Rw4 w base v0 l0 v1 l1 v2 (natI wt) v3 l3) (hg : w.grownBy w' v2.ownBlock) (ho : OwnO w' base 3 1 (.slice (some ad) (wt.length + 1) c) (wt.length + 1) (ints (natI wt) ++ [.int .i64 0])) (ha : (Value.slice (some ad) (wt.length + 1) c).ownBlock = v2.ownBlock ∨ (Value.slice (some ad) (wt.length + 1) c).ownBlock = some w.heap.size) :
    w'.cell? (ad.add q) = some (.int .i64 0) ∧ w'.frozen? (ad.add q) = false ∧ Rw4 (w'.setCell (ad.add q) (.int .i64 1)) base v0 l0 v1 l1 (.slice (some ad) (wt.length + 1) c) (natI (wt ++ [1])) v3 l3 ∧ w'.grownBy (w'.setCell (ad.add q) (.int .i64 1)) (some ad.block) ∧ base ≤ ad.block := by
  subst hq
  have h1 := h.app2 (natI_len wt).symm hg ho ha
  have hl : (natI wt ++ [0]).length = wt.length + 1 := by rw [List.length_append, natI_len]; rfl
  have e9 : (Value.slice (some ad) (wt.length + 1) c) = .slice (some ad) (natI wt ++ [0]).length c := by rw [hl]
  have hb := (ho.lt ad.block rfl).1
  have hcell := own1_at (l := natI wt ++ [0]) (n := wt.length + 1) (by rw [ints_cat]; exact ho) (k := wt.length) (by omega)
  have hz : (natI wt ++ [0]).getD wt.length 0 = 0 := by
    rw [List.getD_eq_getElem?_getD, List.getElem?_append_right (by rw [natI_len]; exact Nat.le_refl _), natI_len, Nat.sub_self]; rfl
  rw [hz] at hcell
  rw [e9] at h1
  obtain ⟨h2, h3, h4⟩ := h1.set2 (j := wt.length) (by rw [hl]; omega) 1
  have e8 : (natI wt ++ [0]).set wt.length 1 = natI (wt ++ [1]) := by
    rw [List.set_append_right _ _ (by rw [natI_len]; exact Nat.le_refl _), natI_len, Nat.sub_self, natI_snoc]; rfl
  rw [e8, ← e9] at h2
  exact ⟨hcell, h3, h2, h4, hb⟩
set_option maxRecDepth 100000 in
set_option maxHeartbeats 1000000 in
theorem idxInt_any (l : List Int) (x : Int) (A : Option Addr) (m c B : Nat) (w : World) (hr : Rd w B 1 A m (ints l)) (hm : m ≤ 9223372036854775807) :
    Calls Tryd.prog 7 #[.slice A m c, .int .i64 x] w fun e w' => ∃ i : Int, e = .returned (.int .i64 i) ∧ (i = -1 ∨ ∃ k : Nat, i = (k : Int) ∧ k < m ∧ l.getD k 0 = x) ∧ w' = w := by
  have HR := Lib.hid hr; clear hr
  go_enter Tryd.func7, Tryd.ntmps7
  go_wp2_with fail
  go_loopw [8] (fun i wr => ∃ k : Nat, k ≤ m ∧ i = .int .i64 (k : Int) ∧ wr = w) (fun i _ => m - (intOf i).toNat)
  case atStart => exact ⟨0, Nat.zero_le _, rfl, rfl⟩
  case round =>
    obtain ⟨k, hk, rfl, rfl⟩ := hrel
    by_cases hlt : k < m
    · have g1 : decide ((k : Int) < (m : Int)) = true := decide_eq_true (by omega)
      have g1' : decide (k < m) = true := decide_eq_true hlt
      obtain ⟨ad, rfl, _, c0⟩ := intCell HR.out hlt
      obtain ⟨y, hy⟩ : ∃ y, y = l.getD k 0 := ⟨_, rfl⟩
      rw [← hy] at c0
      have HY := Lib.hid hy
      clear hy
      by_cases he : x = y
      · have g2 : (x == y) = true := by rw [beq_iff_eq]; exact he
        have HE := Lib.hid he
        clear he
        go_wp2_with fail
        go_ret
        exact ⟨_, rfl, .inr ⟨k, rfl, hlt, by rw [HE.out]; exact HY.out.symm⟩, by first | rfl | trivial⟩
      · have g2 : (x == y) = false := by rw [beq_eq_false_iff_ne]; exact he
        clear he
        go_wp2_with fail
        go_roundw
        case rel => exact ⟨k + 1, by omega, by go_num, by first | rfl | trivial⟩
        case measure => simp [intOf]; omega
    · have g1 : decide ((k : Int) < (m : Int)) = false := decide_eq_false (by omega)
      have g1' : decide (k < m) = false := decide_eq_false hlt
      go_wp2_with fail
      go_ret
      exact ⟨-1, rfl, .inl rfl, by first | rfl | trivial⟩
set_option maxRecDepth 100000 in
theorem turnPutBig_any (s : ByteArray) (hs : 200 < s.size) (w : World) :
    Calls Tryd.prog 4 #[.string s] w fun e w' => e = .returned (.tuple #[.string ⟨#[]⟩, .int .i64 0, .int .i64 2]) ∧ Below w.heap.size w w' := by
  have HE : Hid (longErr s.size = 2) := by unfold Hid longErr; rw [if_pos hs]
  go_enter Tryd.func4, Tryd.ntmps4
  go_wp2_with fail
  refine (wordCheck_any s _).mono ?_
  rintro e w1 ⟨rfl, hb1⟩
  rw [HE.out]
  have hb1' : Below w.heap.size w w1 := bthen ((Below.refl _ _).alloc (Nat.le_refl _) _) hb1
  go_wp2_with fail
  (apply bodyPost_ret; (simp [results, Tryd.results4, go_sem]; rfl); rfl)
  exact ⟨rfl, hb1'⟩
end Go.Proofs.YtncakjchaniheaaDoor
