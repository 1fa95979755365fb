/- slices.Concat of two rows of numbers. Where the loop of tree.Lens stands; its piles in memory. The loop of tree.Lens that makes words longer (plain). -/
import Derived.Test.YtncakjchaniheaaDoorPk12
import Derived.Lib.AppendZeros
import Derived.Test.YtncakjchaniheaaDoorPk11
namespace Go.Proofs.YtncakjchaniheaaDoor
open Go.RowKit
theorem intsT_len {w : World} {B n : Nat} {A : Option Addr} {l : List Int} (h : Rd w B 1 A n (ints l)) : l.length = n := by
  have := h.1; simpa [ints] using this
set_option maxRecDepth 100000 in
set_option maxHeartbeats 2000000 in
theorem growInt_any (N : Nat) (hN : N ≤ 1000) (w : World) :
    Calls Tryd.prog 59 #[.slice none 0 0, .int .i64 (N : Int)] w fun e w' => ∃ v, e = .returned v ∧ w'.ownsRow w.heap.size 3 1 v 0 [] ∧ Below w.heap.size w w' := by
  obtain ⟨i0, hi0, hz0, hz1, hz2⟩ := info_parts info_int
  rcases Nat.eq_zero_or_pos N with h0 | h0
  · subst h0
    go_enter Tryd.func59, Tryd.ntmps59
    go_wp2_with fail
    go_ret
    exact ⟨_, rfl, World.ownsRow_nil _ _ _ _, Below.refl _ _⟩
  · have hrz : ∀ ty, (Builtin.append_ #[25, 3] ty #[.slice none 0 0, .int .i64 (N : Int)]).run Tryd.prog w = _ := fun ty =>
      Lib.run_append_nil_zeros w 25 3 ty 3 i0 _ .i64 .i64 Tryd.underlying25 Tryd.underlying3 hi0 hz0 N h0 (by omega) (by omega) (by rw [hz2]; omega)
    have hge := grownCap_ge w N 0 3
    have hcm := grownCap_le_maxLen w N 0 3 (by unfold maxLen; omega)
    have HOWN : Hid ((w.drew.alloc (.cells (Builtin.zeroCells (Value.int IntKind.i64 0).cells N ++ Builtin.zeroCells (Value.int IntKind.i64 0).cells (grownCap w N 0 3 - N)) 3)).ownsRow w.heap.size 3 1 (.slice (some ⟨w.heap.size, 0, none⟩) 0 (grownCap w N 0 3)) 0 []) := by
      refine ⟨rfl, .inr ⟨w.heap.size, grownCap w N 0 3, _, rfl, Nat.le_refl _, heap_alloc_new w.drew _, Nat.zero_le _, hcm, ?_, by simp⟩⟩
      simp only [Array.size_append, size_zeroCells]
      have : (Value.int IntKind.i64 0).cells.size = 1 := rfl
      rw [this]; omega
    have hB : Below w.heap.size w (w.drew.alloc (.cells (Builtin.zeroCells (Value.int IntKind.i64 0).cells N ++ Builtin.zeroCells (Value.int IntKind.i64 0).cells (grownCap w N 0 3 - N)) 3)) := (by repeat (first | exact Below.refl _ _ | assumption | refine Below.alloc ?_ (by first | exact Nat.le_refl _ | assumption | omega | (simp <;> omega)) _ | refine Below.setCell ?_ (by first | exact Nat.le_refl _ | assumption | omega | (simp <;> omega)) _ | refine Below.drew ?_ | refine below_drewN ?_ _))
    generalize grownCap w N 0 3 = G at *
    have hGn : G ≤ 9223372036854775807 := by unfold maxLen at hcm; omega
    generalize (w.drew.alloc (.cells (Builtin.zeroCells (Value.int IntKind.i64 0).cells N ++ Builtin.zeroCells (Value.int IntKind.i64 0).cells (G - N)) 3)) = w9 at *
    go_enter Tryd.func59, Tryd.ntmps59
    go_wp2_with (at_builtin; refine Lib.wpList_append_run _ rfl _ _ _ _ rfl _ _ rfl rfl _ _ (hrz _) ?_)
    go_ret
    exact ⟨_, rfl, HOWN.out, hB⟩
def segT (p q : List Int) (k : Nat) : List Int := if k = 0 then [] else if k = 1 then p else p ++ q
set_option maxRecDepth 100000 in
set_option maxHeartbeats 4000000 in
theorem concatInt_any (p q : List Int) (A1 : Option Addr) (n1 c1 : Nat) (A2 : Option Addr) (n2 c2 B g : Nat) (w : World) (h1 : Rd w B 1 A1 n1 (ints p)) (h2 : Rd w B 1 A2 n2 (ints q)) (hB : B ≤ w.heap.size) (hg : g < w.heap.size)
    (k0 : w.cell? ⟨g, 0, none⟩ = some (.slice A1 n1 c1)) (k1 : w.cell? ⟨g, 1, none⟩ = some (.slice A2 n2 c2)) (hn1 : n1 ≤ 200) (hn2 : n2 ≤ 200) :
    Calls Tryd.prog 38 #[.slice (some ⟨g, 0, none⟩) 2 2] w fun e w' => ∃ v, e = .returned v ∧ w'.ownsRow w.heap.size 3 1 v (p ++ q).length (ints (p ++ q)) ∧ Below w.heap.size w w' := by
  obtain ⟨i0, hi0, hz0, hz1, hz2⟩ := info_parts info_int
  have hpn := intsT_len h1
  have hqn := intsT_len h2
  have H1 := Lib.hid h1
  have H2 := Lib.hid h2
  clear h1 h2
  go_enter Tryd.func38, Tryd.ntmps38
  go_wp2_with fail
  go_loopw [3, 11] (fun s i wr => ∃ k : Nat, k ≤ 2 ∧ i = .int .i64 (k : Int) ∧ s = .int .i64 ((segT p q k).length : Nat) ∧ wr = w) (fun _ i _ => 2 - (intOf i).toNat)
  case atStart => exact ⟨0, by omega, rfl, rfl, rfl⟩
  case round =>
    obtain ⟨k, hk, rfl, rfl, rfl⟩ := hrel
    obtain ⟨wo, hwo⟩ : ∃ wo : World, wo = wr := ⟨_, rfl⟩
    subst hwo
    obtain rfl | rfl | rfl : k = 0 ∨ k = 1 ∨ k = 2 := by omega
    · have e0 : (segT p q 0).length = 0 := rfl
      rw [e0]
      go_wp2_with fail
      go_roundw
      case rel => exact ⟨1, by omega, by go_num, by rw [show (segT p q 1).length = n1 from hpn], by first | rfl | trivial⟩
      case measure => simp [intOf]
    · have e0 : (segT p q 1).length = n1 := hpn
      rw [e0]
      go_wp2_with fail
      go_roundw
      case rel =>
        refine ⟨2, by omega, by go_num, ?_, by first | rfl | trivial⟩
        rw [show (segT p q 2).length = n1 + n2 by show (p ++ q).length = _; rw [List.length_append, hpn, hqn]]; go_num
      case measure => simp [intOf]
    · have e0 : (segT p q 2).length = n1 + n2 := by show (p ++ q).length = _; rw [List.length_append, hpn, hqn]
      rw [e0]
      go_wp2_with fail
      refine (growInt_any (n1 + n2) (by omega) _).mono ?_
      rintro e w5 ⟨v5, rfl, hown5, hb5⟩
      go_wp2_with fail
      go_loopw [6, 27] (fun o i wq => ∃ k : Nat, k ≤ 2 ∧ i = .int .i64 (k : Int) ∧ wq.ownsRow wo.heap.size 3 1 o (segT p q k).length (ints (segT p q k)) ∧ Below wo.heap.size wo wq) (fun _ i _ => 2 - (intOf i).toNat)
      case atStart => exact ⟨0, by omega, rfl, hown5, hb5⟩
      case round =>
        clear hown5 hb5
        obtain ⟨k, hk, rfl, hown, hb⟩ := hrel
        have HOWN := Lib.hid hown
        clear hown
        have c0 := (hb.cell (p := ⟨g, 0, none⟩) hg).trans k0
        have c1' := (hb.cell (p := ⟨g, 1, none⟩) hg).trans k1
        have hbs := hb.size
        obtain rfl | rfl | rfl : k = 0 ∨ k = 1 ∨ k = 2 := by omega
        · have hr := H1.out.below (hb.mono hB)
          go_wp2_with (at_builtin; go_must (refine wpList_appRd rfl _ _ _ rfl wo.heap.size 3 i0 _ 1 8 Tryd.underlying25 hi0 hz0 hz1 hz2 rfl (by omega) _ (segT p q 0).length (ints (segT p q 0)) rfl HOWN.out B A1 n1 c1 (ints p) rfl hr (ints_one _) (by show (0 + n1) * 8 ≤ _; omega) (by omega) hbs ?_); intro v6 w6 hown6 hb6)
          go_roundw
          case rel =>
            refine ⟨1, by omega, by go_num, ?_, hb.trans hb6⟩
            have e1 : (segT p q 1).length = (segT p q 0).length + n1 := by show p.length = 0 + n1; omega
            rw [e1]
            exact hown6
          case measure => simp [intOf]
        · have hr := H2.out.below (hb.mono hB)
          have e0 : (segT p q 1).length = n1 := hpn
          go_wp2_with (at_builtin; go_must (refine wpList_appRd rfl _ _ _ rfl wo.heap.size 3 i0 _ 1 8 Tryd.underlying25 hi0 hz0 hz1 hz2 rfl (by omega) _ (segT p q 1).length (ints (segT p q 1)) rfl HOWN.out B A2 n2 c2 (ints q) rfl hr (ints_one _) (by rw [e0]; omega) (by omega) hbs ?_); intro v6 w6 hown6 hb6)
          go_roundw
          case rel =>
            refine ⟨2, by omega, by go_num, ?_, hb.trans hb6⟩
            have e1 : (segT p q 2).length = (segT p q 1).length + n2 := by show (p ++ q).length = p.length + n2; rw [List.length_append, hqn]
            have e2 : ints (segT p q 2) = ints (segT p q 1) ++ ints q := by show ints (p ++ q) = ints p ++ ints q; simp [ints]
            rw [e1, e2]
            exact hown6
          case measure => simp [intOf]
        · go_wp2_with fail
          go_ret
          exact ⟨_, rfl, HOWN.out, hb⟩
end Go.Proofs.YtncakjchaniheaaDoor
namespace Go.Proofs.YtncakjchaniheaaDoor
open Go.RowKit
def LnAt (ws T : List Nat) (l : List Pile) (out : List Nat) : Prop :=
  (l.length ≤ 1 ∧ out = T) ∨ ∃ f, Hf ws l out ∧ l.length ≤ f + 1 ∧ huff f l out = T
theorem LnAt.start {ws : List Nat} (h : ws.length ≠ 1) : LnAt ws (lensOf ws) (piles0 ws ws.length) (List.replicate ws.length 0) := by
  have hl : (piles0 ws ws.length).length = ws.length := by simp [piles0]
  refine .inr ⟨ws.length, Hf.start ws, by omega, ?_⟩
  unfold lensOf
  rw [if_neg h]
theorem LnAt.one {ws : List Nat} (h : ws.length = 1) : LnAt ws (lensOf ws) (piles0 ws ws.length) [1] := by
  refine .inl ⟨by simp [piles0, h], ?_⟩
  unfold lensOf
  rw [if_pos h]
theorem LnAt.end_ {ws T : List Nat} {l : List Pile} {out : List Nat} (h : LnAt ws T l out) (hl : l.length ≤ 1) : out = T := by
  rcases h with ⟨_, h⟩ | ⟨f, _, _, h⟩
  · exact h
  · rw [← h]
    cases f with
    | zero => rfl
    | succ f =>
      unfold huff
      have hs := isrt_len l
      cases hi : isrt l with
      | nil => rfl
      | cons p s =>
        cases s with
        | nil => rfl
        | cons q r => rw [hi] at hs; simp at hs; omega
theorem LnAt.step {ws T : List Nat} {l : List Pile} {out : List Nat} {p q : Pile} {r : List Pile} (h : LnAt ws T l out) (h12 : ws.length ≤ 12) (hi : isrt l = p :: q :: r) :
    LnAt ws T (r ++ [(p.1 + q.1, p.2 ++ q.2)]) (bump out (p.2 ++ q.2)) ∧ (∀ k ∈ p.2 ++ q.2, k < ws.length) ∧ out.length = ws.length ∧ (p.2 ++ q.2).length ≤ 12 := by
  have hs := isrt_len l
  rw [hi] at hs
  simp only [List.length_cons] at hs
  rcases h with ⟨h1, _⟩ | ⟨f, h1, h2, h3⟩
  · omega
  · have hp := h1.perm (isrt_perm l)
    rw [hi] at hp
    obtain ⟨g1, _⟩ := hp.step h12
    have hmem := hp.mem
    rw [List.flatMap_cons, List.flatMap_cons] at hmem
    obtain ⟨_, hlt, _, hlen⟩ := nodup3 hmem
    cases f with
    | zero => omega
    | succ f =>
      unfold huff at h3
      rw [hi] at h3
      simp only at h3
      refine ⟨.inr ⟨f, g1, by rw [List.length_append, List.length_singleton]; omega, h3⟩, hlt, h1.len, ?_⟩
      rw [List.length_append]; omega
theorem LnAt.wt {ws T : List Nat} {l : List Pile} {out : List Nat} (h : LnAt ws T l out) (h2 : 2 ≤ l.length) (hw : ∀ k, ws.getD k 0 ≤ 10000) (h12 : ws.length ≤ 12) : ∀ x ∈ l, x.1 ≤ 1000000 := by
  rcases h with ⟨h1, _⟩ | ⟨f, h1, _, _⟩
  · omega
  · intro x hx
    rw [h1.wt x hx]
    have hl : x.2.length ≤ 12 := by
      have h3 := h1.mem.length_eq
      rw [List.length_range] at h3
      have h4 : x.2.length ≤ (l.flatMap (·.2)).length := by
        have : ∀ m : List Pile, x ∈ m → x.2.length ≤ (m.flatMap (·.2)).length := by
          intro m
          induction m with
          | nil => intro h; cases h
          | cons y m ih =>
            intro h
            rw [List.flatMap_cons, List.length_append]
            rcases List.mem_cons.1 h with rfl | h
            · omega
            · have := ih h; omega
        exact this l hx
      omega
    have : ∀ ks : List Nat, wtOf ws ks ≤ 10000 * ks.length := by
      intro ks
      induction ks with
      | nil => simp [wtOf]
      | cons k ks ih =>
        unfold wtOf at *
        rw [List.map_cons, List.sum_cons, List.length_cons]
        have := hw k
        omega
    have := this x.2
    omega
/-- A pile's numbers, in a row of their own. -/
def PlOk (w : World) (B : Nat) (x : Pm) : Prop := OwnO w B 3 1 (.slice x.A x.mem.length x.c) x.mem.length (ints (intN x.mem))
theorem own_ne_two {w : World} {b1 b2 s1 s2 n1 n2 : Nat} {e1 e2 : TypeId} {v1 v2 : Value} {xs ys : List Value} (h1 : OwnO w b1 e1 s1 v1 n1 xs) (h2 : OwnO w b2 e2 s2 v2 n2 ys) (hne : e1 ≠ e2) : v1.ownBlock = none ∨ v1.ownBlock ≠ v2.ownBlock := by
  rcases h2.2 with ⟨rfl, _⟩ | ⟨g, o, cap, cur, rfl, _, hg, _⟩
  · cases h : v1.ownBlock with
    | none => exact .inl rfl
    | some k => exact .inr (by simp [Value.ownBlock])
  · exact h1.ne_blk (g := g) (cs := cur) hg hne
theorem PlOk.below {w w' : World} {B : Nat} {x : Pm} (h : PlOk w B x) (hb : Below w.heap.size w w') : PlOk w' B x := OwnO.below h hb
theorem PlOk.row {w w' : World} {B b2 n c : Nat} {ad : Addr} {x : Pm} {ys : List Value} (h : PlOk w B x) (h2 : OwnO w b2 75 2 (.slice (some ad) n c) n ys) (hg : w.grownBy w' (some ad.block)) : PlOk w' B x := by
  refine OwnO.kept h hg ?_
  have := own_ne_two h h2 (by decide)
  have e : (Value.slice (some ad) n c).ownBlock = some ad.block := rfl
  rw [e] at this
  exact this
theorem PlOk.out {w : World} {B g : Nat} {x : Pm} (h : PlOk w B x) (hg : g < B) (i : Nat) (u : Value) : PlOk (w.setCell ⟨g, i, none⟩ u) B x := by
  refine OwnO.kept h (gb_set (gb_refl w (some g)) i u) ?_
  cases hv : (Value.slice x.A x.mem.length x.c).ownBlock with
  | none => exact .inl rfl
  | some k =>
    refine .inr fun e => ?_
    have := (OwnO.lt h k hv).1
    cases e
    omega
end Go.Proofs.YtncakjchaniheaaDoor
namespace Go.Proofs.YtncakjchaniheaaDoor
open Go.RowKit
theorem LnAt.small {ws T : List Nat} {l : List Pile} {out : List Nat} (h : LnAt ws T l out) (h2 : 2 ≤ l.length) (h12 : ws.length ≤ 12) : ∀ j, out.getD j 0 ≤ 12 := by
  rcases h with ⟨h1, _⟩ | ⟨f, h1, _, _⟩
  · omega
  · intro j
    rcases Nat.lt_or_ge j ws.length with hj | hj
    · have hm : j ∈ l.flatMap (·.2) := h1.mem.mem_iff.2 (List.mem_range.2 hj)
      obtain ⟨p, hp, hjp⟩ := List.mem_flatMap.1 hm
      have h3 := (h1.dep p hp j hjp).1
      have h4 := h1.mem.length_eq
      rw [List.length_range] at h4
      have h5 : p.2.length ≤ (l.flatMap (·.2)).length := by
        have : ∀ m : List Pile, p ∈ m → p.2.length ≤ (m.flatMap (·.2)).length := by
          intro m
          induction m with
          | nil => intro h; cases h
          | cons y m ih =>
            intro h
            rw [List.flatMap_cons, List.length_append]
            rcases List.mem_cons.1 h with rfl | h
            · omega
            · have := ih h; omega
        exact this l hp
      omega
    · rw [List.getD_eq_getElem?_getD, List.getElem?_eq_none (by rw [h1.len]; exact hj)]; exact Nat.zero_le _
theorem bump_le (ks : List Nat) : ∀ (out : List Nat) (j : Nat), (bump out ks).getD j 0 ≤ out.getD j 0 + ks.length := by
  induction ks with
  | nil => intro out j; exact Nat.le_refl _
  | cons k ks ih =>
    intro out j
    have h := ih (out.set k (out.getD k 0 + 1)) j
    show (bump (out.set k (out.getD k 0 + 1)) ks).getD j 0 ≤ _
    have h2 : (out.set k (out.getD k 0 + 1)).getD j 0 ≤ out.getD j 0 + 1 := by
      rcases Nat.lt_or_ge k out.length with hk | hk
      · rw [set_getD hk]
        split
        · rename_i e; subst e; exact Nat.le_refl _
        · omega
      · rw [List.set_eq_of_length_le hk]; omega
    rw [List.length_cons]; omega
theorem bump_snoc (out ks : List Nat) (k : Nat) : bump out (ks ++ [k]) = (bump out ks).set k ((bump out ks).getD k 0 + 1) := by
  unfold bump; rw [List.foldl_append]; rfl
theorem take_snocD {l : List Nat} {k : Nat} (h : k < l.length) : l.take (k + 1) = l.take k ++ [l.getD k 0] := by
  rw [List.take_add_one, List.getElem?_eq_getElem h, List.getD_eq_getElem?_getD, List.getElem?_eq_getElem h]; rfl
theorem intN_set (l : List Nat) (k v : Nat) : (intN l).set k ((v : Nat) : Int) = intN (l.set k v) := by
  unfold intN; rw [List.map_set]
theorem intN_get0 (l : List Nat) (k : Nat) : (intN l).getD k 0 = ((l.getD k 0 : Nat) : Int) := by
  unfold intN
  rw [List.getD_eq_getElem?_getD, List.getElem?_map, List.getD_eq_getElem?_getD]
  cases l[k]? <;> rfl
theorem pmCells_drop (p q : Pm) (r : List Pm) : (pmCells (p :: q :: r)).drop (2 * 2) = pmCells r := rfl
theorem OwnO.lowT {w : World} {base base' : Nat} {e : TypeId} {size n : Nat} {v : Value} {xs : List Value} (h : OwnO w base e size v n xs) (hb : base' ≤ base) : OwnO w base' e size v n xs := by
  refine ⟨h.1, ?_⟩
  rcases h.2 with h | ⟨g, o, cap, cur, h1, h2, h3⟩
  · exact .inl h
  · exact .inr ⟨g, o, cap, cur, h1, by omega, h3⟩
theorem OwnO.gout {w w' : World} {base g size n : Nat} {e : TypeId} {v : Value} {xs : List Value} (h : OwnO w base e size v n xs) (hg : g < base) (hgr : w.grownBy w' (some g)) : OwnO w' base e size v n xs := by
  refine h.kept hgr ?_
  cases hv : v.ownBlock with
  | none => exact .inl rfl
  | some kk =>
    refine .inr fun e => ?_
    have := (OwnO.lt h kk hv).1
    cases e
    omega
theorem own_cutB {ad : Addr} {n c k : Nat} {z : Nat} : (Value.slice (if c = k then some ad else (some ad).map (·.add z)) n (c - k)).ownBlock = some ad.block := by
  split
  · rfl
  · show some (ad.add z).block = _
    congr 1
    unfold Addr.add; split <;> rfl
end Go.Proofs.YtncakjchaniheaaDoor
