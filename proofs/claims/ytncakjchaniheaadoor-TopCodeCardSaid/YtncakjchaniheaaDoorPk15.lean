/- The lengths that tree.Lens hands back are right lengths, and cost the least (plain). tree.Make. Bytes by how long ago they came. Plain lists, no program in sight. -/
import Derived.Test.YtncakjchaniheaaDoorPk13
import Derived.Test.YtncakjchaniheaaDoorPk14
import Derived.Test.YtncakjchaniheaaDoorPk08
import Derived.Test.YtncakjchaniheaaDoorPk01
import Derived.Lib.Strings
namespace Go.Proofs.YtncakjchaniheaaDoor
theorem intN_nInts (l : List Nat) : intN l = nInts l := rfl
theorem lensGo_ok : ∀ {ns : List Nat} {s : Int}, (∀ m ∈ ns, 1 ≤ m ∧ m ≤ 12) → lensGo s (nInts ns) = (s + (total ns : Nat), 0) := by
  intro ns
  induction ns with
  | nil => intro s _; simp [nInts, lensGo, total]
  | cons m ns ih =>
    intro s h
    obtain ⟨h1, h2⟩ := h m List.mem_cons_self
    show (if (m : Int) < 1 ∨ 12 < (m : Int) then (0, 1) else lensGo (s + share (m : Int)) (nInts ns)) = _
    rw [if_neg (by omega), ih fun k hk => h k (List.mem_cons_of_mem _ hk), share_nat m h2]
    have e : total (m :: ns) = 2 ^ (12 - m) + total ns := rfl
    rw [e]
    congr 1
    omega
theorem total_sum (ns : List Nat) : total ns = ((List.range ns.length).map fun k => 2 ^ (12 - ns.getD k 0)).sum := by
  have e : ((List.range ns.length).map fun k => 2 ^ (12 - ns.getD k 0)) = ns.map fun m => 2 ^ (12 - m) := by
    apply List.ext_getElem
    · simp
    · intro j h1 h2
      have hj : j < ns.length := by simpa using h2
      simp only [List.getElem_map, List.getElem_range]
      rw [List.getD_eq_getElem?_getD, List.getElem?_eq_getElem hj]; rfl
  rw [e]
  induction ns with
  | nil => rfl
  | cons m ns ih =>
    have e2 : ((List.range ns.length).map fun k => 2 ^ (12 - ns.getD k 0)) = ns.map fun m => 2 ^ (12 - m) := by
      apply List.ext_getElem
      · simp
      · intro j h1 h2
        have hj : j < ns.length := by simpa using h2
        simp only [List.getElem_map, List.getElem_range]
        rw [List.getD_eq_getElem?_getD, List.getElem?_eq_getElem hj]; rfl
    rw [List.map_cons, List.sum_cons, ← ih e2]
    rfl
/-- The lengths are right ones, and there are words so long. -/
theorem lensOf_err {ws : List Nat} (h12 : ws.length ≤ 12) : lensErr (nInts (lensOf ws)) = (((total (lensOf ws) : Nat) : Int), 0) ∧ (∀ m ∈ lensOf ws, 1 ≤ m ∧ m ≤ 12) ∧ (lensOf ws).length = ws.length ∧ total (lensOf ws) ≤ 4096 := by
  have hf := lensOf_fit h12
  have hr : ∀ m ∈ lensOf ws, 1 ≤ m ∧ m ≤ 12 := fun m hm => by
    obtain ⟨k, hk, rfl⟩ := List.getElem_of_mem hm
    have := hf.rng k hk
    rw [List.getD_eq_getElem?_getD, List.getElem?_eq_getElem hk] at this
    exact this
  refine ⟨?_, hr, hf.len, ?_⟩
  · unfold lensErr
    rw [nInts_len, if_neg (by rw [hf.len]; omega), lensGo_ok hr]
    simp
  · rw [total_sum]; exact hf.kr
theorem costTo_nat {ws out : List Nat} (hl : out.length = ws.length) : costTo (intN ws) (intN out) ws.length = ((costN ws out : Nat) : Int) := by
  have key : ∀ k, k ≤ ws.length → costTo (intN ws) (intN out) k = ((((List.range k).map fun j => ws.getD j 0 * out.getD j 0).sum : Nat) : Int) := by
    intro k
    induction k with
    | zero => intro _; rfl
    | succ k ih =>
      intro hk
      have e1 : (intN ws).getD k 0 = (ws.getD k 0 : Nat) := by
        unfold intN
        rw [List.getD_eq_getElem?_getD, List.getElem?_map, List.getD_eq_getElem?_getD, List.getElem?_eq_getElem (show k < ws.length by omega)]; rfl
      have e2 : (intN out).getD k 0 = (out.getD k 0 : Nat) := by
        unfold intN
        rw [List.getD_eq_getElem?_getD, List.getElem?_map, List.getD_eq_getElem?_getD, List.getElem?_eq_getElem (show k < out.length by omega)]; rfl
      rw [costTo, ih (by omega), e1, e2, List.range_succ, List.map_append, List.sum_append]
      simp
  exact key _ (Nat.le_refl _)
/-- .. and cost the least. -/
theorem lensOf_cost {ws : List Nat} (h12 : ws.length ≤ 12) (h0 : 0 < ws.length) : costTo (intN ws) (intN (lensOf ws)) ws.length = ((leastC ws : Nat) : Int) := by
  have hf := lensOf_fit h12
  rw [costTo_nat hf.len, hf.cost h0]
end Go.Proofs.YtncakjchaniheaaDoor
namespace Go.Proofs.YtncakjchaniheaaDoor
open Go.RowKit
set_option maxRecDepth 100000 in
theorem makeErr_any (ws : List Int) (A : Option Addr) (m c B : Nat) (w : World) (hr : Rd w B 1 A m (ints ws)) (hm : m ≤ 9223372036854775807) (h : wErr ws ≠ 0) :
    Calls Tryd.prog 8 #[.slice A m c] w fun e w' => e = .returned (.tuple #[.slice none 0 0, .int .i64 (wErr ws)]) ∧ w' = w := by
  have HCK := Lib.hid (lensErr_walk ws A m c B w hr hm h)
  have g1 : (wErr ws != (0 : Int)) = true := by rw [bne_iff_ne]; exact h
  clear hr h
  generalize wErr ws = er at *
  go_enter Tryd.func8, Tryd.ntmps8
  go_wp2_with fail
  refine HCK.out.mono ?_
  rintro e w1 ⟨rfl, hw1⟩
  rw [hw1]
  clear hw1 w1
  go_wp2_with fail
  go_ret2
  exact ⟨rfl, rfl⟩
set_option maxRecDepth 100000 in
theorem make_any (ws : List Nat) (A : Option Addr) (m c B : Nat) (w : World) (hr : Rd w B 1 A m (ints (intN ws))) (hB : B ≤ w.heap.size) (h0 : wErr (intN ws) = 0) (h12 : m ≤ 12) :
    Calls Tryd.prog 8 #[.slice A m c] w fun e w' => ∃ v, e = .returned (.tuple #[v, .int .i64 0]) ∧ w'.ownsRow w.heap.size 9 1 v m (strCells (codesL (lensOf ws))) ∧ Below w.heap.size w w' := by
  have hwl : ws.length = m := by have := hr.1; simpa [ints, intN] using this
  have HLE := Lib.hid (lens_any ws A m c B w hr hB h0 h12)
  obtain ⟨q1, q2, q3, q4⟩ := lensOf_err (ws := ws) (by omega)
  have HQ := Lib.hid (And.intro q1 (And.intro q2 (And.intro q3 q4)))
  have HWL := Lib.hid hwl
  clear hr h0 q1 q2 q3 q4 hwl
  go_enter Tryd.func8, Tryd.ntmps8
  go_wp2_with fail
  refine HLE.out.mono ?_
  rintro e w1 ⟨v, rfl, hown1, hb1⟩
  obtain ⟨A1, c1, rfl, hn1, hm1, hr1⟩ := own_form hown1
  have HMK := Lib.hid (coMake_any (lensOf ws) _ A1 m c1 w1.heap.size w1 hr1 (Nat.le_refl _) HQ.out.1 HQ.out.2.1 (by rw [HQ.out.2.2.1, HWL.out]; exact h12) rfl HQ.out.2.2.2)
  clear hown1 hr1
  go_wp2_with fail
  refine HMK.out.mono ?_
  rintro e w2 ⟨v2, rfl, hown2, hb2⟩
  obtain ⟨A2, c2, rfl, hn2, hm2, hr2⟩ := own_form hown2
  have HO2 := Lib.hid hown2
  clear hown2 hr2
  go_wp2_with fail
  go_ret2
  exact ⟨_, rfl, own_lower HO2.out hb1.size, bthen hb1 hb2⟩
end Go.Proofs.YtncakjchaniheaaDoor
namespace Go.Proofs.YtncakjchaniheaaDoor
/-- All bytes, in order. -/
def allB : List UInt8 := (List.range 256).map UInt8.ofNat
/-- The shelf behind a text that is read from its end. -/
def shelfR : List UInt8 → List UInt8
  | [] => allB
  | d :: r => d :: (shelfR r).erase d
def keyR : List UInt8 → UInt8 → Nat
  | [], b => b.toNat
  | d :: r, b => if b = d then 0 else keyR r b + 1
def shelfA (u : List UInt8) : List UInt8 := shelfR u.reverse
theorem shelfA_snoc (u : List UInt8) (d : UInt8) : shelfA (u ++ [d]) = d :: (shelfA u).erase d := by simp [shelfA, shelfR]
theorem allB_len : allB.length = 256 := by simp [allB]
theorem allB_get (k : Nat) (h : k < 256) : allB.getD k 0 = UInt8.ofNat k := by
  unfold allB; rw [List.getD_eq_getElem?_getD, List.getElem?_map, List.getElem?_range h]; rfl
theorem mem_allB (b : UInt8) : b ∈ allB := by
  unfold allB
  refine List.mem_map.2 ⟨b.toNat, List.mem_range.2 b.toNat_lt, ?_⟩
  simp
theorem mem_shelfR : ∀ (r : List UInt8) (b : UInt8), b ∈ shelfR r
  | [], b => mem_allB b
  | d :: r, b => by
    rw [shelfR]
    by_cases h : b = d
    · subst h; exact List.mem_cons_self
    · exact List.mem_cons_of_mem _ ((List.mem_erase_of_ne h).2 (mem_shelfR r b))
theorem shelfR_perm : ∀ r : List UInt8, (shelfR r).Perm allB
  | [] => List.Perm.refl _
  | d :: r => by
    rw [shelfR]
    exact (List.perm_cons_erase (mem_shelfR r d)).symm.trans (shelfR_perm r)
theorem shelfR_len (r : List UInt8) : (shelfR r).length = 256 := by rw [(shelfR_perm r).length_eq, allB_len]
theorem shelfA_len (u : List UInt8) : (shelfA u).length = 256 := shelfR_len _
theorem allB_sorted : allB.Pairwise fun a b => a.toNat < b.toNat := by
  unfold allB
  rw [List.pairwise_map]
  refine List.Pairwise.imp_of_mem ?_ List.pairwise_lt_range
  intro a b ha hb h
  rw [List.mem_range] at ha hb
  rw [UInt8.toNat_ofNat', UInt8.toNat_ofNat', Nat.mod_eq_of_lt (by omega), Nat.mod_eq_of_lt (by omega)]
  exact h
theorem shelfR_sorted : ∀ r : List UInt8, (shelfR r).Pairwise fun a b => keyR r a < keyR r b
  | [] => allB_sorted
  | d :: r => by
    have h := shelfR_sorted r
    have hnd : (shelfR r).Nodup := h.imp (fun {a b} h2 h3 => by rw [h3] at h2; exact Nat.lt_irrefl _ h2)
    rw [shelfR, List.pairwise_cons]
    constructor
    · intro b hb
      have hne : b ≠ d := fun e => by rw [e] at hb; exact List.Nodup.not_mem_erase hnd hb
      simp only [keyR, if_true, if_neg hne]
      omega
    · refine List.Pairwise.imp_of_mem ?_ (h.sublist List.erase_sublist)
      intro a b ha hb h2
      have hna : a ≠ d := fun e => by rw [e] at ha; exact List.Nodup.not_mem_erase hnd ha
      have hnb : b ≠ d := fun e => by rw [e] at hb; exact List.Nodup.not_mem_erase hnd hb
      simp only [keyR, if_neg hna, if_neg hnb]
      omega
theorem idx_ne {a c : UInt8} (l : List UInt8) (e : a ≠ c) : (a :: l).idxOf c = l.idxOf c + 1 := by
  rw [List.idxOf_cons, beq_eq_false_iff_ne.2 e]; rfl
theorem idx_nodup : ∀ (l : List UInt8), l.Nodup → ∀ k, (h : k < l.length) → l.idxOf l[k] = k
  | [], _, k, h => by simp at h
  | a :: l, hn, 0, h => by simp
  | a :: l, hn, k + 1, h => by
    rw [List.nodup_cons] at hn
    have h2 : k < l.length := by simpa using h
    rw [List.getElem_cons_succ, idx_ne l (fun e => hn.1 (by rw [e]; exact List.getElem_mem h2)), idx_nodup l hn.2 k h2]
theorem idx_count (f : UInt8 → Nat) : ∀ (l : List UInt8), l.Pairwise (fun a b => f a < f b) → ∀ c ∈ l, l.idxOf c = l.countP fun b => decide (f b < f c)
  | [], _, c, hc => by cases hc
  | x :: l, h, c, hc => by
    rw [List.pairwise_cons] at h
    by_cases e : x = c
    · subst e
      rw [List.idxOf_cons_self]
      symm
      rw [List.countP_eq_zero]
      intro b hb
      rcases List.mem_cons.1 hb with rfl | hb
      · simp
      · have := h.1 b hb; simp; omega
    · have hcl : c ∈ l := by
        rcases List.mem_cons.1 hc with h2 | h2
        · exact absurd h2.symm e
        · exact h2
      have h1 := h.1 c hcl
      rw [idx_ne _ e, idx_count f l h.2 c hcl, List.countP_cons_of_pos (by simpa using h1)]
/-- Where a byte stands on the shelf. -/
def ago (u : List UInt8) (c : UInt8) : Nat := (shelfA u).idxOf c
theorem ago_lt (u : List UInt8) (c : UInt8) : ago u c < 256 := by
  have := List.idxOf_lt_length_iff.2 (mem_shelfR u.reverse c)
  rw [shelfR_len] at this; exact this
theorem ago_count (u : List UInt8) (c : UInt8) : ago u c = allB.countP fun b => decide (keyR u.reverse b < keyR u.reverse c) := by
  unfold ago shelfA
  rw [idx_count (keyR u.reverse) _ (shelfR_sorted _) c (mem_shelfR _ c)]
  exact (shelfR_perm _).countP_eq _
theorem keyR_out : ∀ (x y : List UInt8) (b : UInt8), b ∉ x → keyR (x ++ y) b = x.length + keyR y b
  | [], y, b, _ => by simp
  | d :: x, y, b, h => by
    have h1 : b ≠ d := fun e => h (by simp [e])
    rw [List.cons_append, keyR, if_neg h1, keyR_out x y b (fun h2 => h (by simp [h2])), List.length_cons]
    omega
theorem keyR_in : ∀ (x y : List UInt8) (b : UInt8), b ∈ x → keyR (x ++ y) b < x.length
  | [], y, b, h => by cases h
  | d :: x, y, b, h => by
    rw [List.cons_append, keyR, List.length_cons]
    by_cases e : b = d
    · rw [if_pos e]; omega
    · rw [if_neg e]
      have := keyR_in x y b ((List.mem_cons.1 h).resolve_left e)
      omega
/-- A byte that came: the unlike bytes that came since. -/
theorem ago_came (p q : List UInt8) (c : UInt8) (hc : c ∉ q) : ago (p ++ c :: q) c = allB.countP fun b => decide (b ∈ q) := by
  rw [ago_count]
  refine List.countP_congr fun b _ => ?_
  have e : (p ++ c :: q).reverse = q.reverse ++ (c :: p.reverse) := by simp
  rw [e, keyR_out _ _ c (by simpa using hc), keyR, if_pos rfl, Nat.add_zero]
  simp only [decide_eq_true_eq]
  constructor
  · intro h
    refine Decidable.byContradiction fun h2 => ?_
    rw [keyR_out _ _ b (by simpa using h2)] at h
    omega
  · intro h; exact keyR_in _ _ b (by simpa using h)
theorem count_lt_all (c : UInt8) : (allB.countP fun b => decide (b.toNat < c.toNat)) = c.toNat := by
  unfold allB
  rw [List.countP_map]
  have hc := c.toNat_lt
  have : ∀ (n m : Nat), m ≤ n → n ≤ 256 → (List.range n).countP (fun k => decide (k < m)) = m := by
    intro n
    induction n with
    | zero => intro m h _; simp; omega
    | succ n ih =>
      intro m h hn
      rw [List.range_succ, List.countP_append]
      by_cases h2 : m = n + 1
      · subst h2
        rw [show (List.range n).countP (fun k => decide (k < n + 1)) = n from by
          have h5 : (List.range n).countP (fun k => decide (k < n + 1)) = (List.range n).length := by
            rw [List.countP_eq_length]
            intro k hk; rw [List.mem_range] at hk; simp; omega
          rw [h5, List.length_range]]
        simp
      · rw [ih m (by omega) (by omega)]
        have : ¬ n < m := by omega
        simp [this]
  rw [← this 256 c.toNat (by omega) (Nat.le_refl _)]
  refine List.countP_congr fun k hk => ?_
  rw [List.mem_range] at hk
  simp only [Function.comp, decide_eq_true_eq]
  rw [UInt8.toNat_ofNat', Nat.mod_eq_of_lt (by omega), this 256 c.toNat (by omega) (Nat.le_refl _)]
theorem countP_or (P Q : UInt8 → Bool) : ∀ l : List UInt8, (l.countP fun b => P b || Q b) = (l.countP fun b => P b && !Q b) + l.countP Q
  | [] => rfl
  | x :: l => by
    simp only [List.countP_cons, countP_or P Q l]
    cases P x <;> cases Q x <;> simp <;> omega
/-- A byte that never came. -/
theorem ago_never (u : List UInt8) (c : UInt8) (hc : c ∉ u) : ago u c = (allB.countP fun b => decide (b ∈ u ∧ c.toNat < b.toNat)) + c.toNat := by
  rw [ago_count]
  have hk : keyR u.reverse c = u.length + c.toNat := by
    have := keyR_out u.reverse [] c (by simpa using hc)
    simpa [keyR] using this
  have h1 : (allB.countP fun b => decide (keyR u.reverse b < keyR u.reverse c)) = allB.countP fun b => decide (b ∈ u) || decide (b.toNat < c.toNat) := by
    refine List.countP_congr fun b _ => ?_
    rw [hk]
    simp only [decide_eq_true_eq, Bool.or_eq_true]
    by_cases h2 : b ∈ u
    · have := keyR_in u.reverse [] b (by simpa using h2)
      simp at this
      constructor
      · intro _; exact .inl h2
      · intro _; omega
    · have := keyR_out u.reverse [] b (by simpa using h2)
      simp [keyR] at this
      rw [this]
      constructor
      · intro h; exact .inr (by omega)
      · rintro (h | h)
        · exact absurd h h2
        · omega
  rw [h1, countP_or, count_lt_all]
  congr 1
  refine List.countP_congr fun b _ => ?_
  simp only [decide_eq_true_eq, Bool.and_eq_true, Bool.not_eq_true', decide_eq_false_iff_not]
  constructor
  · rintro ⟨h1, h2⟩
    refine ⟨h1, ?_⟩
    have : b ≠ c := fun e => hc (e ▸ h1)
    have : b.toNat ≠ c.toNat := fun e => this (UInt8.toNat_inj.1 e)
    omega
  · rintro ⟨h1, h2⟩; exact ⟨h1, by omega⟩
/-- The ages of the bytes of a text. -/
def ages (u : List UInt8) (n : Nat) : List Nat := (List.range n).map fun i => ago (u.take i) (u.getD i 0)
theorem ages_len (u : List UInt8) (n : Nat) : (ages u n).length = n := by simp [ages]
theorem ages_snoc (u : List UInt8) (n : Nat) : ages u (n + 1) = ages u n ++ [ago (u.take n) (u.getD n 0)] := by
  unfold ages; rw [List.range_succ, List.map_append]; rfl
theorem shelfA_step (u : List UInt8) {n : Nat} (h : n < u.length) : shelfA (u.take (n + 1)) = u.getD n 0 :: (shelfA (u.take n)).erase (u.getD n 0) := by
  rw [List.take_succ_eq_append_getElem h, shelfA_snoc, List.getD_eq_getElem?_getD, List.getElem?_eq_getElem h]; rfl
/-- The place k of a shelf comes to the front. -/
def frontK (x : List UInt8) (k : Nat) : List UInt8 := x.getD k 0 :: (x.take k ++ x.drop (k + 1))
theorem erase_idx : ∀ (x : List UInt8) (c : UInt8), c ∈ x → x.erase c = x.take (x.idxOf c) ++ x.drop (x.idxOf c + 1)
  | [], c, h => by cases h
  | a :: x, c, h => by
    by_cases e : a = c
    · subst e; simp
    · have hc : c ∈ x := (List.mem_cons.1 h).resolve_left (fun h2 => e h2.symm)
      rw [List.erase_cons_tail (by simpa using e), idx_ne _ e, erase_idx x c hc]
      simp
theorem getD_idx (x : List UInt8) (c : UInt8) (h : c ∈ x) : x.getD (x.idxOf c) 0 = c := by
  have h1 := List.idxOf_lt_length_iff.2 h
  rw [List.getD_eq_getElem?_getD, List.getElem?_eq_getElem h1, Option.getD_some]
  exact List.getElem_idxOf h1
theorem shelfA_front (u : List UInt8) {n : Nat} (h : n < u.length) : shelfA (u.take (n + 1)) = frontK (shelfA (u.take n)) (ago (u.take n) (u.getD n 0)) := by
  have hm : u.getD n 0 ∈ shelfA (u.take n) := mem_shelfR _ _
  rw [shelfA_step u h, erase_idx _ _ hm]
  unfold frontK ago
  rw [getD_idx _ _ hm]
/-- The bytes that ages give. -/
def gets (l : List Nat) : List UInt8 := l.foldl (fun u k => u ++ [(shelfA u).getD k 0]) []
theorem gets_snoc (l : List Nat) (k : Nat) : gets (l ++ [k]) = gets l ++ [(shelfA (gets l)).getD k 0] := by simp [gets]
theorem gets_len (l : List Nat) : (gets l).length = l.length := by
  suffices ∀ (l : List Nat) u, (l.foldl (fun u k => u ++ [(shelfA u).getD k 0]) u).length = u.length + l.length by
    have := this l []; simpa [gets] using this
  intro l
  induction l with
  | nil => intro u; simp
  | cons k l ih => intro u; rw [List.foldl_cons, ih]; simp; omega
theorem shelfA_nodup (u : List UInt8) : (shelfA u).Nodup := (shelfR_sorted u.reverse).imp (fun {a b} h2 h3 => by rw [h3] at h2; exact Nat.lt_irrefl _ h2)
theorem idx_get (x : List UInt8) (h : x.Nodup) {k : Nat} (hk : k < x.length) : x.idxOf (x.getD k 0) = k := by
  rw [List.getD_eq_getElem?_getD, List.getElem?_eq_getElem hk, Option.getD_some]
  exact idx_nodup x h k hk
theorem gets_front (l : List Nat) (k : Nat) (hk : k < 256) : shelfA (gets (l ++ [k])) = frontK (shelfA (gets l)) k := by
  rw [gets_snoc, shelfA_snoc, erase_idx (shelfA (gets l)) _ (mem_shelfR _ _), idx_get _ (shelfA_nodup _) (by rw [shelfA_len]; exact hk)]
  rfl
theorem ages_app (u v : List UInt8) : ages (u ++ v) u.length = ages u u.length := by
  unfold ages
  refine List.map_congr_left fun i hi => ?_
  rw [List.mem_range] at hi
  rw [List.take_append_of_le_length (by omega), List.getD_eq_getElem?_getD, List.getElem?_append_left hi, ← List.getD_eq_getElem?_getD]
/-- The ages of the bytes that ages give are these ages. -/
theorem ages_gets_r : ∀ (r : List Nat), (∀ k ∈ r.reverse, k < 256) → ages (gets r.reverse) r.reverse.length = r.reverse
  | [], _ => rfl
  | k :: r, h => by
    rw [List.reverse_cons] at h ⊢
    have h1 := ages_gets_r r fun x hx => h x (by rw [List.mem_append]; exact .inl hx)
    have hk := h k (by simp)
    generalize r.reverse = l at *
    rw [List.length_append, List.length_singleton, ages_snoc, gets_snoc]
    have e := gets_len l
    rw [show ages (gets l ++ [(shelfA (gets l)).getD k 0]) l.length = l from by rw [← e, ages_app, e, h1]]
    congr 1
    rw [List.take_append_of_le_length (by omega), show (gets l).take l.length = gets l from List.take_of_length_le (by omega), List.getD_eq_getElem?_getD, List.getElem?_append_right (by omega), e, Nat.sub_self]
    show [ago (gets l) ((shelfA (gets l)).getD k 0)] = [k]
    unfold ago
    rw [idx_get _ (shelfA_nodup _) (by rw [shelfA_len]; exact hk)]
theorem ages_gets (l : List Nat) (h : ∀ k ∈ l, k < 256) : ages (gets l) l.length = l := by
  have := ages_gets_r l.reverse (by rw [List.reverse_reverse]; exact h)
  rw [List.reverse_reverse] at this; exact this
/-- Runs: equal bytes side by side. -/
abbrev Rn := UInt8 × Int
def runGo (l : List Rn) (c : UInt8) : List Rn :=
  match l.getLast? with
  | some (b, n) => if b = c then l.dropLast ++ [(b, n + 1)] else l ++ [(c, 1)]
  | none => [(c, 1)]
def runsOf (u : List UInt8) : List Rn := u.foldl runGo []
def flatR (l : List Rn) : List UInt8 := (l.map fun r => List.replicate r.2.toNat r.1).flatten
theorem flatR_app (a b : List Rn) : flatR (a ++ b) = flatR a ++ flatR b := by simp [flatR]
theorem flatR_one (r : Rn) : flatR [r] = List.replicate r.2.toNat r.1 := by simp [flatR]
/-- Whole runs: none is empty, no two neighbours are of one byte. -/
structure RunOk (l : List Rn) (u : List UInt8) : Prop where
  flat : flatR l = u
  pos : ∀ r ∈ l, 1 ≤ r.2
  ne : ∀ i, i + 1 < l.length → (l.getD i (0, 0)).1 ≠ (l.getD (i + 1) (0, 0)).1
theorem RunOk.nil : RunOk [] [] := ⟨rfl, fun _ h => (by cases h), fun i h => by simp at h⟩
theorem RunOk.len {l : List Rn} {u : List UInt8} (h : RunOk l u) : l.length ≤ u.length := by
  have h1 := h.pos
  rw [← h.flat]
  clear h
  induction l with
  | nil => simp
  | cons r l ih =>
    have h3 : flatR (r :: l) = List.replicate r.2.toNat r.1 ++ flatR l := by simp [flatR]
    have h4 := ih (fun x hx => h1 x (by simp [hx]))
    have h5 := h1 r (by simp)
    rw [h3, List.length_append, List.length_replicate, List.length_cons]
    omega
theorem getD_snoc_lt {α : Type} (l : List α) (x d : α) {i : Nat} (h : i < l.length) : (l ++ [x]).getD i d = l.getD i d := by
  rw [List.getD_eq_getElem?_getD, List.getElem?_append_left h, ← List.getD_eq_getElem?_getD]
theorem getD_snoc_eq {α : Type} (l : List α) (x d : α) : (l ++ [x]).getD l.length d = x := by
  rw [List.getD_eq_getElem?_getD, List.getElem?_append_right (Nat.le_refl _), Nat.sub_self]; rfl
/-- One more byte like the last. -/
theorem RunOk.more {l : List Rn} {u : List UInt8} {b : UInt8} {n : Int} (h : RunOk (l ++ [(b, n)]) u) : RunOk (l ++ [(b, n + 1)]) (u ++ [b]) := by
  have hn : 1 ≤ n := h.pos (b, n) (by simp)
  refine ⟨?_, ?_, ?_⟩
  · rw [← h.flat, flatR_app, flatR_app, flatR_one, flatR_one, List.append_assoc]
    congr 1
    show List.replicate (n + 1).toNat b = _
    rw [show (n + 1).toNat = n.toNat + 1 from by omega, List.replicate_succ']
  · intro r hr
    rcases List.mem_append.1 hr with h1 | h1
    · exact h.pos r (by simp [h1])
    · rw [List.mem_singleton] at h1; subst h1; show 1 ≤ n + 1; omega
  · intro i hi
    have hi2 : i + 1 < (l ++ [(b, n)]).length := by simpa using hi
    have := h.ne i hi2
    rw [List.length_append, List.length_singleton] at hi
    rw [getD_snoc_lt _ _ _ (by omega)] at this ⊢
    by_cases e : i + 1 = l.length
    · rw [e, getD_snoc_eq] at this ⊢; exact this
    · rw [getD_snoc_lt _ _ _ (by omega)] at this ⊢; exact this
/-- One byte unlike the last. -/
theorem RunOk.fresh {l : List Rn} {u : List UInt8} {c : UInt8} (h : RunOk l u) (hc : l ≠ [] → (l.getD (l.length - 1) (0, 0)).1 ≠ c) : RunOk (l ++ [(c, 1)]) (u ++ [c]) := by
  refine ⟨?_, ?_, ?_⟩
  · rw [flatR_app, h.flat, flatR_one]; rfl
  · intro r hr
    rcases List.mem_append.1 hr with h1 | h1
    · exact h.pos r h1
    · rw [List.mem_singleton] at h1; subst h1; exact Int.le_refl _
  · intro i hi
    rw [List.length_append, List.length_singleton] at hi
    rw [getD_snoc_lt _ _ _ (by omega)]
    by_cases e : i + 1 = l.length
    · rw [e, getD_snoc_eq, show i = l.length - 1 by omega]
      exact hc (by intro h0; rw [h0] at e; simp at e)
    · rw [getD_snoc_lt _ _ _ (by omega)]; exact h.ne i (by omega)
/-- The error of run i behind a text of m bytes. -/
def runE (l : List Rn) (i m : Nat) : Int :=
  if (l.getD i (0, 0)).2 < 1 then 1 else if 0 < i ∧ (l.getD (i - 1) (0, 0)).1 = (l.getD i (0, 0)).1 then 3 else if (200 : Int) - m < (l.getD i (0, 0)).2 then 2 else 0
def wholeE (l : List Rn) : Nat → Nat → Int
  | 0, _ => 0
  | k + 1, m => if runE l (l.length - (k + 1)) m ≠ 0 then runE l (l.length - (k + 1)) m else wholeE l k (m + (l.getD (l.length - (k + 1)) (0, 0)).2.toNat)
def wholE (l : List Rn) : Int := wholeE l l.length 0
def wholV (l : List Rn) : List UInt8 := if wholE l = 0 then flatR l else []
end Go.Proofs.YtncakjchaniheaaDoor
