/- A text that is kept: what cells with a text behind them read as; what the one script of them makes. Plain lists, no program in sight. edit.Place, the reference's Done. An editor of a text: its steps as plain functions; where it lies. -/
import Derived.Test.YtmikckhihfcooaaDoorPk11
import Derived.Test.YtmikckhihfcooaaDoorPk18
import Derived.Test.YtmikckhihfcooaaDoorPk24
import Derived.Test.YtmikckhihfcooaaDoorPk03
import Derived.Test.YtmikckhihfcooaaDoorPk04
import Derived.Test.YtmikckhihfcooaaDoorPk13
import Derived.Test.YtmikckhihfcooaaDoorPk09
namespace Go.Proofs.YtmikckhihfcooaaDoor
/-- A cell's byte, where the text stood behind it. -/
def subC (s : List UInt8) (c : Tc) : UInt8 := if c.1 < 0 then c.2 else s.getD c.1.toNat 0
def subT (s : List UInt8) (l : List Tc) : List UInt8 := l.map (subC s)
theorem subT_len (s : List UInt8) (l : List Tc) : (subT s l).length = l.length := by simp [subT]
theorem subT_ins (s l : List UInt8) : subT s (tIns l) = l := by
  unfold subT tIns
  rw [List.map_map]
  conv => rhs; rw [← List.map_id l]
  refine List.map_congr_left fun c _ => ?_
  simp [subC]
theorem subT_apply (s : List UInt8) (l : List Tc) (es : List Ed) : ∀ p, subT s (tApply l p es) = edTo (subT s l) p es := by
  induction es with
  | nil => intro p; simp [tApply, edTo, subT, List.map_drop]
  | cons x r ih =>
    intro p
    have h := ih (x.at_ + x.del).toNat
    have h2 := subT_ins s x.ins
    simp only [tApply, edTo, ← h]
    conv => rhs; rw [← h2]
    simp [subT, List.map_take, List.map_drop]
theorem subT_done {s : List UInt8} {l : List Tc} {es : List Ed} (h : edErr l.length es = 0) : edDone (subT s l) es = subT s (tApply l 0 es) := by
  rw [edDone_is (by rw [subT_len]; exact h), subT_apply]
theorem subT_start (s : List UInt8) : subT s (tStart s.length) = s := by
  unfold subT tStart
  rw [List.map_map]
  refine List.ext_getElem (by simp) fun i h1 h2 => ?_
  simp only [List.getElem_map, List.getElem_range, Function.comp, subC]
  rw [if_neg (by omega), Int.toNat_natCast, List.getD_eq_getElem?_getD, List.getElem?_eq_getElem h2]
  rfl
/-- Cells from a place on: each that stays stands behind the last one. -/
def Up (n : Nat) : Int → List Tc → Prop
  | _, [] => True
  | a, c :: r => if c.1 < 0 then Up n a r else a ≤ c.1 ∧ c.1 < (n : Int) ∧ Up n (c.1 + 1) r
theorem Up.of {n : Nat} : ∀ {l : List Tc} {a : Int}, ((tF l).filter fun k => decide (0 ≤ k)).Pairwise (· < ·) → (∀ k ∈ tF l, k < (n : Int)) → (∀ k ∈ tF l, 0 ≤ k → a ≤ k) → Up n a l
  | [], _, _, _, _ => trivial
  | c :: r, a, hp, hn, ha => by
    have e : tF (c :: r) = c.1 :: tF r := rfl
    rw [e] at hp hn ha
    rw [List.filter_cons] at hp
    unfold Up
    by_cases hc : c.1 < 0
    · rw [if_pos hc]
      rw [if_neg (by simpa using hc)] at hp
      exact Up.of hp (fun k hk => hn k (by simp [hk])) (fun k hk => ha k (by simp [hk]))
    · rw [if_neg hc]
      rw [if_pos (by simpa using hc), List.pairwise_cons] at hp
      refine ⟨ha _ (by simp) (by omega), hn _ (by simp), Up.of hp.2 (fun k hk => hn k (by simp [hk])) fun k hk h0 => ?_⟩
      have := hp.1 k (List.mem_filter.2 ⟨hk, by simpa using h0⟩)
      omega
theorem Wh.up0 {n : Nat} {l : List Tc} {wh : List Int} (h : Wh n l wh) : Up n 0 l := Up.of h.up h.lt fun _ _ h => h
/-- Where the edits of the one script begin. -/
theorem scr_ge {n : Nat} : ∀ (l : List Tc) (a : Int) (ins : List UInt8), Up n a l → a ≤ n → ∀ x ∈ scr a ins (l ++ [((n : Int), 0)]), a ≤ x.at_
  | [], a, ins, _, han => by
    intro x hx
    rw [List.nil_append, scr, if_neg (by simp only; omega), scr, List.append_nil] at hx
    unfold scrOne at hx
    split at hx
    · rw [List.mem_singleton] at hx; subst hx; exact Int.le_refl _
    · cases hx
  | c :: r, a, ins, hu, han => by
    intro x hx
    unfold Up at hu
    rw [List.cons_append, scr] at hx
    by_cases hc : c.1 < 0
    · rw [if_pos hc] at hu hx
      exact scr_ge r a _ hu han x hx
    · rw [if_neg hc] at hu hx
      obtain ⟨h1, h2, h3⟩ := hu
      rcases List.mem_append.1 hx with h | h
      · unfold scrOne at h
        split at h
        · rw [List.mem_singleton] at h; subst h; exact Int.le_refl _
        · cases h
      · have := scr_ge r (c.1 + 1) [] h3 (by omega) x h
        omega
theorem edTo_step {s : List UInt8} {c : Nat} (hc : c < s.length) {R : List Ed} (hR : ∀ x ∈ R, ((c + 1 : Nat) : Int) ≤ x.at_) : edTo s c R = s.getD c 0 :: edTo s (c + 1) R := by
  have e0 : s.drop c = s.getD c 0 :: s.drop (c + 1) := by
    rw [List.drop_eq_getElem_cons hc, List.getD_eq_getElem?_getD, List.getElem?_eq_getElem hc]; rfl
  cases R with
  | nil => exact e0
  | cons x R =>
    have h1 := hR x (by simp)
    simp only [edTo]
    rw [e0, show x.at_.toNat - c = (x.at_.toNat - (c + 1)) + 1 by omega, List.take_succ_cons]
    simp
theorem edTo_one {s : List UInt8} {a : Nat} {ins : List UInt8} {c : Nat} (hac : a ≤ c) (R : List Ed) : edTo s a (scrOne (a : Int) ins (c : Int) ++ R) = ins ++ edTo s c R := by
  unfold scrOne
  by_cases h : 0 < (c : Int) - (a : Int) ∨ ins ≠ []
  · rw [if_pos h]
    simp only [List.cons_append, List.nil_append, edTo]
    rw [Int.toNat_natCast, Nat.sub_self, List.take_zero, List.nil_append]
    congr 2; omega
  · rw [if_neg h]
    have h1 : a = c := by omega
    have h2 : ins = [] := Decidable.byContradiction fun h3 => h (.inr h3)
    subst h1; subst h2; rfl
/-- What the one script makes of the text. -/
theorem scr_text (s : List UInt8) : ∀ (l : List Tc) (a : Nat) (ins : List UInt8), Up s.length (a : Int) l → a ≤ s.length →
    edTo s a (scr (a : Int) ins (l ++ [((s.length : Int), 0)])) = ins ++ subT s l
  | [], a, ins, _, han => by
    rw [List.nil_append, scr, if_neg (by simp only; omega), scr]
    rw [edTo_one han]
    simp [edTo, subT]
  | c :: r, a, ins, hu, han => by
    unfold Up at hu
    rw [List.cons_append, scr]
    have es : subT s (c :: r) = subC s c :: subT s r := rfl
    rw [es]
    by_cases hc : c.1 < 0
    · rw [if_pos hc] at hu ⊢
      rw [scr_text s r a _ hu han]
      unfold subC; rw [if_pos hc]; simp
    · rw [if_neg hc] at hu ⊢
      obtain ⟨h1, h2, h3⟩ := hu
      obtain ⟨k, hk⟩ : ∃ k : Nat, c.1 = (k : Int) := ⟨c.1.toNat, by omega⟩
      unfold subC; rw [if_neg hc]
      rw [hk] at h1 h2 h3 ⊢
      rw [edTo_one (by omega), edTo_step (by omega) (fun x hx => by have := scr_ge r ((k : Int) + 1) [] h3 (by omega) x hx; omega)]
      have := scr_text s r (k + 1) [] (by rw [show ((k + 1 : Nat) : Int) = (k : Int) + 1 by omega]; exact h3) (by omega)
      rw [show ((k + 1 : Nat) : Int) = (k : Int) + 1 by omega] at this
      rw [this, Int.toNat_natCast]
      rfl
theorem one_fine {n : Nat} {a k : Int} {ins : List UInt8} {p : Option Int} (h0 : 0 ≤ a) (h1 : a ≤ k) (h2 : k ≤ n) (hp : ∀ e, p = some e → e < a) (hc : 0 < k - a ∨ ins ≠ []) : edOne n p ⟨a, k - a, ins⟩ = 0 ∨ edOne n p ⟨a, k - a, ins⟩ = 2 := by
  unfold edOne
  simp only
  rw [if_neg (by omega)]
  by_cases h4 : 40 < ins.length
  · rw [if_pos h4]; exact .inr rfl
  · rw [if_neg h4, if_neg, if_neg]
    · exact .inl rfl
    · rintro ⟨e, he, h⟩; have := hp e he; omega
    · rintro ⟨h5, h6⟩
      rcases hc with h | h
      · omega
      · exact h (List.length_eq_zero_iff.1 h6)
/-- Of the one script no error but for what is too large, or makes too much. -/
theorem scr_errs {n : Nat} : ∀ (l : List Tc) (a : Int) (ins : List UInt8) (p : Option Int) (z : Int), 0 ≤ a → Up n a l → a ≤ n → (∀ e, p = some e → e < a) →
    edGo n p z (scr a ins (l ++ [((n : Int), 0)])) = 0 ∨ edGo n p z (scr a ins (l ++ [((n : Int), 0)])) = 2 ∨ (Chain n p (scr a ins (l ++ [((n : Int), 0)])) ∧ 200 < z + grows (scr a ins (l ++ [((n : Int), 0)])))
  | [], a, ins, p, z, h0, _, han, hp => by
    rw [List.nil_append, scr, if_neg (by simp only; omega), scr, List.append_nil]
    simp only
    unfold scrOne
    by_cases hc : 0 < (n : Int) - a ∨ ins ≠ []
    · rw [if_pos hc]
      simp only [edGo]
      rcases one_fine h0 han (Int.le_refl _) hp hc with h | h
      · rw [if_pos h]
        by_cases hz : 200 < z + ((ins.length : Int) - ((n : Int) - a))
        · rw [if_pos hz]
          exact .inr (.inr ⟨.cons _ _ _ h (.nil _), by simp only [grows]; omega⟩)
        · rw [if_neg hz]; exact .inl rfl
      · rw [if_neg (by rw [h]; decide), h]; exact .inr (.inl rfl)
    · rw [if_neg hc]
      simp only [edGo]
      by_cases hz : 200 < z
      · exact .inr (.inr ⟨.nil _, by simp only [grows]; omega⟩)
      · rw [if_neg hz]; exact .inl rfl
  | c :: r, a, ins, p, z, h0, hu, han, hp => by
    unfold Up at hu
    rw [List.cons_append, scr]
    by_cases hc : c.1 < 0
    · rw [if_pos hc] at hu ⊢
      exact scr_errs r a _ p z h0 hu han hp
    · rw [if_neg hc] at hu ⊢
      obtain ⟨h1, h2, h3⟩ := hu
      unfold scrOne
      by_cases hd : 0 < c.1 - a ∨ ins ≠ []
      · rw [if_pos hd]
        simp only [List.cons_append, List.nil_append, edGo]
        rcases one_fine h0 h1 (Int.le_of_lt h2) hp hd with h | h
        · rw [if_pos h]
          rcases scr_errs r (c.1 + 1) [] (some (a + (c.1 - a))) (z + ((ins.length : Int) - (c.1 - a))) (by omega) h3 (by omega) (fun e he => by simp only [Option.some.injEq] at he; omega) with h5 | h5 | ⟨h5, h6⟩
          · exact .inl h5
          · exact .inr (.inl h5)
          · exact .inr (.inr ⟨.cons _ _ _ h h5, by simp only [grows]; omega⟩)
        · rw [if_neg (by rw [h]; decide), h]; exact .inr (.inl rfl)
      · rw [if_neg hd, List.nil_append]
        exact scr_errs r (c.1 + 1) [] p z (by omega) h3 (by omega) (fun e he => by have := hp e he; omega)
/-- The one script: too large, or right, and then it makes the text that the cells read as. -/
theorem scr_right {s : List UInt8} (hs : s.length ≤ 200) {l : List Tc} (hl : l.length ≤ 200) {wh : List Int} (hw : Wh s.length l wh) :
    (scrE s.length l ≠ 0 → scrE s.length l = 2) ∧ (scrE s.length l = 0 → edDone s (scr 0 [] (l ++ [((s.length : Int), 0)])) = subT s l) := by
  have ht := scr_text s l 0 [] hw.up0 (Nat.zero_le _)
  rw [List.nil_append] at ht
  have h2 := scr_errs l 0 [] none (s.length : Int) (Int.le_refl _) hw.up0 (by omega) (fun _ h => by cases h)
  refine ⟨fun h => ?_, fun h => by rw [edDone_is h]; exact ht⟩
  unfold scrE edErr at h ⊢
  rw [if_neg (by omega)] at h ⊢
  by_cases h20 : 20 < (scr 0 [] (l ++ [((s.length : Int), 0)])).length
  · rw [if_pos h20]
  · rw [if_neg h20] at h ⊢
    rcases h2 with h3 | h3 | ⟨h3, h4⟩
    · exact absurd h3 h
    · exact h3
    · have h5 := edTo_length rfl h3 (k := 0) rfl (Nat.zero_le _)
      have ht' : edTo s 0 (scr 0 [] (l ++ [((s.length : Int), 0)])) = subT s l := ht
      rw [ht', subT_len] at h5
      omega
/-- One edit that is right, at a rope. -/
theorem cutA_text : ∀ (p : Parts) (r : Nat), (cutA r p).flatten = p.flatten.take r
  | [], r => by simp [cutA]
  | x :: l, r => by
    have h : (pcA r x).flatten = x.take r := by
      unfold pcA
      split
      · simp only [List.flatten_cons, List.flatten_nil, List.append_nil]
        rcases Nat.le_total r x.length with h | h
        · rw [Nat.min_eq_left h]
        · rw [Nat.min_eq_right h, List.take_of_length_le (Nat.le_refl _), List.take_of_length_le h]
      · have : r = 0 ∨ x = [] := by
          rcases Nat.eq_zero_or_pos r with h | h
          · exact .inl h
          · exact .inr (List.length_eq_zero_iff.1 (by omega))
        rcases this with rfl | rfl <;> simp
    rw [cutA, List.flatten_append, h, cutA_text l, List.flatten_cons, List.take_append]
theorem cutB_text : ∀ (p : Parts) (r : Nat), (cutB r p).flatten = p.flatten.drop r
  | [], r => by simp [cutB]
  | x :: l, r => by
    have h : (pcB r x).flatten = x.drop r := by
      unfold pcB
      split
      · rename_i h
        simp only [List.flatten_cons, List.flatten_nil, List.append_nil]
        rw [Nat.min_eq_left (by omega)]
      · rw [List.flatten_nil, List.drop_of_length_le (by omega)]
    rw [cutB, List.flatten_append, h, cutB_text l, List.flatten_cons, List.drop_append]
theorem insP_text (x : List UInt8) : (insP x).flatten = x := by
  unfold insP
  split
  · rename_i h; rw [List.length_eq_zero_iff.1 h]; rfl
  · simp
theorem one_zero {n : Int} {x : Ed} (h : edErr n [x] = 0) : 0 ≤ x.at_ ∧ 0 ≤ x.del ∧ x.at_ + x.del ≤ n ∧ x.ins.length ≤ 40 ∧ n + (x.ins.length - x.del) ≤ 200 ∧ n ≤ 200 := by
  obtain ⟨_, h1, _, hc, hg⟩ := edErr_zero.1 h
  obtain ⟨a, b, c, d, _, _⟩ := hc.mem x (by simp)
  simp only [grows] at hg
  exact ⟨a, b, c, d, by omega, h1⟩
theorem rope_one {p : Parts} (hp : RopeOk p) {x : Ed} (h : edErr (tot p) [x] = 0) :
    (ropeEdE p x = 0 ∨ ropeEdE p x = 11) ∧ (ropeEdE p x = 0 → RopeOk (ropeEdP p x) ∧ (ropeEdP p x).flatten = edDone p.flatten [x]) := by
  obtain ⟨h1, h2, h3, h4, h5, h6⟩ := one_zero h
  have ha := hp.cutA x.at_.toNat
  have hm := insP_ok (x := x.ins) (by omega)
  have hc := (hp.cutB x.at_.toNat).cutB x.del.toNat
  have hb : ¬ badAt p x := by unfold badAt; omega
  have hE : ropeEdE p x = if joinErr (edA p x) (insP x.ins) ≠ 0 then 11 else if joinErr (edA p x ++ insP x.ins) (edC p x) ≠ 0 then 11 else 0 := by
    unfold ropeEdE
    rw [if_neg (by rw [ropeErr_zero.2 hp]; decide), if_neg hb, if_neg (by omega)]
  refine ⟨?_, fun h0 => ?_⟩
  · rw [hE]
    split
    · exact .inr rfl
    · split
      · exact .inr rfl
      · exact .inl rfl
  · have hj : joinErr (edA p x) (insP x.ins) = 0 ∧ joinErr (edA p x ++ insP x.ins) (edC p x) = 0 := by
      rw [hE] at h0
      split at h0
      · cases h0
      · split at h0
        · cases h0
        · rename_i g1 g2
          exact ⟨Decidable.byContradiction g1, Decidable.byContradiction g2⟩
    have hok := joinErr_zero (joinErr_zero ha hm hj.1) hc hj.2
    unfold ropeEdP
    rw [if_pos h0]
    refine ⟨hok, ?_⟩
    rw [List.flatten_append, List.flatten_append]
    unfold edA edC
    rw [cutA_text, cutB_text, cutB_text, insP_text, List.drop_drop]
    simp only [edDone]
    congr 2; omega
theorem pcs_text (K : Nat) (s : List UInt8) : ∀ i, (pcs K s i).flatten = s.take (i * K)
  | 0 => by simp [pcs]
  | i + 1 => by
    rw [pcs_snoc, List.flatten_append, pcs_text K s i, Nat.succ_mul, List.take_add]
    simp
theorem of_seven {s : List UInt8} (hs : s.length ≤ 200) : ofE s 7 = 0 ∧ RopeOk (ofP s 7) ∧ (ofP s 7).flatten = s := by
  have e7 : (min (7 : Int) 200).toNat = 7 := rfl
  have hc : cnt 7 s.length ≤ 29 := by unfold cnt; omega
  have hb : ¬ ofBad 7 s.length := by
    rintro (h | h)
    · omega
    · rw [e7] at h; omega
  have hE : ofE s 7 = 0 := by
    unfold ofE
    rw [if_neg (by omega), if_neg hb]
  have ht : (partsOf 7 s).flatten = s := by
    unfold partsOf
    rw [pcs_text, List.take_of_length_le]
    unfold cnt; omega
  have hP : ofP s 7 = partsOf 7 s := by unfold ofP; rw [if_pos hE, e7]
  refine ⟨hE, ?_, by rw [hP]; exact ht⟩
  rw [hP]
  refine ⟨by unfold partsOf; rw [pcs_len]; omega, fun x hx => ?_, by unfold tot; rw [ht]; exact hs⟩
  unfold partsOf pcs at hx
  obtain ⟨j, hj, rfl⟩ := List.mem_map.1 hx
  rw [List.mem_range] at hj
  have := (cnt_lt (n := s.length) (i := j) (K := 7) (by omega)).2 hj
  rw [List.length_take, List.length_drop]; omega
/-- What was done, all of it, and what it came to. -/
structure KeptAt (s tx : List UInt8) (l : List Sc) (cs : List Tc) (wh : List Int) : Prop where
  all : tmAll s.length l = (0, cs)
  wh : Wh s.length cs wh
  sm : cs.length ≤ 200
  tx : tx = subT s cs
theorem tmGo_app : ∀ (a : List (List Ed)) (cs c2 : List Tc) (b : List (List Ed)), tmGo cs a = (0, c2) → tmGo cs (a ++ b) = tmGo c2 b
  | [], cs, c2, b, h => by
    rw [tmGo] at h
    injection h with _ h
    subst h; rfl
  | e :: r, cs, c2, b, h => by
    rw [tmGo] at h
    rw [List.cons_append, tmGo]
    by_cases he : edErr cs.length e = 0
    · rw [if_pos he] at h ⊢
      exact tmGo_app r _ _ b h
    · rw [if_neg he] at h
      injection h with h _
      exact absurd h he
theorem KeptAt.start {s : List UInt8} (hs : s.length ≤ 200) : KeptAt s s [] (tStart s.length) (wStart s.length) :=
  ⟨rfl, Wh.start _, by rw [tStart_len]; exact hs, (subT_start s).symm⟩
theorem KeptAt.step {s tx : List UInt8} {l : List Sc} {cs : List Tc} {wh : List Int} (h : KeptAt s tx l cs wh) (x : Sc) (he : edErr tx.length x.l = 0) :
    KeptAt s (edDone tx x.l) (l ++ [x]) (tApply cs 0 x.l) (wh.map (wOne x.l)) := by
  have htx := h.tx
  have hl : tx.length = cs.length := by rw [htx, subT_len]
  rw [hl] at he
  refine ⟨?_, h.wh.step he, (tApply_len he).2, by rw [htx, subT_done he]⟩
  have h1 := h.all
  unfold tmAll scLists at h1 ⊢
  rw [List.map_append, tmGo_app _ _ _ _ h1]
  simp only [List.map_cons, List.map_nil, tmGo]
  rw [if_pos he]
theorem KeptAt.fin {s tx : List UInt8} {l : List Sc} {cs : List Tc} {wh : List Int} (h : KeptAt s tx l cs wh) (hs : s.length ≤ 200) :
    (manyErr s.length l ≠ 0 → manyErr s.length l = 2) ∧ (manyErr s.length l = 0 → edErr s.length (manyOut s.length l) = 0 ∧ edDone s (manyOut s.length l) = tx) := by
  obtain ⟨h1, h2⟩ := scr_right hs h.sm h.wh
  have h3 := h.all
  have e1 : manyErr s.length l = if 30 < l.length then 2 else scrE s.length cs := by
    unfold manyErr
    rw [if_neg (by omega), Int.toNat_natCast, h3]
    simp
  have e2 : manyOut s.length l = scr 0 [] (cs ++ [((s.length : Int), 0)]) := by
    unfold manyOut
    rw [Int.toNat_natCast, h3]
  rw [e1, e2]
  by_cases h30 : 30 < l.length
  · rw [if_pos h30]
    exact ⟨fun _ => rfl, fun h => by cases h⟩
  · rw [if_neg h30]
    exact ⟨h1, fun h0 => ⟨h0, by rw [h2 h0]; exact h.tx.symm⟩⟩
/-- A record of one edit is short. -/
theorem itoa_short : ∀ n : Fin 201, (Lib.itoa (n.val : Int)).length ≤ 3 := by decide +kernel
theorem itoa_le {z : Int} (h0 : 0 ≤ z) (h1 : z ≤ 200) : (Lib.itoa z).length ≤ 3 := by
  obtain ⟨n, rfl⟩ : ∃ n : Nat, z = (n : Int) := ⟨z.toNat, by omega⟩
  exact itoa_short ⟨n, by omega⟩
theorem kept_rec {n : Int} {x : Ed} (h : edErr n [x] = 0) (d : ByteArray) : appErr d (recE (S (wrL [x]))) = 0 ∨ appErr d (recE (S (wrL [x]))) = 11 := by
  obtain ⟨h1, h2, h3, h4, h5, h6⟩ := one_zero h
  have hw : (wrL [x]).length ≤ 60 := by
    have a1 := itoa_le h1 (by omega)
    have a2 := itoa_le h2 (by omega)
    have a3 := itoa_le (z := (x.ins.length : Int)) (by omega) (by omega)
    unfold wrL wrE
    simp only [List.flatMap_cons, List.flatMap_nil, List.append_nil, List.length_append, List.length_cons, List.length_nil]
    omega
  have hs : (recE (S (wrL [x]))).size ≤ 61 := by rw [recE_size, S_size]; omega
  unfold appErr
  rw [if_neg (by omega)]
  split
  · exact .inr rfl
  · exact .inl rfl
end Go.Proofs.YtmikckhihfcooaaDoor
namespace Go.Proofs.YtmikckhihfcooaaDoor
open Go.RowKit
/-- What Place answers. -/
def plErr (n : Int) (l : List Ed) (at_ : Int) : Int := if edErr n l = 0 then (if at_ < 0 ∨ n < at_ then 1 else 0) else edErr n l
def plOut (n : Int) (l : List Ed) (at_ : Int) : Int × Bool := if plErr n l at_ = 0 then plc at_ 0 l else (0, false)
theorem ret_ibi {a b : Int} {x y : Bool} {p q : Int} (h : a = b) (k : x = y) (m : p = q) : Ending.returned (.tuple #[.int .i64 a, .bool x, .int .i64 p]) = .returned (.tuple #[.int .i64 b, .bool y, .int .i64 q]) := by rw [h, k, m]
/-- What the reference's Done has come to, the k first edits still to do. -/
theorem done_bounds {s : List UInt8} {l : List Ed} (h : edErr s.length l = 0) {k : Nat} (hk : k < l.length) :
    ∃ a d : Nat, l[k].at_ = a ∧ l[k].del = d ∧ a + d ≤ (edDone s (l.drop (k + 1))).length ∧ (edDone s (l.drop (k + 1))).length ≤ 1000 ∧ l[k].ins.length ≤ 40 ∧
      edDone s (l.drop k) = (edDone s (l.drop (k + 1))).take a ++ l[k].ins ++ (edDone s (l.drop (k + 1))).drop (a + d) := by
  obtain ⟨h0, h1, h2, hc, h3⟩ := edErr_zero.1 h
  have hm := hc.mem l[k] (List.getElem_mem hk)
  obtain ⟨a, ha⟩ := Int.eq_ofNat_of_zero_le hm.1
  obtain ⟨d, hd⟩ := Int.eq_ofNat_of_zero_le hm.2.1
  have hch : ∀ (l : List Ed) (p : Option Int), Chain s.length p l → ∀ j, ∃ q, Chain s.length q (l.drop j) ∧ (∀ (hj : j - 1 < l.length), 0 < j → q = some (l[j - 1].at_ + l[j - 1].del)) := by
    intro l p hc
    induction hc with
    | nil => intro j; exact ⟨none, by rw [List.drop_nil]; exact .nil _, fun hj => by simp at hj⟩
    | cons p x r h0 h ih =>
      intro j
      cases j with
      | zero => exact ⟨p, .cons _ _ _ h0 h, fun _ h => absurd h (by omega)⟩
      | succ j =>
        obtain ⟨q, hq, hq2⟩ := ih j
        cases j with
        | zero => exact ⟨_, h, fun _ _ => rfl⟩
        | succ j => exact ⟨q, hq, fun hj _ => by have := hq2 (by simpa using hj) (by omega); simpa using this⟩
  obtain ⟨q, hq, hq2⟩ := hch l none hc (k + 1)
  have hq3 := hq2 (by simpa using hk) (by omega)
  simp only [Nat.add_sub_cancel] at hq3
  subst hq3
  have hle : a + d ≤ s.length := by omega
  have e1 := edDone_eq rfl hq (k := a + d) (by simp only [after]; omega) hle
  have e2 := edTo_length rfl hq (k := a + d) (by simp only [after]; omega) hle
  have e3 := congrArg List.length e1
  rw [List.length_append, List.length_take] at e3
  have e4 := hq.grows_le
  have e5 : (l.drop (k + 1)).length ≤ 20 := by rw [List.length_drop]; omega
  refine ⟨a, d, ha, hd, by omega, by omega, hm.2.2.2.1, ?_⟩
  rw [drop_cons_get hk, edDone, ha, hd]
  congr 1
end Go.Proofs.YtmikckhihfcooaaDoor
namespace Go.Proofs.YtmikckhihfcooaaDoor
open Go.RowKit
structure Es where
  text : List UInt8
  back : List (List UInt8)
  onward : List (List UInt8)
def doE (s : Es) (l : List Ed) : Int := if edErr s.text.length l = 0 then (if l.length = 0 then 5 else 0) else edErr s.text.length l
def doS (s : Es) (l : List Ed) : Es := if doE s l = 0 then ⟨edDone s.text l, (s.back ++ [s.text]).drop (s.back.length + 1 - 30), []⟩ else s
def undoE (s : Es) : Int := if s.back.length = 0 then 4 else 0
def undoS (s : Es) : Es := if s.back.length = 0 then s else ⟨s.back.getD (s.back.length - 1) [], s.back.take (s.back.length - 1), s.onward ++ [s.text]⟩
def redoE (s : Es) : Int := if s.onward.length = 0 then 4 else 0
def redoS (s : Es) : Es := if s.onward.length = 0 then s else ⟨s.onward.getD (s.onward.length - 1) [], s.back ++ [s.text], s.onward.take (s.onward.length - 1)⟩
/-- What always holds of an editor. -/
structure EsOk (s : Es) : Prop where
  t : s.text.length ≤ 200
  b : ∀ x ∈ s.back, x.length ≤ 200
  o : ∀ x ∈ s.onward, x.length ≤ 200
  n : s.back.length + s.onward.length ≤ 30
theorem edDone_len {s : List UInt8} {l : List Ed} (h : edErr s.length l = 0) : (edDone s l).length ≤ 200 := by
  obtain ⟨_, _, _, hc, hg⟩ := edErr_zero.1 h
  rw [edDone_is h]
  have := edTo_length (n := s.length) rfl hc (k := 0) rfl (Nat.zero_le _)
  omega
theorem EsOk.do_ {s : Es} (h : EsOk s) (l : List Ed) : EsOk (doS s l) := by
  unfold doS
  split
  · rename_i h0
    have he : edErr s.text.length l = 0 := by
      unfold doE at h0
      by_cases he : edErr s.text.length l = 0
      · exact he
      · rw [if_neg he] at h0; exact h0
    refine ⟨edDone_len he, fun x hx => ?_, (fun x hx => absurd hx (by simp)), ?_⟩
    · have := List.mem_of_mem_drop hx
      rcases List.mem_append.1 this with h1 | h1
      · exact h.b x h1
      · simp only [List.mem_singleton] at h1; subst h1; exact h.t
    · have := h.n
      simp only [List.length_drop, List.length_append, List.length_singleton, List.length_nil]; omega
  · exact h
theorem getD_mem_last {l : List (List UInt8)} (h : ¬ l.length = 0) : l.getD (l.length - 1) [] ∈ l := by
  rw [List.getD_eq_getElem?_getD, List.getElem?_eq_getElem (by omega)]
  exact List.getElem_mem _
theorem EsOk.undo {s : Es} (h : EsOk s) : EsOk (undoS s) := by
  unfold undoS
  split
  · exact h
  · rename_i h0
    have := h.n
    refine ⟨h.b _ (getD_mem_last h0), fun x hx => h.b x (List.mem_of_mem_take hx), fun x hx => ?_, by simp only [List.length_take, List.length_append, List.length_singleton]; omega⟩
    rcases List.mem_append.1 hx with h1 | h1
    · exact h.o x h1
    · simp only [List.mem_singleton] at h1; subst h1; exact h.t
theorem EsOk.redo {s : Es} (h : EsOk s) : EsOk (redoS s) := by
  unfold redoS
  split
  · exact h
  · rename_i h0
    have := h.n
    refine ⟨h.o _ (getD_mem_last h0), fun x hx => ?_, fun x hx => h.o x (List.mem_of_mem_take hx), by simp only [List.length_take, List.length_append, List.length_singleton]; omega⟩
    rcases List.mem_append.1 hx with h1 | h1
    · exact h.b x h1
    · simp only [List.mem_singleton] at h1; subst h1; exact h.t
/-- An editor lies in block g. -/
structure EdSt (w : World) (base g : Nat) (s : Es) (vB vO : Value) : Prop where
  blk : Blk w g 56 #[.string (S s.text), vB, vO]
  lo : base ≤ g
  b : OwnO w base 9 1 vB s.back.length (strCells s.back)
  o : OwnO w base 9 1 vO s.onward.length (strCells s.onward)
  ap : Apart vB vO
/-- A world that is as it was, but for new blocks and the blocks in K. -/
structure Chg (w w' : World) (K : Nat → Prop) : Prop where
  os : w'.os = w.os
  tape : w'.tape = w.tape
  output : w'.output = w.output
  size : w.heap.size ≤ w'.heap.size
  block : ∀ k, k < w.heap.size → ¬ K k → w'.heap[k]? = w.heap[k]?
section
variable {w w' w2 : World} {K K' : Nat → Prop} {base g : Nat} {s : Es} {vB vO v u : Value} {e : TypeId} {size n : Nat} {xs : List Value}
theorem Chg.of_below (h : Below w.heap.size w w') (K : Nat → Prop) : Chg w w' K := ⟨h.os, h.tape, h.output, h.size, fun k hk _ => h.block k hk⟩
theorem Chg.of_gb {row : Option Nat} (h : w.grownBy w' row) (hK : ∀ k, row = some k → K k) : Chg w w' K := ⟨h.os, h.tape, h.output, h.size, fun k hk hn => h.block k hk (fun e => hn (hK k e.symm))⟩
theorem Chg.trans (h : Chg w w' K) (h2 : Chg w' w2 K') (hK : ∀ k, K' k → k < w.heap.size → K k) : Chg w w2 K :=
  ⟨h2.os.trans h.os, h2.tape.trans h.tape, h2.output.trans h.output, Nat.le_trans h.size h2.size, fun k hk hn => (h2.block k (Nat.lt_of_lt_of_le hk h.size) (fun h' => hn (hK k h' hk))).trans (h.block k hk hn)⟩
theorem Chg.below (h : Chg w w' K) (hK : ∀ k, K k → base ≤ k) (hs : base ≤ w.heap.size) : Below base w w' :=
  ⟨h.os, h.tape, h.output, h.size, fun k hk => h.block k (Nat.lt_of_lt_of_le hk hs) (fun h' => by have := hK k h'; omega)⟩
theorem OwnO.chg (h : OwnO w base e size v n xs) (hc : Chg w w' K) (hK : ∀ k, v.ownBlock = some k → ¬ K k) : OwnO w' base e size v n xs := by
  refine ⟨h.1, ?_⟩
  rcases h.2 with hn | ⟨g, o, cap, cur, rfl, hb, hgg, rest⟩
  · exact .inl hn
  · refine .inr ⟨g, o, cap, cur, rfl, hb, ?_, rest⟩
    rw [hc.block g (Array.getElem?_eq_some_iff.1 hgg).1 (hK g rfl)]
    exact hgg
theorem EdSt.below (h : EdSt w base g s vB vO) (hb : Below w.heap.size w w') : EdSt w' base g s vB vO := ⟨h.blk.below' hb, h.lo, h.b.below hb, h.o.below hb, h.ap⟩
theorem EdSt.far (h : EdSt w base g s vB vO) (hg : w.grownBy w' v.ownBlock) (hgv : some g ≠ v.ownBlock) (hB : Apart vB v) (hO : Apart vO v) : EdSt w' base g s vB vO :=
  ⟨h.blk.grown hg hgv, h.lo, h.b.kept hg hB, h.o.kept hg hO, h.ap⟩
theorem OwnO.lower {base' : Nat} (h : OwnO w base e size v n xs) (hb : base' ≤ base) : OwnO w base' e size v n xs := by
  refine ⟨h.1, ?_⟩
  rcases h.2 with h | ⟨g, o, cap, cur, h1, h2, h3⟩
  · exact .inl h
  · exact .inr ⟨g, o, cap, cur, h1, by omega, h3⟩
end
theorem apartO_new {w w' : World} {base : Nat} {e : TypeId} {size n : Nat} {v u v' : Value} {xs : List Value} (h : OwnO w base e size v n xs) (ha : Apart v u) (hu : v'.ownBlock = u.ownBlock ∨ v'.ownBlock = some w'.heap.size) (hs : w.heap.size ≤ w'.heap.size) : Apart v v' := by
  rcases hu with hu | hu
  · rcases ha with ha | ha
    · exact .inl ha
    · exact .inr (by rw [hu]; exact ha)
  · cases hv : v.ownBlock with
    | none => exact .inl hv
    | some g =>
      refine .inr ?_
      rw [hv, hu]
      intro e
      have := (h.lt g hv).2
      simp only [Option.some.injEq] at e
      omega
theorem OwnO.far {w : World} {base : Nat} {e : TypeId} {size n g : Nat} {v : Value} {xs : List Value} (h : OwnO w base e size v n xs) (hg : v.ownBlock = none ∨ v.ownBlock ≠ some g) (i : Nat) (u : Value) : OwnO (w.setCell ⟨g, i, none⟩ u) base e size v n xs := h.kept (gb_set (gb_refl _ _) i u) hg
/-- What comes on, appended to: the editor's third field. -/
theorem EdSt.app {w w' : World} {base g : Nat} {st x : List UInt8} {sb so : List (List UInt8)} {vB vO v6 : Value} (h : EdSt w base g ⟨st, sb, so⟩ vB vO) (hg : w.grownBy w' vO.ownBlock) (hgv : some g ≠ vO.ownBlock)
    (hown : OwnO w' base 9 1 v6 (so.length + 1) (strCells so ++ [.string (S x)])) (ha : v6.ownBlock = vO.ownBlock ∨ v6.ownBlock = some w.heap.size) :
    EdSt (w'.setCell ⟨g, 2, none⟩ v6) base g ⟨st, sb, so ++ [x]⟩ vB v6 := by
  have hB := h.blk.grown hg hgv
  have ho : OwnO w' base 9 1 v6 (so ++ [x]).length (strCells (so ++ [x])) := by
    rw [List.length_append, strCells, List.map_append]; exact hown
  have hb' := h.b.kept hg h.ap
  exact ⟨hB.set_ 2 v6, h.lo, hb'.far (hb'.ne_blk hB (by decide)) _ _, ho.far (ho.ne_blk hB (by decide)) _ _, apartO_new h.b h.ap ha (Nat.le_refl _)⟩
/-- What was, appended to: the editor's second field. -/
theorem EdSt.appB {w w' : World} {base g : Nat} {st x : List UInt8} {sb so : List (List UInt8)} {vB vO v6 : Value} (h : EdSt w base g ⟨st, sb, so⟩ vB vO) (hg : w.grownBy w' vB.ownBlock) (hgv : some g ≠ vB.ownBlock)
    (hown : OwnO w' base 9 1 v6 (sb.length + 1) (strCells sb ++ [.string (S x)])) (ha : v6.ownBlock = vB.ownBlock ∨ v6.ownBlock = some w.heap.size) :
    EdSt (w'.setCell ⟨g, 1, none⟩ v6) base g ⟨st, sb ++ [x], so⟩ v6 vO := by
  have hB := h.blk.grown hg hgv
  have ho : OwnO w' base 9 1 v6 (sb ++ [x]).length (strCells (sb ++ [x])) := by
    rw [List.length_append, strCells, List.map_append]; exact hown
  have hb' := h.o.kept hg h.ap.comm
  exact ⟨hB.set_ 1 v6, h.lo, ho.far (ho.ne_blk hB (by decide)) _ _, hb'.far (hb'.ne_blk hB (by decide)) _ _, (apartO_new h.o h.ap.comm ha (Nat.le_refl _)).comm⟩
theorem EdSt.text_ {w : World} {base g : Nat} {st : List UInt8} {sb so : List (List UInt8)} {vB vO : Value} (h : EdSt w base g ⟨st, sb, so⟩ vB vO) (x : List UInt8) : EdSt (w.setCell ⟨g, 0, none⟩ (.string (S x))) base g ⟨x, sb, so⟩ vB vO :=
  ⟨h.blk.set_ 0 _, h.lo, h.b.far (h.b.ne_blk h.blk (by decide)) _ _, h.o.far (h.o.ne_blk h.blk (by decide)) _ _, h.ap⟩
theorem cut_own {w : World} {base : Nat} {A : Option Addr} {m c k : Nat} {l : List (List UInt8)} (h : OwnO w base 9 1 (.slice A m c) l.length (strCells l)) (hm : m = l.length) (hk : k ≤ m) (hA : A ≠ none) : OwnO w base 9 1 (.slice A k c) (l.take k).length (strCells (l.take k)) := by
  subst hm
  have := h.front A c k rfl hk hA
  rw [Nat.mul_one] at this
  rw [List.length_take, Nat.min_eq_left hk, strCells, List.map_take]
  exact this
theorem EdSt.cutB {w : World} {base g : Nat} {st : List UInt8} {sb so : List (List UInt8)} {A : Option Addr} {m c k : Nat} {vO : Value} (h : EdSt w base g ⟨st, sb, so⟩ (.slice A m c) vO) (hm : m = sb.length) (hk : k ≤ m) (hA : A ≠ none) :
    EdSt (w.setCell ⟨g, 1, none⟩ (.slice A k c)) base g ⟨st, sb.take k, so⟩ (.slice A k c) vO := by
  have h1 := cut_own h.b hm hk hA
  refine ⟨h.blk.set_ 1 _, h.lo, h1.far (h1.ne_blk h.blk (by decide)) _ _, h.o.far (h.o.ne_blk h.blk (by decide)) _ _, ?_⟩
  have := h.ap
  cases A with
  | none => exact absurd rfl hA
  | some a => exact this
theorem EdSt.cutO {w : World} {base g : Nat} {st : List UInt8} {sb so : List (List UInt8)} {A : Option Addr} {m c k : Nat} {vB : Value} (h : EdSt w base g ⟨st, sb, so⟩ vB (.slice A m c)) (hm : m = so.length) (hk : k ≤ m) (hA : A ≠ none) :
    EdSt (w.setCell ⟨g, 2, none⟩ (.slice A k c)) base g ⟨st, sb, so.take k⟩ vB (.slice A k c) := by
  have h1 := cut_own h.o hm hk hA
  refine ⟨h.blk.set_ 2 _, h.lo, h.b.far (h.b.ne_blk h.blk (by decide)) _ _, h1.far (h1.ne_blk h.blk (by decide)) _ _, ?_⟩
  have := h.ap
  cases A with
  | none => exact absurd rfl hA
  | some a => exact this
/-- A row's block is one of these, or new. -/
def Fresh (w : World) (v' : Value) (vB vO : Value) : Prop := ∀ k, v'.ownBlock = some k → vB.ownBlock = some k ∨ vO.ownBlock = some k ∨ w.heap.size ≤ k
def EdK (g : Nat) (vB vO : Value) : Nat → Prop := fun k => k = g ∨ vB.ownBlock = some k ∨ vO.ownBlock = some k
theorem Fresh.left (w : World) (vB vO : Value) : Fresh w vB vB vO := fun _ h => .inl h
theorem Fresh.right (w : World) (vB vO : Value) : Fresh w vO vB vO := fun _ h => .inr (.inl h)
theorem Fresh.nil_ (w : World) (vB vO : Value) : Fresh w (.slice none 0 0) vB vO := fun _ h => by simp [Value.ownBlock] at h
end Go.Proofs.YtmikckhihfcooaaDoor
