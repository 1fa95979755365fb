/- Many edits as one: cells of a text, and where its bytes come to lie. No program in sight. A region that draws its order, walked once along a schedule: operations that yield in every world of a class are taken as soon as they may come up; where one of the others comes up, it is the only one that may. No program in sight. edit.Check, the reference's EditsErr and Grows. -/
import Derived.Test.YtmikckhihfcooaaDoorPk01
import Derived.OrdersHeld
import Derived.Deep.RegionHeld
namespace Go.Proofs.YtmikckhihfcooaaDoor
/-- A cell: where it stood (-1: it was put), and its byte. -/
abbrev Tc := Int × UInt8
def tIns (l : List UInt8) : List Tc := l.map fun c => (-1, c)
def tApply (l : List Tc) : Nat → List Ed → List Tc
  | p, [] => l.drop p
  | p, x :: r => (l.drop p).take (x.at_.toNat - p) ++ tIns x.ins ++ tApply l (x.at_ + x.del).toNat r
def tText (l : List Tc) : List UInt8 := l.map fun c => if c.1 < 0 then c.2 else 63
theorem tText_len (l : List Tc) : (tText l).length = l.length := by simp [tText]
theorem tText_ins (l : List UInt8) : tText (tIns l) = l := by
  unfold tText tIns
  rw [List.map_map]
  conv => rhs; rw [← List.map_id l]
  refine List.map_congr_left fun c _ => ?_
  simp
theorem tText_apply (l : List Tc) (es : List Ed) : ∀ p, tText (tApply l p es) = edTo (tText l) p es := by
  induction es with
  | nil => intro p; simp [tApply, edTo, tText, List.map_drop]
  | cons x r ih =>
    intro p
    have h := ih (x.at_ + x.del).toNat
    have h2 := tText_ins x.ins
    simp only [tApply, edTo, ← h]
    conv => rhs; rw [← h2]
    simp [tText, List.map_take, List.map_drop]
theorem tText_done {l : List Tc} {es : List Ed} (h : edErr l.length es = 0) : edDone (tText l) es = tText (tApply l 0 es) := by
  rw [edDone_is (by rw [tText_len]; exact h), tText_apply]
theorem tApply_len {l : List Tc} {es : List Ed} (h : edErr l.length es = 0) : ((tApply l 0 es).length : Int) = l.length + grows es ∧ (tApply l 0 es).length ≤ 200 := by
  obtain ⟨_, _, _, hc, hg⟩ := edErr_zero.1 h
  have := edTo_length (s := tText l) (tText_len l) hc (k := 0) rfl (Nat.zero_le _)
  rw [← tText_apply, tText_len] at this
  omega
/-- The places of cells. -/
def tF (l : List Tc) : List Int := l.map (·.1)
theorem tF_len (l : List Tc) : (tF l).length = l.length := by simp [tF]
theorem tF_get (l : List Tc) (j : Nat) : (tF l)[j]? = (l[j]?).map (·.1) := by simp [tF]
/-- A place that stays. -/
theorem tA_keep {n : Nat} {l : List Tc} (hl : l.length = n) {es : List Ed} : ∀ {pp : Option Int} {p : Nat}, Chain n pp es → after p pp → p ≤ n → ∀ j, p ≤ j → j < n → ∀ mv, (plc j mv es).2 = true →
    (p : Int) ≤ (plc j mv es).1 - mv ∧ (tF (tApply l p es))[((plc j mv es).1 - mv - p).toNat]? = (tF l)[j]? := by
  induction es with
  | nil =>
    intro pp p _ _ hp j hj hjn mv _
    simp only [plc, tApply]
    refine ⟨by omega, ?_⟩
    rw [tF_get, tF_get, List.getElem?_drop]
    congr 2; omega
  | cons x r ih =>
    intro pp p hc ha hp j hj hjn mv hk
    cases hc with
    | cons _ _ _ h0 h =>
      obtain ⟨h1, h2, h3, h4, h5, h6, h7⟩ := edOne_zero h0
      have hk2 : (p : Int) ≤ x.at_ := by
        cases pp with
        | none => simp only [after] at ha; omega
        | some e => simp only [after] at ha; have := h7 e rfl; omega
      simp only [plc] at hk ⊢
      simp only [tApply]
      by_cases c1 : (j : Int) < x.at_
      · rw [if_pos c1]
        refine ⟨by simp only; omega, ?_⟩
        rw [tF_get, tF_get, List.append_assoc, List.getElem?_append_left (by rw [List.length_take, List.length_drop]; simp only; omega), List.getElem?_take_of_lt (by simp only; omega), List.getElem?_drop]
        congr 2; simp only; omega
      · rw [if_neg c1] at hk ⊢
        by_cases c2 : (j : Int) < x.at_ + x.del
        · rw [if_pos c2] at hk; cases hk
        · rw [if_neg c2] at hk ⊢
          have h9 := ih (pp := some (x.at_ + x.del)) (p := (x.at_ + x.del).toNat) h (by simp only [after]; omega) (by omega) j (by omega) hjn (mv + (x.ins.length - x.del)) hk
          refine ⟨by omega, ?_⟩
          rw [← h9.2, tF_get, tF_get, List.getElem?_append_right (by rw [List.length_append, List.length_take, List.length_drop, tIns, List.length_map]; omega)]
          congr 2
          rw [List.length_append, List.length_take, List.length_drop, tIns, List.length_map]; omega
/-- What is there was put, or stays. -/
theorem tA_mem {n : Nat} {l : List Tc} (hl : l.length = n) {es : List Ed} : ∀ {pp : Option Int} {p : Nat}, Chain n pp es → after p pp → p ≤ n → ∀ k, k ∈ tF (tApply l p es) → k = -1 ∨ ∃ j, p ≤ j ∧ j < n ∧ (tF l)[j]? = some k ∧ ∀ mv, (plc j mv es).2 = true := by
  induction es with
  | nil =>
    intro pp p _ _ hp k hk
    right
    simp only [tApply, tF, List.map_drop] at hk
    obtain ⟨j, hj, e⟩ := List.getElem_of_mem hk
    rw [List.length_drop, List.length_map] at hj
    refine ⟨p + j, by omega, by omega, ?_, fun mv => rfl⟩
    rw [List.getElem_drop] at e
    rw [← e]
    exact List.getElem?_eq_getElem (by rw [tF_len]; omega)
  | cons x r ih =>
    intro pp p hc ha hp k hk
    cases hc with
    | cons _ _ _ h0 h =>
      obtain ⟨h1, h2, h3, h4, h5, h6, h7⟩ := edOne_zero h0
      have hk2 : (p : Int) ≤ x.at_ := by
        cases pp with
        | none => simp only [after] at ha; omega
        | some e => simp only [after] at ha; have := h7 e rfl; omega
      simp only [tApply, tF, List.map_append, List.mem_append] at hk
      rcases hk with (hk | hk) | hk
      · right
        rw [List.map_take, List.map_drop] at hk
        obtain ⟨j, hj, e⟩ := List.getElem_of_mem hk
        rw [List.length_take, List.length_drop, List.length_map] at hj
        refine ⟨p + j, by omega, by omega, ?_, fun mv => ?_⟩
        · rw [List.getElem_take, List.getElem_drop] at e
          rw [← e]
          exact List.getElem?_eq_getElem (by rw [tF_len]; omega)
        · simp only [plc]; rw [if_pos (by omega)]
      · left
        simp only [tIns, List.map_map, List.mem_map, Function.comp] at hk
        obtain ⟨_, _, rfl⟩ := hk; rfl
      · rcases ih (pp := some (x.at_ + x.del)) (p := (x.at_ + x.del).toNat) h (by simp only [after]; omega) (by omega) k hk with h9 | ⟨j, hj, hjn, e, h9⟩
        · exact .inl h9
        · refine .inr ⟨j, by omega, hjn, e, fun mv => ?_⟩
          simp only [plc]
          rw [if_neg (by omega), if_neg (by omega)]
          exact h9 _
theorem tA_sub {n : Nat} {l : List Tc} {es : List Ed} : ∀ {pp : Option Int} {p : Nat}, Chain n pp es → after p pp → p ≤ n → ((tF (tApply l p es)).filter fun k => decide (0 ≤ k)).Sublist (((tF l).drop p).filter fun k => decide (0 ≤ k)) := by
  induction es with
  | nil => intro pp p _ _ _; simp [tApply, tF, List.map_drop]
  | cons x r ih =>
    intro pp p hc ha hp
    cases hc with
    | cons _ _ _ h0 h =>
      obtain ⟨h1, h2, h3, h4, h5, h6, h7⟩ := edOne_zero h0
      have hk2 : (p : Int) ≤ x.at_ := by
        cases pp with
        | none => simp only [after] at ha; omega
        | some e => simp only [after] at ha; have := h7 e rfl; omega
      have h9 := ih (pp := some (x.at_ + x.del)) (p := (x.at_ + x.del).toNat) h (by simp only [after]; omega) (by omega)
      have e0 : ((tIns x.ins).map (·.1)).filter (fun k : Int => decide (0 ≤ k)) = [] := by
        rw [List.filter_eq_nil_iff]
        intro k hk
        simp only [tIns, List.map_map, List.mem_map, Function.comp] at hk
        obtain ⟨_, _, rfl⟩ := hk; decide
      have e1 : (tF l).drop p = ((tF l).drop p).take (x.at_.toNat - p) ++ (tF l).drop x.at_.toNat := by
        conv => lhs; rw [← List.take_append_drop (x.at_.toNat - p) ((tF l).drop p)]
        rw [List.drop_drop]; congr 2; omega
      rw [e1, List.filter_append]
      simp only [tApply, tF, List.map_append, List.filter_append, e0, List.append_nil]
      refine List.Sublist.append ?_ ?_
      · rw [List.map_take, List.map_drop]; exact List.Sublist.refl _
      · refine h9.trans (List.Sublist.filter _ ?_)
        have : (tF l).drop (x.at_ + x.del).toNat = ((tF l).drop x.at_.toNat).drop ((x.at_ + x.del).toNat - x.at_.toNat) := by
          rw [List.drop_drop]; congr 1; omega
        rw [this]
        exact List.drop_sublist _ _
/-- Where the bytes of the first text lie. -/
structure Wh (n : Nat) (l : List Tc) (wh : List Int) : Prop where
  len : wh.length = n
  is_ : ∀ k, k < n → (wh.getD k 0 = -1 ∧ (k : Int) ∉ tF l) ∨ ∃ j : Nat, wh.getD k 0 = (j : Int) ∧ (tF l)[j]? = some (k : Int)
  up : ((tF l).filter fun k => decide (0 ≤ k)).Pairwise (· < ·)
  lt : ∀ k ∈ tF l, k < (n : Int)
  lo : ∀ k ∈ tF l, -1 ≤ k
def tStart (n : Nat) : List Tc := (List.range n).map fun k : Nat => ((k : Int), (0 : UInt8))
theorem tStart_F (n : Nat) : tF (tStart n) = (List.range n).map fun k : Nat => (k : Int) := by simp [tF, tStart]
theorem tStart_text (n : Nat) : tText (tStart n) = List.replicate n 63 := by
  unfold tText tStart
  rw [List.map_map, List.eq_replicate_iff]
  refine ⟨by simp, fun b hb => ?_⟩
  obtain ⟨k, _, rfl⟩ := List.mem_map.1 hb
  simp only [Function.comp]
  rw [if_neg (by omega)]
def wStart (n : Nat) : List Int := (List.range n).map fun k : Nat => (k : Int)
theorem Wh.start (n : Nat) : Wh n (tStart n) (wStart n) := by
  have hg : ∀ k, k < n → ((List.range n).map fun k : Nat => (k : Int))[k]? = some (k : Int) := fun k hk => by
    rw [List.getElem?_map, List.getElem?_range hk]; rfl
  refine ⟨by simp [wStart], fun k hk => .inr ⟨k, ?_, ?_⟩, ?_, ?_, ?_⟩
  · rw [List.getD_eq_getElem?_getD, wStart, hg k hk]; rfl
  · rw [tStart_F, hg k hk]
  · rw [tStart_F]
    refine List.Pairwise.filter _ ?_
    rw [List.pairwise_map]
    exact List.pairwise_lt_range.imp fun h => by omega
  · rw [tStart_F]; intro k hk
    obtain ⟨j, hj, rfl⟩ := List.mem_map.1 hk
    rw [List.mem_range] at hj; omega
  · rw [tStart_F]; intro k hk
    obtain ⟨j, hj, rfl⟩ := List.mem_map.1 hk
    omega
/-- In a row that rises but for what is below nought, each place stands once. -/
theorem up_uniq {F : List Int} (h : (F.filter fun k => decide (0 ≤ k)).Pairwise (· < ·)) : ∀ {i j : Nat} {k : Int}, F[i]? = some k → F[j]? = some k → 0 ≤ k → i = j := by
  induction F with
  | nil => intro i j k h1; simp at h1
  | cons a F ih =>
    intro i j k h1 h2 hk
    have hF : (F.filter fun k => decide (0 ≤ k)).Pairwise (· < ·) := by
      rw [List.filter_cons] at h
      split at h
      · exact (List.pairwise_cons.1 h).2
      · exact h
    have hn : ∀ i : Nat, F[i]? = some k → a ≠ k := fun i hi e => by
      subst e
      rw [List.filter_cons, if_pos (by simpa using hk), List.pairwise_cons] at h
      have := h.1 a (List.mem_filter.2 ⟨List.mem_of_getElem? hi, by simpa using hk⟩)
      omega
    cases i with
    | zero =>
      cases j with
      | zero => rfl
      | succ j =>
        simp only [List.getElem?_cons_zero, Option.some.injEq] at h1
        rw [List.getElem?_cons_succ] at h2
        exact absurd h1 (hn j h2)
    | succ i =>
      rw [List.getElem?_cons_succ] at h1
      cases j with
      | zero =>
        simp only [List.getElem?_cons_zero, Option.some.injEq] at h2
        exact absurd h2 (hn i h1)
      | succ j =>
        rw [List.getElem?_cons_succ] at h2
        rw [ih hF h1 h2 hk]
theorem up_lt {F : List Int} (h : (F.filter fun k => decide (0 ≤ k)).Pairwise (· < ·)) : ∀ {i j : Nat} {a b : Int}, i < j → F[i]? = some a → F[j]? = some b → 0 ≤ a → 0 ≤ b → a < b := by
  induction F with
  | nil => intro i j a b _ h1; simp at h1
  | cons c F ih =>
    intro i j a b hij h1 h2 ha hb
    have hF : (F.filter fun k => decide (0 ≤ k)).Pairwise (· < ·) := by
      rw [List.filter_cons] at h
      split at h
      · exact (List.pairwise_cons.1 h).2
      · exact h
    obtain ⟨j, rfl⟩ : ∃ m, j = m + 1 := ⟨j - 1, by omega⟩
    rw [List.getElem?_cons_succ] at h2
    cases i with
    | zero =>
      simp only [List.getElem?_cons_zero, Option.some.injEq] at h1
      subst h1
      rw [List.filter_cons, if_pos (by simpa using ha), List.pairwise_cons] at h
      exact h.1 b (List.mem_filter.2 ⟨List.mem_of_getElem? h2, by simpa using hb⟩)
    | succ i =>
      rw [List.getElem?_cons_succ] at h1
      exact ih hF (by omega) h1 h2 ha hb
/-- Where a byte that lies there comes to lie. -/
def wOne (es : List Ed) (at_ : Int) : Int := if 0 ≤ at_ then (if (plc at_ 0 es).2 = true then (plc at_ 0 es).1 else -1) else at_
theorem Wh.step {n : Nat} {l : List Tc} {wh : List Int} (h : Wh n l wh) {es : List Ed} (he : edErr l.length es = 0) : Wh n (tApply l 0 es) (wh.map (wOne es)) := by
  obtain ⟨_, _, _, hc, _⟩ := edErr_zero.1 he
  refine ⟨by rw [List.length_map, h.len], fun k hk => ?_, ?_, ?_, ?_⟩
  · have e : (wh.map (wOne es)).getD k 0 = wOne es (wh.getD k 0) := by
      rw [List.getD_eq_getElem?_getD, List.getElem?_map, List.getD_eq_getElem?_getD, List.getElem?_eq_getElem (by rw [h.len]; exact hk)]; rfl
    rw [e]
    rcases h.is_ k hk with ⟨h1, h2⟩ | ⟨j, h1, h2⟩
    · left
      rw [h1]
      refine ⟨rfl, fun h3 => ?_⟩
      rcases tA_mem rfl hc (p := 0) rfl (Nat.zero_le _) _ h3 with h4 | ⟨j, _, _, h4, _⟩
      · omega
      · exact h2 (List.mem_of_getElem? h4)
    · rw [h1]
      have hjn : j < l.length := by
        have := (List.getElem?_eq_some_iff.1 h2).1
        rw [tF_len] at this; exact this
      unfold wOne
      rw [if_pos (by omega)]
      by_cases hp : (plc j 0 es).2 = true
      · right
        rw [if_pos hp]
        have h9 := tA_keep rfl hc (p := 0) rfl (Nat.zero_le _) j (Nat.zero_le _) hjn 0 hp
        refine ⟨(plc j 0 es).1.toNat, by have := h9.1; omega, ?_⟩
        have := h9.2
        rw [h2] at this
        rw [← this]
        congr 1; omega
      · left
        rw [if_neg hp]
        refine ⟨rfl, fun h3 => ?_⟩
        rcases tA_mem rfl hc (p := 0) rfl (Nat.zero_le _) _ h3 with h4 | ⟨i, _, _, h4, h5⟩
        · omega
        · obtain rfl := up_uniq h.up h2 h4 (by omega)
          exact hp (h5 0)
  · have := tA_sub (l := l) hc (p := 0) rfl (Nat.zero_le _)
    rw [List.drop_zero] at this
    exact h.up.sublist this
  · intro k hk
    rcases tA_mem rfl hc (p := 0) rfl (Nat.zero_le _) _ hk with h4 | ⟨i, _, _, h4, h5⟩
    · omega
    · exact h.lt k (List.mem_of_getElem? h4)
  · intro k hk
    rcases tA_mem rfl hc (p := 0) rfl (Nat.zero_le _) _ hk with h4 | ⟨i, _, _, h4, h5⟩
    · omega
    · exact h.lo k (List.mem_of_getElem? h4)
/-- The script that makes cells. -/
def scrOne (a : Int) (ins : List UInt8) (k : Int) : List Ed := if 0 < k - a ∨ ins ≠ [] then [⟨a, k - a, ins⟩] else []
def scr : Int → List UInt8 → List Tc → List Ed
  | _, _, [] => []
  | a, ins, c :: r => if c.1 < 0 then scr a (ins ++ [c.2]) r else scrOne a ins c.1 ++ scr (c.1 + 1) [] r
theorem scr_neg (r : List Tc) : ∀ (m : List Tc) (a : Int) (ins : List UInt8), (∀ c ∈ m, c.1 < 0) → scr a ins (m ++ r) = scr a (ins ++ m.map (·.2)) r
  | [], a, ins, _ => by simp
  | c :: m, a, ins, h => by
    rw [List.cons_append, scr, if_pos (h c (by simp)), scr_neg r m a _ fun x hx => h x (by simp [hx])]
    simp
/-- Where the document's last loop stands, ahead of k. -/
structure ScrAt (n : Nat) (l : List Tc) (k from_ begin_ : Nat) (out : List Ed) : Prop where
  split : scr 0 [] (l ++ [((n : Int), 0)]) = out ++ scr from_ [] ((l ++ [((n : Int), 0)]).drop begin_)
  fk : from_ ≤ k
  ge : ∀ j, begin_ ≤ j → ∀ x, (tF l)[j]? = some x → 0 ≤ x → (k : Int) ≤ x
  lt : ∀ j, j < begin_ → ∀ x, (tF l)[j]? = some x → 0 ≤ x → x < (k : Int)
  bl : begin_ ≤ l.length
theorem ScrAt.start (n : Nat) (l : List Tc) : ScrAt n l 0 0 0 [] := ⟨by simp, Nat.le_refl _, fun _ _ x _ h => h, fun j h => by omega, Nat.zero_le _⟩
theorem ScrAt.skip {n : Nat} {l : List Tc} {k f b : Nat} {out : List Ed} (h : ScrAt n l k f b out) (hk : (k : Int) ∉ tF l) : ScrAt n l (k + 1) f b out := by
  refine ⟨h.split, by have := h.fk; omega, fun j hj x hx h0 => ?_, fun j hj x hx h0 => ?_, h.bl⟩
  · have h1 := h.ge j hj x hx h0
    have : x ≠ k := fun e => hk (by rw [← e]; exact List.mem_of_getElem? hx)
    omega
  · have := h.lt j hj x hx h0; omega
/-- The row of cells with the end behind it. -/
theorem scr_meet {n : Nat} {l : List Tc} {k f b : Nat} {j : Nat} (hj : (tF (l ++ [((n : Int), 0)]))[j]? = some (k : Int))
    (hneg : ∀ i, b ≤ i → i < j → ∀ x, (tF l)[i]? = some x → x < 0) (hbj : b ≤ j) (hjl : j ≤ l.length) :
    scr f [] ((l ++ [((n : Int), 0)]).drop b) = scrOne f (((tText l).take j).drop b) k ++ scr (k + 1) [] ((l ++ [((n : Int), 0)]).drop (j + 1)) := by
  have e1 : (l ++ [((n : Int), 0)]).drop b = ((l.take j).drop b) ++ (l ++ [((n : Int), 0)]).drop j := by
    have e0 := (List.take_append_drop (j - b) ((l ++ [((n : Int), (0 : UInt8))]).drop b)).symm
    rw [List.drop_drop, show b + (j - b) = j by omega] at e0
    refine e0.trans ?_
    congr 1
    rw [List.drop_append_of_le_length (by omega), List.take_append_of_le_length (by rw [List.length_drop]; omega), List.drop_take]
  rw [tF_get] at hj
  have hlt : j < (l ++ [((n : Int), 0)]).length := by rw [List.length_append, List.length_singleton]; omega
  rw [List.getElem?_eq_getElem hlt] at hj
  simp only [Option.map_some, Option.some.injEq] at hj
  have hn : ∀ c ∈ (l.take j).drop b, c.1 < 0 := by
    intro c hc
    obtain ⟨i, hi, e⟩ := List.getElem_of_mem hc
    rw [List.length_drop, List.length_take] at hi
    rw [List.getElem_drop, List.getElem_take] at e
    have := hneg (b + i) (by omega) (by omega) c.1 (by rw [tF_get, List.getElem?_eq_getElem (by omega), ← e]; rfl)
    exact this
  rw [e1, scr_neg _ _ _ _ hn, List.drop_eq_getElem_cons hlt, scr, hj, if_neg (by omega), List.nil_append]
  congr 2
  unfold tText
  rw [← List.map_take, ← List.map_drop]
  refine List.map_congr_left fun c hc => ?_
  rw [if_pos (hn c hc)]
theorem ScrAt.hit {n : Nat} {l : List Tc} {k f b : Nat} {out : List Ed} (h : ScrAt n l k f b out) (hup : ((tF l).filter fun k => decide (0 ≤ k)).Pairwise (· < ·)) {j : Nat} (hj : (tF l)[j]? = some (k : Int)) :
    b ≤ j ∧ j < l.length ∧ ScrAt n l (k + 1) (k + 1) (j + 1) (out ++ scrOne f (((tText l).take j).drop b) k) := by
  have hjl : j < l.length := by
    have := (List.getElem?_eq_some_iff.1 hj).1
    rw [tF_len] at this; exact this
  have hbj : b ≤ j := by
    refine Decidable.byContradiction fun h1 => ?_
    have := h.lt j (by omega) _ hj (by omega)
    omega
  have hneg : ∀ i, b ≤ i → i < j → ∀ x, (tF l)[i]? = some x → x < 0 := by
    intro i h1 h2 x hx
    refine Decidable.byContradiction fun h3 => ?_
    have h4 := h.ge i h1 x hx (by omega)
    have h5 := up_lt hup h2 hx hj (by omega) (by omega)
    omega
  refine ⟨hbj, hjl, ?_, Nat.le_refl _, ?_, ?_, by omega⟩
  · have hj' : (tF (l ++ [((n : Int), 0)]))[j]? = some (k : Int) := by
      unfold tF; rw [List.map_append, List.getElem?_append_left (by rw [List.length_map]; exact hjl)]; exact hj
    rw [h.split, scr_meet hj' hneg hbj (by omega), List.append_assoc]
    rfl
  · intro i hi x hx h0
    have := up_lt hup (show j < i by omega) hj hx (by omega) h0
    omega
  · intro i hi x hx h0
    by_cases e : i = j
    · subst e; rw [hj] at hx; simp only [Option.some.injEq] at hx; omega
    · have := up_lt hup (show i < j by omega) hx hj h0 (by omega)
      omega
/-- The end. -/
theorem ScrAt.fin {n : Nat} {l : List Tc} {f b : Nat} {out : List Ed} (h : ScrAt n l n f b out) (hlt : ∀ k ∈ tF l, k < (n : Int)) :
    scr 0 [] (l ++ [((n : Int), 0)]) = out ++ scrOne f ((tText l).drop b) n := by
  have hneg : ∀ i, b ≤ i → i < l.length → ∀ x, (tF l)[i]? = some x → x < 0 := by
    intro i h1 h2 x hx
    refine Decidable.byContradiction fun h3 => ?_
    have h4 := h.ge i h1 x hx (by omega)
    have := hlt x (List.mem_of_getElem? hx)
    omega
  have hj : (tF (l ++ [((n : Int), 0)]))[l.length]? = some (n : Int) := by
    unfold tF; rw [List.map_append, List.getElem?_append_right (by rw [List.length_map]; omega), List.length_map, Nat.sub_self]; rfl
  rw [h.split, scr_meet hj hneg h.bl (Nat.le_refl _)]
  have e0 : (l ++ [((n : Int), (0 : UInt8))]).drop (l.length + 1) = [] := List.drop_eq_nil_of_le (by rw [List.length_append, List.length_singleton]; omega)
  rw [List.take_of_length_le (by rw [tText_len]; omega), e0]
  simp [scr]
end Go.Proofs.YtmikckhihfcooaaDoor
namespace Go.Proofs.YtmikckhihfcooaaDoor
open Go.RowKit

/-- An operation that, where it goes through, hands back a value: it calls no Go function and writes nothing by its kind. -/
def stillKind (o : Oper) : Bool :=
  match o.op with
  | .move _ | .assign _ | .nilCheck _ | .pick .. | .load .. | .binOp .. | .unOp .. | .convert .. | .slice .. | .fieldAddr .. | .field .. | .indexAddr .. | .index .. | .lookup .. | .extract .. | .build .. => true
  | .call c => match c.callee with
    | .builtin .len | .builtin .cap | .builtin .min | .builtin .max => true
    | _ => false
  | _ => false

theorem value_of_v {P : Program} {s : Sem Value} {w w' : World} {n : Next} (h : (do let x ← s; pure (Next.value x) : Sem Next).run P w = .ok n w') : ∃ u, n = .value u := by
  simp only [Sem.run_bind, Sem.run_pure] at h
  cases hs : s.run P w with
  | ok v w1 => rw [hs] at h; simp only [Result.andThen_ok, Result.ok.injEq] at h; exact ⟨v, h.1.symm⟩
  | halt x w1 => rw [hs] at h; simp [Result.andThen] at h

theorem ok_bind {α β : Type} {s : Sem α} {k : α → Sem β} {P : Program} {w w' : World} {b : β} (h : (s >>= k).run P w = .ok b w') : ∃ a w1, (k a).run P w1 = .ok b w' := by
  rw [Sem.run_bind] at h
  cases hs : s.run P w with
  | ok a w1 => rw [hs] at h; exact ⟨a, w1, h⟩
  | halt x w1 => rw [hs] at h; simp [Result.andThen] at h
theorem not_ok_panic (P : Program) (w w' : World) {n : Next} : ¬ (runtimePanic .nilDeref : Sem Next).run P w = .ok n w' := by
  intro h
  simp [runtimePanic, goPanic, go_sem] at h
theorem stillKind_value {o : Oper} (hk : stillKind o = true) {ρ : Operand → Value} {P : Program} {w w' : World} {n : Next} (h : (execOp ρ o).run P w = .ok n w') : ∃ u, n = .value u := by
  unfold stillKind at hk
  unfold execOp at h
  cases ho : o.op <;> rw [ho] at hk h <;> simp only [Bool.false_eq_true] at hk <;> dsimp only at h
  case move => simp only [Sem.run_pure, Result.ok.injEq] at h; exact ⟨_, h.1.symm⟩
  case assign => simp only [Sem.run_pure, Result.ok.injEq] at h; exact ⟨_, h.1.symm⟩
  case pick c a b =>
    simp only [Sem.run_bind, Sem.run_pure] at h
    cases hs : (asBool (ρ c)).run P w with
    | ok v w1 => rw [hs] at h; simp only [Result.andThen_ok, Result.ok.injEq] at h; exact ⟨_, h.1.symm⟩
    | halt x w1 => rw [hs] at h; simp [Result.andThen] at h
  case nilCheck x =>
    split at h
    · exact absurd h (not_ok_panic _ _ _)
    · exact absurd h (not_ok_panic _ _ _)
    · exact absurd h (not_ok_panic _ _ _)
    · split at h
      · exact absurd h (not_ok_panic _ _ _)
      · obtain ⟨a, w1, h⟩ := ok_bind h
        obtain ⟨b, w2, h⟩ := ok_bind h
        split at h
        · obtain ⟨c, w3, h⟩ := ok_bind h
          simp only [Sem.run_pure, Result.ok.injEq] at h; exact ⟨_, h.1.symm⟩
        · simp only [Sem.run_pure, Result.ok.injEq] at h; exact ⟨_, h.1.symm⟩
      · simp only [Sem.run_pure, Result.ok.injEq] at h; exact ⟨_, h.1.symm⟩
    · simp only [Sem.run_pure, Result.ok.injEq] at h; exact ⟨_, h.1.symm⟩
  case call c =>
    obtain ⟨callee, args, argTypes⟩ := c
    cases callee with
    | builtin b =>
      simp only [resolve, invoke, Sem.run_bind, Sem.run_pure, Result.andThen_ok] at h
      cases b <;> simp only [Bool.false_eq_true] at hk <;> exact value_of_v (by simpa [builtin, Sem.run_bind, Sem.run_pure] using h)
    | _ => simp only [Bool.false_eq_true] at hk
  all_goals exact value_of_v h

section
variable {P : Program} {ops : Array Oper} {Q : Exit → Act → World → Prop} {C : World → Prop}

theorem yieldsIf_of_quiet {o : Oper} {a : Act} {v : Value} (hk : stillKind o = true) (hw : Region.wanted o (yielded ops a.tmps) = true) (h : ∀ w, C w → o.quietAt P a C w v) : YieldsIf P ops C o v a := by
  refine .inl ⟨hw, fun w hC => ?_⟩
  have h1 := h w hC
  unfold Oper.quietAt at h1
  cases hr : (execOp a.eval o).run P w with
  | ok n w' =>
    rw [hr] at h1
    obtain ⟨u, rfl⟩ := stillKind_value hk hr
    simp only [Oper.quietUpon] at h1
    rw [h1.1, h1.2]
  | halt x w' => rw [hr] at h1; simp only [Oper.quietUpon] at h1

/-- What stands behind one operation of the other kind. -/
def schedTo (C : World → Prop) (K : Act → World → Prop) (Q : Exit → Act → World → Prop) : Exit → Act → World → Prop
  | .normal, a, w => C w ∧ K a w
  | .exit id, a, w => Q (.exit id) a w
  | .goto l, a, w => Q (.goto l) a w
  | .ret, a, w => Q .ret a w
  | .panic c, a, w => Q (.panic c) a w
  | .outgrown, a, w => Q .outgrown a w

/-- A fact that nothing unfolds into. -/
structure Shut (p : Prop) : Prop where
  out : p
/-- THE WALK ALONG A SCHEDULE (true: yields in every world of the class). -/
def wpSched (P : Program) (ops : Array Oper) (C : World → Prop) (Q : Exit → Act → World → Prop) : List (Bool × Oper) → Act → World → Prop
  | [], a, w => Shut (Q .normal a w)
  | (true, o) :: rest, a, w => Shut (if Region.wanted o (yielded ops a.tmps) then o.quiet P a C (fun a' => wpSched P ops C Q rest a' w) else wpSched P ops C Q rest (a.put o.dst undef) w)
  | (false, o) :: rest, a, w => Shut (wpList P ops (schedTo C (fun a' w' => wpSched P ops C Q rest a' w') Q) [o] a w)

/-- May the schedule be followed? -/
def schedB (ops : Array Oper) : List (Nat × Bool) → Array Bool → Bool
  | [], listed => (Region.ready .any ops listed).isEmpty
  | (i, true) :: rest, listed => (Region.ready .any ops listed).contains i && Region.free .any ops listed i && (match ops[i]? with | some o => stillKind o | none => false) && schedB ops rest (listed.setIfInBounds i true)
  | (i, false) :: rest, listed => (Region.ready .any ops listed == [i]) && schedB ops rest (listed.setIfInBounds i true)
def opersOf (ops : Array Oper) : List (Nat × Bool) → List (Bool × Oper)
  | [] => []
  | (i, b) :: rest => match ops[i]? with
    | some o => (b, o) :: opersOf ops rest
    | none => opersOf ops rest

theorem hQput (hQ : ∀ c a (d : Tmp) v w, Q (.panic c) (Act.put a (some d) v) w → Q (.panic c) a w) (c : List PanicEntry) (a : Act) (d : Option Tmp) (v : Value) (w : World) (h : Q (.panic c) (Act.put a d v) w) : Q (.panic c) a w := by
  cases d with
  | none => exact h
  | some d => exact hQ c a d v w h
theorem wpAnyH_sched (hs : Region.noSelect ops = true) (hQ : ∀ c a (d : Tmp) v w, Q (.panic c) (Act.put a (some d) v) w → Q (.panic c) a w) :
    ∀ (σ : List (Nat × Bool)) (listed : Array Bool) (a : Act) (w : World), schedB ops σ listed = true → C w → wpSched P ops C Q (opersOf ops σ) a w → wpAnyH P .any ops Q C σ.length listed a w
  | [], listed, a, w, hB, _, h => by
    refine ⟨?_, h.out⟩
    simpa [schedB] using hB
  | (i, true) :: rest, listed, a, w, hB, hC, h => by
    simp only [schedB, Bool.and_eq_true] at hB
    obtain ⟨⟨⟨hr, hf⟩, hk⟩, hB'⟩ := hB
    cases hi : ops[i]? with
    | none => rw [hi] at hk; simp at hk
    | some o =>
      rw [hi] at hk
      simp only [opersOf, hi] at h
      unfold wpSched at h
      replace h := h.out
      by_cases hw : Region.wanted o (yielded ops a.tmps) = true
      · rw [if_pos hw] at h
        obtain ⟨v, h1, h2⟩ := h
        exact wpAnyH_take hi hs hf hr (fun c a w hh => hQput hQ c a _ _ w hh) (yieldsIf_of_quiet hk hw h1) hC (wpAnyH_sched hs hQ rest _ _ _ hB' hC h2)
      · rw [if_neg hw] at h
        exact wpAnyH_take hi hs hf hr (fun c a w hh => hQput hQ c a _ _ w hh) (.inr ⟨by simpa using hw, rfl⟩) hC (wpAnyH_sched hs hQ rest _ _ _ hB' hC h)
  | (i, false) :: rest, listed, a, w, hB, hC, h => by
    simp only [schedB, Bool.and_eq_true, beq_iff_eq] at hB
    obtain ⟨hr, hB'⟩ := hB
    refine wpAnyH_all hr (by simp) fun j hj => ?_
    obtain rfl : j = i := by simpa using hj
    cases hi : ops[j]? with
    | none =>
      exfalso
      have hm : j ∈ Region.ready .any ops listed := by rw [hr]; simp
      obtain ⟨_, o, ho, _⟩ := mem_ready.1 hm
      rw [hi] at ho; cases ho
    | some o =>
      simp only [opersOf, hi] at h
      unfold wpSched at h
      replace h := h.out
      unfold wpList at h
      unfold wpOp
      simp only [hi]
      have hlet : LetsOut (schedTo C (fun a' w' => wpSched P ops C Q (opersOf ops rest) a' w') Q) → LetsOut Q := fun ⟨a, w, hh⟩ => ⟨a, w, hh⟩
      by_cases hw : Region.wanted o (yielded ops a.tmps) = true
      · rw [if_pos hw] at h ⊢
        rcases h with h | ⟨h1, h2⟩
        · left
          unfold Oper.wp at h ⊢
          generalize (execOp a.eval o).run P w = r at *
          cases r with
          | ok n w' =>
            cases n <;> simp only [Oper.upon] at h ⊢
            case enter f args =>
              exact h.mono fun e w'' hh => by
                cases e with
                | returned v => exact ⟨hh.1, wpAnyH_sched hs hQ rest _ _ _ hB' hh.1 hh.2⟩
                | panicked c => exact hh
                | outgrown => exact hlet hh
            case row row args => exact h.mono fun v w'' hh => ⟨hh.1, wpAnyH_sched hs hQ rest _ _ _ hB' hh.1 hh.2⟩
            all_goals first
              | exact ⟨h.1, wpAnyH_sched hs hQ rest _ _ _ hB' h.1 h.2⟩
              | exact h
          | halt x w' =>
            cases x <;> simp only [Oper.upon] at h ⊢
            all_goals exact h
        · exact .inr ⟨h1, hlet h2⟩
      · rw [if_neg hw] at h ⊢
        exact ⟨h.1, wpAnyH_sched hs hQ rest _ _ _ hB' h.1 h.2⟩

theorem wp_region_sched {id : Nat} {a : Act} {w : World} (σ : List (Nat × Bool)) (C : World → Prop) (hm : P.follows .mixedOrders = true) (hs : Region.noSelect ops = true) (hlen : σ.length = ops.size)
    (hQ : ∀ c a (d : Tmp) v w, Q (.panic c) (Act.put a (some d) v) w → Q (.panic c) a w) (hB : schedB ops σ (Array.replicate ops.size false) = true) (hC : C w.drew)
    (h : wpSched P ops C Q (opersOf ops σ) a w.drew) : (Code.region id ops true).wp P Q a w :=
  wp_region_held hm (by rw [← hlen]; exact wpAnyH_sched hs hQ σ _ a _ (by rw [hlen]; exact hB) hC h)
theorem wpSched_nil {a : Act} {w : World} (h : Q .normal a w) : wpSched P ops C Q [] a w := ⟨h⟩
theorem wpSched_want {a : Act} {w : World} {o : Oper} {rest : List (Bool × Oper)} (hw : Region.wanted o (yielded ops a.tmps) = true)
    (h : ∀ K : Act → Prop, (∀ a, wpSched P ops C Q rest a w → K a) → o.quiet P a C K) : wpSched P ops C Q ((true, o) :: rest) a w := by
  unfold wpSched
  refine ⟨?_⟩
  rw [if_pos hw]
  exact h _ (fun _ h => h)
theorem wpSched_skip {a : Act} {w : World} {o : Oper} {rest : List (Bool × Oper)} (hw : Region.wanted o (yielded ops a.tmps) = false)
    (h : wpSched P ops C Q rest (a.put o.dst undef) w) : wpSched P ops C Q ((true, o) :: rest) a w := by
  unfold wpSched
  refine ⟨?_⟩
  rw [if_neg (by rw [hw]; simp)]
  exact h
theorem wanted_none {tmps : Array Value} {o : Oper} (hg : o.guard = none) : Region.wanted o (yielded ops tmps) = true := by unfold Region.wanted; rw [hg]
def boolOf : Value → Option Bool
  | .bool c => some c
  | _ => none
theorem wanted_slot {ops : Array Oper} {tmps : Array Value} {o : Oper} {j : Nat} {b : Bool} (d : Tmp) {v : Value} (hg : o.guard = some (j, b)) (hd : (ops[j]?).bind (·.dst) = some d) (hv : tmps[d]? = some v) :
    Region.wanted o (yielded ops tmps) = (boolOf v == some b) := by
  unfold Region.wanted
  rw [hg]
  have e : yielded ops tmps j = boolOf v := by
    unfold yielded
    generalize he : ((ops[j]?).bind (·.dst)).bind (tmps[·]?) = x
    have hx : x = some v := by rw [← he, hd]; exact hv
    subst hx
    cases v <;> rfl
  show (yielded ops tmps j == some b) = _
  rw [e]
theorem wpSched_free {a : Act} {w : World} {o : Oper} {rest : List (Bool × Oper)} (hg : o.guard = none)
    (h : ∀ K : Act → Prop, (∀ a, wpSched P ops C Q rest a w → K a) → o.quiet P a C K) : wpSched P ops C Q ((true, o) :: rest) a w := wpSched_want (wanted_none hg) h
theorem wpSched_wantS {a : Act} {w : World} {o : Oper} {rest : List (Bool × Oper)} {j : Nat} {b : Bool} (d : Tmp) (hg : o.guard = some (j, b)) (hd : (ops[j]?).bind (·.dst) = some d) (hv : a.tmps[d]? = some (.bool b))
    (h : ∀ K : Act → Prop, (∀ a, wpSched P ops C Q rest a w → K a) → o.quiet P a C K) : wpSched P ops C Q ((true, o) :: rest) a w := wpSched_want ((wanted_slot d hg hd hv).trans (by simp [boolOf])) h
theorem wpSched_skipS {a : Act} {w : World} {o : Oper} {rest : List (Bool × Oper)} {j : Nat} {b c : Bool} (d : Tmp) (hg : o.guard = some (j, b)) (hd : (ops[j]?).bind (·.dst) = some d) (hv : a.tmps[d]? = some (.bool c)) (hb : (c == b) = false)
    (h : wpSched P ops C Q rest (a.put o.dst undef) w) : wpSched P ops C Q ((true, o) :: rest) a w := wpSched_skip ((wanted_slot d hg hd hv).trans (by simpa [boolOf] using hb)) h
theorem wpSched_skipU {a : Act} {w : World} {o : Oper} {rest : List (Bool × Oper)} {j : Nat} {b : Bool} (d : Tmp) (hg : o.guard = some (j, b)) (hd : (ops[j]?).bind (·.dst) = some d) (hv : a.tmps[d]? = some undef)
    (h : wpSched P ops C Q rest (a.put o.dst undef) w) : wpSched P ops C Q ((true, o) :: rest) a w := wpSched_skip ((wanted_slot d hg hd hv).trans rfl) h
theorem wpSched_other {a : Act} {w : World} {o : Oper} {rest : List (Bool × Oper)} (h : wpList P ops (schedTo C (fun a' w' => wpSched P ops C Q rest a' w') Q) [o] a w) : wpSched P ops C Q ((false, o) :: rest) a w := ⟨h⟩
end
/-- The worlds in which F holds. -/
structure Wof (F : World → Prop) where
  w : World
  h : F w
def inWof (F : World → Prop) : World → Prop := fun w' => ∃ p : Wof F, w' = p.w
theorem wp_region_schedF {P : Program} {ops : Array Oper} {Q : Exit → Act → World → Prop} {id : Nat} {a : Act} {w : World} (σ : List (Nat × Bool)) (F : World → Prop) (hm : P.follows .mixedOrders = true) (hs : Region.noSelect ops = true) (hlen : σ.length = ops.size)
    (hQ : ∀ c a (d : Tmp) v w, Q (.panic c) (Act.put a (some d) v) w → Q (.panic c) a w) (hB : schedB ops σ (Array.replicate ops.size false) = true) (hF : F w) (hd : F w → F w.drew)
    (h : Nonempty (Wof F) → wpSched P ops (fun w' => ∃ p : Wof F, w' = p.w) Q (opersOf ops σ) a w.drew) : (Code.region id ops true).wp P Q a w :=
  wp_region_sched σ _ hm hs hlen hQ hB ⟨⟨_, hd hF⟩, rfl⟩ (h ⟨⟨_, hF⟩⟩)
theorem sched_back {F : World → Prop} {K : Act → World → Prop} {Q : Exit → Act → World → Prop} {a : Act} {w : World} (hF : F w) (h : K a w) : schedTo (fun w' => ∃ p : Wof F, w' = p.w) K Q .normal a w := ⟨⟨⟨w, hF⟩, rfl⟩, h⟩
end Go.Proofs.YtmikckhihfcooaaDoor
namespace Go.Proofs.YtmikckhihfcooaaDoor
open Go.RowKit
def Ed.cells (x : Ed) : List Value := [.int .i64 x.at_, .int .i64 x.del, .string (S x.ins)]
def edCells (l : List Ed) : List Value := l.flatMap Ed.cells
theorem flat_len {α : Type} {ec : α → List Value} {m : Nat} (hec : ∀ x, (ec x).length = m) (l : List α) : (l.flatMap ec).length = l.length * m := by
  induction l with
  | nil => simp
  | cons a l ih => rw [List.flatMap_cons, List.length_append, ih, hec, List.length_cons, Nat.add_mul, Nat.one_mul, Nat.add_comm]
theorem flat_get {α : Type} {ec : α → List Value} {m : Nat} (hec : ∀ x, (ec x).length = m) (l : List α) (k : Nat) (hk : k < l.length) (j : Nat) (hj : j < m) : (l.flatMap ec)[k * m + j]? = (ec (l[k]'hk))[j]? := by
  induction l generalizing k with
  | nil => simp at hk
  | cons a l ih =>
    rw [List.flatMap_cons]
    cases k with
    | zero => rw [List.getElem?_append_left (by rw [hec]; omega)]; simp
    | succ k =>
      have := ih k (by simpa using hk)
      rw [List.getElem?_append_right (by rw [hec, Nat.add_mul]; omega), hec, List.getElem_cons_succ, ← this, Nat.add_mul]
      congr 1; omega
/-- A record of a slice that reads. -/
theorem Rd.at_rec {α : Type} {ec : α → List Value} {m : Nat} (hec : ∀ x, (ec x).length = m) (hm : 0 < m) {w : World} {B n : Nat} {A : Option Addr} {l : List α} (h : Rd w B m A n (l.flatMap ec)) {k : Nat} (hk : k < n) :
    ∃ ad, ∃ hl : k < l.length, A = some ad ∧ ad.block < B ∧ ∀ j u, (ec l[k])[j]? = some u → w.cell? (ad.add (k * m + j)) = some u := by
  have hl : l.length = n := by
    have := h.1
    rw [flat_len hec] at this
    exact Nat.eq_of_mul_eq_mul_right hm this
  obtain ⟨ad, e, hb, hc⟩ := h.2 (by omega)
  refine ⟨ad, by omega, e, hb, fun j u hu => ?_⟩
  have hj : j < m := by rw [← hec (l[k]'(by omega))]; exact (List.getElem?_eq_some_iff.1 hu).1
  exact hc _ _ (by rw [flat_get hec l k (by omega) j hj]; exact hu)
theorem Rd.rec_len {α : Type} {ec : α → List Value} {m : Nat} (hec : ∀ x, (ec x).length = m) (hm : 0 < m) {w : World} {B n : Nat} {A : Option Addr} {l : List α} (h : Rd w B m A n (l.flatMap ec)) : l.length = n := by
  have := h.1
  rw [flat_len hec] at this
  exact Nat.eq_of_mul_eq_mul_right hm this
theorem ed_len (x : Ed) : x.cells.length = 3 := rfl
theorem Rd.at_ed {w : World} {B n : Nat} {A : Option Addr} {l : List Ed} (h : Rd w B 3 A n (edCells l)) {k : Nat} (hk : k < n) :
    ∃ ad, ∃ hl : k < l.length, A = some ad ∧ ad.block < B ∧ w.cell? (ad.add (k * 3)) = some (.int .i64 l[k].at_) ∧ w.cell? ⟨(ad.add (k * 3)).block, (ad.add (k * 3)).off + 1, none⟩ = some (.int .i64 l[k].del) ∧
      w.cell? ⟨(ad.add (k * 3)).block, (ad.add (k * 3)).off + 2, none⟩ = some (.string (S l[k].ins)) := by
  obtain ⟨ad, hl, e, hb, hc⟩ := Rd.at_rec ed_len (by omega) h hk
  refine ⟨ad, hl, e, hb, hc 0 _ rfl, ?_, ?_⟩
  · have h1 := hc 1 _ rfl
    rwa [← add_add] at h1
  · have h1 := hc 2 _ rfl
    rwa [← add_add] at h1
theorem isEmpty_size (l : List UInt8) : (S l).toList.isEmpty = decide (l.length = 0) := by
  have : (S l).toList = l := ByteArray.toList_eq _
  rw [this]; cases l <;> simp
/-- As the checks ask it. -/
def edAt (n : Int) (k : Nat) (e : Int) (x : Ed) : Int :=
  if x.at_ < 0 ∨ x.del < 0 ∨ n < x.at_ ∨ n < x.at_ + x.del then 1 else if 40 < x.ins.length then 2 else if x.del = 0 ∧ x.ins.length = 0 then 5 else if 0 < k ∧ x.at_ ≤ e then 6 else 0
/-- Where the loop of the checks stands. -/
structure EdAt (n : Int) (l : List Ed) (k : Nat) (e : Int) : Prop where
  le : k ≤ l.length
  e0 : 0 ≤ e
  e1 : e ≤ n
  go : edGo n none n l = edGo n (lastEnd (l.take k)) (n + grows (l.take k)) (l.drop k)
  last : lastEnd (l.take k) = if k = 0 then none else some e
  lo : -(200 * k : Int) ≤ grows (l.take k)
  hi : grows (l.take k) ≤ 40 * k
  chain : ∀ x ∈ l.take k, 0 ≤ x.del ∧ x.del ≤ 200 ∧ x.ins.length ≤ 40
theorem edAt_eq {n : Int} {l : List Ed} {k : Nat} {e : Int} (h : EdAt n l k e) (x : Ed) : edOne n (lastEnd (l.take k)) x = edAt n k e x := by
  unfold edOne edAt
  rw [h.last]
  have : (∃ e_1, (if k = 0 then none else some e) = some e_1 ∧ x.at_ ≤ e_1) ↔ (0 < k ∧ x.at_ ≤ e) := by
    by_cases hk : k = 0
    · simp [hk]
    · rw [if_neg hk]
      constructor
      · rintro ⟨_, h1, h2⟩; cases h1; exact ⟨by omega, h2⟩
      · rintro ⟨_, h2⟩; exact ⟨_, rfl, h2⟩
  simp only [this]
theorem EdAt.start {n : Int} (h : 0 ≤ n) (l : List Ed) : EdAt n l 0 0 := ⟨Nat.zero_le _, Int.le_refl _, h, by simp [lastEnd, grows], by simp [lastEnd], by simp [grows], by simp [grows], by simp⟩
theorem EdAt.step {n : Int} {l : List Ed} {k : Nat} {e : Int} (h : EdAt n l k e) (hn : n ≤ 200) (hk : k < l.length) (h0 : edAt n k e l[k] = 0) : EdAt n l (k + 1) (l[k].at_ + l[k].del) ∧ grows (l.take (k + 1)) = grows (l.take k) + (l[k].ins.length - l[k].del) := by
  have hg : grows (l.take (k + 1)) = grows (l.take k) + (l[k].ins.length - l[k].del) := by
    rw [List.take_succ_eq_append_getElem hk, grows_append]; simp [grows]
  have h1 := edAt_eq h l[k]
  rw [h0] at h1
  obtain ⟨a, b, c, d, f, _⟩ := edOne_zero h1
  have hlo := h.lo
  have hhi := h.hi
  refine ⟨⟨hk, by omega, d, edGo_take n l k hk h.go h1, ?_, by rw [hg]; omega, by rw [hg]; omega, ?_⟩, hg⟩
  · rw [lastEnd_take l k hk, if_neg (by omega)]
  · intro x hx
    rw [List.take_succ_eq_append_getElem hk] at hx
    rcases List.mem_append.1 hx with hx | hx
    · exact h.chain x hx
    · simp only [List.mem_singleton] at hx; subst hx; omega
theorem EdAt.bad {n : Int} {l : List Ed} {k : Nat} {e : Int} (h : EdAt n l k e) (hn0 : 0 ≤ n) (hn : n ≤ 200) (hl : l.length ≤ 20) (hk : k < l.length) {c : Int} (hc : edAt n k e l[k] = c) (hc0 : c ≠ 0) : edErr n l = c := by
  have h1 := edAt_eq h l[k]
  unfold edErr
  rw [if_neg (by omega), if_neg (by omega), edGo_bad n l k hk h.go (by rw [h1, hc]; exact hc0), h1, hc]
theorem EdAt.fin {n : Int} {l : List Ed} {k : Nat} {e : Int} (h : EdAt n l k e) (hn0 : 0 ≤ n) (hn : n ≤ 200) (hl : l.length ≤ 20) (hk : ¬ k < l.length) : edErr n l = if 200 < n + grows (l.take k) then 11 else 0 := by
  obtain rfl : k = l.length := by have := h.le; omega
  unfold edErr
  rw [if_neg (by omega), if_neg (by omega), edGo_end n l h.go, List.take_length]
set_option maxRecDepth 100000 in
set_option maxHeartbeats 2000000 in
theorem edCheck_any (n : Int) (l : List Ed) (A : Option Addr) (m c B : Nat) (w : World) (hr : Rd w B 3 A m (edCells l)) (hB : B ≤ w.heap.size) (hm : m ≤ 9223372036854775807) :
    Calls Tryd.prog 32 #[.int .i64 n, .slice A m c] w fun e w' => e = .returned (.int .i64 (edErr n l)) ∧ Below w.heap.size w w' := by
  have hlen := Rd.rec_len ed_len (by omega) hr
  by_cases hn : n < 0 ∨ 200 < n
  · have HE : Hid (edErr n l = 1) := by unfold Hid edErr; rw [if_pos hn]
    have HN := Lib.hid hn; clear hn hr
    go_enter Tryd.func32, Tryd.ntmps32
    go_wp2
    all_goals first
      | (go_ret; exact ⟨ret_int HE.out.symm, Below.refl _ _⟩)
      | (exfalso; have := HN.out; omega)
  have hn0 : 0 ≤ n := by omega
  have hn1 : n ≤ 200 := by omega
  have HN := Lib.hid hn; clear hn
  by_cases h20 : 20 < m
  · have HE : Hid (edErr n l = 2) := by unfold Hid edErr; rw [if_neg HN.out, if_pos (by omega)]
    clear hr
    go_enter Tryd.func32, Tryd.ntmps32
    go_wp2
    go_ret
    exact ⟨ret_int HE.out.symm, Below.refl _ _⟩
  have HR := Lib.hid hr; clear hr
  have HL := Lib.hid hlen; clear hlen
  go_enter Tryd.func32, Tryd.ntmps32
  go_wp2
  go_loopw [5, 6, 21] (fun e s i wr => ∃ (k : Nat) (e' : Int), EdAt n l k e' ∧ i = .int .i64 k ∧ e = .int .i64 e' ∧ s = .int .i64 (n + grows (l.take k)) ∧ Below w.heap.size w wr)
    (fun _ _ i _ => m - (intOf i).toNat)
  case atStart => exact ⟨0, 0, EdAt.start hn0 l, rfl, rfl, by simp [grows], Below.refl _ _⟩
  case round =>
    obtain ⟨k, e', HA, rfl, rfl, rfl, hb⟩ := hrel
    have hk := HA.le
    rw [HL.out] at hk
    have hbs := hb.size
    have he0 := HA.e0
    have he1 := HA.e1
    have glo := HA.lo
    have ghi := HA.hi
    by_cases hlt : k < m
    · obtain ⟨ad, hl, rfl, hab, c0, c1, c2⟩ := (HR.out.below (hb.mono hB)).at_ed hlt
      have HSt : Hid (edAt n k e' l[k] = 0 → EdAt n l (k + 1) (l[k].at_ + l[k].del) ∧ grows (l.take (k + 1)) = grows (l.take k) + (l[k].ins.length - l[k].del)) := HA.step hn1 hl
      have HBd : Hid (∀ c, edAt n k e' l[k] = c → c ≠ 0 → edErr n l = c) := fun c => HA.bad hn0 hn1 (by rw [HL.out]; omega) hl
      have hz : (S l[k].ins).size = l[k].ins.length := S_size _
      have HZ := Lib.hid hz; clear hz
      generalize l[k] = x at *
      generalize grows (l.take k) = g at *
      obtain ⟨xa, xd, xi⟩ := x
      simp only at c0 c1 c2 HSt HBd HZ
      clear HA
      have HZ1 : Hid ((S xi).toList.isEmpty = decide (xi.length = 0)) := isEmpty_size xi
      go_wp2
      all_goals first
        | (go_ret
           refine ⟨ret_int (HBd.out _ ?_ (by decide)).symm, (by repeat (first | exact Below.refl _ _ | assumption | refine Below.alloc ?_ (by first | exact Nat.le_refl _ | assumption | omega | (simp <;> omega)) _ | refine Below.setCell ?_ (by first | exact Nat.le_refl _ | assumption | omega | (simp <;> omega)) _ | refine Below.drew ?_ | refine below_drewN ?_ _))⟩
           go_light
           have hz := HZ.out; have hz1 := HZ1.out
           clear HBd HSt HZ HZ1
           unfold edAt
           grind)
        | (go_roundw
           case rel =>
             go_light
             have hz := HZ.out; have hz1 := HZ1.out
             have h0 : edAt n k e' ⟨xa, xd, xi⟩ = 0 := by
               clear HBd HSt HZ HZ1
               unfold edAt
               grind
             obtain ⟨h1, h2⟩ := HSt.out h0
             exact ⟨k + 1, _, h1, by go_num, by first | rfl | (congr 1; omega), by rw [h2, hz]; congr 1; omega, (by repeat (first | exact Below.refl _ _ | assumption | refine Below.alloc ?_ (by first | exact Nat.le_refl _ | assumption | omega | (simp <;> omega)) _ | refine Below.setCell ?_ (by first | exact Nat.le_refl _ | assumption | omega | (simp <;> omega)) _ | refine Below.drew ?_ | refine below_drewN ?_ _))⟩
           case measure => simp [intOf]; omega)
    · have HF := Lib.hid (HA.fin hn0 hn1 (by rw [HL.out]; omega) (by rw [HL.out]; omega))
      clear HA
      go_wp2
      all_goals go_ret
      all_goals refine ⟨ret_int ?_, hb⟩
      all_goals (rw [HF.out]; split <;> first | rfl | omega)
end Go.Proofs.YtmikckhihfcooaaDoor
