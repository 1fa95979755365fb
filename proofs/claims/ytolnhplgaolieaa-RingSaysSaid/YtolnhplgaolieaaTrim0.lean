/- Many edits as one: cells of a text, and where its bytes come to lie. No program in sight. -/
import Derived.Test.YtolnhplgaolieaaEditP0
namespace Go.Proofs.Ytolnhplgaolieaa
/-- A cell: where it stood (-1: it was put), and its byte. -/
abbrev Tc := Int × UInt8
def tIns (l : List UInt8) : List Tc := l.map fun c => (-1, c)
def tApply (l : List Tc) : Nat → List Ed → List Tc
  | p, [] => l.drop p
  | p, x :: r => (l.drop p).take (x.at_.toNat - p) ++ tIns x.ins ++ tApply l (x.at_ + x.del).toNat r
def tText (l : List Tc) : List UInt8 := l.map fun c => if c.1 < 0 then c.2 else 63
theorem tText_len (l : List Tc) : (tText l).length = l.length := by simp [tText]
theorem tText_ins (l : List UInt8) : tText (tIns l) = l := by
  unfold tText tIns
  rw [List.map_map]
  conv => rhs; rw [← List.map_id l]
  refine List.map_congr_left fun c _ => ?_
  simp
theorem tText_apply (l : List Tc) (es : List Ed) : ∀ p, tText (tApply l p es) = edTo (tText l) p es := by
  induction es with
  | nil => intro p; simp [tApply, edTo, tText, List.map_drop]
  | cons x r ih =>
    intro p
    have h := ih (x.at_ + x.del).toNat
    have h2 := tText_ins x.ins
    simp only [tApply, edTo, ← h]
    conv => rhs; rw [← h2]
    simp [tText, List.map_take, List.map_drop]
theorem tText_done {l : List Tc} {es : List Ed} (h : edErr l.length es = 0) : edDone (tText l) es = tText (tApply l 0 es) := by
  rw [edDone_is (by rw [tText_len]; exact h), tText_apply]
theorem tApply_len {l : List Tc} {es : List Ed} (h : edErr l.length es = 0) : ((tApply l 0 es).length : Int) = l.length + grows es ∧ (tApply l 0 es).length ≤ 200 := by
  obtain ⟨_, _, _, hc, hg⟩ := edErr_zero.1 h
  have := edTo_length (s := tText l) (tText_len l) hc (k := 0) rfl (Nat.zero_le _)
  rw [← tText_apply, tText_len] at this
  omega
/-- The places of cells. -/
def tF (l : List Tc) : List Int := l.map (·.1)
theorem tF_len (l : List Tc) : (tF l).length = l.length := by simp [tF]
theorem tF_get (l : List Tc) (j : Nat) : (tF l)[j]? = (l[j]?).map (·.1) := by simp [tF]
/-- A place that stays. -/
theorem tA_keep {n : Nat} {l : List Tc} (hl : l.length = n) {es : List Ed} : ∀ {pp : Option Int} {p : Nat}, Chain n pp es → after p pp → p ≤ n → ∀ j, p ≤ j → j < n → ∀ mv, (plc j mv es).2 = true →
    (p : Int) ≤ (plc j mv es).1 - mv ∧ (tF (tApply l p es))[((plc j mv es).1 - mv - p).toNat]? = (tF l)[j]? := by
  induction es with
  | nil =>
    intro pp p _ _ hp j hj hjn mv _
    simp only [plc, tApply]
    refine ⟨by omega, ?_⟩
    rw [tF_get, tF_get, List.getElem?_drop]
    congr 2; omega
  | cons x r ih =>
    intro pp p hc ha hp j hj hjn mv hk
    cases hc with
    | cons _ _ _ h0 h =>
      obtain ⟨h1, h2, h3, h4, h5, h6, h7⟩ := edOne_zero h0
      have hk2 : (p : Int) ≤ x.at_ := by
        cases pp with
        | none => simp only [after] at ha; omega
        | some e => simp only [after] at ha; have := h7 e rfl; omega
      simp only [plc] at hk ⊢
      simp only [tApply]
      by_cases c1 : (j : Int) < x.at_
      · rw [if_pos c1]
        refine ⟨by simp only; omega, ?_⟩
        rw [tF_get, tF_get, List.append_assoc, List.getElem?_append_left (by rw [List.length_take, List.length_drop]; simp only; omega), List.getElem?_take_of_lt (by simp only; omega), List.getElem?_drop]
        congr 2; simp only; omega
      · rw [if_neg c1] at hk ⊢
        by_cases c2 : (j : Int) < x.at_ + x.del
        · rw [if_pos c2] at hk; cases hk
        · rw [if_neg c2] at hk ⊢
          have h9 := ih (pp := some (x.at_ + x.del)) (p := (x.at_ + x.del).toNat) h (by simp only [after]; omega) (by omega) j (by omega) hjn (mv + (x.ins.length - x.del)) hk
          refine ⟨by omega, ?_⟩
          rw [← h9.2, tF_get, tF_get, List.getElem?_append_right (by rw [List.length_append, List.length_take, List.length_drop, tIns, List.length_map]; omega)]
          congr 2
          rw [List.length_append, List.length_take, List.length_drop, tIns, List.length_map]; omega
/-- What is there was put, or stays. -/
theorem tA_mem {n : Nat} {l : List Tc} (hl : l.length = n) {es : List Ed} : ∀ {pp : Option Int} {p : Nat}, Chain n pp es → after p pp → p ≤ n → ∀ k, k ∈ tF (tApply l p es) → k = -1 ∨ ∃ j, p ≤ j ∧ j < n ∧ (tF l)[j]? = some k ∧ ∀ mv, (plc j mv es).2 = true := by
  induction es with
  | nil =>
    intro pp p _ _ hp k hk
    right
    simp only [tApply, tF, List.map_drop] at hk
    obtain ⟨j, hj, e⟩ := List.getElem_of_mem hk
    rw [List.length_drop, List.length_map] at hj
    refine ⟨p + j, by omega, by omega, ?_, fun mv => rfl⟩
    rw [List.getElem_drop] at e
    rw [← e]
    exact List.getElem?_eq_getElem (by rw [tF_len]; omega)
  | cons x r ih =>
    intro pp p hc ha hp k hk
    cases hc with
    | cons _ _ _ h0 h =>
      obtain ⟨h1, h2, h3, h4, h5, h6, h7⟩ := edOne_zero h0
      have hk2 : (p : Int) ≤ x.at_ := by
        cases pp with
        | none => simp only [after] at ha; omega
        | some e => simp only [after] at ha; have := h7 e rfl; omega
      simp only [tApply, tF, List.map_append, List.mem_append] at hk
      rcases hk with (hk | hk) | hk
      · right
        rw [List.map_take, List.map_drop] at hk
        obtain ⟨j, hj, e⟩ := List.getElem_of_mem hk
        rw [List.length_take, List.length_drop, List.length_map] at hj
        refine ⟨p + j, by omega, by omega, ?_, fun mv => ?_⟩
        · rw [List.getElem_take, List.getElem_drop] at e
          rw [← e]
          exact List.getElem?_eq_getElem (by rw [tF_len]; omega)
        · simp only [plc]; rw [if_pos (by omega)]
      · left
        simp only [tIns, List.map_map, List.mem_map, Function.comp] at hk
        obtain ⟨_, _, rfl⟩ := hk; rfl
      · rcases ih (pp := some (x.at_ + x.del)) (p := (x.at_ + x.del).toNat) h (by simp only [after]; omega) (by omega) k hk with h9 | ⟨j, hj, hjn, e, h9⟩
        · exact .inl h9
        · refine .inr ⟨j, by omega, hjn, e, fun mv => ?_⟩
          simp only [plc]
          rw [if_neg (by omega), if_neg (by omega)]
          exact h9 _
theorem tA_sub {n : Nat} {l : List Tc} {es : List Ed} : ∀ {pp : Option Int} {p : Nat}, Chain n pp es → after p pp → p ≤ n → ((tF (tApply l p es)).filter fun k => decide (0 ≤ k)).Sublist (((tF l).drop p).filter fun k => decide (0 ≤ k)) := by
  induction es with
  | nil => intro pp p _ _ _; simp [tApply, tF, List.map_drop]
  | cons x r ih =>
    intro pp p hc ha hp
    cases hc with
    | cons _ _ _ h0 h =>
      obtain ⟨h1, h2, h3, h4, h5, h6, h7⟩ := edOne_zero h0
      have hk2 : (p : Int) ≤ x.at_ := by
        cases pp with
        | none => simp only [after] at ha; omega
        | some e => simp only [after] at ha; have := h7 e rfl; omega
      have h9 := ih (pp := some (x.at_ + x.del)) (p := (x.at_ + x.del).toNat) h (by simp only [after]; omega) (by omega)
      have e0 : ((tIns x.ins).map (·.1)).filter (fun k : Int => decide (0 ≤ k)) = [] := by
        rw [List.filter_eq_nil_iff]
        intro k hk
        simp only [tIns, List.map_map, List.mem_map, Function.comp] at hk
        obtain ⟨_, _, rfl⟩ := hk; decide
      have e1 : (tF l).drop p = ((tF l).drop p).take (x.at_.toNat - p) ++ (tF l).drop x.at_.toNat := by
        conv => lhs; rw [← List.take_append_drop (x.at_.toNat - p) ((tF l).drop p)]
        rw [List.drop_drop]; congr 2; omega
      rw [e1, List.filter_append]
      simp only [tApply, tF, List.map_append, List.filter_append, e0, List.append_nil]
      refine List.Sublist.append ?_ ?_
      · rw [List.map_take, List.map_drop]; exact List.Sublist.refl _
      · refine h9.trans (List.Sublist.filter _ ?_)
        have : (tF l).drop (x.at_ + x.del).toNat = ((tF l).drop x.at_.toNat).drop ((x.at_ + x.del).toNat - x.at_.toNat) := by
          rw [List.drop_drop]; congr 1; omega
        rw [this]
        exact List.drop_sublist _ _
/-- Where the bytes of the first text lie. -/
structure Wh (n : Nat) (l : List Tc) (wh : List Int) : Prop where
  len : wh.length = n
  is_ : ∀ k, k < n → (wh.getD k 0 = -1 ∧ (k : Int) ∉ tF l) ∨ ∃ j : Nat, wh.getD k 0 = (j : Int) ∧ (tF l)[j]? = some (k : Int)
  up : ((tF l).filter fun k => decide (0 ≤ k)).Pairwise (· < ·)
  lt : ∀ k ∈ tF l, k < (n : Int)
  lo : ∀ k ∈ tF l, -1 ≤ k
def tStart (n : Nat) : List Tc := (List.range n).map fun k : Nat => ((k : Int), (0 : UInt8))
theorem tStart_F (n : Nat) : tF (tStart n) = (List.range n).map fun k : Nat => (k : Int) := by simp [tF, tStart]
theorem tStart_text (n : Nat) : tText (tStart n) = List.replicate n 63 := by
  unfold tText tStart
  rw [List.map_map, List.eq_replicate_iff]
  refine ⟨by simp, fun b hb => ?_⟩
  obtain ⟨k, _, rfl⟩ := List.mem_map.1 hb
  simp only [Function.comp]
  rw [if_neg (by omega)]
def wStart (n : Nat) : List Int := (List.range n).map fun k : Nat => (k : Int)
theorem Wh.start (n : Nat) : Wh n (tStart n) (wStart n) := by
  have hg : ∀ k, k < n → ((List.range n).map fun k : Nat => (k : Int))[k]? = some (k : Int) := fun k hk => by
    rw [List.getElem?_map, List.getElem?_range hk]; rfl
  refine ⟨by simp [wStart], fun k hk => .inr ⟨k, ?_, ?_⟩, ?_, ?_, ?_⟩
  · rw [List.getD_eq_getElem?_getD, wStart, hg k hk]; rfl
  · rw [tStart_F, hg k hk]
  · rw [tStart_F]
    refine List.Pairwise.filter _ ?_
    rw [List.pairwise_map]
    exact List.pairwise_lt_range.imp fun h => by omega
  · rw [tStart_F]; intro k hk
    obtain ⟨j, hj, rfl⟩ := List.mem_map.1 hk
    rw [List.mem_range] at hj; omega
  · rw [tStart_F]; intro k hk
    obtain ⟨j, hj, rfl⟩ := List.mem_map.1 hk
    omega
/-- In a row that rises but for what is below nought, each place stands once. -/
theorem up_uniq {F : List Int} (h : (F.filter fun k => decide (0 ≤ k)).Pairwise (· < ·)) : ∀ {i j : Nat} {k : Int}, F[i]? = some k → F[j]? = some k → 0 ≤ k → i = j := by
  induction F with
  | nil => intro i j k h1; simp at h1
  | cons a F ih =>
    intro i j k h1 h2 hk
    have hF : (F.filter fun k => decide (0 ≤ k)).Pairwise (· < ·) := by
      rw [List.filter_cons] at h
      split at h
      · exact (List.pairwise_cons.1 h).2
      · exact h
    have hn : ∀ i : Nat, F[i]? = some k → a ≠ k := fun i hi e => by
      subst e
      rw [List.filter_cons, if_pos (by simpa using hk), List.pairwise_cons] at h
      have := h.1 a (List.mem_filter.2 ⟨List.mem_of_getElem? hi, by simpa using hk⟩)
      omega
    cases i with
    | zero =>
      cases j with
      | zero => rfl
      | succ j =>
        simp only [List.getElem?_cons_zero, Option.some.injEq] at h1
        rw [List.getElem?_cons_succ] at h2
        exact absurd h1 (hn j h2)
    | succ i =>
      rw [List.getElem?_cons_succ] at h1
      cases j with
      | zero =>
        simp only [List.getElem?_cons_zero, Option.some.injEq] at h2
        exact absurd h2 (hn i h1)
      | succ j =>
        rw [List.getElem?_cons_succ] at h2
        rw [ih hF h1 h2 hk]
theorem up_lt {F : List Int} (h : (F.filter fun k => decide (0 ≤ k)).Pairwise (· < ·)) : ∀ {i j : Nat} {a b : Int}, i < j → F[i]? = some a → F[j]? = some b → 0 ≤ a → 0 ≤ b → a < b := by
  induction F with
  | nil => intro i j a b _ h1; simp at h1
  | cons c F ih =>
    intro i j a b hij h1 h2 ha hb
    have hF : (F.filter fun k => decide (0 ≤ k)).Pairwise (· < ·) := by
      rw [List.filter_cons] at h
      split at h
      · exact (List.pairwise_cons.1 h).2
      · exact h
    obtain ⟨j, rfl⟩ : ∃ m, j = m + 1 := ⟨j - 1, by omega⟩
    rw [List.getElem?_cons_succ] at h2
    cases i with
    | zero =>
      simp only [List.getElem?_cons_zero, Option.some.injEq] at h1
      subst h1
      rw [List.filter_cons, if_pos (by simpa using ha), List.pairwise_cons] at h
      exact h.1 b (List.mem_filter.2 ⟨List.mem_of_getElem? h2, by simpa using hb⟩)
    | succ i =>
      rw [List.getElem?_cons_succ] at h1
      exact ih hF (by omega) h1 h2 ha hb
/-- Where a byte that lies there comes to lie. -/
def wOne (es : List Ed) (at_ : Int) : Int := if 0 ≤ at_ then (if (plc at_ 0 es).2 = true then (plc at_ 0 es).1 else -1) else at_
theorem Wh.step {n : Nat} {l : List Tc} {wh : List Int} (h : Wh n l wh) {es : List Ed} (he : edErr l.length es = 0) : Wh n (tApply l 0 es) (wh.map (wOne es)) := by
  obtain ⟨_, _, _, hc, _⟩ := edErr_zero.1 he
  refine ⟨by rw [List.length_map, h.len], fun k hk => ?_, ?_, ?_, ?_⟩
  · have e : (wh.map (wOne es)).getD k 0 = wOne es (wh.getD k 0) := by
      rw [List.getD_eq_getElem?_getD, List.getElem?_map, List.getD_eq_getElem?_getD, List.getElem?_eq_getElem (by rw [h.len]; exact hk)]; rfl
    rw [e]
    rcases h.is_ k hk with ⟨h1, h2⟩ | ⟨j, h1, h2⟩
    · left
      rw [h1]
      refine ⟨rfl, fun h3 => ?_⟩
      rcases tA_mem rfl hc (p := 0) rfl (Nat.zero_le _) _ h3 with h4 | ⟨j, _, _, h4, _⟩
      · omega
      · exact h2 (List.mem_of_getElem? h4)
    · rw [h1]
      have hjn : j < l.length := by
        have := (List.getElem?_eq_some_iff.1 h2).1
        rw [tF_len] at this; exact this
      unfold wOne
      rw [if_pos (by omega)]
      by_cases hp : (plc j 0 es).2 = true
      · right
        rw [if_pos hp]
        have h9 := tA_keep rfl hc (p := 0) rfl (Nat.zero_le _) j (Nat.zero_le _) hjn 0 hp
        refine ⟨(plc j 0 es).1.toNat, by have := h9.1; omega, ?_⟩
        have := h9.2
        rw [h2] at this
        rw [← this]
        congr 1; omega
      · left
        rw [if_neg hp]
        refine ⟨rfl, fun h3 => ?_⟩
        rcases tA_mem rfl hc (p := 0) rfl (Nat.zero_le _) _ h3 with h4 | ⟨i, _, _, h4, h5⟩
        · omega
        · obtain rfl := up_uniq h.up h2 h4 (by omega)
          exact hp (h5 0)
  · have := tA_sub (l := l) hc (p := 0) rfl (Nat.zero_le _)
    rw [List.drop_zero] at this
    exact h.up.sublist this
  · intro k hk
    rcases tA_mem rfl hc (p := 0) rfl (Nat.zero_le _) _ hk with h4 | ⟨i, _, _, h4, h5⟩
    · omega
    · exact h.lt k (List.mem_of_getElem? h4)
  · intro k hk
    rcases tA_mem rfl hc (p := 0) rfl (Nat.zero_le _) _ hk with h4 | ⟨i, _, _, h4, h5⟩
    · omega
    · exact h.lo k (List.mem_of_getElem? h4)
/-- The script that makes cells. -/
def scrOne (a : Int) (ins : List UInt8) (k : Int) : List Ed := if 0 < k - a ∨ ins ≠ [] then [⟨a, k - a, ins⟩] else []
def scr : Int → List UInt8 → List Tc → List Ed
  | _, _, [] => []
  | a, ins, c :: r => if c.1 < 0 then scr a (ins ++ [c.2]) r else scrOne a ins c.1 ++ scr (c.1 + 1) [] r
theorem scr_neg (r : List Tc) : ∀ (m : List Tc) (a : Int) (ins : List UInt8), (∀ c ∈ m, c.1 < 0) → scr a ins (m ++ r) = scr a (ins ++ m.map (·.2)) r
  | [], a, ins, _ => by simp
  | c :: m, a, ins, h => by
    rw [List.cons_append, scr, if_pos (h c (by simp)), scr_neg r m a _ fun x hx => h x (by simp [hx])]
    simp
/-- Where the document's last loop stands, ahead of k. -/
structure ScrAt (n : Nat) (l : List Tc) (k from_ begin_ : Nat) (out : List Ed) : Prop where
  split : scr 0 [] (l ++ [((n : Int), 0)]) = out ++ scr from_ [] ((l ++ [((n : Int), 0)]).drop begin_)
  fk : from_ ≤ k
  ge : ∀ j, begin_ ≤ j → ∀ x, (tF l)[j]? = some x → 0 ≤ x → (k : Int) ≤ x
  lt : ∀ j, j < begin_ → ∀ x, (tF l)[j]? = some x → 0 ≤ x → x < (k : Int)
  bl : begin_ ≤ l.length
theorem ScrAt.start (n : Nat) (l : List Tc) : ScrAt n l 0 0 0 [] := ⟨by simp, Nat.le_refl _, fun _ _ x _ h => h, fun j h => by omega, Nat.zero_le _⟩
theorem ScrAt.skip {n : Nat} {l : List Tc} {k f b : Nat} {out : List Ed} (h : ScrAt n l k f b out) (hk : (k : Int) ∉ tF l) : ScrAt n l (k + 1) f b out := by
  refine ⟨h.split, by have := h.fk; omega, fun j hj x hx h0 => ?_, fun j hj x hx h0 => ?_, h.bl⟩
  · have h1 := h.ge j hj x hx h0
    have : x ≠ k := fun e => hk (by rw [← e]; exact List.mem_of_getElem? hx)
    omega
  · have := h.lt j hj x hx h0; omega
/-- The row of cells with the end behind it. -/
theorem scr_meet {n : Nat} {l : List Tc} {k f b : Nat} {j : Nat} (hj : (tF (l ++ [((n : Int), 0)]))[j]? = some (k : Int))
    (hneg : ∀ i, b ≤ i → i < j → ∀ x, (tF l)[i]? = some x → x < 0) (hbj : b ≤ j) (hjl : j ≤ l.length) :
    scr f [] ((l ++ [((n : Int), 0)]).drop b) = scrOne f (((tText l).take j).drop b) k ++ scr (k + 1) [] ((l ++ [((n : Int), 0)]).drop (j + 1)) := by
  have e1 : (l ++ [((n : Int), 0)]).drop b = ((l.take j).drop b) ++ (l ++ [((n : Int), 0)]).drop j := by
    have e0 := (List.take_append_drop (j - b) ((l ++ [((n : Int), (0 : UInt8))]).drop b)).symm
    rw [List.drop_drop, show b + (j - b) = j by omega] at e0
    refine e0.trans ?_
    congr 1
    rw [List.drop_append_of_le_length (by omega), List.take_append_of_le_length (by rw [List.length_drop]; omega), List.drop_take]
  rw [tF_get] at hj
  have hlt : j < (l ++ [((n : Int), 0)]).length := by rw [List.length_append, List.length_singleton]; omega
  rw [List.getElem?_eq_getElem hlt] at hj
  simp only [Option.map_some, Option.some.injEq] at hj
  have hn : ∀ c ∈ (l.take j).drop b, c.1 < 0 := by
    intro c hc
    obtain ⟨i, hi, e⟩ := List.getElem_of_mem hc
    rw [List.length_drop, List.length_take] at hi
    rw [List.getElem_drop, List.getElem_take] at e
    have := hneg (b + i) (by omega) (by omega) c.1 (by rw [tF_get, List.getElem?_eq_getElem (by omega), ← e]; rfl)
    exact this
  rw [e1, scr_neg _ _ _ _ hn, List.drop_eq_getElem_cons hlt, scr, hj, if_neg (by omega), List.nil_append]
  congr 2
  unfold tText
  rw [← List.map_take, ← List.map_drop]
  refine List.map_congr_left fun c hc => ?_
  rw [if_pos (hn c hc)]
theorem ScrAt.hit {n : Nat} {l : List Tc} {k f b : Nat} {out : List Ed} (h : ScrAt n l k f b out) (hup : ((tF l).filter fun k => decide (0 ≤ k)).Pairwise (· < ·)) {j : Nat} (hj : (tF l)[j]? = some (k : Int)) :
    b ≤ j ∧ j < l.length ∧ ScrAt n l (k + 1) (k + 1) (j + 1) (out ++ scrOne f (((tText l).take j).drop b) k) := by
  have hjl : j < l.length := by
    have := (List.getElem?_eq_some_iff.1 hj).1
    rw [tF_len] at this; exact this
  have hbj : b ≤ j := by
    refine Decidable.byContradiction fun h1 => ?_
    have := h.lt j (by omega) _ hj (by omega)
    omega
  have hneg : ∀ i, b ≤ i → i < j → ∀ x, (tF l)[i]? = some x → x < 0 := by
    intro i h1 h2 x hx
    refine Decidable.byContradiction fun h3 => ?_
    have h4 := h.ge i h1 x hx (by omega)
    have h5 := up_lt hup h2 hx hj (by omega) (by omega)
    omega
  refine ⟨hbj, hjl, ?_, Nat.le_refl _, ?_, ?_, by omega⟩
  · have hj' : (tF (l ++ [((n : Int), 0)]))[j]? = some (k : Int) := by
      unfold tF; rw [List.map_append, List.getElem?_append_left (by rw [List.length_map]; exact hjl)]; exact hj
    rw [h.split, scr_meet hj' hneg hbj (by omega), List.append_assoc]
    rfl
  · intro i hi x hx h0
    have := up_lt hup (show j < i by omega) hj hx (by omega) h0
    omega
  · intro i hi x hx h0
    by_cases e : i = j
    · subst e; rw [hj] at hx; simp only [Option.some.injEq] at hx; omega
    · have := up_lt hup (show i < j by omega) hx hj h0 (by omega)
      omega
/-- The end. -/
theorem ScrAt.fin {n : Nat} {l : List Tc} {f b : Nat} {out : List Ed} (h : ScrAt n l n f b out) (hlt : ∀ k ∈ tF l, k < (n : Int)) :
    scr 0 [] (l ++ [((n : Int), 0)]) = out ++ scrOne f ((tText l).drop b) n := by
  have hneg : ∀ i, b ≤ i → i < l.length → ∀ x, (tF l)[i]? = some x → x < 0 := by
    intro i h1 h2 x hx
    refine Decidable.byContradiction fun h3 => ?_
    have h4 := h.ge i h1 x hx (by omega)
    have := hlt x (List.mem_of_getElem? hx)
    omega
  have hj : (tF (l ++ [((n : Int), 0)]))[l.length]? = some (n : Int) := by
    unfold tF; rw [List.map_append, List.getElem?_append_right (by rw [List.length_map]; omega), List.length_map, Nat.sub_self]; rfl
  rw [h.split, scr_meet hj hneg h.bl (Nat.le_refl _)]
  have e0 : (l ++ [((n : Int), (0 : UInt8))]).drop (l.length + 1) = [] := List.drop_eq_nil_of_le (by rw [List.length_append, List.length_singleton]; omega)
  rw [List.take_of_length_le (by rw [tText_len]; omega), e0]
  simp [scr]
end Go.Proofs.Ytolnhplgaolieaa
