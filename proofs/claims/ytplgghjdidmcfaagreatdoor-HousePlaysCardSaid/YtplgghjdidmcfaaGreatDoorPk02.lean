/- Frames and what a scan finds, as functions on lists of bytes; the program's test and the reference's agree. No program in sight. Scripts of edits, their errors, and what they make of a text. No program in sight. A script as a text: its numbers and its entries (plain). -/
import Derived.Test.YtplgghjdidmcfaaGreatDoorPk01
import Derived.Lib.Atoi
import Derived.Lib.IndexMore
import Derived.Lib.SlTrimSet
namespace Go.Proofs.YtplgghjdidmcfaaGreatDoor
/-- A record's number in the frame that begins here. -/
def headNum (l : List UInt8) : Nat := (l.getD 0 0).toNat * 256 + (l.getD 1 0).toNat
def sumEnd (l : List UInt8) : List UInt8 := fourL (sumNat l)
def frameL (rec : List UInt8) : List UInt8 := (UInt8.ofNat (rec.length / 256) :: UInt8.ofNat rec.length :: rec) ++ sumEnd (UInt8.ofNat (rec.length / 256) :: UInt8.ofNat rec.length :: rec)
/-- Is there a whole frame here? -/
def frameOk (l : List UInt8) : Prop := 6 ≤ l.length ∧ headNum l ≤ 1100 ∧ headNum l + 6 ≤ l.length ∧ sumEnd (l.take (headNum l + 2)) = (l.drop (headNum l + 2)).take 4
instance (l : List UInt8) : Decidable (frameOk l) := by unfold frameOk; infer_instance
def recOf (l : List UInt8) : List UInt8 := (l.drop 2).take (headNum l)
def scanN : Nat → List UInt8 → List (List UInt8) × Nat
  | 0, _ => ([], 0)
  | f + 1, l => if frameOk l then (recOf l :: (scanN f (l.drop (headNum l + 6))).1, (scanN f (l.drop (headNum l + 6))).2 + headNum l + 6) else ([], 0)
def scanL (l : List UInt8) : List (List UInt8) × Nat := scanN l.length l

theorem scanN_more (f g : Nat) (l : List UInt8) (h1 : l.length ≤ f) (h2 : l.length ≤ g) : scanN f l = scanN g l := by
  induction f generalizing g l with
  | zero =>
    cases g with
    | zero => rfl
    | succ g =>
      have : ¬ frameOk l := fun h => by have := h.1; omega
      simp [scanN, this]
  | succ f ih =>
    cases g with
    | zero =>
      have : ¬ frameOk l := fun h => by have := h.1; omega
      simp [scanN, this]
    | succ g =>
      unfold scanN
      split
      · rw [ih g (l.drop (headNum l + 6)) (by rw [List.length_drop]; omega) (by rw [List.length_drop]; omega)]
      · rfl
theorem scanL_eq (l : List UInt8) : scanL l = if frameOk l then (recOf l :: (scanL (l.drop (headNum l + 6))).1, (scanL (l.drop (headNum l + 6))).2 + headNum l + 6) else ([], 0) := by
  unfold scanL
  rcases hl : l.length with _ | n
  · have : ¬ frameOk l := fun h => by have := h.1; omega
    simp [scanN, this]
  · rw [scanN]
    split
    · rw [scanN_more n (l.drop (headNum l + 6)).length _ (by rw [List.length_drop]; omega) (Nat.le_refl _)]
    · rfl
theorem scanL_ok {l : List UInt8} (h : frameOk l) : scanL l = (recOf l :: (scanL (l.drop (headNum l + 6))).1, (scanL (l.drop (headNum l + 6))).2 + headNum l + 6) := by rw [scanL_eq, if_pos h]
theorem scanL_no {l : List UInt8} (h : ¬ frameOk l) : scanL l = ([], 0) := by rw [scanL_eq, if_neg h]
theorem scanL_le (l : List UInt8) : (scanL l).2 ≤ l.length := by
  have key : ∀ n (l : List UInt8), l.length ≤ n → (scanL l).2 ≤ l.length := by
    intro n
    induction n with
    | zero => intro l h; rw [scanL_no (fun hh => by have := hh.1; omega)]; simp
    | succ n ih =>
      intro l h
      by_cases hf : frameOk l
      · rw [scanL_ok hf]
        have := ih (l.drop (headNum l + 6)) (by rw [List.length_drop]; omega)
        rw [List.length_drop] at this
        have := hf.2.2.1
        simp only
        omega
      · rw [scanL_no hf]; simp
  exact key _ l (Nat.le_refl _)
theorem scanL_count (l : List UInt8) : (scanL l).1.length * 6 ≤ l.length := by
  have key : ∀ n (l : List UInt8), l.length ≤ n → (scanL l).1.length * 6 ≤ l.length := by
    intro n
    induction n with
    | zero => intro l h; rw [scanL_no (fun hh => by have := hh.1; omega)]; simp
    | succ n ih =>
      intro l h
      by_cases hf : frameOk l
      · rw [scanL_ok hf]
        have := ih (l.drop (headNum l + 6)) (by rw [List.length_drop]; omega)
        rw [List.length_drop] at this
        have := hf.2.2.1
        simp only [List.length_cons]
        omega
      · rw [scanL_no hf]; simp
  exact key _ l (Nat.le_refl _)

theorem headNum_lt (l : List UInt8) : headNum l < 65536 := by
  unfold headNum
  have h1 := UInt8.toNat_lt (l.getD 0 0)
  have h2 := UInt8.toNat_lt (l.getD 1 0)
  omega
/-- The program's test of a frame. -/
theorem right_iff {l : List UInt8} {n : Nat} (hn : n + 6 ≤ l.length) : rightB (S (l.take (n + 6))) = true ↔ sumEnd (l.take (n + 2)) = (l.drop (n + 2)).take 4 := by
  unfold rightB
  have hl : (l.take (n + 6)).length = n + 6 := by rw [List.length_take]; omega
  rw [S_size, L_extract, L_S, hl, extract_S, L_S]
  rw [beqB]
  have e1 : List.take (n + 6 - 4 - 0) (List.drop 0 (List.take (n + 6) l)) = l.take (n + 2) := by rw [List.drop_zero, List.take_take]; congr 1; omega
  have e2 : List.take (n + 6 - (n + 6 - 4)) (List.drop (n + 6 - 4) (List.take (n + 6) l)) = (l.drop (n + 2)).take 4 := by
    rw [List.drop_take]; rw [List.take_take]; congr 1; omega
  rw [e1, e2]
  simp only [Bool.and_eq_true, decide_eq_true_eq]
  constructor
  · rintro ⟨_, h⟩; exact S_inj h
  · intro h; exact ⟨by omega, congrArg S h⟩
/-- The reference's test of a frame. -/
theorem frame_iff {l : List UInt8} (h6 : headNum l + 6 ≤ l.length) : frameL (recOf l) = l.take (headNum l + 6) ↔ sumEnd (l.take (headNum l + 2)) = (l.drop (headNum l + 2)).take 4 := by
  rcases l with _ | ⟨a, _ | ⟨b, r⟩⟩
  · simp only [List.length_nil] at h6; omega
  · simp only [List.length_cons, List.length_nil] at h6; omega
  · have hn : headNum (a :: b :: r) = a.toNat * 256 + b.toNat := rfl
    generalize hN : headNum (a :: b :: r) = n at *
    have hr : recOf (a :: b :: r) = r.take n := by unfold recOf; rw [hN]; rfl
    have hlen : (r.take n).length = n := by rw [List.length_take]; simp only [List.length_cons] at h6; omega
    have ha := UInt8.toNat_lt a
    have hb := UInt8.toNat_lt b
    have e1 : UInt8.ofNat (n / 256) = a := by
      have : n / 256 = a.toNat := by omega
      rw [this]; simp
    have e2 : UInt8.ofNat n = b := by
      apply UInt8.toNat_inj.1
      rw [UInt8.toNat_ofNat']; omega
    rw [hr]
    unfold frameL
    rw [hlen, e1, e2]
    have e3 : List.take (n + 2) (a :: b :: r) = a :: b :: r.take n := rfl
    have e4 : List.take (n + 6) (a :: b :: r) = (a :: b :: r.take n) ++ List.take 4 (List.drop (n + 2) (a :: b :: r)) := by
      rw [← e3]
      have : n + 6 = (n + 2) + 4 := by omega
      rw [this, List.take_add]
    rw [e3, e4]
    exact List.append_cancel_left_eq _ _ _ |>.to_iff
theorem frameL_length (rec : List UInt8) : (frameL rec).length = rec.length + 6 := by
  unfold frameL sumEnd fourL; simp
end Go.Proofs.YtplgghjdidmcfaaGreatDoor
namespace Go.Proofs.YtplgghjdidmcfaaGreatDoor
structure Ed where
  at_ : Int
  del : Int
  ins : List UInt8
deriving DecidableEq, Inhabited
/-- One edit behind another one that ends at p. -/
def edOne (n : Int) (p : Option Int) (x : Ed) : Int :=
  if x.at_ < 0 ∨ x.del < 0 ∨ n < x.at_ ∨ n < x.at_ + x.del then 1 else if 40 < x.ins.length then 2 else if x.del = 0 ∧ x.ins.length = 0 then 5 else if ∃ e, p = some e ∧ x.at_ ≤ e then 6 else 0
def edGo (n : Int) : Option Int → Int → List Ed → Int
  | _, size, [] => if 200 < size then 11 else 0
  | p, size, x :: r => if edOne n p x = 0 then edGo n (some (x.at_ + x.del)) (size + (x.ins.length - x.del)) r else edOne n p x
/-- The error of a script. -/
def edErr (n : Int) (l : List Ed) : Int := if n < 0 ∨ 200 < n then 1 else if 20 < l.length then 2 else edGo n none n l
def grows : List Ed → Int
  | [] => 0
  | x :: r => (x.ins.length - x.del) + grows r
theorem grows_append (a b : List Ed) : grows (a ++ b) = grows a + grows b := by
  induction a with
  | nil => simp [grows]
  | cons x a ih => simp [grows, ih]; omega
def lastEnd (l : List Ed) : Option Int := l.getLast?.map fun x => x.at_ + x.del
/-- Where the checks stand. -/
theorem edGo_take (n : Int) (l : List Ed) (k : Nat) (hk : k < l.length) (h : edGo n none n l = edGo n (lastEnd (l.take k)) (n + grows (l.take k)) (l.drop k)) (h0 : edOne n (lastEnd (l.take k)) l[k] = 0) :
    edGo n none n l = edGo n (lastEnd (l.take (k + 1))) (n + grows (l.take (k + 1))) (l.drop (k + 1)) := by
  rw [h, List.drop_eq_getElem_cons hk, edGo, if_pos h0, List.take_succ_eq_append_getElem hk, grows_append]
  simp only [grows, lastEnd, List.getLast?_append, List.getLast?_singleton, Option.some_or, Option.map_some]
  congr 1; omega
theorem edGo_bad (n : Int) (l : List Ed) (k : Nat) (hk : k < l.length) (h : edGo n none n l = edGo n (lastEnd (l.take k)) (n + grows (l.take k)) (l.drop k)) (h0 : edOne n (lastEnd (l.take k)) l[k] ≠ 0) :
    edGo n none n l = edOne n (lastEnd (l.take k)) l[k] := by
  rw [h, List.drop_eq_getElem_cons hk, edGo, if_neg h0]
theorem edGo_end (n : Int) (l : List Ed) (h : edGo n none n l = edGo n (lastEnd (l.take l.length)) (n + grows (l.take l.length)) (l.drop l.length)) : edGo n none n l = if 200 < n + grows l then 11 else 0 := by
  rw [h, List.drop_length, List.take_length, edGo]
theorem lastEnd_take (l : List Ed) (k : Nat) (hk : k < l.length) : lastEnd (l.take (k + 1)) = some (l[k].at_ + l[k].del) := by
  unfold lastEnd
  rw [List.take_succ_eq_append_getElem hk, List.getLast?_append]
  simp
/-- A right script, from a place on. -/
inductive Chain (n : Int) : Option Int → List Ed → Prop
  | nil (p) : Chain n p []
  | cons (p x r) : edOne n p x = 0 → Chain n (some (x.at_ + x.del)) r → Chain n p (x :: r)
theorem edGo_zero {n : Int} {l : List Ed} : ∀ {p : Option Int} {s : Int}, edGo n p s l = 0 ↔ Chain n p l ∧ s + grows l ≤ 200 := by
  induction l with
  | nil =>
    intro p s
    simp only [edGo, grows]
    constructor
    · intro h; exact ⟨.nil _, by split at h <;> omega⟩
    · rintro ⟨_, h⟩; rw [if_neg (by omega)]
  | cons x r ih =>
    intro p s
    simp only [edGo, grows]
    by_cases h : edOne n p x = 0
    · rw [if_pos h, ih]
      constructor
      · rintro ⟨a, b⟩; exact ⟨.cons _ _ _ h a, by omega⟩
      · rintro ⟨a, b⟩; cases a; exact ⟨by assumption, by omega⟩
    · rw [if_neg h]
      constructor
      · intro h'; exact absurd h' h
      · rintro ⟨a, b⟩; cases a; exact absurd (by assumption) h
theorem edErr_zero {n : Int} {l : List Ed} : edErr n l = 0 ↔ 0 ≤ n ∧ n ≤ 200 ∧ l.length ≤ 20 ∧ Chain n none l ∧ n + grows l ≤ 200 := by
  unfold edErr
  by_cases h1 : n < 0 ∨ 200 < n
  · rw [if_pos h1]
    constructor
    · intro h; cases h
    · rintro ⟨_, _, _⟩; omega
  · rw [if_neg h1]
    by_cases h2 : 20 < l.length
    · rw [if_pos h2]
      constructor
      · intro h; cases h
      · rintro ⟨_, _, _, _⟩; omega
    · rw [if_neg h2, edGo_zero]
      constructor
      · rintro ⟨a, b⟩; exact ⟨by omega, by omega, by omega, a, b⟩
      · rintro ⟨_, _, _, a, b⟩; exact ⟨a, b⟩
theorem edOne_zero {n : Int} {p : Option Int} {x : Ed} (h : edOne n p x = 0) : 0 ≤ x.at_ ∧ 0 ≤ x.del ∧ x.at_ ≤ n ∧ x.at_ + x.del ≤ n ∧ x.ins.length ≤ 40 ∧ ¬ (x.del = 0 ∧ x.ins.length = 0) ∧ ∀ e, p = some e → e < x.at_ := by
  unfold edOne at h
  by_cases h1 : x.at_ < 0 ∨ x.del < 0 ∨ n < x.at_ ∨ n < x.at_ + x.del
  · rw [if_pos h1] at h; cases h
  · rw [if_neg h1] at h
    by_cases h2 : 40 < x.ins.length
    · rw [if_pos h2] at h; cases h
    · rw [if_neg h2] at h
      by_cases h3 : x.del = 0 ∧ x.ins.length = 0
      · rw [if_pos h3] at h; cases h
      · rw [if_neg h3] at h
        by_cases h4 : ∃ e, p = some e ∧ x.at_ ≤ e
        · rw [if_pos h4] at h; cases h
        · refine ⟨by omega, by omega, by omega, by omega, by omega, h3, fun e he => ?_⟩
          exact Int.lt_of_not_ge fun hh => h4 ⟨e, he, hh⟩
theorem Chain.mem {n : Int} {p : Option Int} {l : List Ed} (h : Chain n p l) : ∀ x ∈ l, 0 ≤ x.at_ ∧ 0 ≤ x.del ∧ x.at_ + x.del ≤ n ∧ x.ins.length ≤ 40 ∧ ¬ (x.del = 0 ∧ x.ins.length = 0) ∧ ∀ e, p = some e → e < x.at_ := by
  induction h with
  | nil p => intro x hx; cases hx
  | cons p y r h0 h ih =>
    intro x hx
    have h1 := edOne_zero h0
    rcases List.mem_cons.1 hx with rfl | hx
    · exact ⟨h1.1, h1.2.1, h1.2.2.2.1, h1.2.2.2.2.1, h1.2.2.2.2.2.1, h1.2.2.2.2.2.2⟩
    · obtain ⟨a, b, c, d, e, f⟩ := ih x hx
      refine ⟨a, b, c, d, e, fun q hq => ?_⟩
      have := h1.2.2.2.2.2.2 q hq
      have := f _ rfl
      omega
theorem Chain.grows_le {n : Int} {p : Option Int} {l : List Ed} (h : Chain n p l) : - (n : Int) * l.length ≤ grows l ∧ grows l ≤ 40 * l.length := by
  induction h with
  | nil p => simp [grows]
  | cons p x r h0 h ih =>
    have h1 := edOne_zero h0
    simp only [grows, List.length_cons]
    have e : -n * ((r.length + 1 : Nat) : Int) = -n * r.length - n := by
      rw [Int.natCast_add, Int.mul_add]; simp; omega
    rw [e]
    have e2 : ((r.length + 1 : Nat) : Int) = (r.length : Int) + 1 := by omega
    constructor <;> omega
/-- A text, edited, from the place p on. -/
def edTo (s : List UInt8) : Nat → List Ed → List UInt8
  | p, [] => s.drop p
  | p, x :: r => (s.drop p).take (x.at_.toNat - p) ++ x.ins ++ edTo s (x.at_ + x.del).toNat r
/-- The last one first. -/
def edDone (s : List UInt8) : List Ed → List UInt8
  | [] => s
  | x :: r => (edDone s r).take x.at_.toNat ++ x.ins ++ (edDone s r).drop (x.at_ + x.del).toNat
def after (p : Nat) : Option Int → Prop
  | none => p = 0
  | some e => e = (p : Int)
theorem edDone_eq {n : Nat} {s : List UInt8} (hs : s.length = n) {l : List Ed} : ∀ {p : Option Int} {k : Nat}, Chain n p l → after k p → k ≤ n → edDone s l = s.take k ++ edTo s k l := by
  induction l with
  | nil => intro p k _ _ _; simp [edDone, edTo]
  | cons x r ih =>
    intro p k hc ha hk
    cases hc with
    | cons _ _ _ h0 h =>
      obtain ⟨h1, h2, h3, h4, h5, h6, h7⟩ := edOne_zero h0
      have hk2 : (k : Int) ≤ x.at_ := by
        cases p with
        | none => simp only [after] at ha; omega
        | some e => simp only [after] at ha; have := h7 e rfl; omega
      obtain ⟨a, ha'⟩ := Int.eq_ofNat_of_zero_le h1
      obtain ⟨d, hd'⟩ := Int.eq_ofNat_of_zero_le h2
      have e1 := ih (p := some (x.at_ + x.del)) (k := a + d) h (by simp only [after]; omega) (by omega)
      simp only [edDone, edTo]
      rw [e1, ha', hd']
      have t1 : ((a : Int) + (d : Int)).toNat = a + d := by omega
      have t2 : ((a : Int)).toNat = a := by omega
      rw [t1, t2]
      have l1 : (s.take (a + d)).length = a + d := by rw [List.length_take]; omega
      rw [List.take_append_of_le_length (by omega), List.drop_append_of_le_length (by omega), List.take_take, Nat.min_eq_left (by omega)]
      have e3 : s.take a = s.take k ++ (s.drop k).take (a - k) := by
        rw [← List.take_add]; congr 1; omega
      have e4 : (s.take (a + d)).drop (a + d) = [] := List.drop_of_length_le (by omega)
      rw [e3, e4]
      simp
theorem edDone_is {s : List UInt8} {l : List Ed} (h : edErr s.length l = 0) : edDone s l = edTo s 0 l := by
  obtain ⟨_, _, _, h, _⟩ := edErr_zero.1 h
  have := edDone_eq rfl h (k := 0) rfl (Nat.zero_le _)
  simpa using this
theorem edTo_length {n : Nat} {s : List UInt8} (hs : s.length = n) {l : List Ed} : ∀ {p : Option Int} {k : Nat}, Chain n p l → after k p → k ≤ n → ((edTo s k l).length : Int) = n - k + grows l := by
  induction l with
  | nil => intro p k _ _ _; simp [edTo, grows]; omega
  | cons x r ih =>
    intro p k hc ha hk
    cases hc with
    | cons _ _ _ h0 h =>
      obtain ⟨h1, h2, h3, h4, h5, h6, h7⟩ := edOne_zero h0
      have hk2 : (k : Int) ≤ x.at_ := by
        cases p with
        | none => simp only [after] at ha; omega
        | some e => simp only [after] at ha; have := h7 e rfl; omega
      have e1 := ih (p := some (x.at_ + x.del)) (k := (x.at_ + x.del).toNat) h (by simp only [after]; omega) (by omega)
      simp only [edTo, grows, List.length_append, List.length_take, List.length_drop]
      omega
end Go.Proofs.YtplgghjdidmcfaaGreatDoor
namespace Go.Proofs.YtplgghjdidmcfaaGreatDoor
def cutSB : List UInt8 → UInt8 → Option (List UInt8 × List UInt8)
  | [], _ => none
  | x :: s, c => if x = c then some ([], s) else (cutSB s c).map fun p => (x :: p.1, p.2)
theorem cutSB_none {c : UInt8} : ∀ {s : List UInt8}, (∀ b ∈ s, b ≠ c) → cutSB s c = none := by
  intro s
  induction s with
  | nil => intro _; rfl
  | cons x s ih =>
    intro h
    rw [cutSB, if_neg (h x List.mem_cons_self), ih fun b hb => h b (List.mem_cons_of_mem _ hb)]; rfl
theorem cutSB_at {c : UInt8} : ∀ {a r : List UInt8}, (∀ b ∈ a, b ≠ c) → cutSB (a ++ c :: r) c = some (a, r) := by
  intro a
  induction a with
  | nil => intro r _; rw [List.nil_append, cutSB, if_pos rfl]
  | cons x a ih =>
    intro r h
    rw [List.cons_append, cutSB, if_neg (h x List.mem_cons_self), ih fun b hb => h b (List.mem_cons_of_mem _ hb)]; rfl
theorem cutSB_spec {c : UInt8} : ∀ {s a r : List UInt8}, cutSB s c = some (a, r) → s = a ++ c :: r ∧ ∀ b ∈ a, b ≠ c := by
  intro s
  induction s with
  | nil => intro a r h; cases h
  | cons x s ih =>
    intro a r h
    rw [cutSB] at h
    split at h
    · rename_i hx
      simp only [Option.some.injEq, Prod.mk.injEq] at h
      obtain ⟨rfl, rfl⟩ := h
      subst hx
      exact ⟨rfl, by simp⟩
    · rename_i hx
      cases hc : cutSB s c with
      | none => rw [hc] at h; cases h
      | some p =>
        rw [hc] at h
        simp only [Option.map_some, Option.some.injEq, Prod.mk.injEq] at h
        obtain ⟨rfl, rfl⟩ := h
        obtain ⟨h1, h2⟩ := ih hc
        exact ⟨by rw [List.cons_append, ← h1], fun b hb => by
          rcases List.mem_cons.1 hb with rfl | hb
          · exact hx
          · exact h2 b hb⟩
theorem cutSB_len {c : UInt8} {s a r : List UInt8} (h : cutSB s c = some (a, r)) : r.length < s.length := by
  rw [(cutSB_spec h).1, List.length_append, List.length_cons]; omega
theorem index_cutB (c : UInt8) : ∀ s : List UInt8, Lib.index s [c] = match cutSB s c with
    | some p => (p.1.length : Int)
    | none => -1 := by
  intro s
  induction s with
  | nil => rfl
  | cons x s ih =>
    rw [Lib.index, cutSB]
    by_cases h : x = c
    · subst h
      simp
    · have e : List.isPrefixOf [c] (x :: s) = false := by
        simp only [List.isPrefixOf, Bool.and_eq_false_iff, beq_eq_false_iff_ne]
        exact .inl fun e => h e.symm
      rw [e, if_neg h]
      simp only [Bool.false_eq_true, if_false, ih]
      cases cutSB s c with
      | none => rfl
      | some p =>
        simp only [Option.map_some, List.length_cons]
        rw [if_neg (by first | (simp; done) | (simp; omega)), Int.natCast_add]
        rfl
theorem cut_lib (s : List UInt8) (c : UInt8) : Lib.cut s [c] = match cutSB s c with
    | some p => (p.1, p.2, true)
    | none => (s, [], false) := by
  unfold Lib.cut
  rw [index_cutB]
  cases h : cutSB s c with
  | none => rfl
  | some p =>
    obtain ⟨a, r⟩ := p
    simp only
    rw [if_pos (by omega), (cutSB_spec h).1]
    simp
/-- Where the first k bytes are not the end: what is cut begins with them. -/
theorem cutSB_pre {c : UInt8} {s a r : List UInt8} {k : Nat} (hn : ∀ b ∈ s.take k, b ≠ c) (h : cutSB s c = some (a, r)) : ∃ q, a = s.take k ++ q := by
  obtain ⟨h1, h2⟩ := cutSB_spec h
  have hka : k ≤ a.length := by
    rcases Nat.lt_or_ge a.length k with h3 | h3
    · exfalso
      refine hn c ?_ rfl
      rw [h1, List.take_append, List.mem_append]
      right
      rw [show k - a.length = (k - a.length - 1) + 1 by omega, List.take_succ_cons]
      exact List.mem_cons_self
    · exact h3
  refine ⟨a.drop k, ?_⟩
  rw [h1, List.take_append_of_le_length hka, List.take_append_drop]
theorem dec_app : ∀ (x y : List UInt8) (acc : Nat), Lib.decFrom acc (x ++ y) = match Lib.decFrom acc x with
    | some v => Lib.decFrom v y
    | none => none := by
  intro x
  induction x with
  | nil => intro y acc; rfl
  | cons b x ih =>
    intro y acc
    rw [List.cons_append, Lib.decFrom, Lib.decFrom]
    cases Lib.digitVal b with
    | none => rfl
    | some d => exact ih y _
theorem dec_ge : ∀ (x : List UInt8) (acc v : Nat), Lib.decFrom acc x = some v → acc * 10 ^ x.length ≤ v := by
  intro x
  induction x with
  | nil => intro acc v h; simp [Lib.decFrom] at h; subst h; simp
  | cons b x ih =>
    intro acc v h
    rw [Lib.decFrom] at h
    cases hd : Lib.digitVal b with
    | none => rw [hd] at h; cases h
    | some d =>
      rw [hd] at h
      have := ih _ _ h
      rw [List.length_cons, Nat.pow_succ, Nat.mul_comm (10 ^ x.length) 10, ← Nat.mul_assoc]
      exact Nat.le_trans (Nat.mul_le_mul_right _ (by omega)) this
theorem dec_up {x : List UInt8} {acc v : Nat} (h : Lib.decFrom acc x = some v) : acc ≤ v :=
  Nat.le_trans (Nat.le_mul_of_pos_right _ (Nat.pow_pos (by omega))) (dec_ge _ _ _ h)
/-- A numeral: none empty, of three digits at most, without a nought ahead. -/
def okNum (a : List UInt8) : Bool := decide (a.length ≠ 0 ∧ a.length ≤ 3 ∧ ¬ (a.getD 0 0 = 48 ∧ 1 < a.length))
def valNum (a : List UInt8) : Option Nat := if okNum a then Lib.decFrom 0 a else none
def cutNum (s : List UInt8) (c : UInt8) : Option (Nat × List UInt8) := match cutSB s c with
  | some p => (valNum p.1).map fun v => (v, p.2)
  | none => none
def progNum (s : List UInt8) (c : UInt8) (most : Nat) : Option (Nat × List UInt8) := match cutNum s c with
  | some p => if p.1 ≤ most then some p else none
  | none => none
theorem dig48 {b : UInt8} {d : Nat} (h : Lib.digitVal b = some d) : d = b.toNat - 48 ∧ 48 ≤ b.toNat ∧ b.toNat ≤ 57 := by
  unfold Lib.digitVal at h
  split at h
  · rename_i hb
    cases h; exact ⟨rfl, hb⟩
  · cases h
theorem okNum_small {a : List UInt8} {n : Nat} (h : Lib.decFrom 0 a = some n) (hn : n ≤ 999) : okNum a = (decide (0 < a.length) && (decide (a.getD 0 0 ≠ 48) || decide (a.length = 1))) := by
  cases a with
  | nil => rfl
  | cons b a =>
    rw [Lib.decFrom] at h
    cases hd : Lib.digitVal b with
    | none => rw [hd] at h; cases h
    | some d =>
      rw [hd] at h
      obtain ⟨e, h1, h2⟩ := dig48 hd
      have h3 := dec_ge _ _ _ h
      unfold okNum
      simp only [List.length_cons, List.getD_cons_zero]
      by_cases h48 : b = 48
      · subst h48
        cases a with
        | nil => decide
        | cons y a =>
          rw [Bool.eq_iff_iff]
          simp
      · have hb : b.toNat ≠ 48 := fun e => h48 (UInt8.toNat_inj.1 (e.trans (rfl : 48 = (48 : UInt8).toNat)))
        have hd1 : 1 ≤ d := by omega
        have hl : a.length ≤ 2 := by
          rcases Nat.lt_or_ge 2 a.length with h4 | h4
          · exfalso
            have h5 : 10 ^ 3 ≤ 10 ^ a.length := Nat.pow_le_pow_right (by omega) h4
            have h6 : 1 * 10 ^ a.length ≤ (0 * 10 + d) * 10 ^ a.length := Nat.mul_le_mul_right _ (by omega)
            omega
          · exact h4
        rw [Bool.eq_iff_iff]
        simp [h48]
        omega
/- What the program's reading of a number comes to. -/
theorem num_end {s : List UInt8} {c : UInt8} {most k n : Nat} (hk : k < s.length) (hn : ∀ b ∈ s.take k, b ≠ c) (hd : Lib.decFrom 0 (s.take k) = some n) (hm : n ≤ most) (hm9 : most ≤ 999) (hc : s.getD k 0 = c) :
    progNum s c most = if (decide (0 < k) && (decide (s.getD 0 0 ≠ 48) || decide (k = 1))) = true then some (n, s.drop (k + 1)) else none := by
  have e : s = s.take k ++ c :: s.drop (k + 1) := by
    conv => lhs; rw [← List.take_append_drop k s]
    rw [List.drop_eq_getElem_cons hk]
    congr 2
    rw [← hc, List.getD_eq_getElem?_getD, List.getElem?_eq_getElem hk]; rfl
  have h1 : cutSB s c = some (s.take k, s.drop (k + 1)) := by
    conv => lhs; rw [e]
    exact cutSB_at hn
  have h2 := okNum_small hd (by omega)
  have h3 : (s.take k).length = k := by rw [List.length_take]; omega
  unfold progNum cutNum
  rw [h1]
  simp only
  unfold valNum
  rw [h2, h3]
  cases Nat.eq_zero_or_pos k with
  | inl h0 => subst h0; simp
  | inr h0 =>
    have h4 : (s.take k).getD 0 0 = s.getD 0 0 := by
      rw [List.getD_eq_getElem?_getD, List.getD_eq_getElem?_getD, List.getElem?_take, if_pos h0]
    rw [h4]
    by_cases hf : (decide (0 < k) && (decide (s.getD 0 0 ≠ 48) || decide (k = 1))) = true
    · rw [if_pos hf, if_pos hf, hd]; simp only [Option.map_some]; rw [if_pos hm]
    · rw [if_neg hf, if_neg hf]; rfl
theorem num_stop {s : List UInt8} {c : UInt8} {most k : Nat} (hn : ∀ b ∈ s.take (k + 1), b ≠ c) (hd : Lib.decFrom 0 (s.take (k + 1)) = none) : progNum s c most = none := by
  unfold progNum cutNum
  cases h : cutSB s c with
  | none => rfl
  | some p =>
    obtain ⟨a, r⟩ := p
    obtain ⟨q, rfl⟩ := cutSB_pre hn h
    simp only
    have : valNum (s.take (k + 1) ++ q) = none := by
      unfold valNum
      rw [dec_app, hd]; split <;> rfl
    rw [this]; rfl
theorem num_much {s : List UInt8} {c : UInt8} {most k n : Nat} (hn : ∀ b ∈ s.take (k + 1), b ≠ c) (hd : Lib.decFrom 0 (s.take (k + 1)) = some n) (hm : most < n) : progNum s c most = none := by
  unfold progNum cutNum
  cases h : cutSB s c with
  | none => rfl
  | some p =>
    obtain ⟨a, r⟩ := p
    obtain ⟨q, rfl⟩ := cutSB_pre hn h
    simp only
    cases hv : valNum (s.take (k + 1) ++ q) with
    | none => rfl
    | some v =>
      unfold valNum at hv
      split at hv
      · rw [dec_app, hd] at hv
        have := dec_up hv
        simp only [Option.map_some]
        rw [if_neg (by omega)]
      · cases hv
theorem num_none {s : List UInt8} {c : UInt8} {most : Nat} (hn : ∀ b ∈ s, b ≠ c) : progNum s c most = none := by
  unfold progNum cutNum
  rw [cutSB_none hn]
end Go.Proofs.YtplgghjdidmcfaaGreatDoor
