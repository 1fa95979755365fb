/- A script as a text: reading, the program's way and the document's (plain). script.Check and the document's ScriptErr. slices.Index, Contains and Clone at strings, of a slice that reads as a list. -/
import Derived.Test.YtmikckhihfcooaaDoorPk18
import Derived.Test.YtmikckhihfcooaaDoorPk02
import Derived.Test.YtmikckhihfcooaaDoorPk09
import Derived.Test.YtmikckhihfcooaaDoorPk03
namespace Go.Proofs.YtmikckhihfcooaaDoor
def scrOneE (x : Ed) : Int := if x.at_ < 0 ∨ 200 < x.at_ ∨ x.del < 0 ∨ 200 < x.del then 1 else if 40 < x.ins.length then 2 else 0
def scrGo : List Ed → Int
  | [] => 0
  | x :: l => if scrOneE x = 0 then scrGo l else scrOneE x
def scrErr (l : List Ed) : Int := if 20 < l.length then 2 else scrGo l
theorem scrGo_take {l : List Ed} {k : Nat} (h : ∀ i, i < k → ∀ x, l[i]? = some x → scrOneE x = 0) : scrGo l = scrGo (l.drop k) := by
  induction l generalizing k with
  | nil => simp
  | cons x l ih =>
    cases k with
    | zero => rfl
    | succ k =>
      rw [List.drop_succ_cons, scrGo, if_pos (h 0 (by omega) x rfl)]
      exact ih fun i hi y hy => h (i + 1) (by omega) y (by simpa using hy)
theorem scrGo_zero {l : List Ed} : scrGo l = 0 ↔ ∀ x ∈ l, scrOneE x = 0 := by
  induction l with
  | nil => simp [scrGo]
  | cons x l ih =>
    rw [scrGo]
    by_cases h : scrOneE x = 0
    · rw [if_pos h, ih]; simp [h]
    · rw [if_neg h]; simp [h]
theorem scrErr_zero {l : List Ed} : scrErr l = 0 ↔ l.length ≤ 20 ∧ ∀ x ∈ l, scrOneE x = 0 := by
  unfold scrErr
  by_cases h : 20 < l.length
  · rw [if_pos h]
    constructor
    · intro h2; cases h2
    · intro h2; omega
  · rw [if_neg h, scrGo_zero]
    exact ⟨fun h2 => ⟨by omega, h2⟩, fun h2 => h2.2⟩
def rest3 (r : List UInt8) (a d n : Nat) : Option (Ed × List UInt8) := if n < r.length ∧ r.getD n 0 = 59 then some (⟨(a : Int), (d : Int), r.take n⟩, r.drop (n + 1)) else none
def entryR (s : List UInt8) : Option (Ed × List UInt8) := match cutNum s 32 with
  | none => none
  | some (a, r1) => match cutNum r1 32 with
    | none => none
    | some (d, r2) => match cutNum r2 58 with
      | none => none
      | some (n, r3) => rest3 r3 a d n
def entryP (s : List UInt8) : Option (Ed × List UInt8) := match progNum s 32 200 with
  | none => none
  | some (a, r1) => match progNum r1 32 200 with
    | none => none
    | some (d, r2) => match progNum r2 58 40 with
      | none => none
      | some (n, r3) => rest3 r3 a d n
theorem rest3_some {r r' : List UInt8} {a d n : Nat} {x : Ed} (h : rest3 r a d n = some (x, r')) : x = ⟨(a : Int), (d : Int), r.take n⟩ ∧ n < r.length ∧ r' = r.drop (n + 1) := by
  unfold rest3 at h
  split at h
  · rename_i h1
    simp only [Option.some.injEq, Prod.mk.injEq] at h
    exact ⟨h.1.symm, h1.1, h.2.symm⟩
  · cases h
def fits (o : Option (Ed × List UInt8)) : Option (Ed × List UInt8) := match o with
  | some p => if scrOneE p.1 = 0 then some p else none
  | none => none
theorem fits_rest3 (r : List UInt8) (a d n : Nat) : fits (rest3 r a d n) = if a ≤ 200 ∧ d ≤ 200 ∧ n ≤ 40 then rest3 r a d n else none := by
  cases h : rest3 r a d n with
  | none => simp [fits]
  | some p =>
    obtain ⟨x, r'⟩ := p
    obtain ⟨h1, h2, _⟩ := rest3_some h
    have h3 : (r.take n).length = n := by rw [List.length_take]; omega
    unfold fits
    simp only
    subst h1
    by_cases hh : a ≤ 200 ∧ d ≤ 200 ∧ n ≤ 40
    · rw [if_pos hh, if_pos]
      unfold scrOneE
      rw [h3, if_neg (by simp only; omega), if_neg (by omega)]
    · rw [if_neg hh, if_neg]
      unfold scrOneE
      rw [h3]
      intro h4
      split at h4
      · cases h4
      · split at h4
        · cases h4
        · rename_i h5 h6
          simp only at h5
          omega
theorem entryP_eq (s : List UInt8) : entryP s = fits (entryR s) := by
  unfold entryP entryR progNum
  cases cutNum s 32 with
  | none => rfl
  | some p1 =>
    obtain ⟨a, r1⟩ := p1
    simp only
    cases h2 : cutNum r1 32 with
    | none =>
      simp only [fits]
      by_cases ha : a ≤ 200
      · rw [if_pos ha]; simp only [h2]
      · rw [if_neg ha]
    | some p2 =>
      obtain ⟨d, r2⟩ := p2
      simp only
      cases h3 : cutNum r2 58 with
      | none =>
        simp only [fits]
        by_cases ha : a ≤ 200
        · rw [if_pos ha]; simp only [h2]
          by_cases hd : d ≤ 200
          · rw [if_pos hd]; simp only [h3]
          · rw [if_neg hd]
        · rw [if_neg ha]
      | some p3 =>
        obtain ⟨n, r3⟩ := p3
        simp only
        rw [fits_rest3]
        by_cases ha : a ≤ 200
        · rw [if_pos ha]; simp only [h2]
          by_cases hd : d ≤ 200
          · rw [if_pos hd]; simp only [h3]
            by_cases hn : n ≤ 40
            · rw [if_pos hn, if_pos ⟨ha, hd, hn⟩]
            · rw [if_neg hn, if_neg (fun h => hn h.2.2)]
          · rw [if_neg hd, if_neg (fun h => hd h.2.1)]
        · rw [if_neg ha, if_neg (fun h => ha h.1)]
theorem cutNum_len {s r : List UInt8} {c : UInt8} {v : Nat} (h : cutNum s c = some (v, r)) : r.length < s.length := by
  unfold cutNum at h
  cases hc : cutSB s c with
  | none => rw [hc] at h; cases h
  | some p =>
    rw [hc] at h
    simp only [Option.map_eq_some_iff, Prod.mk.injEq] at h
    obtain ⟨v', _, _, rfl⟩ := h
    exact cutSB_len (a := p.1) (r := p.2) hc
theorem entryR_len {s r : List UInt8} {x : Ed} (h : entryR s = some (x, r)) : r.length < s.length := by
  unfold entryR at h
  cases h1 : cutNum s 32 with
  | none => rw [h1] at h; cases h
  | some p1 =>
    obtain ⟨a, r1⟩ := p1
    rw [h1] at h
    simp only at h
    cases h2 : cutNum r1 32 with
    | none => rw [h2] at h; cases h
    | some p2 =>
      obtain ⟨d, r2⟩ := p2
      rw [h2] at h
      simp only at h
      cases h3 : cutNum r2 58 with
      | none => rw [h3] at h; cases h
      | some p3 =>
        obtain ⟨n, r3⟩ := p3
        rw [h3] at h
        simp only at h
        obtain ⟨_, _, rfl⟩ := rest3_some h
        have := cutNum_len h1
        have := cutNum_len h2
        have := cutNum_len h3
        rw [List.length_drop]; omega
def readF : Nat → List UInt8 → Option (List Ed)
  | 0, _ => none
  | f + 1, s => if s = [] then some [] else match entryR s with
    | none => none
    | some p => (readF f p.2).map (p.1 :: ·)
theorem readF_more : ∀ (f : Nat) {g : Nat} {s : List UInt8}, s.length < f → s.length < g → readF f s = readF g s := by
  intro f
  induction f with
  | zero => intro g s h; omega
  | succ f ih =>
    intro g s h1 h2
    obtain ⟨g, rfl⟩ : ∃ g', g = g' + 1 := ⟨g - 1, by omega⟩
    rw [readF, readF]
    by_cases hs : s = []
    · rw [if_pos hs, if_pos hs]
    · rw [if_neg hs, if_neg hs]
      cases he : entryR s with
      | none => rfl
      | some p =>
        have := entryR_len (x := p.1) (r := p.2) he
        simp only
        rw [ih (g := g) (s := p.2) (by omega) (by omega)]
def readR (s : List UInt8) : Option (List Ed) := readF (s.length + 1) s
theorem readR_nil : readR [] = some [] := rfl
theorem readR_step {s : List UInt8} (hs : s ≠ []) : readR s = match entryR s with
    | none => none
    | some p => (readR p.2).map (p.1 :: ·) := by
  unfold readR
  rw [readF, if_neg hs]
  cases he : entryR s with
  | none => rfl
  | some p =>
    have := entryR_len (x := p.1) (r := p.2) he
    simp only
    rw [readF_more s.length (g := p.2.length + 1) (s := p.2) (by omega) (by omega)]
/-- What the program reads behind n entries. -/
def readP (n : Nat) (s : List UInt8) : Option (List Ed) := match readR s with
  | some out => if n + out.length ≤ 20 ∧ ∀ x ∈ out, scrOneE x = 0 then some out else none
  | none => none
theorem readP_nil {n : Nat} (h : n ≤ 20) : readP n [] = some [] := by
  unfold readP; rw [readR_nil]; simp; omega
theorem readP_full {s : List UInt8} (hs : s ≠ []) : readP 20 s = none := by
  unfold readP
  rw [readR_step hs]
  cases entryR s with
  | none => rfl
  | some p =>
    simp only
    cases readR p.2 with
    | none => rfl
    | some out => simp only [Option.map_some]; rw [if_neg]; rintro ⟨h, _⟩; rw [List.length_cons] at h; omega
theorem readP_step {s : List UInt8} {n : Nat} (hs : s ≠ []) : readP n s = match entryP s with
    | none => none
    | some p => (readP (n + 1) p.2).map (p.1 :: ·) := by
  rw [entryP_eq]
  unfold readP
  rw [readR_step hs]
  cases entryR s with
  | none => rfl
  | some p =>
    simp only [fits]
    cases hr : readR p.2 with
    | none =>
      simp only [Option.map_none]
      by_cases h : scrOneE p.1 = 0
      · rw [if_pos h]; simp only [hr, Option.map_none]
      · rw [if_neg h]
    | some out =>
      simp only [Option.map_some]
      by_cases h : scrOneE p.1 = 0
      · rw [if_pos h]; simp only [hr]
        by_cases h2 : n + 1 + out.length ≤ 20 ∧ ∀ x ∈ out, scrOneE x = 0
        · rw [if_pos h2, if_pos ⟨by rw [List.length_cons]; omega, fun x hx => by
            rcases List.mem_cons.1 hx with rfl | hx
            · exact h
            · exact h2.2 x hx⟩]; rfl
        · rw [if_neg h2, if_neg (fun h3 => h2 ⟨by have := h3.1; rw [List.length_cons] at this; omega, fun x hx => h3.2 x (List.mem_cons_of_mem _ hx)⟩)]; rfl
      · rw [if_neg h, if_neg (fun h3 => h (h3.2 _ List.mem_cons_self))]
theorem readP_zero (s : List UInt8) : readP 0 s = match readR s with
    | some out => if scrErr out = 0 then some out else none
    | none => none := by
  unfold readP
  cases readR s with
  | none => rfl
  | some out =>
    simp only [Nat.zero_add]
    by_cases h : scrErr out = 0
    · rw [if_pos h, if_pos (scrErr_zero.1 h)]
    · rw [if_neg h, if_neg (fun h2 => h (scrErr_zero.2 h2))]
theorem map_app {o : Option (List Ed)} {out : List Ed} {x : Ed} : ((o.map (x :: ·)).map (out ++ ·)) = o.map ((out ++ [x]) ++ ·) := by
  cases o with
  | none => rfl
  | some l => simp
end Go.Proofs.YtmikckhihfcooaaDoor
namespace Go.Proofs.YtmikckhihfcooaaDoor
open Go.RowKit
theorem scr_bad {l : List Ed} {k : Nat} (h20 : l.length ≤ 20) (hk : k < l.length) (h : ∀ i, i < k → ∀ x, l[i]? = some x → scrOneE x = 0) {c : Int} (h1 : scrOneE l[k] = c) (hc : c ≠ 0) : scrErr l = c := by
  unfold scrErr
  rw [if_neg (by omega), scrGo_take h, List.drop_eq_getElem_cons hk, scrGo, if_neg (by rw [h1]; exact hc), h1]
theorem scr_next {l : List Ed} {k : Nat} (hk : k < l.length) (h : ∀ i, i < k → ∀ x, l[i]? = some x → scrOneE x = 0) (h0 : scrOneE l[k] = 0) : ∀ i, i < k + 1 → ∀ x, l[i]? = some x → scrOneE x = 0 := fun i hi x hx => by
  rcases Nat.lt_or_ge i k with h1 | h1
  · exact h i h1 x hx
  · obtain rfl : i = k := by omega
    rw [List.getElem?_eq_getElem hk] at hx
    cases hx; exact h0
theorem scr_end {l : List Ed} {k : Nat} (h20 : l.length ≤ 20) (hk : l.length ≤ k) (h : ∀ i, i < k → ∀ x, l[i]? = some x → scrOneE x = 0) : scrErr l = 0 := by
  unfold scrErr
  rw [if_neg (by omega), scrGo_take h, List.drop_eq_nil_of_le hk]; rfl
set_option maxRecDepth 100000 in
set_option maxHeartbeats 4000000 in
theorem scrCheck_any (l : List Ed) (A : Option Addr) (m c B : Nat) (w : World) (hr : Rd w B 3 A m (edCells l)) (hB : B ≤ w.heap.size) (hm : m ≤ 9223372036854775807) :
    Calls Tryd.prog 41 #[.slice A m c] w fun e w' => e = .returned (.int .i64 (scrErr l)) ∧ Below w.heap.size w w' := by
  have hlen := Rd.rec_len ed_len (by omega) hr
  by_cases h20 : 20 < m
  · have HE : Hid (scrErr l = 2) := by unfold Hid scrErr; rw [if_pos (by omega)]
    clear hr
    go_enter Tryd.func41, Tryd.ntmps41
    go_wp2
    go_ret
    exact ⟨ret_int HE.out.symm, Below.refl _ _⟩
  have HR := Lib.hid hr; clear hr
  have HL := Lib.hid hlen; clear hlen
  go_enter Tryd.func41, Tryd.ntmps41
  go_wp2
  go_loopw [10] (fun i wr => ∃ k : Nat, k ≤ m ∧ i = .int .i64 k ∧ Hid (∀ i, i < k → ∀ x, l[i]? = some x → scrOneE x = 0) ∧ Below w.heap.size w wr)
    (fun i _ => m - (intOf i).toNat)
  case atStart => exact ⟨0, Nat.zero_le _, rfl, Lib.hid (fun i hi => by omega), Below.refl _ _⟩
  case round =>
    obtain ⟨k, hk, rfl, HN, hb⟩ := hrel
    have hbs := hb.size
    by_cases hlt : k < m
    · obtain ⟨ad, hl, rfl, hab, c0, c1, c2⟩ := (HR.out.below (hb.mono hB)).at_ed hlt
      have HSt : Hid (scrOneE l[k] = 0 → ∀ i, i < k + 1 → ∀ x, l[i]? = some x → scrOneE x = 0) := scr_next hl HN.out
      have HBd : Hid (∀ c, scrOneE l[k] = c → c ≠ 0 → scrErr l = c) := fun c => scr_bad (by rw [HL.out]; omega) hl HN.out
      have hz : (S l[k].ins).size = l[k].ins.length := S_size _
      have HZ := Lib.hid hz; clear hz HN
      generalize l[k] = x at *
      obtain ⟨xa, xd, xi⟩ := x
      simp only at c0 c1 c2 HSt HBd HZ
      skip
      go_wp2
      all_goals first
        | (go_ret
           refine ⟨ret_int (HBd.out _ ?_ (by decide)).symm, (by repeat (first | exact Below.refl _ _ | assumption | refine Below.alloc ?_ (by first | exact Nat.le_refl _ | assumption | omega | (simp <;> omega)) _ | refine Below.setCell ?_ (by first | exact Nat.le_refl _ | assumption | omega | (simp <;> omega)) _ | refine Below.drew ?_ | refine below_drewN ?_ _))⟩
           go_light
           have hz := HZ.out
           clear HBd HSt HZ
           unfold scrOneE
           grind)
        | (go_roundw
           case rel =>
             go_light
             have hz := HZ.out
             have h0 : scrOneE ⟨xa, xd, xi⟩ = 0 := by
               clear HBd HSt HZ
               unfold scrOneE
               grind
             exact ⟨k + 1, by omega, by go_num, HSt.out h0, (by repeat (first | exact Below.refl _ _ | assumption | refine Below.alloc ?_ (by first | exact Nat.le_refl _ | assumption | omega | (simp <;> omega)) _ | refine Below.setCell ?_ (by first | exact Nat.le_refl _ | assumption | omega | (simp <;> omega)) _ | refine Below.drew ?_ | refine below_drewN ?_ _))⟩
           case measure => simp [intOf]; omega)
    · have HF := Lib.hid (scr_end (l := l) (k := k) (by rw [HL.out]; omega) (by rw [HL.out]; omega) HN.out)
      go_wp2
      all_goals go_ret
      all_goals exact ⟨ret_int HF.out.symm, hb⟩
end Go.Proofs.YtmikckhihfcooaaDoor
namespace Go.Proofs.YtmikckhihfcooaaDoor
open Go.RowKit
theorem idxC_ne (l : List (List UInt8)) (x : List UInt8) : ∀ j, j < l.idxOf x → ∀ hj : j < l.length, l[j] ≠ x := by
  intro j h hj e
  have h2 : j < l.findIdx (· == x) := h
  have := List.not_of_lt_findIdx h2
  rw [e] at this
  simp at this
def idxL2 (l : List (List UInt8)) (x : List UInt8) : Int := if x ∈ l then (l.idxOf x : Int) else -1
theorem idxL2_lt {l : List (List UInt8)} {i : Nat} (hi : i < l.length) : (idxL2 l (l.getD i []) < (i : Int)) ↔ l.getD i [] ∈ l.take i := by
  have hg : l.getD i [] = l[i] := by rw [List.getD_eq_getElem?_getD, List.getElem?_eq_getElem hi]; rfl
  rw [hg]
  unfold idxL2
  rw [if_pos (List.getElem_mem hi)]
  have hlt := List.idxOf_lt_length_of_mem (List.getElem_mem hi)
  constructor
  · intro h
    refine List.mem_take_iff_getElem.2 ⟨l.idxOf l[i], by omega, ?_⟩
    exact List.getElem_idxOf _
  · intro h
    obtain ⟨j, hj, e⟩ := List.mem_take_iff_getElem.1 h
    have h1 : l.idxOf l[i] ≤ j := by
      rcases Nat.lt_or_ge j (l.idxOf l[i]) with h2 | h2
      · exact absurd e (idxC_ne _ _ _ h2 _)
      · exact h2
    omega
end Go.Proofs.YtmikckhihfcooaaDoor
