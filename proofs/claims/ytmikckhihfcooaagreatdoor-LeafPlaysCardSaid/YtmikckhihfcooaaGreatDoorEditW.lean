/- edit.Check, the reference's EditsErr and Grows. -/
import Derived.Test.YtmikckhihfcooaaGreatDoorEdit0
import Derived.Test.YtmikckhihfcooaaGreatDoorSched
namespace Go.Proofs.YtmikckhihfcooaaGreatDoor
open Go.RowKit
def Ed.cells (x : Ed) : List Value := [.int .i64 x.at_, .int .i64 x.del, .string (S x.ins)]
def edCells (l : List Ed) : List Value := l.flatMap Ed.cells
theorem flat_len {α : Type} {ec : α → List Value} {m : Nat} (hec : ∀ x, (ec x).length = m) (l : List α) : (l.flatMap ec).length = l.length * m := by
  induction l with
  | nil => simp
  | cons a l ih => rw [List.flatMap_cons, List.length_append, ih, hec, List.length_cons, Nat.add_mul, Nat.one_mul, Nat.add_comm]
theorem flat_get {α : Type} {ec : α → List Value} {m : Nat} (hec : ∀ x, (ec x).length = m) (l : List α) (k : Nat) (hk : k < l.length) (j : Nat) (hj : j < m) : (l.flatMap ec)[k * m + j]? = (ec (l[k]'hk))[j]? := by
  induction l generalizing k with
  | nil => simp at hk
  | cons a l ih =>
    rw [List.flatMap_cons]
    cases k with
    | zero => rw [List.getElem?_append_left (by rw [hec]; omega)]; simp
    | succ k =>
      have := ih k (by simpa using hk)
      rw [List.getElem?_append_right (by rw [hec, Nat.add_mul]; omega), hec, List.getElem_cons_succ, ← this, Nat.add_mul]
      congr 1; omega
/-- A record of a slice that reads. -/
theorem Rd.at_rec {α : Type} {ec : α → List Value} {m : Nat} (hec : ∀ x, (ec x).length = m) (hm : 0 < m) {w : World} {B n : Nat} {A : Option Addr} {l : List α} (h : Rd w B m A n (l.flatMap ec)) {k : Nat} (hk : k < n) :
    ∃ ad, ∃ hl : k < l.length, A = some ad ∧ ad.block < B ∧ ∀ j u, (ec l[k])[j]? = some u → w.cell? (ad.add (k * m + j)) = some u := by
  have hl : l.length = n := by
    have := h.1
    rw [flat_len hec] at this
    exact Nat.eq_of_mul_eq_mul_right hm this
  obtain ⟨ad, e, hb, hc⟩ := h.2 (by omega)
  refine ⟨ad, by omega, e, hb, fun j u hu => ?_⟩
  have hj : j < m := by rw [← hec (l[k]'(by omega))]; exact (List.getElem?_eq_some_iff.1 hu).1
  exact hc _ _ (by rw [flat_get hec l k (by omega) j hj]; exact hu)
theorem Rd.rec_len {α : Type} {ec : α → List Value} {m : Nat} (hec : ∀ x, (ec x).length = m) (hm : 0 < m) {w : World} {B n : Nat} {A : Option Addr} {l : List α} (h : Rd w B m A n (l.flatMap ec)) : l.length = n := by
  have := h.1
  rw [flat_len hec] at this
  exact Nat.eq_of_mul_eq_mul_right hm this
theorem ed_len (x : Ed) : x.cells.length = 3 := rfl
theorem Rd.at_ed {w : World} {B n : Nat} {A : Option Addr} {l : List Ed} (h : Rd w B 3 A n (edCells l)) {k : Nat} (hk : k < n) :
    ∃ ad, ∃ hl : k < l.length, A = some ad ∧ ad.block < B ∧ w.cell? (ad.add (k * 3)) = some (.int .i64 l[k].at_) ∧ w.cell? ⟨(ad.add (k * 3)).block, (ad.add (k * 3)).off + 1, none⟩ = some (.int .i64 l[k].del) ∧
      w.cell? ⟨(ad.add (k * 3)).block, (ad.add (k * 3)).off + 2, none⟩ = some (.string (S l[k].ins)) := by
  obtain ⟨ad, hl, e, hb, hc⟩ := Rd.at_rec ed_len (by omega) h hk
  refine ⟨ad, hl, e, hb, hc 0 _ rfl, ?_, ?_⟩
  · have h1 := hc 1 _ rfl
    rwa [← add_add] at h1
  · have h1 := hc 2 _ rfl
    rwa [← add_add] at h1
theorem isEmpty_size (l : List UInt8) : (S l).toList.isEmpty = decide (l.length = 0) := by
  have : (S l).toList = l := ByteArray.toList_eq _
  rw [this]; cases l <;> simp
/-- As the checks ask it. -/
def edAt (n : Int) (k : Nat) (e : Int) (x : Ed) : Int :=
  if x.at_ < 0 ∨ x.del < 0 ∨ n < x.at_ ∨ n < x.at_ + x.del then 1 else if 40 < x.ins.length then 2 else if x.del = 0 ∧ x.ins.length = 0 then 5 else if 0 < k ∧ x.at_ ≤ e then 6 else 0
/-- Where the loop of the checks stands. -/
structure EdAt (n : Int) (l : List Ed) (k : Nat) (e : Int) : Prop where
  le : k ≤ l.length
  e0 : 0 ≤ e
  e1 : e ≤ n
  go : edGo n none n l = edGo n (lastEnd (l.take k)) (n + grows (l.take k)) (l.drop k)
  last : lastEnd (l.take k) = if k = 0 then none else some e
  lo : -(200 * k : Int) ≤ grows (l.take k)
  hi : grows (l.take k) ≤ 40 * k
  chain : ∀ x ∈ l.take k, 0 ≤ x.del ∧ x.del ≤ 200 ∧ x.ins.length ≤ 40
theorem edAt_eq {n : Int} {l : List Ed} {k : Nat} {e : Int} (h : EdAt n l k e) (x : Ed) : edOne n (lastEnd (l.take k)) x = edAt n k e x := by
  unfold edOne edAt
  rw [h.last]
  have : (∃ e_1, (if k = 0 then none else some e) = some e_1 ∧ x.at_ ≤ e_1) ↔ (0 < k ∧ x.at_ ≤ e) := by
    by_cases hk : k = 0
    · simp [hk]
    · rw [if_neg hk]
      constructor
      · rintro ⟨_, h1, h2⟩; cases h1; exact ⟨by omega, h2⟩
      · rintro ⟨_, h2⟩; exact ⟨_, rfl, h2⟩
  simp only [this]
theorem EdAt.start {n : Int} (h : 0 ≤ n) (l : List Ed) : EdAt n l 0 0 := ⟨Nat.zero_le _, Int.le_refl _, h, by simp [lastEnd, grows], by simp [lastEnd], by simp [grows], by simp [grows], by simp⟩
theorem EdAt.step {n : Int} {l : List Ed} {k : Nat} {e : Int} (h : EdAt n l k e) (hn : n ≤ 200) (hk : k < l.length) (h0 : edAt n k e l[k] = 0) : EdAt n l (k + 1) (l[k].at_ + l[k].del) ∧ grows (l.take (k + 1)) = grows (l.take k) + (l[k].ins.length - l[k].del) := by
  have hg : grows (l.take (k + 1)) = grows (l.take k) + (l[k].ins.length - l[k].del) := by
    rw [List.take_succ_eq_append_getElem hk, grows_append]; simp [grows]
  have h1 := edAt_eq h l[k]
  rw [h0] at h1
  obtain ⟨a, b, c, d, f, _⟩ := edOne_zero h1
  have hlo := h.lo
  have hhi := h.hi
  refine ⟨⟨hk, by omega, d, edGo_take n l k hk h.go h1, ?_, by rw [hg]; omega, by rw [hg]; omega, ?_⟩, hg⟩
  · rw [lastEnd_take l k hk, if_neg (by omega)]
  · intro x hx
    rw [List.take_succ_eq_append_getElem hk] at hx
    rcases List.mem_append.1 hx with hx | hx
    · exact h.chain x hx
    · simp only [List.mem_singleton] at hx; subst hx; omega
theorem EdAt.bad {n : Int} {l : List Ed} {k : Nat} {e : Int} (h : EdAt n l k e) (hn0 : 0 ≤ n) (hn : n ≤ 200) (hl : l.length ≤ 20) (hk : k < l.length) {c : Int} (hc : edAt n k e l[k] = c) (hc0 : c ≠ 0) : edErr n l = c := by
  have h1 := edAt_eq h l[k]
  unfold edErr
  rw [if_neg (by omega), if_neg (by omega), edGo_bad n l k hk h.go (by rw [h1, hc]; exact hc0), h1, hc]
theorem EdAt.fin {n : Int} {l : List Ed} {k : Nat} {e : Int} (h : EdAt n l k e) (hn0 : 0 ≤ n) (hn : n ≤ 200) (hl : l.length ≤ 20) (hk : ¬ k < l.length) : edErr n l = if 200 < n + grows (l.take k) then 11 else 0 := by
  obtain rfl : k = l.length := by have := h.le; omega
  unfold edErr
  rw [if_neg (by omega), if_neg (by omega), edGo_end n l h.go, List.take_length]
set_option maxRecDepth 100000 in
set_option maxHeartbeats 2000000 in
theorem edCheck_any (n : Int) (l : List Ed) (A : Option Addr) (m c B : Nat) (w : World) (hr : Rd w B 3 A m (edCells l)) (hB : B ≤ w.heap.size) (hm : m ≤ 9223372036854775807) :
    Calls Tryz.prog 35 #[.int .i64 n, .slice A m c] w fun e w' => e = .returned (.int .i64 (edErr n l)) ∧ Below w.heap.size w w' := by
  have hlen := Rd.rec_len ed_len (by omega) hr
  by_cases hn : n < 0 ∨ 200 < n
  · have HE : Hid (edErr n l = 1) := by unfold Hid edErr; rw [if_pos hn]
    have HN := Lib.hid hn; clear hn hr
    go_enter Tryz.func35, Tryz.ntmps35
    go_wp2
    all_goals first
      | (go_ret; exact ⟨ret_int HE.out.symm, Below.refl _ _⟩)
      | (exfalso; have := HN.out; omega)
  have hn0 : 0 ≤ n := by omega
  have hn1 : n ≤ 200 := by omega
  have HN := Lib.hid hn; clear hn
  by_cases h20 : 20 < m
  · have HE : Hid (edErr n l = 2) := by unfold Hid edErr; rw [if_neg HN.out, if_pos (by omega)]
    clear hr
    go_enter Tryz.func35, Tryz.ntmps35
    go_wp2
    go_ret
    exact ⟨ret_int HE.out.symm, Below.refl _ _⟩
  have HR := Lib.hid hr; clear hr
  have HL := Lib.hid hlen; clear hlen
  go_enter Tryz.func35, Tryz.ntmps35
  go_wp2
  go_loopw [5, 6, 21] (fun e s i wr => ∃ (k : Nat) (e' : Int), EdAt n l k e' ∧ i = .int .i64 k ∧ e = .int .i64 e' ∧ s = .int .i64 (n + grows (l.take k)) ∧ Below w.heap.size w wr)
    (fun _ _ i _ => m - (intOf i).toNat)
  case atStart => exact ⟨0, 0, EdAt.start hn0 l, rfl, rfl, by simp [grows], Below.refl _ _⟩
  case round =>
    obtain ⟨k, e', HA, rfl, rfl, rfl, hb⟩ := hrel
    have hk := HA.le
    rw [HL.out] at hk
    have hbs := hb.size
    have he0 := HA.e0
    have he1 := HA.e1
    have glo := HA.lo
    have ghi := HA.hi
    by_cases hlt : k < m
    · obtain ⟨ad, hl, rfl, hab, c0, c1, c2⟩ := (HR.out.below (hb.mono hB)).at_ed hlt
      have HSt : Hid (edAt n k e' l[k] = 0 → EdAt n l (k + 1) (l[k].at_ + l[k].del) ∧ grows (l.take (k + 1)) = grows (l.take k) + (l[k].ins.length - l[k].del)) := HA.step hn1 hl
      have HBd : Hid (∀ c, edAt n k e' l[k] = c → c ≠ 0 → edErr n l = c) := fun c => HA.bad hn0 hn1 (by rw [HL.out]; omega) hl
      have hz : (S l[k].ins).size = l[k].ins.length := S_size _
      have HZ := Lib.hid hz; clear hz
      generalize l[k] = x at *
      generalize grows (l.take k) = g at *
      obtain ⟨xa, xd, xi⟩ := x
      simp only at c0 c1 c2 HSt HBd HZ
      clear HA
      have HZ1 : Hid ((S xi).toList.isEmpty = decide (xi.length = 0)) := isEmpty_size xi
      go_wp2
      all_goals first
        | (go_ret
           refine ⟨ret_int (HBd.out _ ?_ (by decide)).symm, (by repeat (first | exact Below.refl _ _ | assumption | refine Below.alloc ?_ (by first | exact Nat.le_refl _ | assumption | omega | (simp <;> omega)) _ | refine Below.setCell ?_ (by first | exact Nat.le_refl _ | assumption | omega | (simp <;> omega)) _ | refine Below.drew ?_ | refine below_drewN ?_ _))⟩
           go_light
           have hz := HZ.out; have hz1 := HZ1.out
           clear HBd HSt HZ HZ1
           unfold edAt
           grind)
        | (go_roundw
           case rel =>
             go_light
             have hz := HZ.out; have hz1 := HZ1.out
             have h0 : edAt n k e' ⟨xa, xd, xi⟩ = 0 := by
               clear HBd HSt HZ HZ1
               unfold edAt
               grind
             obtain ⟨h1, h2⟩ := HSt.out h0
             exact ⟨k + 1, _, h1, by go_num, by first | rfl | (congr 1; omega), by rw [h2, hz]; congr 1; omega, (by repeat (first | exact Below.refl _ _ | assumption | refine Below.alloc ?_ (by first | exact Nat.le_refl _ | assumption | omega | (simp <;> omega)) _ | refine Below.setCell ?_ (by first | exact Nat.le_refl _ | assumption | omega | (simp <;> omega)) _ | refine Below.drew ?_ | refine below_drewN ?_ _))⟩
           case measure => simp [intOf]; omega)
    · have HF := Lib.hid (HA.fin hn0 hn1 (by rw [HL.out]; omega) (by rw [HL.out]; omega))
      clear HA
      go_wp2
      all_goals go_ret
      all_goals refine ⟨ret_int ?_, hb⟩
      all_goals (rw [HF.out]; split <;> first | rfl | omega)
end Go.Proofs.YtmikckhihfcooaaGreatDoor
