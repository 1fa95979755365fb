/- edit.Apply, edit.Undo, edit.Place. -/
import Derived.Test.YtmikckhihfcooaaGreatDoorEditR
import Derived.Test.YtmikckhihfcooaaGreatDoorEditP0
import Derived.Test.YtmikckhihfcooaaGreatDoorOwn2
namespace Go.Proofs.YtmikckhihfcooaaGreatDoor
open Go.RowKit
theorem drop_cons_get {α : Type} {l : List α} {k : Nat} (h : k < l.length) : l.drop k = l[k] :: l.drop (k + 1) := List.drop_eq_getElem_cons h
/-- What Apply answers. -/
def apOut (s : ByteArray) (l : List Ed) : ByteArray := if edErr s.size l = 0 then S (edDone (L s) l) else S []
theorem ret_si {a b : ByteArray} {x y : Int} (h : a = b) (k : x = y) : Ending.returned (.tuple #[.string a, .int .i64 x]) = .returned (.tuple #[.string b, .int .i64 y]) := by rw [h, k]
/-- Where the loop of Apply stands. -/
structure ApAt (s : List UInt8) (l : List Ed) (k p : Nat) (out : List UInt8) : Prop where
  le : k ≤ l.length
  chain : ∃ q, Chain s.length q (l.drop k) ∧ after p q
  pn : p ≤ s.length
  eq : out ++ edTo s p (l.drop k) = edTo s 0 l
theorem ApAt.start {s : List UInt8} {l : List Ed} (h : edErr s.length l = 0) : ApAt s l 0 0 [] := ⟨Nat.zero_le _, ⟨none, (edErr_zero.1 h).2.2.2.1, rfl⟩, Nat.zero_le _, rfl⟩
theorem ApAt.bounds {s : List UInt8} {l : List Ed} {k p : Nat} {out : List UInt8} (h : ApAt s l k p out) (hk : k < l.length) : (p : Int) ≤ l[k].at_ ∧ 0 ≤ l[k].del ∧ l[k].at_ + l[k].del ≤ s.length ∧ l[k].ins.length ≤ 40 := by
  obtain ⟨q, hc, ha⟩ := h.chain
  rw [drop_cons_get hk] at hc
  cases hc with
  | cons _ _ _ h0 hc =>
    obtain ⟨h1, h2, h3, h4, h5, h6, h7⟩ := edOne_zero h0
    refine ⟨?_, h2, h4, h5⟩
    cases q with
    | none => simp only [after] at ha; omega
    | some e => simp only [after] at ha; have := h7 e rfl; omega
theorem ApAt.step {s : List UInt8} {l : List Ed} {k p : Nat} {out : List UInt8} (h : ApAt s l k p out) (hk : k < l.length) :
    ApAt s l (k + 1) (l[k].at_ + l[k].del).toNat (out ++ ((s.drop p).take (l[k].at_.toNat - p) ++ l[k].ins)) := by
  have hb := h.bounds hk
  obtain ⟨q, hc, ha⟩ := h.chain
  have he := h.eq
  rw [drop_cons_get hk] at hc he
  cases hc with
  | cons _ _ _ h0 hc =>
    refine ⟨hk, ⟨_, hc, by simp only [after]; omega⟩, by omega, ?_⟩
    rw [← he]; simp [edTo]
theorem ApAt.fin {s : List UInt8} {l : List Ed} {p : Nat} {out : List UInt8} (h : ApAt s l l.length p out) : out ++ s.drop p = edTo s 0 l := by
  have := h.eq
  rwa [List.drop_length] at this
theorem ApAt.len {s : List UInt8} {l : List Ed} {k p : Nat} {out : List UInt8} (h : ApAt s l k p out) (h0 : edErr s.length l = 0) : out.length ≤ 200 ∧ (edTo s 0 l).length ≤ 200 := by
  obtain ⟨_, _, _, hc, hf⟩ := edErr_zero.1 h0
  have hl := edTo_length rfl hc (k := 0) rfl (Nat.zero_le _)
  have := congrArg List.length h.eq
  rw [List.length_append] at this
  omega
set_option maxRecDepth 100000 in
set_option maxHeartbeats 2000000 in
theorem edApply_any (s : ByteArray) (l : List Ed) (A : Option Addr) (m c B : Nat) (w : World) (hr : Rd w B 3 A m (edCells l)) (hB : B ≤ w.heap.size) (hm : m ≤ 9223372036854775807) (hs : s.size ≤ 140737488351232) :
    Calls Tryz.prog 23 #[.string s, .slice A m c] w fun e w' => e = .returned (.tuple #[.string (apOut s l), .int .i64 (edErr s.size l)]) ∧ Below w.heap.size w w' := by
  have hlen := Rd.rec_len ed_len (by omega) hr
  have HR := Lib.hid hr; clear hr
  have HL := Lib.hid hlen; clear hlen
  by_cases hE : edErr s.size l = 0
  · have g1 : (edErr s.size l != 0) = false := by rw [hE]; rfl
    have HE := Lib.hid hE
    have HE' : Hid (edErr (L s).length l = 0) := by unfold Hid; rw [L_len]; exact hE
    have hz := (edErr_zero.1 hE).2.1
    clear hE
    go_enter Tryz.func23, Tryz.ntmps23
    go_wp2_with fail
    refine (edCheck_any s.size l A m c B w HR.out hB hm).mono ?_
    rintro e w1 ⟨rfl, hb1⟩
    go_wp2_with fail
    go_loopw [7, 8, 20] (fun o a i wr => ∃ (k p : Nat) (out : List UInt8), ApAt (L s) l k p out ∧ i = .int .i64 k ∧ a = .int .i64 p ∧ o = .string (S out) ∧ Below w.heap.size w wr) (fun _ _ i _ => m - (intOf i).toNat)
    case atStart => exact ⟨0, 0, [], ApAt.start HE'.out, rfl, rfl, rfl, hb1⟩
    case round =>
      obtain ⟨k, p, out, HA, rfl, rfl, rfl, hb⟩ := hrel
      have hk := HA.le
      rw [HL.out] at hk
      have hbs := hb.size
      have hpn := HA.pn
      rw [L_len] at hpn
      have hol := (HA.len HE'.out).1
      have hos : (S out).size ≤ 200 := by rw [S_size]; exact hol
      by_cases hlt : k < m
      · obtain ⟨ad, hl, rfl, hab, c0, c1, c2⟩ := (HR.out.below (hb.mono hB)).at_ed hlt
        obtain ⟨b0, b1, b2, b3⟩ := HA.bounds hl
        have HST := Lib.hid (HA.step hl)
        clear HA
        rw [L_len] at b2
        have hz3 : (S l[k].ins).size ≤ 40 := by rw [S_size]; exact b3
        generalize l[k] = x at *
        obtain ⟨xa, xd, xi⟩ := x
        simp only at c0 c1 c2 b0 b1 b2 b3 HST hz3
        obtain ⟨xa, rfl⟩ := Int.eq_ofNat_of_zero_le (show 0 ≤ xa by omega)
        obtain ⟨xd, rfl⟩ := Int.eq_ofNat_of_zero_le b1
        have b4 : p ≤ xa := by omega
        have b5 : xa + xd ≤ s.size := by omega
        have hz4 : (s.extract p xa).size ≤ 200 := by rw [ByteArray.size_extract]; omega
        have HEX : Hid (s.extract p xa ++ S xi = S (((L s).drop p).take (xa - p) ++ xi)) := by
          unfold Hid; rw [append_S, L_extract, L_S]
        go_wp2_with fail
        go_quiet (fail)
        go_wp2_with fail
        go_roundw
        case rel => exact ⟨k + 1, xa + xd, _, HST.out, by go_num, by go_num, by rw [HEX.out, append_S, L_S, L_S]; rfl, (by repeat (first | exact Below.refl _ _ | assumption | refine Below.alloc ?_ (by first | exact Nat.le_refl _ | assumption | omega | (simp <;> omega)) _ | refine Below.setCell ?_ (by first | exact Nat.le_refl _ | assumption | omega | (simp <;> omega)) _ | refine Below.drew ?_ | refine below_drewN ?_ _))⟩
        case measure => simp [intOf]; omega
      · obtain rfl : k = m := by omega
        have HF : Hid (out ++ (L s).drop p = edTo (L s) 0 l) := by
          unfold Hid
          have := HA
          rw [show k = l.length from HL.out.symm] at this
          exact this.fin
        have HD := Lib.hid (edDone_is HE'.out)
        have hz4 : (s.extract p s.size).size ≤ 200 := by rw [ByteArray.size_extract]; omega
        clear HA
        go_wp2_with fail
        go_ret2
        exact ⟨ret_si (by unfold apOut; rw [if_pos HE.out, HD.out, ← HF.out, append_S, L_S, L_extract, List.take_of_length_le (by rw [List.length_drop, L_len]; exact Nat.le_refl _)]) (by first | rfl | exact HE.out.symm), hb⟩
  · have g1 : (edErr s.size l != 0) = true := by simpa using hE
    have HE := Lib.hid hE; clear hE
    go_enter Tryz.func23, Tryz.ntmps23
    go_wp2_with fail
    refine (edCheck_any s.size l A m c B w HR.out hB hm).mono ?_
    rintro e w1 ⟨rfl, hb1⟩
    go_wp2_with fail
    go_ret2
    exact ⟨ret_si (by unfold apOut; rw [if_neg HE.out]; rfl) rfl, hb1⟩
/-- Is there an edit that takes much? -/
def bigDel (l : List Ed) : Bool := l.any fun x => decide (40 < x.del)
/-- What Undo answers: an error, or the edits back. -/
def unErr (s : ByteArray) (l : List Ed) : Int := if edErr s.size l = 0 then (if bigDel l = true then 2 else 0) else edErr s.size l
theorem info_ed : (Tryz.prog.info? 67).map (fun i => (i.zero, i.size, i.bytes)) = some (some (.agg #[.int .i64 0, .int .i64 0, .string ByteArray.empty]), 3, 32) := by kernel_rfl
theorem edCells_append (a b : List Ed) : edCells (a ++ b) = edCells a ++ edCells b := by simp [edCells]
theorem edErr_small {n : Int} {l : List Ed} (h : edErr n l = 0) : Small l := fun x hx => by
  obtain ⟨h0, h1, _, hc, _⟩ := edErr_zero.1 h
  have := hc.mem x hx
  omega
end Go.Proofs.YtmikckhihfcooaaGreatDoor
