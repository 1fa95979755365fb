/- The edits back; where a place comes to lie. No program in sight. edit.Apply, edit.Undo, edit.Place. strings.Builder: WriteString, whose copyCheck is cut at its panic here; and String. -/
import Derived.Test.YtplgghjdidmcfaaGreatDoorPk02
import Derived.Test.YtplgghjdidmcfaaGreatDoorPk09
import Derived.Test.YtplgghjdidmcfaaGreatDoorPk05
import Derived.Test.YtplgghjdidmcfaaGreatDoorShelf
import Derived.Test.YtplgghjdidmcfaaGreatDoorPk04
import Derived.Lib.Builder
import Derived.Lib.AppendStr
namespace Go.Proofs.YtplgghjdidmcfaaGreatDoor
/-- The edits back. -/
def undoFrom (s : List UInt8) : Int → List Ed → List Ed
  | _, [] => []
  | g, x :: r => ⟨x.at_ + g, x.ins.length, (s.drop x.at_.toNat).take x.del.toNat⟩ :: undoFrom s (g + (x.ins.length - x.del)) r
def undoL (s : List UInt8) (l : List Ed) : List Ed := undoFrom s 0 l
theorem undoFrom_length (s : List UInt8) (l : List Ed) : ∀ g, (undoFrom s g l).length = l.length := by
  induction l with
  | nil => intro g; rfl
  | cons x r ih => intro g; simp [undoFrom, ih]
theorem undoFrom_get (s : List UInt8) (l : List Ed) : ∀ (g : Int) (k : Nat) (h : k < l.length), (undoFrom s g l)[k]'(by rw [undoFrom_length]; exact h) = ⟨l[k].at_ + (g + grows (l.take k)), l[k].ins.length, (s.drop l[k].at_.toNat).take l[k].del.toNat⟩ := by
  induction l with
  | nil => intro g k h; simp at h
  | cons x r ih =>
    intro g k h
    cases k with
    | zero => simp [undoFrom, grows]
    | succ k =>
      have := ih (g + (x.ins.length - x.del)) k (by simpa using h)
      simp only [undoFrom, List.getElem_cons_succ, List.take_succ_cons, grows]
      rw [this]
      congr 1
      omega
theorem undoFrom_take (s : List UInt8) (l : List Ed) (g : Int) (k : Nat) (h : k < l.length) : (undoFrom s g l).take (k + 1) = (undoFrom s g l).take k ++ [⟨l[k].at_ + (g + grows (l.take k)), l[k].ins.length, (s.drop l[k].at_.toNat).take l[k].del.toNat⟩] := by
  rw [List.take_succ_eq_append_getElem (by rw [undoFrom_length]; exact h), undoFrom_get]
theorem Chain.grows_lo {n : Nat} {p : Option Int} {l : List Ed} (h : Chain n p l) : ∀ k, after k p → k ≤ n → -((n : Int) - k) ≤ grows l := by
  induction h with
  | nil => intro k _ _; simp only [grows]; omega
  | cons p x r h0 h ih =>
    intro k hk hkn
    obtain ⟨h1, h2, h3, h4, h5, h6, h7⟩ := edOne_zero h0
    have hkx : (k : Int) ≤ x.at_ := by
      cases p with
      | none => simp only [after] at hk; omega
      | some e => simp only [after] at hk; have := h7 e rfl; omega
    have := ih (x.at_ + x.del).toNat (by simp only [after]; omega) (by omega)
    simp only [grows]; omega
theorem undo_chain {n : Nat} {s : List UInt8} (hs : s.length = n) {p : Option Int} {l : List Ed} (h : Chain n p l) : ∀ (k : Nat) (g : Int) (q : Option Int), after k p → k ≤ n → 0 ≤ k + g → (∀ e, q = some e → p ≠ none ∧ e = k + g) → (∀ x ∈ l, x.del ≤ 40) →
    Chain (n + g + grows l) q (undoFrom s g l) := by
  induction h with
  | nil => intro k g q _ _ _ _ _; exact .nil _
  | cons p x r h0 h ih =>
    intro k g q hk hkn hg hq hd
    obtain ⟨h1, h2, h3, h4, h5, h6, h7⟩ := edOne_zero h0
    have hkx : (k : Int) ≤ x.at_ ∧ (p ≠ none → (k : Int) < x.at_) := by
      cases p with
      | none => simp only [after] at hk; exact ⟨by omega, fun h => absurd rfl h⟩
      | some e => simp only [after] at hk; have := h7 e rfl; exact ⟨by omega, fun _ => by omega⟩
    have hlo := h.grows_lo (x.at_ + x.del).toNat (by simp only [after]; omega) (by omega)
    have hx := hd x (by simp)
    simp only [undoFrom, grows]
    refine .cons _ _ _ ?_ ?_
    · unfold edOne
      simp only [List.length_take, List.length_drop]
      rw [if_neg (by omega), if_neg (by omega), if_neg (by omega), if_neg]
      rintro ⟨e, he, hh⟩
      obtain ⟨hp, rfl⟩ := hq e he
      have := hkx.2 hp
      omega
    · have := ih (x.at_ + x.del).toNat (g + (x.ins.length - x.del)) (some (x.at_ + g + x.ins.length)) (by simp only [after]; omega) (by omega) (by omega) (fun e he => ⟨by simp, by simp only [Option.some.injEq] at he; omega⟩) (fun y hy => hd y (by simp [hy]))
      rw [show (n : Int) + g + (x.ins.length - x.del + grows r) = n + (g + (x.ins.length - x.del)) + grows r by omega]
      exact this
theorem undo_grows {n : Nat} {s : List UInt8} (hs : s.length = n) {p : Option Int} {l : List Ed} (h : Chain n p l) : ∀ g, grows (undoFrom s g l) = - grows l := by
  induction h with
  | nil => intro g; simp [undoFrom, grows]
  | cons p x r h0 h ih =>
    intro g
    obtain ⟨h1, h2, h3, h4, _⟩ := edOne_zero h0
    simp only [undoFrom, grows, ih, List.length_take, List.length_drop]
    omega
/-- The edits back are a right script of the text that was made. -/
theorem undo_right {s : List UInt8} {l : List Ed} (h : edErr s.length l = 0) (hd : ∀ x ∈ l, x.del ≤ 40) : edErr (edDone s l).length (undoL s l) = 0 := by
  obtain ⟨h0, h1, h2, hc, hf⟩ := edErr_zero.1 h
  have hl := edTo_length rfl hc (k := 0) rfl (Nat.zero_le _)
  rw [edDone_is h]
  have hch := undo_chain rfl hc 0 0 none rfl (Nat.zero_le _) (by omega) (fun _ h => by cases h) hd
  have hg := undo_grows rfl hc 0
  refine edErr_zero.2 ⟨by omega, by omega, by unfold undoL; rw [undoFrom_length]; exact h2, ?_, ?_⟩
  · rw [hl]; unfold undoL
    rw [show (s.length : Int) - ((0 : Nat) : Int) + grows l = s.length + 0 + grows l by omega]; exact hch
  · rw [hl]; unfold undoL; rw [hg]; omega
/-- Where a place comes to lie; is it still there? -/
def plc (at_ : Int) : Int → List Ed → Int × Bool
  | mv, [] => (at_ + mv, true)
  | mv, x :: r => if at_ < x.at_ then (at_ + mv, true) else if at_ < x.at_ + x.del then (x.at_ + mv, false) else plc at_ (mv + (x.ins.length - x.del)) r
theorem plc_steps (at_ : Int) (l : List Ed) : ∀ (mv : Int) (k : Nat), k ≤ l.length → (∀ j (h : j < l.length), j < k → l[j].at_ ≤ at_ ∧ l[j].at_ + l[j].del ≤ at_) → plc at_ mv l = plc at_ (mv + grows (l.take k)) (l.drop k) := by
  induction l with
  | nil => intro mv k _ _; simp [grows]
  | cons x r ih =>
    intro mv k hk h
    cases k with
    | zero => simp [grows]
    | succ k =>
      have h0 := h 0 (by simp) (by omega)
      simp only [List.getElem_cons_zero] at h0
      simp only [plc, List.take_succ_cons, List.drop_succ_cons, grows]
      rw [if_neg (by omega), if_neg (by omega), ih _ k (by simpa using hk) (fun j hj hjk => by have := h (j + 1) (by simpa using hj) (by omega); simpa using this)]
      congr 1; omega
theorem Chain.lt {n : Int} {p : Option Int} {l : List Ed} (h : Chain n p l) : ∀ (i j : Nat) (hi : i < l.length) (hj : j < l.length), i < j → l[i].at_ + l[i].del < l[j].at_ := by
  induction h with
  | nil => intro i j hi; simp at hi
  | cons p x r h0 h ih =>
    intro i j hi hj hij
    obtain ⟨j, rfl⟩ : ∃ k, j = k + 1 := ⟨j - 1, by omega⟩
    cases i with
    | zero =>
      have := h.mem (r[j]'(by simpa using hj)) (List.getElem_mem _)
      simpa using this.2.2.2.2.2 _ rfl
    | succ i => simpa using ih i j (by simpa using hi) (by simpa using hj) (by omega)
end Go.Proofs.YtplgghjdidmcfaaGreatDoor
namespace Go.Proofs.YtplgghjdidmcfaaGreatDoor
open Go.RowKit
theorem drop_cons_get {α : Type} {l : List α} {k : Nat} (h : k < l.length) : l.drop k = l[k] :: l.drop (k + 1) := List.drop_eq_getElem_cons h
/-- What Apply answers. -/
def apOut (s : ByteArray) (l : List Ed) : ByteArray := if edErr s.size l = 0 then S (edDone (L s) l) else S []
theorem ret_si {a b : ByteArray} {x y : Int} (h : a = b) (k : x = y) : Ending.returned (.tuple #[.string a, .int .i64 x]) = .returned (.tuple #[.string b, .int .i64 y]) := by rw [h, k]
/-- Where the loop of Apply stands. -/
structure ApAt (s : List UInt8) (l : List Ed) (k p : Nat) (out : List UInt8) : Prop where
  le : k ≤ l.length
  chain : ∃ q, Chain s.length q (l.drop k) ∧ after p q
  pn : p ≤ s.length
  eq : out ++ edTo s p (l.drop k) = edTo s 0 l
theorem ApAt.start {s : List UInt8} {l : List Ed} (h : edErr s.length l = 0) : ApAt s l 0 0 [] := ⟨Nat.zero_le _, ⟨none, (edErr_zero.1 h).2.2.2.1, rfl⟩, Nat.zero_le _, rfl⟩
theorem ApAt.bounds {s : List UInt8} {l : List Ed} {k p : Nat} {out : List UInt8} (h : ApAt s l k p out) (hk : k < l.length) : (p : Int) ≤ l[k].at_ ∧ 0 ≤ l[k].del ∧ l[k].at_ + l[k].del ≤ s.length ∧ l[k].ins.length ≤ 40 := by
  obtain ⟨q, hc, ha⟩ := h.chain
  rw [drop_cons_get hk] at hc
  cases hc with
  | cons _ _ _ h0 hc =>
    obtain ⟨h1, h2, h3, h4, h5, h6, h7⟩ := edOne_zero h0
    refine ⟨?_, h2, h4, h5⟩
    cases q with
    | none => simp only [after] at ha; omega
    | some e => simp only [after] at ha; have := h7 e rfl; omega
theorem ApAt.step {s : List UInt8} {l : List Ed} {k p : Nat} {out : List UInt8} (h : ApAt s l k p out) (hk : k < l.length) :
    ApAt s l (k + 1) (l[k].at_ + l[k].del).toNat (out ++ ((s.drop p).take (l[k].at_.toNat - p) ++ l[k].ins)) := by
  have hb := h.bounds hk
  obtain ⟨q, hc, ha⟩ := h.chain
  have he := h.eq
  rw [drop_cons_get hk] at hc he
  cases hc with
  | cons _ _ _ h0 hc =>
    refine ⟨hk, ⟨_, hc, by simp only [after]; omega⟩, by omega, ?_⟩
    rw [← he]; simp [edTo]
theorem ApAt.fin {s : List UInt8} {l : List Ed} {p : Nat} {out : List UInt8} (h : ApAt s l l.length p out) : out ++ s.drop p = edTo s 0 l := by
  have := h.eq
  rwa [List.drop_length] at this
theorem ApAt.len {s : List UInt8} {l : List Ed} {k p : Nat} {out : List UInt8} (h : ApAt s l k p out) (h0 : edErr s.length l = 0) : out.length ≤ 200 ∧ (edTo s 0 l).length ≤ 200 := by
  obtain ⟨_, _, _, hc, hf⟩ := edErr_zero.1 h0
  have hl := edTo_length rfl hc (k := 0) rfl (Nat.zero_le _)
  have := congrArg List.length h.eq
  rw [List.length_append] at this
  omega
set_option maxRecDepth 100000 in
set_option maxHeartbeats 2000000 in
theorem edApply_any (s : ByteArray) (l : List Ed) (A : Option Addr) (m c B : Nat) (w : World) (hr : Rd w B 3 A m (edCells l)) (hB : B ≤ w.heap.size) (hm : m ≤ 9223372036854775807) (hs : s.size ≤ 140737488351232) :
    Calls Tryz.prog 116 #[.string s, .slice A m c] w fun e w' => e = .returned (.tuple #[.string (apOut s l), .int .i64 (edErr s.size l)]) ∧ Below w.heap.size w w' := by
  have hlen := Rd.rec_len ed_len (by omega) hr
  have HR := Lib.hid hr; clear hr
  have HL := Lib.hid hlen; clear hlen
  by_cases hE : edErr s.size l = 0
  · have g1 : (edErr s.size l != 0) = false := by rw [hE]; rfl
    have HE := Lib.hid hE
    have HE' : Hid (edErr (L s).length l = 0) := by unfold Hid; rw [L_len]; exact hE
    have hz := (edErr_zero.1 hE).2.1
    clear hE
    go_enter Tryz.func116, Tryz.ntmps116
    go_wp2_with fail
    refine (edCheck_any s.size l A m c B w HR.out hB hm).mono ?_
    rintro e w1 ⟨rfl, hb1⟩
    go_wp2_with fail
    go_loopw [7, 8, 20] (fun o a i wr => ∃ (k p : Nat) (out : List UInt8), ApAt (L s) l k p out ∧ i = .int .i64 k ∧ a = .int .i64 p ∧ o = .string (S out) ∧ Below w.heap.size w wr) (fun _ _ i _ => m - (intOf i).toNat)
    case atStart => exact ⟨0, 0, [], ApAt.start HE'.out, rfl, rfl, rfl, hb1⟩
    case round =>
      obtain ⟨k, p, out, HA, rfl, rfl, rfl, hb⟩ := hrel
      have hk := HA.le
      rw [HL.out] at hk
      have hbs := hb.size
      have hpn := HA.pn
      rw [L_len] at hpn
      have hol := (HA.len HE'.out).1
      have hos : (S out).size ≤ 200 := by rw [S_size]; exact hol
      by_cases hlt : k < m
      · obtain ⟨ad, hl, rfl, hab, c0, c1, c2⟩ := (HR.out.below (hb.mono hB)).at_ed hlt
        obtain ⟨b0, b1, b2, b3⟩ := HA.bounds hl
        have HST := Lib.hid (HA.step hl)
        clear HA
        rw [L_len] at b2
        have hz3 : (S l[k].ins).size ≤ 40 := by rw [S_size]; exact b3
        generalize l[k] = x at *
        obtain ⟨xa, xd, xi⟩ := x
        simp only at c0 c1 c2 b0 b1 b2 b3 HST hz3
        obtain ⟨xa, rfl⟩ := Int.eq_ofNat_of_zero_le (show 0 ≤ xa by omega)
        obtain ⟨xd, rfl⟩ := Int.eq_ofNat_of_zero_le b1
        have b4 : p ≤ xa := by omega
        have b5 : xa + xd ≤ s.size := by omega
        have hz4 : (s.extract p xa).size ≤ 200 := by rw [ByteArray.size_extract]; omega
        have HEX : Hid (s.extract p xa ++ S xi = S (((L s).drop p).take (xa - p) ++ xi)) := by
          unfold Hid; rw [append_S, L_extract, L_S]
        go_wp2_with fail
        go_quiet (fail)
        go_wp2_with fail
        go_roundw
        case rel => exact ⟨k + 1, xa + xd, _, HST.out, by go_num, by go_num, by rw [HEX.out, append_S, L_S, L_S]; rfl, (by repeat (first | exact Below.refl _ _ | assumption | refine Below.alloc ?_ (by first | exact Nat.le_refl _ | assumption | omega | (simp <;> omega)) _ | refine Below.setCell ?_ (by first | exact Nat.le_refl _ | assumption | omega | (simp <;> omega)) _ | refine Below.drew ?_ | refine below_drewN ?_ _))⟩
        case measure => simp [intOf]; omega
      · obtain rfl : k = m := by omega
        have HF : Hid (out ++ (L s).drop p = edTo (L s) 0 l) := by
          unfold Hid
          have := HA
          rw [show k = l.length from HL.out.symm] at this
          exact this.fin
        have HD := Lib.hid (edDone_is HE'.out)
        have hz4 : (s.extract p s.size).size ≤ 200 := by rw [ByteArray.size_extract]; omega
        clear HA
        go_wp2_with fail
        go_ret2
        exact ⟨ret_si (by unfold apOut; rw [if_pos HE.out, HD.out, ← HF.out, append_S, L_S, L_extract, List.take_of_length_le (by rw [List.length_drop, L_len]; exact Nat.le_refl _)]) (by first | rfl | exact HE.out.symm), hb⟩
  · have g1 : (edErr s.size l != 0) = true := by simpa using hE
    have HE := Lib.hid hE; clear hE
    go_enter Tryz.func116, Tryz.ntmps116
    go_wp2_with fail
    refine (edCheck_any s.size l A m c B w HR.out hB hm).mono ?_
    rintro e w1 ⟨rfl, hb1⟩
    go_wp2_with fail
    go_ret2
    exact ⟨ret_si (by unfold apOut; rw [if_neg HE.out]; rfl) rfl, hb1⟩
/-- Is there an edit that takes much? -/
def bigDel (l : List Ed) : Bool := l.any fun x => decide (40 < x.del)
/-- What Undo answers: an error, or the edits back. -/
def unErr (s : ByteArray) (l : List Ed) : Int := if edErr s.size l = 0 then (if bigDel l = true then 2 else 0) else edErr s.size l
theorem info_ed : (Tryz.prog.info? 95).map (fun i => (i.zero, i.size, i.bytes)) = some (some (.agg #[.int .i64 0, .int .i64 0, .string ByteArray.empty]), 3, 32) := by kernel_rfl
theorem edCells_append (a b : List Ed) : edCells (a ++ b) = edCells a ++ edCells b := by simp [edCells]
theorem edErr_small {n : Int} {l : List Ed} (h : edErr n l = 0) : Small l := fun x hx => by
  obtain ⟨h0, h1, _, hc, _⟩ := edErr_zero.1 h
  have := hc.mem x hx
  omega
end Go.Proofs.YtplgghjdidmcfaaGreatDoor
namespace Go.Proofs.YtplgghjdidmcfaaGreatDoor
open Go.RowKit Go.Proofs
theorem sizeBld : (Tryz.prog.info? 213).map (·.size) = some 2 := by kernel_rfl
theorem infoByt : (Tryz.prog.info? 5).map (fun i => (i.zero, i.size, i.bytes)) = some (some (.int .u8 0), 1, 1) := by kernel_rfl
set_option maxHeartbeats 1000000 in
set_option maxRecDepth 1000000 in
theorem bldCheck_used (b : Nat) (w : World) (h0 : w.cell? ⟨b, 0, none⟩ = some (.pointer (some ⟨b, 0, none⟩))) :
    Calls Tryz.prog 186 #[.pointer (some ⟨b, 0, none⟩)] w fun e w' => e = .returned (.tuple #[]) ∧ w' = w := by
  obtain ⟨j, hj, _⟩ := Option.map_eq_some_iff.1 sizeBld
  go_enter Tryz.func186, Tryz.ntmps186
  go_wp2
  rw [Lib.run_neq_ptr_same w _ Tryz.underlying211 hj]
  go_wp2
  go_end0
  exact ⟨rfl, rfl⟩
set_option maxHeartbeats 1000000 in
set_option maxRecDepth 1000000 in
theorem bldCheck_fresh (b : Nat) (w : World) (h0 : w.cell? ⟨b, 0, none⟩ = some (.pointer none)) (hsh : w.shape? b = some (213, 2)) (hfz : w.frozen? ⟨b, 0, none⟩ = false) :
    Calls Tryz.prog 186 #[.pointer (some ⟨b, 0, none⟩)] w fun e w' => e = .returned (.tuple #[]) ∧ w' = w.setCell ⟨b, 0, none⟩ (.pointer (some ⟨b, 0, none⟩)) := by
  obtain ⟨j, hj, hjs⟩ := Option.map_eq_some_iff.1 sizeBld
  go_enter Tryz.func186, Tryz.ntmps186
  go_wp2
  rw [Lib.run_to_unsafe w ⟨b, 0, none⟩ Tryz.underlying211 Tryz.underlying143 hj (by rw [hjs]; decide) hsh (Nat.zero_lt_succ 1)]
  simp only [Result.andThen]
  rw [Oper.upon_value]
  go_wp2
  rw [run_callFunc_extern Tryz.func215 (by kernel_rfl) (by kernel_rfl) (by kernel_rfl) (e := Extern.AbiNoEscape.same) (by kernel_rfl)]
  rw [Lib.run_noEscape]
  simp only [Result.andThen]
  rw [Oper.upon_value]
  go_wp2
  rw [Lib.run_from_unsafe w ⟨b, 0, none⟩ Tryz.underlying143 Tryz.underlying211 hj hsh (by kernel_rfl)]
  simp only [Result.andThen]
  rw [Oper.upon_value]
  go_wp2
  go_end0
  exact ⟨rfl, rfl⟩
def Bld (B b : Nat) (l : List UInt8) (w : World) : Prop := Lib.IsBuilder 213 5 B b (Lib.byteCells l) w
theorem bldCheck (B b : Nat) (bs : List Value) (w : World) (h : Lib.IsBuilder 213 5 B b bs w) :
    Calls Tryz.prog 186 #[.pointer (some ⟨b, 0, none⟩)] w fun e w' => e = .returned (.tuple #[]) ∧ Lib.BuilderAt 213 5 B b (.pointer (some ⟨b, 0, none⟩)) bs w' ∧ Below B w w' := by
  rcases h with h | h
  · refine (bldCheck_fresh b w h.cell0 h.shape h.frozen0).mono ?_
    rintro e w' ⟨rfl, rfl⟩
    exact ⟨rfl, h.used _, (Below.refl B w).setCell (p := ⟨b, 0, none⟩) h.1 _⟩
  · refine (bldCheck_used b w h.cell0).mono ?_
    rintro e w' ⟨rfl, rfl⟩
    exact ⟨rfl, h, Below.refl B _⟩
set_option maxHeartbeats 2000000 in
set_option maxRecDepth 1000000 in
theorem bldWrite (B b : Nat) (l : List UInt8) (s : ByteArray) (w : World) (h : Bld B b l w) (hlen : l.length + s.size ≤ 140737488355328) (hBw : B ≤ w.heap.size) :
    Calls Tryz.prog 145 #[.pointer (some ⟨b, 0, none⟩), .string s] w fun e w' => (∃ v, e = .returned v) ∧ Bld B b (l ++ L s) w' ∧ Below B w w' := by
  obtain ⟨i0, hi, hz0, hz1, hz2⟩ := info_parts infoByt
  have hbl : (Lib.byteCells l).length = l.length := by simp [Lib.byteCells]
  go_enter Tryz.func145, Tryz.ntmps145
  go_wp2_with fail
  refine (bldCheck B b (Lib.byteCells l) w h).mono ?_
  rintro e w1 ⟨rfl, h1, hb1⟩
  obtain ⟨hB, v, hbk, hown, hne⟩ := h1
  have c0 : w1.cell? ⟨b, 0, none⟩ = some (.pointer (some ⟨b, 0, none⟩)) := by rw [Lib.cell_of_heap hbk]; rfl
  have c1 : w1.cell? ⟨b, 1, none⟩ = some v := by rw [Lib.cell_of_heap hbk]; rfl
  go_wp2_with (at_builtin; refine Lib.wpList_append_own_string _ rfl _ _ 119 9 rfl B 5 i0 Tryz.underlying119 Tryz.underlying9 hi hz0 hz1 hz2 _ _ _ rfl hown s rfl ?c3 ?c4 ?c5 ?_)
  case c3 => unfold maxLen; omega
  case c4 => omega
  case c5 => have := hb1.size; omega
  intro v' w2 hown' hgrow _
  have hlt : b < w1.heap.size := (Array.getElem?_eq_some_iff.1 hbk).1
  have hb2 : w2.heap[b]? = some (.cells #[.pointer (some ⟨b, 0, none⟩), v] 213 (0, 0)) := by
    rw [hgrow.block b hlt (fun e => hne e.symm)]
    exact hbk
  have d0 : w2.cell? ⟨b, 0, none⟩ = some (.pointer (some ⟨b, 0, none⟩)) := by rw [Lib.cell_of_heap hb2]; rfl
  have d1 : w2.cell? ⟨b, 1, none⟩ = some v := by rw [Lib.cell_of_heap hb2]; rfl
  have f1 : w2.frozen? ⟨b, 1, none⟩ = false := Lib.frozen_of_heap hb2 1
  obtain ⟨ao, n', cap, rfl⟩ : ∃ ao n' cap, v' = .slice ao n' cap := by
    rcases hown'.2 with ⟨hv, _⟩ | ⟨g, cap, cur, hv, _⟩
    · exact ⟨_, _, _, hv⟩
    · exact ⟨_, _, _, hv⟩
  go_wp2
  go_ret2
  refine ⟨⟨_, rfl⟩, .inr ?_, ?_⟩
  · have e1 : Lib.byteCells (l ++ L s) = Lib.byteCells l ++ Lib.strCells s := by
      simp [Lib.byteCells, Lib.strCells, L]
    rw [e1]
    exact Lib.BuilderAt.put (T := 213) (e := 5) hB hb2 (bs' := Lib.byteCells l ++ Lib.strCells s) (by rw [List.length_append, Lib.strCells_length, hbl]; exact hown') (by decide)
  · exact (hb1.grown hgrow (by have := hb1.size; omega) (fun k hk => (hown.lt k hk).1)).setCell (p := ⟨b, 1, none⟩) hB _
theorem bldString (B b : Nat) (l : List UInt8) (w : World) (h : Bld B b l w) (hBw : B ≤ w.heap.size) :
    Calls Tryz.prog 146 #[.pointer (some ⟨b, 0, none⟩)] w fun e w' => e = .returned (.string (S l)) ∧ Below B w w' :=
  Tryz.Builder_String_any B b l w h hBw
end Go.Proofs.YtplgghjdidmcfaaGreatDoor
