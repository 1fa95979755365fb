/- edit.Apply, edit.Undo, edit.Place. -/
import Derived.Test.YthnedhfjochfnaaEditR
import Derived.Test.YthnedhfjochfnaaEditP0
import Derived.Test.YthnedhfjochfnaaOwn2
namespace Go.Proofs.Ythnedhfjochfnaa
open Go.RowKit
theorem drop_cons_get {α : Type} {l : List α} {k : Nat} (h : k < l.length) : l.drop k = l[k] :: l.drop (k + 1) := List.drop_eq_getElem_cons h
/-- What Apply answers. -/
def apOut (s : ByteArray) (l : List Ed) : ByteArray := if edErr s.size l = 0 then S (edDone (L s) l) else S []
theorem ret_si {a b : ByteArray} {x y : Int} (h : a = b) (k : x = y) : Ending.returned (.tuple #[.string a, .int .i64 x]) = .returned (.tuple #[.string b, .int .i64 y]) := by rw [h, k]
/-- Where the loop of Apply stands. -/
structure ApAt (s : List UInt8) (l : List Ed) (k p : Nat) (out : List UInt8) : Prop where
  le : k ≤ l.length
  chain : ∃ q, Chain s.length q (l.drop k) ∧ after p q
  pn : p ≤ s.length
  eq : out ++ edTo s p (l.drop k) = edTo s 0 l
theorem ApAt.start {s : List UInt8} {l : List Ed} (h : edErr s.length l = 0) : ApAt s l 0 0 [] := ⟨Nat.zero_le _, ⟨none, (edErr_zero.1 h).2.2.2.1, rfl⟩, Nat.zero_le _, rfl⟩
theorem ApAt.bounds {s : List UInt8} {l : List Ed} {k p : Nat} {out : List UInt8} (h : ApAt s l k p out) (hk : k < l.length) : (p : Int) ≤ l[k].at_ ∧ 0 ≤ l[k].del ∧ l[k].at_ + l[k].del ≤ s.length ∧ l[k].ins.length ≤ 40 := by
  obtain ⟨q, hc, ha⟩ := h.chain
  rw [drop_cons_get hk] at hc
  cases hc with
  | cons _ _ _ h0 hc =>
    obtain ⟨h1, h2, h3, h4, h5, h6, h7⟩ := edOne_zero h0
    refine ⟨?_, h2, h4, h5⟩
    cases q with
    | none => simp only [after] at ha; omega
    | some e => simp only [after] at ha; have := h7 e rfl; omega
theorem ApAt.step {s : List UInt8} {l : List Ed} {k p : Nat} {out : List UInt8} (h : ApAt s l k p out) (hk : k < l.length) :
    ApAt s l (k + 1) (l[k].at_ + l[k].del).toNat (out ++ ((s.drop p).take (l[k].at_.toNat - p) ++ l[k].ins)) := by
  have hb := h.bounds hk
  obtain ⟨q, hc, ha⟩ := h.chain
  have he := h.eq
  rw [drop_cons_get hk] at hc he
  cases hc with
  | cons _ _ _ h0 hc =>
    refine ⟨hk, ⟨_, hc, by simp only [after]; omega⟩, by omega, ?_⟩
    rw [← he]; simp [edTo]
theorem ApAt.fin {s : List UInt8} {l : List Ed} {p : Nat} {out : List UInt8} (h : ApAt s l l.length p out) : out ++ s.drop p = edTo s 0 l := by
  have := h.eq
  rwa [List.drop_length] at this
theorem ApAt.len {s : List UInt8} {l : List Ed} {k p : Nat} {out : List UInt8} (h : ApAt s l k p out) (h0 : edErr s.length l = 0) : out.length ≤ 200 ∧ (edTo s 0 l).length ≤ 200 := by
  obtain ⟨_, _, _, hc, hf⟩ := edErr_zero.1 h0
  have hl := edTo_length rfl hc (k := 0) rfl (Nat.zero_le _)
  have := congrArg List.length h.eq
  rw [List.length_append] at this
  omega
set_option maxRecDepth 100000 in
set_option maxHeartbeats 2000000 in
theorem edApply_any (s : ByteArray) (l : List Ed) (A : Option Addr) (m c B : Nat) (w : World) (hr : Rd w B 3 A m (edCells l)) (hB : B ≤ w.heap.size) (hm : m ≤ 9223372036854775807) (hs : s.size ≤ 140737488351232) :
    Calls Try.prog 69 #[.string s, .slice A m c] w fun e w' => e = .returned (.tuple #[.string (apOut s l), .int .i64 (edErr s.size l)]) ∧ Below w.heap.size w w' := by
  have hlen := Rd.rec_len ed_len (by omega) hr
  have HR := Lib.hid hr; clear hr
  have HL := Lib.hid hlen; clear hlen
  by_cases hE : edErr s.size l = 0
  · have g1 : (edErr s.size l != 0) = false := by rw [hE]; rfl
    have HE := Lib.hid hE
    have HE' : Hid (edErr (L s).length l = 0) := by unfold Hid; rw [L_len]; exact hE
    have hz := (edErr_zero.1 hE).2.1
    clear hE
    go_enter Try.func69, Try.ntmps69
    go_wp2_with fail
    refine (edCheck_any s.size l A m c B w HR.out hB hm).mono ?_
    rintro e w1 ⟨rfl, hb1⟩
    go_wp2_with fail
    go_loopw [7, 8, 20] (fun o a i wr => ∃ (k p : Nat) (out : List UInt8), ApAt (L s) l k p out ∧ i = .int .i64 k ∧ a = .int .i64 p ∧ o = .string (S out) ∧ Below w.heap.size w wr) (fun _ _ i _ => m - (intOf i).toNat)
    case atStart => exact ⟨0, 0, [], ApAt.start HE'.out, rfl, rfl, rfl, hb1⟩
    case round =>
      obtain ⟨k, p, out, HA, rfl, rfl, rfl, hb⟩ := hrel
      have hk := HA.le
      rw [HL.out] at hk
      have hbs := hb.size
      have hpn := HA.pn
      rw [L_len] at hpn
      have hol := (HA.len HE'.out).1
      have hos : (S out).size ≤ 200 := by rw [S_size]; exact hol
      by_cases hlt : k < m
      · obtain ⟨ad, hl, rfl, hab, c0, c1, c2⟩ := (HR.out.below (hb.mono hB)).at_ed hlt
        obtain ⟨b0, b1, b2, b3⟩ := HA.bounds hl
        have HST := Lib.hid (HA.step hl)
        clear HA
        rw [L_len] at b2
        have hz3 : (S l[k].ins).size ≤ 40 := by rw [S_size]; exact b3
        generalize l[k] = x at *
        obtain ⟨xa, xd, xi⟩ := x
        simp only at c0 c1 c2 b0 b1 b2 b3 HST hz3
        obtain ⟨xa, rfl⟩ := Int.eq_ofNat_of_zero_le (show 0 ≤ xa by omega)
        obtain ⟨xd, rfl⟩ := Int.eq_ofNat_of_zero_le b1
        have b4 : p ≤ xa := by omega
        have b5 : xa + xd ≤ s.size := by omega
        have hz4 : (s.extract p xa).size ≤ 200 := by rw [ByteArray.size_extract]; omega
        have HEX : Hid (s.extract p xa ++ S xi = S (((L s).drop p).take (xa - p) ++ xi)) := by
          unfold Hid; rw [append_S, L_extract, L_S]
        go_wp2_with fail
        go_quiet (fail)
        go_wp2_with fail
        go_roundw
        case rel => exact ⟨k + 1, xa + xd, _, HST.out, by go_num, by go_num, by rw [HEX.out, append_S, L_S, L_S]; rfl, (by repeat (first | exact Below.refl _ _ | assumption | refine Below.alloc ?_ (by first | exact Nat.le_refl _ | assumption | omega | (simp <;> omega)) _ | refine Below.setCell ?_ (by first | exact Nat.le_refl _ | assumption | omega | (simp <;> omega)) _ | refine Below.drew ?_ | refine below_drewN ?_ _))⟩
        case measure => simp [intOf]; omega
      · obtain rfl : k = m := by omega
        have HF : Hid (out ++ (L s).drop p = edTo (L s) 0 l) := by
          unfold Hid
          have := HA
          rw [show k = l.length from HL.out.symm] at this
          exact this.fin
        have HD := Lib.hid (edDone_is HE'.out)
        have hz4 : (s.extract p s.size).size ≤ 200 := by rw [ByteArray.size_extract]; omega
        clear HA
        go_wp2_with fail
        go_ret2
        exact ⟨ret_si (by unfold apOut; rw [if_pos HE.out, HD.out, ← HF.out, append_S, L_S, L_extract, List.take_of_length_le (by rw [List.length_drop, L_len]; exact Nat.le_refl _)]) (by first | rfl | exact HE.out.symm), hb⟩
  · have g1 : (edErr s.size l != 0) = true := by simpa using hE
    have HE := Lib.hid hE; clear hE
    go_enter Try.func69, Try.ntmps69
    go_wp2_with fail
    refine (edCheck_any s.size l A m c B w HR.out hB hm).mono ?_
    rintro e w1 ⟨rfl, hb1⟩
    go_wp2_with fail
    go_ret2
    exact ⟨ret_si (by unfold apOut; rw [if_neg HE.out]; rfl) rfl, hb1⟩
/-- Is there an edit that takes much? -/
def bigDel (l : List Ed) : Bool := l.any fun x => decide (40 < x.del)
/-- What Undo answers: an error, or the edits back. -/
def unErr (s : ByteArray) (l : List Ed) : Int := if edErr s.size l = 0 then (if bigDel l = true then 2 else 0) else edErr s.size l
theorem info_ed : (Try.prog.info? 73).map (fun i => (i.zero, i.size, i.bytes)) = some (some (.agg #[.int .i64 0, .int .i64 0, .string ByteArray.empty]), 3, 32) := by kernel_rfl
theorem edCells_append (a b : List Ed) : edCells (a ++ b) = edCells a ++ edCells b := by simp [edCells]
theorem edErr_small {n : Int} {l : List Ed} (h : edErr n l = 0) : Small l := fun x hx => by
  obtain ⟨h0, h1, _, hc, _⟩ := edErr_zero.1 h
  have := hc.mem x hx
  omega
set_option maxRecDepth 100000 in
set_option maxHeartbeats 2000000 in
theorem edUndo_any (s : ByteArray) (l : List Ed) (A : Option Addr) (m c B : Nat) (w : World) (hr : Rd w B 3 A m (edCells l)) (hB : B ≤ w.heap.size) (hm : m ≤ 9223372036854775807) (hs : s.size ≤ 140737488351232) :
    Calls Try.prog 70 #[.string s, .slice A m c] w fun e w' => ∃ v, e = .returned (.tuple #[v, .int .i64 (unErr s l)]) ∧ (unErr s l ≠ 0 → v = .slice none 0 0) ∧
      (unErr s l = 0 → w'.ownsRow w.heap.size 73 3 v m (edCells (undoL (L s) l))) ∧ Below w.heap.size w w' := by
  obtain ⟨i0, hi0, hz0, hz1, hz2⟩ := info_parts info_ed
  have hlen := Rd.rec_len ed_len (by omega) hr
  have HR := Lib.hid hr; clear hr
  have HL := Lib.hid hlen; clear hlen
  by_cases hE : edErr s.size l = 0
  · have g1 : (edErr s.size l != 0) = false := by rw [hE]; rfl
    have HE := Lib.hid hE
    have hz := (edErr_zero.1 hE).2.1
    have HM : Hid (∀ x ∈ l, 0 ≤ x.at_ ∧ 0 ≤ x.del ∧ x.at_ + x.del ≤ s.size ∧ x.ins.length ≤ 40) := fun x hx => by
      obtain ⟨a, b, c, d, _⟩ := (edErr_zero.1 hE).2.2.2.1.mem x hx; exact ⟨a, b, c, d⟩
    have HSM := Lib.hid (edErr_small hE)
    have hl20 : m ≤ 20 := by rw [← HL.out]; exact (edErr_zero.1 hE).2.2.1
    clear hE
    go_enter Try.func70, Try.ntmps70
    go_wp2_with fail
    refine (edCheck_any s.size l A m c B w HR.out hB hm).mono ?_
    rintro e w1 ⟨rfl, hb1⟩
    go_wp2_with fail
    go_loopw [7, 8, 20] (fun o g i wr => ∃ k : Nat, k ≤ m ∧ (∀ j (h : j < l.length), j < k → l[j].del ≤ 40) ∧ i = .int .i64 k ∧ g = .int .i64 (grows (l.take k)) ∧
      wr.ownsRow w.heap.size 73 3 o k (edCells ((undoL (L s) l).take k)) ∧ Below w.heap.size w wr) (fun _ _ i _ => m - (intOf i).toNat)
    case atStart => exact ⟨0, Nat.zero_le _, fun _ _ h => absurd h (by omega), rfl, rfl, World.ownsRow_nil _ _ _ _, hb1⟩
    case round =>
      obtain ⟨k, hk, hno, rfl, rfl, hown, hb⟩ := hrel
      have HNO := Lib.hid hno; clear hno
      have hbs := hb.size
      have hg := (HSM.out.take k).grows
      have hkl : (l.take k).length ≤ 20 := by rw [List.length_take]; omega
      by_cases hlt : k < m
      · obtain ⟨ad, hl, rfl, hab, c0, c1, c2⟩ := (HR.out.below (hb.mono hB)).at_ed hlt
        have HG := Lib.hid (grows_take_succ l k hl)
        obtain ⟨b0, b1, b2, b3⟩ := HM.out l[k] (List.getElem_mem hl)
        have HT : Hid ((undoL (L s) l).take (k + 1) = (undoL (L s) l).take k ++ [⟨l[k].at_ + (0 + grows (l.take k)), l[k].ins.length, ((L s).drop l[k].at_.toNat).take l[k].del.toNat⟩]) := undoFrom_take (L s) l 0 k hl
        have HNX : Hid (¬ 40 < l[k].del → ∀ j (h : j < l.length), j < k + 1 → l[j].del ≤ 40) := fun h j hj hjk => by
          by_cases hjk2 : j = k
          · subst hjk2; exact Int.not_lt.1 h
          · exact HNO.out j hj (by omega)
        have HBG : Hid (40 < l[k].del → unErr s l = 2) := fun h => by
          unfold unErr
          rw [if_pos HE.out, if_pos]
          exact List.any_eq_true.2 ⟨l[k], List.getElem_mem hl, by simpa using h⟩
        have hzs : (S l[k].ins).size = l[k].ins.length := S_size _
        have HZ := Lib.hid hzs
        have hz3 : (S l[k].ins).size ≤ 40 := by omega
        clear hzs
        generalize l[k] = x at *
        obtain ⟨hg0, hg1⟩ := hg
        have hg2 : -4000 ≤ grows (l.take k) := by omega
        have hg3 : grows (l.take k) ≤ 800 := by omega
        clear hg0 hg1
        generalize grows (l.take k) = g at *
        obtain ⟨xa, xd, xi⟩ := x
        simp only at c0 c1 c2 b0 b1 b2 b3 HG HT HNX HBG HZ hz3
        obtain ⟨xa, rfl⟩ := Int.eq_ofNat_of_zero_le b0
        obtain ⟨xd, rfl⟩ := Int.eq_ofNat_of_zero_le b1
        have b5 : xa + xd ≤ s.size := by omega
        by_cases hbig : 40 < xd
        · have HU := Lib.hid (HBG.out (by omega))
          clear HBG HNX
          go_wp2_with fail
          go_ret2
          exact ⟨_, by rw [HU.out]; rfl, fun _ => rfl, (fun h => by rw [HU.out] at h; cases h), (by repeat (first | exact Below.refl _ _ | assumption | refine Below.alloc ?_ (by first | exact Nat.le_refl _ | assumption | omega | (simp <;> omega)) _ | refine Below.setCell ?_ (by first | exact Nat.le_refl _ | assumption | omega | (simp <;> omega)) _ | refine Below.drew ?_ | refine below_drewN ?_ _))⟩
        · have HNX' := Lib.hid (HNX.out (by omega))
          clear HNX HBG
          have hno7 : ∀ (v : Value), wr.ownsRow w.heap.size 73 3 v k (edCells ((undoL (L s) l).take k)) → some wr.heap.size ≠ v.ownBlock := fun v hv e => by have := (hv.lt _ e.symm).2; omega
          have HN7 := Lib.hid hno7; clear hno7
          have hz4 : (s.extract xa (xa + xd)).size ≤ 200 := by rw [ByteArray.size_extract]; omega
          go_wp2_with fail
          obtain ⟨F1, hFd⟩ : ∃ F : World → Prop, F = fun w' => w'.cell? ⟨wr.heap.size, 0, none⟩ = some (.int .i64 (xa : Int)) ∧ w'.cell? ⟨wr.heap.size, 1, none⟩ = some (.int .i64 (xd : Int)) ∧ w'.cell? ⟨wr.heap.size, 2, none⟩ = some (.string (S xi)) := ⟨_, rfl⟩
          have HF1 := Lib.hid hFd
          clear hFd
          have hcell10 : ∀ p' : Wof F1, p'.w.cell? ⟨wr.heap.size, 0, none⟩ = some (.int .i64 (xa : Int)) := fun ⟨x, hx⟩ => by rw [HF1.out] at hx; exact hx.1
          have hcell11 : ∀ p' : Wof F1, p'.w.cell? ⟨wr.heap.size, 1, none⟩ = some (.int .i64 (xd : Int)) := fun ⟨x, hx⟩ => by rw [HF1.out] at hx; exact hx.2.1
          have hcell12 : ∀ p' : Wof F1, p'.w.cell? ⟨wr.heap.size, 2, none⟩ = some (.string (S xi)) := fun ⟨x, hx⟩ => by rw [HF1.out] at hx; exact hx.2.2
          refine wp_region_schedF [(0, true), (1, true), (2, true), (3, true), (4, true), (5, true), (6, true), (7, true), (8, true), (9, true), (10, true), (11, true), (12, true), (13, true), (14, true), (15, true), (16, true), (17, true), (18, false), (19, false), (20, true)] F1 (by kernel_rfl) (by kernel_rfl) rfl (fun _ _ _ _ _ h => h) (by kernel_rfl) (by rw [HF1.out]; first | trivial | (repeat' apply And.intro) <;> assumption | (simp; done) | (simp [*]; done)) (by rw [HF1.out]; exact fun h => h) ?_
          intro hne1
          simp only [opersOf, List.getElem?_toArray, List.getElem?_cons_succ, List.getElem?_cons_zero]
          repeat (first | (refine wpSched_want rfl ?_; intro K hK; go_big_quiet_op; go_big_quiet_on) | (refine wpSched_skip rfl ?_; simp only [Act.put, List.setIfInBounds_toArray, List.set_cons_zero, List.set_cons_succ]))
          refine wpSched_other ?_
          go_wp2_with fail
          refine sched_back (by rw [HF1.out]; first | trivial | (repeat' apply And.intro) <;> assumption | (simp; done) | (go_simp; done) | (simp [*]; done)) ?_
          repeat (first | (refine wpSched_want rfl ?_; intro K hK; go_big_quiet_op; go_big_quiet_on) | (refine wpSched_skip rfl ?_; simp only [Act.put, List.setIfInBounds_toArray, List.set_cons_zero, List.set_cons_succ]))
          refine wpSched_other ?_
          have hnw : ∀ (o : Obj) (a b c : Value) (j : Nat) (u : Value), [a, b, c][j]? = some u → ((wr.alloc o).alloc (.cells #[a, b, c] 73)).drew.cell? (Addr.add ⟨wr.heap.size + 1, 0, none⟩ j) = some u := fun o a b c j u hj => by
            have := cells_new3 (wr.alloc o) a b c 73 j u hj
            rw [World.size_alloc] at this
            exact this
          have HNW := Lib.hid hnw; clear hnw
          go_wp2_with (at_builtin; go_must (refine wpList_appG rfl _ _ _ rfl w.heap.size 73 i0 _ 3 32 Try.underlying66 hi0 hz0 hz1 hz2 rfl (by omega) _ k (edCells ((undoL (L s) l).take k)) rfl ((hown.alloc _).alloc _).drew ⟨wr.heap.size + 1, 0, none⟩ 1 1 [.int .i64 ((xa : Int) + g), .int .i64 ((S xi).size : Int), .string (s.extract xa (xa + xd))] rfl rfl (HNW.out _ _ _ _) (by simp [Value.oneCell']) (by omega) (by omega) (by simp; omega) ?_); intro v6 w6 hown6 hg6 hb6)
          have hne7 := HN7.out _ hown
          have k0 := hg6.cell (a := ⟨wr.heap.size, 0, none⟩) (v := .int .i64 (xa : Int)) (by simp) hne7
          have k1 := hg6.cell (a := ⟨wr.heap.size, 1, none⟩) (v := .int .i64 (xd : Int)) (by simp) hne7
          have k2 := hg6.cell (a := ⟨wr.heap.size, 2, none⟩) (v := .string (S xi)) (by simp) hne7
          have hb6' : Below w.heap.size w w6 := Below.trans (by repeat (first | exact Below.refl _ _ | assumption | refine Below.alloc ?_ (by first | exact Nat.le_refl _ | assumption | omega | (simp <;> omega)) _ | refine Below.setCell ?_ (by first | exact Nat.le_refl _ | assumption | omega | (simp <;> omega)) _ | refine Below.drew ?_ | refine below_drewN ?_ _)) hb6
          have hz6 := hg6.size
          refine sched_back (by rw [HF1.out]; exact ⟨k0, k1, k2⟩) ?_
          repeat (first | (refine wpSched_want rfl ?_; intro K hK; go_big_quiet_op; go_big_quiet_on) | (refine wpSched_skip rfl ?_; simp only [Act.put, List.setIfInBounds_toArray, List.set_cons_zero, List.set_cons_succ]))
          refine wpSched_nil ?_
          clear HF1 hcell10 hcell11 hcell12 hne1 hg6 hb6 hne7 HN7 HNW hown
          go_wp2_with fail
          go_roundw
          case rel =>
            refine ⟨k + 1, by omega, HNX'.out, by go_num, by rw [HG.out, HZ.out], ?_, hb6'⟩
            rw [HT.out, edCells_append]
            have e1 : edCells [⟨(xa : Int) + (0 + g), (xi.length : Int), ((L s).drop (xa : Int).toNat).take (xd : Int).toNat⟩] = [.int .i64 ((xa : Int) + g), .int .i64 ((S xi).size : Int), .string (s.extract xa (xa + xd))] := by
              rw [extract_S, HZ.out]
              simp only [edCells, Ed.cells, List.flatMap_cons, List.flatMap_nil, List.append_nil, Int.toNat_natCast, Int.zero_add, Nat.add_sub_cancel_left]
            rw [e1]
            exact hown6
          case measure => simp [intOf]; omega
      · obtain rfl : k = m := by omega
        have HU : Hid (unErr s l = 0) := by
          unfold Hid unErr
          rw [if_pos HE.out, if_neg]
          intro h
          obtain ⟨x, hx, h2⟩ := List.any_eq_true.1 h
          obtain ⟨j, hj, rfl⟩ := List.getElem_of_mem hx
          have h3 := HNO.out j hj (by rw [← HL.out]; exact hj)
          have h4 : 40 < l[j].del := by simpa using h2
          omega
        have HT : Hid ((undoL (L s) l).take k = undoL (L s) l) := by
          unfold Hid; rw [List.take_of_length_le]; unfold undoL; rw [undoFrom_length, HL.out]; exact Nat.le_refl _
        rw [HT.out] at hown
        go_wp2_with fail
        go_ret2
        exact ⟨_, by rw [HU.out]; rfl, fun h => absurd HU.out h, fun _ => hown, hb⟩
  · have g1 : (edErr s.size l != 0) = true := by simpa using hE
    have HU : Hid (unErr s l = edErr s.size l) := by unfold Hid unErr; rw [if_neg hE]
    have HE := Lib.hid hE; clear hE
    go_enter Try.func70, Try.ntmps70
    go_wp2_with fail
    refine (edCheck_any s.size l A m c B w HR.out hB hm).mono ?_
    rintro e w1 ⟨rfl, hb1⟩
    go_wp2_with fail
    go_ret2
    exact ⟨_, by rw [HU.out]; rfl, fun _ => rfl, fun h => absurd (by rw [← HU.out]; exact h) HE.out, hb1⟩
end Go.Proofs.Ythnedhfjochfnaa
