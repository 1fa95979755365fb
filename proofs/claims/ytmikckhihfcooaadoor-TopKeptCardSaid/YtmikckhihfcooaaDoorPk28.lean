/- A known word's turns. What 'good' says of an error, and an editor of a text too large. script.Read. -/
import Derived.Test.YtmikckhihfcooaaDoorPk27
import Derived.Test.YtmikckhihfcooaaDoorPk03
import Derived.Test.YtmikckhihfcooaaDoorPk26
import Derived.Test.YtmikckhihfcooaaDoorPk21
namespace Go.Proofs.YtmikckhihfcooaaDoor
open Go.RowKit
theorem turnO_is {s : List UInt8} {o : List Nat} (hp : o.Perm (List.range s.length)) (hw : o.Pairwise fun x y => ¬ ltT s y x) : turnO s = o := by
  refine List.Perm.eq_of_pairwise (le := fun x y => ¬ ltT s y x) (fun a b _ _ h1 h2 => (ltT_tri h1 h2).symm) (turnO_pw s) hw ((turnO_perm s).trans hp.symm)
def banana : List UInt8 := [98, 97, 110, 97, 110, 97]
theorem banana_O : turnO banana = [5, 3, 1, 0, 4, 2] := turnO_is (by decide) (by decide)
theorem banana_L : turnL banana = [110, 110, 98, 97, 97, 97] := by
  unfold turnL; rw [banana_O]; rfl
theorem banana_at : turnAt banana = 3 := by
  unfold turnAt; rw [if_neg (by decide), banana_O]; rfl
open Go.RowKit
theorem hello_err : edErr 5 [⟨0, 1, [74]⟩] = 0 := by decide +kernel
theorem hello_out : apOut ⟨#[104, 101, 108, 108, 111]⟩ [⟨0, 1, [74]⟩] = ⟨#[74, 101, 108, 108, 111]⟩ := by
  unfold apOut
  rw [show edErr (⟨#[104, 101, 108, 108, 111]⟩ : ByteArray).size [⟨0, 1, [74]⟩] = 0 from hello_err, if_pos rfl]
  rfl
set_option maxRecDepth 100000 in
set_option maxHeartbeats 2000000 in
theorem works_any (w : World) : Calls Tryd.prog 7 #[] w fun e w' => e = .returned (.bool true) ∧ Below w.heap.size w w' := by
  have HP := Lib.hid (fun W => turnPut_any ⟨#[98, 97, 110, 97, 110, 97]⟩ (by decide) W)
  have e1 : turnL (L ⟨#[98, 97, 110, 97, 110, 97]⟩) = [110, 110, 98, 97, 97, 97] := banana_L
  have e2 : turnAt (L ⟨#[98, 97, 110, 97, 110, 97]⟩) = 3 := banana_at
  rw [e1, e2] at HP
  have e3 : S [110, 110, 98, 97, 97, 97] = ⟨#[110, 110, 98, 97, 97, 97]⟩ := rfl
  rw [e3] at HP
  have HE : Hid (∀ W : World, Calls Tryd.prog 18 #[.string ⟨#[104, 101, 108, 108, 111]⟩, .slice (some ⟨W.heap.size, 0, none⟩) 1 1] (W.alloc (.cells #[.int .i64 0, .int .i64 1, .string ⟨#[74]⟩] 39)) fun e w' => e = .returned (.tuple #[.string ⟨#[74, 101, 108, 108, 111]⟩, .int .i64 0]) ∧ Below (W.alloc (.cells #[.int .i64 0, .int .i64 1, .string ⟨#[74]⟩] 39)).heap.size (W.alloc (.cells #[.int .i64 0, .int .i64 1, .string ⟨#[74]⟩] 39)) w') := fun W => by
    have h := edApply_any ⟨#[104, 101, 108, 108, 111]⟩ [⟨0, 1, [74]⟩] (some ⟨W.heap.size, 0, none⟩) 1 1 (W.heap.size + 1) (W.alloc (.cells #[.int .i64 0, .int .i64 1, .string ⟨#[74]⟩] 39)) (Rd.new_ (size := 3) W _ _ (Nat.lt_succ_self _) rfl) (by simp) (by decide) (by decide)
    rw [hello_out, show edErr (⟨#[104, 101, 108, 108, 111]⟩ : ByteArray).size [⟨0, 1, [74]⟩] = 0 from hello_err] at h
    exact h
  clear e1 e2 e3
  go_enter Tryd.func7, Tryd.ntmps7
  go_wp2_with fail
  refine (HP.out _).mono ?_
  rintro e w1 ⟨rfl, hb1⟩
  go_wp2_with fail
  refine (HE.out _).mono ?_
  rintro e w2 ⟨rfl, hb2⟩
  have hb3 := bthen hb1 (bthen ((Below.refl w1.heap.size w1).alloc (Nat.le_refl _) _) hb2)
  go_wp2_with fail
  go_ret
  exact ⟨rfl, hb3⟩
theorem goodOne_any (w : World) : Calls Tryd.prog 24 #[.int .i64 0] w fun e w' => e = .returned (.bool false) ∧ Below w.heap.size w w' := by
  go_enter Tryd.func24, Tryd.ntmps24
  go_wp2_with fail
  go_ret
  exact ⟨rfl, (by repeat (first | exact Below.refl _ _ | assumption | refine Below.alloc ?_ (by first | exact Nat.le_refl _ | assumption | omega | (simp <;> omega)) _ | refine Below.setCell ?_ (by first | exact Nat.le_refl _ | assumption | omega | (simp <;> omega)) _ | refine Below.drew ?_ | refine below_drewN ?_ _))⟩
set_option maxRecDepth 100000 in
set_option maxHeartbeats 1000000 in
theorem goodI_any (A : Option Addr) (m c B : Nat) (w : World) (hr : Rd w B 1 A m (ints (List.replicate m 0))) (hB : B ≤ w.heap.size) (hm : m ≤ 9223372036854775807) :
    Calls Tryd.prog 40 #[.slice A m c, .func (.func 24) #[] #[]] w fun e w' => e = .returned (.int .i64 (-1)) ∧ Below w.heap.size w w' := by
  have HR := Lib.hid hr; clear hr
  have HX := Lib.hid goodOne_any
  go_enter Tryd.func40, Tryd.ntmps40
  go_wp2_with fail
  go_loopw [8] (fun i wr => ∃ k : Nat, k ≤ m ∧ i = .int .i64 k ∧ Below w.heap.size w wr) (fun i _ => m - (intOf i).toNat)
  case atStart => exact ⟨0, Nat.zero_le _, rfl, Below.refl _ _⟩
  case round =>
    obtain ⟨k, hk, rfl, hb⟩ := hrel
    have hbs := hb.size
    by_cases hlt : k < m
    · have g1 : decide ((k : Int) < (m : Int)) = true := decide_eq_true (by omega)
      have g1' : decide (k < m) = true := decide_eq_true hlt
      obtain ⟨ad, u, rfl, _, hu, cc⟩ := (HR.out.below (hb.mono hB)).at_ hlt
      have hu2 : u = .int .i64 0 := by
        obtain ⟨x, hx, rfl⟩ := ints_at hu
        rw [List.getElem?_replicate, if_pos hlt] at hx
        cases hx; rfl
      subst hu2
      clear hu
      go_wp2_with fail
      refine (HX.out _).mono ?_
      rintro e w2 ⟨rfl, hb2⟩
      have hb3 := bthen hb hb2
      go_wp2_with fail
      go_roundw
      case rel => exact ⟨k + 1, by omega, by go_num, hb3⟩
      case measure => simp [intOf]; omega
    · obtain rfl : k = m := by omega
      have g1 : decide ((k : Int) < (k : Int)) = false := decide_eq_false (by omega)
      have g1' : decide (k < k) = false := decide_eq_false hlt
      go_wp2_with fail
      go_ret
      exact ⟨rfl, hb⟩
theorem good_any (A : Option Addr) (m c B : Nat) (w : World) (hr : Rd w B 1 A m (ints (List.replicate m 0))) (hB : B ≤ w.heap.size) (hm : m ≤ 9223372036854775807) :
    Calls Tryd.prog 8 #[.slice A m c] w fun e w' => e = .returned (.bool true) ∧ Below w.heap.size w w' := by
  have HC : Hid (Calls Tryd.prog 23 #[.slice A m c, .func (.func 24) #[] #[]] w fun e w' => e = .returned (.bool false) ∧ Below w.heap.size w w') := by
    have HI := Lib.hid (goodI_any A m c B w hr hB hm)
    unfold Hid
    clear hr
    go_enter Tryd.func23, Tryd.ntmps23
    go_wp2_with fail
    refine HI.out.mono ?_
    rintro e w2 ⟨rfl, hb2⟩
    go_wp2_with fail
    go_ret
    exact ⟨rfl, hb2⟩
  clear hr
  go_enter Tryd.func8, Tryd.ntmps8
  go_wp2_with fail
  refine HC.out.mono ?_
  rintro e w2 ⟨rfl, hb2⟩
  go_wp2_with fail
  go_ret
  exact ⟨rfl, hb2⟩
end Go.Proofs.YtmikckhihfcooaaDoor
namespace Go.Proofs.YtmikckhihfcooaaDoor
open Go.RowKit
theorem goodTwo_any (w : World) : Calls Tryd.prog 24 #[.int .i64 2] w fun e w' => e = .returned (.bool true) ∧ Below w.heap.size w w' := by
  go_enter Tryd.func24, Tryd.ntmps24
  go_wp2_with fail
  go_ret
  exact ⟨rfl, (by repeat (first | exact Below.refl _ _ | assumption | refine Below.alloc ?_ (by first | exact Nat.le_refl _ | assumption | omega | (simp <;> omega)) _ | refine Below.setCell ?_ (by first | exact Nat.le_refl _ | assumption | omega | (simp <;> omega)) _ | refine Below.drew ?_ | refine below_drewN ?_ _))⟩
set_option maxRecDepth 100000 in
set_option maxHeartbeats 1000000 in
theorem goodBad_any (A : Option Addr) (c B : Nat) (w : World) (hr : Rd w B 1 A 3 (ints [2, 2, 2])) (hB : B ≤ w.heap.size) :
    Calls Tryd.prog 8 #[.slice A 3 c] w fun e w' => e = .returned (.bool false) ∧ Below w.heap.size w w' := by
  have HX := Lib.hid goodTwo_any
  have HI : Hid (Calls Tryd.prog 40 #[.slice A 3 c, .func (.func 24) #[] #[]] w fun e w' => e = .returned (.int .i64 0) ∧ Below w.heap.size w w') := by
    unfold Hid
    obtain ⟨ad, u, rfl, hab, hu, cc⟩ := hr.at_ (k := 0) (by omega)
    have hu2 : u = .int .i64 2 := by
      obtain ⟨x, hx, rfl⟩ := ints_at hu
      cases hx; rfl
    subst hu2
    have cc : w.cell? ad = some (.int .i64 2) := cc
    clear hu hr
    go_enter Tryd.func40, Tryd.ntmps40
    go_wp2_with fail
    go_loopw [8] (fun i wr => i = .int .i64 0 ∧ wr = w) (fun _ _ => 0)
    case atStart => exact ⟨rfl, rfl⟩
    case round =>
      obtain ⟨rfl, rfl⟩ := hrel
      go_wp2_with fail
      refine (HX.out _).mono ?_
      rintro e w2 ⟨rfl, hb2⟩
      go_wp2_with fail
      go_ret
      exact ⟨rfl, hb2⟩
  have HC : Hid (Calls Tryd.prog 23 #[.slice A 3 c, .func (.func 24) #[] #[]] w fun e w' => e = .returned (.bool true) ∧ Below w.heap.size w w') := by
    unfold Hid
    clear hr
    go_enter Tryd.func23, Tryd.ntmps23
    go_wp2_with fail
    refine HI.out.mono ?_
    rintro e w2 ⟨rfl, hb2⟩
    go_wp2_with fail
    go_ret
    exact ⟨rfl, hb2⟩
  clear hr HI
  go_enter Tryd.func8, Tryd.ntmps8
  go_wp2_with fail
  refine HC.out.mono ?_
  rintro e w2 ⟨rfl, hb2⟩
  go_wp2_with fail
  go_ret
  exact ⟨rfl, hb2⟩
end Go.Proofs.YtmikckhihfcooaaDoor
namespace Go.Proofs.YtmikckhihfcooaaDoor
open Go.RowKit
def strSz : Value → Nat
  | .string t => t.size
  | _ => 0
theorem entryP_0 {s : List UInt8} (h : progNum s 32 200 = none) : entryP s = none := by unfold entryP; rw [h]
theorem entryP_1 {s r1 : List UInt8} {a : Nat} (h1 : progNum s 32 200 = some (a, r1)) (h : progNum r1 32 200 = none) : entryP s = none := by
  unfold entryP; rw [h1]; simp only; rw [h]
theorem entryP_2 {s r1 r2 : List UInt8} {a d : Nat} (h1 : progNum s 32 200 = some (a, r1)) (h2 : progNum r1 32 200 = some (d, r2)) (h : progNum r2 58 40 = none) : entryP s = none := by
  unfold entryP; rw [h1]; simp only; rw [h2]; simp only; rw [h]
theorem entryP_3 {s r1 r2 r3 : List UInt8} {a d n : Nat} (h1 : progNum s 32 200 = some (a, r1)) (h2 : progNum r1 32 200 = some (d, r2)) (h3 : progNum r2 58 40 = some (n, r3)) : entryP s = rest3 r3 a d n := by
  unfold entryP; rw [h1]; simp only; rw [h2]; simp only; rw [h3]
def RdAns (s : List UInt8) (out : List Ed) (c : Int) : Prop := (readP 0 s = some out ∧ c = 0) ∨ (readP 0 s = none ∧ c = 12 ∧ out = [])
theorem nonempty_L {t : ByteArray} (h : t.size ≠ 0) : L t ≠ [] := fun e => h (by rw [← L_len, e]; rfl)
theorem L_pre (r : ByteArray) (n : Nat) : L (r.extract 0 n) = (L r).take n := by
  rw [L_extract, List.drop_zero, Nat.sub_zero]
theorem rest3_t {r : ByteArray} {a d n : Nat} (hn : n < r.size) (h : r[n] = 59) : rest3 (L r) a d n = some (⟨(a : Int), (d : Int), (L r).take n⟩, L (r.extract (n + 1) r.size)) := by
  unfold rest3
  rw [if_pos ⟨by rw [L_len]; exact hn, by rw [L_getD hn]; exact h⟩, L_extract, List.take_of_length_le (l := List.drop (n + 1) (L r)) (by rw [List.length_drop, L_len]; exact Nat.le_refl _)]
theorem rest3_f1 {r : ByteArray} {a d n : Nat} (hn : r.size ≤ n) : rest3 (L r) a d n = none := by
  unfold rest3
  rw [if_neg (fun h => by have := h.1; rw [L_len] at this; omega)]
theorem rest3_f2 {r : ByteArray} {a d n : Nat} (hn : n < r.size) (h : r[n] ≠ 59) : rest3 (L r) a d n = none := by
  unfold rest3
  rw [if_neg (fun h2 => h (by rw [← L_getD hn]; exact h2.2))]
set_option maxRecDepth 100000 in
set_option maxHeartbeats 16000000 in
theorem read_any (s : ByteArray) (hs : s.size ≤ 140737488355328) (w : World) :
    Calls Tryd.prog 49 #[.string s] w fun e w' => ∃ (v : Value) (out : List Ed) (c : Int), e = .returned (.tuple #[v, .int .i64 c]) ∧ RdAns (L s) out c ∧
      w'.ownsRow w.heap.size 39 3 v out.length (edCells out) ∧ Below w.heap.size w w' := by
  obtain ⟨i0, hi0, hz0, hz1, hz2⟩ := info_parts info_ed
  have HN32 : Hid (∀ (t : ByteArray) (W : World), t.size ≤ 140737488355328 → Calls Tryd.prog 60 #[.string t, .int .u8 32, .int .i64 200] W fun e w' => ∃ (n : Int) (rest : ByteArray) (ok : Bool), e = .returned (.tuple #[.int .i64 n, .string rest, .bool ok]) ∧
      (ok = true → ∃ v : Nat, n = (v : Int) ∧ v ≤ 200 ∧ rest.size < t.size ∧ progNum (L t) 32 200 = some (v, L rest)) ∧ (ok = false → progNum (L t) 32 200 = none) ∧ Below W.heap.size W w') := fun t W ht => number_any t 32 200 (by decide) ht W
  have HN58 : Hid (∀ (t : ByteArray) (W : World), t.size ≤ 140737488355328 → Calls Tryd.prog 60 #[.string t, .int .u8 58, .int .i64 40] W fun e w' => ∃ (n : Int) (rest : ByteArray) (ok : Bool), e = .returned (.tuple #[.int .i64 n, .string rest, .bool ok]) ∧
      (ok = true → ∃ v : Nat, n = (v : Int) ∧ v ≤ 40 ∧ rest.size < t.size ∧ progNum (L t) 58 40 = some (v, L rest)) ∧ (ok = false → progNum (L t) 58 40 = none) ∧ Below W.heap.size W w') := fun t W ht => number_any t 58 40 (by decide) ht W
  go_enter Tryd.func49, Tryd.ntmps49
  go_wp2_with fail
  go_loopw [0, 4] (fun sv ov wr => ∃ (t : ByteArray) (q : List Ed), sv = .string t ∧ t.size ≤ s.size ∧ q.length ≤ 20 ∧ Hid (readP 0 (L s) = (readP q.length (L t)).map (q ++ ·)) ∧
      wr.ownsRow w.heap.size 39 3 ov q.length (edCells q) ∧ Below w.heap.size w wr) (fun sv _ _ => strSz sv)
  case atStart => exact ⟨s, [], rfl, Nat.le_refl _, by simp, Lib.hid (by simp), World.ownsRow_nil _ _ _ _, Below.refl _ _⟩
  case round =>
    obtain ⟨t, q, rfl, hts, hq, HI, hown, hbr⟩ := hrel
    have hbs := hbr.size
    by_cases h0 : t.size = 0
    · obtain ⟨g2, g3⟩ := (emp_facts t).1 h0
      have HV : Hid (RdAns (L s) q 0) := .inl ⟨by
        have := HI.out
        rw [List.eq_nil_of_length_eq_zero ((L_len t).trans h0), readP_nil hq] at this
        simpa using this, rfl⟩
      have HO := Lib.hid hown
      clear h0 HI hown
      go_wp2_with fail
      go_ret2
      exact ⟨_, q, 0, rfl, HV.out, HO.out, hbr⟩
    obtain ⟨g2, g3⟩ := (emp_facts t).2 h0
    have hne := nonempty_L h0
    have HBAD : Hid (readP q.length (L t) = none → RdAns (L s) [] 12) := fun h => .inr ⟨by rw [HI.out, h]; rfl, rfl, rfl⟩
    by_cases h20 : q.length = 20
    · have g4 : ((q.length : Int) == 20) = true := by rw [beq_iff_eq]; omega
      have HV := Lib.hid (HBAD.out (by rw [h20]; exact readP_full hne))
      obtain ⟨A, c, rfl, hnc, hcm, hrx⟩ := own_form hown
      clear HI hown HBAD hne h20 hrx
      go_wp2_with fail
      go_ret2
      exact ⟨_, [], 12, rfl, HV.out, World.ownsRow_nil _ _ _ _, hbr⟩
    have g4 : ((q.length : Int) == 20) = false := by rw [beq_eq_false_iff_ne]; omega
    have HBADE : Hid (entryP (L t) = none → RdAns (L s) [] 12) := fun h => HBAD.out (by rw [readP_step hne, h])
    have HGO : Hid (∀ x t', entryP (L t) = some (x, L t') → readP 0 (L s) = (readP (q ++ [x]).length (L t')).map ((q ++ [x]) ++ ·)) := fun x t' h => by
      rw [HI.out, readP_step hne, h]
      simp only
      rw [map_app, List.length_append]; rfl
    have hO := Lib.hid hown
    obtain ⟨A, c, rfl, hnc, hcm, hrx⟩ := own_form hown
    have hq2 : q.length < 20 := by omega
    clear HI hown HBAD hne h20 hrx
    go_wp2_with fail
    refine (HN32.out t _ (by omega)).mono ?_
    rintro e w1 ⟨n1, r1, ok, rfl, hok, hno, hb1⟩
    cases ok with
    | false =>
      have HV := Lib.hid (HBADE.out (entryP_0 (hno rfl)))
      clear hok hno HBADE HGO
      go_wp2_with fail
      go_ret2
      exact ⟨_, [], 12, rfl, HV.out, World.ownsRow_nil _ _ _ _, bthen hbr hb1⟩
    | true =>
    obtain ⟨a, rfl, ha, hr1, HP1⟩ := hok rfl
    have HP1 := Lib.hid HP1
    clear hno hok
    go_wp2_with fail
    refine (HN32.out r1 _ (by omega)).mono ?_
    rintro e w2 ⟨n2, r2, ok, rfl, hok, hno, hb2⟩
    cases ok with
    | false =>
      have HV := Lib.hid (HBADE.out (entryP_1 HP1.out (hno rfl)))
      clear hok hno HBADE HGO HP1
      go_wp2_with fail
      go_ret2
      exact ⟨_, [], 12, rfl, HV.out, World.ownsRow_nil _ _ _ _, bthen hbr (bthen hb1 hb2)⟩
    | true =>
    obtain ⟨d, rfl, hd, hr2, HP2⟩ := hok rfl
    have HP2 := Lib.hid HP2
    clear hno hok
    go_wp2_with fail
    refine (HN58.out r2 _ (by omega)).mono ?_
    rintro e w3 ⟨n3, r3, ok, rfl, hok, hno, hb3⟩
    cases ok with
    | false =>
      have HV := Lib.hid (HBADE.out (entryP_2 HP1.out HP2.out (hno rfl)))
      clear hok hno HBADE HGO HP1 HP2
      go_wp2_with fail
      go_ret2
      exact ⟨_, [], 12, rfl, HV.out, World.ownsRow_nil _ _ _ _, bthen hbr (bthen hb1 (bthen hb2 hb3))⟩
    | true =>
    obtain ⟨n, rfl, hn, hr3, HP3⟩ := hok rfl
    have HEN := Lib.hid (entryP_3 HP1.out HP2.out HP3)
    clear hno hok HP1 HP2 HP3
    have hb4 := bthen hbr (bthen hb1 (bthen hb2 hb3))
    have hbs4 := hb4.size
    by_cases hlt : n < r3.size
    · have g5 : decide ((r3.size : Int) ≤ (n : Int)) = false := decide_eq_false (by omega)
      have g5' : decide (r3.size ≤ n) = false := decide_eq_false (by omega)
      by_cases h59 : r3[n] = 59
      · have g6 : ((r3[n].toNat : Int) == 59) = true := by rw [h59]; rfl
        have g6' : (r3[n].toNat == 59) = true := by rw [h59]; rfl
        have g6'' : ((r3[n].toNat : Int) != 59) = false := by rw [bne, g6]; rfl
        have HN2 := Lib.hid (HGO.out _ _ (HEN.out.trans (rest3_t hlt h59)))
        have hex : (r3.extract (n + 1) r3.size).size < r3.size := by rw [ByteArray.size_extract]; omega
        have HEL : Hid (S ((L r3).take n) = r3.extract 0 n) := by
          unfold Hid
          rw [← L_pre, S_L]
        clear HEN HGO HBADE h59
        have hown3 := Lib.hid (own_below hO.out (bthen hb1 (bthen hb2 hb3)))
        go_wp2_with (at_builtin; go_must (refine wpList_appG rfl _ _ _ rfl w.heap.size 39 i0 _ 3 32 Tryd.underlying22 hi0 hz0 hz1 hz2 rfl (by omega) _ q.length (edCells q) rfl (World.ownsRow.alloc hown3.out _) ⟨_, 0, none⟩ 1 1 [.int .i64 (a : Int), .int .i64 (d : Int), .string (r3.extract 0 n)] rfl rfl (cells_new3 _ _ _ _ _) (by simp [Value.oneCell']) (by omega) (by omega) (by simp; omega) ?_); intro v6 w6 hown6 hg6 hb6)
        have hB6 : Below w.heap.size w w6 := (hb4.alloc (by have := hb4.size; omega) _).trans hb6
        go_roundw
        case rel =>
          refine ⟨_, q ++ [⟨(a : Int), (d : Int), (L r3).take n⟩], rfl, by omega, by simp; omega, HN2, ?_, hB6⟩
          rw [List.length_append, edCells_append]
          have e1 : edCells [⟨(a : Int), (d : Int), (L r3).take n⟩] = [.int .i64 (a : Int), .int .i64 (d : Int), .string (r3.extract 0 n)] := by
            rw [← HEL.out]; rfl
          rw [e1]; exact hown6
        case measure => simp [strSz]; omega
      · have hz : r3[n].toNat ≠ 59 := fun e => h59 (UInt8.toNat_inj.1 (e.trans (rfl : 59 = (59 : UInt8).toNat)))
        have g6 : ((r3[n].toNat : Int) == 59) = false := by rw [beq_eq_false_iff_ne]; omega
        have g6' : (r3[n].toNat == 59) = false := by rw [beq_eq_false_iff_ne]; exact hz
        have g6'' : ((r3[n].toNat : Int) != 59) = true := by rw [bne, g6]; rfl
        have HV := Lib.hid (HBADE.out (HEN.out.trans (rest3_f2 hlt h59)))
        clear HEN HGO HBADE h59 hz
        go_wp2_with fail
        go_ret2
        exact ⟨_, [], 12, rfl, HV.out, World.ownsRow_nil _ _ _ _, hb4⟩
    · have g5 : decide ((r3.size : Int) ≤ (n : Int)) = true := decide_eq_true (by omega)
      have g5' : decide (r3.size ≤ n) = true := decide_eq_true (by omega)
      have HV := Lib.hid (HBADE.out (HEN.out.trans (rest3_f1 (by omega))))
      clear HEN HGO HBADE
      go_wp2_with fail
      go_ret2
      exact ⟨_, [], 12, rfl, HV.out, World.ownsRow_nil _ _ _ _, hb4⟩
end Go.Proofs.YtmikckhihfcooaaDoor
