/- TurnSays: the reference's count, walked. TurnSays: the reference's count, whole. turn.order, turn.Get: the order of places, as its function tells it, and the walks. -/
import Derived.Test.YtncakjchaniheaaPk03
import Derived.Test.YtncakjchaniheaaPk12
import Derived.Test.YtncakjchaniheaaPk09
import Derived.Test.YtncakjchaniheaaPk11
namespace Go.Proofs.Ytncakjchaniheaa
open Go.RowKit
theorem qLt (x c : UInt8) : decide (x.toNat < c.toNat) = decide (x < c) := by
  rw [Bool.eq_iff_iff, decide_eq_true_iff, decide_eq_true_iff, UInt8.lt_iff_toNat_lt]
set_option maxHeartbeats 4000000 in
theorem cloLt_any (p : ByteArray) (hp : p.size ≤ 200) (k : Nat) (hk : k < p.size) (x c : UInt8) (hc : (p[k]'hk) = c) (b g : Nat) (w : World) (c0 : w.cell? ⟨b, 0, none⟩ = some (.string p)) (c1 : w.cell? ⟨g, 0, none⟩ = some (.int .i64 (k : Int))) :
    Calls Try.prog 21 #[.int .u8 (x.toNat : Int), .pointer (some ⟨b, 0, none⟩), .pointer (some ⟨g, 0, none⟩)] w fun e w' => e = .returned (.bool (decide (x < c))) ∧ w' = w := by
  have HQ := Lib.hid (qLt x c)
  rw [← hc] at HQ
  rw [← hc]
  have hp9 := hp
  clear hc hp9
  go_enter Try.func21, Try.ntmps21
  go_wp2_with fail
  go_ret
  rw [← HQ.out]
  exact ⟨rfl, rfl⟩
set_option maxRecDepth 100000 in
set_option maxHeartbeats 8000000 in
theorem cntLt_any (s : ByteArray) (hs : s.size ≤ 200) (p : ByteArray) (hp : p.size ≤ 200) (k : Nat) (hk : k < p.size) (c : UInt8) (hc : (p[k]'hk) = c) (b g : Nat) (w : World) (c0 : w.cell? ⟨b, 0, none⟩ = some (.string p)) (c1 : w.cell? ⟨g, 0, none⟩ = some (.int .i64 (k : Int))) :
    Calls Try.prog 20 #[.string s, .func (.func 21) #[] #[.pointer (some ⟨b, 0, none⟩), .pointer (some ⟨g, 0, none⟩)]] w fun e w' => e = .returned (.int .i64 ((((L s).countP (fun x => decide (x < c)) : Nat)) : Int)) ∧ w' = w := by
  have HLL := Lib.hid (L_len s)
  have HC : Hid (∀ x : UInt8, Calls Try.prog 21 #[.int .u8 (x.toNat : Int), .pointer (some ⟨b, 0, none⟩), .pointer (some ⟨g, 0, none⟩)] w fun e w' => e = .returned (.bool (decide (x < c))) ∧ w' = w) := fun x => cloLt_any p hp k hk x c hc b g w c0 c1
  obtain ⟨Q, hQ⟩ : ∃ Q : UInt8 → Bool, Q = fun x => decide (x < c) := ⟨_, rfl⟩
  have HC : Hid (∀ x : UInt8, Calls Try.prog 21 #[.int .u8 (x.toNat : Int), .pointer (some ⟨b, 0, none⟩), .pointer (some ⟨g, 0, none⟩)] w fun e w' => e = .returned (.bool (Q x)) ∧ w' = w) := fun x => by rw [hQ]; exact HC.out x
  rw [← hQ]
  clear hQ hc c0 c1 hk
  go_enter Try.func20, Try.ntmps20
  go_wp2_with fail
  go_loopw [5, 9] (fun nv iv wr => ∃ i : Nat, i ≤ s.size ∧ iv = .int .i64 (i : Int) ∧ nv = .int .i64 ((((L s).take i).countP Q : Nat) : Int) ∧ wr = w) (fun _ iv _ => s.size - (intOf iv).toNat)
  case atStart => exact ⟨0, Nat.zero_le _, rfl, rfl, rfl⟩
  case round =>
    obtain ⟨i, hi, rfl, rfl, rfl⟩ := hrel
    by_cases hlt : i < s.size
    · have g1 : decide ((i : Int) < (s.size : Int)) = true := decide_eq_true (by omega)
      have g1' : decide (i < s.size) = true := decide_eq_true hlt
      have hsn : ((L s).take (i + 1)).countP Q = ((L s).take i).countP Q + (if Q (s[i]'hlt) then 1 else 0) := by
        rw [List.take_succ_eq_append_getElem (by rw [HLL.out]; exact hlt), List.countP_append, List.countP_singleton]
        have e : (L s)[i]'(by rw [HLL.out]; exact hlt) = s[i]'hlt := by
          rw [getB s i hlt, List.getD_eq_getElem?_getD, List.getElem?_eq_getElem (by rw [HLL.out]; exact hlt)]; rfl
        rw [e]
      have hle : ((L s).take i).countP Q ≤ 200 := Nat.le_trans List.countP_le_length (by rw [List.length_take]; omega)
      have HSN := Lib.hid hsn
      clear hsn
      generalize ((L s).take i).countP Q = n at *
      go_wp2_with fail
      refine (HC.out _).mono ?_
      rintro e w5 ⟨rfl, rfl⟩
      by_cases hq : Q (s[i]'hlt) = true
      · rw [hq] at HSN ⊢
        go_wp2_with fail
        go_roundw
        case rel => exact ⟨i + 1, by omega, by go_num, by rw [HSN.out]; go_num, trivial⟩
        case measure => simp [intOf]; omega
      · have hq' : Q (s[i]'hlt) = false := by rwa [Bool.not_eq_true] at hq
        rw [hq'] at HSN ⊢
        go_wp2_with fail
        go_roundw
        case rel => exact ⟨i + 1, by omega, by go_num, by rw [HSN.out]; rfl, trivial⟩
        case measure => simp [intOf]; omega
    · obtain rfl : i = s.size := by omega
      have g1 : decide ((s.size : Int) < (s.size : Int)) = false := decide_eq_false (by omega)
      have HT : Hid ((L s).take s.size = L s) := by rw [Hid, List.take_of_length_le (by rw [HLL.out]; exact Nat.le_refl _)]
      go_wp2_with fail
      go_ret
      rw [HT.out]
      exact ⟨rfl, rfl⟩
theorem qEq (x c : UInt8) : ((x.toNat : Int) == (c.toNat : Int)) = (x == c) := by
  rw [Bool.eq_iff_iff, beq_iff_eq, beq_iff_eq, ← UInt8.toNat_inj]
  omega
set_option maxHeartbeats 4000000 in
theorem cloEq_any (p : ByteArray) (hp : p.size ≤ 200) (k : Nat) (hk : k < p.size) (x c : UInt8) (hc : (p[k]'hk) = c) (b g : Nat) (w : World) (c0 : w.cell? ⟨b, 0, none⟩ = some (.string p)) (c1 : w.cell? ⟨g, 0, none⟩ = some (.int .i64 (k : Int))) :
    Calls Try.prog 22 #[.int .u8 (x.toNat : Int), .pointer (some ⟨b, 0, none⟩), .pointer (some ⟨g, 0, none⟩)] w fun e w' => e = .returned (.bool ((x == c))) ∧ w' = w := by
  have HQ := Lib.hid (qEq x c)
  rw [← hc] at HQ
  rw [← hc]
  have hp9 := hp
  clear hc hp9
  go_enter Try.func22, Try.ntmps22
  go_wp2_with fail
  go_ret
  rw [← HQ.out]
  exact ⟨rfl, rfl⟩
set_option maxRecDepth 100000 in
set_option maxHeartbeats 8000000 in
theorem cntEq_any (s : ByteArray) (hs : s.size ≤ 200) (p : ByteArray) (hp : p.size ≤ 200) (k : Nat) (hk : k < p.size) (c : UInt8) (hc : (p[k]'hk) = c) (b g : Nat) (w : World) (c0 : w.cell? ⟨b, 0, none⟩ = some (.string p)) (c1 : w.cell? ⟨g, 0, none⟩ = some (.int .i64 (k : Int))) :
    Calls Try.prog 20 #[.string s, .func (.func 22) #[] #[.pointer (some ⟨b, 0, none⟩), .pointer (some ⟨g, 0, none⟩)]] w fun e w' => e = .returned (.int .i64 ((((L s).countP (fun x => x == c) : Nat)) : Int)) ∧ w' = w := by
  have HLL := Lib.hid (L_len s)
  have HC : Hid (∀ x : UInt8, Calls Try.prog 22 #[.int .u8 (x.toNat : Int), .pointer (some ⟨b, 0, none⟩), .pointer (some ⟨g, 0, none⟩)] w fun e w' => e = .returned (.bool ((x == c))) ∧ w' = w) := fun x => cloEq_any p hp k hk x c hc b g w c0 c1
  obtain ⟨Q, hQ⟩ : ∃ Q : UInt8 → Bool, Q = fun x => x == c := ⟨_, rfl⟩
  have HC : Hid (∀ x : UInt8, Calls Try.prog 22 #[.int .u8 (x.toNat : Int), .pointer (some ⟨b, 0, none⟩), .pointer (some ⟨g, 0, none⟩)] w fun e w' => e = .returned (.bool (Q x)) ∧ w' = w) := fun x => by rw [hQ]; exact HC.out x
  rw [← hQ]
  clear hQ hc c0 c1 hk
  go_enter Try.func20, Try.ntmps20
  go_wp2_with fail
  go_loopw [5, 9] (fun nv iv wr => ∃ i : Nat, i ≤ s.size ∧ iv = .int .i64 (i : Int) ∧ nv = .int .i64 ((((L s).take i).countP Q : Nat) : Int) ∧ wr = w) (fun _ iv _ => s.size - (intOf iv).toNat)
  case atStart => exact ⟨0, Nat.zero_le _, rfl, rfl, rfl⟩
  case round =>
    obtain ⟨i, hi, rfl, rfl, rfl⟩ := hrel
    by_cases hlt : i < s.size
    · have g1 : decide ((i : Int) < (s.size : Int)) = true := decide_eq_true (by omega)
      have g1' : decide (i < s.size) = true := decide_eq_true hlt
      have hsn : ((L s).take (i + 1)).countP Q = ((L s).take i).countP Q + (if Q (s[i]'hlt) then 1 else 0) := by
        rw [List.take_succ_eq_append_getElem (by rw [HLL.out]; exact hlt), List.countP_append, List.countP_singleton]
        have e : (L s)[i]'(by rw [HLL.out]; exact hlt) = s[i]'hlt := by
          rw [getB s i hlt, List.getD_eq_getElem?_getD, List.getElem?_eq_getElem (by rw [HLL.out]; exact hlt)]; rfl
        rw [e]
      have hle : ((L s).take i).countP Q ≤ 200 := Nat.le_trans List.countP_le_length (by rw [List.length_take]; omega)
      have HSN := Lib.hid hsn
      clear hsn
      generalize ((L s).take i).countP Q = n at *
      go_wp2_with fail
      refine (HC.out _).mono ?_
      rintro e w5 ⟨rfl, rfl⟩
      by_cases hq : Q (s[i]'hlt) = true
      · rw [hq] at HSN ⊢
        go_wp2_with fail
        go_roundw
        case rel => exact ⟨i + 1, by omega, by go_num, by rw [HSN.out]; go_num, trivial⟩
        case measure => simp [intOf]; omega
      · have hq' : Q (s[i]'hlt) = false := by rwa [Bool.not_eq_true] at hq
        rw [hq'] at HSN ⊢
        go_wp2_with fail
        go_roundw
        case rel => exact ⟨i + 1, by omega, by go_num, by rw [HSN.out]; rfl, trivial⟩
        case measure => simp [intOf]; omega
    · obtain rfl : i = s.size := by omega
      have g1 : decide ((s.size : Int) < (s.size : Int)) = false := decide_eq_false (by omega)
      have HT : Hid ((L s).take s.size = L s) := by rw [Hid, List.take_of_length_le (by rw [HLL.out]; exact Nat.le_refl _)]
      go_wp2_with fail
      go_ret
      rw [HT.out]
      exact ⟨rfl, rfl⟩
end Go.Proofs.Ytncakjchaniheaa
namespace Go.Proofs.Ytncakjchaniheaa
open Go.RowKit
theorem fold_leC (t : List UInt8) : ∀ p : List UInt8, (p.foldr (stepC t) (0, t.length)).1 ≤ t.length ∧ (p.foldr (stepC t) (0, t.length)).2 ≤ t.length
  | [] => ⟨Nat.zero_le _, Nat.le_refl _⟩
  | c :: p => by
    obtain ⟨h1, h2⟩ := fold_leC t p
    rw [List.foldr_cons]
    exact stepC_le h1 h2
theorem w64_nat (a b : Nat) (h : a + b ≤ 9223372036854775807) : wrap64 ((a : Int) + (b : Int)) = ((a + b : Nat) : Int) := by
  rw [IntWalk.wrap64_in _ ⟨by omega, by omega⟩]; omega
set_option maxRecDepth 100000 in
set_option maxHeartbeats 16000000 in
theorem refCount_any (t p : ByteArray) (ht : t.size ≤ 200) (hp : p.size ≤ 200) (w : World) :
    Calls Try.prog 10 #[.string t, .string p] w fun e w' => e = .returned (.int .i64 ((countC (L t) (L p) : Nat) : Int)) ∧ Below w.heap.size w w' := by
  have HTL := Lib.hid (L_len t)
  have HPL := Lib.hid (L_len p)
  obtain ⟨F, hF⟩ : ∃ F : Nat → Nat × Nat, F = fun m => ((L p).drop m).foldr (stepC (L t)) (0, (L t).length) := ⟨_, rfl⟩
  have HF0 : Hid (F p.size = (0, t.size)) := by rw [Hid, hF]; simp only []; rw [List.drop_of_length_le (by rw [HPL.out]; exact Nat.le_refl _), List.foldr_nil, HTL.out]
  have HFE : Hid (∀ m, ¬ (F m).1 < (F m).2 → countC (L t) (L p) = 0) := fun m h => by
    unfold countC
    rw [backs_split m]
    rw [hF] at h
    rw [stepC_stay h]
    omega
  have HFS : Hid (∀ m, (hm : m < p.size) → (F m) = stepC (L t) (p[m]'hm) (F (m + 1))) := fun m hm => by
    rw [hF]
    have h9 := backs_drop (t := L t) (p := L p) (k := m) (by rw [HPL.out]; exact hm)
    rw [← getB p m hm] at h9
    exact h9
  have HFL : Hid (∀ m, (F m).1 ≤ t.size ∧ (F m).2 ≤ t.size) := fun m => by
    rw [hF, ← HTL.out]
    exact fold_leC _ _
  have HFZ : Hid (countC (L t) (L p) = (F 0).2 - (F 0).1) := by rw [hF]; rfl
  clear hF
  go_enter Try.func10, Try.ntmps10
  go_wp2_with fail
  have hbA : Below w.heap.size w ((w.alloc (.cells #[.string p] 9)).alloc (.cells #[.int .i64 ((p.size : Int) - 1)] 3)) := (by repeat (first | exact Below.refl _ _ | assumption | refine Below.alloc ?_ (by first | exact Nat.le_refl _ | assumption | omega | (simp <;> omega)) _ | refine Below.setCell ?_ (by first | exact Nat.le_refl _ | assumption | omega | (simp <;> omega)) _ | refine Below.drew ?_ | refine below_drewN ?_ _))
  have hP : Blk ((w.alloc (.cells #[.string p] 9)).alloc (.cells #[.int .i64 ((p.size : Int) - 1)] 3)) w.heap.size 9 #[.string p] := (Blk.new_ w _ _).alloc _
  have hG : Blk ((w.alloc (.cells #[.string p] 9)).alloc (.cells #[.int .i64 ((p.size : Int) - 1)] 3)) (w.heap.size + 1) 3 #[.int .i64 ((p.size : Int) - 1)] := by
    have h9 := Blk.new_ (w.alloc (.cells #[.string p] 9)) 3 #[.int .i64 ((p.size : Int) - 1)]
    rw [World.size_alloc] at h9
    exact h9
  generalize ((w.alloc (.cells #[.string p] 9)).alloc (.cells #[.int .i64 ((p.size : Int) - 1)] 3)) = w2 at *
  go_loopw [6, 7, 8] (fun lv hv bv wr => ∃ (m g : Nat) (kv : Int), m ≤ p.size ∧ kv = (m : Int) - 1 ∧ lv = .int .i64 (((F m).1 : Nat) : Int) ∧ hv = .int .i64 (((F m).2 : Nat) : Int) ∧ bv = .pointer (some ⟨g, 0, none⟩) ∧ w.heap.size < g ∧ Blk wr g 3 #[.int .i64 kv] ∧ Blk wr w.heap.size 9 #[.string p] ∧ Below w.heap.size w wr) (fun _ _ bv wr => (intOf ((wr.cell? (match bv with | .pointer (some a) => a | _ => ⟨0, 0, none⟩)).getD (.int .i64 0)) + 1).toNat)
  case atStart => exact ⟨p.size, w.heap.size + 1, _, Nat.le_refl _, rfl, by rw [HF0.out]; rfl, by rw [HF0.out], rfl, Nat.lt_succ_self _, hG, hP, hbA⟩
  case round =>
    clear hbA hP hG
    obtain ⟨m, g, kv, hm, hkv, rfl, rfl, rfl, hg, hG, hP, hb⟩ := hrel
    have cg := hG.cell0
    have cp := hP.cell0
    have hfl := HFL.out m
    have hbs := hb.size
    have HGG := Lib.hid hG; have HPP := Lib.hid hP; have HBB := Lib.hid hb
    clear hG hP hb
    rcases m with _ | m
    · obtain rfl : kv = -1 := by omega
      clear hkv
      have g1 : decide ((0 : Int) ≤ -1) = false := by decide
      have HZ := HFZ.out
      have HZ' := Lib.hid HZ
      clear HZ
      generalize (F 0).1 = l at *
      generalize (F 0).2 = h at *
      obtain ⟨hl1, hl2⟩ := hfl
      go_wp2_with fail
      go_ret
      rw [HZ'.out]
      refine ⟨?_, HBB.out⟩
      show Ending.returned (.int .i64 (max 0 ((h : Int) - (l : Int)))) = _
      rw [show max 0 ((h : Int) - (l : Int)) = ((h - l : Nat) : Int) by omega]
    · obtain rfl : kv = (m : Int) := by omega
      clear hkv
      have g1 : decide ((0 : Int) ≤ (m : Int)) = true := decide_eq_true (by omega)
      have g1' : decide (0 ≤ m) = true := decide_eq_true (Nat.zero_le _)
      have hmp : m < p.size := by omega
      have HE := Lib.hid (HFE.out (m + 1))
      have hfs := HFS.out m hmp
      have hfl' := HFL.out m
      have HKL := Lib.hid (cntLt_any t ht p hp m hmp _ rfl w.heap.size g wr cp cg)
      have HKE := fun n => fun (hn : n ≤ t.size) => cntEq_any (t.extract 0 n) (by rw [ByteArray.size_extract]; omega) p hp m hmp _ rfl w.heap.size g
      obtain ⟨c, hc⟩ : ∃ c, c = p[m]'hmp := ⟨_, rfl⟩
      rw [← hc] at hfs HKL HKE
      unfold stepC at hfs
      have HKE2 := Lib.hid HKE
      clear HKE hc
      generalize (F (m + 1)).1 = l at *
      generalize (F (m + 1)).2 = h at *
      obtain ⟨hl1, hl2⟩ := hfl
      by_cases hlh : h ≤ l
      · have g2 : decide ((h : Int) ≤ (l : Int)) = true := decide_eq_true (by omega)
        have g2' : decide (h ≤ l) = true := decide_eq_true hlh
        go_wp2_with fail
        go_ret
        rw [HE.out (by omega)]
        refine ⟨?_, HBB.out⟩
        show Ending.returned (.int .i64 (max 0 ((h : Int) - (l : Int)))) = _
        rw [show max 0 ((h : Int) - (l : Int)) = ((0 : Nat) : Int) by omega]
      · have g2 : decide ((h : Int) ≤ (l : Int)) = false := decide_eq_false (by omega)
        have g2' : decide (h ≤ l) = false := decide_eq_false hlh
        rw [if_pos (show l < h by omega)] at hfs
        have HFS2 := Lib.hid hfs
        clear hfs
        have HL1 : Hid (lessC (L t) c = (L t).countP fun x => decide (x < c)) := rfl
        rw [← HL1.out] at HKL
        go_wp2_with fail
        refine HKL.out.mono ?_
        rintro e w5 ⟨rfl, rfl⟩
        go_wp2_with fail
        obtain ⟨F1, hFd⟩ : ∃ F : World → Prop, F = fun w' => w'.cell? ⟨w.heap.size, 0, none⟩ = some (.string p) ∧ w'.cell? ⟨g, 0, none⟩ = some (.int .i64 (m : Int)) := ⟨_, rfl⟩
        have HF1 := Lib.hid hFd
        clear hFd
        have hcell10 : ∀ p' : Wof F1, p'.w.cell? ⟨w.heap.size, 0, none⟩ = some (.string p) := fun ⟨x, hx⟩ => by rw [HF1.out] at hx; exact hx.1
        have hcell11 : ∀ p' : Wof F1, p'.w.cell? ⟨g, 0, none⟩ = some (.int .i64 (m : Int)) := fun ⟨x, hx⟩ => by rw [HF1.out] at hx; exact hx.2
        refine wp_region_schedF [(0, true), (1, true), (2, true), (3, true), (4, true), (5, true), (8, true), (9, true), (10, true), (11, true), (12, true), (13, true), (6, false), (7, true), (14, false), (15, true), (16, true), (17, true)] F1 (by kernel_rfl) (by kernel_rfl) rfl (fun _ _ _ _ _ h => h) (by kernel_rfl) (by rw [HF1.out]; first | ((repeat' apply And.intro) <;> assumption) | trivial | (simp; done) | (simp [*]; done)) (by rw [HF1.out]; exact fun h => h) ?_
        intro hne1
        simp only [opersOf, List.getElem?_toArray, List.getElem?_cons_succ, List.getElem?_cons_zero]
        repeat (first | (refine wpSched_free rfl ?_; intro K hK; go_big_quiet_op; go_big_quiet_on) | (refine wpSched_wantS _ rfl rfl rfl ?_; intro K hK; go_big_quiet_op; go_big_quiet_on) | (refine wpSched_skipS _ rfl rfl rfl rfl ?_; simp only [Act.put, List.setIfInBounds_toArray, List.set_cons_zero, List.set_cons_succ]) | (refine wpSched_skipU _ rfl rfl rfl ?_; simp only [Act.put, List.setIfInBounds_toArray, List.set_cons_zero, List.set_cons_succ]))
        refine wpSched_other ?_
        go_wp2_with fail
        refine (HKE2.out l hl1 w5.drew cp cg).mono ?_
        rintro e w6 ⟨rfl, rfl⟩
        go_wp2_with fail
        refine sched_back (by rw [HF1.out]; first | ((repeat' apply And.intro) <;> assumption) | trivial | (simp; done) | (go_simp; done) | (simp [*]; done)) ?_
        repeat (first | (refine wpSched_free rfl ?_; intro K hK; go_big_quiet_op; go_big_quiet_on) | (refine wpSched_wantS _ rfl rfl rfl ?_; intro K hK; go_big_quiet_op; go_big_quiet_on) | (refine wpSched_skipS _ rfl rfl rfl rfl ?_; simp only [Act.put, List.setIfInBounds_toArray, List.set_cons_zero, List.set_cons_succ]) | (refine wpSched_skipU _ rfl rfl rfl ?_; simp only [Act.put, List.setIfInBounds_toArray, List.set_cons_zero, List.set_cons_succ]))
        refine wpSched_other ?_
        go_wp2_with fail
        refine (HKE2.out h hl2 w5.drew cp cg).mono ?_
        rintro e w6 ⟨rfl, rfl⟩
        go_wp2_with fail
        refine sched_back (by rw [HF1.out]; first | ((repeat' apply And.intro) <;> assumption) | trivial | (simp; done) | (go_simp; done) | (simp [*]; done)) ?_
        repeat (first | (refine wpSched_free rfl ?_; intro K hK; go_big_quiet_op; go_big_quiet_on) | (refine wpSched_wantS _ rfl rfl rfl ?_; intro K hK; go_big_quiet_op; go_big_quiet_on) | (refine wpSched_skipS _ rfl rfl rfl rfl ?_; simp only [Act.put, List.setIfInBounds_toArray, List.set_cons_zero, List.set_cons_succ]) | (refine wpSched_skipU _ rfl rfl rfl ?_; simp only [Act.put, List.setIfInBounds_toArray, List.set_cons_zero, List.set_cons_succ]))
        refine wpSched_nil ?_
        go_wp2_with fail
        clear HF1 hcell10 hcell11 hne1 HKL HKE2
        have hgl := HGG.out.lt
        have hq1 := less_count (L t) c
        have hq2 := take_count_le (L t) c l
        have hq3 := take_count_le (L t) c h
        rw [HTL.out] at hq1
        have hB : Below w.heap.size w (w5.alloc (.cells #[.int .i64 ((m : Int) - 1)] 3)).drew := (bthen HBB.out ((Below.refl _ _).alloc (Nat.le_refl _) _)).drew
        have hN : Blk (w5.alloc (.cells #[.int .i64 ((m : Int) - 1)] 3)).drew w5.heap.size 3 #[.int .i64 ((m : Int) - 1)] := Blk.new_ w5 _ _
        have hN2 := hN.cell0
        have e1 : (L (t.extract 0 l)).countP (fun x => x == c) = ((L t).take l).count c := by rw [L_take0]; rfl
        have e2 : (L (t.extract 0 h)).countP (fun x => x == c) = ((L t).take h).count c := by rw [L_take0]; rfl
        rw [e1, e2, w64_nat _ _ (by omega), w64_nat _ _ (by omega)]
        refine ⟨⟨m, w5.heap.size, _, by omega, rfl, by rw [HFS2.out], by rw [HFS2.out], rfl, by omega, hN, HPP.out.alloc _, hB⟩, ?_⟩
        show (intOf (((w5.alloc (.cells #[.int .i64 ((m : Int) - 1)] 3)).drew.cell? ⟨w5.heap.size, 0, none⟩).getD (.int .i64 0)) + 1).toNat < (intOf ((w5.cell? ⟨g, 0, none⟩).getD (.int .i64 0)) + 1).toNat
        rw [hN2, cg]
        simp [intOf]
end Go.Proofs.Ytncakjchaniheaa
namespace Go.Proofs.Ytncakjchaniheaa
open Go.RowKit Go.Sort Go.Proofs
def cmpO (t : List UInt8) (x y : Nat) : Int := if t.getD x 0 ≠ t.getD y 0 then ((t.getD x 0).toNat : Int) - ((t.getD y 0).toNat : Int) else (x : Int) - (y : Int)
set_option maxHeartbeats 2000000 in
theorem ordCmp_any (s : ByteArray) (B i k : Nat) (hs : s.size ≤ 200) (hi : i < s.size) (hk : k < s.size) (W : World) (hc : W.cell? ⟨B, 0, none⟩ = some (.string s)) :
    Calls Try.prog 26 #[.int .i64 (i : Int), .int .i64 (k : Int), .pointer (some ⟨B, 0, none⟩)] W fun e w' => e = .returned (.int .i64 (cmpO (L s) i k)) ∧ ∃ q, w' = W.drewN q := by
  have HV : Hid (cmpO (L s) i k = if (L s).getD i 0 ≠ (L s).getD k 0 then (((L s).getD i 0).toNat : Int) - (((L s).getD k 0).toNat : Int) else (i : Int) - (k : Int)) := rfl
  have hi1 := fun w => run_index_S (P := Try.prog) Try.underlying9 s i hi w
  have hk1 := fun w => run_index_S (P := Try.prog) Try.underlying9 s k hk w
  have hx := ((L s).getD i 0).toNat_lt
  have hy := ((L s).getD k 0).toNat_lt
  generalize (L s).getD i 0 = x at *
  generalize (L s).getD k 0 = y at *
  by_cases h0 : x = y
  · have hv : cmpO (L s) i k = (i : Int) - (k : Int) := by rw [HV.out, if_neg (by simp [h0])]
    have HV2 := Lib.hid hv
    subst h0
    have g1 : ((x.toNat : Int) != (x.toNat : Int)) = false := bne_self_eq_false' _
    clear HV hv
    go_enter Try.func26, Try.ntmps26
    go_wp2_with fail
    go_quiet (fail)
    go_wp2_with fail
    go_ret
    rw [HV2.out]
    exact ⟨rfl, _, rfl⟩
  · have hv : cmpO (L s) i k = (x.toNat : Int) - (y.toNat : Int) := by rw [HV.out, if_pos h0]
    have HV2 := Lib.hid hv
    have hne : x.toNat ≠ y.toNat := fun e => h0 (UInt8.toNat_inj.1 e)
    have g1 : ((x.toNat : Int) != (y.toNat : Int)) = true := by rw [bne_iff_ne]; omega
    clear HV hv h0 hne
    go_enter Try.func26, Try.ntmps26
    go_wp2_with fail
    go_quiet (fail)
    go_wp2_with fail
    go_quiet (fail)
    go_wp2_with fail
    go_ret
    rw [HV2.out]
    exact ⟨rfl, _, World.drewN_drewN _ _ _⟩
def ordI (s : List UInt8) : List Int := (ordO s).map fun (k : Nat) => (k : Int)
theorem ordI_at (s : List UInt8) {k : Nat} (h : k < s.length) : (ordI s).getD k 0 = ((ordO s).getD k 0 : Nat) := by
  unfold ordI
  rw [List.getD_eq_getElem?_getD, List.getElem?_map, List.getD_eq_getElem?_getD, List.getElem?_eq_getElem (by rw [ordO_len]; exact h)]; rfl
theorem ordI_len (s : List UInt8) : (ordI s).length = s.length := by rw [ordI, List.length_map, ordO_len]
section
variable (s : List UInt8) (m : Nat)
def finU : List (Fin (m + 1)) := (List.range (m + 1)).map (Fin.ofNat (m + 1))
def encU (x : Fin (m + 1)) : Value := .int .i64 (x.val : Int)
def cfU (x y : Fin (m + 1)) : Int := cmpO s x.val y.val
theorem ltB_cmp (x y : Fin (m + 1)) : ltOf (cfU s m) x y = decide (ltB s x.val y.val) := by
  show decide (cmpO s x.val y.val < 0) = _
  rw [Bool.eq_iff_iff, decide_eq_true_iff, decide_eq_true_iff]
  unfold cmpO ltB
  by_cases h0 : s.getD x.val 0 = s.getD y.val 0
  · rw [if_neg (fun h => h h0)]
    constructor
    · intro h; exact .inr ⟨h0, by omega⟩
    · rintro (h | ⟨_, h⟩)
      · rw [h0] at h; exact absurd h (UInt8.lt_irrefl _)
      · omega
  · rw [if_pos h0]
    constructor
    · intro h; exact .inl (UInt8.lt_iff_toNat_lt.2 (by omega))
    · rintro (h | ⟨e, _⟩)
      · have := UInt8.lt_iff_toNat_lt.1 h; omega
      · exact absurd e h0
theorem swoU : SWO (ltOf (cfU s m)) where
  irrefl x := by rw [ltB_cmp]; exact decide_eq_false (ltB_irrefl _ _)
  trans x y z h1 h2 := by
    rw [ltB_cmp, decide_eq_true_iff] at *
    exact ltB_trans h1 h2
  ntrans x y z h1 h2 := by
    rw [ltB_cmp, decide_eq_false_iff_not] at *
    intro h3
    by_cases h4 : ltB s y.val z.val
    · exact h2 h4
    · by_cases h5 : ltB s z.val y.val
      · exact h1 (ltB_trans h3 h5)
      · have := ltB_tri h4 h5
        rw [this] at h1
        exact h1 h3
theorem totU (x y : Fin (m + 1)) (h1 : ltOf (cfU s m) x y = false) (h2 : ltOf (cfU s m) y x = false) : x = y := by
  rw [ltB_cmp, decide_eq_false_iff_not] at *
  exact Fin.ext (ltB_tri h1 h2)
theorem finU_len : (finU m).length = m + 1 := by simp [finU]
theorem finU_val : (finU m).map (fun x => x.val) = List.range (m + 1) := by
  unfold finU
  rw [List.map_map]
  conv => rhs; rw [← List.map_id (List.range (m + 1))]
  apply List.map_congr_left
  intro i hi
  rw [List.mem_range] at hi
  show i % (m + 1) = i
  exact Nat.mod_eq_of_lt hi
theorem finU_enc : (finU m).map (encU m) = ints (idxT (m + 1) (m + 1)) := by
  have h := congrArg (List.map fun (k : Nat) => Value.int .i64 (k : Int)) (finU_val m)
  rw [List.map_map] at h
  have e : ints (idxT (m + 1) (m + 1)) = (List.range (m + 1)).map fun (k : Nat) => Value.int .i64 (k : Int) := by
    unfold ints idxT
    rw [List.map_map]
    apply List.map_congr_left
    intro i hi
    rw [List.mem_range] at hi
    show Value.int .i64 (if i < m + 1 then (i : Int) else 0) = _
    rw [if_pos hi]
  rw [e, ← h]; rfl
theorem sortU_enc (hn : m + 1 = s.length) : ((finU m).mergeSort fun x y => !(ltOf (cfU s m)) y x).map (encU m) = ints (ordI s) := by
  have h1 : ((finU m).mergeSort fun x y => !(ltOf (cfU s m)) y x).map (fun x => x.val) = ordO s := by
    rw [List.map_mergeSort (s := fun x y => decide (¬ ltB s y x)), finU_val, hn]
    · rfl
    · intro a _ b _
      rw [ltB_cmp, Bool.eq_iff_iff]
      simp
  have h := congrArg (List.map fun (k : Nat) => Value.int .i64 (k : Int)) h1
  rw [List.map_map] at h
  have e : ints (ordI s) = (ordO s).map fun (k : Nat) => Value.int .i64 (k : Int) := by
    unfold ints ordI; rw [List.map_map]; rfl
  rw [e, ← h]; rfl
end
theorem ordSort_any (s : ByteArray) (hs : s.size ≤ 200) (w0 w : World) (B g : Nat) (hB : B < w0.heap.size) (hc : w.cell? ⟨B, 0, none⟩ = some (.string s)) (hrow : ArrI w w0.heap.size g s.size (idxT s.size s.size)) (hb : Below w0.heap.size w0 w) :
    Calls Try.prog 12 #[.slice (some ⟨g, 0, none⟩) s.size s.size, .func (.func 26) #[] #[.pointer (some ⟨B, 0, none⟩)]] w fun e w' => e = .returned (.tuple #[]) ∧ ArrI w' w0.heap.size g s.size (ordI (L s)) ∧ Below w0.heap.size w0 w' := by
  rcases Nat.eq_zero_or_pos s.size with h0 | h0
  · have h9 : ordI (L s) = idxT s.size s.size := by
      have h1 : (ordI (L s)).length = 0 := by rw [ordI_len, L_len, h0]
      rw [List.eq_nil_of_length_eq_zero h1, h0]; rfl
    rw [h9]
    have h := AnyF.slices_SortFunc_none (P := Try.prog) { Try.laysSF45 with } (some ⟨g, 0, none⟩) s.size (.func (.func 26) #[] #[.pointer (some ⟨B, 0, none⟩)]) w
    rw [h0] at h hrow ⊢
    refine h.mono ?_
    rintro e w' ⟨rfl, rfl⟩
    exact ⟨rfl, hrow, hb⟩
  obtain ⟨m, hm⟩ : ∃ m, s.size = m + 1 := ⟨s.size - 1, by omega⟩
  have hg := hrow.lt
  have hrow' : w.ownsRow w0.heap.size 3 1 (.slice (some ⟨g, 0, none⟩) s.size s.size) s.size ((finU m).map (encU m)) := by rw [finU_enc, ← hm]; exact hrow
  obtain ⟨g', cap', hv, _, _, _, _, _, hH⟩ := Lib.holds_of_ownsRow hrow' (by intro h; cases h)
  obtain rfl : g = g' := by cases hv; rfl
  have hcmp : CmpLays1 Try.prog 26 #[.pointer (some ⟨B, 0, none⟩)] (encU m) (cfU (L s) m) g 0 (finU m).toArray.size w := by
    intro q os dk hdk x y
    refine (ordCmp_any s B x.val y.val hs (by have := x.isLt; omega) (by have := y.isLt; omega) _ ?_).mono ?_
    · unfold sortWorld
      rw [cell?_grow _ _ _ (by simp; have := hb.size; omega), cell?_putRow_other _ _ _ _ _ _ (.inl (show B ≠ g by omega))]
      exact hc
    · rintro e w' ⟨rfl, q, rfl⟩
      exact ⟨rfl, q, #[], (grow_empty _).symm⟩
  have h := Any.slices_SortFunc_total Try.laysSF45 (encU m) (fun _ => rfl) (cfU (L s) m) (swoU _ _) 26 #[.pointer (some ⟨B, 0, none⟩)] g 0 s.size (finU m).toArray w (enters_of Try.func26 (by kernel_rfl) rfl) hcmp hH hg.2 (by simp [finU_len]; omega) (totU _ _)
  have ez : (finU m).toArray.size = s.size := by rw [List.size_toArray, finU_len, hm]
  rw [ez] at h
  refine h.mono ?_
  rintro e w' ⟨rfl, q, os, rfl⟩
  have hl : ((finU m).mergeSort fun x y => !(ltOf (cfU (L s) m)) y x).length = s.size := by rw [List.length_mergeSort, finU_len, hm]
  have h1 := Lib.ownsRow_putRow (q := q) hrow' hl (Nat.le_refl _)
  rw [List.take_of_length_le (by rw [hl]; exact Nat.le_refl _), sortU_enc _ _ (by rw [L_len, hm])] at h1
  have hb1 := Lib.below_putRow (enc := encU m) (q := q) (d := ((finU m).mergeSort fun x y => !(ltOf (cfU (L s) m)) y x).toArray) hb hg.1
  refine ⟨rfl, own_below h1 (below_growT _ _), ?_⟩
  exact hb1.trans ((below_growT _ _).mono hb1.size)
set_option maxRecDepth 100000 in
set_option maxHeartbeats 4000000 in
theorem turnOrder_any (s : ByteArray) (hs : s.size ≤ 200) (w : World) :
    Calls Try.prog 15 #[.string s] w fun e w' => ∃ g, e = .returned (.slice (some ⟨g, 0, none⟩) s.size s.size) ∧ ArrI w' w.heap.size g s.size (ordI (L s)) ∧ Below w.heap.size w w' := by
  obtain ⟨i0, hi0, hz0, hz1, hz2⟩ := info_parts info_int
  obtain ⟨w1, hw1⟩ : ∃ w1, w1 = w.alloc (.cells #[.string s] 9) := ⟨_, rfl⟩
  have hbox : w1.cell? ⟨w.heap.size, 0, none⟩ = some (.string s) := by rw [hw1]; exact (Blk.new_ w 9 #[.string s]).cell0
  have hb1 : Below w.heap.size w w1 := by rw [hw1]; exact (Below.refl _ _).alloc (Nat.le_refl _) _
  have hz0' : w.heap.size < w1.heap.size := by rw [hw1]; simp
  have HBOX := Lib.hid hbox
  go_enter Try.func15, Try.ntmps15
  go_wp2_with (at_make; go_must (refine wpList_make_full _ rfl _ _ _ rfl w1.heap.size 3 i0 _ 1 Try.underlying37 hi0 hz0 hz1 .i64 .i64 (s.size : Int) (s.size : Int) s.size rfl rfl (by omega) (by omega) (by rw [hz2]; omega) (by unfold maxLen; omega) (by rw [hw1]; exact Nat.le_refl _) ?_); intro w2 hown2 hg2)
  rw [← hw1] at hg2
  have hb2 : Below w1.heap.size w1 w2 := (Below.refl _ _).grown hg2 (Nat.le_refl _) (fun _ h => by cases h)
  have hown2 : ArrI w2 w1.heap.size w1.heap.size s.size (List.replicate s.size 0) := by
    rw [made_ints] at hown2
    rw [← hw1] at hown2
    exact hown2
  clear hg2 hbox
  have hsz1 : w1.heap.size = w.heap.size + 1 := by rw [hw1]; simp
  obtain ⟨g, hg⟩ : ∃ g, w.heap.size + 1 = g := ⟨_, rfl⟩
  have hown2 : ArrI w2 w1.heap.size g s.size (idxT s.size 0) := by rw [← hg, ← hsz1, idxT_zero]; exact hown2
  rw [hg]
  clear hsz1
  have HG := Lib.hid hg
  clear hg hw1
  go_loopw [10] (fun iv wr => ∃ i : Nat, i ≤ s.size ∧ iv = .int .i64 (i : Int) ∧ ArrI wr w1.heap.size g s.size (idxT s.size i) ∧ Below w1.heap.size w1 wr) (fun iv _ => s.size - (intOf iv).toNat)
  case atStart => exact ⟨0, Nat.zero_le _, rfl, hown2, hb2⟩
  case round =>
    clear hown2 hb2
    obtain ⟨i, hi, rfl, hrow, hb⟩ := hrel
    have hgl := hrow.lt
    by_cases hlt : i < s.size
    · have g1 : decide ((i : Int) < (s.size : Int)) = true := decide_eq_true (by omega)
      have g1' : decide (i < s.size) = true := decide_eq_true hlt
      have c0 := hrow.at_ (k := i) hlt
      have f0 := hrow.free i
      have hln := hrow.len
      have HN : Hid ((idxT s.size i).set i (i : Int) = idxT s.size (i + 1)) := idxT_set _ _
      have HROW := Lib.hid hrow
      clear hrow
      generalize (idxT s.size i).getD i 0 = u at *
      go_wp2_with fail
      refine ⟨⟨i + 1, by omega, by go_num, ?_, hb.setCell (p := ⟨g, i, none⟩) hgl.1 _⟩, by simp [intOf]; omega⟩
      rw [← HN.out]
      exact HROW.out.set_ i _
    · obtain rfl : i = s.size := by omega
      have g1 : decide ((s.size : Int) < (s.size : Int)) = false := decide_eq_false (by omega)
      have g1' : decide (s.size < s.size) = false := decide_eq_false hlt
      have hbx := (hb.cell (p := ⟨w.heap.size, 0, none⟩) hz0').trans HBOX.out
      have HS := Lib.hid (ordSort_any s hs w1 wr w.heap.size g hz0' hbx hrow hb)
      clear hrow hbx
      go_wp2_with fail
      refine HS.out.mono ?_
      rintro e w3 ⟨rfl, hrow3, hb3⟩
      have HR3 := Lib.hid hrow3
      clear hrow3 HS
      go_wp2_with fail
      go_ret
      exact ⟨g, rfl, own_lower HR3.out hb1.size, hb1.trans (hb3.mono hb1.size)⟩
/-- What turn.Get answers. -/
def getOk (t : List UInt8) (k : Nat) : Prop := turnL (getT t k) = t ∧ turnAt (getT t k) = k
instance (t : List UInt8) (k : Nat) : Decidable (getOk t k) := inferInstanceAs (Decidable (_ ∧ _))
def tgE (t : List UInt8) (at_ : Int) : Int := if 200 < t.length then 2 else if at_ < 0 ∨ max 1 (t.length : Int) ≤ at_ then 1 else if getOk t at_.toNat then 0 else 3
def tgV (t : List UInt8) (at_ : Int) : List UInt8 := if tgE t at_ = 0 then getT t at_.toNat else []
def getPos (l : List Nat) : Nat → Nat → Nat
  | k, 0 => k
  | k, m + 1 => getPos l (l.getD k 0) m
theorem getPos_succ (l : List Nat) : ∀ m k, getPos l k (m + 1) = l.getD (getPos l k m) 0
  | 0, _ => rfl
  | m + 1, k => by rw [getPos, getPos_succ l m]; rfl
theorem getGo_snoc (t : List UInt8) (l : List Nat) : ∀ m k, getGo t l k (m + 1) = getGo t l k m ++ [t.getD (getPos l k (m + 1)) 0]
  | 0, _ => rfl
  | m + 1, k => by rw [getGo, getGo_snoc t l m, getGo]; rfl
set_option maxRecDepth 100000 in
set_option maxHeartbeats 8000000 in
theorem turnGet_any (t : ByteArray) (at_ : Int) (ha : -9223372036854775808 ≤ at_ ∧ at_ ≤ 9223372036854775807) (w : World) :
    Calls Try.prog 5 #[.string t, .int .i64 at_] w fun e w' => e = .returned (.tuple #[.string (S (tgV (L t) at_)), .int .i64 (tgE (L t) at_)]) ∧ Below w.heap.size w w' := by
  obtain ⟨j0, hj0, hy0, hy1, hy2⟩ := info_parts infoU8T
  have HLL := Lib.hid (L_len t)
  by_cases hs : 200 < t.size
  · have HE : Hid (longErr t.size = 2) := by unfold Hid longErr; rw [if_pos hs]
    have HT : Hid (tgE (L t) at_ = 2) := by unfold Hid tgE; rw [HLL.out, if_pos hs]
    have HV : Hid (tgV (L t) at_ = []) := by unfold Hid tgV; rw [HT.out]; rfl
    rw [HT.out, HV.out]
    go_enter Try.func5, Try.ntmps5
    go_wp2_with fail
    refine (wordCheck_any t _).mono ?_
    rintro e w1 ⟨rfl, hb1⟩
    rw [HE.out]
    go_wp2_with fail
    go_ret2
    exact ⟨rfl, hb1⟩
  have HE : Hid (longErr t.size = 0) := by unfold Hid longErr; rw [if_neg hs]
  by_cases hbad : at_ < 0 ∨ max 1 (t.size : Int) ≤ at_
  · have HT : Hid (tgE (L t) at_ = 1) := by unfold Hid tgE; rw [HLL.out, if_neg hs, if_pos hbad]
    have HV : Hid (tgV (L t) at_ = []) := by unfold Hid tgV; rw [HT.out]; rfl
    rw [HT.out, HV.out]
    by_cases h0 : at_ < 0
    · have g1 : decide (at_ < 0) = true := decide_eq_true h0
      go_enter Try.func5, Try.ntmps5
      go_wp2_with fail
      refine (wordCheck_any t _).mono ?_
      rintro e w1 ⟨rfl, hb1⟩
      rw [HE.out]
      go_wp2_with fail
      go_ret2
      exact ⟨rfl, hb1⟩
    · have g1 : decide (at_ < 0) = false := decide_eq_false h0
      have g2 : decide (max 1 (t.size : Int) ≤ at_) = true := decide_eq_true (hbad.resolve_left h0)
      go_enter Try.func5, Try.ntmps5
      go_wp2_with fail
      refine (wordCheck_any t _).mono ?_
      rintro e w1 ⟨rfl, hb1⟩
      rw [HE.out]
      go_wp2_with fail
      go_ret2
      exact ⟨rfl, hb1⟩
  have g1 : decide (at_ < 0) = false := decide_eq_false (by omega)
  have g2 : decide (max 1 (t.size : Int) ≤ at_) = false := decide_eq_false (by omega)
  obtain ⟨k0, hk0⟩ : ∃ k0 : Nat, at_ = (k0 : Int) := ⟨at_.toNat, by omega⟩
  subst hk0
  have hk1 : k0 < t.size ∨ (k0 = 0 ∧ t.size = 0) := by omega
  have HT : Hid (tgE (L t) (k0 : Int) = if getOk (L t) k0 then 0 else 3) := by unfold Hid tgE; rw [HLL.out, if_neg hs, if_neg hbad, Int.toNat_natCast]
  have hk2 : k0 ≤ 200 := by omega
  clear hbad
  go_enter Try.func5, Try.ntmps5
  go_wp2_with fail
  refine (wordCheck_any t _).mono ?_
  rintro e w1 ⟨rfl, hb1⟩
  rw [HE.out]
  go_wp2_with fail
  refine (turnOrder_any t (by omega) _).mono ?_
  rintro e w2 ⟨g, rfl, hrow, hb2⟩
  have HROW := Lib.hid hrow
  have hb12 := bthen hb1 hb2
  have hwz := hb12.size
  clear hrow hb1
  go_wp2_with fail
  go_loopw [8, 9, 32] (fun bv kv iv wr => ∃ i k : Nat, iv = .int .i64 (i : Int) ∧ i ≤ t.size ∧ kv = .int .i64 (k : Int) ∧ (k < t.size ∨ t.size = 0) ∧ Hid (k = getPos (ordO (L t)) k0 i) ∧ wr.ownsRow w2.heap.size 5 1 bv i (byteCells (getGo (L t) (ordO (L t)) k0 i)) ∧ Below w2.heap.size w2 wr) (fun _ _ iv _ => t.size - (intOf iv).toNat)
  case atStart => exact ⟨0, k0, rfl, Nat.zero_le _, rfl, by omega, rfl, World.ownsRow_nil _ _ _ _, Below.refl _ _⟩
  case round =>
    obtain ⟨i, k, rfl, hi, rfl, hk, HK, hown, hb⟩ := hrel
    have hbs := hb.size
    by_cases hlt : i < t.size
    · have g3 : decide ((i : Int) < (t.size : Int)) = true := decide_eq_true (by omega)
      have g3' : decide (i < t.size) = true := decide_eq_true hlt
      have hkl : k < t.size := by omega
      have c0 := (HROW.out.below hb).at_ (k := k) hkl
      rw [ordI_at _ (by rw [HLL.out]; exact hkl)] at c0
      have hq := ordO_lt (t := L t) (k := k) (by rw [HLL.out]; exact hkl)
      rw [HLL.out] at hq
      have HK2 : Hid ((ordO (L t)).getD k 0 = getPos (ordO (L t)) k0 (i + 1)) := by rw [Hid, getPos_succ, ← HK.out]
      have HSN := Lib.hid (getGo_snoc (L t) (ordO (L t)) i k0)
      rw [Hid, ← HK2.out] at HSN
      have HSN := Lib.hid HSN
      have HO := Lib.hid hown
      clear hown HK
      generalize (ordO (L t)).getD k 0 = q at *
      have hix := fun w => run_index_S (P := Try.prog) Try.underlying9 t q hq w
      generalize (L t).getD q 0 = y at *
      have happ : byteCells (getGo (L t) (ordO (L t)) k0 i) ++ [.int .u8 (y.toNat : Int)] = byteCells (getGo (L t) (ordO (L t)) k0 (i + 1)) := by
        rw [HSN.out]; simp [byteCells]
      have HAPP := Lib.hid happ
      clear happ HSN
      go_wp2_with (at_builtin; go_must (refine wpList_appG rfl _ _ _ rfl w2.heap.size 5 j0 _ 1 1 Try.underlying40 hj0 hy0 hy1 hy2 rfl (by omega) _ i (byteCells (getGo (L t) (ordO (L t)) k0 i)) rfl (World.ownsRow.alloc HO.out _) ⟨_, 0, none⟩ 1 1 [.int .u8 (y.toNat : Int)] rfl rfl (cell_one_new _ _ _) (by simp [Value.oneCell']) (by omega) (by omega) (by simp; omega) ?_); intro v6 w6 hown6 hg6 hb6)
      have hB6 : Below w2.heap.size w2 w6 := (hb.alloc hbs _).trans hb6
      go_roundw
      case rel => exact ⟨i + 1, q, by go_num, by omega, rfl, .inl hq, HK2, by rw [← HAPP.out]; exact hown6, hB6⟩
      case measure => simp [intOf]; omega
    · obtain rfl : i = t.size := by omega
      have g3 : decide ((t.size : Int) < (t.size : Int)) = false := decide_eq_false (by omega)
      have g3' : decide (t.size < t.size) = false := decide_eq_false hlt
      have HG : Hid (getGo (L t) (ordO (L t)) k0 t.size = getT (L t) k0) := by unfold Hid getT; rw [HLL.out]
      have HGZ : Hid ((getT (L t) k0).length = t.size) := by rw [Hid, getT_len, HLL.out]
      rw [HG.out] at hown
      have HP := Lib.hid (fun W => turnPut_any (S (getT (L t) k0)) (by rw [S_size, HGZ.out]; omega) W)
      rw [Hid, L_S] at HP
      have HP := Lib.hid HP
      have HTV : Hid (tgV (L t) (k0 : Int) = if getOk (L t) k0 then getT (L t) k0 else []) := by
        unfold Hid tgV
        rw [HT.out]
        by_cases h : getOk (L t) k0
        · rw [if_pos h, if_pos h, Int.toNat_natCast]; rfl
        · rw [if_neg h, if_neg h]; rfl
      have HOKD : Hid (getOk (L t) k0 ↔ (turnL (getT (L t) k0) = L t ∧ turnAt (getT (L t) k0) = k0)) := Iff.rfl
      obtain ⟨A, c, rfl, hnc, hcm, hrx⟩ := own_form hown
      have HRX := Lib.hid hrx
      clear hown hrx HG HROW HK
      generalize getT (L t) k0 = u at *
      have hcv := run_bytes_string (P := Try.prog) wr (src := 40) (dst := 9) Try.underlying40 Try.underlying5 Try.underlying9 (c := c) HRX.out
      go_wp2_with fail
      refine (HP.out _).mono ?_
      rintro e w5 ⟨rfl, hb5⟩
      have hcv2 := run_bytes_string (P := Try.prog) w5 (src := 40) (dst := 9) Try.underlying40 Try.underlying5 Try.underlying9 (c := c) (HRX.out.below hb5)
      have hB5 : Below w.heap.size w w5 := bthen hb12 (hb.trans (hb5.mono hbs))
      have hau : turnAt u ≤ 200 ∨ True := .inr trivial
      clear HRX hcv HP
      by_cases h1 : turnL u = L t
      · have y1 : ((S (turnL u)).toList == t.toList) = true := by rw [h1, S_L]; exact beq_self_eq_true _
        by_cases h2 : turnAt u = k0
        · have y2 : (((turnAt u : Nat) : Int) != (k0 : Int)) = false := by rw [h2]; exact bne_self_eq_false' _
          have y2' : (turnAt u != k0) = false := by rw [h2]; exact bne_self_eq_false' _
          have hok : getOk (L t) k0 := HOKD.out.2 ⟨h1, h2⟩
          have HOK := Lib.hid hok
          clear h1 h2 hok HOKD
          go_wp2_with fail
          go_ret2
          rw [HTV.out, HT.out, if_pos HOK.out, if_pos HOK.out]
          exact ⟨rfl, hB5⟩
        · have y2 : (((turnAt u : Nat) : Int) != (k0 : Int)) = true := by rw [bne_iff_ne]; omega
          have y2' : (turnAt u != k0) = true := by rw [bne_iff_ne]; exact h2
          have hok : ¬ getOk (L t) k0 := fun h => h2 (HOKD.out.1 h).2
          have HOK := Lib.hid hok
          clear h1 h2 hok HOKD
          go_wp2_with fail
          go_ret2
          rw [HTV.out, HT.out, if_neg HOK.out, if_neg HOK.out]
          exact ⟨rfl, hB5⟩
      · have y1 : ((S (turnL u)).toList == t.toList) = false := by
          rw [beq_eq_false_iff_ne]
          intro h
          rw [ByteArray.toList_eq, ByteArray.toList_eq] at h
          apply h1
          have h3 : L (S (turnL u)) = L t := h
          rwa [L_S] at h3
        have hok : ¬ getOk (L t) k0 := fun h => h1 (HOKD.out.1 h).1
        have HOK := Lib.hid hok
        clear h1 hok HOKD
        go_wp2_with fail
        go_ret2
        rw [HTV.out, HT.out, if_neg HOK.out, if_neg HOK.out]
        exact ⟨rfl, hB5⟩
end Go.Proofs.Ytncakjchaniheaa
