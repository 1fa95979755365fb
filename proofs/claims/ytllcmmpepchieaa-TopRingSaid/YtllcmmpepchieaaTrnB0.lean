/- How many bytes are less than a byte: the table (plain). -/
import Derived.Test.YtllcmmpepchieaaTrn0
import Derived.Test.YtllcmmpepchieaaBlk
import Derived.Test.YtllcmmpepchieaaWordC
import Derived.Test.YtllcmmpepchieaaSchedT
import Derived.Test.YtllcmmpepchieaaSchedZ
import Derived.Test.YtllcmmpepchieaaShelf
namespace Go.Proofs.Ytllcmmpepchieaa
open Go.RowKit
def ltC (t : List UInt8) (j : Nat) : Nat := t.countP fun b => decide (b.toNat < j)
def eqC (t : List UInt8) (j : Nat) : Nat := t.countP fun b => decide (b.toNat + 1 = j)
def f2C (t : List UInt8) (c j : Nat) : Nat := if j ≤ c then ltC t j else eqC t j
def lsC (f : Nat → Nat) : Array Value := ((List.range 257).map fun j => Value.int .i64 ((f j : Nat) : Int)).toArray
theorem lsC_get (f : Nat → Nat) {j : Nat} (h : j < 257) : (lsC f)[j]? = some (.int .i64 ((f j : Nat) : Int)) := by
  unfold lsC
  rw [List.getElem?_toArray, List.getElem?_map, List.getElem?_range h]; rfl
theorem lsC_set (f g : Nat → Nat) {j : Nat} (he : ∀ q, q < 257 → g q = if q = j then g j else f q) : (lsC f).setIfInBounds j (.int .i64 ((g j : Nat) : Int)) = lsC g := by
  unfold lsC
  rw [List.setIfInBounds_toArray]
  congr 1
  apply List.ext_getElem
  · simp
  · intro q h1 h2
    have hq : q < 257 := by simpa using h2
    rw [List.getElem_set]
    simp only [List.getElem_map, List.getElem_range]
    by_cases e : j = q
    · subst e; rw [if_pos rfl]
    · rw [if_neg e, he q hq, if_neg (fun h => e h.symm)]
theorem eqC_zero (t : List UInt8) : eqC t 0 = 0 := by
  unfold eqC
  rw [List.countP_eq_zero]
  intro b _ h
  rw [decide_eq_true_iff] at h; omega
theorem ltC_zero (t : List UInt8) : ltC t 0 = 0 := by
  unfold ltC
  rw [List.countP_eq_zero]
  intro b _ h
  rw [decide_eq_true_iff] at h; omega
theorem ltC_succ (t : List UInt8) (c : Nat) : ltC t (c + 1) = eqC t (c + 1) + ltC t c := by
  unfold ltC eqC
  induction t with
  | nil => rfl
  | cons b t ih =>
    rw [List.countP_cons, List.countP_cons, List.countP_cons, ih]
    by_cases h1 : b.toNat < c
    · rw [decide_eq_true h1, decide_eq_true (show b.toNat < c + 1 by omega), decide_eq_false (show ¬ b.toNat + 1 = c + 1 by omega)]
      simp only [Bool.false_eq_true, if_true, if_false]; omega
    · by_cases h2 : b.toNat = c
      · rw [decide_eq_false h1, decide_eq_true (show b.toNat < c + 1 by omega), decide_eq_true (show b.toNat + 1 = c + 1 by omega)]
        simp only [Bool.false_eq_true, if_true, if_false]; omega
      · rw [decide_eq_false h1, decide_eq_false (show ¬ b.toNat < c + 1 by omega), decide_eq_false (show ¬ b.toNat + 1 = c + 1 by omega)]
        simp only [Bool.false_eq_true, if_false]; omega
theorem f2C_zero (t : List UInt8) (j : Nat) : f2C t 0 j = eqC t j := by
  unfold f2C
  split
  · obtain rfl : j = 0 := by omega
    rw [ltC_zero, eqC_zero]
  · rfl
theorem f2C_succ (t : List UInt8) (c j : Nat) : f2C t (c + 1) j = if j = c + 1 then f2C t c (c + 1) + f2C t c c else f2C t c j := by
  unfold f2C
  by_cases h : j = c + 1
  · subst h
    rw [if_pos (Nat.le_refl _), if_pos rfl, if_neg (by omega), if_pos (Nat.le_refl _), ltC_succ]
  · rw [if_neg h]
    by_cases h2 : j ≤ c
    · rw [if_pos h2, if_pos (by omega)]
    · rw [if_neg h2, if_neg (by omega)]
theorem f2C_end (t : List UInt8) {j : Nat} (h : j < 257) : f2C t 256 j = ltC t j := by
  unfold f2C; rw [if_pos (by omega)]
theorem f1C_succ (t : List UInt8) {i : Nat} (h : i < t.length) (j : Nat) : eqC (t.take (i + 1)) j = if j = (t.getD i 0).toNat + 1 then eqC (t.take i) j + 1 else eqC (t.take i) j := by
  unfold eqC
  rw [List.take_add_one, List.getElem?_eq_getElem h, List.countP_append, List.getD_eq_getElem?_getD, List.getElem?_eq_getElem h]
  simp only [Option.toList_some, Option.getD_some]
  rw [List.countP_singleton]
  by_cases e : t[i].toNat + 1 = j
  · rw [decide_eq_true e, if_pos rfl, if_pos e.symm]
  · rw [decide_eq_false e, if_neg (by simp), if_neg (fun h => e h.symm)]; rfl
theorem lessC_lt (t : List UInt8) (c : UInt8) : lessC t c = ltC t c.toNat := by
  unfold lessC ltC
  apply List.countP_congr
  intro b _
  rw [decide_eq_true_iff, decide_eq_true_iff]
  exact UInt8.lt_iff_toNat_lt
theorem less_count (t : List UInt8) (c : UInt8) : lessC t c + t.count c ≤ t.length := by
  unfold lessC
  rw [List.count]
  induction t with
  | nil => simp
  | cons b t ih =>
    rw [List.countP_cons, List.countP_cons, List.length_cons]
    by_cases h1 : b < c
    · have h2 : (b == c) = false := by rw [beq_eq_false_iff_ne]; intro e; subst e; exact UInt8.lt_irrefl _ h1
      rw [decide_eq_true h1, h2]; simp only [Bool.false_eq_true, if_true, if_false]; omega
    · rw [decide_eq_false h1]; simp only [Bool.false_eq_true, if_false]; split <;> omega
theorem take_count_le (t : List UInt8) (c : UInt8) (k : Nat) : (t.take k).count c ≤ t.count c := (List.take_sublist k t).count_le _
theorem stepC_le {t : List UInt8} {c : UInt8} {lh : Nat × Nat} (h1 : lh.1 ≤ t.length) (h2 : lh.2 ≤ t.length) : (stepC t c lh).1 ≤ t.length ∧ (stepC t c lh).2 ≤ t.length := by
  unfold stepC
  have := less_count t c
  have := take_count_le t c lh.1
  have := take_count_le t c lh.2
  split
  · exact ⟨by simp only; omega, by simp only; omega⟩
  · exact ⟨h1, h2⟩
theorem stepC_stay {t : List UInt8} : ∀ {p : List UInt8} {lh : Nat × Nat}, ¬ lh.1 < lh.2 → p.foldr (stepC t) lh = lh := by
  intro p
  induction p with
  | nil => intro lh _; rfl
  | cons c p ih =>
    intro lh h
    rw [List.foldr_cons, ih h]
    exact if_neg h
theorem backs_drop {t p : List UInt8} {k : Nat} (h : k < p.length) : (p.drop k).foldr (stepC t) (0, t.length) = stepC t (p.getD k 0) ((p.drop (k + 1)).foldr (stepC t) (0, t.length)) := by
  rw [List.drop_eq_getElem_cons h, List.foldr_cons, List.getD_eq_getElem?_getD, List.getElem?_eq_getElem h]; rfl
theorem backs_split {t p : List UInt8} (k : Nat) : p.foldr (stepC t) (0, t.length) = (p.take k).foldr (stepC t) ((p.drop k).foldr (stepC t) (0, t.length)) := by
  rw [← List.foldr_append, List.take_append_drop]
open Go.RowKit
theorem countByte_count (l : List UInt8) (c : UInt8) : Lib.countByte l c = l.count c := rfl
theorem rd_one (w : World) (c : UInt8) : Rd (w.alloc (.cells #[.int .u8 (c.toNat : Int)] 5)) (w.heap.size + 1) 1 (some ⟨w.heap.size, 0, none⟩) 1 (byteCells [c]) :=
  Rd.new_ (size := 1) w _ _ (Nat.lt_succ_self _) rfl
theorem rd_oneD (w : World) (c : UInt8) : Rd ((w.alloc (.cells #[.int .u8 (c.toNat : Int)] 5)).drew) (w.heap.size + 1) 1 (some ⟨w.heap.size, 0, none⟩) 1 (byteCells [c]) := (rd_one w c).drew
theorem L_take0 (r : ByteArray) (n : Nat) : L (r.extract 0 n) = (L r).take n := by
  rw [L_extract, List.drop_zero, Nat.sub_zero]
theorem lsC_congr {f g : Nat → Nat} (h : ∀ j, j < 257 → f j = g j) : lsC f = lsC g := by
  have e : ((List.range 257).map fun j => Value.int .i64 ((f j : Nat) : Int)) = (List.range 257).map fun j => Value.int .i64 ((g j : Nat) : Int) := by
    apply List.map_congr_left
    intro j hj
    rw [List.mem_range] at hj
    rw [h j hj]
  unfold lsC; rw [e]
theorem zero_lsC : Try.zeroCells98 = lsC fun _ => 0 := by kernel_rfl
set_option maxRecDepth 100000 in
set_option maxHeartbeats 16000000 in
theorem turnCount_any (t p : ByteArray) (ht : t.size ≤ 200) (hp : p.size ≤ 200) (w : World) :
    Calls Try.prog 23 #[.string t, .string p] w fun e w' => e = .returned (.tuple #[.int .i64 (countC (L t) (L p) : Nat), .int .i64 0]) ∧ Below w.heap.size w w' := by
  have HE : Hid (longErr t.size = 0) := by unfold Hid longErr; rw [if_neg (by omega)]
  have HE2 : Hid (longErr p.size = 0) := by unfold Hid longErr; rw [if_neg (by omega)]
  have HTL := Lib.hid (L_len t)
  have HPL := Lib.hid (L_len p)
  go_enter Try.func23, Try.ntmps23
  go_wp2_with fail
  refine (wordCheck_any t _).mono ?_
  rintro e w1 ⟨rfl, hb1⟩
  rw [HE.out]
  go_wp2_with fail
  refine (wordCheck_any p _).mono ?_
  rintro e w2 ⟨rfl, hb2⟩
  rw [HE2.out]
  have hb0 := bthen hb1 hb2
  clear hb1 hb2
  have hbk : Blk (w2.alloc (.cells Try.zeroCells98 98)) w2.heap.size 98 (lsC fun j => eqC ((L t).take 0) j) := by
    have h := Blk.new_ w2 98 Try.zeroCells98
    rw [zero_lsC] at h ⊢
    exact h
  have hbz : Below w.heap.size w (w2.alloc (.cells Try.zeroCells98 98)) := hb0.alloc hb0.size _
  go_wp2_with fail
  generalize (w2.alloc (.cells Try.zeroCells98 98)) = wz at *
  have hgs := hb0.size
  generalize w2.heap.size = g at *
  clear hb0
  go_loopw [27] (fun iv wr => ∃ i : Nat, i ≤ t.size ∧ iv = .int .i64 (i : Int) ∧ Blk wr g 98 (lsC fun j => eqC ((L t).take i) j) ∧ Below w.heap.size w wr) (fun iv _ => t.size - (intOf iv).toNat)
  case atStart => exact ⟨0, Nat.zero_le _, rfl, hbk, hbz⟩
  case round =>
    clear hbk hbz
    obtain ⟨i, hi, rfl, hk, hb⟩ := hrel
    by_cases hlt : i < t.size
    · have g1 : decide ((i : Int) < (t.size : Int)) = true := decide_eq_true (by omega)
      have g1' : decide (i < t.size) = true := decide_eq_true hlt
      have hil : i < (L t).length := by rw [HTL.out]; exact hlt
      have HST := Lib.hid (f1C_succ (L t) hil)
      obtain ⟨N, hN⟩ : ∃ N, (t[i]'hlt).toNat = N := ⟨_, rfl⟩
      have hgd : ((L t).getD i 0).toNat = N := (congrArg UInt8.toNat (by rw [List.getD_eq_getElem?_getD, List.getElem?_eq_getElem hil]; rfl)).trans hN
      have hb256 : N < 256 := by rw [← hN]; exact (t[i]'hlt).toNat_lt
      have hcl : eqC ((L t).take i) (N + 1) ≤ 200 := by
        have : eqC ((L t).take i) (N + 1) ≤ ((L t).take i).length := List.countP_le_length
        rw [List.length_take] at this
        omega
      have cc : wr.cell? ⟨g, N + 1, none⟩ = some (.int .i64 ((eqC ((L t).take i) (N + 1) : Nat) : Int)) := (hk.cell _).trans (lsC_get _ (by omega))
      have ff := hk.frozen (N + 1)
      have HN : Hid ((lsC fun j => eqC ((L t).take i) j).setIfInBounds (N + 1) (.int .i64 ((eqC ((L t).take i) (N + 1) : Int) + 1)) = lsC fun j => eqC ((L t).take (i + 1)) j) := by
        unfold Hid
        have h := lsC_set (fun j => eqC ((L t).take i) j) (fun j => eqC ((L t).take (i + 1)) j) (j := N + 1) (fun q _ => by
          show eqC ((L t).take (i + 1)) q = if q = N + 1 then eqC ((L t).take (i + 1)) (N + 1) else eqC ((L t).take i) q
          rw [HST.out q, HST.out (N + 1), hgd, if_pos rfl]
          split
          · rename_i e; rw [e]
          · rfl)
        have e2 : eqC ((L t).take (i + 1)) (N + 1) = eqC ((L t).take i) (N + 1) + 1 := by rw [HST.out (N + 1), hgd, if_pos rfl]
        rw [← h]
        show _ = (lsC fun j => eqC ((L t).take i) j).setIfInBounds (N + 1) (.int .i64 ((eqC ((L t).take (i + 1)) (N + 1) : Nat) : Int))
        rw [e2]; rfl
      have HK := Lib.hid hk
      clear hk hgd
      generalize eqC ((L t).take i) (N + 1) = v at *
      subst hN
      go_wp2_with fail
      refine ⟨⟨i + 1, by omega, by go_num, ?_, hb.setCell (p := ⟨g, (t[i]'hlt).toNat + 1, none⟩) hgs _⟩, by simp [intOf]; omega⟩
      rw [← HN.out]
      exact HK.out.set_ _ _
    · obtain rfl : i = t.size := by omega
      have g1 : decide ((t.size : Int) < (t.size : Int)) = false := decide_eq_false (by omega)
      have g1' : decide (t.size < t.size) = false := decide_eq_false (by omega)
      have hk0 : Blk wr g 98 (lsC (f2C (L t) 0)) := by
        have e : (fun j => eqC ((L t).take t.size) j) = f2C (L t) 0 := funext fun j => by
          rw [f2C_zero, List.take_of_length_le (by rw [HTL.out]; exact Nat.le_refl _)]
        rw [← e]; exact hk
      have hb1 := hb
      clear hk hb
      go_wp2_with fail
      go_loopw [40] (fun iv wr => ∃ c : Nat, c ≤ 256 ∧ iv = .int .i64 (c : Int) ∧ Blk wr g 98 (lsC (f2C (L t) c)) ∧ Below w.heap.size w wr) (fun iv _ => 256 - (intOf iv).toNat)
      case atStart => exact ⟨0, Nat.zero_le _, rfl, hk0, hb1⟩
      case round =>
        clear hk0 hb1
        obtain ⟨c, hc, rfl, hk, hb⟩ := hrel
        by_cases hlt2 : c < 256
        · have g2 : decide ((c : Int) < 256) = true := decide_eq_true (by omega)
          have g2' : decide (c < 256) = true := decide_eq_true hlt2
          have c1 : wr.cell? ⟨g, c + 1, none⟩ = some (.int .i64 ((f2C (L t) c (c + 1) : Nat) : Int)) := (hk.cell _).trans (lsC_get _ (by omega))
          have c2 : wr.cell? ⟨g, c, none⟩ = some (.int .i64 ((f2C (L t) c c : Nat) : Int)) := (hk.cell _).trans (lsC_get _ (by omega))
          have ff := hk.frozen (c + 1)
          have HST := Lib.hid (f2C_succ (L t) c)
          have hv1 : f2C (L t) c (c + 1) ≤ 200 := by
            have : f2C (L t) c (c + 1) ≤ (L t).length := by unfold f2C ltC eqC; split <;> exact List.countP_le_length
            have := HTL.out
            omega
          have hv2 : f2C (L t) c c ≤ 200 := by
            have : f2C (L t) c c ≤ (L t).length := by unfold f2C ltC eqC; split <;> exact List.countP_le_length
            have := HTL.out
            omega
          have HN : Hid ((lsC (f2C (L t) c)).setIfInBounds (c + 1) (.int .i64 ((f2C (L t) c (c + 1) : Int) + (f2C (L t) c c : Nat))) = lsC (f2C (L t) (c + 1))) := by
            unfold Hid
            have h := lsC_set (f2C (L t) c) (f2C (L t) (c + 1)) (j := c + 1) (fun q _ => by
              rw [HST.out q, HST.out (c + 1), if_pos rfl])
            have e2 : f2C (L t) (c + 1) (c + 1) = f2C (L t) c (c + 1) + f2C (L t) c c := by rw [HST.out (c + 1), if_pos rfl]
            rw [← h, e2]; rfl
          have HK := Lib.hid hk
          clear hk
          generalize f2C (L t) c (c + 1) = v1 at *
          generalize f2C (L t) c c = v2 at *
          go_wp2_with fail
          obtain ⟨F1, hFd⟩ : ∃ F : World → Prop, F = fun w' => w'.cell? ⟨g, c + 1, none⟩ = some (.int .i64 (v1 : Int)) ∧ w'.cell? ⟨g, c, none⟩ = some (.int .i64 (v2 : Int)) := ⟨_, rfl⟩
          have HF1 := Lib.hid hFd
          clear hFd
          have hcell10 : ∀ p' : Wof F1, p'.w.cell? ⟨g, c + 1, none⟩ = some (.int .i64 (v1 : Int)) := fun ⟨x, hx⟩ => by rw [HF1.out] at hx; exact hx.1
          have hcell11 : ∀ p' : Wof F1, p'.w.cell? ⟨g, c, none⟩ = some (.int .i64 (v2 : Int)) := fun ⟨x, hx⟩ => by rw [HF1.out] at hx; exact hx.2
          refine wp_region_schedZ [(0, true), (1, true), (2, true), (3, true), (4, true), (5, true), (6, true), (7, true), (8, true)] 9 _ F1 (by kernel_rfl) (by kernel_rfl) rfl (by kernel_rfl) rfl (fun _ _ _ _ _ h => h) (by kernel_rfl) (by rw [HF1.out]; first | trivial | (repeat' apply And.intro) <;> assumption | (simp; done) | (simp [*]; done)) (by rw [HF1.out]; exact fun h => h) ?_
          intro hne1
          simp only [opersOf, List.getElem?_toArray, List.getElem?_cons_succ, List.getElem?_cons_zero]
          repeat (first | (refine wpSched_free rfl ?_; intro K hK; go_big_quiet_op; go_big_quiet_on) | (refine wpSched_wantS _ rfl rfl rfl ?_; intro K hK; go_big_quiet_op; go_big_quiet_on) | (refine wpSched_skipS _ rfl rfl rfl rfl ?_; simp only [Act.put, List.setIfInBounds_toArray, List.set_cons_zero, List.set_cons_succ]) | (refine wpSched_skipU _ rfl rfl rfl ?_; simp only [Act.put, List.setIfInBounds_toArray, List.set_cons_zero, List.set_cons_succ]))
          refine wpSched_nil ?_
          refine qz_nil ?_
          go_wp2_with fail
          refine ⟨⟨c + 1, by omega, by go_num, ?_, by first | exact (hb.setCell (p := ⟨g, c + 1, none⟩) hgs _).drew | exact hb.setCell (p := ⟨g, c + 1, none⟩) hgs _⟩, by simp [intOf]; omega⟩
          rw [← HN.out]
          exact HK.out.set_ _ _
        · have hc2 : Hid (c = 256) := by unfold Hid; omega
          have g2 : decide ((c : Int) < 256) = false := decide_eq_false (by omega)
          have g2' : decide (c < 256) = false := decide_eq_false hlt2
          have hk0 : Blk wr g 98 (lsC (ltC (L t))) := by
            have e : lsC (f2C (L t) c) = lsC (ltC (L t)) := lsC_congr fun j hj => by
              have := hc2.out
              unfold f2C; rw [if_pos (by omega)]
            rw [← e]; exact hk
          have hb1 := hb
          clear hk hb
          go_wp2_with fail
          go_loopw [11, 12, 13] (fun lo hi kv wr => ∃ (m a b : Nat), m ≤ p.size ∧ kv = .int .i64 ((m : Int) - 1) ∧ lo = .int .i64 (a : Int) ∧ hi = .int .i64 (b : Int) ∧ Hid ((a, b) = ((L p).drop m).foldr (stepC (L t)) (0, (L t).length)) ∧ a ≤ t.size ∧ b ≤ t.size ∧
            Blk wr g 98 (lsC (ltC (L t))) ∧ Below w.heap.size w wr) (fun _ _ kv _ => (intOf kv + 1).toNat)
          case atStart => exact ⟨p.size, 0, t.size, Nat.le_refl _, rfl, rfl, rfl, by unfold Hid; rw [List.drop_of_length_le (by rw [HPL.out]; exact Nat.le_refl _), HTL.out]; rfl, Nat.zero_le _, Nat.le_refl _, hk0, hb1⟩
          case round =>
            clear hk0 hb1
            obtain ⟨m, a, b, hm, rfl, rfl, rfl, HI, ha, hbz, hk, hb⟩ := hrel
            have hgl : g < wr.heap.size := hk.lt
            by_cases hend : m = 0 ∨ ¬ a < b
            · have HV : Hid (countC (L t) (L p) = b - a) := by
                unfold Hid countC
                rw [backs_split m, ← HI.out]
                rcases hend with h | h
                · subst h; rw [List.take_zero]; rfl
                · rw [stepC_stay h]
              clear HI
              have HV2 : Hid (((countC (L t) (L p) : Nat) : Int) = max 0 ((b : Int) - (a : Int))) := by
                have := HV.out
                unfold Hid
                omega
              clear HV
              rcases Nat.eq_zero_or_pos m with h0 | h0
              · subst h0
                have e0 : (((0 : Nat) : Int) - 1) = -1 := rfl
                rw [e0]
                have g1 : decide ((0 : Int) ≤ -1) = false := by decide
                clear hend e0
                go_wp2_with fail
                go_ret2
                rw [HV2.out]
                exact ⟨rfl, hb⟩
              · obtain ⟨m', rfl⟩ : ∃ m', m = m' + 1 := ⟨m - 1, by omega⟩
                have e0 : (((m' + 1 : Nat) : Int) - 1) = (m' : Int) := by omega
                rw [e0]
                have hab : ¬ a < b := by omega
                have g1 : decide ((0 : Int) ≤ (m' : Int)) = true := decide_eq_true (by omega)
                have g2 : decide ((a : Int) < (b : Int)) = false := decide_eq_false (by omega)
                have g2' : decide (a < b) = false := decide_eq_false hab
                clear hend e0 hab
                go_wp2_with fail
                go_ret2
                rw [HV2.out]
                exact ⟨rfl, hb⟩
            · obtain ⟨m', rfl⟩ : ∃ m', m = m' + 1 := ⟨m - 1, by omega⟩
              have hab : a < b := by omega
              have e0 : (((m' + 1 : Nat) : Int) - 1) = (m' : Int) := by omega
              rw [e0]
              have g1 : decide ((0 : Int) ≤ (m' : Int)) = true := decide_eq_true (by omega)
              have g2 : decide ((a : Int) < (b : Int)) = true := decide_eq_true (by omega)
              have g2' : decide (a < b) = true := decide_eq_true hab
              have hmp : m' < p.size := by omega
              have HPG : Hid ((L p).getD m' 0 = p[m']'hmp) := by
                unfold Hid
                rw [List.getD_eq_getElem?_getD, List.getElem?_eq_getElem (by rw [HPL.out]; exact hmp)]; rfl
              clear e0 hend
              go_wp2_with fail
              generalize p[m']'hmp = c at *
              have hc256 := c.toNat_lt
              have c0 : wr.cell? ⟨g, c.toNat, none⟩ = some (.int .i64 ((ltC (L t) c.toNat : Nat) : Int)) := (hk.cell _).trans (lsC_get _ (by omega))
              have HCA : Hid (∀ W, Calls Try.prog 57 #[.string (t.extract 0 a), .string ⟨#[c]⟩] W fun e w' => e = .returned (.int .i64 ((((L t).take a).count c : Nat) : Int)) ∧ w' = W) := fun W => by
                have h := Try.strings_Count_one (t.extract 0 a) c W
                have e : Lib.countByte (t.extract 0 a).data.toList c = ((L t).take a).count c := by rw [← L_take0]; rfl
                rw [e] at h; exact h
              have HCB : Hid (∀ W, Calls Try.prog 57 #[.string (t.extract 0 b), .string ⟨#[c]⟩] W fun e w' => e = .returned (.int .i64 ((((L t).take b).count c : Nat) : Int)) ∧ w' = W) := fun W => by
                have h := Try.strings_Count_one (t.extract 0 b) c W
                have e : Lib.countByte (t.extract 0 b).data.toList c = ((L t).take b).count c := by rw [← L_take0]; rfl
                rw [e] at h; exact h
              have hv := less_count (L t) c
              rw [HTL.out] at hv
              have hn1 := take_count_le (L t) c a
              have hn2 := take_count_le (L t) c b
              have HNX : Hid ((ltC (L t) c.toNat + ((L t).take a).count c, ltC (L t) c.toNat + ((L t).take b).count c) = ((L p).drop m').foldr (stepC (L t)) (0, (L t).length)) := by
                unfold Hid
                rw [backs_drop (by rw [HPL.out]; exact hmp), ← HI.out, HPG.out]
                unfold stepC
                rw [if_pos hab, lessC_lt]
              rw [lessC_lt] at hv
              have HK := Lib.hid hk
              clear hk HI HPG
              generalize ltC (L t) c.toNat = v at *
              generalize ((L t).take a).count c = n1 at *
              generalize ((L t).take b).count c = n2 at *
              generalize (L t).count c = n0 at *
              obtain ⟨F1, hFd⟩ : ∃ F : World → Prop, F = fun w' => w'.cell? ⟨g, c.toNat, none⟩ = some (.int .i64 (v : Int)) := ⟨_, rfl⟩
              have HF1 := Lib.hid hFd
              clear hFd
              have hcell10 : ∀ p' : Wof F1, p'.w.cell? ⟨g, c.toNat, none⟩ = some (.int .i64 (v : Int)) := fun ⟨x, hx⟩ => by rw [HF1.out] at hx; exact hx
              refine wp_region_schedT (.op 0 true (.op 1 true (.op 2 true (.op 3 true (.op 4 true (.op 5 true (.op 6 true (.op 11 true (.op 12 true (.op 13 true (.op 14 true (.op 15 true (.op 16 true (.op 17 true (.fork 7 18 (.fork 8 18 (.fork 9 18 (.op 10 true (.op 18 false (.op 19 false (.op 20 false (.op 21 true (.op 22 true .nil)))))) (.fork 9 19 (.op 10 true (.op 19 false (.op 20 false (.op 21 true (.op 22 true .nil))))) (.op 9 false (.op 10 true (.op 20 false (.op 21 true (.op 22 true .nil))))))) (.fork 8 19 (.fork 9 19 (.op 10 true (.op 19 false (.op 20 false (.op 21 true (.op 22 true .nil))))) (.op 9 false (.op 10 true (.op 20 false (.op 21 true (.op 22 true .nil)))))) (.op 8 false (.op 9 false (.op 10 true (.op 20 false (.op 21 true (.op 22 true .nil)))))))) (.fork 7 19 (.fork 8 19 (.fork 9 19 (.op 10 true (.op 19 false (.op 20 false (.op 21 true (.op 22 true .nil))))) (.op 9 false (.op 10 true (.op 20 false (.op 21 true (.op 22 true .nil)))))) (.op 8 false (.op 9 false (.op 10 true (.op 20 false (.op 21 true (.op 22 true .nil))))))) (.op 7 false (.op 8 false (.op 9 false (.op 10 true (.op 20 false (.op 21 true (.op 22 true .nil))))))))))))))))))))))) 23 23 [] F1 (by kernel_rfl) (by kernel_rfl) (by kernel_rfl) rfl (fun _ _ _ _ _ h => h) (by kernel_rfl) (by rw [HF1.out]; first | trivial | (repeat' apply And.intro) <;> assumption | (simp; done) | (simp [*]; done)) (by rw [HF1.out]; exact fun h => h) ?_
              intro hne1
              simp only [opersT, opsAt, List.getElem?_toArray, List.getElem?_cons_succ, List.getElem?_cons_zero]
              repeat (first | (refine wpT_free rfl ?_; intro K hK; go_big_quiet_op; go_big_quiet_on) | (refine wpT_wantS _ rfl rfl rfl ?_; intro K hK; go_big_quiet_op; go_big_quiet_on) | (refine wpT_skipS _ rfl rfl rfl rfl ?_; simp only [Act.put, List.setIfInBounds_toArray, List.set_cons_zero, List.set_cons_succ]) | (refine wpT_skipU _ rfl rfl rfl ?_; simp only [Act.put, List.setIfInBounds_toArray, List.set_cons_zero, List.set_cons_succ]))
              refine wpT_fork ?_ ?_
              · skip
                go_wp2_with fail
                have hbnwt1 : Below wr.heap.size wr ((wr.alloc (.cells #[.int .u8 (c.toNat : Int)] 5)).drew) := (by repeat (first | exact Below.refl _ _ | assumption | refine Below.alloc ?_ (by first | exact Nat.le_refl _ | assumption | omega | (simp <;> omega)) _ | refine Below.setCell ?_ (by first | exact Nat.le_refl _ | assumption | omega | (simp <;> omega)) _ | refine Below.drew ?_ | refine below_drewN ?_ _))
                have hbwwt1 : Below wr.heap.size wr ((wr.alloc (.cells #[.int .u8 (c.toNat : Int)] 5)).drew) := hbnwt1
                have cgwt1 : ((wr.alloc (.cells #[.int .u8 (c.toNat : Int)] 5)).drew).cell? ⟨g, c.toNat, none⟩ = some (.int .i64 (v : Int)) := (hbwwt1.cell (p := ⟨g, c.toNat, none⟩) hgl).trans c0
                have RAwt1 : Rd ((wr.alloc (.cells #[.int .u8 (c.toNat : Int)] 5)).drew) (wr.heap.size + 1) 1 (some ⟨wr.heap.size, 0, none⟩) 1 (byteCells [c]) := rd_oneD wr c
                have hzwt1 : wr.heap.size + 1 ≤ ((wr.alloc (.cells #[.int .u8 (c.toNat : Int)] 5)).drew).heap.size := by simp
                generalize ((wr.alloc (.cells #[.int .u8 (c.toNat : Int)] 5)).drew) = wt1 at *
                refine sched_back (by rw [HF1.out]; exact cgwt1) ?_
                repeat (first | (refine wpT_free rfl ?_; intro K hK; go_big_quiet_op; go_big_quiet_on) | (refine wpT_wantS _ rfl rfl rfl ?_; intro K hK; go_big_quiet_op; go_big_quiet_on) | (refine wpT_skipS _ rfl rfl rfl rfl ?_; simp only [Act.put, List.setIfInBounds_toArray, List.set_cons_zero, List.set_cons_succ]) | (refine wpT_skipU _ rfl rfl rfl ?_; simp only [Act.put, List.setIfInBounds_toArray, List.set_cons_zero, List.set_cons_succ]))
                refine wpT_fork ?_ ?_
                · skip
                  have hcv := run_bytes_string (P := Try.prog) wt1 (src := 63) (dst := 9) Try.underlying63 Try.underlying5 Try.underlying9 (c := 1) RAwt1
                  go_wp2_with fail
                  clear hcv
                  refine sched_back (by rw [HF1.out]; exact cgwt1) ?_
                  repeat (first | (refine wpT_free rfl ?_; intro K hK; go_big_quiet_op; go_big_quiet_on) | (refine wpT_wantS _ rfl rfl rfl ?_; intro K hK; go_big_quiet_op; go_big_quiet_on) | (refine wpT_skipS _ rfl rfl rfl rfl ?_; simp only [Act.put, List.setIfInBounds_toArray, List.set_cons_zero, List.set_cons_succ]) | (refine wpT_skipU _ rfl rfl rfl ?_; simp only [Act.put, List.setIfInBounds_toArray, List.set_cons_zero, List.set_cons_succ]))
                  refine wpT_fork ?_ ?_
                  · skip
                    go_wp2_with fail
                    refine (HCA.out _).mono ?_
                    rintro e wq ⟨rfl, hwq⟩
                    rw [hwq]
                    clear hwq wq
                    go_wp2_with fail
                    refine sched_back (by rw [HF1.out]; exact cgwt1) ?_
                    repeat (first | (refine wpT_free rfl ?_; intro K hK; go_big_quiet_op; go_big_quiet_on) | (refine wpT_wantS _ rfl rfl rfl ?_; intro K hK; go_big_quiet_op; go_big_quiet_on) | (refine wpT_skipS _ rfl rfl rfl rfl ?_; simp only [Act.put, List.setIfInBounds_toArray, List.set_cons_zero, List.set_cons_succ]) | (refine wpT_skipU _ rfl rfl rfl ?_; simp only [Act.put, List.setIfInBounds_toArray, List.set_cons_zero, List.set_cons_succ]))
                    refine wpT_other ?_
                    go_wp2_with fail
                    have hbnwt2 : Below wt1.heap.size wt1 (wt1.alloc (.cells #[.int .u8 (c.toNat : Int)] 5)) := (by repeat (first | exact Below.refl _ _ | assumption | refine Below.alloc ?_ (by first | exact Nat.le_refl _ | assumption | omega | (simp <;> omega)) _ | refine Below.setCell ?_ (by first | exact Nat.le_refl _ | assumption | omega | (simp <;> omega)) _ | refine Below.drew ?_ | refine below_drewN ?_ _))
                    have hbwwt2 : Below wr.heap.size wr (wt1.alloc (.cells #[.int .u8 (c.toNat : Int)] 5)) := bthen hbwwt1 hbnwt2
                    have cgwt2 : (wt1.alloc (.cells #[.int .u8 (c.toNat : Int)] 5)).cell? ⟨g, c.toNat, none⟩ = some (.int .i64 (v : Int)) := (hbwwt2.cell (p := ⟨g, c.toNat, none⟩) hgl).trans c0
                    have RBwt2 : Rd (wt1.alloc (.cells #[.int .u8 (c.toNat : Int)] 5)) (wt1.heap.size + 1) 1 (some ⟨wt1.heap.size, 0, none⟩) 1 (byteCells [c]) := rd_one wt1 c
                    have RAwt2 := (RAwt1).below (hbnwt2.mono hzwt1)
                    have hzwt2 : wt1.heap.size + 1 ≤ (wt1.alloc (.cells #[.int .u8 (c.toNat : Int)] 5)).heap.size := by simp
                    generalize (wt1.alloc (.cells #[.int .u8 (c.toNat : Int)] 5)) = wt2 at *
                    refine sched_back (by rw [HF1.out]; exact cgwt2) ?_
                    repeat (first | (refine wpT_free rfl ?_; intro K hK; go_big_quiet_op; go_big_quiet_on) | (refine wpT_wantS _ rfl rfl rfl ?_; intro K hK; go_big_quiet_op; go_big_quiet_on) | (refine wpT_skipS _ rfl rfl rfl rfl ?_; simp only [Act.put, List.setIfInBounds_toArray, List.set_cons_zero, List.set_cons_succ]) | (refine wpT_skipU _ rfl rfl rfl ?_; simp only [Act.put, List.setIfInBounds_toArray, List.set_cons_zero, List.set_cons_succ]))
                    refine wpT_other ?_
                    have hcv := run_bytes_string (P := Try.prog) wt2 (src := 63) (dst := 9) Try.underlying63 Try.underlying5 Try.underlying9 (c := 1) RBwt2
                    go_wp2_with fail
                    clear hcv
                    refine sched_back (by rw [HF1.out]; exact cgwt2) ?_
                    repeat (first | (refine wpT_free rfl ?_; intro K hK; go_big_quiet_op; go_big_quiet_on) | (refine wpT_wantS _ rfl rfl rfl ?_; intro K hK; go_big_quiet_op; go_big_quiet_on) | (refine wpT_skipS _ rfl rfl rfl rfl ?_; simp only [Act.put, List.setIfInBounds_toArray, List.set_cons_zero, List.set_cons_succ]) | (refine wpT_skipU _ rfl rfl rfl ?_; simp only [Act.put, List.setIfInBounds_toArray, List.set_cons_zero, List.set_cons_succ]))
                    refine wpT_other ?_
                    go_wp2_with fail
                    refine (HCB.out _).mono ?_
                    rintro e wq ⟨rfl, hwq⟩
                    rw [hwq]
                    clear hwq wq
                    go_wp2_with fail
                    refine sched_back (by rw [HF1.out]; exact cgwt2) ?_
                    repeat (first | (refine wpT_free rfl ?_; intro K hK; go_big_quiet_op; go_big_quiet_on) | (refine wpT_wantS _ rfl rfl rfl ?_; intro K hK; go_big_quiet_op; go_big_quiet_on) | (refine wpT_skipS _ rfl rfl rfl rfl ?_; simp only [Act.put, List.setIfInBounds_toArray, List.set_cons_zero, List.set_cons_succ]) | (refine wpT_skipU _ rfl rfl rfl ?_; simp only [Act.put, List.setIfInBounds_toArray, List.set_cons_zero, List.set_cons_succ]))
                    refine wpT_nil ?_
                    refine wpTail_cons ?_
                    go_wp2_with fail
                    refine tail_back ?_
                    refine wpTail_nil ?_
                    go_wp2_with fail
                    go_roundw
                    case rel => exact ⟨m', v + n1, v + n2, by omega, by go_num, by go_num, by go_num, HNX.out, by omega, by omega, HK.out.below' hbwwt2, bthen hb hbwwt2⟩
                    case measure => simp [intOf]
                  · skip
                    go_wp2_with fail
                    have hbnwt3 : Below wt1.heap.size wt1 (wt1.alloc (.cells #[.int .u8 (c.toNat : Int)] 5)) := (by repeat (first | exact Below.refl _ _ | assumption | refine Below.alloc ?_ (by first | exact Nat.le_refl _ | assumption | omega | (simp <;> omega)) _ | refine Below.setCell ?_ (by first | exact Nat.le_refl _ | assumption | omega | (simp <;> omega)) _ | refine Below.drew ?_ | refine below_drewN ?_ _))
                    have hbwwt3 : Below wr.heap.size wr (wt1.alloc (.cells #[.int .u8 (c.toNat : Int)] 5)) := bthen hbwwt1 hbnwt3
                    have cgwt3 : (wt1.alloc (.cells #[.int .u8 (c.toNat : Int)] 5)).cell? ⟨g, c.toNat, none⟩ = some (.int .i64 (v : Int)) := (hbwwt3.cell (p := ⟨g, c.toNat, none⟩) hgl).trans c0
                    have RBwt3 : Rd (wt1.alloc (.cells #[.int .u8 (c.toNat : Int)] 5)) (wt1.heap.size + 1) 1 (some ⟨wt1.heap.size, 0, none⟩) 1 (byteCells [c]) := rd_one wt1 c
                    have RAwt3 := (RAwt1).below (hbnwt3.mono hzwt1)
                    have hzwt3 : wt1.heap.size + 1 ≤ (wt1.alloc (.cells #[.int .u8 (c.toNat : Int)] 5)).heap.size := by simp
                    generalize (wt1.alloc (.cells #[.int .u8 (c.toNat : Int)] 5)) = wt3 at *
                    refine sched_back (by rw [HF1.out]; exact cgwt3) ?_
                    repeat (first | (refine wpT_free rfl ?_; intro K hK; go_big_quiet_op; go_big_quiet_on) | (refine wpT_wantS _ rfl rfl rfl ?_; intro K hK; go_big_quiet_op; go_big_quiet_on) | (refine wpT_skipS _ rfl rfl rfl rfl ?_; simp only [Act.put, List.setIfInBounds_toArray, List.set_cons_zero, List.set_cons_succ]) | (refine wpT_skipU _ rfl rfl rfl ?_; simp only [Act.put, List.setIfInBounds_toArray, List.set_cons_zero, List.set_cons_succ]))
                    refine wpT_fork ?_ ?_
                    · skip
                      go_wp2_with fail
                      refine (HCA.out _).mono ?_
                      rintro e wq ⟨rfl, hwq⟩
                      rw [hwq]
                      clear hwq wq
                      go_wp2_with fail
                      refine sched_back (by rw [HF1.out]; exact cgwt3) ?_
                      repeat (first | (refine wpT_free rfl ?_; intro K hK; go_big_quiet_op; go_big_quiet_on) | (refine wpT_wantS _ rfl rfl rfl ?_; intro K hK; go_big_quiet_op; go_big_quiet_on) | (refine wpT_skipS _ rfl rfl rfl rfl ?_; simp only [Act.put, List.setIfInBounds_toArray, List.set_cons_zero, List.set_cons_succ]) | (refine wpT_skipU _ rfl rfl rfl ?_; simp only [Act.put, List.setIfInBounds_toArray, List.set_cons_zero, List.set_cons_succ]))
                      refine wpT_other ?_
                      have hcv := run_bytes_string (P := Try.prog) wt3 (src := 63) (dst := 9) Try.underlying63 Try.underlying5 Try.underlying9 (c := 1) RBwt3
                      go_wp2_with fail
                      clear hcv
                      refine sched_back (by rw [HF1.out]; exact cgwt3) ?_
                      repeat (first | (refine wpT_free rfl ?_; intro K hK; go_big_quiet_op; go_big_quiet_on) | (refine wpT_wantS _ rfl rfl rfl ?_; intro K hK; go_big_quiet_op; go_big_quiet_on) | (refine wpT_skipS _ rfl rfl rfl rfl ?_; simp only [Act.put, List.setIfInBounds_toArray, List.set_cons_zero, List.set_cons_succ]) | (refine wpT_skipU _ rfl rfl rfl ?_; simp only [Act.put, List.setIfInBounds_toArray, List.set_cons_zero, List.set_cons_succ]))
                      refine wpT_other ?_
                      go_wp2_with fail
                      refine (HCB.out _).mono ?_
                      rintro e wq ⟨rfl, hwq⟩
                      rw [hwq]
                      clear hwq wq
                      go_wp2_with fail
                      refine sched_back (by rw [HF1.out]; exact cgwt3) ?_
                      repeat (first | (refine wpT_free rfl ?_; intro K hK; go_big_quiet_op; go_big_quiet_on) | (refine wpT_wantS _ rfl rfl rfl ?_; intro K hK; go_big_quiet_op; go_big_quiet_on) | (refine wpT_skipS _ rfl rfl rfl rfl ?_; simp only [Act.put, List.setIfInBounds_toArray, List.set_cons_zero, List.set_cons_succ]) | (refine wpT_skipU _ rfl rfl rfl ?_; simp only [Act.put, List.setIfInBounds_toArray, List.set_cons_zero, List.set_cons_succ]))
                      refine wpT_nil ?_
                      refine wpTail_cons ?_
                      go_wp2_with fail
                      refine tail_back ?_
                      refine wpTail_nil ?_
                      go_wp2_with fail
                      go_roundw
                      case rel => exact ⟨m', v + n1, v + n2, by omega, by go_num, by go_num, by go_num, HNX.out, by omega, by omega, HK.out.below' hbwwt3, bthen hb hbwwt3⟩
                      case measure => simp [intOf]
                    · skip
                      have hcv := run_bytes_string (P := Try.prog) wt3 (src := 63) (dst := 9) Try.underlying63 Try.underlying5 Try.underlying9 (c := 1) RBwt3
                      go_wp2_with fail
                      clear hcv
                      refine sched_back (by rw [HF1.out]; exact cgwt3) ?_
                      repeat (first | (refine wpT_free rfl ?_; intro K hK; go_big_quiet_op; go_big_quiet_on) | (refine wpT_wantS _ rfl rfl rfl ?_; intro K hK; go_big_quiet_op; go_big_quiet_on) | (refine wpT_skipS _ rfl rfl rfl rfl ?_; simp only [Act.put, List.setIfInBounds_toArray, List.set_cons_zero, List.set_cons_succ]) | (refine wpT_skipU _ rfl rfl rfl ?_; simp only [Act.put, List.setIfInBounds_toArray, List.set_cons_zero, List.set_cons_succ]))
                      refine wpT_other ?_
                      go_wp2_with fail
                      refine (HCA.out _).mono ?_
                      rintro e wq ⟨rfl, hwq⟩
                      rw [hwq]
                      clear hwq wq
                      go_wp2_with fail
                      refine sched_back (by rw [HF1.out]; exact cgwt3) ?_
                      repeat (first | (refine wpT_free rfl ?_; intro K hK; go_big_quiet_op; go_big_quiet_on) | (refine wpT_wantS _ rfl rfl rfl ?_; intro K hK; go_big_quiet_op; go_big_quiet_on) | (refine wpT_skipS _ rfl rfl rfl rfl ?_; simp only [Act.put, List.setIfInBounds_toArray, List.set_cons_zero, List.set_cons_succ]) | (refine wpT_skipU _ rfl rfl rfl ?_; simp only [Act.put, List.setIfInBounds_toArray, List.set_cons_zero, List.set_cons_succ]))
                      refine wpT_other ?_
                      go_wp2_with fail
                      refine (HCB.out _).mono ?_
                      rintro e wq ⟨rfl, hwq⟩
                      rw [hwq]
                      clear hwq wq
                      go_wp2_with fail
                      refine sched_back (by rw [HF1.out]; exact cgwt3) ?_
                      repeat (first | (refine wpT_free rfl ?_; intro K hK; go_big_quiet_op; go_big_quiet_on) | (refine wpT_wantS _ rfl rfl rfl ?_; intro K hK; go_big_quiet_op; go_big_quiet_on) | (refine wpT_skipS _ rfl rfl rfl rfl ?_; simp only [Act.put, List.setIfInBounds_toArray, List.set_cons_zero, List.set_cons_succ]) | (refine wpT_skipU _ rfl rfl rfl ?_; simp only [Act.put, List.setIfInBounds_toArray, List.set_cons_zero, List.set_cons_succ]))
                      refine wpT_nil ?_
                      refine wpTail_cons ?_
                      go_wp2_with fail
                      refine tail_back ?_
                      refine wpTail_nil ?_
                      go_wp2_with fail
                      go_roundw
                      case rel => exact ⟨m', v + n1, v + n2, by omega, by go_num, by go_num, by go_num, HNX.out, by omega, by omega, HK.out.below' hbwwt3, bthen hb hbwwt3⟩
                      case measure => simp [intOf]
                · skip
                  go_wp2_with fail
                  have hbnwt4 : Below wt1.heap.size wt1 (wt1.alloc (.cells #[.int .u8 (c.toNat : Int)] 5)) := (by repeat (first | exact Below.refl _ _ | assumption | refine Below.alloc ?_ (by first | exact Nat.le_refl _ | assumption | omega | (simp <;> omega)) _ | refine Below.setCell ?_ (by first | exact Nat.le_refl _ | assumption | omega | (simp <;> omega)) _ | refine Below.drew ?_ | refine below_drewN ?_ _))
                  have hbwwt4 : Below wr.heap.size wr (wt1.alloc (.cells #[.int .u8 (c.toNat : Int)] 5)) := bthen hbwwt1 hbnwt4
                  have cgwt4 : (wt1.alloc (.cells #[.int .u8 (c.toNat : Int)] 5)).cell? ⟨g, c.toNat, none⟩ = some (.int .i64 (v : Int)) := (hbwwt4.cell (p := ⟨g, c.toNat, none⟩) hgl).trans c0
                  have RBwt4 : Rd (wt1.alloc (.cells #[.int .u8 (c.toNat : Int)] 5)) (wt1.heap.size + 1) 1 (some ⟨wt1.heap.size, 0, none⟩) 1 (byteCells [c]) := rd_one wt1 c
                  have RAwt4 := (RAwt1).below (hbnwt4.mono hzwt1)
                  have hzwt4 : wt1.heap.size + 1 ≤ (wt1.alloc (.cells #[.int .u8 (c.toNat : Int)] 5)).heap.size := by simp
                  generalize (wt1.alloc (.cells #[.int .u8 (c.toNat : Int)] 5)) = wt4 at *
                  refine sched_back (by rw [HF1.out]; exact cgwt4) ?_
                  repeat (first | (refine wpT_free rfl ?_; intro K hK; go_big_quiet_op; go_big_quiet_on) | (refine wpT_wantS _ rfl rfl rfl ?_; intro K hK; go_big_quiet_op; go_big_quiet_on) | (refine wpT_skipS _ rfl rfl rfl rfl ?_; simp only [Act.put, List.setIfInBounds_toArray, List.set_cons_zero, List.set_cons_succ]) | (refine wpT_skipU _ rfl rfl rfl ?_; simp only [Act.put, List.setIfInBounds_toArray, List.set_cons_zero, List.set_cons_succ]))
                  refine wpT_fork ?_ ?_
                  · skip
                    have hcv := run_bytes_string (P := Try.prog) wt4 (src := 63) (dst := 9) Try.underlying63 Try.underlying5 Try.underlying9 (c := 1) RAwt4
                    go_wp2_with fail
                    clear hcv
                    refine sched_back (by rw [HF1.out]; exact cgwt4) ?_
                    repeat (first | (refine wpT_free rfl ?_; intro K hK; go_big_quiet_op; go_big_quiet_on) | (refine wpT_wantS _ rfl rfl rfl ?_; intro K hK; go_big_quiet_op; go_big_quiet_on) | (refine wpT_skipS _ rfl rfl rfl rfl ?_; simp only [Act.put, List.setIfInBounds_toArray, List.set_cons_zero, List.set_cons_succ]) | (refine wpT_skipU _ rfl rfl rfl ?_; simp only [Act.put, List.setIfInBounds_toArray, List.set_cons_zero, List.set_cons_succ]))
                    refine wpT_fork ?_ ?_
                    · skip
                      go_wp2_with fail
                      refine (HCA.out _).mono ?_
                      rintro e wq ⟨rfl, hwq⟩
                      rw [hwq]
                      clear hwq wq
                      go_wp2_with fail
                      refine sched_back (by rw [HF1.out]; exact cgwt4) ?_
                      repeat (first | (refine wpT_free rfl ?_; intro K hK; go_big_quiet_op; go_big_quiet_on) | (refine wpT_wantS _ rfl rfl rfl ?_; intro K hK; go_big_quiet_op; go_big_quiet_on) | (refine wpT_skipS _ rfl rfl rfl rfl ?_; simp only [Act.put, List.setIfInBounds_toArray, List.set_cons_zero, List.set_cons_succ]) | (refine wpT_skipU _ rfl rfl rfl ?_; simp only [Act.put, List.setIfInBounds_toArray, List.set_cons_zero, List.set_cons_succ]))
                      refine wpT_other ?_
                      have hcv := run_bytes_string (P := Try.prog) wt4 (src := 63) (dst := 9) Try.underlying63 Try.underlying5 Try.underlying9 (c := 1) RBwt4
                      go_wp2_with fail
                      clear hcv
                      refine sched_back (by rw [HF1.out]; exact cgwt4) ?_
                      repeat (first | (refine wpT_free rfl ?_; intro K hK; go_big_quiet_op; go_big_quiet_on) | (refine wpT_wantS _ rfl rfl rfl ?_; intro K hK; go_big_quiet_op; go_big_quiet_on) | (refine wpT_skipS _ rfl rfl rfl rfl ?_; simp only [Act.put, List.setIfInBounds_toArray, List.set_cons_zero, List.set_cons_succ]) | (refine wpT_skipU _ rfl rfl rfl ?_; simp only [Act.put, List.setIfInBounds_toArray, List.set_cons_zero, List.set_cons_succ]))
                      refine wpT_other ?_
                      go_wp2_with fail
                      refine (HCB.out _).mono ?_
                      rintro e wq ⟨rfl, hwq⟩
                      rw [hwq]
                      clear hwq wq
                      go_wp2_with fail
                      refine sched_back (by rw [HF1.out]; exact cgwt4) ?_
                      repeat (first | (refine wpT_free rfl ?_; intro K hK; go_big_quiet_op; go_big_quiet_on) | (refine wpT_wantS _ rfl rfl rfl ?_; intro K hK; go_big_quiet_op; go_big_quiet_on) | (refine wpT_skipS _ rfl rfl rfl rfl ?_; simp only [Act.put, List.setIfInBounds_toArray, List.set_cons_zero, List.set_cons_succ]) | (refine wpT_skipU _ rfl rfl rfl ?_; simp only [Act.put, List.setIfInBounds_toArray, List.set_cons_zero, List.set_cons_succ]))
                      refine wpT_nil ?_
                      refine wpTail_cons ?_
                      go_wp2_with fail
                      refine tail_back ?_
                      refine wpTail_nil ?_
                      go_wp2_with fail
                      go_roundw
                      case rel => exact ⟨m', v + n1, v + n2, by omega, by go_num, by go_num, by go_num, HNX.out, by omega, by omega, HK.out.below' hbwwt4, bthen hb hbwwt4⟩
                      case measure => simp [intOf]
                    · skip
                      have hcv := run_bytes_string (P := Try.prog) wt4 (src := 63) (dst := 9) Try.underlying63 Try.underlying5 Try.underlying9 (c := 1) RBwt4
                      go_wp2_with fail
                      clear hcv
                      refine sched_back (by rw [HF1.out]; exact cgwt4) ?_
                      repeat (first | (refine wpT_free rfl ?_; intro K hK; go_big_quiet_op; go_big_quiet_on) | (refine wpT_wantS _ rfl rfl rfl ?_; intro K hK; go_big_quiet_op; go_big_quiet_on) | (refine wpT_skipS _ rfl rfl rfl rfl ?_; simp only [Act.put, List.setIfInBounds_toArray, List.set_cons_zero, List.set_cons_succ]) | (refine wpT_skipU _ rfl rfl rfl ?_; simp only [Act.put, List.setIfInBounds_toArray, List.set_cons_zero, List.set_cons_succ]))
                      refine wpT_other ?_
                      go_wp2_with fail
                      refine (HCA.out _).mono ?_
                      rintro e wq ⟨rfl, hwq⟩
                      rw [hwq]
                      clear hwq wq
                      go_wp2_with fail
                      refine sched_back (by rw [HF1.out]; exact cgwt4) ?_
                      repeat (first | (refine wpT_free rfl ?_; intro K hK; go_big_quiet_op; go_big_quiet_on) | (refine wpT_wantS _ rfl rfl rfl ?_; intro K hK; go_big_quiet_op; go_big_quiet_on) | (refine wpT_skipS _ rfl rfl rfl rfl ?_; simp only [Act.put, List.setIfInBounds_toArray, List.set_cons_zero, List.set_cons_succ]) | (refine wpT_skipU _ rfl rfl rfl ?_; simp only [Act.put, List.setIfInBounds_toArray, List.set_cons_zero, List.set_cons_succ]))
                      refine wpT_other ?_
                      go_wp2_with fail
                      refine (HCB.out _).mono ?_
                      rintro e wq ⟨rfl, hwq⟩
                      rw [hwq]
                      clear hwq wq
                      go_wp2_with fail
                      refine sched_back (by rw [HF1.out]; exact cgwt4) ?_
                      repeat (first | (refine wpT_free rfl ?_; intro K hK; go_big_quiet_op; go_big_quiet_on) | (refine wpT_wantS _ rfl rfl rfl ?_; intro K hK; go_big_quiet_op; go_big_quiet_on) | (refine wpT_skipS _ rfl rfl rfl rfl ?_; simp only [Act.put, List.setIfInBounds_toArray, List.set_cons_zero, List.set_cons_succ]) | (refine wpT_skipU _ rfl rfl rfl ?_; simp only [Act.put, List.setIfInBounds_toArray, List.set_cons_zero, List.set_cons_succ]))
                      refine wpT_nil ?_
                      refine wpTail_cons ?_
                      go_wp2_with fail
                      refine tail_back ?_
                      refine wpTail_nil ?_
                      go_wp2_with fail
                      go_roundw
                      case rel => exact ⟨m', v + n1, v + n2, by omega, by go_num, by go_num, by go_num, HNX.out, by omega, by omega, HK.out.below' hbwwt4, bthen hb hbwwt4⟩
                      case measure => simp [intOf]
                  · skip
                    have hcv := run_bytes_string (P := Try.prog) wt4 (src := 63) (dst := 9) Try.underlying63 Try.underlying5 Try.underlying9 (c := 1) RBwt4
                    go_wp2_with fail
                    clear hcv
                    refine sched_back (by rw [HF1.out]; exact cgwt4) ?_
                    repeat (first | (refine wpT_free rfl ?_; intro K hK; go_big_quiet_op; go_big_quiet_on) | (refine wpT_wantS _ rfl rfl rfl ?_; intro K hK; go_big_quiet_op; go_big_quiet_on) | (refine wpT_skipS _ rfl rfl rfl rfl ?_; simp only [Act.put, List.setIfInBounds_toArray, List.set_cons_zero, List.set_cons_succ]) | (refine wpT_skipU _ rfl rfl rfl ?_; simp only [Act.put, List.setIfInBounds_toArray, List.set_cons_zero, List.set_cons_succ]))
                    refine wpT_other ?_
                    have hcv := run_bytes_string (P := Try.prog) wt4 (src := 63) (dst := 9) Try.underlying63 Try.underlying5 Try.underlying9 (c := 1) RAwt4
                    go_wp2_with fail
                    clear hcv
                    refine sched_back (by rw [HF1.out]; exact cgwt4) ?_
                    repeat (first | (refine wpT_free rfl ?_; intro K hK; go_big_quiet_op; go_big_quiet_on) | (refine wpT_wantS _ rfl rfl rfl ?_; intro K hK; go_big_quiet_op; go_big_quiet_on) | (refine wpT_skipS _ rfl rfl rfl rfl ?_; simp only [Act.put, List.setIfInBounds_toArray, List.set_cons_zero, List.set_cons_succ]) | (refine wpT_skipU _ rfl rfl rfl ?_; simp only [Act.put, List.setIfInBounds_toArray, List.set_cons_zero, List.set_cons_succ]))
                    refine wpT_other ?_
                    go_wp2_with fail
                    refine (HCA.out _).mono ?_
                    rintro e wq ⟨rfl, hwq⟩
                    rw [hwq]
                    clear hwq wq
                    go_wp2_with fail
                    refine sched_back (by rw [HF1.out]; exact cgwt4) ?_
                    repeat (first | (refine wpT_free rfl ?_; intro K hK; go_big_quiet_op; go_big_quiet_on) | (refine wpT_wantS _ rfl rfl rfl ?_; intro K hK; go_big_quiet_op; go_big_quiet_on) | (refine wpT_skipS _ rfl rfl rfl rfl ?_; simp only [Act.put, List.setIfInBounds_toArray, List.set_cons_zero, List.set_cons_succ]) | (refine wpT_skipU _ rfl rfl rfl ?_; simp only [Act.put, List.setIfInBounds_toArray, List.set_cons_zero, List.set_cons_succ]))
                    refine wpT_other ?_
                    go_wp2_with fail
                    refine (HCB.out _).mono ?_
                    rintro e wq ⟨rfl, hwq⟩
                    rw [hwq]
                    clear hwq wq
                    go_wp2_with fail
                    refine sched_back (by rw [HF1.out]; exact cgwt4) ?_
                    repeat (first | (refine wpT_free rfl ?_; intro K hK; go_big_quiet_op; go_big_quiet_on) | (refine wpT_wantS _ rfl rfl rfl ?_; intro K hK; go_big_quiet_op; go_big_quiet_on) | (refine wpT_skipS _ rfl rfl rfl rfl ?_; simp only [Act.put, List.setIfInBounds_toArray, List.set_cons_zero, List.set_cons_succ]) | (refine wpT_skipU _ rfl rfl rfl ?_; simp only [Act.put, List.setIfInBounds_toArray, List.set_cons_zero, List.set_cons_succ]))
                    refine wpT_nil ?_
                    refine wpTail_cons ?_
                    go_wp2_with fail
                    refine tail_back ?_
                    refine wpTail_nil ?_
                    go_wp2_with fail
                    go_roundw
                    case rel => exact ⟨m', v + n1, v + n2, by omega, by go_num, by go_num, by go_num, HNX.out, by omega, by omega, HK.out.below' hbwwt4, bthen hb hbwwt4⟩
                    case measure => simp [intOf]
              · skip
                go_wp2_with fail
                have hbnwt5 : Below wr.heap.size wr ((wr.alloc (.cells #[.int .u8 (c.toNat : Int)] 5)).drew) := (by repeat (first | exact Below.refl _ _ | assumption | refine Below.alloc ?_ (by first | exact Nat.le_refl _ | assumption | omega | (simp <;> omega)) _ | refine Below.setCell ?_ (by first | exact Nat.le_refl _ | assumption | omega | (simp <;> omega)) _ | refine Below.drew ?_ | refine below_drewN ?_ _))
                have hbwwt5 : Below wr.heap.size wr ((wr.alloc (.cells #[.int .u8 (c.toNat : Int)] 5)).drew) := hbnwt5
                have cgwt5 : ((wr.alloc (.cells #[.int .u8 (c.toNat : Int)] 5)).drew).cell? ⟨g, c.toNat, none⟩ = some (.int .i64 (v : Int)) := (hbwwt5.cell (p := ⟨g, c.toNat, none⟩) hgl).trans c0
                have RBwt5 : Rd ((wr.alloc (.cells #[.int .u8 (c.toNat : Int)] 5)).drew) (wr.heap.size + 1) 1 (some ⟨wr.heap.size, 0, none⟩) 1 (byteCells [c]) := rd_oneD wr c
                have hzwt5 : wr.heap.size + 1 ≤ ((wr.alloc (.cells #[.int .u8 (c.toNat : Int)] 5)).drew).heap.size := by simp
                generalize ((wr.alloc (.cells #[.int .u8 (c.toNat : Int)] 5)).drew) = wt5 at *
                refine sched_back (by rw [HF1.out]; exact cgwt5) ?_
                repeat (first | (refine wpT_free rfl ?_; intro K hK; go_big_quiet_op; go_big_quiet_on) | (refine wpT_wantS _ rfl rfl rfl ?_; intro K hK; go_big_quiet_op; go_big_quiet_on) | (refine wpT_skipS _ rfl rfl rfl rfl ?_; simp only [Act.put, List.setIfInBounds_toArray, List.set_cons_zero, List.set_cons_succ]) | (refine wpT_skipU _ rfl rfl rfl ?_; simp only [Act.put, List.setIfInBounds_toArray, List.set_cons_zero, List.set_cons_succ]))
                refine wpT_fork ?_ ?_
                · skip
                  go_wp2_with fail
                  have hbnwt6 : Below wt5.heap.size wt5 (wt5.alloc (.cells #[.int .u8 (c.toNat : Int)] 5)) := (by repeat (first | exact Below.refl _ _ | assumption | refine Below.alloc ?_ (by first | exact Nat.le_refl _ | assumption | omega | (simp <;> omega)) _ | refine Below.setCell ?_ (by first | exact Nat.le_refl _ | assumption | omega | (simp <;> omega)) _ | refine Below.drew ?_ | refine below_drewN ?_ _))
                  have hbwwt6 : Below wr.heap.size wr (wt5.alloc (.cells #[.int .u8 (c.toNat : Int)] 5)) := bthen hbwwt5 hbnwt6
                  have cgwt6 : (wt5.alloc (.cells #[.int .u8 (c.toNat : Int)] 5)).cell? ⟨g, c.toNat, none⟩ = some (.int .i64 (v : Int)) := (hbwwt6.cell (p := ⟨g, c.toNat, none⟩) hgl).trans c0
                  have RAwt6 : Rd (wt5.alloc (.cells #[.int .u8 (c.toNat : Int)] 5)) (wt5.heap.size + 1) 1 (some ⟨wt5.heap.size, 0, none⟩) 1 (byteCells [c]) := rd_one wt5 c
                  have RBwt6 := (RBwt5).below (hbnwt6.mono hzwt5)
                  have hzwt6 : wt5.heap.size + 1 ≤ (wt5.alloc (.cells #[.int .u8 (c.toNat : Int)] 5)).heap.size := by simp
                  generalize (wt5.alloc (.cells #[.int .u8 (c.toNat : Int)] 5)) = wt6 at *
                  refine sched_back (by rw [HF1.out]; exact cgwt6) ?_
                  repeat (first | (refine wpT_free rfl ?_; intro K hK; go_big_quiet_op; go_big_quiet_on) | (refine wpT_wantS _ rfl rfl rfl ?_; intro K hK; go_big_quiet_op; go_big_quiet_on) | (refine wpT_skipS _ rfl rfl rfl rfl ?_; simp only [Act.put, List.setIfInBounds_toArray, List.set_cons_zero, List.set_cons_succ]) | (refine wpT_skipU _ rfl rfl rfl ?_; simp only [Act.put, List.setIfInBounds_toArray, List.set_cons_zero, List.set_cons_succ]))
                  refine wpT_fork ?_ ?_
                  · skip
                    have hcv := run_bytes_string (P := Try.prog) wt6 (src := 63) (dst := 9) Try.underlying63 Try.underlying5 Try.underlying9 (c := 1) RAwt6
                    go_wp2_with fail
                    clear hcv
                    refine sched_back (by rw [HF1.out]; exact cgwt6) ?_
                    repeat (first | (refine wpT_free rfl ?_; intro K hK; go_big_quiet_op; go_big_quiet_on) | (refine wpT_wantS _ rfl rfl rfl ?_; intro K hK; go_big_quiet_op; go_big_quiet_on) | (refine wpT_skipS _ rfl rfl rfl rfl ?_; simp only [Act.put, List.setIfInBounds_toArray, List.set_cons_zero, List.set_cons_succ]) | (refine wpT_skipU _ rfl rfl rfl ?_; simp only [Act.put, List.setIfInBounds_toArray, List.set_cons_zero, List.set_cons_succ]))
                    refine wpT_fork ?_ ?_
                    · skip
                      go_wp2_with fail
                      refine (HCA.out _).mono ?_
                      rintro e wq ⟨rfl, hwq⟩
                      rw [hwq]
                      clear hwq wq
                      go_wp2_with fail
                      refine sched_back (by rw [HF1.out]; exact cgwt6) ?_
                      repeat (first | (refine wpT_free rfl ?_; intro K hK; go_big_quiet_op; go_big_quiet_on) | (refine wpT_wantS _ rfl rfl rfl ?_; intro K hK; go_big_quiet_op; go_big_quiet_on) | (refine wpT_skipS _ rfl rfl rfl rfl ?_; simp only [Act.put, List.setIfInBounds_toArray, List.set_cons_zero, List.set_cons_succ]) | (refine wpT_skipU _ rfl rfl rfl ?_; simp only [Act.put, List.setIfInBounds_toArray, List.set_cons_zero, List.set_cons_succ]))
                      refine wpT_other ?_
                      have hcv := run_bytes_string (P := Try.prog) wt6 (src := 63) (dst := 9) Try.underlying63 Try.underlying5 Try.underlying9 (c := 1) RBwt6
                      go_wp2_with fail
                      clear hcv
                      refine sched_back (by rw [HF1.out]; exact cgwt6) ?_
                      repeat (first | (refine wpT_free rfl ?_; intro K hK; go_big_quiet_op; go_big_quiet_on) | (refine wpT_wantS _ rfl rfl rfl ?_; intro K hK; go_big_quiet_op; go_big_quiet_on) | (refine wpT_skipS _ rfl rfl rfl rfl ?_; simp only [Act.put, List.setIfInBounds_toArray, List.set_cons_zero, List.set_cons_succ]) | (refine wpT_skipU _ rfl rfl rfl ?_; simp only [Act.put, List.setIfInBounds_toArray, List.set_cons_zero, List.set_cons_succ]))
                      refine wpT_other ?_
                      go_wp2_with fail
                      refine (HCB.out _).mono ?_
                      rintro e wq ⟨rfl, hwq⟩
                      rw [hwq]
                      clear hwq wq
                      go_wp2_with fail
                      refine sched_back (by rw [HF1.out]; exact cgwt6) ?_
                      repeat (first | (refine wpT_free rfl ?_; intro K hK; go_big_quiet_op; go_big_quiet_on) | (refine wpT_wantS _ rfl rfl rfl ?_; intro K hK; go_big_quiet_op; go_big_quiet_on) | (refine wpT_skipS _ rfl rfl rfl rfl ?_; simp only [Act.put, List.setIfInBounds_toArray, List.set_cons_zero, List.set_cons_succ]) | (refine wpT_skipU _ rfl rfl rfl ?_; simp only [Act.put, List.setIfInBounds_toArray, List.set_cons_zero, List.set_cons_succ]))
                      refine wpT_nil ?_
                      refine wpTail_cons ?_
                      go_wp2_with fail
                      refine tail_back ?_
                      refine wpTail_nil ?_
                      go_wp2_with fail
                      go_roundw
                      case rel => exact ⟨m', v + n1, v + n2, by omega, by go_num, by go_num, by go_num, HNX.out, by omega, by omega, HK.out.below' hbwwt6, bthen hb hbwwt6⟩
                      case measure => simp [intOf]
                    · skip
                      have hcv := run_bytes_string (P := Try.prog) wt6 (src := 63) (dst := 9) Try.underlying63 Try.underlying5 Try.underlying9 (c := 1) RBwt6
                      go_wp2_with fail
                      clear hcv
                      refine sched_back (by rw [HF1.out]; exact cgwt6) ?_
                      repeat (first | (refine wpT_free rfl ?_; intro K hK; go_big_quiet_op; go_big_quiet_on) | (refine wpT_wantS _ rfl rfl rfl ?_; intro K hK; go_big_quiet_op; go_big_quiet_on) | (refine wpT_skipS _ rfl rfl rfl rfl ?_; simp only [Act.put, List.setIfInBounds_toArray, List.set_cons_zero, List.set_cons_succ]) | (refine wpT_skipU _ rfl rfl rfl ?_; simp only [Act.put, List.setIfInBounds_toArray, List.set_cons_zero, List.set_cons_succ]))
                      refine wpT_other ?_
                      go_wp2_with fail
                      refine (HCA.out _).mono ?_
                      rintro e wq ⟨rfl, hwq⟩
                      rw [hwq]
                      clear hwq wq
                      go_wp2_with fail
                      refine sched_back (by rw [HF1.out]; exact cgwt6) ?_
                      repeat (first | (refine wpT_free rfl ?_; intro K hK; go_big_quiet_op; go_big_quiet_on) | (refine wpT_wantS _ rfl rfl rfl ?_; intro K hK; go_big_quiet_op; go_big_quiet_on) | (refine wpT_skipS _ rfl rfl rfl rfl ?_; simp only [Act.put, List.setIfInBounds_toArray, List.set_cons_zero, List.set_cons_succ]) | (refine wpT_skipU _ rfl rfl rfl ?_; simp only [Act.put, List.setIfInBounds_toArray, List.set_cons_zero, List.set_cons_succ]))
                      refine wpT_other ?_
                      go_wp2_with fail
                      refine (HCB.out _).mono ?_
                      rintro e wq ⟨rfl, hwq⟩
                      rw [hwq]
                      clear hwq wq
                      go_wp2_with fail
                      refine sched_back (by rw [HF1.out]; exact cgwt6) ?_
                      repeat (first | (refine wpT_free rfl ?_; intro K hK; go_big_quiet_op; go_big_quiet_on) | (refine wpT_wantS _ rfl rfl rfl ?_; intro K hK; go_big_quiet_op; go_big_quiet_on) | (refine wpT_skipS _ rfl rfl rfl rfl ?_; simp only [Act.put, List.setIfInBounds_toArray, List.set_cons_zero, List.set_cons_succ]) | (refine wpT_skipU _ rfl rfl rfl ?_; simp only [Act.put, List.setIfInBounds_toArray, List.set_cons_zero, List.set_cons_succ]))
                      refine wpT_nil ?_
                      refine wpTail_cons ?_
                      go_wp2_with fail
                      refine tail_back ?_
                      refine wpTail_nil ?_
                      go_wp2_with fail
                      go_roundw
                      case rel => exact ⟨m', v + n1, v + n2, by omega, by go_num, by go_num, by go_num, HNX.out, by omega, by omega, HK.out.below' hbwwt6, bthen hb hbwwt6⟩
                      case measure => simp [intOf]
                  · skip
                    have hcv := run_bytes_string (P := Try.prog) wt6 (src := 63) (dst := 9) Try.underlying63 Try.underlying5 Try.underlying9 (c := 1) RBwt6
                    go_wp2_with fail
                    clear hcv
                    refine sched_back (by rw [HF1.out]; exact cgwt6) ?_
                    repeat (first | (refine wpT_free rfl ?_; intro K hK; go_big_quiet_op; go_big_quiet_on) | (refine wpT_wantS _ rfl rfl rfl ?_; intro K hK; go_big_quiet_op; go_big_quiet_on) | (refine wpT_skipS _ rfl rfl rfl rfl ?_; simp only [Act.put, List.setIfInBounds_toArray, List.set_cons_zero, List.set_cons_succ]) | (refine wpT_skipU _ rfl rfl rfl ?_; simp only [Act.put, List.setIfInBounds_toArray, List.set_cons_zero, List.set_cons_succ]))
                    refine wpT_other ?_
                    have hcv := run_bytes_string (P := Try.prog) wt6 (src := 63) (dst := 9) Try.underlying63 Try.underlying5 Try.underlying9 (c := 1) RAwt6
                    go_wp2_with fail
                    clear hcv
                    refine sched_back (by rw [HF1.out]; exact cgwt6) ?_
                    repeat (first | (refine wpT_free rfl ?_; intro K hK; go_big_quiet_op; go_big_quiet_on) | (refine wpT_wantS _ rfl rfl rfl ?_; intro K hK; go_big_quiet_op; go_big_quiet_on) | (refine wpT_skipS _ rfl rfl rfl rfl ?_; simp only [Act.put, List.setIfInBounds_toArray, List.set_cons_zero, List.set_cons_succ]) | (refine wpT_skipU _ rfl rfl rfl ?_; simp only [Act.put, List.setIfInBounds_toArray, List.set_cons_zero, List.set_cons_succ]))
                    refine wpT_other ?_
                    go_wp2_with fail
                    refine (HCA.out _).mono ?_
                    rintro e wq ⟨rfl, hwq⟩
                    rw [hwq]
                    clear hwq wq
                    go_wp2_with fail
                    refine sched_back (by rw [HF1.out]; exact cgwt6) ?_
                    repeat (first | (refine wpT_free rfl ?_; intro K hK; go_big_quiet_op; go_big_quiet_on) | (refine wpT_wantS _ rfl rfl rfl ?_; intro K hK; go_big_quiet_op; go_big_quiet_on) | (refine wpT_skipS _ rfl rfl rfl rfl ?_; simp only [Act.put, List.setIfInBounds_toArray, List.set_cons_zero, List.set_cons_succ]) | (refine wpT_skipU _ rfl rfl rfl ?_; simp only [Act.put, List.setIfInBounds_toArray, List.set_cons_zero, List.set_cons_succ]))
                    refine wpT_other ?_
                    go_wp2_with fail
                    refine (HCB.out _).mono ?_
                    rintro e wq ⟨rfl, hwq⟩
                    rw [hwq]
                    clear hwq wq
                    go_wp2_with fail
                    refine sched_back (by rw [HF1.out]; exact cgwt6) ?_
                    repeat (first | (refine wpT_free rfl ?_; intro K hK; go_big_quiet_op; go_big_quiet_on) | (refine wpT_wantS _ rfl rfl rfl ?_; intro K hK; go_big_quiet_op; go_big_quiet_on) | (refine wpT_skipS _ rfl rfl rfl rfl ?_; simp only [Act.put, List.setIfInBounds_toArray, List.set_cons_zero, List.set_cons_succ]) | (refine wpT_skipU _ rfl rfl rfl ?_; simp only [Act.put, List.setIfInBounds_toArray, List.set_cons_zero, List.set_cons_succ]))
                    refine wpT_nil ?_
                    refine wpTail_cons ?_
                    go_wp2_with fail
                    refine tail_back ?_
                    refine wpTail_nil ?_
                    go_wp2_with fail
                    go_roundw
                    case rel => exact ⟨m', v + n1, v + n2, by omega, by go_num, by go_num, by go_num, HNX.out, by omega, by omega, HK.out.below' hbwwt6, bthen hb hbwwt6⟩
                    case measure => simp [intOf]
                · skip
                  have hcv := run_bytes_string (P := Try.prog) wt5 (src := 63) (dst := 9) Try.underlying63 Try.underlying5 Try.underlying9 (c := 1) RBwt5
                  go_wp2_with fail
                  clear hcv
                  refine sched_back (by rw [HF1.out]; exact cgwt5) ?_
                  repeat (first | (refine wpT_free rfl ?_; intro K hK; go_big_quiet_op; go_big_quiet_on) | (refine wpT_wantS _ rfl rfl rfl ?_; intro K hK; go_big_quiet_op; go_big_quiet_on) | (refine wpT_skipS _ rfl rfl rfl rfl ?_; simp only [Act.put, List.setIfInBounds_toArray, List.set_cons_zero, List.set_cons_succ]) | (refine wpT_skipU _ rfl rfl rfl ?_; simp only [Act.put, List.setIfInBounds_toArray, List.set_cons_zero, List.set_cons_succ]))
                  refine wpT_other ?_
                  go_wp2_with fail
                  have hbnwt7 : Below wt5.heap.size wt5 (wt5.alloc (.cells #[.int .u8 (c.toNat : Int)] 5)) := (by repeat (first | exact Below.refl _ _ | assumption | refine Below.alloc ?_ (by first | exact Nat.le_refl _ | assumption | omega | (simp <;> omega)) _ | refine Below.setCell ?_ (by first | exact Nat.le_refl _ | assumption | omega | (simp <;> omega)) _ | refine Below.drew ?_ | refine below_drewN ?_ _))
                  have hbwwt7 : Below wr.heap.size wr (wt5.alloc (.cells #[.int .u8 (c.toNat : Int)] 5)) := bthen hbwwt5 hbnwt7
                  have cgwt7 : (wt5.alloc (.cells #[.int .u8 (c.toNat : Int)] 5)).cell? ⟨g, c.toNat, none⟩ = some (.int .i64 (v : Int)) := (hbwwt7.cell (p := ⟨g, c.toNat, none⟩) hgl).trans c0
                  have RAwt7 : Rd (wt5.alloc (.cells #[.int .u8 (c.toNat : Int)] 5)) (wt5.heap.size + 1) 1 (some ⟨wt5.heap.size, 0, none⟩) 1 (byteCells [c]) := rd_one wt5 c
                  have RBwt7 := (RBwt5).below (hbnwt7.mono hzwt5)
                  have hzwt7 : wt5.heap.size + 1 ≤ (wt5.alloc (.cells #[.int .u8 (c.toNat : Int)] 5)).heap.size := by simp
                  generalize (wt5.alloc (.cells #[.int .u8 (c.toNat : Int)] 5)) = wt7 at *
                  refine sched_back (by rw [HF1.out]; exact cgwt7) ?_
                  repeat (first | (refine wpT_free rfl ?_; intro K hK; go_big_quiet_op; go_big_quiet_on) | (refine wpT_wantS _ rfl rfl rfl ?_; intro K hK; go_big_quiet_op; go_big_quiet_on) | (refine wpT_skipS _ rfl rfl rfl rfl ?_; simp only [Act.put, List.setIfInBounds_toArray, List.set_cons_zero, List.set_cons_succ]) | (refine wpT_skipU _ rfl rfl rfl ?_; simp only [Act.put, List.setIfInBounds_toArray, List.set_cons_zero, List.set_cons_succ]))
                  refine wpT_other ?_
                  have hcv := run_bytes_string (P := Try.prog) wt7 (src := 63) (dst := 9) Try.underlying63 Try.underlying5 Try.underlying9 (c := 1) RAwt7
                  go_wp2_with fail
                  clear hcv
                  refine sched_back (by rw [HF1.out]; exact cgwt7) ?_
                  repeat (first | (refine wpT_free rfl ?_; intro K hK; go_big_quiet_op; go_big_quiet_on) | (refine wpT_wantS _ rfl rfl rfl ?_; intro K hK; go_big_quiet_op; go_big_quiet_on) | (refine wpT_skipS _ rfl rfl rfl rfl ?_; simp only [Act.put, List.setIfInBounds_toArray, List.set_cons_zero, List.set_cons_succ]) | (refine wpT_skipU _ rfl rfl rfl ?_; simp only [Act.put, List.setIfInBounds_toArray, List.set_cons_zero, List.set_cons_succ]))
                  refine wpT_other ?_
                  go_wp2_with fail
                  refine (HCA.out _).mono ?_
                  rintro e wq ⟨rfl, hwq⟩
                  rw [hwq]
                  clear hwq wq
                  go_wp2_with fail
                  refine sched_back (by rw [HF1.out]; exact cgwt7) ?_
                  repeat (first | (refine wpT_free rfl ?_; intro K hK; go_big_quiet_op; go_big_quiet_on) | (refine wpT_wantS _ rfl rfl rfl ?_; intro K hK; go_big_quiet_op; go_big_quiet_on) | (refine wpT_skipS _ rfl rfl rfl rfl ?_; simp only [Act.put, List.setIfInBounds_toArray, List.set_cons_zero, List.set_cons_succ]) | (refine wpT_skipU _ rfl rfl rfl ?_; simp only [Act.put, List.setIfInBounds_toArray, List.set_cons_zero, List.set_cons_succ]))
                  refine wpT_other ?_
                  go_wp2_with fail
                  refine (HCB.out _).mono ?_
                  rintro e wq ⟨rfl, hwq⟩
                  rw [hwq]
                  clear hwq wq
                  go_wp2_with fail
                  refine sched_back (by rw [HF1.out]; exact cgwt7) ?_
                  repeat (first | (refine wpT_free rfl ?_; intro K hK; go_big_quiet_op; go_big_quiet_on) | (refine wpT_wantS _ rfl rfl rfl ?_; intro K hK; go_big_quiet_op; go_big_quiet_on) | (refine wpT_skipS _ rfl rfl rfl rfl ?_; simp only [Act.put, List.setIfInBounds_toArray, List.set_cons_zero, List.set_cons_succ]) | (refine wpT_skipU _ rfl rfl rfl ?_; simp only [Act.put, List.setIfInBounds_toArray, List.set_cons_zero, List.set_cons_succ]))
                  refine wpT_nil ?_
                  refine wpTail_cons ?_
                  go_wp2_with fail
                  refine tail_back ?_
                  refine wpTail_nil ?_
                  go_wp2_with fail
                  go_roundw
                  case rel => exact ⟨m', v + n1, v + n2, by omega, by go_num, by go_num, by go_num, HNX.out, by omega, by omega, HK.out.below' hbwwt7, bthen hb hbwwt7⟩
                  case measure => simp [intOf]
end Go.Proofs.Ytllcmmpepchieaa
