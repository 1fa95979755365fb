/- The document's ages, walked. -/
import Derived.Test.YtolnhplgaolieaaFrontW
import Derived.Test.YtolnhplgaolieaaShelf
import Derived.Laws.Rows
namespace Go.Proofs.Ytolnhplgaolieaa
open Go.RowKit
/-- Where a byte came last. -/
structure Last (u : List UInt8) (c : UInt8) (last : Int) : Prop where
  is_ : (last = -1 ∧ c ∉ u) ∨ ∃ p q, u = p ++ c :: q ∧ c ∉ q ∧ last = (p.length : Int)
def agoP (u : List UInt8) (c : UInt8) (last : Int) (b : UInt8) : Bool := decide (b ∈ u.drop (last + 1).toNat ∧ (0 ≤ last ∨ c.toNat < b.toNat))
theorem Last.ago {u : List UInt8} {c : UInt8} {last : Int} (h : Last u c last) : (ago u c : Int) = (allB.countP (agoP u c last) : Nat) + (if last < 0 then (c.toNat : Int) else 0) := by
  rcases h.is_ with ⟨rfl, hc⟩ | ⟨p, q, rfl, hq, rfl⟩
  · rw [ago_never u c hc, if_pos (by decide)]
    have e : agoP u c (-1) = fun b => decide (b ∈ u ∧ c.toNat < b.toNat) := by
      funext b
      unfold agoP
      rw [show ((-1 : Int) + 1).toNat = 0 from rfl, List.drop_zero]
      congr 1
      simp
    rw [e]; push_cast; rfl
  · rw [ago_came p q c hq, if_neg (by omega)]
    have e : agoP (p ++ c :: q) c (p.length : Int) = fun b => decide (b ∈ q) := by
      funext b
      unfold agoP
      have e1 : ((p.length : Int) + 1).toNat = p.length + 1 := by omega
      have e2 : (p ++ c :: q).drop (p.length + 1) = q := by
        rw [← List.drop_drop, List.drop_left]; rfl
      rw [e1, e2]
      congr 1
      simp
    rw [e]; simp
theorem Last.bounds {u : List UInt8} {c : UInt8} {last : Int} (h : Last u c last) : -1 ≤ last ∧ last < u.length := by
  rcases h.is_ with ⟨rfl, _⟩ | ⟨p, q, rfl, _, rfl⟩
  · omega
  · simp; omega
theorem lastIdx_is (s : ByteArray) (c : UInt8) : Last (L s) c (Lib.lastIndexByte s (c.toNat : Int)) := by
  have hb : ∀ j, j < s.size → s.data[j]! = (L s).getD j 0 := fun j hj => by
    have : j < s.data.size := hj
    rw [List.getD_eq_getElem?_getD, List.getElem?_eq_getElem (by rw [L_len]; exact hj)]
    rw [getElem!_pos s.data j this]; rfl
  rcases Lib.lastIdx_spec s (c.toNat : Int) s.size with ⟨h1, h2⟩ | ⟨i, hi, h1, h2, h3⟩
  · refine ⟨.inl ⟨h1, fun hc => ?_⟩⟩
    obtain ⟨j, hj, e⟩ := List.getElem_of_mem hc
    have hj2 : j < s.size := by rw [← L_len]; exact hj
    refine h2 j hj2 ?_
    rw [hb j hj2, List.getD_eq_getElem?_getD, List.getElem?_eq_getElem hj, Option.getD_some, e]
  · have hil : i < (L s).length := by rw [L_len]; exact hi
    refine ⟨.inr ⟨(L s).take i, (L s).drop (i + 1), ?_, fun hc => ?_, ?_⟩⟩
    · rw [hb i hi] at h2
      have e : (L s)[i] = c := by
        rw [List.getD_eq_getElem?_getD, List.getElem?_eq_getElem hil, Option.getD_some] at h2
        exact UInt8.toNat_inj.1 (by omega)
      rw [← e, ← List.drop_eq_getElem_cons hil, List.take_append_drop]
    · obtain ⟨j, hj, e⟩ := List.getElem_of_mem hc
      rw [List.length_drop] at hj
      rw [List.getElem_drop] at e
      refine h3 (i + 1 + j) (by omega) (by rw [L_len] at hj; omega) ?_
      rw [hb _ (by rw [L_len] at hj; omega), List.getD_eq_getElem?_getD, List.getElem?_eq_getElem (by omega), Option.getD_some, e]
    · rw [List.length_take]
      show Lib.lastIdx _ _ _ = _
      rw [h1]; omega
theorem allB_range (f : UInt8 → Bool) : allB.countP f = (List.range 256).countP fun k => f (UInt8.ofNat k) := by
  unfold allB; rw [List.countP_map]; rfl
/-- The first, the byte at a place: cut out of a string. -/
theorem L_cut (s : ByteArray) (k : Nat) : L (s.extract 0 k) = (L s).take k := by rw [L_extract, List.drop_zero, Nat.sub_zero]
theorem cut_one (s : ByteArray) {k : Nat} (h : k < s.size) (h2 : 0 < (s.extract k (k + 1)).size) : (s.extract k (k + 1))[0] = s[k] := by
  rw [getB _ _ h2, getB _ _ h, L_extract]
  rw [List.getD_eq_getElem?_getD, List.getElem?_take_of_lt (by omega), List.getElem?_drop, ← List.getD_eq_getElem?_getD]; rfl
/-- The kit's contract, as the walk wants it. -/
theorem lastIndex_any (s : ByteArray) (k : Nat) (h : k < s.size) (hs : s.size ≤ 200) : ∃ last, Last ((L s).take k) s[k] last ∧ ∀ W, Calls Try.prog 114 #[.string (s.extract 0 k), .string (s.extract k (k + 1))] W fun e w' => e = .returned (.int .i64 last) ∧ Below W.heap.size W w' := by
  have h1 : (s.extract k (k + 1)).size = 1 := by rw [ByteArray.size_extract]; omega
  refine ⟨Lib.lastIndexByte (s.extract 0 k) (s[k].toNat : Int), ?_, fun W => ?_⟩
  · have := lastIdx_is (s.extract 0 k) s[k]
    rw [L_cut s k] at this; exact this
  · refine (Try.strings_LastIndex_one (s.extract 0 k) (s.extract k (k + 1)) h1 (by rw [ByteArray.size_extract]; omega) W).mono ?_
    rintro e w' ⟨rfl, rfl⟩
    exact ⟨by rw [cut_one s h (by omega)], Below.refl _ _⟩
/-- An array of marks. -/
def boolCells (f : Nat → Bool) : List Value := (List.range 256).map fun i => .bool (f i)
theorem boolCells_len (f : Nat → Bool) : (boolCells f).length = 256 := by simp [boolCells]
theorem boolCells_get (f : Nat → Bool) {k : Nat} (h : k < 256) : (boolCells f)[k]? = some (.bool (f k)) := by
  rw [boolCells, List.getElem?_map, List.getElem?_range h]; rfl
theorem boolCells_set (f g : Nat → Bool) (k : Nat) (v : Bool) (h : ∀ b, b < 256 → g b = if b = k then v else f b) : (boolCells f).set k (.bool v) = boolCells g := by
  apply List.ext_getElem?
  intro j
  by_cases hj : j < 256
  · rw [boolCells_get g hj, List.getElem?_set]
    by_cases e : k = j
    · subst e; simp [boolCells_len, hj, h k hj]
    · rw [if_neg e, boolCells_get f hj, h j hj, if_neg (fun h => e h.symm)]
  · rw [List.getElem?_eq_none (by rw [List.length_set, boolCells_len]; omega), List.getElem?_eq_none (by rw [boolCells_len]; omega)]
theorem boolCells_zero : Array.replicate 256 (.bool false) = (boolCells fun _ => false).toArray := by
  have h : boolCells (fun _ => false) = List.replicate 256 (.bool false) := by unfold boolCells; rw [List.map_const', List.length_range]
  rw [h, List.toArray_replicate]
def AB (w : World) (g : Nat) (f : Nat → Bool) : Prop := Blk w g 151 (boolCells f).toArray
theorem AB.at_ {w : World} {g k : Nat} {f : Nat → Bool} (h : AB w g f) (hk : k < 256) : w.cell? ⟨g, k, none⟩ = some (.bool (f k)) := by
  rw [Blk.cell h k, List.getElem?_toArray, boolCells_get f hk]
theorem AB.set_ {w : World} {g k : Nat} {f f2 : Nat → Bool} (h : AB w g f) (v : Bool) (e : ∀ b, b < 256 → f2 b = if b = k then v else f b) : AB (w.setCell ⟨g, k, none⟩ (.bool v)) g f2 := by
  have := Blk.set_ h k (.bool v)
  rw [List.setIfInBounds_toArray, boolCells_set f f2 k v e] at this
  exact this
theorem info_marks : (Try.prog.info? 151).map (fun i => (i.zero, i.size, i.bytes)) = some (some (.agg (Array.replicate 256 (.bool false))), 256, 256) := by kernel_rfl
/-- The marks of the bytes from place a to place m. -/
def inF (u : List UInt8) (a m b : Nat) : Bool := decide (UInt8.ofNat b ∈ (u.take m).drop a)
theorem inF_start (u : List UInt8) (a : Nat) : inF u a a = fun _ => false := by
  funext b; unfold inF
  rw [List.drop_eq_nil_of_le (by rw [List.length_take]; omega)]; simp
theorem inF_succ (u : List UInt8) {a m : Nat} (h1 : a ≤ m) (h2 : m < u.length) {b : Nat} (hb : b < 256) : inF u a (m + 1) b = if b = (u.getD m 0).toNat then true else inF u a m b := by
  unfold inF
  have e : (u.take (m + 1)).drop a = (u.take m).drop a ++ [u.getD m 0] := by
    rw [List.take_succ_eq_append_getElem h2, List.drop_append_of_le_length (by rw [List.length_take]; omega), List.getD_eq_getElem?_getD, List.getElem?_eq_getElem h2]; rfl
  rw [e]
  have e2 : UInt8.ofNat b = u.getD m 0 ↔ b = (u.getD m 0).toNat := by
    constructor
    · intro h; rw [← h, UInt8.toNat_ofNat', Nat.mod_eq_of_lt (by omega)]
    · intro h; rw [h]; simp
  by_cases hbm : b = (u.getD m 0).toNat
  · rw [if_pos hbm]; simp [e2.2 hbm]
  · rw [if_neg hbm]
    have h3 : ¬ UInt8.ofNat b = u.getD m 0 := fun h => hbm (e2.1 h)
    congr 1
    rw [List.mem_append, List.mem_singleton]
    exact propext ⟨fun h => h.resolve_right h3, .inl⟩
def mkM (f : Nat → Bool) (c : UInt8) (last : Int) (j : Nat) : Bool := f j && decide (0 ≤ last ∨ c.toNat < j)
/-- How many of the first b marks count. -/
def cntM (f : Nat → Bool) (c : UInt8) (last : Int) (b : Nat) : Nat := (List.range b).countP (mkM f c last)
theorem cntM_succ (f : Nat → Bool) (c : UInt8) (last : Int) (b : Nat) : cntM f c last (b + 1) = cntM f c last b + if mkM f c last b = true then 1 else 0 := by
  unfold cntM; rw [List.range_succ, List.countP_append]
  simp [List.countP_cons]
theorem cntM_le (f : Nat → Bool) (c : UInt8) (last : Int) (b : Nat) : cntM f c last b ≤ b := by
  have := List.countP_le_length (p := mkM f c last) (l := List.range b)
  rw [List.length_range] at this; exact this
theorem cntM_all {u : List UInt8} {a m : Nat} {c : UInt8} {last : Int} (ha : (last + 1).toNat = a) : allB.countP (agoP (u.take m) c last) = cntM (inF u a m) c last 256 := by
  rw [allB_range]
  unfold cntM
  refine List.countP_congr fun k hk => ?_
  rw [List.mem_range] at hk
  unfold agoP mkM inF
  rw [ha, UInt8.toNat_ofNat', Nat.mod_eq_of_lt (by omega)]
  simp [Bool.decide_and]
theorem run_index_marks (f : Nat → Bool) (k : Nat) (hk : k < 256) (w : World) : (Instr.index 151 (.agg (boolCells f).toArray) (.int .i64 (k : Int))).run Try.prog w = .ok (.bool (f k)) w := by
  have h3 := boolCells_get f hk
  simp [Instr.index, part, go_sem]
  rw [if_pos hk, h3]
  rfl
theorem wpList_alloc_zero {P : Program} {ops : Array Oper} {rest : List Oper} {o : Oper} {a : Act} {w : World} {Q : Exit → Act → World → Prop} (hg : o.guard = none) (t : TypeId) (ho : o.op = .alloc t)
    (i : TypeInfo) (hi : P.info? t = some i) (z : Value) (hz : i.zero = some z)
    (h : wpList P ops Q rest (a.put o.dst (.pointer (some ⟨w.heap.size, 0, none⟩))) (w.alloc (.cells z.cells t))) : wpList P ops Q (o :: rest) a w := by
  refine wpList_plain hg fun K hK' => ?_
  unfold Oper.wp
  have h2 : (typeInfo t).run P w = .ok i w := by simp [typeInfo, hi, go_sem]
  simp [execOp, ho, Instr.alloc, zeroValue, h2, hz, Result.andThen, go_sem]
  exact hK' _ _ h
set_option maxRecDepth 100000 in
set_option maxHeartbeats 4000000 in
theorem agoOf_any (s : ByteArray) (hs : s.size ≤ 200) (w : World) :
    Calls Try.prog 53 #[.string s] w fun e w' => ∃ v, e = .returned v ∧ w'.ownsRow w.heap.size 3 1 v s.size (ints (agesI (L s) s.size)) ∧ Below w.heap.size w w' := by
  obtain ⟨i0, hi0, hz0, hz1, hz2⟩ := info_parts info_int
  obtain ⟨j0, hj0, hjz, hjs, _⟩ := info_parts info_marks
  go_enter Try.func53, Try.ntmps53
  go_wp2_with fail
  go_loopw [3, 14] (fun o i wr => ∃ k : Nat, k ≤ s.size ∧ i = .int .i64 k ∧ wr.ownsRow w.heap.size 3 1 o k (ints (agesI (L s) k)) ∧ Below w.heap.size w wr) (fun _ i _ => s.size - (intOf i).toNat)
  case atStart => exact ⟨0, Nat.zero_le _, rfl, ⟨rfl, .inl ⟨rfl, rfl⟩⟩, Below.refl _ _⟩
  case round =>
    obtain ⟨k, hk, rfl, ho, hb⟩ := hrel
    by_cases hlt : k < s.size
    · have g1 : decide ((k : Int) < (s.size : Int)) = true := decide_eq_true (by omega)
      obtain ⟨last, hla, hli⟩ := lastIndex_any s k hlt hs
      have HLA := Lib.hid hla
      have HLI := Lib.hid hli
      have hlb := hla.bounds
      rw [List.length_take, L_len] at hlb
      have HO := Lib.hid ho
      clear hla hli ho
      go_wp2_with fail
      refine wp_region_quiet_below (by kernel_rfl) (by kernel_rfl) ?_
      repeat (go_big_quiet_step ((go_at_call 114; exact Calls.regrown_of (HLI.out _))))
      refine wpQuiet_nil ?_
      intro w5 hb50
      have hb5 := below_of_regrown hb50
      clear hb50
      have hb5' := bthen hb hb5
      have HO5 := Lib.hid (own_below HO.out hb5)
      clear HO hb hb5 HLI
      go_wp2_with (refine wpList_alloc_zero rfl 151 rfl j0 hj0 _ hjz ?_)
      obtain ⟨a, ha⟩ : ∃ a : Nat, last + 1 = (a : Int) := ⟨(last + 1).toNat, by omega⟩
      have hak : a ≤ k := by omega
      have HAB : Hid (AB (w5.alloc (.cells (Array.replicate 256 (.bool false)) 151)) w5.heap.size (inF (L s) a a)) := by
        unfold Hid AB; rw [inF_start, ← boolCells_zero]; exact Blk.new_ _ _ _
      have hb6 : Below w5.heap.size w5 (w5.alloc (.cells (Array.replicate 256 (.bool false)) 151)) := (Below.refl _ _).alloc (Nat.le_refl _) _
      have HAA := Lib.hid ha
      clear ha
      generalize (w5.alloc (.cells (Array.replicate 256 (.bool false)) 151)) = w6 at *
      go_loopw [8] (fun j wr' => ∃ m : Nat, a ≤ m ∧ m ≤ k ∧ j = .int .i64 (m : Int) ∧ AB wr' w5.heap.size (inF (L s) a m) ∧ Below w5.heap.size w5 wr') (fun j _ => k - (intOf j).toNat)
      case atStart => exact ⟨a, Nat.le_refl _, hak, by rw [HAA.out], HAB.out, hb6⟩
      case round =>
        clear HAB hb6
        obtain ⟨m, ham, hmk, rfl, hA, hb6⟩ := hrel
        by_cases hm : m < k
        · have g2 : decide ((m : Int) < (k : Int)) = true := decide_eq_true (by omega)
          have hms : m < s.size := by omega
          have hx : s[m].toNat < 256 := s[m].toNat_lt
          have c0 := hA.at_ hx
          have f0 := Blk.frozen hA s[m].toNat
          have HA2 : Hid (AB (wr.setCell ⟨w5.heap.size, s[m].toNat, none⟩ (.bool true)) w5.heap.size (inF (L s) a (m + 1))) := hA.set_ true (fun b hb => by rw [inF_succ (L s) ham (by rw [L_len]; exact hms) hb, getB s m hms])
          clear hA
          generalize inF (L s) a m s[m].toNat = bb at *
          go_wp2_with fail
          go_roundw
          case rel => exact ⟨m + 1, by omega, by omega, by go_num, HA2.out, Below.setCell hb6 (Nat.le_refl _) _⟩
          case measure => simp [intOf]; omega
        · obtain rfl : m = k := by omega
          have g2 : decide ((m : Int) < (m : Int)) = false := by simp
          have HA := Lib.hid hA
          have hsz : (Try.prog.info? 151).map (·.size) = some (boolCells (inF (L s) a m)).toArray.size := by
            rw [hj0]; simp [boolCells_len, hjs]
          clear hA
          go_wp2_with (refine wpList_load_row rfl 151 _ rfl w5.heap.size rfl 151 (boolCells (inF (L s) a m)).toArray (0, 0) _ HA.out Try.underlying151 rfl hsz ?_)
          have HCT : Hid (∀ b, b < 256 → cntM (inF (L s) a m) s[m] last (b + 1) = cntM (inF (L s) a m) s[m] last b + if mkM (inF (L s) a m) s[m] last b = true then 1 else 0) := fun b _ => cntM_succ _ _ _ b
          have HCL : Hid (∀ b, cntM (inF (L s) a m) s[m] last b ≤ b) := cntM_le _ _ _
          have HCE : Hid ((ago ((L s).take m) s[m] : Int) = (cntM (inF (L s) a m) s[m] last 256 : Nat) + (if last < 0 then (s[m].toNat : Int) else 0)) := by
            unfold Hid
            rw [HLA.out.ago, cntM_all (u := L s) (a := a) (m := m) (by have := HAA.out; omega)]
          have HIX : Hid (∀ b : Nat, b < 256 → (Instr.index 151 (.agg (boolCells (inF (L s) a m)).toArray) (.int .i64 (b : Int))).run Try.prog wr = .ok (.bool (inF (L s) a m b)) wr) := fun b hb => run_index_marks _ b hb wr
          have HSN := Lib.hid (agesI_snoc (L s) m)
          rw [← getB s m hlt] at HSN
          have hc256 : s[m].toNat < 256 := s[m].toNat_lt
          have hal := ago_lt ((L s).take m) s[m]
          have hb6' := bthen hb5' hb6
          have HO6 := Lib.hid (own_below HO5.out hb6)
          have hgs : w.heap.size ≤ wr.heap.size := hb6'.size
          clear HA hsz HLA HAA hb5' hb6 HO5 hlb ham
          generalize (boolCells (inF (L s) a m)).toArray = arr at *
          generalize ago ((L s).take m) s[m] = ag at *
          generalize inF (L s) a m = f at *
          generalize s[m] = c at *
          go_loopw [9, 41] (fun n b w' => ∃ j : Nat, j ≤ 256 ∧ b = .int .i64 (j : Int) ∧ n = .int .i64 (cntM f c last j : Nat) ∧ w' = wr) (fun _ b _ => 256 - (intOf b).toNat)
          case atStart => exact ⟨0, by omega, rfl, rfl, rfl⟩
          case round =>
            obtain ⟨j, hj, rfl, rfl, rfl⟩ := hrel
            by_cases hjl : j < 256
            · have g3 : decide ((j : Int) < 256) = true := decide_eq_true (by omega)
              have hix := HIX.out j hjl
              have HS := Lib.hid (HCT.out j hjl)
              have hle := HCL.out j
              have hmk : mkM f c last j = (f j && decide (0 ≤ last ∨ c.toNat < j)) := rfl
              have HMK := Lib.hid hmk
              clear hmk
              generalize cntM f c last j = x at *
              cases hfj : f j with
              | false =>
                rw [hfj] at hix
                have HS2 : Hid (cntM f c last (j + 1) = x) := by unfold Hid; rw [HS.out, HMK.out, hfj]; rfl
                clear hfj HS HMK
                go_wp2_with fail
                go_roundw
                case rel => exact ⟨j + 1, by omega, by go_num, by rw [HS2.out], by first | rfl | trivial⟩
                case measure => simp [intOf]; omega
              | true =>
                rw [hfj] at hix
                by_cases hl0 : 0 ≤ last
                · have g4 : decide (0 ≤ last) = true := decide_eq_true hl0
                  have HS2 : Hid (cntM f c last (j + 1) = x + 1) := by unfold Hid; rw [HS.out, HMK.out, hfj, decide_eq_true (.inl hl0)]; rfl
                  clear hfj HS HMK hl0
                  go_wp2_with fail
                  go_roundw
                  case rel => exact ⟨j + 1, by omega, by go_num, by rw [HS2.out]; go_num, by first | rfl | trivial⟩
                  case measure => simp [intOf]; omega
                · have g4 : decide (0 ≤ last) = false := decide_eq_false hl0
                  by_cases hcj : c.toNat < j
                  · have g5 : decide ((c.toNat : Int) < (j : Int)) = true := decide_eq_true (by omega)
                    have g5' : decide (c.toNat < j) = true := decide_eq_true hcj
                    have HS2 : Hid (cntM f c last (j + 1) = x + 1) := by unfold Hid; rw [HS.out, HMK.out, hfj, decide_eq_true (.inr hcj)]; rfl
                    clear hfj HS HMK hl0 hcj
                    go_wp2_with fail
                    go_roundw
                    case rel => exact ⟨j + 1, by omega, by go_num, by rw [HS2.out]; go_num, by first | rfl | trivial⟩
                    case measure => simp [intOf]; omega
                  · have g5 : decide ((c.toNat : Int) < (j : Int)) = false := decide_eq_false (by omega)
                    have g5' : decide (c.toNat < j) = false := decide_eq_false hcj
                    have HS2 : Hid (cntM f c last (j + 1) = x) := by unfold Hid; rw [HS.out, HMK.out, hfj, decide_eq_false (by rintro (h | h) <;> omega)]; rfl
                    clear hfj HS HMK hl0 hcj
                    go_wp2_with fail
                    go_roundw
                    case rel => exact ⟨j + 1, by omega, by go_num, by rw [HS2.out], by first | rfl | trivial⟩
                    case measure => simp [intOf]; omega
            · obtain rfl : j = 256 := by omega
              have g3 : decide ((256 : Int) < 256) = false := by decide
              have hle := HCL.out 256
              have HIN : Hid (ints (agesI (L s) m) ++ [.int .i64 (ag : Int)] = ints (agesI (L s) (m + 1))) := by unfold Hid; rw [HSN.out, ints_app]; rfl
              clear HCT HCL HIX HSN
              by_cases hl0 : last < 0
              · have g4 : decide (last < 0) = true := decide_eq_true hl0
                have HCE2 : Hid ((cntM f c last 256 : Int) + (c.toNat : Int) = (ag : Int)) := by unfold Hid; rw [HCE.out, if_pos hl0]
                clear HCE hl0
                generalize cntM f c last 256 = x at *
                obtain rfl : ag = x + c.toNat := by have := HCE2.out; omega
                go_wp2_with (at_builtin; go_must (refine wpList_appG rfl _ _ _ rfl w.heap.size 3 i0 _ 1 8 Try.underlying25 hi0 hz0 hz1 hz2 rfl (by omega) _ m (ints (agesI (L s) m)) rfl (World.ownsRow.alloc (w := wr) HO6.out _) ⟨wr.heap.size, 0, none⟩ 1 1 [_] rfl rfl (cell_one_new _ _ _) (by simp [Value.oneCell']) (by omega) (by omega) (by simp; omega) ?_); intro v6 w6 hown6 hg6 hb6)
                have hown7 : w6.ownsRow w.heap.size 3 1 v6 (m + 1) (ints (agesI (L s) (m + 1))) := by rw [← HIN.out]; exact hown6
                have hb7 : Below w.heap.size w w6 := (hb6'.alloc hgs _).trans hb6
                clear hown6 hg6 hb6
                have HO7 := Lib.hid hown7
                clear hown7
                go_roundw
                case rel => exact ⟨m + 1, by omega, by go_num, HO7.out, hb7⟩
                case measure => simp [intOf]; omega
              · have g4 : decide (last < 0) = false := decide_eq_false hl0
                have HCE2 : Hid ((cntM f c last 256 : Int) = (ag : Int)) := by unfold Hid; rw [HCE.out, if_neg hl0]; simp
                clear HCE hl0
                generalize cntM f c last 256 = x at *
                obtain rfl : ag = x := by have := HCE2.out; omega
                go_wp2_with (at_builtin; go_must (refine wpList_appG rfl _ _ _ rfl w.heap.size 3 i0 _ 1 8 Try.underlying25 hi0 hz0 hz1 hz2 rfl (by omega) _ m (ints (agesI (L s) m)) rfl (World.ownsRow.alloc (w := wr) HO6.out _) ⟨wr.heap.size, 0, none⟩ 1 1 [_] rfl rfl (cell_one_new _ _ _) (by simp [Value.oneCell']) (by omega) (by omega) (by simp; omega) ?_); intro v6 w6 hown6 hg6 hb6)
                have hown7 : w6.ownsRow w.heap.size 3 1 v6 (m + 1) (ints (agesI (L s) (m + 1))) := by rw [← HIN.out]; exact hown6
                have hb7 : Below w.heap.size w w6 := (hb6'.alloc hgs _).trans hb6
                clear hown6 hg6 hb6
                have HO7 := Lib.hid hown7
                clear hown7
                go_roundw
                case rel => exact ⟨m + 1, by omega, by go_num, HO7.out, hb7⟩
                case measure => simp [intOf]; omega
    · obtain rfl : k = s.size := by omega
      have g1 : decide ((s.size : Int) < (s.size : Int)) = false := by simp
      have HO := Lib.hid ho
      clear ho
      go_wp2_with fail
      go_ret
      exact ⟨_, rfl, HO.out, hb⟩
end Go.Proofs.Ytolnhplgaolieaa
