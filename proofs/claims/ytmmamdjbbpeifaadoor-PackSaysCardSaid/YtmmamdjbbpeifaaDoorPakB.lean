/- pack.Get. -/
import Derived.Test.YtmmamdjbbpeifaaDoorPakA
import Derived.Test.YtmmamdjbbpeifaaDoorCdpC
import Derived.Test.YtmmamdjbbpeifaaDoorSched
import Derived.Test.YtmmamdjbbpeifaaDoorTab
namespace Go.Proofs.YtmmamdjbbpeifaaDoor
open Go.RowKit
/-- No word of l begins s, and s is not empty. -/
def Stuck (l : List (List UInt8)) (s : List UInt8) : Prop := s ≠ [] ∧ ∀ k, k < l.length → pfx (l.getD k []) s = false
theorem ints_snoc (l : List Int) (x : Int) : ints (l ++ [x]) = ints l ++ [.int .i64 x] := by simp [ints]
def strLen (v : Value) : Nat := match v with
  | .string s => s.size
  | _ => 0
theorem pfx_drop {p s : List UInt8} (h : pfx p s = true) : s = p ++ s.drop p.length := by
  conv => lhs; rw [← List.take_append_drop p.length s]
  rw [pfx_iff.1 h]
set_option maxRecDepth 100000 in
set_option maxHeartbeats 4000000 in
theorem packGet_bad (A : Option Addr) (n c B : Nat) (l : List (List UInt8)) (s : ByteArray) (w : World) (hr : Rd w B 1 A n (strCells l)) (hn : n ≤ c) (hB : B ≤ w.heap.size) (hx : ∀ x ∈ l, x.length ≤ maxLen) (hE : codeErr l ≠ 0) :
    Calls Tryd.prog 20 #[.slice A n c, .string s] w fun e w' => e = .returned (.tuple #[.slice none 0 0, .int .i64 (codeErr l)]) ∧ Below w.heap.size w w' := by
  have HC := codeFront_any A n c B l w hr hn hB hx
  rw [if_neg hE] at HC
  have HC := Lib.hid HC
  generalize codeErr l = E at *
  have g1 : (E == 0) = false := by rw [beq_eq_false_iff_ne]; exact hE
  have g2 : (E != 0) = true := by rw [bne, g1]; rfl
  clear hE hr
  go_enter Tryd.func20, Tryd.ntmps20
  go_wp2_with fail
  refine HC.out.mono ?_
  rintro e w1 ⟨rfl, hb1⟩
  go_wp2_with fail
  go_ret2
  exact ⟨rfl, hb1⟩
set_option maxRecDepth 100000 in
set_option maxHeartbeats 4000000 in
theorem packGet_form (A : Option Addr) (n c B : Nat) (l : List (List UInt8)) (s : ByteArray) (w : World) (hr : Rd w B 1 A n (strCells l)) (hn : n ≤ c) (hB : B ≤ w.heap.size) (hx : ∀ x ∈ l, x.length ≤ maxLen) (hE : codeErr l = 0) (hf : frontB l = false) :
    Calls Tryd.prog 20 #[.slice A n c, .string s] w fun e w' => e = .returned (.tuple #[.slice none 0 0, .int .i64 3]) ∧ Below w.heap.size w w' := by
  have HC := codeFront_any A n c B l w hr hn hB hx
  rw [if_pos hE, hE, hf] at HC
  have HC := Lib.hid HC
  clear hE hr hf
  go_enter Tryd.func20, Tryd.ntmps20
  go_wp2_with fail
  refine HC.out.mono ?_
  rintro e w1 ⟨rfl, hb1⟩
  go_wp2_with fail
  go_ret2
  exact ⟨rfl, hb1⟩
set_option maxRecDepth 100000 in
set_option maxHeartbeats 4000000 in
theorem packGet_large (A : Option Addr) (n c B : Nat) (l : List (List UInt8)) (s : ByteArray) (w : World) (hr : Rd w B 1 A n (strCells l)) (hn : n ≤ c) (hB : B ≤ w.heap.size) (hx : ∀ x ∈ l, x.length ≤ maxLen) (hE : codeErr l = 0) (hf : frontB l = true) (hs : 4096 < s.size) :
    Calls Tryd.prog 20 #[.slice A n c, .string s] w fun e w' => e = .returned (.tuple #[.slice none 0 0, .int .i64 2]) ∧ Below w.heap.size w w' := by
  have HC := codeFront_any A n c B l w hr hn hB hx
  rw [if_pos hE, hE, hf] at HC
  have HC := Lib.hid HC
  have g1 : decide ((4096 : Int) < (s.size : Int)) = true := decide_eq_true (by omega)
  have g1' : decide (4096 < s.size) = true := decide_eq_true hs
  clear hE hr hf
  go_enter Tryd.func20, Tryd.ntmps20
  go_wp2_with fail
  refine HC.out.mono ?_
  rintro e w1 ⟨rfl, hb1⟩
  go_wp2_with fail
  go_ret2
  exact ⟨rfl, hb1⟩
set_option maxRecDepth 100000 in
set_option maxHeartbeats 8000000 in
theorem packGet_any (A : Option Addr) (n c B : Nat) (l : List (List UInt8)) (s : ByteArray) (w : World) (hr : Rd w B 1 A n (strCells l)) (hn : n ≤ c) (hB : B ≤ w.heap.size) (hx : ∀ x ∈ l, x.length ≤ maxLen) (hE : codeErr l = 0) (hf : frontB l = true) (hs : s.size ≤ 4096) :
    Calls Tryd.prog 20 #[.slice A n c, .string s] w fun e w' => ((∃ v ks, e = .returned (.tuple #[v, .int .i64 0]) ∧ w'.ownsRow w.heap.size 3 1 v ks.length (ints ks) ∧ joinI l ks = L s ∧ ks.any (bad n) = false) ∨
      (e = .returned (.tuple #[.slice none 0 0, .int .i64 4]) ∧ ∃ ks r, L s = joinI l ks ++ r ∧ ks.any (bad n) = false ∧ Stuck l r)) ∧ Below w.heap.size w w' := by
  obtain ⟨i0, hi0, hz0, hz1, hz2⟩ := info_parts info_int
  have hln : l.length = n := by have := hr.1; simpa [strCells] using this
  have HC := codeFront_any A n c B l w hr hn hB hx
  rw [if_pos hE, hE, hf] at HC
  have HC := Lib.hid HC
  have hco := cod_of hE
  have HCO := Lib.hid hco
  have hn12 := hco.len
  have HR := Lib.hid hr
  have g1 : decide ((4096 : Int) < (s.size : Int)) = false := decide_eq_false (by omega)
  have g1' : decide (4096 < s.size) = false := decide_eq_false (by omega)
  clear hE hr hf hco
  go_enter Tryd.func20, Tryd.ntmps20
  go_wp2_with fail
  refine HC.out.mono ?_
  rintro e w1 ⟨rfl, hb1⟩
  have hzw : w.heap.size ≤ w1.heap.size := hb1.size
  have HR1 := Lib.hid (HR.out.below (hb1.mono hB))
  clear HR HC
  go_wp2_with fail
  go_loopw [8, 1] (fun ov sv wr => ∃ (ks : List Int) (r : ByteArray), sv = .string r ∧ r.size ≤ 4096 ∧ ks.length + r.size ≤ s.size ∧ Hid (L s = joinI l ks ++ L r) ∧ Hid (ks.any (bad n) = false) ∧ wr.ownsRow w1.heap.size 3 1 ov ks.length (ints ks) ∧ Below w1.heap.size w1 wr) (fun _ sv _ => strLen sv)
  case atStart => exact ⟨[], s, rfl, hs, by simp, Lib.hid rfl, Lib.hid rfl, World.ownsRow_nil _ _ _ _, Below.refl _ _⟩
  case round =>
    obtain ⟨ks, r, rfl, hr4, hkr, HJ, HBD, hown, hb⟩ := hrel
    have HOWN := Lib.hid hown
    clear hown
    by_cases hr0 : r.size = 0
    · obtain ⟨g2, g3⟩ := (emp_facts r).1 hr0
      have HV : Hid (joinI l ks = L s) := by
        have h : L r = [] := List.eq_nil_of_length_eq_zero (by rw [L_len]; exact hr0)
        unfold Hid
        rw [HJ.out, h, List.append_nil]
      clear hr0
      go_wp2_with fail
      go_ret2
      exact ⟨.inl ⟨_, ks, rfl, own_lower HOWN.out hzw, HV.out, HBD.out⟩, bthen hb1 hb⟩
    obtain ⟨g2, g3⟩ := (emp_facts r).2 hr0
    obtain ⟨wo, hwo⟩ : ∃ wo : World, wo = wr := ⟨_, rfl⟩
    subst hwo
    go_wp2_with fail
    go_loopw [9] (fun kv wr => ∃ k : Nat, k ≤ n ∧ kv = .int .i64 (k : Int) ∧ Hid (∀ j, j < k → pfx (l.getD j []) (L r) = false) ∧ wr = wo) (fun kv _ => n - (intOf kv).toNat)
    case atStart => exact ⟨0, Nat.zero_le _, rfl, Lib.hid (fun j h => by omega), rfl⟩
    case round =>
      obtain ⟨k, hk, rfl, HN, rfl⟩ := hrel
      by_cases hlt : k < n
      · have g4 : decide ((k : Int) < (n : Int)) = true := decide_eq_true (by omega)
        have g4' : decide (k < n) = true := decide_eq_true hlt
        obtain ⟨ad, rfl, hab, c0⟩ := str_cell (HR1.out.below (hb.mono (Nat.le_trans hB hzw))) hlt
        have hxl := HCO.out.le k (by omega)
        have hxn := HCO.out.ne k (by omega)
        obtain ⟨X, hX⟩ : ∃ X, S (l.getD k []) = X := ⟨_, rfl⟩
        have hxz : X.size ≤ 12 := by rw [← hX, S_size]; exact hxl
        have hx0 : 0 < X.size := by
          rw [← hX, S_size]
          rcases Nat.eq_zero_or_pos (l.getD k []).length with h | h
          · exact absurd (List.eq_nil_of_length_eq_zero h) hxn
          · exact h
        have HLX : Hid (L X = l.getD k []) := by rw [← hX]; exact L_S _
        rw [hX] at c0
        have HPX : Hid (∀ W, Calls Tryd.prog 34 #[.string r, .string X] W fun e W' => e = .returned (.bool (pfx (l.getD k []) (L r))) ∧ W' = W) := fun W => by
          have h := Tryd.strings_HasPrefix r X W
          rw [← HLX.out]
          exact h
        clear hX hxl hxn
        cases hp : pfx (l.getD k []) (L r) with
        | false =>
          have HN2 : Hid (∀ j, j < k + 1 → pfx (l.getD j []) (L r) = false) := fun j hj => by
            rcases Nat.lt_or_ge j k with h1 | h1
            · exact HN.out j h1
            · obtain rfl : j = k := by omega
              exact hp
          rw [hp] at HPX
          clear hp
          go_wp2_with fail
          refine (HPX.out _).mono ?_
          rintro e w2 ⟨rfl, rfl⟩
          go_wp2_with fail
          go_roundw
          case rel => exact ⟨k + 1, by omega, by go_num, HN2, by first | rfl | trivial⟩
          case measure => simp [intOf]; omega
        | true =>
          have hpl := pfx_len hp
          rw [← HLX.out, L_len, L_len] at hpl
          have HJ2 : Hid (L s = joinI l (ks ++ [(k : Int)]) ++ L (r.extract X.size r.size)) := by
            unfold Hid
            rw [joinI_snoc, Int.toNat_natCast, List.append_assoc, L_extract, List.take_of_length_le (by rw [List.length_drop, L_len]; exact Nat.le_refl _), ← HLX.out, ← L_len X, HLX.out, ← pfx_drop hp]
            exact HJ.out
          have HBD2 : Hid ((ks ++ [(k : Int)]).any (bad n) = false) := by
            unfold Hid
            rw [List.any_append, HBD.out, Bool.false_or, List.any_cons, List.any_nil, Bool.or_false]
            exact decide_eq_false (by omega)
          have hex : (r.extract X.size r.size).size = r.size - X.size := by rw [ByteArray.size_extract]; omega
          have hkk : ((k : Int) == (n : Int)) = false := by rw [beq_eq_false_iff_ne]; omega
          rw [hp] at HPX
          have hklb : ks.length ≤ 4096 := by omega
          clear hp
          go_wp2_with fail
          refine (HPX.out _).mono ?_
          rintro e w2 ⟨rfl, rfl⟩
          go_wp2_with fail
          have hblk : (ad.add k).block < w2.heap.size := by
            rw [blk_add]
            have := hb.size
            omega
          have HHB := Lib.hid hb
          obtain ⟨F15, hFd⟩ : ∃ F : World → Prop, F = fun w' => w'.cell? (ad.add k) = some (.string X) := ⟨_, rfl⟩
          have HF15 := Lib.hid hFd
          clear hFd
          have hcell150 : ∀ p' : Wof F15, p'.w.cell? (ad.add k) = some (.string X) := fun ⟨x, hx⟩ => by rw [HF15.out] at hx; exact hx
          refine wp_region_schedF [(0, true), (1, true), (4, true), (5, true), (6, true), (7, true), (8, true), (9, true), (10, true), (2, false), (3, false), (11, true), (12, true)] F15 (by kernel_rfl) (by kernel_rfl) rfl (fun _ _ _ _ _ h => h) (by kernel_rfl) (by rw [HF15.out]; first | trivial | (repeat' apply And.intro) <;> assumption | (simp; done) | (simp [*]; done)) (by rw [HF15.out]; exact fun h => h) ?_
          intro hne15
          simp only [opersOf, List.getElem?_toArray, List.getElem?_cons_succ, List.getElem?_cons_zero]
          repeat (first | (refine wpSched_free rfl ?_; intro K hK; go_big_quiet_op; go_big_quiet_on) | (refine wpSched_wantS _ rfl rfl rfl ?_; intro K hK; go_big_quiet_op; go_big_quiet_on) | (refine wpSched_skipS _ rfl rfl rfl rfl ?_; simp only [Act.put, List.setIfInBounds_toArray, List.set_cons_zero, List.set_cons_succ]) | (refine wpSched_skipU _ rfl rfl rfl ?_; simp only [Act.put, List.setIfInBounds_toArray, List.set_cons_zero, List.set_cons_succ]))
          refine wpSched_other ?_
          go_wp2_with fail
          have k0 : ((w2.alloc (.cells #[.int .i64 (k : Int)] 3)).drew).cell? (ad.add k) = some (.string X) := (World.cell?_alloc_lt w2 _ _ hblk).trans c0
          refine sched_back (by rw [HF15.out]; first | trivial | (repeat' apply And.intro) <;> assumption | (simp; done) | (go_simp; done) | (simp [*]; done)) ?_
          repeat (first | (refine wpSched_free rfl ?_; intro K hK; go_big_quiet_op; go_big_quiet_on) | (refine wpSched_wantS _ rfl rfl rfl ?_; intro K hK; go_big_quiet_op; go_big_quiet_on) | (refine wpSched_skipS _ rfl rfl rfl rfl ?_; simp only [Act.put, List.setIfInBounds_toArray, List.set_cons_zero, List.set_cons_succ]) | (refine wpSched_skipU _ rfl rfl rfl ?_; simp only [Act.put, List.setIfInBounds_toArray, List.set_cons_zero, List.set_cons_succ]))
          refine wpSched_other ?_
          have hO1 : ∀ o, ((w2.alloc o).drew).ownsRow w1.heap.size 3 1 u8 ks.length (ints ks) := fun o => HOWN.out.alloc o
          have hnw : ∀ j u, [Value.int .i64 (k : Int)][j]? = some u → ((w2.alloc (.cells #[.int .i64 (k : Int)] 3)).drew).cell? (Addr.add ⟨w2.heap.size, 0, none⟩ j) = some u := fun j u hj => cells_new w2 #[.int .i64 (k : Int)] 3 j u hj
          have hkb : (ad.add k).block < w1.heap.size := by rw [blk_add]; omega
          have hbs := hb.size
          go_wp2_with (at_builtin; go_must (refine wpList_appG rfl _ _ _ rfl w1.heap.size 3 i0 _ 1 8 Tryd.underlying41 hi0 hz0 hz1 hz2 rfl (by omega) _ ks.length (ints ks) rfl (hO1 _) ⟨w2.heap.size, 0, none⟩ 1 1 [.int .i64 (k : Int)] rfl rfl hnw (by simp [Value.oneCell']) (by omega) (by omega) (by simp; omega) ?_); intro v6 w6 hown6 hg6 hb6)
          have hb6' : Below w1.heap.size w1 w6 := ((hb.alloc hb.size _).drew).trans hb6
          have k1 : w6.cell? (ad.add k) = some (.string X) := (hb6'.cell hkb).trans ((hb.cell hkb).symm.trans c0)
          refine sched_back (by rw [HF15.out]; first | trivial | (repeat' apply And.intro) <;> assumption | (simp; done) | (go_simp; done) | (simp [*]; done)) ?_
          repeat (first | (refine wpSched_free rfl ?_; intro K hK; go_big_quiet_op; go_big_quiet_on) | (refine wpSched_wantS _ rfl rfl rfl ?_; intro K hK; go_big_quiet_op; go_big_quiet_on) | (refine wpSched_skipS _ rfl rfl rfl rfl ?_; simp only [Act.put, List.setIfInBounds_toArray, List.set_cons_zero, List.set_cons_succ]) | (refine wpSched_skipU _ rfl rfl rfl ?_; simp only [Act.put, List.setIfInBounds_toArray, List.set_cons_zero, List.set_cons_succ]))
          refine wpSched_nil ?_
          clear hO1 hnw k0 k1 hg6 hb6 HF15 hcell150 hne15
          go_wp2_with fail
          go_roundw
          case rel =>
            refine ⟨ks ++ [(k : Int)], r.extract X.size r.size, rfl, by omega, by rw [List.length_append, List.length_singleton]; omega, HJ2, HBD2, ?_, hb6'⟩
            rw [List.length_append, List.length_singleton, ints_snoc]
            exact hown6
          case measure =>
            simp [strLen]
            omega
      · obtain rfl : k = n := by omega
        have g4 : decide ((k : Int) < (k : Int)) = false := decide_eq_false (by omega)
        have g4' : decide (k < k) = false := decide_eq_false hlt
        have HST : Hid (Stuck l (L r)) := ⟨fun h => hr0 (by rw [← L_len, h]; rfl), fun j hj => HN.out j (by omega)⟩
        go_wp2_with fail
        go_ret2
        exact ⟨.inr ⟨rfl, ks, L r, HJ.out, HBD.out, HST.out⟩, bthen hb1 hb⟩
end Go.Proofs.YtmmamdjbbpeifaaDoor
