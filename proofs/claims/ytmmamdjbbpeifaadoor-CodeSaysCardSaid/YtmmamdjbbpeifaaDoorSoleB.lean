/- The document's SoleCode. -/
import Derived.Test.YtmmamdjbbpeifaaDoorSoleA
import Derived.Laws.EntriesVeiled
namespace Go.Proofs.YtmmamdjbbpeifaaDoor
open Go.RowKit Go.Maps
set_option maxRecDepth 100000 in
set_option maxHeartbeats 16000000 in
theorem soleCode_any (A : Option Addr) (n c B : Nat) (l : List (List UInt8)) (w : World) (hr : Rd w B 1 A n (strCells l)) (hn : n ≤ c) (hB : B ≤ w.heap.size) (hco : Cod l) :
    Calls Tryd.prog 18 #[.slice A n c] w fun e w' => e = .returned (.bool (soleB l)) ∧ Below w.heap.size w w' := by
  have hln : l.length = n := by have := hr.1; simpa [strCells] using this
  have HLN := Lib.hid hln
  have HCO := Lib.hid hco
  have HR := Lib.hid hr
  have hn12 := hco.len
  have HU := Lib.hid (unv_le hco.len (vis fun _ => none))
  have hmm := @run_makeMap Tryd.prog
  clear hr hco hln
  go_enter Tryd.func18, Tryd.ntmps18
  have hn12' : n ≤ 12 := by rw [← HLN.out]; exact hn12
  obtain ⟨wb, hwb⟩ : ∃ wb, wb = ((((w.alloc (.cells #[.slice A n c] 36)).alloc (.map #[] 0)).alloc (.cells #[.map (some (w.heap.size + 1))] 75)).alloc (.cells #[(.func (.func 42) #[] #[.pointer (some ⟨w.heap.size + 1 + 1, 0, none⟩), .pointer (some ⟨w.heap.size, 0, none⟩), .pointer (some ⟨w.heap.size + 1 + 1 + 1, 0, none⟩)])] 76)) := ⟨_, rfl⟩
  have hbs : Below w.heap.size w wb := by rw [hwb]; exact (by repeat (first | exact Below.refl _ _ | assumption | refine Below.alloc ?_ (by first | exact Nat.le_refl _ | assumption | omega | (simp <;> omega)) _ | refine Below.setCell ?_ (by first | exact Nat.le_refl _ | assumption | omega | (simp <;> omega)) _ | refine Below.drew ?_ | refine below_drewN ?_ _))
  have HSO : Hid (So wb B (w.heap.size + 1 + 1) w.heap.size (w.heap.size + 1 + 1 + 1) (w.heap.size + 1) A n c l) := by
    have hF := Blk.new_ (((w.alloc (.cells #[.slice A n c] 36)).alloc (.map #[] 0)).alloc (.cells #[.map (some (w.heap.size + 1))] 75)) 76 #[(.func (.func 42) #[] #[.pointer (some ⟨w.heap.size + 1 + 1, 0, none⟩), .pointer (some ⟨w.heap.size, 0, none⟩), .pointer (some ⟨w.heap.size + 1 + 1 + 1, 0, none⟩)])]
    have hL := Blk.alloc (Blk.alloc (Blk.alloc (Blk.new_ w 36 #[.slice A n c]) (.map #[] 0)) (.cells #[.map (some (w.heap.size + 1))] 75)) (.cells #[(.func (.func 42) #[] #[.pointer (some ⟨w.heap.size + 1 + 1, 0, none⟩), .pointer (some ⟨w.heap.size, 0, none⟩), .pointer (some ⟨w.heap.size + 1 + 1 + 1, 0, none⟩)])] 76)
    have hP := Blk.alloc (Blk.new_ ((w.alloc (.cells #[.slice A n c] 36)).alloc (.map #[] 0)) 75 #[.map (some (w.heap.size + 1))]) (.cells #[(.func (.func 42) #[] #[.pointer (some ⟨w.heap.size + 1 + 1, 0, none⟩), .pointer (some ⟨w.heap.size, 0, none⟩), .pointer (some ⟨w.heap.size + 1 + 1 + 1, 0, none⟩)])] 76)
    rw [World.size_alloc, World.size_alloc, World.size_alloc] at hF
    rw [World.size_alloc, World.size_alloc] at hP
    rw [← hwb] at hF hL hP
    exact ⟨hP.cell0, hL.cell0, hF.cell0, by omega, by omega, by omega, HR.out.below (hbs.mono hB), by omega, Nat.le_trans hB hbs.size⟩
  have HM : Hid (MapSI wb (w.heap.size + 1) 0 fun _ => none) := by
    have hM := ((MapSI.made (w.alloc (.cells #[.slice A n c] 36))).alloc (.cells #[.map (some (w.heap.size + 1))] 75)).alloc (.cells #[(.func (.func 42) #[] #[.pointer (some ⟨w.heap.size + 1 + 1, 0, none⟩), .pointer (some ⟨w.heap.size, 0, none⟩), .pointer (some ⟨w.heap.size + 1 + 1 + 1, 0, none⟩)])] 76)
    rw [World.size_alloc, ← hwb] at hM
    exact hM
  have q7 : w.heap.size ≤ w.heap.size + 1 := by omega
  go_wp2_with fail
  rw [← hwb]
  clear hwb
  generalize w.heap.size + 1 + 1 + 1 = bf at *
  generalize w.heap.size + 1 + 1 = bm at *
  generalize w.heap.size + 1 = M at *
  go_loopw [13] (fun iv wr => ∃ (i m : Nat) (f : List UInt8 → Option Int), i ≤ n ∧ iv = .int .i64 (i : Int) ∧ Below w.heap.size w wr ∧ Hid (So wr B bm w.heap.size bf M A n c l) ∧ Hid (MapSI wr M m f) ∧ Hid (Vok f m ∧ Grow l (fun _ => none) f ∧ BegIn l f i 0) ∧ phi l f m ≤ 3744 + i * 12) (fun iv _ => n - (intOf iv).toNat)
  case atStart =>
    refine ⟨0, 0, _, Nat.zero_le _, rfl, hbs, HSO, HM, Lib.hid ⟨⟨fun t v h => (by cases h), rfl⟩, Grow.refl _ _, fun i' k' _ h => (by omega)⟩, ?_⟩
    have := HU.out
    unfold phi; omega
  case round =>
    clear HSO HM hbs
    obtain ⟨i, m, f, hi, rfl, hb, HSO, HM, HI, hph⟩ := hrel
    by_cases hin : i < n
    · have g1 : decide ((i : Int) < (n : Int)) = true := decide_eq_true (by omega)
      have g1' : decide (i < n) = true := decide_eq_true hin
      obtain ⟨ad, rfl, hab, c0⟩ := str_cell HSO.out.hr hin
      have hil : i < l.length := by rw [HLN.out]; exact hin
      have hul := HCO.out.le i hil
      obtain ⟨U, hU⟩ : ∃ U, S (l.getD i []) = U := ⟨_, rfl⟩
      have huz : U.size ≤ 12 := by rw [← hU, S_size]; exact hul
      have HLU : Hid (L U = l.getD i []) := by rw [← hU]; exact L_S _
      rw [hU] at c0
      have cl := HSO.out.c2
      clear hU hul
      go_wp2_with fail
      go_loopw [19] (fun kv wr => ∃ (k m : Nat) (f : List UInt8 → Option Int), k ≤ n ∧ kv = .int .i64 (k : Int) ∧ Below w.heap.size w wr ∧ Hid (So wr B bm w.heap.size bf M (some ad) n c l) ∧ Hid (MapSI wr M m f) ∧ Hid (Vok f m ∧ Grow l (fun _ => none) f ∧ BegIn l f i k) ∧ phi l f m ≤ 3744 + i * 12 + k) (fun kv _ => n - (intOf kv).toNat)
      case atStart => exact ⟨0, m, f, Nat.zero_le _, rfl, hb, HSO, HM, HI, by omega⟩
      case round =>
        clear HSO HM HI hb cl c0 hph
        obtain ⟨k, m, f, hk, rfl, hb, HSO, HM, HI, hph⟩ := hrel
        by_cases hkn : k < n
        · have g2 : decide ((k : Int) < (n : Int)) = true := decide_eq_true (by omega)
          have g2' : decide (k < n) = true := decide_eq_true hkn
          obtain ⟨ad', hadd, hab', c0⟩ := str_cell HSO.out.hr hkn
          cases hadd
          have hkl : k < l.length := by rw [HLN.out]; exact hkn
          have hvl := HCO.out.le k hkl
          obtain ⟨X, hX⟩ : ∃ X, S (l.getD k []) = X := ⟨_, rfl⟩
          have hxz : X.size ≤ 12 := by rw [← hX, S_size]; exact hvl
          have HLX : Hid (L X = l.getD k []) := by rw [← hX]; exact L_S _
          rw [hX] at c0
          have c3 := HSO.out.c3
          have HUZ : Hid ((l.getD i []).length = U.size) := by unfold Hid; rw [← HLU.out, L_len]
          have HXZ : Hid ((l.getD k []).length = X.size) := by unfold Hid; rw [← HLX.out, L_len]
          have hkm : phi l f m ≤ 9999 := by omega
          clear hX hvl
          by_cases hlt : U.size < X.size
          · have g3 : decide ((U.size : Int) < (X.size : Int)) = true := decide_eq_true (by omega)
            have g3' : decide (U.size < X.size) = true := decide_eq_true hlt
            have HPF : Hid (((X.extract 0 U.size).toList == U.toList) = pfx (l.getD i []) (l.getD k [])) := by
              unfold Hid
              rw [ByteArray.toList_eq, ByteArray.toList_eq, ← pfx_take, HUZ.out, ← HLX.out, ← HLU.out]
              have e : L (X.extract 0 U.size) = (L X).take U.size := by rw [L_extract, List.drop_zero, Nat.sub_zero]
              rw [← e]; rfl
            cases hp : pfx (l.getD i []) (l.getD k []) with
            | true =>
              have g4 := HPF.out
              rw [hp] at g4
              have he : L (X.extract U.size X.size) = (l.getD k []).drop (l.getD i []).length := by
                rw [L_extract, List.take_of_length_le (by rw [List.length_drop, L_len]; exact Nat.le_refl _), HLX.out, HUZ.out]
              have HE := Lib.hid he
              have HC := Lib.hid (clo_any B bm w.heap.size bf M (some ad) n c l HCO.out hn (unv l (vis f)) f m (X.extract U.size X.size) wr.drew (Nat.le_refl _) (HSO.out.grown (gb_drew (gb_refl wr _))) HM.out.drew HI.out.1 (by omega) (by rw [he]; exact .beg ⟨i, k, hil, hkl, by rw [HUZ.out, HXZ.out]; exact hlt, hp, rfl⟩))
              clear hp he
              go_wp2_with fail
              obtain ⟨F1, hFd⟩ : ∃ F : World → Prop, F = fun w' => w'.cell? ⟨bf, 0, none⟩ = some (.func (.func 42) #[] #[.pointer (some ⟨bm, 0, none⟩), .pointer (some ⟨w.heap.size, 0, none⟩), .pointer (some ⟨bf, 0, none⟩)]) := ⟨_, rfl⟩
              have HF1 := Lib.hid hFd
              clear hFd
              have hcell10 : ∀ p' : Wof F1, p'.w.cell? ⟨bf, 0, none⟩ = some (.func (.func 42) #[] #[.pointer (some ⟨bm, 0, none⟩), .pointer (some ⟨w.heap.size, 0, none⟩), .pointer (some ⟨bf, 0, none⟩)]) := fun ⟨x, hx⟩ => by rw [HF1.out] at hx; exact hx
              refine wp_region_schedF [(0, true), (1, true), (2, true), (3, true), (4, true), (5, true), (6, true), (7, true), (8, true), (9, true), (10, true), (11, true), (12, true), (13, true), (14, true), (15, true), (16, true), (17, true), (18, true), (19, false), (20, true)] F1 (by kernel_rfl) (by kernel_rfl) rfl (fun _ _ _ _ _ h => h) (by kernel_rfl) (by rw [HF1.out]; first | trivial | (repeat' apply And.intro) <;> assumption | (simp; done) | (simp [*]; done)) (by rw [HF1.out]; exact fun h => h) ?_
              intro hne1
              simp only [opersOf, List.getElem?_toArray, List.getElem?_cons_succ, List.getElem?_cons_zero]
              repeat (first | (refine wpSched_free rfl ?_; intro K hK; go_big_quiet_op; go_big_quiet_on) | (refine wpSched_wantS _ rfl rfl rfl ?_; intro K hK; go_big_quiet_op; go_big_quiet_on) | (refine wpSched_skipS _ rfl rfl rfl rfl ?_; simp only [Act.put, List.setIfInBounds_toArray, List.set_cons_zero, List.set_cons_succ]) | (refine wpSched_skipU _ rfl rfl rfl ?_; simp only [Act.put, List.setIfInBounds_toArray, List.set_cons_zero, List.set_cons_succ]))
              refine wpSched_other ?_
              go_wp2_with fail
              refine HC.out.mono ?_
              rintro e w3 ⟨b, rfl, hg3, hpost⟩
              have hg3w : wr.grownBy w3 (some M) := gb_trans (gb_drew (gb_refl wr _)) hg3
              have HSO3 := Lib.hid (HSO.out.grown hg3w)
              have hb3 := hb.grown hg3w hb.size (fun k hk => by cases hk; exact q7)
              have c33 := HSO3.out.c3
              rcases hpost with ⟨rfl, hl0⟩ | ⟨rfl, f', m', hm', hok', hgr', hph', hvs'⟩
              · clear HM HSO hg3 c0 c3 hg3w
                have HV := Lib.hid (soleB_f hl0)
                go_wp2_with fail
                refine sched_back (by rw [HF1.out]; first | trivial | (repeat' apply And.intro) <;> assumption | (simp; done) | (go_simp; done) | (simp [*]; done)) ?_
                repeat (first | (refine wpSched_free rfl ?_; intro K hK; go_big_quiet_op; go_big_quiet_on) | (refine wpSched_wantS _ rfl rfl rfl ?_; intro K hK; go_big_quiet_op; go_big_quiet_on) | (refine wpSched_skipS _ rfl rfl rfl rfl ?_; simp only [Act.put, List.setIfInBounds_toArray, List.set_cons_zero, List.set_cons_succ]) | (refine wpSched_skipU _ rfl rfl rfl ?_; simp only [Act.put, List.setIfInBounds_toArray, List.set_cons_zero, List.set_cons_succ]))
                refine wpSched_nil ?_
                go_wp2_with fail
                go_ret
                exact ⟨by rw [HV.out]; rfl, hb3⟩
              · rw [HE.out] at hvs'
                have HM3 := Lib.hid hm'
                have HI3 : Hid (Vok f' m' ∧ Grow l (fun _ => none) f' ∧ BegIn l f' i (k + 1)) := ⟨hok', HI.out.2.1.trans hgr', (HI.out.2.2.more hgr').next fun _ _ => hvs'⟩
                clear hm' hok' hgr' hvs' HM HSO hg3 c0 c3 HC hg3w
                go_wp2_with fail
                refine sched_back (by rw [HF1.out]; first | trivial | (repeat' apply And.intro) <;> assumption | (simp; done) | (go_simp; done) | (simp [*]; done)) ?_
                repeat (first | (refine wpSched_free rfl ?_; intro K hK; go_big_quiet_op; go_big_quiet_on) | (refine wpSched_wantS _ rfl rfl rfl ?_; intro K hK; go_big_quiet_op; go_big_quiet_on) | (refine wpSched_skipS _ rfl rfl rfl rfl ?_; simp only [Act.put, List.setIfInBounds_toArray, List.set_cons_zero, List.set_cons_succ]) | (refine wpSched_skipU _ rfl rfl rfl ?_; simp only [Act.put, List.setIfInBounds_toArray, List.set_cons_zero, List.set_cons_succ]))
                refine wpSched_nil ?_
                go_wp2_with fail
                go_roundw
                case rel => exact ⟨k + 1, m', f', by omega, by go_num, hb3, HSO3, HM3, HI3, by omega⟩
                case measure => simp [intOf]; omega
            | false =>
              have g4 := HPF.out
              rw [hp] at g4
              have HI3 : Hid (Vok f m ∧ Grow l (fun _ => none) f ∧ BegIn l f i (k + 1)) := ⟨HI.out.1, HI.out.2.1, HI.out.2.2.next fun _ h => by rw [hp] at h; cases h⟩
              clear hp
              go_wp2_with fail
              obtain ⟨F1, hFd⟩ : ∃ F : World → Prop, F = fun w' => w'.cell? ⟨bf, 0, none⟩ = some (.func (.func 42) #[] #[.pointer (some ⟨bm, 0, none⟩), .pointer (some ⟨w.heap.size, 0, none⟩), .pointer (some ⟨bf, 0, none⟩)]) := ⟨_, rfl⟩
              have HF1 := Lib.hid hFd
              clear hFd
              have hcell10 : ∀ p' : Wof F1, p'.w.cell? ⟨bf, 0, none⟩ = some (.func (.func 42) #[] #[.pointer (some ⟨bm, 0, none⟩), .pointer (some ⟨w.heap.size, 0, none⟩), .pointer (some ⟨bf, 0, none⟩)]) := fun ⟨x, hx⟩ => by rw [HF1.out] at hx; exact hx
              refine wp_region_schedF [(0, true), (1, true), (2, true), (3, true), (4, true), (5, true), (6, true), (7, true), (8, true), (9, true), (10, true), (11, true), (12, true), (13, true), (14, true), (15, true), (16, true), (17, true), (18, true), (19, false), (20, true)] F1 (by kernel_rfl) (by kernel_rfl) rfl (fun _ _ _ _ _ h => h) (by kernel_rfl) (by rw [HF1.out]; first | trivial | (repeat' apply And.intro) <;> assumption | (simp; done) | (simp [*]; done)) (by rw [HF1.out]; exact fun h => h) ?_
              intro hne1
              simp only [opersOf, List.getElem?_toArray, List.getElem?_cons_succ, List.getElem?_cons_zero]
              repeat (first | (refine wpSched_free rfl ?_; intro K hK; go_big_quiet_op; go_big_quiet_on) | (refine wpSched_wantS _ rfl rfl rfl ?_; intro K hK; go_big_quiet_op; go_big_quiet_on) | (refine wpSched_skipS _ rfl rfl rfl rfl ?_; simp only [Act.put, List.setIfInBounds_toArray, List.set_cons_zero, List.set_cons_succ]) | (refine wpSched_skipU _ rfl rfl rfl ?_; simp only [Act.put, List.setIfInBounds_toArray, List.set_cons_zero, List.set_cons_succ]))
              refine wpSched_other ?_
              go_wp2_with fail
              refine sched_back (by rw [HF1.out]; first | trivial | (repeat' apply And.intro) <;> assumption | (simp; done) | (go_simp; done) | (simp [*]; done)) ?_
              repeat (first | (refine wpSched_free rfl ?_; intro K hK; go_big_quiet_op; go_big_quiet_on) | (refine wpSched_wantS _ rfl rfl rfl ?_; intro K hK; go_big_quiet_op; go_big_quiet_on) | (refine wpSched_skipS _ rfl rfl rfl rfl ?_; simp only [Act.put, List.setIfInBounds_toArray, List.set_cons_zero, List.set_cons_succ]) | (refine wpSched_skipU _ rfl rfl rfl ?_; simp only [Act.put, List.setIfInBounds_toArray, List.set_cons_zero, List.set_cons_succ]))
              refine wpSched_nil ?_
              go_wp2_with fail
              go_roundw
              case rel => exact ⟨k + 1, m, f, by omega, by go_num, hb.drew, Lib.hid (HSO.out.grown (gb_drew (gb_refl wr _))), Lib.hid HM.out.drew, HI3, by omega⟩
              case measure => simp [intOf]; omega
          · have g3 : decide ((U.size : Int) < (X.size : Int)) = false := decide_eq_false (by omega)
            have g3' : decide (U.size < X.size) = false := decide_eq_false hlt
            have HI3 : Hid (Vok f m ∧ Grow l (fun _ => none) f ∧ BegIn l f i (k + 1)) := ⟨HI.out.1, HI.out.2.1, HI.out.2.2.next fun h _ => by rw [HUZ.out, HXZ.out] at h; exact absurd h hlt⟩
            go_wp2_with fail
            obtain ⟨F1, hFd⟩ : ∃ F : World → Prop, F = fun w' => w'.cell? ⟨bf, 0, none⟩ = some (.func (.func 42) #[] #[.pointer (some ⟨bm, 0, none⟩), .pointer (some ⟨w.heap.size, 0, none⟩), .pointer (some ⟨bf, 0, none⟩)]) := ⟨_, rfl⟩
            have HF1 := Lib.hid hFd
            clear hFd
            have hcell10 : ∀ p' : Wof F1, p'.w.cell? ⟨bf, 0, none⟩ = some (.func (.func 42) #[] #[.pointer (some ⟨bm, 0, none⟩), .pointer (some ⟨w.heap.size, 0, none⟩), .pointer (some ⟨bf, 0, none⟩)]) := fun ⟨x, hx⟩ => by rw [HF1.out] at hx; exact hx
            refine wp_region_schedF [(0, true), (1, true), (2, true), (3, true), (4, true), (5, true), (6, true), (7, true), (8, true), (9, true), (10, true), (11, true), (12, true), (13, true), (14, true), (15, true), (16, true), (17, true), (18, true), (19, false), (20, true)] F1 (by kernel_rfl) (by kernel_rfl) rfl (fun _ _ _ _ _ h => h) (by kernel_rfl) (by rw [HF1.out]; first | trivial | (repeat' apply And.intro) <;> assumption | (simp; done) | (simp [*]; done)) (by rw [HF1.out]; exact fun h => h) ?_
            intro hne1
            simp only [opersOf, List.getElem?_toArray, List.getElem?_cons_succ, List.getElem?_cons_zero]
            repeat (first | (refine wpSched_free rfl ?_; intro K hK; go_big_quiet_op; go_big_quiet_on) | (refine wpSched_wantS _ rfl rfl rfl ?_; intro K hK; go_big_quiet_op; go_big_quiet_on) | (refine wpSched_skipS _ rfl rfl rfl rfl ?_; simp only [Act.put, List.setIfInBounds_toArray, List.set_cons_zero, List.set_cons_succ]) | (refine wpSched_skipU _ rfl rfl rfl ?_; simp only [Act.put, List.setIfInBounds_toArray, List.set_cons_zero, List.set_cons_succ]))
            refine wpSched_other ?_
            go_wp2_with fail
            refine sched_back (by rw [HF1.out]; first | trivial | (repeat' apply And.intro) <;> assumption | (simp; done) | (go_simp; done) | (simp [*]; done)) ?_
            repeat (first | (refine wpSched_free rfl ?_; intro K hK; go_big_quiet_op; go_big_quiet_on) | (refine wpSched_wantS _ rfl rfl rfl ?_; intro K hK; go_big_quiet_op; go_big_quiet_on) | (refine wpSched_skipS _ rfl rfl rfl rfl ?_; simp only [Act.put, List.setIfInBounds_toArray, List.set_cons_zero, List.set_cons_succ]) | (refine wpSched_skipU _ rfl rfl rfl ?_; simp only [Act.put, List.setIfInBounds_toArray, List.set_cons_zero, List.set_cons_succ]))
            refine wpSched_nil ?_
            go_wp2_with fail
            go_roundw
            case rel => exact ⟨k + 1, m, f, by omega, by go_num, hb.drew, Lib.hid (HSO.out.grown (gb_drew (gb_refl wr _))), Lib.hid HM.out.drew, HI3, by omega⟩
            case measure => simp [intOf]; omega
        · obtain rfl : k = n := by omega
          have g2 : decide ((k : Int) < (k : Int)) = false := decide_eq_false (by omega)
          have g2' : decide (k < k) = false := decide_eq_false hkn
          have HI3 : Hid (Vok f m ∧ Grow l (fun _ => none) f ∧ BegIn l f (i + 1) 0) := ⟨HI.out.1, HI.out.2.1, by have h := HI.out.2.2; rw [← HLN.out] at h; exact h.row⟩
          go_wp2_with fail
          go_roundw
          case rel => exact ⟨i + 1, m, f, by omega, by go_num, hb, HSO, HM, HI3, by omega⟩
          case measure => simp [intOf]; omega
    · obtain rfl : i = n := by omega
      have g1 : decide ((i : Int) < (i : Int)) = false := decide_eq_false (by omega)
      have g1' : decide (i < i) = false := decide_eq_false hin
      have HV : Hid (soleB l = true) := dfs_true HI.out.1 HI.out.2.1 (by have h := HI.out.2.2; rw [← HLN.out] at h; exact h)
      go_wp2_with fail
      go_ret
      exact ⟨by rw [HV.out]; rfl, hb⟩
end Go.Proofs.YtmmamdjbbpeifaaDoor
