/- The methods of an editor. An editor's Do that goes through. An editor and two rows of the law's own beside it. -/
import Derived.Test.YtmikckhihfcooaaDoorPk25
namespace Go.Proofs.YtmikckhihfcooaaDoor
open Go.RowKit
theorem undoNew_large (t : ByteArray) (h : 200 < t.size) (w : World) :
    Calls Tryd.prog 5 #[.string t] w fun e w' => e = .returned (.tuple #[.pointer none, .int .i64 2]) ∧ w' = w := by
  have g1 : decide ((200 : Int) < (t.size : Int)) = true := decide_eq_true (by omega)
  go_enter Tryd.func5, Tryd.ntmps5
  go_wp2_with fail
  go_ret2
  exact ⟨rfl, rfl⟩
theorem undoNew_any (t : ByteArray) (h : t.size ≤ 200) (w : World) :
    Calls Tryd.prog 5 #[.string t] w fun e w' => e = .returned (.tuple #[.pointer (some ⟨w.heap.size, 0, none⟩), .int .i64 0]) ∧ EdSt w' w.heap.size w.heap.size ⟨L t, [], []⟩ (.slice none 0 0) (.slice none 0 0) ∧ Below w.heap.size w w' := by
  have g1 : decide ((200 : Int) < (t.size : Int)) = false := decide_eq_false (by omega)
  have HB : Hid (EdSt (w.alloc (.cells #[.string t, .slice none 0 0, .slice none 0 0] 56)) w.heap.size w.heap.size ⟨L t, [], []⟩ (.slice none 0 0) (.slice none 0 0)) :=
    ⟨Blk.new_ _ _ _, Nat.le_refl _, OwnO.nil_, OwnO.nil_, Apart.none_left _⟩
  go_enter Tryd.func5, Tryd.ntmps5
  go_wp2_with fail
  go_ret2
  exact ⟨rfl, HB.out, (by repeat (first | exact Below.refl _ _ | assumption | refine Below.alloc ?_ (by first | exact Nat.le_refl _ | assumption | omega | (simp <;> omega)) _ | refine Below.setCell ?_ (by first | exact Nat.le_refl _ | assumption | omega | (simp <;> omega)) _ | refine Below.drew ?_ | refine below_drewN ?_ _))⟩
theorem EdSt.cells {w : World} {base g : Nat} {s : Es} {vB vO : Value} (h : EdSt w base g s vB vO) : w.cell? ⟨g, 0, none⟩ = some (.string (S s.text)) ∧ w.cell? ⟨g, 1, none⟩ = some vB ∧ w.cell? ⟨g, 2, none⟩ = some vO ∧
    w.frozen? ⟨g, 0, none⟩ = false ∧ w.frozen? ⟨g, 1, none⟩ = false ∧ w.frozen? ⟨g, 2, none⟩ = false ∧ g < w.heap.size :=
  ⟨h.blk.cell0, h.blk.cell1, h.blk.cell2, h.blk.frozen 0, h.blk.frozen 1, h.blk.frozen 2, h.blk.lt⟩
theorem edText_any (base g : Nat) (s : Es) (vB vO : Value) (w : World) (h : EdSt w base g s vB vO) :
    Calls Tryd.prog 14 #[.pointer (some ⟨g, 0, none⟩)] w fun e w' => e = .returned (.string (S s.text)) ∧ Below w.heap.size w w' := by
  obtain ⟨c0, c1, c2, f0, f1, f2, hg⟩ := h.cells
  clear h
  go_enter Tryd.func14, Tryd.ntmps14
  go_wp2_with fail
  go_ret
  exact ⟨rfl, Below.refl _ _⟩
theorem strCells_len (l : List (List UInt8)) : (strCells l).length = l.length := by simp [strCells]
theorem strCells_snoc (l : List (List UInt8)) (x : List UInt8) : strCells l ++ [.string (S x)] = strCells (l ++ [x]) := by simp [strCells]
theorem strCells_take (l : List (List UInt8)) (k : Nat) : (strCells l).take k = strCells (l.take k) := by simp [strCells, List.map_take]
theorem strCells_drop (l : List (List UInt8)) (k : Nat) : (strCells l).drop k = strCells (l.drop k) := by simp [strCells, List.map_drop]
theorem info_st : (Tryd.prog.info? 9).map (fun i => (i.zero, i.size, i.bytes)) = some (some (.string ByteArray.empty), 1, 16) := by kernel_rfl
set_option maxRecDepth 100000 in
set_option maxHeartbeats 4000000 in
theorem edDo_bad (base g : Nat) (s : Es) (vB vO : Value) (w : World) (h : EdSt w base g s vB vO) (l : List Ed) (A : Option Addr) (m c B : Nat) (hr : Rd w B 3 A m (edCells l)) (hB : B ≤ w.heap.size) (hm : m ≤ 9223372036854775807) (hs : s.text.length ≤ 200) (hE : doE s l ≠ 0) :
    Calls Tryd.prog 10 #[.pointer (some ⟨g, 0, none⟩), .slice A m c] w fun e w' => e = .returned (.int .i64 (doE s l)) ∧ Below w.heap.size w w' := by
  obtain ⟨c0, c1, c2, f0, f1, f2, hg⟩ := h.cells
  have hlen := Rd.rec_len ed_len (by omega) hr
  have HR := Lib.hid hr
  have HL := Lib.hid hlen
  have hsz : (S s.text).size = s.text.length := S_size _
  clear h hr hlen
  by_cases he : edErr s.text.length l = 0
  · have h5 : Hid (doE s l = 5 ∧ m = 0) := by
      unfold Hid
      unfold doE at hE ⊢
      rw [if_pos he] at hE ⊢
      by_cases hl : l.length = 0
      · rw [if_pos hl]; exact ⟨rfl, by have := HL.out; omega⟩
      · rw [if_neg hl] at hE; exact absurd rfl hE
    have g1 : ((m : Int) == 0) = true := by rw [h5.out.2]; rfl
    have he' : Hid (edErr (S s.text).size l = 0) := by unfold Hid; rw [hsz]; exact he
    clear hE he hsz
    go_enter Tryd.func10, Tryd.ntmps10
    go_wp2_with fail
    refine (edApply_any (S s.text) l A m c B _ HR.out hB hm (by rw [S_size]; omega)).mono ?_
    rintro e w1 ⟨rfl, hb1⟩
    rw [he'.out]
    go_wp2_with fail
    go_ret
    exact ⟨by rw [h5.out.1]; rfl, hb1⟩
  · have hd : Hid (doE s l = edErr (S s.text).size l) := by
      unfold Hid doE; rw [if_neg he, hsz]
    have g1 : (edErr (S s.text).size l != 0) = true := by rw [bne_iff_ne, hsz]; exact he
    clear hE he hsz
    go_enter Tryd.func10, Tryd.ntmps10
    go_wp2_with fail
    refine (edApply_any (S s.text) l A m c B _ HR.out hB hm (by rw [S_size]; omega)).mono ?_
    rintro e w1 ⟨rfl, hb1⟩
    generalize edErr (S s.text).size l = ee at *
    go_wp2_with fail
    go_ret
    exact ⟨by rw [hd.out]; rfl, hb1⟩
end Go.Proofs.YtmikckhihfcooaaDoor
namespace Go.Proofs.YtmikckhihfcooaaDoor
open Go.RowKit
theorem back_own {w : World} {base : Nat} {A : Option Addr} {m c k : Nat} {l : List (List UInt8)} (h : OwnO w base 9 1 (.slice A m c) l.length (strCells l)) (hm : m = l.length) (hk : k ≤ m) (hA : A ≠ none) : OwnO w base 9 1 (.slice (if c = k then A else A.map (·.add k)) (m - k) (c - k)) (l.drop k).length (strCells (l.drop k)) := by
  subst hm
  have := h.behind A c k rfl hk hA
  rw [Nat.mul_one] at this
  rw [List.length_drop, strCells, List.map_drop]
  exact this
theorem EdSt.dropB {w : World} {base g : Nat} {st : List UInt8} {sb so : List (List UInt8)} {ad : Addr} {m c k : Nat} {vO : Value} (h : EdSt w base g ⟨st, sb, so⟩ (.slice (some ad) m c) vO) (hm : m = sb.length) (hk : k ≤ m) (hc : ¬ c = k) :
    EdSt (w.setCell ⟨g, 1, none⟩ (.slice (some (ad.add k)) (m - k) (c - k))) base g ⟨st, sb.drop k, so⟩ (.slice (some (ad.add k)) (m - k) (c - k)) vO := by
  have h1 := back_own h.b hm hk (by simp)
  rw [if_neg hc] at h1
  simp only [Option.map_some] at h1
  refine ⟨h.blk.set_ 1 _, h.lo, h1.far (h1.ne_blk h.blk (by decide)) _ _, h.o.far (h.o.ne_blk h.blk (by decide)) _ _, ?_⟩
  have := h.ap
  simpa [Apart, Value.ownBlock, blk_add] using this
theorem EdSt.nilO {w : World} {base g : Nat} {st : List UInt8} {sb so : List (List UInt8)} {vB vO : Value} (h : EdSt w base g ⟨st, sb, so⟩ vB vO) : EdSt (w.setCell ⟨g, 2, none⟩ (.slice none 0 0)) base g ⟨st, sb, []⟩ vB (.slice none 0 0) :=
  ⟨h.blk.set_ 2 _, h.lo, h.b.far (h.b.ne_blk h.blk (by decide)) _ _, OwnO.nil_, (Apart.none_left _).comm⟩
set_option maxRecDepth 100000 in
set_option maxHeartbeats 8000000 in
theorem edDoS (base g : Nat) (s : Es) (vB vO : Value) (w : World) (h : EdSt w base g s vB vO) (hB0 : base ≤ w.heap.size) (hok : EsOk s) (l : List Ed) (A : Option Addr) (m c B : Nat) (hr : Rd w B 3 A m (edCells l)) (hB : B ≤ w.heap.size) (hm : m ≤ 9223372036854775807) (hE : doE s l = 0) :
    Calls Tryd.prog 10 #[.pointer (some ⟨g, 0, none⟩), .slice A m c] w fun e w' => e = .returned (.int .i64 0) ∧ ∃ vB' vO', EdSt w' base g (doS s l) vB' vO' ∧ Chg w w' (EdK g vB vO) ∧ Fresh w vB' vB vO ∧ Fresh w vO' vB vO := by
  obtain ⟨i0, hi0, hz0, hz1, hz2⟩ := info_parts info_st
  have hlen := Rd.rec_len ed_len (by omega) hr
  have HR := Lib.hid hr
  have hS : Hid (doS s l = ⟨edDone s.text l, (s.back ++ [s.text]).drop (s.back.length + 1 - 30), []⟩) := by unfold Hid doS; rw [if_pos hE]
  have he : edErr s.text.length l = 0 ∧ ¬ l.length = 0 := by
    unfold doE at hE
    by_cases he : edErr s.text.length l = 0
    · rw [if_pos he] at hE
      refine ⟨he, fun hl => ?_⟩
      rw [if_pos hl] at hE; cases hE
    · rw [if_neg he] at hE; exact absurd hE he
  obtain ⟨he1, he2⟩ := he
  have HAP : Hid (apOut (S s.text) l = S (edDone s.text l) ∧ edErr (S s.text).size l = 0) := by
    unfold Hid
    rw [S_size]
    refine ⟨?_, he1⟩
    unfold apOut
    rw [S_size, L_S, if_pos he1, edDone_is he1]
  have g1 : ((m : Int) == 0) = false := by rw [beq_eq_false_iff_ne]; omega
  have hs2 : (S s.text).size ≤ 200 := by rw [S_size]; exact hok.t
  have hnn := hok.n
  clear he1 he2 hE hr hlen hok
  have HE := Lib.hid h
  obtain ⟨c0, c1, c2, f0, f1, f2, hg⟩ := h.cells
  clear h
  obtain ⟨st, sb, so⟩ := s
  simp only at *
  go_enter Tryd.func10, Tryd.ntmps10
  go_wp2_with fail
  refine (edApply_any (S st) l A m c B _ HR.out hB hm (by omega)).mono ?_
  rintro e w1 ⟨rfl, hb1⟩
  rw [HAP.out.1, HAP.out.2]
  have HE1 := Lib.hid (HE.out.below hb1)
  have HB1 := Lib.hid hb1
  have hbs1 := hb1.size
  have hC1 := Lib.hid (Chg.of_below hb1 (EdK g vB vO))
  clear c0 c1 c2 f0 f1 f2 hg hb1 HE
  obtain ⟨c0, c1, c2, f0, f1, f2, hg⟩ := HE1.out.cells
  generalize edDone st l = T at *
  generalize hTT : S T = TT at *
  have HTT := Lib.hid hTT
  clear hTT
  go_wp2_with fail
  obtain ⟨F1, hFd⟩ : ∃ F : World → Prop, F = fun w' => w'.cell? ⟨g, 0, none⟩ = some (.string (S st)) ∧ w'.cell? ⟨g, 1, none⟩ = some (vB) := ⟨_, rfl⟩
  have HF1 := Lib.hid hFd
  clear hFd
  have hcell10 : ∀ p' : Wof F1, p'.w.cell? ⟨g, 0, none⟩ = some (.string (S st)) := fun ⟨x, hx⟩ => by rw [HF1.out] at hx; exact hx.1
  have hcell11 : ∀ p' : Wof F1, p'.w.cell? ⟨g, 1, none⟩ = some (vB) := fun ⟨x, hx⟩ => by rw [HF1.out] at hx; exact hx.2
  refine wp_region_schedZ [(0, true), (1, true), (2, true), (3, true), (4, true), (5, true), (6, true), (7, true), (8, true), (9, false), (10, false), (11, true), (12, true)] 13 _ F1 (by kernel_rfl) (by kernel_rfl) rfl (by kernel_rfl) rfl (fun _ _ _ _ _ h => h) (by kernel_rfl) (by rw [HF1.out]; first | trivial | (repeat' apply And.intro) <;> assumption | (simp; done) | (simp [*]; done)) (by rw [HF1.out]; exact fun h => h) ?_
  intro hne1
  simp only [opersOf, List.getElem?_toArray, List.getElem?_cons_succ, List.getElem?_cons_zero]
  repeat (first | (refine wpSched_free rfl ?_; intro K hK; go_big_quiet_op; go_big_quiet_on) | (refine wpSched_wantS _ rfl rfl rfl ?_; intro K hK; go_big_quiet_op; go_big_quiet_on) | (refine wpSched_skipS _ rfl rfl rfl rfl ?_; simp only [Act.put, List.setIfInBounds_toArray, List.set_cons_zero, List.set_cons_succ]) | (refine wpSched_skipU _ rfl rfl rfl ?_; simp only [Act.put, List.setIfInBounds_toArray, List.set_cons_zero, List.set_cons_succ]))
  refine wpSched_other ?_
  go_wp2_with fail
  refine sched_back (by rw [HF1.out]; first | trivial | (repeat' apply And.intro) <;> assumption | (simp; done) | (go_simp; done) | (simp [*]; done)) ?_
  repeat (first | (refine wpSched_free rfl ?_; intro K hK; go_big_quiet_op; go_big_quiet_on) | (refine wpSched_wantS _ rfl rfl rfl ?_; intro K hK; go_big_quiet_op; go_big_quiet_on) | (refine wpSched_skipS _ rfl rfl rfl rfl ?_; simp only [Act.put, List.setIfInBounds_toArray, List.set_cons_zero, List.set_cons_succ]) | (refine wpSched_skipU _ rfl rfl rfl ?_; simp only [Act.put, List.setIfInBounds_toArray, List.set_cons_zero, List.set_cons_succ]))
  refine wpSched_other ?_
  have hO1 : ∀ o, OwnO (w1.alloc o).drew base 9 1 vB sb.length (strCells sb) := fun o => HE1.out.b.below (by repeat (first | exact Below.refl _ _ | assumption | refine Below.alloc ?_ (by first | exact Nat.le_refl _ | assumption | omega | (simp <;> omega)) _ | refine Below.setCell ?_ (by first | exact Nat.le_refl _ | assumption | omega | (simp <;> omega)) _ | refine Below.drew ?_ | refine below_drewN ?_ _))
  have hnw : ∀ j u, [Value.string (S st)][j]? = some u → ((w1.alloc (.cells #[.string (S st)] 9)).drew).cell? (Addr.add ⟨w1.heap.size, 0, none⟩ j) = some u := fun j u hj => cells_new w1 #[.string (S st)] 9 j u hj
  have hnb := HE1.out.b.ne_blk HE1.out.blk (by decide)
  go_wp2_with (at_builtin; go_must (refine wpList_appO rfl _ _ _ rfl base 9 i0 _ 1 16 Tryd.underlying30 hi0 hz0 hz1 hz2 rfl (by omega) _ sb.length (strCells sb) rfl (hO1 _) ⟨w1.heap.size, 0, none⟩ 1 1 [.string (S st)] rfl rfl hnw (by simp [Value.oneCell']) (by omega) (by omega) (by simp; omega) ?_); intro v6 w6 hown6 hg6 hb6 ha6; obtain ⟨A6, c6, rfl, hnc6, hcm6, hrd6⟩ := OwnO.form hown6)
  have hg6' : (w1.alloc (.cells #[.string (S st)] 9)).drew.grownBy w6 vB.ownBlock := hg6
  have hgv : some g ≠ vB.ownBlock := fun e => by rcases hnb with h | h <;> rw [← e] at h <;> simp at h
  have k0 := hg6'.cell (a := ⟨g, 0, none⟩) (v := .string (S st)) ((World.cell?_alloc_lt w1 _ _ hg).trans c0) hgv
  have k1 := hg6'.cell (a := ⟨g, 1, none⟩) (v := vB) ((World.cell?_alloc_lt w1 _ _ hg).trans c1) hgv
  have HE2 : EdSt (w1.alloc (.cells #[.string (S st)] 9)).drew base g ⟨st, sb, so⟩ vB vO := HE1.out.below (by repeat (first | exact Below.refl _ _ | assumption | refine Below.alloc ?_ (by first | exact Nat.le_refl _ | assumption | omega | (simp <;> omega)) _ | refine Below.setCell ?_ (by first | exact Nat.le_refl _ | assumption | omega | (simp <;> omega)) _ | refine Below.drew ?_ | refine below_drewN ?_ _))
  obtain ⟨ad, rfl, hab, _⟩ := hrd6.2 (by omega)
  have hE7 := Lib.hid (HE2.appB hg6' hgv (by first | exact hown6 | simpa using hown6) ha6)
  have HC7 := Lib.hid (((hC1.out.trans (Chg.of_below (w := w1) (w' := (w1.alloc (.cells #[.string (S st)] 9)).drew) (by repeat (first | exact Below.refl _ _ | assumption | refine Below.alloc ?_ (by first | exact Nat.le_refl _ | assumption | omega | (simp <;> omega)) _ | refine Below.setCell ?_ (by first | exact Nat.le_refl _ | assumption | omega | (simp <;> omega)) _ | refine Below.drew ?_ | refine below_drewN ?_ _)) (EdK g vB vO)) (fun _ h _ => h)).trans (Chg.of_gb (K := EdK g vB vO) hg6' (fun k hk => .inr (.inl hk))) (fun _ h _ => h)).trans (Chg.of_gb (K := EdK g vB vO) (gb_set (gb_refl w6 (some g)) 1 (.slice (some ad) (sb.length + 1) c6)) (fun k hk => .inl (by simpa using hk.symm))) (fun _ h _ => h))
  have HFR : Hid (∀ k, some ad.block = some k → vB.ownBlock = some k ∨ vO.ownBlock = some k ∨ w.heap.size ≤ k) := fun k hk => by
    have h1 : some ad.block = vB.ownBlock ∨ some ad.block = some (w1.alloc (.cells #[.string (S st)] 9)).drew.heap.size := ha6
    rcases h1 with h1 | h1
    · exact .inl (h1.symm.trans hk)
    · rw [hk] at h1; simp at h1; exact .inr (.inr (by omega))
  refine sched_back (by rw [HF1.out]; exact ⟨k0, k1⟩) ?_
  repeat (first | (refine wpSched_free rfl ?_; intro K hK; go_big_quiet_op; go_big_quiet_on) | (refine wpSched_wantS _ rfl rfl rfl ?_; intro K hK; go_big_quiet_op; go_big_quiet_on) | (refine wpSched_skipS _ rfl rfl rfl rfl ?_; simp only [Act.put, List.setIfInBounds_toArray, List.set_cons_zero, List.set_cons_succ]) | (refine wpSched_skipU _ rfl rfl rfl ?_; simp only [Act.put, List.setIfInBounds_toArray, List.set_cons_zero, List.set_cons_succ]))
  refine wpSched_nil ?_
  refine qz_nil ?_
  have q1f : w6.frozen? ⟨g, 1, none⟩ = false := (HE2.blk.grown hg6' hgv).frozen 1
  clear HF1 hcell10 hcell11 hne1
  obtain ⟨p0, p1, p2, pf0, pf1, pf2, pg⟩ := hE7.out.cells
  by_cases h30 : 30 < sb.length + 1
  · have g2 : decide ((30 : Int) < (sb.length : Int) + 1) = true := decide_eq_true (by omega)
    go_wp2_with fail
    go_ret
    have HE8 := (hE7.out.dropB (k := 1) (by simp) (by omega) (by omega))
    have HE9 := (HE8.text_ T).nilO
    have HC9 := ((HC7.out.trans (Chg.of_gb (K := EdK g vB vO) (gb_set (gb_refl _ (some g)) 1 (.slice (some (ad.add 1)) (sb.length + 1 - 1) (c6 - 1))) (fun k hk => .inl (by simpa using hk.symm))) (fun _ h _ => h)).trans (Chg.of_gb (K := EdK g vB vO) (gb_set (gb_refl _ (some g)) 0 (.string (S T))) (fun k hk => .inl (by simpa using hk.symm))) (fun _ h _ => h)).trans (Chg.of_gb (K := EdK g vB vO) (gb_set (gb_refl _ (some g)) 2 (.slice none 0 0)) (fun k hk => .inl (by simpa using hk.symm))) (fun _ h _ => h)
    rw [HTT.out] at HE9 HC9
    have e30 : sb.length + 1 - 30 = 1 := by omega
    rw [hS.out, e30]
    exact ⟨rfl, _, _, HE9, HC9, fun k hk => HFR.out k (by simpa [Value.ownBlock, blk_add] using hk), fun k hk => by simp [Value.ownBlock] at hk⟩
  · have g2 : decide ((30 : Int) < (sb.length : Int) + 1) = false := decide_eq_false (by omega)
    go_wp2_with fail
    go_ret
    have HE9 := (hE7.out.text_ T).nilO
    have HC9 := (HC7.out.trans (Chg.of_gb (K := EdK g vB vO) (gb_set (gb_refl _ (some g)) 0 (.string (S T))) (fun k hk => .inl (by simpa using hk.symm))) (fun _ h _ => h)).trans (Chg.of_gb (K := EdK g vB vO) (gb_set (gb_refl _ (some g)) 2 (.slice none 0 0)) (fun k hk => .inl (by simpa using hk.symm))) (fun _ h _ => h)
    rw [HTT.out] at HE9 HC9
    have e30 : sb.length + 1 - 30 = 0 := by omega
    rw [hS.out, e30, List.drop_zero]
    exact ⟨rfl, _, _, HE9, HC9, fun k hk => HFR.out k hk, fun k hk => by simp [Value.ownBlock] at hk⟩
end Go.Proofs.YtmikckhihfcooaaDoor
namespace Go.Proofs.YtmikckhihfcooaaDoor
open Go.RowKit
structure LawSt (w : World) (base g : Nat) (s : Es) (vB vO : Value) (lb : List (List UInt8)) (vb : Value) (lo : List (List UInt8)) (vo : Value) : Prop where
  ed : EdSt w base g s vB vO
  b : OwnO w base 9 1 vb lb.length (strCells lb)
  o : OwnO w base 9 1 vo lo.length (strCells lo)
  bo : Apart vb vo
  bB : Apart vb vB
  bO : Apart vb vO
  oB : Apart vo vB
  oO : Apart vo vO
section
variable {w w' : World} {base g : Nat} {s s' : Es} {vB vO vB' vO' vb vo v6 : Value} {lb lo l' : List (List UInt8)} {x : List UInt8}
theorem apart_fresh {v v' : Value} {e : TypeId} {size n : Nat} {xs : List Value} (h : OwnO w base e size v n xs) (hB : Apart v vB) (hO : Apart v vO) (hf : Fresh w v' vB vO) : Apart v v' := by
  cases hv : v.ownBlock with
  | none => exact .inl hv
  | some k =>
    refine .inr fun e => ?_
    rw [hv] at e
    rcases hf k e.symm with h1 | h1 | h1
    · rcases hB with h2 | h2
      · rw [hv] at h2; cases h2
      · exact h2 (by rw [hv, h1])
    · rcases hO with h2 | h2
      · rw [hv] at h2; cases h2
      · exact h2 (by rw [hv, h1])
    · have := (h.lt k hv).2; omega
theorem LawSt.below (h : LawSt w base g s vB vO lb vb lo vo) (hb : Below w.heap.size w w') : LawSt w' base g s vB vO lb vb lo vo :=
  ⟨h.ed.below hb, h.b.below hb, h.o.below hb, h.bo, h.bB, h.bO, h.oB, h.oO⟩
theorem own_chg {v : Value} {e : TypeId} {size n : Nat} {xs : List Value} (h : OwnO w base e size v n xs) (hne : e ≠ 56) (hb : EdSt w base g s vB vO) (hB : Apart v vB) (hO : Apart v vO) (hc : Chg w w' (EdK g vB vO)) : OwnO w' base e size v n xs := by
  refine h.chg hc fun k hk hK => ?_
  rcases hK with rfl | h1 | h1
  · rcases h.ne_blk hb.blk hne with h2 | h2
    · rw [hk] at h2; cases h2
    · exact h2 hk
  · rcases hB with h2 | h2
    · rw [hk] at h2; cases h2
    · exact h2 (by rw [hk, h1])
  · rcases hO with h2 | h2
    · rw [hk] at h2; cases h2
    · exact h2 (by rw [hk, h1])
theorem LawSt.step (h : LawSt w base g s vB vO lb vb lo vo) (he : EdSt w' base g s' vB' vO') (hc : Chg w w' (EdK g vB vO)) (fB : Fresh w vB' vB vO) (fO : Fresh w vO' vB vO) : LawSt w' base g s' vB' vO' lb vb lo vo :=
  ⟨he, own_chg h.b (by decide) h.ed h.bB h.bO hc, own_chg h.o (by decide) h.ed h.oB h.oO hc, h.bo, apart_fresh h.b h.bB h.bO fB, apart_fresh h.b h.bB h.bO fO, apart_fresh h.o h.oB h.oO fB, apart_fresh h.o h.oB h.oO fO⟩
theorem LawSt.sw (h : LawSt w base g s vB vO lb vb lo vo) : LawSt w base g s vB vO lo vo lb vb := ⟨h.ed, h.o, h.b, h.bo.comm, h.oB, h.oO, h.bB, h.bO⟩
theorem ne_some {v : Value} (h : v.ownBlock = none ∨ v.ownBlock ≠ some g) : some g ≠ v.ownBlock := fun e => by
  rcases h with h | h
  · rw [← e] at h; cases h
  · exact h e.symm
theorem LawSt.apb (h : LawSt w base g s vB vO lb vb lo vo) (hg : w.grownBy w' vb.ownBlock) (hown : OwnO w' base 9 1 v6 (lb.length + 1) (strCells lb ++ [.string (S x)])) (ha : v6.ownBlock = vb.ownBlock ∨ v6.ownBlock = some w.heap.size) :
    LawSt w' base g s vB vO (lb ++ [x]) v6 lo vo := by
  have ho : OwnO w' base 9 1 v6 (lb ++ [x]).length (strCells (lb ++ [x])) := by
    rw [List.length_append, strCells, List.map_append]; exact hown
  exact ⟨h.ed.far hg (ne_some (h.b.ne_blk h.ed.blk (by decide))) h.bB.comm h.bO.comm, ho, h.o.kept hg h.bo.comm, (apartO_new h.o h.bo.comm ha (Nat.le_refl _)).comm,
    (apartO_new h.ed.b h.bB.comm ha (Nat.le_refl _)).comm, (apartO_new h.ed.o h.bO.comm ha (Nat.le_refl _)).comm, h.oB, h.oO⟩
theorem LawSt.apo (h : LawSt w base g s vB vO lb vb lo vo) (hg : w.grownBy w' vo.ownBlock) (hown : OwnO w' base 9 1 v6 (lo.length + 1) (strCells lo ++ [.string (S x)])) (ha : v6.ownBlock = vo.ownBlock ∨ v6.ownBlock = some w.heap.size) :
    LawSt w' base g s vB vO lb vb (lo ++ [x]) v6 := (h.sw.apb hg hown ha).sw
theorem LawSt.newb (h : LawSt w base g s vB vO lb vb lo vo) (hown : OwnO w base 9 1 v6 l'.length (strCells l')) (hv : v6.ownBlock = vb.ownBlock) : LawSt w base g s vB vO l' v6 lo vo := by
  refine ⟨h.ed, hown, h.o, ?_, ?_, ?_, h.oB, h.oO⟩
  · have := h.bo; unfold Apart at this ⊢; rw [hv]; exact this
  · have := h.bB; unfold Apart at this ⊢; rw [hv]; exact this
  · have := h.bO; unfold Apart at this ⊢; rw [hv]; exact this
theorem LawSt.newo (h : LawSt w base g s vB vO lb vb lo vo) (hown : OwnO w base 9 1 v6 l'.length (strCells l')) (hv : v6.ownBlock = vo.ownBlock) : LawSt w base g s vB vO lb vb l' v6 := (h.sw.newb hown hv).sw
theorem LawSt.nilo (h : LawSt w base g s vB vO lb vb lo vo) : LawSt w base g s vB vO lb vb [] (.slice none 0 0) :=
  ⟨h.ed, h.b, OwnO.nil_, (Apart.none_left _).comm, h.bB, h.bO, Apart.none_left _, Apart.none_left _⟩
theorem LawSt.bel (h : LawSt w base g s vB vO lb vb lo vo) (hc : Chg w w' (EdK g vB vO)) (hb : base ≤ w.heap.size) : Below base w w' :=
  hc.below (fun k hk => by
    rcases hk with rfl | h1 | h1
    · exact h.ed.lo
    · exact (h.ed.b.lt k h1).1
    · exact (h.ed.o.lt k h1).1) hb
theorem own_cell {A : Option Addr} {m c k : Nat} {l : List (List UInt8)} (h : OwnO w base 9 1 (.slice A m c) l.length (strCells l)) (hk : k < l.length) : ∃ ad : Addr, A = some ad ∧ ad.block < w.heap.size ∧ w.cell? (ad.add k) = some (.string (S (l.getD k []))) := by
  obtain ⟨A', c', hv, _, _, hr⟩ := h.form
  injection hv with h1 h2 h3
  subst h1
  exact str_cell hr hk
end
end Go.Proofs.YtmikckhihfcooaaDoor
