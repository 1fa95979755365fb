/- slices.Delete of one element, at rows of the call's own: append in place, clear. slices.Delete at pages of both houses. slices.IndexFunc at pages of both houses; begin. -/
import Derived.Test.YtplgghjdidmcfaaGreatDoorPk23
import Derived.Laws.IdiomCopy
import Derived.Lib.SliceRun
import Derived.Lib.AppendZeros
namespace Go.Proofs.YtplgghjdidmcfaaGreatDoor
open Go.RowKit
theorem own_cellsH {base : Nat} {e : TypeId} {size n c g o : Nat} : ∀ {zs : List Value} {w : World} {xs : List Value} {j : Nat}, OwnO w base e size (.slice (some ⟨g, o, none⟩) n c) n xs → j + zs.length ≤ n * size →
    OwnO (w.setCells g (o + j) zs) base e size (.slice (some ⟨g, o, none⟩) n c) n (xs.take j ++ zs ++ xs.drop (j + zs.length))
  | [], w, xs, j, h, _ => by
    have e : xs.take j ++ [] ++ xs.drop (j + ([] : List Value).length) = xs := by simp
    rw [e]
    exact h
  | z :: zs, w, xs, j, h, hj => by
    rw [List.length_cons] at hj
    have hl := h.1
    have h1 := (own_setS h (j := j) (by omega) z).1
    have ea : (⟨g, o, none⟩ : Addr).add j = ⟨g, o + j, none⟩ := by unfold Addr.add; split <;> simp_all
    rw [ea] at h1
    have h2 := own_cellsH (zs := zs) (j := j + 1) h1 (by omega)
    have e : (xs.set j z).take (j + 1) ++ zs ++ (xs.set j z).drop (j + 1 + zs.length) = xs.take j ++ (z :: zs) ++ xs.drop (j + (z :: zs).length) := by
      rw [List.length_cons, List.take_set, List.drop_set_of_lt (by omega), List.take_succ_eq_append_getElem (by omega), List.set_append_right _ _ (by rw [List.length_take]; omega), List.length_take, Nat.min_eq_left (by omega), Nat.sub_self, List.set_cons_zero, show j + 1 + zs.length = j + (zs.length + 1) by omega]
      simp
    rw [e] at h2
    exact h2
theorem setCells_grownH {g : Nat} : ∀ (zs : List Value) (o : Nat) (w : World), w.grownBy (w.setCells g o zs) (some g)
  | [], _, w => gb_refl w _
  | z :: zs, o, w => gb_trans (gb_at (ad := ⟨g, o, none⟩) (gb_refl w _) ⟨g, o, none⟩ z rfl) (setCells_grownH zs (o + 1) _)
theorem clearO {P : Program} {t e : TypeId} {size : Nat} {z : Value} (ht : P.underlying t = some (.slice e)) (hv : ∀ w, (zeroValue e).run P w = .ok z w) (hz : z.cells.size = size) (hz1 : ∀ v ∈ z.cells.toList, v.oneCell' = true) (hs0 : 0 < size)
    {xs : List Value} {base N c c' k : Nat} {ad : Addr} {w : World} (h : OwnO w base e size (.slice (some ad) N c) N xs) (hk : k < N) (ty : TypeId) :
    ∃ w', (Builtin.clear_ #[t] ty #[.slice (some (ad.add (k * size))) (N - k) c']).run P w = .ok (.tuple #[]) w' ∧ OwnO w' base e size (.slice (some ad) k c) k (xs.take (k * size)) ∧ w.grownBy w' (some ad.block) := by
  have hown := h
  have hmul : k * size + (N - k) * size = N * size := by rw [← Nat.add_mul]; congr 1; omega
  rcases hown.2 with ⟨h1, _⟩ | ⟨g, o, cap, cur, h1, h2, h3, h4, h5, h6, h7⟩
  · cases h1
  · cases h1
    obtain ⟨zs, hzs⟩ : ∃ zs, zs = (Builtin.zeroCells z.cells (N - k)).toList := ⟨_, rfl⟩
    have hlz : zs.length = (N - k) * size := by rw [hzs, Array.length_toList, size_zeroCells, hz]
    have h8 : ∀ v ∈ zs, v.oneCell' = true := by
      intro v hv
      rw [hzs] at hv
      unfold Builtin.zeroCells at hv
      rw [Array.toList_map, List.mem_map] at hv
      obtain ⟨i, _, rfl⟩ := hv
      have hm : i % z.cells.size < z.cells.size := Nat.mod_lt _ (by omega)
      show (z.cells[i % z.cells.size]!).oneCell' = true
      rw [getElem!_pos z.cells _ hm]
      exact hz1 _ (by simp)
    have e0 : (⟨g, o, none⟩ : Addr).add (k * size) = ⟨g, o + k * size, none⟩ := by unfold Addr.add; split <;> simp_all
    have hcz : cur.toList.length = cur.size := by simp
    have hNc : N * size ≤ c * size := Nat.mul_le_mul_right _ h4
    have hst := run_storeCells_cells (P := P) g (o + k * size) zs 0 w (fun j hj => by
      rw [cell_of_row w g _ cur _ _ h3]
      rw [Array.getElem?_eq_getElem (by omega)]; rfl) (fun j _ => by simp [World.frozen?, h3]) h8
    simp only [Nat.add_zero] at hst
    have h9 := own_cellsH hown (zs := zs) (j := k * size) (by omega)
    have hxl := hown.1
    rw [List.drop_of_length_le (by omega), List.append_nil] at h9
    have h10 := h9.front (some ⟨g, o, none⟩) c k rfl (by omega) (by simp)
    rw [List.take_left' (by rw [List.length_take]; omega)] at h10
    refine ⟨_, ?_, h10, setCells_grownH zs (o + k * size) w⟩
    rw [e0]
    obtain ⟨q, hq⟩ : ∃ q, N - k = q + 1 := ⟨N - k - 1, by omega⟩
    rw [hq] at hzs ⊢
    simp [Builtin.clear_, run_underlying ht, hv, ← hzs, hst]
/-- Append in place: the front of a row, with what lies behind it in the same row. -/
theorem fitO {P : Program} {t ty e : TypeId} {i : TypeInfo} (ht : P.underlying t = some (.slice e)) (hi : P.info? e = some i) {size : Nat} (hsize : i.size = size) {base n N c : Nat} {ad : Addr} {xs : List Value} {w : World} (h : OwnO w base e size (.slice (some ad) N c) N xs)
    (a : Addr) (m c2 : Nat) (news : List Value) (hl : news.length = m * size) (hnews : ∀ j u, news[j]? = some u → w.cell? (a.add j) = some u) (h1 : ∀ u ∈ news, u.oneCell' = true) (hfit : n + m ≤ N) :
    ∃ w', (Builtin.append_ #[t, t] ty #[.slice (some ad) n c, .slice (some a) m c2]).run P w = .ok (.slice (some ad) (n + m) c) w' ∧ OwnO w' base e size (.slice (some ad) N c) N (xs.take (n * size) ++ news ++ xs.drop (n * size + news.length)) ∧ w.grownBy w' (some ad.block) := by
  have hown := h
  have hmul : n * size + m * size ≤ N * size := by rw [← Nat.add_mul]; exact Nat.mul_le_mul_right _ hfit
  rcases hown.2 with ⟨hh, _⟩ | ⟨g, o, cap, cur, hh, h2, h3, h4, h5, h6, h7⟩
  · cases hh
  · cases hh
    have hNc : N * size ≤ c * size := Nat.mul_le_mul_right _ h4
    have hst := run_storeCells_cells (P := P) g (o + n * size) news 0 w (fun j hj => by
      rw [cell_of_row w g _ cur _ _ h3]
      rw [Array.getElem?_eq_getElem (by omega)]; rfl) (fun j _ => by simp [World.frozen?, h3]) h1
    simp only [Nat.add_zero] at hst
    have h9 := own_cellsH hown (zs := news) (j := n * size) (by omega)
    have hf := run_firstCells_some (P := P) w i.size m a m c2 news (by rw [hsize]; exact hl) hnews
    have hadd : (⟨g, o, none⟩ : Addr).add (n * size) = ⟨g, o + n * size, none⟩ := by unfold Addr.add; split <;> simp_all
    have hroom : n + m ≤ c := by omega
    unfold maxLen at h5
    have hsmall : n + m ≤ 9223372036854775807 := by omega
    refine ⟨_, ?_, h9, setCells_grownH news (o + n * size) w⟩
    subst hsize
    simp [Builtin.append_, run_underlying ht, sizeOf, typeInfo, hi, Builtin.lenOf, hroom, hf, hadd, hst]
end Go.Proofs.YtplgghjdidmcfaaGreatDoor
namespace Go.Proofs.YtplgghjdidmcfaaGreatDoor
open Go.RowKit
theorem size_runH {P : Program} {e : TypeId} {i : TypeInfo} (h : P.info? e = some i) (w : World) : (sizeOf e).run P w = .ok i.size w := by
  simp [sizeOf, typeInfo, h]
theorem run_behindH {P : Program} {t : TypeId} (ht : P.underlying t = some (.slice (P.elem t))) {size : Nat} (hz : (P.info? (P.elem t)).map (·.size) = some size) (A : Option Addr) (n c a : Nat) (hab : a ≤ n) (w : World) :
    (Instr.sliceAt t (.slice A n c) (some (.int .i64 (a : Int))) none none).run P w = .ok (.slice (if c = a then A else A.map (·.add (a * size))) (n - a) (c - a)) w := by
  obtain ⟨i, hi, rfl⟩ := Option.map_eq_some_iff.1 hz
  rw [run_sliceAt_slice w t _ _ _ _ ht, run_slice_l w t A n c ht .i64 a (by omega) (by omega)]
  rw [size_runH hi, Result.andThen]
  simp [sliced]
theorem info_pc : (Tryz.prog.info? 61).map (fun i => (i.zero, i.size, i.bytes)) = some (some (.agg #[.string ByteArray.empty, .pointer none, .pointer none]), 3, 32) := by kernel_rfl
theorem info_rc : (Tryz.prog.info? 82).map (fun i => (i.zero, i.size, i.bytes)) = some (some (.agg #[.string ByteArray.empty, .string ByteArray.empty, .string ByteArray.empty, .int .i64 0, .slice none 0 0, .slice none 0 0]), 6, 104) := by kernel_rfl
theorem cut_eq {α : Type} {ec : α → List Value} {m : Nat} (hec : ∀ x, (ec x).length = m) : ∀ (l : List α) (i : Nat), i < l.length → (l.flatMap ec).take (i * m) ++ (l.flatMap ec).drop ((i + 1) * m) = (l.eraseIdx i).flatMap ec
  | [], i, h => by simp at h
  | a :: l, 0, _ => by
    rw [List.eraseIdx_cons_zero, List.flatMap_cons, Nat.zero_mul, List.take_zero, List.nil_append, Nat.zero_add, Nat.one_mul, List.drop_left' (hec a)]
  | a :: l, i + 1, h => by
    rw [List.eraseIdx_cons_succ, List.flatMap_cons, List.flatMap_cons, ← cut_eq hec l i (by simpa using h)]
    have e1 : (i + 1) * m = (ec a).length + i * m := by rw [hec, Nat.add_mul, Nat.one_mul, Nat.add_comm]
    have e2 : (i + 1 + 1) * m = (ec a).length + (i + 1) * m := by rw [hec, Nat.add_mul (i + 1) 1 m, Nat.one_mul, Nat.add_comm]
    rw [e2]
    obtain ⟨K, hK⟩ : ∃ K, (i + 1) * m = K := ⟨_, rfl⟩
    rw [hK] at e1 ⊢
    have t1 : ∀ F : List Value, List.take K (ec a ++ F) = ec a ++ List.take (i * m) F := fun F => by
      rw [e1, List.take_append, List.take_of_length_le (by omega), Nat.add_sub_cancel_left]
    have t2 : ∀ F : List Value, List.drop ((ec a).length + K) (ec a ++ F) = List.drop K F := fun F => by
      rw [List.drop_append, List.drop_of_length_le (by omega), Nat.add_sub_cancel_left, List.nil_append]
    rw [t1, t2, List.append_assoc]
set_option maxRecDepth 100000 in
set_option maxHeartbeats 4000000 in
theorem delPc0 (xs : List Value) (v : Value) (N i base : Nat) (w : World) (h : OwnO w base 61 3 v N xs) (hcl : i < N) (hN : N ≤ 1000) (h1 : ∀ u ∈ xs, u.oneCell' = true) :
    Calls Tryz.prog 30 #[v, .int .i64 (i : Int), .int .i64 ((i : Int) + 1)] w fun e w' => ∃ A c, v = .slice A N c ∧ e = .returned (.slice A (N - 1) c) ∧ OwnO w' base 61 3 (.slice A (N - 1) c) (N - 1) (xs.take (i * 3) ++ xs.drop ((i + 1) * 3)) ∧ w.grownBy w' v.ownBlock := by
  obtain ⟨i0, hi0, hz0, hz1, hz2⟩ := info_parts info_pc
  obtain ⟨M, hM⟩ : ∃ M, N = M + 1 := ⟨N - 1, by omega⟩
  rcases h.2 with ⟨_, h0⟩ | ⟨g, o, c, cur, rfl, _, _, hnc, hcm, _, _⟩
  · omega
  obtain ⟨ad, had⟩ : ∃ ad : Addr, ad = ⟨g, o, none⟩ := ⟨_, rfl⟩
  rw [← had] at h ⊢
  clear had
  obtain ⟨A2, hA2⟩ : ∃ A2, (if c = i + 1 then ad else ad.add ((i + 1) * 3)) = A2 := ⟨_, rfl⟩
  have hcutB : ∀ W, (Instr.sliceAt 55 (.slice (some ad) N c) (some (.int .i64 ((i : Int) + 1))) none none).run Tryz.prog W = .ok (.slice (some A2) (M - i) (c - (i + 1))) W := fun W => by
    have h9 := run_behindH (t := 55) Tryz.underlying55 (by kernel_rfl) (size := 3) (some ad) N c (i + 1) (by omega) W
    rw [show (((i + 1 : Nat)) : Int) = (i : Int) + 1 by omega] at h9
    rw [h9, ← hA2, show N - (i + 1) = M - i by omega]
    split <;> rfl
  obtain ⟨news, hnw⟩ : ∃ news, news = xs.drop ((i + 1) * 3) := ⟨_, rfl⟩
  have hxl := h.1
  have hnl : news.length = (N - (i + 1)) * 3 := by rw [hnw, List.length_drop, hxl, ← Nat.sub_mul]
  obtain ⟨_, _, hv, _, _, hrd⟩ := h.form
  have hnews : ∀ j u, news[j]? = some u → w.cell? (A2.add j) = some u := fun j u hj => by
    injection hv with hv
    subst hv
    obtain ⟨a2, e2, _, hc2⟩ := hrd.2 (by omega)
    cases e2
    have hjl := (List.getElem?_eq_some_iff.1 hj).1
    rw [hnw, List.getElem?_drop] at hj
    by_cases hci : c = i + 1
    · rw [hnl, show N - (i + 1) = 0 by omega] at hjl
      omega
    · rw [if_neg hci] at hA2
      rw [← hA2, add_add]
      exact hc2 _ u hj
  have hone : ∀ u ∈ news, u.oneCell' = true := fun u hu => h1 u (by rw [hnw] at hu; exact List.mem_of_mem_drop hu)
  have hrun := fitO (ty := 55) (w := w.drew) Tryz.underlying55 hi0 hz1 (h.below (Below.drew (Below.refl _ _))) (n := i) A2 (N - (i + 1)) (c - (i + 1)) news hnl hnews hone (by omega)
  have HFR : Hid (∀ W2 : World, OwnO W2 base 61 3 (.slice (some ad) N c) N (xs.take (i * 3) ++ news ++ xs.drop (i * 3 + news.length)) → ∃ w', (Builtin.clear_ #[55] 0 #[.slice (some (ad.add (M * 3))) 1 (c - M)]).run Tryz.prog W2 = .ok (.tuple #[]) w' ∧ OwnO w' base 61 3 (.slice (some ad) M c) M (xs.take (i * 3) ++ xs.drop ((i + 1) * 3)) ∧ W2.grownBy w' (some ad.block)) := fun W2 hW2 => by
    obtain ⟨w', e1, e2, e3⟩ := clearO (size := 3) Tryz.underlying55 (z := (.agg #[.string ByteArray.empty, .pointer none, .pointer none])) (fun w => by kernel_rfl) rfl (by decide) (by decide) hW2 (k := M) (c' := c - M) (by omega) 0
    rw [show N - M = 1 by omega] at e1
    refine ⟨w', e1, ?_, e3⟩
    have hq : (xs.take (i * 3) ++ news ++ xs.drop (i * 3 + news.length)).take (M * 3) = xs.take (i * 3) ++ xs.drop ((i + 1) * 3) := by
      rw [List.take_left' (by rw [List.length_append, List.length_take, hnl]; omega), hnw]
    rwa [hq] at e2
  obtain ⟨w6, hr6, ho6, hg6⟩ := hrun
  rw [show N - (i + 1) = M - i by omega, show i + (M - i) = M by omega] at hr6
  have HR6 := Lib.hid hr6
  obtain ⟨w7, hclr, ho7, hg7⟩ := HFR.out w6 ho6
  have HO7 := Lib.hid ho7
  have HG7 : Hid (w.grownBy w7 (some ad.block)) := gb_trans (gb_drew (gb_refl w (some ad.block))) (gb_trans hg6 hg7)
  have hMN : M ≤ 1000 := by omega
  have hMc : M + 1 ≤ c := by omega
  have hck : ¬ c = M := by omega
  have hNc := hnc
  have g1 : ((i : Int) == (i : Int) + 1) = false := by rw [beq_eq_false_iff_ne]; omega
  have HNM := Lib.hid hM
  clear hr6 ho6 hg6 ho7 hg7 HFR hnews hone hnl hxl hnw hv hrd hA2 h1 h
  subst hM
  go_enter Tryz.func30, Tryz.ntmps30
  go_wp2_with fail
  obtain ⟨F1, hFd⟩ : ∃ F : World → Prop, F = fun w' => True := ⟨_, rfl⟩
  have HF1 := Lib.hid hFd
  clear hFd
  refine wp_region_schedF [(0, true), (1, true), (2, true), (3, true), (4, true), (5, true), (6, false), (7, true)] F1 (by kernel_rfl) (by kernel_rfl) rfl (fun _ _ _ _ _ h => h) (by kernel_rfl) (by rw [HF1.out]; first | ((repeat' apply And.intro) <;> assumption) | trivial | (simp; done) | (simp [*]; done)) (by rw [HF1.out]; exact fun h => h) ?_
  intro hne1
  simp only [opersOf, List.getElem?_toArray, List.getElem?_cons_succ, List.getElem?_cons_zero]
  repeat (first | (refine wpSched_free rfl ?_; intro K hK; go_big_quiet_op; go_big_quiet_on) | (refine wpSched_wantS _ rfl rfl rfl ?_; intro K hK; go_big_quiet_op; go_big_quiet_on) | (refine wpSched_skipS _ rfl rfl rfl rfl ?_; simp only [Act.put, List.setIfInBounds_toArray, List.set_cons_zero, List.set_cons_succ]) | (refine wpSched_skipU _ rfl rfl rfl ?_; simp only [Act.put, List.setIfInBounds_toArray, List.set_cons_zero, List.set_cons_succ]))
  refine wpSched_other ?_
  go_wp2_with (at_builtin; go_must (refine Lib.wpList_append_run _ rfl _ _ _ _ rfl _ _ rfl rfl _ _ HR6.out ?_))
  refine sched_back (by rw [HF1.out]; trivial) ?_
  repeat (first | (refine wpSched_free rfl ?_; intro K hK; go_big_quiet_op; go_big_quiet_on) | (refine wpSched_wantS _ rfl rfl rfl ?_; intro K hK; go_big_quiet_op; go_big_quiet_on) | (refine wpSched_skipS _ rfl rfl rfl rfl ?_; simp only [Act.put, List.setIfInBounds_toArray, List.set_cons_zero, List.set_cons_succ]) | (refine wpSched_skipU _ rfl rfl rfl ?_; simp only [Act.put, List.setIfInBounds_toArray, List.set_cons_zero, List.set_cons_succ]))
  refine wpSched_nil ?_
  go_wp2_with fail
  go_ret
  exact ⟨some ad, c, rfl, rfl, HO7.out, HG7.out⟩
set_option maxRecDepth 100000 in
set_option maxHeartbeats 4000000 in
theorem delRc0 (xs : List Value) (v : Value) (N i base : Nat) (w : World) (h : OwnO w base 82 6 v N xs) (hcl : i < N) (hN : N ≤ 1000) (h1 : ∀ u ∈ xs, u.oneCell' = true) :
    Calls Tryz.prog 36 #[v, .int .i64 (i : Int), .int .i64 ((i : Int) + 1)] w fun e w' => ∃ A c, v = .slice A N c ∧ e = .returned (.slice A (N - 1) c) ∧ OwnO w' base 82 6 (.slice A (N - 1) c) (N - 1) (xs.take (i * 6) ++ xs.drop ((i + 1) * 6)) ∧ w.grownBy w' v.ownBlock := by
  obtain ⟨i0, hi0, hz0, hz1, hz2⟩ := info_parts info_rc
  obtain ⟨M, hM⟩ : ∃ M, N = M + 1 := ⟨N - 1, by omega⟩
  rcases h.2 with ⟨_, h0⟩ | ⟨g, o, c, cur, rfl, _, _, hnc, hcm, _, _⟩
  · omega
  obtain ⟨ad, had⟩ : ∃ ad : Addr, ad = ⟨g, o, none⟩ := ⟨_, rfl⟩
  rw [← had] at h ⊢
  clear had
  obtain ⟨A2, hA2⟩ : ∃ A2, (if c = i + 1 then ad else ad.add ((i + 1) * 6)) = A2 := ⟨_, rfl⟩
  have hcutB : ∀ W, (Instr.sliceAt 27 (.slice (some ad) N c) (some (.int .i64 ((i : Int) + 1))) none none).run Tryz.prog W = .ok (.slice (some A2) (M - i) (c - (i + 1))) W := fun W => by
    have h9 := run_behindH (t := 27) Tryz.underlying27 (by kernel_rfl) (size := 6) (some ad) N c (i + 1) (by omega) W
    rw [show (((i + 1 : Nat)) : Int) = (i : Int) + 1 by omega] at h9
    rw [h9, ← hA2, show N - (i + 1) = M - i by omega]
    split <;> rfl
  obtain ⟨news, hnw⟩ : ∃ news, news = xs.drop ((i + 1) * 6) := ⟨_, rfl⟩
  have hxl := h.1
  have hnl : news.length = (N - (i + 1)) * 6 := by rw [hnw, List.length_drop, hxl, ← Nat.sub_mul]
  obtain ⟨_, _, hv, _, _, hrd⟩ := h.form
  have hnews : ∀ j u, news[j]? = some u → w.cell? (A2.add j) = some u := fun j u hj => by
    injection hv with hv
    subst hv
    obtain ⟨a2, e2, _, hc2⟩ := hrd.2 (by omega)
    cases e2
    have hjl := (List.getElem?_eq_some_iff.1 hj).1
    rw [hnw, List.getElem?_drop] at hj
    by_cases hci : c = i + 1
    · rw [hnl, show N - (i + 1) = 0 by omega] at hjl
      omega
    · rw [if_neg hci] at hA2
      rw [← hA2, add_add]
      exact hc2 _ u hj
  have hone : ∀ u ∈ news, u.oneCell' = true := fun u hu => h1 u (by rw [hnw] at hu; exact List.mem_of_mem_drop hu)
  have hrun := fitO (ty := 27) (w := w.drew) Tryz.underlying27 hi0 hz1 (h.below (Below.drew (Below.refl _ _))) (n := i) A2 (N - (i + 1)) (c - (i + 1)) news hnl hnews hone (by omega)
  have HFR : Hid (∀ W2 : World, OwnO W2 base 82 6 (.slice (some ad) N c) N (xs.take (i * 6) ++ news ++ xs.drop (i * 6 + news.length)) → ∃ w', (Builtin.clear_ #[27] 0 #[.slice (some (ad.add (M * 6))) 1 (c - M)]).run Tryz.prog W2 = .ok (.tuple #[]) w' ∧ OwnO w' base 82 6 (.slice (some ad) M c) M (xs.take (i * 6) ++ xs.drop ((i + 1) * 6)) ∧ W2.grownBy w' (some ad.block)) := fun W2 hW2 => by
    obtain ⟨w', e1, e2, e3⟩ := clearO (size := 6) Tryz.underlying27 (z := (.agg #[.string ByteArray.empty, .string ByteArray.empty, .string ByteArray.empty, .int .i64 0, .slice none 0 0, .slice none 0 0])) (fun w => by kernel_rfl) rfl (by decide) (by decide) hW2 (k := M) (c' := c - M) (by omega) 0
    rw [show N - M = 1 by omega] at e1
    refine ⟨w', e1, ?_, e3⟩
    have hq : (xs.take (i * 6) ++ news ++ xs.drop (i * 6 + news.length)).take (M * 6) = xs.take (i * 6) ++ xs.drop ((i + 1) * 6) := by
      rw [List.take_left' (by rw [List.length_append, List.length_take, hnl]; omega), hnw]
    rwa [hq] at e2
  obtain ⟨w6, hr6, ho6, hg6⟩ := hrun
  rw [show N - (i + 1) = M - i by omega, show i + (M - i) = M by omega] at hr6
  have HR6 := Lib.hid hr6
  obtain ⟨w7, hclr, ho7, hg7⟩ := HFR.out w6 ho6
  have HO7 := Lib.hid ho7
  have HG7 : Hid (w.grownBy w7 (some ad.block)) := gb_trans (gb_drew (gb_refl w (some ad.block))) (gb_trans hg6 hg7)
  have hMN : M ≤ 1000 := by omega
  have hMc : M + 1 ≤ c := by omega
  have hck : ¬ c = M := by omega
  have hNc := hnc
  have g1 : ((i : Int) == (i : Int) + 1) = false := by rw [beq_eq_false_iff_ne]; omega
  have HNM := Lib.hid hM
  clear hr6 ho6 hg6 ho7 hg7 HFR hnews hone hnl hxl hnw hv hrd hA2 h1 h
  subst hM
  go_enter Tryz.func36, Tryz.ntmps36
  go_wp2_with fail
  obtain ⟨F1, hFd⟩ : ∃ F : World → Prop, F = fun w' => True := ⟨_, rfl⟩
  have HF1 := Lib.hid hFd
  clear hFd
  refine wp_region_schedF [(0, true), (1, true), (2, true), (3, true), (4, true), (5, true), (6, false), (7, true)] F1 (by kernel_rfl) (by kernel_rfl) rfl (fun _ _ _ _ _ h => h) (by kernel_rfl) (by rw [HF1.out]; first | ((repeat' apply And.intro) <;> assumption) | trivial | (simp; done) | (simp [*]; done)) (by rw [HF1.out]; exact fun h => h) ?_
  intro hne1
  simp only [opersOf, List.getElem?_toArray, List.getElem?_cons_succ, List.getElem?_cons_zero]
  repeat (first | (refine wpSched_free rfl ?_; intro K hK; go_big_quiet_op; go_big_quiet_on) | (refine wpSched_wantS _ rfl rfl rfl ?_; intro K hK; go_big_quiet_op; go_big_quiet_on) | (refine wpSched_skipS _ rfl rfl rfl rfl ?_; simp only [Act.put, List.setIfInBounds_toArray, List.set_cons_zero, List.set_cons_succ]) | (refine wpSched_skipU _ rfl rfl rfl ?_; simp only [Act.put, List.setIfInBounds_toArray, List.set_cons_zero, List.set_cons_succ]))
  refine wpSched_other ?_
  go_wp2_with (at_builtin; go_must (refine Lib.wpList_append_run _ rfl _ _ _ _ rfl _ _ rfl rfl _ _ HR6.out ?_))
  refine sched_back (by rw [HF1.out]; trivial) ?_
  repeat (first | (refine wpSched_free rfl ?_; intro K hK; go_big_quiet_op; go_big_quiet_on) | (refine wpSched_wantS _ rfl rfl rfl ?_; intro K hK; go_big_quiet_op; go_big_quiet_on) | (refine wpSched_skipS _ rfl rfl rfl rfl ?_; simp only [Act.put, List.setIfInBounds_toArray, List.set_cons_zero, List.set_cons_succ]) | (refine wpSched_skipU _ rfl rfl rfl ?_; simp only [Act.put, List.setIfInBounds_toArray, List.set_cons_zero, List.set_cons_succ]))
  refine wpSched_nil ?_
  go_wp2_with fail
  go_ret
  exact ⟨some ad, c, rfl, rfl, HO7.out, HG7.out⟩
/-- A page struck out of a house. -/
theorem HsAt.cut {w w' : World} {base gh : Nat} {A : Option Addr} {n c i : Nat} {ps : List Pc} (h : HsAt w base gh (.slice A n c) ps) (hi : i < ps.length) (ho : OwnO w' base 61 3 (.slice A (ps.length - 1) c) (ps.length - 1) ((pcCells ps).take (i * 3) ++ (pcCells ps).drop ((i + 1) * 3))) (hg : w.grownBy w' (Value.slice A n c).ownBlock) :
    HsAt (w'.setCell ⟨gh, 0, none⟩ (.slice A (ps.length - 1) c)) base gh (.slice A (ps.length - 1) c) (ps.eraseIdx i) := by
  have hob : (Value.slice A (ps.length - 1) c).ownBlock = (Value.slice A n c).ownBlock := by cases A <;> rfl
  have hbx : Blk w' gh 57 #[.slice A n c] := h.blk.grown hg fun e => by
    rcases h.boxRow with h1 | h1
    · rw [h1] at e; cases e
    · exact h1 e.symm
  have hc : Chg w w' (fun k => (Value.slice A n c).ownBlock = some k) := Chg.of_gb hg fun k hk => hk
  have hc2 := Chg.setH w' ⟨gh, 0, none⟩ (.slice A (ps.length - 1) c)
  have hl : (ps.eraseIdx i).length = ps.length - 1 := by rw [List.length_eraseIdx, if_pos hi]
  refine ⟨hbx.set_ 0 _, h.lo, ?_, fun p hp => ?_, h.dis.sublist (List.eraseIdx_sublist ..)⟩
  · rw [hl]
    have e : pcCells (ps.eraseIdx i) = (pcCells ps).take (i * 3) ++ (pcCells ps).drop ((i + 1) * 3) := (cut_eq pc_len ps i hi).symm
    rw [e]
    exact ho.far (ho.ne_blk hbx (by decide)) _ _
  · have hm := List.mem_of_mem_eraseIdx hp
    exact ((h.pg p hm).chg hc fun k hk he => h.offRow hm he hk).chg hc2 fun k hk he => by
      have h9 := ((h.pg p hm).chg hc fun k hk he => h.offRow hm he hk).off hbx.ty (by decide) (by decide) (by decide) (by decide)
      subst he
      exact h9 hk
end Go.Proofs.YtplgghjdidmcfaaGreatDoor
namespace Go.Proofs.YtplgghjdidmcfaaGreatDoor
open Go.RowKit
/-- What IndexFunc says of a name. -/
def idxZ (nm : ByteArray) (P : List Ps) : Int := if fnd nm P < P.length then (fnd nm P : Int) else -1
theorem fnd_at {nm : ByteArray} {P : List Ps} {k : Nat} (hk : k < P.length) (h : L P[k].nm = L nm) (hn : ∀ j (hj : j < P.length), j < k → L P[j].nm ≠ L nm) : idxZ nm P = (k : Int) := by
  have e : fnd nm P = k := by
    unfold fnd
    rw [List.findIdx_eq hk]
    exact ⟨decide_eq_true h, fun j hj => decide_eq_false (hn j (by omega) hj)⟩
  unfold idxZ
  rw [e, if_pos hk]
theorem fnd_no {nm : ByteArray} {P : List Ps} (hn : ∀ j (hj : j < P.length), L P[j].nm ≠ L nm) : idxZ nm P = -1 := by
  have e : fnd nm P = P.length := by
    unfold fnd
    rw [List.findIdx_eq_length]
    intro x hx
    obtain ⟨j, hj, rfl⟩ := List.getElem_of_mem hx
    exact decide_eq_false (hn j hj)
  unfold idxZ
  rw [e, if_neg (by omega)]
theorem idxZ_pos {nm : ByteArray} {P : List Ps} (h : fnd nm P < P.length) : idxZ nm P = (fnd nm P : Int) := by unfold idxZ; rw [if_pos h]
theorem idxZ_neg {nm : ByteArray} {P : List Ps} (h : ¬ fnd nm P < P.length) : idxZ nm P = -1 := by unfold idxZ; rw [if_neg h]
theorem rc_cell {w : World} {B n k : Nat} {A : Option Addr} {l : List Rc} (h : Rd w B 6 A n (rcCells l)) (hl : k < l.length) (hn : l.length = n) : ∃ ad, A = some ad ∧ ad.block < B ∧ w.cell? (ad.add (k * 6)) = some (.string l[k].s.nm) ∧ w.cell? ⟨(ad.add (k * 6)).block, (ad.add (k * 6)).off + 1, none⟩ = some (.string l[k].s.tx) ∧
      w.cell? ⟨(ad.add (k * 6)).block, (ad.add (k * 6)).off + 2, none⟩ = some (.string l[k].s.d) ∧ w.cell? ⟨(ad.add (k * 6)).block, (ad.add (k * 6)).off + 3, none⟩ = some (.int .i64 (l[k].s.sf : Int)) ∧
      w.cell? ⟨(ad.add (k * 6)).block, (ad.add (k * 6)).off + 4, none⟩ = some (.slice l[k].Ab l[k].s.back.length l[k].cb) ∧ w.cell? ⟨(ad.add (k * 6)).block, (ad.add (k * 6)).off + 5, none⟩ = some (.slice l[k].Ao l[k].s.onward.length l[k].co) := by
  obtain ⟨ad, hl', e, hb, hc⟩ := Rd.at_rec rc_len (by omega) h (k := k) (by omega)
  refine ⟨ad, e, hb, hc 0 _ rfl, ?_, ?_, ?_, ?_, ?_⟩
  · have h1 := hc 1 _ rfl
    rwa [← add_add] at h1
  · have h1 := hc 2 _ rfl
    rwa [← add_add] at h1
  · have h1 := hc 3 _ rfl
    rwa [← add_add] at h1
  · have h1 := hc 4 _ rfl
    rwa [← add_add] at h1
  · have h1 := hc 5 _ rfl
    rwa [← add_add] at h1
def Rc.val (r : Rc) : Value := .agg #[.string r.s.nm, .string r.s.tx, .string r.s.d, .int .i64 (r.s.sf : Int), .slice r.Ab r.s.back.length r.cb, .slice r.Ao r.s.onward.length r.co]
set_option maxRecDepth 100000 in
theorem refSame_any (r : Rc) (nm : ByteArray) (g : Nat) (w : World) (hg : g < w.heap.size) (hc : w.cell? ⟨g, 2, none⟩ = some (.string nm)) :
    Calls Tryz.prog 33 #[r.val, .pointer (some ⟨g, 0, none⟩)] w fun e w' => e = .returned (.bool (decide (L r.s.nm = L nm))) ∧ Below w.heap.size w w' := by
  have HE : Hid ((r.s.nm.toList == nm.toList) = decide (L r.s.nm = L nm)) := by
    rw [Hid, Bool.eq_iff_iff, beq_iff_eq, decide_eq_true_iff, ByteArray.toList_eq, ByteArray.toList_eq]
    exact Iff.rfl
  have hc1 : ∀ o, (w.alloc o).cell? ⟨g, 2, none⟩ = some (.string nm) := fun o => (World.cell?_alloc_lt _ _ _ hg).trans hc
  rw [← HE.out]
  unfold Rc.val
  obtain ⟨⟨pn, ptx, pd, psf, pb, po⟩, pAb, pcb, pAo, pco⟩ := r
  simp only
  generalize pb.length = nb at *
  generalize po.length = no at *
  go_enter Tryz.func33, Tryz.ntmps33
  go_wp2_with fail
  go_ret
  exact ⟨rfl, (by repeat (first | exact Below.refl _ _ | assumption | refine Below.alloc ?_ (by first | exact Nat.le_refl _ | assumption | omega | (simp <;> omega)) _ | refine Below.setCell ?_ (by first | exact Nat.le_refl _ | assumption | omega | (simp <;> omega)) _ | refine Below.drew ?_ | refine below_drewN ?_ _))⟩
set_option maxRecDepth 100000 in
set_option maxHeartbeats 1000000 in
theorem idxPc_any (ps : List Pc) (nm : ByteArray) (A : Option Addr) (m c B g : Nat) (w : World) (hr : Rd w B 3 A m (pcCells ps)) (hB : B ≤ w.heap.size) (hm : m ≤ 1000) (hl0 : ps.length = m) (hg : g < w.heap.size) (hc : w.cell? ⟨g, 2, none⟩ = some (.string nm)) :
    Calls Tryz.prog 19 #[.slice A m c, .func (.func 20) #[] #[.pointer (some ⟨g, 0, none⟩)]] w fun e w' => e = .returned (.int .i64 (idxZ nm (ps.map Pc.s))) ∧ Below w.heap.size w w' := by
  have HR := Lib.hid hr
  have HP : Hid ((ps.map Pc.s).length = ps.length) := List.length_map ..
  clear hr
  go_enter Tryz.func19, Tryz.ntmps19
  go_wp2_with fail
  go_loopw [8] (fun iv wr => ∃ k : Nat, k ≤ m ∧ iv = .int .i64 (k : Int) ∧ Hid (∀ j (hj : j < (ps.map Pc.s).length), j < k → L (ps.map Pc.s)[j].nm ≠ L nm) ∧ Below w.heap.size w wr) (fun iv _ => m - (intOf iv).toNat)
  case atStart => exact ⟨0, Nat.zero_le _, rfl, fun j _ h => absurd h (by omega), Below.refl _ _⟩
  case round =>
    obtain ⟨k, hk, rfl, HN, hb⟩ := hrel
    have hbs := hb.size
    by_cases hlt : k < m
    · have g1 : decide ((k : Int) < (m : Int)) = true := decide_eq_true (by omega)
      have g1' : decide (k < m) = true := decide_eq_true hlt
      have hl : k < ps.length := by omega
      obtain ⟨ad, rfl, _, c0, c1, c2⟩ := pc_cell (HR.out.below (hb.mono hB)) hl hl0
      have HX := Lib.hid (houSame_any ps[k] nm g wr (Nat.lt_of_lt_of_le hg hbs) ((hb.cell (p := ⟨g, 2, none⟩) hg).trans hc))
      have HMP : Hid (∀ h : k < (ps.map Pc.s).length, L (ps.map Pc.s)[k].nm = L ps[k].s.nm) := fun h => by rw [List.getElem_map]
      have HKL : Hid (k < (ps.map Pc.s).length) := by rw [Hid, HP.out]; exact hl
      by_cases he : L ps[k].s.nm = L nm
      · have HV : Hid (idxZ nm (ps.map Pc.s) = (k : Int)) := fnd_at HKL.out ((HMP.out HKL.out).trans he) HN.out
        rw [decide_eq_true he] at HX
        clear HMP he
        skip
        go_wp2_with fail
        refine HX.out.mono ?_
        rintro e w2 ⟨rfl, hb2⟩
        have hb3 := bthen hb hb2
        go_wp2_with fail
        go_ret
        exact ⟨ret_int HV.out.symm, hb3⟩
      · have HN2 : Hid (∀ j (hj : j < (ps.map Pc.s).length), j < k + 1 → L (ps.map Pc.s)[j].nm ≠ L nm) := fun j hj hjk => by
          by_cases e : j = k
          · subst e
            rw [HMP.out hj]; exact he
          · exact HN.out j hj (by omega)
        rw [decide_eq_false he] at HX
        clear HMP he
        skip
        go_wp2_with fail
        refine HX.out.mono ?_
        rintro e w2 ⟨rfl, hb2⟩
        have hb3 := bthen hb hb2
        go_wp2_with fail
        go_roundw
        case rel => exact ⟨k + 1, by omega, by go_num, HN2.out, hb3⟩
        case measure => simp [intOf]; omega
    · obtain rfl : k = m := by omega
      have g1 : decide ((k : Int) < (k : Int)) = false := decide_eq_false (by omega)
      have g1' : decide (k < k) = false := decide_eq_false hlt
      have HV : Hid (idxZ nm (ps.map Pc.s) = -1) := fnd_no fun j hj => HN.out j hj (by have := HP.out; omega)
      go_wp2_with fail
      go_ret
      exact ⟨ret_int HV.out.symm, hb⟩
set_option maxRecDepth 100000 in
set_option maxHeartbeats 1000000 in
theorem idxRc_any (ps : List Rc) (nm : ByteArray) (A : Option Addr) (m c B g : Nat) (w : World) (hr : Rd w B 6 A m (rcCells ps)) (hB : B ≤ w.heap.size) (hm : m ≤ 1000) (hl0 : ps.length = m) (hg : g < w.heap.size) (hc : w.cell? ⟨g, 2, none⟩ = some (.string nm)) :
    Calls Tryz.prog 32 #[.slice A m c, .func (.func 33) #[] #[.pointer (some ⟨g, 0, none⟩)]] w fun e w' => e = .returned (.int .i64 (idxZ nm (ps.map Rc.s))) ∧ Below w.heap.size w w' := by
  have HR := Lib.hid hr
  have HP : Hid ((ps.map Rc.s).length = ps.length) := List.length_map ..
  clear hr
  go_enter Tryz.func32, Tryz.ntmps32
  go_wp2_with fail
  go_loopw [8] (fun iv wr => ∃ k : Nat, k ≤ m ∧ iv = .int .i64 (k : Int) ∧ Hid (∀ j (hj : j < (ps.map Rc.s).length), j < k → L (ps.map Rc.s)[j].nm ≠ L nm) ∧ Below w.heap.size w wr) (fun iv _ => m - (intOf iv).toNat)
  case atStart => exact ⟨0, Nat.zero_le _, rfl, fun j _ h => absurd h (by omega), Below.refl _ _⟩
  case round =>
    obtain ⟨k, hk, rfl, HN, hb⟩ := hrel
    have hbs := hb.size
    by_cases hlt : k < m
    · have g1 : decide ((k : Int) < (m : Int)) = true := decide_eq_true (by omega)
      have g1' : decide (k < m) = true := decide_eq_true hlt
      have hl : k < ps.length := by omega
      obtain ⟨ad, rfl, _, c0, c1, c2, c3, c4, c5⟩ := rc_cell (HR.out.below (hb.mono hB)) hl hl0
      have HX := Lib.hid (refSame_any ps[k] nm g wr (Nat.lt_of_lt_of_le hg hbs) ((hb.cell (p := ⟨g, 2, none⟩) hg).trans hc))
      have HMP : Hid (∀ h : k < (ps.map Rc.s).length, L (ps.map Rc.s)[k].nm = L ps[k].s.nm) := fun h => by rw [List.getElem_map]
      have HKL : Hid (k < (ps.map Rc.s).length) := by rw [Hid, HP.out]; exact hl
      by_cases he : L ps[k].s.nm = L nm
      · have HV : Hid (idxZ nm (ps.map Rc.s) = (k : Int)) := fnd_at HKL.out ((HMP.out HKL.out).trans he) HN.out
        rw [decide_eq_true he] at HX
        clear HMP he
        unfold Rc.val at HX
        go_wp2_with fail
        refine HX.out.mono ?_
        rintro e w2 ⟨rfl, hb2⟩
        have hb3 := bthen hb hb2
        go_wp2_with fail
        go_ret
        exact ⟨ret_int HV.out.symm, hb3⟩
      · have HN2 : Hid (∀ j (hj : j < (ps.map Rc.s).length), j < k + 1 → L (ps.map Rc.s)[j].nm ≠ L nm) := fun j hj hjk => by
          by_cases e : j = k
          · subst e
            rw [HMP.out hj]; exact he
          · exact HN.out j hj (by omega)
        rw [decide_eq_false he] at HX
        clear HMP he
        unfold Rc.val at HX
        go_wp2_with fail
        refine HX.out.mono ?_
        rintro e w2 ⟨rfl, hb2⟩
        have hb3 := bthen hb hb2
        go_wp2_with fail
        go_roundw
        case rel => exact ⟨k + 1, by omega, by go_num, HN2.out, hb3⟩
        case measure => simp [intOf]; omega
    · obtain rfl : k = m := by omega
      have g1 : decide ((k : Int) < (k : Int)) = false := decide_eq_false (by omega)
      have g1' : decide (k < k) = false := decide_eq_false hlt
      have HV : Hid (idxZ nm (ps.map Rc.s) = -1) := fnd_no fun j hj => HN.out j hj (by have := HP.out; omega)
      go_wp2_with fail
      go_ret
      exact ⟨ret_int HV.out.symm, hb⟩
end Go.Proofs.YtplgghjdidmcfaaGreatDoor
