/- The reference's PhrasesOf. -/
import Derived.Test.YthnedhfjochfnaaPhraseP
import Derived.Test.YthnedhfjochfnaaMapSI
namespace Go.Proofs.Ythnedhfjochfnaa
open Go.RowKit
/-- What the map says. -/
def idxF (T : List (List UInt8)) (t : List UInt8) : Option Int := if t ∈ T then some ((T.idxOf t : Nat) : Int) else none
theorem idxF_start : ∀ t, (if t = L ByteArray.empty then some (0 : Int) else none) = idxF [[]] t := by
  intro t
  unfold idxF
  by_cases h : t = []
  · subst h; simp [L_empty]
  · rw [if_neg (by rw [L_empty]; exact h), if_neg (by simpa using h)]
theorem idxF_add {T : List (List UInt8)} {u : List UInt8} (h : u ∉ T) : ∀ t, (if t = u then some (T.length : Int) else idxF T t) = idxF (T ++ [u]) t := by
  intro t
  unfold idxF
  by_cases e : t = u
  · subst e
    rw [if_pos rfl, if_pos (by simp), List.idxOf_append, if_neg h]
    simp
  · rw [if_neg e]
    by_cases ht : t ∈ T
    · rw [if_pos ht, if_pos (by simp [ht]), List.idxOf_append, if_pos ht]
    · rw [if_neg ht, if_neg (by simp [ht, e])]
structure RefAt (l : List UInt8) (k : Nat) (T : List (List UInt8)) (cur : List UInt8) (o : List (Nat × UInt8)) : Prop where
  le : k ≤ l.length
  mem : cur ∈ T
  curl : cur.length ≤ k
  len : T.length = o.length + 1
  cnt : o.length ≤ k
  one : o ++ (lz T cur (l.drop k)).1 = (lz [[]] [] l).1
  two : (lz T cur (l.drop k)).2 = (lz [[]] [] l).2
theorem RefAt.start (l : List UInt8) : RefAt l 0 [[]] [] [] := ⟨Nat.zero_le _, by simp, Nat.le_refl _, rfl, Nat.le_refl _, by simp, by simp⟩
theorem RefAt.hit {l : List UInt8} {k : Nat} {T : List (List UInt8)} {cur : List UInt8} {o : List (Nat × UInt8)} (h : RefAt l k T cur o) (hk : k < l.length) (hm : cur ++ [l.getD k 0] ∈ T) : RefAt l (k + 1) T (cur ++ [l.getD k 0]) o := by
  have h1 := h.one; have h2 := h.two
  have e : l.drop k = l.getD k 0 :: l.drop (k + 1) := by
    rw [List.drop_eq_getElem_cons hk, List.getD_eq_getElem?_getD, List.getElem?_eq_getElem hk]; rfl
  rw [e, lz, if_pos hm] at h1 h2
  exact ⟨hk, hm, by have := h.curl; simp; omega, h.len, by have := h.cnt; omega, h1, h2⟩
theorem RefAt.miss {l : List UInt8} {k : Nat} {T : List (List UInt8)} {cur : List UInt8} {o : List (Nat × UInt8)} (h : RefAt l k T cur o) (hn : [] ∈ T) (hk : k < l.length) (hm : cur ++ [l.getD k 0] ∉ T) :
    RefAt l (k + 1) (T ++ [cur ++ [l.getD k 0]]) [] (o ++ [(T.idxOf cur, l.getD k 0)]) := by
  have h1 := h.one; have h2 := h.two
  have e : l.drop k = l.getD k 0 :: l.drop (k + 1) := by
    rw [List.drop_eq_getElem_cons hk, List.getD_eq_getElem?_getD, List.getElem?_eq_getElem hk]; rfl
  rw [e, lz, if_neg hm] at h1 h2
  refine ⟨hk, by simp [hn], Nat.zero_le _, by simp [h.len], by have := h.cnt; simp; omega, ?_, h2⟩
  rw [← h1]; simp
theorem RefAt.fin {l : List UInt8} {T : List (List UInt8)} {cur : List UInt8} {o : List (Nat × UInt8)} (h : RefAt l l.length T cur o) : o = (lz [[]] [] l).1 ∧ cur = (lz [[]] [] l).2 := by
  have h1 := h.one; have h2 := h.two
  rw [List.drop_length, lz] at h1 h2
  exact ⟨by simpa using h1, h2⟩
theorem RefAt.nilT {l : List UInt8} {k : Nat} {T : List (List UInt8)} {cur : List UInt8} {o : List (Nat × UInt8)} (_h : RefAt l k T cur o) (h0 : T[0]? = some []) : [] ∈ T := List.mem_of_getElem? h0
set_option maxRecDepth 100000 in
set_option maxHeartbeats 2000000 in
theorem phrOf_any (s : ByteArray) (hs : s.size ≤ 200) (w : World) :
    Calls Try.prog 34 #[.string s] w fun e w' => ∃ v, e = .returned (.tuple #[v, .string (S (lz [[]] [] (L s)).2)]) ∧
      w'.ownsRow w.heap.size 57 2 v (lz [[]] [] (L s)).1.length (phrCells (toI (lz [[]] [] (L s)).1)) ∧ Below w.heap.size w w' := by
  obtain ⟨j0, hj0, jz0, jz1, jz2⟩ := info_parts info_phr
  have hmm := @run_makeMap Try.prog
  go_enter Try.func34, Try.ntmps34
  go_wp2_with (refine MapSI.insert (MapSI.made w) (by unfold maxLen; omega) ByteArray.empty (by decide) 0 (by decide) rfl _ _ _ rfl rfl rfl rfl ?_; intro w1 hm1 hg1)
  have hm1 := hm1.ext idxF_start
  have hb1 : Below w.heap.size w w1 := ((Below.refl w.heap.size w).alloc (Nat.le_refl _) _).grown hg1 (by simp) (fun k hk => by cases hk; omega)
  clear hg1
  go_loopw [5, 6, 15] (fun o c i wr => ∃ (k : Nat) (T : List (List UInt8)) (cur : List UInt8) (ph : List (Nat × UInt8)), RefAt (L s) k T cur ph ∧ T[0]? = some [] ∧ i = .int .i64 k ∧ c = .string (S cur) ∧
      wr.ownsRow w.heap.size 57 2 o ph.length (phrCells (toI ph)) ∧ MapSI wr w.heap.size T.length (idxF T) ∧ Below w.heap.size w wr)
    (fun _ _ i _ => s.size - (intOf i).toNat)
  case atStart => exact ⟨0, [[]], [], [], RefAt.start _, rfl, rfl, rfl, World.ownsRow_nil _ _ _ _, hm1, hb1⟩
  case round =>
    obtain ⟨k, T, cur, ph, HA, h0, rfl, rfl, hownO, hmap, hb⟩ := hrel
    have hle := HA.le
    rw [L_len] at hle
    have hcnt := HA.cnt
    have hcl := HA.curl
    have hTn : T.length ≤ 201 := by have := HA.len; omega
    have H0 := Lib.hid h0; clear h0
    have HA := Lib.hid HA
    have hzc : (S cur).size ≤ 200 := by rw [S_size]; omega
    by_cases hlt : k < s.size
    · have hE : Hid (S cur ++ s.extract k (k + 1) = S (cur ++ [(L s).getD k 0])) := by
        unfold Hid
        rw [append_S, L_S, L_extract]
        congr 2
        rw [List.drop_eq_getElem_cons (by rw [L_len]; omega), Nat.add_sub_cancel_left, List.getD_eq_getElem?_getD, List.getElem?_eq_getElem (by rw [L_len]; omega)]
        rfl
      have hz2 : (S cur ++ s.extract k (k + 1)).size ≤ 201 := by rw [ByteArray.size_append, ByteArray.size_extract]; omega
      have hlk := hmap.look_ok (S cur ++ s.extract k (k + 1)) (by unfold maxLen; omega)
      rw [hE.out, L_S] at hlk
      by_cases hin : cur ++ [(L s).getD k 0] ∈ T
      · have HN := Lib.hid (HA.out.hit (by rw [L_len]; omega) hin)
        rw [show idxF T (cur ++ [(L s).getD k 0]) = some ((T.idxOf (cur ++ [(L s).getD k 0]) : Nat) : Int) by unfold idxF; rw [if_pos hin]] at hlk
        rw [← hE.out] at hlk
        clear hin
        go_wp2_with fail
        go_roundw
        case rel => exact ⟨k + 1, T, _, ph, HN.out, H0.out, by go_num, by rw [hE.out], hownO, hmap, hb⟩
        case measure => simp [intOf]; omega
      · have HN := Lib.hid (HA.out.miss (HA.out.nilT H0.out) (by rw [L_len]; omega) hin)
        rw [show idxF T (cur ++ [(L s).getD k 0]) = none by unfold idxF; rw [if_neg hin]] at hlk
        rw [← hE.out] at hlk
        have hadd := Lib.hid (idxF_add hin)
        have hidx : Hid ((idxF T (L (S cur))).getD 0 = ((T.idxOf cur : Nat) : Int)) := by
          unfold Hid idxF; rw [L_S, if_pos HA.out.mem]; rfl
        clear hin
        have hg0 : wr.heap.size = wr.heap.size := rfl
        go_wp2_with fail
        obtain ⟨F1, hFd⟩ : ∃ F : World → Prop, F = fun w' => MapSI w' w.heap.size T.length (idxF T) := ⟨_, rfl⟩
        have HF1 := Lib.hid hFd
        clear hFd
        have hcell10 : ∀ p' : Wof F1, MapSI p'.w w.heap.size T.length (idxF T) := fun ⟨x, hx⟩ => by rw [HF1.out] at hx; exact hx
        refine wp_region_schedF [(0, true), (1, true), (2, true), (3, true), (4, true), (5, true), (6, true), (7, true), (8, false), (9, false), (10, true)] F1 (by kernel_rfl) (by kernel_rfl) rfl (fun _ _ _ _ _ h => h) (by kernel_rfl) (by rw [HF1.out]; first | trivial | (repeat' apply And.intro) <;> assumption | (simp; done) | (simp [*]; done)) (by rw [HF1.out]; exact fun h => h) ?_
        intro hne1
        simp only [opersOf, List.getElem?_toArray, List.getElem?_cons_succ, List.getElem?_cons_zero]
        have hlk2 : ∀ p' : Wof F1, (Instr.lookup 119 (.map (some w.heap.size)) (.string (S cur)) false).run Try.prog p'.w = .ok (.int .i64 ((T.idxOf cur : Nat) : Int)) p'.w := fun p' => by rw [(hcell10 p').look _ (by unfold maxLen; omega), hidx.out]
        repeat (first | (refine wpSched_want rfl ?_; intro K hK; go_big_quiet_op; go_big_quiet_on) | (refine wpSched_skip rfl ?_; simp only [Act.put, List.setIfInBounds_toArray, List.set_cons_zero, List.set_cons_succ]))
        refine wpSched_other ?_
        go_wp2_with fail
        refine sched_back (by rw [HF1.out]; exact hmap.alloc _) ?_
        repeat (first | (refine wpSched_want rfl ?_; intro K hK; go_big_quiet_op; go_big_quiet_on) | (refine wpSched_skip rfl ?_; simp only [Act.put, List.setIfInBounds_toArray, List.set_cons_zero, List.set_cons_succ]))
        refine wpSched_other ?_
        go_wp2_with (at_builtin; go_must (refine wpList_appG rfl _ _ _ rfl w.heap.size 57 j0 _ 2 16 Try.underlying48 hj0 jz0 jz1 jz2 rfl (by omega) _ ph.length (phrCells (toI ph)) rfl (hownO.alloc _).drew ⟨wr.heap.size, 0, none⟩ 1 1 [.int .i64 ((T.idxOf cur : Nat) : Int), .int .u8 ((s[k]'(by omega)).toNat : Int)] rfl rfl (cells_new2 _ _ _ _) (by simp [Value.oneCell']) (by omega) (by omega) (by have := hb.size; simp; omega) ?_); intro v6 w6 hown6 hg6 hb6)
        have hmap6 := MapSI.kept (hmap.alloc (.cells #[.int .i64 ((T.idxOf cur : Nat) : Int), .int .u8 ((s[k]'(by omega)).toNat : Int)] 57)).drew hg6 (MapSI.ne (hmap.alloc (.cells #[.int .i64 ((T.idxOf cur : Nat) : Int), .int .u8 ((s[k]'(by omega)).toNat : Int)] 57)).drew ((hownO.alloc _).drew))
        have hb6' := (hb.alloc hb.size _).drew.trans hb6
        refine sched_back (by rw [HF1.out]; exact hmap6) ?_
        repeat (first | (refine wpSched_want rfl ?_; intro K hK; go_big_quiet_op; go_big_quiet_on) | (refine wpSched_skip rfl ?_; simp only [Act.put, List.setIfInBounds_toArray, List.set_cons_zero, List.set_cons_succ]))
        refine wpSched_nil ?_
        obtain ⟨A6, c6, rfl, _, _, _⟩ := own_form hown6
        clear hg6 hb6 hmap hownO hlk hlk2 hcell10
        have hno := hmap6.ne hown6
        have HM := Lib.hid hmap6
        go_wp2_with (at_mapUpdate; go_must (refine MapSI.store HM.out (by unfold maxLen; omega) (S cur ++ s.extract k (k + 1)) (by unfold maxLen; omega) ((ph.length : Int) + 1) (WalkArith.wf_i64 (by omega)) rfl _ _ _ rfl rfl rfl rfl ?_); intro w7 hm7 hg7)
        go_roundw
        case rel =>
          have hTl := HA.out.len
          rw [hE.out, L_S, show ((ph.length : Int) + 1) = (T.length : Int) by omega] at hm7
          refine ⟨k + 1, _, [], _, HN.out, ?_, by go_num, rfl, ?_, ?_, hb6'.grown hg7 hb6'.size (fun k hk => by cases hk; omega)⟩
          · rw [List.getElem?_append_left (by omega)]; exact H0.out
          · rw [getB] at hown6
            rw [toI_append, phrCells_append, List.length_append]
            exact hown6.kept hg7 (.inr (fun e => hno e.symm))
          · rw [List.length_append]
            exact hm7.ext hadd.out
        case measure => simp [intOf]; omega
    · obtain rfl : k = s.size := by omega
      have HF := Lib.hid (RefAt.fin (l := L s) (by rw [L_len]; exact HA.out))
      go_wp2_with fail
      go_ret2
      exact ⟨_, by rw [← HF.out.2]; rfl, by rw [← HF.out.1]; exact hownO, hb⟩
end Go.Proofs.Ythnedhfjochfnaa
