/- slices.Compact at edits (plain). slices.Compact at edits, walked. The reference's Grows and EditsErr. -/
import Derived.Test.YtmikckhihfcooaaPk11
import Derived.Test.YtmikckhihfcooaaPk04
namespace Go.Proofs.Ytmikckhihfcooaa
open Go.RowKit
theorem cmpE_snoc (x y : Ed) : ∀ u : List Ed, cmpE (u ++ [x, y]) = if x = y then cmpE (u ++ [x]) else cmpE (u ++ [x]) ++ [y]
  | [] => by
    show cmpE [x, y] = _
    rw [cmpE]
    by_cases h : x = y
    · rw [if_pos h, if_pos h, h]; rfl
    · rw [if_neg h, if_neg h]; rfl
  | [z] => by
    have ih := cmpE_snoc x y []
    rw [List.nil_append, List.nil_append] at ih
    show cmpE (z :: x :: [y]) = if x = y then cmpE [z, x] else cmpE [z, x] ++ [y]
    rw [cmpE, ih, show cmpE [z, x] = if z = x then cmpE [x] else z :: cmpE [x] from rfl]
    by_cases h : z = x <;> by_cases h2 : x = y <;> simp [h, h2]
  | z :: v :: u => by
    have ih := cmpE_snoc x y (v :: u)
    rw [List.cons_append, List.cons_append] at ih
    show cmpE (z :: v :: (u ++ [x, y])) = if x = y then cmpE (z :: v :: (u ++ [x])) else cmpE (z :: v :: (u ++ [x])) ++ [y]
    rw [cmpE, ih, show cmpE (z :: v :: (u ++ [x])) = if z = v then cmpE (v :: (u ++ [x])) else z :: cmpE (v :: (u ++ [x])) from by rw [cmpE]]
    by_cases h : z = v <;> by_cases h2 : x = y <;> simp [h, h2]
theorem cmpE_step {l : List Ed} {m : Nat} (h : m + 1 < l.length) : cmpE (l.take (m + 2)) = if l[m]'(by omega) = l[m + 1] then cmpE (l.take (m + 1)) else cmpE (l.take (m + 1)) ++ [l[m + 1]] := by
  have e1 : l.take (m + 2) = l.take m ++ [l[m]'(by omega), l[m + 1]] := by
    rw [List.take_succ_eq_append_getElem h, List.take_succ_eq_append_getElem (by omega), List.append_assoc]; rfl
  have e2 : l.take (m + 1) = l.take m ++ [l[m]'(by omega)] := List.take_succ_eq_append_getElem (by omega)
  rw [e1, cmpE_snoc, ← e2]
/-- The row while its neighbours are made one: m are seen. -/
def conE (l : List Ed) (m : Nat) : List Ed := cmpE (l.take m) ++ l.drop (cmpE (l.take m)).length
theorem cmpE_le : ∀ l : List Ed, (cmpE l).length ≤ l.length
  | [] => Nat.le_refl _
  | [_] => Nat.le_refl _
  | x :: y :: r => by
    have := cmpE_le (y :: r)
    rw [cmpE]
    by_cases h : x = y
    · rw [if_pos h]; simp only [List.length_cons] at *; omega
    · rw [if_neg h]; simp only [List.length_cons] at *; omega
theorem conE_len {l : List Ed} {m : Nat} (hm : m ≤ l.length) : (conE l m).length = l.length := by
  have := cmpE_le (l.take m)
  rw [List.length_take] at this
  unfold conE
  rw [List.length_append, List.length_drop]; omega
theorem conE_at {l : List Ed} {m j : Nat} (h : (cmpE (l.take m)).length ≤ j) (hj : j < l.length) : (conE l m)[j]? = some l[j] := by
  unfold conE
  rw [List.getElem?_append_right h, List.getElem?_drop, show (cmpE (l.take m)).length + (j - (cmpE (l.take m)).length) = j by omega, List.getElem?_eq_getElem hj]
theorem conE_same {l : List Ed} {m : Nat} (h : m + 1 < l.length) (e : l[m]'(by omega) = l[m + 1]) : cmpE (l.take (m + 2)) = cmpE (l.take (m + 1)) ∧ conE l (m + 2) = conE l (m + 1) := by
  have := cmpE_step h
  rw [if_pos e] at this
  refine ⟨this, ?_⟩
  unfold conE
  rw [this]
theorem conE_new {l : List Ed} {m : Nat} (h : m + 1 < l.length) (e : l[m]'(by omega) ≠ l[m + 1]) : cmpE (l.take (m + 2)) = cmpE (l.take (m + 1)) ++ [l[m + 1]] ∧ conE l (m + 2) = (conE l (m + 1)).set (cmpE (l.take (m + 1))).length l[m + 1] := by
  have := cmpE_step h
  rw [if_neg e] at this
  refine ⟨this, ?_⟩
  have hl := cmpE_le (l.take (m + 1))
  rw [List.length_take] at hl
  unfold conE
  rw [this]
  generalize cmpE (l.take (m + 1)) = C at *
  rw [List.length_append, List.length_singleton, List.set_append_right _ _ (Nat.le_refl _), Nat.sub_self, List.drop_eq_getElem_cons (show C.length < l.length by omega), List.set_cons_zero, List.append_assoc]; rfl
theorem conE_end (l : List Ed) : (conE l l.length).take (cmpE l).length = cmpE l := by
  unfold conE
  rw [List.take_length, List.take_left]
end Go.Proofs.Ytmikckhihfcooaa
namespace Go.Proofs.Ytmikckhihfcooaa
open Go.RowKit
theorem gb_drewM {w w' : World} {row : Option Nat} (h : w.grownBy w' row) : w.grownBy w'.drew row := gb_trans h (gb_of_below (Below.refl _ _).drew row)
theorem ed_same {x y : Ed} (h1 : x.at_ = y.at_) (h2 : x.del = y.del) (h3 : (S x.ins).toList = (S y.ins).toList) : x = y := by
  rw [ByteArray.toList_eq, ByteArray.toList_eq, S_data, S_data] at h3
  cases x; cases y
  simp only at h1 h2 h3
  subst h1; subst h2; subst h3
  rfl
theorem wrap64_m {m : Nat} (h : m ≤ 1000000) : IntKind.i64.wrap (m : Int) = (m : Int) := by rw [IntKind.wrap_i64]; omega
set_option maxRecDepth 100000 in
set_option maxHeartbeats 16000000 in
theorem compEd_any (l : List Ed) (ad : Addr) (c N base : Nat) (w : World) (h : RowE w base ad c N l) (hN : N ≤ 1000000) :
    Calls Try.prog 20 #[.slice (some ad) N c] w fun e w' => e = .returned (.slice (some ad) (cmpE l).length c) ∧ OwnO w' base 30 3 (.slice (some ad) (cmpE l).length c) (cmpE l).length (edCells (cmpE l)) ∧ w.grownBy w' (some ad.block) := by
  have hl := h.len
  obtain ⟨A0, c0, hv, hnc, hcm, _⟩ := h.own.form
  cases hv
  by_cases h2 : N < 2
  · have g1 : decide ((N : Int) < 2) = true := decide_eq_true (by omega)
    have g1' : decide (N < 2) = true := decide_eq_true h2
    have e : cmpE l = l := by
      rcases l with _ | ⟨x, _ | ⟨y, r⟩⟩
      · rfl
      · rfl
      · simp only [List.length_cons] at hl; omega
    rw [e, hl]
    have HO := Lib.hid h.own
    clear h hl e
    go_enter Try.func20, Try.ntmps20
    go_wp2_with fail
    go_ret
    exact ⟨rfl, HO.out, gb_refl _ _⟩
  · have g1 : decide ((N : Int) < 2) = false := decide_eq_false (by omega)
    have g1' : decide (N < 2) = false := decide_eq_false h2
    have HH := Lib.hid h
    have HL := Lib.hid hl
    clear h hl
    go_enter Try.func20, Try.ntmps20
    go_wp2_with fail
    go_loopw [3] (fun kv wr => ∃ k m : Nat, k ≤ N ∧ Hid (k = m + 1) ∧ kv = .int .i64 (k : Int) ∧ Hid (cmpE (l.take k) = l.take k) ∧ Hid (RowE wr base ad c N l) ∧ Below w.heap.size w wr) (fun kv _ => N - (intOf kv).toNat)
    case atStart =>
      refine ⟨1, 0, by omega, rfl, rfl, ?_, HH, Below.refl _ _⟩
      have e : l.take 1 = [l[0]'(by rw [HL.out]; omega)] := by rw [List.take_succ_eq_append_getElem (by rw [HL.out]; omega)]; rfl
      rw [Hid, e]; rfl
    case round =>
      obtain ⟨k, m, hk, HKM, rfl, HC, HR, hb⟩ := hrel
      have HB := Lib.hid hb
      clear hb HH
      by_cases hlt : k < N
      · have g2 : decide ((k : Int) < (N : Int)) = true := decide_eq_true (by omega)
        have g2' : decide (k < N) = true := decide_eq_true hlt
        have e1 : (k : Int) - 1 = (m : Int) := by have := HKM.out; omega
        have hmN : m < N := by have := HKM.out; omega
        have hw1 : IntKind.i64.wrap (m : Int) = (m : Int) := wrap64_m (by omega)
        obtain ⟨x, hx⟩ : ∃ x, x = l[k]'(by rw [HL.out]; exact hlt) := ⟨_, rfl⟩
        obtain ⟨y, hy⟩ : ∃ y, y = l[m]'(by rw [HL.out]; exact hmN) := ⟨_, rfl⟩
        obtain ⟨cx0, cx1, cx2⟩ := recE_at HR.out (j := k) (x := x) (by rw [List.getElem?_eq_getElem (by rw [HL.out]; exact hlt), hx])
        obtain ⟨cy0, cy1, cy2⟩ := recE_at HR.out (j := m) (x := y) (by rw [List.getElem?_eq_getElem (by rw [HL.out]; exact hmN), hy])
        have HX := Lib.hid hx; have HY := Lib.hid hy
        clear hx hy
        go_wp2_with fail
        obtain ⟨F1, hFd⟩ : ∃ F : World → Prop, F = fun w' => w'.cell? (ad.add (k * 3)) = some (.int .i64 x.at_) ∧ w'.cell? ⟨(ad.add (k * 3)).block, (ad.add (k * 3)).off + 1, none⟩ = some (.int .i64 x.del) ∧ w'.cell? ⟨(ad.add (k * 3)).block, (ad.add (k * 3)).off + 2, none⟩ = some (.string (S x.ins)) ∧ w'.cell? (ad.add (m * 3)) = some (.int .i64 y.at_) ∧ w'.cell? ⟨(ad.add (m * 3)).block, (ad.add (m * 3)).off + 1, none⟩ = some (.int .i64 y.del) ∧ w'.cell? ⟨(ad.add (m * 3)).block, (ad.add (m * 3)).off + 2, none⟩ = some (.string (S y.ins)) := ⟨_, rfl⟩
        have HF1 := Lib.hid hFd
        clear hFd
        have hcell10 : ∀ p' : Wof F1, p'.w.cell? (ad.add (k * 3)) = some (.int .i64 x.at_) := fun ⟨x, hx⟩ => by rw [HF1.out] at hx; exact hx.1
        have hcell11 : ∀ p' : Wof F1, p'.w.cell? ⟨(ad.add (k * 3)).block, (ad.add (k * 3)).off + 1, none⟩ = some (.int .i64 x.del) := fun ⟨x, hx⟩ => by rw [HF1.out] at hx; exact hx.2.1
        have hcell12 : ∀ p' : Wof F1, p'.w.cell? ⟨(ad.add (k * 3)).block, (ad.add (k * 3)).off + 2, none⟩ = some (.string (S x.ins)) := fun ⟨x, hx⟩ => by rw [HF1.out] at hx; exact hx.2.2.1
        have hcell13 : ∀ p' : Wof F1, p'.w.cell? (ad.add (m * 3)) = some (.int .i64 y.at_) := fun ⟨x, hx⟩ => by rw [HF1.out] at hx; exact hx.2.2.2.1
        have hcell14 : ∀ p' : Wof F1, p'.w.cell? ⟨(ad.add (m * 3)).block, (ad.add (m * 3)).off + 1, none⟩ = some (.int .i64 y.del) := fun ⟨x, hx⟩ => by rw [HF1.out] at hx; exact hx.2.2.2.2.1
        have hcell15 : ∀ p' : Wof F1, p'.w.cell? ⟨(ad.add (m * 3)).block, (ad.add (m * 3)).off + 2, none⟩ = some (.string (S y.ins)) := fun ⟨x, hx⟩ => by rw [HF1.out] at hx; exact hx.2.2.2.2.2
        refine wp_region_schedF [(0, true), (1, true), (2, true), (3, true), (4, true), (5, true), (6, true), (7, true), (8, true), (9, false)] F1 (by kernel_rfl) (by kernel_rfl) rfl (fun _ _ _ _ _ h => h) (by kernel_rfl) (by rw [HF1.out]; first | ((repeat' apply And.intro) <;> assumption) | trivial | (simp; done) | (simp [*]; done)) (by rw [HF1.out]; exact fun h => h) ?_
        intro hne1
        simp only [opersOf, List.getElem?_toArray, List.getElem?_cons_succ, List.getElem?_cons_zero]
        repeat (first | (refine wpSched_free rfl ?_; intro K hK; go_big_quiet_op; go_big_quiet_on) | (refine wpSched_wantS _ rfl rfl rfl ?_; intro K hK; go_big_quiet_op; go_big_quiet_on) | (refine wpSched_skipS _ rfl rfl rfl rfl ?_; simp only [Act.put, List.setIfInBounds_toArray, List.set_cons_zero, List.set_cons_succ]) | (refine wpSched_skipU _ rfl rfl rfl ?_; simp only [Act.put, List.setIfInBounds_toArray, List.set_cons_zero, List.set_cons_succ]))
        by_cases hxy : x = y
        · subst hxy
          refine wpSched_other ?_
          go_wp2_with fail
          refine sched_back (by rw [HF1.out]; first | ((repeat' apply And.intro) <;> assumption) | trivial | (simp; done) | (go_simp; done) | (simp [*]; done)) ?_
          repeat (first | (refine wpSched_free rfl ?_; intro K hK; go_big_quiet_op; go_big_quiet_on) | (refine wpSched_wantS _ rfl rfl rfl ?_; intro K hK; go_big_quiet_op; go_big_quiet_on) | (refine wpSched_skipS _ rfl rfl rfl rfl ?_; simp only [Act.put, List.setIfInBounds_toArray, List.set_cons_zero, List.set_cons_succ]) | (refine wpSched_skipU _ rfl rfl rfl ?_; simp only [Act.put, List.setIfInBounds_toArray, List.set_cons_zero, List.set_cons_succ]))
          refine wpSched_nil ?_
          clear HF1 hcell10 hcell11 hcell12 hcell13 hcell14 hcell15 hne1
          clear cx0 cx1 cx2 cy0 cy1 cy2
          have hsame : cmpE (l.take (k + 1)) = cmpE (l.take k) ∧ conE l (k + 1) = l := by
            have hkm := HKM.out
            subst hkm
            have h9 := conE_same (l := l) (m := m) (by rw [HL.out]; exact hlt) (by rw [← HY.out, ← HX.out])
            refine ⟨h9.1, h9.2.trans ?_⟩
            unfold conE
            rw [HC.out, List.length_take, Nat.min_eq_left (by rw [HL.out]; omega), List.take_append_drop]
          have hlen0 : (cmpE (l.take (k + 1))).length = k := by rw [hsame.1, HC.out, List.length_take, HL.out]; omega
          have HROW : Hid (RowE wr.drew base ad c N (conE l (k + 1))) := by rw [Hid, hsame.2]; exact HR.out.drew
          have HGB : Hid (w.grownBy wr.drew (some ad.block)) := gb_of_below HB.out.drew _
          have HLEN := Lib.hid hlen0
          clear hsame hlen0 HR HB HX HY HC
          obtain ⟨a2, ha2⟩ : ∃ a2, a2 = ad.add (k * 3) := ⟨_, rfl⟩
          obtain ⟨N2, hN2⟩ : ∃ N2, N2 = N - k := ⟨_, rfl⟩
          obtain ⟨C2, hC2⟩ : ∃ C2, C2 = c - k := ⟨_, rfl⟩
          have HA2 : Hid (∀ i, a2.add (i * 3) = ad.add ((k + i) * 3)) := fun i => by rw [ha2, add_add, Nat.add_mul]
          have hNN : k + N2 = N := by omega
          go_wp2_with fail
          rw [← ha2, ← hN2, ← hC2]
          clear ha2 hN2 hC2
          generalize wr.drew = w0 at *
          go_loopw [3, 5] (fun kv jv wq => ∃ (k9 j M : Nat), kv = .int .i64 (k9 : Int) ∧ jv = .int .i64 ((j : Int)) ∧ Hid (k + j = M) ∧ 1 ≤ j ∧ j ≤ N2 ∧ k9 + 1 ≤ M ∧ Hid ((cmpE (l.take M)).length = k9) ∧ Hid (RowE wq base ad c N (conE l M)) ∧ Hid (w.grownBy wq (some ad.block))) (fun _ jv _ => N2 - (intOf jv).toNat)
          case atStart => exact ⟨k, 1, k + 1, rfl, rfl, rfl, Nat.le_refl _, by omega, Nat.le_refl _, HLEN, HROW, HGB⟩
          case round =>
            clear HLEN HROW HGB
            obtain ⟨k9, j, M, rfl, rfl, HM, hj1, hj2, hk9, HLEN, HROW, HGB⟩ := hrel
            by_cases hjl : j < N2
            · have g5 : decide ((j : Int) < (N2 : Int)) = true := decide_eq_true (by omega)
              have g5' : decide (j < N2) = true := decide_eq_true hjl
              have hM := HM.out
              subst hM
              have hwl := HL.out
              obtain ⟨jm, hjm⟩ : ∃ jm, j = jm + 1 := ⟨j - 1, by omega⟩
              have e2 : (j : Int) - 1 = (jm : Int) := by omega
              have hw2 : IntKind.i64.wrap (jm : Int) = (jm : Int) := wrap64_m (by omega)
              have hjm2 : jm < N2 := by omega
              have hb1 : k + j < l.length := by omega
              have hb2 : k + jm < l.length := by omega
              have HJM := Lib.hid hjm
              obtain ⟨u, hu⟩ : ∃ u, u = l[k + j]'hb1 := ⟨_, rfl⟩
              obtain ⟨v, hv⟩ : ∃ v, v = l[k + jm]'hb2 := ⟨_, rfl⟩
              have hcs : v = u → cmpE (l.take (k + j + 1)) = cmpE (l.take (k + j)) ∧ conE l (k + j + 1) = conE l (k + j) := by
                subst hjm; rw [hu, hv]; exact fun e => conE_same hb1 e
              have hcn : v ≠ u → cmpE (l.take (k + j + 1)) = cmpE (l.take (k + j)) ++ [u] ∧ conE l (k + j + 1) = (conE l (k + j)).set (cmpE (l.take (k + j))).length u := by
                subst hjm; rw [hu, hv]; exact fun e => conE_new hb1 e
              have HCS := Lib.hid hcs; have HCN := Lib.hid hcn
              clear hcs hcn
              obtain ⟨cu0, cu1, cu2⟩ := recE_at HROW.out (j := k + j) (x := u) (by rw [hu]; exact conE_at (by rw [HLEN.out]; omega) (by omega))
              obtain ⟨cv0, cv1, cv2⟩ := recE_at HROW.out (j := k + jm) (x := v) (by rw [hv]; exact conE_at (by rw [HLEN.out]; omega) (by omega))
              rw [← HA2.out j] at cu0 cu1 cu2
              rw [← HA2.out jm] at cv0 cv1 cv2
              have HU := Lib.hid hu; have HV := Lib.hid hv
              clear hu hv hjm
              go_wp2_with fail
              obtain ⟨F1, hFd⟩ : ∃ F : World → Prop, F = fun w' => w'.cell? (a2.add (j * 3)) = some (.int .i64 u.at_) ∧ w'.cell? ⟨(a2.add (j * 3)).block, (a2.add (j * 3)).off + 1, none⟩ = some (.int .i64 u.del) ∧ w'.cell? ⟨(a2.add (j * 3)).block, (a2.add (j * 3)).off + 2, none⟩ = some (.string (S u.ins)) ∧ w'.cell? (a2.add (jm * 3)) = some (.int .i64 v.at_) ∧ w'.cell? ⟨(a2.add (jm * 3)).block, (a2.add (jm * 3)).off + 1, none⟩ = some (.int .i64 v.del) ∧ w'.cell? ⟨(a2.add (jm * 3)).block, (a2.add (jm * 3)).off + 2, none⟩ = some (.string (S v.ins)) := ⟨_, rfl⟩
              have HF1 := Lib.hid hFd
              clear hFd
              have hcell10 : ∀ p' : Wof F1, p'.w.cell? (a2.add (j * 3)) = some (.int .i64 u.at_) := fun ⟨x, hx⟩ => by rw [HF1.out] at hx; exact hx.1
              have hcell11 : ∀ p' : Wof F1, p'.w.cell? ⟨(a2.add (j * 3)).block, (a2.add (j * 3)).off + 1, none⟩ = some (.int .i64 u.del) := fun ⟨x, hx⟩ => by rw [HF1.out] at hx; exact hx.2.1
              have hcell12 : ∀ p' : Wof F1, p'.w.cell? ⟨(a2.add (j * 3)).block, (a2.add (j * 3)).off + 2, none⟩ = some (.string (S u.ins)) := fun ⟨x, hx⟩ => by rw [HF1.out] at hx; exact hx.2.2.1
              have hcell13 : ∀ p' : Wof F1, p'.w.cell? (a2.add (jm * 3)) = some (.int .i64 v.at_) := fun ⟨x, hx⟩ => by rw [HF1.out] at hx; exact hx.2.2.2.1
              have hcell14 : ∀ p' : Wof F1, p'.w.cell? ⟨(a2.add (jm * 3)).block, (a2.add (jm * 3)).off + 1, none⟩ = some (.int .i64 v.del) := fun ⟨x, hx⟩ => by rw [HF1.out] at hx; exact hx.2.2.2.2.1
              have hcell15 : ∀ p' : Wof F1, p'.w.cell? ⟨(a2.add (jm * 3)).block, (a2.add (jm * 3)).off + 2, none⟩ = some (.string (S v.ins)) := fun ⟨x, hx⟩ => by rw [HF1.out] at hx; exact hx.2.2.2.2.2
              refine wp_region_schedF [(0, true), (1, true), (2, true), (3, true), (4, true), (5, true), (6, true), (7, true), (8, true), (9, false)] F1 (by kernel_rfl) (by kernel_rfl) rfl (fun _ _ _ _ _ h => h) (by kernel_rfl) (by rw [HF1.out]; first | ((repeat' apply And.intro) <;> assumption) | trivial | (simp; done) | (simp [*]; done)) (by rw [HF1.out]; exact fun h => h) ?_
              intro hne1
              simp only [opersOf, List.getElem?_toArray, List.getElem?_cons_succ, List.getElem?_cons_zero]
              repeat (first | (refine wpSched_free rfl ?_; intro K hK; go_big_quiet_op; go_big_quiet_on) | (refine wpSched_wantS _ rfl rfl rfl ?_; intro K hK; go_big_quiet_op; go_big_quiet_on) | (refine wpSched_skipS _ rfl rfl rfl rfl ?_; simp only [Act.put, List.setIfInBounds_toArray, List.set_cons_zero, List.set_cons_succ]) | (refine wpSched_skipU _ rfl rfl rfl ?_; simp only [Act.put, List.setIfInBounds_toArray, List.set_cons_zero, List.set_cons_succ]))
              by_cases huv : v = u
              · have HC9 := Lib.hid (HCS.out huv)
                subst huv
                refine wpSched_other ?_
                go_wp2_with fail
                refine sched_back (by rw [HF1.out]; first | ((repeat' apply And.intro) <;> assumption) | trivial | (simp; done) | (go_simp; done) | (simp [*]; done)) ?_
                repeat (first | (refine wpSched_free rfl ?_; intro K hK; go_big_quiet_op; go_big_quiet_on) | (refine wpSched_wantS _ rfl rfl rfl ?_; intro K hK; go_big_quiet_op; go_big_quiet_on) | (refine wpSched_skipS _ rfl rfl rfl rfl ?_; simp only [Act.put, List.setIfInBounds_toArray, List.set_cons_zero, List.set_cons_succ]) | (refine wpSched_skipU _ rfl rfl rfl ?_; simp only [Act.put, List.setIfInBounds_toArray, List.set_cons_zero, List.set_cons_succ]))
                refine wpSched_nil ?_
                go_wp2_with fail
                go_roundw
                case rel => exact ⟨k9, j + 1, k + j + 1, rfl, by go_num, rfl, by omega, by omega, by omega, by rw [Hid, HC9.out.1]; exact HLEN.out, by rw [Hid, HC9.out.2]; exact HROW.out.drew, gb_drewM HGB.out⟩
                case measure => simp [intOf]; omega
              · have HC9 := Lib.hid (HCN.out huv)
                have hlr := HROW.out.len
                have hk9N : k9 < N := by omega
                obtain ⟨t0, ht0⟩ : ∃ t0, t0 = (conE l (k + j))[k9]'(by omega) := ⟨_, rfl⟩
                obtain ⟨ct0, ct1, ct2⟩ := recE_at HROW.out (j := k9) (x := t0) (by rw [List.getElem?_eq_getElem (by omega), ht0])
                obtain ⟨s0, _⟩ := own_setS HROW.out.own (j := k9 * 3) (by omega) (.int .i64 u.at_)
                obtain ⟨s1, _⟩ := own_setS s0 (j := k9 * 3 + 1) (by omega) (.int .i64 u.del)
                obtain ⟨s2, _⟩ := own_setS s1 (j := k9 * 3 + 2) (by omega) (.string (S u.ins))
                have fi0 := (own_setS HROW.out.own (j := k9 * 3) (by omega) (.int .i64 0)).2
                have fi1 := (own_setS HROW.out.own (j := k9 * 3 + 1) (by omega) (.int .i64 0)).2
                have fi2 := (own_setS HROW.out.own (j := k9 * 3 + 2) (by omega) (.int .i64 0)).2
                rw [add_one] at fi1
                rw [add_two] at fi2
                have hna := own_addrS HROW.out.own
                rw [cellsE_set (l := conE l (k + j)) (j := k9) (by omega) u, add_one ad (k9 * 3), add_two ad (k9 * 3)] at s2
                have n01 : ad.add (k9 * 3) ≠ ⟨(ad.add (k9 * 3)).block, (ad.add (k9 * 3)).off + 1, none⟩ := by rw [← add_one]; exact hna _ _ (by omega)
                have n02 : ad.add (k9 * 3) ≠ ⟨(ad.add (k9 * 3)).block, (ad.add (k9 * 3)).off + 2, none⟩ := by rw [← add_two]; exact hna _ _ (by omega)
                have n12 : (⟨(ad.add (k9 * 3)).block, (ad.add (k9 * 3)).off + 1, none⟩ : Addr) ≠ ⟨(ad.add (k9 * 3)).block, (ad.add (k9 * 3)).off + 2, none⟩ := by rw [← add_one, ← add_two]; exact hna _ _ (by omega)
                have mi1 : (wr.setCell (ad.add (k9 * 3)) (.int .i64 u.at_)).cell? ⟨(ad.add (k9 * 3)).block, (ad.add (k9 * 3)).off + 1, none⟩ = some (.int .i64 t0.del) := (World.cell?_setCell_other _ _ _ _ n01).trans ct1
                have mi2 : ((wr.setCell (ad.add (k9 * 3)) (.int .i64 u.at_)).setCell ⟨(ad.add (k9 * 3)).block, (ad.add (k9 * 3)).off + 1, none⟩ (.int .i64 u.del)).cell? ⟨(ad.add (k9 * 3)).block, (ad.add (k9 * 3)).off + 2, none⟩ = some (.string (S t0.ins)) := (World.cell?_setCell_other _ _ _ _ n12).trans ((World.cell?_setCell_other _ _ _ _ n02).trans ct2)
                have HS2 : Hid (RowE (((wr.setCell (ad.add (k9 * 3)) (.int .i64 u.at_)).setCell ⟨(ad.add (k9 * 3)).block, (ad.add (k9 * 3)).off + 1, none⟩ (.int .i64 u.del)).setCell ⟨(ad.add (k9 * 3)).block, (ad.add (k9 * 3)).off + 2, none⟩ (.string (S u.ins))) base ad c N (conE l (k + j + 1))) := by
                  rw [Hid, HC9.out.2, HLEN.out]
                  exact ⟨s2, by rw [List.length_set]; exact hlr⟩
                have HG2 : Hid (w.grownBy (((wr.setCell (ad.add (k9 * 3)) (.int .i64 u.at_)).setCell ⟨(ad.add (k9 * 3)).block, (ad.add (k9 * 3)).off + 1, none⟩ (.int .i64 u.del)).setCell ⟨(ad.add (k9 * 3)).block, (ad.add (k9 * 3)).off + 2, none⟩ (.string (S u.ins))) (some ad.block)) :=
                  (by unfold Hid; refine gb_at (gb_at (gb_at HGB.out _ _ ?_) _ _ ?_) _ _ ?_ <;> exact blk_add _ _)
                have HL9 : Hid ((cmpE (l.take (k + j + 1))).length = k9 + 1) := by rw [Hid, HC9.out.1, List.length_append, HLEN.out]; rfl
                have HNE : Hid (¬ (u.at_ = v.at_ ∧ u.del = v.del ∧ (S u.ins).toList = (S v.ins).toList)) := fun ⟨q1, q2, q3⟩ => huv (ed_same q1 q2 q3).symm
                clear s0 s1 s2 hna n01 n02 n12 ht0 HC9 HCN HCS HU HV huv
                generalize u.at_ = ua at *
                generalize u.del = ud at *
                generalize S u.ins = us at *
                generalize v.at_ = va at *
                generalize v.del = vd at *
                generalize S v.ins = vs at *
                refine wpSched_other ?_
                go_wp2_with fail
                · rename_i q1 q2 q3
                  exact absurd ⟨q1, q2, q3⟩ HNE.out
                · rename_i q1 q2 q3
                  subst q1
                  subst q2
                  skip
                  refine sched_back (by rw [HF1.out]; first | ((repeat' apply And.intro) <;> assumption) | trivial | (simp; done) | (go_simp; done) | (simp [*]; done)) ?_
                  repeat (first | (refine wpSched_free rfl ?_; intro K hK; go_big_quiet_op; go_big_quiet_on) | (refine wpSched_wantS _ rfl rfl rfl ?_; intro K hK; go_big_quiet_op; go_big_quiet_on) | (refine wpSched_skipS _ rfl rfl rfl rfl ?_; simp only [Act.put, List.setIfInBounds_toArray, List.set_cons_zero, List.set_cons_succ]) | (refine wpSched_skipU _ rfl rfl rfl ?_; simp only [Act.put, List.setIfInBounds_toArray, List.set_cons_zero, List.set_cons_succ]))
                  refine wpSched_nil ?_
                  clear HF1 hcell10 hcell11 hcell12 hcell13 hcell14 hcell15 hne1
                  go_wp2_with fail
                  go_roundw
                  case rel => exact ⟨k9 + 1, j + 1, k + j + 1, by go_num, by go_num, rfl, by omega, by omega, by omega, HL9, Lib.hid HS2.out.drew, gb_drewM HG2.out⟩
                  case measure => simp [intOf]; omega
                · rename_i q1 q2
                  subst q1
                  skip
                  refine sched_back (by rw [HF1.out]; first | ((repeat' apply And.intro) <;> assumption) | trivial | (simp; done) | (go_simp; done) | (simp [*]; done)) ?_
                  repeat (first | (refine wpSched_free rfl ?_; intro K hK; go_big_quiet_op; go_big_quiet_on) | (refine wpSched_wantS _ rfl rfl rfl ?_; intro K hK; go_big_quiet_op; go_big_quiet_on) | (refine wpSched_skipS _ rfl rfl rfl rfl ?_; simp only [Act.put, List.setIfInBounds_toArray, List.set_cons_zero, List.set_cons_succ]) | (refine wpSched_skipU _ rfl rfl rfl ?_; simp only [Act.put, List.setIfInBounds_toArray, List.set_cons_zero, List.set_cons_succ]))
                  refine wpSched_nil ?_
                  clear HF1 hcell10 hcell11 hcell12 hcell13 hcell14 hcell15 hne1
                  go_wp2_with fail
                  go_roundw
                  case rel => exact ⟨k9 + 1, j + 1, k + j + 1, by go_num, by go_num, rfl, by omega, by omega, by omega, HL9, Lib.hid HS2.out.drew, gb_drewM HG2.out⟩
                  case measure => simp [intOf]; omega
                · skip
                  refine sched_back (by rw [HF1.out]; first | ((repeat' apply And.intro) <;> assumption) | trivial | (simp; done) | (go_simp; done) | (simp [*]; done)) ?_
                  repeat (first | (refine wpSched_free rfl ?_; intro K hK; go_big_quiet_op; go_big_quiet_on) | (refine wpSched_wantS _ rfl rfl rfl ?_; intro K hK; go_big_quiet_op; go_big_quiet_on) | (refine wpSched_skipS _ rfl rfl rfl rfl ?_; simp only [Act.put, List.setIfInBounds_toArray, List.set_cons_zero, List.set_cons_succ]) | (refine wpSched_skipU _ rfl rfl rfl ?_; simp only [Act.put, List.setIfInBounds_toArray, List.set_cons_zero, List.set_cons_succ]))
                  refine wpSched_nil ?_
                  clear HF1 hcell10 hcell11 hcell12 hcell13 hcell14 hcell15 hne1
                  go_wp2_with fail
                  go_roundw
                  case rel => exact ⟨k9 + 1, j + 1, k + j + 1, by go_num, by go_num, rfl, by omega, by omega, by omega, HL9, Lib.hid HS2.out.drew, gb_drewM HG2.out⟩
                  case measure => simp [intOf]; omega
            · obtain rfl : j = N2 := by omega
              have g5 : decide ((j : Int) < (j : Int)) = false := decide_eq_false (by omega)
              have g5' : decide (j < j) = false := decide_eq_false hjl
              obtain rfl : M = N := by have := HM.out; omega
              have hkN : k9 < M := by omega
              have hkle : k9 ≤ M := by omega
              have hck : ¬ c = k9 := by omega
              obtain ⟨w9, hclr, hown9, hg9⟩ := clear_ed HROW.out (k := k9) (c' := c - k9) hkN 0
              have HEQ : Hid ((edCells (conE l M)).take (k9 * 3) = edCells (cmpE l) ∧ k9 = (cmpE l).length) := by
                have h9 := HLEN.out
                have hcl := HL.out
                rw [← hcl, List.take_length] at h9
                refine ⟨?_, h9.symm⟩
                unfold conE
                rw [← hcl, List.take_length, edCells_app, List.take_left' (by rw [← h9]; exact flat_len cellE_len _)]
              have HO9 := Lib.hid hown9
              have HG9 := Lib.hid (gb_trans HGB.out hg9)
              clear hown9 hg9
              go_wp2_with fail
              go_ret
              rw [← HEQ.out.2, ← HEQ.out.1]
              exact ⟨rfl, HO9.out, HG9.out⟩
        · have HSTEP : Hid (cmpE (l.take (k + 1)) = l.take (k + 1)) := by
            have hkm := HKM.out
            subst hkm
            have hwl := HL.out
            have h9 := conE_new (l := l) (m := m) (by omega) (by rw [← HY.out, ← HX.out]; exact fun e => hxy e.symm)
            rw [Hid, h9.1, HC.out]
            rw [← List.take_succ_eq_append_getElem]
          refine wpSched_other ?_
          go_wp2_with fail
          · rename_i q1 q2 q3
            exact absurd (ed_same q1 q2 q3) hxy
          · skip
            refine sched_back (by rw [HF1.out]; first | ((repeat' apply And.intro) <;> assumption) | trivial | (simp; done) | (go_simp; done) | (simp [*]; done)) ?_
            repeat (first | (refine wpSched_free rfl ?_; intro K hK; go_big_quiet_op; go_big_quiet_on) | (refine wpSched_wantS _ rfl rfl rfl ?_; intro K hK; go_big_quiet_op; go_big_quiet_on) | (refine wpSched_skipS _ rfl rfl rfl rfl ?_; simp only [Act.put, List.setIfInBounds_toArray, List.set_cons_zero, List.set_cons_succ]) | (refine wpSched_skipU _ rfl rfl rfl ?_; simp only [Act.put, List.setIfInBounds_toArray, List.set_cons_zero, List.set_cons_succ]))
            refine wpSched_nil ?_
            clear HF1 hcell10 hcell11 hcell12 hcell13 hcell14 hcell15 hne1
            go_wp2_with fail
            go_roundw
            case rel => exact ⟨k + 1, k, by omega, rfl, by go_num, HSTEP, Lib.hid HR.out.drew, HB.out.drew⟩
            case measure => simp [intOf]; omega
          · skip
            refine sched_back (by rw [HF1.out]; first | ((repeat' apply And.intro) <;> assumption) | trivial | (simp; done) | (go_simp; done) | (simp [*]; done)) ?_
            repeat (first | (refine wpSched_free rfl ?_; intro K hK; go_big_quiet_op; go_big_quiet_on) | (refine wpSched_wantS _ rfl rfl rfl ?_; intro K hK; go_big_quiet_op; go_big_quiet_on) | (refine wpSched_skipS _ rfl rfl rfl rfl ?_; simp only [Act.put, List.setIfInBounds_toArray, List.set_cons_zero, List.set_cons_succ]) | (refine wpSched_skipU _ rfl rfl rfl ?_; simp only [Act.put, List.setIfInBounds_toArray, List.set_cons_zero, List.set_cons_succ]))
            refine wpSched_nil ?_
            clear HF1 hcell10 hcell11 hcell12 hcell13 hcell14 hcell15 hne1
            go_wp2_with fail
            go_roundw
            case rel => exact ⟨k + 1, k, by omega, rfl, by go_num, HSTEP, Lib.hid HR.out.drew, HB.out.drew⟩
            case measure => simp [intOf]; omega
          · skip
            refine sched_back (by rw [HF1.out]; first | ((repeat' apply And.intro) <;> assumption) | trivial | (simp; done) | (go_simp; done) | (simp [*]; done)) ?_
            repeat (first | (refine wpSched_free rfl ?_; intro K hK; go_big_quiet_op; go_big_quiet_on) | (refine wpSched_wantS _ rfl rfl rfl ?_; intro K hK; go_big_quiet_op; go_big_quiet_on) | (refine wpSched_skipS _ rfl rfl rfl rfl ?_; simp only [Act.put, List.setIfInBounds_toArray, List.set_cons_zero, List.set_cons_succ]) | (refine wpSched_skipU _ rfl rfl rfl ?_; simp only [Act.put, List.setIfInBounds_toArray, List.set_cons_zero, List.set_cons_succ]))
            refine wpSched_nil ?_
            clear HF1 hcell10 hcell11 hcell12 hcell13 hcell14 hcell15 hne1
            go_wp2_with fail
            go_roundw
            case rel => exact ⟨k + 1, k, by omega, rfl, by go_num, HSTEP, Lib.hid HR.out.drew, HB.out.drew⟩
            case measure => simp [intOf]; omega
      · obtain rfl : k = N := by omega
        have g2 : decide ((k : Int) < (k : Int)) = false := decide_eq_false (by omega)
        have g2' : decide (k < k) = false := decide_eq_false hlt
        have e : cmpE l = l := by
          have h9 := HC.out
          rw [List.take_of_length_le (by rw [HL.out]; exact Nat.le_refl _)] at h9
          exact h9
        have HE : Hid (cmpE l = l ∧ l.length = k) := ⟨e, HL.out⟩
        clear e
        go_wp2_with fail
        go_ret
        rw [HE.out.1, HE.out.2]
        exact ⟨rfl, HR.out.own, gb_of_below HB.out _⟩
end Go.Proofs.Ytmikckhihfcooaa
namespace Go.Proofs.Ytmikckhihfcooaa
open Go.RowKit
/-- Edits that are small. -/
def Small (l : List Ed) : Prop := ∀ x ∈ l, 0 ≤ x.del ∧ x.del ≤ 200 ∧ x.ins.length ≤ 40
theorem Small.grows {l : List Ed} (h : Small l) : -(200 * l.length : Int) ≤ grows l ∧ grows l ≤ 40 * l.length := by
  induction l with
  | nil => simp [Go.Proofs.Ytmikckhihfcooaa.grows]
  | cons x r ih =>
    have h1 := h x (by simp)
    have h2 := ih (fun y hy => h y (by simp [hy]))
    simp only [Go.Proofs.Ytmikckhihfcooaa.grows, List.length_cons]
    omega
theorem grows_take_succ (l : List Ed) (k : Nat) (hk : k < l.length) : grows (l.take (k + 1)) = grows (l.take k) + (l[k].ins.length - l[k].del) := by
  rw [List.take_succ_eq_append_getElem hk, grows_append]; simp [grows]
theorem Small.take {l : List Ed} (h : Small l) (k : Nat) : Small (l.take k) := fun x hx => h x (List.mem_of_mem_take hx)
set_option maxRecDepth 100000 in
set_option maxHeartbeats 1000000 in
theorem grows_any (l : List Ed) (A : Option Addr) (m c B : Nat) (w : World) (hr : Rd w B 3 A m (edCells l)) (hB : B ≤ w.heap.size) (hm : m ≤ 1000) (hs : Small l) :
    Calls Try.prog 13 #[.slice A m c] w fun e w' => e = .returned (.int .i64 (grows l)) ∧ Below w.heap.size w w' := by
  have hlen := Rd.rec_len ed_len (by omega) hr
  have HR := Lib.hid hr; clear hr
  have HL := Lib.hid hlen; clear hlen
  have HS := Lib.hid hs; clear hs
  go_enter Try.func13, Try.ntmps13
  go_wp2
  go_loopw [3, 8] (fun s i wr => ∃ k : Nat, k ≤ m ∧ i = .int .i64 k ∧ s = .int .i64 (grows (l.take k)) ∧ Below w.heap.size w wr) (fun _ i _ => m - (intOf i).toNat)
  case atStart => exact ⟨0, Nat.zero_le _, rfl, rfl, Below.refl _ _⟩
  case round =>
    obtain ⟨k, hk, rfl, rfl, hb⟩ := hrel
    have hbs := hb.size
    by_cases hlt : k < m
    · obtain ⟨ad, hl, rfl, hab, c0, c1, c2⟩ := (HR.out.below (hb.mono hB)).at_ed hlt
      have HG := Lib.hid (grows_take_succ l k hl)
      have hg := (HS.out.take k).grows
      have hkl : (l.take k).length = k := by rw [List.length_take]; omega
      rw [hkl] at hg
      obtain ⟨hd0, hd1, hi⟩ := HS.out l[k] (List.getElem_mem hl)
      obtain ⟨g0, g1⟩ := hg
      have hz : (S l[k].ins).size = l[k].ins.length := S_size _
      have HZ := Lib.hid hz
      have hz2 : (S l[k].ins).size ≤ 40 := by omega
      clear hz hkl
      generalize l[k] = x at *
      generalize grows (l.take k) = g at *
      obtain ⟨xa, xd, xi⟩ := x
      simp only at c0 c1 c2 HG HZ hd0 hd1 hi hz2
      go_wp2
      go_roundw
      case rel => exact ⟨k + 1, by omega, by go_num, by rw [HG.out, HZ.out], (by repeat (first | exact Below.refl _ _ | assumption | refine Below.alloc ?_ (by first | exact Nat.le_refl _ | assumption | omega | (simp <;> omega)) _ | refine Below.setCell ?_ (by first | exact Nat.le_refl _ | assumption | omega | (simp <;> omega)) _ | refine Below.drew ?_ | refine below_drewN ?_ _))⟩
      case measure => simp [intOf]; omega
    · obtain rfl : k = m := by omega
      have HT : Hid (l.take k = l) := by unfold Hid; rw [List.take_of_length_le (by rw [HL.out]; omega)]
      go_wp2
      go_ret
      exact ⟨ret_int (by rw [HT.out]), hb⟩
theorem EdAt.lastE {n : Int} {l : List Ed} {k : Nat} {e : Int} (h : EdAt n l k e) (hk : 0 < k) : ∃ hl : k - 1 < l.length, e = l[k - 1].at_ + l[k - 1].del ∧ 0 ≤ l[k - 1].del ∧ l[k - 1].del ≤ 200 := by
  have hle := h.le
  have h1 := h.last
  obtain ⟨j, rfl⟩ : ∃ j, k = j + 1 := ⟨k - 1, by omega⟩
  have h2 := lastEnd_take l j (by omega)
  rw [h1, if_neg (by omega)] at h2
  injection h2 with h2
  have h3 := h.chain l[j] (by rw [List.take_succ_eq_append_getElem (show j < l.length by omega)]; exact List.mem_append_right _ (by simp))
  exact ⟨by omega, h2, h3.1, h3.2.1⟩
set_option maxRecDepth 100000 in
set_option maxHeartbeats 4000000 in
theorem editsErr_any (n : Int) (l : List Ed) (A : Option Addr) (m c B : Nat) (w : World) (hr : Rd w B 3 A m (edCells l)) (hB : B ≤ w.heap.size) (hm : m ≤ 9223372036854775807) :
    Calls Try.prog 6 #[.int .i64 n, .slice A m c] w fun e w' => e = .returned (.int .i64 (edErr n l)) ∧ Below w.heap.size w w' := by
  have hlen := Rd.rec_len ed_len (by omega) hr
  by_cases hn : n < 0 ∨ 200 < n
  · have HE : Hid (edErr n l = 1) := by unfold Hid edErr; rw [if_pos hn]
    have HN := Lib.hid hn; clear hn hr
    go_enter Try.func6, Try.ntmps6
    go_wp2
    all_goals first
      | (go_ret; exact ⟨ret_int HE.out.symm, Below.refl _ _⟩)
      | (exfalso; have := HN.out; omega)
  have hn0 : 0 ≤ n := by omega
  have hn1 : n ≤ 200 := by omega
  have HN := Lib.hid hn; clear hn
  by_cases h20 : 20 < m
  · have HE : Hid (edErr n l = 2) := by unfold Hid edErr; rw [if_neg HN.out, if_pos (by omega)]
    clear hr
    go_enter Try.func6, Try.ntmps6
    go_wp2
    go_ret
    exact ⟨ret_int HE.out.symm, Below.refl _ _⟩
  have HR := Lib.hid hr; clear hr
  have HL := Lib.hid hlen; clear hlen
  go_enter Try.func6, Try.ntmps6
  go_wp2
  go_loopw [18] (fun i wr => ∃ (k : Nat) (e' : Int), EdAt n l k e' ∧ i = .int .i64 k ∧ Below w.heap.size w wr)
    (fun i _ => m - (intOf i).toNat)
  case atStart => exact ⟨0, 0, EdAt.start hn0 l, rfl, Below.refl _ _⟩
  case round =>
    obtain ⟨k, e', HA, rfl, hb⟩ := hrel
    have hk := HA.le
    rw [HL.out] at hk
    have hbs := hb.size
    have he0 := HA.e0
    have he1 := HA.e1
    by_cases hlt : k < m
    · have HRb := Lib.hid (HR.out.below (hb.mono hB))
      obtain ⟨ad, hl, rfl, hab, c0, c1, c2⟩ := HRb.out.at_ed hlt
      have HSt : Hid (edAt n k e' l[k] = 0 → EdAt n l (k + 1) (l[k].at_ + l[k].del) ∧ grows (l.take (k + 1)) = grows (l.take k) + (l[k].ins.length - l[k].del)) := HA.step hn1 hl
      have HBd : Hid (∀ c, edAt n k e' l[k] = c → c ≠ 0 → edErr n l = c) := fun c => HA.bad hn0 hn1 (by rw [HL.out]; omega) hl
      have hz : (S l[k].ins).size = l[k].ins.length := S_size _
      have HZ := Lib.hid hz; clear hz
      have HZ1 : Hid ((S l[k].ins).toList.isEmpty = decide (l[k].ins.length = 0)) := isEmpty_size _
      by_cases hk0 : k = 0
      · have HK0 := Lib.hid hk0
        have g0 : decide ((0 : Int) < (k : Int)) = false := by simp; omega
        have g1 : decide (0 < k) = false := by simp; omega
        clear hk0
        generalize l[k] = x at *
        obtain ⟨xa, xd, xi⟩ := x
        simp only at c0 c1 c2 HSt HBd HZ HZ1
        clear HA
        go_wp2
        all_goals first
        | (go_ret
           refine ⟨ret_int (HBd.out _ ?_ (by decide)).symm, (by repeat (first | exact Below.refl _ _ | assumption | refine Below.alloc ?_ (by first | exact Nat.le_refl _ | assumption | omega | (simp <;> omega)) _ | refine Below.setCell ?_ (by first | exact Nat.le_refl _ | assumption | omega | (simp <;> omega)) _ | refine Below.drew ?_ | refine below_drewN ?_ _))⟩
           go_light
           have hz := HZ.out; have hz1 := HZ1.out; have hk0 := HK0.out
           clear HBd HSt HZ HZ1 HK0
           unfold edAt
           grind)
        | (go_quiet (fail)
           go_wp2_with fail
           go_roundw
           case rel =>
             go_light
             have hz := HZ.out; have hz1 := HZ1.out; have hk0 := HK0.out
             have h0 : edAt n k e' ⟨xa, xd, xi⟩ = 0 := by
               clear HBd HSt HZ HZ1 HK0
               unfold edAt
               grind
             exact ⟨k + 1, _, (HSt.out h0).1, by go_num, below_drewN (by repeat (first | exact Below.refl _ _ | assumption | refine Below.alloc ?_ (by first | exact Nat.le_refl _ | assumption | omega | (simp <;> omega)) _ | refine Below.setCell ?_ (by first | exact Nat.le_refl _ | assumption | omega | (simp <;> omega)) _ | refine Below.drew ?_ | refine below_drewN ?_ _)) _⟩
           case measure => simp [intOf]; omega)
      · have HLE := Lib.hid (HA.lastE (by omega))
        obtain ⟨ad', hl', hA', ha', d0, d1, d2⟩ := HRb.out.at_ed (k := k - 1) (by omega)
        cases hA'
        have d0 : ∀ o, (wr.alloc o).cell? (ad.add ((k - 1) * 3)) = some (.int .i64 (l[k - 1]'hl').at_) := fun o => (World.cell?_alloc_lt wr o _ (by rw [blk_add]; omega)).trans d0
        have d1 : ∀ o, (wr.alloc o).cell? ⟨(ad.add ((k - 1) * 3)).block, (ad.add ((k - 1) * 3)).off + 1, none⟩ = some (.int .i64 (l[k - 1]'hl').del) := fun o => (World.cell?_alloc_lt wr o _ (by show (ad.add ((k - 1) * 3)).block < _; rw [blk_add]; omega)).trans d1
        clear ha' d2
        have HK0 := Lib.hid hk0
        obtain ⟨hz9, hpe9, hp0, hp1⟩ := HLE.out
        have hpE := Lib.hid hpe9
        clear hpe9
        have hpA : 0 ≤ l[k - 1].at_ + l[k - 1].del := by rw [← hpE.out]; exact he0
        have hpB : l[k - 1].at_ + l[k - 1].del ≤ 200 := by rw [← hpE.out]; omega
        clear HLE
        have hk1 : 1 ≤ k := by omega
        have g0 : decide ((0 : Int) < (k : Int)) = true := by simp; omega
        have g1 : decide (0 < k) = true := by simp; omega
        generalize l[k - 1] = y at *
        generalize l[k] = x at *
        obtain ⟨xa, xd, xi⟩ := x
        obtain ⟨ya, yd, yi⟩ := y
        simp only at c0 c1 c2 HSt HBd HZ HZ1 d0 d1 hp0 hp1 hpE hpA hpB
        clear HA
        have hpE' := hpE
        go_wp2
        all_goals first
        | (go_ret
           refine ⟨ret_int (HBd.out _ ?_ (by decide)).symm, (by repeat (first | exact Below.refl _ _ | assumption | refine Below.alloc ?_ (by first | exact Nat.le_refl _ | assumption | omega | (simp <;> omega)) _ | refine Below.setCell ?_ (by first | exact Nat.le_refl _ | assumption | omega | (simp <;> omega)) _ | refine Below.drew ?_ | refine below_drewN ?_ _))⟩
           go_light
           have hz := HZ.out; have hz1 := HZ1.out; have hk0 := HK0.out
           clear HBd HSt HZ HZ1 HK0
           unfold edAt; have he := hpE'.out
           grind)
        | (by_cases hov : xa ≤ ya + yd
           · have g2 : decide (xa ≤ ya + yd) = true := decide_eq_true hov
             go_quiet (fail)
             go_wp2_with fail
             go_ret
             refine ⟨ret_int (HBd.out _ ?_ (by decide)).symm, below_drewN (by repeat (first | exact Below.refl _ _ | assumption | refine Below.alloc ?_ (by first | exact Nat.le_refl _ | assumption | omega | (simp <;> omega)) _ | refine Below.setCell ?_ (by first | exact Nat.le_refl _ | assumption | omega | (simp <;> omega)) _ | refine Below.drew ?_ | refine below_drewN ?_ _)) _⟩
             go_light
             have hz := HZ.out; have hz1 := HZ1.out; have hk0 := HK0.out; have he := hpE'.out
             clear HBd HSt HZ HZ1 HK0
             unfold edAt
             grind
           · have g2 : decide (xa ≤ ya + yd) = false := decide_eq_false hov
             go_quiet (fail)
             go_wp2_with fail
             go_roundw
             case rel =>
               go_light
               have hz := HZ.out; have hz1 := HZ1.out; have hk0 := HK0.out
               have h0 : edAt n k e' ⟨xa, xd, xi⟩ = 0 := by
                 clear HBd HSt HZ HZ1 HK0
                 unfold edAt; have he := hpE'.out
                 grind
               exact ⟨k + 1, _, (HSt.out h0).1, by go_num, below_drewN (by repeat (first | exact Below.refl _ _ | assumption | refine Below.alloc ?_ (by first | exact Nat.le_refl _ | assumption | omega | (simp <;> omega)) _ | refine Below.setCell ?_ (by first | exact Nat.le_refl _ | assumption | omega | (simp <;> omega)) _ | refine Below.drew ?_ | refine below_drewN ?_ _)) _⟩
             case measure => simp [intOf]; omega)
    · have HF := Lib.hid (HA.fin hn0 hn1 (by rw [HL.out]; omega) (by rw [HL.out]; omega))
      obtain rfl : k = m := by omega
      have HT : Hid (l.take k = l) := by unfold Hid; rw [List.take_of_length_le (by rw [HL.out]; omega)]
      rw [HT.out] at HF
      have hsm : Small l := by have := HA.chain; rw [HT.out] at this; exact this
      have glo := HA.lo
      have ghi := HA.hi
      rw [HT.out] at glo ghi
      have HSM := Lib.hid hsm
      clear HA hsm
      go_wp2_with fail
      refine (grows_any l A k c B wr (HR.out.below (hb.mono hB)) (Nat.le_trans hB hbs) (by omega) HSM.out).mono ?_
      rintro e w2 ⟨rfl, hb2⟩
      have hb3 := hb.trans (hb2.mono hbs)
      generalize grows l = g at *
      go_wp2
      all_goals go_ret
      all_goals refine ⟨ret_int ?_, hb3⟩
      all_goals (rw [HF.out]; split <;> first | rfl | omega)
end Go.Proofs.Ytmikckhihfcooaa
