/- What a leaf's text and its log are to each other, kept by every call. No program in sight. A world in which these blocks alone have turned. The reference's Grows and EditsErr. -/
import Derived.Test.YtplgghjdidmcfaaGreatDoorPk08
import Derived.Test.YtplgghjdidmcfaaGreatDoorPk03
namespace Go.Proofs.YtplgghjdidmcfaaGreatDoor
open Go.RowKit
def recB (s : ByteArray) : ByteArray := ⟨#[98]⟩ ++ s
def recE (s : ByteArray) : ByteArray := ⟨#[101]⟩ ++ s
theorem L_recB (s : ByteArray) : L (recB s) = 98 :: L s := by unfold recB; rw [L_append]; rfl
theorem L_recE (s : ByteArray) : L (recE s) = 101 :: L s := by unfold recE; rw [L_append]; rfl
theorem recB_size (s : ByteArray) : (recB s).size = s.size + 1 := by rw [← L_len, L_recB, List.length_cons, L_len]
theorem recE_size (s : ByteArray) : (recE s).size = s.size + 1 := by rw [← L_len, L_recE, List.length_cons, L_len]
structure LfOk (tx d : ByteArray) (sf : Nat) : Prop where
  recs : ∃ rs, L d = diskL rs ∧ good [] rs ∧ L tx = play [] rs
  size : d.size ≤ 4000
  safe : sf ≤ d.size
theorem LfOk.text {tx d : ByteArray} {sf : Nat} (h : LfOk tx d sf) : tx.size ≤ 200 := by
  obtain ⟨rs, _, h2, h3⟩ := h.recs
  have := good_text h2 (Nat.zero_le _)
  rw [← h3, L_len] at this
  exact this
theorem app_zero {d rec : ByteArray} (h : appErr d rec = 0) : rec.size ≤ 1100 ∧ d.size + (rec.size + 6) ≤ 4000 ∧ L (appD d rec) = L d ++ frameL (L rec) := by
  have h0 := h
  unfold appErr at h
  split at h
  · cases h
  · split at h
    · cases h
    · refine ⟨by omega, by omega, ?_⟩
      unfold appD
      rw [if_pos h0, L_append, L_S]
theorem LfOk.set {tx d : ByteArray} {sf : Nat} (h : LfOk tx d sf) {t : ByteArray} (ht : t.size ≤ 200) (he : appErr d (recB t) = 0) : LfOk t (appD d (recB t)) sf := by
  obtain ⟨rs, h1, h2, h3⟩ := h.recs
  obtain ⟨e1, e2, e3⟩ := app_zero he
  have hs := appD_size d (recB t) h.size
  refine ⟨⟨rs ++ [98 :: L t], ?_, good_snoc h2 ⟨?_, .inl ⟨_, rfl, by rw [L_len]; exact ht⟩, trivial⟩, ?_⟩, hs.1, Nat.le_trans h.safe hs.2⟩
  · rw [e3, h1, diskL_snoc, L_recB]
  · rw [← L_recB, L_len]; exact e1
  · rw [play_snoc, step_b]
theorem LfOk.edit {tx d : ByteArray} {sf : Nat} (h : LfOk tx d sf) {l : List Ed} (hl : edErr tx.size l = 0) (he : appErr d (recE (S (wrL l))) = 0) : LfOk (S (edDone (L tx) l)) (appD d (recE (S (wrL l)))) sf := by
  obtain ⟨rs, h1, h2, h3⟩ := h.recs
  obtain ⟨e1, e2, e3⟩ := app_zero he
  have hs := appD_size d (recE (S (wrL l))) h.size
  rw [← L_len, h3] at hl
  refine ⟨⟨rs ++ [101 :: wrL l], ?_, good_snoc h2 ⟨?_, .inr ⟨_, rfl, hl⟩, trivial⟩, ?_⟩, hs.1, Nat.le_trans h.safe hs.2⟩
  · rw [e3, h1, diskL_snoc, L_recE, L_S]
  · have := e1; rw [← L_len, L_recE, L_S] at this; exact this
  · rw [play_snoc, step_e hl, L_S, h3]
theorem LfOk.save {tx d : ByteArray} {sf : Nat} (h : LfOk tx d sf) : LfOk tx d d.size := ⟨h.recs, h.size, Nat.le_refl _⟩
/-- What a log tells. -/
def lfRead (d : ByteArray) : ByteArray := S (play [] (scanL (L d)).1)
theorem LfOk.reads {tx d : ByteArray} {sf : Nat} (h : LfOk tx d sf) : lfRead d = tx ∧ good [] (scanL (L d)).1 := by
  obtain ⟨rs, h1, h2, h3⟩ := h.recs
  unfold lfRead
  rw [h1, scan_all rs (good_len h2)]
  exact ⟨by simp only; rw [← h3, S_L], h2⟩
theorem LfOk.crash {tx d : ByteArray} {sf : Nat} (h : LfOk tx d sf) {keep : Int} (he : craErr d sf keep = 0) : LfOk (lfRead (craD d sf keep)) (craD d sf keep) (craF d sf keep) := by
  obtain ⟨rs, h1, h2, h3⟩ := h.recs
  have hz := cra_size d sf keep h.size h.safe
  obtain ⟨j, hj, hs, hn, ht⟩ := scan_take rs (good_len h2) (sf + keep.toNat)
  have e1 : L (craS d sf keep) = (diskL rs).take (sf + keep.toNat) := by unfold craS; rw [L_extract, h1, List.drop_zero, Nat.sub_zero]
  have e2 : craN d sf keep = (diskL (rs.take j)).length := by unfold craN; rw [e1, hs]
  have e3 : L (craD d sf keep) = diskL (rs.take j) := by
    unfold craD
    rw [if_pos he, L_extract, e1, List.drop_zero, Nat.sub_zero, e2, List.take_take, Nat.min_eq_left hn, ht]
  have hg := good_take h2 j
  refine ⟨⟨rs.take j, e3, hg, ?_⟩, hz.1, hz.2⟩
  unfold lfRead
  rw [L_S, e3, scan_all _ (good_len hg)]
theorem new_app {s : ByteArray} (hs : s.size ≤ 200) : appErr ⟨#[]⟩ (recB s) = 0 := by
  have h0 : (⟨#[]⟩ : ByteArray).size = 0 := rfl
  have := recB_size s
  unfold appErr
  rw [if_neg (by omega), if_neg (by omega)]
theorem LfOk.empty : LfOk ⟨#[]⟩ ⟨#[]⟩ 0 := ⟨⟨[], rfl, trivial, rfl⟩, Nat.zero_le _, Nat.zero_le _⟩
/-- The disk of a new leaf. -/
def newD (s : ByteArray) : ByteArray := appD ⟨#[]⟩ (recB s)
theorem LfOk.new_ {s : ByteArray} (hs : s.size ≤ 200) : LfOk s (newD s) (newD s).size := (LfOk.empty.set hs (new_app hs)).save
theorem cra_whole {tx d : ByteArray} (h : LfOk tx d d.size) : craErr d d.size 0 = 0 ∧ craD d d.size 0 = d ∧ craF d d.size 0 = d.size := by
  have h0 : craErr d d.size 0 = 0 := by unfold craErr; rw [if_neg (by omega)]
  obtain ⟨rs, h1, h2, h3⟩ := h.recs
  have e1 : craS d d.size 0 = d := by
    apply L_inj
    unfold craS
    rw [L_extract, List.drop_zero, Nat.sub_zero]
    exact List.take_of_length_le (by rw [L_len]; exact Nat.le_add_right _ _)
  have e2 : craN d d.size 0 = d.size := by
    unfold craN
    rw [e1, h1, scan_all rs (good_len h2)]
    simp only
    rw [← h1, L_len]
  refine ⟨h0, ?_, ?_⟩
  · unfold craD
    rw [if_pos h0, e1, e2]
    apply L_inj
    rw [L_extract, List.drop_zero, Nat.sub_zero]
    exact List.take_of_length_le (by rw [L_len]; exact Nat.le_refl _)
  · unfold craF
    rw [if_pos h0, e2]
theorem cra_none {d : ByteArray} {sf : Nat} (h : sf ≤ d.size) : craErr d sf 0 = 0 := by unfold craErr; rw [if_neg (by omega)]
/-- One record of a log that is rightly written, at its place. -/
theorem good_at : ∀ {rs : List (List UInt8)} {s : List UInt8}, good s rs → ∀ (k : Nat) (h : k < rs.length), (rs[k].length ≤ 1100) ∧ ((∃ t, rs[k] = 98 :: t ∧ t.length ≤ 200) ∨ ∃ l, rs[k] = 101 :: wrL l ∧ edErr (play s (rs.take k)).length l = 0)
  | r :: rs, s, h, 0, _ => ⟨h.1, h.2.1⟩
  | r :: rs, s, h, k + 1, hk => good_at (rs := rs) (s := leafStep s r) h.2.2 k (by simpa using hk)
theorem play_take {rs : List (List UInt8)} {s : List UInt8} {k : Nat} (h : k < rs.length) : play s (rs.take (k + 1)) = leafStep (play s (rs.take k)) rs[k] := by
  rw [List.take_add_one, List.getElem?_eq_getElem h]; exact play_snoc _ _ _
end Go.Proofs.YtplgghjdidmcfaaGreatDoor
namespace Go.Proofs.YtplgghjdidmcfaaGreatDoor
open Go.RowKit
structure Gbs (w w' : World) (rs : List Nat) : Prop where
  os : w'.os = w.os
  tape : w'.tape = w.tape
  output : w'.output = w.output
  size : w.heap.size ≤ w'.heap.size
  block : ∀ k, k < w.heap.size → k ∉ rs → w'.heap[k]? = w.heap[k]?
section
variable {w w' w2 : World} {rs ss : List Nat} {g : Nat}
theorem Gbs.refl (w : World) (rs : List Nat) : Gbs w w rs := ⟨rfl, rfl, rfl, Nat.le_refl _, fun _ _ _ => rfl⟩
theorem Gbs.trans (h : Gbs w w' rs) (k : Gbs w' w2 rs) : Gbs w w2 rs :=
  ⟨k.os.trans h.os, k.tape.trans h.tape, k.output.trans h.output, Nat.le_trans h.size k.size, fun i hi hr => (k.block i (Nat.lt_of_lt_of_le hi h.size) hr).trans (h.block i hi hr)⟩
theorem Gbs.of_gb (h : w.grownBy w' (some g)) (hg : g ∈ rs) : Gbs w w' rs := ⟨h.os, h.tape, h.output, h.size, fun i hi hr => h.block i hi (fun e => hr (by cases e; exact hg))⟩
theorem Gbs.of_below (h : Below w.heap.size w w') (rs : List Nat) : Gbs w w' rs := ⟨h.os, h.tape, h.output, h.size, fun k hk _ => h.block k hk⟩
theorem Gbs.gb (h : Gbs w w' rs) (k : w'.grownBy w2 (some g)) (hg : g ∈ rs ∨ w.heap.size ≤ g) : Gbs w w2 rs :=
  ⟨k.os.trans h.os, k.tape.trans h.tape, k.output.trans h.output, Nat.le_trans h.size k.size, fun i hi hr => (k.block i (Nat.lt_of_lt_of_le hi h.size) (fun e => by
    cases e
    rcases hg with hg | hg
    · exact hr hg
    · omega)).trans (h.block i hi hr)⟩
theorem Gbs.then_below (h : Gbs w w' rs) (k : Below w'.heap.size w' w2) : Gbs w w2 rs := h.trans (Gbs.of_below k rs)
theorem Gbs.set_ (h : Gbs w w' rs) (hg : g ∈ rs ∨ w.heap.size ≤ g) (i : Nat) (u : Value) : Gbs w (w'.setCell ⟨g, i, none⟩ u) rs := h.gb (gb_set (gb_refl _ _) i u) hg
theorem Gbs.alloc (h : Gbs w w' rs) (o : Obj) : Gbs w (w'.alloc o) rs := h.then_below ((Below.refl _ _).alloc (Nat.le_refl _) _)
theorem Gbs.drewN (h : Gbs w w' rs) (n : Nat) : Gbs w (w'.drewN n) rs := h.then_below (below_drewN (Below.refl _ _) _)
theorem Gbs.drew (h : Gbs w w' rs) : Gbs w w'.drew rs := h.then_below (Below.drew (Below.refl _ _))
theorem Gbs.mono (h : Gbs w w' rs) (hs : ∀ g ∈ rs, g ∈ ss) : Gbs w w' ss := ⟨h.os, h.tape, h.output, h.size, fun k hk hr => h.block k hk (fun e => hr (hs k e))⟩
theorem Below.gbs {base : Nat} {a : World} (h : Below base a w) (k : Gbs w w' rs) (hr : ∀ g ∈ rs, base ≤ g) (hs : base ≤ w.heap.size) : Below base a w' :=
  ⟨k.os.trans h.os, k.tape.trans h.tape, k.output.trans h.output, Nat.le_trans h.size k.size, fun i hi => (k.block i (by omega) (fun e => by have := hr i e; omega)).trans (h.block i hi)⟩
theorem Blk.gbs {t : TypeId} {cs : Array Value} (h : Blk w g t cs) (k : Gbs w w' rs) (hg : g ∉ rs) : Blk w' g t cs := (k.block g h.lt hg).trans h
end
end Go.Proofs.YtplgghjdidmcfaaGreatDoor
namespace Go.Proofs.YtplgghjdidmcfaaGreatDoor
open Go.RowKit
/-- Edits that are small. -/
def Small (l : List Ed) : Prop := ∀ x ∈ l, 0 ≤ x.del ∧ x.del ≤ 200 ∧ x.ins.length ≤ 40
theorem Small.grows {l : List Ed} (h : Small l) : -(200 * l.length : Int) ≤ grows l ∧ grows l ≤ 40 * l.length := by
  induction l with
  | nil => simp [Go.Proofs.YtplgghjdidmcfaaGreatDoor.grows]
  | cons x r ih =>
    have h1 := h x (by simp)
    have h2 := ih (fun y hy => h y (by simp [hy]))
    simp only [Go.Proofs.YtplgghjdidmcfaaGreatDoor.grows, List.length_cons]
    omega
theorem grows_take_succ (l : List Ed) (k : Nat) (hk : k < l.length) : grows (l.take (k + 1)) = grows (l.take k) + (l[k].ins.length - l[k].del) := by
  rw [List.take_succ_eq_append_getElem hk, grows_append]; simp [grows]
theorem Small.take {l : List Ed} (h : Small l) (k : Nat) : Small (l.take k) := fun x hx => h x (List.mem_of_mem_take hx)
set_option maxRecDepth 100000 in
set_option maxHeartbeats 1000000 in
theorem grows_any (l : List Ed) (A : Option Addr) (m c B : Nat) (w : World) (hr : Rd w B 3 A m (edCells l)) (hB : B ≤ w.heap.size) (hm : m ≤ 1000) (hs : Small l) :
    Calls Tryz.prog 179 #[.slice A m c] w fun e w' => e = .returned (.int .i64 (grows l)) ∧ Below w.heap.size w w' := by
  have hlen := Rd.rec_len ed_len (by omega) hr
  have HR := Lib.hid hr; clear hr
  have HL := Lib.hid hlen; clear hlen
  have HS := Lib.hid hs; clear hs
  go_enter Tryz.func179, Tryz.ntmps179
  go_wp2
  go_loopw [3, 8] (fun s i wr => ∃ k : Nat, k ≤ m ∧ i = .int .i64 k ∧ s = .int .i64 (grows (l.take k)) ∧ Below w.heap.size w wr) (fun _ i _ => m - (intOf i).toNat)
  case atStart => exact ⟨0, Nat.zero_le _, rfl, rfl, Below.refl _ _⟩
  case round =>
    obtain ⟨k, hk, rfl, rfl, hb⟩ := hrel
    have hbs := hb.size
    by_cases hlt : k < m
    · obtain ⟨ad, hl, rfl, hab, c0, c1, c2⟩ := (HR.out.below (hb.mono hB)).at_ed hlt
      have HG := Lib.hid (grows_take_succ l k hl)
      have hg := (HS.out.take k).grows
      have hkl : (l.take k).length = k := by rw [List.length_take]; omega
      rw [hkl] at hg
      obtain ⟨hd0, hd1, hi⟩ := HS.out l[k] (List.getElem_mem hl)
      obtain ⟨g0, g1⟩ := hg
      have hz : (S l[k].ins).size = l[k].ins.length := S_size _
      have HZ := Lib.hid hz
      have hz2 : (S l[k].ins).size ≤ 40 := by omega
      clear hz hkl
      generalize l[k] = x at *
      generalize grows (l.take k) = g at *
      obtain ⟨xa, xd, xi⟩ := x
      simp only at c0 c1 c2 HG HZ hd0 hd1 hi hz2
      go_wp2
      go_roundw
      case rel => exact ⟨k + 1, by omega, by go_num, by rw [HG.out, HZ.out], (by repeat (first | exact Below.refl _ _ | assumption | refine Below.alloc ?_ (by first | exact Nat.le_refl _ | assumption | omega | (simp <;> omega)) _ | refine Below.setCell ?_ (by first | exact Nat.le_refl _ | assumption | omega | (simp <;> omega)) _ | refine Below.drew ?_ | refine below_drewN ?_ _))⟩
      case measure => simp [intOf]; omega
    · obtain rfl : k = m := by omega
      have HT : Hid (l.take k = l) := by unfold Hid; rw [List.take_of_length_le (by rw [HL.out]; omega)]
      go_wp2
      go_ret
      exact ⟨ret_int (by rw [HT.out]), hb⟩
theorem EdAt.lastE {n : Int} {l : List Ed} {k : Nat} {e : Int} (h : EdAt n l k e) (hk : 0 < k) : ∃ hl : k - 1 < l.length, e = l[k - 1].at_ + l[k - 1].del ∧ 0 ≤ l[k - 1].del ∧ l[k - 1].del ≤ 200 := by
  have hle := h.le
  have h1 := h.last
  obtain ⟨j, rfl⟩ : ∃ j, k = j + 1 := ⟨k - 1, by omega⟩
  have h2 := lastEnd_take l j (by omega)
  rw [h1, if_neg (by omega)] at h2
  injection h2 with h2
  have h3 := h.chain l[j] (by rw [List.take_succ_eq_append_getElem (show j < l.length by omega)]; exact List.mem_append_right _ (by simp))
  exact ⟨by omega, h2, h3.1, h3.2.1⟩
set_option maxRecDepth 100000 in
set_option maxHeartbeats 4000000 in
theorem editsErr_any (n : Int) (l : List Ed) (A : Option Addr) (m c B : Nat) (w : World) (hr : Rd w B 3 A m (edCells l)) (hB : B ≤ w.heap.size) (hm : m ≤ 9223372036854775807) :
    Calls Tryz.prog 129 #[.int .i64 n, .slice A m c] w fun e w' => e = .returned (.int .i64 (edErr n l)) ∧ Below w.heap.size w w' := by
  have hlen := Rd.rec_len ed_len (by omega) hr
  by_cases hn : n < 0 ∨ 200 < n
  · have HE : Hid (edErr n l = 1) := by unfold Hid edErr; rw [if_pos hn]
    have HN := Lib.hid hn; clear hn hr
    go_enter Tryz.func129, Tryz.ntmps129
    go_wp2
    all_goals first
      | (go_ret; exact ⟨ret_int HE.out.symm, Below.refl _ _⟩)
      | (exfalso; have := HN.out; omega)
  have hn0 : 0 ≤ n := by omega
  have hn1 : n ≤ 200 := by omega
  have HN := Lib.hid hn; clear hn
  by_cases h20 : 20 < m
  · have HE : Hid (edErr n l = 2) := by unfold Hid edErr; rw [if_neg HN.out, if_pos (by omega)]
    clear hr
    go_enter Tryz.func129, Tryz.ntmps129
    go_wp2
    go_ret
    exact ⟨ret_int HE.out.symm, Below.refl _ _⟩
  have HR := Lib.hid hr; clear hr
  have HL := Lib.hid hlen; clear hlen
  go_enter Tryz.func129, Tryz.ntmps129
  go_wp2
  go_loopw [18] (fun i wr => ∃ (k : Nat) (e' : Int), EdAt n l k e' ∧ i = .int .i64 k ∧ Below w.heap.size w wr)
    (fun i _ => m - (intOf i).toNat)
  case atStart => exact ⟨0, 0, EdAt.start hn0 l, rfl, Below.refl _ _⟩
  case round =>
    obtain ⟨k, e', HA, rfl, hb⟩ := hrel
    have hk := HA.le
    rw [HL.out] at hk
    have hbs := hb.size
    have he0 := HA.e0
    have he1 := HA.e1
    by_cases hlt : k < m
    · have HRb := Lib.hid (HR.out.below (hb.mono hB))
      obtain ⟨ad, hl, rfl, hab, c0, c1, c2⟩ := HRb.out.at_ed hlt
      have HSt : Hid (edAt n k e' l[k] = 0 → EdAt n l (k + 1) (l[k].at_ + l[k].del) ∧ grows (l.take (k + 1)) = grows (l.take k) + (l[k].ins.length - l[k].del)) := HA.step hn1 hl
      have HBd : Hid (∀ c, edAt n k e' l[k] = c → c ≠ 0 → edErr n l = c) := fun c => HA.bad hn0 hn1 (by rw [HL.out]; omega) hl
      have hz : (S l[k].ins).size = l[k].ins.length := S_size _
      have HZ := Lib.hid hz; clear hz
      have HZ1 : Hid ((S l[k].ins).toList.isEmpty = decide (l[k].ins.length = 0)) := isEmpty_size _
      by_cases hk0 : k = 0
      · have HK0 := Lib.hid hk0
        have g0 : decide ((0 : Int) < (k : Int)) = false := by simp; omega
        have g1 : decide (0 < k) = false := by simp; omega
        clear hk0
        generalize l[k] = x at *
        obtain ⟨xa, xd, xi⟩ := x
        simp only at c0 c1 c2 HSt HBd HZ HZ1
        clear HA
        go_wp2
        all_goals first
        | (go_ret
           refine ⟨ret_int (HBd.out _ ?_ (by decide)).symm, (by repeat (first | exact Below.refl _ _ | assumption | refine Below.alloc ?_ (by first | exact Nat.le_refl _ | assumption | omega | (simp <;> omega)) _ | refine Below.setCell ?_ (by first | exact Nat.le_refl _ | assumption | omega | (simp <;> omega)) _ | refine Below.drew ?_ | refine below_drewN ?_ _))⟩
           go_light
           have hz := HZ.out; have hz1 := HZ1.out; have hk0 := HK0.out
           clear HBd HSt HZ HZ1 HK0
           unfold edAt
           grind)
        | (go_quiet (fail)
           go_wp2_with fail
           go_roundw
           case rel =>
             go_light
             have hz := HZ.out; have hz1 := HZ1.out; have hk0 := HK0.out
             have h0 : edAt n k e' ⟨xa, xd, xi⟩ = 0 := by
               clear HBd HSt HZ HZ1 HK0
               unfold edAt
               grind
             exact ⟨k + 1, _, (HSt.out h0).1, by go_num, below_drewN (by repeat (first | exact Below.refl _ _ | assumption | refine Below.alloc ?_ (by first | exact Nat.le_refl _ | assumption | omega | (simp <;> omega)) _ | refine Below.setCell ?_ (by first | exact Nat.le_refl _ | assumption | omega | (simp <;> omega)) _ | refine Below.drew ?_ | refine below_drewN ?_ _)) _⟩
           case measure => simp [intOf]; omega)
      · have HLE := Lib.hid (HA.lastE (by omega))
        obtain ⟨ad', hl', hA', ha', d0, d1, d2⟩ := HRb.out.at_ed (k := k - 1) (by omega)
        cases hA'
        have d0 : ∀ o, (wr.alloc o).cell? (ad.add ((k - 1) * 3)) = some (.int .i64 (l[k - 1]'hl').at_) := fun o => (World.cell?_alloc_lt wr o _ (by rw [blk_add]; omega)).trans d0
        have d1 : ∀ o, (wr.alloc o).cell? ⟨(ad.add ((k - 1) * 3)).block, (ad.add ((k - 1) * 3)).off + 1, none⟩ = some (.int .i64 (l[k - 1]'hl').del) := fun o => (World.cell?_alloc_lt wr o _ (by show (ad.add ((k - 1) * 3)).block < _; rw [blk_add]; omega)).trans d1
        clear ha' d2
        have HK0 := Lib.hid hk0
        obtain ⟨hz9, hpe9, hp0, hp1⟩ := HLE.out
        have hpE := Lib.hid hpe9
        clear hpe9
        have hpA : 0 ≤ l[k - 1].at_ + l[k - 1].del := by rw [← hpE.out]; exact he0
        have hpB : l[k - 1].at_ + l[k - 1].del ≤ 200 := by rw [← hpE.out]; omega
        clear HLE
        have hk1 : 1 ≤ k := by omega
        have g0 : decide ((0 : Int) < (k : Int)) = true := by simp; omega
        have g1 : decide (0 < k) = true := by simp; omega
        generalize l[k - 1] = y at *
        generalize l[k] = x at *
        obtain ⟨xa, xd, xi⟩ := x
        obtain ⟨ya, yd, yi⟩ := y
        simp only at c0 c1 c2 HSt HBd HZ HZ1 d0 d1 hp0 hp1 hpE hpA hpB
        clear HA
        have hpE' := hpE
        go_wp2
        all_goals first
        | (go_ret
           refine ⟨ret_int (HBd.out _ ?_ (by decide)).symm, (by repeat (first | exact Below.refl _ _ | assumption | refine Below.alloc ?_ (by first | exact Nat.le_refl _ | assumption | omega | (simp <;> omega)) _ | refine Below.setCell ?_ (by first | exact Nat.le_refl _ | assumption | omega | (simp <;> omega)) _ | refine Below.drew ?_ | refine below_drewN ?_ _))⟩
           go_light
           have hz := HZ.out; have hz1 := HZ1.out; have hk0 := HK0.out
           clear HBd HSt HZ HZ1 HK0
           unfold edAt; have he := hpE'.out
           grind)
        | (by_cases hov : xa ≤ ya + yd
           · have g2 : decide (xa ≤ ya + yd) = true := decide_eq_true hov
             go_quiet (fail)
             go_wp2_with fail
             go_ret
             refine ⟨ret_int (HBd.out _ ?_ (by decide)).symm, below_drewN (by repeat (first | exact Below.refl _ _ | assumption | refine Below.alloc ?_ (by first | exact Nat.le_refl _ | assumption | omega | (simp <;> omega)) _ | refine Below.setCell ?_ (by first | exact Nat.le_refl _ | assumption | omega | (simp <;> omega)) _ | refine Below.drew ?_ | refine below_drewN ?_ _)) _⟩
             go_light
             have hz := HZ.out; have hz1 := HZ1.out; have hk0 := HK0.out; have he := hpE'.out
             clear HBd HSt HZ HZ1 HK0
             unfold edAt
             grind
           · have g2 : decide (xa ≤ ya + yd) = false := decide_eq_false hov
             go_quiet (fail)
             go_wp2_with fail
             go_roundw
             case rel =>
               go_light
               have hz := HZ.out; have hz1 := HZ1.out; have hk0 := HK0.out
               have h0 : edAt n k e' ⟨xa, xd, xi⟩ = 0 := by
                 clear HBd HSt HZ HZ1 HK0
                 unfold edAt; have he := hpE'.out
                 grind
               exact ⟨k + 1, _, (HSt.out h0).1, by go_num, below_drewN (by repeat (first | exact Below.refl _ _ | assumption | refine Below.alloc ?_ (by first | exact Nat.le_refl _ | assumption | omega | (simp <;> omega)) _ | refine Below.setCell ?_ (by first | exact Nat.le_refl _ | assumption | omega | (simp <;> omega)) _ | refine Below.drew ?_ | refine below_drewN ?_ _)) _⟩
             case measure => simp [intOf]; omega)
    · have HF := Lib.hid (HA.fin hn0 hn1 (by rw [HL.out]; omega) (by rw [HL.out]; omega))
      obtain rfl : k = m := by omega
      have HT : Hid (l.take k = l) := by unfold Hid; rw [List.take_of_length_le (by rw [HL.out]; omega)]
      rw [HT.out] at HF
      have hsm : Small l := by have := HA.chain; rw [HT.out] at this; exact this
      have glo := HA.lo
      have ghi := HA.hi
      rw [HT.out] at glo ghi
      have HSM := Lib.hid hsm
      clear HA hsm
      go_wp2_with fail
      refine (grows_any l A k c B wr (HR.out.below (hb.mono hB)) (Nat.le_trans hB hbs) (by omega) HSM.out).mono ?_
      rintro e w2 ⟨rfl, hb2⟩
      have hb3 := hb.trans (hb2.mono hbs)
      generalize grows l = g at *
      go_wp2
      all_goals go_ret
      all_goals refine ⟨ret_int ?_, hb3⟩
      all_goals (rw [HF.out]; split <;> first | rfl | omega)
end Go.Proofs.YtplgghjdidmcfaaGreatDoor
