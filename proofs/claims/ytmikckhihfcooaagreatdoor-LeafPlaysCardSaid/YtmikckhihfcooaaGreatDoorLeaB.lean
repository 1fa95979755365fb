/- What a leaf's text and its log are to each other, kept by every call. No program in sight. -/
import Derived.Test.YtmikckhihfcooaaGreatDoorLea0
import Derived.Test.YtmikckhihfcooaaGreatDoorLogS
namespace Go.Proofs.YtmikckhihfcooaaGreatDoor
open Go.RowKit
def recB (s : ByteArray) : ByteArray := ⟨#[98]⟩ ++ s
def recE (s : ByteArray) : ByteArray := ⟨#[101]⟩ ++ s
theorem L_recB (s : ByteArray) : L (recB s) = 98 :: L s := by unfold recB; rw [L_append]; rfl
theorem L_recE (s : ByteArray) : L (recE s) = 101 :: L s := by unfold recE; rw [L_append]; rfl
theorem recB_size (s : ByteArray) : (recB s).size = s.size + 1 := by rw [← L_len, L_recB, List.length_cons, L_len]
theorem recE_size (s : ByteArray) : (recE s).size = s.size + 1 := by rw [← L_len, L_recE, List.length_cons, L_len]
structure LfOk (tx d : ByteArray) (sf : Nat) : Prop where
  recs : ∃ rs, L d = diskL rs ∧ good [] rs ∧ L tx = play [] rs
  size : d.size ≤ 4000
  safe : sf ≤ d.size
theorem LfOk.text {tx d : ByteArray} {sf : Nat} (h : LfOk tx d sf) : tx.size ≤ 200 := by
  obtain ⟨rs, _, h2, h3⟩ := h.recs
  have := good_text h2 (Nat.zero_le _)
  rw [← h3, L_len] at this
  exact this
theorem app_zero {d rec : ByteArray} (h : appErr d rec = 0) : rec.size ≤ 1100 ∧ d.size + (rec.size + 6) ≤ 4000 ∧ L (appD d rec) = L d ++ frameL (L rec) := by
  have h0 := h
  unfold appErr at h
  split at h
  · cases h
  · split at h
    · cases h
    · refine ⟨by omega, by omega, ?_⟩
      unfold appD
      rw [if_pos h0, L_append, L_S]
theorem LfOk.set {tx d : ByteArray} {sf : Nat} (h : LfOk tx d sf) {t : ByteArray} (ht : t.size ≤ 200) (he : appErr d (recB t) = 0) : LfOk t (appD d (recB t)) sf := by
  obtain ⟨rs, h1, h2, h3⟩ := h.recs
  obtain ⟨e1, e2, e3⟩ := app_zero he
  have hs := appD_size d (recB t) h.size
  refine ⟨⟨rs ++ [98 :: L t], ?_, good_snoc h2 ⟨?_, .inl ⟨_, rfl, by rw [L_len]; exact ht⟩, trivial⟩, ?_⟩, hs.1, Nat.le_trans h.safe hs.2⟩
  · rw [e3, h1, diskL_snoc, L_recB]
  · rw [← L_recB, L_len]; exact e1
  · rw [play_snoc, step_b]
theorem LfOk.edit {tx d : ByteArray} {sf : Nat} (h : LfOk tx d sf) {l : List Ed} (hl : edErr tx.size l = 0) (he : appErr d (recE (S (wrL l))) = 0) : LfOk (S (edDone (L tx) l)) (appD d (recE (S (wrL l)))) sf := by
  obtain ⟨rs, h1, h2, h3⟩ := h.recs
  obtain ⟨e1, e2, e3⟩ := app_zero he
  have hs := appD_size d (recE (S (wrL l))) h.size
  rw [← L_len, h3] at hl
  refine ⟨⟨rs ++ [101 :: wrL l], ?_, good_snoc h2 ⟨?_, .inr ⟨_, rfl, hl⟩, trivial⟩, ?_⟩, hs.1, Nat.le_trans h.safe hs.2⟩
  · rw [e3, h1, diskL_snoc, L_recE, L_S]
  · have := e1; rw [← L_len, L_recE, L_S] at this; exact this
  · rw [play_snoc, step_e hl, L_S, h3]
theorem LfOk.save {tx d : ByteArray} {sf : Nat} (h : LfOk tx d sf) : LfOk tx d d.size := ⟨h.recs, h.size, Nat.le_refl _⟩
/-- What a log tells. -/
def lfRead (d : ByteArray) : ByteArray := S (play [] (scanL (L d)).1)
theorem LfOk.reads {tx d : ByteArray} {sf : Nat} (h : LfOk tx d sf) : lfRead d = tx ∧ good [] (scanL (L d)).1 := by
  obtain ⟨rs, h1, h2, h3⟩ := h.recs
  unfold lfRead
  rw [h1, scan_all rs (good_len h2)]
  exact ⟨by simp only; rw [← h3, S_L], h2⟩
theorem LfOk.crash {tx d : ByteArray} {sf : Nat} (h : LfOk tx d sf) {keep : Int} (he : craErr d sf keep = 0) : LfOk (lfRead (craD d sf keep)) (craD d sf keep) (craF d sf keep) := by
  obtain ⟨rs, h1, h2, h3⟩ := h.recs
  have hz := cra_size d sf keep h.size h.safe
  obtain ⟨j, hj, hs, hn, ht⟩ := scan_take rs (good_len h2) (sf + keep.toNat)
  have e1 : L (craS d sf keep) = (diskL rs).take (sf + keep.toNat) := by unfold craS; rw [L_extract, h1, List.drop_zero, Nat.sub_zero]
  have e2 : craN d sf keep = (diskL (rs.take j)).length := by unfold craN; rw [e1, hs]
  have e3 : L (craD d sf keep) = diskL (rs.take j) := by
    unfold craD
    rw [if_pos he, L_extract, e1, List.drop_zero, Nat.sub_zero, e2, List.take_take, Nat.min_eq_left hn, ht]
  have hg := good_take h2 j
  refine ⟨⟨rs.take j, e3, hg, ?_⟩, hz.1, hz.2⟩
  unfold lfRead
  rw [L_S, e3, scan_all _ (good_len hg)]
theorem new_app {s : ByteArray} (hs : s.size ≤ 200) : appErr ⟨#[]⟩ (recB s) = 0 := by
  have h0 : (⟨#[]⟩ : ByteArray).size = 0 := rfl
  have := recB_size s
  unfold appErr
  rw [if_neg (by omega), if_neg (by omega)]
theorem LfOk.empty : LfOk ⟨#[]⟩ ⟨#[]⟩ 0 := ⟨⟨[], rfl, trivial, rfl⟩, Nat.zero_le _, Nat.zero_le _⟩
/-- The disk of a new leaf. -/
def newD (s : ByteArray) : ByteArray := appD ⟨#[]⟩ (recB s)
theorem LfOk.new_ {s : ByteArray} (hs : s.size ≤ 200) : LfOk s (newD s) (newD s).size := (LfOk.empty.set hs (new_app hs)).save
theorem cra_whole {tx d : ByteArray} (h : LfOk tx d d.size) : craErr d d.size 0 = 0 ∧ craD d d.size 0 = d ∧ craF d d.size 0 = d.size := by
  have h0 : craErr d d.size 0 = 0 := by unfold craErr; rw [if_neg (by omega)]
  obtain ⟨rs, h1, h2, h3⟩ := h.recs
  have e1 : craS d d.size 0 = d := by
    apply L_inj
    unfold craS
    rw [L_extract, List.drop_zero, Nat.sub_zero]
    exact List.take_of_length_le (by rw [L_len]; exact Nat.le_add_right _ _)
  have e2 : craN d d.size 0 = d.size := by
    unfold craN
    rw [e1, h1, scan_all rs (good_len h2)]
    simp only
    rw [← h1, L_len]
  refine ⟨h0, ?_, ?_⟩
  · unfold craD
    rw [if_pos h0, e1, e2]
    apply L_inj
    rw [L_extract, List.drop_zero, Nat.sub_zero]
    exact List.take_of_length_le (by rw [L_len]; exact Nat.le_refl _)
  · unfold craF
    rw [if_pos h0, e2]
theorem cra_none {d : ByteArray} {sf : Nat} (h : sf ≤ d.size) : craErr d sf 0 = 0 := by unfold craErr; rw [if_neg (by omega)]
/-- One record of a log that is rightly written, at its place. -/
theorem good_at : ∀ {rs : List (List UInt8)} {s : List UInt8}, good s rs → ∀ (k : Nat) (h : k < rs.length), (rs[k].length ≤ 1100) ∧ ((∃ t, rs[k] = 98 :: t ∧ t.length ≤ 200) ∨ ∃ l, rs[k] = 101 :: wrL l ∧ edErr (play s (rs.take k)).length l = 0)
  | r :: rs, s, h, 0, _ => ⟨h.1, h.2.1⟩
  | r :: rs, s, h, k + 1, hk => good_at (rs := rs) (s := leafStep s r) h.2.2 k (by simpa using hk)
theorem play_take {rs : List (List UInt8)} {s : List UInt8} {k : Nat} (h : k < rs.length) : play s (rs.take (k + 1)) = leafStep (play s (rs.take k)) rs[k] := by
  rw [List.take_add_one, List.getElem?_eq_getElem h]; exact play_snoc _ _ _
end Go.Proofs.YtmikckhihfcooaaGreatDoor
