/- The reference's AppendOf, CrashOf and Rest. The law LogPlays, walked. The methods of a leaf, but those that read its log. -/
import Derived.Test.YtmikckhihfcooaaDoorPk22
import Derived.Test.YtmikckhihfcooaaDoorPk02
import Derived.Test.YtmikckhihfcooaaDoorPk23
import Derived.Test.YtmikckhihfcooaaDoorPk03
namespace Go.Proofs.YtmikckhihfcooaaDoor
open Go.RowKit
end Go.Proofs.YtmikckhihfcooaaDoor
namespace Go.Proofs.YtmikckhihfcooaaDoor
open Go.RowKit
set_option maxRecDepth 100000 in
theorem lgNew_any (w : World) : Calls Tryd.prog 19 #[] w fun e w' => e = .returned (.pointer (some ⟨w.heap.size, 0, none⟩)) ∧ w' = w.alloc (.cells #[.string ⟨#[]⟩, .int .i64 0] 75) := by
  go_enter Tryd.func19, Tryd.ntmps19
  go_wp2_with fail
  go_ret
  exact ⟨rfl, rfl⟩
end Go.Proofs.YtmikckhihfcooaaDoor
namespace Go.Proofs.YtmikckhihfcooaaDoor
open Go.RowKit
theorem LogAt.gbs {w w' : World} {g : Nat} {t : TypeId} {d : ByteArray} {sf : Nat} {rs : List Nat} (h : LogAt w g t d sf) (k : Gbs w w' rs) (hg : g ∉ rs) : LogAt w' g t d sf := Blk.gbs h k hg
/-- A leaf in block g, its log in block gl. -/
structure LeafAt (w : World) (g gl : Nat) (tx d : ByteArray) (sf : Nat) : Prop where
  leaf : Blk w g 53 #[.string tx, .pointer (some ⟨gl, 0, none⟩)]
  log : LogAt w gl 75 d sf
  ne : g ≠ gl
section
variable {w w' : World} {g gl : Nat} {tx d : ByteArray} {sf : Nat}
theorem LeafAt.gbs {rs : List Nat} (h : LeafAt w g gl tx d sf) (k : Gbs w w' rs) (hg : g ∉ rs) (hl : gl ∉ rs) : LeafAt w' g gl tx d sf := ⟨h.leaf.gbs k hg, h.log.gbs k hl, h.ne⟩
theorem LeafAt.below (h : LeafAt w g gl tx d sf) (k : Below w.heap.size w w') : LeafAt w' g gl tx d sf := ⟨h.leaf.below' k, h.log.below' k, h.ne⟩
theorem LeafAt.cells (h : LeafAt w g gl tx d sf) : w.cell? ⟨g, 0, none⟩ = some (.string tx) ∧ w.cell? ⟨g, 1, none⟩ = some (.pointer (some ⟨gl, 0, none⟩)) ∧ w.frozen? ⟨g, 0, none⟩ = false ∧ w.frozen? ⟨g, 1, none⟩ = false ∧ g < w.heap.size ∧ gl < w.heap.size :=
  ⟨h.leaf.cell 0, h.leaf.cell 1, h.leaf.frozen 0, h.leaf.frozen 1, h.leaf.lt, Blk.lt h.log⟩
/-- The log alone has turned. -/
theorem LeafAt.logged {d' : ByteArray} {sf' : Nat} (h : LeafAt w g gl tx d sf) (k : LogAt w' gl 75 d' sf') (hg : w.grownBy w' (some gl)) : LeafAt w' g gl tx d' sf' :=
  ⟨h.leaf.grown hg (fun e => h.ne (Option.some.inj e)), k, h.ne⟩
theorem LeafAt.told (h : LeafAt w g gl tx d sf) (t : ByteArray) : LeafAt (w.setCell ⟨g, 0, none⟩ (.string t)) g gl t d sf :=
  ⟨h.leaf.set_ 0 _, Blk.far h.log (fun e => h.ne e.symm) _, h.ne⟩
theorem gbs_log (h : w.grownBy w' (some gl)) : Gbs w w' [g, gl] := Gbs.of_gb h (by simp)
theorem gbs_told {w2 : World} (h : Gbs w w2 [g, gl]) (t : Value) : Gbs w (w2.setCell ⟨g, 0, none⟩ t) [g, gl] := h.set_ (.inl (by simp)) 0 t
end
def lfE (tx d : ByteArray) (l : List Ed) : Int := if edErr tx.size l = 0 then appErr d (recE (S (wrL l))) else edErr tx.size l
def lfT (tx d : ByteArray) (l : List Ed) : ByteArray := if lfE tx d l = 0 then S (edDone (L tx) l) else tx
def lfD (tx d : ByteArray) (l : List Ed) : ByteArray := if lfE tx d l = 0 then appD d (recE (S (wrL l))) else d
theorem LfOk.edit' {tx d : ByteArray} {sf : Nat} (h : LfOk tx d sf) (l : List Ed) : LfOk (lfT tx d l) (lfD tx d l) sf := by
  unfold lfT lfD
  by_cases hz : lfE tx d l = 0
  · rw [if_pos hz, if_pos hz]
    unfold lfE at hz
    split at hz
    · rename_i he; exact h.edit he hz
    · rename_i he; exact absurd hz he
  · rw [if_neg hz, if_neg hz]; exact h
def lsE (d t : ByteArray) : Int := if 200 < t.size then 2 else appErr d (recB t)
def lsT (tx d t : ByteArray) : ByteArray := if lsE d t = 0 then t else tx
def lsD (d t : ByteArray) : ByteArray := if lsE d t = 0 then appD d (recB t) else d
theorem LfOk.set' {tx d : ByteArray} {sf : Nat} (h : LfOk tx d sf) (t : ByteArray) : LfOk (lsT tx d t) (lsD d t) sf := by
  unfold lsT lsD
  by_cases hz : lsE d t = 0
  · rw [if_pos hz, if_pos hz]
    unfold lsE at hz
    split at hz
    · cases hz
    · exact h.set (by omega) hz
  · rw [if_neg hz, if_neg hz]; exact h
theorem appD_err {d rec : ByteArray} (h : appErr d rec ≠ 0) : appD d rec = d := by unfold appD; rw [if_neg h]
theorem tabI_stays {w W : World} (ht : TabI w) (hb : Below w.heap.size w W) : TabI W := Go.Joins.tab_stays (g := Tryd.prog.globalNamed "internal/strconv.uint64pow10" |>.getD 0) (by kernel_rfl) ht hb (Nat.le_refl _)
set_option maxRecDepth 100000 in
set_option maxHeartbeats 2000000 in
theorem lfEdit_any (g gl : Nat) (tx d : ByteArray) (sf : Nat) (l : List Ed) (A : Option Addr) (m c B : Nat) (w : World) (h : LeafAt w g gl tx d sf) (hk : LfOk tx d sf) (hr : Rd w B 3 A m (edCells l)) (hB : B ≤ w.heap.size) (hm : m ≤ 9223372036854775807) (ht : TabI w) :
    Calls Tryd.prog 9 #[.pointer (some ⟨g, 0, none⟩), .slice A m c] w fun e w' => e = .returned (.int .i64 (lfE tx d l)) ∧ LeafAt w' g gl (lfT tx d l) (lfD tx d l) sf ∧ Gbs w w' [g, gl] := by
  have htx := hk.text
  have hd := hk.size
  have HAP := Lib.hid (edApply_any tx l A m c B w hr hB hm (by omega))
  have HWR := Lib.hid (fun W (hb : Below w.heap.size w W) => write_any l A m c B W (hr.below (hb.mono hB)) (Nat.le_trans hB hb.size) hm (tabI_stays ht hb))
  have HH := Lib.hid h
  obtain ⟨c0, c1, f0, f1, hg, hgl⟩ := h.cells
  clear h hk hr ht
  by_cases hz : edErr tx.size l = 0
  · have HZ := Lib.hid hz
    have HA : Hid (apOut tx l = S (edDone (L tx) l)) := by unfold Hid apOut; rw [if_pos hz]
    rw [Hid, HA.out, hz] at HAP
    have HAP := Lib.hid HAP
    have hs := scr_of_ed hz
    have hwl := wrL_len (scrErr_zero.1 hs).2
    have h20 := (scrErr_zero.1 hs).1
    rw [Hid, if_pos hs, hs] at HWR
    have HWR := Lib.hid HWR
    have hTs : (S (wrL l)).size ≤ 2400 := by rw [S_size]; omega
    have HE : Hid (lfE tx d l = appErr d (recE (S (wrL l)))) := by unfold Hid lfE; rw [if_pos hz]
    have HT : Hid (lfT tx d l = if appErr d (recE (S (wrL l))) = 0 then S (edDone (L tx) l) else tx) := by unfold Hid lfT; rw [HE.out]
    have HD : Hid (lfD tx d l = if appErr d (recE (S (wrL l))) = 0 then appD d (recE (S (wrL l))) else d) := by unfold Hid lfD; rw [HE.out]
    clear hz hs hwl h20 HA
    generalize S (edDone (L tx) l) = u at *
    generalize S (wrL l) = T at *
    have HL := Lib.hid (fun W (h : LeafAt W g gl tx d sf) => lgAppend_any gl d (recE T) sf W h.log hd)
    by_cases hq : appErr d (recE T) = 0
    · rw [Hid, hq] at HL HE HT HD
      rw [if_pos rfl] at HT HD
      have HL := Lib.hid HL; have HE := Lib.hid HE; have HT := Lib.hid HT; have HD := Lib.hid HD
      clear hq
      rw [HE.out, HT.out, HD.out]
      go_enter Tryd.func9, Tryd.ntmps9
      go_wp2_with fail
      refine HAP.out.mono ?_
      rintro e w1 ⟨rfl, hb1⟩
      have H1 := Lib.hid (HH.out.below hb1)
      have hs1 := hb1.size
      obtain ⟨c0, c1, f0, f1, hg, hgl⟩ := H1.out.cells
      go_wp2_with fail
      refine (HWR.out _ hb1).mono ?_
      rintro e w2 ⟨rfl, hb2⟩
      have H2 := Lib.hid (H1.out.below hb2)
      have hB2 := bthen hb1 hb2
      obtain ⟨c0, c1, f0, f1, hg, hgl⟩ := H2.out.cells
      go_wp2_with fail
      refine (HL.out _ H2.out).mono ?_
      rintro e w3 ⟨rfl, hL3, hg3⟩
      have H3 := Lib.hid (H2.out.logged hL3 hg3)
      have hB3 : Gbs w w3 [g, gl] := (Gbs.of_below hB2 _).trans (gbs_log hg3)
      clear c0 c1 f0 f1 hL3 hg3
      obtain ⟨c0, c1, f0, f1, hg, hgl⟩ := H3.out.cells
      go_wp2_with fail
      go_ret
      exact ⟨rfl, H3.out.told _, gbs_told hB3 _⟩
    · have HDD := Lib.hid (appD_err hq)
      rw [Hid, if_neg hq] at HT HD
      rw [Hid, HDD.out] at HL
      have HL := Lib.hid HL; have HT := Lib.hid HT; have HD := Lib.hid HD
      rw [HE.out, HT.out, HD.out]
      have g1 : (appErr d (recE T) != 0) = true := by simpa using hq
      generalize appErr d (recE T) = q at *
      clear hq
      go_enter Tryd.func9, Tryd.ntmps9
      go_wp2_with fail
      refine HAP.out.mono ?_
      rintro e w1 ⟨rfl, hb1⟩
      have H1 := Lib.hid (HH.out.below hb1)
      have hs1 := hb1.size
      obtain ⟨c0, c1, f0, f1, hg, hgl⟩ := H1.out.cells
      go_wp2_with fail
      refine (HWR.out _ hb1).mono ?_
      rintro e w2 ⟨rfl, hb2⟩
      have H2 := Lib.hid (H1.out.below hb2)
      have hB2 := bthen hb1 hb2
      obtain ⟨c0, c1, f0, f1, hg, hgl⟩ := H2.out.cells
      go_wp2_with fail
      refine (HL.out _ H2.out).mono ?_
      rintro e w3 ⟨rfl, hL3, hg3⟩
      have H3 := Lib.hid (H2.out.logged hL3 hg3)
      have hB3 : Gbs w w3 [g, gl] := (Gbs.of_below hB2 _).trans (gbs_log hg3)
      clear c0 c1 f0 f1 hL3 hg3
      go_wp2_with fail
      go_ret
      exact ⟨rfl, H3.out, hB3⟩
  · have HE : Hid (lfE tx d l = edErr tx.size l) := by unfold Hid lfE; rw [if_neg hz]
    have HT : Hid (lfT tx d l = tx) := by unfold Hid lfT; rw [HE.out, if_neg hz]
    have HD : Hid (lfD tx d l = d) := by unfold Hid lfD; rw [HE.out, if_neg hz]
    rw [HE.out, HT.out, HD.out]
    have g1 : (edErr tx.size l != 0) = true := by simpa using hz
    generalize edErr tx.size l = q at *
    clear hz
    go_enter Tryd.func9, Tryd.ntmps9
    go_wp2_with fail
    refine HAP.out.mono ?_
    rintro e w1 ⟨rfl, hb1⟩
    have H1 := Lib.hid (HH.out.below hb1)
    go_wp2_with fail
    go_ret
    exact ⟨rfl, H1.out, Gbs.of_below hb1 _⟩
set_option maxRecDepth 100000 in
set_option maxHeartbeats 2000000 in
theorem lfSave_any (g gl : Nat) (tx d : ByteArray) (sf : Nat) (w : World) (h : LeafAt w g gl tx d sf) :
    Calls Tryd.prog 15 #[.pointer (some ⟨g, 0, none⟩)] w fun e w' => e = .returned (.tuple #[]) ∧ LeafAt w' g gl tx d d.size ∧ Gbs w w' [g, gl] := by
  have HH := Lib.hid h
  obtain ⟨c0, c1, f0, f1, hg, hgl⟩ := h.cells
  clear h
  go_enter Tryd.func15, Tryd.ntmps15
  go_wp2_with fail
  refine (lgSync_any gl d sf w HH.out.log).mono ?_
  rintro e w3 ⟨rfl, hL3, hg3⟩
  have H3 := Lib.hid (HH.out.logged hL3 hg3)
  go_wp2_with fail
  go_end0
  exact ⟨rfl, H3.out, gbs_log hg3⟩
set_option maxRecDepth 100000 in
set_option maxHeartbeats 2000000 in
theorem lfText_any (g gl : Nat) (tx d : ByteArray) (sf : Nat) (w : World) (h : LeafAt w g gl tx d sf) :
    Calls Tryd.prog 12 #[.pointer (some ⟨g, 0, none⟩)] w fun e w' => e = .returned (.string tx) ∧ Below w.heap.size w w' := by
  obtain ⟨c0, c1, f0, f1, hg, hgl⟩ := h.cells
  clear h
  go_enter Tryd.func12, Tryd.ntmps12
  go_wp2_with fail
  go_ret
  exact ⟨rfl, (by repeat (first | exact Below.refl _ _ | assumption | refine Below.alloc ?_ (by first | exact Nat.le_refl _ | assumption | omega | (simp <;> omega)) _ | refine Below.setCell ?_ (by first | exact Nat.le_refl _ | assumption | omega | (simp <;> omega)) _ | refine Below.drew ?_ | refine below_drewN ?_ _))⟩
set_option maxRecDepth 100000 in
set_option maxHeartbeats 2000000 in
theorem lfNewBig_any (s : ByteArray) (w : World) (hs : 200 < s.size) :
    Calls Tryd.prog 4 #[.string s] w fun e w' => e = .returned (.tuple #[.pointer none, .int .i64 2]) ∧ Below w.heap.size w w' := by
  go_enter Tryd.func4, Tryd.ntmps4
  go_wp2_with fail
  go_ret2
  exact ⟨rfl, (by repeat (first | exact Below.refl _ _ | assumption | refine Below.alloc ?_ (by first | exact Nat.le_refl _ | assumption | omega | (simp <;> omega)) _ | refine Below.setCell ?_ (by first | exact Nat.le_refl _ | assumption | omega | (simp <;> omega)) _ | refine Below.drew ?_ | refine below_drewN ?_ _))⟩
set_option maxRecDepth 100000 in
set_option maxHeartbeats 2000000 in
theorem lfNew_any (s : ByteArray) (w : World) (hs : s.size ≤ 200) :
    Calls Tryd.prog 4 #[.string s] w fun e w' => e = .returned (.tuple #[.pointer (some ⟨w.heap.size + 1, 0, none⟩), .int .i64 0]) ∧ LeafAt w' (w.heap.size + 1) w.heap.size s (newD s) (newD s).size ∧ Below w.heap.size w w' := by
  have HE := Lib.hid (new_app hs)
  go_enter Tryd.func4, Tryd.ntmps4
  go_wp2_with fail
  refine (lgNew_any _).mono ?_
  rintro e w1 ⟨rfl, rfl⟩
  go_wp2_with fail
  have H1 : LeafAt ((w.alloc (.cells #[.string ⟨#[]⟩, .int .i64 0] 75)).alloc (.cells #[.string s, .pointer (some ⟨w.heap.size, 0, none⟩)] 53)) (w.heap.size + 1) w.heap.size s ⟨#[]⟩ 0 := by
    refine ⟨?_, Blk.alloc (Blk.new_ w _ _) _, by omega⟩
    have := Blk.new_ (w.alloc (.cells #[.string ⟨#[]⟩, .int .i64 0] 75)) 53 #[.string s, .pointer (some ⟨w.heap.size, 0, none⟩)]
    rw [World.size_alloc] at this
    exact this
  have hb1 : Below w.heap.size w ((w.alloc (.cells #[.string ⟨#[]⟩, .int .i64 0] 75)).alloc (.cells #[.string s, .pointer (some ⟨w.heap.size, 0, none⟩)] 53)) := (by repeat (first | exact Below.refl _ _ | assumption | refine Below.alloc ?_ (by first | exact Nat.le_refl _ | assumption | omega | (simp <;> omega)) _ | refine Below.setCell ?_ (by first | exact Nat.le_refl _ | assumption | omega | (simp <;> omega)) _ | refine Below.drew ?_ | refine below_drewN ?_ _))
  generalize ((w.alloc (.cells #[.string ⟨#[]⟩, .int .i64 0] 75)).alloc (.cells #[.string s, .pointer (some ⟨w.heap.size, 0, none⟩)] 53)) = w1 at *
  have HH := Lib.hid H1
  clear H1
  obtain ⟨c0, c1, f0, f1, hg, hgl⟩ := HH.out.cells
  go_wp2_with fail
  refine (lgAppend_any w.heap.size ⟨#[]⟩ (recB s) 0 _ HH.out.log (Nat.zero_le _)).mono ?_
  rintro e w2 ⟨rfl, hL2, hg2⟩
  have H2 := Lib.hid (HH.out.logged hL2 hg2)
  have hb2 : Below w.heap.size w w2 := below_gb hb1 hg2 (Nat.le_refl _) hb1.size
  clear c0 c1 f0 f1 hg hgl hL2 hg2
  obtain ⟨c0, c1, f0, f1, hg, hgl⟩ := H2.out.cells
  go_wp2_with fail
  refine (lgSync_any w.heap.size _ 0 _ H2.out.log).mono ?_
  rintro e w3 ⟨rfl, hL3, hg3⟩
  have H3 := Lib.hid (H2.out.logged hL3 hg3)
  have hb3 : Below w.heap.size w w3 := below_gb hb2 hg3 (Nat.le_refl _) hb2.size
  go_wp2_with fail
  go_ret2
  exact ⟨rfl, H3.out, hb3⟩
end Go.Proofs.YtmikckhihfcooaaDoor
