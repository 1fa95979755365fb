/- The methods of a leaf, but those that read its log. script.Read. The document's ReadOf. -/
import Derived.Test.YtplgghjdidmcfaaGreatDoorPk09
import Derived.Test.YtplgghjdidmcfaaGreatDoorPk10
import Derived.Test.YtplgghjdidmcfaaGreatDoorPk11
import Derived.Test.YtplgghjdidmcfaaGreatDoorPk07
import Derived.Test.YtplgghjdidmcfaaGreatDoorPk04
namespace Go.Proofs.YtplgghjdidmcfaaGreatDoor
open Go.RowKit
theorem LogAt.gbs {w w' : World} {g : Nat} {t : TypeId} {d : ByteArray} {sf : Nat} {rs : List Nat} (h : LogAt w g t d sf) (k : Gbs w w' rs) (hg : g ∉ rs) : LogAt w' g t d sf := Blk.gbs h k hg
/-- A leaf in block g, its log in block gl. -/
structure LeafAt (w : World) (g gl : Nat) (tx d : ByteArray) (sf : Nat) : Prop where
  leaf : Blk w g 127 #[.string tx, .pointer (some ⟨gl, 0, none⟩)]
  log : LogAt w gl 187 d sf
  ne : g ≠ gl
section
variable {w w' : World} {g gl : Nat} {tx d : ByteArray} {sf : Nat}
theorem LeafAt.gbs {rs : List Nat} (h : LeafAt w g gl tx d sf) (k : Gbs w w' rs) (hg : g ∉ rs) (hl : gl ∉ rs) : LeafAt w' g gl tx d sf := ⟨h.leaf.gbs k hg, h.log.gbs k hl, h.ne⟩
theorem LeafAt.below (h : LeafAt w g gl tx d sf) (k : Below w.heap.size w w') : LeafAt w' g gl tx d sf := ⟨h.leaf.below' k, h.log.below' k, h.ne⟩
theorem LeafAt.cells (h : LeafAt w g gl tx d sf) : w.cell? ⟨g, 0, none⟩ = some (.string tx) ∧ w.cell? ⟨g, 1, none⟩ = some (.pointer (some ⟨gl, 0, none⟩)) ∧ w.frozen? ⟨g, 0, none⟩ = false ∧ w.frozen? ⟨g, 1, none⟩ = false ∧ g < w.heap.size ∧ gl < w.heap.size :=
  ⟨h.leaf.cell 0, h.leaf.cell 1, h.leaf.frozen 0, h.leaf.frozen 1, h.leaf.lt, Blk.lt h.log⟩
/-- The log alone has turned. -/
theorem LeafAt.logged {d' : ByteArray} {sf' : Nat} (h : LeafAt w g gl tx d sf) (k : LogAt w' gl 187 d' sf') (hg : w.grownBy w' (some gl)) : LeafAt w' g gl tx d' sf' :=
  ⟨h.leaf.grown hg (fun e => h.ne (Option.some.inj e)), k, h.ne⟩
theorem LeafAt.told (h : LeafAt w g gl tx d sf) (t : ByteArray) : LeafAt (w.setCell ⟨g, 0, none⟩ (.string t)) g gl t d sf :=
  ⟨h.leaf.set_ 0 _, Blk.far h.log (fun e => h.ne e.symm) _, h.ne⟩
theorem gbs_log (h : w.grownBy w' (some gl)) : Gbs w w' [g, gl] := Gbs.of_gb h (by simp)
theorem gbs_told {w2 : World} (h : Gbs w w2 [g, gl]) (t : Value) : Gbs w (w2.setCell ⟨g, 0, none⟩ t) [g, gl] := h.set_ (.inl (by simp)) 0 t
end
def lfE (tx d : ByteArray) (l : List Ed) : Int := if edErr tx.size l = 0 then appErr d (recE (S (wrL l))) else edErr tx.size l
def lfT (tx d : ByteArray) (l : List Ed) : ByteArray := if lfE tx d l = 0 then S (edDone (L tx) l) else tx
def lfD (tx d : ByteArray) (l : List Ed) : ByteArray := if lfE tx d l = 0 then appD d (recE (S (wrL l))) else d
theorem LfOk.edit' {tx d : ByteArray} {sf : Nat} (h : LfOk tx d sf) (l : List Ed) : LfOk (lfT tx d l) (lfD tx d l) sf := by
  unfold lfT lfD
  by_cases hz : lfE tx d l = 0
  · rw [if_pos hz, if_pos hz]
    unfold lfE at hz
    split at hz
    · rename_i he; exact h.edit he hz
    · rename_i he; exact absurd hz he
  · rw [if_neg hz, if_neg hz]; exact h
def lsE (d t : ByteArray) : Int := if 200 < t.size then 2 else appErr d (recB t)
def lsT (tx d t : ByteArray) : ByteArray := if lsE d t = 0 then t else tx
def lsD (d t : ByteArray) : ByteArray := if lsE d t = 0 then appD d (recB t) else d
theorem LfOk.set' {tx d : ByteArray} {sf : Nat} (h : LfOk tx d sf) (t : ByteArray) : LfOk (lsT tx d t) (lsD d t) sf := by
  unfold lsT lsD
  by_cases hz : lsE d t = 0
  · rw [if_pos hz, if_pos hz]
    unfold lsE at hz
    split at hz
    · cases hz
    · exact h.set (by omega) hz
  · rw [if_neg hz, if_neg hz]; exact h
theorem appD_err {d rec : ByteArray} (h : appErr d rec ≠ 0) : appD d rec = d := by unfold appD; rw [if_neg h]
theorem tabI_stays {w W : World} (ht : TabI w) (hb : Below w.heap.size w W) : TabI W := Go.Joins.tab_stays (g := Tryz.prog.globalNamed "internal/strconv.uint64pow10" |>.getD 0) (by kernel_rfl) ht hb (Nat.le_refl _)
set_option maxRecDepth 100000 in
set_option maxHeartbeats 2000000 in
theorem lfEdit_any (g gl : Nat) (tx d : ByteArray) (sf : Nat) (l : List Ed) (A : Option Addr) (m c B : Nat) (w : World) (h : LeafAt w g gl tx d sf) (hk : LfOk tx d sf) (hr : Rd w B 3 A m (edCells l)) (hB : B ≤ w.heap.size) (hm : m ≤ 9223372036854775807) (ht : TabI w) :
    Calls Tryz.prog 53 #[.pointer (some ⟨g, 0, none⟩), .slice A m c] w fun e w' => e = .returned (.int .i64 (lfE tx d l)) ∧ LeafAt w' g gl (lfT tx d l) (lfD tx d l) sf ∧ Gbs w w' [g, gl] := by
  have htx := hk.text
  have hd := hk.size
  have HAP := Lib.hid (edApply_any tx l A m c B w hr hB hm (by omega))
  have HWR := Lib.hid (fun W (hb : Below w.heap.size w W) => write_any l A m c B W (hr.below (hb.mono hB)) (Nat.le_trans hB hb.size) hm (tabI_stays ht hb))
  have HH := Lib.hid h
  obtain ⟨c0, c1, f0, f1, hg, hgl⟩ := h.cells
  clear h hk hr ht
  by_cases hz : edErr tx.size l = 0
  · have HZ := Lib.hid hz
    have HA : Hid (apOut tx l = S (edDone (L tx) l)) := by unfold Hid apOut; rw [if_pos hz]
    rw [Hid, HA.out, hz] at HAP
    have HAP := Lib.hid HAP
    have hs := scr_of_ed hz
    have hwl := wrL_len (scrErr_zero.1 hs).2
    have h20 := (scrErr_zero.1 hs).1
    rw [Hid, if_pos hs, hs] at HWR
    have HWR := Lib.hid HWR
    have hTs : (S (wrL l)).size ≤ 2400 := by rw [S_size]; omega
    have HE : Hid (lfE tx d l = appErr d (recE (S (wrL l)))) := by unfold Hid lfE; rw [if_pos hz]
    have HT : Hid (lfT tx d l = if appErr d (recE (S (wrL l))) = 0 then S (edDone (L tx) l) else tx) := by unfold Hid lfT; rw [HE.out]
    have HD : Hid (lfD tx d l = if appErr d (recE (S (wrL l))) = 0 then appD d (recE (S (wrL l))) else d) := by unfold Hid lfD; rw [HE.out]
    clear hz hs hwl h20 HA
    generalize S (edDone (L tx) l) = u at *
    generalize S (wrL l) = T at *
    have HL := Lib.hid (fun W (h : LeafAt W g gl tx d sf) => lgAppend_any gl d (recE T) sf W h.log hd)
    by_cases hq : appErr d (recE T) = 0
    · rw [Hid, hq] at HL HE HT HD
      rw [if_pos rfl] at HT HD
      have HL := Lib.hid HL; have HE := Lib.hid HE; have HT := Lib.hid HT; have HD := Lib.hid HD
      clear hq
      rw [HE.out, HT.out, HD.out]
      go_enter Tryz.func53, Tryz.ntmps53
      go_wp2_with fail
      refine HAP.out.mono ?_
      rintro e w1 ⟨rfl, hb1⟩
      have H1 := Lib.hid (HH.out.below hb1)
      have hs1 := hb1.size
      obtain ⟨c0, c1, f0, f1, hg, hgl⟩ := H1.out.cells
      go_wp2_with fail
      refine (HWR.out _ hb1).mono ?_
      rintro e w2 ⟨rfl, hb2⟩
      have H2 := Lib.hid (H1.out.below hb2)
      have hB2 := bthen hb1 hb2
      obtain ⟨c0, c1, f0, f1, hg, hgl⟩ := H2.out.cells
      go_wp2_with fail
      refine (HL.out _ H2.out).mono ?_
      rintro e w3 ⟨rfl, hL3, hg3⟩
      have H3 := Lib.hid (H2.out.logged hL3 hg3)
      have hB3 : Gbs w w3 [g, gl] := (Gbs.of_below hB2 _).trans (gbs_log hg3)
      clear c0 c1 f0 f1 hL3 hg3
      obtain ⟨c0, c1, f0, f1, hg, hgl⟩ := H3.out.cells
      go_wp2_with fail
      go_ret
      exact ⟨rfl, H3.out.told _, gbs_told hB3 _⟩
    · have HDD := Lib.hid (appD_err hq)
      rw [Hid, if_neg hq] at HT HD
      rw [Hid, HDD.out] at HL
      have HL := Lib.hid HL; have HT := Lib.hid HT; have HD := Lib.hid HD
      rw [HE.out, HT.out, HD.out]
      have g1 : (appErr d (recE T) != 0) = true := by simpa using hq
      generalize appErr d (recE T) = q at *
      clear hq
      go_enter Tryz.func53, Tryz.ntmps53
      go_wp2_with fail
      refine HAP.out.mono ?_
      rintro e w1 ⟨rfl, hb1⟩
      have H1 := Lib.hid (HH.out.below hb1)
      have hs1 := hb1.size
      obtain ⟨c0, c1, f0, f1, hg, hgl⟩ := H1.out.cells
      go_wp2_with fail
      refine (HWR.out _ hb1).mono ?_
      rintro e w2 ⟨rfl, hb2⟩
      have H2 := Lib.hid (H1.out.below hb2)
      have hB2 := bthen hb1 hb2
      obtain ⟨c0, c1, f0, f1, hg, hgl⟩ := H2.out.cells
      go_wp2_with fail
      refine (HL.out _ H2.out).mono ?_
      rintro e w3 ⟨rfl, hL3, hg3⟩
      have H3 := Lib.hid (H2.out.logged hL3 hg3)
      have hB3 : Gbs w w3 [g, gl] := (Gbs.of_below hB2 _).trans (gbs_log hg3)
      clear c0 c1 f0 f1 hL3 hg3
      go_wp2_with fail
      go_ret
      exact ⟨rfl, H3.out, hB3⟩
  · have HE : Hid (lfE tx d l = edErr tx.size l) := by unfold Hid lfE; rw [if_neg hz]
    have HT : Hid (lfT tx d l = tx) := by unfold Hid lfT; rw [HE.out, if_neg hz]
    have HD : Hid (lfD tx d l = d) := by unfold Hid lfD; rw [HE.out, if_neg hz]
    rw [HE.out, HT.out, HD.out]
    have g1 : (edErr tx.size l != 0) = true := by simpa using hz
    generalize edErr tx.size l = q at *
    clear hz
    go_enter Tryz.func53, Tryz.ntmps53
    go_wp2_with fail
    refine HAP.out.mono ?_
    rintro e w1 ⟨rfl, hb1⟩
    have H1 := Lib.hid (HH.out.below hb1)
    go_wp2_with fail
    go_ret
    exact ⟨rfl, H1.out, Gbs.of_below hb1 _⟩
set_option maxRecDepth 100000 in
set_option maxHeartbeats 2000000 in
theorem lfSet_any (g gl : Nat) (tx d t : ByteArray) (sf : Nat) (w : World) (h : LeafAt w g gl tx d sf) (hk : LfOk tx d sf) :
    Calls Tryz.prog 57 #[.pointer (some ⟨g, 0, none⟩), .string t] w fun e w' => e = .returned (.int .i64 (lsE d t)) ∧ LeafAt w' g gl (lsT tx d t) (lsD d t) sf ∧ Gbs w w' [g, gl] := by
  have hd := hk.size
  have HH := Lib.hid h
  obtain ⟨c0, c1, f0, f1, hg, hgl⟩ := h.cells
  clear h hk
  by_cases hz : 200 < t.size
  · have HE : Hid (lsE d t = 2) := by unfold Hid lsE; rw [if_pos hz]
    have HT : Hid (lsT tx d t = tx) := by unfold Hid lsT; rw [HE.out, if_neg (by decide)]
    have HD : Hid (lsD d t = d) := by unfold Hid lsD; rw [HE.out, if_neg (by decide)]
    rw [HE.out, HT.out, HD.out]
    go_enter Tryz.func57, Tryz.ntmps57
    go_wp2_with fail
    go_ret
    exact ⟨rfl, HH.out, Gbs.refl _ _⟩
  · have HE : Hid (lsE d t = appErr d (recB t)) := by unfold Hid lsE; rw [if_neg hz]
    have HT : Hid (lsT tx d t = if appErr d (recB t) = 0 then t else tx) := by unfold Hid lsT; rw [HE.out]
    have HD : Hid (lsD d t = if appErr d (recB t) = 0 then appD d (recB t) else d) := by unfold Hid lsD; rw [HE.out]
    have HL := Lib.hid (fun W (h : LeafAt W g gl tx d sf) => lgAppend_any gl d (recB t) sf W h.log hd)
    by_cases hq : appErr d (recB t) = 0
    · rw [Hid, hq] at HL HE HT HD
      rw [if_pos rfl] at HT HD
      have HL := Lib.hid HL; have HE := Lib.hid HE; have HT := Lib.hid HT; have HD := Lib.hid HD
      clear hq
      rw [HE.out, HT.out, HD.out]
      go_enter Tryz.func57, Tryz.ntmps57
      go_wp2_with fail
      refine (HL.out _ HH.out).mono ?_
      rintro e w3 ⟨rfl, hL3, hg3⟩
      have H3 := Lib.hid (HH.out.logged hL3 hg3)
      have hB3 : Gbs w w3 [g, gl] := gbs_log hg3
      clear c0 c1 f0 f1 hL3 hg3
      obtain ⟨c0, c1, f0, f1, hg, hgl⟩ := H3.out.cells
      go_wp2_with fail
      go_ret
      exact ⟨rfl, H3.out.told _, gbs_told hB3 _⟩
    · have HDD := Lib.hid (appD_err hq)
      rw [Hid, if_neg hq] at HT HD
      rw [Hid, HDD.out] at HL
      have HL := Lib.hid HL; have HT := Lib.hid HT; have HD := Lib.hid HD
      rw [HE.out, HT.out, HD.out]
      have g1 : (appErr d (recB t) != 0) = true := by simpa using hq
      generalize appErr d (recB t) = q at *
      clear hq
      go_enter Tryz.func57, Tryz.ntmps57
      go_wp2_with fail
      refine (HL.out _ HH.out).mono ?_
      rintro e w3 ⟨rfl, hL3, hg3⟩
      have H3 := Lib.hid (HH.out.logged hL3 hg3)
      have hB3 : Gbs w w3 [g, gl] := gbs_log hg3
      clear c0 c1 f0 f1 hL3 hg3
      go_wp2_with fail
      go_ret
      exact ⟨rfl, H3.out, hB3⟩
set_option maxRecDepth 100000 in
set_option maxHeartbeats 2000000 in
theorem lfSave_any (g gl : Nat) (tx d : ByteArray) (sf : Nat) (w : World) (h : LeafAt w g gl tx d sf) :
    Calls Tryz.prog 25 #[.pointer (some ⟨g, 0, none⟩)] w fun e w' => e = .returned (.tuple #[]) ∧ LeafAt w' g gl tx d d.size ∧ Gbs w w' [g, gl] := by
  have HH := Lib.hid h
  obtain ⟨c0, c1, f0, f1, hg, hgl⟩ := h.cells
  clear h
  go_enter Tryz.func25, Tryz.ntmps25
  go_wp2_with fail
  refine (lgSync_any gl d sf w HH.out.log).mono ?_
  rintro e w3 ⟨rfl, hL3, hg3⟩
  have H3 := Lib.hid (HH.out.logged hL3 hg3)
  go_wp2_with fail
  go_end0
  exact ⟨rfl, H3.out, gbs_log hg3⟩
set_option maxRecDepth 100000 in
set_option maxHeartbeats 2000000 in
theorem lfText_any (g gl : Nat) (tx d : ByteArray) (sf : Nat) (w : World) (h : LeafAt w g gl tx d sf) :
    Calls Tryz.prog 29 #[.pointer (some ⟨g, 0, none⟩)] w fun e w' => e = .returned (.string tx) ∧ Below w.heap.size w w' := by
  obtain ⟨c0, c1, f0, f1, hg, hgl⟩ := h.cells
  clear h
  go_enter Tryz.func29, Tryz.ntmps29
  go_wp2_with fail
  go_ret
  exact ⟨rfl, (by repeat (first | exact Below.refl _ _ | assumption | refine Below.alloc ?_ (by first | exact Nat.le_refl _ | assumption | omega | (simp <;> omega)) _ | refine Below.setCell ?_ (by first | exact Nat.le_refl _ | assumption | omega | (simp <;> omega)) _ | refine Below.drew ?_ | refine below_drewN ?_ _))⟩
set_option maxRecDepth 100000 in
set_option maxHeartbeats 2000000 in
theorem lfNewBig_any (s : ByteArray) (w : World) (hs : 200 < s.size) :
    Calls Tryz.prog 52 #[.string s] w fun e w' => e = .returned (.tuple #[.pointer none, .int .i64 2]) ∧ Below w.heap.size w w' := by
  go_enter Tryz.func52, Tryz.ntmps52
  go_wp2_with fail
  go_ret2
  exact ⟨rfl, (by repeat (first | exact Below.refl _ _ | assumption | refine Below.alloc ?_ (by first | exact Nat.le_refl _ | assumption | omega | (simp <;> omega)) _ | refine Below.setCell ?_ (by first | exact Nat.le_refl _ | assumption | omega | (simp <;> omega)) _ | refine Below.drew ?_ | refine below_drewN ?_ _))⟩
set_option maxRecDepth 100000 in
set_option maxHeartbeats 2000000 in
theorem lfNew_any (s : ByteArray) (w : World) (hs : s.size ≤ 200) :
    Calls Tryz.prog 52 #[.string s] w fun e w' => e = .returned (.tuple #[.pointer (some ⟨w.heap.size + 1, 0, none⟩), .int .i64 0]) ∧ LeafAt w' (w.heap.size + 1) w.heap.size s (newD s) (newD s).size ∧ Below w.heap.size w w' := by
  have HE := Lib.hid (new_app hs)
  go_enter Tryz.func52, Tryz.ntmps52
  go_wp2_with fail
  refine (lgNew_any _).mono ?_
  rintro e w1 ⟨rfl, rfl⟩
  go_wp2_with fail
  have H1 : LeafAt ((w.alloc (.cells #[.string ⟨#[]⟩, .int .i64 0] 187)).alloc (.cells #[.string s, .pointer (some ⟨w.heap.size, 0, none⟩)] 127)) (w.heap.size + 1) w.heap.size s ⟨#[]⟩ 0 := by
    refine ⟨?_, Blk.alloc (Blk.new_ w _ _) _, by omega⟩
    have := Blk.new_ (w.alloc (.cells #[.string ⟨#[]⟩, .int .i64 0] 187)) 127 #[.string s, .pointer (some ⟨w.heap.size, 0, none⟩)]
    rw [World.size_alloc] at this
    exact this
  have hb1 : Below w.heap.size w ((w.alloc (.cells #[.string ⟨#[]⟩, .int .i64 0] 187)).alloc (.cells #[.string s, .pointer (some ⟨w.heap.size, 0, none⟩)] 127)) := (by repeat (first | exact Below.refl _ _ | assumption | refine Below.alloc ?_ (by first | exact Nat.le_refl _ | assumption | omega | (simp <;> omega)) _ | refine Below.setCell ?_ (by first | exact Nat.le_refl _ | assumption | omega | (simp <;> omega)) _ | refine Below.drew ?_ | refine below_drewN ?_ _))
  generalize ((w.alloc (.cells #[.string ⟨#[]⟩, .int .i64 0] 187)).alloc (.cells #[.string s, .pointer (some ⟨w.heap.size, 0, none⟩)] 127)) = w1 at *
  have HH := Lib.hid H1
  clear H1
  obtain ⟨c0, c1, f0, f1, hg, hgl⟩ := HH.out.cells
  go_wp2_with fail
  refine (lgAppend_any w.heap.size ⟨#[]⟩ (recB s) 0 _ HH.out.log (Nat.zero_le _)).mono ?_
  rintro e w2 ⟨rfl, hL2, hg2⟩
  have H2 := Lib.hid (HH.out.logged hL2 hg2)
  have hb2 : Below w.heap.size w w2 := below_gb hb1 hg2 (Nat.le_refl _) hb1.size
  clear c0 c1 f0 f1 hg hgl hL2 hg2
  obtain ⟨c0, c1, f0, f1, hg, hgl⟩ := H2.out.cells
  go_wp2_with fail
  refine (lgSync_any w.heap.size _ 0 _ H2.out.log).mono ?_
  rintro e w3 ⟨rfl, hL3, hg3⟩
  have H3 := Lib.hid (H2.out.logged hL3 hg3)
  have hb3 : Below w.heap.size w w3 := below_gb hb2 hg3 (Nat.le_refl _) hb2.size
  go_wp2_with fail
  go_ret2
  exact ⟨rfl, H3.out, hb3⟩
end Go.Proofs.YtplgghjdidmcfaaGreatDoor
namespace Go.Proofs.YtplgghjdidmcfaaGreatDoor
open Go.RowKit
def strSz : Value → Nat
  | .string t => t.size
  | _ => 0
theorem entryP_0 {s : List UInt8} (h : progNum s 32 200 = none) : entryP s = none := by unfold entryP; rw [h]
theorem entryP_1 {s r1 : List UInt8} {a : Nat} (h1 : progNum s 32 200 = some (a, r1)) (h : progNum r1 32 200 = none) : entryP s = none := by
  unfold entryP; rw [h1]; simp only; rw [h]
theorem entryP_2 {s r1 r2 : List UInt8} {a d : Nat} (h1 : progNum s 32 200 = some (a, r1)) (h2 : progNum r1 32 200 = some (d, r2)) (h : progNum r2 58 40 = none) : entryP s = none := by
  unfold entryP; rw [h1]; simp only; rw [h2]; simp only; rw [h]
theorem entryP_3 {s r1 r2 r3 : List UInt8} {a d n : Nat} (h1 : progNum s 32 200 = some (a, r1)) (h2 : progNum r1 32 200 = some (d, r2)) (h3 : progNum r2 58 40 = some (n, r3)) : entryP s = rest3 r3 a d n := by
  unfold entryP; rw [h1]; simp only; rw [h2]; simp only; rw [h3]
def RdAns (s : List UInt8) (out : List Ed) (c : Int) : Prop := (readP 0 s = some out ∧ c = 0) ∨ (readP 0 s = none ∧ c = 12 ∧ out = [])
theorem nonempty_L {t : ByteArray} (h : t.size ≠ 0) : L t ≠ [] := fun e => h (by rw [← L_len, e]; rfl)
theorem L_pre (r : ByteArray) (n : Nat) : L (r.extract 0 n) = (L r).take n := by
  rw [L_extract, List.drop_zero, Nat.sub_zero]
theorem rest3_t {r : ByteArray} {a d n : Nat} (hn : n < r.size) (h : r[n] = 59) : rest3 (L r) a d n = some (⟨(a : Int), (d : Int), (L r).take n⟩, L (r.extract (n + 1) r.size)) := by
  unfold rest3
  rw [if_pos ⟨by rw [L_len]; exact hn, by rw [L_getD hn]; exact h⟩, L_extract, List.take_of_length_le (l := List.drop (n + 1) (L r)) (by rw [List.length_drop, L_len]; exact Nat.le_refl _)]
theorem rest3_f1 {r : ByteArray} {a d n : Nat} (hn : r.size ≤ n) : rest3 (L r) a d n = none := by
  unfold rest3
  rw [if_neg (fun h => by have := h.1; rw [L_len] at this; omega)]
theorem rest3_f2 {r : ByteArray} {a d n : Nat} (hn : n < r.size) (h : r[n] ≠ 59) : rest3 (L r) a d n = none := by
  unfold rest3
  rw [if_neg (fun h2 => h (by rw [← L_getD hn]; exact h2.2))]
set_option maxRecDepth 100000 in
set_option maxHeartbeats 16000000 in
theorem read_any (s : ByteArray) (hs : s.size ≤ 140737488355328) (w : World) :
    Calls Tryz.prog 120 #[.string s] w fun e w' => ∃ (v : Value) (out : List Ed) (c : Int), e = .returned (.tuple #[v, .int .i64 c]) ∧ RdAns (L s) out c ∧
      w'.ownsRow w.heap.size 95 3 v out.length (edCells out) ∧ Below w.heap.size w w' := by
  obtain ⟨i0, hi0, hz0, hz1, hz2⟩ := info_parts info_ed
  have HN32 : Hid (∀ (t : ByteArray) (W : World), t.size ≤ 140737488355328 → Calls Tryz.prog 172 #[.string t, .int .u8 32, .int .i64 200] W fun e w' => ∃ (n : Int) (rest : ByteArray) (ok : Bool), e = .returned (.tuple #[.int .i64 n, .string rest, .bool ok]) ∧
      (ok = true → ∃ v : Nat, n = (v : Int) ∧ v ≤ 200 ∧ rest.size < t.size ∧ progNum (L t) 32 200 = some (v, L rest)) ∧ (ok = false → progNum (L t) 32 200 = none) ∧ Below W.heap.size W w') := fun t W ht => number_any t 32 200 (by decide) ht W
  have HN58 : Hid (∀ (t : ByteArray) (W : World), t.size ≤ 140737488355328 → Calls Tryz.prog 172 #[.string t, .int .u8 58, .int .i64 40] W fun e w' => ∃ (n : Int) (rest : ByteArray) (ok : Bool), e = .returned (.tuple #[.int .i64 n, .string rest, .bool ok]) ∧
      (ok = true → ∃ v : Nat, n = (v : Int) ∧ v ≤ 40 ∧ rest.size < t.size ∧ progNum (L t) 58 40 = some (v, L rest)) ∧ (ok = false → progNum (L t) 58 40 = none) ∧ Below W.heap.size W w') := fun t W ht => number_any t 58 40 (by decide) ht W
  go_enter Tryz.func120, Tryz.ntmps120
  go_wp2_with fail
  go_loopw [0, 4] (fun sv ov wr => ∃ (t : ByteArray) (q : List Ed), sv = .string t ∧ t.size ≤ s.size ∧ q.length ≤ 20 ∧ Hid (readP 0 (L s) = (readP q.length (L t)).map (q ++ ·)) ∧
      wr.ownsRow w.heap.size 95 3 ov q.length (edCells q) ∧ Below w.heap.size w wr) (fun sv _ _ => strSz sv)
  case atStart => exact ⟨s, [], rfl, Nat.le_refl _, by simp, Lib.hid (by simp), World.ownsRow_nil _ _ _ _, Below.refl _ _⟩
  case round =>
    obtain ⟨t, q, rfl, hts, hq, HI, hown, hbr⟩ := hrel
    have hbs := hbr.size
    by_cases h0 : t.size = 0
    · obtain ⟨g2, g3⟩ := (emp_facts t).1 h0
      have HV : Hid (RdAns (L s) q 0) := .inl ⟨by
        have := HI.out
        rw [List.eq_nil_of_length_eq_zero ((L_len t).trans h0), readP_nil hq] at this
        simpa using this, rfl⟩
      have HO := Lib.hid hown
      clear h0 HI hown
      go_wp2_with fail
      go_ret2
      exact ⟨_, q, 0, rfl, HV.out, HO.out, hbr⟩
    obtain ⟨g2, g3⟩ := (emp_facts t).2 h0
    have hne := nonempty_L h0
    have HBAD : Hid (readP q.length (L t) = none → RdAns (L s) [] 12) := fun h => .inr ⟨by rw [HI.out, h]; rfl, rfl, rfl⟩
    by_cases h20 : q.length = 20
    · have g4 : ((q.length : Int) == 20) = true := by rw [beq_iff_eq]; omega
      have HV := Lib.hid (HBAD.out (by rw [h20]; exact readP_full hne))
      obtain ⟨A, c, rfl, hnc, hcm, hrx⟩ := own_form hown
      clear HI hown HBAD hne h20 hrx
      go_wp2_with fail
      go_ret2
      exact ⟨_, [], 12, rfl, HV.out, World.ownsRow_nil _ _ _ _, hbr⟩
    have g4 : ((q.length : Int) == 20) = false := by rw [beq_eq_false_iff_ne]; omega
    have HBADE : Hid (entryP (L t) = none → RdAns (L s) [] 12) := fun h => HBAD.out (by rw [readP_step hne, h])
    have HGO : Hid (∀ x t', entryP (L t) = some (x, L t') → readP 0 (L s) = (readP (q ++ [x]).length (L t')).map ((q ++ [x]) ++ ·)) := fun x t' h => by
      rw [HI.out, readP_step hne, h]
      simp only
      rw [map_app, List.length_append]; rfl
    have hO := Lib.hid hown
    obtain ⟨A, c, rfl, hnc, hcm, hrx⟩ := own_form hown
    have hq2 : q.length < 20 := by omega
    clear HI hown HBAD hne h20 hrx
    go_wp2_with fail
    refine (HN32.out t _ (by omega)).mono ?_
    rintro e w1 ⟨n1, r1, ok, rfl, hok, hno, hb1⟩
    cases ok with
    | false =>
      have HV := Lib.hid (HBADE.out (entryP_0 (hno rfl)))
      clear hok hno HBADE HGO
      go_wp2_with fail
      go_ret2
      exact ⟨_, [], 12, rfl, HV.out, World.ownsRow_nil _ _ _ _, bthen hbr hb1⟩
    | true =>
    obtain ⟨a, rfl, ha, hr1, HP1⟩ := hok rfl
    have HP1 := Lib.hid HP1
    clear hno hok
    go_wp2_with fail
    refine (HN32.out r1 _ (by omega)).mono ?_
    rintro e w2 ⟨n2, r2, ok, rfl, hok, hno, hb2⟩
    cases ok with
    | false =>
      have HV := Lib.hid (HBADE.out (entryP_1 HP1.out (hno rfl)))
      clear hok hno HBADE HGO HP1
      go_wp2_with fail
      go_ret2
      exact ⟨_, [], 12, rfl, HV.out, World.ownsRow_nil _ _ _ _, bthen hbr (bthen hb1 hb2)⟩
    | true =>
    obtain ⟨d, rfl, hd, hr2, HP2⟩ := hok rfl
    have HP2 := Lib.hid HP2
    clear hno hok
    go_wp2_with fail
    refine (HN58.out r2 _ (by omega)).mono ?_
    rintro e w3 ⟨n3, r3, ok, rfl, hok, hno, hb3⟩
    cases ok with
    | false =>
      have HV := Lib.hid (HBADE.out (entryP_2 HP1.out HP2.out (hno rfl)))
      clear hok hno HBADE HGO HP1 HP2
      go_wp2_with fail
      go_ret2
      exact ⟨_, [], 12, rfl, HV.out, World.ownsRow_nil _ _ _ _, bthen hbr (bthen hb1 (bthen hb2 hb3))⟩
    | true =>
    obtain ⟨n, rfl, hn, hr3, HP3⟩ := hok rfl
    have HEN := Lib.hid (entryP_3 HP1.out HP2.out HP3)
    clear hno hok HP1 HP2 HP3
    have hb4 := bthen hbr (bthen hb1 (bthen hb2 hb3))
    have hbs4 := hb4.size
    by_cases hlt : n < r3.size
    · have g5 : decide ((r3.size : Int) ≤ (n : Int)) = false := decide_eq_false (by omega)
      have g5' : decide (r3.size ≤ n) = false := decide_eq_false (by omega)
      by_cases h59 : r3[n] = 59
      · have g6 : ((r3[n].toNat : Int) == 59) = true := by rw [h59]; rfl
        have g6' : (r3[n].toNat == 59) = true := by rw [h59]; rfl
        have g6'' : ((r3[n].toNat : Int) != 59) = false := by rw [bne, g6]; rfl
        have HN2 := Lib.hid (HGO.out _ _ (HEN.out.trans (rest3_t hlt h59)))
        have hex : (r3.extract (n + 1) r3.size).size < r3.size := by rw [ByteArray.size_extract]; omega
        have HEL : Hid (S ((L r3).take n) = r3.extract 0 n) := by
          unfold Hid
          rw [← L_pre, S_L]
        clear HEN HGO HBADE h59
        have hown3 := Lib.hid (own_below hO.out (bthen hb1 (bthen hb2 hb3)))
        go_wp2_with (at_builtin; go_must (refine wpList_appG rfl _ _ _ rfl w.heap.size 95 i0 _ 3 32 Tryz.underlying30 hi0 hz0 hz1 hz2 rfl (by omega) _ q.length (edCells q) rfl (World.ownsRow.alloc hown3.out _) ⟨_, 0, none⟩ 1 1 [.int .i64 (a : Int), .int .i64 (d : Int), .string (r3.extract 0 n)] rfl rfl (cells_new3 _ _ _ _ _) (by simp [Value.oneCell']) (by omega) (by omega) (by simp; omega) ?_); intro v6 w6 hown6 hg6 hb6)
        have hB6 : Below w.heap.size w w6 := (hb4.alloc (by have := hb4.size; omega) _).trans hb6
        go_roundw
        case rel =>
          refine ⟨_, q ++ [⟨(a : Int), (d : Int), (L r3).take n⟩], rfl, by omega, by simp; omega, HN2, ?_, hB6⟩
          rw [List.length_append, edCells_append]
          have e1 : edCells [⟨(a : Int), (d : Int), (L r3).take n⟩] = [.int .i64 (a : Int), .int .i64 (d : Int), .string (r3.extract 0 n)] := by
            rw [← HEL.out]; rfl
          rw [e1]; exact hown6
        case measure => simp [strSz]; omega
      · have hz : r3[n].toNat ≠ 59 := fun e => h59 (UInt8.toNat_inj.1 (e.trans (rfl : 59 = (59 : UInt8).toNat)))
        have g6 : ((r3[n].toNat : Int) == 59) = false := by rw [beq_eq_false_iff_ne]; omega
        have g6' : (r3[n].toNat == 59) = false := by rw [beq_eq_false_iff_ne]; exact hz
        have g6'' : ((r3[n].toNat : Int) != 59) = true := by rw [bne, g6]; rfl
        have HV := Lib.hid (HBADE.out (HEN.out.trans (rest3_f2 hlt h59)))
        clear HEN HGO HBADE h59 hz
        go_wp2_with fail
        go_ret2
        exact ⟨_, [], 12, rfl, HV.out, World.ownsRow_nil _ _ _ _, hb4⟩
    · have g5 : decide ((r3.size : Int) ≤ (n : Int)) = true := decide_eq_true (by omega)
      have g5' : decide (r3.size ≤ n) = true := decide_eq_true (by omega)
      have HV := Lib.hid (HBADE.out (HEN.out.trans (rest3_f1 (by omega))))
      clear HEN HGO HBADE
      go_wp2_with fail
      go_ret2
      exact ⟨_, [], 12, rfl, HV.out, World.ownsRow_nil _ _ _ _, hb4⟩
end Go.Proofs.YtplgghjdidmcfaaGreatDoor
namespace Go.Proofs.YtplgghjdidmcfaaGreatDoor
open Go.RowKit
theorem cut_parts {s a r : List UInt8} {c : UInt8} {o : Bool} (h : Lib.cut s [c] = (a, r, o)) : (o = true ∧ cutSB s c = some (a, r) ∧ r.length < s.length ∧ a.length ≤ s.length) ∨ (o = false ∧ cutSB s c = none ∧ r = [] ∧ a = s) := by
  rw [cut_lib] at h
  cases hc : cutSB s c with
  | none =>
    rw [hc] at h
    simp only [Prod.mk.injEq] at h
    exact .inr ⟨h.2.2.symm, rfl, h.2.1.symm, h.1.symm⟩
  | some p =>
    obtain ⟨x, y⟩ := p
    rw [hc] at h
    simp only [Prod.mk.injEq] at h
    obtain ⟨rfl, rfl, rfl⟩ := h
    refine .inl ⟨rfl, rfl, cutSB_len hc, ?_⟩
    rw [(cutSB_spec hc).1, List.length_append]; omega
theorem cutNum_t {s a r : List UInt8} {c : UInt8} {v : Nat} (h : Lib.cut s [c] = (a, r, true)) (hv : valNum a = some v) : cutNum s c = some (v, r) := by
  rcases cut_parts h with ⟨_, h1, _⟩ | ⟨h1, _⟩
  · unfold cutNum; rw [h1]; simp only; rw [hv]; rfl
  · cases h1
theorem cutNum_f1 {s a r : List UInt8} {c : UInt8} (h : Lib.cut s [c] = (a, r, false)) : cutNum s c = none := by
  rcases cut_parts h with ⟨h1, _⟩ | ⟨_, h1, _⟩
  · cases h1
  · unfold cutNum; rw [h1]
theorem cutNum_f2 {s a r : List UInt8} {c : UInt8} {o : Bool} (h : Lib.cut s [c] = (a, r, o)) (hv : valNum a = none) : cutNum s c = none := by
  rcases cut_parts h with ⟨_, h1, _⟩ | ⟨_, h1, _⟩
  · unfold cutNum; rw [h1]; simp only; rw [hv]; rfl
  · unfold cutNum; rw [h1]
theorem entryR_f {s a r1 d r2 c r3 : List UInt8} {o1 o2 o3 : Bool} (h1 : Lib.cut s [32] = (a, r1, o1)) (h2 : Lib.cut r1 [32] = (d, r2, o2)) (h3 : Lib.cut r2 [58] = (c, r3, o3))
    (h : o1 = false ∨ o2 = false ∨ o3 = false ∨ valNum a = none ∨ valNum d = none ∨ valNum c = none) : entryR s = none := by
  unfold entryR
  cases k1 : cutNum s 32 with
  | none => rfl
  | some p1 =>
    obtain ⟨v1, x1⟩ := p1
    cases o1 with
    | false => rw [cutNum_f1 h1] at k1; cases k1
    | true =>
    cases w1 : valNum a with
    | none => rw [cutNum_f2 h1 w1] at k1; cases k1
    | some u1 =>
    rw [cutNum_t h1 w1] at k1
    obtain ⟨rfl, rfl⟩ := Prod.mk.inj (Option.some.inj k1)
    simp only
    cases k2 : cutNum r1 32 with
    | none => rfl
    | some p2 =>
      obtain ⟨v2, x2⟩ := p2
      cases o2 with
      | false => rw [cutNum_f1 h2] at k2; cases k2
      | true =>
      cases w2 : valNum d with
      | none => rw [cutNum_f2 h2 w2] at k2; cases k2
      | some u2 =>
      rw [cutNum_t h2 w2] at k2
      obtain ⟨rfl, rfl⟩ := Prod.mk.inj (Option.some.inj k2)
      simp only
      cases k3 : cutNum r2 58 with
      | none => rfl
      | some p3 =>
        obtain ⟨v3, x3⟩ := p3
        exfalso
        cases o3 with
        | false => rw [cutNum_f1 h3] at k3; cases k3
        | true =>
        cases w3 : valNum c with
        | none => rw [cutNum_f2 h3 w3] at k3; cases k3
        | some u3 =>
        rw [w1, w2, w3] at h
        simp at h
theorem entryR_t {s a r1 d r2 c r3 : List UInt8} {va vd vc : Nat} (h1 : Lib.cut s [32] = (a, r1, true)) (h2 : Lib.cut r1 [32] = (d, r2, true)) (h3 : Lib.cut r2 [58] = (c, r3, true))
    (k1 : valNum a = some va) (k2 : valNum d = some vd) (k3 : valNum c = some vc) : entryR s = rest3 r3 va vd vc := by
  unfold entryR
  rw [cutNum_t h1 k1]; simp only
  rw [cutNum_t h2 k2]; simp only
  rw [cutNum_t h3 k3]
def RfAns (s : List UInt8) (out : List Ed) (ok : Bool) : Prop := (readR s = some out ∧ ok = decide (scrErr out = 0)) ∨ (readR s = none ∧ ok = false ∧ out = [])
theorem S_arr (l : List UInt8) : (⟨l.toArray⟩ : ByteArray) = S l := rfl
set_option maxRecDepth 100000 in
set_option maxHeartbeats 4000000 in
theorem cut_any (t : ByteArray) (c : UInt8) (m : Int) (W : World) (ht : t.size ≤ 1048576) (hm : W.cell? ⟨0, 0, none⟩ = some (.int .i64 m)) :
    Calls Tryz.prog 204 #[.string t, .string ⟨#[c]⟩] W fun e w' => ∃ (a r : ByteArray) (o : Bool), e = .returned (.tuple #[.string a, .string r, .bool o]) ∧ Lib.cut (L t) [c] = (L a, L r, o) ∧ a.size ≤ t.size ∧ r.size ≤ t.size ∧ (o = true → r.size < t.size) ∧ Below W.heap.size W w' := by
  refine (Tryz.strings_Cut t ⟨#[c]⟩ m W (by omega) hm).mono ?_
  rintro e w' ⟨rfl, n, rfl⟩
  have e1 : Lib.cut t.data.toList (⟨#[c]⟩ : ByteArray).data.toList = Lib.cut (L t) [c] := rfl
  rw [e1]
  obtain ⟨⟨a, r, o⟩, hq⟩ : ∃ q, Lib.cut (L t) [c] = q := ⟨_, rfl⟩
  rw [hq]
  refine ⟨S a, S r, o, rfl, by rw [L_S, L_S], ?_⟩
  rw [S_size, S_size, ← L_len t]
  have hbn : Below W.heap.size W (W.drewN n) := below_drewN (Below.refl _ _) n
  rcases cut_parts hq with ⟨h1, _, h2, h3⟩ | ⟨h1, _, h2, h3⟩
  · exact ⟨h3, by omega, fun _ => h2, hbn⟩
  · subst h2 h3
    exact ⟨Nat.le_refl _, by simp, (fun h => by rw [h1] at h; cases h), hbn⟩
theorem numeral_b (a : ByteArray) (ha : a.size ≤ 1048576) (w : World) :
    Calls Tryz.prog 205 #[.string a] w fun e w' => ∃ (n : Nat) (p : Bool), e = .returned (.tuple #[.int .i64 (n : Int), .bool p]) ∧ (p = true → valNum (L a) = some n) ∧ (p = false → valNum (L a) = none) ∧ n ≤ 999 ∧ Below w.heap.size w w' := by
  refine (numeral_any a (by omega) w).mono ?_
  rintro e w' ⟨he, hb⟩
  unfold NumAns at he
  cases hv : valNum (L a) with
  | none => rw [hv] at he; exact ⟨0, false, he, (fun h => by cases h), (fun _ => rfl), by omega, hb⟩
  | some v => rw [hv] at he; exact ⟨v, true, he, (fun _ => rfl), (fun h => by cases h), valNum_small hv, hb⟩
set_option maxRecDepth 100000 in
set_option maxHeartbeats 32000000 in
theorem readOf_any (s : ByteArray) (hs : s.size ≤ 1048576) (m : Int) (w : World) (hm : w.cell? ⟨0, 0, none⟩ = some (.int .i64 m)) (hw0 : 0 < w.heap.size) :
    Calls Tryz.prog 181 #[.string s] w fun e w' => ∃ (v : Value) (out : List Ed) (ok : Bool), e = .returned (.tuple #[v, .bool ok]) ∧ RfAns (L s) out ok ∧
      w'.ownsRow w.heap.size 95 3 v out.length (edCells out) ∧ Below w.heap.size w w' := by
  obtain ⟨i0, hi0, hz0, hz1, hz2⟩ := info_parts info_ed
  have HM : Hid (∀ W, Below w.heap.size w W → W.cell? ⟨0, 0, none⟩ = some (.int .i64 m)) := fun W hb => (hb.cell (p := ⟨0, 0, none⟩) hw0).trans hm
  clear hm
  go_enter Tryz.func181, Tryz.ntmps181
  go_wp2_with fail
  go_loopw [0, 4] (fun sv ov wr => ∃ (t : ByteArray) (q : List Ed), sv = .string t ∧ q.length + t.size ≤ s.size ∧ Hid (readR (L s) = (readR (L t)).map (q ++ ·)) ∧
      wr.ownsRow w.heap.size 95 3 ov q.length (edCells q) ∧ Below w.heap.size w wr) (fun sv _ _ => strSz sv)
  case atStart => exact ⟨s, [], rfl, by simp, Lib.hid (by simp), World.ownsRow_nil _ _ _ _, Below.refl _ _⟩
  case round =>
    obtain ⟨t, q, rfl, hts, HI, hown, hbr⟩ := hrel
    have hbs := hbr.size
    by_cases h0 : t.size = 0
    · obtain ⟨g2, g3⟩ := (emp_facts t).1 h0
      have HV : Hid (RfAns (L s) q (decide (scrErr q = 0))) := .inl ⟨by
        have := HI.out
        rw [List.eq_nil_of_length_eq_zero ((L_len t).trans h0), readR_nil] at this
        simpa using this, rfl⟩
      have HO := Lib.hid hown
      obtain ⟨A, c, rfl, hnc, hcm, hrx⟩ := own_form hown
      have hml : maxLen ≤ 9223372036854775807 := by decide
      have HER := Lib.hid (scrErrR_any q A q.length c wr.heap.size wr (Rd.of_own hown) (Nat.le_refl _) (by omega))
      clear h0 HI hown hrx
      have hdz : ((scrErr q == (0 : Int)) = decide (scrErr q = 0)) := by
        rw [Bool.eq_iff_iff]; simp
      have HDZ := Lib.hid hdz; clear hdz
      generalize scrErr q = z at *
      go_wp2_with fail
      refine HER.out.mono ?_
      rintro e w2 ⟨rfl, hb2⟩
      go_wp2_with fail
      go_ret2
      exact ⟨_, q, _, rfl, by rw [HDZ.out]; exact HV.out, own_below HO.out hb2, bthen hbr hb2⟩
    obtain ⟨g2, g3⟩ := (emp_facts t).2 h0
    have hne := nonempty_L h0
    have HBADE : Hid (entryR (L t) = none → RfAns (L s) [] false) := fun h => .inr ⟨by rw [HI.out, readR_step hne, h]; rfl, rfl, rfl⟩
    have HGO : Hid (∀ x t', entryR (L t) = some (x, L t') → readR (L s) = (readR (L t')).map ((q ++ [x]) ++ ·)) := fun x t' h => by
      rw [HI.out, readR_step hne, h]
      simp only
      rw [map_app]
    have hO := Lib.hid hown
    obtain ⟨A, c, rfl, hnc, hcm, hrx⟩ := own_form hown
    clear HI hown hne h0 hrx
    go_wp2_with fail
    refine (cut_any t 32 m _ (by omega) (HM.out _ hbr)).mono ?_
    rintro e w1 ⟨s1, r1, o1, rfl, hc1, hl1, hr1, ho1, hb1⟩
    have HC1 := Lib.hid hc1
    have HO1 := Lib.hid ho1
    clear hc1 ho1
    have hb5 := bthen hbr hb1
    go_wp2_with fail
    refine (cut_any r1 32 m _ (by omega) (HM.out _ hb5)).mono ?_
    rintro e w2 ⟨s2, r2, o2, rfl, hc2, hl2, hr2, ho2, hb2⟩
    have HC2 := Lib.hid hc2
    clear hc2 ho2
    have hb6 := bthen hb5 hb2
    go_wp2_with fail
    refine (cut_any r2 58 m _ (by omega) (HM.out _ hb6)).mono ?_
    rintro e w3 ⟨s3, r3, o3, rfl, hc3, hl3, hr3, ho3, hb3⟩
    have HC3 := Lib.hid hc3
    clear hc3 ho3
    have hb7 := bthen hb6 hb3
    go_wp2_with fail
    refine (numeral_b s1 (by omega) _).mono ?_
    rintro e w4 ⟨n1, p1, rfl, hy1, hz1', hn1, hb4⟩
    have hb8 := bthen hb7 hb4
    go_wp2_with fail
    refine (numeral_b s2 (by omega) _).mono ?_
    rintro e w5 ⟨n2, p2, rfl, hy2, hz2', hn2, hb5'⟩
    have hb9 := bthen hb8 hb5'
    go_wp2_with fail
    refine (numeral_b s3 (by omega) _).mono ?_
    rintro e w6 ⟨n3, p3, rfl, hy3, hz3', hn3, hb6'⟩
    have hb10 := bthen hb9 hb6'
    have hbs10 := hb10.size
    have HEF : Hid (o1 = false ∨ o2 = false ∨ o3 = false ∨ p1 = false ∨ p2 = false ∨ p3 = false → entryR (L t) = none) := fun h => entryR_f HC1.out HC2.out HC3.out (by
      rcases h with h | h | h | h | h | h
      · exact .inl h
      · exact .inr (.inl h)
      · exact .inr (.inr (.inl h))
      · exact .inr (.inr (.inr (.inl (hz1' h))))
      · exact .inr (.inr (.inr (.inr (.inl (hz2' h)))))
      · exact .inr (.inr (.inr (.inr (.inr (hz3' h))))))
    have HET : Hid (o1 = true → o2 = true → o3 = true → p1 = true → p2 = true → p3 = true → entryR (L t) = rest3 (L r3) n1 n2 n3) := fun k1 k2 k3 k4 k5 k6 => by
      subst k1 k2 k3
      exact entryR_t HC1.out HC2.out HC3.out (hy1 k4) (hy2 k5) (hy3 k6)
    have hown6 := Lib.hid (own_below hO.out (bthen hb1 (bthen hb2 (bthen hb3 (bthen hb4 (bthen hb5' hb6'))))))
    clear HC1 HC2 HC3 hy1 hy2 hy3 hz1' hz2' hz3' hO hb1 hb2 hb3 hb4 hb5' hb6' hb5 hb6 hb7 hb8 hb9 hbr
    cases o1 with
    | false =>
      have HV := Lib.hid (HBADE.out (HEF.out (.inl rfl)))
      clear HEF HET HGO HBADE
      go_wp2_with fail
      go_ret2
      exact ⟨_, [], false, rfl, HV.out, World.ownsRow_nil _ _ _ _, hb10⟩
    | true =>
    have ho1 := HO1.out rfl
    clear HO1
    cases o2 with
    | false =>
      have HV := Lib.hid (HBADE.out (HEF.out (.inr (.inl rfl))))
      clear HEF HET HGO HBADE
      go_wp2_with fail
      go_ret2
      exact ⟨_, [], false, rfl, HV.out, World.ownsRow_nil _ _ _ _, hb10⟩
    | true =>
    cases o3 with
    | false =>
      have HV := Lib.hid (HBADE.out (HEF.out (.inr (.inr (.inl rfl)))))
      clear HEF HET HGO HBADE
      go_wp2_with fail
      go_ret2
      exact ⟨_, [], false, rfl, HV.out, World.ownsRow_nil _ _ _ _, hb10⟩
    | true =>
    cases p1 with
    | false =>
      have HV := Lib.hid (HBADE.out (HEF.out (.inr (.inr (.inr (.inl rfl))))))
      clear HEF HET HGO HBADE
      go_wp2_with fail
      go_ret2
      exact ⟨_, [], false, rfl, HV.out, World.ownsRow_nil _ _ _ _, hb10⟩
    | true =>
    cases p2 with
    | false =>
      have HV := Lib.hid (HBADE.out (HEF.out (.inr (.inr (.inr (.inr (.inl rfl)))))))
      clear HEF HET HGO HBADE
      go_wp2_with fail
      go_ret2
      exact ⟨_, [], false, rfl, HV.out, World.ownsRow_nil _ _ _ _, hb10⟩
    | true =>
    cases p3 with
    | false =>
      have HV := Lib.hid (HBADE.out (HEF.out (.inr (.inr (.inr (.inr (.inr rfl)))))))
      clear HEF HET HGO HBADE
      go_wp2_with fail
      go_ret2
      exact ⟨_, [], false, rfl, HV.out, World.ownsRow_nil _ _ _ _, hb10⟩
    | true =>
    have HEN := Lib.hid (HET.out rfl rfl rfl rfl rfl rfl)
    clear HET HEF
    by_cases hlt : n3 < r3.size
    · have g5 : decide ((r3.size : Int) ≤ (n3 : Int)) = false := decide_eq_false (by omega)
      have g5' : decide (r3.size ≤ n3) = false := decide_eq_false (by omega)
      by_cases h59 : r3[n3] = 59
      · have g6 : ((r3[n3].toNat : Int) == 59) = true := by rw [h59]; rfl
        have g6' : (r3[n3].toNat == 59) = true := by rw [h59]; rfl
        have g6'' : ((r3[n3].toNat : Int) != 59) = false := by rw [bne, g6]; rfl
        have HN2 := Lib.hid (HGO.out _ _ (HEN.out.trans (rest3_t hlt h59)))
        have hex : (r3.extract (n3 + 1) r3.size).size < r3.size := by rw [ByteArray.size_extract]; omega
        have HEL : Hid (S ((L r3).take n3) = r3.extract 0 n3) := by
          unfold Hid
          rw [← L_pre, S_L]
        clear HEN HGO HBADE h59
        go_wp2_with (at_builtin; go_must (refine wpList_appG rfl _ _ _ rfl w.heap.size 95 i0 _ 3 32 Tryz.underlying30 hi0 hz0 hz1 hz2 rfl (by omega) _ q.length (edCells q) rfl (World.ownsRow.alloc hown6.out _) ⟨_, 0, none⟩ 1 1 [.int .i64 (n1 : Int), .int .i64 (n2 : Int), .string (r3.extract 0 n3)] rfl rfl (cells_new3 _ _ _ _ _) (by simp [Value.oneCell']) (by omega) (by omega) (by simp; omega) ?_); intro v6 w7 hown7 hg7 hb7)
        have hB6 : Below w.heap.size w w7 := (hb10.alloc (by have := hb10.size; omega) _).trans hb7
        go_roundw
        case rel =>
          refine ⟨_, q ++ [⟨(n1 : Int), (n2 : Int), (L r3).take n3⟩], rfl, by simp; omega, HN2, ?_, hB6⟩
          rw [List.length_append, edCells_append]
          have e1 : edCells [⟨(n1 : Int), (n2 : Int), (L r3).take n3⟩] = [.int .i64 (n1 : Int), .int .i64 (n2 : Int), .string (r3.extract 0 n3)] := by
            rw [← HEL.out]; rfl
          rw [e1]; exact hown7
        case measure => simp [strSz]; omega
      · have hz : r3[n3].toNat ≠ 59 := fun e => h59 (UInt8.toNat_inj.1 (e.trans (rfl : 59 = (59 : UInt8).toNat)))
        have g6 : ((r3[n3].toNat : Int) == 59) = false := by rw [beq_eq_false_iff_ne]; omega
        have g6' : (r3[n3].toNat == 59) = false := by rw [beq_eq_false_iff_ne]; exact hz
        have g6'' : ((r3[n3].toNat : Int) != 59) = true := by rw [bne, g6]; rfl
        have HV := Lib.hid (HBADE.out (HEN.out.trans (rest3_f2 hlt h59)))
        clear HEN HGO HBADE h59 hz
        go_wp2_with fail
        go_ret2
        exact ⟨_, [], false, rfl, HV.out, World.ownsRow_nil _ _ _ _, hb10⟩
    · have g5 : decide ((r3.size : Int) ≤ (n3 : Int)) = true := decide_eq_true (by omega)
      have g5' : decide (r3.size ≤ n3) = true := decide_eq_true (by omega)
      have HV := Lib.hid (HBADE.out (HEN.out.trans (rest3_f1 (by omega))))
      clear HEN HGO HBADE
      go_wp2_with fail
      go_ret2
      exact ⟨_, [], false, rfl, HV.out, World.ownsRow_nil _ _ _ _, hb10⟩
end Go.Proofs.YtplgghjdidmcfaaGreatDoor
