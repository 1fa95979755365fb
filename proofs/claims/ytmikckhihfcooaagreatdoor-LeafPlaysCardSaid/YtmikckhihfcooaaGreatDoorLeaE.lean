/- A leaf's Pack. -/
import Derived.Test.YtmikckhihfcooaaGreatDoorLeaD
namespace Go.Proofs.YtmikckhihfcooaaGreatDoor
open Go.RowKit
theorem LeafAt.grown {w w' : World} {g gl o : Nat} {tx d : ByteArray} {sf : Nat} (h : LeafAt w g gl tx d sf) (hb : w.grownBy w' (some o)) (hg : g ≠ o) (hl : gl ≠ o) : LeafAt w' g gl tx d sf :=
  ⟨h.leaf.grown hb (fun e => hg (Option.some.inj e)), Blk.grown h.log hb (fun e => hl (Option.some.inj e)), h.ne⟩
theorem LogAt.grownL {w w' : World} {gl o : Nat} {t : TypeId} {d : ByteArray} {sf : Nat} (h : LogAt w gl t d sf) (hb : w.grownBy w' (some o)) (hl : gl ≠ o) : LogAt w' gl t d sf := Blk.grown h hb (fun e => hl (Option.some.inj e))
/-- The leaf takes another log. -/
theorem LeafAt.relog {w : World} {g gl gn : Nat} {tx d d' : ByteArray} {sf sf' : Nat} (h : LeafAt w g gl tx d sf) (hn : LogAt w gn 63 d' sf') (hne : g ≠ gn) : LeafAt (w.setCell ⟨g, 1, none⟩ (.pointer (some ⟨gn, 0, none⟩))) g gn tx d' sf' :=
  ⟨h.leaf.set_ 1 _, Blk.far hn (fun e => hne e.symm) _, hne⟩
def pkE (stop : Int) : Int := if 0 ≤ stop ∧ stop ≤ 3 then 0 else 1
def pkT (tx d : ByteArray) (sf : Nat) (stop : Int) : ByteArray := if stop = 1 ∨ stop = 2 then cfT tx d sf 0 else tx
def pkD (tx d : ByteArray) (sf : Nat) (stop : Int) : ByteArray := if stop = 0 ∨ stop = 3 then newD tx else if stop = 1 ∨ stop = 2 then craD d sf 0 else d
def pkF (tx d : ByteArray) (sf : Nat) (stop : Int) : Nat := if stop = 0 ∨ stop = 3 then (newD tx).size else if stop = 1 ∨ stop = 2 then craF d sf 0 else sf
theorem LfOk.pack {tx d : ByteArray} {sf : Nat} (h : LfOk tx d sf) (stop : Int) : LfOk (pkT tx d sf stop) (pkD tx d sf stop) (pkF tx d sf stop) := by
  unfold pkT pkD pkF
  by_cases h1 : stop = 0 ∨ stop = 3
  · rw [if_pos h1, if_pos h1, if_neg (by omega)]; exact LfOk.new_ h.text
  · rw [if_neg h1, if_neg h1]
    by_cases h2 : stop = 1 ∨ stop = 2
    · rw [if_pos h2, if_pos h2, if_pos h2]; exact h.crash' 0
    · rw [if_neg h2, if_neg h2, if_neg h2]; exact h
def PackAns (w : World) (g gl : Nat) (tx d : ByteArray) (sf : Nat) (stop : Int) (e : Ending) (w' : World) : Prop :=
  ∃ gl', e = .returned (.int .i64 (pkE stop)) ∧ (gl' = gl ∨ w.heap.size ≤ gl') ∧ LeafAt w' g gl' (pkT tx d sf stop) (pkD tx d sf stop) (pkF tx d sf stop) ∧ Gbs w w' [g, gl]
set_option maxRecDepth 100000 in
set_option maxHeartbeats 4000000 in
theorem pack1_any (g gl : Nat) (tx d : ByteArray) (sf : Nat) (w : World) (h : LeafAt w g gl tx d sf) (hk : LfOk tx d sf) :
    Calls Tryz.prog 15 #[.pointer (some ⟨g, 0, none⟩), .int .i64 1] w (PackAns w g gl tx d sf 1) := by
  have HH := Lib.hid h
  obtain ⟨c0, c1, f0, f1, hg, hgl⟩ := h.cells
  have HN := Lib.hid (LfOk.new_ hk.text)
  have HE := Lib.hid (new_app hk.text)
  have HWH := Lib.hid (cra_whole (LfOk.new_ hk.text))
  have HCR := Lib.hid (cra_none hk.safe)
  have HC2 := Lib.hid (hk.crash (cra_none hk.safe))
  have htx := hk.text
  have hds := hk.size
  have hss := hk.safe
  clear h hk
  go_enter Tryz.func15, Tryz.ntmps15
  go_wp2_with fail
  refine (lgNew_any _).mono ?_
  rintro e w1 ⟨rfl, hw1⟩
  have hL1 : LogAt w1 w.heap.size 63 ⟨#[]⟩ 0 := by rw [hw1]; exact Blk.new_ w _ _
  have hb1 : Below w.heap.size w w1 := by rw [hw1]; exact (by repeat (first | exact Below.refl _ _ | assumption | refine Below.alloc ?_ (by first | exact Nat.le_refl _ | assumption | omega | (simp <;> omega)) _ | refine Below.setCell ?_ (by first | exact Nat.le_refl _ | assumption | omega | (simp <;> omega)) _ | refine Below.drew ?_ | refine below_drewN ?_ _))
  clear hw1
  have H1 := Lib.hid (HH.out.below hb1)
  have hgn1 : g ≠ w.heap.size := by omega
  have hgn2 : gl ≠ w.heap.size := by omega
  have hG1 : Gbs w w1 [g, gl] := Gbs.of_below hb1 _
  have HL1 := Lib.hid hL1
  clear c0 c1 f0 f1 hL1 hb1 hg hgl
  have HGB := Lib.hid (fun (W W2 : World) (a : Gbs w W [g, gl]) (b : W.grownBy W2 (some w.heap.size)) => a.gb b (.inr (Nat.le_refl _)))
  obtain ⟨c0, c1, f0, f1, hg, hgl⟩ := H1.out.cells
  have hglt : w.heap.size < w1.heap.size := Blk.lt HL1.out
  generalize hgn : w.heap.size = gn at *
  have HGN := Lib.hid hgn
  clear hgn
  go_wp2_with fail
  refine (lgAppend_any gn ⟨#[]⟩ (recB tx) 0 _ HL1.out (Nat.zero_le _)).mono ?_
  rintro e w2 ⟨rfl, hL2, hg2⟩
  have H2 := Lib.hid (H1.out.grown hg2 hgn1 hgn2)
  have HL2 := Lib.hid hL2
  have hG2 := HGB.out _ _ hG1 hg2
  have hz2 := hg2.size
  clear c0 c1 f0 f1 hL2 hg2 hg hgl
  obtain ⟨c0, c1, f0, f1, hg, hgl⟩ := H2.out.cells
  go_wp2_with fail
  refine (lgCrash_any gl d sf 0 _ H2.out.log hds hss).mono ?_
  rintro e w3 ⟨rfl, hL3, hg3⟩
  have H3 := Lib.hid (H2.out.logged hL3 hg3)
  have hG3 := hG2.trans (gbs_log hg3)
  clear c0 c1 f0 f1 hL3 hg3 hg hgl
  obtain ⟨c0, c1, f0, f1, hg, hgl⟩ := H3.out.cells
  go_wp2_with fail
  refine (lfRead_any g gl tx _ _ w3 H3.out HC2.out.size HC2.out.reads.2).mono ?_
  rintro e w4 ⟨rfl, H4, hB4⟩
  have H4 := Lib.hid H4
  have hG4 := hG3.trans hB4
  go_wp2_with fail
  go_ret
  refine ⟨gl, rfl, .inl rfl, ?_, hG4⟩
  have e1 : pkT tx d sf 1 = lfRead (craD d sf 0) := by unfold pkT cfT; rw [if_pos (by decide), if_pos HCR.out]
  have e2 : pkD tx d sf 1 = craD d sf 0 := by unfold pkD; rw [if_neg (by decide), if_pos (by decide)]
  have e3 : pkF tx d sf 1 = craF d sf 0 := by unfold pkF; rw [if_neg (by decide), if_pos (by decide)]
  rw [e1, e2, e3]
  exact H4.out
set_option maxRecDepth 100000 in
set_option maxHeartbeats 4000000 in
theorem pack2_any (g gl : Nat) (tx d : ByteArray) (sf : Nat) (w : World) (h : LeafAt w g gl tx d sf) (hk : LfOk tx d sf) :
    Calls Tryz.prog 15 #[.pointer (some ⟨g, 0, none⟩), .int .i64 2] w (PackAns w g gl tx d sf 2) := by
  have HH := Lib.hid h
  obtain ⟨c0, c1, f0, f1, hg, hgl⟩ := h.cells
  have HN := Lib.hid (LfOk.new_ hk.text)
  have HE := Lib.hid (new_app hk.text)
  have HWH := Lib.hid (cra_whole (LfOk.new_ hk.text))
  have HCR := Lib.hid (cra_none hk.safe)
  have HC2 := Lib.hid (hk.crash (cra_none hk.safe))
  have htx := hk.text
  have hds := hk.size
  have hss := hk.safe
  clear h hk
  go_enter Tryz.func15, Tryz.ntmps15
  go_wp2_with fail
  refine (lgNew_any _).mono ?_
  rintro e w1 ⟨rfl, hw1⟩
  have hL1 : LogAt w1 w.heap.size 63 ⟨#[]⟩ 0 := by rw [hw1]; exact Blk.new_ w _ _
  have hb1 : Below w.heap.size w w1 := by rw [hw1]; exact (by repeat (first | exact Below.refl _ _ | assumption | refine Below.alloc ?_ (by first | exact Nat.le_refl _ | assumption | omega | (simp <;> omega)) _ | refine Below.setCell ?_ (by first | exact Nat.le_refl _ | assumption | omega | (simp <;> omega)) _ | refine Below.drew ?_ | refine below_drewN ?_ _))
  clear hw1
  have H1 := Lib.hid (HH.out.below hb1)
  have hgn1 : g ≠ w.heap.size := by omega
  have hgn2 : gl ≠ w.heap.size := by omega
  have hG1 : Gbs w w1 [g, gl] := Gbs.of_below hb1 _
  have HL1 := Lib.hid hL1
  clear c0 c1 f0 f1 hL1 hb1 hg hgl
  have HGB := Lib.hid (fun (W W2 : World) (a : Gbs w W [g, gl]) (b : W.grownBy W2 (some w.heap.size)) => a.gb b (.inr (Nat.le_refl _)))
  obtain ⟨c0, c1, f0, f1, hg, hgl⟩ := H1.out.cells
  have hglt : w.heap.size < w1.heap.size := Blk.lt HL1.out
  generalize hgn : w.heap.size = gn at *
  have HGN := Lib.hid hgn
  clear hgn
  go_wp2_with fail
  refine (lgAppend_any gn ⟨#[]⟩ (recB tx) 0 _ HL1.out (Nat.zero_le _)).mono ?_
  rintro e w2 ⟨rfl, hL2, hg2⟩
  have H2 := Lib.hid (H1.out.grown hg2 hgn1 hgn2)
  have HL2 := Lib.hid hL2
  have hG2 := HGB.out _ _ hG1 hg2
  have hz2 := hg2.size
  clear c0 c1 f0 f1 hL2 hg2 hg hgl
  obtain ⟨c0, c1, f0, f1, hg, hgl⟩ := H2.out.cells
  go_wp2_with fail
  refine (lgCrash_any gl d sf 0 _ H2.out.log hds hss).mono ?_
  rintro e w3 ⟨rfl, hL3, hg3⟩
  have H3 := Lib.hid (H2.out.logged hL3 hg3)
  have hG3 := hG2.trans (gbs_log hg3)
  clear c0 c1 f0 f1 hL3 hg3 hg hgl
  obtain ⟨c0, c1, f0, f1, hg, hgl⟩ := H3.out.cells
  go_wp2_with fail
  refine (lfRead_any g gl tx _ _ w3 H3.out HC2.out.size HC2.out.reads.2).mono ?_
  rintro e w4 ⟨rfl, H4, hB4⟩
  have H4 := Lib.hid H4
  have hG4 := hG3.trans hB4
  go_wp2_with fail
  go_ret
  refine ⟨gl, rfl, .inl rfl, ?_, hG4⟩
  have e1 : pkT tx d sf 2 = lfRead (craD d sf 0) := by unfold pkT cfT; rw [if_pos (by decide), if_pos HCR.out]
  have e2 : pkD tx d sf 2 = craD d sf 0 := by unfold pkD; rw [if_neg (by decide), if_pos (by decide)]
  have e3 : pkF tx d sf 2 = craF d sf 0 := by unfold pkF; rw [if_neg (by decide), if_pos (by decide)]
  rw [e1, e2, e3]
  exact H4.out
set_option maxRecDepth 100000 in
set_option maxHeartbeats 4000000 in
theorem pack0_any (g gl : Nat) (tx d : ByteArray) (sf : Nat) (w : World) (h : LeafAt w g gl tx d sf) (hk : LfOk tx d sf) :
    Calls Tryz.prog 15 #[.pointer (some ⟨g, 0, none⟩), .int .i64 0] w (PackAns w g gl tx d sf 0) := by
  have HH := Lib.hid h
  obtain ⟨c0, c1, f0, f1, hg, hgl⟩ := h.cells
  have HN := Lib.hid (LfOk.new_ hk.text)
  have HE := Lib.hid (new_app hk.text)
  have HWH := Lib.hid (cra_whole (LfOk.new_ hk.text))
  have HCR := Lib.hid (cra_none hk.safe)
  have HC2 := Lib.hid (hk.crash (cra_none hk.safe))
  have htx := hk.text
  have hds := hk.size
  have hss := hk.safe
  clear h hk
  go_enter Tryz.func15, Tryz.ntmps15
  go_wp2_with fail
  refine (lgNew_any _).mono ?_
  rintro e w1 ⟨rfl, hw1⟩
  have hL1 : LogAt w1 w.heap.size 63 ⟨#[]⟩ 0 := by rw [hw1]; exact Blk.new_ w _ _
  have hb1 : Below w.heap.size w w1 := by rw [hw1]; exact (by repeat (first | exact Below.refl _ _ | assumption | refine Below.alloc ?_ (by first | exact Nat.le_refl _ | assumption | omega | (simp <;> omega)) _ | refine Below.setCell ?_ (by first | exact Nat.le_refl _ | assumption | omega | (simp <;> omega)) _ | refine Below.drew ?_ | refine below_drewN ?_ _))
  clear hw1
  have H1 := Lib.hid (HH.out.below hb1)
  have hgn1 : g ≠ w.heap.size := by omega
  have hgn2 : gl ≠ w.heap.size := by omega
  have hG1 : Gbs w w1 [g, gl] := Gbs.of_below hb1 _
  have HL1 := Lib.hid hL1
  clear c0 c1 f0 f1 hL1 hb1 hg hgl
  have HGB := Lib.hid (fun (W W2 : World) (a : Gbs w W [g, gl]) (b : W.grownBy W2 (some w.heap.size)) => a.gb b (.inr (Nat.le_refl _)))
  obtain ⟨c0, c1, f0, f1, hg, hgl⟩ := H1.out.cells
  have hglt : w.heap.size < w1.heap.size := Blk.lt HL1.out
  generalize hgn : w.heap.size = gn at *
  have HGN := Lib.hid hgn
  clear hgn
  go_wp2_with fail
  refine (lgAppend_any gn ⟨#[]⟩ (recB tx) 0 _ HL1.out (Nat.zero_le _)).mono ?_
  rintro e w2 ⟨rfl, hL2, hg2⟩
  have H2 := Lib.hid (H1.out.grown hg2 hgn1 hgn2)
  have HL2 := Lib.hid hL2
  have hG2 := HGB.out _ _ hG1 hg2
  have hz2 := hg2.size
  clear c0 c1 f0 f1 hL2 hg2 hg hgl
  obtain ⟨c0, c1, f0, f1, hg, hgl⟩ := H2.out.cells
  go_wp2_with fail
  refine (lgSync_any gn _ 0 _ HL2.out).mono ?_
  rintro e w3 ⟨rfl, hL3, hg3⟩
  have H3 := Lib.hid (H2.out.grown hg3 hgn1 hgn2)
  have HL3 := Lib.hid hL3
  have hG3 := HGB.out _ _ hG2 hg3
  have hz3 := hg3.size
  clear c0 c1 f0 f1 hL3 hg3 hg hgl
  obtain ⟨c0, c1, f0, f1, hg, hgl⟩ := H3.out.cells
  go_wp2_with fail
  go_ret
  exact ⟨gn, rfl, .inr (Nat.le_of_eq HGN.out), H3.out.relog HL3.out hgn1, hG3.set_ (.inl (by simp)) 1 _⟩
set_option maxRecDepth 100000 in
set_option maxHeartbeats 4000000 in
theorem pack3_any (g gl : Nat) (tx d : ByteArray) (sf : Nat) (w : World) (h : LeafAt w g gl tx d sf) (hk : LfOk tx d sf) :
    Calls Tryz.prog 15 #[.pointer (some ⟨g, 0, none⟩), .int .i64 3] w (PackAns w g gl tx d sf 3) := by
  have HH := Lib.hid h
  obtain ⟨c0, c1, f0, f1, hg, hgl⟩ := h.cells
  have HN := Lib.hid (LfOk.new_ hk.text)
  have HE := Lib.hid (new_app hk.text)
  have HWH := Lib.hid (cra_whole (LfOk.new_ hk.text))
  have HCR := Lib.hid (cra_none hk.safe)
  have HC2 := Lib.hid (hk.crash (cra_none hk.safe))
  have htx := hk.text
  have hds := hk.size
  have hss := hk.safe
  clear h hk
  go_enter Tryz.func15, Tryz.ntmps15
  go_wp2_with fail
  refine (lgNew_any _).mono ?_
  rintro e w1 ⟨rfl, hw1⟩
  have hL1 : LogAt w1 w.heap.size 63 ⟨#[]⟩ 0 := by rw [hw1]; exact Blk.new_ w _ _
  have hb1 : Below w.heap.size w w1 := by rw [hw1]; exact (by repeat (first | exact Below.refl _ _ | assumption | refine Below.alloc ?_ (by first | exact Nat.le_refl _ | assumption | omega | (simp <;> omega)) _ | refine Below.setCell ?_ (by first | exact Nat.le_refl _ | assumption | omega | (simp <;> omega)) _ | refine Below.drew ?_ | refine below_drewN ?_ _))
  clear hw1
  have H1 := Lib.hid (HH.out.below hb1)
  have hgn1 : g ≠ w.heap.size := by omega
  have hgn2 : gl ≠ w.heap.size := by omega
  have hG1 : Gbs w w1 [g, gl] := Gbs.of_below hb1 _
  have HL1 := Lib.hid hL1
  clear c0 c1 f0 f1 hL1 hb1 hg hgl
  have HGB := Lib.hid (fun (W W2 : World) (a : Gbs w W [g, gl]) (b : W.grownBy W2 (some w.heap.size)) => a.gb b (.inr (Nat.le_refl _)))
  obtain ⟨c0, c1, f0, f1, hg, hgl⟩ := H1.out.cells
  have hglt : w.heap.size < w1.heap.size := Blk.lt HL1.out
  generalize hgn : w.heap.size = gn at *
  have HGN := Lib.hid hgn
  clear hgn
  go_wp2_with fail
  refine (lgAppend_any gn ⟨#[]⟩ (recB tx) 0 _ HL1.out (Nat.zero_le _)).mono ?_
  rintro e w2 ⟨rfl, hL2, hg2⟩
  have H2 := Lib.hid (H1.out.grown hg2 hgn1 hgn2)
  have HL2 := Lib.hid hL2
  have hG2 := HGB.out _ _ hG1 hg2
  have hz2 := hg2.size
  clear c0 c1 f0 f1 hL2 hg2 hg hgl
  obtain ⟨c0, c1, f0, f1, hg, hgl⟩ := H2.out.cells
  go_wp2_with fail
  refine (lgSync_any gn _ 0 _ HL2.out).mono ?_
  rintro e w3 ⟨rfl, hL3, hg3⟩
  have H3 := Lib.hid (H2.out.grown hg3 hgn1 hgn2)
  have HL3 := Lib.hid hL3
  have hG3 := HGB.out _ _ hG2 hg3
  have hz3 := hg3.size
  clear c0 c1 f0 f1 hL3 hg3 hg hgl
  obtain ⟨c0, c1, f0, f1, hg, hgl⟩ := H3.out.cells
  have H4 := Lib.hid (H3.out.relog HL3.out hgn1)
  have hG4 : Gbs w (w3.setCell ⟨g, 1, none⟩ (.pointer (some ⟨gn, 0, none⟩))) [g, gl] := hG3.set_ (.inl (by simp)) 1 _
  go_wp2_with fail
  generalize w3.setCell ⟨g, 1, none⟩ (.pointer (some ⟨gn, 0, none⟩)) = w4 at *
  clear c0 c1 f0 f1 hg hgl
  obtain ⟨c0, c1, f0, f1, hg, hgl⟩ := H4.out.cells
  refine (lgCrash_any gn (newD tx) (newD tx).size 0 _ H4.out.log HN.out.size HN.out.safe).mono ?_
  rintro e w5 ⟨rfl, hL5, hg5⟩
  rw [HWH.out.2.1, HWH.out.2.2] at hL5
  have H5 := Lib.hid (H4.out.logged hL5 hg5)
  have hG5 := HGB.out _ _ hG4 hg5
  clear c0 c1 f0 f1 hL5 hg5 hg hgl
  obtain ⟨c0, c1, f0, f1, hg, hgl⟩ := H5.out.cells
  go_wp2_with fail
  refine (lfRead_any g gn tx _ _ w5 H5.out HN.out.size HN.out.reads.2).mono ?_
  rintro e w6 ⟨rfl, H6, hB6⟩
  rw [HN.out.reads.1] at H6
  have H6 := Lib.hid H6
  have hG6 : Gbs w w6 [g, gl] := ⟨hB6.os.trans hG5.os, hB6.tape.trans hG5.tape, hB6.output.trans hG5.output, Nat.le_trans hG5.size hB6.size, fun i hi hr => (hB6.block i (Nat.lt_of_lt_of_le hi hG5.size) (fun e => by
    rcases List.mem_cons.1 e with rfl | e
    · exact hr (by simp)
    · have := List.mem_singleton.1 e; have := HGN.out; omega)).trans (hG5.block i hi hr)⟩
  go_wp2_with fail
  go_ret
  exact ⟨gn, rfl, .inr (Nat.le_of_eq HGN.out), H6.out, hG6⟩
theorem lfPack_any (g gl : Nat) (tx d : ByteArray) (sf : Nat) (stop : Int) (w : World) (h : LeafAt w g gl tx d sf) (hk : LfOk tx d sf) :
    Calls Tryz.prog 15 #[.pointer (some ⟨g, 0, none⟩), .int .i64 stop] w (PackAns w g gl tx d sf stop) := by
  by_cases h0 : stop = 0
  · subst h0; exact pack0_any g gl tx d sf w h hk
  by_cases h1 : stop = 1
  · subst h1; exact pack1_any g gl tx d sf w h hk
  by_cases h2 : stop = 2
  · subst h2; exact pack2_any g gl tx d sf w h hk
  by_cases h3 : stop = 3
  · subst h3; exact pack3_any g gl tx d sf w h hk
  have HH := Lib.hid h
  have HA : Hid (pkE stop = 1 ∧ pkT tx d sf stop = tx ∧ pkD tx d sf stop = d ∧ pkF tx d sf stop = sf) := by
    unfold Hid pkE pkT pkD pkF
    rw [if_neg (by omega), if_neg (by omega), if_neg (by omega), if_neg (by omega), if_neg (by omega), if_neg (by omega)]
    exact ⟨rfl, rfl, rfl, rfl⟩
  have HP : Hid (∀ w' : World, w' = w → PackAns w g gl tx d sf stop (.returned (.int .i64 1)) w') := fun w' e => by
    subst e
    exact ⟨gl, by rw [HA.out.1], .inl rfl, by rw [HA.out.2.1, HA.out.2.2.1, HA.out.2.2.2]; exact HH.out, Gbs.refl _ _⟩
  clear h hk
  by_cases hn : stop < 0
  · have g1 : decide (stop < 0) = true := decide_eq_true hn
    go_enter Tryz.func15, Tryz.ntmps15
    go_wp2_with fail
    go_ret
    exact HP.out _ rfl
  · have g1 : decide (stop < 0) = false := decide_eq_false hn
    have g2 : decide (3 < stop) = true := decide_eq_true (by omega)
    go_enter Tryz.func15, Tryz.ntmps15
    go_wp2_with fail
    go_ret
    exact HP.out _ rfl
end Go.Proofs.YtmikckhihfcooaaGreatDoor
