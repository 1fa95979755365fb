/- An edit of a rope, step by step. Plain lists, no program in sight. rope.Edit. The document's edit of a rope. -/
import Derived.Test.YtmikckhihfcooaaDoorPk14
namespace Go.Proofs.YtmikckhihfcooaaDoor
theorem cutE_zero {p : Parts} {at_ : Int} (h : cutE p at_ = 0) : RopeOk p ∧ 0 ≤ at_ ∧ at_ ≤ (tot p : Int) := by
  unfold cutE at h
  by_cases h1 : ropeErr p = 0
  · rw [if_neg (by rw [h1]; decide)] at h
    by_cases h2 : at_ < 0 ∨ (tot p : Int) < at_
    · rw [if_pos h2] at h; cases h
    · exact ⟨ropeErr_zero.1 h1, by omega, by omega⟩
  · rw [if_pos h1] at h; exact absurd h h1
theorem cutE_of {p : Parts} {at_ : Int} (h : RopeOk p) : cutE p at_ = if at_ < 0 ∨ (tot p : Int) < at_ then 1 else 0 := by
  unfold cutE; rw [ropeErr_zero.2 h]; rfl
theorem ed_step1 {p : Parts} {x : Ed} (h : cutE p x.at_ ≠ 0) : ropeEdE p x = cutE p x.at_ ∧ ropeEdP p x = [] := by
  have h1 : ropeEdE p x = cutE p x.at_ := by
    unfold ropeEdE
    by_cases h1 : ropeErr p = 0
    · rw [if_neg (by rw [h1]; decide)]
      rw [cutE_of (ropeErr_zero.1 h1)] at h ⊢
      by_cases h2 : x.at_ < 0 ∨ (tot p : Int) < x.at_
      · rw [if_pos h2, if_pos]
        rcases h2 with h2 | h2
        · exact .inl h2
        · exact .inr (.inl h2)
      · rw [if_neg h2] at h; exact absurd rfl h
    · rw [if_pos h1]; unfold cutE; rw [if_pos h1]
  refine ⟨h1, ?_⟩
  unfold ropeEdP; rw [h1, if_neg h]
theorem ed_parts2 {p : Parts} {x : Ed} (h2 : cutE (cutB x.at_.toNat p) x.del = 0) : cutPB (cutB x.at_.toNat p) x.del = edC p x ∧ RopeOk (edC p x) := by
  refine ⟨?_, (cutE_zero h2).1.cutB _⟩
  unfold cutPB; rw [if_pos h2]; rfl
theorem ins_err (x : Ed) : ropeErr (insP x.ins) = if 200 < x.ins.length then 2 else 0 := by
  unfold insP
  split
  · rename_i h0; rw [h0]; rfl
  · rename_i h0; exact ropeErr_one _ h0
section
variable {p : Parts} {x : Ed} (h : cutE p x.at_ = 0)
include h
theorem ed_parts : cutPA p x.at_ = edA p x ∧ cutPB p x.at_ = cutB x.at_.toNat p ∧ RopeOk (edA p x) ∧ RopeOk (cutB x.at_.toNat p) := by
  obtain ⟨h1, _, _⟩ := cutE_zero h
  refine ⟨?_, ?_, h1.cutA _, h1.cutB _⟩
  · unfold cutPA; rw [if_pos h]; rfl
  · unfold cutPB; rw [if_pos h]
theorem ed_base : ropeEdE p x = if cutE (cutB x.at_.toNat p) x.del ≠ 0 then 1 else if 200 < x.ins.length then 2 else if joinErr (edA p x) (insP x.ins) ≠ 0 then 11 else if joinErr (edA p x ++ insP x.ins) (edC p x) ≠ 0 then 11 else 0 := by
  obtain ⟨h1, h2, h3⟩ := cutE_zero h
  have hb := h1.cutB x.at_.toNat
  have ht := (cut_tot p x.at_.toNat).2
  unfold ropeEdE
  rw [if_neg (by rw [ropeErr_zero.2 h1]; decide), cutE_of hb]
  by_cases h4 : x.del < 0 ∨ (tot (cutB x.at_.toNat p) : Int) < x.del
  · rw [if_pos h4, if_pos (show badAt p x by unfold badAt; omega), if_pos (by decide)]
  · rw [if_neg h4, if_neg (show ¬ badAt p x by unfold badAt; omega), if_neg (show ¬ ((0 : Int) ≠ 0) from fun h => h rfl)]
theorem ed_step2 (h2 : cutE (cutB x.at_.toNat p) x.del ≠ 0) : ropeEdE p x = cutE (cutB x.at_.toNat p) x.del ∧ ropeEdP p x = [] := by
  have h1 : ropeEdE p x = 1 := by rw [ed_base h, if_pos h2]
  have h3 : cutE (cutB x.at_.toNat p) x.del = 1 := by
    rw [cutE_of ((cutE_zero h).1.cutB _)] at h2 ⊢
    by_cases h4 : x.del < 0 ∨ (tot (cutB x.at_.toNat p) : Int) < x.del
    · rw [if_pos h4]
    · rw [if_neg h4] at h2; exact absurd rfl h2
  refine ⟨by rw [h1, h3], ?_⟩
  unfold ropeEdP; rw [h1, if_neg (by decide)]
variable (h2 : cutE (cutB x.at_.toNat p) x.del = 0)
include h2
theorem ed_step3 (h3 : ropeErr (insP x.ins) ≠ 0) : ropeEdE p x = ropeErr (insP x.ins) ∧ ropeEdP p x = [] := by
  have hi := ins_err x
  have h200 : 200 < x.ins.length := by
    rw [hi] at h3
    by_cases h4 : 200 < x.ins.length
    · exact h4
    · rw [if_neg h4] at h3; exact absurd rfl h3
  have h1 : ropeEdE p x = 2 := by rw [ed_base h, if_neg (by rw [h2]; decide), if_pos h200]
  refine ⟨by rw [h1, hi, if_pos h200], ?_⟩
  unfold ropeEdP; rw [h1, if_neg (by decide)]
theorem ed_step4 (h3 : ropeErr (insP x.ins) = 0) (h4 : joinE (edA p x) (insP x.ins) ≠ 0) : ropeEdE p x = joinE (edA p x) (insP x.ins) ∧ ropeEdP p x = [] := by
  have hm := ropeErr_zero.1 h3
  have ha := (ed_parts h).2.2.1
  rw [joinE_ok ha hm] at h4 ⊢
  have h200 : ¬ 200 < x.ins.length := by
    rw [ins_err x] at h3
    intro h5; rw [if_pos h5] at h3; cases h3
  have h1 : ropeEdE p x = 11 := by rw [ed_base h, if_neg (by rw [h2]; decide), if_neg h200, if_pos h4]
  have h5 : joinErr (edA p x) (insP x.ins) = 11 := by
    unfold joinErr at h4 ⊢
    split
    · rfl
    · rename_i h6; rw [if_neg h6] at h4; exact absurd rfl h4
  refine ⟨by rw [h1, h5], ?_⟩
  unfold ropeEdP; rw [h1, if_neg (by decide)]
theorem ed_step5 (h3 : ropeErr (insP x.ins) = 0) (h4 : joinE (edA p x) (insP x.ins) = 0) :
    joinP (edA p x) (insP x.ins) = edA p x ++ insP x.ins ∧ RopeOk (edA p x ++ insP x.ins) ∧ ropeEdE p x = joinE (edA p x ++ insP x.ins) (edC p x) ∧ ropeEdP p x = joinP (edA p x ++ insP x.ins) (edC p x) := by
  have hm := ropeErr_zero.1 h3
  have ha := (ed_parts h).2.2.1
  have hc := (ed_parts2 h2).2
  have h40 := h4
  rw [joinE_ok ha hm] at h4
  have ham := joinErr_zero ha hm h4
  have h200 : ¬ 200 < x.ins.length := by
    rw [ins_err x] at h3
    intro h5; rw [if_pos h5] at h3; cases h3
  have h1 : ropeEdE p x = joinE (edA p x ++ insP x.ins) (edC p x) := by
    rw [ed_base h, if_neg (by rw [h2]; decide), if_neg h200, if_neg (by rw [h4]; decide), joinE_ok ham hc]
    unfold joinErr
    split
    · rfl
    · rfl
  refine ⟨by unfold joinP; rw [if_pos h40], ham, h1, ?_⟩
  unfold ropeEdP joinP
  rw [h1]
end
end Go.Proofs.YtmikckhihfcooaaDoor
namespace Go.Proofs.YtmikckhihfcooaaDoor
open Go.RowKit
theorem parts_small {p : Parts} (h : RopeOk p) : ∀ x ∈ p, x.length ≤ 9223372036854775807 := fun x hx => by
  have h1 : x.length ≤ p.flatten.length := List.Sublist.length_le (List.sublist_flatten_of_mem hx)
  have h2 := h.t
  unfold tot at h2; omega
set_option maxRecDepth 100000 in
set_option maxHeartbeats 4000000 in
theorem ropeEdit_any (p : Parts) (A : Option Addr) (n c B : Nat) (x : Ed) (w : World) (hr : Rd w B 1 A n (strCells p)) (hB : B ≤ w.heap.size) (hn : n ≤ 9223372036854775807) (hnc : n ≤ c) (hsz : ∀ y ∈ p, y.length ≤ 9223372036854775807)
    (ha : -9223372036854775808 ≤ x.at_ ∧ x.at_ ≤ 9223372036854775807) (hd : -9223372036854775808 ≤ x.del ∧ x.del ≤ 9223372036854775807) (hi : x.ins.length ≤ 9223372036854775807) :
    Calls Tryd.prog 11 #[.agg #[.slice A n c], .agg #[.int .i64 x.at_, .int .i64 x.del, .string (S x.ins)]] w fun e w' => ∃ v, e = .returned (.tuple #[.agg #[v], .int .i64 (ropeEdE p x)]) ∧
      w'.ownsRow w.heap.size 9 1 v (ropeEdP p x).length (strCells (ropeEdP p x)) ∧ Below w.heap.size w w' := by
  have hpn := strCells_len' hr
  obtain ⟨w0, hw0⟩ : ∃ w0, w0 = (((w.alloc (.cells #[.slice A n c] 32)).alloc (.cells #[.int .i64 x.at_, .int .i64 x.del, .string (S x.ins)] 39)).alloc (.cells #[.slice none 0 0] 32)) := ⟨_, rfl⟩
  have hb0 : Below w.heap.size w w0 := by rw [hw0]; exact (by repeat (first | exact Below.refl _ _ | assumption | refine Below.alloc ?_ (by first | exact Nat.le_refl _ | assumption | omega | (simp <;> omega)) _ | refine Below.setCell ?_ (by first | exact Nat.le_refl _ | assumption | omega | (simp <;> omega)) _ | refine Below.drew ?_ | refine below_drewN ?_ _))
  have HR : Hid (Rd w0 B 1 A n (strCells p)) := hr.below (hb0.mono hB)
  have HB3 : Hid (Blk w0 (w.heap.size + 1) 39 #[.int .i64 x.at_, .int .i64 x.del, .string (S x.ins)]) := by
    have h1 := Blk.new_ (w.alloc (.cells #[.slice A n c] 32)) 39 #[.int .i64 x.at_, .int .i64 x.del, .string (S x.ins)]
    rw [World.size_alloc] at h1
    unfold Hid; rw [hw0]; exact Blk.alloc h1 _
  have HB4 : Hid (Blk w0 (w.heap.size + 1 + 1) 32 #[.slice none 0 0]) := by
    have h1 := Blk.new_ ((w.alloc (.cells #[.slice A n c] 32)).alloc (.cells #[.int .i64 x.at_, .int .i64 x.del, .string (S x.ins)] 39)) 32 #[.slice none 0 0]
    rw [World.size_alloc, World.size_alloc] at h1
    unfold Hid; rw [hw0]; exact h1
  have hsz0 : w0.heap.size = w.heap.size + 1 + 1 + 1 := by rw [hw0]; simp
  have HSZ0 : Hid (w.heap.size + 1 + 1 + 1 ≤ w0.heap.size) := by unfold Hid; omega
  have HC1 := Lib.hid (ropeCut_any p A n c B x.at_ w0 HR.out (by omega) hn hnc hsz ha.1 ha.2)
  clear hr hpn hsz0 hsz
  by_cases he1 : cutE p x.at_ = 0
  · obtain ⟨hpa, hpb, hoka, hokb⟩ := ed_parts he1
    rw [he1, hpa, hpb] at HC1
    have HE1 := Lib.hid he1
    have hnaS := parts_small hoka
    have hnbS := parts_small hokb
    have hla := hoka.n
    have hlb := hokb.n
    clear hpa hpb
    generalize hla0 : edA p x = la at *
    have HLA0 := Lib.hid hla0
    clear hla0
    generalize hlb0 : cutB x.at_.toNat p = lb at *
    have HLB0 := Lib.hid hlb0
    clear hlb0 he1
    go_enter Tryd.func11, Tryd.ntmps11
    go_wp2_with fail
    rw [← hw0]
    clear hw0
    refine (HC1.out).mono ?_
    rintro e w1 ⟨va, vb, rfl, hoa, hob, hap, hb1⟩
    obtain ⟨Aa, ca, rfl, hna, _, hra⟩ := own_form hoa
    obtain ⟨Ab, cb, rfl, hnb, _, hrb⟩ := own_form hob
    have hbA : Below w1.heap.size w1 ((w1.alloc (.cells #[.slice Aa la.length ca] 32)).alloc (.cells #[.slice Ab lb.length cb] 32)) := (by repeat (first | exact Below.refl _ _ | assumption | refine Below.alloc ?_ (by first | exact Nat.le_refl _ | assumption | omega | (simp <;> omega)) _ | refine Below.setCell ?_ (by first | exact Nat.le_refl _ | assumption | omega | (simp <;> omega)) _ | refine Below.drew ?_ | refine below_drewN ?_ _))
    have hb2 := bthen hb1 hbA
    have HB3a := Lib.hid (HB3.out.below' hb2)
    have HB6 : Hid (Blk ((w1.alloc (.cells #[.slice Aa la.length ca] 32)).alloc (.cells #[.slice Ab lb.length cb] 32)) w1.heap.size 32 #[.slice Aa la.length ca]) := Blk.alloc (Blk.new_ _ _ _) _
    have HOA := Lib.hid (own_below hoa hbA)
    have HRB := Lib.hid (hrb.below hbA)
    have HC2 := Lib.hid (ropeCut_any lb Ab lb.length cb w1.heap.size x.del ((w1.alloc (.cells #[.slice Aa la.length ca] 32)).alloc (.cells #[.slice Ab lb.length cb] 32)) HRB.out (by simp; omega) (by omega) hnb hnbS hd.1 hd.2)
    have hz1 : w1.heap.size + 2 ≤ ((w1.alloc (.cells #[.slice Aa la.length ca] 32)).alloc (.cells #[.slice Ab lb.length cb] 32)).heap.size := by simp
    have hz01 := hb1.size
    have q31 := Blk.cell1 HB3a.out
    clear hoa hob hap hra hrb hbA hb1 HB3 HR HC1
    go_wp2_with fail
    generalize ((w1.alloc (.cells #[.slice Aa la.length ca] 32)).alloc (.cells #[.slice Ab lb.length cb] 32)) = wa at *
    generalize w1.heap.size = g6 at *
    by_cases he2 : cutE lb x.del = 0
    · have he2' : cutE (cutB x.at_.toNat p) x.del = 0 := by rw [HLB0.out]; exact he2
      obtain ⟨hpc, hokc⟩ := ed_parts2 he2'
      rw [HLB0.out] at hpc
      rw [he2, hpc] at HC2
      have HE2 := Lib.hid he2'
      have hncS := parts_small hokc
      have hlc := hokc.n
      clear hpc he2 he2'
      generalize hlc0 : edC p x = lc at *
      have HLC0 := Lib.hid hlc0
      clear hlc0
      generalize cutPA lb x.del = l1 at *
      refine (HC2.out).mono ?_
      rintro e w2 ⟨v1, v2, rfl, ho1, ho2, hap2, hb3⟩
      obtain ⟨A1, c1, rfl, hn1, _, hr1⟩ := own_form ho1
      obtain ⟨A2, c2, rfl, hn2, _, hr2⟩ := own_form ho2
      have hbA2 : Below w2.heap.size w2 (((w2.alloc (.cells #[.slice A1 l1.length c1] 32)).alloc (.cells #[.slice A2 lc.length c2] 32)).alloc (.cells #[.slice none 0 0] 32)) := (by repeat (first | exact Below.refl _ _ | assumption | refine Below.alloc ?_ (by first | exact Nat.le_refl _ | assumption | omega | (simp <;> omega)) _ | refine Below.setCell ?_ (by first | exact Nat.le_refl _ | assumption | omega | (simp <;> omega)) _ | refine Below.drew ?_ | refine below_drewN ?_ _))
      have hb4 := bthen hb3 hbA2
      have hb5 := bthen hb2 hb4
      have hz2 := hb3.size
      have hzz : (((w2.alloc (.cells #[.slice A1 l1.length c1] 32)).alloc (.cells #[.slice A2 lc.length c2] 32)).alloc (.cells #[.slice none 0 0] 32)).heap.size = w2.heap.size + 3 := by simp
      have HB3c := Lib.hid (HB3a.out.below' hb4)
      have HB6c := Lib.hid (HB6.out.below' hb4)
      have HOAc := Lib.hid (own_below HOA.out hb4)
      have HRC := Lib.hid (hr2.below hbA2)
      have HB10 : Hid (Blk (((w2.alloc (.cells #[.slice A1 l1.length c1] 32)).alloc (.cells #[.slice A2 lc.length c2] 32)).alloc (.cells #[.slice none 0 0] 32)) (w2.heap.size + 1) 32 #[.slice A2 lc.length c2]) := by
        have h1 := Blk.new_ (w2.alloc (.cells #[.slice A1 l1.length c1] 32)) 32 #[.slice A2 lc.length c2]
        rw [World.size_alloc] at h1
        exact Blk.alloc h1 _
      have HB11 : Hid (Blk (((w2.alloc (.cells #[.slice A1 l1.length c1] 32)).alloc (.cells #[.slice A2 lc.length c2] 32)).alloc (.cells #[.slice none 0 0] 32)) (w2.heap.size + 1 + 1) 32 #[.slice none 0 0]) := by
        have h1 := Blk.new_ ((w2.alloc (.cells #[.slice A1 l1.length c1] 32)).alloc (.cells #[.slice A2 lc.length c2] 32)) 32 #[.slice none 0 0]
        rw [World.size_alloc, World.size_alloc] at h1
        exact h1
      have hzd : g6 < w2.heap.size := by have := HB6.out.lt; omega
      have q32 := Blk.cell2 HB3c.out
      have hie := isEmpty_size x.ins
      have HRC2 := Lib.hid ho2
      clear ho1 ho2 hap2 hr1 hr2 hbA2 HB3a HB6c HOAc HRC HB10 HB11 hb4 hb5 q31 hzz
      have hins : ∀ y ∈ insP x.ins, y.length ≤ 9223372036854775807 := fun y hy => by
        unfold insP at hy
        split at hy
        · cases hy
        · rw [List.mem_singleton] at hy; rw [hy]; exact hi
      have HINS := Lib.hid hins
      clear hins
      have hilen : (insP x.ins).length ≤ 1 := by unfold insP; split <;> simp
      by_cases hi0 : x.ins.length = 0
      · have g3 : (S x.ins).toList.isEmpty = true := by rw [hie, decide_eq_true hi0]
        have HMI : Hid (insP x.ins = []) := by unfold Hid insP; rw [if_pos hi0]
        clear hie hi0
        have hbM : Below w2.heap.size w2 (((w2.alloc (.cells #[.slice A1 l1.length c1] 32)).alloc (.cells #[.slice A2 lc.length c2] 32)).alloc (.cells #[.slice none 0 0] 32)) := (by repeat (first | exact Below.refl _ _ | assumption | refine Below.alloc ?_ (by first | exact Nat.le_refl _ | assumption | omega | (simp <;> omega)) _ | refine Below.setCell ?_ (by first | exact Nat.le_refl _ | assumption | omega | (simp <;> omega)) _ | refine Below.drew ?_ | refine below_drewN ?_ _))
        have hB10 : Blk (((w2.alloc (.cells #[.slice A1 l1.length c1] 32)).alloc (.cells #[.slice A2 lc.length c2] 32)).alloc (.cells #[.slice none 0 0] 32)) (w2.heap.size + 1) 32 #[.slice A2 lc.length c2] := by
          have h1 := Blk.new_ (w2.alloc (.cells #[.slice A1 l1.length c1] 32)) 32 #[.slice A2 lc.length c2]
          rw [World.size_alloc] at h1
          exact Blk.alloc h1 _
        have hB11 : Blk (((w2.alloc (.cells #[.slice A1 l1.length c1] 32)).alloc (.cells #[.slice A2 lc.length c2] 32)).alloc (.cells #[.slice none 0 0] 32)) (w2.heap.size + 1 + 1) 32 #[.slice none 0 0] := by
          have h1 := Blk.new_ ((w2.alloc (.cells #[.slice A1 l1.length c1] 32)).alloc (.cells #[.slice A2 lc.length c2] 32)) 32 #[.slice none 0 0]
          rw [World.size_alloc, World.size_alloc] at h1
          exact h1
        have HMX : Hid (Rd (((w2.alloc (.cells #[.slice A1 l1.length c1] 32)).alloc (.cells #[.slice A2 lc.length c2] 32)).alloc (.cells #[.slice none 0 0] 32)) (w2.heap.size + 3) 1 none 0 (strCells (insP x.ins))) := by unfold Hid; rw [HMI.out]; exact Rd.nil_
        have hszM : (((w2.alloc (.cells #[.slice A1 l1.length c1] 32)).alloc (.cells #[.slice A2 lc.length c2] 32)).alloc (.cells #[.slice none 0 0] 32)).heap.size = w2.heap.size + 3 := by simp
        have hb4M := bthen hb3 hbM
        have hb5M := bthen hb2 hb4M
        have HB6M := Lib.hid (HB6.out.below' hb4M)
        have HOAM := Lib.hid (own_below HOA.out hb4M)
        have HOC := Lib.hid (own_below HRC2.out hbM)
        have hsM : w2.heap.size ≤ ((((w2.alloc (.cells #[.slice A1 l1.length c1] 32)).alloc (.cells #[.slice A2 lc.length c2] 32)).alloc (.cells #[.slice none 0 0] 32))).heap.size := hbM.size
        have hs0M : w0.heap.size ≤ ((((w2.alloc (.cells #[.slice A1 l1.length c1] 32)).alloc (.cells #[.slice A2 lc.length c2] 32)).alloc (.cells #[.slice none 0 0] 32))).heap.size := hb5M.size
        have HB10M : Hid (Blk ((((w2.alloc (.cells #[.slice A1 l1.length c1] 32)).alloc (.cells #[.slice A2 lc.length c2] 32)).alloc (.cells #[.slice none 0 0] 32))) (w2.heap.size + 1) 32 #[.slice A2 lc.length c2]) := hB10
        have HB11M : Hid (Blk ((((w2.alloc (.cells #[.slice A1 l1.length c1] 32)).alloc (.cells #[.slice A2 lc.length c2] 32)).alloc (.cells #[.slice none 0 0] 32))) (w2.heap.size + 1 + 1) 32 #[.slice (none) 0 0]) := hB11
        have hlt11 := HB11M.out.lt
        have HCK := Lib.hid (ropeCheck_any (insP x.ins) (none) 0 0 (w2.heap.size + 3) ((((w2.alloc (.cells #[.slice A1 l1.length c1] 32)).alloc (.cells #[.slice A2 lc.length c2] 32)).alloc (.cells #[.slice none 0 0] 32))) HMX.out (by omega) (by omega) HINS.out)
        have HMX.outH := Lib.hid (HMX.out)
        clear hB10 hB11 hbM hb3 hb2 HB6 HOA HRC2 hb4M
        go_wp2_with fail
        clear q32
        generalize ((((w2.alloc (.cells #[.slice A1 l1.length c1] 32)).alloc (.cells #[.slice A2 lc.length c2] 32)).alloc (.cells #[.slice none 0 0] 32))) = wm at *
        refine (HCK.out).mono ?_
        rintro e w5 ⟨rfl, hb5⟩
        have hb5' := bthen hb5M hb5
        by_cases h3 : ropeErr (insP x.ins) = 0
        · rw [h3]
          have HE3 := Lib.hid h3
          clear h3
          have q6 := Blk.cell0 (HB6M.out.below' hb5)
          have q11 := Blk.cell0 (HB11M.out.below' hb5)
          have f6 := Blk.frozen (HB6M.out.below' hb5) 0
          have HOA5 := Lib.hid (own_below HOAM.out hb5)
          have hra5 := Rd.of_own HOA5.out
          have hs5 := hb5.size
          have HJ1 := Lib.hid (ropeJoin_any la (insP x.ins) Aa la.length ca (none) 0 0 w5.heap.size w5 hra5 ((HMX.outH.out.below (hb5.mono (by omega))).more (by omega)) (Nat.le_refl _) (by omega) (by omega) hnaS HINS.out)
          clear hra5
          go_wp2_with fail
          refine (HJ1.out).mono ?_
          rintro e w6 ⟨v6, rfl, ho6, hb6⟩
          obtain ⟨A6, c6, rfl, hn6, _, hr6⟩ := own_form ho6
          have hb6' := bthen hb5' hb6
          have hB6' := (HB6M.out.below' hb5).below' hb6
          have f6 := Blk.frozen hB6' 0
          have q6 := Blk.cell0 hB6'
          have hs6 := hb6.size
          have hg6w : w0.heap.size ≤ g6 := hz01
          have hbW : Below w0.heap.size w0 (w6.setCell ⟨g6, 0, none⟩ (.slice A6 (joinP la (insP x.ins)).length c6)) := Below.setCell hb6' (p := ⟨g6, 0, none⟩) hg6w _
          by_cases h4 : joinE la (insP x.ins) = 0
          · have hst5 := @ed_step5 p x HE1.out HE2.out HE3.out
            rw [HLA0.out, HLC0.out] at hst5
            obtain ⟨hjp, hokm, hE, hP⟩ := hst5 h4
            rw [h4]
            clear h4
            rw [hjp] at ho6 hr6 hn6 hbW ⊢
            have HEF := Lib.hid hE
            have HPF := Lib.hid hP
            have hmS := parts_small hokm
            have hml := hokm.n
            clear hjp hE hP hst5
            generalize la ++ insP x.ins = lm at *
            have HB6s : Hid (Blk (w6.setCell ⟨g6, 0, none⟩ (.slice A6 lm.length c6)) g6 32 #[.slice A6 lm.length c6]) := hB6'.set_ 0 _
            have q6s := Blk.cell0 HB6s.out
            have hd10 : w2.heap.size + 1 ≠ g6 := by omega
            have q10s := Blk.cell0 (((HB10M.out.below' hb5).below' hb6).far (p := ⟨g6, 0, none⟩) hd10 (.slice A6 lm.length c6))
            have hszs : (w6.setCell ⟨g6, 0, none⟩ (.slice A6 lm.length c6)).heap.size = w6.heap.size := by simp [World.setCell]
            have hrm : Rd (w6.setCell ⟨g6, 0, none⟩ (.slice A6 lm.length c6)) w6.heap.size 1 A6 lm.length (strCells lm) := by
              have h9 := Rd.of_own (own_far ho6 (own_ne_rope ho6 hB6') 0 (.slice A6 lm.length c6))
              rw [hszs] at h9
              exact h9
            have hOCs := own_far (own_below (own_below HOC.out hb5) hb6) (own_ne_rope (own_below (own_below HOC.out hb5) hb6) hB6') 0 (.slice A6 lm.length c6)
            have hrcc : Rd (w6.setCell ⟨g6, 0, none⟩ (.slice A6 lm.length c6)) w6.heap.size 1 A2 lc.length (strCells lc) := by
              have h9 := Rd.of_own hOCs
              rw [hszs] at h9
              exact h9
            clear hOCs
            have HJ2 := Lib.hid (ropeJoin_any lm lc A6 lm.length c6 A2 lc.length c2 w6.heap.size (w6.setCell ⟨g6, 0, none⟩ (.slice A6 lm.length c6)) hrm hrcc (by rw [hszs]; exact Nat.le_refl _) (by omega) (by omega) hmS hncS)
            clear ho6 hr6 hrm hrcc
            go_wp2_with fail
            generalize (w6.setCell ⟨g6, 0, none⟩ (.slice A6 lm.length c6)) = w7 at *
            refine (HJ2.out).mono ?_
            rintro e w8 ⟨v8, rfl, ho8, hb8⟩
            obtain ⟨A8, c8, rfl, hn8, _, hr8⟩ := own_form ho8
            have hb8' := bthen hbW hb8
            have h4 := HB4.out.below' hb8'
            have q4 := Blk.cell0 h4
            have f4 := Blk.frozen h4 0
            have hbb : Below w.heap.size w w8 := hb0.trans (Below.mono hb8' (by have := HSZ0.out; omega))
            have R4 : (w8.setCell ⟨w.heap.size + 1 + 1, 0, none⟩ (.slice A8 (joinP lm lc).length c8)).cell? ⟨w.heap.size + 1 + 1, 0, none⟩ = some (.slice A8 (joinP lm lc).length c8) := Blk.cell0 (h4.set_ 0 _)
            have hbF : Below w.heap.size w (w8.setCell ⟨w.heap.size + 1 + 1, 0, none⟩ (.slice A8 (joinP lm lc).length c8)) := (by repeat (first | exact Below.refl _ _ | assumption | refine Below.alloc ?_ (by first | exact Nat.le_refl _ | assumption | omega | (simp <;> omega)) _ | refine Below.setCell ?_ (by first | exact Nat.le_refl _ | assumption | omega | (simp <;> omega)) _ | refine Below.drew ?_ | refine below_drewN ?_ _))
            have ho8' := own_far (own_lower ho8 (show w.heap.size ≤ w7.heap.size by have := hbW.size; have := HSZ0.out; omega)) (own_ne_rope (own_lower ho8 (show w.heap.size ≤ w7.heap.size by have := hbW.size; have := HSZ0.out; omega)) h4) 0 (.slice A8 (joinP lm lc).length c8)
            have HO8 := Lib.hid ho8'
            clear ho8 hr8 ho8' h4
            go_wp2_with fail
            (apply bodyPost_ret; (simp [results, Tryd.results11, go_sem, R4]; rfl); rfl)
            rw [HEF.out, HPF.out]
            exact ⟨_, rfl, HO8.out, hbF⟩
          · have hst4 := @ed_step4 p x HE1.out HE2.out HE3.out
            rw [HLA0.out] at hst4
            obtain ⟨hE, hP⟩ := hst4 h4
            have HEF := Lib.hid hE
            have HPF := Lib.hid hP
            have g7 : (joinE la (insP x.ins) != 0) = true := by rw [bne_iff_ne]; exact h4
            clear hE hP hst4 h4 ho6 hr6
            generalize joinE la (insP x.ins) = e4 at *
            generalize (joinP la (insP x.ins)).length = m6 at *
            have h4 := HB4.out.below hbW (by have := HSZ0.out; omega)
            have q4 := Blk.cell0 h4
            have f4 := Blk.frozen h4 0
            have hbb : Below w.heap.size w (w6.setCell ⟨g6, 0, none⟩ (.slice A6 m6 c6)) := hb0.trans (Below.mono hbW (by have := HSZ0.out; omega))
            have R4 : ((w6.setCell ⟨g6, 0, none⟩ (.slice A6 m6 c6)).setCell ⟨w.heap.size + 1 + 1, 0, none⟩ (.slice none 0 0)).cell? ⟨w.heap.size + 1 + 1, 0, none⟩ = some (.slice none 0 0) := Blk.cell0 (h4.set_ 0 _)
            have hbF : Below w.heap.size w ((w6.setCell ⟨g6, 0, none⟩ (.slice A6 m6 c6)).setCell ⟨w.heap.size + 1 + 1, 0, none⟩ (.slice none 0 0)) := (by repeat (first | exact Below.refl _ _ | assumption | refine Below.alloc ?_ (by first | exact Nat.le_refl _ | assumption | omega | (simp <;> omega)) _ | refine Below.setCell ?_ (by first | exact Nat.le_refl _ | assumption | omega | (simp <;> omega)) _ | refine Below.drew ?_ | refine below_drewN ?_ _))
            have hg64 : w.heap.size + 1 + 1 ≠ g6 := by have := HSZ0.out; omega
            go_wp2_with fail
            (apply bodyPost_ret; (simp [results, Tryd.results11, go_sem, R4]; rfl); rfl)
            rw [HEF.out, HPF.out]
            exact ⟨_, rfl, World.ownsRow_nil _ _ _ _, hbF⟩
        · obtain ⟨hE, hP⟩ := ed_step3 HE1.out HE2.out h3
          have HEF := Lib.hid hE
          have HPF := Lib.hid hP
          have g7 : (ropeErr (insP x.ins) != 0) = true := by rw [bne_iff_ne]; exact h3
          clear hE hP h3
          generalize ropeErr (insP x.ins) = e3 at *
          have h4 := HB4.out.below hb5' (by have := HSZ0.out; omega)
          have q4 := Blk.cell0 h4
          have f4 := Blk.frozen h4 0
          have hbb : Below w.heap.size w w5 := hb0.trans (Below.mono hb5' (by have := HSZ0.out; omega))
          have R4 : (w5.setCell ⟨w.heap.size + 1 + 1, 0, none⟩ (.slice none 0 0)).cell? ⟨w.heap.size + 1 + 1, 0, none⟩ = some (.slice none 0 0) := Blk.cell0 (h4.set_ 0 _)
          have hbF : Below w.heap.size w (w5.setCell ⟨w.heap.size + 1 + 1, 0, none⟩ (.slice none 0 0)) := (by repeat (first | exact Below.refl _ _ | assumption | refine Below.alloc ?_ (by first | exact Nat.le_refl _ | assumption | omega | (simp <;> omega)) _ | refine Below.setCell ?_ (by first | exact Nat.le_refl _ | assumption | omega | (simp <;> omega)) _ | refine Below.drew ?_ | refine below_drewN ?_ _))
          go_wp2_with fail
          (apply bodyPost_ret; (simp [results, Tryd.results11, go_sem, R4]; rfl); rfl)
          rw [HEF.out, HPF.out]
          exact ⟨_, rfl, World.ownsRow_nil _ _ _ _, hbF⟩
      · have g3 : (S x.ins).toList.isEmpty = false := by rw [hie, decide_eq_false hi0]
        have g3' : ((S x.ins).toList == []) = false := by
          rw [beq_eq_false_iff_ne]; intro h; rw [h] at g3; cases g3
        have HMI : Hid (insP x.ins = [x.ins]) := by unfold Hid insP; rw [if_neg hi0]
        clear hie hi0
        have hbM : Below w2.heap.size w2 ((((w2.alloc (.cells #[.slice A1 l1.length c1] 32)).alloc (.cells #[.slice A2 lc.length c2] 32)).alloc (.cells #[.slice (some ⟨w2.heap.size + 3, 0, none⟩) 1 1] 32)).alloc (.cells #[.string (S x.ins)] 9)) := (by repeat (first | exact Below.refl _ _ | assumption | refine Below.alloc ?_ (by first | exact Nat.le_refl _ | assumption | omega | (simp <;> omega)) _ | refine Below.setCell ?_ (by first | exact Nat.le_refl _ | assumption | omega | (simp <;> omega)) _ | refine Below.drew ?_ | refine below_drewN ?_ _))
        have hB10 : Blk ((((w2.alloc (.cells #[.slice A1 l1.length c1] 32)).alloc (.cells #[.slice A2 lc.length c2] 32)).alloc (.cells #[.slice (some ⟨w2.heap.size + 3, 0, none⟩) 1 1] 32)).alloc (.cells #[.string (S x.ins)] 9)) (w2.heap.size + 1) 32 #[.slice A2 lc.length c2] := by
          have h1 := Blk.new_ (w2.alloc (.cells #[.slice A1 l1.length c1] 32)) 32 #[.slice A2 lc.length c2]
          rw [World.size_alloc] at h1
          exact Blk.alloc (Blk.alloc h1 _) _
        have hB11 : Blk ((((w2.alloc (.cells #[.slice A1 l1.length c1] 32)).alloc (.cells #[.slice A2 lc.length c2] 32)).alloc (.cells #[.slice (some ⟨w2.heap.size + 3, 0, none⟩) 1 1] 32)).alloc (.cells #[.string (S x.ins)] 9)) (w2.heap.size + 1 + 1) 32 #[.slice (some ⟨w2.heap.size + 3, 0, none⟩) 1 1] := by
          have h1 := Blk.new_ ((w2.alloc (.cells #[.slice A1 l1.length c1] 32)).alloc (.cells #[.slice A2 lc.length c2] 32)) 32 #[.slice (some ⟨w2.heap.size + 3, 0, none⟩) 1 1]
          rw [World.size_alloc, World.size_alloc] at h1
          exact Blk.alloc h1 _
        have HMX : Hid (Rd ((((w2.alloc (.cells #[.slice A1 l1.length c1] 32)).alloc (.cells #[.slice A2 lc.length c2] 32)).alloc (.cells #[.slice (some ⟨w2.heap.size + 3, 0, none⟩) 1 1] 32)).alloc (.cells #[.string (S x.ins)] 9)) (w2.heap.size + 4) 1 (some ⟨w2.heap.size + 3, 0, none⟩) 1 (strCells (insP x.ins))) := by
          unfold Hid
          rw [HMI.out]
          have h1 := Rd.new_ (size := 1) (n := 1) (B := w2.heap.size + 4) (((w2.alloc (.cells #[.slice A1 l1.length c1] 32)).alloc (.cells #[.slice A2 lc.length c2] 32)).alloc (.cells #[.slice (some ⟨w2.heap.size + 3, 0, none⟩) 1 1] 32)) #[.string (S x.ins)] 9 (by simp) rfl
          rw [World.size_alloc, World.size_alloc, World.size_alloc] at h1
          exact h1
        have hszM : ((((w2.alloc (.cells #[.slice A1 l1.length c1] 32)).alloc (.cells #[.slice A2 lc.length c2] 32)).alloc (.cells #[.slice (some ⟨w2.heap.size + 3, 0, none⟩) 1 1] 32)).alloc (.cells #[.string (S x.ins)] 9)).heap.size = w2.heap.size + 4 := by simp
        have hb4M := bthen hb3 hbM
        have hb5M := bthen hb2 hb4M
        have HB6M := Lib.hid (HB6.out.below' hb4M)
        have HOAM := Lib.hid (own_below HOA.out hb4M)
        have HOC := Lib.hid (own_below HRC2.out hbM)
        have hsM : w2.heap.size ≤ (((((w2.alloc (.cells #[.slice A1 l1.length c1] 32)).alloc (.cells #[.slice A2 lc.length c2] 32)).alloc (.cells #[.slice (some ⟨w2.heap.size + 3, 0, none⟩) 1 1] 32)).alloc (.cells #[.string (S x.ins)] 9))).heap.size := hbM.size
        have hs0M : w0.heap.size ≤ (((((w2.alloc (.cells #[.slice A1 l1.length c1] 32)).alloc (.cells #[.slice A2 lc.length c2] 32)).alloc (.cells #[.slice (some ⟨w2.heap.size + 3, 0, none⟩) 1 1] 32)).alloc (.cells #[.string (S x.ins)] 9))).heap.size := hb5M.size
        have HB10M : Hid (Blk (((((w2.alloc (.cells #[.slice A1 l1.length c1] 32)).alloc (.cells #[.slice A2 lc.length c2] 32)).alloc (.cells #[.slice (some ⟨w2.heap.size + 3, 0, none⟩) 1 1] 32)).alloc (.cells #[.string (S x.ins)] 9))) (w2.heap.size + 1) 32 #[.slice A2 lc.length c2]) := hB10
        have HB11M : Hid (Blk (((((w2.alloc (.cells #[.slice A1 l1.length c1] 32)).alloc (.cells #[.slice A2 lc.length c2] 32)).alloc (.cells #[.slice (some ⟨w2.heap.size + 3, 0, none⟩) 1 1] 32)).alloc (.cells #[.string (S x.ins)] 9))) (w2.heap.size + 1 + 1) 32 #[.slice (some ⟨w2.heap.size + 3, 0, none⟩) 1 1]) := hB11
        have hlt11 := HB11M.out.lt
        have HCK := Lib.hid (ropeCheck_any (insP x.ins) (some ⟨w2.heap.size + 3, 0, none⟩) 1 1 (w2.heap.size + 4) (((((w2.alloc (.cells #[.slice A1 l1.length c1] 32)).alloc (.cells #[.slice A2 lc.length c2] 32)).alloc (.cells #[.slice (some ⟨w2.heap.size + 3, 0, none⟩) 1 1] 32)).alloc (.cells #[.string (S x.ins)] 9))) HMX.out (by omega) (by omega) HINS.out)
        have HMX.outH := Lib.hid (HMX.out)
        clear hB10 hB11 hbM hb3 hb2 HB6 HOA HRC2 hb4M
        go_wp2_with fail
        clear q32
        generalize (((((w2.alloc (.cells #[.slice A1 l1.length c1] 32)).alloc (.cells #[.slice A2 lc.length c2] 32)).alloc (.cells #[.slice (some ⟨w2.heap.size + 3, 0, none⟩) 1 1] 32)).alloc (.cells #[.string (S x.ins)] 9))) = wm at *
        refine (HCK.out).mono ?_
        rintro e w5 ⟨rfl, hb5⟩
        have hb5' := bthen hb5M hb5
        by_cases h3 : ropeErr (insP x.ins) = 0
        · rw [h3]
          have HE3 := Lib.hid h3
          clear h3
          have q6 := Blk.cell0 (HB6M.out.below' hb5)
          have q11 := Blk.cell0 (HB11M.out.below' hb5)
          have f6 := Blk.frozen (HB6M.out.below' hb5) 0
          have HOA5 := Lib.hid (own_below HOAM.out hb5)
          have hra5 := Rd.of_own HOA5.out
          have hs5 := hb5.size
          have HJ1 := Lib.hid (ropeJoin_any la (insP x.ins) Aa la.length ca (some ⟨w2.heap.size + 3, 0, none⟩) 1 1 w5.heap.size w5 hra5 ((HMX.outH.out.below (hb5.mono (by omega))).more (by omega)) (Nat.le_refl _) (by omega) (by omega) hnaS HINS.out)
          clear hra5
          go_wp2_with fail
          refine (HJ1.out).mono ?_
          rintro e w6 ⟨v6, rfl, ho6, hb6⟩
          obtain ⟨A6, c6, rfl, hn6, _, hr6⟩ := own_form ho6
          have hb6' := bthen hb5' hb6
          have hB6' := (HB6M.out.below' hb5).below' hb6
          have f6 := Blk.frozen hB6' 0
          have q6 := Blk.cell0 hB6'
          have hs6 := hb6.size
          have hg6w : w0.heap.size ≤ g6 := hz01
          have hbW : Below w0.heap.size w0 (w6.setCell ⟨g6, 0, none⟩ (.slice A6 (joinP la (insP x.ins)).length c6)) := Below.setCell hb6' (p := ⟨g6, 0, none⟩) hg6w _
          by_cases h4 : joinE la (insP x.ins) = 0
          · have hst5 := @ed_step5 p x HE1.out HE2.out HE3.out
            rw [HLA0.out, HLC0.out] at hst5
            obtain ⟨hjp, hokm, hE, hP⟩ := hst5 h4
            rw [h4]
            clear h4
            rw [hjp] at ho6 hr6 hn6 hbW ⊢
            have HEF := Lib.hid hE
            have HPF := Lib.hid hP
            have hmS := parts_small hokm
            have hml := hokm.n
            clear hjp hE hP hst5
            generalize la ++ insP x.ins = lm at *
            have HB6s : Hid (Blk (w6.setCell ⟨g6, 0, none⟩ (.slice A6 lm.length c6)) g6 32 #[.slice A6 lm.length c6]) := hB6'.set_ 0 _
            have q6s := Blk.cell0 HB6s.out
            have hd10 : w2.heap.size + 1 ≠ g6 := by omega
            have q10s := Blk.cell0 (((HB10M.out.below' hb5).below' hb6).far (p := ⟨g6, 0, none⟩) hd10 (.slice A6 lm.length c6))
            have hszs : (w6.setCell ⟨g6, 0, none⟩ (.slice A6 lm.length c6)).heap.size = w6.heap.size := by simp [World.setCell]
            have hrm : Rd (w6.setCell ⟨g6, 0, none⟩ (.slice A6 lm.length c6)) w6.heap.size 1 A6 lm.length (strCells lm) := by
              have h9 := Rd.of_own (own_far ho6 (own_ne_rope ho6 hB6') 0 (.slice A6 lm.length c6))
              rw [hszs] at h9
              exact h9
            have hOCs := own_far (own_below (own_below HOC.out hb5) hb6) (own_ne_rope (own_below (own_below HOC.out hb5) hb6) hB6') 0 (.slice A6 lm.length c6)
            have hrcc : Rd (w6.setCell ⟨g6, 0, none⟩ (.slice A6 lm.length c6)) w6.heap.size 1 A2 lc.length (strCells lc) := by
              have h9 := Rd.of_own hOCs
              rw [hszs] at h9
              exact h9
            clear hOCs
            have HJ2 := Lib.hid (ropeJoin_any lm lc A6 lm.length c6 A2 lc.length c2 w6.heap.size (w6.setCell ⟨g6, 0, none⟩ (.slice A6 lm.length c6)) hrm hrcc (by rw [hszs]; exact Nat.le_refl _) (by omega) (by omega) hmS hncS)
            clear ho6 hr6 hrm hrcc
            go_wp2_with fail
            generalize (w6.setCell ⟨g6, 0, none⟩ (.slice A6 lm.length c6)) = w7 at *
            refine (HJ2.out).mono ?_
            rintro e w8 ⟨v8, rfl, ho8, hb8⟩
            obtain ⟨A8, c8, rfl, hn8, _, hr8⟩ := own_form ho8
            have hb8' := bthen hbW hb8
            have h4 := HB4.out.below' hb8'
            have q4 := Blk.cell0 h4
            have f4 := Blk.frozen h4 0
            have hbb : Below w.heap.size w w8 := hb0.trans (Below.mono hb8' (by have := HSZ0.out; omega))
            have R4 : (w8.setCell ⟨w.heap.size + 1 + 1, 0, none⟩ (.slice A8 (joinP lm lc).length c8)).cell? ⟨w.heap.size + 1 + 1, 0, none⟩ = some (.slice A8 (joinP lm lc).length c8) := Blk.cell0 (h4.set_ 0 _)
            have hbF : Below w.heap.size w (w8.setCell ⟨w.heap.size + 1 + 1, 0, none⟩ (.slice A8 (joinP lm lc).length c8)) := (by repeat (first | exact Below.refl _ _ | assumption | refine Below.alloc ?_ (by first | exact Nat.le_refl _ | assumption | omega | (simp <;> omega)) _ | refine Below.setCell ?_ (by first | exact Nat.le_refl _ | assumption | omega | (simp <;> omega)) _ | refine Below.drew ?_ | refine below_drewN ?_ _))
            have ho8' := own_far (own_lower ho8 (show w.heap.size ≤ w7.heap.size by have := hbW.size; have := HSZ0.out; omega)) (own_ne_rope (own_lower ho8 (show w.heap.size ≤ w7.heap.size by have := hbW.size; have := HSZ0.out; omega)) h4) 0 (.slice A8 (joinP lm lc).length c8)
            have HO8 := Lib.hid ho8'
            clear ho8 hr8 ho8' h4
            go_wp2_with fail
            (apply bodyPost_ret; (simp [results, Tryd.results11, go_sem, R4]; rfl); rfl)
            rw [HEF.out, HPF.out]
            exact ⟨_, rfl, HO8.out, hbF⟩
          · have hst4 := @ed_step4 p x HE1.out HE2.out HE3.out
            rw [HLA0.out] at hst4
            obtain ⟨hE, hP⟩ := hst4 h4
            have HEF := Lib.hid hE
            have HPF := Lib.hid hP
            have g7 : (joinE la (insP x.ins) != 0) = true := by rw [bne_iff_ne]; exact h4
            clear hE hP hst4 h4 ho6 hr6
            generalize joinE la (insP x.ins) = e4 at *
            generalize (joinP la (insP x.ins)).length = m6 at *
            have h4 := HB4.out.below hbW (by have := HSZ0.out; omega)
            have q4 := Blk.cell0 h4
            have f4 := Blk.frozen h4 0
            have hbb : Below w.heap.size w (w6.setCell ⟨g6, 0, none⟩ (.slice A6 m6 c6)) := hb0.trans (Below.mono hbW (by have := HSZ0.out; omega))
            have R4 : ((w6.setCell ⟨g6, 0, none⟩ (.slice A6 m6 c6)).setCell ⟨w.heap.size + 1 + 1, 0, none⟩ (.slice none 0 0)).cell? ⟨w.heap.size + 1 + 1, 0, none⟩ = some (.slice none 0 0) := Blk.cell0 (h4.set_ 0 _)
            have hbF : Below w.heap.size w ((w6.setCell ⟨g6, 0, none⟩ (.slice A6 m6 c6)).setCell ⟨w.heap.size + 1 + 1, 0, none⟩ (.slice none 0 0)) := (by repeat (first | exact Below.refl _ _ | assumption | refine Below.alloc ?_ (by first | exact Nat.le_refl _ | assumption | omega | (simp <;> omega)) _ | refine Below.setCell ?_ (by first | exact Nat.le_refl _ | assumption | omega | (simp <;> omega)) _ | refine Below.drew ?_ | refine below_drewN ?_ _))
            have hg64 : w.heap.size + 1 + 1 ≠ g6 := by have := HSZ0.out; omega
            go_wp2_with fail
            (apply bodyPost_ret; (simp [results, Tryd.results11, go_sem, R4]; rfl); rfl)
            rw [HEF.out, HPF.out]
            exact ⟨_, rfl, World.ownsRow_nil _ _ _ _, hbF⟩
        · obtain ⟨hE, hP⟩ := ed_step3 HE1.out HE2.out h3
          have HEF := Lib.hid hE
          have HPF := Lib.hid hP
          have g7 : (ropeErr (insP x.ins) != 0) = true := by rw [bne_iff_ne]; exact h3
          clear hE hP h3
          generalize ropeErr (insP x.ins) = e3 at *
          have h4 := HB4.out.below hb5' (by have := HSZ0.out; omega)
          have q4 := Blk.cell0 h4
          have f4 := Blk.frozen h4 0
          have hbb : Below w.heap.size w w5 := hb0.trans (Below.mono hb5' (by have := HSZ0.out; omega))
          have R4 : (w5.setCell ⟨w.heap.size + 1 + 1, 0, none⟩ (.slice none 0 0)).cell? ⟨w.heap.size + 1 + 1, 0, none⟩ = some (.slice none 0 0) := Blk.cell0 (h4.set_ 0 _)
          have hbF : Below w.heap.size w (w5.setCell ⟨w.heap.size + 1 + 1, 0, none⟩ (.slice none 0 0)) := (by repeat (first | exact Below.refl _ _ | assumption | refine Below.alloc ?_ (by first | exact Nat.le_refl _ | assumption | omega | (simp <;> omega)) _ | refine Below.setCell ?_ (by first | exact Nat.le_refl _ | assumption | omega | (simp <;> omega)) _ | refine Below.drew ?_ | refine below_drewN ?_ _))
          go_wp2_with fail
          (apply bodyPost_ret; (simp [results, Tryd.results11, go_sem, R4]; rfl); rfl)
          rw [HEF.out, HPF.out]
          exact ⟨_, rfl, World.ownsRow_nil _ _ _ _, hbF⟩
    · obtain ⟨hE, hP⟩ := ed_step2 HE1.out (by rw [HLB0.out]; exact he2)
      rw [HLB0.out] at hE
      have HEF := Lib.hid hE
      have HPF := Lib.hid hP
      have g7 : (cutE lb x.del != 0) = true := by rw [bne_iff_ne]; exact he2
      have hcA : Hid (cutPA lb x.del = []) := by unfold Hid cutPA; rw [if_neg he2]
      have hcB : Hid (cutPB lb x.del = []) := by unfold Hid cutPB; rw [if_neg he2]
      rw [hcA.out, hcB.out] at HC2
      clear hE hP he2 hcA hcB
      generalize cutE lb x.del = e2 at *
      refine (HC2.out).mono ?_
      rintro e w2 ⟨v1, v2, rfl, ho1, ho2, hap2, hb3⟩
      obtain ⟨A1, c1, rfl, hn1, _, hr1⟩ := own_form ho1
      obtain ⟨A2, c2, rfl, hn2, _, hr2⟩ := own_form ho2
      rw [show ([] : Parts).length = 0 from rfl]
      have hbA2 : Below w2.heap.size w2 ((w2.alloc (.cells #[.slice A1 0 c1] 32)).alloc (.cells #[.slice A2 0 c2] 32)) := (by repeat (first | exact Below.refl _ _ | assumption | refine Below.alloc ?_ (by first | exact Nat.le_refl _ | assumption | omega | (simp <;> omega)) _ | refine Below.setCell ?_ (by first | exact Nat.le_refl _ | assumption | omega | (simp <;> omega)) _ | refine Below.drew ?_ | refine below_drewN ?_ _))
      have hb5 := bthen hb2 (bthen hb3 hbA2)
      clear q31
      have h4 := HB4.out.below hb5 (by have := HSZ0.out; omega)
      have q4 := Blk.cell0 h4
      have f4 := Blk.frozen h4 0
      have hbb : Below w.heap.size w ((w2.alloc (.cells #[.slice A1 0 c1] 32)).alloc (.cells #[.slice A2 0 c2] 32)) := hb0.trans (Below.mono hb5 (by have := HSZ0.out; omega))
      have R4 : (((w2.alloc (.cells #[.slice A1 0 c1] 32)).alloc (.cells #[.slice A2 0 c2] 32)).setCell ⟨w.heap.size + 1 + 1, 0, none⟩ (.slice none 0 0)).cell? ⟨w.heap.size + 1 + 1, 0, none⟩ = some (.slice none 0 0) := Blk.cell0 (h4.set_ 0 _)
      have hbF : Below w.heap.size w (((w2.alloc (.cells #[.slice A1 0 c1] 32)).alloc (.cells #[.slice A2 0 c2] 32)).setCell ⟨w.heap.size + 1 + 1, 0, none⟩ (.slice none 0 0)) := (by repeat (first | exact Below.refl _ _ | assumption | refine Below.alloc ?_ (by first | exact Nat.le_refl _ | assumption | omega | (simp <;> omega)) _ | refine Below.setCell ?_ (by first | exact Nat.le_refl _ | assumption | omega | (simp <;> omega)) _ | refine Below.drew ?_ | refine below_drewN ?_ _))
      go_wp2_with fail
      (apply bodyPost_ret; (simp [results, Tryd.results11, go_sem, R4]; rfl); rfl)
      rw [HEF.out, HPF.out]
      exact ⟨_, rfl, World.ownsRow_nil _ _ _ _, hbF⟩
  · obtain ⟨hE, hP⟩ := ed_step1 he1
    rw [hE, hP]
    have g1 : (cutE p x.at_ != 0) = true := by rw [bne_iff_ne]; exact he1
    have hcA : Hid (cutPA p x.at_ = []) := by unfold Hid cutPA; rw [if_neg he1]
    have hcB : Hid (cutPB p x.at_ = []) := by unfold Hid cutPB; rw [if_neg he1]
    rw [hcA.out, hcB.out] at HC1
    clear hE hP he1 hcA hcB
    generalize cutE p x.at_ = e0 at *
    go_enter Tryd.func11, Tryd.ntmps11
    go_wp2_with fail
    rw [← hw0]
    clear hw0
    refine (HC1.out).mono ?_
    rintro e w1 ⟨va, vb, rfl, hoa, hob, hap, hb1⟩
    obtain ⟨Aa, ca, rfl, hna, _, hra⟩ := own_form hoa
    obtain ⟨Ab, cb, rfl, hnb, _, hrb⟩ := own_form hob
    rw [show ([] : Parts).length = 0 from rfl]
    have hbA : Below w1.heap.size w1 ((w1.alloc (.cells #[.slice Aa 0 ca] 32)).alloc (.cells #[.slice Ab 0 cb] 32)) := (by repeat (first | exact Below.refl _ _ | assumption | refine Below.alloc ?_ (by first | exact Nat.le_refl _ | assumption | omega | (simp <;> omega)) _ | refine Below.setCell ?_ (by first | exact Nat.le_refl _ | assumption | omega | (simp <;> omega)) _ | refine Below.drew ?_ | refine below_drewN ?_ _))
    have hb2 := bthen hb1 hbA
    have h4 := HB4.out.below hb2 (by have := HSZ0.out; omega)
    have q4 := Blk.cell0 h4
    have f4 := Blk.frozen h4 0
    have hbb : Below w.heap.size w ((w1.alloc (.cells #[.slice Aa 0 ca] 32)).alloc (.cells #[.slice Ab 0 cb] 32)) := hb0.trans (Below.mono hb2 (by have := HSZ0.out; omega))
    have R4 : (((w1.alloc (.cells #[.slice Aa 0 ca] 32)).alloc (.cells #[.slice Ab 0 cb] 32)).setCell ⟨w.heap.size + 1 + 1, 0, none⟩ (.slice none 0 0)).cell? ⟨w.heap.size + 1 + 1, 0, none⟩ = some (.slice none 0 0) := Blk.cell0 (h4.set_ 0 _)
    have hbF : Below w.heap.size w (((w1.alloc (.cells #[.slice Aa 0 ca] 32)).alloc (.cells #[.slice Ab 0 cb] 32)).setCell ⟨w.heap.size + 1 + 1, 0, none⟩ (.slice none 0 0)) := (by repeat (first | exact Below.refl _ _ | assumption | refine Below.alloc ?_ (by first | exact Nat.le_refl _ | assumption | omega | (simp <;> omega)) _ | refine Below.setCell ?_ (by first | exact Nat.le_refl _ | assumption | omega | (simp <;> omega)) _ | refine Below.drew ?_ | refine below_drewN ?_ _))
    go_wp2_with fail
    (apply bodyPost_ret; (simp [results, Tryd.results11, go_sem, R4]; rfl); rfl)
    exact ⟨_, rfl, World.ownsRow_nil _ _ _ _, hbF⟩
end Go.Proofs.YtmikckhihfcooaaDoor
namespace Go.Proofs.YtmikckhihfcooaaDoor
open Go.RowKit
section
variable {p : Parts} {x : Ed}
theorem edo_1 (h : ropeErr p ≠ 0) : ropeEdE p x = ropeErr p ∧ ropeEdP p x = [] := by
  have h1 : ropeEdE p x = ropeErr p := by unfold ropeEdE; rw [if_pos h]
  exact ⟨h1, by unfold ropeEdP; rw [h1, if_neg h]⟩
theorem edo_2 (h : ropeErr p = 0) (h2 : badAt p x) : ropeEdE p x = 1 ∧ ropeEdP p x = [] := by
  have h1 : ropeEdE p x = 1 := by unfold ropeEdE; rw [if_neg (by rw [h]; decide), if_pos h2]
  exact ⟨h1, by unfold ropeEdP; rw [h1, if_neg (by decide)]⟩
theorem edo_3 (h : ropeErr p = 0) (h2 : ¬ badAt p x) (h3 : 200 < x.ins.length) : ropeEdE p x = 2 ∧ ropeEdP p x = [] := by
  have h1 : ropeEdE p x = 2 := by unfold ropeEdE; rw [if_neg (by rw [h]; decide), if_neg h2, if_pos h3]
  exact ⟨h1, by unfold ropeEdP; rw [h1, if_neg (by decide)]⟩
theorem edo_4 (h : ropeErr p = 0) (h2 : ¬ badAt p x) (h3 : ¬ 200 < x.ins.length) (h4 : joinErr (edA p x) (insP x.ins) ≠ 0) : ropeEdE p x = joinErr (edA p x) (insP x.ins) ∧ ropeEdP p x = [] := by
  have h1 : ropeEdE p x = 11 := by unfold ropeEdE; rw [if_neg (by rw [h]; decide), if_neg h2, if_neg h3, if_pos h4]
  have h5 : joinErr (edA p x) (insP x.ins) = 11 := by
    unfold joinErr at h4 ⊢
    split
    · rfl
    · rename_i h6; rw [if_neg h6] at h4; exact absurd rfl h4
  exact ⟨by rw [h1, h5], by unfold ropeEdP; rw [h1, if_neg (by decide)]⟩
theorem edo_5 (h : ropeErr p = 0) (h2 : ¬ badAt p x) (h3 : ¬ 200 < x.ins.length) (h4 : joinErr (edA p x) (insP x.ins) = 0) :
    ropeEdE p x = joinErr (edA p x ++ insP x.ins) (edC p x) ∧ ropeEdP p x = if joinErr (edA p x ++ insP x.ins) (edC p x) = 0 then edA p x ++ insP x.ins ++ edC p x else [] := by
  have h1 : ropeEdE p x = joinErr (edA p x ++ insP x.ins) (edC p x) := by
    unfold ropeEdE
    rw [if_neg (by rw [h]; decide), if_neg h2, if_neg h3, if_neg (by rw [h4]; decide)]
    unfold joinErr
    split
    · rfl
    · rfl
  exact ⟨h1, by unfold ropeEdP; rw [h1]⟩
end
end Go.Proofs.YtmikckhihfcooaaDoor
