/- rope.Edit. -/
import Derived.Test.YtolnhplgaolieaaRopeF0
namespace Go.Proofs.Ytolnhplgaolieaa
open Go.RowKit
theorem parts_small {p : Parts} (h : RopeOk p) : ∀ x ∈ p, x.length ≤ 9223372036854775807 := fun x hx => by
  have h1 : x.length ≤ p.flatten.length := List.Sublist.length_le (List.sublist_flatten_of_mem hx)
  have h2 := h.t
  unfold tot at h2; omega
set_option maxRecDepth 100000 in
set_option maxHeartbeats 4000000 in
theorem ropeEdit_any (p : Parts) (A : Option Addr) (n c B : Nat) (x : Ed) (w : World) (hr : Rd w B 1 A n (strCells p)) (hB : B ≤ w.heap.size) (hn : n ≤ 9223372036854775807) (hnc : n ≤ c) (hsz : ∀ y ∈ p, y.length ≤ 9223372036854775807)
    (ha : -9223372036854775808 ≤ x.at_ ∧ x.at_ ≤ 9223372036854775807) (hd : -9223372036854775808 ≤ x.del ∧ x.del ≤ 9223372036854775807) (hi : x.ins.length ≤ 9223372036854775807) :
    Calls Try.prog 58 #[.agg #[.slice A n c], .agg #[.int .i64 x.at_, .int .i64 x.del, .string (S x.ins)]] w fun e w' => ∃ v, e = .returned (.tuple #[.agg #[v], .int .i64 (ropeEdE p x)]) ∧
      w'.ownsRow w.heap.size 9 1 v (ropeEdP p x).length (strCells (ropeEdP p x)) ∧ Below w.heap.size w w' := by
  have hpn := strCells_len' hr
  obtain ⟨w0, hw0⟩ : ∃ w0, w0 = (((w.alloc (.cells #[.slice A n c] 89)).alloc (.cells #[.int .i64 x.at_, .int .i64 x.del, .string (S x.ins)] 73)).alloc (.cells #[.slice none 0 0] 89)) := ⟨_, rfl⟩
  have hb0 : Below w.heap.size w w0 := by rw [hw0]; exact (by repeat (first | exact Below.refl _ _ | assumption | refine Below.alloc ?_ (by first | exact Nat.le_refl _ | assumption | omega | (simp <;> omega)) _ | refine Below.setCell ?_ (by first | exact Nat.le_refl _ | assumption | omega | (simp <;> omega)) _ | refine Below.drew ?_ | refine below_drewN ?_ _))
  have HR : Hid (Rd w0 B 1 A n (strCells p)) := hr.below (hb0.mono hB)
  have HB3 : Hid (Blk w0 (w.heap.size + 1) 73 #[.int .i64 x.at_, .int .i64 x.del, .string (S x.ins)]) := by
    have h1 := Blk.new_ (w.alloc (.cells #[.slice A n c] 89)) 73 #[.int .i64 x.at_, .int .i64 x.del, .string (S x.ins)]
    rw [World.size_alloc] at h1
    unfold Hid; rw [hw0]; exact Blk.alloc h1 _
  have HB4 : Hid (Blk w0 (w.heap.size + 1 + 1) 89 #[.slice none 0 0]) := by
    have h1 := Blk.new_ ((w.alloc (.cells #[.slice A n c] 89)).alloc (.cells #[.int .i64 x.at_, .int .i64 x.del, .string (S x.ins)] 73)) 89 #[.slice none 0 0]
    rw [World.size_alloc, World.size_alloc] at h1
    unfold Hid; rw [hw0]; exact h1
  have hsz0 : w0.heap.size = w.heap.size + 1 + 1 + 1 := by rw [hw0]; simp
  have HSZ0 : Hid (w.heap.size + 1 + 1 + 1 ≤ w0.heap.size) := by unfold Hid; omega
  have HC1 := Lib.hid (ropeCut_any p A n c B x.at_ w0 HR.out (by omega) hn hnc hsz ha.1 ha.2)
  clear hr hpn hsz0 hsz
  by_cases he1 : cutE p x.at_ = 0
  · obtain ⟨hpa, hpb, hoka, hokb⟩ := ed_parts he1
    rw [he1, hpa, hpb] at HC1
    have HE1 := Lib.hid he1
    have hnaS := parts_small hoka
    have hnbS := parts_small hokb
    have hla := hoka.n
    have hlb := hokb.n
    clear hpa hpb
    generalize hla0 : edA p x = la at *
    have HLA0 := Lib.hid hla0
    clear hla0
    generalize hlb0 : cutB x.at_.toNat p = lb at *
    have HLB0 := Lib.hid hlb0
    clear hlb0 he1
    go_enter Try.func58, Try.ntmps58
    go_wp2_with fail
    rw [← hw0]
    clear hw0
    refine (HC1.out).mono ?_
    rintro e w1 ⟨va, vb, rfl, hoa, hob, hap, hb1⟩
    obtain ⟨Aa, ca, rfl, hna, _, hra⟩ := own_form hoa
    obtain ⟨Ab, cb, rfl, hnb, _, hrb⟩ := own_form hob
    have hbA : Below w1.heap.size w1 ((w1.alloc (.cells #[.slice Aa la.length ca] 89)).alloc (.cells #[.slice Ab lb.length cb] 89)) := (by repeat (first | exact Below.refl _ _ | assumption | refine Below.alloc ?_ (by first | exact Nat.le_refl _ | assumption | omega | (simp <;> omega)) _ | refine Below.setCell ?_ (by first | exact Nat.le_refl _ | assumption | omega | (simp <;> omega)) _ | refine Below.drew ?_ | refine below_drewN ?_ _))
    have hb2 := bthen hb1 hbA
    have HB3a := Lib.hid (HB3.out.below' hb2)
    have HB6 : Hid (Blk ((w1.alloc (.cells #[.slice Aa la.length ca] 89)).alloc (.cells #[.slice Ab lb.length cb] 89)) w1.heap.size 89 #[.slice Aa la.length ca]) := Blk.alloc (Blk.new_ _ _ _) _
    have HOA := Lib.hid (own_below hoa hbA)
    have HRB := Lib.hid (hrb.below hbA)
    have HC2 := Lib.hid (ropeCut_any lb Ab lb.length cb w1.heap.size x.del ((w1.alloc (.cells #[.slice Aa la.length ca] 89)).alloc (.cells #[.slice Ab lb.length cb] 89)) HRB.out (by simp; omega) (by omega) hnb hnbS hd.1 hd.2)
    have hz1 : w1.heap.size + 2 ≤ ((w1.alloc (.cells #[.slice Aa la.length ca] 89)).alloc (.cells #[.slice Ab lb.length cb] 89)).heap.size := by simp
    have hz01 := hb1.size
    have q31 := Blk.cell1 HB3a.out
    clear hoa hob hap hra hrb hbA hb1 HB3 HR HC1
    go_wp2_with fail
    generalize ((w1.alloc (.cells #[.slice Aa la.length ca] 89)).alloc (.cells #[.slice Ab lb.length cb] 89)) = wa at *
    generalize w1.heap.size = g6 at *
    by_cases he2 : cutE lb x.del = 0
    · have he2' : cutE (cutB x.at_.toNat p) x.del = 0 := by rw [HLB0.out]; exact he2
      obtain ⟨hpc, hokc⟩ := ed_parts2 he2'
      rw [HLB0.out] at hpc
      rw [he2, hpc] at HC2
      have HE2 := Lib.hid he2'
      have hncS := parts_small hokc
      have hlc := hokc.n
      clear hpc he2 he2'
      generalize hlc0 : edC p x = lc at *
      have HLC0 := Lib.hid hlc0
      clear hlc0
      generalize cutPA lb x.del = l1 at *
      refine (HC2.out).mono ?_
      rintro e w2 ⟨v1, v2, rfl, ho1, ho2, hap2, hb3⟩
      obtain ⟨A1, c1, rfl, hn1, _, hr1⟩ := own_form ho1
      obtain ⟨A2, c2, rfl, hn2, _, hr2⟩ := own_form ho2
      have hbA2 : Below w2.heap.size w2 (((w2.alloc (.cells #[.slice A1 l1.length c1] 89)).alloc (.cells #[.slice A2 lc.length c2] 89)).alloc (.cells #[.slice none 0 0] 89)) := (by repeat (first | exact Below.refl _ _ | assumption | refine Below.alloc ?_ (by first | exact Nat.le_refl _ | assumption | omega | (simp <;> omega)) _ | refine Below.setCell ?_ (by first | exact Nat.le_refl _ | assumption | omega | (simp <;> omega)) _ | refine Below.drew ?_ | refine below_drewN ?_ _))
      have hb4 := bthen hb3 hbA2
      have hb5 := bthen hb2 hb4
      have hz2 := hb3.size
      have hzz : (((w2.alloc (.cells #[.slice A1 l1.length c1] 89)).alloc (.cells #[.slice A2 lc.length c2] 89)).alloc (.cells #[.slice none 0 0] 89)).heap.size = w2.heap.size + 3 := by simp
      have HB3c := Lib.hid (HB3a.out.below' hb4)
      have HB6c := Lib.hid (HB6.out.below' hb4)
      have HOAc := Lib.hid (own_below HOA.out hb4)
      have HRC := Lib.hid (hr2.below hbA2)
      have HB10 : Hid (Blk (((w2.alloc (.cells #[.slice A1 l1.length c1] 89)).alloc (.cells #[.slice A2 lc.length c2] 89)).alloc (.cells #[.slice none 0 0] 89)) (w2.heap.size + 1) 89 #[.slice A2 lc.length c2]) := by
        have h1 := Blk.new_ (w2.alloc (.cells #[.slice A1 l1.length c1] 89)) 89 #[.slice A2 lc.length c2]
        rw [World.size_alloc] at h1
        exact Blk.alloc h1 _
      have HB11 : Hid (Blk (((w2.alloc (.cells #[.slice A1 l1.length c1] 89)).alloc (.cells #[.slice A2 lc.length c2] 89)).alloc (.cells #[.slice none 0 0] 89)) (w2.heap.size + 1 + 1) 89 #[.slice none 0 0]) := by
        have h1 := Blk.new_ ((w2.alloc (.cells #[.slice A1 l1.length c1] 89)).alloc (.cells #[.slice A2 lc.length c2] 89)) 89 #[.slice none 0 0]
        rw [World.size_alloc, World.size_alloc] at h1
        exact h1
      have hzd : g6 < w2.heap.size := by have := HB6.out.lt; omega
      have q32 := Blk.cell2 HB3c.out
      have hie := isEmpty_size x.ins
      have HRC2 := Lib.hid ho2
      clear ho1 ho2 hap2 hr1 hr2 hbA2 HB3a HB6c HOAc HRC HB10 HB11 hb4 hb5 q31 hzz
      have hins : ∀ y ∈ insP x.ins, y.length ≤ 9223372036854775807 := fun y hy => by
        unfold insP at hy
        split at hy
        · cases hy
        · rw [List.mem_singleton] at hy; rw [hy]; exact hi
      have HINS := Lib.hid hins
      clear hins
      have hilen : (insP x.ins).length ≤ 1 := by unfold insP; split <;> simp
      by_cases hi0 : x.ins.length = 0
      · have g3 : (S x.ins).toList.isEmpty = true := by rw [hie, decide_eq_true hi0]
        have HMI : Hid (insP x.ins = []) := by unfold Hid insP; rw [if_pos hi0]
        clear hie hi0
        have hbM : Below w2.heap.size w2 (((w2.alloc (.cells #[.slice A1 l1.length c1] 89)).alloc (.cells #[.slice A2 lc.length c2] 89)).alloc (.cells #[.slice none 0 0] 89)) := (by repeat (first | exact Below.refl _ _ | assumption | refine Below.alloc ?_ (by first | exact Nat.le_refl _ | assumption | omega | (simp <;> omega)) _ | refine Below.setCell ?_ (by first | exact Nat.le_refl _ | assumption | omega | (simp <;> omega)) _ | refine Below.drew ?_ | refine below_drewN ?_ _))
        have hB10 : Blk (((w2.alloc (.cells #[.slice A1 l1.length c1] 89)).alloc (.cells #[.slice A2 lc.length c2] 89)).alloc (.cells #[.slice none 0 0] 89)) (w2.heap.size + 1) 89 #[.slice A2 lc.length c2] := by
          have h1 := Blk.new_ (w2.alloc (.cells #[.slice A1 l1.length c1] 89)) 89 #[.slice A2 lc.length c2]
          rw [World.size_alloc] at h1
          exact Blk.alloc h1 _
        have hB11 : Blk (((w2.alloc (.cells #[.slice A1 l1.length c1] 89)).alloc (.cells #[.slice A2 lc.length c2] 89)).alloc (.cells #[.slice none 0 0] 89)) (w2.heap.size + 1 + 1) 89 #[.slice none 0 0] := by
          have h1 := Blk.new_ ((w2.alloc (.cells #[.slice A1 l1.length c1] 89)).alloc (.cells #[.slice A2 lc.length c2] 89)) 89 #[.slice none 0 0]
          rw [World.size_alloc, World.size_alloc] at h1
          exact h1
        have HMX : Hid (Rd (((w2.alloc (.cells #[.slice A1 l1.length c1] 89)).alloc (.cells #[.slice A2 lc.length c2] 89)).alloc (.cells #[.slice none 0 0] 89)) (w2.heap.size + 3) 1 none 0 (strCells (insP x.ins))) := by unfold Hid; rw [HMI.out]; exact Rd.nil_
        have hszM : (((w2.alloc (.cells #[.slice A1 l1.length c1] 89)).alloc (.cells #[.slice A2 lc.length c2] 89)).alloc (.cells #[.slice none 0 0] 89)).heap.size = w2.heap.size + 3 := by simp
        have hb4M := bthen hb3 hbM
        have hb5M := bthen hb2 hb4M
        have HB6M := Lib.hid (HB6.out.below' hb4M)
        have HOAM := Lib.hid (own_below HOA.out hb4M)
        have HOC := Lib.hid (own_below HRC2.out hbM)
        have hsM : w2.heap.size ≤ ((((w2.alloc (.cells #[.slice A1 l1.length c1] 89)).alloc (.cells #[.slice A2 lc.length c2] 89)).alloc (.cells #[.slice none 0 0] 89))).heap.size := hbM.size
        have hs0M : w0.heap.size ≤ ((((w2.alloc (.cells #[.slice A1 l1.length c1] 89)).alloc (.cells #[.slice A2 lc.length c2] 89)).alloc (.cells #[.slice none 0 0] 89))).heap.size := hb5M.size
        have HB10M : Hid (Blk ((((w2.alloc (.cells #[.slice A1 l1.length c1] 89)).alloc (.cells #[.slice A2 lc.length c2] 89)).alloc (.cells #[.slice none 0 0] 89))) (w2.heap.size + 1) 89 #[.slice A2 lc.length c2]) := hB10
        have HB11M : Hid (Blk ((((w2.alloc (.cells #[.slice A1 l1.length c1] 89)).alloc (.cells #[.slice A2 lc.length c2] 89)).alloc (.cells #[.slice none 0 0] 89))) (w2.heap.size + 1 + 1) 89 #[.slice (none) 0 0]) := hB11
        have hlt11 := HB11M.out.lt
        have HCK := Lib.hid (ropeCheck_any (insP x.ins) (none) 0 0 (w2.heap.size + 3) ((((w2.alloc (.cells #[.slice A1 l1.length c1] 89)).alloc (.cells #[.slice A2 lc.length c2] 89)).alloc (.cells #[.slice none 0 0] 89))) HMX.out (by omega) (by omega) HINS.out)
        have HMX.outH := Lib.hid (HMX.out)
        clear hB10 hB11 hbM hb3 hb2 HB6 HOA HRC2 hb4M
        go_wp2_with fail
        clear q32
        generalize ((((w2.alloc (.cells #[.slice A1 l1.length c1] 89)).alloc (.cells #[.slice A2 lc.length c2] 89)).alloc (.cells #[.slice none 0 0] 89))) = wm at *
        refine (HCK.out).mono ?_
        rintro e w5 ⟨rfl, hb5⟩
        have hb5' := bthen hb5M hb5
        by_cases h3 : ropeErr (insP x.ins) = 0
        · rw [h3]
          have HE3 := Lib.hid h3
          clear h3
          have q6 := Blk.cell0 (HB6M.out.below' hb5)
          have q11 := Blk.cell0 (HB11M.out.below' hb5)
          have f6 := Blk.frozen (HB6M.out.below' hb5) 0
          have HOA5 := Lib.hid (own_below HOAM.out hb5)
          have hra5 := Rd.of_own HOA5.out
          have hs5 := hb5.size
          have HJ1 := Lib.hid (ropeJoin_any la (insP x.ins) Aa la.length ca (none) 0 0 w5.heap.size w5 hra5 ((HMX.outH.out.below (hb5.mono (by omega))).more (by omega)) (Nat.le_refl _) (by omega) (by omega) hnaS HINS.out)
          clear hra5
          go_wp2_with fail
          refine (HJ1.out).mono ?_
          rintro e w6 ⟨v6, rfl, ho6, hb6⟩
          obtain ⟨A6, c6, rfl, hn6, _, hr6⟩ := own_form ho6
          have hb6' := bthen hb5' hb6
          have hB6' := (HB6M.out.below' hb5).below' hb6
          have f6 := Blk.frozen hB6' 0
          have q6 := Blk.cell0 hB6'
          have hs6 := hb6.size
          have hg6w : w0.heap.size ≤ g6 := hz01
          have hbW : Below w0.heap.size w0 (w6.setCell ⟨g6, 0, none⟩ (.slice A6 (joinP la (insP x.ins)).length c6)) := Below.setCell hb6' (p := ⟨g6, 0, none⟩) hg6w _
          by_cases h4 : joinE la (insP x.ins) = 0
          · have hst5 := @ed_step5 p x HE1.out HE2.out HE3.out
            rw [HLA0.out, HLC0.out] at hst5
            obtain ⟨hjp, hokm, hE, hP⟩ := hst5 h4
            rw [h4]
            clear h4
            rw [hjp] at ho6 hr6 hn6 hbW ⊢
            have HEF := Lib.hid hE
            have HPF := Lib.hid hP
            have hmS := parts_small hokm
            have hml := hokm.n
            clear hjp hE hP hst5
            generalize la ++ insP x.ins = lm at *
            have HB6s : Hid (Blk (w6.setCell ⟨g6, 0, none⟩ (.slice A6 lm.length c6)) g6 89 #[.slice A6 lm.length c6]) := hB6'.set_ 0 _
            have q6s := Blk.cell0 HB6s.out
            have hd10 : w2.heap.size + 1 ≠ g6 := by omega
            have q10s := Blk.cell0 (((HB10M.out.below' hb5).below' hb6).far (p := ⟨g6, 0, none⟩) hd10 (.slice A6 lm.length c6))
            have hszs : (w6.setCell ⟨g6, 0, none⟩ (.slice A6 lm.length c6)).heap.size = w6.heap.size := by simp [World.setCell]
            have hrm : Rd (w6.setCell ⟨g6, 0, none⟩ (.slice A6 lm.length c6)) w6.heap.size 1 A6 lm.length (strCells lm) := by
              have h9 := Rd.of_own (own_far ho6 (own_ne_rope ho6 hB6') 0 (.slice A6 lm.length c6))
              rw [hszs] at h9
              exact h9
            have hOCs := own_far (own_below (own_below HOC.out hb5) hb6) (own_ne_rope (own_below (own_below HOC.out hb5) hb6) hB6') 0 (.slice A6 lm.length c6)
            have hrcc : Rd (w6.setCell ⟨g6, 0, none⟩ (.slice A6 lm.length c6)) w6.heap.size 1 A2 lc.length (strCells lc) := by
              have h9 := Rd.of_own hOCs
              rw [hszs] at h9
              exact h9
            clear hOCs
            have HJ2 := Lib.hid (ropeJoin_any lm lc A6 lm.length c6 A2 lc.length c2 w6.heap.size (w6.setCell ⟨g6, 0, none⟩ (.slice A6 lm.length c6)) hrm hrcc (by rw [hszs]; exact Nat.le_refl _) (by omega) (by omega) hmS hncS)
            clear ho6 hr6 hrm hrcc
            go_wp2_with fail
            generalize (w6.setCell ⟨g6, 0, none⟩ (.slice A6 lm.length c6)) = w7 at *
            refine (HJ2.out).mono ?_
            rintro e w8 ⟨v8, rfl, ho8, hb8⟩
            obtain ⟨A8, c8, rfl, hn8, _, hr8⟩ := own_form ho8
            have hb8' := bthen hbW hb8
            have h4 := HB4.out.below' hb8'
            have q4 := Blk.cell0 h4
            have f4 := Blk.frozen h4 0
            have hbb : Below w.heap.size w w8 := hb0.trans (Below.mono hb8' (by have := HSZ0.out; omega))
            have R4 : (w8.setCell ⟨w.heap.size + 1 + 1, 0, none⟩ (.slice A8 (joinP lm lc).length c8)).cell? ⟨w.heap.size + 1 + 1, 0, none⟩ = some (.slice A8 (joinP lm lc).length c8) := Blk.cell0 (h4.set_ 0 _)
            have hbF : Below w.heap.size w (w8.setCell ⟨w.heap.size + 1 + 1, 0, none⟩ (.slice A8 (joinP lm lc).length c8)) := (by repeat (first | exact Below.refl _ _ | assumption | refine Below.alloc ?_ (by first | exact Nat.le_refl _ | assumption | omega | (simp <;> omega)) _ | refine Below.setCell ?_ (by first | exact Nat.le_refl _ | assumption | omega | (simp <;> omega)) _ | refine Below.drew ?_ | refine below_drewN ?_ _))
            have ho8' := own_far (own_lower ho8 (show w.heap.size ≤ w7.heap.size by have := hbW.size; have := HSZ0.out; omega)) (own_ne_rope (own_lower ho8 (show w.heap.size ≤ w7.heap.size by have := hbW.size; have := HSZ0.out; omega)) h4) 0 (.slice A8 (joinP lm lc).length c8)
            have HO8 := Lib.hid ho8'
            clear ho8 hr8 ho8' h4
            go_wp2_with fail
            (apply bodyPost_ret; (simp [results, Try.results58, go_sem, R4]; rfl); rfl)
            rw [HEF.out, HPF.out]
            exact ⟨_, rfl, HO8.out, hbF⟩
          · have hst4 := @ed_step4 p x HE1.out HE2.out HE3.out
            rw [HLA0.out] at hst4
            obtain ⟨hE, hP⟩ := hst4 h4
            have HEF := Lib.hid hE
            have HPF := Lib.hid hP
            have g7 : (joinE la (insP x.ins) != 0) = true := by rw [bne_iff_ne]; exact h4
            clear hE hP hst4 h4 ho6 hr6
            generalize joinE la (insP x.ins) = e4 at *
            generalize (joinP la (insP x.ins)).length = m6 at *
            have h4 := HB4.out.below hbW (by have := HSZ0.out; omega)
            have q4 := Blk.cell0 h4
            have f4 := Blk.frozen h4 0
            have hbb : Below w.heap.size w (w6.setCell ⟨g6, 0, none⟩ (.slice A6 m6 c6)) := hb0.trans (Below.mono hbW (by have := HSZ0.out; omega))
            have R4 : ((w6.setCell ⟨g6, 0, none⟩ (.slice A6 m6 c6)).setCell ⟨w.heap.size + 1 + 1, 0, none⟩ (.slice none 0 0)).cell? ⟨w.heap.size + 1 + 1, 0, none⟩ = some (.slice none 0 0) := Blk.cell0 (h4.set_ 0 _)
            have hbF : Below w.heap.size w ((w6.setCell ⟨g6, 0, none⟩ (.slice A6 m6 c6)).setCell ⟨w.heap.size + 1 + 1, 0, none⟩ (.slice none 0 0)) := (by repeat (first | exact Below.refl _ _ | assumption | refine Below.alloc ?_ (by first | exact Nat.le_refl _ | assumption | omega | (simp <;> omega)) _ | refine Below.setCell ?_ (by first | exact Nat.le_refl _ | assumption | omega | (simp <;> omega)) _ | refine Below.drew ?_ | refine below_drewN ?_ _))
            have hg64 : w.heap.size + 1 + 1 ≠ g6 := by have := HSZ0.out; omega
            go_wp2_with fail
            (apply bodyPost_ret; (simp [results, Try.results58, go_sem, R4]; rfl); rfl)
            rw [HEF.out, HPF.out]
            exact ⟨_, rfl, World.ownsRow_nil _ _ _ _, hbF⟩
        · obtain ⟨hE, hP⟩ := ed_step3 HE1.out HE2.out h3
          have HEF := Lib.hid hE
          have HPF := Lib.hid hP
          have g7 : (ropeErr (insP x.ins) != 0) = true := by rw [bne_iff_ne]; exact h3
          clear hE hP h3
          generalize ropeErr (insP x.ins) = e3 at *
          have h4 := HB4.out.below hb5' (by have := HSZ0.out; omega)
          have q4 := Blk.cell0 h4
          have f4 := Blk.frozen h4 0
          have hbb : Below w.heap.size w w5 := hb0.trans (Below.mono hb5' (by have := HSZ0.out; omega))
          have R4 : (w5.setCell ⟨w.heap.size + 1 + 1, 0, none⟩ (.slice none 0 0)).cell? ⟨w.heap.size + 1 + 1, 0, none⟩ = some (.slice none 0 0) := Blk.cell0 (h4.set_ 0 _)
          have hbF : Below w.heap.size w (w5.setCell ⟨w.heap.size + 1 + 1, 0, none⟩ (.slice none 0 0)) := (by repeat (first | exact Below.refl _ _ | assumption | refine Below.alloc ?_ (by first | exact Nat.le_refl _ | assumption | omega | (simp <;> omega)) _ | refine Below.setCell ?_ (by first | exact Nat.le_refl _ | assumption | omega | (simp <;> omega)) _ | refine Below.drew ?_ | refine below_drewN ?_ _))
          go_wp2_with fail
          (apply bodyPost_ret; (simp [results, Try.results58, go_sem, R4]; rfl); rfl)
          rw [HEF.out, HPF.out]
          exact ⟨_, rfl, World.ownsRow_nil _ _ _ _, hbF⟩
      · have g3 : (S x.ins).toList.isEmpty = false := by rw [hie, decide_eq_false hi0]
        have g3' : ((S x.ins).toList == []) = false := by
          rw [beq_eq_false_iff_ne]; intro h; rw [h] at g3; cases g3
        have HMI : Hid (insP x.ins = [x.ins]) := by unfold Hid insP; rw [if_neg hi0]
        clear hie hi0
        have hbM : Below w2.heap.size w2 ((((w2.alloc (.cells #[.slice A1 l1.length c1] 89)).alloc (.cells #[.slice A2 lc.length c2] 89)).alloc (.cells #[.slice (some ⟨w2.heap.size + 3, 0, none⟩) 1 1] 89)).alloc (.cells #[.string (S x.ins)] 9)) := (by repeat (first | exact Below.refl _ _ | assumption | refine Below.alloc ?_ (by first | exact Nat.le_refl _ | assumption | omega | (simp <;> omega)) _ | refine Below.setCell ?_ (by first | exact Nat.le_refl _ | assumption | omega | (simp <;> omega)) _ | refine Below.drew ?_ | refine below_drewN ?_ _))
        have hB10 : Blk ((((w2.alloc (.cells #[.slice A1 l1.length c1] 89)).alloc (.cells #[.slice A2 lc.length c2] 89)).alloc (.cells #[.slice (some ⟨w2.heap.size + 3, 0, none⟩) 1 1] 89)).alloc (.cells #[.string (S x.ins)] 9)) (w2.heap.size + 1) 89 #[.slice A2 lc.length c2] := by
          have h1 := Blk.new_ (w2.alloc (.cells #[.slice A1 l1.length c1] 89)) 89 #[.slice A2 lc.length c2]
          rw [World.size_alloc] at h1
          exact Blk.alloc (Blk.alloc h1 _) _
        have hB11 : Blk ((((w2.alloc (.cells #[.slice A1 l1.length c1] 89)).alloc (.cells #[.slice A2 lc.length c2] 89)).alloc (.cells #[.slice (some ⟨w2.heap.size + 3, 0, none⟩) 1 1] 89)).alloc (.cells #[.string (S x.ins)] 9)) (w2.heap.size + 1 + 1) 89 #[.slice (some ⟨w2.heap.size + 3, 0, none⟩) 1 1] := by
          have h1 := Blk.new_ ((w2.alloc (.cells #[.slice A1 l1.length c1] 89)).alloc (.cells #[.slice A2 lc.length c2] 89)) 89 #[.slice (some ⟨w2.heap.size + 3, 0, none⟩) 1 1]
          rw [World.size_alloc, World.size_alloc] at h1
          exact Blk.alloc h1 _
        have HMX : Hid (Rd ((((w2.alloc (.cells #[.slice A1 l1.length c1] 89)).alloc (.cells #[.slice A2 lc.length c2] 89)).alloc (.cells #[.slice (some ⟨w2.heap.size + 3, 0, none⟩) 1 1] 89)).alloc (.cells #[.string (S x.ins)] 9)) (w2.heap.size + 4) 1 (some ⟨w2.heap.size + 3, 0, none⟩) 1 (strCells (insP x.ins))) := by
          unfold Hid
          rw [HMI.out]
          have h1 := Rd.new_ (size := 1) (n := 1) (B := w2.heap.size + 4) (((w2.alloc (.cells #[.slice A1 l1.length c1] 89)).alloc (.cells #[.slice A2 lc.length c2] 89)).alloc (.cells #[.slice (some ⟨w2.heap.size + 3, 0, none⟩) 1 1] 89)) #[.string (S x.ins)] 9 (by simp) rfl
          rw [World.size_alloc, World.size_alloc, World.size_alloc] at h1
          exact h1
        have hszM : ((((w2.alloc (.cells #[.slice A1 l1.length c1] 89)).alloc (.cells #[.slice A2 lc.length c2] 89)).alloc (.cells #[.slice (some ⟨w2.heap.size + 3, 0, none⟩) 1 1] 89)).alloc (.cells #[.string (S x.ins)] 9)).heap.size = w2.heap.size + 4 := by simp
        have hb4M := bthen hb3 hbM
        have hb5M := bthen hb2 hb4M
        have HB6M := Lib.hid (HB6.out.below' hb4M)
        have HOAM := Lib.hid (own_below HOA.out hb4M)
        have HOC := Lib.hid (own_below HRC2.out hbM)
        have hsM : w2.heap.size ≤ (((((w2.alloc (.cells #[.slice A1 l1.length c1] 89)).alloc (.cells #[.slice A2 lc.length c2] 89)).alloc (.cells #[.slice (some ⟨w2.heap.size + 3, 0, none⟩) 1 1] 89)).alloc (.cells #[.string (S x.ins)] 9))).heap.size := hbM.size
        have hs0M : w0.heap.size ≤ (((((w2.alloc (.cells #[.slice A1 l1.length c1] 89)).alloc (.cells #[.slice A2 lc.length c2] 89)).alloc (.cells #[.slice (some ⟨w2.heap.size + 3, 0, none⟩) 1 1] 89)).alloc (.cells #[.string (S x.ins)] 9))).heap.size := hb5M.size
        have HB10M : Hid (Blk (((((w2.alloc (.cells #[.slice A1 l1.length c1] 89)).alloc (.cells #[.slice A2 lc.length c2] 89)).alloc (.cells #[.slice (some ⟨w2.heap.size + 3, 0, none⟩) 1 1] 89)).alloc (.cells #[.string (S x.ins)] 9))) (w2.heap.size + 1) 89 #[.slice A2 lc.length c2]) := hB10
        have HB11M : Hid (Blk (((((w2.alloc (.cells #[.slice A1 l1.length c1] 89)).alloc (.cells #[.slice A2 lc.length c2] 89)).alloc (.cells #[.slice (some ⟨w2.heap.size + 3, 0, none⟩) 1 1] 89)).alloc (.cells #[.string (S x.ins)] 9))) (w2.heap.size + 1 + 1) 89 #[.slice (some ⟨w2.heap.size + 3, 0, none⟩) 1 1]) := hB11
        have hlt11 := HB11M.out.lt
        have HCK := Lib.hid (ropeCheck_any (insP x.ins) (some ⟨w2.heap.size + 3, 0, none⟩) 1 1 (w2.heap.size + 4) (((((w2.alloc (.cells #[.slice A1 l1.length c1] 89)).alloc (.cells #[.slice A2 lc.length c2] 89)).alloc (.cells #[.slice (some ⟨w2.heap.size + 3, 0, none⟩) 1 1] 89)).alloc (.cells #[.string (S x.ins)] 9))) HMX.out (by omega) (by omega) HINS.out)
        have HMX.outH := Lib.hid (HMX.out)
        clear hB10 hB11 hbM hb3 hb2 HB6 HOA HRC2 hb4M
        go_wp2_with fail
        clear q32
        generalize (((((w2.alloc (.cells #[.slice A1 l1.length c1] 89)).alloc (.cells #[.slice A2 lc.length c2] 89)).alloc (.cells #[.slice (some ⟨w2.heap.size + 3, 0, none⟩) 1 1] 89)).alloc (.cells #[.string (S x.ins)] 9))) = wm at *
        refine (HCK.out).mono ?_
        rintro e w5 ⟨rfl, hb5⟩
        have hb5' := bthen hb5M hb5
        by_cases h3 : ropeErr (insP x.ins) = 0
        · rw [h3]
          have HE3 := Lib.hid h3
          clear h3
          have q6 := Blk.cell0 (HB6M.out.below' hb5)
          have q11 := Blk.cell0 (HB11M.out.below' hb5)
          have f6 := Blk.frozen (HB6M.out.below' hb5) 0
          have HOA5 := Lib.hid (own_below HOAM.out hb5)
          have hra5 := Rd.of_own HOA5.out
          have hs5 := hb5.size
          have HJ1 := Lib.hid (ropeJoin_any la (insP x.ins) Aa la.length ca (some ⟨w2.heap.size + 3, 0, none⟩) 1 1 w5.heap.size w5 hra5 ((HMX.outH.out.below (hb5.mono (by omega))).more (by omega)) (Nat.le_refl _) (by omega) (by omega) hnaS HINS.out)
          clear hra5
          go_wp2_with fail
          refine (HJ1.out).mono ?_
          rintro e w6 ⟨v6, rfl, ho6, hb6⟩
          obtain ⟨A6, c6, rfl, hn6, _, hr6⟩ := own_form ho6
          have hb6' := bthen hb5' hb6
          have hB6' := (HB6M.out.below' hb5).below' hb6
          have f6 := Blk.frozen hB6' 0
          have q6 := Blk.cell0 hB6'
          have hs6 := hb6.size
          have hg6w : w0.heap.size ≤ g6 := hz01
          have hbW : Below w0.heap.size w0 (w6.setCell ⟨g6, 0, none⟩ (.slice A6 (joinP la (insP x.ins)).length c6)) := Below.setCell hb6' (p := ⟨g6, 0, none⟩) hg6w _
          by_cases h4 : joinE la (insP x.ins) = 0
          · have hst5 := @ed_step5 p x HE1.out HE2.out HE3.out
            rw [HLA0.out, HLC0.out] at hst5
            obtain ⟨hjp, hokm, hE, hP⟩ := hst5 h4
            rw [h4]
            clear h4
            rw [hjp] at ho6 hr6 hn6 hbW ⊢
            have HEF := Lib.hid hE
            have HPF := Lib.hid hP
            have hmS := parts_small hokm
            have hml := hokm.n
            clear hjp hE hP hst5
            generalize la ++ insP x.ins = lm at *
            have HB6s : Hid (Blk (w6.setCell ⟨g6, 0, none⟩ (.slice A6 lm.length c6)) g6 89 #[.slice A6 lm.length c6]) := hB6'.set_ 0 _
            have q6s := Blk.cell0 HB6s.out
            have hd10 : w2.heap.size + 1 ≠ g6 := by omega
            have q10s := Blk.cell0 (((HB10M.out.below' hb5).below' hb6).far (p := ⟨g6, 0, none⟩) hd10 (.slice A6 lm.length c6))
            have hszs : (w6.setCell ⟨g6, 0, none⟩ (.slice A6 lm.length c6)).heap.size = w6.heap.size := by simp [World.setCell]
            have hrm : Rd (w6.setCell ⟨g6, 0, none⟩ (.slice A6 lm.length c6)) w6.heap.size 1 A6 lm.length (strCells lm) := by
              have h9 := Rd.of_own (own_far ho6 (own_ne_rope ho6 hB6') 0 (.slice A6 lm.length c6))
              rw [hszs] at h9
              exact h9
            have hOCs := own_far (own_below (own_below HOC.out hb5) hb6) (own_ne_rope (own_below (own_below HOC.out hb5) hb6) hB6') 0 (.slice A6 lm.length c6)
            have hrcc : Rd (w6.setCell ⟨g6, 0, none⟩ (.slice A6 lm.length c6)) w6.heap.size 1 A2 lc.length (strCells lc) := by
              have h9 := Rd.of_own hOCs
              rw [hszs] at h9
              exact h9
            clear hOCs
            have HJ2 := Lib.hid (ropeJoin_any lm lc A6 lm.length c6 A2 lc.length c2 w6.heap.size (w6.setCell ⟨g6, 0, none⟩ (.slice A6 lm.length c6)) hrm hrcc (by rw [hszs]; exact Nat.le_refl _) (by omega) (by omega) hmS hncS)
            clear ho6 hr6 hrm hrcc
            go_wp2_with fail
            generalize (w6.setCell ⟨g6, 0, none⟩ (.slice A6 lm.length c6)) = w7 at *
            refine (HJ2.out).mono ?_
            rintro e w8 ⟨v8, rfl, ho8, hb8⟩
            obtain ⟨A8, c8, rfl, hn8, _, hr8⟩ := own_form ho8
            have hb8' := bthen hbW hb8
            have h4 := HB4.out.below' hb8'
            have q4 := Blk.cell0 h4
            have f4 := Blk.frozen h4 0
            have hbb : Below w.heap.size w w8 := hb0.trans (Below.mono hb8' (by have := HSZ0.out; omega))
            have R4 : (w8.setCell ⟨w.heap.size + 1 + 1, 0, none⟩ (.slice A8 (joinP lm lc).length c8)).cell? ⟨w.heap.size + 1 + 1, 0, none⟩ = some (.slice A8 (joinP lm lc).length c8) := Blk.cell0 (h4.set_ 0 _)
            have hbF : Below w.heap.size w (w8.setCell ⟨w.heap.size + 1 + 1, 0, none⟩ (.slice A8 (joinP lm lc).length c8)) := (by repeat (first | exact Below.refl _ _ | assumption | refine Below.alloc ?_ (by first | exact Nat.le_refl _ | assumption | omega | (simp <;> omega)) _ | refine Below.setCell ?_ (by first | exact Nat.le_refl _ | assumption | omega | (simp <;> omega)) _ | refine Below.drew ?_ | refine below_drewN ?_ _))
            have ho8' := own_far (own_lower ho8 (show w.heap.size ≤ w7.heap.size by have := hbW.size; have := HSZ0.out; omega)) (own_ne_rope (own_lower ho8 (show w.heap.size ≤ w7.heap.size by have := hbW.size; have := HSZ0.out; omega)) h4) 0 (.slice A8 (joinP lm lc).length c8)
            have HO8 := Lib.hid ho8'
            clear ho8 hr8 ho8' h4
            go_wp2_with fail
            (apply bodyPost_ret; (simp [results, Try.results58, go_sem, R4]; rfl); rfl)
            rw [HEF.out, HPF.out]
            exact ⟨_, rfl, HO8.out, hbF⟩
          · have hst4 := @ed_step4 p x HE1.out HE2.out HE3.out
            rw [HLA0.out] at hst4
            obtain ⟨hE, hP⟩ := hst4 h4
            have HEF := Lib.hid hE
            have HPF := Lib.hid hP
            have g7 : (joinE la (insP x.ins) != 0) = true := by rw [bne_iff_ne]; exact h4
            clear hE hP hst4 h4 ho6 hr6
            generalize joinE la (insP x.ins) = e4 at *
            generalize (joinP la (insP x.ins)).length = m6 at *
            have h4 := HB4.out.below hbW (by have := HSZ0.out; omega)
            have q4 := Blk.cell0 h4
            have f4 := Blk.frozen h4 0
            have hbb : Below w.heap.size w (w6.setCell ⟨g6, 0, none⟩ (.slice A6 m6 c6)) := hb0.trans (Below.mono hbW (by have := HSZ0.out; omega))
            have R4 : ((w6.setCell ⟨g6, 0, none⟩ (.slice A6 m6 c6)).setCell ⟨w.heap.size + 1 + 1, 0, none⟩ (.slice none 0 0)).cell? ⟨w.heap.size + 1 + 1, 0, none⟩ = some (.slice none 0 0) := Blk.cell0 (h4.set_ 0 _)
            have hbF : Below w.heap.size w ((w6.setCell ⟨g6, 0, none⟩ (.slice A6 m6 c6)).setCell ⟨w.heap.size + 1 + 1, 0, none⟩ (.slice none 0 0)) := (by repeat (first | exact Below.refl _ _ | assumption | refine Below.alloc ?_ (by first | exact Nat.le_refl _ | assumption | omega | (simp <;> omega)) _ | refine Below.setCell ?_ (by first | exact Nat.le_refl _ | assumption | omega | (simp <;> omega)) _ | refine Below.drew ?_ | refine below_drewN ?_ _))
            have hg64 : w.heap.size + 1 + 1 ≠ g6 := by have := HSZ0.out; omega
            go_wp2_with fail
            (apply bodyPost_ret; (simp [results, Try.results58, go_sem, R4]; rfl); rfl)
            rw [HEF.out, HPF.out]
            exact ⟨_, rfl, World.ownsRow_nil _ _ _ _, hbF⟩
        · obtain ⟨hE, hP⟩ := ed_step3 HE1.out HE2.out h3
          have HEF := Lib.hid hE
          have HPF := Lib.hid hP
          have g7 : (ropeErr (insP x.ins) != 0) = true := by rw [bne_iff_ne]; exact h3
          clear hE hP h3
          generalize ropeErr (insP x.ins) = e3 at *
          have h4 := HB4.out.below hb5' (by have := HSZ0.out; omega)
          have q4 := Blk.cell0 h4
          have f4 := Blk.frozen h4 0
          have hbb : Below w.heap.size w w5 := hb0.trans (Below.mono hb5' (by have := HSZ0.out; omega))
          have R4 : (w5.setCell ⟨w.heap.size + 1 + 1, 0, none⟩ (.slice none 0 0)).cell? ⟨w.heap.size + 1 + 1, 0, none⟩ = some (.slice none 0 0) := Blk.cell0 (h4.set_ 0 _)
          have hbF : Below w.heap.size w (w5.setCell ⟨w.heap.size + 1 + 1, 0, none⟩ (.slice none 0 0)) := (by repeat (first | exact Below.refl _ _ | assumption | refine Below.alloc ?_ (by first | exact Nat.le_refl _ | assumption | omega | (simp <;> omega)) _ | refine Below.setCell ?_ (by first | exact Nat.le_refl _ | assumption | omega | (simp <;> omega)) _ | refine Below.drew ?_ | refine below_drewN ?_ _))
          go_wp2_with fail
          (apply bodyPost_ret; (simp [results, Try.results58, go_sem, R4]; rfl); rfl)
          rw [HEF.out, HPF.out]
          exact ⟨_, rfl, World.ownsRow_nil _ _ _ _, hbF⟩
    · obtain ⟨hE, hP⟩ := ed_step2 HE1.out (by rw [HLB0.out]; exact he2)
      rw [HLB0.out] at hE
      have HEF := Lib.hid hE
      have HPF := Lib.hid hP
      have g7 : (cutE lb x.del != 0) = true := by rw [bne_iff_ne]; exact he2
      have hcA : Hid (cutPA lb x.del = []) := by unfold Hid cutPA; rw [if_neg he2]
      have hcB : Hid (cutPB lb x.del = []) := by unfold Hid cutPB; rw [if_neg he2]
      rw [hcA.out, hcB.out] at HC2
      clear hE hP he2 hcA hcB
      generalize cutE lb x.del = e2 at *
      refine (HC2.out).mono ?_
      rintro e w2 ⟨v1, v2, rfl, ho1, ho2, hap2, hb3⟩
      obtain ⟨A1, c1, rfl, hn1, _, hr1⟩ := own_form ho1
      obtain ⟨A2, c2, rfl, hn2, _, hr2⟩ := own_form ho2
      rw [show ([] : Parts).length = 0 from rfl]
      have hbA2 : Below w2.heap.size w2 ((w2.alloc (.cells #[.slice A1 0 c1] 89)).alloc (.cells #[.slice A2 0 c2] 89)) := (by repeat (first | exact Below.refl _ _ | assumption | refine Below.alloc ?_ (by first | exact Nat.le_refl _ | assumption | omega | (simp <;> omega)) _ | refine Below.setCell ?_ (by first | exact Nat.le_refl _ | assumption | omega | (simp <;> omega)) _ | refine Below.drew ?_ | refine below_drewN ?_ _))
      have hb5 := bthen hb2 (bthen hb3 hbA2)
      clear q31
      have h4 := HB4.out.below hb5 (by have := HSZ0.out; omega)
      have q4 := Blk.cell0 h4
      have f4 := Blk.frozen h4 0
      have hbb : Below w.heap.size w ((w2.alloc (.cells #[.slice A1 0 c1] 89)).alloc (.cells #[.slice A2 0 c2] 89)) := hb0.trans (Below.mono hb5 (by have := HSZ0.out; omega))
      have R4 : (((w2.alloc (.cells #[.slice A1 0 c1] 89)).alloc (.cells #[.slice A2 0 c2] 89)).setCell ⟨w.heap.size + 1 + 1, 0, none⟩ (.slice none 0 0)).cell? ⟨w.heap.size + 1 + 1, 0, none⟩ = some (.slice none 0 0) := Blk.cell0 (h4.set_ 0 _)
      have hbF : Below w.heap.size w (((w2.alloc (.cells #[.slice A1 0 c1] 89)).alloc (.cells #[.slice A2 0 c2] 89)).setCell ⟨w.heap.size + 1 + 1, 0, none⟩ (.slice none 0 0)) := (by repeat (first | exact Below.refl _ _ | assumption | refine Below.alloc ?_ (by first | exact Nat.le_refl _ | assumption | omega | (simp <;> omega)) _ | refine Below.setCell ?_ (by first | exact Nat.le_refl _ | assumption | omega | (simp <;> omega)) _ | refine Below.drew ?_ | refine below_drewN ?_ _))
      go_wp2_with fail
      (apply bodyPost_ret; (simp [results, Try.results58, go_sem, R4]; rfl); rfl)
      rw [HEF.out, HPF.out]
      exact ⟨_, rfl, World.ownsRow_nil _ _ _ _, hbF⟩
  · obtain ⟨hE, hP⟩ := ed_step1 he1
    rw [hE, hP]
    have g1 : (cutE p x.at_ != 0) = true := by rw [bne_iff_ne]; exact he1
    have hcA : Hid (cutPA p x.at_ = []) := by unfold Hid cutPA; rw [if_neg he1]
    have hcB : Hid (cutPB p x.at_ = []) := by unfold Hid cutPB; rw [if_neg he1]
    rw [hcA.out, hcB.out] at HC1
    clear hE hP he1 hcA hcB
    generalize cutE p x.at_ = e0 at *
    go_enter Try.func58, Try.ntmps58
    go_wp2_with fail
    rw [← hw0]
    clear hw0
    refine (HC1.out).mono ?_
    rintro e w1 ⟨va, vb, rfl, hoa, hob, hap, hb1⟩
    obtain ⟨Aa, ca, rfl, hna, _, hra⟩ := own_form hoa
    obtain ⟨Ab, cb, rfl, hnb, _, hrb⟩ := own_form hob
    rw [show ([] : Parts).length = 0 from rfl]
    have hbA : Below w1.heap.size w1 ((w1.alloc (.cells #[.slice Aa 0 ca] 89)).alloc (.cells #[.slice Ab 0 cb] 89)) := (by repeat (first | exact Below.refl _ _ | assumption | refine Below.alloc ?_ (by first | exact Nat.le_refl _ | assumption | omega | (simp <;> omega)) _ | refine Below.setCell ?_ (by first | exact Nat.le_refl _ | assumption | omega | (simp <;> omega)) _ | refine Below.drew ?_ | refine below_drewN ?_ _))
    have hb2 := bthen hb1 hbA
    have h4 := HB4.out.below hb2 (by have := HSZ0.out; omega)
    have q4 := Blk.cell0 h4
    have f4 := Blk.frozen h4 0
    have hbb : Below w.heap.size w ((w1.alloc (.cells #[.slice Aa 0 ca] 89)).alloc (.cells #[.slice Ab 0 cb] 89)) := hb0.trans (Below.mono hb2 (by have := HSZ0.out; omega))
    have R4 : (((w1.alloc (.cells #[.slice Aa 0 ca] 89)).alloc (.cells #[.slice Ab 0 cb] 89)).setCell ⟨w.heap.size + 1 + 1, 0, none⟩ (.slice none 0 0)).cell? ⟨w.heap.size + 1 + 1, 0, none⟩ = some (.slice none 0 0) := Blk.cell0 (h4.set_ 0 _)
    have hbF : Below w.heap.size w (((w1.alloc (.cells #[.slice Aa 0 ca] 89)).alloc (.cells #[.slice Ab 0 cb] 89)).setCell ⟨w.heap.size + 1 + 1, 0, none⟩ (.slice none 0 0)) := (by repeat (first | exact Below.refl _ _ | assumption | refine Below.alloc ?_ (by first | exact Nat.le_refl _ | assumption | omega | (simp <;> omega)) _ | refine Below.setCell ?_ (by first | exact Nat.le_refl _ | assumption | omega | (simp <;> omega)) _ | refine Below.drew ?_ | refine below_drewN ?_ _))
    go_wp2_with fail
    (apply bodyPost_ret; (simp [results, Try.results58, go_sem, R4]; rfl); rfl)
    exact ⟨_, rfl, World.ownsRow_nil _ _ _ _, hbF⟩
end Go.Proofs.Ytolnhplgaolieaa
