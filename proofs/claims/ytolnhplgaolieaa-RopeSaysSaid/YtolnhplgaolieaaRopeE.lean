/- rope.Join, and the document's errors of a join. -/
import Derived.Test.YtolnhplgaolieaaRopeD
namespace Go.Proofs.Ytolnhplgaolieaa
open Go.RowKit
def joinE (p q : Parts) : Int := if ropeErr p ≠ 0 then ropeErr p else if ropeErr q ≠ 0 then ropeErr q else joinErr p q
def joinP (p q : Parts) : Parts := if joinE p q = 0 then p ++ q else []
theorem joinE_ok {p q : Parts} (hp : RopeOk p) (hq : RopeOk q) : joinE p q = joinErr p q := by
  unfold joinE
  rw [ropeErr_zero.2 hp, ropeErr_zero.2 hq]
  rfl
set_option maxRecDepth 100000 in
set_option maxHeartbeats 8000000 in
theorem ropeJoin_any (p q : Parts) (A1 : Option Addr) (n1 c1 : Nat) (A2 : Option Addr) (n2 c2 B : Nat) (w : World) (h1 : Rd w B 1 A1 n1 (strCells p)) (h2 : Rd w B 1 A2 n2 (strCells q)) (hB : B ≤ w.heap.size)
    (hn1 : n1 ≤ 9223372036854775807) (hn2 : n2 ≤ 9223372036854775807) (hs1 : ∀ x ∈ p, x.length ≤ 9223372036854775807) (hs2 : ∀ x ∈ q, x.length ≤ 9223372036854775807) :
    Calls Try.prog 64 #[.agg #[.slice A1 n1 c1], .agg #[.slice A2 n2 c2]] w fun e w' => ∃ v, e = .returned (.tuple #[.agg #[v], .int .i64 (joinE p q)]) ∧
      w'.ownsRow w.heap.size 9 1 v (joinP p q).length (strCells (joinP p q)) ∧ Below w.heap.size w w' := by
  have hpn := strCells_len' h1
  have hqn := strCells_len' h2
  obtain ⟨w0, hw0⟩ : ∃ w0, w0 = (((w.alloc (.cells #[.slice A1 n1 c1] 89)).alloc (.cells #[.slice A2 n2 c2] 89)).alloc (.cells #[.slice none 0 0] 89)) := ⟨_, rfl⟩
  have hb0 : Below w.heap.size w w0 := by rw [hw0]; exact (by repeat (first | exact Below.refl _ _ | assumption | refine Below.alloc ?_ (by first | exact Nat.le_refl _ | assumption | omega | (simp <;> omega)) _ | refine Below.setCell ?_ (by first | exact Nat.le_refl _ | assumption | omega | (simp <;> omega)) _ | refine Below.drew ?_ | refine below_drewN ?_ _))
  have H1 : Hid (Rd w0 B 1 A1 n1 (strCells p)) := h1.below (hb0.mono hB)
  have H2 : Hid (Rd w0 B 1 A2 n2 (strCells q)) := h2.below (hb0.mono hB)
  have HB2 : Hid (Blk w0 w.heap.size 89 #[.slice A1 n1 c1]) := by
    unfold Hid; rw [hw0]; exact Blk.alloc (Blk.alloc (Blk.new_ _ _ _) _) _
  have HB3 : Hid (Blk w0 (w.heap.size + 1) 89 #[.slice A2 n2 c2]) := by
    have h1 := Blk.new_ (w.alloc (.cells #[.slice A1 n1 c1] 89)) 89 #[.slice A2 n2 c2]
    rw [World.size_alloc] at h1
    unfold Hid; rw [hw0]; exact Blk.alloc h1 _
  have HB4 : Hid (Blk w0 (w.heap.size + 1 + 1) 89 #[.slice none 0 0]) := by
    have h1 := Blk.new_ ((w.alloc (.cells #[.slice A1 n1 c1] 89)).alloc (.cells #[.slice A2 n2 c2] 89)) 89 #[.slice none 0 0]
    rw [World.size_alloc, World.size_alloc] at h1
    unfold Hid; rw [hw0]; exact h1
  have hsz0 : w0.heap.size = w.heap.size + 1 + 1 + 1 := by rw [hw0]; simp
  have HC1 := Lib.hid (ropeCheck_any p A1 n1 c1 B w0 H1.out (by omega) hn1 hs1)
  have HC2 : Hid (∀ w', Below w0.heap.size w0 w' → Calls Try.prog 69 #[.agg #[.slice A2 n2 c2]] w' fun e w'' => e = .returned (.int .i64 (ropeErr q)) ∧ Below w'.heap.size w' w'') := fun w' hb' =>
    ropeCheck_any q A2 n2 c2 B w' (H2.out.below (hb'.mono (by omega))) (by have := hb'.size; omega) hn2 hs2
  have HPN := Lib.hid hpn
  have HQN := Lib.hid hqn
  have HSZ0 : Hid (w.heap.size + 1 + 1 + 1 ≤ w0.heap.size) := by unfold Hid; omega
  clear h1 h2 hs1 hs2 hpn hqn hsz0
  by_cases hp0 : ropeErr p = 0
  · have hokp := ropeErr_zero.1 hp0
    by_cases hq0 : ropeErr q = 0
    · have hokq := ropeErr_zero.1 hq0
      have HE : Hid (joinE p q = joinErr p q) := joinE_ok hokp hokq
      have hj := joinErr_of hokp hokq
      rw [hp0] at HC1
      have HQ0 := Lib.hid hq0
      have hn1' : n1 ≤ 60 := by have := hokp.n; have := HPN.out; omega
      have hn2' : n2 ≤ 60 := by have := hokq.n; have := HQN.out; omega
      have hss : ∀ x ∈ p ++ q, x.length ≤ 9223372036854775807 := fun x hx => by
        have key : ∀ l : Parts, RopeOk l → ∀ y ∈ l, y.length ≤ 9223372036854775807 := fun l hl y hy => by
          have h1 : y.length ≤ l.flatten.length := List.Sublist.length_le (List.sublist_flatten_of_mem hy)
          have h2 := hl.t
          unfold tot at h2; omega
        rcases List.mem_append.1 hx with h | h
        · exact key p hokp x h
        · exact key q hokq x h
      have HSS := Lib.hid hss
      have HJ := Lib.hid hj
      clear hp0 hq0 hokp hokq hss hj
      go_enter Try.func64, Try.ntmps64
      go_wp2_with fail
      rw [← hw0]
      clear hw0
      refine (HC1.out).mono ?_
      rintro e w1 ⟨rfl, hb1⟩
      have q3 := Blk.cell0 (HB3.out.below' hb1)
      go_wp2_with fail
      refine (HC2.out _ hb1).mono ?_
      rintro e w2 ⟨rfl, hb2⟩
      rw [HQ0.out]
      have hb2' := bthen hb1 hb2
      have q2 := Blk.cell0 (HB2.out.below' hb2')
      have q3 := Blk.cell0 (HB3.out.below' hb2')
      have hz2 := hb2'.size
      have H1a : Hid (∀ o, Rd (w2.alloc o) B 1 A1 n1 (strCells p)) := fun o => (H1.out.below (hb2'.mono (by have := HSZ0.out; omega))).alloc (by have := HSZ0.out; omega) o
      have H2a : Hid (∀ o, Rd (w2.alloc o) B 1 A2 n2 (strCells q)) := fun o => (H2.out.below (hb2'.mono (by have := HSZ0.out; omega))).alloc (by have := HSZ0.out; omega) o
      have hbx : Below w0.heap.size w0 (w2.alloc (.cells #[.slice A1 n1 c1, .slice A2 n2 c2] 44)) := (by repeat (first | exact Below.refl _ _ | assumption | refine Below.alloc ?_ (by first | exact Nat.le_refl _ | assumption | omega | (simp <;> omega)) _ | refine Below.setCell ?_ (by first | exact Nat.le_refl _ | assumption | omega | (simp <;> omega)) _ | refine Below.drew ?_ | refine below_drewN ?_ _))
      clear hb1 hb2
      have hbk := Blk.new_ w2 44 #[.slice A1 n1 c1, .slice A2 n2 c2]
      have hcc := concat2_any p q A1 n1 c1 A2 n2 c2 B w2.heap.size (w2.alloc (.cells #[.slice A1 n1 c1, .slice A2 n2 c2] 44)) (H1a.out _) (H2a.out _) (by have := HSZ0.out; rw [World.size_alloc]; omega) (by rw [World.size_alloc]; omega) (Blk.cell0 hbk) (Blk.cell1 hbk) (by omega) (by omega)
      have HCC := Lib.hid hcc
      clear hcc hbk
      go_wp2_with fail
      refine (HCC.out).mono ?_
      rintro e w3 ⟨v3, rfl, hown3, hb3⟩
      have hb3' := bthen hbx hb3
      have hmn : (p ++ q).length ≤ 120 := by rw [List.length_append, HPN.out, HQN.out]; omega
      generalize hm : (p ++ q).length = m at *
      have HM := Lib.hid hm
      clear hm
      obtain ⟨A3, c3, rfl, hn3, hm3, hrd3⟩ := own_form hown3
      have hz3 := hb3'.size
      have hz23 := hb3.size
      simp only [World.size_alloc] at hz23
      have HOWN3 : Hid (w3.ownsRow w.heap.size 9 1 (.slice A3 m c3) m (strCells (p ++ q))) := own_lower hown3 (by have := HSZ0.out; simp; omega)
      have hbA : Below w3.heap.size w3 (w3.alloc (.cells #[.slice A3 m c3] 89)) := (by repeat (first | exact Below.refl _ _ | assumption | refine Below.alloc ?_ (by first | exact Nat.le_refl _ | assumption | omega | (simp <;> omega)) _ | refine Below.setCell ?_ (by first | exact Nat.le_refl _ | assumption | omega | (simp <;> omega)) _ | refine Below.drew ?_ | refine below_drewN ?_ _))
      have HCK := Lib.hid (ropeCheck_any (p ++ q) A3 m c3 w3.heap.size _ (hrd3.below hbA) (by simp) (by omega) HSS.out)
      have HB8 : Hid (Blk (w3.alloc (.cells #[.slice A3 m c3] 89)) w3.heap.size 89 #[.slice A3 m c3]) := Blk.new_ _ _ _
      have HOWN4 := Lib.hid (own_below HOWN3.out hbA)
      have hb4' := bthen hb3' hbA
      have hz34 := hbA.size
      clear hown3 hrd3 HOWN3 q2 q3 hbx hb3 hb2'
      go_wp2_with fail
      generalize (w3.alloc (.cells #[.slice A3 m c3] 89)) = w4 at *
      refine (HCK.out).mono ?_
      rintro e w5 ⟨rfl, hb5⟩
      have hb5' := bthen hb4' hb5
      have HOWN5 := Lib.hid (own_below HOWN4.out hb5)
      have q8 := Blk.cell0 (HB8.out.below' hb5)
      clear HOWN4 hb4' hb3' hbA
      by_cases he : ropeErr (p ++ q) = 0
      · have HE0 : Hid (joinE p q = 0) := by unfold Hid; rw [HE.out, HJ.out, if_pos he]
        have HP0 : Hid (joinP p q = p ++ q) := by unfold Hid joinP; rw [if_pos HE0.out]
        rw [he]
        clear he
        have h4 := HB4.out.below' hb5'
        have q4 := Blk.cell0 h4
        have f4 := Blk.frozen h4 0
        have hbb : Below w.heap.size w w5 := hb0.trans (Below.mono hb5' (by have := HSZ0.out; omega))
        have R4 : (w5.setCell ⟨w.heap.size + 1 + 1, 0, none⟩ (.slice A3 m c3)).cell? ⟨w.heap.size + 1 + 1, 0, none⟩ = some (.slice A3 m c3) := Blk.cell0 (h4.set_ 0 _)
        have hbF : Below w.heap.size w (w5.setCell ⟨w.heap.size + 1 + 1, 0, none⟩ (.slice A3 m c3)) := (by repeat (first | exact Below.refl _ _ | assumption | refine Below.alloc ?_ (by first | exact Nat.le_refl _ | assumption | omega | (simp <;> omega)) _ | refine Below.setCell ?_ (by first | exact Nat.le_refl _ | assumption | omega | (simp <;> omega)) _ | refine Below.drew ?_ | refine below_drewN ?_ _))
        have HOF := Lib.hid (World.ownsRow.kept HOWN5.out (gb_set (gb_refl _ _) 0 (.slice A3 m c3)) (OwnO.ne_blk (OwnO.of_own HOWN5.out) h4 (by decide)))
        clear HOWN5 h4
        go_wp2_with fail
        (apply bodyPost_ret; (simp [results, Try.results64, go_sem, R4]; rfl); rfl)
        rw [HE0.out, HP0.out, HM.out]
        exact ⟨_, rfl, HOF.out, hbF⟩
      · have HE0 : Hid (joinE p q = 11) := by unfold Hid; rw [HE.out, HJ.out, if_neg he]
        have HP0 : Hid (joinP p q = []) := by unfold Hid joinP; rw [HE0.out, if_neg (by decide)]
        have g1 : (ropeErr (p ++ q) != 0) = true := by rw [bne_iff_ne]; exact he
        have g2 : (ropeErr (p ++ q) == 0) = false := by rw [beq_eq_false_iff_ne]; exact he
        clear he
        generalize ropeErr (p ++ q) = e5 at *
        have h4 := HB4.out.below' hb5'
        have q4 := Blk.cell0 h4
        have f4 := Blk.frozen h4 0
        have hbb : Below w.heap.size w w5 := hb0.trans (Below.mono hb5' (by have := HSZ0.out; omega))
        have R4 : (w5.setCell ⟨w.heap.size + 1 + 1, 0, none⟩ (.slice none 0 0)).cell? ⟨w.heap.size + 1 + 1, 0, none⟩ = some (.slice none 0 0) := Blk.cell0 (h4.set_ 0 _)
        have hbF : Below w.heap.size w (w5.setCell ⟨w.heap.size + 1 + 1, 0, none⟩ (.slice none 0 0)) := (by repeat (first | exact Below.refl _ _ | assumption | refine Below.alloc ?_ (by first | exact Nat.le_refl _ | assumption | omega | (simp <;> omega)) _ | refine Below.setCell ?_ (by first | exact Nat.le_refl _ | assumption | omega | (simp <;> omega)) _ | refine Below.drew ?_ | refine below_drewN ?_ _))
        go_wp2_with fail
        (apply bodyPost_ret; (simp [results, Try.results64, go_sem, R4]; rfl); rfl)
        rw [HE0.out, HP0.out]
        exact ⟨_, rfl, World.ownsRow_nil _ _ _ _, hbF⟩
    · have HE : Hid (joinE p q = ropeErr q) := by unfold Hid joinE; rw [if_neg (by rw [hp0]; decide), if_pos hq0]
      have HP : Hid (joinP p q = []) := by unfold Hid joinP; rw [HE.out, if_neg hq0]
      have g1 : (ropeErr q != 0) = true := by rw [bne_iff_ne]; exact hq0
      rw [hp0] at HC1
      rw [HE.out, HP.out]
      clear hp0 hq0 HE HP
      generalize ropeErr q = e0 at *
      go_enter Try.func64, Try.ntmps64
      go_wp2_with fail
      rw [← hw0]
      clear hw0
      refine (HC1.out).mono ?_
      rintro e w1 ⟨rfl, hb1⟩
      have q3 := Blk.cell0 (HB3.out.below' hb1)
      go_wp2_with fail
      refine (HC2.out _ hb1).mono ?_
      rintro e w2 ⟨rfl, hb2⟩
      have hb2' := bthen hb1 hb2
      have h4 := HB4.out.below hb2' (by have := HSZ0.out; omega)
      have q4 := Blk.cell0 h4
      have f4 := Blk.frozen h4 0
      have hbb : Below w.heap.size w w2 := hb0.trans (Below.mono hb2' (by have := HSZ0.out; omega))
      have R4 : (w2.setCell ⟨w.heap.size + 1 + 1, 0, none⟩ (.slice none 0 0)).cell? ⟨w.heap.size + 1 + 1, 0, none⟩ = some (.slice none 0 0) := Blk.cell0 (h4.set_ 0 _)
      have hbF : Below w.heap.size w (w2.setCell ⟨w.heap.size + 1 + 1, 0, none⟩ (.slice none 0 0)) := (by repeat (first | exact Below.refl _ _ | assumption | refine Below.alloc ?_ (by first | exact Nat.le_refl _ | assumption | omega | (simp <;> omega)) _ | refine Below.setCell ?_ (by first | exact Nat.le_refl _ | assumption | omega | (simp <;> omega)) _ | refine Below.drew ?_ | refine below_drewN ?_ _))
      go_wp2_with fail
      (apply bodyPost_ret; (simp [results, Try.results64, go_sem, R4]; rfl); rfl)
      exact ⟨_, rfl, World.ownsRow_nil _ _ _ _, hbF⟩
  · have HE : Hid (joinE p q = ropeErr p) := by unfold Hid joinE; rw [if_pos hp0]
    have HP : Hid (joinP p q = []) := by unfold Hid joinP; rw [HE.out, if_neg hp0]
    have g1 : (ropeErr p != 0) = true := by rw [bne_iff_ne]; exact hp0
    rw [HE.out, HP.out]
    clear hp0 HE HP
    generalize ropeErr p = e0 at *
    go_enter Try.func64, Try.ntmps64
    go_wp2_with fail
    rw [← hw0]
    clear hw0
    refine (HC1.out).mono ?_
    rintro e w1 ⟨rfl, hb1⟩
    have h4 := HB4.out.below hb1 (by have := HSZ0.out; omega)
    have q4 := Blk.cell0 h4
    have f4 := Blk.frozen h4 0
    have hbb : Below w.heap.size w w1 := hb0.trans (Below.mono hb1 (by have := HSZ0.out; omega))
    have R4 : (w1.setCell ⟨w.heap.size + 1 + 1, 0, none⟩ (.slice none 0 0)).cell? ⟨w.heap.size + 1 + 1, 0, none⟩ = some (.slice none 0 0) := Blk.cell0 (h4.set_ 0 _)
    have hbF : Below w.heap.size w (w1.setCell ⟨w.heap.size + 1 + 1, 0, none⟩ (.slice none 0 0)) := (by repeat (first | exact Below.refl _ _ | assumption | refine Below.alloc ?_ (by first | exact Nat.le_refl _ | assumption | omega | (simp <;> omega)) _ | refine Below.setCell ?_ (by first | exact Nat.le_refl _ | assumption | omega | (simp <;> omega)) _ | refine Below.drew ?_ | refine below_drewN ?_ _))
    go_wp2_with fail
    (apply bodyPost_ret; (simp [results, Try.results64, go_sem, R4]; rfl); rfl)
    exact ⟨_, rfl, World.ownsRow_nil _ _ _ _, hbF⟩
set_option maxRecDepth 100000 in
set_option maxHeartbeats 4000000 in
theorem joinErr_any (p q : Parts) (A1 : Option Addr) (n1 c1 : Nat) (A2 : Option Addr) (n2 c2 B : Nat) (w : World) (h1 : Rd w B 1 A1 n1 (strCells p)) (h2 : Rd w B 1 A2 n2 (strCells q)) (hB : B ≤ w.heap.size) (hp : RopeOk p) (hq : RopeOk q) (hc1 : n1 ≤ c1) (hc2 : n2 ≤ c2) :
    Calls Try.prog 71 #[.agg #[.slice A1 n1 c1], .agg #[.slice A2 n2 c2]] w fun e w' => e = .returned (.int .i64 (joinErr p q)) ∧ Below w.heap.size w w' := by
  have hpn := strCells_len' h1
  have hqn := strCells_len' h2
  have hn1 : n1 ≤ 60 := by have := hp.n; omega
  have hn2 : n2 ≤ 60 := by have := hq.n; omega
  have ht1 := hp.t
  have ht2 := hq.t
  have hb0 : Below w.heap.size w ((w.alloc (.cells #[.slice A1 n1 c1] 89)).alloc (.cells #[.slice A2 n2 c2] 89)) := (by repeat (first | exact Below.refl _ _ | assumption | refine Below.alloc ?_ (by first | exact Nat.le_refl _ | assumption | omega | (simp <;> omega)) _ | refine Below.setCell ?_ (by first | exact Nat.le_refl _ | assumption | omega | (simp <;> omega)) _ | refine Below.drew ?_ | refine below_drewN ?_ _))
  have H1 : Hid (∀ w', Below w.heap.size w w' → Calls Try.prog 34 #[.slice A1 n1 c1, .string ⟨#[]⟩] w' fun e w'' => e = .returned (.string (S p.flatten)) ∧ Below w'.heap.size w' w'') := fun w' hb' =>
    joinS p A1 n1 c1 B w' (h1.below (hb'.mono hB)) (by have := hb'.size; omega) hc1 (by omega) (by unfold tot at ht1; omega)
  have H2 : Hid (∀ w', Below w.heap.size w w' → Calls Try.prog 34 #[.slice A2 n2 c2, .string ⟨#[]⟩] w' fun e w'' => e = .returned (.string (S q.flatten)) ∧ Below w'.heap.size w' w'') := fun w' hb' =>
    joinS q A2 n2 c2 B w' (h2.below (hb'.mono hB)) (by have := hb'.size; omega) hc2 (by omega) (by unfold tot at ht2; omega)
  have z1 : (S p.flatten).size = tot p := S_size _
  have z2 : (S q.flatten).size = tot q := S_size _
  have HB1 : Hid (Blk ((w.alloc (.cells #[.slice A1 n1 c1] 89)).alloc (.cells #[.slice A2 n2 c2] 89)) w.heap.size 89 #[.slice A1 n1 c1]) := Blk.alloc (Blk.new_ _ _ _) _
  have HB2 : Hid (Blk ((w.alloc (.cells #[.slice A1 n1 c1] 89)).alloc (.cells #[.slice A2 n2 c2] 89)) (w.heap.size + 1) 89 #[.slice A2 n2 c2]) := by
    have h1 := Blk.new_ (w.alloc (.cells #[.slice A1 n1 c1] 89)) 89 #[.slice A2 n2 c2]
    rw [World.size_alloc] at h1
    exact h1
  have HDEF : Hid (joinErr p q = if 60 < n1 + n2 ∨ 200 < tot p + tot q then 11 else 0) := by unfold Hid joinErr; rw [hpn, hqn]
  generalize S p.flatten = P at *
  generalize S q.flatten = Q at *
  generalize joinErr p q = J at *
  clear h1 h2 hp hq hpn hqn
  by_cases h60 : 60 < n1 + n2
  · have g1 : decide ((60 : Int) < (n1 : Int) + (n2 : Int)) = true := decide_eq_true (by omega)
    have HJ : Hid (J = 11) := by unfold Hid; rw [HDEF.out, if_pos (.inl h60)]
    go_enter Try.func71, Try.ntmps71
    go_wp2_with fail
    generalize ((w.alloc (.cells #[.slice A1 n1 c1] 89)).alloc (.cells #[.slice A2 n2 c2] 89)) = w0 at *
    have q1 := Blk.cell0 HB1.out; have q2 := Blk.cell0 HB2.out
    go_quiet (fail)
    go_wp2_with fail
    go_ret
    rw [HJ.out]
    exact ⟨rfl, below_drewN hb0 _⟩
  · have g1 : decide ((60 : Int) < (n1 : Int) + (n2 : Int)) = false := decide_eq_false (by omega)
    have HJ : Hid (J = if 200 < tot p + tot q then 11 else 0) := by
      unfold Hid; rw [HDEF.out]
      by_cases h2 : 200 < tot p + tot q
      · rw [if_pos (.inr h2), if_pos h2]
      · rw [if_neg (by omega), if_neg h2]
    by_cases h200 : 200 < tot p + tot q
    · have g2 : decide ((200 : Int) < (P.size : Int) + (Q.size : Int)) = true := decide_eq_true (by omega)
      have HJ2 : Hid (J = 11) := by unfold Hid; rw [HJ.out, if_pos h200]
      go_enter Try.func71, Try.ntmps71
      go_wp2_with fail
      generalize ((w.alloc (.cells #[.slice A1 n1 c1] 89)).alloc (.cells #[.slice A2 n2 c2] 89)) = w0 at *
      have q1 := Blk.cell0 HB1.out; have q2 := Blk.cell0 HB2.out
      have q1r := cell_regrown q1
      have q2r := cell_regrown q2
      have hsB : w.heap.size ≤ w0.heap.size := hb0.size
      refine wp_region_quiet_below (by kernel_rfl) (by kernel_rfl) ?_
      repeat (go_big_quiet_step ((first
        | (go_at_call_of 34 (Value.slice A1 n1 c1); exact Calls.regrown_of (H1.out _ (hb0.trans ((below_regrown _ _ _).mono hsB))))
        | (go_at_call_of 34 (Value.slice A2 n2 c2); exact Calls.regrown_of (H2.out _ (hb0.trans ((below_regrown _ _ _).mono hsB)))))))
      refine wpQuiet_nil ?_
      intro w5 hb50
      have hb5 := below_of_regrown hb50
      clear hb50
      clear q1r q2r q1 q2
      go_wp2_with fail
      go_ret
      rw [HJ2.out]
      exact ⟨rfl, bthen hb0 hb5⟩
    · have g2 : decide ((200 : Int) < (P.size : Int) + (Q.size : Int)) = false := decide_eq_false (by omega)
      have HJ2 : Hid (J = 0) := by unfold Hid; rw [HJ.out, if_neg h200]
      go_enter Try.func71, Try.ntmps71
      go_wp2_with fail
      generalize ((w.alloc (.cells #[.slice A1 n1 c1] 89)).alloc (.cells #[.slice A2 n2 c2] 89)) = w0 at *
      have q1 := Blk.cell0 HB1.out; have q2 := Blk.cell0 HB2.out
      have q1r := cell_regrown q1
      have q2r := cell_regrown q2
      have hsB : w.heap.size ≤ w0.heap.size := hb0.size
      refine wp_region_quiet_below (by kernel_rfl) (by kernel_rfl) ?_
      repeat (go_big_quiet_step ((first
        | (go_at_call_of 34 (Value.slice A1 n1 c1); exact Calls.regrown_of (H1.out _ (hb0.trans ((below_regrown _ _ _).mono hsB))))
        | (go_at_call_of 34 (Value.slice A2 n2 c2); exact Calls.regrown_of (H2.out _ (hb0.trans ((below_regrown _ _ _).mono hsB)))))))
      refine wpQuiet_nil ?_
      intro w5 hb50
      have hb5 := below_of_regrown hb50
      clear hb50
      clear q1r q2r q1 q2
      go_wp2_with fail
      go_ret
      rw [HJ2.out]
      exact ⟨rfl, bthen hb0 hb5⟩
end Go.Proofs.Ytolnhplgaolieaa
