/- front.Get, walked. -/
import Derived.Test.YtolnhplgaolieaaFrontW
namespace Go.Proofs.Ytolnhplgaolieaa
open Go.RowKit
def inB (l : List Int) : Bool := l.all fun k => decide (0 ≤ k ∧ k ≤ 255)
def getE (l : List Int) : Int := if 200 < l.length then 2 else if inB l then 0 else 1
def natsOf (l : List Int) : List Nat := l.map Int.toNat
def getV (l : List Int) : List UInt8 := if getE l = 0 then gets (natsOf l) else []
theorem natsOf_snoc (l : List Int) {k : Nat} (h : k < l.length) : natsOf (l.take (k + 1)) = natsOf (l.take k) ++ [(l.getD k 0).toNat] := by
  unfold natsOf
  rw [List.take_succ_eq_append_getElem h, List.map_append, List.getD_eq_getElem?_getD, List.getElem?_eq_getElem h]; rfl
/-- Where Get stands. -/
structure GetAt (w wr : World) (g k : Nat) (l : List Int) (o : Value) : Prop where
  sh : BB wr g (shelfA (gets (natsOf (l.take k))))
  out : wr.ownsRow (g + 1) 5 1 o k (byteCells (gets (natsOf (l.take k))))
  lt : g < wr.heap.size
  le : w.heap.size ≤ g
  b : Below w.heap.size w wr
theorem GetAt.own5 {w wr w5 : World} {g k : Nat} {l : List Int} {o : Value} (h : GetAt w wr g k l o) (hg5 : wr.grownBy w5 (some g)) : w5.ownsRow (g + 1) 5 1 o k (byteCells (gets (natsOf (l.take k)))) :=
  World.ownsRow.kept h.out hg5 (.inr (fun e => by
    have := (World.ownsRow.lt h.out g e).1
    omega))
theorem GetAt.step {w wr w5 w6 : World} {g k : Nat} {l : List Int} {o v6 : Value} (h : GetAt w wr g k l o) (hg5 : wr.grownBy w5 (some g)) (hB5 : BB w5 g (shelfA (gets (natsOf (l.take (k + 1)))))) (hb6 : Below (g + 1) w5 w6)
    (hown : w6.ownsRow (g + 1) 5 1 v6 (k + 1) (byteCells (gets (natsOf (l.take (k + 1)))))) : GetAt w w6 g (k + 1) l v6 := by
  have h2 := h.lt
  have h4 := hg5.size
  have h5 := hb6.size
  refine ⟨Blk.below hB5 hb6 (by omega), hown, by omega, h.le, ?_⟩
  exact (below_gb h.b hg5 h.le h.b.size).trans (hb6.mono (by have := h.le; omega))
set_option maxRecDepth 100000 in
set_option maxHeartbeats 4000000 in
theorem frontGet_any (l : List Int) (A : Option Addr) (n c : Nat) (w : World) (hr : Rd w w.heap.size 1 A n (ints l)) (hn : n ≤ 9223372036854775807) :
    Calls Try.prog 50 #[.slice A n c] w fun e w' => e = .returned (.tuple #[.string (S (getV l)), .int .i64 (getE l)]) ∧ Below w.heap.size w w' := by
  obtain ⟨i0, hi0, hz0, hz1, hz2⟩ := info_parts info_u8'
  have hl := ints_len hr
  by_cases h2 : 200 < n
  · have HE : Hid (getE l = 2) := by unfold Hid getE; rw [if_pos (by omega)]
    have HV : Hid (getV l = []) := by unfold Hid getV; rw [HE.out, if_neg (by decide)]
    have g1 : decide ((200 : Int) < (n : Int)) = true := decide_eq_true (by omega)
    have g1' : decide (200 < n) = true := decide_eq_true h2
    clear h2 hr hl
    go_enter Try.func50, Try.ntmps50
    go_wp2_with fail
    go_ret2
    rw [HE.out, HV.out]
    exact ⟨rfl, Below.refl _ _⟩
  have g1 : decide ((200 : Int) < (n : Int)) = false := decide_eq_false (by omega)
  have g1' : decide (200 < n) = false := decide_eq_false h2
  have hn2 : n ≤ 200 := by omega
  have HEB : Hid (getE l = if inB l then 0 else 1) := by unfold Hid getE; rw [if_neg (by omega)]
  have HR := Lib.hid hr
  have HL := Lib.hid hl
  clear hr hl h2 hn
  go_enter Try.func50, Try.ntmps50
  go_wp2_with fail
  refine (frontShelf_any _).mono ?_
  rintro e w1 ⟨g, rfl, hg, hB, hb1⟩
  have hgl := hB.lt
  have HP : Hid (GetAt w w1 g 0 l (.slice none 0 0)) := ⟨hB, ⟨rfl, .inl ⟨rfl, rfl⟩⟩, hgl, hg, hb1⟩
  clear hB hb1 hgl
  go_wp2_with fail
  go_loopw [5, 14] (fun o i wr => ∃ k : Nat, k ≤ n ∧ i = .int .i64 k ∧ (∀ j, j < k → 0 ≤ l.getD j 0 ∧ l.getD j 0 ≤ 255) ∧ GetAt w wr g k l o) (fun _ i _ => n - (intOf i).toNat)
  case atStart => exact ⟨0, Nat.zero_le _, rfl, fun j h => by omega, HP.out⟩
  case round =>
    clear HP
    obtain ⟨k, hk, rfl, hin, hP⟩ := hrel
    have HIN := Lib.hid hin
    clear hin
    by_cases hlt : k < n
    · have g2 : decide ((k : Int) < (n : Int)) = true := decide_eq_true (by omega)
      obtain ⟨ad, u, rfl, hab, hu, hc⟩ := (HR.out.below hP.b).at_ hlt
      rw [ints_getD l k (by rw [HL.out]; exact hlt)] at hu
      obtain rfl := Option.some.inj hu
      clear hu
      have HSN := Lib.hid (natsOf_snoc l (k := k) (by rw [HL.out]; exact hlt))
      have HPA := Lib.hid hP
      clear hP
      by_cases hx : 0 ≤ l.getD k 0 ∧ l.getD k 0 ≤ 255
      · have HIN2 : Hid (∀ j, j < k + 1 → 0 ≤ l.getD j 0 ∧ l.getD j 0 ≤ 255) := fun j hj => by
          by_cases e : j = k
          · subst e; exact hx
          · exact HIN.out j (by omega)
        clear HIN
        generalize l.getD k 0 = x at *
        obtain ⟨m, rfl⟩ : ∃ m : Nat, x = (m : Int) := ⟨x.toNat, by omega⟩
        have hm : m < 256 := by omega
        clear hx
        have g3 : decide ((m : Int) < 0) = false := decide_eq_false (by omega)
        have g4 : decide ((255 : Int) < (m : Int)) = false := decide_eq_false (by omega)
        have g4' : decide (255 < m) = false := decide_eq_false (by omega)
        rw [show ((m : Int)).toNat = m from rfl] at HSN
        have HGF := Lib.hid (gets_front (natsOf (l.take k)) m hm)
        have HGS := Lib.hid (gets_snoc (natsOf (l.take k)) m)
        have HSL := Lib.hid (shelfA_len (gets (natsOf (l.take k))))
        have HTK := Lib.hid (frontTake_any (shelfA (gets (natsOf (l.take k)))) g m wr HPA.out.sh HSL.out hm)
        go_wp2_with fail
        refine (HTK.out).mono ?_
        rintro e w5 ⟨rfl, hB5, hg5⟩
        have HO5 := Lib.hid (HPA.out.own5 hg5)
        have HST5 : Hid (∀ w6 v6, Below (g + 1) w5 w6 → w6.ownsRow (g + 1) 5 1 v6 (k + 1) (byteCells (gets (natsOf (l.take (k + 1))))) → GetAt w w6 g (k + 1) l v6) := fun w6 v6 h1 h2 => HPA.out.step hg5 (by rw [HSN.out, HGF.out]; exact hB5) h1 h2
        have h35 : g + 1 ≤ w5.heap.size := Nat.le_trans HPA.out.lt hg5.size
        have HIN : Hid (byteCells (gets (natsOf (l.take k))) ++ [.int .u8 (((shelfA (gets (natsOf (l.take k)))).getD m 0).toNat : Int)] = byteCells (gets (natsOf (l.take (k + 1))))) := by unfold Hid; rw [HSN.out, HGS.out]; simp [byteCells]
        clear HPA hB5 hg5 HSN HGF HGS HTK HSL
        generalize ((shelfA (gets (natsOf (l.take k)))).getD m 0).toNat = y at *
        go_wp2_with (at_builtin; go_must (refine wpList_appG rfl _ _ _ rfl (g + 1) 5 i0 _ 1 1 Try.underlying52 hi0 hz0 hz1 hz2 rfl (by omega) _ k (byteCells (gets (natsOf (l.take k)))) rfl (World.ownsRow.alloc (w := w5) HO5.out _) ⟨w5.heap.size, 0, none⟩ 1 1 [.int .u8 (y : Int)] rfl rfl (cell_one_new _ _ _) (by simp [Value.oneCell']) (by omega) (by omega) (by simp; omega) ?_); intro v6 w6 hown6 hg6 hb6)
        rw [HIN.out] at hown6
        have HPN := Lib.hid (HST5.out w6 v6 (((Below.refl _ _).alloc h35 _).trans hb6) hown6)
        clear hown6 hg6 hb6 HST5 HO5
        go_roundw
        case rel => exact ⟨k + 1, by omega, by go_num, HIN2.out, HPN.out⟩
        case measure => simp [intOf]; omega
      · have hnb : inB l = false := by
          unfold inB; rw [List.all_eq_false]
          refine ⟨l.getD k 0, ?_, by simpa using hx⟩
          rw [List.getD_eq_getElem?_getD, List.getElem?_eq_getElem (by rw [HL.out]; exact hlt)]
          exact List.getElem_mem _
        have HE : Hid (getE l = 1) := by unfold Hid; rw [HEB.out, hnb]; rfl
        have HV : Hid (getV l = []) := by unfold Hid getV; rw [HE.out, if_neg (by decide)]
        have hb := HPA.out.b
        clear hnb HPA HIN HSN
        generalize l.getD k 0 = x at *
        by_cases hx0 : x < 0
        · have g3 : decide (x < 0) = true := decide_eq_true hx0
          clear hx
          go_wp2_with fail
          go_ret2
          rw [HE.out, HV.out]
          exact ⟨rfl, hb⟩
        · have g3 : decide (x < 0) = false := decide_eq_false hx0
          have g4 : decide (255 < x) = true := decide_eq_true (by omega)
          clear hx
          go_wp2_with fail
          go_ret2
          rw [HE.out, HV.out]
          exact ⟨rfl, hb⟩
    · obtain rfl : k = n := by omega
      have g2 : decide ((k : Int) < (k : Int)) = false := by simp
      have hib : inB l = true := by
        unfold inB; rw [List.all_eq_true]
        intro x hx
        obtain ⟨j, hj, rfl⟩ := List.getElem_of_mem hx
        have := HIN.out j (by rw [← HL.out]; exact hj)
        rw [List.getD_eq_getElem?_getD, List.getElem?_eq_getElem hj] at this
        simpa using this
      have HE : Hid (getE l = 0) := by unfold Hid; rw [HEB.out, hib]; rfl
      have HV : Hid (getV l = gets (natsOf l)) := by unfold Hid getV; rw [HE.out, if_pos rfl]
      have hb := hP.b
      have ho := hP.out
      rw [List.take_of_length_le (by rw [HL.out]; exact Nat.le_refl _)] at ho
      have e9 : (gets (natsOf l)).length = k := by rw [gets_len]; unfold natsOf; rw [List.length_map, HL.out]
      obtain ⟨A9, c9, rfl, _, _, hrd⟩ := own_form ho
      have hcv := run_bytes_string (P := Try.prog) wr Try.underlying52 Try.underlying5 Try.underlying9 hrd (c := c9)
      change _ = Result.ok (Value.string (S (gets (natsOf l)))) _ at hcv
      clear hP ho hib hrd e9
      go_wp2_with fail
      go_ret2
      rw [HE.out, HV.out]
      exact ⟨rfl, hb⟩
end Go.Proofs.Ytolnhplgaolieaa
