/- The tree of words in memory; where a byte leads; a step. -/
import Derived.Test.YtmmamdjbbpeifaaTri2
import Derived.Test.YtmmamdjbbpeifaaApp
import Derived.Test.YtmmamdjbbpeifaaEditW
namespace Go.Proofs.Ytmmamdjbbpeifaa
open Go.RowKit
/-- A node as it lies in memory: its edges' row, its fall-back, its end. -/
structure Tm where
  A : Option Addr
  c : Nat
  nx : List (UInt8 × Nat)
  fl : Nat
  en : Int
def Tm.cells (x : Tm) : List Value := [.slice x.A x.nx.length x.c, .int .i64 (x.fl : Int), .int .i64 x.en]
def tmCells (l : List Tm) : List Value := l.flatMap Tm.cells
def Tm.nd (x : Tm) : TNd := ⟨x.nx, x.fl, x.en⟩
theorem tm_len (x : Tm) : x.cells.length = 3 := rfl
theorem tmCells_len (l : List Tm) : (tmCells l).length = l.length * 3 := flat_len tm_len l
theorem tmCells_append (a b : List Tm) : tmCells (a ++ b) = tmCells a ++ tmCells b := by simp [tmCells]
def egC (e : UInt8 × Nat) : List Value := [.int .u8 (e.1.toNat : Int), .int .i64 (e.2 : Int)]
def egCells (l : List (UInt8 × Nat)) : List Value := l.flatMap egC
theorem eg_len (x : UInt8 × Nat) : (egC x).length = 2 := rfl
theorem egCells_len (l : List (UInt8 × Nat)) : (egCells l).length = l.length * 2 := flat_len eg_len l
theorem egCells_append (a b : List (UInt8 × Nat)) : egCells (a ++ b) = egCells a ++ egCells b := by simp [egCells]
theorem eg_at {w : World} {B n k : Nat} {A : Option Addr} {l : List (UInt8 × Nat)} (h : Rd w B 2 A n (egCells l)) (hk : k < n) : ∃ ad, ∃ hl : k < l.length, A = some ad ∧ ad.block < B ∧ w.cell? (ad.add (k * 2)) = some (.int .u8 (l[k].1.toNat : Int)) ∧ w.cell? ⟨(ad.add (k * 2)).block, (ad.add (k * 2)).off + 1, none⟩ = some (.int .i64 (l[k].2 : Int)) := by
  obtain ⟨ad, hl, e, hb, hc⟩ := Rd.at_rec eg_len (by omega) h hk
  refine ⟨ad, hl, e, hb, hc 0 _ rfl, ?_⟩
  have h1 := hc 1 _ rfl
  rwa [← add_add] at h1
theorem tm_at {w : World} {B n k : Nat} {A : Option Addr} {l : List Tm} (h : Rd w B 3 A n (tmCells l)) (hk : k < n) : ∃ ad, ∃ hl : k < l.length, A = some ad ∧ ad.block < B ∧ w.cell? (ad.add (k * 3)) = some (.slice l[k].A l[k].nx.length l[k].c) ∧ w.cell? ⟨(ad.add (k * 3)).block, (ad.add (k * 3)).off + 1, none⟩ = some (.int .i64 (l[k].fl : Int)) ∧ w.cell? ⟨(ad.add (k * 3)).block, (ad.add (k * 3)).off + 2, none⟩ = some (.int .i64 l[k].en) := by
  obtain ⟨ad, hl, e, hb, hc⟩ := Rd.at_rec tm_len (by omega) h hk
  refine ⟨ad, hl, e, hb, hc 0 _ rfl, ?_, ?_⟩
  · have h1 := hc 1 _ rfl
    rwa [← add_add] at h1
  · have h1 := hc 2 _ rfl
    rwa [← add_add] at h1
theorem leadN_drop {nx : List (UInt8 × Nat)} {k : Nat} (hk : k < nx.length) (b : UInt8) : leadN (nx.drop k) b = if nx[k].1 = b then nx[k].2 else leadN (nx.drop (k + 1)) b := by
  rw [List.drop_eq_getElem_cons hk]
  rcases nx[k] with ⟨x, j⟩
  rfl
set_option maxRecDepth 100000 in
set_option maxHeartbeats 2000000 in
theorem lead_any (nx : List (UInt8 × Nat)) (A : Option Addr) (c fl : Nat) (en : Int) (b : UInt8) (B : Nat) (w : World) (hr : Rd w B 2 A nx.length (egCells nx)) (hB : B ≤ w.heap.size) (hl : nx.length ≤ 1000000) :
    Calls Try.prog 76 #[.agg #[.slice A nx.length c, .int .i64 (fl : Int), .int .i64 en], .int .u8 (b.toNat : Int)] w fun e w' => e = .returned (.int .i64 ((leadN nx b : Nat) : Int)) ∧ Below w.heap.size w w' := by
  have HR := Lib.hid hr
  clear hr
  go_enter Try.func76, Try.ntmps76
  go_wp2_with fail
  go_loopw [10] (fun kv wr => ∃ k : Nat, k ≤ nx.length ∧ kv = .int .i64 (k : Int) ∧ Hid (leadN nx b = leadN (nx.drop k) b) ∧ Below w.heap.size w wr) (fun kv _ => nx.length - (intOf kv).toNat)
  case atStart => exact ⟨0, Nat.zero_le _, rfl, rfl, (by repeat (first | exact Below.refl _ _ | assumption | refine Below.alloc ?_ (by first | exact Nat.le_refl _ | assumption | omega | (simp <;> omega)) _ | refine Below.setCell ?_ (by first | exact Nat.le_refl _ | assumption | omega | (simp <;> omega)) _ | refine Below.drew ?_ | refine below_drewN ?_ _))⟩
  case round =>
    obtain ⟨k, hk, rfl, HN, hb⟩ := hrel
    have hbs := hb.size
    by_cases hlt : k < nx.length
    · have g1 : decide ((k : Int) < (nx.length : Int)) = true := decide_eq_true (by omega)
      have g1' : decide (k < nx.length) = true := decide_eq_true hlt
      obtain ⟨ad, hl2, rfl, _, c0, c1⟩ := eg_at (HR.out.below (hb.mono hB)) hlt
      have HD := Lib.hid (leadN_drop hlt b)
      generalize nx[k] = e at *
      obtain ⟨x, j⟩ := e
      by_cases hx : x = b
      · have HV : Hid (leadN nx b = j) := by rw [Hid, HN.out, HD.out, if_pos hx]
        have g2 : ((x.toNat : Int) == (b.toNat : Int)) = true := by rw [beq_iff_eq, hx]
        have g2' : (x.toNat == b.toNat) = true := by rw [beq_iff_eq, hx]
        clear HD HN hx
        go_wp2_with fail
        go_ret
        rw [HV.out]
        exact ⟨rfl, (by repeat (first | exact Below.refl _ _ | assumption | refine Below.alloc ?_ (by first | exact Nat.le_refl _ | assumption | omega | (simp <;> omega)) _ | refine Below.setCell ?_ (by first | exact Nat.le_refl _ | assumption | omega | (simp <;> omega)) _ | refine Below.drew ?_ | refine below_drewN ?_ _))⟩
      · have HV : Hid (leadN nx b = leadN (nx.drop (k + 1)) b) := by rw [Hid, HN.out, HD.out, if_neg hx]
        have hx2 : x.toNat ≠ b.toNat := fun h => hx (UInt8.toNat_inj.1 h)
        have g2 : ((x.toNat : Int) == (b.toNat : Int)) = false := by rw [beq_eq_false_iff_ne]; omega
        have g2' : (x.toNat == b.toNat) = false := by rw [beq_eq_false_iff_ne]; exact hx2
        clear HD HN hx hx2
        go_wp2_with fail
        go_roundw
        case rel => exact ⟨k + 1, by omega, by go_num, HV.out, (by repeat (first | exact Below.refl _ _ | assumption | refine Below.alloc ?_ (by first | exact Nat.le_refl _ | assumption | omega | (simp <;> omega)) _ | refine Below.setCell ?_ (by first | exact Nat.le_refl _ | assumption | omega | (simp <;> omega)) _ | refine Below.drew ?_ | refine below_drewN ?_ _))⟩
        case measure => simp [intOf]; omega
    · have hke : k = nx.length := by omega
      have g1 : decide ((k : Int) < (nx.length : Int)) = false := decide_eq_false (by omega)
      have g1' : decide (k < nx.length) = false := decide_eq_false hlt
      have HV : Hid (leadN nx b = 0) := by rw [Hid, HN.out, hke, List.drop_length]; rfl
      clear HN hke
      go_wp2_with fail
      go_ret
      rw [HV.out]
      exact ⟨rfl, (by repeat (first | exact Below.refl _ _ | assumption | refine Below.alloc ?_ (by first | exact Nat.le_refl _ | assumption | omega | (simp <;> omega)) _ | refine Below.setCell ?_ (by first | exact Nat.le_refl _ | assumption | omega | (simp <;> omega)) _ | refine Below.drew ?_ | refine below_drewN ?_ _))⟩
/-- A tree of words that reads. -/
structure TrRd (w : World) (B : Nat) (A : Option Addr) (T : List Tm) : Prop where
  row : Rd w B 3 A T.length (tmCells T)
  nxs : ∀ x ∈ T, Rd w B 2 x.A x.nx.length (egCells x.nx)
theorem TrRd.below {w w' : World} {B : Nat} {A : Option Addr} {T : List Tm} (h : TrRd w B A T) (hb : Below B w w') : TrRd w' B A T := ⟨h.row.below hb, fun x hx => (h.nxs x hx).below hb⟩
theorem TrRd.more {w : World} {B B' : Nat} {A : Option Addr} {T : List Tm} (h : TrRd w B A T) (hb : B ≤ B') : TrRd w B' A T := ⟨h.row.more hb, fun x hx => (h.nxs x hx).more hb⟩
theorem nd_at {T : List Tm} {i : Nat} (h : i < T.length) : (T.map Tm.nd)[i]? = some (T[i]).nd := by rw [List.getElem?_map, List.getElem?_eq_getElem h]; rfl
theorem idxOf_wd {wd : List (List UInt8)} (hn : wd.Nodup) {j : Nat} {u : List UInt8} (h : wd[j]? = some u) : wd.idxOf u = j := idxOf_get hn h
set_option maxRecDepth 100000 in
set_option maxHeartbeats 4000000 in
theorem step_any (T : List Tm) (wd : List (List UInt8)) (A : Option Addr) (c i : Nat) (u : List UInt8) (b : UInt8) (B : Nat) (w : World) (hr : TrRd w B A T) (hB : B ≤ w.heap.size) (ht : TrOk wd (T.map Tm.nd)) (hnx : ∀ x ∈ T, x.nx.length ≤ 1000000)
    (hu : wd[i]? = some u) (hf : ∀ (k : Nat) v, wd[k]? = some v → v.length ≤ u.length → FlOk wd (T.map Tm.nd) k) :
    Calls Try.prog 49 #[.slice A T.length c, .int .i64 (i : Int), .int .u8 (b.toNat : Int)] w fun e w' => e = .returned (.int .i64 ((wd.idxOf (lsE wd (u ++ [b])) : Nat) : Int)) ∧ Below w.heap.size w w' := by
  have HR := Lib.hid hr
  have HT := Lib.hid ht
  have HF := Lib.hid hf
  have HU := Lib.hid hu
  have HNX := Lib.hid hnx
  have hwl : wd.length = T.length := by rw [← ht.len, List.length_map]
  have HWL := Lib.hid hwl
  clear hr ht hf hu hnx hwl
  go_enter Try.func49, Try.ntmps49
  go_wp2_with fail
  go_loopw [1] (fun iv wr => ∃ (k : Nat) (v : List UInt8), iv = .int .i64 (k : Int) ∧ Hid (wd[k]? = some v) ∧ v.length ≤ u.length ∧ Hid (lsE wd (u ++ [b]) = lsE wd (v ++ [b])) ∧ Below w.heap.size w wr) (fun iv _ => (wd.getD (intOf iv).toNat []).length)
  case atStart => exact ⟨i, u, rfl, HU.out, Nat.le_refl _, rfl, Below.refl _ _⟩
  case round =>
    obtain ⟨k, v, rfl, HV, hvl, HE, hb⟩ := hrel
    have hbs := hb.size
    have hk : k < T.length := by rw [← HWL.out]; exact (List.getElem?_eq_some_iff.1 HV.out).1
    have hrr := HR.out.below (hb.mono hB)
    obtain ⟨ad, hl2, rfl, hadB, c0, c1, c2⟩ := tm_at hrr.row hk
    have hnr := hrr.nxs _ (List.getElem_mem hl2)
    have HND := Lib.hid (nd_at hk)
    have hnl := HNX.out _ (List.getElem_mem hl2)
    have HLD := Lib.hid (HT.out.lead HND.out HV.out b)
    have HFK := Lib.hid (HF.out k v HV.out hvl)
    generalize T[k] = x at *
    obtain ⟨xA, xc, nx, fl, en⟩ := x
    have HCL := Lib.hid (lead_any nx xA xc fl en b B wr hnr (Nat.le_trans hB hbs) hnl)
    clear hrr hnr hnl
    have HLD2 : Hid ((leadN nx b = 0 ∧ v ++ [b] ∉ wd) ∨ (0 < leadN nx b ∧ wd[leadN nx b]? = some (v ++ [b]))) := HLD.out
    clear HLD
    go_wp2_with fail
    refine HCL.out.mono ?_
    rintro e w1 ⟨rfl, hb1⟩
    have hb01 := bthen hb hb1
    have hb01s := hb01.size
    have c1' := (hb1.cell (p := ⟨(ad.add (k * 3)).block, (ad.add (k * 3)).off + 1, none⟩) (by
      show (ad.add (k * 3)).block < _
      rw [blk_add]; omega)).trans c1
    generalize leadN nx b = j at *
    rcases Nat.eq_zero_or_pos j with hj | hj
    · subst hj
      have g1 : decide ((0 : Int) < ((0 : Nat) : Int)) = false := by decide
      have g1' : decide (0 < 0) = false := by decide
      have HNO : Hid (v ++ [b] ∉ wd) := by
        rcases HLD2.out with ⟨_, h⟩ | ⟨h, _⟩
        · exact h
        · omega
      clear HLD2
      by_cases hv : v = []
      · subst hv
        have hk0 : k = 0 := HT.out.zero HV.out
        subst hk0
        have HJ : Hid (wd.idxOf (lsE wd (u ++ [b])) = 0) := by
          rw [Hid, HE.out, lsE_out0 HNO.out]
          exact idxOf_wd HT.out.nodup HT.out.root
        clear HNO HE HFK HND HV
        go_wp2_with fail
        go_ret
        rw [HJ.out]
        exact ⟨rfl, hb01⟩
      · have hk0 : k ≠ 0 := by
          intro h
          rw [h] at HV
          have := HV.out.symm.trans HT.out.root
          exact hv (Option.some.inj this)
        have g2 : ((k : Int) == 0) = false := by rw [beq_eq_false_iff_ne]; omega
        have g2' : (k == 0) = false := by rw [beq_eq_false_iff_ne]; exact hk0
        have HFL : Hid (wd[fl]? = some (lsE wd v.tail)) := HFK.out _ v HND.out HV.out hv
        have HEN : Hid (lsE wd (u ++ [b]) = lsE wd (lsE wd v.tail ++ [b])) := by
          rw [Hid, HE.out]
          exact lsE_out HT.out.nil_mem HT.out.pc HNO.out hv
        have hvl2 : (lsE wd v.tail).length < v.length := by
          have h1 := (lsE_suf (wd := wd) v.tail).length_le
          have h2 : 0 < v.length := List.length_pos_iff.2 hv
          rw [List.length_tail] at h1
          omega
        have hm1 : (wd.getD fl []).length < (wd.getD k []).length := by
          rw [getD_some HFL.out, getD_some HV.out]; exact hvl2
        have HM1 := Lib.hid hm1
        clear HNO HE HFK HND HV hm1
        go_wp2_with fail
        go_roundw
        case rel => exact ⟨fl, _, rfl, HFL.out, by omega, HEN.out, hb01⟩
        case measure => exact HM1.out
    · have g1 : decide ((0 : Int) < (j : Int)) = true := decide_eq_true (by omega)
      have g1' : decide (0 < j) = true := decide_eq_true hj
      have HJ : Hid (wd.idxOf (lsE wd (u ++ [b])) = j) := by
        rcases HLD2.out with ⟨h, _⟩ | ⟨_, h⟩
        · omega
        · rw [Hid, HE.out, lsE_in (List.mem_of_getElem? h)]
          exact idxOf_wd HT.out.nodup h
      clear HLD2
      go_wp2_with fail
      go_ret
      rw [HJ.out]
      exact ⟨rfl, hb01⟩
end Go.Proofs.Ytmmamdjbbpeifaa
