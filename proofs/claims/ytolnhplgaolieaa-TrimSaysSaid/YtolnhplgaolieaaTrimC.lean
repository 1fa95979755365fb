/- trim.Many, trim.Two, walked. -/
import Derived.Test.YtolnhplgaolieaaTrimB
namespace Go.Proofs.Ytolnhplgaolieaa
open Go.RowKit
/-- A script that lies somewhere: its slice, and what it reads as. -/
structure Sc where
  A : Option Addr
  n : Nat
  c : Nat
  l : List Ed
deriving Inhabited
def scCell (x : Sc) : List Value := [.slice x.A x.n x.c]
def scCells (l : List Sc) : List Value := l.flatMap scCell
theorem sc_len (x : Sc) : (scCell x).length = 1 := rfl
structure ScOk (w : World) (B : Nat) (x : Sc) : Prop where
  nc : x.n ≤ x.c
  cm : x.c ≤ maxLen
  rd : Rd w B 3 x.A x.n (edCells x.l)
theorem ScOk.below {w w' : World} {B : Nat} {x : Sc} (h : ScOk w B x) (hb : Below B w w') : ScOk w' B x := ⟨h.nc, h.cm, h.rd.below hb⟩
theorem ScOk.len {w : World} {B : Nat} {x : Sc} (h : ScOk w B x) : x.l.length = x.n := Rd.rec_len ed_len (by omega) h.rd
theorem Rd.at_sc {w : World} {B n : Nat} {A : Option Addr} {l : List Sc} (h : Rd w B 1 A n (scCells l)) {k : Nat} (hk : k < n) :
    ∃ ad, ∃ hl : k < l.length, A = some ad ∧ ad.block < B ∧ w.cell? (ad.add k) = some (.slice l[k].A l[k].n l[k].c) := by
  obtain ⟨ad, hl, e, hb, hc⟩ := Rd.at_rec sc_len (by omega) h hk
  have := hc 0 _ rfl
  rw [Nat.mul_one] at this
  exact ⟨ad, hl, e, hb, this⟩
/-- Script by script. -/
def tmGo : List Tc → List (List Ed) → Int × List Tc
  | cs, [] => (0, cs)
  | cs, e :: r => if edErr cs.length e = 0 then tmGo (tApply cs 0 e) r else (edErr cs.length e, [])
def scLists (l : List Sc) : List (List Ed) := l.map (·.l)
def tmAll (n : Nat) (l : List Sc) : Int × List Tc := tmGo (tStart n) (scLists l)
def manyErr (n : Int) (l : List Sc) : Int := if n < 0 ∨ 200 < n then 1 else if 30 < l.length then 2 else if (tmAll n.toNat l).1 ≠ 0 then (tmAll n.toNat l).1 else scrE n (tmAll n.toNat l).2
def manyOut (n : Int) (l : List Sc) : List Ed := scr 0 [] ((tmAll n.toNat l).2 ++ [(n, 0)])
/-- Where the scripts stand. -/
structure TmAt (n : Nat) (l : List Sc) (k : Nat) (cs : List Tc) (wh : List Int) : Prop where
  kl : k ≤ l.length
  eq : tmAll n l = tmGo cs ((scLists l).drop k)
  wh : Wh n cs wh
  sm : cs.length ≤ 200
theorem TmAt.start {n : Nat} (h : n ≤ 200) (l : List Sc) : TmAt n l 0 (tStart n) (wStart n) := ⟨Nat.zero_le _, rfl, Wh.start n, by simpa [tStart] using h⟩
theorem scLists_drop (l : List Sc) {k : Nat} (h : k < l.length) : (scLists l).drop k = l[k].l :: (scLists l).drop (k + 1) := by
  unfold scLists
  rw [List.drop_eq_getElem_cons (by rw [List.length_map]; exact h), List.getElem_map]
theorem TmAt.step {n k : Nat} {l : List Sc} {cs : List Tc} {wh : List Int} (h : TmAt n l k cs wh) (hk : k < l.length) (he : edErr cs.length l[k].l = 0) : TmAt n l (k + 1) (tApply cs 0 l[k].l) (wh.map (wOne l[k].l)) :=
  ⟨hk, by rw [h.eq, scLists_drop l hk, tmGo, if_pos he], h.wh.step he, (tApply_len he).2⟩
theorem TmAt.bad {n k : Nat} {l : List Sc} {cs : List Tc} {wh : List Int} (h : TmAt n l k cs wh) (hk : k < l.length) (he : edErr cs.length l[k].l ≠ 0) (h0 : n ≤ 200) (h1 : l.length ≤ 30) : manyErr n l = edErr cs.length l[k].l := by
  have e : tmAll (n : Int).toNat l = (edErr cs.length l[k].l, []) := by
    rw [Int.toNat_natCast, h.eq, scLists_drop l hk, tmGo, if_neg he]
  unfold manyErr
  rw [if_neg (by omega), if_neg (by omega), e]
  exact if_pos he
theorem TmAt.fin {n : Nat} {l : List Sc} {cs : List Tc} {wh : List Int} (h : TmAt n l l.length cs wh) (h0 : n ≤ 200) (h1 : l.length ≤ 30) : manyErr n l = scrE n cs ∧ manyOut n l = scr 0 [] (cs ++ [((n : Int), 0)]) := by
  have e : tmAll (n : Int).toNat l = (0, cs) := by
    rw [Int.toNat_natCast, h.eq, List.drop_eq_nil_of_le (by simp [scLists]), tmGo]
  unfold manyErr manyOut
  rw [if_neg (by omega), if_neg (by omega), e]
  exact ⟨if_neg (fun h => h rfl), rfl⟩
theorem tStart_snoc (k : Nat) : tStart (k + 1) = tStart k ++ [((k : Int), 0)] := by unfold tStart; rw [List.range_succ, List.map_append]; rfl
theorem tStart_len (k : Nat) : (tStart k).length = k := by simp [tStart]
set_option maxRecDepth 100000 in
set_option maxHeartbeats 4000000 in
theorem trimMany_any (n : Int) (l : List Sc) (A : Option Addr) (m c B : Nat) (w : World) (hr : Rd w B 1 A m (scCells l)) (hq : ∀ x ∈ l, ScOk w B x) (hB : B ≤ w.heap.size) (hm : m ≤ 9223372036854775807) :
    Calls Try.prog 73 #[.int .i64 n, .slice A m c] w fun e w' => ∃ v', e = .returned (.tuple #[v', .int .i64 (manyErr n l)]) ∧ (manyErr n l ≠ 0 → v' = .slice none 0 0) ∧
      (manyErr n l = 0 → w'.ownsRow w.heap.size 73 3 v' (manyOut n l).length (edCells (manyOut n l))) ∧ Below w.heap.size w w' := by
  obtain ⟨i0, hi0, hz0, hz1, hz2⟩ := info_parts info_tc
  have hlen := Rd.rec_len sc_len (by omega) hr
  have HR := Lib.hid hr; clear hr
  have HQ := Lib.hid hq; clear hq
  have HL := Lib.hid hlen; clear hlen
  by_cases h0 : n < 0
  · have g1 : decide (n < 0) = true := decide_eq_true h0
    have HE : Hid (manyErr n l = 1) := by unfold Hid manyErr; rw [if_pos (.inl h0)]
    go_enter Try.func73, Try.ntmps73
    go_wp2_with fail
    go_ret2
    exact ⟨_, by rw [HE.out]; rfl, fun _ => rfl, fun h => by rw [HE.out] at h; (cases h), Below.refl _ _⟩
  have g1 : decide (n < 0) = false := decide_eq_false h0
  by_cases h2 : 200 < n
  · have g2 : decide (200 < n) = true := decide_eq_true h2
    have HE : Hid (manyErr n l = 1) := by unfold Hid manyErr; rw [if_pos (.inr h2)]
    go_enter Try.func73, Try.ntmps73
    go_wp2_with fail
    go_ret2
    exact ⟨_, by rw [HE.out]; rfl, fun _ => rfl, fun h => by rw [HE.out] at h; (cases h), Below.refl _ _⟩
  obtain ⟨n, rfl⟩ := Int.eq_ofNat_of_zero_le (Int.not_lt.1 h0)
  have g2 : decide ((200 : Int) < (n : Int)) = false := decide_eq_false h2
  have g2' : decide (200 < n) = false := decide_eq_false (by omega)
  have hn : n ≤ 200 := by omega
  by_cases h3 : 30 < m
  · have g3 : decide ((30 : Int) < (m : Int)) = true := decide_eq_true (by omega)
    have g3' : decide (30 < m) = true := decide_eq_true h3
    have HE : Hid (manyErr n l = 2) := by unfold Hid manyErr; rw [if_neg (by omega), if_pos (by rw [HL.out]; exact h3)]
    clear h0 h2
    go_enter Try.func73, Try.ntmps73
    go_wp2_with fail
    go_ret2
    exact ⟨_, by rw [HE.out]; rfl, fun _ => rfl, fun h => by rw [HE.out] at h; (cases h), Below.refl _ _⟩
  have g3 : decide ((30 : Int) < (m : Int)) = false := decide_eq_false (by omega)
  have g3' : decide (30 < m) = false := decide_eq_false h3
  have hm30 : m ≤ 30 := by omega
  have HSN : Hid (∀ k, tcCells (tStart k) ++ [.int .i64 (k : Int), .int .u8 0] = tcCells (tStart (k + 1))) := fun k => by rw [tStart_snoc, tcCells_app, tcCells_one]; rfl
  clear h0 h2 h3
  go_enter Try.func73, Try.ntmps73
  go_wp2_with fail
  go_loopw [6, 21] (fun o i wr => ∃ k : Nat, k ≤ n ∧ i = .int .i64 k ∧ wr.ownsRow w.heap.size 161 2 o k (tcCells (tStart k)) ∧ Below w.heap.size w wr) (fun _ i _ => n - (intOf i).toNat)
  case atStart => exact ⟨0, Nat.zero_le _, rfl, World.ownsRow_nil _ _ _ _, Below.refl _ _⟩
  case round =>
    obtain ⟨k, hk, rfl, ho, hb⟩ := hrel
    have HO := Lib.hid ho
    clear ho
    by_cases hlt : k < n
    · have g4 : decide ((k : Int) < (n : Int)) = true := decide_eq_true (by omega)
      have hbs := hb.size
      go_wp2_with (at_builtin; go_must (refine wpList_appG rfl _ _ _ rfl w.heap.size 161 i0 _ 2 16 Try.underlying159 hi0 hz0 hz1 hz2 rfl (by omega) _ k (tcCells (tStart k)) rfl (HO.out.alloc _) ⟨wr.heap.size, 0, none⟩ 1 1 [.int .i64 (k : Int), .int .u8 0] rfl rfl (cells_new2 _ _ _ _) (by simp [Value.oneCell']) (by omega) (by omega) (by simp; omega) ?_); intro v6 w6 hown6 hg6 hb6)
      rw [HSN.out] at hown6
      have HO6 := Lib.hid hown6
      have hb6' := (hb.alloc hbs _).trans hb6
      clear hown6 hg6 hb6
      go_roundw
      case rel => exact ⟨k + 1, by omega, by go_num, HO6.out, hb6'⟩
      case measure => simp [intOf]; omega
    · obtain rfl : k = n := by omega
      have g4 : decide ((k : Int) < (k : Int)) = false := by simp
      have HT := Lib.hid (TmAt.start hn l)
      go_wp2_with fail
      go_loopw [6, 32] (fun o i wr' => ∃ (j : Nat) (cs : List Tc) (wh : List Int), TmAt k l j cs wh ∧ i = .int .i64 j ∧ wr'.ownsRow w.heap.size 161 2 o cs.length (tcCells cs) ∧ Below w.heap.size w wr') (fun _ i _ => m - (intOf i).toNat)
      case atStart => exact ⟨0, _, _, HT.out, rfl, by rw [tStart_len]; exact HO.out, hb⟩
      case round =>
        clear HT HO hb
        obtain ⟨j, cs, wh, hT, rfl, ho, hb⟩ := hrel
        have hj := hT.kl
        rw [HL.out] at hj
        have hsm := hT.sm
        have HT := Lib.hid hT
        obtain ⟨A5, c5, rfl, hc5, hcm5, hrd5⟩ := own_form ho
        have HO := Lib.hid ho
        have HR5 := Lib.hid hrd5
        have hbs := hb.size
        clear hT ho hrd5
        by_cases hlj : j < m
        · have g5 : decide ((j : Int) < (m : Int)) = true := decide_eq_true (by omega)
          obtain ⟨ad, hl, rfl, hab, cc⟩ := (HR.out.below (hb.mono hB)).at_sc hlj
          have hok := (HQ.out _ (List.getElem_mem hl)).below (hb.mono hB)
          have HOK := Lib.hid hok
          have hnm : l[j].n ≤ 9223372036854775807 := by have h1 := hok.nc; have h2 := hok.cm; unfold maxLen at h2; omega
          have HST := Lib.hid (HT.out.step hl)
          have HBD : Hid (edErr cs.length l[j].l ≠ 0 → manyErr k l = edErr cs.length l[j].l) := fun h => HT.out.bad hl h hn (by rw [HL.out]; exact hm30)
          clear hok
          generalize l[j] = x at *
          obtain ⟨xA, xn, xc, xl⟩ := x
          simp only at cc hnm HST HBD
          go_wp2_with fail
          refine (edCheck_any cs.length xl xA xn xc B _ HOK.out.rd (Nat.le_trans hB hbs) hnm).mono ?_
          rintro e w2 ⟨rfl, hb2⟩
          have hb2' := bthen hb hb2
          by_cases he : edErr cs.length xl = 0
          · have g6 : (edErr cs.length xl != 0) = false := by rw [he]; rfl
            have HST2 := Lib.hid (HST.out he)
            have HE := Lib.hid he
            have hs2 := hb2.size
            clear HST HBD he
            go_wp2_with fail
            refine (trimApply_any cs A5 cs.length c5 xl xA xn xc w2.heap.size w2 ((HR5.out.below hb2).more hs2) ((HOK.out.rd.below (hb2.mono (Nat.le_trans hB hbs))).more (Nat.le_trans hB (Nat.le_trans hbs hs2))) (Nat.le_refl _) hc5 hcm5 HE.out).mono ?_
            rintro e w3 ⟨v3, rfl, hown3, hb3⟩
            have HO3 := Lib.hid (own_lower hown3 (Nat.le_trans hbs hs2))
            have hb3' := bthen hb2' hb3
            clear hown3 hb3
            go_wp2_with fail
            go_roundw
            case rel => exact ⟨j + 1, _, _, HST2.out, by go_num, HO3.out, hb3'⟩
            case measure => simp [intOf]; omega
          · have g6 : (edErr cs.length xl != 0) = true := by simpa using he
            have HE2 := Lib.hid (HBD.out he)
            have HE := Lib.hid he
            clear HST HBD he
            go_wp2_with fail
            go_ret2
            exact ⟨_, by rw [HE2.out]; rfl, fun _ => rfl, fun h => absurd (by rw [← HE2.out]; exact h) HE.out, hb2'⟩
        · obtain rfl : j = m := by omega
          have g5 : decide ((j : Int) < (j : Int)) = false := by simp
          have hT2 : TmAt k l l.length cs wh := by have := HT.out; rw [HL.out]; exact this
          obtain ⟨hf1, hf2⟩ := hT2.fin hn (by rw [HL.out]; exact hm30)
          have HF1 := Lib.hid hf1
          have HF2 := Lib.hid hf2
          have HLT : Hid (∀ c ∈ cs, -1 ≤ c.1 ∧ c.1 < k) := fun c hc => ⟨HT.out.wh.lo _ (List.mem_map_of_mem hc), HT.out.wh.lt _ (List.mem_map_of_mem hc)⟩
          clear hT2 hf1 hf2
          go_wp2_with fail
          refine (trimScript_any k cs w.heap.size _ wr HO.out hbs hn hsm HLT.out).mono ?_
          rintro e w2 ⟨v2, rfl, hv0, hv1, hb2⟩
          have HV0 := Lib.hid hv0
          have HV1 := Lib.hid hv1
          have hb2' := hb.trans hb2
          clear hv0 hv1 hb2
          go_wp2_with fail
          go_ret2
          refine ⟨_, by rw [HF1.out]; rfl, fun h => HV0.out (by rw [← HF1.out]; exact h), fun h => ?_, hb2'⟩
          rw [HF2.out]
          exact own_lower (HV1.out (by rw [← HF1.out]; exact h)) hbs
end Go.Proofs.Ytolnhplgaolieaa
