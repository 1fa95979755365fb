/- The document's line: a function that calls itself, walked. -/
import Derived.Test.YtolnhplgaolieaaRingA
import Derived.Test.YtolnhplgaolieaaTrimB
import Derived.Laws.EntriesVeiled
namespace Go.Proofs.Ytolnhplgaolieaa
open Go.RowKit
def aI (a : List Nat) : List Int := a.map fun x : Nat => (x : Int)
theorem aI_set (a : List Nat) (i x : Nat) : aI (a.set i x) = (aI a).set i (x : Int) := by simp [aI, List.map_set]
theorem aI_get (a : List Nat) (i : Nat) : (aI a).getD i 0 = ((a.getD i 0 : Nat) : Int) := by
  unfold aI
  rw [List.getD_eq_getElem?_getD, List.getElem?_map, List.getD_eq_getElem?_getD]
  cases a[i]? <;> rfl
/-- What the function's variables hold. -/
structure GnAt (w wr : World) (gK gN gA gO gG gR k n : Nat) (a : List Nat) (out : List UInt8) (vo : Value) : Prop where
  kb : Blk wr gK 3 #[.int .i64 (k : Int)]
  nb : Blk wr gN 3 #[.int .i64 (n : Int)]
  ab : Blk wr gA 25 #[.slice (some ⟨gR, 0, none⟩) (n + 1) (n + 1)]
  ob : Blk wr gO 52 #[vo]
  gb : Blk wr gG 170 #[.func (.func 128) #[] #[.pointer (some ⟨gN, 0, none⟩), .pointer (some ⟨gA, 0, none⟩), .pointer (some ⟨gO, 0, none⟩), .pointer (some ⟨gG, 0, none⟩), .pointer (some ⟨gK, 0, none⟩)]]
  ar : ArrI wr w.heap.size gR (n + 1) (aI a)
  ow : wr.ownsRow w.heap.size 5 1 vo out.length (byteCells out)
  hK : gK ≠ gR
  hN : gN ≠ gR
  hO : w.heap.size ≤ gO
  b : Below w.heap.size w wr
section
variable {w wr w6 : World} {gK gN gA gO gG gR k n : Nat} {a : List Nat} {out out2 : List UInt8} {vo v6 : Value}
theorem GnAt.hR (h : GnAt w wr gK gN gA gO gG gR k n a out vo) : w.heap.size ≤ gR := h.ar.lt.1
theorem GnAt.setA (h : GnAt w wr gK gN gA gO gG gR k n a out vo) (i x : Nat) : GnAt w (wr.setCell ⟨gR, i, none⟩ (.int .i64 (x : Int))) gK gN gA gO gG gR k n (a.set i x) out vo := by
  have hg : wr.grownBy (wr.setCell ⟨gR, i, none⟩ (.int .i64 (x : Int))) (some gR) := gb_set (gb_refl _ _) i _
  have hne : ∀ {g t cs}, Blk wr g t cs → 3 ≠ t → some g ≠ some gR := fun {g t cs} hb ht e => hb.ne_own h.ar ht (by rw [e]; rfl)
  refine ⟨h.kb.grown hg (fun e => h.hK (by injection e)), h.nb.grown hg (fun e => h.hN (by injection e)), h.ab.grown hg (hne h.ab (by decide)), h.ob.grown hg (hne h.ob (by decide)), h.gb.grown hg (hne h.gb (by decide)), ?_, ?_, h.hK, h.hN, h.hO, h.b.setCell h.hR _⟩
  · rw [aI_set]; exact h.ar.set_ i x
  · refine h.ow.kept hg ?_
    rcases own_ne_own h.ow h.ar (by decide) with e | e
    · exact .inl e
    · exact .inr e
theorem GnAt.drew (h : GnAt w wr gK gN gA gO gG gR k n a out vo) : GnAt w wr.drew gK gN gA gO gG gR k n a out vo :=
  ⟨h.kb, h.nb, h.ab, h.ob, h.gb, h.ar, h.ow, h.hK, h.hN, h.hO, h.b.drew⟩
theorem GnAt.app (h : GnAt w wr gK gN gA gO gG gR k n a out vo) {cs : Array Value} (hg : (wr.alloc (.cells cs 5)).grownBy w6 vo.ownBlock) (ho : w6.ownsRow w.heap.size 5 1 v6 out2.length (byteCells out2)) :
    Blk w6 gO 52 #[vo] ∧ GnAt w (w6.setCell ⟨gO, 0, none⟩ v6) gK gN gA gO gG gR k n a out2 v6 := by
  have h1 := h.ow.alloc (.cells cs 5)
  have hbl : ∀ {g t cs'}, Blk wr g t cs' → 5 ≠ t → Blk w6 g t cs' := fun {g t cs'} hb ht => (hb.alloc _).grown hg ((hb.alloc _).ne_own h1 ht)
  have hob := hbl h.ob (by decide)
  have hg2 : w6.grownBy (w6.setCell ⟨gO, 0, none⟩ v6) (some gO) := gb_set (gb_refl _ _) 0 _
  have har : w6.ownsRow w.heap.size 3 1 (.slice (some ⟨gR, 0, none⟩) (n + 1) (n + 1)) (n + 1) (ints (aI a)) := by
    have h2 := World.ownsRow.alloc h.ar (.cells cs 5)
    exact h2.kept hg (own_ne_own h2 h1 (by decide))
  have hne : ∀ {g t cs'}, Blk w6 g t cs' → 52 ≠ t → some g ≠ some gO := fun {g t cs'} hb ht e => by
    injection e with e
    subst e
    unfold Blk at hb hob
    rw [hb] at hob
    injection hob with hob
    injection hob with _ h4
    exact ht h4.symm
  refine ⟨hob, (hbl h.kb (by decide)).grown hg2 (hne (hbl h.kb (by decide)) (by decide)), (hbl h.nb (by decide)).grown hg2 (hne (hbl h.nb (by decide)) (by decide)), (hbl h.ab (by decide)).grown hg2 (hne (hbl h.ab (by decide)) (by decide)), ?_, (hbl h.gb (by decide)).grown hg2 (hne (hbl h.gb (by decide)) (by decide)), ?_, ?_, h.hK, h.hN, h.hO, ?_⟩
  · exact hob.set_ 0 v6
  · refine World.ownsRow.kept har hg2 (.inr fun e => ?_)
    exact hob.ne_own har (by decide) (by rw [e])
  · refine ho.kept hg2 ?_
    rcases Decidable.em (v6.ownBlock = some gO) with e | e
    · exact absurd e.symm (hob.ne_own ho (by decide))
    · exact .inr e
  · refine Below.setCell ?_ h.hO _
    exact (h.b.alloc h.b.size _).grown hg (by have := h.b.size; simp; omega) (fun k hk => (h1.lt k hk).1)
end
/-- What a call leaves. -/
def GnPost (w : World) (gK gN gA gO gG gR k n : Nat) (r : List Nat × List UInt8) (out : List UInt8) (e : Ending) (w' : World) : Prop :=
  e = .returned undef ∧ ∃ vo', GnAt w w' gK gN gA gO gG gR k n r.1 (out ++ r.2) vo'
theorem genF_succ (k n m p : Nat) (a : List Nat) : genF k n (m + 1) p a =
    (List.range (k - ((genF k n m p (a.set (n - m) (a.getD (n - m - p) 0))).1.getD (n - m - p) 0 + 1))).foldl (fun acc i => ((genF k n m (n - m) (acc.1.set (n - m) ((genF k n m p (a.set (n - m) (a.getD (n - m - p) 0))).1.getD (n - m - p) 0 + 1 + i))).1, acc.2 ++ (genF k n m (n - m) (acc.1.set (n - m) ((genF k n m p (a.set (n - m) (a.getD (n - m - p) 0))).1.getD (n - m - p) 0 + 1 + i))).2))
      (genF k n m p (a.set (n - m) (a.getD (n - m - p) 0))) := rfl
/-- So far as the last loop has come. -/
def accF (k n m x0 : Nat) (r : List Nat × List UInt8) (i : Nat) : List Nat × List UInt8 :=
  (List.range i).foldl (fun acc i => ((genF k n m (n - m) (acc.1.set (n - m) (x0 + i))).1, acc.2 ++ (genF k n m (n - m) (acc.1.set (n - m) (x0 + i))).2)) r
theorem accF_zero (k n m x0 : Nat) (r : List Nat × List UInt8) : accF k n m x0 r 0 = r := rfl
theorem accF_succ (k n m x0 : Nat) (r : List Nat × List UInt8) (i : Nat) : accF k n m x0 r (i + 1) =
    ((genF k n m (n - m) ((accF k n m x0 r i).1.set (n - m) (x0 + i))).1, (accF k n m x0 r i).2 ++ (genF k n m (n - m) ((accF k n m x0 r i).1.set (n - m) (x0 + i))).2) := by
  unfold accF; rw [List.range_succ, List.foldl_append]; rfl
theorem accF_le (k n m x0 : Nat) (r : List Nat × List UInt8) {i j : Nat} (h : i ≤ j) : (accF k n m x0 r i).2.length ≤ (accF k n m x0 r j).2.length := by
  induction j with
  | zero => obtain rfl : i = 0 := by omega
            exact Nat.le_refl _
  | succ j ih =>
    by_cases e : i = j + 1
    · subst e; exact Nat.le_refl _
    · refine Nat.le_trans (ih (by omega)) ?_
      rw [accF_succ, List.length_append]; omega
def smallA (k : Nat) (a : List Nat) : Prop := ∀ i, a.getD i 0 < k
theorem smallA_set {k : Nat} {a : List Nat} (h : smallA k a) (hk : 1 ≤ k) (i : Nat) {x : Nat} (hx : x < k) : smallA k (a.set i x) := fun j => by
  rw [List.getD_eq_getElem?_getD, List.getElem?_set]
  split
  · split
    · exact hx
    · exact hk
  · rw [← List.getD_eq_getElem?_getD]; exact h j
theorem genF_small (k n : Nat) (hk : 1 ≤ k) : ∀ (m p : Nat) (a : List Nat), smallA k a → smallA k (genF k n m p a).1
  | 0, p, a, h => h
  | m + 1, p, a, h => by
    rw [genF_succ]
    have h0 := genF_small k n hk m p _ (smallA_set h hk (n - m) (h (n - m - p)))
    generalize genF k n m p (a.set (n - m) (a.getD (n - m - p) 0)) = r at *
    have key : ∀ i, i ≤ k - (r.1.getD (n - m - p) 0 + 1) → smallA k (accF k n m (r.1.getD (n - m - p) 0 + 1) r i).1 := by
      intro i
      induction i with
      | zero => intro _; exact h0
      | succ i ih =>
        intro hi
        rw [accF_succ]
        exact genF_small k n hk m (n - m) _ (smallA_set (ih (by omega)) hk _ (by omega))
    exact key _ (Nat.le_refl _)
theorem accF_small (k n : Nat) (hk : 1 ≤ k) (m x0 : Nat) (r : List Nat × List UInt8) (h : smallA k r.1) : ∀ i, x0 + i ≤ k → smallA k (accF k n m x0 r i).1
  | 0, _ => h
  | i + 1, hi => by
    rw [accF_succ]
    exact genF_small k n hk m (n - m) _ (smallA_set (accF_small k n hk m x0 r h i (by omega)) hk _ (by omega))
theorem genF_acc (k n m p : Nat) (a : List Nat) (r : List Nat × List UInt8) (hr : genF k n m p (a.set (n - m) (a.getD (n - m - p) 0)) = r) : genF k n (m + 1) p a = accF k n m (r.1.getD (n - m - p) 0 + 1) r (k - (r.1.getD (n - m - p) 0 + 1)) := by
  rw [genF_succ, hr]; rfl
set_option maxRecDepth 100000 in
set_option maxHeartbeats 4000000 in
theorem gen_any (k n : Nat) (h1 : 1 ≤ k) (h8 : k ≤ 8) (hn1 : 1 ≤ n) (hn5 : n ≤ 512) (w : World) (gK gN gA gO gG gR : Nat) :
    ∀ (m : Nat), m ≤ n → ∀ (p : Nat) (a : List Nat) (out : List UInt8) (vo : Value) (wr : World), 1 ≤ p → p + m ≤ n + 1 → smallA k a → GnAt w wr gK gN gA gO gG gR k n a out vo → out.length + (genF k n m p a).2.length ≤ 512 →
    Calls Try.prog 128 #[.int .i64 ((n + 1 - m : Nat) : Int), .int .i64 (p : Int), .pointer (some ⟨gN, 0, none⟩), .pointer (some ⟨gA, 0, none⟩), .pointer (some ⟨gO, 0, none⟩), .pointer (some ⟨gG, 0, none⟩), .pointer (some ⟨gK, 0, none⟩)] wr
      (GnPost w gK gN gA gO gG gR k n (genF k n m p a) out) := by
  obtain ⟨j0, hj0, hy0, hy1, hy2⟩ := info_parts info_u8'
  intro m
  induction m with
  | zero =>
    intro _ p a out vo wr hp1 hp2 hsm hS hB
    have HS := Lib.hid hS
    have HSM := Lib.hid hsm
    have cN := Blk.cell0 hS.nb
    have g1 : decide ((n : Int) < (n : Int) + 1) = true := decide_eq_true (by omega)
    have hml := Nat.mod_lt n hp1
    have en : ((n + 1 - 0 : Nat) : Int) = (n : Int) + 1 := rfl
    rw [en]
    clear en
    by_cases hd : n % p = 0
    · have hpn : p ≤ n := Nat.le_of_dvd hn1 (Nat.dvd_of_mod_eq_zero hd)
      have g3 : (((n % p : Nat) : Int) == 0) = true := by rw [hd]; rfl
      have g3' : ((n : Int) % (p : Int) == 0) = true := by rw [← Int.natCast_emod]; exact g3
      have g3'' : (n % p == 0) = true := by rw [hd]; rfl
      have HG : Hid (genF k n 0 p a = (a, ((a.drop 1).take p).map sg)) := by unfold Hid; rw [genF, if_pos hd]
      have cA := Blk.cell0 hS.ab
      have hcut : ∀ W, (Instr.sliceAt 25 (.slice (some ⟨gR, 0, none⟩) (n + 1) (n + 1)) (some (.int .i64 1)) (some (.int .i64 ((p : Int) + 1))) none).run Try.prog W = .ok (.slice (some ⟨gR, 1, none⟩) p n) W := fun W => by
        have h9 := run_part (P := Try.prog) (t := 25) Try.underlying25 (size := 1) (by kernel_rfl) (some ⟨gR, 0, none⟩) (n + 1) (n + 1) 1 (p + 1) (by omega) (by omega) W
        rw [if_neg (by omega)] at h9
        exact h9
      clear hd hS hsm
      go_enter Try.func128, Try.ntmps128
      have hrd := (Rd.of_own HS.out.ar).part (c := n + 1) (a := 1) (b := p + 1) (by omega) (by omega) (Nat.le_refl _)
      rw [if_neg (by omega)] at hrd
      have hrd2 : Rd wr wr.heap.size 1 (some ⟨gR, 1, none⟩) p (ints (((a.drop 1).take p).map fun x : Nat => (x : Int))) := by
        have e : ((ints (aI a)).drop (1 * 1)).take ((p + 1 - 1) * 1) = ints (((a.drop 1).take p).map fun x : Nat => (x : Int)) := by
          unfold ints aI
          rw [Nat.mul_one, Nat.mul_one, Nat.add_sub_cancel, List.map_take, List.map_drop, List.map_take, List.map_drop]
        rw [e] at hrd
        rw [Nat.add_sub_cancel] at hrd
        exact hrd
      have HRD := Lib.hid hrd2
      have HXS : Hid (∀ i, ((a.drop 1).take p).getD i 0 < k) := fun i => by
        rw [List.getD_eq_getElem?_getD, List.getElem?_take]
        split
        · rw [List.getElem?_drop, ← List.getD_eq_getElem?_getD]; exact HSM.out _
        · exact h1
      have hal : (aI a).length = n + 1 := HS.out.ar.len
      have hxl : ((a.drop 1).take p).length = p := by
        unfold aI at hal; rw [List.length_map] at hal
        rw [List.length_take, List.length_drop]; omega
      have HXL := Lib.hid hxl
      rw [HG.out] at hB
      have hB2 : out.length + p ≤ 512 := by have := hB; simp only [List.length_map] at this; omega
      clear hrd hrd2 hal hB
      generalize hxs : (a.drop 1).take p = xs at *
      have HXE := Lib.hid hxs
      clear hxs hxl
      have HS0 : Hid (GnAt w wr gK gN gA gO gG gR k n a (out ++ (xs.take 0).map sg) vo) := by unfold Hid; rw [List.take_zero]; simpa using HS.out
      go_wp2_with fail
      obtain ⟨wo, hwo⟩ : ∃ wo : World, wo = wr := ⟨_, rfl⟩
      subst hwo
      go_loopw [24] (fun i wr => ∃ (c : Nat) (vo' : Value), c ≤ p ∧ i = .int .i64 c ∧ GnAt w wr gK gN gA gO gG gR k n a (out ++ (xs.take c).map sg) vo') (fun i _ => p - (intOf i).toNat)
      case atStart => exact ⟨0, vo, Nat.zero_le _, rfl, HS0.out⟩
      case round =>
        clear HS0 HS HRD cN cA
        obtain ⟨c, vo', hc, rfl, hS⟩ := hrel
        have HS := Lib.hid hS
        by_cases hlt : c < p
        · have g5 : decide ((c : Int) < (p : Int)) = true := decide_eq_true (by omega)
          have hcl : c < xs.length := by rw [HXL.out]; exact hlt
          have hx := HXS.out c
          have ca := hS.ar.at_ (k := c + 1) (by omega)
          rw [aI_get] at ca
          have hxa : a.getD (c + 1) 0 = xs.getD c 0 := by
            rw [← HXE.out]
            simp only [List.getD_eq_getElem?_getD]
            rw [List.getElem?_take_of_lt hlt, List.getElem?_drop, Nat.add_comm]
          rw [hxa] at ca
          have ca' : wr.cell? ⟨gR, 1 + c, none⟩ = some (.int .i64 ((xs.getD c 0 : Nat) : Int)) := by rw [Nat.add_comm]; exact ca
          have HTK : Hid ((xs.take (c + 1)).map sg = (xs.take c).map sg ++ [sg (xs.getD c 0)]) := by
            unfold Hid
            rw [List.take_succ_eq_append_getElem hcl, List.map_append, List.getD_eq_getElem?_getD, List.getElem?_eq_getElem hcl]; rfl
          have cO := Blk.cell0 hS.ob
          have hol : (out ++ (xs.take c).map sg).length ≤ 512 := by rw [List.length_append, List.length_map, List.length_take]; omega
          clear hS hxa
          generalize xs.getD c 0 = x at *
          have e7 : (97 : Int) + (x : Int) = ((sg x).toNat : Int) := sg_int (by omega)
          generalize hq : out ++ (xs.take c).map sg = q at *
          have HQ := Lib.hid hq
          clear hq
          go_wp2_with (at_builtin; go_must (refine wpList_appG rfl _ _ _ rfl w.heap.size 5 j0 _ 1 1 Try.underlying52 hj0 hy0 hy1 hy2 rfl (by omega) _ q.length (byteCells q) rfl (HS.out.ow.alloc _) ⟨wr.heap.size, 0, none⟩ 1 1 [.int .u8 ((sg x).toNat : Int)] rfl rfl (cell_one_new _ _ _) (by simp [Value.oneCell']) (by omega) (by omega) (by have := HS.out.b.size; simp; omega) ?_); intro v6 w6 hown6 hg6 hb6; obtain ⟨A6, cc6, rfl, _, _, _⟩ := own_form hown6; have hN9 := HS.out.app (out2 := q ++ [sg x]) hg6 (by rw [List.length_append, List.length_singleton, show byteCells (q ++ [sg x]) = byteCells q ++ [.int .u8 ((sg x).toNat : Int)] from by simp [byteCells]]; exact hown6); have HN := Lib.hid hN9.2; have c6 := Blk.cell0 hN9.1; have f6 := hN9.1.frozen 0; clear hN9 hown6 hg6 hb6)
          have HN2 : Hid (GnAt w (w6.setCell ⟨gO, 0, none⟩ (.slice A6 (q.length + 1) cc6)) gK gN gA gO gG gR k n a (out ++ (xs.take (c + 1)).map sg) (.slice A6 (q.length + 1) cc6)) := by
            unfold Hid; rw [HTK.out, ← List.append_assoc, HQ.out]; exact HN.out
          clear HN HS
          go_roundw
          case rel => exact ⟨c + 1, _, hlt, by go_num, HN2.out⟩
          case measure => simp [intOf]; omega
        · obtain rfl : c = p := by omega
          have g5 : decide ((c : Int) < (c : Int)) = false := by simp
          have HF : Hid (GnAt w wr gK gN gA gO gG gR k n (genF k n 0 c a).1 (out ++ (genF k n 0 c a).2) vo') := by
            unfold Hid; rw [HG.out]
            have := hS
            rw [List.take_of_length_le (by rw [HXL.out]; exact Nat.le_refl _)] at this
            exact this
          clear hS HS
          go_wp2_with fail
          go_end0
          exact ⟨rfl, vo', HF.out⟩
    · have g3 : (((n % p : Nat) : Int) == 0) = false := by rw [beq_eq_false_iff_ne]; omega
      have g3' : ((n : Int) % (p : Int) == 0) = false := by rw [← Int.natCast_emod]; exact g3
      have g3'' : (n % p == 0) = false := by rw [beq_eq_false_iff_ne]; exact hd
      have HG : Hid (genF k n 0 p a = (a, [])) := by unfold Hid; rw [genF, if_neg hd]
      have HF : Hid (GnAt w wr gK gN gA gO gG gR k n (genF k n 0 p a).1 (out ++ (genF k n 0 p a).2) vo) := by unfold Hid; rw [HG.out]; simpa using hS
      clear hd hS hsm
      go_enter Try.func128, Try.ntmps128
      go_wp2_with fail
      go_end0
      exact ⟨rfl, vo, HF.out⟩
  | succ m ih =>
    intro hm p a out vo wr hp1 hp2 hsm hS hB
    obtain ⟨t, ht⟩ : ∃ t, t = n - m := ⟨_, rfl⟩
    have en : ((n + 1 - (m + 1) : Nat) : Int) = (t : Int) := by omega
    have eT : ((n + 1 - m : Nat) : Int) = (t : Int) + 1 := by omega
    rw [en]
    rw [eT] at ih
    have htn : t ≤ n := by omega
    have ht1 : 1 ≤ t := by omega
    have hpt : p ≤ t := by omega
    obtain ⟨d, hd⟩ : ∃ d, d = t - p := ⟨_, rfl⟩
    obtain ⟨r, hr⟩ : ∃ r, genF k n m p (a.set (n - m) (a.getD (n - m - p) 0)) = r := ⟨_, rfl⟩
    have hacc := genF_acc k n m p a r hr
    have hrs : smallA k r.1 := by rw [← hr]; exact genF_small k n h1 m p _ (smallA_set hsm h1 _ (hsm _))
    rw [← ht, ← hd] at hr hacc
    have HAC := Lib.hid hacc
    have HRS := Lib.hid hrs
    have HR := Lib.hid hr
    have HT := Lib.hid ht
    have hx0 := hrs d
    have hB1 : out.length + r.2.length ≤ 512 := by
      have h9 := accF_le k n m (r.1.getD d 0 + 1) r (Nat.zero_le (k - (r.1.getD d 0 + 1)))
      rw [accF_zero] at h9
      rw [hacc] at hB
      omega
    have HB2 : Hid (∀ i, i ≤ k - (r.1.getD d 0 + 1) → out.length + (accF k n m (r.1.getD d 0 + 1) r i).2.length ≤ 512) := fun i hi => by
      have h9 := accF_le k n m (r.1.getD d 0 + 1) r hi
      rw [hacc] at hB
      omega
    have HIH := Lib.hid (ih (by omega))
    have hv := hsm d
    have HSM := Lib.hid hsm
    have HS := Lib.hid hS
    have e8 : (t : Int) - (p : Int) = (d : Int) := by omega
    have hdn : d < n + 1 := by omega
    have hp3 : p + m ≤ n + 1 := by omega
    have ht3 : t + m ≤ n + 1 := by omega
    have g1 : decide ((n : Int) < (t : Int)) = false := decide_eq_false (by omega)
    have g1' : decide (n < t) = false := decide_eq_false (by omega)
    have cN := Blk.cell0 hS.nb
    have cA := Blk.cell0 hS.ab
    have cd := hS.ar.at_ hdn
    rw [aI_get] at cd
    have ct := hS.ar.at_ (k := t) (by omega)
    have ft := hS.ar.free t
    clear hacc hrs hr ht hd hB ih en eT hS hsm hm hp2
    generalize hav : a.getD d 0 = v at *
    have HAV := Lib.hid hav
    clear hav
    go_enter Try.func128, Try.ntmps128
    go_wp2_with fail
    obtain ⟨F1, hFd⟩ : ∃ F : World → Prop, F = fun w' => w'.cell? ⟨gA, 0, none⟩ = some (.slice (some ⟨gR, 0, none⟩) (n + 1) (n + 1)) ∧ w'.cell? ⟨gR, d, none⟩ = some (.int .i64 ((v : Nat) : Int)) := ⟨_, rfl⟩
    have HF1 := Lib.hid hFd
    clear hFd
    have hcell10 : ∀ p' : Wof F1, p'.w.cell? ⟨gA, 0, none⟩ = some (.slice (some ⟨gR, 0, none⟩) (n + 1) (n + 1)) := fun ⟨x, hx⟩ => by rw [HF1.out] at hx; exact hx.1
    have hcell11 : ∀ p' : Wof F1, p'.w.cell? ⟨gR, d, none⟩ = some (.int .i64 ((v : Nat) : Int)) := fun ⟨x, hx⟩ => by rw [HF1.out] at hx; exact hx.2
    refine wp_region_schedF [(0, true), (1, true), (2, true), (3, true), (4, true), (5, true), (6, true), (7, true), (8, true), (9, false)] F1 (by kernel_rfl) (by kernel_rfl) rfl (fun _ _ _ _ _ h => h) (by kernel_rfl) (by rw [HF1.out]; first | trivial | (repeat' apply And.intro) <;> assumption | (simp; done) | (simp [*]; done)) (by rw [HF1.out]; exact fun h => h) ?_
    intro hne1
    simp only [opersOf, List.getElem?_toArray, List.getElem?_cons_succ, List.getElem?_cons_zero]
    repeat (first | (refine wpSched_free rfl ?_; intro K hK; go_big_quiet_op; go_big_quiet_on) | (refine wpSched_wantS _ rfl rfl rfl ?_; intro K hK; go_big_quiet_op; go_big_quiet_on) | (refine wpSched_skipS _ rfl rfl rfl rfl ?_; simp only [Act.put, List.setIfInBounds_toArray, List.set_cons_zero, List.set_cons_succ]) | (refine wpSched_skipU _ rfl rfl rfl ?_; simp only [Act.put, List.setIfInBounds_toArray, List.set_cons_zero, List.set_cons_succ]))
    have HS1 := Lib.hid (HS.out.setA t v)
    have hdt : d ≠ t := by omega
    have kA := Blk.cell0 HS1.out.ab
    have kd : (wr.setCell ⟨gR, t, none⟩ (.int .i64 (v : Int))).cell? ⟨gR, d, none⟩ = some (.int .i64 (v : Int)) := by
      rw [World.cell?_setCell_other wr ⟨gR, t, none⟩ ⟨gR, d, none⟩ _ (fun e => by injection e with _ e; omega)]; exact cd
    refine wpSched_other ?_
    go_wp2_with fail
    refine sched_back (by rw [HF1.out]; exact ⟨kA, kd⟩) ?_
    refine wpSched_nil ?_
    have HS2 := Lib.hid HS1.out.drew
    have HSM2 := Lib.hid (smallA_set HSM.out h1 t hv)
    clear kA kd hdt HS1 HS cd ct ft cA cN HF1 hcell10 hcell11 hne1
    have hSC : ∀ w9 : World, w9 = (wr.setCell ⟨gR, t, none⟩ (.int .i64 (v : Int))).drew → GnAt w w9 gK gN gA gO gG gR k n (a.set t v) out vo := fun w9 e => by rw [e]; exact HS2.out
    have hwx : ∃ w9 : World, w9 = (wr.setCell ⟨gR, t, none⟩ (.int .i64 (v : Int))).drew := ⟨_, rfl⟩
    obtain ⟨w9, hw9⟩ := hwx
    have hS9 := hSC w9 hw9
    rw [← hw9]
    clear hw9 hSC HS2
    have HS9 := Lib.hid hS9
    have cG := Blk.cell0 hS9.gb
    clear hS9
    go_wp2_with fail
    refine (HIH.out p _ out vo _ hp1 hp3 HSM2.out HS9.out (by rw [HR.out]; exact hB1)).mono ?_
    rintro e w1 ⟨rfl, vo1, hS1⟩
    rw [HR.out] at hS1
    have HS1 := Lib.hid hS1
    have cA := Blk.cell0 hS1.ab
    have cK := Blk.cell0 hS1.kb
    have cd := hS1.ar.at_ hdn
    rw [aI_get] at cd
    clear hS1 HS9 HSM2 HSM HAV cG
    generalize hx : r.1.getD d 0 = x at *
    clear hx
    go_wp2_with fail
    obtain ⟨wo, hwo⟩ : ∃ wo : World, wo = w1 := ⟨_, rfl⟩
    subst hwo
    go_loopw [11] (fun u wr => ∃ (i : Nat) (vo' : Value), x + 1 + i ≤ k ∧ u = .int .i64 ((x + 1 + i : Nat) : Int) ∧ GnAt w wr gK gN gA gO gG gR k n (accF k n m (x + 1) r i).1 (out ++ (accF k n m (x + 1) r i).2) vo') (fun u _ => k - (intOf u).toNat)
    case atStart => exact ⟨0, vo1, by omega, by go_num, HS1.out⟩
    case round =>
      clear HS1 cA cK cd
      obtain ⟨i, vo', hi, rfl, hS⟩ := hrel
      have HS := Lib.hid hS
      have cK := Blk.cell0 hS.kb
      have cA := Blk.cell0 hS.ab
      have ct := hS.ar.at_ (k := t) (by omega)
      have ft := hS.ar.free t
      obtain ⟨y, hy⟩ : ∃ y, y = x + 1 + i := ⟨_, rfl⟩
      rw [← hy] at hi
      have HY := Lib.hid hy
      by_cases hlt : y < k
      · have g2 : decide ((y : Int) < (k : Int)) = true := decide_eq_true (by omega)
        have g2' : decide (y < k) = true := decide_eq_true hlt
        have HSA := Lib.hid (accF_small k n h1 m (x + 1) r HRS.out i (by omega))
        have HAS := Lib.hid (accF_succ k n m (x + 1) r i)
        have hb2 := HB2.out (i + 1) (by omega)
        rw [HAS.out] at hb2
        rw [← HT.out, ← hy] at HAS hb2
        simp only [List.length_append] at hb2
        have hb3 : (out ++ (accF k n m (x + 1) r i).2).length + (genF k n m t ((accF k n m (x + 1) r i).1.set t y)).2.length ≤ 512 := by rw [List.length_append]; omega
        have HSS := Lib.hid (hS.setA t y)
        have HSM3 := Lib.hid (smallA_set HSA.out h1 t hlt)
        clear hS hb2 HS HSA
        rw [← hy]
        clear hy
        generalize (aI (accF k n m (x + 1) r i).1).getD t 0 = old at *
        generalize accF k n m (x + 1) r i = ac at *
        have cG := Blk.cell0 HSS.out.gb
        go_wp2_with fail
        refine (HIH.out t _ _ vo' _ ht1 ht3 HSM3.out HSS.out hb3).mono ?_
        rintro e w2 ⟨rfl, vo2, hS2⟩
        have HS2 : Hid (GnAt w w2 gK gN gA gO gG gR k n (accF k n m (x + 1) r (i + 1)).1 (out ++ (accF k n m (x + 1) r (i + 1)).2) vo2) := by
          unfold Hid; rw [HAS.out, ← List.append_assoc]; exact hS2
        clear hS2 HSS HSM3
        go_wp2_with fail
        go_roundw
        case rel => exact ⟨i + 1, vo2, by have := HY.out; omega, by have := HY.out; rw [show x + 1 + (i + 1) = y + 1 by omega]; go_num, HS2.out⟩
        case measure => simp [intOf]; omega
      · obtain rfl : y = k := by omega
        have g2 : decide ((y : Int) < (y : Int)) = false := by simp
        have HF : Hid (GnAt w wr gK gN gA gO gG gR y n (genF y n (m + 1) p a).1 (out ++ (genF y n (m + 1) p a).2) vo') := by
          unfold Hid; rw [HAC.out, show y - (x + 1) = i by omega]; exact hS
        clear hS HS
        rw [← hy]
        clear hy
        go_wp2_with fail
        go_end0
        exact ⟨rfl, vo', HF.out⟩
theorem GnAt.start {w w2 : World} {k n : Nat} {kk nn : Nat} (hown : w2.ownsRow w.heap.size 3 1 (.slice (some ⟨w.heap.size + 1 + 1, 0, none⟩) (n + 1) (n + 1)) (n + 1) (ints (List.replicate (n + 1) 0)))
    (hg : ((w.alloc (.cells #[.int .i64 (k : Int)] 3)).alloc (.cells #[.int .i64 (n : Int)] 3)).grownBy w2 none) (ek : kk = w.heap.size) (enn : nn = w.heap.size + 1) :
    GnAt w (((w2.alloc (.cells #[.slice (some ⟨w.heap.size + 1 + 1, 0, none⟩) (n + 1) (n + 1)] 25)).alloc (.cells #[.slice none 0 0] 52)).alloc (.cells #[.func (.func 128) #[] #[.pointer (some ⟨nn, 0, none⟩), .pointer (some ⟨w2.heap.size, 0, none⟩), .pointer (some ⟨w2.heap.size + 1, 0, none⟩), .pointer (some ⟨w2.heap.size + 1 + 1, 0, none⟩), .pointer (some ⟨kk, 0, none⟩)]] 170))
      kk nn w2.heap.size (w2.heap.size + 1) (w2.heap.size + 1 + 1) (w.heap.size + 1 + 1) k n (List.replicate (n + 1) 0) [] (.slice none 0 0) := by
  subst ek enn
  have hsz := hg.size
  simp at hsz
  have hk : Blk w2 w.heap.size 3 #[.int .i64 (k : Int)] := ((Blk.new_ w _ _).alloc _).grown hg (by simp)
  have hn : Blk w2 (w.heap.size + 1) 3 #[.int .i64 (n : Int)] := by
    have := Blk.new_ (w.alloc (.cells #[.int .i64 (k : Int)] 3)) 3 #[.int .i64 (n : Int)]
    rw [World.size_alloc] at this
    exact this.grown hg (by simp)
  have hb : Below w.heap.size w w2 := (((Below.refl w.heap.size w).alloc (Nat.le_refl _) _).alloc (by simp) _).grown hg (by simp; omega) (fun _ h => by cases h)
  have ho := Blk.new_ (w2.alloc (.cells #[.slice (some ⟨w.heap.size + 1 + 1, 0, none⟩) (n + 1) (n + 1)] 25)) 52 #[.slice none 0 0]
  rw [World.size_alloc] at ho
  have hG := Blk.new_ ((w2.alloc (.cells #[.slice (some ⟨w.heap.size + 1 + 1, 0, none⟩) (n + 1) (n + 1)] 25)).alloc (.cells #[.slice none 0 0] 52)) 170 #[.func (.func 128) #[] #[.pointer (some ⟨w.heap.size + 1, 0, none⟩), .pointer (some ⟨w2.heap.size, 0, none⟩), .pointer (some ⟨w2.heap.size + 1, 0, none⟩), .pointer (some ⟨w2.heap.size + 1 + 1, 0, none⟩), .pointer (some ⟨w.heap.size, 0, none⟩)]]
  rw [World.size_alloc, World.size_alloc] at hG
  refine ⟨((hk.alloc _).alloc _).alloc _, ((hn.alloc _).alloc _).alloc _, ((Blk.new_ w2 _ _).alloc _).alloc _, ho.alloc _, hG, ?_, World.ownsRow_nil _ _ _ _, by omega, by omega, by have := hb.size; omega, ?_⟩
  · have e : ints (aI (List.replicate (n + 1) 0)) = ints (List.replicate (n + 1) 0) := by unfold aI; rw [List.map_replicate]; rfl
    unfold ArrI
    rw [e]
    exact ((hown.alloc _).alloc _).alloc _
  · have := hb.size
    exact ((hb.alloc this _).alloc (by simp; omega) _).alloc (by simp; omega) _
set_option maxRecDepth 100000 in
set_option maxHeartbeats 2000000 in
theorem lineOf_any (k n : Nat) (h1 : 1 ≤ k) (h8 : k ≤ 8) (hn1 : 1 ≤ n) (hn5 : n ≤ 512) (hL : (lineR k n).length ≤ 512) (w : World) :
    Calls Try.prog 82 #[.int .i64 (k : Int), .int .i64 (n : Int)] w fun e w' => e = .returned (.string (S (lineR k n))) ∧ Below w.heap.size w w' := by
  obtain ⟨i0, hi0, hz0, hz1, hz2⟩ := info_parts info_int
  have HLR : Hid (lineR k n = (genF k n n 1 (List.replicate (n + 1) 0)).2) := rfl
  have HL := Lib.hid hL
  clear hL
  go_enter Try.func82, Try.ntmps82
  go_wp2_with (at_make; go_must (refine wpList_make_full _ rfl _ _ _ rfl w.heap.size 3 i0 _ 1 Try.underlying25 hi0 hz0 hz1 .i64 .i64 ((n : Int) + 1) ((n : Int) + 1) (n + 1) rfl rfl (by omega) (by omega) (by rw [hz2]; omega) (by unfold maxLen; omega) (by simp; omega) ?_); intro w2 hown2 hg2; have hF := Blk.new_ ((w2.alloc (.cells #[.slice (some ⟨w.heap.size + 1 + 1, 0, none⟩) (n + 1) (n + 1)] 25)).alloc (.cells #[.slice none 0 0] 52)) 170 #[.nilFunc]; rw [World.size_alloc, World.size_alloc] at hF; have cF := hF.cell0; have fF := hF.frozen 0; have HST := Lib.hid (GnAt.start (by rw [made_ints] at hown2; simpa using hown2) hg2 rfl rfl); clear hown2 hg2 hF)
  have hc := gen_any k n h1 h8 hn1 hn5 w _ _ _ _ _ _ n (Nat.le_refl _) 1 (List.replicate (n + 1) 0) [] _ _ (Nat.le_refl _) (by omega) (fun i => by
    rw [List.getD_eq_getElem?_getD, List.getElem?_replicate]; split <;> simp <;> omega) HST.out (by rw [← HLR.out]; simpa using HL.out)
  rw [show ((n + 1 - n : Nat) : Int) = 1 by omega] at hc
  refine hc.mono ?_
  rintro e w3 ⟨rfl, vo, hS⟩
  rw [List.nil_append, ← HLR.out] at hS
  clear hc HST cF fF
  have cO := Blk.cell0 hS.ob
  obtain ⟨A9, c9, rfl, _, _, hrd⟩ := own_form hS.ow
  have hcv := run_bytes_string (P := Try.prog) w3 Try.underlying52 Try.underlying5 Try.underlying9 hrd (c := c9)
  change _ = Result.ok (Value.string (S (lineR k n))) _ at hcv
  have hb := hS.b
  clear hS hrd HLR HL
  generalize (lineR k n).length = ol at *
  go_wp2_with fail
  go_ret
  exact ⟨rfl, hb⟩
end Go.Proofs.Ytolnhplgaolieaa
