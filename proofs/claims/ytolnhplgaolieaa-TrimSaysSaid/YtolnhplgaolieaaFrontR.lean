/- front.Runs, walked. -/
import Derived.Test.YtolnhplgaolieaaFrontW
import Derived.Test.YtolnhplgaolieaaEditW
namespace Go.Proofs.Ytolnhplgaolieaa
open Go.RowKit
def runCell (r : Rn) : List Value := [.int .u8 (r.1.toNat : Int), .int .i64 r.2]
def runCells (l : List Rn) : List Value := l.flatMap runCell
theorem run_len (r : Rn) : (runCell r).length = 2 := rfl
theorem runCells_len (l : List Rn) : (runCells l).length = l.length * 2 := flat_len run_len l
theorem runCells_app (a b : List Rn) : runCells (a ++ b) = runCells a ++ runCells b := by simp [runCells]
theorem runCells_one (r : Rn) : runCells [r] = [.int .u8 (r.1.toNat : Int), .int .i64 r.2] := by simp [runCells, runCell]
theorem run_get (l : List Rn) {k : Nat} (h : k < l.length) : (runCells l)[k * 2]? = some (.int .u8 ((l.getD k (0, 0)).1.toNat : Int)) ∧ (runCells l)[k * 2 + 1]? = some (.int .i64 (l.getD k (0, 0)).2) := by
  have e : l.getD k (0, 0) = l[k] := by rw [List.getD_eq_getElem?_getD, List.getElem?_eq_getElem h]; rfl
  rw [e]
  exact ⟨flat_get run_len l k h 0 (by omega), flat_get run_len l k h 1 (by omega)⟩
theorem Rd.at_run {w : World} {B n : Nat} {A : Option Addr} {l : List Rn} (h : Rd w B 2 A n (runCells l)) {k : Nat} (hk : k < n) :
    ∃ ad, k < l.length ∧ A = some ad ∧ ad.block < B ∧ w.cell? (ad.add (k * 2)) = some (.int .u8 ((l.getD k (0, 0)).1.toNat : Int)) ∧ w.cell? ⟨(ad.add (k * 2)).block, (ad.add (k * 2)).off + 1, none⟩ = some (.int .i64 (l.getD k (0, 0)).2) := by
  obtain ⟨ad, hl, e, hb, hc⟩ := Rd.at_rec run_len (by omega) h hk
  have e2 : l.getD k (0, 0) = l[k] := by rw [List.getD_eq_getElem?_getD, List.getElem?_eq_getElem hl]; rfl
  rw [e2]
  refine ⟨ad, hl, e, hb, hc 0 _ rfl, ?_⟩
  have h1 := hc 1 _ rfl
  rwa [← add_add] at h1
theorem info_run : (Try.prog.info? 85).map (fun i => (i.zero, i.size, i.bytes)) = some (some (.agg #[.int .u8 0, .int .i64 0]), 2, 16) := by kernel_rfl
/-- Where Runs stands. -/
structure RunsAt (w wr : World) (g3 : Nat) (s : ByteArray) (k : Nat) (l : List Rn) (o : Value) : Prop where
  ok : RunOk l ((L s).take k)
  by_ : ∀ j, j < s.size → wr.cell? ⟨g3, j, none⟩ = some (.int .u8 (((L s).getD j 0).toNat : Int))
  out : wr.ownsRow (g3 + 1) 85 2 o l.length (runCells l)
  lt3 : g3 < wr.heap.size
  le : w.heap.size ≤ g3
  b : Below w.heap.size w wr
theorem RunsAt.step {w wr w6 : World} {g3 k : Nat} {s : ByteArray} {l l2 : List Rn} {o v6 : Value} (h : RunsAt w wr g3 s k l o) (hb6 : Below (g3 + 1) wr w6) (hok : RunOk l2 ((L s).take (k + 1)))
    (hown : w6.ownsRow (g3 + 1) 85 2 v6 l2.length (runCells l2)) : RunsAt w w6 g3 s (k + 1) l2 v6 := by
  have h2 := h.lt3
  have h5 := hb6.size
  refine ⟨hok, fun j hj => ?_, hown, by omega, h.le, h.b.trans (hb6.mono (by have := h.le; omega))⟩
  rw [hb6.cell (p := ⟨g3, j, none⟩) (by show g3 < g3 + 1; omega), h.by_ j hj]
theorem take_getD (u : List UInt8) {k : Nat} (h : k < u.length) : u.take (k + 1) = u.take k ++ [u.getD k 0] := by
  rw [List.take_succ_eq_append_getElem h, List.getD_eq_getElem?_getD, List.getElem?_eq_getElem h]; rfl
theorem run_set (l : List Rn) (b : UInt8) (n n2 : Int) : (runCells (l ++ [(b, n)])).set (l.length * 2 + 1) (.int .i64 n2) = runCells (l ++ [(b, n2)]) := by
  rw [runCells_app, runCells_app, runCells_one, runCells_one, List.set_append_right _ _ (by rw [runCells_len]; omega), runCells_len, show l.length * 2 + 1 - l.length * 2 = 1 by omega]
  rfl
set_option maxRecDepth 100000 in
set_option maxHeartbeats 4000000 in
theorem frontRuns_any (s : ByteArray) (w : World) :
    Calls Try.prog 51 #[.string s] w fun e w' => ∃ v l, e = .returned (.tuple #[v, .int .i64 (longErr s.size)]) ∧ (200 < s.size → l = []) ∧ (s.size ≤ 200 → RunOk l (L s)) ∧
      w'.ownsRow w.heap.size 85 2 v l.length (runCells l) ∧ Below w.heap.size w w' := by
  obtain ⟨i0, hi0, hz0, hz1, hz2⟩ := info_parts info_run
  by_cases h2 : 200 < s.size
  · have HE : Hid (longErr s.size = 2) := by unfold Hid longErr; rw [if_pos h2]
    have H2 := Lib.hid h2
    clear h2
    go_enter Try.func51, Try.ntmps51
    go_wp2_with fail
    refine (wordCheck_any s _).mono ?_
    rintro e w1 ⟨rfl, hb1⟩
    rw [HE.out]
    go_wp2_with fail
    go_ret2
    rw [HE.out]
    exact ⟨_, [], rfl, fun _ => rfl, (fun h => by have := H2.out; omega), ⟨rfl, .inl ⟨rfl, rfl⟩⟩, hb1⟩
  have HE : Hid (longErr s.size = 0) := by unfold Hid longErr; rw [if_neg h2]
  have hs2 : s.size ≤ 200 := by omega
  have hcv := fun W => Lib.run_convert_string_bytes (P := Try.prog) W 9 52 5 s Try.underlying9 Try.underlying52 Try.underlying5
  clear h2
  go_enter Try.func51, Try.ntmps51
  go_wp2_with fail
  refine (wordCheck_any s _).mono ?_
  rintro e w2 ⟨rfl, hb2⟩
  rw [HE.out]
  have hb3 : Below w2.heap.size w2 (Lib.bytesWorld w2 5 s) := bytesWorld_below w2 _ s
  have hcells := Lib.bytesWorld_cell w2 5 s
  have hsz3 : w2.heap.size < (Lib.bytesWorld w2 5 s).heap.size := by rw [Lib.bytesWorld_size]; exact Nat.lt_succ_self _
  have HP : Hid (RunsAt w (Lib.bytesWorld w2 5 s) w2.heap.size s 0 [] (.slice none 0 0)) :=
    ⟨RunOk.nil, fun j hj => hcells j hj, ⟨rfl, .inl ⟨rfl, rfl⟩⟩, hsz3, hb2.size, bthen hb2 hb3⟩
  clear hb2 hb3 hcells hsz3
  go_wp2_with fail
  clear hcv
  generalize Lib.bytesWorld w2 5 s = w3 at *
  generalize w2.heap.size = g3 at *
  go_loopw [5, 17] (fun o i wr => ∃ (k : Nat) (l : List Rn), k ≤ s.size ∧ i = .int .i64 k ∧ RunsAt w wr g3 s k l o) (fun _ i _ => s.size - (intOf i).toNat)
  case atStart => exact ⟨0, [], Nat.zero_le _, rfl, HP.out⟩
  case round =>
    clear HP
    obtain ⟨k, l, hk, rfl, hP⟩ := hrel
    by_cases hlt : k < s.size
    · have g1 : decide ((k : Int) < (s.size : Int)) = true := decide_eq_true (by omega)
      have c0 := hP.by_ k hlt
      have HTK := Lib.hid (take_getD (L s) (k := k) (by rw [L_len]; exact hlt))
      have hll : l.length ≤ k := by
        have := hP.ok.len
        rw [List.length_take, L_len] at this; omega
      have HPA := Lib.hid hP
      clear hP
      generalize (L s).getD k 0 = c at *
      rcases List.eq_nil_or_concat l with rfl | ⟨l', ⟨b, n⟩, rfl⟩
      · obtain ⟨A, cap, rfl, _⟩ : ∃ A cap, u5 = .slice A 0 cap ∧ True := by
          obtain ⟨A, cap, e, _⟩ := own_form HPA.out.out
          exact ⟨A, cap, e, trivial⟩
        have g2 : decide ((0 : Int) < 0) = false := by decide
        have HNE : Hid (([] : List Rn) ≠ [] → (([] : List Rn).getD (([] : List Rn).length - 1) (0, 0)).1 ≠ c) := fun h => absurd rfl h
        have HOWN := Lib.hid HPA.out.out
        have HLN : Hid (([] : List Rn).length = 0) := rfl
        have HLT : Hid (g3 + 1 ≤ wr.heap.size) := HPA.out.lt3
        have hlt9 := HLT.out
        go_wp2_with (at_builtin; go_must (refine wpList_appG rfl _ _ _ rfl (g3 + 1) 85 i0 _ 2 16 Try.underlying76 hi0 hz0 hz1 hz2 rfl (by omega) _ 0 (runCells ([] : List Rn)) rfl (World.ownsRow.alloc (w := wr) HOWN.out _) ⟨wr.heap.size, 0, none⟩ 1 1 [.int .u8 (c.toNat : Int), .int .i64 1] rfl rfl (cells_new2 _ _ _ _) (by simp [Value.oneCell']) (by omega) (by omega) (by simp; omega) ?_); intro v6 w6 hown6 hg6 hb6)
        have HPN : Hid (RunsAt w w6 g3 s (k + 1) (([] : List Rn) ++ [(c, 1)]) v6) := by
          refine RunsAt.step HPA.out (((Below.refl _ _).alloc HLT.out _).trans hb6) (by rw [HTK.out]; exact RunOk.fresh HPA.out.ok HNE.out) ?_
          rw [runCells_app, runCells_one, List.length_append, List.length_singleton, HLN.out]
          exact hown6
        clear hown6 hg6 hb6
        go_roundw
        case rel => exact ⟨k + 1, _, by omega, by go_num, HPN.out⟩
        case measure => simp [intOf]; omega
      · rw [List.concat_eq_append] at *
        have hm9 : l'.length < 200 := by rw [List.length_append, List.length_singleton] at hll; omega
        have hn0 : 0 < (l' ++ [(b, n)]).length := by simp
        obtain ⟨g, cap, rfl⟩ : ∃ g cap, u5 = .slice (some ⟨g, 0, none⟩) (l'.length + 1) cap := by
          obtain ⟨g, cap, e⟩ := World.ownsRow.form HPA.out.out hn0
          rw [List.length_append, List.length_singleton] at e
          exact ⟨g, cap, by first | exact e | exact e.1⟩
        have hlast := run_get (l' ++ [(b, n)]) (k := l'.length) (by simp)
        rw [getD_snoc_eq] at hlast
        have hown := HPA.out.out
        rw [List.length_append, List.length_singleton] at hown
        have c1 := World.ownsRow.cellAt hown (l'.length * 2) (by omega)
        have c2 := World.ownsRow.cellAt hown (l'.length * 2 + 1) (by omega)
        have f2 := World.ownsRow.frozenAt hown (l'.length * 2 + 1)
        have HSTO := Lib.hid (fun v => (World.ownsRow.stored hown (l'.length * 2 + 1) v).1)
        rw [hlast.1] at c1
        rw [hlast.2] at c2
        have hnb : 1 ≤ n ∧ n ≤ 200 := by
          have h1 := HPA.out.ok
          have h3 := h1.flat
          have h4 := congrArg List.length h3
          rw [flatR_app, flatR_one, List.length_append, List.length_replicate, List.length_take, L_len] at h4
          have h5 := h1.pos (b, n) (by simp)
          simp only at h5 h4
          omega
        obtain ⟨h51, h52⟩ := hnb
        obtain ⟨n', rfl⟩ : ∃ n' : Nat, n = (n' : Int) := ⟨n.toNat, by omega⟩
        have HM := Lib.hid (show l'.length = l'.length from rfl)
        clear hlast hn0 hll
        generalize hmm : l'.length = m at *
        have HMM := Lib.hid hmm
        clear hmm HM
        by_cases hbc : b = c
        · have g2 : (((b.toNat : Int)) == (c.toNat : Int)) = true := by rw [hbc]; simp
          have g2' : (b.toNat == c.toNat) = true := by rw [hbc]; simp
          have HPN : Hid (RunsAt w (wr.setCell ⟨g, m * 2 + 1, none⟩ (.int .i64 ((n' : Int) + 1))) g3 s (k + 1) (l' ++ [(b, (n' : Int) + 1)]) (.slice (some ⟨g, 0, none⟩) (m + 1) cap)) := by
            refine RunsAt.step HPA.out ((Below.refl _ _).setCell (p := ⟨g, m * 2 + 1, none⟩) (World.ownsRow.lt hown g rfl).1 _) (by rw [HTK.out, ← hbc]; exact RunOk.more HPA.out.ok) ?_
            have h9 := HSTO.out (.int .i64 ((n' : Int) + 1))
            rw [List.length_append, List.length_singleton, HMM.out, ← run_set l' b (n' : Int), HMM.out]
            exact h9
          clear hown HSTO HPA
          go_wp2_with fail
          go_roundw
          case rel => exact ⟨k + 1, _, by omega, by go_num, HPN.out⟩
          case measure => simp [intOf]; omega
        · have g2 : (((b.toNat : Int)) == (c.toNat : Int)) = false := by rw [beq_eq_false_iff_ne]; exact fun h => hbc (UInt8.toNat_inj.1 (by omega))
          have g2' : (b.toNat == c.toNat) = false := by rw [beq_eq_false_iff_ne]; exact fun h => hbc (UInt8.toNat_inj.1 h)
          have HNE : Hid (l' ++ [(b, (n' : Int))] ≠ [] → ((l' ++ [(b, (n' : Int))]).getD ((l' ++ [(b, (n' : Int))]).length - 1) (0, 0)).1 ≠ c) := fun _ => by
            rw [List.length_append, List.length_singleton, Nat.add_sub_cancel, getD_snoc_eq]; exact hbc
          have HOWN := Lib.hid hown
          have HLN : Hid ((l' ++ [(b, (n' : Int))]).length = m + 1) := by unfold Hid; rw [List.length_append, List.length_singleton, HMM.out]
          have HLT : Hid (g3 + 1 ≤ wr.heap.size) := HPA.out.lt3
          have hlt9 := HLT.out
          clear hbc HSTO hown
          generalize b.toNat = bn at *
          go_wp2_with (at_builtin; go_must (refine wpList_appG rfl _ _ _ rfl (g3 + 1) 85 i0 _ 2 16 Try.underlying76 hi0 hz0 hz1 hz2 rfl (by omega) _ (m + 1) (runCells (l' ++ [(b, (n' : Int))])) rfl (World.ownsRow.alloc (w := wr) HOWN.out _) ⟨wr.heap.size, 0, none⟩ 1 1 [.int .u8 (c.toNat : Int), .int .i64 1] rfl rfl (cells_new2 _ _ _ _) (by simp [Value.oneCell']) (by omega) (by omega) (by simp; omega) ?_); intro v6 w6 hown6 hg6 hb6)
          have HPN : Hid (RunsAt w w6 g3 s (k + 1) ((l' ++ [(b, (n' : Int))]) ++ [(c, 1)]) v6) := by
            refine RunsAt.step HPA.out (((Below.refl _ _).alloc HLT.out _).trans hb6) (by rw [HTK.out]; exact RunOk.fresh HPA.out.ok HNE.out) ?_
            rw [runCells_app, runCells_one, List.length_append, List.length_singleton, HLN.out]
            exact hown6
          clear hown6 hg6 hb6
          go_roundw
          case rel => exact ⟨k + 1, _, by omega, by go_num, HPN.out⟩
          case measure => simp [intOf]; omega
    · obtain rfl : k = s.size := by omega
      have g1 : decide ((s.size : Int) < (s.size : Int)) = false := by simp
      have ho := hP.out
      have HO : Hid (wr.ownsRow w.heap.size 85 2 u5 l.length (runCells l)) := own_lower ho (by have := hP.le; omega)
      have hb := hP.b
      have hok := hP.ok
      rw [List.take_of_length_le (by rw [L_len]; exact Nat.le_refl _)] at hok
      have HK := Lib.hid hok
      clear hP ho hok
      go_wp2_with fail
      go_ret2
      rw [HE.out]
      exact ⟨_, l, rfl, (fun h => by omega), fun _ => HK.out, HO.out, hb⟩
end Go.Proofs.Ytolnhplgaolieaa
