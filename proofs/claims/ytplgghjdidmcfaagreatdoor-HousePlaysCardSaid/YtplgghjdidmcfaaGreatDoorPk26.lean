/- slices.Sort and slices.Compact at strings of the call's own. The names of a house's pages, in their order. A house's deeds, all of them; its names. -/
import Derived.Test.YtplgghjdidmcfaaGreatDoorShelf
import Derived.Test.YtplgghjdidmcfaaGreatDoorPk04
import Derived.Sort.OwnSorted
import Derived.Lib.OwnBridge
import Derived.Test.YtplgghjdidmcfaaGreatDoorPk23
import Derived.Test.YtplgghjdidmcfaaGreatDoorPk22
import Derived.Test.YtplgghjdidmcfaaGreatDoorPk25
namespace Go.Proofs.YtplgghjdidmcfaaGreatDoor
open Go.RowKit Go.Proofs
def sortB (l : List (List UInt8)) : List (List UInt8) := l.mergeSort fun x y => decide (x ≤ y)
theorem sortB_len (l : List (List UInt8)) : (sortB l).length = l.length := List.length_mergeSort l
theorem strCells_enc (l : List (List UInt8)) : strCells l = l.map encStr := rfl
theorem comp_le (l : List (List UInt8)) : (Lib.compact l).length ≤ l.length := by
  have h : ∀ (d : Array (List UInt8)) m, (Lib.compactUpTo d m).length ≤ m := by
    intro d m
    induction m with
    | zero => simp [Lib.compactUpTo]
    | succ m ih => rw [Lib.compactUpTo_succ, List.length_append]; split <;> simp <;> omega
  have := h l.toArray l.length
  simpa [Lib.compact] using this
theorem sortStr_own (l : List (List UInt8)) (v : Value) (w0 w : World) (h : w.ownsRow w0.heap.size 9 1 v l.length (strCells l)) (hb : Below w0.heap.size w0 w) (hl : l.length < 4611686018427387904) :
    Calls Tryz.prog 17 #[v] w fun e w' => e = .returned (.tuple #[]) ∧ w'.ownsRow w0.heap.size 9 1 v l.length (strCells (sortB l)) ∧ Below w0.heap.size w0 w' := by
  rcases h.2 with ⟨rfl, h0⟩ | ⟨g, cap, cur, rfl, hbase, hg, h1, h2, h3, h4⟩
  · obtain rfl : l = [] := List.eq_nil_of_length_eq_zero h0
    refine (Tryz.slices_Sort_string_none none 0 w).mono ?_
    rintro e w' ⟨rfl, rfl⟩
    have e0 : sortB [] = [] := by simp [sortB]
    rw [e0]
    exact ⟨rfl, h, hb⟩
  · refine (Tryz.slices_Sort_string g 0 cap l w (holds_of_block hg (by simpa [strCells_enc] using h4)) (Array.getElem?_eq_some_iff.1 hg).1 hl).mono ?_
    rintro e w' ⟨rfl, n, os, rfl⟩
    refine ⟨rfl, ?_, hb.grown (grownBy_sorted _) hb.size (fun k hk => by cases hk; exact hbase)⟩
    exact ownsRow_sorted (sortB_len l) hbase hg h1 h2 h3
end Go.Proofs.YtplgghjdidmcfaaGreatDoor
namespace Go.Proofs.YtplgghjdidmcfaaGreatDoor
open Go.RowKit
/-- The names, in their order. -/
def hsN (P : List Ps) : List (List UInt8) := sortB (P.map fun s => L s.nm)
theorem hsN_len (P : List Ps) : (hsN P).length = P.length := by unfold hsN; rw [sortB_len, List.length_map]
end Go.Proofs.YtplgghjdidmcfaaGreatDoor
namespace Go.Proofs.YtplgghjdidmcfaaGreatDoor
open Go.RowKit
theorem houDo_any (x : Dd) (base gh : Nat) (v : Value) (ps : List Pc) (w : World) (h : HsAt w base gh v ps) (hk : HsOk (ps.map Pc.s)) (hb : base ≤ w.heap.size) (hx : DdOk w (HK gh v ps) x) (ht : TabI w) :
    Calls Tryz.prog 8 #[.pointer (some ⟨gh, 0, none⟩), x.val] w (DoAns w base gh v ps x) := by
  by_cases h0 : x.kind < 1 ∨ 10 < x.kind
  · exact houDo_nokind x base gh v ps w h h0
  cases hn : named x.name with
  | false => exact houDo_noname x base gh v ps w h hx (by omega) (by omega) hn
  | true =>
    by_cases h1 : x.kind = 1
    · exact houDo_new x base gh v ps w h hk hb hx h1 hn
    by_cases hi : fnd x.name (ps.map Pc.s) < (ps.map Pc.s).length
    · have hf : Found w base gh v ps x (fnd x.name (ps.map Pc.s)) := ⟨h, hk, hb, hx, ht, hn, rfl, by rwa [List.length_map] at hi⟩
      have hq : x.kind = 2 ∨ x.kind = 3 ∨ x.kind = 4 ∨ x.kind = 5 ∨ x.kind = 6 ∨ x.kind = 7 ∨ x.kind = 8 ∨ x.kind = 9 ∨ x.kind = 10 := by omega
      rcases hq with e | e | e | e | e | e | e | e | e
      · exact houDo2 x base gh v ps _ w hf e
      · exact houDo3 x base gh v ps _ w hf e
      · exact houDo4 x base gh v ps _ w hf e
      · exact houDo5 x base gh v ps _ w hf e
      · exact houDo6 x base gh v ps _ w hf e
      · exact houDo7 x base gh v ps _ w hf e
      · exact houDo8 x base gh v ps _ w hf e
      · exact houDo9 x base gh v ps _ w hf e
      · exact houDo10 x base gh v ps _ w hf e
    · exact houDo_none x base gh v ps w h hk hx (by omega) (by omega) hn hi
def nmsP (P : List Ps) : List (List UInt8) := P.map fun s => L s.nm
theorem nmsP_succ {P : List Ps} {k : Nat} (hk : k < P.length) : nmsP (P.take (k + 1)) = nmsP (P.take k) ++ [L P[k].nm] := by
  unfold nmsP
  rw [List.take_succ_eq_append_getElem hk, List.map_append]; rfl
theorem nmsP_len (P : List Ps) : (nmsP P).length = P.length := by unfold nmsP; rw [List.length_map]
set_option maxRecDepth 100000 in
set_option maxHeartbeats 4000000 in
theorem houNames_any (base gh : Nat) (v : Value) (ps : List Pc) (w : World) (h : HsAt w base gh v ps) (hn6 : ps.length ≤ 6) :
    Calls Tryz.prog 7 #[.pointer (some ⟨gh, 0, none⟩)] w fun e w' => ∃ u, e = .returned u ∧ OwnO w' w.heap.size 9 1 u ps.length (strCells (hsN (ps.map Pc.s))) ∧ Below w.heap.size w w' := by
  obtain ⟨i0, hi0, hz0, hz1, hz2⟩ := info_parts info_st
  obtain ⟨A0, c0', rfl, _, _, hrd0⟩ := h.row.form
  have hcb := h.blk.cell0
  have hgh := h.blk.lt
  have HR := Lib.hid hrd0
  clear h hrd0
  have HPL : Hid ((ps.map Pc.s).length = ps.length) := List.length_map ..
  go_enter Tryz.func7, Tryz.ntmps7
  go_wp2_with fail
  go_loopw [3, 11] (fun ov iv wr => ∃ k : Nat, k ≤ ps.length ∧ iv = .int .i64 (k : Int) ∧ Hid (wr.ownsRow w.heap.size 9 1 ov (nmsP ((ps.map Pc.s).take k)).length (strCells (nmsP ((ps.map Pc.s).take k)))) ∧ Below w.heap.size w wr) (fun _ iv _ => ps.length - (intOf iv).toNat)
  case atStart => exact ⟨0, Nat.zero_le _, rfl, World.ownsRow_nil _ _ _ _, Below.refl _ _⟩
  case round =>
    obtain ⟨k, hk, rfl, HO, hb⟩ := hrel
    have hbs := hb.size
    by_cases hlt : k < ps.length
    · have g1 : decide ((k : Int) < (ps.length : Int)) = true := decide_eq_true (by omega)
      have g1' : decide (k < ps.length) = true := decide_eq_true hlt
      obtain ⟨ad, rfl, _, c0, c1, c2⟩ := pc_cell (HR.out.below hb) hlt rfl
      have hkp : k < (ps.map Pc.s).length := by rw [HPL.out]; exact hlt
      have HSU := Lib.hid (nmsP_succ hkp)
      have HNM : Hid (L (ps.map Pc.s)[k].nm = L ps[k].s.nm) := by rw [Hid, List.getElem_map]
      rw [HNM.out] at HSU
      have hql : (nmsP ((ps.map Pc.s).take k)).length ≤ 6 := by rw [nmsP_len, List.length_take, HPL.out]; omega
      generalize nmsP ((ps.map Pc.s).take k) = q at *
      generalize ps[k].s.nm = nm at *
      generalize ps[k].ge = ge at *
      generalize ps[k].gf = gf at *
      clear HNM hkp
      have hownA := HO.out.alloc (.cells #[.string nm, .pointer (some ⟨ge, 0, none⟩), .pointer (some ⟨gf, 0, none⟩)] 61)
      have HY := Blk.new_ wr 61 #[.string nm, .pointer (some ⟨ge, 0, none⟩), .pointer (some ⟨gf, 0, none⟩)]
      have hbA : Below w.heap.size w (wr.alloc (.cells #[.string nm, .pointer (some ⟨ge, 0, none⟩), .pointer (some ⟨gf, 0, none⟩)] 61)) := hb.alloc hbs _
      have y0 := HY.cell0
      have hnew := cell_one_new (wr.alloc (.cells #[.string nm, .pointer (some ⟨ge, 0, none⟩), .pointer (some ⟨gf, 0, none⟩)] 61)) (.string nm) 9
      rw [World.size_alloc] at hnew
      have hbAs := hbA.size
      go_wp2_with (at_builtin; go_must (refine wpList_appG rfl _ _ _ rfl w.heap.size 9 i0 _ 1 16 Tryz.underlying25 hi0 hz0 hz1 hz2 rfl (by omega) _ q.length (strCells q) rfl (hownA.alloc _) ⟨wr.heap.size + 1, 0, none⟩ 1 1 [.string nm] rfl rfl hnew (by simp [Value.oneCell']) (by omega) (by omega) (by simp at hbAs ⊢; omega) ?_); intro v6 w6 hown6 hg6 hb6)
      have HN : Hid (w6.ownsRow w.heap.size 9 1 v6 (nmsP ((ps.map Pc.s).take (k + 1))).length (strCells (nmsP ((ps.map Pc.s).take (k + 1))))) := by
        rw [Hid, HSU.out, List.length_append]
        have e : strCells (q ++ [L nm]) = strCells q ++ [.string nm] := by unfold strCells; rw [List.map_append]; rfl
        rw [e]
        exact hown6
      have hb7 : Below w.heap.size w w6 := (hbA.alloc hbAs _).trans hb6
      go_roundw
      case rel => exact ⟨k + 1, by omega, by go_num, HN.out, hb7⟩
      case measure => simp [intOf]; omega
    · obtain rfl : k = ps.length := by omega
      have g1 : decide ((ps.length : Int) < (ps.length : Int)) = false := decide_eq_false (by omega)
      have g1' : decide (ps.length < ps.length) = false := decide_eq_false hlt
      have htk : (ps.map Pc.s).take ps.length = ps.map Pc.s := List.take_of_length_le (by rw [HPL.out]; exact Nat.le_refl _)
      rw [htk] at HO
      have hlen : (nmsP (ps.map Pc.s)).length = ps.length := by rw [nmsP_len, HPL.out]
      have hst := sortStr_own (nmsP (ps.map Pc.s)) u3 w wr HO.out hb (by omega)
      have HST := Lib.hid hst
      have HLN := Lib.hid hlen
      clear hst hlen htk HO
      obtain ⟨q, hq⟩ : ∃ q, nmsP (ps.map Pc.s) = q := ⟨_, rfl⟩
      rw [hq] at HST HLN
      have HSN : Hid (hsN (ps.map Pc.s) = sortB q) := by rw [Hid, ← hq]; rfl
      clear hq
      go_wp2_with fail
      refine HST.out.mono ?_
      rintro e w2 ⟨rfl, hown2, hb2⟩
      have HF : Hid (OwnO w2 w.heap.size 9 1 u3 ps.length (strCells (hsN (ps.map Pc.s)))) := by
        rw [Hid, HSN.out, ← HLN.out]
        exact OwnO.of_own hown2
      clear hown2
      go_wp2_with fail
      go_ret
      exact ⟨_, rfl, HF.out, hb2⟩
end Go.Proofs.YtplgghjdidmcfaaGreatDoor
