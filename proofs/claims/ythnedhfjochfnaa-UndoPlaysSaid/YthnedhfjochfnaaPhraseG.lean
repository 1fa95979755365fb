/- phrase.Get and the reference's TextOf. -/
import Derived.Test.YthnedhfjochfnaaPhrase0
import Derived.Test.YthnedhfjochfnaaWordC
import Derived.Test.YthnedhfjochfnaaLogW
import Derived.Test.YthnedhfjochfnaaSched
namespace Go.Proofs.Ythnedhfjochfnaa
open Go.RowKit
def phrCell (p : Int × UInt8) : List Value := [.int .i64 p.1, .int .u8 (p.2.toNat : Int)]
def phrCells (l : List (Int × UInt8)) : List Value := l.flatMap phrCell
theorem phr_len (l : List (Int × UInt8)) : (phrCells l).length = l.length * 2 := by
  induction l with
  | nil => rfl
  | cons a l ih => simp only [phrCells, List.flatMap_cons, List.length_append, List.length_cons] at *; rw [ih]; simp [phrCell]; omega
theorem phr_get (l : List (Int × UInt8)) (k : Nat) (hk : k < l.length) (j : Nat) (hj : j < 2) : (phrCells l)[k * 2 + j]? = (phrCell (l[k]'hk))[j]? := by
  induction l generalizing k with
  | nil => simp at hk
  | cons a l ih =>
    cases k with
    | zero =>
      simp only [phrCells, List.flatMap_cons, List.getElem_cons_zero]
      rw [List.getElem?_append_left (by simp [phrCell]; omega)]
      simp
    | succ k =>
      have := ih k (by simpa using hk)
      simp only [phrCells, List.flatMap_cons, List.getElem_cons_succ] at *
      rw [List.getElem?_append_right (by simp [phrCell]; omega), ← this]
      congr 1
      simp [phrCell]; omega
theorem Rd.at_phr {w : World} {B n : Nat} {A : Option Addr} {l : List (Int × UInt8)} (h : Rd w B 2 A n (phrCells l)) {k : Nat} (hk : k < n) :
    ∃ ad p, A = some ad ∧ ad.block < B ∧ l[k]? = some p ∧ w.cell? (ad.add (k * 2)) = some (.int .i64 p.1) ∧ w.cell? ⟨(ad.add (k * 2)).block, (ad.add (k * 2)).off + 1, none⟩ = some (.int .u8 (p.2.toNat : Int)) := by
  have hl : l.length = n := by have := h.1; rw [phr_len] at this; omega
  obtain ⟨ad, e, hb, hc⟩ := h.2 (by omega)
  have hk' : k < l.length := by omega
  exact ⟨ad, l[k], e, hb, List.getElem?_eq_getElem hk', hc _ _ (by have := phr_get l k hk' 0 (by omega); simpa [phrCell] using this), by
    have h1 := hc (k * 2 + 1) _ (by have := phr_get l k hk' 1 (by omega); simpa [phrCell] using this)
    rwa [← add_add] at h1⟩
/-- What phrase.Get answers. -/
def getOut (l : List (Int × UInt8)) (rest : ByteArray) : ByteArray × Int :=
  if 200 < rest.size then (S [], 2) else if 200 < l.length then (S [], 2)
  else match phrText [[]] [] l with
    | (none, e) => (S [], e)
    | (some out, _) => if 200 < out.length + rest.size then (S [], 2) else (S out ++ rest, 0)
set_option maxRecDepth 100000 in
set_option maxHeartbeats 1000000 in
theorem phrGet_any (l : List (Int × UInt8)) (rest : ByteArray) (A : Option Addr) (n c B : Nat) (w : World) (hr : Rd w B 2 A n (phrCells l)) (hB : B ≤ w.heap.size) (hn : n ≤ 9223372036854775807) :
    Calls Try.prog 32 #[.slice A n c, .string rest] w fun e w' => e = .returned (.tuple #[.string (getOut l rest).1, .int .i64 (getOut l rest).2]) ∧ Below w.heap.size w w' := by
  obtain ⟨i0, hi0, hz0, hz1, hz2⟩ := info_parts info_str
  have hlen : l.length = n := by have := hr.1; rw [phr_len] at this; omega
  have HR := Lib.hid hr; clear hr
  go_enter Try.func32, Try.ntmps32
  go_wp2_with fail
  refine (wordCheck_any rest _).mono ?_
  rintro e w1 ⟨rfl, hb1⟩
  by_cases h1 : 200 < rest.size
  · have hg : Hid (getOut l rest = (S [], 2)) := by unfold Hid getOut; rw [if_pos h1]
    have hE : (longErr rest.size != 0) = true := by unfold longErr; rw [if_pos h1]; rfl
    have hV : longErr rest.size = 2 := by unfold longErr; rw [if_pos h1]
    go_wp2_with fail
    go_ret2
    exact ⟨by rw [hg.out]; rfl, hb1⟩
  have hE : (longErr rest.size != 0) = false := by unfold longErr; rw [if_neg h1]; rfl
  by_cases h2 : 200 < n
  · have hg : Hid (getOut l rest = (S [], 2)) := by unfold Hid getOut; rw [if_neg h1, hlen, if_pos h2]
    go_wp2_with fail
    go_ret2
    exact ⟨by rw [hg.out]; rfl, hb1⟩
  have HG : Hid (getOut l rest = match phrText [[]] [] l with
    | (none, e) => (S [], e)
    | (some out, _) => if 200 < out.length + rest.size then (S [], 2) else (S out ++ rest, 0)) := by unfold Hid getOut; rw [if_neg h1, hlen, if_neg h2]
  go_wp2_with fail
  go_loopw [7, 8, 23] (fun v s i wr => ∃ (k : Nat) (T : List (List UInt8)) (out : List UInt8), k ≤ n ∧ T.length = k + 1 ∧ (∀ t ∈ T, t.length ≤ k) ∧ out.length ≤ 200 ∧ phrText [[]] [] l = phrText T out (l.drop k) ∧ i = .int .i64 k ∧ s = .string (S out) ∧
      wr.ownsRow w.heap.size 9 1 v (k + 1) (strCells T) ∧ Below w.heap.size w wr)
    (fun _ _ i _ => n - (intOf i).toNat)
  case atStart =>
    exact ⟨0, [[]], [], Nat.zero_le _, rfl, by simp, Nat.zero_le _, rfl, rfl, rfl, World.ownsRow_lit w1 _ 1 hb1.size (by unfold maxLen; omega) rfl, (hb1.alloc hb1.size _)⟩
  case round =>
    obtain ⟨k, T, out, hk, hT, hTl, ho, hP, rfl, rfl, hown, hb⟩ := hrel
    have HP := Lib.hid hP; clear hP
    by_cases hlt : k < n
    · have HRr := HR.out.below (hb.mono hB)
      obtain ⟨ad, p, rfl, hab, hp, hc0, hc1⟩ := HRr.at_phr hlt
      have hd : l.drop k = p :: l.drop (k + 1) := by
        rw [List.drop_eq_getElem_cons (by omega)]
        congr 1
        rw [List.getElem?_eq_getElem (by omega)] at hp
        exact Option.some.inj hp
      rw [Hid, hd] at HP
      obtain ⟨b, c0⟩ := p
      simp only at hc0 hc1
      have HP := Lib.hid HP
      clear hp hd
      by_cases hbad : b < 0 ∨ (k : Int) < b
      · have hg : Hid (getOut l rest = (S [], 1)) := by
          unfold Hid
          rw [HG.out, HP.out, phrText, if_pos (by rw [hT]; omega)]
        clear HP
        go_wp2_with fail
        all_goals go_ret2
        all_goals exact ⟨by rw [hg.out]; rfl, hb.alloc hb.size _⟩
      · obtain ⟨b, rfl⟩ := Int.eq_ofNat_of_zero_le (show 0 ≤ b by omega)
        have hbk : b ≤ k := by omega
        have g1 : decide ((b : Int) < 0) = false := by simp
        have g2 : decide ((k : Int) < (b : Int)) = false := by simp; omega
        obtain ⟨A2, c2, rfl, hn2, hm2, hrd2⟩ := own_form hown
        obtain ⟨ad2, u2, rfl, hb2, hu2, hcell2⟩ := hrd2.at_ (k := b) (by omega)
        obtain ⟨t, ht, rfl⟩ : ∃ t, T[b]? = some t ∧ u2 = .string (S t) := by
          simp only [strCells, List.getElem?_map, Option.map_eq_some_iff] at hu2
          obtain ⟨t, h1, h2⟩ := hu2
          exact ⟨t, h1, h2.symm⟩
        clear hu2
        have hts : (S t).size ≤ 200 := by rw [S_size]; have := hTl t (List.mem_of_getElem? ht); omega
        have HT := Lib.hid ht; clear ht
        have HTl := Lib.hid hTl; clear hTl
        go_wp2_with fail
        have hW2 : Below wr.heap.size wr (wr.alloc (.cells #[.int .i64 b, .int .u8 (c0.toNat : Int)] 57)) := (by repeat (first | exact Below.refl _ _ | assumption | refine Below.alloc ?_ (by first | exact Nat.le_refl _ | assumption | omega | (simp <;> omega)) _ | refine Below.setCell ?_ (by first | exact Nat.le_refl _ | assumption | omega | (simp <;> omega)) _ | refine Below.drew ?_ | refine below_drewN ?_ _))
        have e0 : (wr.alloc (.cells #[.int .i64 b, .int .u8 (c0.toNat : Int)] 57)).cell? ⟨wr.heap.size, 0, none⟩ = some (.int .i64 b) := by simp
        have e1 : (wr.alloc (.cells #[.int .i64 b, .int .u8 (c0.toNat : Int)] 57)).cell? ⟨wr.heap.size, 1, none⟩ = some (.int .u8 (c0.toNat : Int)) := by simp
        have e2 := (hW2.cell (p := ad2.add b) (by rw [blk_add]; exact hb2)).trans hcell2
        have hown2 := own_below hown hW2
        have hb2' := bthen hb hW2
        have hlt2 : wr.heap.size < (wr.alloc (.cells #[.int .i64 b, .int .u8 (c0.toNat : Int)] 57)).heap.size := by simp
        clear hown hrd2 hcell2 hc0 hc1 hW2
        generalize (wr.alloc (.cells #[.int .i64 b, .int .u8 (c0.toNat : Int)] 57)) = w2 at *
        have hcv : (convert 45 9 (.slice (some ⟨w2.heap.size, 0, none⟩) 1 1)).run Try.prog ((w2.alloc (.cells #[.int .u8 (c0.toNat : Int)] 5)).drew) = .ok (.string (S [c0])) ((w2.alloc (.cells #[.int .u8 (c0.toNat : Int)] 5)).drew) :=
          run_bytes_string _ Try.underlying45 Try.underlying5 Try.underlying9 (B := w2.heap.size + 1) (l := [c0])
            (Rd.new_ (n := 1) (size := 1) w2 #[.int .u8 (c0.toNat : Int)] 5 (Nat.lt_succ_self _) rfl).drew
        have hW3 : Below w2.heap.size w2 (w2.alloc (.cells #[.int .u8 (c0.toNat : Int)] 5)) := (by repeat (first | exact Below.refl _ _ | assumption | refine Below.alloc ?_ (by first | exact Nat.le_refl _ | assumption | omega | (simp <;> omega)) _ | refine Below.setCell ?_ (by first | exact Nat.le_refl _ | assumption | omega | (simp <;> omega)) _ | refine Below.drew ?_ | refine below_drewN ?_ _))
        have e0a := (hW3.cell (p := ⟨wr.heap.size, 0, none⟩) hlt2).trans e0
        have e1a := (hW3.cell (p := ⟨wr.heap.size, 1, none⟩) hlt2).trans e1
        have e2a := (hW3.cell (p := ad2.add b) (by rw [blk_add]; omega)).trans e2
        have hown3 := own_below hown2 hW3
        have hb3' := bthen hb2' hW3
        have hz : (S [c0]).size ≤ 1 := by rw [S_size]; exact Nat.le_refl _
        have hq1 : ¬ 9223372036854775807 < (S t).size + (S [c0]).size := by omega
        obtain ⟨F13, hFd⟩ : ∃ F : World → Prop, F = fun w' => w'.cell? ⟨wr.heap.size, 0, none⟩ = some (.int .i64 b) ∧ w'.cell? ⟨wr.heap.size, 1, none⟩ = some (.int .u8 (c0.toNat : Int)) ∧ w'.cell? (ad2.add b) = some (.string (S t)) := ⟨_, rfl⟩
        have HF13 := Lib.hid hFd
        clear hFd
        have hcell130 : ∀ p' : Wof F13, p'.w.cell? ⟨wr.heap.size, 0, none⟩ = some (.int .i64 b) := fun ⟨x, hx⟩ => by rw [HF13.out] at hx; exact hx.1
        have hcell131 : ∀ p' : Wof F13, p'.w.cell? ⟨wr.heap.size, 1, none⟩ = some (.int .u8 (c0.toNat : Int)) := fun ⟨x, hx⟩ => by rw [HF13.out] at hx; exact hx.2.1
        have hcell132 : ∀ p' : Wof F13, p'.w.cell? (ad2.add b) = some (.string (S t)) := fun ⟨x, hx⟩ => by rw [HF13.out] at hx; exact hx.2.2
        refine wp_region_schedF [(0, true), (1, true), (2, true), (3, true), (4, true), (5, true), (6, true), (7, false), (8, false), (9, true), (10, true)] F13 (by kernel_rfl) (by kernel_rfl) rfl (fun _ _ _ _ _ h => h) (by kernel_rfl) (by rw [HF13.out]; first | trivial | (repeat' apply And.intro) <;> assumption | (simp; done) | (simp [*]; done)) (by rw [HF13.out]; exact fun h => h) ?_
        intro hne13
        simp only [opersOf, List.getElem?_toArray, List.getElem?_cons_succ, List.getElem?_cons_zero]
        repeat (first | (refine wpSched_want rfl ?_; intro K hK; go_big_quiet_op; go_big_quiet_on) | (refine wpSched_skip rfl ?_; simp only [Act.put, List.setIfInBounds_toArray, List.set_cons_zero, List.set_cons_succ]))
        refine wpSched_other ?_
        go_wp2_with fail
        refine sched_back (by rw [HF13.out]; first | trivial | (repeat' apply And.intro) <;> assumption | (simp; done) | (go_simp; done) | (simp [*]; done)) ?_
        repeat (first | (refine wpSched_want rfl ?_; intro K hK; go_big_quiet_op; go_big_quiet_on) | (refine wpSched_skip rfl ?_; simp only [Act.put, List.setIfInBounds_toArray, List.set_cons_zero, List.set_cons_succ]))
        refine wpSched_other ?_
        go_wp2_with fail
        refine sched_back (by rw [HF13.out]; first | trivial | (repeat' apply And.intro) <;> assumption | (simp; done) | (go_simp; done) | (simp [*]; done)) ?_
        repeat (first | (refine wpSched_want rfl ?_; intro K hK; go_big_quiet_op; go_big_quiet_on) | (refine wpSched_skip rfl ?_; simp only [Act.put, List.setIfInBounds_toArray, List.set_cons_zero, List.set_cons_succ]))
        refine wpSched_nil ?_
        clear HF13 hcell130 hcell131 hcell132 hne13 e0 e1 e2 e0a e1a e2a hown2 hW3 hcv hb2'
        have hlt3 : w.heap.size ≤ (w2.alloc (.cells #[.int .u8 (c0.toNat : Int)] 5)).heap.size := hb3'.size
        generalize (w2.alloc (.cells #[.int .u8 (c0.toNat : Int)] 5)) = w3 at *
        have eS : S t ++ S [c0] = S (t ++ [c0]) := append_S _ _
        rw [eS]
        have hu : (S (t ++ [c0])).size ≤ 201 := by rw [S_size] at *; simp; omega
        have hoS : (S out).size ≤ 200 := by rw [S_size]; exact ho
        have hq2 : ¬ 9223372036854775807 < (S out).size + (S (t ++ [c0])).size := by omega
        have htb : T.getD b [] = t := by rw [List.getD_eq_getElem?_getD, HT.out]; rfl
        have hsz : (S out).size + (S (t ++ [c0])).size = (out ++ (t ++ [c0])).length := by rw [S_size, S_size]; simp
        have hb4 : Below w.heap.size w ((w3.alloc (.cells #[.string (S (t ++ [c0]))] 9)).drew) := (hb3'.alloc hb3'.size _).drew
        by_cases hlg : 200 < (S out).size + (S (t ++ [c0])).size
        · have hg : Hid (getOut l rest = (S [], 2)) := by
            unfold Hid
            rw [HG.out, HP.out, phrText, if_neg (by rw [hT]; omega), Int.toNat_natCast, htb, if_pos (by rw [← hsz]; exact hlg)]
          clear HP hsz htb
          go_wp2_with (at_builtin; go_must (refine wpList_app rfl _ _ _ rfl w.heap.size 9 i0 _ 1 16 Try.underlying33 hi0 hz0 hz1 hz2 rfl (by omega) _ (k + 1) (strCells T) rfl ((own_drewN hown3 1).alloc _) ⟨w3.heap.size, 0, none⟩ 1 1 [.string (S (t ++ [c0]))] rfl rfl (cell_one_new _ _ _) (by simp [Value.oneCell']) (by omega) (by omega) (by simp; omega) ?_); intro v6 w6 hown6 hb6)
          go_ret2
          exact ⟨by rw [hg.out]; rfl, hb4.trans hb6⟩
        · have hn' : Hid (phrText [[]] [] l = phrText (T ++ [t ++ [c0]]) (out ++ (t ++ [c0])) (l.drop (k + 1))) := by
            unfold Hid
            rw [HP.out, phrText, if_neg (by rw [hT]; omega), Int.toNat_natCast, htb, if_neg (by rw [← hsz]; exact hlg)]
          have HSZ := Lib.hid hsz
          clear HP hsz htb
          go_wp2_with (at_builtin; go_must (refine wpList_app rfl _ _ _ rfl w.heap.size 9 i0 _ 1 16 Try.underlying33 hi0 hz0 hz1 hz2 rfl (by omega) _ (k + 1) (strCells T) rfl ((own_drewN hown3 1).alloc _) ⟨w3.heap.size, 0, none⟩ 1 1 [.string (S (t ++ [c0]))] rfl rfl (cell_one_new _ _ _) (by simp [Value.oneCell']) (by omega) (by omega) (by simp; omega) ?_); intro v6 w6 hown6 hb6)
          go_roundw
          case rel =>
            refine ⟨k + 1, T ++ [t ++ [c0]], out ++ (t ++ [c0]), by omega, by simp [hT], ?_, by rw [← HSZ.out]; omega, hn'.out, by go_num, by rw [append_S]; rfl, by simpa [strCells] using hown6, hb4.trans hb6⟩
            intro x hx
            simp only [List.mem_append, List.mem_singleton] at hx
            rcases hx with hx | rfl
            · have := HTl.out x hx; omega
            · have := HTl.out t (List.mem_of_getElem? HT.out); simp; omega
          case measure => simp [intOf]; omega
    · obtain rfl : k = n := by omega
      have hP0 : phrText [[]] [] l = (some out, 0) := by rw [HP.out, List.drop_of_length_le (by omega), phrText]
      have hos : (S out).size = out.length := S_size _
      have hq2 : ¬ 9223372036854775807 < (S out).size + rest.size := by omega
      by_cases hlg : 200 < (S out).size + rest.size
      · have hg : Hid (getOut l rest = (S [], 2)) := by
          unfold Hid
          rw [HG.out, hP0]
          simp only
          rw [if_pos (by omega)]
        clear hP0 hos
        go_wp2_with fail
        go_ret2
        exact ⟨by rw [hg.out]; rfl, hb⟩
      · have hg : Hid (getOut l rest = (S out ++ rest, 0)) := by
          unfold Hid
          rw [HG.out, hP0]
          simp only
          rw [if_neg (by omega)]
        clear hP0 hos
        go_wp2_with fail
        go_ret2
        exact ⟨by rw [hg.out]; rfl, hb⟩
end Go.Proofs.Ythnedhfjochfnaa
