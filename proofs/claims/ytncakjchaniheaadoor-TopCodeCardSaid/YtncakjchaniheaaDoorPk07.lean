/- code.Sum, the reference's LensErr, code.bits. code.bits. The words that are made for lengths, in order. No program in sight. -/
import Derived.Test.YtncakjchaniheaaDoorPk06
import Derived.Test.YtncakjchaniheaaDoorPk02
import Derived.Test.YtncakjchaniheaaDoorPk03
namespace Go.Proofs.YtncakjchaniheaaDoor
open Go.RowKit
/-- The size of a word's share. -/
def share (n : Int) : Int := 2 ^ (12 - n).toNat
def lensGo : Int → List Int → Int × Int
  | s, [] => (s, 0)
  | s, n :: r => if n < 1 ∨ 12 < n then (0, 1) else lensGo (s + share n) r
def lensErr (l : List Int) : Int × Int := if 12 < l.length then (0, 2) else lensGo 0 l
theorem twelve {p : Int → Prop} {n : Int} (h0 : 1 ≤ n) (h1 : n ≤ 12) (h : ∀ k : Fin 12, p ((k.val : Int) + 1)) : p n := by
  have := h ⟨(n - 1).toNat, by omega⟩
  rwa [show (((n - 1).toNat : Int) + 1) = n by omega] at this
theorem share_bd (n : Int) (h0 : 1 ≤ n) (h1 : n ≤ 12) : 1 ≤ share n ∧ share n ≤ 2048 := twelve (p := fun n => 1 ≤ share n ∧ share n ≤ 2048) h0 h1 (by decide)
theorem share_shr (n : Int) (h0 : 1 ≤ n) (h1 : n ≤ 12) : (4096 : Int) / 2 ^ n.toNat = share n := twelve (p := fun n => (4096 : Int) / 2 ^ n.toNat = share n) h0 h1 (by decide)
theorem int_cell {w : World} {B n : Nat} {A : Option Addr} {l : List Int} (h : Rd w B 1 A n (ints l)) {k : Nat} (hk : k < n) : ∃ ad, ∃ hl : k < l.length, A = some ad ∧ ad.block < B ∧ w.cell? (ad.add k) = some (.int .i64 l[k]) := by
  obtain ⟨ad, u, hA, hb, hu, hc⟩ := h.at_ hk
  obtain ⟨x, hx, rfl⟩ := ints_at hu
  obtain ⟨hl, rfl⟩ := List.getElem?_eq_some_iff.1 hx
  exact ⟨ad, hl, hA, hb, hc⟩
theorem ints_len {w : World} {B n : Nat} {A : Option Addr} {l : List Int} (h : Rd w B 1 A n (ints l)) : l.length = n := by
  have := h.1; simpa [ints] using this
set_option maxRecDepth 100000 in
set_option maxHeartbeats 1000000 in
theorem coSum_any (l : List Int) (A : Option Addr) (m c B : Nat) (w : World) (hr : Rd w B 1 A m (ints l)) (hm : m ≤ 9223372036854775807) :
    Calls Tryd.prog 39 #[.slice A m c] w fun e w' => e = .returned (.tuple #[.int .i64 (lensErr l).1, .int .i64 (lensErr l).2]) ∧ Below w.heap.size w w' := by
  have hlen := ints_len hr
  have HR := Lib.hid hr; clear hr
  have HL := Lib.hid hlen; clear hlen
  by_cases h12 : 12 < m
  · have HE : Hid (lensErr l = (0, 2)) := by unfold Hid lensErr; rw [if_pos (by rw [HL.out]; exact h12)]
    go_enter Tryd.func39, Tryd.ntmps39
    go_wp2_with fail
    go_ret2
    exact ⟨by rw [HE.out]; rfl, (by repeat (first | exact Below.refl _ _ | assumption | refine Below.alloc ?_ (by first | exact Nat.le_refl _ | assumption | omega | (simp <;> omega)) _ | refine Below.setCell ?_ (by first | exact Nat.le_refl _ | assumption | omega | (simp <;> omega)) _ | refine Below.drew ?_ | refine below_drewN ?_ _))⟩
  have HE : Hid (lensErr l = lensGo 0 l) := by unfold Hid lensErr; rw [if_neg (by rw [HL.out]; exact h12)]
  go_enter Tryd.func39, Tryd.ntmps39
  go_wp2_with fail
  go_loop [4, 12] (fun s i => ∃ (k : Nat) (x : Int), k ≤ m ∧ lensGo 0 l = lensGo x (l.drop k) ∧ 0 ≤ x ∧ x ≤ 2048 * k ∧ i = .int .i64 k ∧ s = .int .i64 x) (fun _ i => m - (intOf i).toNat)
  case atStart => exact ⟨0, 0, Nat.zero_le _, rfl, Int.le_refl _, by omega, rfl, rfl⟩
  case round =>
    obtain ⟨k, x, hk, hx, hx0, hx1, rfl, rfl⟩ := hrel
    have HX := Lib.hid hx; clear hx
    by_cases hlt : k < m
    · obtain ⟨ad, hl, rfl, hab, c0⟩ := int_cell HR.out hlt
      have HD : Hid (lensGo 0 l = if l[k] < 1 ∨ 12 < l[k] then (0, 1) else lensGo (x + share l[k]) (l.drop (k + 1))) := by
        unfold Hid; rw [HX.out, List.drop_eq_getElem_cons hl, lensGo]
      generalize l[k] = n at *
      clear HX
      have HSH : Hid (1 ≤ n → n ≤ 12 → 1 ≤ share n ∧ share n ≤ 2048) := share_bd n
      go_wp2_with fail
      all_goals first
        | (go_ret2
           refine ⟨?_, (by repeat (first | exact Below.refl _ _ | assumption | refine Below.alloc ?_ (by first | exact Nat.le_refl _ | assumption | omega | (simp <;> omega)) _ | refine Below.setCell ?_ (by first | exact Nat.le_refl _ | assumption | omega | (simp <;> omega)) _ | refine Below.drew ?_ | refine below_drewN ?_ _))⟩
           go_light
           rw [HE.out, HD.out, if_pos (by omega)]; rfl)
        | (go_round
           case rel =>
             go_light
             have hs := HSH.out (by omega) (by omega)
             refine ⟨k + 1, x + share n, by omega, ?_, by omega, by omega, by go_num, ?_⟩
             · rw [HD.out, if_neg (by omega)]
             · change Value.int IntKind.i64 (wrap64 (x + wrap64 (share n))) = _
               rw [IntWalk.wrap64_in (share n) ⟨by omega, by omega⟩, IntWalk.wrap64_in _ ⟨by omega, by omega⟩]
           case measure => simp [intOf]; omega)
    · obtain rfl : k = m := by omega
      have HF : Hid (lensErr l = (x, 0)) := by unfold Hid; rw [HE.out, HX.out, List.drop_of_length_le (by rw [HL.out]; exact Nat.le_refl _), lensGo]
      go_wp2_with fail
      go_ret2
      exact ⟨by rw [HF.out]; rfl, (by repeat (first | exact Below.refl _ _ | assumption | refine Below.alloc ?_ (by first | exact Nat.le_refl _ | assumption | omega | (simp <;> omega)) _ | refine Below.setCell ?_ (by first | exact Nat.le_refl _ | assumption | omega | (simp <;> omega)) _ | refine Below.drew ?_ | refine below_drewN ?_ _))⟩
end Go.Proofs.YtncakjchaniheaaDoor
namespace Go.Proofs.YtncakjchaniheaaDoor
open Go.RowKit
theorem ofInt_64 (a : Nat) (ha : a < 4096) : (BitVec.ofInt 64 (a : Int)).toNat = a := by
  rw [BitVec.ofInt_natCast, BitVec.toNat_ofNat]; exact Nat.mod_eq_of_lt (by omega)
theorem i64_and_nat (a b : Nat) (ha : a < 4096) (hb : b < 4096) : bits .and .i64 (a : Int) (b : Int) = ((a &&& b : Nat) : Int) := by
  have hx : a &&& b < 2 ^ 12 := Nat.and_lt_two_pow _ (by omega)
  show IntKind.i64.wrap ((BitVec.ofInt 64 (a : Int) &&& BitVec.ofInt 64 (b : Int)).toNat : Int) = _
  rw [BitVec.toNat_and, ofInt_64 a ha, ofInt_64 b hb, IntWalk.i64_in _ (by omega)]
theorem bw_step (x j : Nat) : bw x (j + 1) = UInt8.ofNat (48 + x / 2 ^ j % 2) :: bw x j := rfl
theorem rune0 (W : World) : (convert 21 9 (.int .i32 48)).run Tryd.prog W = .ok (.string (S [48])) W := by kernel_rfl
theorem rune1 (W : World) : (convert 21 9 (.int .i32 49)).run Tryd.prog W = .ok (.string (S [49])) W := by kernel_rfl
set_option maxRecDepth 100000 in
set_option maxHeartbeats 1000000 in
theorem bits_any (x n : Nat) (hx : x < 4096) (hn : n ≤ 12) (w : World) :
    Calls Tryd.prog 40 #[.int .i64 (x : Int), .int .i64 (n : Int)] w fun e w' => e = .returned (.string (S (bw x n))) ∧ Below w.heap.size w w' := by
  have r0 := rune0
  have r1 := rune1
  go_enter Tryd.func40, Tryd.ntmps40
  go_wp2_with fail
  go_loop [5, 6] (fun o k => ∃ (j : Nat) (out : List UInt8), j ≤ n ∧ k = .int .i64 ((j : Int) - 1) ∧ o = .string (S out) ∧ out ++ bw x j = bw x n ∧ out.length ≤ 12) (fun _ k => (intOf k + 1).toNat)
  case atStart => exact ⟨n, [], Nat.le_refl _, rfl, rfl, rfl, Nat.zero_le _⟩
  case round =>
    obtain ⟨j, out, hj, rfl, rfl, ho, hol⟩ := hrel
    have HO := Lib.hid ho; clear ho
    have hos : (S out).size ≤ 12 := by rw [S_size]; exact hol
    by_cases hlt : 0 < j
    · obtain ⟨j, rfl⟩ : ∃ k, j = k + 1 := ⟨j - 1, by omega⟩
      have e0 : (((j + 1 : Nat) : Int) - 1) = (j : Int) := by omega
      rw [e0]
      have hlen2 := congrArg List.length HO.out
      rw [List.length_append, bw_len, bw_len] at hlen2
      have hol2 : out.length + 1 ≤ 12 := by omega
      clear hlen2
      have hd : x / 2 ^ j < 4096 := Nat.lt_of_le_of_lt (Nat.div_le_self _ _) hx
      have HB : Hid ((x : Int) / 2 ^ j = ((x / 2 ^ j : Nat) : Int)) := by unfold Hid; rw [Int.natCast_ediv, Int.natCast_pow]; rfl
      have HST : Hid (bw x (j + 1) = UInt8.ofNat (48 + x / 2 ^ j % 2) :: bw x j) := rfl
      generalize x / 2 ^ j = y at *
      rcases Nat.mod_two_eq_zero_or_one y with hm | hm
      · have h1 : bits BinOp.and IntKind.i64 ((x : Int) / 2 ^ j) 1 = 0 := by
          have := i64_and_nat y 1 (by omega) (by omega)
          rw [nat_mask1, hm] at this
          rw [HB.out]; exact this
        have hz1 : (S [48]).size ≤ 1 := by rw [S_size]; exact Nat.le_refl _
        have HN : Hid ((out ++ [48]) ++ bw x j = bw x n) := by
          unfold Hid
          rw [← HO.out, HST.out, hm]; simp
        clear hm
        go_wp2_with fail
        exact ⟨⟨j, out ++ [48], by omega, rfl, by rw [append_S, L_S, L_S], HN.out, by simp; omega⟩, by simp [intOf]⟩
      · have h1 : bits BinOp.and IntKind.i64 ((x : Int) / 2 ^ j) 1 = 1 := by
          have := i64_and_nat y 1 (by omega) (by omega)
          rw [nat_mask1, hm] at this
          rw [HB.out]; exact this
        have hz1 : (S [49]).size ≤ 1 := by rw [S_size]; exact Nat.le_refl _
        have HN : Hid ((out ++ [49]) ++ bw x j = bw x n) := by
          unfold Hid
          rw [← HO.out, HST.out, hm]; simp
        clear hm
        go_wp2_with fail
        exact ⟨⟨j, out ++ [49], by omega, rfl, by rw [append_S, L_S, L_S], HN.out, by simp; omega⟩, by simp [intOf]⟩
    · obtain rfl : j = 0 := by omega
      go_wp2_with fail
      go_ret
      exact ⟨by rw [← HO.out, bw, List.append_nil]; rfl, Below.refl _ _⟩
end Go.Proofs.YtncakjchaniheaaDoor
namespace Go.Proofs.YtncakjchaniheaaDoor
/-- What the words before (n, i) take. -/
def nxF (n i : Nat) : Nat → List Nat → Nat
  | _, [] => 0
  | j, m :: r => (if m < n ∨ (m = n ∧ j < i) then 2 ^ (12 - m) else 0) + nxF n i (j + 1) r
def nx (ns : List Nat) (n i : Nat) : Nat := nxF n i 0 ns
def total : List Nat → Nat
  | [] => 0
  | m :: r => 2 ^ (12 - m) + total r
theorem nxF_succ (n i : Nat) (ns : List Nat) : ∀ j, nxF n (i + 1) j ns = nxF n i j ns + if j ≤ i ∧ ns[i - j]? = some n then 2 ^ (12 - n) else 0 := by
  induction ns with
  | nil => intro j; simp [nxF]
  | cons m r ih =>
    intro j
    simp only [nxF, ih (j + 1)]
    by_cases hj : j = i
    · subst hj
      have h1 : ¬ (j + 1 ≤ j ∧ r[j - (j + 1)]? = some n) := fun h => by omega
      have h3 : (m :: r)[j - j]? = some m := by rw [Nat.sub_self]; rfl
      rw [if_neg h1, h3]
      by_cases hm : m = n
      · subst hm
        rw [if_pos (.inr ⟨rfl, by omega⟩), if_neg (by omega), if_pos ⟨Nat.le_refl _, rfl⟩]
        omega
      · rw [if_neg (fun h : j ≤ j ∧ some m = some n => hm (by injection h.2))]
        by_cases hmn : m < n
        · rw [if_pos (.inl hmn), if_pos (.inl hmn)]; omega
        · rw [if_neg (by omega), if_neg (by omega)]; omega
    · by_cases hji : j < i
      · have e : i - j = (i - (j + 1)) + 1 := by omega
        rw [e, List.getElem?_cons_succ]
        have h2 : (m < n ∨ (m = n ∧ j < i + 1)) ↔ (m < n ∨ (m = n ∧ j < i)) := by omega
        have h4 : (j + 1 ≤ i ∧ r[i - (j + 1)]? = some n) ↔ (j ≤ i ∧ r[i - (j + 1)]? = some n) := by
          constructor <;> rintro ⟨a, b⟩ <;> exact ⟨by omega, b⟩
        simp only [h2, h4]
        omega
      · rw [if_neg (fun h => by omega : ¬ (j + 1 ≤ i ∧ _)), if_neg (fun h => by omega : ¬ (j ≤ i ∧ _))]
        have h2 : (m < n ∨ (m = n ∧ j < i + 1)) ↔ (m < n ∨ (m = n ∧ j < i)) := by omega
        simp only [h2]
        omega
theorem nx_hit {ns : List Nat} {n i : Nat} (h : ns[i]? = some n) : nx ns n (i + 1) = nx ns n i + 2 ^ (12 - n) := by
  unfold nx; rw [nxF_succ, if_pos ⟨Nat.zero_le _, by simpa using h⟩]
theorem nx_miss {ns : List Nat} {n i : Nat} (h : ns[i]? ≠ some n) : nx ns n (i + 1) = nx ns n i := by
  unfold nx; rw [nxF_succ, if_neg (fun hh => h (by simpa using hh.2))]; omega
theorem nx_next (ns : List Nat) (n : Nat) : nx ns (n + 1) 0 = nx ns n ns.length := by
  have key : ∀ (ns : List Nat) j k, j + ns.length ≤ k → nxF (n + 1) 0 j ns = nxF n k j ns := by
    intro ns
    induction ns with
    | nil => intros; rfl
    | cons m r ih =>
      intro j k hk
      simp only [List.length_cons] at hk
      simp only [nxF]
      rw [ih (j + 1) k (by omega)]
      congr 1
      have h2 : (m < n + 1 ∨ (m = n + 1 ∧ j < 0)) ↔ (m < n ∨ (m = n ∧ j < k)) := by omega
      simp only [h2]
  exact key ns 0 _ (by omega)
theorem nx_one {ns : List Nat} (h : ∀ m ∈ ns, 1 ≤ m) : nx ns 1 0 = 0 := by
  have key : ∀ (ns : List Nat), (∀ m ∈ ns, 1 ≤ m) → ∀ j, nxF 1 0 j ns = 0 := by
    intro ns
    induction ns with
    | nil => intros; rfl
    | cons m r ih =>
      intro h j
      have := h m (by simp)
      simp only [nxF]
      rw [if_neg (by omega), ih (fun x hx => h x (by simp [hx]))]
  exact key ns h 0
theorem nx_le (ns : List Nat) (n i : Nat) : nx ns n i ≤ total ns := by
  have key : ∀ (ns : List Nat) j, nxF n i j ns ≤ total ns := by
    intro ns
    induction ns with
    | nil => intros; exact Nat.le_refl _
    | cons m r ih =>
      intro j
      have := ih (j + 1)
      have hp : 0 < 2 ^ (12 - m) := Nat.two_pow_pos _
      simp only [nxF, total]
      split <;> omega
  exact key ns 0
theorem nx_dvd {ns : List Nat} {n i : Nat} (hn : n ≤ 12) : 2 ^ (12 - n) ∣ nx ns n i := by
  have key : ∀ (ns : List Nat) j, 2 ^ (12 - n) ∣ nxF n i j ns := by
    intro ns
    induction ns with
    | nil => intro j; exact Nat.dvd_zero _
    | cons m r ih =>
      intro j
      simp only [nxF]
      refine Nat.dvd_add ?_ (ih _)
      split
      · exact Nat.pow_dvd_pow 2 (by omega)
      · exact Nat.dvd_zero _
  exact key ns 0
/-- The word at a place. -/
def wdAt (ns : List Nat) (j : Nat) : List UInt8 := bw (nx ns (ns.getD j 0) j / 2 ^ (12 - ns.getD j 0)) (ns.getD j 0)
def codesL (ns : List Nat) : List (List UInt8) := (List.range ns.length).map (wdAt ns)
/-- What has been laid down before (n, i). -/
def outAt (ns : List Nat) (n i : Nat) : List (List UInt8) := (List.range ns.length).map fun j => if ns.getD j 0 < n ∨ (ns.getD j 0 = n ∧ j < i) then wdAt ns j else []
theorem outAt_len (ns : List Nat) (n i : Nat) : (outAt ns n i).length = ns.length := by simp [outAt]
theorem outAt_hit {ns : List Nat} {n i : Nat} (hn : ns.getD i 0 = n) : outAt ns n (i + 1) = (outAt ns n i).set i (wdAt ns i) := by
  apply List.ext_getElem
  · simp [outAt]
  · intro j h1 h2
    simp only [outAt, List.getElem_map, List.getElem_range, List.getElem_set]
    by_cases hij : i = j
    · subst hij; rw [if_pos rfl, if_pos (.inr ⟨hn, by omega⟩)]
    · rw [if_neg hij]
      have : (ns.getD j 0 < n ∨ (ns.getD j 0 = n ∧ j < i + 1)) ↔ (ns.getD j 0 < n ∨ (ns.getD j 0 = n ∧ j < i)) := by omega
      simp only [this]
theorem outAt_miss {ns : List Nat} {n i : Nat} (hn : ns.getD i 0 ≠ n) : outAt ns n (i + 1) = outAt ns n i := by
  apply List.ext_getElem
  · simp [outAt]
  · intro j h1 h2
    simp only [outAt, List.getElem_map, List.getElem_range]
    have : (ns.getD j 0 < n ∨ (ns.getD j 0 = n ∧ j < i + 1)) ↔ (ns.getD j 0 < n ∨ (ns.getD j 0 = n ∧ j < i)) := by
      by_cases hij : j = i
      · subst hij; omega
      · omega
    simp only [this]
theorem outAt_next (ns : List Nat) (n : Nat) : outAt ns (n + 1) 0 = outAt ns n ns.length := by
  apply List.ext_getElem
  · simp [outAt]
  · intro j h1 h2
    have hj : j < ns.length := by simpa [outAt] using h1
    simp only [outAt, List.getElem_map, List.getElem_range]
    have : (ns.getD j 0 < n + 1 ∨ (ns.getD j 0 = n + 1 ∧ j < 0)) ↔ (ns.getD j 0 < n ∨ (ns.getD j 0 = n ∧ j < ns.length)) := by omega
    simp only [this]
theorem outAt_one {ns : List Nat} (h : ∀ m ∈ ns, 1 ≤ m) : outAt ns 1 0 = List.replicate ns.length [] := by
  apply List.ext_getElem
  · simp [outAt]
  · intro j h1 h2
    have hj : j < ns.length := by simpa [outAt] using h1
    simp only [outAt, List.getElem_map, List.getElem_range, List.getElem_replicate]
    have hm : 1 ≤ ns.getD j 0 := by
      rw [List.getD_eq_getElem?_getD, List.getElem?_eq_getElem hj]
      exact h _ (List.getElem_mem hj)
    rw [if_neg (by omega)]
theorem outAt_end {ns : List Nat} (h : ∀ m ∈ ns, m ≤ 12) : outAt ns 13 0 = codesL ns := by
  apply List.ext_getElem
  · simp [outAt, codesL]
  · intro j h1 h2
    have hj : j < ns.length := by simpa [outAt] using h1
    simp only [outAt, codesL, List.getElem_map, List.getElem_range]
    have hm : ns.getD j 0 ≤ 12 := by
      rw [List.getD_eq_getElem?_getD, List.getElem?_eq_getElem hj]
      exact h _ (List.getElem_mem hj)
    rw [if_pos (.inl (by omega))]
end Go.Proofs.YtncakjchaniheaaDoor
