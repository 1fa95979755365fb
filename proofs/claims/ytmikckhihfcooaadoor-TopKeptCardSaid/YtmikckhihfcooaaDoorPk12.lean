/- A text in parts: its errors, its cuts, its joins, its edits. Plain lists, no program in sight. strings.Join with nothing between, of a row of strings. rope.Check, rope.Text and the document's errors of a rope. -/
import Derived.Test.YtmikckhihfcooaaDoorPk01
import Derived.Test.YtmikckhihfcooaaDoorPk09
import Derived.Test.YtmikckhihfcooaaDoorShelf
import Derived.Test.YtmikckhihfcooaaDoorPk02
import Derived.Test.YtmikckhihfcooaaDoorPk10
namespace Go.Proofs.YtmikckhihfcooaaDoor
abbrev Parts := List (List UInt8)
def tot (p : Parts) : Nat := p.flatten.length
theorem tot_nil : tot [] = 0 := rfl
theorem tot_app (p q : Parts) : tot (p ++ q) = tot p + tot q := by simp [tot]
theorem tot_one (x : List UInt8) : tot [x] = x.length := by simp [tot]
theorem tot_take_le (p : Parts) (k : Nat) : tot (p.take k) ≤ tot p := by
  conv => rhs; rw [← List.take_append_drop k p, tot_app]
  omega
theorem tot_succ (p : Parts) {k : Nat} (h : k < p.length) : tot (p.take (k + 1)) = tot (p.take k) + (p.getD k []).length := by
  rw [List.take_succ_eq_append_getElem h, tot_app, tot_one, List.getD_eq_getElem?_getD, List.getElem?_eq_getElem h]; rfl
def ropeGo (n : Nat) : Parts → Int
  | [] => 0
  | x :: l => if x.length = 0 then 5 else if 200 < n + x.length then 2 else ropeGo (n + x.length) l
def ropeErr (p : Parts) : Int := if 60 < p.length then 2 else ropeGo 0 p
structure RopeOk (p : Parts) : Prop where
  n : p.length ≤ 60
  e : ∀ x ∈ p, x.length ≠ 0
  t : tot p ≤ 200
theorem ropeGo_zero : ∀ {p : Parts} {n : Nat}, n ≤ 200 → (ropeGo n p = 0 ↔ (∀ x ∈ p, x.length ≠ 0) ∧ n + tot p ≤ 200)
  | [], n, hn => by simp [ropeGo, tot_nil, hn]
  | x :: l, n, hn => by
    have ht : tot (x :: l) = x.length + tot l := by simp [tot]
    rw [ropeGo]
    split
    · rename_i h
      constructor
      · intro h2; cases h2
      · rintro ⟨h1, _⟩; exact absurd h (h1 x (by simp))
    · rename_i h
      split
      · rename_i h2
        constructor
        · intro h3; cases h3
        · rintro ⟨_, h4⟩; omega
      · rename_i h2
        rw [ropeGo_zero (by omega)]
        constructor
        · rintro ⟨h3, h4⟩
          refine ⟨fun y hy => ?_, by omega⟩
          rcases List.mem_cons.1 hy with rfl | hy
          · exact h
          · exact h3 y hy
        · rintro ⟨h3, h4⟩
          exact ⟨fun y hy => h3 y (by simp [hy]), by omega⟩
theorem ropeErr_zero {p : Parts} : ropeErr p = 0 ↔ RopeOk p := by
  unfold ropeErr
  by_cases h : 60 < p.length
  · rw [if_pos h]
    constructor
    · intro h2; cases h2
    · intro h2; have := h2.n; omega
  · rw [if_neg h, ropeGo_zero (Nat.zero_le _)]
    constructor
    · rintro ⟨h1, h2⟩; exact ⟨by omega, h1, by omega⟩
    · intro h2; exact ⟨h2.e, by have := h2.t; omega⟩
theorem ropeGo_range : ∀ (p : Parts) (n : Nat), ropeGo n p = 0 ∨ ropeGo n p = 2 ∨ ropeGo n p = 5
  | [], _ => .inl rfl
  | x :: l, n => by
    rw [ropeGo]; split
    · exact .inr (.inr rfl)
    · split
      · exact .inr (.inl rfl)
      · exact ropeGo_range l _
/-- What a cut gives of one part; r bytes are left ahead of the cut. -/
def pcA (r : Nat) (x : List UInt8) : Parts := if 0 < min r x.length then [x.take (min r x.length)] else []
def pcB (r : Nat) (x : List UInt8) : Parts := if min r x.length < x.length then [x.drop (min r x.length)] else []
def cutA (r : Nat) : Parts → Parts
  | [] => []
  | x :: l => pcA r x ++ cutA (r - x.length) l
def cutB (r : Nat) : Parts → Parts
  | [] => []
  | x :: l => pcB r x ++ cutB (r - x.length) l
theorem cutA_snoc : ∀ (p : Parts) (r : Nat) (x : List UInt8), cutA r (p ++ [x]) = cutA r p ++ pcA (r - tot p) x
  | [], r, x => by simp [cutA, tot_nil]
  | y :: l, r, x => by
    have ht : tot (y :: l) = y.length + tot l := by simp [tot]
    rw [List.cons_append, cutA, cutA_snoc l, cutA, ht, List.append_assoc, Nat.sub_sub]
theorem cutB_snoc : ∀ (p : Parts) (r : Nat) (x : List UInt8), cutB r (p ++ [x]) = cutB r p ++ pcB (r - tot p) x
  | [], r, x => by simp [cutB, tot_nil]
  | y :: l, r, x => by
    have ht : tot (y :: l) = y.length + tot l := by simp [tot]
    rw [List.cons_append, cutB, cutB_snoc l, cutB, ht, List.append_assoc, Nat.sub_sub]
theorem cutA_step (p : Parts) (r : Nat) {k : Nat} (h : k < p.length) : cutA r (p.take (k + 1)) = cutA r (p.take k) ++ pcA (r - tot (p.take k)) (p.getD k []) := by
  rw [List.take_succ_eq_append_getElem h, cutA_snoc, List.getD_eq_getElem?_getD, List.getElem?_eq_getElem h]; rfl
theorem cutB_step (p : Parts) (r : Nat) {k : Nat} (h : k < p.length) : cutB r (p.take (k + 1)) = cutB r (p.take k) ++ pcB (r - tot (p.take k)) (p.getD k []) := by
  rw [List.take_succ_eq_append_getElem h, cutB_snoc, List.getD_eq_getElem?_getD, List.getElem?_eq_getElem h]; rfl
theorem pcA_len (r : Nat) (x : List UInt8) : (pcA r x).length ≤ 1 := by unfold pcA; split <;> simp
theorem pcB_len (r : Nat) (x : List UInt8) : (pcB r x).length ≤ 1 := by unfold pcB; split <;> simp
theorem cutA_len : ∀ (p : Parts) (r : Nat), (cutA r p).length ≤ p.length
  | [], _ => Nat.le_refl _
  | x :: l, r => by
    have := cutA_len l (r - x.length); have := pcA_len r x
    rw [cutA, List.length_append, List.length_cons]; omega
theorem cutB_len : ∀ (p : Parts) (r : Nat), (cutB r p).length ≤ p.length
  | [], _ => Nat.le_refl _
  | x :: l, r => by
    have := cutB_len l (r - x.length); have := pcB_len r x
    rw [cutB, List.length_append, List.length_cons]; omega
theorem pc_tot (r : Nat) (x : List UInt8) : tot (pcA r x) = min r x.length ∧ tot (pcB r x) = x.length - min r x.length := by
  unfold pcA pcB
  constructor
  · split
    · rw [tot_one, List.length_take]; omega
    · rw [tot_nil]; omega
  · split
    · rw [tot_one, List.length_drop]
    · rw [tot_nil]; omega
theorem cut_tot : ∀ (p : Parts) (r : Nat), tot (cutA r p) = min r (tot p) ∧ tot (cutB r p) = tot p - min r (tot p)
  | [], r => by simp [cutA, cutB, tot_nil]
  | x :: l, r => by
    have ht : tot (x :: l) = x.length + tot l := by simp [tot]
    obtain ⟨h1, h2⟩ := cut_tot l (r - x.length)
    obtain ⟨h3, h4⟩ := pc_tot r x
    rw [cutA, cutB, tot_app, tot_app, h1, h2, h3, h4, ht]
    omega
theorem cut_ne : ∀ (p : Parts) (r : Nat), (∀ x ∈ cutA r p, x.length ≠ 0) ∧ ∀ x ∈ cutB r p, x.length ≠ 0
  | [], _ => ⟨fun _ h => (by cases h), fun _ h => (by cases h)⟩
  | y :: l, r => by
    obtain ⟨h1, h2⟩ := cut_ne l (r - y.length)
    refine ⟨fun x hx => ?_, fun x hx => ?_⟩
    · rcases List.mem_append.1 hx with h | h
      · unfold pcA at h
        split at h
        · rw [List.mem_singleton] at h; subst h; rw [List.length_take]; omega
        · cases h
      · exact h1 x h
    · rcases List.mem_append.1 hx with h | h
      · unfold pcB at h
        split at h
        · rw [List.mem_singleton] at h; subst h; rw [List.length_drop]; omega
        · cases h
      · exact h2 x h
theorem RopeOk.cutA {p : Parts} (h : RopeOk p) (r : Nat) : RopeOk (cutA r p) :=
  ⟨Nat.le_trans (cutA_len p r) h.n, (cut_ne p r).1, by have := (cut_tot p r).1; have := h.t; omega⟩
theorem RopeOk.cutB {p : Parts} (h : RopeOk p) (r : Nat) : RopeOk (cutB r p) :=
  ⟨Nat.le_trans (cutB_len p r) h.n, (cut_ne p r).2, by have := (cut_tot p r).2; have := h.t; omega⟩
/-- Of right parts: what the document's program does, part by part. -/
theorem pc_whole {r : Nat} {x : List UInt8} (hx : x.length ≠ 0) (h : x.length ≤ r) : pcA r x = [x] ∧ pcB r x = [] := by
  unfold pcA pcB
  rw [Nat.min_eq_right h, if_pos (by omega), if_neg (by omega), List.take_length]
  exact ⟨rfl, rfl⟩
theorem pc_none {x : List UInt8} (hx : x.length ≠ 0) : pcA 0 x = [] ∧ pcB 0 x = [x] := by
  unfold pcA pcB
  rw [Nat.zero_min, if_neg (by omega), if_pos (by omega)]
  exact ⟨rfl, rfl⟩
theorem pc_in {r : Nat} {x : List UInt8} (h0 : 0 < r) (h : r < x.length) : pcA r x = [x.take r] ∧ pcB r x = [x.drop r] := by
  unfold pcA pcB
  rw [Nat.min_eq_left (by omega), if_pos h0, if_pos h]
  exact ⟨rfl, rfl⟩
/-- Of two right ropes. -/
def joinErr (p q : Parts) : Int := if 60 < p.length + q.length ∨ 200 < tot p + tot q then 11 else 0
theorem joinErr_of {p q : Parts} (hp : RopeOk p) (hq : RopeOk q) : joinErr p q = if ropeErr (p ++ q) = 0 then 0 else 11 := by
  unfold joinErr
  by_cases h : 60 < p.length + q.length ∨ 200 < tot p + tot q
  · rw [if_pos h, if_neg]
    intro h2
    have := ropeErr_zero.1 h2
    have h3 := this.n; have h4 := this.t
    rw [List.length_append] at h3; rw [tot_app] at h4
    omega
  · rw [if_neg h, if_pos]
    refine ropeErr_zero.2 ⟨by rw [List.length_append]; omega, fun x hx => ?_, by rw [tot_app]; omega⟩
    rcases List.mem_append.1 hx with h1 | h1
    · exact hp.e x h1
    · exact hq.e x h1
theorem joinErr_zero {p q : Parts} (hp : RopeOk p) (hq : RopeOk q) (h : joinErr p q = 0) : RopeOk (p ++ q) := by
  rw [joinErr_of hp hq] at h
  by_cases h2 : ropeErr (p ++ q) = 0
  · exact ropeErr_zero.1 h2
  · rw [if_neg h2] at h; cases h
theorem ropeErr_one (x : List UInt8) (h : x.length ≠ 0) : ropeErr [x] = if 200 < x.length then 2 else 0 := by
  unfold ropeErr
  rw [if_neg (by simp), ropeGo, if_neg h, Nat.zero_add]
  rfl
def insP (x : List UInt8) : Parts := if x.length = 0 then [] else [x]
theorem insP_ok {x : List UInt8} (h : x.length ≤ 200) : RopeOk (insP x) := by
  unfold insP
  split
  · exact ⟨by simp, fun _ h => (by cases h), by simp [tot]⟩
  · rename_i h0
    exact ⟨by simp, fun y hy => by rw [List.mem_singleton] at hy; subst hy; exact h0, by rw [tot_one]; exact h⟩
theorem joinErr_nil {p : Parts} (h : RopeOk p) : joinErr p [] = 0 := by
  unfold joinErr; rw [if_neg]; have := h.n; have := h.t; simp [tot_nil]; omega
/-- An edit of a rope: an error, or the parts. -/
def badAt (p : Parts) (x : Ed) : Prop := x.at_ < 0 ∨ (tot p : Int) < x.at_ ∨ x.del < 0 ∨ (tot p : Int) - x.at_ < x.del
instance (p : Parts) (x : Ed) : Decidable (badAt p x) := inferInstanceAs (Decidable (_ ∨ _))
def edA (p : Parts) (x : Ed) : Parts := cutA x.at_.toNat p
def edC (p : Parts) (x : Ed) : Parts := cutB x.del.toNat (cutB x.at_.toNat p)
def ropeEdE (p : Parts) (x : Ed) : Int :=
  if ropeErr p ≠ 0 then ropeErr p else if badAt p x then 1 else if 200 < x.ins.length then 2 else if joinErr (edA p x) (insP x.ins) ≠ 0 then 11 else if joinErr (edA p x ++ insP x.ins) (edC p x) ≠ 0 then 11 else 0
def ropeEdP (p : Parts) (x : Ed) : Parts := if ropeEdE p x = 0 then edA p x ++ insP x.ins ++ edC p x else []
end Go.Proofs.YtmikckhihfcooaaDoor
namespace Go.Proofs.YtmikckhihfcooaaDoor
open Go.RowKit
theorem join_flat : ∀ xs : List (List UInt8), Lib.join xs [] = xs.flatten
  | [] => rfl
  | [x] => by simp [Lib.join, List.intercalate]
  | x :: y :: r => by
    have := join_flat (y :: r)
    simp only [Lib.join, List.intercalate] at this ⊢
    rw [List.intersperse_cons_cons, List.flatten_cons, List.flatten_cons, this]
    simp
theorem Rd.spot {w : World} {B n : Nat} {A : Option Addr} {xs : List Value} (h : Rd w B 1 A n xs) (hn : 0 < n) : ∃ b o, A = some ⟨b, o, none⟩ ∧ b < B ∧ ∀ (j : Nat) u, xs[j]? = some u → w.cell? ⟨b, o + j, none⟩ = some u := by
  obtain ⟨ad, e, hb, hc⟩ := h.2 hn
  have h0 : 0 < xs.length := by have := h.1; omega
  have hc0 := hc 0 _ (List.getElem?_eq_getElem h0)
  obtain ⟨b, o, sp⟩ := ad
  have hsp : sp = none := by
    cases sp with
    | none => rfl
    | some q =>
      exfalso
      have e0 : (⟨b, o, some q⟩ : Addr).add 0 = ⟨b, o, some q⟩ := by unfold Addr.add; rw [if_pos rfl]
      rw [e0] at hc0
      unfold World.cell? at hc0
      split at hc0
      · simp at hc0
      · cases hc0
  subst hsp
  refine ⟨b, o, e, hb, fun j u hu => ?_⟩
  have h1 := hc j u hu
  have e1 : (⟨b, o, none⟩ : Addr).add j = ⟨b, o + j, none⟩ := by unfold Addr.add; split <;> simp_all
  rwa [e1] at h1
theorem joinS (p : List (List UInt8)) (A : Option Addr) (n c B : Nat) (w : World) (hr : Rd w B 1 A n (strCells p)) (hB : B ≤ w.heap.size) (hnc : n ≤ c) (hn : n ≤ 140737488355328) (hl : p.flatten.length ≤ 140737488355328) :
    Calls Tryd.prog 29 #[.slice A n c, .string ⟨#[]⟩] w fun e w' => e = .returned (.string (S p.flatten)) ∧ Below w.heap.size w w' := by
  have hpn : p.length = n := by have := hr.1; simpa [strCells] using this
  rcases Nat.eq_zero_or_pos n with h0 | h0
  · subst h0
    obtain rfl : p = [] := List.eq_nil_of_length_eq_zero hpn
    refine (Tryd.strings_Join_none A c ⟨#[]⟩ w).mono ?_
    rintro e w' ⟨rfl, rfl⟩
    exact ⟨rfl, Below.refl _ _⟩
  · obtain ⟨b, o, rfl, hb, hc⟩ := hr.spot h0
    subst hpn
    have e1 : (p.map S).map (fun x : ByteArray => x.data.toList) = p := by
      rw [List.map_map]
      conv => rhs; rw [← List.map_id p]
      rfl
    have e0 : (⟨#[]⟩ : ByteArray).data.toList = [] := rfl
    have hj := join_flat p
    have key := Tryd.strings_Join b o c (p.map S) ⟨#[]⟩ w (fun j x hx => hc j _ (by
      rw [strCells, List.getElem?_map]
      rw [List.getElem?_map] at hx
      cases hp : p[j]? with
      | none => rw [hp] at hx; cases hx
      | some y => rw [hp] at hx; cases hx; rfl)) (by omega) (by rw [List.length_map]; exact hn) (by rw [List.length_map]; exact hnc) (by rw [e1, e0, hj]; exact hl)
    rw [List.length_map, e1, e0, hj] at key
    exact key
end Go.Proofs.YtmikckhihfcooaaDoor
namespace Go.Proofs.YtmikckhihfcooaaDoor
open Go.RowKit
/-- A rope as a value. -/
def ropeV (A : Option Addr) (n c : Nat) : Value := .agg #[.slice A n c]
theorem strCells_len' {p : Parts} {w : World} {B n : Nat} {A : Option Addr} (h : Rd w B 1 A n (strCells p)) : p.length = n := by have := h.1; simpa [strCells] using this
set_option maxRecDepth 100000 in
set_option maxHeartbeats 4000000 in
theorem ropeCheck_any (p : Parts) (A : Option Addr) (n c B : Nat) (w : World) (hr : Rd w B 1 A n (strCells p)) (hB : B ≤ w.heap.size) (hn : n ≤ 9223372036854775807) (hsz : ∀ x ∈ p, x.length ≤ 9223372036854775807) :
    Calls Tryd.prog 27 #[.agg #[.slice A n c]] w fun e w' => e = .returned (.int .i64 (ropeErr p)) ∧ Below w.heap.size w w' := by
  have hpn := strCells_len' hr
  have hb0 : Below w.heap.size w (w.alloc (.cells #[.slice A n c] 32)) := (by repeat (first | exact Below.refl _ _ | assumption | refine Below.alloc ?_ (by first | exact Nat.le_refl _ | assumption | omega | (simp <;> omega)) _ | refine Below.setCell ?_ (by first | exact Nat.le_refl _ | assumption | omega | (simp <;> omega)) _ | refine Below.drew ?_ | refine below_drewN ?_ _))
  have HR : Hid (Rd (w.alloc (.cells #[.slice A n c] 32)) B 1 A n (strCells p)) := hr.alloc hB _
  have HSZ := Lib.hid hsz
  have HPN := Lib.hid hpn
  clear hr hsz hpn
  by_cases h60 : 60 < n
  · have g1 : decide ((60 : Int) < (n : Int)) = true := decide_eq_true (by omega)
    have HE : Hid (ropeErr p = 2) := by unfold Hid ropeErr; rw [HPN.out, if_pos h60]
    go_enter Tryd.func27, Tryd.ntmps27
    go_wp2_with fail
    go_ret
    rw [HE.out]
    exact ⟨rfl, hb0⟩
  have g1 : decide ((60 : Int) < (n : Int)) = false := decide_eq_false (by omega)
  have HE : Hid (ropeErr p = ropeGo 0 p) := by unfold Hid ropeErr; rw [HPN.out, if_neg h60]
  go_enter Tryd.func27, Tryd.ntmps27
  go_wp2_with fail
  generalize hw1 : (w.alloc (.cells #[.slice A n c] 32)) = w1 at *
  clear hw1
  go_loopw [3, 13] (fun s i wr => ∃ k : Nat, k ≤ n ∧ i = .int .i64 (k : Int) ∧ s = .int .i64 (tot (p.take k) : Nat) ∧ tot (p.take k) ≤ 200 ∧ ropeGo 0 p = ropeGo (tot (p.take k)) (p.drop k) ∧ wr = w1) (fun _ i _ => n - (intOf i).toNat)
  case atStart => exact ⟨0, Nat.zero_le _, rfl, rfl, Nat.zero_le _, rfl, rfl⟩
  case round =>
    obtain ⟨k, hk, rfl, rfl, ht, hgo, rfl⟩ := hrel
    have HGO := Lib.hid hgo
    clear hgo
    by_cases hlt : k < n
    · have g2 : decide ((k : Int) < (n : Int)) = true := decide_eq_true (by omega)
      obtain ⟨ad, rfl, hab, hc⟩ := str_cell HR.out hlt
      have hts := tot_succ p (k := k) (by rw [HPN.out]; exact hlt)
      have HTS := Lib.hid hts
      have hxl : (p.getD k []).length ≤ 9223372036854775807 := by
        have hkp : k < p.length := by rw [HPN.out]; exact hlt
        rw [List.getD_eq_getElem?_getD, List.getElem?_eq_getElem hkp]
        exact HSZ.out _ (List.getElem_mem hkp)
      have HST : Hid (ropeGo (tot (p.take k)) (p.drop k) = if (p.getD k []).length = 0 then 5 else if 200 < tot (p.take k) + (p.getD k []).length then 2 else ropeGo (tot (p.take k) + (p.getD k []).length) (p.drop (k + 1))) := by
        have hkp : k < p.length := by rw [HPN.out]; exact hlt
        unfold Hid
        conv => lhs; rw [List.drop_eq_getElem_cons hkp, ropeGo]
        rw [List.getD_eq_getElem?_getD, List.getElem?_eq_getElem hkp]; rfl
      clear hts
      have hxs := S_size (p.getD k [])
      have hxe := isEmpty_size (p.getD k [])
      generalize p.getD k [] = x at *
      generalize tot (p.take k) = t at *
      by_cases h0 : x.length = 0
      · have g3 : (S x).toList.isEmpty = true := by rw [hxe, decide_eq_true h0]
        have HF : Hid (ropeErr p = 5) := by unfold Hid; rw [HE.out, HGO.out, HST.out, if_pos h0]
        clear hxe
        go_wp2_with fail
        go_ret
        rw [HF.out]
        exact ⟨rfl, hb0⟩
      · have g3 : (S x).toList.isEmpty = false := by rw [hxe, decide_eq_false h0]
        have g3' : ((S x).toList == []) = false := by
          rw [beq_eq_false_iff_ne]; intro h; rw [h] at g3; cases g3
        clear hxe
        by_cases h2 : 200 < t + x.length
        · have HF : Hid (ropeErr p = 2) := by unfold Hid; rw [HE.out, HGO.out, HST.out, if_neg h0, if_pos h2]
          have g4 : decide ((200 : Int) - (t : Int) < ((S x).size : Int)) = true := decide_eq_true (by omega)
          go_wp2_with fail
          go_ret
          rw [HF.out]
          exact ⟨rfl, hb0⟩
        · have g4 : decide ((200 : Int) - (t : Int) < ((S x).size : Int)) = false := decide_eq_false (by omega)
          have HN : Hid (ropeGo 0 p = ropeGo (t + x.length) (p.drop (k + 1))) := by unfold Hid; rw [HGO.out, HST.out, if_neg h0, if_neg h2]
          go_wp2_with fail
          go_roundw
          case rel =>
            refine ⟨k + 1, by omega, by go_num, ?_, by rw [HTS.out]; omega, by rw [HTS.out]; exact HN.out, by first | rfl | trivial⟩
            rw [HTS.out, ← hxs]; go_num
          case measure => simp [intOf]; omega
    · obtain rfl : k = n := by omega
      have g2 : decide ((k : Int) < (k : Int)) = false := by simp
      have HF : Hid (ropeErr p = 0) := by
        unfold Hid; rw [HE.out, HGO.out, List.drop_of_length_le (by rw [HPN.out]; exact Nat.le_refl _)]; rfl
      go_wp2_with fail
      go_ret
      rw [HF.out]
      exact ⟨rfl, hb0⟩
/-- What Text answers. -/
def textV (p : Parts) : List UInt8 := if ropeErr p = 0 then p.flatten else []
set_option maxRecDepth 100000 in
set_option maxHeartbeats 4000000 in
theorem ropeText_any (p : Parts) (A : Option Addr) (n c B : Nat) (w : World) (hr : Rd w B 1 A n (strCells p)) (hB : B ≤ w.heap.size) (hn : n ≤ 9223372036854775807) (hnc : n ≤ c) (hsz : ∀ x ∈ p, x.length ≤ 9223372036854775807) :
    Calls Tryd.prog 13 #[.agg #[.slice A n c]] w fun e w' => e = .returned (.tuple #[.string (S (textV p)), .int .i64 (ropeErr p)]) ∧ Below w.heap.size w w' := by
  have hpn := strCells_len' hr
  have hb0 : Below w.heap.size w (w.alloc (.cells #[.slice A n c] 32)) := (by repeat (first | exact Below.refl _ _ | assumption | refine Below.alloc ?_ (by first | exact Nat.le_refl _ | assumption | omega | (simp <;> omega)) _ | refine Below.setCell ?_ (by first | exact Nat.le_refl _ | assumption | omega | (simp <;> omega)) _ | refine Below.drew ?_ | refine below_drewN ?_ _))
  have HR : Hid (Rd (w.alloc (.cells #[.slice A n c] 32)) B 1 A n (strCells p)) := hr.alloc hB _
  have HB0 : Hid (Blk (w.alloc (.cells #[.slice A n c] 32)) w.heap.size 32 #[.slice A n c]) := Blk.new_ _ _ _
  have hbz : B ≤ (w.alloc (.cells #[.slice A n c] 32)).heap.size := by simp; omega
  have HCK := Lib.hid (ropeCheck_any p A n c B _ HR.out hbz hn hsz)
  have HPN := Lib.hid hpn
  clear hr hsz hpn
  by_cases he : ropeErr p = 0
  · have HV : Hid (textV p = p.flatten) := by unfold Hid textV; rw [if_pos he]
    have HOK := Lib.hid (ropeErr_zero.1 he)
    have HE := Lib.hid he
    clear he
    rw [HE.out] at HCK
    go_enter Tryd.func13, Tryd.ntmps13
    go_wp2_with fail
    refine (HCK.out).mono ?_
    rintro e w2 ⟨rfl, hb2⟩
    have q0 := Blk.cell0 (HB0.out.below' hb2)
    have HR2 := Lib.hid (HR.out.below (hb2.mono hbz))
    have hz2 := hb2.size
    go_wp2_with fail
    refine (joinS p A n c B _ HR2.out (by omega) hnc (by have := HOK.out.n; have := HPN.out; omega) (by have := HOK.out.t; unfold tot at this; omega)).mono ?_
    rintro e w3 ⟨rfl, hb3⟩
    go_wp2_with fail
    go_ret2
    rw [HV.out, HE.out]
    exact ⟨rfl, hb0.trans ((bthen hb2 hb3).mono (by simp))⟩
  · have HV : Hid (textV p = []) := by unfold Hid textV; rw [if_neg he]
    have g1 : (ropeErr p != 0) = true := by rw [bne_iff_ne]; exact he
    have g2 : (ropeErr p == 0) = false := by rw [beq_eq_false_iff_ne]; exact he
    clear he
    generalize ropeErr p = e0 at *
    go_enter Tryd.func13, Tryd.ntmps13
    go_wp2_with fail
    refine (HCK.out).mono ?_
    rintro e w2 ⟨rfl, hb2⟩
    go_wp2_with fail
    go_ret2
    rw [HV.out]
    exact ⟨rfl, hb0.trans (hb2.mono (by simp))⟩
end Go.Proofs.YtmikckhihfcooaaDoor
