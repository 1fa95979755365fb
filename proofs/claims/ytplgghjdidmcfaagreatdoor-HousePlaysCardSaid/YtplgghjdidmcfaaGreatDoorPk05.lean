/- Rows of strings. Two rows of the call's own, side by side. slices.Index, Contains and Clone at strings, of a slice that reads as a list. -/
import Derived.Test.YtplgghjdidmcfaaGreatDoorPk04
import Derived.Test.YtplgghjdidmcfaaGreatDoorPk01
namespace Go.Proofs.YtplgghjdidmcfaaGreatDoor
open Go.RowKit
theorem strCells_set (l : List (List UInt8)) (k : Nat) (x : List UInt8) : strCells (l.set k x) = (strCells l).set k (.string (S x)) := by simp [strCells, List.map_set]
theorem strCells_at (l : List (List UInt8)) (k : Nat) (h : k < l.length) : (strCells l)[k]? = some (.string (S (l.getD k []))) := by
  rw [strCells, List.getElem?_map, List.getD_eq_getElem?_getD, List.getElem?_eq_getElem h]; rfl
theorem str_cell {w : World} {B n k : Nat} {A : Option Addr} {l : List (List UInt8)} (hr : Rd w B 1 A n (strCells l)) (hk : k < n) :
    ∃ ad : Addr, A = some ad ∧ ad.block < B ∧ w.cell? (ad.add k) = some (.string (S (l.getD k []))) := by
  have hlen : l.length = n := by have := hr.1; simpa [strCells] using this
  obtain ⟨ad, u, hA, hb, hu, hc⟩ := hr.at_ hk
  rw [strCells_at l k (by omega)] at hu
  obtain rfl := Option.some.inj hu
  exact ⟨ad, hA, hb, hc⟩
end Go.Proofs.YtplgghjdidmcfaaGreatDoor
namespace Go.Proofs.YtplgghjdidmcfaaGreatDoor
open Go.RowKit
section
variable {w : World} {base base' : Nat} {e e' : TypeId} {size size' : Nat} {v v' : Value} {n n' : Nat} {xs xs' : List Value}
/-- Rows of unlike elements lie in unlike blocks. -/
theorem own_ne (h : w.ownsRow base e size v n xs) (h' : w.ownsRow base' e' size' v' n' xs') (hne : e ≠ e') : v.ownBlock = none ∨ v.ownBlock ≠ v'.ownBlock := by
  rcases h.2 with ⟨rfl, _⟩ | ⟨g, cap, cur, rfl, _, h3, _⟩
  · exact .inl rfl
  · refine .inr fun hb => ?_
    rcases h'.2 with ⟨rfl, _⟩ | ⟨g', cap', cur', rfl, _, h3', _⟩
    · simp [Value.ownBlock] at hb
    · simp only [Value.ownBlock, Option.some.injEq] at hb
      subst hb
      rw [h3] at h3'
      injection h3' with h3'
      injection h3' with _ h4
      exact hne h4
end
theorem cells_new (w : World) (cs : Array Value) (t : TypeId) : ∀ j u, cs.toList[j]? = some u → (w.alloc (.cells cs t)).cell? (Addr.add ⟨w.heap.size, 0, none⟩ j) = some u := fun j u h => by
  rw [cell_row _ _ j cs t (heap_alloc_new w _)]; simpa using h
theorem cells_new2 (w : World) (a b : Value) (t : TypeId) : ∀ j u, [a, b][j]? = some u → (w.alloc (.cells #[a, b] t)).cell? (Addr.add ⟨w.heap.size, 0, none⟩ j) = some u := cells_new w #[a, b] t
theorem cells_new3 (w : World) (a b c : Value) (t : TypeId) : ∀ j u, [a, b, c][j]? = some u → (w.alloc (.cells #[a, b, c] t)).cell? (Addr.add ⟨w.heap.size, 0, none⟩ j) = some u := cells_new w #[a, b, c] t
theorem getB (s : ByteArray) (i : Nat) (h : i < s.size) : s[i]'h = (L s).getD i 0 := by
  rw [List.getD_eq_getElem?_getD, List.getElem?_eq_getElem (by rw [L_len]; exact h)]
  rfl
/-- What another row's append leaves. -/
theorem own_grown {w w' : World} {base base' : Nat} {e e' : TypeId} {size size' : Nat} {v v' : Value} {n n' : Nat} {xs xs' : List Value} (h : w.ownsRow base e size v n xs) (h' : w.ownsRow base' e' size' v' n' xs') (hne : e ≠ e') (hg : w.grownBy w' v'.ownBlock) : w'.ownsRow base e size v n xs :=
  h.kept hg (own_ne h h' hne)
/-- 'append' to a row of the call's own: what it turns is that row alone. -/
theorem wpList_appG {P : Program} {w : World} {ops : Array Oper} {rest : List Oper} {o : Oper} {a : Act} {Q : Exit → Act → World → Prop} (hgd : o.guard = none) (s x : Operand) (t : TypeId)
    (ho : o.op = .call { callee := .builtin .append, args := #[s, x], argTypes := #[t, t] })
    (base : Nat) (e : TypeId) (i : TypeInfo) (z : Value) (size bytes : Nat) (ht : P.underlying t = some (.slice e)) (hi : P.info? e = some i) (hz : i.zero = some z)
    (hsize : i.size = size) (hby : i.bytes = bytes) (hzs : z.cells.size = size) (hsz : 0 < size)
    (v : Value) (n : Nat) (xs : List Value) (hs : a.eval s = v) (hown : w.ownsRow base e size v n xs)
    (ad : Addr) (m c : Nat) (news : List Value) (hx : a.eval x = .slice (some ad) m c) (hl : news.length = m * size) (hnews : ∀ j u, news[j]? = some u → w.cell? (ad.add j) = some u) (h1 : ∀ u ∈ news, u.oneCell' = true)
    (hbytes : (n + m) * bytes ≤ 140737488355328) (hb0 : 0 < bytes) (hbase : base ≤ w.heap.size)
    (h : ∀ v' w', w'.ownsRow base e size v' (n + m) (xs ++ news) → w.grownBy w' v.ownBlock → Below base w w' → wpList P ops Q rest (a.put o.dst v') w') : wpList P ops Q (o :: rest) a w :=
  wpList_append_own w hgd s x t ho base e i z size bytes ht hi hz hsize hby hzs hsz v n xs hs hown ad m c news hx hl hnews h1
    (by have := Nat.le_mul_of_pos_right (n + m) hb0; unfold maxLen; omega) hbytes hbase
    fun v' w' h2 h3 _ => h v' w' h2 h3 ((Below.refl base w).grown h3 hbase (fun k hk => (hown.lt k hk).1))
end Go.Proofs.YtplgghjdidmcfaaGreatDoor
namespace Go.Proofs.YtplgghjdidmcfaaGreatDoor
open Go.RowKit
theorem idxC_ne (l : List (List UInt8)) (x : List UInt8) : ∀ j, j < l.idxOf x → ∀ hj : j < l.length, l[j] ≠ x := by
  intro j h hj e
  have h2 : j < l.findIdx (· == x) := h
  have := List.not_of_lt_findIdx h2
  rw [e] at this
  simp at this
def idxL2 (l : List (List UInt8)) (x : List UInt8) : Int := if x ∈ l then (l.idxOf x : Int) else -1
theorem idxL2_lt {l : List (List UInt8)} {i : Nat} (hi : i < l.length) : (idxL2 l (l.getD i []) < (i : Int)) ↔ l.getD i [] ∈ l.take i := by
  have hg : l.getD i [] = l[i] := by rw [List.getD_eq_getElem?_getD, List.getElem?_eq_getElem hi]; rfl
  rw [hg]
  unfold idxL2
  rw [if_pos (List.getElem_mem hi)]
  have hlt := List.idxOf_lt_length_of_mem (List.getElem_mem hi)
  constructor
  · intro h
    refine List.mem_take_iff_getElem.2 ⟨l.idxOf l[i], by omega, ?_⟩
    exact List.getElem_idxOf _
  · intro h
    obtain ⟨j, hj, e⟩ := List.mem_take_iff_getElem.1 h
    have h1 : l.idxOf l[i] ≤ j := by
      rcases Nat.lt_or_ge j (l.idxOf l[i]) with h2 | h2
      · exact absurd e (idxC_ne _ _ _ h2 _)
      · exact h2
    omega
set_option maxRecDepth 100000 in
set_option maxHeartbeats 1000000 in
theorem clone_str (A : Option Addr) (n c B : Nat) (l : List (List UInt8)) (w : World) (hr : Rd w B 1 A n (strCells l)) (hB : B ≤ w.heap.size) (hn : n ≤ 1000) (hA : 0 < n) :
    Calls Tryz.prog 65 #[.slice A n c] w fun e w' => ∃ v, e = .returned v ∧ w'.ownsRow w.heap.size 9 1 v n (strCells l) ∧ Below w.heap.size w w' := by
  obtain ⟨i0, hi0, hz0, hz1, hz2⟩ := info_parts info_str
  obtain ⟨ad, rfl, hab, _⟩ := hr.2 hA
  have HR := Lib.hid hr; clear hr
  have HX := Lib.hid (oneCell_str l)
  have hnil := fun (W : World) => Lib.run_eql_slice_nil (P := Tryz.prog) W 25 9 (some ad) n c 0 0 Tryz.underlying25
  go_enter Tryz.func65, Tryz.ntmps65
  go_wp2_with (at_builtin; go_must (refine wpList_appRd rfl _ _ _ rfl w.heap.size 9 i0 _ 1 16 Tryz.underlying25 hi0 hz0 hz1 hz2 rfl (by omega) _ 0 [] rfl (World.ownsRow_lit w #[] 0 (Nat.le_refl _) (Nat.zero_le _) rfl) B (some ad) n c (strCells l) rfl (HR.out.alloc hB _) HX.out (by omega) (by omega) (by simp) ?_); intro v6 w6 hown6 hb6)
  go_ret
  exact ⟨v6, rfl, by simpa using hown6, ((Below.refl _ _).alloc (Nat.le_refl _) _).trans hb6⟩
end Go.Proofs.YtplgghjdidmcfaaGreatDoor
