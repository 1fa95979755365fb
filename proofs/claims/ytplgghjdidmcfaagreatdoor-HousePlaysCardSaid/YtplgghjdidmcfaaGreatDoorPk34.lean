/- How arguments are opened to plain data (slices of any element as lists of cells), and how a law's row is closed from: the call returns true and nothing that was there has turned. Phrases, as plain functions. No program in sight. phrase.Get and the reference's TextOf. -/
import Derived.Test.YtplgghjdidmcfaaGreatDoorPk01
import Derived.ProofKit
import Derived.OpenShut
import Derived.SizedLaws
import Derived.Deep.Slices
import Derived.Deep.Fields
import Derived.Lib.SmallJoins
import Derived.Test.YtplgghjdidmcfaaGreatDoorPk19
import Derived.Test.YtplgghjdidmcfaaGreatDoorPk04
import Derived.Test.YtplgghjdidmcfaaGreatDoorPk03
namespace Go.Proofs.YtplgghjdidmcfaaGreatDoor
open Go.ChangeShapes Go.WideShapes Go.ChangeAt Go.RowKit Go.Deep
open Go.ChangeMaps (open_string)

section
variable {H : Type} {enc : TypeId × Value → H} {P : Program} {W : World}

theorem reach_le : reachBytes ≤ 140737488351232 := by decide
/-- A slice, as a list of what its elements decode to. -/
theorem open_rd {α : Type} [Inhabited α] {size : Nat} {ec : α → List Value} {Q : α → Prop} {t e : TypeId} (ht : P.underlying t = some (.slice e)) (hC : P.cellsOf e = size) (hpos : 0 < size)
    (hec : ∀ x, (ec x).length = size)
    (hdec : ∀ fuel cs y, cs.length = size → DataW.trod enc P W 0 (fun _ => true) true fuel e cs = some y → ∃ x, cs = ec x ∧ Q x)
    {fuel : Nat} {cs : List Value} {y : DataW H × List MemPlace} (h : DataW.trod enc P W 0 (fun _ => true) true fuel t cs = some y) :
    ∃ (A : Option Addr) (n c : Nat) (l : List α), cs = [.slice A n c] ∧ n ≤ c ∧ c ≤ maxLen ∧ l.length = n ∧ Rd W W.heap.size size A n (l.flatMap ec) ∧ (∀ x ∈ l, Q x) ∧
      ((y.1 = .nil ∧ c = 0) ∨ ∃ el sp, y.1 = .slice el sp ∧ el.length + sp.length = c) := by
  rcases open_slice ht h with ⟨rfl, rfl⟩ | ⟨a, len, cap, m, n, D, Pl, rfl, hb, hl, hm, hmm, rfl, hi⟩
  · exact ⟨none, 0, 0, [], rfl, Nat.le_refl _, Nat.zero_le _, rfl, Rd.nil_, by simp, .inl ⟨rfl, rfl⟩⟩
  · have hm' : m = cap := by simpa using hmm
    subst hm'
    have key : ∀ i, i < m → ∃ x, Q x ∧ ∀ j u, (ec x)[j]? = some u → W.cell? (a.add (i * size + j)) = some u := by
      intro i him
      obtain ⟨cs', hc, ht'⟩ := hi i him
      rw [hC] at hc
      obtain ⟨_, hcl, hat⟩ := World.cells?_some hc
      obtain ⟨x, rfl, hq⟩ := hdec n cs' _ hcl ht'
      refine ⟨x, hq, fun j u hu => ?_⟩
      have hj : j < size := by rw [← hec x]; exact (List.getElem?_eq_some_iff.1 hu).1
      rw [← add_add, hat j hj, hu]
    have hx : ∀ i : Nat, ∃ x, i < m → (Q x ∧ ∀ j u, (ec x)[j]? = some u → W.cell? (a.add (i * size + j)) = some u) := by
      intro i
      by_cases him : i < m
      · obtain ⟨x, hx⟩ := key i him
        exact ⟨x, fun _ => hx⟩
      · exact ⟨default, fun h => absurd h him⟩
    have hch : ∃ f : Nat → α, ∀ i, i < m → (Q (f i) ∧ ∀ j u, (ec (f i))[j]? = some u → W.cell? (a.add (i * size + j)) = some u) := ⟨fun i => Classical.choose (hx i), fun i => Classical.choose_spec (hx i)⟩
    obtain ⟨f, hf⟩ := hch
    refine ⟨some a, len, m, (List.range len).map f, rfl, hl, hm, by simp, ⟨?_, fun hn => ⟨a, rfl, ?_, ?_⟩⟩, ?_, .inr ⟨_, _, rfl, by simp; omega⟩⟩
    · rw [List.length_flatMap]
      have : (List.map (fun a => (ec a).length) (List.map f (List.range len))) = List.replicate len size := by
        rw [List.map_map]
        apply List.ext_getElem
        · simp
        · intro i h1 h2; simp [hec]
      rw [this]; simp
    · have h1 := (hf 0 (by omega)).2 0 ((ec (f 0))[0]'(by rw [hec]; exact hpos)) (List.getElem?_eq_getElem _)
      have := World.block_lt_of_cell? _ _ h1
      simpa [blk_add] using this
    · have gen : ∀ (k : Nat) (j : Nat) (u : Value), k ≤ m → (((List.range k).map f).flatMap ec)[j]? = some u → W.cell? (a.add j) = some u := by
        intro k
        induction k with
        | zero => intro j u _ hu; simp at hu
        | succ k ih =>
          intro j u hk hu
          rw [List.range_succ, List.map_append, List.flatMap_append, List.getElem?_append] at hu
          have hlen : (((List.range k).map f).flatMap ec).length = k * size := by
            rw [List.length_flatMap]
            have : (List.map (fun a => (ec a).length) (List.map f (List.range k))) = List.replicate k size := by
              rw [List.map_map]
              apply List.ext_getElem
              · simp
              · intro i h1 h2; simp [hec]
            rw [this]; simp
          split at hu
          · exact ih j u (by omega) hu
          · rename_i hge
            rw [hlen] at hu hge
            have := (hf k (by omega)).2 (j - k * size) u (by simpa using hu)
            rwa [show k * size + (j - k * size) = j by omega] at this
      exact fun j u hu => gen len j u hl hu
    · intro x hx
      simp only [List.mem_map, List.mem_range] at hx
      obtain ⟨i, hi', rfl⟩ := hx
      exact (hf i (by omega)).1

/-- A struct of one-cell fields: each field's cell reads by the field's own type. -/
theorem open_fields {e : TypeId} {fs : Array Field} (he : P.underlying e = some (.struct fs)) (hone : oneCellFields P fs = true) {fuel : Nat} {cs : List Value} {y : DataW H × List MemPlace}
    (h : DataW.trod enc P W 0 (fun _ => true) true fuel e cs = some y) (hlen : cs.length = fs.size) :
    ∃ n, ∀ (j : Nat) (f : Field) , fs[j]? = some f → ∃ v x, cs[j]? = some v ∧ DataW.trod enc P W 0 (fun _ => true) true n f.type [v] = some x := by
  obtain ⟨ys, n', hn', hy, hl, hyl, hf⟩ := DataW.trod_struct he h
  refine ⟨n', fun j f hj => ?_⟩
  obtain ⟨ho, hk⟩ := hone_of hone j f hj
  have hjl : j < fs.size := (Array.getElem?_eq_some_iff.1 hj).1
  have h1 := hf j f hj
  rw [ho, hk] at h1
  have hone' : (cs.drop j).take 1 = [cs[j]'(by omega)] := by
    rw [List.drop_eq_getElem_cons (by omega)]
    rfl
  rw [hone'] at h1
  have hys : ys[j]? = some (ys[j]'(by omega)) := List.getElem?_eq_getElem (by omega)
  exact ⟨_, _, List.getElem?_eq_getElem (by omega), h1.trans hys⟩

theorem dec_int {e : TypeId} {k : IntKind} (he : P.underlying e = some (.int k)) : ∀ fuel cs y, DataW.trod enc P W 0 (fun _ => true) true fuel e cs = some y → ∃ x : Int, cs = [.int k x] ∧ (Lit.int k x).wf = true := by
  intro fuel cs y h
  obtain ⟨x, h1, _, h2⟩ := DataW.trod_int he h
  exact ⟨x, h1, h2⟩
theorem dec_str {e : TypeId} (he : P.underlying e = some .string) : ∀ fuel cs y, DataW.trod enc P W 0 (fun _ => true) true fuel e cs = some y → ∃ x : ByteArray, cs = [.string x] ∧ x.size ≤ maxLen := by
  intro fuel cs y h
  obtain ⟨x, h1, _, h2⟩ := DataW.trod_string he h
  exact ⟨x, h1, h2⟩

theorem trodAll_below (hl : laidOutB P = true) {W' : World} (hb : Below W.heap.size W W') : ∀ (ts : List TypeId) (vs : List Value) (ds : List (DataW H)) (ps : List MemPlace),
    (∀ t ∈ ts, P.readableRec t = true ∧ t < P.types.size) → (∀ x ∈ ps, x.block < W.heap.size) → DataW.TrodAll enc P W 0 (fun _ => true) true ts vs ds ps →
    DataW.TrodAll enc P W' 0 (fun b => decide (b < W.heap.size)) true ts vs ds ps
  | [], [], [], _, _, _, h => h
  | t :: ts, v :: vs, d :: ds, ps, hr, hp, h => by
    obtain ⟨p, q, h1, h2, rfl⟩ := h
    exact ⟨p, q, Below.trod hl (hr t (by simp)).1 (hr t (by simp)).2 h1 hb (fun x hx => hp x (by simp [hx])), trodAll_below hl hb ts vs ds q (fun t ht => hr t (by simp [ht])) (fun x hx => hp x (by simp [hx])) h2, rfl⟩
  | [], _ :: _, _, _, _, _, h => by cases h
  | [], [], _ :: _, _, _, _, h => by cases h
  | _ :: _, [], _, _, _, _, h => by cases h
  | _ :: _, _ :: _, [], _, _, _, h => by cases h

/-- A law's row, closed. -/
theorem law_close {f : Func} {s : ChangeSpec} {W' : World} {args : Array Value} {ds : List (DataW H)} {before : List MemPlace} {tb : TypeId}
    (hW : DataW.Whole enc P f.params.toList s.vars false W args.toList ds [] before) (hs : s.vars = []) (hfn : s.fn H (ds ++ []) = { results := [.lit (.bool true)], args := ds })
    (hres : f.resultTypes = #[tb]) (hu : P.underlying tb = some .bool) (hl : laidOutB P = true) (hr : ∀ t ∈ f.params.toList, P.readableRec t = true ∧ t < P.types.size)
    (hb : Below W.heap.size W W') : s.post enc P f false true false false W args (.bool true) W' := by
  have hlt := hW.lt
  have hW' := hW
  obtain ⟨p, q, hA, hV, rfl, _, _⟩ := hW
  rw [hs] at hV
  obtain ⟨_, rfl⟩ := trodVars_none hV
  simp only [List.append_nil] at hW' hlt
  refine ⟨ds, [], p, [], p, [], hW', ?_, ?_, ?_, ?_, fun h => by cases h⟩
  · rw [hfn, hres]
    exact trodAll_mk1 (shut_bool hu true)
  · rw [hfn]
    exact trodAll_below hl hb _ _ _ _ hr hlt hA
  · rw [hfn, hs]
    rfl
  · exact hb.frame _
end
end Go.Proofs.YtplgghjdidmcfaaGreatDoor
namespace Go.Proofs.YtplgghjdidmcfaaGreatDoor
/-- The phrases of a text, a byte at a time. -/
def lz : List (List UInt8) → List UInt8 → List UInt8 → List (Nat × UInt8) × List UInt8
  | _, cur, [] => ([], cur)
  | T, cur, c :: r => if cur ++ [c] ∈ T then lz T (cur ++ [c]) r else ((T.idxOf cur, c) :: (lz (T ++ [cur ++ [c]]) [] r).1, (lz (T ++ [cur ++ [c]]) [] r).2)
structure Closed (T : List (List UInt8)) : Prop where
  nil : T[0]? = some []
  pre : ∀ t c, t ++ [c] ∈ T → t ∈ T
  nodup : T.Nodup
theorem Closed.mem {T : List (List UInt8)} (h : Closed T) : [] ∈ T := List.mem_of_getElem? h.nil
theorem Closed.start : Closed [[]] := ⟨rfl, by simp, by simp⟩
theorem Closed.add {T : List (List UInt8)} {m : List UInt8} {c : UInt8} (h : Closed T) (hm : m ∈ T) (hn : m ++ [c] ∉ T) : Closed (T ++ [m ++ [c]]) := by
  refine ⟨?_, ?_, ?_⟩
  · have := h.nil
    rw [List.getElem?_append_left (List.getElem?_eq_some_iff.1 this).1]; exact this
  · intro t d ht
    simp only [List.mem_append, List.mem_singleton] at ht ⊢
    rcases ht with ht | ht
    · exact .inl (h.pre t d ht)
    · rw [List.append_inj_left' ht rfl]; exact .inl hm
  · rw [List.nodup_append]
    refine ⟨h.nodup, by simp, ?_⟩
    intro a ha b hb hab
    simp only [List.mem_singleton] at hb
    subst hb hab
    exact hn ha
theorem Closed.take {T : List (List UInt8)} (h : Closed T) : ∀ (k : Nat) (t : List UInt8), t ∈ T → t.length - k ≤ t.length → t.take (t.length - k) ∈ T := by
  intro k
  induction k with
  | zero => intro t ht _; simpa using ht
  | succ k ih =>
    intro t ht _
    have h1 := ih t ht (Nat.sub_le _ _)
    by_cases hk : t.length - k = 0
    · rw [show t.length - (k + 1) = t.length - k by omega]; exact h1
    · have h2 : t.take (t.length - k) = t.take (t.length - (k + 1)) ++ [t[t.length - (k + 1)]'(by omega)] := by
        rw [show t.length - k = (t.length - (k + 1)) + 1 by omega, List.take_append_getElem]
      rw [h2] at h1
      exact h.pre _ _ h1
theorem Closed.take' {T : List (List UInt8)} (h : Closed T) {t : List UInt8} (ht : t ∈ T) (n : Nat) : t.take n ∈ T := by
  by_cases hn : n ≤ t.length
  · have := h.take (t.length - n) t ht (Nat.sub_le _ _)
    rwa [show t.length - (t.length - n) = n by omega] at this
  · rw [List.take_of_length_le (by omega)]; exact ht
/-- m is the longest of T that the text begins with. -/
structure Longest (T : List (List UInt8)) (u m : List UInt8) : Prop where
  mem : m ∈ T
  pre : m <+: u
  max : ∀ t ∈ T, t <+: u → t.length ≤ m.length
theorem lz_long {T : List (List UInt8)} (hC : Closed T) : ∀ (r cur m : List UInt8), cur ∈ T → Longest T (cur ++ r) m →
    lz T cur r = if h : m.length < (cur ++ r).length then ((T.idxOf m, (cur ++ r)[m.length]) :: (lz (T ++ [(cur ++ r).take (m.length + 1)]) [] ((cur ++ r).drop (m.length + 1))).1, (lz (T ++ [(cur ++ r).take (m.length + 1)]) [] ((cur ++ r).drop (m.length + 1))).2) else ([], cur ++ r) := by
  intro r
  induction r with
  | nil =>
    intro cur m hc hm
    have h1 := hm.max cur hc (by simp)
    simp only [List.append_nil] at *
    rw [dif_neg (by omega), lz]
  | cons c r ih =>
    intro cur m hc hm
    rw [lz]
    by_cases hin : cur ++ [c] ∈ T
    · rw [if_pos hin]
      have e : cur ++ c :: r = (cur ++ [c]) ++ r := by simp
      have := ih (cur ++ [c]) m hin (by rw [← e]; exact hm)
      rw [this]
      simp only [e]
    · rw [if_neg hin]
      have h1 := hm.max cur hc (by simp)
      have h2 : m.length = cur.length := by
        refine Nat.le_antisymm ?_ h1
        refine Nat.le_of_not_lt fun hlt => hin ?_
        have h3 := hC.take' hm.mem (cur.length + 1)
        have h4 : m.take (cur.length + 1) = cur ++ [c] := by
          obtain ⟨z, hz⟩ := hm.pre
          have := congrArg (List.take (cur.length + 1)) hz
          rw [List.take_append_of_le_length (by omega)] at this
          rw [this]
          simp [List.take_append, List.take_of_length_le]
        rw [← h4]; exact h3
      have h5 : m = cur := by
        obtain ⟨z, hz⟩ := hm.pre
        exact (List.append_inj hz h2).1
      subst h5
      rw [dif_pos (by simp)]
      simp [List.take_append, List.drop_append, List.take_of_length_le, List.drop_of_length_le]
/-- The search for the longest. -/
def better (T : List (List UInt8)) (u : List UInt8) (b k : Nat) : Nat := if (T.getD b []).length < (T.getD k []).length ∧ T.getD k [] <+: u then k else b
def bestTo (T : List (List UInt8)) (u : List UInt8) : Nat → Nat
  | 0 => 0
  | k + 1 => better T u (bestTo T u k) k
theorem bestTo_long {T : List (List UInt8)} (hC : Closed T) (u : List UInt8) : ∀ k, k ≤ T.length → bestTo T u k < T.length ∧ T.getD (bestTo T u k) [] <+: u ∧ ∀ j < k, T.getD j [] <+: u → (T.getD j []).length ≤ (T.getD (bestTo T u k) []).length := by
  have h0 : 0 < T.length := (List.getElem?_eq_some_iff.1 hC.nil).1
  intro k
  induction k with
  | zero => intro _; exact ⟨h0, by simp [bestTo, List.getD, hC.nil], by simp⟩
  | succ k ih =>
    intro hk
    obtain ⟨h1, h2, h3⟩ := ih (by omega)
    simp only [bestTo, better]
    split
    · rename_i h
      refine ⟨by omega, h.2, fun j hj hp => ?_⟩
      by_cases hjk : j = k
      · subst hjk; exact Nat.le_refl _
      · exact Nat.le_trans (h3 j (by omega) hp) (Nat.le_of_lt h.1)
    · rename_i h
      refine ⟨h1, h2, fun j hj hp => ?_⟩
      by_cases hjk : j = k
      · subst hjk
        exact Nat.le_of_not_lt fun hlt => h ⟨hlt, hp⟩
      · exact h3 j (by omega) hp
theorem best_longest {T : List (List UInt8)} (hC : Closed T) (u : List UInt8) : Longest T u (T.getD (bestTo T u T.length) []) := by
  obtain ⟨h1, h2, h3⟩ := bestTo_long hC u T.length (Nat.le_refl _)
  refine ⟨?_, h2, fun t ht hp => ?_⟩
  · rw [List.getD_eq_getElem?_getD, List.getElem?_eq_getElem h1]; exact List.getElem_mem h1
  · obtain ⟨j, hj, rfl⟩ := List.getElem_of_mem ht
    have := h3 j hj
    simp only [List.getD_eq_getElem?_getD, List.getElem?_eq_getElem hj, Option.getD_some] at this
    exact this hp
theorem best_idx {T : List (List UInt8)} (hC : Closed T) (u : List UInt8) : T.idxOf (T.getD (bestTo T u T.length) []) = bestTo T u T.length := by
  obtain ⟨h1, _, _⟩ := bestTo_long hC u T.length (Nat.le_refl _)
  rw [List.getD_eq_getElem?_getD, List.getElem?_eq_getElem h1, Option.getD_some]
  exact hC.nodup.idxOf_getElem _ h1
/-- What the texts of phrases are; an error. -/
def phrText : (T : List (List UInt8)) → (out : List UInt8) → List (Int × UInt8) → Option (List UInt8) × Int
  | _, out, [] => (some out, 0)
  | T, out, (b, c) :: l => if b < 0 ∨ (T.length : Int) - 1 < b then (none, 1)
    else if 200 < (out ++ (T.getD b.toNat [] ++ [c])).length then (none, 2)
    else phrText (T ++ [T.getD b.toNat [] ++ [c]]) (out ++ (T.getD b.toNat [] ++ [c])) l
end Go.Proofs.YtplgghjdidmcfaaGreatDoor
namespace Go.Proofs.YtplgghjdidmcfaaGreatDoor
open Go.RowKit
def phrCell (p : Int × UInt8) : List Value := [.int .i64 p.1, .int .u8 (p.2.toNat : Int)]
def phrCells (l : List (Int × UInt8)) : List Value := l.flatMap phrCell
theorem phr_len (l : List (Int × UInt8)) : (phrCells l).length = l.length * 2 := by
  induction l with
  | nil => rfl
  | cons a l ih => simp only [phrCells, List.flatMap_cons, List.length_append, List.length_cons] at *; rw [ih]; simp [phrCell]; omega
theorem phr_get (l : List (Int × UInt8)) (k : Nat) (hk : k < l.length) (j : Nat) (hj : j < 2) : (phrCells l)[k * 2 + j]? = (phrCell (l[k]'hk))[j]? := by
  induction l generalizing k with
  | nil => simp at hk
  | cons a l ih =>
    cases k with
    | zero =>
      simp only [phrCells, List.flatMap_cons, List.getElem_cons_zero]
      rw [List.getElem?_append_left (by simp [phrCell]; omega)]
      simp
    | succ k =>
      have := ih k (by simpa using hk)
      simp only [phrCells, List.flatMap_cons, List.getElem_cons_succ] at *
      rw [List.getElem?_append_right (by simp [phrCell]; omega), ← this]
      congr 1
      simp [phrCell]; omega
theorem Rd.at_phr {w : World} {B n : Nat} {A : Option Addr} {l : List (Int × UInt8)} (h : Rd w B 2 A n (phrCells l)) {k : Nat} (hk : k < n) :
    ∃ ad p, A = some ad ∧ ad.block < B ∧ l[k]? = some p ∧ w.cell? (ad.add (k * 2)) = some (.int .i64 p.1) ∧ w.cell? ⟨(ad.add (k * 2)).block, (ad.add (k * 2)).off + 1, none⟩ = some (.int .u8 (p.2.toNat : Int)) := by
  have hl : l.length = n := by have := h.1; rw [phr_len] at this; omega
  obtain ⟨ad, e, hb, hc⟩ := h.2 (by omega)
  have hk' : k < l.length := by omega
  exact ⟨ad, l[k], e, hb, List.getElem?_eq_getElem hk', hc _ _ (by have := phr_get l k hk' 0 (by omega); simpa [phrCell] using this), by
    have h1 := hc (k * 2 + 1) _ (by have := phr_get l k hk' 1 (by omega); simpa [phrCell] using this)
    rwa [← add_add] at h1⟩
/-- What phrase.Get answers. -/
def getOut (l : List (Int × UInt8)) (rest : ByteArray) : ByteArray × Int :=
  if 200 < rest.size then (S [], 2) else if 200 < l.length then (S [], 2)
  else match phrText [[]] [] l with
    | (none, e) => (S [], e)
    | (some out, _) => if 200 < out.length + rest.size then (S [], 2) else (S out ++ rest, 0)
end Go.Proofs.YtplgghjdidmcfaaGreatDoor
