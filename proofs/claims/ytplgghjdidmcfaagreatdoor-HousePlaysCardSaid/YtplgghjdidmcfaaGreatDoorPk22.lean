/- A house's pages in memory: where each lies, and what a turn of one leaves of the others. house.New, name, Names; slices.IndexFunc at pages. A page's edit, and its steps. -/
import Derived.Test.YtplgghjdidmcfaaGreatDoorPk21
namespace Go.Proofs.YtplgghjdidmcfaaGreatDoor
open Go.RowKit
theorem Blk.neH {w : World} {g g' : Nat} {t t' : TypeId} {cs cs' : Array Value} (h : Blk w g t cs) (h' : Blk w g' t' cs') (hne : t ≠ t') : g ≠ g' := by
  intro e; subst e
  unfold Blk at h h'
  rw [h] at h'
  injection h' with h'
  injection h' with _ ht
  exact hne ht
theorem Blk.chgH {w w' : World} {K : Nat → Prop} {g : Nat} {t : TypeId} {cs : Array Value} (h : Blk w g t cs) (hc : Chg w w' K) (hK : ¬ K g) : Blk w' g t cs := (hc.block g h.lt hK).trans h
theorem Chg.gbsH {w w' : World} {rs : List Nat} (h : Gbs w w' rs) : Chg w w' (fun k => k ∈ rs) := ⟨h.os, h.tape, h.output, h.size, h.block⟩
theorem Chg.monoH {w w' : World} {K K' : Nat → Prop} (h : Chg w w' K) (hK : ∀ k, k < w.heap.size → K k → K' k) : Chg w w' K' := ⟨h.os, h.tape, h.output, h.size, fun k hk hn => h.block k hk fun h' => hn (hK k hk h')⟩
theorem Chg.reflH (w : World) (K : Nat → Prop) : Chg w w K := ⟨rfl, rfl, rfl, Nat.le_refl _, fun _ _ _ => rfl⟩
theorem Chg.thenH {w w' w2 : World} {K : Nat → Prop} (h : Chg w w' K) (hb : Below w'.heap.size w' w2) : Chg w w2 K := h.trans (Chg.of_below hb K) fun _ hk _ => hk
theorem Chg.ofB {w w' : World} {K : Nat → Prop} (h : Below w.heap.size w w') : Chg w w' K := Chg.of_below h K
/-- The type of a block. -/
def tyOf (w : World) (k : Nat) (t : TypeId) : Prop := ∃ cs, w.heap[k]? = some (.cells cs t (0, 0))
theorem tyOf.lt {w : World} {k : Nat} {t : TypeId} (h : tyOf w k t) : k < w.heap.size := by
  obtain ⟨cs, h⟩ := h
  exact (Array.getElem?_eq_some_iff.1 h).1
theorem tyOf.ne {w : World} {k : Nat} {t t' : TypeId} (h : tyOf w k t) (h' : tyOf w k t') : t = t' := by
  obtain ⟨cs, h⟩ := h
  obtain ⟨cs', h'⟩ := h'
  rw [h] at h'
  injection h' with h'
  injection h' with _ ht
theorem Blk.ty {w : World} {g : Nat} {t : TypeId} {cs : Array Value} (h : Blk w g t cs) : tyOf w g t := ⟨cs, h⟩
theorem OwnO.ty {w : World} {base : Nat} {e : TypeId} {size n : Nat} {v : Value} {xs : List Value} (h : OwnO w base e size v n xs) {k : Nat} (hk : v.ownBlock = some k) : tyOf w k e := by
  rcases h.2 with ⟨rfl, _⟩ | ⟨g, o, cap, cur, rfl, _, h3, _⟩
  · simp [Value.ownBlock] at hk
  · simp only [Value.ownBlock, Option.some.injEq] at hk
    subst hk
    exact ⟨cur, h3⟩
/-- A page as it lies. -/
structure Pc where
  s : Ps
  ge : Nat
  gf : Nat
  gl : Nat
  vB : Value
  vO : Value
def Pc.cells (p : Pc) : List Value := [.string p.s.nm, .pointer (some ⟨p.ge, 0, none⟩), .pointer (some ⟨p.gf, 0, none⟩)]
def pcCells (l : List Pc) : List Value := l.flatMap Pc.cells
theorem pc_len (p : Pc) : p.cells.length = 3 := rfl
theorem pcCells_len (l : List Pc) : (pcCells l).length = l.length * 3 := flat_len pc_len l
theorem pcCells_append (a b : List Pc) : pcCells (a ++ b) = pcCells a ++ pcCells b := by simp [pcCells]
theorem pcCells_one (p : Pc) : pcCells [p] = [.string p.s.nm, .pointer (some ⟨p.ge, 0, none⟩), .pointer (some ⟨p.gf, 0, none⟩)] := rfl
theorem pc_one (l : List Pc) : ∀ u ∈ pcCells l, u.oneCell' = true := by
  intro u hu
  unfold pcCells at hu
  obtain ⟨x, _, hx⟩ := List.mem_flatMap.1 hu
  simp only [Pc.cells, List.mem_cons, List.not_mem_nil, or_false] at hx
  rcases hx with rfl | rfl | rfl <;> rfl
/-- The blocks that are a page's own. -/
def foot (p : Pc) (k : Nat) : Prop := EdK p.ge p.vB p.vO k ∨ k = p.gf ∨ k = p.gl
structure PgAt (w : World) (base : Nat) (p : Pc) : Prop where
  ed : EdSt w base p.ge p.s.es p.vB p.vO
  lf : LeafAt w p.gf p.gl p.s.tx p.s.d p.s.sf
  bf : base ≤ p.gf
  bl : base ≤ p.gl
section
variable {w w' : World} {base : Nat} {p : Pc} {K : Nat → Prop}
theorem EdSt.ty {g : Nat} {s : Es} {vB vO : Value} (h : EdSt w base g s vB vO) {k : Nat} (hk : EdK g vB vO k) : tyOf w k 123 ∨ tyOf w k 9 := by
  rcases hk with rfl | hk | hk
  · exact .inl h.blk.ty
  · exact .inr (h.b.ty hk)
  · exact .inr (h.o.ty hk)
theorem EdSt.lowK {g : Nat} {s : Es} {vB vO : Value} (h : EdSt w base g s vB vO) {k : Nat} (hk : EdK g vB vO k) : base ≤ k := by
  rcases hk with rfl | hk | hk
  · exact h.lo
  · exact (h.b.lt k hk).1
  · exact (h.o.lt k hk).1
theorem LeafAt.ty {g gl sf : Nat} {tx d : ByteArray} (h : LeafAt w g gl tx d sf) {k : Nat} (hk : k = g ∨ k = gl) : tyOf w k 127 ∨ tyOf w k 187 := by
  rcases hk with rfl | rfl
  · exact .inl h.leaf.ty
  · exact .inr (Blk.ty h.log)
theorem PgAt.ty (h : PgAt w base p) {k : Nat} (hk : foot p k) : ∃ t, tyOf w k t ∧ (t = 123 ∨ t = 9 ∨ t = 127 ∨ t = 187) := by
  rcases hk with hk | hk
  · rcases h.ed.ty hk with h | h
    · exact ⟨_, h, .inl rfl⟩
    · exact ⟨_, h, .inr (.inl rfl)⟩
  · rcases h.lf.ty hk with h | h
    · exact ⟨_, h, .inr (.inr (.inl rfl))⟩
    · exact ⟨_, h, .inr (.inr (.inr rfl))⟩
theorem PgAt.lt (h : PgAt w base p) {k : Nat} (hk : foot p k) : base ≤ k ∧ k < w.heap.size := by
  obtain ⟨t, ht, _⟩ := h.ty hk
  refine ⟨?_, ht.lt⟩
  rcases hk with hk | rfl | rfl
  · exact h.ed.lowK hk
  · exact h.bf
  · exact h.bl
theorem PgAt.off (h : PgAt w base p) {k : Nat} {t : TypeId} (ht : tyOf w k t) (h1 : t ≠ 123) (h2 : t ≠ 9) (h3 : t ≠ 127) (h4 : t ≠ 187) : ¬ foot p k := by
  intro hk
  obtain ⟨t', h', h5⟩ := h.ty hk
  have := ht.ne h'
  subst this
  rcases h5 with h5 | h5 | h5 | h5
  · exact h1 h5
  · exact h2 h5
  · exact h3 h5
  · exact h4 h5
theorem EdSt.chgH {g : Nat} {s : Es} {vB vO : Value} (h : EdSt w base g s vB vO) (hc : Chg w w' K) (hK : ∀ k, EdK g vB vO k → ¬ K k) : EdSt w' base g s vB vO :=
  ⟨h.blk.chgH hc (hK _ (.inl rfl)), h.lo, h.b.chg hc fun k hk => hK k (.inr (.inl hk)), h.o.chg hc fun k hk => hK k (.inr (.inr hk)), h.ap⟩
theorem LeafAt.chgH {g gl sf : Nat} {tx d : ByteArray} (h : LeafAt w g gl tx d sf) (hc : Chg w w' K) (h1 : ¬ K g) (h2 : ¬ K gl) : LeafAt w' g gl tx d sf := ⟨h.leaf.chgH hc h1, Blk.chgH h.log hc h2, h.ne⟩
theorem PgAt.chg (h : PgAt w base p) (hc : Chg w w' K) (hK : ∀ k, foot p k → ¬ K k) : PgAt w' base p :=
  ⟨h.ed.chgH hc fun k hk => hK k (.inl hk), h.lf.chgH hc (hK _ (.inr (.inl rfl))) (hK _ (.inr (.inr rfl))), h.bf, h.bl⟩
theorem PgAt.below (h : PgAt w base p) (hb : Below w.heap.size w w') : PgAt w' base p := ⟨h.ed.below hb, h.lf.below hb, h.bf, h.bl⟩
/-- The leaf alone has turned: what it leaves of an editor. -/
theorem EdSt.leafed {g gf gl sf : Nat} {s : Es} {vB vO : Value} {tx d : ByteArray} (h : EdSt w base g s vB vO) (hl : LeafAt w gf gl tx d sf) (hg : Gbs w w' [gf, gl]) : EdSt w' base g s vB vO :=
  h.chgH (Chg.gbsH hg) fun k hk hm => by
    have h1 := h.ty hk
    have h2 := hl.ty (k := k) (by simpa using hm)
    rcases h1 with h1 | h1 <;> rcases h2 with h2 | h2 <;> exact absurd (h1.ne h2) (by decide)
theorem LeafAt.edited {g gf gl sf : Nat} {s : Es} {vB vO : Value} {tx d : ByteArray} (hl : LeafAt w gf gl tx d sf) (h : EdSt w base g s vB vO) (hc : Chg w w' (EdK g vB vO)) : LeafAt w' gf gl tx d sf := by
  refine hl.chgH hc (fun hk => ?_) (fun hk => ?_)
  · rcases h.ty hk with h1 | h1 <;> exact absurd (h1.ne hl.leaf.ty) (by decide)
  · rcases h.ty hk with h1 | h1 <;> exact absurd (h1.ne (Blk.ty hl.log)) (by decide)
end
/-- A house: its box, its row of pages, the pages, each apart from the others. -/
structure HsAt (w : World) (base gh : Nat) (v : Value) (ps : List Pc) : Prop where
  blk : Blk w gh 57 #[v]
  lo : base ≤ gh
  row : OwnO w base 61 3 v ps.length (pcCells ps)
  pg : ∀ p ∈ ps, PgAt w base p
  dis : ps.Pairwise fun p q => ∀ k, foot p k → ¬ foot q k
/-- The blocks that are a house's own. -/
def HK (gh : Nat) (v : Value) (ps : List Pc) (k : Nat) : Prop := k = gh ∨ v.ownBlock = some k ∨ ∃ p ∈ ps, foot p k
section
variable {w w' : World} {base gh : Nat} {v : Value} {ps : List Pc} {K : Nat → Prop}
theorem HsAt.rowTy (h : HsAt w base gh v ps) {k : Nat} (hk : v.ownBlock = some k) : tyOf w k 61 := h.row.ty hk
theorem HsAt.lt (h : HsAt w base gh v ps) {k : Nat} (hk : HK gh v ps k) : base ≤ k ∧ k < w.heap.size := by
  rcases hk with rfl | hk | ⟨p, hp, hk⟩
  · exact ⟨h.lo, h.blk.lt⟩
  · exact ⟨(h.row.lt k hk).1, (h.rowTy hk).lt⟩
  · exact (h.pg p hp).lt hk
theorem HsAt.below (h : HsAt w base gh v ps) (hb : Below w.heap.size w w') : HsAt w' base gh v ps :=
  ⟨h.blk.below' hb, h.lo, h.row.below hb, fun p hp => (h.pg p hp).below hb, h.dis⟩
theorem HsAt.bel (h : HsAt w base gh v ps) (hc : Chg w w' (HK gh v ps)) (hb : base ≤ w.heap.size) : Below base w w' :=
  ⟨hc.os, hc.tape, hc.output, hc.size, fun k hk => hc.block k (by omega) fun h' => by have := (h.lt h').1; omega⟩
/-- A page's own place, as Pairwise says it. -/
theorem dis_at {l : List Pc} (h : l.Pairwise fun p q => ∀ k, foot p k → ¬ foot q k) {i j : Nat} (hi : i < l.length) (hj : j < l.length) (hij : i ≠ j) {k : Nat} (h1 : foot l[i] k) : ¬ foot l[j] k := by
  rcases Nat.lt_or_ge i j with h2 | h2
  · exact List.pairwise_iff_getElem.1 h i j hi hj h2 k h1
  · exact fun h3 => List.pairwise_iff_getElem.1 h j i hj hi (by omega) k h3 h1
theorem dis_set {l : List Pc} (h : l.Pairwise fun p q => ∀ k, foot p k → ¬ foot q k) {i : Nat} (hi : i < l.length) {p' : Pc} {N : Nat} (hN : ∀ q ∈ l, ∀ k, foot q k → k < N) (hf : ∀ k, foot p' k → foot l[i] k ∨ N ≤ k) :
    (l.set i p').Pairwise fun p q => ∀ k, foot p k → ¬ foot q k := by
  rw [List.pairwise_iff_getElem]
  intro a b ha hb hab k h1 h2
  rw [List.length_set] at ha hb
  rw [List.getElem_set] at h1 h2
  split at h1
  · rename_i e
    subst e
    rw [if_neg (by omega)] at h2
    rcases hf k h1 with h3 | h3
    · exact dis_at h ha hb (by omega) h3 h2
    · have := hN _ (List.getElem_mem hb) k h2; omega
  · split at h2
    · rename_i e
      subst e
      rcases hf k h2 with h3 | h3
      · exact dis_at h hb ha (by omega) h3 h1
      · have := hN _ (List.getElem_mem ha) k h1; omega
    · exact dis_at h ha hb (by omega) h1 h2
theorem pcCells_same {l : List Pc} {i : Nat} (hi : i < l.length) {p' : Pc} (hp : p'.cells = l[i].cells) : pcCells (l.set i p') = pcCells l := by
  unfold pcCells
  induction l generalizing i with
  | nil => rfl
  | cons x l ih =>
    cases i with
    | zero => rw [List.set_cons_zero, List.flatMap_cons, List.flatMap_cons, hp]; rfl
    | succ i => rw [List.set_cons_succ, List.flatMap_cons, List.flatMap_cons, ih (by simpa using hi) (by simpa using hp)]
theorem HsAt.offBox (h : HsAt w base gh v ps) {p : Pc} (hp : p ∈ ps) : ¬ foot p gh := (h.pg p hp).off h.blk.ty (by decide) (by decide) (by decide) (by decide)
theorem HsAt.offRow (h : HsAt w base gh v ps) {p : Pc} (hp : p ∈ ps) {k : Nat} (hk : v.ownBlock = some k) : ¬ foot p k := (h.pg p hp).off (h.rowTy hk) (by decide) (by decide) (by decide) (by decide)
theorem HsAt.boxRow (h : HsAt w base gh v ps) : v.ownBlock = none ∨ v.ownBlock ≠ some gh := h.row.ne_blk h.blk (by decide)
/-- One page has turned; its cells stand. -/
theorem HsAt.page (h : HsAt w base gh v ps) {i : Nat} (hi : i < ps.length) {p' : Pc} (hp : PgAt w' base p') (hc : Chg w w' (foot ps[i])) (hf : ∀ k, foot p' k → foot ps[i] k ∨ w.heap.size ≤ k) (he : p'.cells = ps[i].cells) :
    HsAt w' base gh v (ps.set i p') := by
  have hm := List.getElem_mem hi
  refine ⟨h.blk.chgH hc (h.offBox hm), h.lo, ?_, fun q hq => ?_, dis_set h.dis hi (fun q hq k hk => ((h.pg q hq).lt hk).2) hf⟩
  · rw [List.length_set, pcCells_same hi he]
    exact h.row.chg hc fun k hk => h.offRow hm hk
  · obtain ⟨j, hj, rfl⟩ := List.getElem_of_mem hq
    rw [List.length_set] at hj
    rw [List.getElem_set]
    split
    · exact hp
    · rename_i hij
      exact (h.pg _ (List.getElem_mem hj)).chg hc fun k h1 h2 => dis_at h.dis hj hi (fun e => hij e.symm) h1 h2
theorem HK.set_ {i : Nat} (hi : i < ps.length) {p' : Pc} {N : Nat} (hf : ∀ k, foot p' k → foot ps[i] k ∨ N ≤ k) : ∀ k, HK gh v (ps.set i p') k → HK gh v ps k ∨ N ≤ k := by
  rintro k (rfl | hk | ⟨q, hq, hk⟩)
  · exact .inl (.inl rfl)
  · exact .inl (.inr (.inl hk))
  · rcases List.mem_or_eq_of_mem_set hq with hq | rfl
    · exact .inl (.inr (.inr ⟨q, hq, hk⟩))
    · rcases hf k hk with hk | hk
      · exact .inl (.inr (.inr ⟨_, List.getElem_mem hi, hk⟩))
      · exact .inr hk
theorem HK.ofPage {i : Nat} (hi : i < ps.length) {k : Nat} (hk : foot ps[i] k) : HK gh v ps k := .inr (.inr ⟨_, List.getElem_mem hi, hk⟩)
end
end Go.Proofs.YtplgghjdidmcfaaGreatDoor
namespace Go.Proofs.YtplgghjdidmcfaaGreatDoor
open Go.RowKit
theorem houNew_any (w : World) : Calls Tryz.prog 6 #[] w fun e w' => e = .returned (.pointer (some ⟨w.heap.size, 0, none⟩)) ∧ HsAt w' w.heap.size w.heap.size (.slice none 0 0) [] ∧ Below w.heap.size w w' := by
  have HB : Hid (HsAt (w.alloc (.cells #[.slice none 0 0] 57)) w.heap.size w.heap.size (.slice none 0 0) []) :=
    ⟨Blk.new_ _ _ _, Nat.le_refl _, OwnO.nil_, (fun p h => absurd h (by simp)), List.Pairwise.nil⟩
  go_enter Tryz.func6, Tryz.ntmps6
  go_wp2_with fail
  go_ret
  exact ⟨rfl, HB.out, (by repeat (first | exact Below.refl _ _ | assumption | refine Below.alloc ?_ (by first | exact Nat.le_refl _ | assumption | omega | (simp <;> omega)) _ | refine Below.setCell ?_ (by first | exact Nat.le_refl _ | assumption | omega | (simp <;> omega)) _ | refine Below.drew ?_ | refine below_drewN ?_ _))⟩
theorem all_take_succ {f : UInt8 → Bool} {l : List UInt8} {k : Nat} (h : k < l.length) : (l.take (k + 1)).all f = ((l.take k).all f && f (l.getD k 0)) := by
  rw [List.take_succ_eq_append_getElem h, List.all_append, List.getD_eq_getElem?_getD, List.getElem?_eq_getElem h]
  simp
theorem all_false_take {f : UInt8 → Bool} {l : List UInt8} {k : Nat} (h : k < l.length) (hf : f (l.getD k 0) = false) : l.all f = false := by
  rw [List.all_eq_false]
  refine ⟨l[k], List.getElem_mem h, ?_⟩
  rw [List.getD_eq_getElem?_getD, List.getElem?_eq_getElem h] at hf
  simpa using hf
set_option maxRecDepth 100000 in
set_option maxHeartbeats 1000000 in
theorem houName_any (s : ByteArray) (w : World) (hs : s.size ≤ 9223372036854775807) :
    Calls Tryz.prog 18 #[.string s] w fun e w' => e = .returned (.int .i64 (if named s then 0 else 3)) ∧ Below w.heap.size w w' := by
  by_cases h1 : s.size < 1
  · have HV : Hid ((if named s then (0 : Int) else 3) = 3) := by
      unfold Hid named
      rw [decide_eq_false (by omega)]
      rfl
    have g1 : decide ((s.size : Int) < 1) = true := decide_eq_true (by omega)
    rw [HV.out]
    go_enter Tryz.func18, Tryz.ntmps18
    go_wp2_with fail
    go_ret
    exact ⟨rfl, (by repeat (first | exact Below.refl _ _ | assumption | refine Below.alloc ?_ (by first | exact Nat.le_refl _ | assumption | omega | (simp <;> omega)) _ | refine Below.setCell ?_ (by first | exact Nat.le_refl _ | assumption | omega | (simp <;> omega)) _ | refine Below.drew ?_ | refine below_drewN ?_ _))⟩
  by_cases h2 : 8 < s.size
  · have HV : Hid ((if named s then (0 : Int) else 3) = 3) := by
      unfold Hid named
      rw [decide_eq_false (p := s.size ≤ 8) (by omega), Bool.and_false]
      rfl
    have g1 : decide ((s.size : Int) < 1) = false := decide_eq_false (by omega)
    have g2 : decide ((8 : Int) < (s.size : Int)) = true := decide_eq_true (by omega)
    rw [HV.out]
    go_enter Tryz.func18, Tryz.ntmps18
    go_wp2_with fail
    go_ret
    exact ⟨rfl, (by repeat (first | exact Below.refl _ _ | assumption | refine Below.alloc ?_ (by first | exact Nat.le_refl _ | assumption | omega | (simp <;> omega)) _ | refine Below.setCell ?_ (by first | exact Nat.le_refl _ | assumption | omega | (simp <;> omega)) _ | refine Below.drew ?_ | refine below_drewN ?_ _))⟩
  have HN : Hid (named s = (L s).all lowerB) := by
    unfold Hid named
    rw [decide_eq_true (by omega), decide_eq_true (by omega)]
    rfl
  obtain ⟨z, hz⟩ : ∃ z, (if named s then (0 : Int) else 3) = z := ⟨_, rfl⟩
  rw [hz]
  have HZ := Lib.hid hz
  clear hz
  have g1 : decide ((s.size : Int) < 1) = false := decide_eq_false (by omega)
  have g2 : decide ((8 : Int) < (s.size : Int)) = false := decide_eq_false (by omega)
  have hcv := fun W => Lib.run_convert_string_bytes (P := Tryz.prog) W 9 119 5 s Tryz.underlying9 Tryz.underlying119 Tryz.underlying5
  go_enter Tryz.func18, Tryz.ntmps18
  go_wp2_with fail
  have hW : Below w.heap.size w (Lib.bytesWorld w 5 s) := bytesWorld_below w _ s
  have hcells := Lib.bytesWorld_cell w 5 s
  generalize Lib.bytesWorld w 5 s = w1 at hW hcells ⊢
  have Hc := Lib.hid hcells; clear hcells
  clear hcv
  have HLL : Hid ((L s).length = s.size) := L_len s
  go_loopw [16] (fun iv wr => ∃ k : Nat, k ≤ s.size ∧ iv = .int .i64 (k : Int) ∧ Hid (((L s).take k).all lowerB = true) ∧ wr = w1) (fun iv _ => s.size - (intOf iv).toNat)
  case atStart => exact ⟨0, Nat.zero_le _, rfl, by rw [Hid, List.take_zero]; rfl, rfl⟩
  case round =>
    obtain ⟨k, hk, rfl, HT, rfl⟩ := hrel
    by_cases hlt : k < s.size
    · have g3 : decide ((k : Int) < (s.size : Int)) = true := decide_eq_true (by omega)
      have g3' : decide (k < s.size) = true := decide_eq_true hlt
      have hc := Hc.out k hlt
      have hb : (s.data.toList.getD k 0).toNat < 256 := UInt8.toNat_lt _
      have HLK : Hid (k < (L s).length) := by rw [Hid, HLL.out]; exact hlt
      have HTK := Lib.hid (all_take_succ (f := lowerB) HLK.out)
      have HFF := Lib.hid (fun h => all_false_take (f := lowerB) HLK.out h)
      have HX : Hid (s.data.toList.getD k 0 = (L s).getD k 0) := rfl
      rw [HX.out] at hc hb
      generalize (L s).getD k 0 = x at *
      clear HX
      by_cases h3 : x.toNat < 97
      · have HF : Hid ((L s).all lowerB = false) := HFF.out (by unfold lowerB; rw [decide_eq_false (by omega)]; rfl)
        have g4 : decide ((x.toNat : Int) < 97) = true := decide_eq_true (by omega)
        have g4' : decide (x.toNat < 97) = true := decide_eq_true h3
        clear HTK HFF
        go_wp2_with fail
        go_ret
        exact ⟨ret_int (by rw [← HZ.out, HN.out, HF.out]; rfl), hW⟩
      by_cases h4 : 122 < x.toNat
      · have HF : Hid ((L s).all lowerB = false) := HFF.out (by unfold lowerB; rw [decide_eq_false (p := x.toNat ≤ 122) (by omega), Bool.and_false])
        have g4 : decide ((x.toNat : Int) < 97) = false := decide_eq_false (by omega)
        have g4' : decide (x.toNat < 97) = false := decide_eq_false h3
        have g5 : decide ((122 : Int) < (x.toNat : Int)) = true := decide_eq_true (by omega)
        have g5' : decide (122 < x.toNat) = true := decide_eq_true h4
        clear HTK HFF
        go_wp2_with fail
        go_ret
        exact ⟨ret_int (by rw [← HZ.out, HN.out, HF.out]; rfl), hW⟩
      have HT2 : Hid (((L s).take (k + 1)).all lowerB = true) := by
        rw [Hid, HTK.out, HT.out, Bool.true_and]
        unfold lowerB
        rw [decide_eq_true (by omega), decide_eq_true (by omega)]
        rfl
      have g4 : decide ((x.toNat : Int) < 97) = false := decide_eq_false (by omega)
      have g4' : decide (x.toNat < 97) = false := decide_eq_false h3
      have g5 : decide ((122 : Int) < (x.toNat : Int)) = false := decide_eq_false (by omega)
      have g5' : decide (122 < x.toNat) = false := decide_eq_false h4
      clear HTK HFF
      go_wp2_with fail
      go_roundw
      case rel => exact ⟨k + 1, by omega, by go_num, HT2.out, by first | rfl | trivial⟩
      case measure => simp [intOf]; omega
    · obtain rfl : k = s.size := by omega
      have HF : Hid ((L s).all lowerB = true) := by
        have h := HT.out
        rwa [List.take_of_length_le (by rw [HLL.out]; exact Nat.le_refl _)] at h
      go_wp2_with fail
      go_ret
      exact ⟨ret_int (by rw [← HZ.out, HN.out, HF.out]; rfl), hW⟩
theorem pc_cell {w : World} {B n k : Nat} {A : Option Addr} {l : List Pc} (h : Rd w B 3 A n (pcCells l)) (hl : k < l.length) (hn : l.length = n) : ∃ ad, A = some ad ∧ ad.block < B ∧ w.cell? (ad.add (k * 3)) = some (.string l[k].s.nm) ∧ w.cell? ⟨(ad.add (k * 3)).block, (ad.add (k * 3)).off + 1, none⟩ = some (.pointer (some ⟨l[k].ge, 0, none⟩)) ∧
      w.cell? ⟨(ad.add (k * 3)).block, (ad.add (k * 3)).off + 2, none⟩ = some (.pointer (some ⟨l[k].gf, 0, none⟩)) := by
  obtain ⟨ad, hl', e, hb, hc⟩ := Rd.at_rec pc_len (by omega) h (k := k) (by omega)
  refine ⟨ad, e, hb, hc 0 _ rfl, ?_, ?_⟩
  · have h1 := hc 1 _ rfl
    rwa [← add_add] at h1
  · have h1 := hc 2 _ rfl
    rwa [← add_add] at h1
set_option maxRecDepth 100000 in
theorem houSame_any (p : Pc) (nm : ByteArray) (g : Nat) (w : World) (hg : g < w.heap.size) (hc : w.cell? ⟨g, 2, none⟩ = some (.string nm)) :
    Calls Tryz.prog 20 #[.agg #[.string p.s.nm, .pointer (some ⟨p.ge, 0, none⟩), .pointer (some ⟨p.gf, 0, none⟩)], .pointer (some ⟨g, 0, none⟩)] w fun e w' => e = .returned (.bool (decide (L p.s.nm = L nm))) ∧ Below w.heap.size w w' := by
  have HE : Hid ((p.s.nm.toList == nm.toList) = decide (L p.s.nm = L nm)) := by
    rw [Hid, Bool.eq_iff_iff, beq_iff_eq, decide_eq_true_iff, ByteArray.toList_eq, ByteArray.toList_eq]
    exact Iff.rfl
  have hc1 : (w.alloc (.cells #[.string p.s.nm, .pointer (some ⟨p.ge, 0, none⟩), .pointer (some ⟨p.gf, 0, none⟩)] 61)).cell? ⟨g, 2, none⟩ = some (.string nm) := (World.cell?_alloc_lt _ _ _ hg).trans hc
  rw [← HE.out]
  obtain ⟨⟨pn, ptx, pd, psf, pb, po⟩, pge, pgf, pgl, pvB, pvO⟩ := p
  go_enter Tryz.func20, Tryz.ntmps20
  go_wp2_with fail
  go_ret
  exact ⟨rfl, (by repeat (first | exact Below.refl _ _ | assumption | refine Below.alloc ?_ (by first | exact Nat.le_refl _ | assumption | omega | (simp <;> omega)) _ | refine Below.setCell ?_ (by first | exact Nat.le_refl _ | assumption | omega | (simp <;> omega)) _ | refine Below.drew ?_ | refine below_drewN ?_ _))⟩
end Go.Proofs.YtplgghjdidmcfaaGreatDoor
namespace Go.Proofs.YtplgghjdidmcfaaGreatDoor
open Go.RowKit
section
variable {w w' w3 : World} {base : Nat} {p : Pc}
theorem fresh_K {g : Nat} {vB vO vB' vO' : Value} (fB : Fresh w3 vB' vB vO) (fO : Fresh w3 vO' vB vO) (hs : w.heap.size ≤ w3.heap.size) {k : Nat} (hk : EdK g vB' vO' k) : EdK g vB vO k ∨ w.heap.size ≤ k := by
  rcases hk with hk | hk | hk
  · exact .inl (.inl hk)
  · rcases fB k hk with h | h | h
    · exact .inl (.inr (.inl h))
    · exact .inl (.inr (.inr h))
    · exact .inr (Nat.le_trans hs h)
  · rcases fO k hk with h | h | h
    · exact .inl (.inr (.inl h))
    · exact .inl (.inr (.inr h))
    · exact .inr (Nat.le_trans hs h)
theorem Gbs.foot (h : Gbs w w' [p.gf, p.gl]) : Chg w w' (foot p) := (Chg.gbsH h).monoH fun _ _ hk => .inr (by simpa using hk)
theorem chg_foot (h : Chg w w' (EdK p.ge p.vB p.vO)) : Chg w w' (foot p) := h.monoH fun _ _ hk => .inl hk
theorem Chg.thenK {K : Nat → Prop} {w1 w2 w3 : World} (h : Chg w1 w2 K) (h2 : Chg w2 w3 K) : Chg w1 w3 K := h.trans h2 fun _ hk _ => hk
theorem Chg.at_ {K : Nat → Prop} (hc : Chg w w' K) {q : Addr} {u : Value} (hq : q.block < w.heap.size) (hK : ¬ K q.block) (h : w.cell? q = some u) : w'.cell? q = some u := (World.cell?_of_block (w := w) (hc.block q.block hq hK)).trans h
end
theorem undo_redo (s : Es) (h : ¬ s.back.length = 0) : redoS (undoS s) = s := by
  obtain ⟨t, b, o⟩ := s
  simp only at h
  unfold undoS
  rw [if_neg h]
  unfold redoS
  rw [if_neg (by simp)]
  have hb : b.take (b.length - 1) ++ [b.getD (b.length - 1) []] = b := by
    rw [List.getD_eq_getElem?_getD, List.getElem?_eq_getElem (by omega), Option.getD_some, ← List.take_succ_eq_append_getElem (by omega), Nat.sub_add_cancel (by omega), List.take_length]
  show (⟨(o ++ [t]).getD ((o ++ [t]).length - 1) [], b.take (b.length - 1) ++ [b.getD (b.length - 1) []], (o ++ [t]).take ((o ++ [t]).length - 1)⟩ : Es) = ⟨t, b, o⟩
  rw [hb]
  simp
theorem redo_undo (s : Es) (h : ¬ s.onward.length = 0) : undoS (redoS s) = s := by
  obtain ⟨t, b, o⟩ := s
  simp only at h
  unfold redoS
  rw [if_neg h]
  unfold undoS
  rw [if_neg (by simp)]
  have ho : o.take (o.length - 1) ++ [o.getD (o.length - 1) []] = o := by
    rw [List.getD_eq_getElem?_getD, List.getElem?_eq_getElem (by omega), Option.getD_some, ← List.take_succ_eq_append_getElem (by omega), Nat.sub_add_cancel (by omega), List.take_length]
  show (⟨(b ++ [t]).getD ((b ++ [t]).length - 1) [], (b ++ [t]).take ((b ++ [t]).length - 1), o.take (o.length - 1) ++ [o.getD (o.length - 1) []]⟩ : Es) = ⟨t, b, o⟩
  rw [ho]
  simp
/-- What a method of a page leaves. -/
structure PgTo (w w' : World) (base : Nat) (p : Pc) (s' : Ps) (p' : Pc) : Prop where
  at_ : PgAt w' base p'
  chg : Chg w w' (foot p)
  new_ : ∀ k, foot p' k → foot p k ∨ w.heap.size ≤ k
  s : p'.s = s'
  ge : p'.ge = p.ge
  gf : p'.gf = p.gf
set_option maxRecDepth 100000 in
set_option maxHeartbeats 4000000 in
theorem pgEdit_any (p : Pc) (pa : Addr) (base : Nat) (l : List Ed) (A : Option Addr) (m c : Nat) (w : World) (h : PgAt w base p) (hk : PsOk p.s) (hb : base ≤ w.heap.size) (hpl : pa.block < w.heap.size) (hpo : ¬ foot p pa.block)
    (c1 : w.cell? ⟨pa.block, pa.off + 1, none⟩ = some (.pointer (some ⟨p.ge, 0, none⟩))) (c2 : w.cell? ⟨pa.block, pa.off + 2, none⟩ = some (.pointer (some ⟨p.gf, 0, none⟩)))
    (hr : ∀ W, Chg w W (foot p) → Rd W W.heap.size 3 A m (edCells l)) (hm : m ≤ 9223372036854775807) (ht : TabI w) :
    Calls Tryz.prog 22 #[.pointer (some pa), .slice A m c] w fun e w' => e = .returned (.int .i64 (edPE p.s l)) ∧ ∃ p', PgTo w w' base p (edP p.s l) p' := by
  have hlen := Rd.rec_len ed_len (by omega) (hr w (Chg.reflH _ _))
  have HR := Lib.hid hr
  have HP := Lib.hid h
  have HK := Lib.hid hk
  have HSELF : Hid (edPE p.s l ≠ 0 → ∀ W, Chg w W (foot p) → PgAt W base p → ∃ p', PgTo w W base p (edP p.s l) p') := fun he W hc hp => ⟨p, hp, hc, fun k hk => .inl hk, by unfold edP; rw [if_neg he], rfl, rfl⟩
  by_cases h0 : m = 0
  · have HE : Hid (edPE p.s l = 5) := by unfold Hid edPE; rw [if_pos (by omega)]
    have HS := HSELF.out (by rw [HE.out]; decide) w (Chg.reflH _ _) h
    have HS := Lib.hid HS
    rw [HE.out]
    have g1 : ((m : Int) == 0) = true := by rw [beq_iff_eq]; omega
    have g1' : (m == 0) = true := by rw [beq_iff_eq]; exact h0
    clear hlen h hk hr HSELF c1 c2 hpo
    go_enter Tryz.func22, Tryz.ntmps22
    go_wp2_with fail
    go_ret
    exact ⟨rfl, HS.out⟩
  have g1 : ((m : Int) == 0) = false := by rw [beq_eq_false_iff_ne]; omega
  have g1' : (m == 0) = false := by rw [beq_eq_false_iff_ne]; exact h0
  have HPE : Hid (edPE p.s l = lfE p.s.tx p.s.d l) := by unfold Hid edPE; rw [if_neg (by omega)]
  have HLF := Lib.hid (lfEdit_any p.gf p.gl p.s.tx p.s.d p.s.sf l A m c w.heap.size w h.lf hk.lf (hr w (Chg.reflH _ _)) (Nat.le_refl _) hm ht)
  by_cases hz : lfE p.s.tx p.s.d l = 0
  · have hz5 : edPE p.s l = 0 := HPE.out.trans hz
    obtain ⟨_, _, _, h3, h4, h5⟩ := edPE_zero hz5
    have HPZ := Lib.hid hz5
    have HDO : Hid (∀ W, Chg w W (foot p) → EdSt W base p.ge p.s.es p.vB p.vO → _) := fun W hc he => edDoS base p.ge p.s.es p.vB p.vO W he (Nat.le_trans hb hc.size) hk.es l A m c W.heap.size (hr W hc) (Nat.le_refl _) hm h4
    have HES := Lib.hid h5
    have HPP : Hid (edP p.s l = { p.s with tx := lfT p.s.tx p.s.d l, d := lfD p.s.tx p.s.d l, back := (p.s.back ++ [L p.s.tx]).drop (p.s.back.length + 1 - 30), onward := [] }) := by unfold Hid edP; rw [if_pos hz5]
    rw [Hid, hz] at HLF
    have HLF := Lib.hid HLF
    rw [HPZ.out]
    clear hlen h hk hr HSELF hz hz5 h3 h4 h5
    go_enter Tryz.func22, Tryz.ntmps22
    go_wp2_with fail
    refine HLF.out.mono ?_
    rintro e w3 ⟨rfl, hL3, hg3⟩
    have hc3 : Chg w w3 (foot p) := Gbs.foot hg3
    have hE3 := HP.out.ed.leafed HP.out.lf hg3
    have c1' := hc3.at_ (q := ⟨pa.block, pa.off + 1, none⟩) hpl hpo c1
    have HL3 := Lib.hid hL3
    have HC3 := Lib.hid hc3
    have HG3 := Lib.hid (HDO.out w3 hc3 hE3)
    have HE3 := Lib.hid hE3
    clear hL3 hg3 hc3 hE3 HLF HDO c1 c2
    go_wp2_with fail
    refine HG3.out.mono ?_
    rintro e w4 ⟨rfl, vB', vO', hE4, hc4, fB, fO⟩
    have HF : Hid (∃ p', PgTo w w4 base p (edP p.s l) p') := by
      refine ⟨⟨edP p.s l, p.ge, p.gf, p.gl, vB', vO'⟩, ⟨?_, ?_, HP.out.bf, HP.out.bl⟩, HC3.out.thenK (chg_foot hc4), ?_, rfl, rfl, rfl⟩
      · show EdSt w4 base p.ge (edP p.s l).es vB' vO'
        rw [← HES.out]; exact hE4
      · have := HL3.out.edited HE3.out hc4
        show LeafAt w4 p.gf p.gl (edP p.s l).tx (edP p.s l).d (edP p.s l).sf
        rw [HPP.out]; exact this
      · rintro k (hk | hk)
        · rcases fresh_K (w := w) fB fO HC3.out.size hk with h | h
          · exact .inl (.inl h)
          · exact .inr h
        · exact .inl (.inr hk)
    go_wp2_with fail
    go_ret
    exact ⟨rfl, HF.out⟩
  · have g2 : (lfE p.s.tx p.s.d l != 0) = true := by rw [bne_iff_ne]; exact hz
    have HT : Hid (lfT p.s.tx p.s.d l = p.s.tx) := by unfold Hid lfT; rw [if_neg hz]
    have HD : Hid (lfD p.s.tx p.s.d l = p.s.d) := by unfold Hid lfD; rw [if_neg hz]
    rw [Hid, HT.out, HD.out] at HLF
    have HLF := Lib.hid HLF
    have HN : Hid (edPE p.s l ≠ 0) := by rw [Hid, HPE.out]; exact hz
    rw [HPE.out]
    clear hlen h hk hr hz
    generalize lfE p.s.tx p.s.d l = z at *
    go_enter Tryz.func22, Tryz.ntmps22
    go_wp2_with fail
    refine HLF.out.mono ?_
    rintro e w3 ⟨rfl, hL3, hg3⟩
    have HF := Lib.hid (HSELF.out HN.out w3 (Gbs.foot hg3) ⟨HP.out.ed.leafed HP.out.lf hg3, hL3, HP.out.bf, HP.out.bl⟩)
    go_wp2_with fail
    go_ret
    exact ⟨rfl, HF.out⟩
set_option maxRecDepth 100000 in
set_option maxHeartbeats 8000000 in
theorem pgBack_any (p : Pc) (pa : Addr) (base : Nat) (w : World) (h : PgAt w base p) (hk : PsOk p.s) (hb : base ≤ w.heap.size) (hpl : pa.block < w.heap.size) (hpo : ¬ foot p pa.block)
    (c1 : w.cell? ⟨pa.block, pa.off + 1, none⟩ = some (.pointer (some ⟨p.ge, 0, none⟩))) (c2 : w.cell? ⟨pa.block, pa.off + 2, none⟩ = some (.pointer (some ⟨p.gf, 0, none⟩))) :
    Calls Tryz.prog 24 #[.pointer (some pa), .bool true] w fun e w' => e = .returned (.int .i64 (unPE p.s)) ∧ ∃ p', PgTo w w' base p (unP p.s) p' := by
  have HOK2 : EsOk (undoS p.s.es) := hk.es.undo
  have HP := Lib.hid h
  have HK := Lib.hid hk
  have hno : p.s.es.back.length + p.s.es.onward.length ≤ 1000 := Nat.le_trans hk.es.n (by omega)
  have HNO := Lib.hid hno
  clear hno
  by_cases h0 : p.s.back.length = 0
  · have HE : Hid (unPE p.s = 4) := by unfold Hid unPE; rw [if_pos h0]
    have HH0 : Hid (p.s.es.back.length = 0) := h0
    have HSELF : Hid (∀ W, Chg w W (foot p) → PgAt W base p → ∃ p', PgTo w W base p (unP p.s) p') := fun W hc hp => ⟨p, hp, hc, fun k hk => .inl hk, by unfold unP; rw [if_neg (by rw [HE.out]; decide)], rfl, rfl⟩
    rw [HE.out]
    clear h hk h0
    go_enter Tryz.func24, Tryz.ntmps24
    go_wp2_with fail
    go_quiet (fail)
    have hbD := below_drewN (Below.refl w.heap.size w) nq
    generalize w.drewN nq = wd at *
    go_wp2_with fail
    refine (edUndo4 base p.ge p.s.es p.vB p.vO wd (HP.out.ed.below hbD) HH0.out).mono ?_
    rintro e w3 ⟨rfl, hb3⟩
    have HF := Lib.hid (HSELF.out w3 (Chg.ofB (bthen hbD hb3)) (HP.out.below (bthen hbD hb3)))
    go_wp2_with fail
    go_ret
    exact ⟨rfl, HF.out⟩
  · have HE : Hid (unPE p.s = lsE p.s.d (unT p.s)) := by unfold Hid unPE; rw [if_neg h0]
    have HH0 : Hid (0 < p.s.es.back.length) := Nat.pos_of_ne_zero h0
    have HTX : Hid (S (undoS p.s.es).text = unT p.s) := by
      unfold Hid undoS
      rw [if_neg (show ¬ p.s.es.back.length = 0 from h0)]
      rfl
    have Hundo_redo := Lib.hid (undo_redo p.s.es h0)
    have HOT : Hid (0 < (undoS p.s.es).onward.length) := by
      unfold Hid undoS
      rw [if_neg (show ¬ p.s.es.back.length = 0 from h0)]
      simp
    have HNO2 : Hid ((undoS p.s.es).back.length + (undoS p.s.es).onward.length ≤ 1000) := Nat.le_trans HOK2.n (by omega)
    have HLS := Lib.hid (fun W (hL : LeafAt W p.gf p.gl p.s.tx p.s.d p.s.sf) => lfSet_any p.gf p.gl p.s.tx p.s.d (unT p.s) p.s.sf W hL hk.lf)
    have HPP : Hid (unPE p.s = 0 → (unP p.s).es = undoS p.s.es ∧ unP p.s = { p.s with tx := unT p.s, d := lsD p.s.d (unT p.s), back := (undoS p.s.es).back, onward := (undoS p.s.es).onward }) := fun hz => by
      unfold unP undoS
      rw [if_pos hz, if_neg (show ¬ p.s.es.back.length = 0 from h0)]
      refine ⟨?_, rfl⟩
      show (⟨L (unT p.s), _, _⟩ : Es) = ⟨_, _, _⟩
      unfold unT
      rw [L_S]
      rfl
    have HPN : Hid (unPE p.s ≠ 0 → unP p.s = p.s) := fun hz => by unfold unP; rw [if_neg hz]
    rw [HE.out]
    rw [HE.out] at HPP HPN
    clear h hk h0
    go_enter Tryz.func24, Tryz.ntmps24
    go_wp2_with fail
    go_quiet (fail)
    have hbD := below_drewN (Below.refl w.heap.size w) nq
    generalize w.drewN nq = wd at *
    go_wp2_with fail
    refine (edUndoS base p.ge p.s.es p.vB p.vO wd (HP.out.ed.below hbD) HH0.out (Nat.le_trans hb hbD.size) HNO.out).mono ?_
    rintro e w3 ⟨rfl, vB', vO', hE3, hc3, fB, fO⟩
    have hC3 : Chg w w3 (foot p) := (Chg.ofB hbD).thenK (chg_foot hc3)
    have hL3 := (HP.out.lf.below hbD).edited (HP.out.ed.below hbD) hc3
    have k1 := hC3.at_ (q := ⟨pa.block, pa.off + 1, none⟩) hpl hpo c1
    have k2 := hC3.at_ (q := ⟨pa.block, pa.off + 2, none⟩) hpl hpo c2
    have hpl3 : pa.block < w3.heap.size := Nat.lt_of_lt_of_le hpl hC3.size
    have HC3 := Lib.hid hC3
    have HL3 := Lib.hid hL3
    have HE3 := Lib.hid hE3
    have HFR : Hid (∀ k, EdK p.ge vB' vO' k → EdK p.ge p.vB p.vO k ∨ w.heap.size ≤ k) := fun k hk => fresh_K (w := w) fB fO hbD.size hk
    clear hC3 hL3 hE3 hc3 fB fO c1 c2
    go_wp2_with fail
    obtain ⟨F1, hFd⟩ : ∃ F : World → Prop, F = fun w' => w'.cell? ⟨pa.block, pa.off + 1, none⟩ = some (.pointer (some ⟨p.ge, 0, none⟩)) ∧ w'.cell? ⟨pa.block, pa.off + 2, none⟩ = some (.pointer (some ⟨p.gf, 0, none⟩)) := ⟨_, rfl⟩
    have HF1 := Lib.hid hFd
    clear hFd
    have hcell10 : ∀ p' : Wof F1, p'.w.cell? ⟨pa.block, pa.off + 1, none⟩ = some (.pointer (some ⟨p.ge, 0, none⟩)) := fun ⟨x, hx⟩ => by rw [HF1.out] at hx; exact hx.1
    have hcell11 : ∀ p' : Wof F1, p'.w.cell? ⟨pa.block, pa.off + 2, none⟩ = some (.pointer (some ⟨p.gf, 0, none⟩)) := fun ⟨x, hx⟩ => by rw [HF1.out] at hx; exact hx.2
    refine wp_region_schedF [(0, true), (1, true), (2, true), (3, true), (4, true), (5, true), (6, true), (7, true), (8, false), (9, false), (10, true)] F1 (by kernel_rfl) (by kernel_rfl) rfl (fun _ _ _ _ _ h => h) (by kernel_rfl) (by rw [HF1.out]; first | ((repeat' apply And.intro) <;> assumption) | trivial | (simp; done) | (simp [*]; done)) (by rw [HF1.out]; exact fun h => h) ?_
    intro hne1
    simp only [opersOf, List.getElem?_toArray, List.getElem?_cons_succ, List.getElem?_cons_zero]
    repeat (first | (refine wpSched_free rfl ?_; intro K hK; go_big_quiet_op; go_big_quiet_on) | (refine wpSched_wantS _ rfl rfl rfl ?_; intro K hK; go_big_quiet_op; go_big_quiet_on) | (refine wpSched_skipS _ rfl rfl rfl rfl ?_; simp only [Act.put, List.setIfInBounds_toArray, List.set_cons_zero, List.set_cons_succ]) | (refine wpSched_skipU _ rfl rfl rfl ?_; simp only [Act.put, List.setIfInBounds_toArray, List.set_cons_zero, List.set_cons_succ]))
    refine wpSched_other ?_
    go_wp2_with fail
    have hbd3 : Below w3.heap.size w3 w3.drew := Below.drew (Below.refl _ _)
    have hTX := edText_any base p.ge (undoS p.s.es) vB' vO' w3.drew (HE3.out.below hbd3)
    rw [HTX.out] at hTX
    refine hTX.mono ?_
    rintro e w4 ⟨rfl, hb4⟩
    have hb34 := hbd3.trans (hb4.mono hbd3.size)
    have q1 := (hb34.cell (p := ⟨pa.block, pa.off + 1, none⟩) hpl3).trans k1
    have q2 := (hb34.cell (p := ⟨pa.block, pa.off + 2, none⟩) hpl3).trans k2
    have HL4 := Lib.hid (HL3.out.below hb34)
    have HE4 := Lib.hid (HE3.out.below hb34)
    have HC4 := Lib.hid (HC3.out.thenH hb34)
    have hpl4 : pa.block < w4.heap.size := Nat.lt_of_lt_of_le hpl3 hb34.size
    clear hTX hb4 hb34
    go_wp2_with fail
    refine sched_back (by rw [HF1.out]; exact ⟨q1, q2⟩) ?_
    repeat (first | (refine wpSched_free rfl ?_; intro K hK; go_big_quiet_op; go_big_quiet_on) | (refine wpSched_wantS _ rfl rfl rfl ?_; intro K hK; go_big_quiet_op; go_big_quiet_on) | (refine wpSched_skipS _ rfl rfl rfl rfl ?_; simp only [Act.put, List.setIfInBounds_toArray, List.set_cons_zero, List.set_cons_succ]) | (refine wpSched_skipU _ rfl rfl rfl ?_; simp only [Act.put, List.setIfInBounds_toArray, List.set_cons_zero, List.set_cons_succ]))
    refine wpSched_other ?_
    go_wp2_with fail
    refine (HLS.out w4 HL4.out).mono ?_
    rintro e w5 ⟨rfl, hL5, hg5⟩
    have hC5 : Chg w4 w5 (foot p) := Gbs.foot hg5
    have r1 := hC5.at_ (q := ⟨pa.block, pa.off + 1, none⟩) hpl4 hpo q1
    have r2 := hC5.at_ (q := ⟨pa.block, pa.off + 2, none⟩) hpl4 hpo q2
    have HE5 := Lib.hid (HE4.out.leafed HL4.out hg5)
    have HL5 := Lib.hid hL5
    have HC5 := Lib.hid (HC4.out.thenK hC5)
    clear hL5 hg5 hC5
    go_wp2_with fail
    refine sched_back (by rw [HF1.out]; exact ⟨r1, r2⟩) ?_
    repeat (first | (refine wpSched_free rfl ?_; intro K hK; go_big_quiet_op; go_big_quiet_on) | (refine wpSched_wantS _ rfl rfl rfl ?_; intro K hK; go_big_quiet_op; go_big_quiet_on) | (refine wpSched_skipS _ rfl rfl rfl rfl ?_; simp only [Act.put, List.setIfInBounds_toArray, List.set_cons_zero, List.set_cons_succ]) | (refine wpSched_skipU _ rfl rfl rfl ?_; simp only [Act.put, List.setIfInBounds_toArray, List.set_cons_zero, List.set_cons_succ]))
    refine wpSched_nil ?_
    clear HF1 hcell10 hcell11 hne1 k1 k2 q1 q2 r1 r2
    by_cases hz : lsE p.s.d (unT p.s) = 0
    · obtain ⟨hp1, hp2⟩ := HPP.out hz
      have HF : Hid (∃ p', PgTo w w5 base p (unP p.s) p') := by
        refine ⟨⟨unP p.s, p.ge, p.gf, p.gl, vB', vO'⟩, ⟨?_, ?_, HP.out.bf, HP.out.bl⟩, HC5.out, ?_, rfl, rfl, rfl⟩
        · show EdSt w5 base p.ge (unP p.s).es vB' vO'
          rw [hp1]; exact HE5.out
        · have h9 := HL5.out
          unfold lsT at h9
          rw [if_pos hz] at h9
          show LeafAt w5 p.gf p.gl (unP p.s).tx (unP p.s).d (unP p.s).sf
          rw [hp2]; exact h9
        · rintro k (hk | hk)
          · rcases HFR.out k hk with h | h
            · exact .inl (.inl h)
            · exact .inr h
          · exact .inl (.inr hk)
      have HZZ := Lib.hid hz
      rw [hz]
      clear hp1 hp2 hz
      go_wp2_with fail
      go_ret
      exact ⟨ret_int HZZ.out.symm, HF.out⟩
    · have HF : Hid (∀ w6 vB2 vO2, EdSt w6 base p.ge p.s.es vB2 vO2 → Chg w5 w6 (EdK p.ge vB' vO') → Fresh w5 vB2 vB' vO' → Fresh w5 vO2 vB' vO' → ∃ p', PgTo w w6 base p (unP p.s) p') := fun w6 vB2 vO2 h6 hc6 fB fO => by
        have h9 := HL5.out
        unfold lsT lsD at h9
        rw [if_neg hz, if_neg hz] at h9
        have hc9 : Chg w w6 (foot p) := HC5.out.trans (hc6.monoH (K' := fun k => EdK p.ge p.vB p.vO k ∨ w.heap.size ≤ k) fun k _ hk => HFR.out k hk) fun k hk hlt => by
          rcases hk with hk | hk
          · exact .inl hk
          · omega
        refine ⟨⟨p.s, p.ge, p.gf, p.gl, vB2, vO2⟩, ⟨h6, h9.edited HE5.out hc6, HP.out.bf, HP.out.bl⟩, hc9, ?_, (HPN.out hz).symm, rfl, rfl⟩
        rintro k (hk | hk)
        · rcases fresh_K (w := w5) fB fO (Nat.le_refl _) hk with h | h
          · rcases HFR.out k h with h | h
            · exact .inl (.inl h)
            · exact .inr h
          · exact .inr (Nat.le_trans HC5.out.size h)
        · exact .inl (.inr hk)
      have HUS := edRedoS base p.ge (undoS p.s.es) vB' vO' w5 HE5.out HOT.out (Nat.le_trans hb HC5.out.size) HNO2.out
      rw [Hundo_redo.out] at HUS
      have g1 : (lsE p.s.d (unT p.s) != 0) = true := by rw [bne_iff_ne]; exact hz
      have HUX := Lib.hid HUS
      clear hz HUS HPP HPN HE HLS
      generalize hze : lsE p.s.d (unT p.s) = z at *
      have HZE := Lib.hid hze
      clear hze
      go_wp2_with fail
      refine HUX.out.mono ?_
      rintro e w6 ⟨rfl, vB2, vO2, h6, hc6, fB2, fO2⟩
      have HF6 := Lib.hid (HF.out w6 vB2 vO2 h6 hc6 fB2 fO2)
      go_wp2_with fail
      go_ret
      exact ⟨ret_int HZE.out.symm, HF6.out⟩
set_option maxRecDepth 100000 in
set_option maxHeartbeats 8000000 in
theorem pgOnward_any (p : Pc) (pa : Addr) (base : Nat) (w : World) (h : PgAt w base p) (hk : PsOk p.s) (hb : base ≤ w.heap.size) (hpl : pa.block < w.heap.size) (hpo : ¬ foot p pa.block)
    (c1 : w.cell? ⟨pa.block, pa.off + 1, none⟩ = some (.pointer (some ⟨p.ge, 0, none⟩))) (c2 : w.cell? ⟨pa.block, pa.off + 2, none⟩ = some (.pointer (some ⟨p.gf, 0, none⟩))) :
    Calls Tryz.prog 24 #[.pointer (some pa), .bool false] w fun e w' => e = .returned (.int .i64 (rePE p.s)) ∧ ∃ p', PgTo w w' base p (reP p.s) p' := by
  have HOK2 : EsOk (redoS p.s.es) := hk.es.redo
  have HP := Lib.hid h
  have HK := Lib.hid hk
  have hno : p.s.es.back.length + p.s.es.onward.length ≤ 1000 := Nat.le_trans hk.es.n (by omega)
  have HNO := Lib.hid hno
  clear hno
  by_cases h0 : p.s.onward.length = 0
  · have HE : Hid (rePE p.s = 4) := by unfold Hid rePE; rw [if_pos h0]
    have HH0 : Hid (p.s.es.onward.length = 0) := h0
    have HSELF : Hid (∀ W, Chg w W (foot p) → PgAt W base p → ∃ p', PgTo w W base p (reP p.s) p') := fun W hc hp => ⟨p, hp, hc, fun k hk => .inl hk, by unfold reP; rw [if_neg (by rw [HE.out]; decide)], rfl, rfl⟩
    rw [HE.out]
    clear h hk h0
    go_enter Tryz.func24, Tryz.ntmps24
    go_wp2_with fail
    go_quiet (fail)
    have hbD := below_drewN (Below.refl w.heap.size w) nq
    generalize w.drewN nq = wd at *
    go_wp2_with fail
    refine (edRedo4 base p.ge p.s.es p.vB p.vO wd (HP.out.ed.below hbD) HH0.out).mono ?_
    rintro e w3 ⟨rfl, hb3⟩
    have HF := Lib.hid (HSELF.out w3 (Chg.ofB (bthen hbD hb3)) (HP.out.below (bthen hbD hb3)))
    go_wp2_with fail
    go_ret
    exact ⟨rfl, HF.out⟩
  · have HE : Hid (rePE p.s = lsE p.s.d (reT p.s)) := by unfold Hid rePE; rw [if_neg h0]
    have HH0 : Hid (0 < p.s.es.onward.length) := Nat.pos_of_ne_zero h0
    have HTX : Hid (S (redoS p.s.es).text = reT p.s) := by
      unfold Hid redoS
      rw [if_neg (show ¬ p.s.es.onward.length = 0 from h0)]
      rfl
    have Hredo_undo := Lib.hid (redo_undo p.s.es h0)
    have HOT : Hid (0 < (redoS p.s.es).back.length) := by
      unfold Hid redoS
      rw [if_neg (show ¬ p.s.es.onward.length = 0 from h0)]
      simp
    have HNO2 : Hid ((redoS p.s.es).back.length + (redoS p.s.es).onward.length ≤ 1000) := Nat.le_trans HOK2.n (by omega)
    have HLS := Lib.hid (fun W (hL : LeafAt W p.gf p.gl p.s.tx p.s.d p.s.sf) => lfSet_any p.gf p.gl p.s.tx p.s.d (reT p.s) p.s.sf W hL hk.lf)
    have HPP : Hid (rePE p.s = 0 → (reP p.s).es = redoS p.s.es ∧ reP p.s = { p.s with tx := reT p.s, d := lsD p.s.d (reT p.s), back := (redoS p.s.es).back, onward := (redoS p.s.es).onward }) := fun hz => by
      unfold reP redoS
      rw [if_pos hz, if_neg (show ¬ p.s.es.onward.length = 0 from h0)]
      refine ⟨?_, rfl⟩
      show (⟨L (reT p.s), _, _⟩ : Es) = ⟨_, _, _⟩
      unfold reT
      rw [L_S]
      rfl
    have HPN : Hid (rePE p.s ≠ 0 → reP p.s = p.s) := fun hz => by unfold reP; rw [if_neg hz]
    rw [HE.out]
    rw [HE.out] at HPP HPN
    clear h hk h0
    go_enter Tryz.func24, Tryz.ntmps24
    go_wp2_with fail
    go_quiet (fail)
    have hbD := below_drewN (Below.refl w.heap.size w) nq
    generalize w.drewN nq = wd at *
    go_wp2_with fail
    refine (edRedoS base p.ge p.s.es p.vB p.vO wd (HP.out.ed.below hbD) HH0.out (Nat.le_trans hb hbD.size) HNO.out).mono ?_
    rintro e w3 ⟨rfl, vB', vO', hE3, hc3, fB, fO⟩
    have hC3 : Chg w w3 (foot p) := (Chg.ofB hbD).thenK (chg_foot hc3)
    have hL3 := (HP.out.lf.below hbD).edited (HP.out.ed.below hbD) hc3
    have k1 := hC3.at_ (q := ⟨pa.block, pa.off + 1, none⟩) hpl hpo c1
    have k2 := hC3.at_ (q := ⟨pa.block, pa.off + 2, none⟩) hpl hpo c2
    have hpl3 : pa.block < w3.heap.size := Nat.lt_of_lt_of_le hpl hC3.size
    have HC3 := Lib.hid hC3
    have HL3 := Lib.hid hL3
    have HE3 := Lib.hid hE3
    have HFR : Hid (∀ k, EdK p.ge vB' vO' k → EdK p.ge p.vB p.vO k ∨ w.heap.size ≤ k) := fun k hk => fresh_K (w := w) fB fO hbD.size hk
    clear hC3 hL3 hE3 hc3 fB fO c1 c2
    go_wp2_with fail
    obtain ⟨F1, hFd⟩ : ∃ F : World → Prop, F = fun w' => w'.cell? ⟨pa.block, pa.off + 1, none⟩ = some (.pointer (some ⟨p.ge, 0, none⟩)) ∧ w'.cell? ⟨pa.block, pa.off + 2, none⟩ = some (.pointer (some ⟨p.gf, 0, none⟩)) := ⟨_, rfl⟩
    have HF1 := Lib.hid hFd
    clear hFd
    have hcell10 : ∀ p' : Wof F1, p'.w.cell? ⟨pa.block, pa.off + 1, none⟩ = some (.pointer (some ⟨p.ge, 0, none⟩)) := fun ⟨x, hx⟩ => by rw [HF1.out] at hx; exact hx.1
    have hcell11 : ∀ p' : Wof F1, p'.w.cell? ⟨pa.block, pa.off + 2, none⟩ = some (.pointer (some ⟨p.gf, 0, none⟩)) := fun ⟨x, hx⟩ => by rw [HF1.out] at hx; exact hx.2
    refine wp_region_schedF [(0, true), (1, true), (2, true), (3, true), (4, true), (5, true), (6, true), (7, true), (8, false), (9, false), (10, true)] F1 (by kernel_rfl) (by kernel_rfl) rfl (fun _ _ _ _ _ h => h) (by kernel_rfl) (by rw [HF1.out]; first | ((repeat' apply And.intro) <;> assumption) | trivial | (simp; done) | (simp [*]; done)) (by rw [HF1.out]; exact fun h => h) ?_
    intro hne1
    simp only [opersOf, List.getElem?_toArray, List.getElem?_cons_succ, List.getElem?_cons_zero]
    repeat (first | (refine wpSched_free rfl ?_; intro K hK; go_big_quiet_op; go_big_quiet_on) | (refine wpSched_wantS _ rfl rfl rfl ?_; intro K hK; go_big_quiet_op; go_big_quiet_on) | (refine wpSched_skipS _ rfl rfl rfl rfl ?_; simp only [Act.put, List.setIfInBounds_toArray, List.set_cons_zero, List.set_cons_succ]) | (refine wpSched_skipU _ rfl rfl rfl ?_; simp only [Act.put, List.setIfInBounds_toArray, List.set_cons_zero, List.set_cons_succ]))
    refine wpSched_other ?_
    go_wp2_with fail
    have hbd3 : Below w3.heap.size w3 w3.drew := Below.drew (Below.refl _ _)
    have hTX := edText_any base p.ge (redoS p.s.es) vB' vO' w3.drew (HE3.out.below hbd3)
    rw [HTX.out] at hTX
    refine hTX.mono ?_
    rintro e w4 ⟨rfl, hb4⟩
    have hb34 := hbd3.trans (hb4.mono hbd3.size)
    have q1 := (hb34.cell (p := ⟨pa.block, pa.off + 1, none⟩) hpl3).trans k1
    have q2 := (hb34.cell (p := ⟨pa.block, pa.off + 2, none⟩) hpl3).trans k2
    have HL4 := Lib.hid (HL3.out.below hb34)
    have HE4 := Lib.hid (HE3.out.below hb34)
    have HC4 := Lib.hid (HC3.out.thenH hb34)
    have hpl4 : pa.block < w4.heap.size := Nat.lt_of_lt_of_le hpl3 hb34.size
    clear hTX hb4 hb34
    go_wp2_with fail
    refine sched_back (by rw [HF1.out]; exact ⟨q1, q2⟩) ?_
    repeat (first | (refine wpSched_free rfl ?_; intro K hK; go_big_quiet_op; go_big_quiet_on) | (refine wpSched_wantS _ rfl rfl rfl ?_; intro K hK; go_big_quiet_op; go_big_quiet_on) | (refine wpSched_skipS _ rfl rfl rfl rfl ?_; simp only [Act.put, List.setIfInBounds_toArray, List.set_cons_zero, List.set_cons_succ]) | (refine wpSched_skipU _ rfl rfl rfl ?_; simp only [Act.put, List.setIfInBounds_toArray, List.set_cons_zero, List.set_cons_succ]))
    refine wpSched_other ?_
    go_wp2_with fail
    refine (HLS.out w4 HL4.out).mono ?_
    rintro e w5 ⟨rfl, hL5, hg5⟩
    have hC5 : Chg w4 w5 (foot p) := Gbs.foot hg5
    have r1 := hC5.at_ (q := ⟨pa.block, pa.off + 1, none⟩) hpl4 hpo q1
    have r2 := hC5.at_ (q := ⟨pa.block, pa.off + 2, none⟩) hpl4 hpo q2
    have HE5 := Lib.hid (HE4.out.leafed HL4.out hg5)
    have HL5 := Lib.hid hL5
    have HC5 := Lib.hid (HC4.out.thenK hC5)
    clear hL5 hg5 hC5
    go_wp2_with fail
    refine sched_back (by rw [HF1.out]; exact ⟨r1, r2⟩) ?_
    repeat (first | (refine wpSched_free rfl ?_; intro K hK; go_big_quiet_op; go_big_quiet_on) | (refine wpSched_wantS _ rfl rfl rfl ?_; intro K hK; go_big_quiet_op; go_big_quiet_on) | (refine wpSched_skipS _ rfl rfl rfl rfl ?_; simp only [Act.put, List.setIfInBounds_toArray, List.set_cons_zero, List.set_cons_succ]) | (refine wpSched_skipU _ rfl rfl rfl ?_; simp only [Act.put, List.setIfInBounds_toArray, List.set_cons_zero, List.set_cons_succ]))
    refine wpSched_nil ?_
    clear HF1 hcell10 hcell11 hne1 k1 k2 q1 q2 r1 r2
    by_cases hz : lsE p.s.d (reT p.s) = 0
    · obtain ⟨hp1, hp2⟩ := HPP.out hz
      have HF : Hid (∃ p', PgTo w w5 base p (reP p.s) p') := by
        refine ⟨⟨reP p.s, p.ge, p.gf, p.gl, vB', vO'⟩, ⟨?_, ?_, HP.out.bf, HP.out.bl⟩, HC5.out, ?_, rfl, rfl, rfl⟩
        · show EdSt w5 base p.ge (reP p.s).es vB' vO'
          rw [hp1]; exact HE5.out
        · have h9 := HL5.out
          unfold lsT at h9
          rw [if_pos hz] at h9
          show LeafAt w5 p.gf p.gl (reP p.s).tx (reP p.s).d (reP p.s).sf
          rw [hp2]; exact h9
        · rintro k (hk | hk)
          · rcases HFR.out k hk with h | h
            · exact .inl (.inl h)
            · exact .inr h
          · exact .inl (.inr hk)
      have HZZ := Lib.hid hz
      rw [hz]
      clear hp1 hp2 hz
      go_wp2_with fail
      go_ret
      exact ⟨ret_int HZZ.out.symm, HF.out⟩
    · have HF : Hid (∀ w6 vB2 vO2, EdSt w6 base p.ge p.s.es vB2 vO2 → Chg w5 w6 (EdK p.ge vB' vO') → Fresh w5 vB2 vB' vO' → Fresh w5 vO2 vB' vO' → ∃ p', PgTo w w6 base p (reP p.s) p') := fun w6 vB2 vO2 h6 hc6 fB fO => by
        have h9 := HL5.out
        unfold lsT lsD at h9
        rw [if_neg hz, if_neg hz] at h9
        have hc9 : Chg w w6 (foot p) := HC5.out.trans (hc6.monoH (K' := fun k => EdK p.ge p.vB p.vO k ∨ w.heap.size ≤ k) fun k _ hk => HFR.out k hk) fun k hk hlt => by
          rcases hk with hk | hk
          · exact .inl hk
          · omega
        refine ⟨⟨p.s, p.ge, p.gf, p.gl, vB2, vO2⟩, ⟨h6, h9.edited HE5.out hc6, HP.out.bf, HP.out.bl⟩, hc9, ?_, (HPN.out hz).symm, rfl, rfl⟩
        rintro k (hk | hk)
        · rcases fresh_K (w := w5) fB fO (Nat.le_refl _) hk with h | h
          · rcases HFR.out k h with h | h
            · exact .inl (.inl h)
            · exact .inr h
          · exact .inr (Nat.le_trans HC5.out.size h)
        · exact .inl (.inr hk)
      have HUS := edUndoS base p.ge (redoS p.s.es) vB' vO' w5 HE5.out HOT.out (Nat.le_trans hb HC5.out.size) HNO2.out
      rw [Hredo_undo.out] at HUS
      have g1 : (lsE p.s.d (reT p.s) != 0) = true := by rw [bne_iff_ne]; exact hz
      have HUX := Lib.hid HUS
      clear hz HUS HPP HPN HE HLS
      generalize hze : lsE p.s.d (reT p.s) = z at *
      have HZE := Lib.hid hze
      clear hze
      go_wp2_with fail
      refine HUX.out.mono ?_
      rintro e w6 ⟨rfl, vB2, vO2, h6, hc6, fB2, fO2⟩
      have HF6 := Lib.hid (HF.out w6 vB2 vO2 h6 hc6 fB2 fO2)
      go_wp2_with fail
      go_ret
      exact ⟨ret_int HZE.out.symm, HF6.out⟩
end Go.Proofs.YtplgghjdidmcfaaGreatDoor
