/- The automaton of AHO and CORASICK: the longest end of a word that is among given words (plain). -/
import Derived.Test.YtmmamdjbbpeifaaBase
namespace Go.Proofs.Ytmmamdjbbpeifaa
/-- The longest end of a word that is among those of wd. -/
def lsE (wd : List (List UInt8)) : List UInt8 → List UInt8
  | [] => []
  | a :: x => if (a :: x) ∈ wd then a :: x else lsE wd x
section
variable {wd : List (List UInt8)}
theorem lsE_suf : ∀ x, lsE wd x <:+ x
  | [] => List.suffix_refl _
  | a :: x => by
    unfold lsE
    split
    · exact List.suffix_refl _
    · exact (lsE_suf x).trans (List.suffix_cons _ _)
theorem lsE_mem (h : [] ∈ wd) : ∀ x, lsE wd x ∈ wd
  | [] => h
  | a :: x => by
    unfold lsE
    split
    · assumption
    · exact lsE_mem h x
theorem lsE_most : ∀ x y, y ∈ wd → y <:+ x → y <:+ lsE wd x
  | [], y, _, h => h
  | a :: x, y, hy, h => by
    unfold lsE
    split
    · exact h
    · rename_i hn
      rcases List.suffix_cons_iff.1 h with rfl | h
      · exact absurd hy hn
      · exact lsE_most x y hy h
theorem suf_anti {a b : List UInt8} (h1 : a <:+ b) (h2 : b <:+ a) : a = b := h1.eq_of_length (Nat.le_antisymm h1.length_le h2.length_le)
theorem lsE_self {x : List UInt8} (h : x ∈ wd) : lsE wd x = x := suf_anti (lsE_suf x) (lsE_most x x h (List.suffix_refl _))
theorem lsE_snoc (h0 : [] ∈ wd) (hp : ∀ x ∈ wd, x.dropLast ∈ wd) (x : List UInt8) (c : UInt8) : lsE wd (x ++ [c]) = lsE wd (lsE wd x ++ [c]) := by
  have key : ∀ y, y ∈ wd → y <:+ x ++ [c] → y <:+ lsE wd x ++ [c] := by
    intro y hy hs
    rcases List.eq_nil_or_concat y with rfl | ⟨y', d, rfl⟩
    · exact List.nil_suffix
    · obtain ⟨t, ht⟩ := hs
      rw [List.concat_eq_append] at ht hy ⊢
      rw [← List.append_assoc] at ht
      obtain ⟨h1, h2⟩ := List.append_inj' ht rfl
      have h3 : y' ∈ wd := by have := hp _ hy; rwa [List.dropLast_concat] at this
      obtain ⟨t', ht'⟩ := lsE_most x y' h3 ⟨t, h1⟩
      exact ⟨t', by rw [← List.append_assoc, ht', h2]⟩
  have hle : lsE wd x ++ [c] <:+ x ++ [c] := by
    obtain ⟨t, ht⟩ := lsE_suf (wd := wd) x
    exact ⟨t, by rw [← List.append_assoc, ht]⟩
  exact suf_anti (lsE_most _ _ (lsE_mem h0 _) (key _ (lsE_mem h0 _) (lsE_suf _))) (lsE_most _ _ (lsE_mem h0 _) ((lsE_suf _).trans hle))
theorem lsE_in {u : List UInt8} {c : UInt8} (h : u ++ [c] ∈ wd) : lsE wd (u ++ [c]) = u ++ [c] := lsE_self h
theorem lsE_out0 {c : UInt8} (h : [] ++ [c] ∉ wd) : lsE wd ([] ++ [c]) = [] := by
  simp only [List.nil_append] at h ⊢
  unfold lsE; rw [if_neg h]; rfl
theorem lsE_out (h0 : [] ∈ wd) (hp : ∀ x ∈ wd, x.dropLast ∈ wd) {u : List UInt8} {c : UInt8} (h : u ++ [c] ∉ wd) (hu : u ≠ []) : lsE wd (u ++ [c]) = lsE wd (lsE wd u.tail ++ [c]) := by
  cases u with
  | nil => exact absurd rfl hu
  | cons a u =>
    rw [List.cons_append] at h ⊢
    show (if a :: (u ++ [c]) ∈ wd then a :: (u ++ [c]) else lsE wd (u ++ [c])) = _
    rw [if_neg h, lsE_snoc h0 hp]; rfl
end
/-- A node of the tree of words. -/
structure TNd where
  nx : List (UInt8 × Nat)
  fl : Nat
  en : Int
def leadN : List (UInt8 × Nat) → UInt8 → Nat
  | [], _ => 0
  | (b, j) :: r, c => if b = c then j else leadN r c
theorem leadN_none : ∀ {l : List (UInt8 × Nat)} {c : UInt8}, (∀ j, (c, j) ∉ l) → leadN l c = 0
  | [], _, _ => rfl
  | (b, j) :: r, c, h => by
    unfold leadN
    rw [if_neg (fun e => by subst e; exact h j List.mem_cons_self)]
    exact leadN_none fun j' hj => h j' (List.mem_cons_of_mem _ hj)
theorem leadN_mem : ∀ {l : List (UInt8 × Nat)} {c : UInt8} {j : Nat}, (c, j) ∈ l → (c, leadN l c) ∈ l
  | (b, i) :: r, c, j, h => by
    unfold leadN
    split
    · rename_i e; subst e; exact List.mem_cons_self
    · rename_i hne
      rcases List.mem_cons.1 h with h | h
      · injection h with h _; exact absurd h.symm hne
      · exact List.mem_cons_of_mem _ (leadN_mem h)
structure TrOk (wd : List (List UInt8)) (T : List TNd) : Prop where
  len : T.length = wd.length
  root : wd[0]? = some []
  nodup : wd.Nodup
  pc : ∀ x ∈ wd, x.dropLast ∈ wd
  edge : ∀ (i : Nat) (nd : TNd) (u : List UInt8), T[i]? = some nd → wd[i]? = some u → ∀ c j, (c, j) ∈ nd.nx ↔ wd[j]? = some (u ++ [c])
  nxnd : ∀ nd ∈ T, nd.nx.Nodup
section
variable {wd : List (List UInt8)} {T : List TNd} {ps : List (List UInt8)}
theorem wd_inj (h : wd.Nodup) {i j : Nat} {u : List UInt8} (hi : wd[i]? = some u) (hj : wd[j]? = some u) : i = j := by
  obtain ⟨h1, e1⟩ := List.getElem?_eq_some_iff.1 hi
  obtain ⟨h2, e2⟩ := List.getElem?_eq_some_iff.1 hj
  exact (List.getElem_inj h).1 (e1.trans e2.symm)
theorem TrOk.nil_mem (h : TrOk wd T) : [] ∈ wd := List.mem_of_getElem? h.root
theorem TrOk.zero (h : TrOk wd T) {i : Nat} (hi : wd[i]? = some []) : i = 0 := wd_inj h.nodup hi h.root
theorem TrOk.lead (h : TrOk wd T) {i : Nat} {nd : TNd} {u : List UInt8} (h1 : T[i]? = some nd) (h2 : wd[i]? = some u) (c : UInt8) :
    (leadN nd.nx c = 0 ∧ u ++ [c] ∉ wd) ∨ (0 < leadN nd.nx c ∧ wd[leadN nd.nx c]? = some (u ++ [c])) := by
  by_cases hm : u ++ [c] ∈ wd
  · obtain ⟨j, hj⟩ := List.getElem?_of_mem hm
    have hl := leadN_mem ((h.edge i nd u h1 h2 c j).2 hj)
    have hl2 := (h.edge i nd u h1 h2 c _).1 hl
    refine .inr ⟨?_, hl2⟩
    rcases Nat.eq_zero_or_pos (leadN nd.nx c) with h0 | h0
    · rw [h0, h.root] at hl2
      exfalso
      have := Option.some.inj hl2
      simp at this
    · exact h0
  · refine .inl ⟨leadN_none fun j hj => hm (List.mem_of_getElem? ((h.edge i nd u h1 h2 c j).1 hj)), hm⟩
theorem TrOk.start : TrOk [[]] [⟨[], 0, -1⟩] where
  len := rfl
  root := rfl
  nodup := by simp
  pc := by intro x hx; simp at hx; subst hx; simp
  edge := by
    intro i nd u h1 h2 c j
    have hi : i = 0 := by
      have := (List.getElem?_eq_some_iff.1 h2).1
      simp at this; exact this
    subst hi
    injection h1 with h1
    subst h1
    constructor
    · intro h; cases h
    · intro h
      have := List.mem_of_getElem? h
      simp at this
  nxnd := by
    intro nd h
    rw [List.mem_singleton] at h
    subst h
    exact List.nodup_nil
theorem TrOk.bound (h : TrOk wd T) {i : Nat} {nd : TNd} {u : List UInt8} (h1 : T[i]? = some nd) (h2 : wd[i]? = some u) {c : UInt8} {j : Nat} (hj : (c, j) ∈ nd.nx) : 0 < j ∧ j < T.length := by
  have hw := (h.edge i nd u h1 h2 c j).1 hj
  refine ⟨?_, by rw [h.len]; exact (List.getElem?_eq_some_iff.1 hw).1⟩
  rcases Nat.eq_zero_or_pos j with rfl | h0
  · rw [h.root] at hw
    have := Option.some.inj hw
    simp at this
  · exact h0
/-- A word more. -/
theorem TrOk.grow (h : TrOk wd T) {i : Nat} {nd : TNd} {u : List UInt8} (h1 : T[i]? = some nd) (h2 : wd[i]? = some u) {c : UInt8} (hn : u ++ [c] ∉ wd) :
    TrOk (wd ++ [u ++ [c]]) (T.set i ⟨nd.nx ++ [(c, T.length)], nd.fl, nd.en⟩ ++ [⟨[], 0, -1⟩]) where
  len := by simp [h.len]
  root := by rw [List.getElem?_append_left (List.getElem?_eq_some_iff.1 h.root).1]; exact h.root
  nodup := by
    rw [List.nodup_append]
    refine ⟨h.nodup, by simp, ?_⟩
    intro a ha b hb
    rw [List.mem_singleton] at hb
    subst hb
    intro e; subst e; exact hn ha
  pc := by
    intro x hx
    rcases List.mem_append.1 hx with hx | hx
    · exact List.mem_append_left _ (h.pc x hx)
    · rw [List.mem_singleton] at hx
      subst hx
      rw [List.dropLast_concat]
      exact List.mem_append_left _ (List.mem_of_getElem? h2)
  edge := by
    have hil : i < T.length := (List.getElem?_eq_some_iff.1 h1).1
    have hnw : ∀ (v : List UInt8) (j : Nat), (wd ++ [u ++ [c]])[j]? = some v ↔ (wd[j]? = some v ∨ (j = wd.length ∧ v = u ++ [c])) := by
      intro v j
      rcases Nat.lt_trichotomy j wd.length with hj | hj | hj
      · rw [List.getElem?_append_left hj]
        constructor
        · exact .inl
        · rintro (h | ⟨h, _⟩)
          · exact h
          · omega
      · subst hj
        rw [List.getElem?_append_right (Nat.le_refl _), Nat.sub_self, List.getElem?_eq_none (Nat.le_refl _)]
        simp [eq_comm]
      · rw [List.getElem?_append_right (by omega), List.getElem?_eq_none (by simp; omega), List.getElem?_eq_none (by omega)]
        simp; omega
    intro k nk v hk1 hk2 d j
    rw [hnw]
    rcases (hnw v k).1 hk2 with hv | ⟨hk, hv⟩
    · have hkl : k < T.length := by rw [h.len]; exact (List.getElem?_eq_some_iff.1 hv).1
      rw [List.getElem?_append_left (by rw [List.length_set]; exact hkl)] at hk1
      by_cases hki : k = i
      · subst hki
        rw [List.getElem?_set_self hkl] at hk1
        injection hk1 with hk1
        subst hk1
        obtain rfl : v = u := Option.some.inj (hv.symm.trans h2)
        show (d, j) ∈ nd.nx ++ [(c, T.length)] ↔ _
        rw [List.mem_append, h.edge k nd v h1 h2, List.mem_singleton, h.len]
        constructor
        · rintro (h | h)
          · exact .inl h
          · injection h with h h'
            subst h h'
            exact .inr ⟨rfl, rfl⟩
        · rintro (h | ⟨h, h'⟩)
          · exact .inl h
          · have := List.append_cancel_left h'
            injection this with this
            subst h this
            exact .inr rfl
      · rw [List.getElem?_set_ne (Ne.symm hki)] at hk1
        rw [h.edge k nk v hk1 hv]
        constructor
        · exact .inl
        · rintro (h' | ⟨_, h'⟩)
          · exact h'
          · have := (List.append_inj' h' rfl).1
            subst this
            exact absurd (wd_inj h.nodup hv h2) hki
    · subst hv
      rw [hk, List.getElem?_append_right (by rw [List.length_set, h.len]; exact Nat.le_refl _), List.length_set, h.len, Nat.sub_self] at hk1
      injection hk1 with hk1
      subst hk1
      constructor
      · intro h; cases h
      · rintro (h' | ⟨_, h'⟩)
        · exfalso
          have h3 := h.pc _ (List.mem_of_getElem? h')
          rw [List.dropLast_concat] at h3
          exact hn h3
        · have := congrArg List.length h'
          simp at this
  nxnd := by
    intro nk hk
    rcases List.mem_append.1 hk with hk | hk
    · rcases List.mem_or_eq_of_mem_set hk with hk | rfl
      · exact h.nxnd nk hk
      · show (nd.nx ++ [(c, T.length)]).Nodup
        rw [List.nodup_append]
        refine ⟨h.nxnd nd (List.mem_of_getElem? h1), by simp, ?_⟩
        intro x hx y hy e
        rw [List.mem_singleton] at hy
        subst hy e
        have := (h.bound h1 h2 hx).2
        omega
    · rw [List.mem_singleton] at hk
      subst hk
      exact List.nodup_nil
/-- Another fall-back, another end. -/
theorem TrOk.turn (h : TrOk wd T) {i : Nat} {nd : TNd} (h1 : T[i]? = some nd) (f : Nat) (e : Int) : TrOk wd (T.set i ⟨nd.nx, f, e⟩) where
  len := by rw [List.length_set]; exact h.len
  root := h.root
  nodup := h.nodup
  pc := h.pc
  edge := by
    intro k nk v hk1 hk2 c j
    by_cases hki : k = i
    · subst hki
      rw [List.getElem?_set_self (List.getElem?_eq_some_iff.1 h1).1] at hk1
      injection hk1 with hk1
      subst hk1
      exact h.edge k nd v h1 hk2 c j
    · rw [List.getElem?_set_ne (Ne.symm hki)] at hk1
      exact h.edge k nk v hk1 hk2 c j
  nxnd := by
    intro nk hk
    rcases List.mem_or_eq_of_mem_set hk with hk | rfl
    · exact h.nxnd nk hk
    · exact h.nxnd nd (List.mem_of_getElem? h1)
/-- Which words end where: of the first k. -/
def EnOk (ps : List (List UInt8)) (k : Nat) (wd : List (List UInt8)) (T : List TNd) : Prop :=
  ∀ (i : Nat) (nd : TNd) (u : List UInt8), T[i]? = some nd → wd[i]? = some u → (∀ q, q < k → ps[q]? = some u → nd.en = (q : Int)) ∧ ((∀ q, q < k → ps[q]? ≠ some u) → nd.en = -1)
theorem EnOk.start {ps : List (List UInt8)} : EnOk ps 0 [[]] [⟨[], 0, -1⟩] := by
  intro i nd u h1 h2
  have hi : i = 0 := by
    have := (List.getElem?_eq_some_iff.1 h2).1
    simp at this; exact this
  subst hi
  injection h1 with h1
  subst h1
  exact ⟨fun q hq => absurd hq (by omega), fun _ => rfl⟩
theorem EnOk.grow {k : Nat} (he : EnOk ps k wd T) (h : TrOk wd T) {i : Nat} {nd : TNd} {u : List UInt8} (h1 : T[i]? = some nd) {c : UInt8} (hn : u ++ [c] ∉ wd) (hps : ∀ q p, q < k → ps[q]? = some p → p ∈ wd) :
    EnOk ps k (wd ++ [u ++ [c]]) (T.set i ⟨nd.nx ++ [(c, T.length)], nd.fl, nd.en⟩ ++ [⟨[], 0, -1⟩]) := by
  intro j nj v hj1 hj2
  rcases Nat.lt_or_ge j T.length with hj | hj
  · rw [List.getElem?_append_left (by rw [← h.len]; exact hj)] at hj2
    rw [List.getElem?_append_left (by rw [List.length_set]; exact hj)] at hj1
    by_cases hji : j = i
    · subst hji
      rw [List.getElem?_set_self hj] at hj1
      injection hj1 with hj1
      subst hj1
      exact he j nd v h1 hj2
    · rw [List.getElem?_set_ne (Ne.symm hji)] at hj1
      exact he j nj v hj1 hj2
  · have hjl : j = T.length := by
      have := (List.getElem?_eq_some_iff.1 hj1).1
      rw [List.length_append, List.length_set, List.length_singleton] at this
      omega
    subst hjl
    rw [List.getElem?_append_right (by rw [List.length_set]; exact Nat.le_refl _), List.length_set, Nat.sub_self] at hj1
    rw [h.len, List.getElem?_append_right (Nat.le_refl _), Nat.sub_self] at hj2
    injection hj1 with hj1
    injection hj2 with hj2
    subst hj1 hj2
    exact ⟨fun q hq hp => absurd (hps q _ hq hp) hn, fun _ => rfl⟩
theorem EnOk.mark {k : Nat} (he : EnOk ps k wd T) (h : TrOk wd T) {i : Nat} {nd : TNd} {p : List UInt8} (h1 : T[i]? = some nd) (h2 : wd[i]? = some p) (hp : ps[k]? = some p) (hnd : ps.Nodup) :
    EnOk ps (k + 1) wd (T.set i ⟨nd.nx, nd.fl, (k : Int)⟩) := by
  intro j nj v hj1 hj2
  by_cases hji : j = i
  · subst hji
    rw [List.getElem?_set_self (List.getElem?_eq_some_iff.1 h1).1] at hj1
    injection hj1 with hj1
    subst hj1
    obtain rfl : p = v := Option.some.inj (h2.symm.trans hj2)
    refine ⟨fun q hq hpq => ?_, fun hno => absurd hp (hno k (by omega))⟩
    rw [wd_inj hnd hpq hp]
  · rw [List.getElem?_set_ne (Ne.symm hji)] at hj1
    obtain ⟨e1, e2⟩ := he j nj v hj1 hj2
    have hne : ps[k]? ≠ some v := by
      rw [hp]
      intro e
      injection e with e
      subst e
      exact hji (wd_inj h.nodup hj2 h2)
    refine ⟨fun q hq hpq => ?_, fun hno => e2 fun q hq => hno q (by omega)⟩
    rcases Nat.lt_or_ge q k with hqk | hqk
    · exact e1 q hqk hpq
    · obtain rfl : q = k := by omega
      exact absurd hpq hne
theorem EnOk.turn {k : Nat} (he : EnOk ps k wd T) {i : Nat} {nd : TNd} (h1 : T[i]? = some nd) (f : Nat) : EnOk ps k wd (T.set i ⟨nd.nx, f, nd.en⟩) := by
  intro j nj v hj1 hj2
  by_cases hji : j = i
  · subst hji
    rw [List.getElem?_set_self (List.getElem?_eq_some_iff.1 h1).1] at hj1
    injection hj1 with hj1
    subst hj1
    exact he j nd v h1 hj2
  · rw [List.getElem?_set_ne (Ne.symm hji)] at hj1
    exact he j nj v hj1 hj2
/-- The fall-back of a node is the longest proper end of its word that is a node. -/
def FlOk (wd : List (List UInt8)) (T : List TNd) (i : Nat) : Prop := ∀ (nd : TNd) (u : List UInt8), T[i]? = some nd → wd[i]? = some u → u ≠ [] → wd[nd.fl]? = some (lsE wd u.tail)
/-- A place on the way of a step: what is looked for is the same. -/
theorem FlOk.len {i : Nat} (hf : FlOk wd T i) {nd : TNd} {u : List UInt8} (h1 : T[i]? = some nd) (h2 : wd[i]? = some u) (hu : u ≠ []) : ∃ v, wd[nd.fl]? = some v ∧ v.length < u.length := by
  refine ⟨_, hf nd u h1 h2 hu, ?_⟩
  have := (lsE_suf (wd := wd) u.tail).length_le
  have hl : 0 < u.length := List.length_pos_iff.2 hu
  rw [List.length_tail] at this
  omega
end
end Go.Proofs.Ytmmamdjbbpeifaa
