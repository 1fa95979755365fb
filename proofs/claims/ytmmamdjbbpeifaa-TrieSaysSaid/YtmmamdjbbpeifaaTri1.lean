/- The automaton of AHO and CORASICK: level by level; what it finds (plain). -/
import Derived.Test.YtmmamdjbbpeifaaTri0
namespace Go.Proofs.Ytmmamdjbbpeifaa
section
variable {wd : List (List UInt8)} {T : List TNd} {E : List Nat} {h q : Nat} {nx : List (UInt8 × Nat)}
/-- A row of nodes, level by level: h of them are gone through, of the next the first q edges. -/
structure BfOk (wd : List (List UInt8)) (T : List TNd) (E : List Nat) (h : Nat) (nx : List (UInt8 × Nat)) (q : Nat) : Prop where
  nodup : E.Nodup
  hd : E[0]? = some 0
  lt : ∀ i ∈ E, i < wd.length
  fl : ∀ i ∈ E, FlOk wd T i
  fresh : ∀ (i : Nat) (nd : TNd), T[i]? = some nd → i ∉ E → nd.fl = 0
  lvl : E.Pairwise fun i j => (wd.getD i []).length ≤ (wd.getD j []).length
  kids : ∀ i ∈ E.take h, ∀ c j u, wd[i]? = some u → wd[j]? = some (u ++ [c]) → j ∈ E
  par : ∀ j ∈ E, ∀ u c, wd[j]? = some (u ++ [c]) → (∃ i ∈ E.take h, wd[i]? = some u) ∨ (c, j) ∈ nx.take q
  kidq : ∀ x ∈ nx.take q, x.2 ∈ E
theorem getD_some {i : Nat} {u : List UInt8} (h : wd[i]? = some u) : wd.getD i [] = u := by rw [List.getD_eq_getElem?_getD, h]; rfl
theorem BfOk.start (ht : TrOk wd T) (h0 : ∀ nd ∈ T, (nd : TNd).fl = 0) : BfOk wd T [0] 0 [] 0 where
  nodup := by simp
  hd := rfl
  lt := by
    intro i hi
    rw [List.mem_singleton] at hi; subst hi
    exact (List.getElem?_eq_some_iff.1 ht.root).1
  fl := by
    intro i hi
    rw [List.mem_singleton] at hi; subst hi
    intro nd u _ h2 hu
    rw [ht.root] at h2
    exact absurd (Option.some.inj h2).symm hu
  fresh := fun i nd h _ => h0 nd (List.mem_of_getElem? h)
  lvl := by simp
  kids := by intro i hi; simp at hi
  par := by
    intro j hj u c h
    rw [List.mem_singleton] at hj; subst hj
    rw [ht.root] at h
    have := Option.some.inj h
    simp at this
  kidq := by intro x hx; simp at hx
theorem BfOk.enter (hb : BfOk wd T E h [] 0) (nx : List (UInt8 × Nat)) : BfOk wd T E h nx 0 where
  nodup := hb.nodup
  hd := hb.hd
  lt := hb.lt
  fl := hb.fl
  fresh := hb.fresh
  lvl := hb.lvl
  kids := hb.kids
  par := by
    intro j hj u c h
    rcases hb.par j hj u c h with h | h
    · exact .inl h
    · simp at h
  kidq := by intro x hx; simp at hx
theorem mem_take_lt {l : List Nat} (hn : l.Nodup) {k i x : Nat} (hx : x ∈ l.take k) (hi : l[i]? = some x) : i < k := by
  obtain ⟨m, hm⟩ := List.getElem?_of_mem hx
  have hmk : m < k := by
    have := (List.getElem?_eq_some_iff.1 hm).1
    rw [List.length_take] at this; omega
  rw [List.getElem?_take_of_lt hmk] at hm
  obtain ⟨h1, e1⟩ := List.getElem?_eq_some_iff.1 hm
  obtain ⟨h2, e2⟩ := List.getElem?_eq_some_iff.1 hi
  have := (List.getElem_inj hn).1 (e1.trans e2.symm)
  omega
/-- The next edge leads to a node that is new in the row. -/
theorem BfOk.new (hb : BfOk wd T E h nx q) (ht : TrOk wd T) {a : Nat} {nd : TNd} {u : List UInt8} (ha : E[h]? = some a) (h1 : T[a]? = some nd) (h2 : wd[a]? = some u) (hnx : nx = nd.nx) (hnn : nd.nx.Nodup) {c : UInt8} {j : Nat} (hj : nx[q]? = some (c, j)) : j ∉ E := by
  subst hnx
  intro hm
  have hw := (ht.edge a nd u h1 h2 c j).1 (List.mem_of_getElem? hj)
  rcases hb.par j hm u c hw with ⟨i, hi, hiu⟩ | hx
  · obtain rfl := wd_inj ht.nodup hiu h2
    have := mem_take_lt hb.nodup hi ha
    omega
  · obtain ⟨m, hm'⟩ := List.getElem?_of_mem hx
    have hmk : m < q := by
      have := (List.getElem?_eq_some_iff.1 hm').1
      rw [List.length_take] at this; omega
    rw [List.getElem?_take_of_lt hmk] at hm'
    obtain ⟨g1, e1⟩ := List.getElem?_eq_some_iff.1 hm'
    obtain ⟨g2, e2⟩ := List.getElem?_eq_some_iff.1 hj
    have := (List.getElem_inj hnn).1 (e1.trans e2.symm)
    omega
theorem BfOk.lvls (hb : BfOk wd T E h nx q) (ht : TrOk wd T) {a : Nat} {nd : TNd} {u : List UInt8} (ha : E[h]? = some a) (h1 : T[a]? = some nd) (h2 : wd[a]? = some u) (hnx : nx = nd.nx) {i : Nat} (hi : i ∈ E) : (wd.getD i []).length ≤ u.length + 1 := by
  have hil := hb.lt i hi
  obtain ⟨v, hv⟩ : ∃ v, wd[i]? = some v := ⟨_, List.getElem?_eq_getElem hil⟩
  rw [getD_some hv]
  rcases List.eq_nil_or_concat v with rfl | ⟨u', c', rfl⟩
  · simp
  · rw [List.concat_eq_append] at hv ⊢
    rcases hb.par i hi u' c' hv with ⟨p, hp, hpu⟩ | hx
    · obtain ⟨m, hm⟩ := List.getElem?_of_mem hp
      have hmk : m < h := by
        have := (List.getElem?_eq_some_iff.1 hm).1
        rw [List.length_take] at this; omega
      rw [List.getElem?_take_of_lt hmk] at hm
      obtain ⟨g1, e1⟩ := List.getElem?_eq_some_iff.1 hm
      obtain ⟨g2, e2⟩ := List.getElem?_eq_some_iff.1 ha
      have := List.pairwise_iff_getElem.1 hb.lvl m h g1 g2 hmk
      rw [e1, e2, getD_some hpu, getD_some h2] at this
      rw [List.length_append]
      simpa using this
    · subst hnx
      have hw := (ht.edge a nd u h1 h2 c' i).1 (List.mem_of_mem_take hx)
      rw [hv] at hw
      rw [Option.some.inj hw]
      simp
/-- An edge more. -/
theorem BfOk.step (hb : BfOk wd T E h nx q) (ht : TrOk wd T) {a : Nat} {nd : TNd} {u : List UInt8} (ha : E[h]? = some a) (h1 : T[a]? = some nd) (h2 : wd[a]? = some u) (hnx : nx = nd.nx) (hnn : nd.nx.Nodup) {c : UInt8} {j : Nat} (hj : nx[q]? = some (c, j))
    {nj : TNd} (hnj : T[j]? = some nj) {f : Nat} (hf : wd[f]? = some (lsE wd (u ++ [c]).tail)) : BfOk wd (T.set j ⟨nj.nx, f, nj.en⟩) (E ++ [j]) h nx (q + 1) := by
  have hne := hb.new ht ha h1 h2 hnx hnn hj
  have hw : wd[j]? = some (u ++ [c]) := by subst hnx; exact (ht.edge a nd u h1 h2 c j).1 (List.mem_of_getElem? hj)
  have hhl : h < E.length := (List.getElem?_eq_some_iff.1 ha).1
  have htk : nx.take (q + 1) = nx.take q ++ [(c, j)] := by
    rw [List.take_add_one, hj]; rfl
  have hEt : (E ++ [j]).take h = E.take h := List.take_append_of_le_length (by omega)
  constructor
  · rw [List.nodup_append]
    refine ⟨hb.nodup, by simp, ?_⟩
    intro x hx y hy e
    rw [List.mem_singleton] at hy
    subst hy e
    exact hne hx
  · rw [List.getElem?_append_left (by omega)]; exact hb.hd
  · intro i hi
    rcases List.mem_append.1 hi with hi | hi
    · exact hb.lt i hi
    · rw [List.mem_singleton] at hi; subst hi
      exact (List.getElem?_eq_some_iff.1 hw).1
  · intro i hi
    rcases List.mem_append.1 hi with hi | hi
    · have hij : j ≠ i := fun e => hne (e ▸ hi)
      intro ni v g1 g2 hv
      rw [List.getElem?_set_ne hij] at g1
      exact hb.fl i hi ni v g1 g2 hv
    · rw [List.mem_singleton] at hi; subst hi
      intro ni v g1 g2 hv
      rw [List.getElem?_set_self (List.getElem?_eq_some_iff.1 hnj).1] at g1
      injection g1 with g1
      subst g1
      rw [hw] at g2
      injection g2 with g2
      subst g2
      exact hf
  · intro i ni g1 g2
    have hij : j ≠ i := fun e => g2 (by rw [← e]; exact List.mem_append_right _ List.mem_cons_self)
    rw [List.getElem?_set_ne hij] at g1
    exact hb.fresh i ni g1 fun hi => g2 (List.mem_append_left _ hi)
  · rw [List.pairwise_append]
    refine ⟨hb.lvl, by simp, ?_⟩
    intro x hx y hy
    rw [List.mem_singleton] at hy; subst hy
    have := hb.lvls ht ha h1 h2 hnx hx
    rw [getD_some hw, List.length_append]
    exact this
  · intro i hi d k v g1 g2
    rw [hEt] at hi
    exact List.mem_append_left _ (hb.kids i hi d k v g1 g2)
  · intro k hk v d g
    rw [hEt, htk]
    rcases List.mem_append.1 hk with hk | hk
    · rcases hb.par k hk v d g with h | h
      · exact .inl h
      · exact .inr (List.mem_append_left _ h)
    · rw [List.mem_singleton] at hk; subst hk
      rw [hw] at g
      obtain ⟨e1, e2⟩ := List.append_inj' (Option.some.inj g) rfl
      injection e2 with e2
      subst e2
      exact .inr (List.mem_append_right _ List.mem_cons_self)
  · intro x hx
    rw [htk] at hx
    rcases List.mem_append.1 hx with hx | hx
    · exact List.mem_append_left _ (hb.kidq x hx)
    · rw [List.mem_singleton] at hx; subst hx
      exact List.mem_append_right _ List.mem_cons_self
/-- Its edges are gone through. -/
theorem BfOk.leave (hb : BfOk wd T E h nx q) (ht : TrOk wd T) {a : Nat} {nd : TNd} {u : List UInt8} (ha : E[h]? = some a) (h1 : T[a]? = some nd) (h2 : wd[a]? = some u) (hnx : nx = nd.nx) (hq : nx.length ≤ q) : BfOk wd T E (h + 1) [] 0 where
  nodup := hb.nodup
  hd := hb.hd
  lt := hb.lt
  fl := hb.fl
  fresh := hb.fresh
  lvl := hb.lvl
  kids := by
    intro i hi c j v g1 g2
    rw [List.take_add_one, ha] at hi
    rcases List.mem_append.1 hi with hi | hi
    · exact hb.kids i hi c j v g1 g2
    · obtain rfl : i = a := by simpa using hi
      rw [h2] at g1
      injection g1 with g1
      subst g1
      have hm := (ht.edge i nd u h1 h2 c j).2 g2
      rw [← hnx] at hm
      exact hb.kidq (c, j) (by rw [List.take_of_length_le hq]; exact hm)
  par := by
    intro j hj v c g
    left
    rw [List.take_add_one, ha]
    rcases hb.par j hj v c g with ⟨i, hi, hv⟩ | hx
    · exact ⟨i, List.mem_append_left _ hi, hv⟩
    · refine ⟨a, List.mem_append_right _ (by simp), ?_⟩
      have hm := List.mem_of_mem_take hx
      rw [hnx] at hm
      have hw := (ht.edge a nd u h1 h2 c j).1 hm
      rw [g] at hw
      obtain ⟨e1, _⟩ := List.append_inj' (Option.some.inj hw) rfl
      rw [e1]; exact h2
  kidq := by intro x hx; simp at hx
/-- What lies no deeper than the next node is in the row. -/
theorem BfOk.all (hb : BfOk wd T E h nx q) (ht : TrOk wd T) {m : Nat} (hm : ∀ i ∈ E.drop h, m ≤ (wd.getD i []).length) : ∀ (n i : Nat) (v : List UInt8), v.length ≤ n → wd[i]? = some v → v.length ≤ m → i ∈ E := by
  intro n
  induction n with
  | zero =>
    intro i v hn hv _
    obtain rfl : v = [] := List.eq_nil_of_length_eq_zero (by omega)
    rw [ht.zero hv]
    exact List.mem_of_getElem? hb.hd
  | succ n ih =>
    intro i v hn hv hm'
    rcases List.eq_nil_or_concat v with rfl | ⟨u', c', rfl⟩
    · rw [ht.zero hv]
      exact List.mem_of_getElem? hb.hd
    · rw [List.concat_eq_append] at hv hn hm'
      rw [List.length_append] at hn hm'
      simp only [List.length_singleton] at hn hm'
      have hp := ht.pc _ (List.mem_of_getElem? hv)
      rw [List.dropLast_concat] at hp
      obtain ⟨p, hp⟩ := List.getElem?_of_mem hp
      have hpE := ih p u' (by omega) hp (by omega)
      rw [← List.take_append_drop h E] at hpE
      rcases List.mem_append.1 hpE with hpt | hpd
      · exact hb.kids p hpt c' i u' hp hv
      · have := hm p hpd
        rw [getD_some hp] at this
        omega
theorem BfOk.low (hb : BfOk wd T E h nx q) (ht : TrOk wd T) {a : Nat} {u : List UInt8} (ha : E[h]? = some a) (h2 : wd[a]? = some u) {i : Nat} {v : List UInt8} (hv : wd[i]? = some v) (hl : v.length ≤ u.length) : FlOk wd T i := by
  refine hb.fl i (hb.all ht (m := u.length) (fun k hk => ?_) v.length i v (Nat.le_refl _) hv hl)
  obtain ⟨g2, e2⟩ := List.getElem?_eq_some_iff.1 ha
  obtain ⟨d, hd⟩ := List.getElem?_of_mem hk
  rw [List.getElem?_drop] at hd
  obtain ⟨g3, e3⟩ := List.getElem?_eq_some_iff.1 hd
  rcases Nat.eq_zero_or_pos d with rfl | hd0
  · simp only [Nat.add_zero] at e3
    rw [← e3, e2, getD_some h2]; exact Nat.le_refl _
  · have := List.pairwise_iff_getElem.1 hb.lvl h (h + d) g2 g3 (by omega)
    rw [e2, e3, getD_some h2] at this
    exact this
theorem BfOk.done (hb : BfOk wd T E h nx q) (ht : TrOk wd T) (he : E.length ≤ h) (i : Nat) : FlOk wd T i := by
  intro nd v h1 h2 hv
  refine hb.fl i (hb.all ht (m := v.length) (fun k hk => ?_) v.length i v (Nat.le_refl _) h2 (Nat.le_refl _)) nd v h1 h2 hv
  rw [List.drop_of_length_le he] at hk
  cases hk
theorem nodup_lt_len {n : Nat} {l : List Nat} (hn : l.Nodup) (hl : ∀ i ∈ l, i < n) : l.length ≤ n := by
  have hf : ((List.range n).filter fun i => decide (i ∈ l)).length = l.length :=
    ((List.perm_ext_iff_of_nodup (List.nodup_range.filter _) hn).2 fun x => by
      rw [List.mem_filter, List.mem_range, decide_eq_true_iff]
      exact ⟨fun h => h.2, fun h => ⟨hl x h, h⟩⟩).length_eq
  have := List.length_filter_le (fun i => decide (i ∈ l)) (List.range n)
  rw [hf, List.length_range] at this
  exact this
theorem BfOk.count (hb : BfOk wd T E h nx q) : E.length ≤ wd.length := nodup_lt_len hb.nodup hb.lt
end
/-- Which word this is. -/
def entE (ps : List (List UInt8)) (e : Nat) (u : List UInt8) : List (Nat × Nat) := if u ∈ ps then [(e - u.length, ps.idxOf u)] else []
/-- All ends of a word that are words, up to place e. -/
def shE (ps : List (List UInt8)) (e : Nat) : List UInt8 → List (Nat × Nat)
  | [] => []
  | a :: x => entE ps e (a :: x) ++ shE ps e x
section
variable {ps wd : List (List UInt8)}
theorem shE_chain (hp : ∀ p ∈ ps, p ∈ wd) (e : Nat) : ∀ x, shE ps e x = shE ps e (lsE wd x)
  | [] => rfl
  | a :: x => by
    unfold lsE
    split
    · rfl
    · rename_i hn
      have h1 : entE ps e (a :: x) = [] := by unfold entE; rw [if_neg fun h => hn (hp _ h)]
      rw [shE, h1, List.nil_append]
      exact shE_chain hp e x
theorem shE_node (hp : ∀ p ∈ ps, p ∈ wd) (e : Nat) {u : List UInt8} (hu : u ≠ []) : shE ps e u = entE ps e u ++ shE ps e (lsE wd u.tail) := by
  cases u with
  | nil => exact absurd rfl hu
  | cons a u => rw [← shE_chain hp e]; rfl
theorem entE_len (e : Nat) (u : List UInt8) : (entE ps e u).length ≤ 1 := by unfold entE; split <;> simp
theorem shE_len (e : Nat) : ∀ x : List UInt8, (shE ps e x).length ≤ x.length
  | [] => by simp [shE]
  | a :: x => by
    rw [shE, List.length_append, List.length_cons]
    have := entE_len (ps := ps) e (a :: x)
    have := shE_len e x
    omega
/-- What is found up to place n. -/
def foundE (ps : List (List UInt8)) (s : List UInt8) (n : Nat) : List (Nat × Nat) := (List.range n).flatMap fun e => shE ps (e + 1) (s.take (e + 1))
theorem foundE_snoc (s : List UInt8) (n : Nat) : foundE ps s (n + 1) = foundE ps s n ++ shE ps (n + 1) (s.take (n + 1)) := by
  unfold foundE; rw [List.range_succ, List.flatMap_append]; simp
theorem foundE_len (s : List UInt8) : ∀ n, (foundE ps s n).length ≤ n * s.length
  | 0 => by simp [foundE]
  | n + 1 => by
    rw [foundE_snoc, List.length_append, Nat.succ_mul]
    have h1 := foundE_len s n
    have h2 := shE_len (ps := ps) (n + 1) (s.take (n + 1))
    rw [List.length_take] at h2
    omega
theorem shE_mem (e : Nat) : ∀ (x : List UInt8) (y : Nat × Nat), y ∈ shE ps e x ↔ ∃ z, z ≠ [] ∧ z <:+ x ∧ z ∈ ps ∧ y = (e - z.length, ps.idxOf z)
  | [], y => by
    constructor
    · intro h; cases h
    · rintro ⟨z, h1, h2, _⟩
      exact absurd (List.suffix_nil.1 h2) h1
  | a :: x, y => by
    rw [shE, List.mem_append, shE_mem e x y]
    constructor
    · rintro (h | ⟨z, h1, h2, h3, h4⟩)
      · unfold entE at h
        split at h
        · rename_i hm
          rw [List.mem_singleton] at h
          exact ⟨a :: x, by simp, List.suffix_refl _, hm, h⟩
        · cases h
      · exact ⟨z, h1, h2.trans (List.suffix_cons _ _), h3, h4⟩
    · rintro ⟨z, h1, h2, h3, h4⟩
      rcases List.suffix_cons_iff.1 h2 with rfl | h2
      · left; unfold entE; rw [if_pos h3, h4]; exact List.mem_singleton.2 rfl
      · exact .inr ⟨z, h1, h2, h3, h4⟩
end
end Go.Proofs.Ytmmamdjbbpeifaa
