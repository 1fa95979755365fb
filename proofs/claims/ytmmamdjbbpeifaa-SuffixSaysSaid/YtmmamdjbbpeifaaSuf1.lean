/- How many unlike parts a word has, and the longest that stands in it twice (plain). -/
import Derived.Test.YtmmamdjbbpeifaaSuf0
import Derived.Test.YtmmamdjbbpeifaaMirr2
namespace Go.Proofs.Ytmmamdjbbpeifaa
def sumN (g : Nat → Nat) (c : Nat) : Nat := ((List.range c).map g).sum
theorem sumN_zero (g : Nat → Nat) : sumN g 0 = 0 := rfl
theorem sumN_succ (g : Nat → Nat) (c : Nat) : sumN g (c + 1) = sumN g c + g c := by simp [sumN, List.range_succ]
theorem sumN_le {g h : Nat → Nat} : ∀ c, (∀ k, k < c → g k ≤ h k) → sumN g c ≤ sumN h c := by
  intro c
  induction c with
  | zero => intro _; exact Nat.le_refl _
  | succ c ih =>
    intro hh
    rw [sumN_succ, sumN_succ]
    have := ih fun k hk => hh k (by omega)
    have := hh c (by omega)
    omega
theorem sum_down (n : Nat) : ∀ c, c ≤ n → 2 * sumN (fun i => n - i) c + (n - c) * (n - c + 1) = n * (n + 1) := by
  intro c
  induction c with
  | zero => intro _; simp [sumN_zero]
  | succ c ih =>
    intro hc
    have h1 := ih (by omega)
    rw [sumN_succ]
    obtain ⟨d, hd⟩ : ∃ d, n - c = d + 1 := ⟨n - c - 1, by omega⟩
    rw [hd] at h1
    rw [show n - (c + 1) = d by omega]
    show 2 * (sumN (fun i => n - i) c + (n - c)) + d * (d + 1) = _
    rw [hd, ← h1]
    simp only [Nat.add_mul, Nat.mul_add]
    omega
theorem sum_perm (s : List UInt8) : sumN (fun k => s.length - oS s k) s.length = sumN (fun i => s.length - i) s.length := by
  unfold sumN
  have e : (List.range s.length).map (fun k => s.length - oS s k) = (ordS s).map fun i => s.length - i := by
    apply List.ext_getElem
    · simp [ordS_len]
    · intro j h1 h2
      simp only [List.getElem_map, List.getElem_range]
      rw [List.length_map, List.length_range] at h1
      unfold oS
      rw [(ordS_srt s).get h1]
  rw [e]
  exact ((ordS_srt s).perm.map _).sum_nat
/-- The parts that the k-th end brings. -/
def newR (s : List UInt8) (k : Nat) : List (List UInt8) := (List.range ((sufA s k).length - lcpA s k)).map fun j => (sufA s k).take (lcpA s k + 1 + j)
def newTo (s : List UInt8) : Nat → List (List UInt8)
  | 0 => []
  | k + 1 => newTo s k ++ newR s k
theorem newTo_len (s : List UInt8) : ∀ k, (newTo s k).length + sumN (lcpA s) k = sumN (fun k => s.length - oS s k) k := by
  intro k
  induction k with
  | zero => rfl
  | succ k ih =>
    rw [newTo, List.length_append, sumN_succ, sumN_succ, ← ih]
    have h1 : (newR s k).length = (sufA s k).length - lcpA s k := by simp [newR]
    have h2 := lcpA_le s k
    have h3 := sufA_len (s := s) (k := k)
    rw [h1]; omega
theorem newR_mem {s : List UInt8} {k : Nat} {x : List UInt8} : x ∈ newR s k ↔ ∃ m, lcpA s k < m ∧ m ≤ (sufA s k).length ∧ x = (sufA s k).take m := by
  unfold newR
  rw [List.mem_map]
  constructor
  · rintro ⟨j, hj, rfl⟩
    rw [List.mem_range] at hj
    exact ⟨_, by omega, by omega, rfl⟩
  · rintro ⟨m, h1, h2, rfl⟩
    exact ⟨m - (lcpA s k + 1), List.mem_range.2 (by omega), by rw [show lcpA s k + 1 + (m - (lcpA s k + 1)) = m by omega]⟩
theorem newTo_mem {s : List UInt8} {x : List UInt8} : ∀ {K}, x ∈ newTo s K ↔ ∃ k, k < K ∧ x ∈ newR s k := by
  intro K
  induction K with
  | zero => simp [newTo]
  | succ K ih =>
    rw [newTo, List.mem_append, ih]
    constructor
    · rintro (⟨k, hk, h⟩ | h)
      · exact ⟨k, by omega, h⟩
      · exact ⟨K, by omega, h⟩
    · rintro ⟨k, hk, h⟩
      rcases Nat.lt_or_ge k K with h1 | h1
      · exact .inl ⟨k, h1, h⟩
      · obtain rfl : k = K := by omega
        exact .inr h
theorem lcpA_ge {s : List UInt8} {l k m : Nat} (hlk : l < k) (hk : k < s.length) (h1 : m ≤ (sufA s l).length) (h2 : m ≤ (sufA s k).length) (h : (sufA s l).take m = (sufA s k).take m) : m ≤ lcpA s k := by
  obtain ⟨e1, e2⟩ := mid_lcp m _ _ _ (sufA_le (s := s) (i := l) (j := k - 1) (by omega) (by omega)) (sufA_le (s := s) (i := k - 1) (j := k) (by omega) hk) h1 h2 h
  rw [lcpA_pos (by omega)]
  exact lcpL_ge m _ _ e1 h2 e2
theorem newTo_nodup (s : List UInt8) : ∀ K, K ≤ s.length → (newTo s K).Nodup := by
  intro K
  induction K with
  | zero => intro _; exact List.nodup_nil
  | succ K ih =>
    intro hK
    rw [newTo, List.nodup_append]
    refine ⟨ih (by omega), ?_, ?_⟩
    · unfold newR
      rw [List.nodup_iff_pairwise_ne, List.pairwise_map]
      refine List.Pairwise.imp_of_mem (R := fun a b => a ≠ b) (fun {a b} ha hb hab e => ?_) (List.nodup_iff_pairwise_ne.1 List.nodup_range)
      rw [List.mem_range] at ha hb
      have := congrArg List.length e
      rw [List.length_take, List.length_take] at this
      omega
    · intro x hx y hy e
      subst e
      obtain ⟨k, hk, hx⟩ := newTo_mem.1 hx
      obtain ⟨m, h1, h2, rfl⟩ := newR_mem.1 hx
      obtain ⟨m', g1, g2, g3⟩ := newR_mem.1 hy
      have hl := congrArg List.length g3
      rw [List.length_take, List.length_take] at hl
      obtain rfl : m = m' := by omega
      have := lcpA_ge hk (by omega) h2 g2 g3
      omega
theorem take_newTo {s : List UInt8} : ∀ {k m : Nat}, k < s.length → 0 < m → m ≤ (sufA s k).length → (sufA s k).take m ∈ newTo s (k + 1) := by
  intro k
  induction k with
  | zero =>
    intro m _ hm hl
    exact newTo_mem.2 ⟨0, by omega, newR_mem.2 ⟨m, by unfold lcpA; rw [if_pos rfl]; exact hm, hl, rfl⟩⟩
  | succ k ih =>
    intro m hk hm hl
    rcases Nat.lt_or_ge (lcpA s (k + 1)) m with h1 | h1
    · exact newTo_mem.2 ⟨k + 1, by omega, newR_mem.2 ⟨m, h1, hl, rfl⟩⟩
    · rw [lcpA_pos (by omega), Nat.add_sub_cancel] at h1
      have e := take_less (lcpL_take (sufA s k) (sufA s (k + 1))) h1
      have l1 := (lcpL_le (sufA s k) (sufA s (k + 1))).1
      rw [← e]
      have := ih (m := m) (by omega) hm (by omega)
      obtain ⟨q, hq, h⟩ := newTo_mem.1 this
      exact newTo_mem.2 ⟨q, by omega, h⟩
theorem part_take (s : List UInt8) (i m : Nat) : part s i (i + m) = (s.drop i).take m := by
  unfold part; rw [Nat.add_sub_cancel_left]
/-- The count of the unlike parts, of what the ends have in common. -/
theorem unlike_is (s : List UInt8) : (fact s).length + sumN (lcpA s) s.length = s.length * (s.length + 1) / 2 := by
  have h1 := newTo_len s s.length
  rw [sum_perm] at h1
  have h2 := sum_down s.length s.length (Nat.le_refl _)
  rw [Nat.sub_self, Nat.zero_mul] at h2
  have h3 : (fact s).length = (newTo s s.length).length := by
    refine nodup_len (fact_nodup s) (newTo_nodup s _ (Nat.le_refl _)) fun x => ?_
    rw [fact_mem]
    constructor
    · rintro ⟨i, k, hik, hk, rfl⟩
      have hr := rkS_lt (s := s) (i := i) (by omega)
      have h4 := take_newTo (s := s) (k := rkS s i) (m := k - i) hr (by omega) (by rw [sufA_len, oS_rk (by omega)]; omega)
      unfold sufA at h4
      rw [oS_rk (by omega)] at h4
      obtain ⟨q, hq, h5⟩ := newTo_mem.1 h4
      exact newTo_mem.2 ⟨q, by omega, h5⟩
    · intro h
      obtain ⟨k, hk, h⟩ := newTo_mem.1 h
      obtain ⟨m, g1, g2, rfl⟩ := newR_mem.1 h
      have g3 := sufA_len (s := s) (k := k)
      exact ⟨oS s k, oS s k + m, by omega, by have := oS_lt hk; omega, (part_take _ _ _).symm⟩
  rw [h3]; omega
/-- The text x stands at two places. -/
def Rep (s : List UInt8) (m : Nat) (x : List UInt8) : Prop := ∃ i j, i < j ∧ j + m ≤ s.length ∧ (s.drop i).take m = x ∧ (s.drop j).take m = x
theorem Rep.len {s : List UInt8} {m : Nat} {x : List UInt8} (h : Rep s m x) : x.length = m := by
  obtain ⟨i, j, hij, hj, rfl, _⟩ := h
  rw [List.length_take, List.length_drop]; omega
def TwiceIs (s b : List UInt8) : Prop :=
  (b = [] ∧ ∀ m x, 0 < m → ¬ Rep s m x) ∨ (0 < b.length ∧ Rep s b.length b ∧ (∀ m x, b.length < m → ¬ Rep s m x) ∧ ∀ x, Rep s b.length x → b ≤ x)
theorem TwiceIs.uniq {s a b : List UInt8} (h : TwiceIs s a) (h' : TwiceIs s b) : a = b := by
  rcases h with ⟨rfl, h⟩ | ⟨h0, h1, h2, h3⟩
  · rcases h' with ⟨rfl, _⟩ | ⟨g0, g1, _, _⟩
    · rfl
    · exact absurd g1 (h _ _ g0)
  · rcases h' with ⟨rfl, h⟩ | ⟨g0, g1, g2, g3⟩
    · exact absurd h1 (h _ _ h0)
    · rcases Nat.lt_trichotomy a.length b.length with h4 | h4 | h4
      · exact absurd g1 (h2 _ _ h4)
      · rw [h4] at h1 h3
        exact List.le_antisymm (h3 _ g1) (g3 _ h1)
      · exact absurd h1 (g2 _ _ h4)
theorem rep_lcp {s : List UInt8} {m : Nat} {x : List UInt8} (h : Rep s m x) (hm : 0 < m) : ∃ k, k < s.length ∧ m ≤ lcpA s k ∧ (sufA s k).take m = x := by
  obtain ⟨i, j, hij, hj, hi1, hj1⟩ := h
  have ri := rkS_lt (s := s) (i := i) (by omega)
  have rj := rkS_lt (s := s) (i := j) (by omega)
  have ei : sufA s (rkS s i) = s.drop i := by unfold sufA; rw [oS_rk (by omega)]
  have ej : sufA s (rkS s j) = s.drop j := by unfold sufA; rw [oS_rk (by omega)]
  have l1 : m ≤ (sufA s (rkS s i)).length := by rw [ei, List.length_drop]; omega
  have l2 : m ≤ (sufA s (rkS s j)).length := by rw [ej, List.length_drop]; omega
  rw [← ei] at hi1
  rw [← ej] at hj1
  rcases Nat.lt_trichotomy (rkS s i) (rkS s j) with h1 | h1 | h1
  · exact ⟨_, rj, lcpA_ge h1 rj l1 l2 (hi1.trans hj1.symm), hj1⟩
  · exfalso
    have e1 := oS_rk (s := s) (i := i) (by omega)
    have e2 := oS_rk (s := s) (i := j) (by omega)
    rw [h1] at e1
    omega
  · exact ⟨_, ri, lcpA_ge h1 ri l2 l1 (hj1.trans hi1.symm), hi1⟩
theorem lcp_rep {s : List UInt8} {k m : Nat} (hk : k < s.length) (hm : 0 < m) (h : m ≤ lcpA s k) : Rep s m ((sufA s k).take m) := by
  have hk0 : k ≠ 0 := by
    rintro rfl
    unfold lcpA at h; rw [if_pos rfl] at h; omega
  rw [lcpA_pos hk0] at h
  have e := take_less (lcpL_take (sufA s (k - 1)) (sufA s k)) h
  have l1 := (lcpL_le (sufA s (k - 1)) (sufA s k)).1
  have l2 := (lcpL_le (sufA s (k - 1)) (sufA s k)).2
  have z1 := sufA_len (s := s) (k := k - 1)
  have z2 := sufA_len (s := s) (k := k)
  have o1 := oS_lt (s := s) (k := k - 1) (by omega)
  have o2 := oS_lt hk
  have hne : oS s (k - 1) ≠ oS s k := fun e0 => by
    have := (ordS_srt s).inj (show k - 1 < s.length by omega) hk e0
    omega
  rcases Nat.lt_or_ge (oS s (k - 1)) (oS s k) with h1 | h1
  · exact ⟨_, _, h1, by omega, e, rfl⟩
  · exact ⟨oS s k, oS s (k - 1), by omega, by omega, rfl, e⟩
/-- Of the ends ahead of k the most in common is M; b is what the first such one begins with. -/
structure BestL (s : List UInt8) (k M : Nat) (b : List UInt8) : Prop where
  le : ∀ j, j < k → lcpA s j ≤ M
  len : b.length = M
  at_ : M = 0 ∨ ∃ q, q < k ∧ lcpA s q = M ∧ b = (sufA s q).take M ∧ ∀ j, j < q → lcpA s j < M
theorem BestL.start (s : List UInt8) : BestL s 0 0 [] := ⟨fun j h => by omega, rfl, .inl rfl⟩
theorem BestL.more {s : List UInt8} {k M : Nat} {b : List UInt8} (h : BestL s k M b) (h1 : M < lcpA s k) : BestL s (k + 1) (lcpA s k) ((sufA s k).take (lcpA s k)) :=
  ⟨fun j hj => by
    rcases Nat.lt_or_ge j k with h2 | h2
    · have := h.le j h2; omega
    · obtain rfl : j = k := by omega
      exact Nat.le_refl _, by rw [List.length_take]; have := lcpA_le s k; omega, .inr ⟨k, by omega, rfl, rfl, fun j hj => by have := h.le j hj; omega⟩⟩
theorem BestL.less {s : List UInt8} {k M : Nat} {b : List UInt8} (h : BestL s k M b) (h1 : lcpA s k ≤ M) : BestL s (k + 1) M b :=
  ⟨fun j hj => by
    rcases Nat.lt_or_ge j k with h2 | h2
    · exact h.le j h2
    · obtain rfl : j = k := by omega
      exact h1, h.len, h.at_.imp id fun ⟨q, h2, h3⟩ => ⟨q, by omega, h3⟩⟩
theorem BestL.fin {s : List UInt8} {M : Nat} {b : List UInt8} (h : BestL s s.length M b) : TwiceIs s b := by
  have hno : ∀ m x, M < m → ¬ Rep s m x := fun m x hm hr => by
    obtain ⟨k, hk, h1, _⟩ := rep_lcp hr (by omega)
    have := h.le k hk
    omega
  rcases Nat.eq_zero_or_pos M with h0 | h0
  · left
    exact ⟨List.eq_nil_of_length_eq_zero (by rw [h.len, h0]), fun m x hm => hno m x (by omega)⟩
  · right
    rcases h.at_ with h1 | ⟨q, hq, h1, h2, h3⟩
    · omega
    · rw [h.len]
      refine ⟨h0, ?_, hno, fun x hr => ?_⟩
      · rw [h2]; exact lcp_rep hq h0 (by omega)
      · obtain ⟨k, hk, g1, g2⟩ := rep_lcp hr h0
        have g3 := h.le k hk
        have g4 : q ≤ k := by
          rcases Nat.lt_or_ge k q with g5 | g5
          · have := h3 k g5; omega
          · exact g5
        rw [h2, ← g2]
        exact take_leB M _ _ (sufA_le g4 hk)
/-- The document's way: texts of one length, in order. -/
def wins (s : List UInt8) (m : Nat) : Nat → List UInt8 := fun i => (s.drop i).take m
theorem rep_adj {s : List UInt8} {m : Nat} {x : List UInt8} {p : List Nat} (hp : Srt (wins s m) (s.length - m + 1) p) (hm : m ≤ s.length) (h : Rep s m x) :
    ∃ i, 0 < i ∧ i < s.length - m + 1 ∧ wins s m (p.getD i 0) = x ∧ wins s m (p.getD (i - 1) 0) = x := by
  obtain ⟨i, j, hij, hj, h1, h2⟩ := h
  obtain ⟨a, ha, ea⟩ := hp.sur (show i < s.length - m + 1 by omega)
  obtain ⟨b, hb, eb⟩ := hp.sur (show j < s.length - m + 1 by omega)
  have key : ∀ a b, a < b → b < s.length - m + 1 → wins s m (p.getD a 0) = x → wins s m (p.getD b 0) = x → ∃ i, 0 < i ∧ i < s.length - m + 1 ∧ wins s m (p.getD i 0) = x ∧ wins s m (p.getD (i - 1) 0) = x := by
    intro a b hab hb ha1 hb1
    refine ⟨a + 1, by omega, by omega, ?_, by rw [Nat.add_sub_cancel]; exact ha1⟩
    have g1 := hp.mono (i := a) (j := a + 1) (by omega) (by omega)
    have g2 := hp.mono (i := a + 1) (j := b) (by omega) hb
    rw [ha1] at g1
    rw [hb1] at g2
    exact List.le_antisymm g2 g1
  have ha1 : wins s m (p.getD a 0) = x := by rw [ea]; exact h1
  have hb1 : wins s m (p.getD b 0) = x := by rw [eb]; exact h2
  rcases Nat.lt_trichotomy a b with h3 | h3 | h3
  · exact key a b h3 hb ha1 hb1
  · exfalso; rw [h3, eb] at ea; omega
  · exact key b a h3 ha hb1 ha1
theorem adj_rep {s : List UInt8} {m : Nat} {p : List Nat} (hp : Srt (wins s m) (s.length - m + 1) p) (hm : m ≤ s.length) {i : Nat} (h0 : 0 < i) (hi : i < s.length - m + 1)
    (h : wins s m (p.getD i 0) = wins s m (p.getD (i - 1) 0)) : Rep s m (wins s m (p.getD i 0)) := by
  have l1 := hp.lt hi
  have l2 := hp.lt (show i - 1 < s.length - m + 1 by omega)
  have hne : p.getD i 0 ≠ p.getD (i - 1) 0 := fun e => by
    have := hp.inj hi (by omega) e
    omega
  rcases Nat.lt_or_ge (p.getD i 0) (p.getD (i - 1) 0) with h1 | h1
  · exact ⟨_, _, h1, by omega, rfl, h.symm⟩
  · exact ⟨p.getD (i - 1) 0, p.getD i 0, by omega, by omega, h.symm, rfl⟩
theorem twice_found {s : List UInt8} {m : Nat} {p : List Nat} (hp : Srt (wins s m) (s.length - m + 1) p) (hm : m ≤ s.length) (hm0 : 0 < m) {i : Nat} (h0 : 0 < i) (hi : i < s.length - m + 1)
    (h : wins s m (p.getD i 0) = wins s m (p.getD (i - 1) 0)) (hno : ∀ j, 0 < j → j < i → wins s m (p.getD j 0) ≠ wins s m (p.getD (j - 1) 0))
    (hbig : ∀ q x, m < q → ¬ Rep s q x) : TwiceIs s (wins s m (p.getD i 0)) := by
  have hr := adj_rep hp hm h0 hi h
  right
  rw [hr.len]
  refine ⟨hm0, hr, hbig, fun x hx => ?_⟩
  obtain ⟨j, g1, g2, g3, g4⟩ := rep_adj hp hm hx
  have : i ≤ j := by
    rcases Nat.lt_or_ge j i with h1 | h1
    · exact absurd (g3.trans g4.symm) (hno j g1 h1)
    · exact h1
  rw [← g3]
  exact hp.mono this g2
theorem twice_none {s : List UInt8} {m : Nat} {p : List Nat} (hp : Srt (wins s m) (s.length - m + 1) p) (hm : m ≤ s.length)
    (hno : ∀ j, 0 < j → j < s.length - m + 1 → wins s m (p.getD j 0) ≠ wins s m (p.getD (j - 1) 0)) (x : List UInt8) : ¬ Rep s m x := fun hx => by
  obtain ⟨j, g1, g2, g3, g4⟩ := rep_adj hp hm hx
  exact hno j g1 g2 (g3.trans g4.symm)
end Go.Proofs.Ytmmamdjbbpeifaa
