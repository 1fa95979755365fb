/- The document's way to read in one way only: a search in depth with a map of what has been visited (plain). -/
import Derived.Test.YtmmamdjbbpeifaaDoorSole0
namespace Go.Proofs.YtmmamdjbbpeifaaDoor
def vis (f : List UInt8 → Option Int) : List UInt8 → Bool := fun x => (f x).isSome
def phi (l : List (List UInt8)) (f : List UInt8 → Option Int) (n : Nat) : Nat := n + 24 * unv l (vis f)
structure Vok (f : List UInt8 → Option Int) (n : Nat) : Prop where
  val : ∀ t v, f t = some v → 1 ≤ v ∧ v ≤ (n : Int)
  nil : f [] = none
/-- What has been visited grows, and of what is new all that follows is there. -/
structure Grow (l : List (List UInt8)) (f f' : List UInt8 → Option Int) : Prop where
  mono : ∀ x, vis f x = true → vis f' x = true
  closed : ∀ x, vis f' x = true → vis f x = false → ∀ y, IsSuc l x y → vis f' y = true
theorem Grow.refl (l : List (List UInt8)) (f : List UInt8 → Option Int) : Grow l f f := ⟨fun _ h => h, fun x h h2 => by rw [h] at h2; cases h2⟩
theorem Grow.trans {l : List (List UInt8)} {f f' f2 : List UInt8 → Option Int} (h : Grow l f f') (k : Grow l f' f2) : Grow l f f2 :=
  ⟨fun x hx => k.mono x (h.mono x hx), fun x hx hn y hy => by
    cases h1 : vis f' x with
    | true => exact k.mono y (h.closed x h1 hn y hy)
    | false => exact k.closed x hx h1 y hy⟩
def put1 (f : List UInt8 → Option Int) (s : List UInt8) (v : Int) : List UInt8 → Option Int := fun t => if t = s then some v else f t
theorem vis_put (f : List UInt8 → Option Int) (s : List UInt8) (v : Int) (x : List UInt8) : vis (put1 f s v) x = (decide (x = s) || vis f x) := by
  unfold vis put1
  by_cases h : x = s
  · simp [h]
  · simp [h]
theorem Vok.put {f : List UInt8 → Option Int} {n : Nat} (h : Vok f n) {s : List UInt8} (hs : s ≠ []) {v : Int} (h1 : 1 ≤ v) (h2 : v ≤ (n : Int) + 1) : Vok (put1 f s v) (n + 1) := by
  refine ⟨fun t u hu => ?_, ?_⟩
  · unfold put1 at hu
    split at hu
    · cases hu; omega
    · have := h.val t u hu; omega
  · unfold put1; rw [if_neg (fun e => hs e.symm)]; exact h.nil
/-- Visited once more. -/
theorem again {l : List (List UInt8)} {f : List UInt8 → Option Int} {n : Nat} {s : List UInt8} {v : Int} (hv : vis f s = true) : Grow l f (put1 f s v) ∧ phi l (put1 f s v) (n + 1) ≤ phi l f n + 1 ∧ vis (put1 f s v) s = true := by
  have e : vis (put1 f s v) = vis f := by
    funext x
    rw [vis_put]
    by_cases h : x = s
    · subst h; rw [hv]; simp
    · simp [h]
  refine ⟨⟨fun x hx => by rw [e]; exact hx, fun x h1 h2 => by rw [e, h2] at h1; cases h1⟩, ?_, by rw [e]; exact hv⟩
  unfold phi; rw [e]; omega
def SucIn (l : List (List UInt8)) (s : List UInt8) (f : List UInt8 → Option Int) (j : Nat) : Prop := ∀ i, i < j → (pfx s (l.getD i []) = true → vis f ((l.getD i []).drop s.length) = true) ∧ (pfx (l.getD i []) s = true → vis f (s.drop (l.getD i []).length) = true)
structure Lp (l : List (List UInt8)) (s : List UInt8) (f1 f : List UInt8 → Option Int) (n1 n j : Nat) : Prop where
  ok : Vok f n
  gr : Grow l f1 f
  suc : SucIn l s f j
  ph : phi l f n ≤ phi l f1 n1 + 2 * j
theorem Lp.start {l : List (List UInt8)} {s : List UInt8} {f1 : List UInt8 → Option Int} {n1 : Nat} (h : Vok f1 n1) : Lp l s f1 f1 n1 n1 0 := ⟨h, .refl _ _, fun i hi => by omega, by omega⟩
/-- One round: nothing, one or two calls. -/
theorem Lp.next {l : List (List UInt8)} {s : List UInt8} {f1 f f' : List UInt8 → Option Int} {n1 n n' j : Nat} (h : Lp l s f1 f n1 n j) (ok : Vok f' n') (gr : Grow l f f') (ph : phi l f' n' ≤ phi l f n + 2)
    (h1 : pfx s (l.getD j []) = true → vis f' ((l.getD j []).drop s.length) = true) (h2 : pfx (l.getD j []) s = true → vis f' (s.drop (l.getD j []).length) = true) : Lp l s f1 f' n1 n' (j + 1) :=
  ⟨ok, h.gr.trans gr, fun i hi => by
    rcases Nat.lt_or_ge i j with h4 | h4
    · exact ⟨fun hp => gr.mono _ ((h.suc i h4).1 hp), fun hp => gr.mono _ ((h.suc i h4).2 hp)⟩
    · obtain rfl : i = j := by omega
      exact ⟨h1, h2⟩, by have := h.ph; omega⟩
theorem Lp.fin {l : List (List UInt8)} (hc : Cod l) {s : List UInt8} {f0 f : List UInt8 → Option Int} {n0 n : Nat} {v : Int} (h : Lp l s (put1 f0 s v) f (n0 + 1) n l.length) (hs : s ∈ uni l) (h0 : vis f0 s = false) : Grow l f0 f ∧ phi l f n ≤ phi l f0 n0 + 1 ∧ vis f s = true := by
  have hvs : vis (put1 f0 s v) s = true := by rw [vis_put]; simp
  have hm : ∀ x, vis f0 x = true → vis (put1 f0 s v) x = true := fun x hx => by rw [vis_put, hx]; simp
  refine ⟨⟨fun x hx => h.gr.mono x (hm x hx), fun x hx hn y hy => ?_⟩, ?_, h.gr.mono s hvs⟩
  · cases h1 : vis (put1 f0 s v) x with
    | false => exact h.gr.closed x hx h1 y hy
    | true =>
      have e : x = s := by
        rw [vis_put, hn] at h1
        simpa using h1
      subst e
      obtain ⟨i, hi, ⟨hp, rfl⟩ | ⟨hp, rfl⟩⟩ := hy
      · exact (h.suc i hi).1 hp
      · exact (h.suc i hi).2 hp
  · have h1 := unv_add (l := l) hm hs h0 hvs
    have h2 := h.ph
    have h3 := hc.len
    unfold phi at *
    omega
theorem less_unv {l : List (List UInt8)} {s : List UInt8} {f0 : List UInt8 → Option Int} {v : Int} (hs : s ∈ uni l) (h0 : vis f0 s = false) : unv l (vis (put1 f0 s v)) + 1 ≤ unv l (vis f0) :=
  unv_add (l := l) (fun x hx => by rw [vis_put, hx]; simp) hs h0 (by rw [vis_put]; simp)
theorem Grow.unv {l : List (List UInt8)} {f f' : List UInt8 → Option Int} (h : Grow l f f') : unv l (vis f') ≤ unv l (vis f) := unv_mono h.mono
/-- All pairs of words ahead of (i, k) have been tried. -/
def BegIn (l : List (List UInt8)) (f : List UInt8 → Option Int) (i k : Nat) : Prop := ∀ i' k', k' < l.length → (i' < i ∨ (i' = i ∧ k' < k)) → (l.getD i' []).length < (l.getD k' []).length → pfx (l.getD i' []) (l.getD k' []) = true → vis f ((l.getD k' []).drop (l.getD i' []).length) = true
theorem BegIn.more {l : List (List UInt8)} {f f' : List UInt8 → Option Int} {i k : Nat} (h : BegIn l f i k) (hm : Grow l f f') : BegIn l f' i k := fun i' k' hk hb hne hp => hm.mono _ (h i' k' hk hb hne hp)
theorem BegIn.next {l : List (List UInt8)} {f : List UInt8 → Option Int} {i k : Nat} (h : BegIn l f i k) (h1 : (l.getD i []).length < (l.getD k []).length → pfx (l.getD i []) (l.getD k []) = true → vis f ((l.getD k []).drop (l.getD i []).length) = true) : BegIn l f i (k + 1) := fun i' k' hk hb hne hp => by
  by_cases e : i' = i ∧ k' = k
  · obtain ⟨rfl, rfl⟩ := e
    exact h1 hne hp
  · exact h i' k' hk (by omega) hne hp
theorem BegIn.row {l : List (List UInt8)} {f : List UInt8 → Option Int} {i : Nat} (h : BegIn l f i l.length) : BegIn l f (i + 1) 0 := fun i' k' hk hb hne hp => h i' k' hk (by omega) hne hp
theorem dfs_true {l : List (List UInt8)} {f : List UInt8 → Option Int} {n : Nat} (h : Vok f n) (hg : Grow l (fun _ => none) f) (hb : BegIn l f l.length 0) : soleB l = true := by
  refine soleB_t fun h0 => ?_
  have h1 : vis f [] = true := by
    refine left_of (P := fun x => vis f x = true) ?_ ?_ h0
    · rintro x ⟨i, k, hi, hk, hlt, hp, rfl⟩
      exact hb i k hk (.inl hi) hlt hp
    · intro s x hs hx
      exact hg.closed s hs rfl x hx
  unfold vis at h1
  rw [h.nil] at h1
  cases h1
/-- How the document spells the prefix of a pair. -/
theorem pfx_take {p s : List UInt8} : (s.take p.length == p) = pfx p s := by
  rw [Bool.eq_iff_iff, pfx_iff]
  exact beq_iff_eq
end Go.Proofs.YtmmamdjbbpeifaaDoor
