/- An edit of a rope, step by step. Plain lists, no program in sight. -/
import Derived.Test.YtolnhplgaolieaaRopeE
namespace Go.Proofs.Ytolnhplgaolieaa
theorem cutE_zero {p : Parts} {at_ : Int} (h : cutE p at_ = 0) : RopeOk p ∧ 0 ≤ at_ ∧ at_ ≤ (tot p : Int) := by
  unfold cutE at h
  by_cases h1 : ropeErr p = 0
  · rw [if_neg (by rw [h1]; decide)] at h
    by_cases h2 : at_ < 0 ∨ (tot p : Int) < at_
    · rw [if_pos h2] at h; cases h
    · exact ⟨ropeErr_zero.1 h1, by omega, by omega⟩
  · rw [if_pos h1] at h; exact absurd h h1
theorem cutE_of {p : Parts} {at_ : Int} (h : RopeOk p) : cutE p at_ = if at_ < 0 ∨ (tot p : Int) < at_ then 1 else 0 := by
  unfold cutE; rw [ropeErr_zero.2 h]; rfl
theorem ed_step1 {p : Parts} {x : Ed} (h : cutE p x.at_ ≠ 0) : ropeEdE p x = cutE p x.at_ ∧ ropeEdP p x = [] := by
  have h1 : ropeEdE p x = cutE p x.at_ := by
    unfold ropeEdE
    by_cases h1 : ropeErr p = 0
    · rw [if_neg (by rw [h1]; decide)]
      rw [cutE_of (ropeErr_zero.1 h1)] at h ⊢
      by_cases h2 : x.at_ < 0 ∨ (tot p : Int) < x.at_
      · rw [if_pos h2, if_pos]
        rcases h2 with h2 | h2
        · exact .inl h2
        · exact .inr (.inl h2)
      · rw [if_neg h2] at h; exact absurd rfl h
    · rw [if_pos h1]; unfold cutE; rw [if_pos h1]
  refine ⟨h1, ?_⟩
  unfold ropeEdP; rw [h1, if_neg h]
theorem ed_parts2 {p : Parts} {x : Ed} (h2 : cutE (cutB x.at_.toNat p) x.del = 0) : cutPB (cutB x.at_.toNat p) x.del = edC p x ∧ RopeOk (edC p x) := by
  refine ⟨?_, (cutE_zero h2).1.cutB _⟩
  unfold cutPB; rw [if_pos h2]; rfl
theorem ins_err (x : Ed) : ropeErr (insP x.ins) = if 200 < x.ins.length then 2 else 0 := by
  unfold insP
  split
  · rename_i h0; rw [h0]; rfl
  · rename_i h0; exact ropeErr_one _ h0
section
variable {p : Parts} {x : Ed} (h : cutE p x.at_ = 0)
include h
theorem ed_parts : cutPA p x.at_ = edA p x ∧ cutPB p x.at_ = cutB x.at_.toNat p ∧ RopeOk (edA p x) ∧ RopeOk (cutB x.at_.toNat p) := by
  obtain ⟨h1, _, _⟩ := cutE_zero h
  refine ⟨?_, ?_, h1.cutA _, h1.cutB _⟩
  · unfold cutPA; rw [if_pos h]; rfl
  · unfold cutPB; rw [if_pos h]
theorem ed_base : ropeEdE p x = if cutE (cutB x.at_.toNat p) x.del ≠ 0 then 1 else if 200 < x.ins.length then 2 else if joinErr (edA p x) (insP x.ins) ≠ 0 then 11 else if joinErr (edA p x ++ insP x.ins) (edC p x) ≠ 0 then 11 else 0 := by
  obtain ⟨h1, h2, h3⟩ := cutE_zero h
  have hb := h1.cutB x.at_.toNat
  have ht := (cut_tot p x.at_.toNat).2
  unfold ropeEdE
  rw [if_neg (by rw [ropeErr_zero.2 h1]; decide), cutE_of hb]
  by_cases h4 : x.del < 0 ∨ (tot (cutB x.at_.toNat p) : Int) < x.del
  · rw [if_pos h4, if_pos (show badAt p x by unfold badAt; omega), if_pos (by decide)]
  · rw [if_neg h4, if_neg (show ¬ badAt p x by unfold badAt; omega), if_neg (show ¬ ((0 : Int) ≠ 0) from fun h => h rfl)]
theorem ed_step2 (h2 : cutE (cutB x.at_.toNat p) x.del ≠ 0) : ropeEdE p x = cutE (cutB x.at_.toNat p) x.del ∧ ropeEdP p x = [] := by
  have h1 : ropeEdE p x = 1 := by rw [ed_base h, if_pos h2]
  have h3 : cutE (cutB x.at_.toNat p) x.del = 1 := by
    rw [cutE_of ((cutE_zero h).1.cutB _)] at h2 ⊢
    by_cases h4 : x.del < 0 ∨ (tot (cutB x.at_.toNat p) : Int) < x.del
    · rw [if_pos h4]
    · rw [if_neg h4] at h2; exact absurd rfl h2
  refine ⟨by rw [h1, h3], ?_⟩
  unfold ropeEdP; rw [h1, if_neg (by decide)]
variable (h2 : cutE (cutB x.at_.toNat p) x.del = 0)
include h2
theorem ed_step3 (h3 : ropeErr (insP x.ins) ≠ 0) : ropeEdE p x = ropeErr (insP x.ins) ∧ ropeEdP p x = [] := by
  have hi := ins_err x
  have h200 : 200 < x.ins.length := by
    rw [hi] at h3
    by_cases h4 : 200 < x.ins.length
    · exact h4
    · rw [if_neg h4] at h3; exact absurd rfl h3
  have h1 : ropeEdE p x = 2 := by rw [ed_base h, if_neg (by rw [h2]; decide), if_pos h200]
  refine ⟨by rw [h1, hi, if_pos h200], ?_⟩
  unfold ropeEdP; rw [h1, if_neg (by decide)]
theorem ed_step4 (h3 : ropeErr (insP x.ins) = 0) (h4 : joinE (edA p x) (insP x.ins) ≠ 0) : ropeEdE p x = joinE (edA p x) (insP x.ins) ∧ ropeEdP p x = [] := by
  have hm := ropeErr_zero.1 h3
  have ha := (ed_parts h).2.2.1
  rw [joinE_ok ha hm] at h4 ⊢
  have h200 : ¬ 200 < x.ins.length := by
    rw [ins_err x] at h3
    intro h5; rw [if_pos h5] at h3; cases h3
  have h1 : ropeEdE p x = 11 := by rw [ed_base h, if_neg (by rw [h2]; decide), if_neg h200, if_pos h4]
  have h5 : joinErr (edA p x) (insP x.ins) = 11 := by
    unfold joinErr at h4 ⊢
    split
    · rfl
    · rename_i h6; rw [if_neg h6] at h4; exact absurd rfl h4
  refine ⟨by rw [h1, h5], ?_⟩
  unfold ropeEdP; rw [h1, if_neg (by decide)]
theorem ed_step5 (h3 : ropeErr (insP x.ins) = 0) (h4 : joinE (edA p x) (insP x.ins) = 0) :
    joinP (edA p x) (insP x.ins) = edA p x ++ insP x.ins ∧ RopeOk (edA p x ++ insP x.ins) ∧ ropeEdE p x = joinE (edA p x ++ insP x.ins) (edC p x) ∧ ropeEdP p x = joinP (edA p x ++ insP x.ins) (edC p x) := by
  have hm := ropeErr_zero.1 h3
  have ha := (ed_parts h).2.2.1
  have hc := (ed_parts2 h2).2
  have h40 := h4
  rw [joinE_ok ha hm] at h4
  have ham := joinErr_zero ha hm h4
  have h200 : ¬ 200 < x.ins.length := by
    rw [ins_err x] at h3
    intro h5; rw [if_pos h5] at h3; cases h3
  have h1 : ropeEdE p x = joinE (edA p x ++ insP x.ins) (edC p x) := by
    rw [ed_base h, if_neg (by rw [h2]; decide), if_neg h200, if_neg (by rw [h4]; decide), joinE_ok ham hc]
    unfold joinErr
    split
    · rfl
    · rfl
  refine ⟨by unfold joinP; rw [if_pos h40], ham, h1, ?_⟩
  unfold ropeEdP joinP
  rw [h1]
end
end Go.Proofs.Ytolnhplgaolieaa
