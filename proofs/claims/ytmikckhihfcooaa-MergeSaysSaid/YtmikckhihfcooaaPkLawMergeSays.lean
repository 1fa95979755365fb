/- MergeSays: the law's call returns true at every input, and every argument reads afterwards as it read before. No condition of our own. -/
import Derived.Test.YtmikckhihfcooaaPk19
import Derived.Test.YtmikckhihfcooaaPk21
import Derived.Test.YtmikckhihfcooaaPk20
namespace Go.Proofs.Ytmikckhihfcooaa.lawMergeSays
open Go.ChangeShapes Go.WideShapes Go.ChangeAt Go.RowKit Go.Deep
open Go.ChangeMaps (open_string)
set_option linter.unusedVariables false
theorem own : ownKnob Try.prog.godebug = none := by kernel_rfl
theorem laidOut : laidOutB Try.prog = true := by kernel_rfl
theorem readable : (Try.f3.params.toList.all fun t => Try.prog.readableRec t && decide (t < Try.prog.types.size)) = true := by kernel_rfl
theorem readable' : ∀ t ∈ Try.f3.params.toList, Try.prog.readableRec t = true ∧ t < Try.prog.types.size := by
  intro t ht
  have := List.all_eq_true.1 readable t ht
  simpa using this
set_option maxRecDepth 100000 in
theorem contract (H : Type) (enc : TypeId × Value → H) (W : World) (base : Nat) (args : Array Value) (ds gs : List (DataW H)) (before : List MemPlace)
    (hval : ∀ (j : Nat) t v, Try.f3.params[j]? = some t → args[j]? = some v → Value.okWide Try.prog W .any base t v)
    (hW : DataW.Whole enc Try.prog Try.f3.params.toList Rows.mergeSaysSpec.vars false W args.toList ds gs before)
    (hsz : (DataW.weightsEach Try.prog Try.f3.params.toList ds).all (· ≤ reachBytes) = true) :
    Calls Try.prog 3 args W fun e W' => ∃ v, e = .returned v ∧ Rows.mergeSaysSpec.post enc Try.prog Try.f3 false true false false W args v W' := by
  have hW' := hW
  obtain ⟨p, q, hA0, hV, rfl, hfz, hnd⟩ := hW
  have hA : DataW.TrodAll enc Try.prog W 0 (fun _ => true) true Try.f3.params.toList args.toList ds p := hA0
  clear hA0
  rw [Try.params3] at hA hval hsz
  obtain ⟨v0, vs0, d0, ds0, p0, q0, hargs, rfl, rfl, h0, r0⟩ := trodAll_cons hA
  obtain ⟨v1, vs1, d1, ds1, p1, q1, rfl, rfl, rfl, h1, r1⟩ := trodAll_cons r0
  obtain ⟨v2, vs2, d2, ds2, p2, q2, rfl, rfl, rfl, h2, r2⟩ := trodAll_cons r1
  obtain ⟨rfl, rfl, rfl⟩ := trodAll_nil r2
  obtain rfl : args = #[v0, v1, v2] := by cases args; simp_all
  clear hargs
  obtain ⟨rfl, rfl⟩ := trodVars_none hV
  obtain ⟨a0, rfl, rfl, rfl, w0⟩ := open_int Try.underlying3 (hval 0 3 v0 rfl rfl) h0
  have z0 : -9223372036854775808 ≤ a0 ∧ a0 ≤ 9223372036854775807 := by simpa [Lit.wf, IntKind.min, IntKind.max, IntKind.signed, IntKind.bits] using w0
  obtain ⟨_, _, _, rfl⟩ := okWide_slice Try.underlying22 (hval 1 22 v1 rfl rfl)
  obtain ⟨f1, g1⟩ := h1
  obtain ⟨A1, n1, c1, a1, e1, nc1, cm1, ln1, rd1, qs1, sz1⟩ := open_eds g1
  simp only [Value.cells, List.cons.injEq, Value.slice.injEq, and_true] at e1
  obtain ⟨ea, eb, ec⟩ := e1
  obtain rfl := ea.symm; obtain rfl := eb.symm; obtain rfl := ec.symm
  have z1 : c1 * Try.prog.bytesOf 30 ≤ 140737488351232 := by
    rcases sz1 with ⟨_, rfl⟩ | ⟨el, sp, rfl, hc⟩
    · simp
    · rw [← hc]; exact Nat.le_trans (sized_slice hsz (j := 1) rfl rfl Try.underlying22) reach_le
  obtain ⟨_, _, _, rfl⟩ := okWide_slice Try.underlying22 (hval 2 22 v2 rfl rfl)
  obtain ⟨f2, g2⟩ := h2
  obtain ⟨A2, n2, c2, a2, e2, nc2, cm2, ln2, rd2, qs2, sz2⟩ := open_eds g2
  simp only [Value.cells, List.cons.injEq, Value.slice.injEq, and_true] at e2
  obtain ⟨ea, eb, ec⟩ := e2
  obtain rfl := ea.symm; obtain rfl := eb.symm; obtain rfl := ec.symm
  have z2 : c2 * Try.prog.bytesOf 30 ≤ 140737488351232 := by
    rcases sz2 with ⟨_, rfl⟩ | ⟨el, sp, rfl, hc⟩
    · simp
    · rw [← hc]; exact Nat.le_trans (sized_slice hsz (j := 2) rfl rfl Try.underlying22) reach_le
  refine (mergeSays_any a0 a1 a2 A1 A2 n1 c1 n2 c2 W rd1 rd2 (by unfold maxLen at cm1; omega) (by unfold maxLen at cm2; omega)).mono fun e W' ⟨he, hb⟩ => ?_
  subst he
  exact ⟨_, rfl, law_close hW' rfl rfl rfl Try.underlying4 laidOut readable' hb⟩
set_option maxRecDepth 100000 in
theorem lifted (os : Os) (started : os.Started) (H : Type) (enc : TypeId × Value → H) :
    ReturnsInHanded {} Try.checked os 3 .any (Rows.mergeSaysSpec.pre6 enc Try.prog Try.f3 Rows.mergeSaysRow.domain false) (Rows.mergeSaysSpec.post enc Try.prog Try.f3 false true false false) := by
  refine returnsInHanded_of_change_sized (C := Try.checked) own started (by kernel_rfl) Try.func3
    (ChangeSpec.witness6 (enc := enc) (C := Try.checked) false ⟨#[], #[.int .i64 0, .slice none 0 0, .slice none 0 0], []⟩ 8 (by kernel_rfl) (by kernel_rfl) (by kernel_rfl) (by kernel_rfl)) ?_
  intro W base args ds gs before hval hW _ hsz _
  have hg : gs = [] := by
    obtain ⟨_, _, _, hV, _⟩ := hW
    exact (trodVars_none hV).1
  subst hg
  refine contract H enc W base args ds [] before hval hW ?_
  have e1 : Try.f3.params.toList ++ Rows.mergeSaysSpec.plain.varTypes Try.checked.prog = Try.f3.params.toList := rfl
  rw [e1, List.append_nil] at hsz
  exact hsz
theorem proved : Rows.MergeSaysSaid :=
  OpenClaim.holds_of_wide 3 Try.f3 rfl rfl rfl rfl rfl rfl rfl ⟨rfl, rfl, rfl, rfl, rfl⟩ rfl rfl rfl rfl rfl (by kernel_rfl) Try.func3 (by kernel_rfl)
    (of_decide_eq_true (by kernel_rfl)) (by unfold Func.isWrapper; rw [if_neg (by decide +kernel)]; exact ⟨rfl, rfl⟩)
    (fun os started H enc _ => lifted os started H enc)
end Go.Proofs.Ytmikckhihfcooaa.lawMergeSays
