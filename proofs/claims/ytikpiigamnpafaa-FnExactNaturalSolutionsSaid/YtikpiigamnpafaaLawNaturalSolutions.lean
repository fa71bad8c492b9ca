/- The law FnExactNaturalSolutions holds for all arguments: the walk is law_Natural; this text is the step to the given statement. -/
import Derived.Test.YtikpiigamnpafaaFrame
import Derived.Test.YtikpiigamnpafaaNatH
namespace Go.Proofs.Ytikpiigamnpafaa.lawFnExactNaturalSolutions
open Go.ChangeShapes Go.WideShapes Go.ChangeAt Go.RowKit Go.Joins Go.Deep
set_option maxRecDepth 100000 in
theorem lifted (os : Os) (started : os.Started) (H : Type) (enc : TypeId × Value → H) :
    ReturnsInHanded {} Try.checked os 3 .any (Rows.fnExactNaturalSolutionsSpec.pre6 enc Try.prog Try.f3 Rows.fnExactNaturalSolutionsRow.domain false) (Rows.fnExactNaturalSolutionsSpec.post enc Try.prog Try.f3 false true false false) := by
  refine returnsInHanded_of_change (C := Try.checked) Try.own started (by kernel_rfl) Try.func3
    (ChangeSpec.witness6 (enc := enc) (C := Try.checked) false ⟨#[], #[.int .i64 0, .int .i64 0, .int .i64 0], []⟩ 8 (by kernel_rfl) (by kernel_rfl) (by kernel_rfl) (by kernel_rfl)) ?_
  intro W base args ds gs before hval0 hW hcnd _
  have hval : ∀ (j : Nat) t v, Try.f3.params[j]? = some t → args[j]? = some v → Value.okWide Try.prog W .any base t v := hval0
  have hW' := hW
  obtain ⟨p, q, hA0, hV, _, _, _⟩ := hW
  have hA : DataW.TrodAll enc Try.prog W 0 (fun _ => true) true Try.f3.params.toList args.toList ds p := hA0
  clear hval0 hA0 hcnd
  rw [Try.params3] at hA hval
  obtain ⟨v0, v1, v2, d0, d1, d2, p0, p1, p2, rfl, rfl, rfl, h0, h1, h2⟩ := trodAll_three hA
  obtain ⟨rfl, _⟩ := trodVars_none hV
  obtain ⟨a0, rfl, w0⟩ := openI Try.underlying2 (hval 0 2 v0 rfl rfl) h0
  obtain ⟨a1, rfl, w1⟩ := openI Try.underlying2 (hval 1 2 v1 rfl rfl) h1
  obtain ⟨a2, rfl, w2⟩ := openI Try.underlying2 (hval 2 2 v2 rfl rfl) h2
  refine (law_Natural a0 a1 a2 W).mono fun e W' ⟨he, hb⟩ => ?_
  subst he
  exact ⟨_, rfl, law_post Try.laidOut (by kernel_rfl) (tb := 4) rfl Try.underlying4 rfl rfl hW' hb⟩

theorem over : Rows.fnExactNaturalSolutionsRow.holds Try.pinned (OpenSpec.ofChange Rows.fnExactNaturalSolutionsSpec) :=
  OpenClaim.holds_of_wide 3 Try.f3 rfl rfl rfl rfl rfl rfl rfl ⟨rfl, rfl, rfl, rfl, rfl⟩ rfl rfl rfl rfl rfl (by kernel_rfl) Try.func3 (by kernel_rfl)
    (of_decide_eq_true (by kernel_rfl)) (by unfold Func.isWrapper; rw [if_neg (of_decide_eq_false (by kernel_rfl))]; exact ⟨rfl, rfl⟩)
    (fun os started H enc _ => lifted os started H enc)

theorem proved : Rows.FnExactNaturalSolutionsSaid := over
#print axioms proved
end Go.Proofs.Ytikpiigamnpafaa.lawFnExactNaturalSolutions
