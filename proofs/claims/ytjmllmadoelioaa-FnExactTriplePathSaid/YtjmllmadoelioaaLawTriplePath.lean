/- The law FnExactTriplePath holds for all arguments: the walk is law_TriplePath; this text is the step to the given statement. -/
import Derived.Test.YtjmllmadoelioaaFrame
import Derived.Test.YtjmllmadoelioaaMkU
namespace Go.Proofs.Ytjmllmadoelioaa.lawFnExactTriplePath
open Go.ChangeShapes Go.WideShapes Go.ChangeAt Go.RowKit Go.Joins Go.Deep
set_option maxRecDepth 100000 in
theorem lifted (os : Os) (started : os.Started) (H : Type) (enc : TypeId × Value → H) :
    ReturnsInHanded {} Try.checked os 4 .any (Rows.fnExactTriplePathSpec.pre6 enc Try.prog Try.f4 Rows.fnExactTriplePathRow.domain false) (Rows.fnExactTriplePathSpec.post enc Try.prog Try.f4 false true false false) := by
  refine returnsInHanded_of_change (C := Try.checked) Try.own started (by kernel_rfl) Try.func4
    (ChangeSpec.witness6 (enc := enc) (C := Try.checked) false ⟨#[], #[.agg #[.int .i64 0, .int .i64 0, .int .i64 0]], []⟩ 8 (by kernel_rfl) (by kernel_rfl) (by kernel_rfl) (by kernel_rfl)) ?_
  intro W base args ds gs before hval0 hW hcnd _
  have hval : ∀ (j : Nat) t v, Try.f4.params[j]? = some t → args[j]? = some v → Value.okWide Try.prog W .any base t v := hval0
  have hW' := hW
  obtain ⟨p, q, hA0, hV, _, _, _⟩ := hW
  have hA : DataW.TrodAll enc Try.prog W 0 (fun _ => true) true Try.f4.params.toList args.toList ds p := hA0
  clear hval0 hA0 hcnd
  rw [Try.params4] at hA hval
  obtain ⟨v0, d0, rfl, rfl, h0⟩ := trodAll_one hA
  obtain ⟨rfl, _⟩ := trodVars_none hV
  obtain ⟨a0x, a0y, a0z, rfl, w0x, w0y, w0z⟩ := openI3 Try.underlying23 (by kernel_rfl) (by kernel_rfl) Try.underlying2 Try.underlying2 Try.underlying2 (hval 0 23 v0 rfl rfl) h0
  refine (law_TriplePath a0x a0y a0z W).mono fun e W' ⟨he, hb⟩ => ?_
  subst he
  exact ⟨_, rfl, law_post Try.laidOut (by kernel_rfl) (tb := 4) rfl Try.underlying4 rfl rfl hW' hb⟩

theorem over : Rows.fnExactTriplePathRow.holds Try.pinned (OpenSpec.ofChange Rows.fnExactTriplePathSpec) :=
  OpenClaim.holds_of_wide 4 Try.f4 rfl rfl rfl rfl rfl rfl rfl ⟨rfl, rfl, rfl, rfl, rfl⟩ rfl rfl rfl rfl rfl (by kernel_rfl) Try.func4 (by kernel_rfl)
    (of_decide_eq_true (by kernel_rfl)) (by unfold Func.isWrapper; rw [if_neg (of_decide_eq_false (by kernel_rfl))]; exact ⟨rfl, rfl⟩)
    (fun os started H enc _ => lifted os started H enc)

theorem proved : Rows.FnExactTriplePathSaid := over
#print axioms proved
end Go.Proofs.Ytjmllmadoelioaa.lawFnExactTriplePath
