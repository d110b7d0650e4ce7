/- The law ShareTells: for every input that can be read the call returns true, and each argument reads as it read before; no condition. -/
import Derived.Test.YtikaaekhghcodaaSShareTells0
import Derived.Test.YtikaaekhghcodaaSShareTells16
namespace Go.Proofs.Ytikaaekhghcodaa.lawShareTells
open Go.ChangeShapes Go.WideShapes Go.ChangeAt Go.RowKit Go.Joins
set_option linter.unusedVariables false
set_option maxRecDepth 100000 in
theorem lifted (os : Os) (started : os.Started) (H : Type) (enc : TypeId × Value → H) :
    ReturnsInHanded {} Try.checked os 4 .any (Rows.shareTellsSpec.pre6 enc Try.prog Try.f4 Rows.shareTellsRow.domain false) (Rows.shareTellsSpec.post enc Try.prog Try.f4 false true false false) := by
  refine returnsInHanded_of_change (C := Try.checked) own started (by kernel_rfl) Try.func4
    (ChangeSpec.witness6 (enc := enc) (C := Try.checked) false ⟨#[], #[.agg #[.slice none 0 0, .slice none 0 0]], []⟩ 8 (by kernel_rfl) (by kernel_rfl) (by kernel_rfl) (by kernel_rfl)) ?_
  intro W base args ds gs before hval0 hW hcnd hsz
  have hval : ∀ (j : Nat) t v, Try.f4.params[j]? = some t → args[j]? = some v → Value.okWide Try.prog W .any base t v := hval0
  have hW' := hW
  obtain ⟨p, q, hA0, hV, rfl, hfz, hnd⟩ := hW
  have hA : DataW.TrodAll enc Try.prog W 0 (fun _ => true) true Try.f4.params.toList args.toList ds p := hA0
  rw [Try.params4] at hA hval
  obtain ⟨v0, vs0, d0, ds0, p0, q0, hargs, rfl, rfl, h0, r0⟩ := trodAll_cons hA
  obtain ⟨rfl, rfl, rfl⟩ := trodAll_nil r0
  obtain rfl : args = #[v0] := by cases args; simp_all
  obtain ⟨rfl, rfl⟩ := trodVars_none hV
  obtain ⟨cc0, cc1, y0, y1, mm, rfl, rfl, rfl, hy0, hy1⟩ := open_agg2 Try.underlying25 (by kernel_rfl) (by kernel_rfl) (hval 0 25 v0 rfl rfl) h0
  obtain ⟨AO, nO, cO, obs, e0, _, hO⟩ := trod_objs Try.underlying22 Try.underlying50 (by kernel_rfl) (by kernel_rfl) rfl Try.underlying23 Try.underlying48 (by kernel_rfl) (by kernel_rfl) Try.underlying4 Try.underlying2 hy0
  obtain ⟨AR, nR, cR, roots, e1, _, hR⟩ := trod_vals Try.underlying23 Try.underlying48 (by kernel_rfl) (by kernel_rfl) Try.underlying4 Try.underlying2 hy1
  simp at e0 e1
  subst e0 e1
  clear hA0 hval0
  refine (shareTells_walk W AO AR nO cO nR cR obs roots hO hR).mono fun e W' ⟨he, hb⟩ => ?_
  subst he
  exact ⟨_, rfl, law_post laidOut (by rw [Try.params4]; intro t ht; simp at ht; rcases ht with rfl <;> exact ⟨by kernel_rfl, of_decide_eq_true (by kernel_rfl)⟩) rfl Try.underlying4 rfl hW' rfl rfl rfl hb⟩
theorem over : Rows.shareTellsRow.holds Try.pinned (OpenSpec.ofChange Rows.shareTellsSpec) :=
  OpenClaim.holds_of_wide 4 Try.f4 rfl rfl rfl rfl rfl rfl rfl ⟨rfl, rfl, rfl, rfl, rfl⟩ rfl rfl rfl rfl rfl (by kernel_rfl) Try.func4 (by kernel_rfl)
    (of_decide_eq_true (by kernel_rfl)) (by unfold Func.isWrapper; rw [if_neg (of_decide_eq_false (by kernel_rfl))]; exact ⟨rfl, rfl⟩)
    (fun os started H enc _ => lifted os started H enc)
theorem proved : Rows.ShareTellsSaid := over
#print axioms proved
end Go.Proofs.Ytikaaekhghcodaa.lawShareTells
