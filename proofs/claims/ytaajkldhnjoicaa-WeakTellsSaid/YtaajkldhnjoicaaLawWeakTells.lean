/- The law WeakTells: for every input that can be read the call returns true, and each argument reads as it read before; no condition. -/
import Derived.Test.YtaajkldhnjoicaaGGraphTells0
import Derived.Test.YtaajkldhnjoicaaGWeakTells4
import Derived.Test.YtaajkldhnjoicaaGWeakTells0
import Derived.Test.YtaajkldhnjoicaaGTrialTells3
namespace Go.Proofs.Ytaajkldhnjoicaa.lawWeakTells
open Go.ChangeShapes Go.WideShapes Go.ChangeAt Go.RowKit Go.Joins
set_option linter.unusedVariables false

set_option maxRecDepth 100000 in
theorem lifted (os : Os) (started : os.Started) (H : Type) (enc : TypeId × Value → H) :
    ReturnsInHanded {} Try.checked os 12 .any (Rows.weakTellsSpec.pre6 enc Try.prog Try.f12 Rows.weakTellsRow.domain false) (Rows.weakTellsSpec.post enc Try.prog Try.f12 false true false false) := by
  refine returnsInHanded_of_change (C := Try.checked) own started (by kernel_rfl) Try.func12
    (ChangeSpec.witness6 (enc := enc) (C := Try.checked) false ⟨#[], #[.agg #[.slice none 0 0, .slice none 0 0], .slice none 0 0], []⟩ 8 (by kernel_rfl) (by kernel_rfl) (by kernel_rfl) (by kernel_rfl)) ?_
  intro W base args ds gs before hval0 hW hcnd hsz
  have hval : ∀ (j : Nat) t v, Try.f12.params[j]? = some t → args[j]? = some v → Value.okWide Try.prog W .any base t v := hval0
  have hW' := hW
  obtain ⟨p, q, hA0, hV, rfl, hfz, hnd⟩ := hW
  have hA : DataW.TrodAll enc Try.prog W 0 (fun _ => true) true Try.f12.params.toList args.toList ds p := hA0
  rw [Try.params12] at hA hval
  obtain ⟨v0, vs0, d0, ds0, p0, q0, hargs, rfl, rfl, h0, r0⟩ := trodAll_cons hA
  obtain ⟨v1, vs1, d1, ds1, p1, q1, rfl, rfl, rfl, h1, r1⟩ := trodAll_cons r0
  obtain ⟨rfl, rfl, rfl⟩ := trodAll_nil r1
  obtain rfl : args = #[v0, v1] := by cases args; simp_all
  obtain ⟨rfl, rfl⟩ := trodVars_none hV
  obtain ⟨cc0, cc1, y0, y1, mm, rfl, rfl, rfl, hy0, hy1⟩ := open_agg2 Try.underlying25 (by kernel_rfl) (by kernel_rfl) (hval 0 25 v0 rfl rfl) h0
  obtain ⟨AO, nO, cO, obs, e0, _, hO, hcp⟩ := trod_objsC Try.underlying22 Try.underlying83 (by kernel_rfl) (by kernel_rfl) rfl Try.underlying23 Try.underlying86 (by kernel_rfl) (by kernel_rfl) Try.underlying4 Try.underlying2 hy0
  obtain ⟨AR, nR, cR, roots, e1, _, hR⟩ := trod_vals Try.underlying23 Try.underlying86 (by kernel_rfl) (by kernel_rfl) Try.underlying4 Try.underlying2 hy1
  simp at e0 e1
  subst e0 e1
  obtain ⟨AF, nF, cF, from_, rfl, hnF, wF, hF⟩ := open_row Try.underlying35 (by kernel_rfl) Try.underlying3 (hval 1 35 v1 rfl rfl) h1
  clear hA0 hval0
  refine (weakTells_walk W AO AR AF nO cO nR cR nF cF obs roots from_ hcp hO hR hF).mono fun e W' ⟨he, hb⟩ => ?_
  subst he
  exact ⟨_, rfl, law_post laidOut (by rw [Try.params12]; intro t ht; simp at ht; rcases ht with rfl | rfl <;> exact ⟨by kernel_rfl, of_decide_eq_true (by kernel_rfl)⟩) rfl Try.underlying4 rfl hW' rfl rfl rfl hb⟩

theorem over : Rows.weakTellsRow.holds Try.pinned (OpenSpec.ofChange Rows.weakTellsSpec) :=
  OpenClaim.holds_of_wide 12 Try.f12 rfl rfl rfl rfl rfl rfl rfl ⟨rfl, rfl, rfl, rfl, rfl⟩ rfl rfl rfl rfl rfl (by kernel_rfl) Try.func12 (by kernel_rfl)
    (of_decide_eq_true (by kernel_rfl)) (by unfold Func.isWrapper; rw [if_neg (of_decide_eq_false (by kernel_rfl))]; exact ⟨rfl, rfl⟩)
    (fun os started H enc _ => lifted os started H enc)

theorem proved : Rows.WeakTellsSaid := over
#print axioms proved
end Go.Proofs.Ytaajkldhnjoicaa.lawWeakTells
