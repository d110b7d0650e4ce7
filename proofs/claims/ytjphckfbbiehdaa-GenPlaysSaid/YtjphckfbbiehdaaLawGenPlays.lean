/- The law GenPlays: for every input that can be read the call returns true, and each argument reads as it read before; no condition. -/
import Derived.Test.YtjphckfbbiehdaaSGenPlays0
import Derived.Test.YtjphckfbbiehdaaSGenPlays43
import Derived.Test.YtjphckfbbiehdaaSGenPlays42
namespace Go.Proofs.Ytjphckfbbiehdaa.lawGenPlays
open Go.ChangeShapes Go.WideShapes Go.ChangeAt Go.RowKit Go.Joins
set_option linter.unusedVariables false
set_option maxRecDepth 100000 in
theorem lifted (os : Os) (started : os.Started) (H : Type) (enc : TypeId × Value → H) :
    ReturnsInHanded {} Try.checked os 12 .any (Rows.genPlaysSpec.pre6 enc Try.prog Try.f12 Rows.genPlaysRow.domain false) (Rows.genPlaysSpec.post enc Try.prog Try.f12 false true false false) := by
  refine returnsInHanded_of_change (C := Try.checked) own started (by kernel_rfl) Try.func12
    (ChangeSpec.witness6 (enc := enc) (C := Try.checked) false ⟨#[], #[.agg #[.slice none 0 0, .slice none 0 0], .int .i64 0, .slice none 0 0], []⟩ 8 (by kernel_rfl) (by kernel_rfl) (by kernel_rfl) (by kernel_rfl)) ?_
  intro W base args ds gs before hval0 hW hcnd hsz
  have hval : ∀ (j : Nat) t v, Try.f12.params[j]? = some t → args[j]? = some v → Value.okWide Try.prog W .any base t v := hval0
  have hW' := hW
  obtain ⟨p, q, hA0, hV, rfl, hfz, hnd⟩ := hW
  have hA : DataW.TrodAll enc Try.prog W 0 (fun _ => true) true Try.f12.params.toList args.toList ds p := hA0
  rw [Try.params12] at hA hval
  obtain ⟨v0, vs0, d0, ds0, p0, q0, hargs, rfl, rfl, h0, r0⟩ := trodAll_cons hA
  obtain ⟨v1, vs1, d1, ds1, p1, q1, rfl, rfl, rfl, h1, r1⟩ := trodAll_cons r0
  obtain ⟨v2, vs2, d2, ds2, p2, q2, rfl, rfl, rfl, h2, r2⟩ := trodAll_cons r1
  obtain ⟨rfl, rfl, rfl⟩ := trodAll_nil r2
  obtain rfl : args = #[v0, v1, v2] := by cases args; simp_all
  obtain ⟨rfl, rfl⟩ := trodVars_none hV
  obtain ⟨cc0, cc1, y0, y1, mm, rfl, rfl, rfl, hy0, hy1⟩ := open_agg2 Try.underlying27 (by kernel_rfl) (by kernel_rfl) (hval 0 27 v0 rfl rfl) h0
  obtain ⟨AO, nO, cO, obs, e0, _, hO, hcp⟩ := trod_objsC Try.underlying24 Try.underlying119 (by kernel_rfl) (by kernel_rfl) rfl Try.underlying25 Try.underlying107 (by kernel_rfl) (by kernel_rfl) Try.underlying4 Try.underlying2 hy0
  obtain ⟨AR, nR, cR, roots, e1, _, hR⟩ := trod_vals Try.underlying25 Try.underlying107 (by kernel_rfl) (by kernel_rfl) Try.underlying4 Try.underlying2 hy1
  simp at e0 e1
  subst e0 e1
  obtain ⟨bb, rfl, rfl, rfl, wb⟩ := open_int Try.underlying3 (hval 1 3 v1 rfl rfl) h1
  obtain ⟨Ad, nd, cd, ds, rfl, _, _, hD⟩ := open_dos Try.underlying22 Try.underlying39 (by kernel_rfl) (by kernel_rfl) rfl (by
    intro j f hf
    rcases j with _ | _ | _ | _ | _ | j
    · obtain rfl := Option.some.inj hf; exact Try.underlying3
    · obtain rfl := Option.some.inj hf; exact Try.underlying3
    · obtain rfl := Option.some.inj hf; exact Try.underlying3
    · obtain rfl := Option.some.inj hf; exact Try.underlying3
    · obtain rfl := Option.some.inj hf; exact Try.underlying2
    · cases hf) (hval 2 22 v2 rfl rfl) h2
  clear hA0 hval0
  refine (genPlays_walk W AO AR Ad nO cO nR cR nd cd obs roots ds bb hcp hO hR hD).mono fun e W' ⟨he, hb⟩ => ?_
  subst he
  exact ⟨_, rfl, law_post laidOut (by rw [Try.params12]; intro t ht; simp at ht; rcases ht with rfl | rfl | rfl <;> exact ⟨by kernel_rfl, of_decide_eq_true (by kernel_rfl)⟩) rfl Try.underlying4 rfl hW' rfl rfl rfl hb⟩
set_option maxHeartbeats 8000000 in
theorem over : Rows.genPlaysRow.holds Try.pinned (OpenSpec.ofChange Rows.genPlaysSpec) := by
  refine OpenClaim.holds_of_wide 12 Try.f12 ?a1 ?a2 ?a3 ?a4 ?a5 ?a6 ?a7 ?a8 ?a9 ?a10 ?a11 ?a12 ?a13 ?b1 Try.func12 ?b2 ?b3 ?b4 (fun os started H enc _ => lifted os started H enc)
  case a1 => as_aux_lemma => rfl
  case a2 => as_aux_lemma => rfl
  case a3 => as_aux_lemma => rfl
  case a4 => as_aux_lemma => rfl
  case a5 => as_aux_lemma => rfl
  case a6 => as_aux_lemma => rfl
  case a7 => as_aux_lemma => rfl
  case a8 => as_aux_lemma => exact ⟨rfl, rfl, rfl, rfl, rfl⟩
  case a9 => as_aux_lemma => rfl
  case a10 => as_aux_lemma => rfl
  case a11 => as_aux_lemma => rfl
  case a12 => as_aux_lemma => rfl
  case a13 => as_aux_lemma => rfl
  case b1 => as_aux_lemma => kernel_rfl
  case b2 => as_aux_lemma => kernel_rfl
  case b3 => as_aux_lemma => exact of_decide_eq_true (by kernel_rfl)
  case b4 => as_aux_lemma => (unfold Func.isWrapper; rw [if_neg (of_decide_eq_false (by kernel_rfl))]; exact ⟨rfl, rfl⟩)
theorem proved : Rows.GenPlaysSaid := over
#print axioms proved
end Go.Proofs.Ytjphckfbbiehdaa.lawGenPlays
