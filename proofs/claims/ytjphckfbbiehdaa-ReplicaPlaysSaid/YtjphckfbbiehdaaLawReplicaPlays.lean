/- The law ReplicaPlays: for every input that can be read the call returns true, and each argument reads as it read before; no condition. -/
import Derived.Test.YtjphckfbbiehdaaSReplicaPlays0
import Derived.Test.YtjphckfbbiehdaaSReplicaPlays39
namespace Go.Proofs.Ytjphckfbbiehdaa.lawReplicaPlays
open Go.ChangeShapes Go.WideShapes Go.ChangeAt Go.RowKit Go.Joins
set_option linter.unusedVariables false
set_option maxRecDepth 100000 in
theorem lifted (os : Os) (started : os.Started) (H : Type) (enc : TypeId × Value → H) :
    ReturnsInHanded {} Try.checked os 11 .any (Rows.replicaPlaysSpec.pre6 enc Try.prog Try.f11 Rows.replicaPlaysRow.domain false) (Rows.replicaPlaysSpec.post enc Try.prog Try.f11 false true false false) := by
  refine returnsInHanded_of_change (C := Try.checked) own started (by kernel_rfl) Try.func11
    (ChangeSpec.witness6 (enc := enc) (C := Try.checked) false ⟨#[], #[.agg #[.slice none 0 0, .slice none 0 0], .slice none 0 0], []⟩ 8 (by kernel_rfl) (by kernel_rfl) (by kernel_rfl) (by kernel_rfl)) ?_
  intro W base args ds gs before hval0 hW hcnd hsz
  have hval : ∀ (j : Nat) t v, Try.f11.params[j]? = some t → args[j]? = some v → Value.okWide Try.prog W .any base t v := hval0
  have hW' := hW
  obtain ⟨p, q, hA0, hV, rfl, hfz, hnd⟩ := hW
  have hA : DataW.TrodAll enc Try.prog W 0 (fun _ => true) true Try.f11.params.toList args.toList ds p := hA0
  rw [Try.params11] at hA hval
  obtain ⟨v0, vs0, d0, ds0, p0, q0, hargs, rfl, rfl, h0, r0⟩ := trodAll_cons hA
  obtain ⟨v1, vs1, d1, ds1, p1, q1, rfl, rfl, rfl, h1, r1⟩ := trodAll_cons r0
  obtain ⟨rfl, rfl, rfl⟩ := trodAll_nil r1
  obtain rfl : args = #[v0, v1] := by cases args; simp_all
  obtain ⟨rfl, rfl⟩ := trodVars_none hV
  obtain ⟨cc0, cc1, y0, y1, mm, rfl, rfl, rfl, hy0, hy1⟩ := open_agg2 Try.underlying27 (by kernel_rfl) (by kernel_rfl) (hval 0 27 v0 rfl rfl) h0
  obtain ⟨AO, nO, cO, obs, e0, _, hO, hcp⟩ := trod_objsC Try.underlying24 Try.underlying119 (by kernel_rfl) (by kernel_rfl) rfl Try.underlying25 Try.underlying107 (by kernel_rfl) (by kernel_rfl) Try.underlying4 Try.underlying2 hy0
  obtain ⟨AR, nR, cR, roots, e1, _, hR⟩ := trod_vals Try.underlying25 Try.underlying107 (by kernel_rfl) (by kernel_rfl) Try.underlying4 Try.underlying2 hy1
  simp at e0 e1
  subst e0 e1
  obtain ⟨Ad, nd, cd, ds, rfl, _, _, hD⟩ := open_dos Try.underlying22 Try.underlying39 (by kernel_rfl) (by kernel_rfl) rfl (by
    intro j f hf
    rcases j with _ | _ | _ | _ | _ | j
    · obtain rfl := Option.some.inj hf; exact Try.underlying3
    · obtain rfl := Option.some.inj hf; exact Try.underlying3
    · obtain rfl := Option.some.inj hf; exact Try.underlying3
    · obtain rfl := Option.some.inj hf; exact Try.underlying3
    · obtain rfl := Option.some.inj hf; exact Try.underlying2
    · cases hf) (hval 1 22 v1 rfl rfl) h1
  clear hA0 hval0
  refine (repPlays_walk W AO AR Ad nO cO nR cR nd cd obs roots ds hcp hO hR hD).mono fun e W' ⟨he, hb⟩ => ?_
  subst he
  exact ⟨_, rfl, law_post laidOut (by rw [Try.params11]; intro t ht; simp at ht; rcases ht with rfl | rfl <;> exact ⟨by kernel_rfl, of_decide_eq_true (by kernel_rfl)⟩) rfl Try.underlying4 rfl hW' rfl rfl rfl hb⟩
theorem over : Rows.replicaPlaysRow.holds Try.pinned (OpenSpec.ofChange Rows.replicaPlaysSpec) :=
  OpenClaim.holds_of_wide 11 Try.f11 rfl rfl rfl rfl rfl rfl rfl ⟨rfl, rfl, rfl, rfl, rfl⟩ rfl rfl rfl rfl rfl (by kernel_rfl) Try.func11 (by kernel_rfl)
    (of_decide_eq_true (by kernel_rfl)) (by unfold Func.isWrapper; rw [if_neg (of_decide_eq_false (by kernel_rfl))]; exact ⟨rfl, rfl⟩)
    (fun os started H enc _ => lifted os started H enc)
theorem proved : Rows.ReplicaPlaysSaid := over
#print axioms proved
end Go.Proofs.Ytjphckfbbiehdaa.lawReplicaPlays
