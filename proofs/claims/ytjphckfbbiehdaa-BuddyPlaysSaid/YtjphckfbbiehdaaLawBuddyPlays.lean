/- The law BuddyPlays: for every input that can be read the call returns true, and each argument reads as it read before; no condition. -/
import Derived.Test.YtjphckfbbiehdaaSBuddyPlays0
import Derived.Test.YtjphckfbbiehdaaSBuddyPlays21
namespace Go.Proofs.Ytjphckfbbiehdaa.lawBuddyPlays
open Go.ChangeShapes Go.WideShapes Go.ChangeAt Go.RowKit Go.Joins
set_option linter.unusedVariables false
set_option maxRecDepth 100000 in
theorem lifted (os : Os) (started : os.Started) (H : Type) (enc : TypeId × Value → H) :
    ReturnsInHanded {} Try.checked os 6 .any (Rows.buddyPlaysSpec.pre6 enc Try.prog Try.f6 Rows.buddyPlaysRow.domain false) (Rows.buddyPlaysSpec.post enc Try.prog Try.f6 false true false false) := by
  refine returnsInHanded_of_change (C := Try.checked) own started (by kernel_rfl) Try.func6
    (ChangeSpec.witness6 (enc := enc) (C := Try.checked) false ⟨#[], #[.int .i64 0, .slice none 0 0], []⟩ 8 (by kernel_rfl) (by kernel_rfl) (by kernel_rfl) (by kernel_rfl)) ?_
  intro W base args ds gs before hval0 hW hcnd hsz
  have hval : ∀ (j : Nat) t v, Try.f6.params[j]? = some t → args[j]? = some v → Value.okWide Try.prog W .any base t v := hval0
  have hW' := hW
  obtain ⟨p, q, hA0, hV, rfl, hfz, hnd⟩ := hW
  have hA : DataW.TrodAll enc Try.prog W 0 (fun _ => true) true Try.f6.params.toList args.toList ds p := hA0
  rw [Try.params6] at hA hval
  obtain ⟨v0, vs0, d0, ds0, p0, q0, hargs, rfl, rfl, h0, r0⟩ := trodAll_cons hA
  obtain ⟨v1, vs1, d1, ds1, p1, q1, rfl, rfl, rfl, h1, r1⟩ := trodAll_cons r0
  obtain ⟨rfl, rfl, rfl⟩ := trodAll_nil r1
  obtain rfl : args = #[v0, v1] := by cases args; simp_all
  obtain ⟨rfl, rfl⟩ := trodVars_none hV
  obtain ⟨cc, rfl, rfl, rfl, wcc⟩ := open_int Try.underlying3 (hval 0 3 v0 rfl rfl) h0
  obtain ⟨Aq, nd, cd, qs, rfl, _, _, hwf, hQ⟩ := open_asks Try.underlying45 Try.underlying127 (by kernel_rfl) (by kernel_rfl) rfl (by
    intro j f hf
    rcases j with _ | _ | j
    · obtain rfl := Option.some.inj hf; exact Try.underlying3
    · obtain rfl := Option.some.inj hf; exact Try.underlying3
    · cases hf) (hval 1 45 v1 rfl rfl) h1
  clear hA0 hval0
  refine (buddyPlays_walk W cc Aq nd cd qs hwf hQ).mono fun e W' ⟨he, hb⟩ => ?_
  subst he
  exact ⟨_, rfl, law_post laidOut (by rw [Try.params6]; intro t ht; simp at ht; rcases ht with rfl | rfl <;> exact ⟨by kernel_rfl, of_decide_eq_true (by kernel_rfl)⟩) rfl Try.underlying4 rfl hW' rfl rfl rfl hb⟩
theorem over : Rows.buddyPlaysRow.holds Try.pinned (OpenSpec.ofChange Rows.buddyPlaysSpec) :=
  OpenClaim.holds_of_wide 6 Try.f6 rfl rfl rfl rfl rfl rfl rfl ⟨rfl, rfl, rfl, rfl, rfl⟩ rfl rfl rfl rfl rfl (by kernel_rfl) Try.func6 (by kernel_rfl)
    (of_decide_eq_true (by kernel_rfl)) (by unfold Func.isWrapper; rw [if_neg (of_decide_eq_false (by kernel_rfl))]; exact ⟨rfl, rfl⟩)
    (fun os started H enc _ => lifted os started H enc)
theorem proved : Rows.BuddyPlaysSaid := over
#print axioms proved
end Go.Proofs.Ytjphckfbbiehdaa.lawBuddyPlays
