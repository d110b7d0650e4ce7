/- Part of a proof. -/
import Derived.Test.YtjphckfbbiehdaaGreatSTopAll0
import Derived.Test.YtjphckfbbiehdaaGreatSTopAll8
import Derived.Test.YtjphckfbbiehdaaGreatSTopAll39
import Derived.Test.YtjphckfbbiehdaaGreatSTopAll38
namespace Go.Proofs.YtjphckfbbiehdaaGreat.lawTopAll
open Go.ChangeShapes Go.WideShapes Go.ChangeAt Go.RowKit Go.Joins
set_option linter.unusedVariables false
set_option maxRecDepth 100000 in
theorem lifted (os:Os) (started:os.Started) (H:Type) (enc:TypeId × Value → H) :
    ReturnsInHanded {} Tryz.checked os 3 .any (Rows.topAllSpec.pre6 enc Tryz.prog Tryz.f3 Rows.topAllRow.domain false) (Rows.topAllSpec.post enc Tryz.prog Tryz.f3 false true false false):=by
  refine returnsInHanded_of_change_sized (C:=Tryz.checked) own started (by kernel_rfl) Tryz.func3
    (ChangeSpec.witness6 (enc:=enc) (C:=Tryz.checked) false ⟨#[],#[.agg #[.slice none 0 0,.slice none 0 0],.int .i64 0,.int .i64 0,.slice none 0 0],[]⟩ 8 (by kernel_rfl) (by kernel_rfl) (by kernel_rfl) (by kernel_rfl)) ?_
  intro W base args ds gs before hval0 hW hcnd hz hsz
  have hval:∀ (j:Nat) t v,Tryz.f3.params[j]?=some t → args[j]?=some v → Value.okWide Tryz.prog W .any base t v:=hval0
  have hW':=hW
  obtain ⟨p,q,hA0,hV,rfl,hfz,hnd⟩:=hW
  have hA:DataW.TrodAll enc Tryz.prog W 0 (fun _ => true) true Tryz.f3.params.toList args.toList ds p:=hA0
  rw [Tryz.params3] at hA hval
  obtain ⟨v0,vs0,d0,ds0,p0,q0,hargs,rfl,rfl,h0,r0⟩:=trodAll_cons hA
  obtain ⟨v1,vs1,d1,ds1,p1,q1,rfl,rfl,rfl,h1,r1⟩:=trodAll_cons r0
  obtain ⟨v2,vs2,d2,ds2,p2,q2,rfl,rfl,rfl,h2,r2⟩:=trodAll_cons r1
  obtain ⟨v3,vs3,d3,ds3,p3,q3,rfl,rfl,rfl,h3,r3⟩:=trodAll_cons r2
  obtain ⟨rfl,rfl,rfl⟩:=trodAll_nil r3
  obtain rfl:args=#[v0,v1,v2,v3]:=by cases args; simp_all
  obtain ⟨rfl,rfl⟩:=trodVars_none hV
  obtain ⟨cc0,cc1,y0,y1,mm,rfl,rfl,rfl,hy0,hy1⟩:=open_agg2 Tryz.underlying25 (by kernel_rfl) (by kernel_rfl) (hval 0 25 v0 rfl rfl) h0
  obtain ⟨AO,nO,cO,obs,e0,_,hO,hcp⟩:=trod_objsC Tryz.underlying22 Tryz.underlying83 (by kernel_rfl) (by kernel_rfl) rfl Tryz.underlying23 Tryz.underlying63 (by kernel_rfl) (by kernel_rfl) Tryz.underlying4 Tryz.underlying2 hy0
  obtain ⟨AR,nR,cR,roots,e1,_,hR⟩:=trod_vals Tryz.underlying23 Tryz.underlying63 (by kernel_rfl) (by kernel_rfl) Tryz.underlying4 Tryz.underlying2 hy1
  simp at e0 e1
  subst e0 e1
  obtain ⟨bq,rfl,rfl,rfl,wbq⟩:=open_int Tryz.underlying3 (hval 1 3 v1 rfl rfl) h1
  obtain ⟨rr,rfl,rfl,rfl,wrr⟩:=open_int Tryz.underlying3 (hval 2 3 v2 rfl rfl) h2
  obtain ⟨Ad,nd,cd,ds,rfl,_,_,hD⟩:=open_dos Tryz.underlying26 Tryz.underlying72 (by kernel_rfl) (by kernel_rfl) rfl (by
    intro j f hf
    rcases j with _ | _ | _ | _ | _ | j
    · obtain rfl:=Option.some.inj hf; exact Tryz.underlying3
    · obtain rfl:=Option.some.inj hf; exact Tryz.underlying3
    · obtain rfl:=Option.some.inj hf; exact Tryz.underlying3
    · obtain rfl:=Option.some.inj hf; exact Tryz.underlying3
    · obtain rfl:=Option.some.inj hf; exact Tryz.underlying2
    · cases hf) (hval 3 26 v3 rfl rfl) h3
  have hroom:(nd + 1) * 40 ≤ 140737488355328:=slice_room hz (j:=3) (t:=26) (slice_len Tryz.underlying26 h3) (by rw [Tryz.params3]; rfl) rfl Tryz.underlying26 (by kernel_rfl)
  clear hA0 hval0 hz
  refine (topAll_walk W AO AR Ad nO cO nR cR nd cd obs roots ds bq rr hcp hO hR hD hroom).mono fun e W' ⟨he,hb⟩ => ?_
  subst he
  exact ⟨_,rfl,law_post laidOut (by rw [Tryz.params3]; intro t ht; simp at ht; rcases ht with rfl | rfl | rfl <;> exact ⟨by kernel_rfl,of_decide_eq_true (by kernel_rfl)⟩) rfl Tryz.underlying4 rfl hW' rfl rfl rfl hb⟩
set_option maxHeartbeats 8000000 in
theorem over:Rows.topAllRow.holds Tryz.pinned (OpenSpec.ofChange Rows.topAllSpec):=by
  refine OpenClaim.holds_of_wide 3 Tryz.f3 ?a1 ?a2 ?a3 ?a4 ?a5 ?a6 ?a7 ?a8 ?a9 ?a10 ?a11 ?a12 ?a13 ?b1 Tryz.func3 ?b2 ?b3 ?b4 (fun os started H enc _ => lifted os started H enc)
  case a1 => as_aux_lemma => rfl
  case a2 => as_aux_lemma => rfl
  case a3 => as_aux_lemma => rfl
  case a4 => as_aux_lemma => rfl
  case a5 => as_aux_lemma => rfl
  case a6 => as_aux_lemma => rfl
  case a7 => as_aux_lemma => rfl
  case a8 => as_aux_lemma => exact ⟨rfl,rfl,rfl,rfl,rfl⟩
  case a9 => as_aux_lemma => rfl
  case a10 => as_aux_lemma => rfl
  case a11 => as_aux_lemma => rfl
  case a12 => as_aux_lemma => rfl
  case a13 => as_aux_lemma => rfl
  case b1 => as_aux_lemma => kernel_rfl
  case b2 => as_aux_lemma => kernel_rfl
  case b3 => as_aux_lemma => exact of_decide_eq_true (by kernel_rfl)
  case b4 => as_aux_lemma => (unfold Func.isWrapper; rw [if_neg (of_decide_eq_false (by kernel_rfl))]; exact ⟨rfl,rfl⟩)
theorem proved:Rows.TopAllSaid:=over
#print axioms proved
end Go.Proofs.YtjphckfbbiehdaaGreat.lawTopAll
