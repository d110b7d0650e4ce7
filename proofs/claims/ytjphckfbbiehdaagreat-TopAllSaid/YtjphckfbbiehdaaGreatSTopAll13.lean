/- Part of a proof. -/
import Derived.Test.YtjphckfbbiehdaaGreatSTopAll12
import Derived.Test.YtjphckfbbiehdaaGreatSTopAll11
set_option linter.unusedSimpArgs false
set_option linter.unusedVariables false
namespace Go.Proofs.YtjphckfbbiehdaaGreat
open Go.RowKit
set_option maxRecDepth 100000 in
set_option maxHeartbeats 16000000 in
theorem kdo_5 (K:MemK) (h:K.Ok) {s:K.St} {w:World} (hP:(K.item s).P w) (ok1:K.ok1 (K.abs s)) (to fr at_ n:Int) (hw:wrongM ⟨5,to,fr,at_,n⟩=0):K.DoOk s w ⟨5,to,fr,at_,n⟩:=by
  have ok:=h.ok_of _ ok1
  unfold MemK.DoOk
  obtain ⟨F,hF⟩:∃ F,(K.item s).fp=F:=⟨_,rfl⟩
  obtain ⟨g,hg⟩:∃ g,w.heap.size=g:=⟨_,rfl⟩
  have hS0:=((Sep.start hP).blkAt 72 (DoV.cells ⟨5,to,fr,at_,n⟩) (g:=g) hg).blkAt 74 #[.int .i64 0,.bool false,.int .i64 0] (g:=g + 1) (by simp [hg])
  rw [hF] at hS0 ⊢
  have h8:(K.regs (K.abs s)).length=8:=h.r8 _ ok
  have HST:=hide (show K.step ⟨5,to,fr,at_,n⟩ (K.abs s)=if K.fErr (K.abs s) (rgA (K.regs (K.abs s)) fr) at_ ≠ 0 then (⟨K.fErr (K.abs s) (rgA (K.regs (K.abs s)) fr) at_,false,0⟩,K.abs s) else (⟨0,false,0⟩,K.sh (K.abs s) to.toNat (((K.fld (K.abs s) (rgA (K.regs (K.abs s)) fr).2.toNat).getD []).getD at_.toNat (false,0))) from by
    unfold MemK.step
    rw [if_neg (by rw [hw]; simp)]
    unfold MemK.kstep
    dsimp only
    rw [if_neg (show ¬(5:Int)=1 by decide),if_neg (show ¬(5:Int)=2 by decide),if_neg (show ¬(5:Int)=3 by decide),if_neg (show ¬(5:Int)=4 by decide),if_pos rfl])
  obtain ⟨res,hres⟩:∃ r,K.step ⟨5,to,fr,at_,n⟩ (K.abs s)=r:=⟨_,rfl⟩
  rw [hres] at HST ⊢
  clear hres
  have HCW:=wrong_any ((w.alloc (.cells (DoV.cells ⟨5,to,fr,at_,n⟩) 72)).alloc (.cells #[.int .i64 0,.bool false,.int .i64 0] 74)) ⟨5,to,fr,at_,n⟩
  rw [hw] at HCW
  replace HCW:=hide HCW
  obtain ⟨t0,t1⟩:=wrongM_to hw (by show (5:Int) ≠ 7; decide)
  dsimp only at t0 t1
  obtain ⟨R,rfl⟩:=int_nat t0
  have hR:R < 8:=by omega
  rw [show ((R:Int)).toNat=R from by omega] at HST
  obtain ⟨u0,u1⟩:=wrongM_fr hw (by show (5:Int) ≠ 1; decide) (by show (5:Int) ≠ 2; decide)
  dsimp only at u0 u1
  obtain ⟨Q,rfl⟩:=int_nat u0
  have hQ:Q < 8:=by omega
  have HS0:=hide hS0
  unfold DoV.cells at HCW HS0 ⊢
  dsimp only at HCW HS0 ⊢
  obtain ⟨a1,a2,a3,a4⟩:=HS0.out.rules 1 (g:=g) (t:=72) rfl
  have e0:=(a1 0).trans (show _=some (.int .i64 5) from rfl)
  have e1:=(a1 1).trans (show _=some (.int .i64 _) from rfl)
  have e2:=(a1 2).trans (show _=some (.int .i64 _) from rfl)
  have e3:=(a1 3).trans (show _=some (.int .i64 _) from rfl)
  have e4:=(a1 4).trans (show _=some (.int .i64 _) from rfl)
  have HOK:=hide ok
  have HOK1:=hide ok1
  have HH:=hide h
  clear hS0 hF hP a1 a4 hw ok ok1 h
  go_enter Tryz.func15,Tryz.ntmps15
  go_wp2_with fail
  refine HCW.out.mono ?_
  rintro e w1 ⟨rfl,hb1⟩
  have hS1:=HS0.out.below hb1
  obtain ⟨b1,b2,b3,b4⟩:=hS1.rules 2 (g:=g + 1) (t:=74) rfl
  have f0:=(b1 0).trans (show _=some (.int .i64 0) from rfl)
  have f1:=(b1 1).trans (show _=some (.bool false) from rfl)
  have f2:=(b1 2).trans (show _=some (.int .i64 0) from rfl)
  obtain ⟨a1,a2',a3',a4⟩:=hS1.rules 1 (g:=g) (t:=72) rfl
  have e0:=(a1 0).trans (show _=some (.int .i64 5) from rfl)
  have e1:=(a1 1).trans (show _=some (.int .i64 _) from rfl)
  have e2:=(a1 2).trans (show _=some (.int .i64 _) from rfl)
  have e3:=(a1 3).trans (show _=some (.int .i64 _) from rfl)
  have e4:=(a1 4).trans (show _=some (.int .i64 _) from rfl)
  clear a1 a4 b1 b4
  have HS1:=hide hS1
  clear hb1 HS0 HCW a2 a3
  have hP1:(K.item s).P w1:=hS1.get 0 rfl
  obtain ⟨i3,i4,i1,i2⟩:=K.cells hP1 h8 Q hQ
  have hvv:=K.vok_rg HH.out HOK.out (Q:Int)
  obtain ⟨v,hv⟩:∃ v,rgA (K.regs (K.abs s)) (Q:Int)=v:=⟨_,rfl⟩
  rw [hv] at i3 i4 hvv HST
  have HVV:=hide hvv
  clear hv hS1 hP1 hvv
  obtain ⟨bv,mv⟩:=v
  dsimp only at i3 i4
  go_wp2_with fail
  have q1:g ≠ w1.heap.size:=by omega
  have q2:K.Bm ≠ w1.heap.size:=by omega
  go_region_held3 (fun w' => w'.cell? ⟨g,2,none⟩=some (.int .i64 (Q:Int)) ∧ w'.cell? ⟨K.Bm,Q * 2,none⟩=some (.bool bv) ∧ w'.cell? ⟨K.Bm,Q * 2 + 1,none⟩=some (.int .i64 mv)) (simp (config:={ maxDischargeDepth:=8 }) [*,World.cell?_alloc_some]) (fail)
  have hSv:=(HS1.out.blkAt 63 #[.bool bv,.int .i64 mv] (g:=w1.heap.size) rfl).drew
  have CF:=kfield_any K HH.out (hSv.get 0 rfl) HOK.out (bv,mv) at_ HVV.out
  dsimp only at CF
  obtain ⟨x,hx⟩:∃ x,K.fErr (K.abs s) (bv,mv) at_=x:=⟨_,rfl⟩
  rw [hx] at CF HST
  have HX:=hide hx
  have HCF:=hide CF
  obtain ⟨gv,hgv⟩:∃ g,w1.heap.size=g:=⟨_,rfl⟩
  obtain ⟨v1,v2,v3,_⟩:=hSv.rules 3 (g:=w1.heap.size) (t:=63) rfl
  have v4:=(v1 0).trans (show _=some (.bool bv) from rfl)
  have v5:=(v1 1).trans (show _=some (.int .i64 mv) from rfl)
  obtain ⟨b1,b2,b3,b4⟩:=hSv.rules 2 (g:=g + 1) (t:=74) rfl
  have f0:=(b1 0).trans (show _=some (.int .i64 0) from rfl)
  have f1:=(b1 1).trans (show _=some (.bool false) from rfl)
  have f2:=(b1 2).trans (show _=some (.int .i64 0) from rfl)
  obtain ⟨a1,a2',a3',a4⟩:=hSv.rules 1 (g:=g) (t:=72) rfl
  have e0:=(a1 0).trans (show _=some (.int .i64 5) from rfl)
  have e1:=(a1 1).trans (show _=some (.int .i64 _) from rfl)
  have e2:=(a1 2).trans (show _=some (.int .i64 _) from rfl)
  have e3:=(a1 3).trans (show _=some (.int .i64 _) from rfl)
  have e4:=(a1 4).trans (show _=some (.int .i64 _) from rfl)
  clear a1 a4 b1 b4
  have HSV:=hide hSv
  clear hSv CF hx v1
  obtain ⟨W,hW⟩:∃ W,(w1.alloc (.cells #[.bool bv,.int .i64 mv] 63)).drew=W:=⟨_,rfl⟩
  rw [hW] at HSV HCF v2 v3 v4 v5 f0 f1 f2 e0 e1 e2 e3 e4 ⊢
  clear hW q1 q2 i1 i2 i3 i4
  try rw [hgv] at v4
  try rw [hgv] at v5
  try rw [hgv] at HSV
  try rw [hgv] at v2
  rw [hgv]
  clear hgv
  go_wp2_with fail
  refine HCF.out.mono ?_
  rintro e w3 ⟨rfl,hb3⟩
  have hS3:=HSV.out.below hb3
  obtain ⟨b1,b2,b3,b4⟩:=hS3.rules 2 (g:=g + 1) (t:=74) rfl
  have f0:=(b1 0).trans (show _=some (.int .i64 0) from rfl)
  have f1:=(b1 1).trans (show _=some (.bool false) from rfl)
  have f2:=(b1 2).trans (show _=some (.int .i64 0) from rfl)
  obtain ⟨a1,a2',a3',a4⟩:=hS3.rules 1 (g:=g) (t:=72) rfl
  have e0:=(a1 0).trans (show _=some (.int .i64 5) from rfl)
  have e1:=(a1 1).trans (show _=some (.int .i64 _) from rfl)
  have e2:=(a1 2).trans (show _=some (.int .i64 _) from rfl)
  have e3:=(a1 3).trans (show _=some (.int .i64 _) from rfl)
  have e4:=(a1 4).trans (show _=some (.int .i64 _) from rfl)
  clear a1 a4 b1 b4
  obtain ⟨v1,v2,v3,_⟩:=hS3.rules 3 (g:=gv) (t:=63) rfl
  have v4:=(v1 0).trans (show _=some (.bool bv) from rfl)
  have v5:=(v1 1).trans (show _=some (.int .i64 mv) from rfl)
  clear hb3 HSV HCF v1
  have HS3:=hide hS3
  clear hS3 HS1
  by_cases hxz:x=0
  · subst hxz
    obtain ⟨rfl,i,k,fs,rfl,rfl,hfs,hk,h4,h1k⟩:=kerr_facts K HH.out HOK.out HVV.out HX.out
    obtain ⟨i3,i4,i1,i2⟩:=K.cells (HS3.out.get 0 rfl) h8 Q hQ
    have hS3d:=HS3.out.drew
    obtain ⟨u,hu⟩:∃ u,fs[k]=u:=⟨_,rfl⟩
    have huu:K.vok (K.abs s) u:=by rw [← hu]; exact HH.out.vf _ _ _ _ HOK.out hfs (List.getElem_mem hk)
    have CP:=HH.out.cG s w3.drew i k fs hk (hS3d.get 0 rfl) HOK.out hfs
    rw [hu] at CP
    have HU:=hide (show fs[k]?=some u from (List.getElem?_eq_getElem hk).trans (congrArg some hu))
    have CMG:=hide (fun (W:World) (hP:(K.item s).P W) => kset_any K HH.out hP HOK.out u hR huu)
    have hme:=HH.out.mG s w3.drew (hS3d.get 0 rfl)
    have hent:=HH.out.eG
    obtain ⟨fG,hfG⟩:∃ x,K.fG=x:=⟨_,rfl⟩
    obtain ⟨rG,hrG⟩:∃ x,K.rG s=x:=⟨_,rfl⟩
    simp only [hfG,hrG] at CP hme hent
    replace CP:=hide CP
    have HRS:=hide (show (K.regs (K.setr (K.hold (K.abs s) R u) R u)).length=8 from by rw [HH.out.regs_set,HH.out.regs_hold,List.length_set]; exact h8)
    obtain ⟨bu,mu⟩:=u
    dsimp only at CP CMG HRS
    have HFS:=hide hfs
    clear hS3d hu HVV i3 i4 huu hfG hrG hfs
    go_wp2_with fail
    go_region_held3 (fun w' => w'.cell? ⟨K.Bm,16,none⟩=some (.iface K.T K.p) ∧ w'.cell? ⟨gv,1,none⟩=some (.int .i64 (i:Int)) ∧ w'.cell? ⟨g,3,none⟩=some (.int .i64 (k:Int)) ∧ w'.cell? ⟨g,1,none⟩=some (.int .i64 (R:Int))) (go_keep)
      (first
       | ((with_reducible refine CP.out.mono ?_); rintro e w4 ⟨rfl,hb4⟩; have hS4:=HS3.out.drew.below hb4; obtain ⟨_,_,k1,k2⟩:=K.cells (hS4.get 0 rfl) h8 Q hQ; obtain ⟨a1,_,a3,_⟩:=hS4.rules 1 (g:=g) (t:=72) rfl; have k5:=(a1 1).trans (show _=some (.int .i64 (R:Int)) from rfl); have k6:=(a1 3).trans (show _=some (.int .i64 (k:Int)) from rfl); obtain ⟨c1,_,c3,_⟩:=hS4.rules 3 (g:=gv) (t:=63) rfl; have k7:=(c1 1).trans (show _=some (.int .i64 (i:Int)) from rfl); have CM:=hide (CMG.out _ (hS4.get 0 rfl)); have HS4:=hide hS4; clear hb4 hS4 a1 c1 hme)
       | (go_at_call 39; (with_reducible refine CM.out.mono ?_); rintro e w5 ⟨⟨u,rfl⟩,s5,hab5,hP5⟩; have hS5:=HS4.out.call 0 rfl hP5; have HAB:=hide hab5; obtain ⟨_,_,k1,k2⟩:=K.cells (hS5.get 0 rfl) (by rw [HAB.out]; exact HRS.out) Q hQ; obtain ⟨a1,_,a3,_⟩:=hS5.rules 1 (g:=g) (t:=72) rfl; have k5:=(a1 1).trans (show _=some (.int .i64 (R:Int)) from rfl); have k6:=(a1 3).trans (show _=some (.int .i64 (k:Int)) from rfl); obtain ⟨c1,_,c3,_⟩:=hS5.rules 3 (g:=gv) (t:=63) rfl; have k7:=(c1 1).trans (show _=some (.int .i64 (i:Int)) from rfl); have HS5:=hide hS5; clear hP5 hS5 a1 c1 hab5))
    all_goals
      have hS5:=HS5.out
      obtain ⟨b1,b2,b3,b4⟩:=hS5.rules 2 (g:=g + 1) (t:=74) rfl
      have f0:=(b1 0).trans (show _=some (.int .i64 0) from rfl)
      have f1:=(b1 1).trans (show _=some (.bool false) from rfl)
      have f2:=(b1 2).trans (show _=some (.int .i64 0) from rfl)
      clear hS5 b1 b4
      go_wp2_with fail
      have hr:=HST.out
      rw [if_neg (by simp)] at hr
      try dsimp only at hr
      rw [show ((i:Int)).toNat=i from by omega,show ((k:Int)).toNat=k from by omega,HFS.out,Option.getD_some,List.getD_eq_getElem?_getD,HU.out,Option.getD_some] at hr
      subst hr
      have hF:=(((HS5.out).set_ 2 (g:=g + 1) (t:=74) rfl 0 (.int .i64 0)).set_ 2 (g:=g + 1) (t:=74) rfl 1 (.bool false)).set_ 2 (g:=g + 1) (t:=74) rfl 2 (.int .i64 0)
      refine bodyPost_ret (v:=.agg #[.int .i64 0,.bool false,.int .i64 0]) (by simp [results,Tryz.results15,go_sem,f0,f1,f2]) rfl ⟨rfl,s5,HAB.out,hF.sub (by simp)⟩
  · have y1:(x != 0)=true:=by rw [bne_iff_ne]; exact hxz
    go_wp2_with fail
    have hr:=HST.out
    rw [if_pos hxz] at hr
    subst hr
    have hF:=(((HS3.out).set_ 2 (g:=g + 1) (t:=74) rfl 0 (.int .i64 x)).set_ 2 (g:=g + 1) (t:=74) rfl 1 (.bool false)).set_ 2 (g:=g + 1) (t:=74) rfl 2 (.int .i64 0)
    refine bodyPost_ret (v:=.agg #[.int .i64 x,.bool false,.int .i64 0]) (by simp [results,Tryz.results15,go_sem,f0,f1,f2]) rfl ⟨rfl,s,rfl,hF.sub (by simp)⟩
set_option maxRecDepth 100000 in
set_option maxHeartbeats 16000000 in
theorem kdo_6 (K:MemK) (h:K.Ok) {s:K.St} {w:World} (hP:(K.item s).P w) (ok1:K.ok1 (K.abs s)) (to fr at_ n:Int) (hw:wrongM ⟨6,to,fr,at_,n⟩=0):K.DoOk s w ⟨6,to,fr,at_,n⟩:=by
  have ok:=h.ok_of _ ok1
  unfold MemK.DoOk
  obtain ⟨F,hF⟩:∃ F,(K.item s).fp=F:=⟨_,rfl⟩
  obtain ⟨g,hg⟩:∃ g,w.heap.size=g:=⟨_,rfl⟩
  have hS0:=((Sep.start hP).blkAt 72 (DoV.cells ⟨6,to,fr,at_,n⟩) (g:=g) hg).blkAt 74 #[.int .i64 0,.bool false,.int .i64 0] (g:=g + 1) (by simp [hg])
  rw [hF] at hS0 ⊢
  have h8:(K.regs (K.abs s)).length=8:=h.r8 _ ok
  have HST:=hide (show K.step ⟨6,to,fr,at_,n⟩ (K.abs s)=(⟨0,false,if rgA (K.regs (K.abs s)) to=rgA (K.regs (K.abs s)) fr then 1 else 0⟩,K.abs s) from by
    unfold MemK.step
    rw [if_neg (by rw [hw]; simp)]
    unfold MemK.kstep
    dsimp only
    rw [if_neg (show ¬(6:Int)=1 by decide),if_neg (show ¬(6:Int)=2 by decide),if_neg (show ¬(6:Int)=3 by decide),if_neg (show ¬(6:Int)=4 by decide),if_neg (show ¬(6:Int)=5 by decide),if_pos rfl])
  obtain ⟨res,hres⟩:∃ r,K.step ⟨6,to,fr,at_,n⟩ (K.abs s)=r:=⟨_,rfl⟩
  rw [hres] at HST ⊢
  clear hres
  have HCW:=wrong_any ((w.alloc (.cells (DoV.cells ⟨6,to,fr,at_,n⟩) 72)).alloc (.cells #[.int .i64 0,.bool false,.int .i64 0] 74)) ⟨6,to,fr,at_,n⟩
  rw [hw] at HCW
  replace HCW:=hide HCW
  obtain ⟨t0,t1⟩:=wrongM_to hw (by show (6:Int) ≠ 7; decide)
  dsimp only at t0 t1
  obtain ⟨R,rfl⟩:=int_nat t0
  have hR:R < 8:=by omega
  obtain ⟨u0,u1⟩:=wrongM_fr hw (by show (6:Int) ≠ 1; decide) (by show (6:Int) ≠ 2; decide)
  dsimp only at u0 u1
  obtain ⟨Q,rfl⟩:=int_nat u0
  have hQ:Q < 8:=by omega
  have HS0:=hide hS0
  unfold DoV.cells at HCW HS0 ⊢
  dsimp only at HCW HS0 ⊢
  obtain ⟨a1,a2,a3,a4⟩:=HS0.out.rules 1 (g:=g) (t:=72) rfl
  have e0:=(a1 0).trans (show _=some (.int .i64 6) from rfl)
  have e1:=(a1 1).trans (show _=some (.int .i64 _) from rfl)
  have e2:=(a1 2).trans (show _=some (.int .i64 _) from rfl)
  have e3:=(a1 3).trans (show _=some (.int .i64 _) from rfl)
  have e4:=(a1 4).trans (show _=some (.int .i64 _) from rfl)
  have HOK:=hide ok
  have HOK1:=hide ok1
  have HH:=hide h
  clear hS0 hF hP a1 a4 hw ok ok1 h
  go_enter Tryz.func15,Tryz.ntmps15
  go_wp2_with fail
  refine HCW.out.mono ?_
  rintro e w1 ⟨rfl,hb1⟩
  have hS1:=HS0.out.below hb1
  obtain ⟨b1,b2,b3,b4⟩:=hS1.rules 2 (g:=g + 1) (t:=74) rfl
  have f0:=(b1 0).trans (show _=some (.int .i64 0) from rfl)
  have f1:=(b1 1).trans (show _=some (.bool false) from rfl)
  have f2:=(b1 2).trans (show _=some (.int .i64 0) from rfl)
  obtain ⟨a1,a2',a3',a4⟩:=hS1.rules 1 (g:=g) (t:=72) rfl
  have e0:=(a1 0).trans (show _=some (.int .i64 6) from rfl)
  have e1:=(a1 1).trans (show _=some (.int .i64 _) from rfl)
  have e2:=(a1 2).trans (show _=some (.int .i64 _) from rfl)
  have e3:=(a1 3).trans (show _=some (.int .i64 _) from rfl)
  have e4:=(a1 4).trans (show _=some (.int .i64 _) from rfl)
  clear a1 a4 b1 b4
  have HS1:=hide hS1
  clear hb1 HS0 HCW a2 a3
  have hP1:(K.item s).P w1:=hS1.get 0 rfl
  obtain ⟨i3,i4,_,i2⟩:=K.cells hP1 h8 Q hQ
  obtain ⟨i5,i6,_,_⟩:=K.cells hP1 h8 R hR
  obtain ⟨v,hv⟩:∃ v,rgA (K.regs (K.abs s)) (R:Int)=v:=⟨_,rfl⟩
  rw [hv] at i5 i6 HST
  obtain ⟨u,hu⟩:∃ v,rgA (K.regs (K.abs s)) (Q:Int)=v:=⟨_,rfl⟩
  rw [hu] at i3 i4 HST
  obtain ⟨bv,mv⟩:=v
  obtain ⟨bu,mu⟩:=u
  dsimp only at i3 i4 i5 i6
  obtain ⟨b,hb⟩:∃ b,decide (((bv,mv):Val)=(bu,mu))=b:=⟨_,rfl⟩
  have heq:∀ W,(binOp .eql 63 (.agg #[.bool bv,.int .i64 mv]) (.agg #[.bool bu,.int .i64 mu])).run Tryz.prog W=.ok (.bool b) W:=fun W => by rw [eq_val,hb]
  have hgd:=fun W x y => guard_val W x y bv bu mv mu
  have HB:=hide hb
  clear hb
  clear hv hu hP1 hS1
  go_wp2_with fail
  go_region_held3 (fun w' => w'.cell? ⟨g,1,none⟩=some (.int .i64 (R:Int)) ∧ w'.cell? ⟨g,2,none⟩=some (.int .i64 (Q:Int)) ∧ w'.cell? ⟨K.Bm,Q * 2,none⟩=some (.bool bu) ∧ w'.cell? ⟨K.Bm,Q * 2 + 1,none⟩=some (.int .i64 mu) ∧ w'.cell? ⟨K.Bm,R * 2,none⟩=some (.bool bv) ∧ w'.cell? ⟨K.Bm,R * 2 + 1,none⟩=some (.int .i64 mv)) (go_keep) (fail)
  cases b
  · go_wp2_with fail
    have hr:=HST.out
    rw [if_neg (of_decide_eq_false HB.out)] at hr
    subst hr
    have hF:=(((HS1.out.drew).set_ 2 (g:=g + 1) (t:=74) rfl 0 (.int .i64 0)).set_ 2 (g:=g + 1) (t:=74) rfl 1 (.bool false)).set_ 2 (g:=g + 1) (t:=74) rfl 2 (.int .i64 0)
    refine bodyPost_ret (v:=.agg #[.int .i64 0,.bool false,.int .i64 0]) (by simp [results,Tryz.results15,go_sem,f0,f1,f2]) rfl ⟨rfl,s,rfl,hF.sub (by simp)⟩
  · go_wp2_with fail
    have hr:=HST.out
    rw [if_pos (of_decide_eq_true HB.out)] at hr
    subst hr
    have hF:=(((HS1.out.drew).set_ 2 (g:=g + 1) (t:=74) rfl 0 (.int .i64 0)).set_ 2 (g:=g + 1) (t:=74) rfl 1 (.bool false)).set_ 2 (g:=g + 1) (t:=74) rfl 2 (.int .i64 1)
    refine bodyPost_ret (v:=.agg #[.int .i64 0,.bool false,.int .i64 1]) (by simp [results,Tryz.results15,go_sem,f0,f1,f2]) rfl ⟨rfl,s,rfl,hF.sub (by simp)⟩
set_option maxRecDepth 100000 in
set_option maxHeartbeats 16000000 in
theorem kdo_7 (K:MemK) (h:K.Ok) {s:K.St} {w:World} (hP:(K.item s).P w) (ok1:K.ok1 (K.abs s)) (to fr at_ n:Int) (hw:wrongM ⟨7,to,fr,at_,n⟩=0):K.DoOk s w ⟨7,to,fr,at_,n⟩:=by
  have ok:=h.ok_of _ ok1
  unfold MemK.DoOk
  obtain ⟨F,hF⟩:∃ F,(K.item s).fp=F:=⟨_,rfl⟩
  obtain ⟨g,hg⟩:∃ g,w.heap.size=g:=⟨_,rfl⟩
  have hS0:=((Sep.start hP).blkAt 72 (DoV.cells ⟨7,to,fr,at_,n⟩) (g:=g) hg).blkAt 74 #[.int .i64 0,.bool false,.int .i64 0] (g:=g + 1) (by simp [hg])
  rw [hF] at hS0 ⊢
  have h8:(K.regs (K.abs s)).length=8:=h.r8 _ ok
  have HST:=hide (show K.step ⟨7,to,fr,at_,n⟩ (K.abs s)=(⟨0,(rgA (K.regs (K.abs s)) fr).1,if (rgA (K.regs (K.abs s)) fr).1=true then K.len (K.abs s) (rgA (K.regs (K.abs s)) fr).2 else (rgA (K.regs (K.abs s)) fr).2⟩,K.abs s) from by
    unfold MemK.step
    rw [if_neg (by rw [hw]; simp)]
    unfold MemK.kstep
    dsimp only
    rw [if_neg (show ¬(7:Int)=1 by decide),if_neg (show ¬(7:Int)=2 by decide),if_neg (show ¬(7:Int)=3 by decide),if_neg (show ¬(7:Int)=4 by decide),if_neg (show ¬(7:Int)=5 by decide),if_neg (show ¬(7:Int)=6 by decide)])
  obtain ⟨res,hres⟩:∃ r,K.step ⟨7,to,fr,at_,n⟩ (K.abs s)=r:=⟨_,rfl⟩
  rw [hres] at HST ⊢
  clear hres
  have HCW:=wrong_any ((w.alloc (.cells (DoV.cells ⟨7,to,fr,at_,n⟩) 72)).alloc (.cells #[.int .i64 0,.bool false,.int .i64 0] 74)) ⟨7,to,fr,at_,n⟩
  rw [hw] at HCW
  replace HCW:=hide HCW
  obtain ⟨u0,u1⟩:=wrongM_fr hw (by show (7:Int) ≠ 1; decide) (by show (7:Int) ≠ 2; decide)
  dsimp only at u0 u1
  obtain ⟨Q,rfl⟩:=int_nat u0
  have hQ:Q < 8:=by omega
  have HS0:=hide hS0
  unfold DoV.cells at HCW HS0 ⊢
  dsimp only at HCW HS0 ⊢
  obtain ⟨a1,a2,a3,a4⟩:=HS0.out.rules 1 (g:=g) (t:=72) rfl
  have e0:=(a1 0).trans (show _=some (.int .i64 7) from rfl)
  have e1:=(a1 1).trans (show _=some (.int .i64 _) from rfl)
  have e2:=(a1 2).trans (show _=some (.int .i64 _) from rfl)
  have e3:=(a1 3).trans (show _=some (.int .i64 _) from rfl)
  have e4:=(a1 4).trans (show _=some (.int .i64 _) from rfl)
  have HOK:=hide ok
  have HOK1:=hide ok1
  have HH:=hide h
  clear hS0 hF hP a1 a4 hw ok ok1 h
  go_enter Tryz.func15,Tryz.ntmps15
  go_wp2_with fail
  refine HCW.out.mono ?_
  rintro e w1 ⟨rfl,hb1⟩
  have hS1:=HS0.out.below hb1
  obtain ⟨b1,b2,b3,b4⟩:=hS1.rules 2 (g:=g + 1) (t:=74) rfl
  have f0:=(b1 0).trans (show _=some (.int .i64 0) from rfl)
  have f1:=(b1 1).trans (show _=some (.bool false) from rfl)
  have f2:=(b1 2).trans (show _=some (.int .i64 0) from rfl)
  obtain ⟨a1,a2',a3',a4⟩:=hS1.rules 1 (g:=g) (t:=72) rfl
  have e0:=(a1 0).trans (show _=some (.int .i64 7) from rfl)
  have e1:=(a1 1).trans (show _=some (.int .i64 _) from rfl)
  have e2:=(a1 2).trans (show _=some (.int .i64 _) from rfl)
  have e3:=(a1 3).trans (show _=some (.int .i64 _) from rfl)
  have e4:=(a1 4).trans (show _=some (.int .i64 _) from rfl)
  clear a1 a4 b1 b4
  have HS1:=hide hS1
  clear hb1 HS0 HCW a2 a3
  have hP1:(K.item s).P w1:=hS1.get 0 rfl
  obtain ⟨i3,i4,i1,i2⟩:=K.cells hP1 h8 Q hQ
  have hvv:=K.vok_rg HH.out HOK.out (Q:Int)
  obtain ⟨v,hv⟩:∃ v,rgA (K.regs (K.abs s)) (Q:Int)=v:=⟨_,rfl⟩
  rw [hv] at i3 i4 hvv HST
  have HVV:=hide hvv
  clear hv hS1 hP1 hvv
  obtain ⟨bv,mv⟩:=v
  dsimp only at i3 i4
  go_wp2_with fail
  have q1:g ≠ w1.heap.size:=by omega
  have q2:K.Bm ≠ w1.heap.size:=by omega
  go_region_held3 (fun w' => w'.cell? ⟨g,2,none⟩=some (.int .i64 (Q:Int)) ∧ w'.cell? ⟨K.Bm,Q * 2,none⟩=some (.bool bv) ∧ w'.cell? ⟨K.Bm,Q * 2 + 1,none⟩=some (.int .i64 mv)) (simp (config:={ maxDischargeDepth:=8 }) [*,World.cell?_alloc_some]) (fail)
  have hSv:=(HS1.out.blkAt 63 #[.bool bv,.int .i64 mv] (g:=w1.heap.size) rfl).drew
  obtain ⟨gv,hgv⟩:∃ g,w1.heap.size=g:=⟨_,rfl⟩
  obtain ⟨v1,v2,v3,_⟩:=hSv.rules 3 (g:=w1.heap.size) (t:=63) rfl
  have v4:=(v1 0).trans (show _=some (.bool bv) from rfl)
  have v5:=(v1 1).trans (show _=some (.int .i64 mv) from rfl)
  obtain ⟨b1,b2,b3,b4⟩:=hSv.rules 2 (g:=g + 1) (t:=74) rfl
  have f0:=(b1 0).trans (show _=some (.int .i64 0) from rfl)
  have f1:=(b1 1).trans (show _=some (.bool false) from rfl)
  have f2:=(b1 2).trans (show _=some (.int .i64 0) from rfl)
  obtain ⟨a1,a2',a3',a4⟩:=hSv.rules 1 (g:=g) (t:=72) rfl
  have e0:=(a1 0).trans (show _=some (.int .i64 7) from rfl)
  have e1:=(a1 1).trans (show _=some (.int .i64 _) from rfl)
  have e2:=(a1 2).trans (show _=some (.int .i64 _) from rfl)
  have e3:=(a1 3).trans (show _=some (.int .i64 _) from rfl)
  have e4:=(a1 4).trans (show _=some (.int .i64 _) from rfl)
  clear a1 a4 b1 b4
  obtain ⟨c1,_,c3,c5⟩:=K.cells (hSv.get 0 rfl) h8 Q hQ
  have HSV:=hide hSv
  clear hSv v1
  obtain ⟨W,hW⟩:∃ W,(w1.alloc (.cells #[.bool bv,.int .i64 mv] 63)).drew=W:=⟨_,rfl⟩
  rw [hW] at HSV v2 v3 v4 v5 b2 b3 f0 f1 f2 e0 e1 e2 e3 e4 c3 c5 ⊢
  clear hW q1 q2 i1 i2 i3 i4 c1
  try rw [hgv] at v4
  try rw [hgv] at v5
  try rw [hgv] at HSV
  try rw [hgv] at v2
  try rw [hgv] at v3
  rw [hgv]
  clear hgv
  by_cases hb:bv=true
  · subst hb
    obtain ⟨i,fs,hi,hfs⟩:=HVV.out rfl
    dsimp only at hi
    subst hi
    have h4:=HH.out.f4 _ _ _ HOK.out hfs
    have h1k:=HH.out.lim _ _ _ HOK.out hfs
    have CP:=HH.out.cL s W.drew i fs (HSV.out.drew.get 0 rfl) HOK.out hfs
    have hme:=HH.out.mL s W.drew (HSV.out.drew.get 0 rfl)
    have hent:=HH.out.eL
    obtain ⟨fL,hfL⟩:∃ x,K.fL=x:=⟨_,rfl⟩
    obtain ⟨rL,hrL⟩:∃ x,K.rL s=x:=⟨_,rfl⟩
    obtain ⟨q,hq⟩:∃ x,fs.length=x:=⟨_,rfl⟩
    simp only [hfL,hrL,hq] at CP hme hent
    replace CP:=hide CP
    have HQ:=hide (show K.len (K.abs s) (i:Int)=(q:Int) by unfold MemK.len; rw [show ((i:Int)).toNat=i from by omega,hfs,← hq]; rfl)
    rw [hq] at h4
    clear hfL hrL hq hfs
    go_wp2_with fail
    go_region_law (first
      | (try go_simp
         (with_reducible refine CP.out.mono ?_)
         rintro e w4 ⟨rfl,rfl⟩))
    all_goals
      have hS4:Sep F w (W.setCell ⟨gv,1,none⟩ (.int .i64 (q:Int))).drew _:=HSV.out.drew.set_ 3 (g:=gv) (t:=63) rfl 1 (.int .i64 (q:Int))
      obtain ⟨b1,b2,b3,b4⟩:=hS4.rules 2 (g:=g + 1) (t:=74) rfl
      have f0:=(b1 0).trans (show _=some (.int .i64 0) from rfl)
      have f1:=(b1 1).trans (show _=some (.bool false) from rfl)
      have f2:=(b1 2).trans (show _=some (.int .i64 0) from rfl)
      obtain ⟨v1,v2,v3,_⟩:=hS4.rules 3 (g:=gv) (t:=63) rfl
      have v4:=(v1 0).trans (show _=some (.bool true) from rfl)
      have v5:=(v1 1).trans (show _=some (.int .i64 (q:Int)) from rfl)
      have HS4:=hide hS4
      clear b1 b4 v1 hS4 CP hme
      obtain ⟨W4,hW4⟩:∃ W4,(W.setCell ⟨gv,1,none⟩ (.int .i64 (q:Int))).drew=W4:=⟨_,rfl⟩
      rw [hW4] at HS4 f0 f1 f2 b2 b3 v2 v3 v4 v5 ⊢
      go_wp2_with fail
      have hr:=HST.out
      try dsimp only at hr
      rw [if_pos (by trivial),HQ.out] at hr
      subst hr
      have hF:=(((HS4.out).set_ 2 (g:=g + 1) (t:=74) rfl 0 (.int .i64 0)).set_ 2 (g:=g + 1) (t:=74) rfl 1 (.bool true)).set_ 2 (g:=g + 1) (t:=74) rfl 2 (.int .i64 (q:Int))
      refine bodyPost_ret (v:=.agg #[.int .i64 0,.bool true,.int .i64 (q:Int)]) (by simp [results,Tryz.results15,go_sem,f0,f1,f2]) rfl ⟨rfl,s,rfl,hF.sub (by simp)⟩
  · have hb2:bv=false:=by cases bv <;> simp_all
    subst hb2
    go_wp2_with fail
    have hr:=HST.out
    try dsimp only at hr
    rw [if_neg (by simp)] at hr
    subst hr
    have hF:=(((HSV.out).set_ 2 (g:=g + 1) (t:=74) rfl 0 (.int .i64 0)).set_ 2 (g:=g + 1) (t:=74) rfl 1 (.bool false)).set_ 2 (g:=g + 1) (t:=74) rfl 2 (.int .i64 mv)
    refine bodyPost_ret (v:=.agg #[.int .i64 0,.bool false,.int .i64 mv]) (by simp [results,Tryz.results15,go_sem,f0,f1,f2]) rfl ⟨rfl,s,rfl,hF.sub (by simp)⟩
theorem kdo_any (K:MemK) (h:K.Ok) {s:K.St} {w:World} (hP:(K.item s).P w) (ok1:K.ok1 (K.abs s)) (d:DoV):K.DoOk s w d:=by
  by_cases hw:wrongM d=0
  · obtain ⟨k1,k2⟩:=wrongM_rng hw
    obtain ⟨k,to,fr,at_,n⟩:=d
    dsimp only at k1 k2
    obtain rfl | rfl | rfl | rfl | rfl | rfl | rfl:k=1 ∨ k=2 ∨ k=3 ∨ k=4 ∨ k=5 ∨ k=6 ∨ k=7:=by omega
    · exact kdo_1 K h hP ok1 to fr at_ n hw
    · exact kdo_2 K h hP ok1 to fr at_ n hw
    · exact kdo_3 K h hP ok1 to fr at_ n hw
    · exact kdo_4 K h hP ok1 to fr at_ n hw
    · exact kdo_5 K h hP ok1 to fr at_ n hw
    · exact kdo_6 K h hP ok1 to fr at_ n hw
    · exact kdo_7 K h hP ok1 to fr at_ n hw
  · exact kdo_bad K hP d hw
end Go.Proofs.YtjphckfbbiehdaaGreat

namespace Go.Proofs.YtjphckfbbiehdaaGreat
open Go.RowKit
structure CoA where
  regs:List Val
  objs:List (Option (List Val))
  cols:List Int
  gone:List Int
structure CoT where
  regs:List Val
  s:CoS
def CoA.fld (a:CoA) (i:Nat):Option (List Val):=(a.objs[i]?).getD none
def CoA.vok (a:CoA) (v:Val):Prop:=v.1=true → ∃ (i:Nat) (fs:List Val),v.2=(i:Int) ∧ a.fld i=some fs
structure CoOk (a:CoA):Prop where
  r8:a.regs.length=8
  cl:a.cols.length=a.objs.length
  n:a.objs.length ≤ 500
  vr:∀ v ∈ a.regs,a.vok v
  vf:∀ i fs v,a.fld i=some fs → v ∈ fs → a.vok v
  f4:∀ i fs,a.fld i=some fs → fs.length ≤ 4
theorem CoA.fld_at {a:CoA} {i:Nat} {fs:List Val} (h:a.fld i=some fs):a.objs[i]?=some (some fs) ∧ i < a.objs.length:=by
  unfold CoA.fld at h
  cases h2:a.objs[i]? with
  | none => rw [h2] at h; cases h
  | some o =>
    rw [h2] at h
    have h3:o=some fs:=h
    subst h3
    exact ⟨rfl,(List.getElem?_eq_some_iff.1 h2).1⟩
theorem oj_abs_at {s:Oj} {i:Nat} {fs:List Val} (h:s.abs[i]?=some (some fs)):∃ p,s.ps[i]?=some (some p) ∧ p.o.fields=fs:=by
  unfold Oj.abs at h
  rw [List.getElem?_map] at h
  cases h2:s.ps[i]? with
  | none => rw [h2] at h; cases h
  | some o =>
    rw [h2] at h
    cases o with
    | none => cases h
    | some p => exact ⟨p,rfl,by simpa using h⟩
theorem oj_put_abs (s:Oj) (i k:Nat) (v:Val) (p:Po):(s.put i k v p).abs=s.abs.set i (some (p.o.fields.set k v)):=by
  unfold Oj.abs Oj.put
  rw [List.map_set]
  rfl
def coNew (a:CoA) (n:Nat):CoA × Int × Int :=
  if 24 ≤ (thereL a.objs).length then (a,0,6) else ({ a with objs:=a.objs ++ [some (zeroVs n)],cols:=a.cols ++ [2] },a.objs.length,0)
def coPut (b:BarK) (a:CoA) (i k:Nat) (v:Val):CoA :=
  { a with objs:=a.objs.set i (some (((a.fld i).getD []).set k v)),cols:=b.f a.cols i (((a.fld i).getD []).getD k (false,0)) v }
def coK (b:BarK) (Bm Be:Nat):MemK where
  A:=CoA
  St:=CoT
  abs t:=⟨t.regs,t.s.oj.abs,t.s.cols,t.s.gone⟩
  Bm:=Bm
  T:=92
  p:=.pointer (some ⟨Be,0,none⟩)
  regs:=CoA.regs
  fld:=CoA.fld
  rest t:=coR Be b.bv t.s
  ok:=CoOk
  ok1 a:=CoOk a ∧ a.objs.length < 500
  hold a _ _:=a
  setr a r v:={ a with regs:=a.regs.set r v }
  new_:=coNew
  put:=coPut b
  fH:=111
  fN:=112
  fL:=105
  fG:=103
  fP:=113
  rL t:=t.s.oj.v
  rG t:=t.s.oj.v
  rP _:=.pointer (some ⟨Be,0,none⟩)
set_option maxHeartbeats 400000 in
theorem chold_any (w:World) (p:Value) (r:Int) (v:Val):Calls Tryz.prog 111 #[p,.int .i64 r,.agg #[.bool v.1,.int .i64 v.2]] w fun e w' => (∃ u,e=.returned u) ∧ Below w.heap.size w w':=by
  go_enter Tryz.func111,Tryz.ntmps111
  go_wp2_with fail
  go_end0
  exact ⟨⟨_,rfl⟩,(Below.refl _ w).alloc (Nat.le_refl _) _⟩
theorem cmeth_hold (x:Value) (w:World):(method 303 92 x "Hold").run Tryz.prog w=.ok (111,x) w:=by kernel_rfl
theorem cmeth_new (x:Value) (w:World):(method 303 92 x "New").run Tryz.prog w=.ok (112,x) w:=by kernel_rfl
theorem cmeth_put (x:Value) (w:World):(method 303 92 x "Put").run Tryz.prog w=.ok (113,x) w:=by kernel_rfl
theorem cmeth_len0 (Be:Nat) (w:World):(method 303 92 (.pointer (some ⟨Be,0,none⟩)) "Len").run Tryz.prog w=(Sem.run Tryz.prog (do let v ← receiverAt 57 (.var ⟨Be,0,none⟩) false none; pure (105,v)) w):=by kernel_rfl
theorem cmeth_get0 (Be:Nat) (w:World):(method 303 92 (.pointer (some ⟨Be,0,none⟩)) "Get").run Tryz.prog w=(Sem.run Tryz.prog (do let v ← receiverAt 57 (.var ⟨Be,0,none⟩) false none; pure (103,v)) w):=by kernel_rfl
theorem cmeth_len (Be:Nat) (v:Value) (w:World) (h:w.cell? ⟨Be,0,none⟩=some v):(method 303 92 (.pointer (some ⟨Be,0,none⟩)) "Len").run Tryz.prog w=.ok (105,v) w:=by
  rw [cmeth_len0,Sem.run_bind,recv_cell Be w v h]; rfl
theorem cmeth_get (Be:Nat) (v:Value) (w:World) (h:w.cell? ⟨Be,0,none⟩=some v):(method 303 92 (.pointer (some ⟨Be,0,none⟩)) "Get").run Tryz.prog w=.ok (103,v) w:=by
  rw [cmeth_get0,Sem.run_bind,recv_cell Be w v h]; rfl
theorem cok_part {b:BarK} {Bm Be:Nat} {t:CoT} {w:World} (hP:((coK b Bm Be).item t).P w):Sep ((coK b Bm Be).item t).fp w w [coI Be b.bv t.s,blkI Bm 70 (mcCells t.regs (.iface 92 (.pointer (some ⟨Be,0,none⟩))))]:=by
  have h1:Sep ((coK b Bm Be).item t).fp w w (blkI Bm 70 (mcCells t.regs (.iface 92 (.pointer (some ⟨Be,0,none⟩)))) :: coR Be b.bv t.s):=(Sep.start hP).flat
  exact (h1.perm (l:=coR Be b.bv t.s ++ [blkI Bm 70 (mcCells t.regs (.iface 92 (.pointer (some ⟨Be,0,none⟩))))]) (List.perm_append_comm (l₁:=[_]))).join
theorem cok_whole {b:BarK} {Bm Be:Nat} {t:CoT} {F:Nat → Prop} {W w:World} (h:Sep F W w [coI Be b.bv t.s,blkI Bm 70 (mcCells t.regs (.iface 92 (.pointer (some ⟨Be,0,none⟩))))]):Sep F W w [(coK b Bm Be).item t]:=by
  have h1:Sep F W w (coR Be b.bv t.s ++ [blkI Bm 70 (mcCells t.regs (.iface 92 (.pointer (some ⟨Be,0,none⟩))))]):=Sep.split h
  have h2:Sep F W w ((coK b Bm Be).items t):=h1.perm (List.perm_append_comm (l₂:=[_]))
  exact h2.fold
theorem vok_vin {a:CoA} (ok:CoOk a) {v:Val} (h:a.vok v):vin a.cols.length v:=fun h1 => by
  obtain ⟨i,fs,e,hf⟩:=h h1
  exact ⟨i,e,by rw [ok.cl]; exact (CoA.fld_at hf).2⟩
theorem coNew_ok {a:CoA} (ok:CoOk a) (hn:a.objs.length < 500) (n:Nat) (h4:n ≤ 4):CoOk (coNew a n).1 ∧ ((coNew a n).2.2=0 → (coNew a n).1.vok (true,(coNew a n).2.1)):=by
  unfold coNew
  split
  · exact ⟨ok,fun h => by cases h⟩
  · dsimp only
    have hfo:∀ i fs,a.fld i=some fs → (⟨a.regs,a.objs ++ [some (zeroVs n)],a.cols ++ [2],a.gone⟩:CoA).fld i=some fs:=fun i fs h => by
      obtain ⟨h1,h2⟩:=CoA.fld_at h
      unfold CoA.fld
      dsimp only
      rw [List.getElem?_append_left h2,h1]; rfl
    have hvo:∀ v,a.vok v → (⟨a.regs,a.objs ++ [some (zeroVs n)],a.cols ++ [2],a.gone⟩:CoA).vok v:=fun v h h1 => by
      obtain ⟨i,fs,e,hf⟩:=h h1
      exact ⟨i,fs,e,hfo i fs hf⟩
    have hfn:∀ i fs,(⟨a.regs,a.objs ++ [some (zeroVs n)],a.cols ++ [2],a.gone⟩:CoA).fld i=some fs → a.fld i=some fs ∨ (i=a.objs.length ∧ fs=zeroVs n):=fun i fs h => by
      obtain ⟨h1,h2⟩:=CoA.fld_at h
      dsimp only at h1 h2
      rcases Nat.lt_or_ge i a.objs.length with hlt | hge
      · rw [List.getElem?_append_left hlt] at h1
        exact .inl (by unfold CoA.fld; rw [h1]; rfl)
      · have hi:i=a.objs.length:=by rw [List.length_append] at h2; simp at h2; omega
        subst hi
        simp at h1
        exact .inr ⟨rfl,h1.symm⟩
    refine ⟨⟨ok.r8,by simp [ok.cl],by simp; omega,fun v hv => hvo v (ok.vr v hv),?_,?_⟩,fun _ => ?_⟩
    · intro i fs v hf hv
      rcases hfn i fs hf with h | ⟨_,rfl⟩
      · exact hvo v (ok.vf i fs v h hv)
      · intro h1
        obtain ⟨_,rfl⟩:=List.mem_replicate.1 hv
        cases h1
    · intro i fs hf
      rcases hfn i fs hf with h | ⟨_,rfl⟩
      · exact ok.f4 i fs h
      · simp [zeroVs]; exact h4
    · intro _
      exact ⟨a.objs.length,zeroVs n,rfl,by unfold CoA.fld; simp⟩
end Go.Proofs.YtjphckfbbiehdaaGreat

namespace Go.Proofs.YtjphckfbbiehdaaGreat
open Go.RowKit
theorem cok_cell0 {b:BarK} {Bm Be:Nat} {t:CoT} {w:World} (hP:((coK b Bm Be).item t).P w):w.cell? ⟨Be,0,none⟩=some t.s.oj.v:=(co_01 ((cok_part hP).get 0 rfl)).1
theorem cok_new (b:BarK) (Bm Be:Nat) (t:CoT) (w:World) (n:Nat) (hP:((coK b Bm Be).item t).P w) (ok:CoOk ((coK b Bm Be).abs t)) (h4:n ≤ 4) :
    Calls Tryz.prog 112 #[.pointer (some ⟨Be,0,none⟩),.int .i64 (n:Int)] w fun e w' => e=.returned (.tuple #[.int .i64 (coNew ((coK b Bm Be).abs t) n).2.1,.int .i64 (coNew ((coK b Bm Be).abs t) n).2.2]) ∧ ∃ s',(coK b Bm Be).abs s'=(coNew ((coK b Bm Be).abs t) n).1 ∧ Sep ((coK b Bm Be).item t).fp w w' [(coK b Bm Be).item s']:=by
  have hl:t.s.cols.length=t.s.oj.ps.length:=by have h:=ok.cl; have h2:=oj_lenabs t.s.oj; exact h.trans h2
  have hn:t.s.oj.ps.length ≤ 500:=by have h:=ok.n; have h2:=oj_lenabs t.s.oj; exact h2 ▸ h
  have hp:=cok_part hP
  have hth:(thereL ((coK b Bm Be).abs t).objs).length=(thereL t.s.oj.ps).length:=congrArg List.length (thereL_abs t.s.oj)
  refine (cnew_any (hp.get 0 rfl) hl (by omega) h4).mono ?_
  rintro e w' (⟨h24,rfl,hb⟩ | ⟨h24,rfl,s',e1,e2,e3,hS⟩)
  · unfold coNew
    rw [if_pos (by rw [hth]; exact h24)]
    exact ⟨rfl,t,rfl,(Sep.start hP).below hb⟩
  · unfold coNew
    rw [if_neg (by rw [hth]; omega)]
    refine ⟨?_,⟨t.regs,s'⟩,?_,cok_whole (t:=⟨t.regs,s'⟩) (hp.call 0 rfl hS)⟩
    · show _=Ending.returned (.tuple #[.int .i64 ((t.s.oj.abs.length:Nat):Int),.int .i64 0])
      rw [oj_lenabs]
    · show (⟨t.regs,s'.oj.abs,s'.cols,s'.gone⟩:CoA)=_
      rw [e1,e2,e3]; rfl
theorem coK_ok (b:BarK) (hb:b.Ok) (Bm Be:Nat):(coK b Bm Be).Ok where
  r8 _ ok:=CoOk.r8 ok
  vr _ v ok hv:=CoOk.vr ok v hv
  vf _ i fs v ok h hv:=CoOk.vf ok i fs v h hv
  f4 _ i fs ok h:=CoOk.f4 ok i fs h
  lim _ i fs ok h:=by have h1:=(CoA.fld_at h).2; have h2:=CoOk.n ok; omega
  set_ t r v:=⟨⟨t.regs.set r v,t.s⟩,rfl,rfl⟩
  regs_set _ _ _:=rfl
  regs_hold _ _ _:=rfl
  regs_put _ _ _ _:=rfl
  eH:=kenter_of Tryz.func111 (by kernel_rfl) rfl
  eN:=kenter_of Tryz.func112 (by kernel_rfl) rfl
  eL:=kenter_of Tryz.func105 (by kernel_rfl) rfl
  eG:=kenter_of Tryz.func103 (by kernel_rfl) rfl
  eP:=kenter_of Tryz.func113 (by kernel_rfl) rfl
  mH w:=cmeth_hold _ w
  mN w:=cmeth_new _ w
  mL _ w hP:=cmeth_len Be _ w (cok_cell0 hP)
  mG _ w hP:=cmeth_get Be _ w (cok_cell0 hP)
  mP _ w _:=cmeth_put _ w
  cH t w r v hP _ _ _:=(chold_any w _ r v).mono fun _ _ ⟨he,hb⟩ => ⟨he,t,rfl,(Sep.start hP).below hb⟩
  cN t w n hP ok h4:=cok_new b Bm Be t w n hP ok h4
  ok_of _ h:=h.1
  okN _ n h h4:=coNew_ok h.1 h.2 n h4
  cL t w i fs hP ok h:=by
    obtain ⟨p,hp,hf⟩:=oj_abs_at (CoA.fld_at h).1
    have hS:Sep _ w w ([blkI Be 95 (coC b.bv t.s),rowI 3 1 t.s.Ac t.s.cols.length t.s.cc (ints t.s.cols),rowI 3 1 t.s.Ag t.s.gone.length t.s.cg (ints t.s.gone)] ++ ojL t.s.oj):=(Sep.start ((cok_part hP).get 0 rfl)).flat
    have hl:=oj_len hS hp
    have hn:t.s.oj.ps.length ≤ 500:=by have h:=CoOk.n ok; have h2:=oj_lenabs t.s.oj; exact h2 ▸ h
    refine (olen_any hS (by omega) hp).mono fun e w' ⟨he,hw⟩ => ⟨?_,hw⟩
    rw [he,← hf,hl]
  cG t w i k fs hk hP ok h:=by
    obtain ⟨p,hp,hf⟩:=oj_abs_at (CoA.fld_at h).1
    have hS:Sep _ w w ([blkI Be 95 (coC b.bv t.s),rowI 3 1 t.s.Ac t.s.cols.length t.s.cc (ints t.s.cols),rowI 3 1 t.s.Ag t.s.gone.length t.s.cg (ints t.s.gone)] ++ ojL t.s.oj):=(Sep.start ((cok_part hP).get 0 rfl)).flat
    have hn:t.s.oj.ps.length ≤ 500:=by have h:=CoOk.n ok; have h2:=oj_lenabs t.s.oj; exact h2 ▸ h
    have h4:=CoOk.f4 ok i fs h
    subst hf
    exact oget_any hS (by omega) hp hk h4
  cP t w i k fs v hk hP ok h hv:=by
    obtain ⟨p,hp,hf⟩:=oj_abs_at (CoA.fld_at h).1
    have hl:t.s.cols.length=t.s.oj.ps.length:=by have h:=CoOk.cl ok; have h2:=oj_lenabs t.s.oj; exact h.trans h2
    have hn:t.s.oj.ps.length ≤ 500:=by have h:=CoOk.n ok; have h2:=oj_lenabs t.s.oj; exact h2 ▸ h
    have h4:=CoOk.f4 ok i fs h
    have hold:=vok_vin ok (CoOk.vf ok i fs fs[k] h (List.getElem_mem hk))
    have hvv:=vok_vin ok hv
    subst hf
    have hpt:=cok_part hP
    refine (cput_any b hb (hpt.get 0 rfl) hl (by omega) v hp hk h4 hvv hold).mono ?_
    rintro e w' ⟨he,hS⟩
    refine ⟨he,⟨t.regs,(t.s.col (b.f t.s.cols i p.o.fields[k] v)).put i k v p⟩,?_,cok_whole (t:=⟨t.regs,(t.s.col (b.f t.s.cols i p.o.fields[k] v)).put i k v p⟩) (hpt.call 0 rfl hS)⟩
    have hfl:(((coK b Bm Be).abs t).fld i).getD []=p.o.fields:=by rw [show ((coK b Bm Be).abs t).fld i=some p.o.fields from h]; rfl
    show (⟨t.regs,(t.s.oj.put i k v p).abs,b.f t.s.cols i p.o.fields[k] v,t.s.gone⟩:CoA)=coPut b ((coK b Bm Be).abs t) i k v
    unfold coPut
    rw [hfl,oj_put_abs,List.getD_eq_getElem?_getD,List.getElem?_eq_getElem hk]
    rfl
end Go.Proofs.YtjphckfbbiehdaaGreat
