/- Part of a proof. -/
import Derived.Test.YtjphckfbbiehdaaGreatSTopAll4
import Derived.Laws.StructEq
import Derived.BigQuiet
import Derived.StillTailTactics
import Derived.RangeFuncCalls
import Derived.OrdersIn
import Derived.TacticsInMore
import Derived.OwnWalkIn
import Derived.Test.YtjphckfbbiehdaaGreatSTopAll2
set_option linter.unusedSimpArgs false
set_option linter.unusedVariables false
namespace Go.Proofs.YtjphckfbbiehdaaGreat
open Go.RowKit
theorem obA_abs {s:Idl} {i:Nat} (hi:i < s.ps.length):obA (absI s).objs (i:Int)=s.ps[i].o.fields:=by
  unfold obA absI
  rw [show ((i:Int)).toNat=i from by omega,List.getD_eq_getElem?_getD]; simp [List.getElem?_eq_getElem hi]
set_option maxRecDepth 100000 in
set_option maxHeartbeats 16000000 in
theorem do_5 {Bm Be:Nat} {s:Idl} {w:World} (hP:(idI Bm Be s).P w) (ok:IOk s) (to fr at_ n:Int) (hw:wrongM ⟨5,to,fr,at_,n⟩=0):DoOk Bm Be s w ⟨5,to,fr,at_,n⟩:=by
  unfold DoOk
  obtain ⟨F,hF⟩:∃ F,(idI Bm Be s).fp=F:=⟨_,rfl⟩
  obtain ⟨g,hg⟩:∃ g,w.heap.size=g:=⟨_,rfl⟩
  have hS0:=((Sep.start hP).blkAt 72 (DoV.cells ⟨5,to,fr,at_,n⟩) (g:=g) hg).blkAt 74 #[.int .i64 0,.bool false,.int .i64 0] (g:=g + 1) (by simp [hg])
  rw [hF] at hS0 ⊢
  have h8:s.regs.length=8:=ok.m.r8
  have hps:(absI s).objs.length=s.ps.length:=by simp [absI]
  have hst:stepM ⟨5,to,fr,at_,n⟩ (absI s)=if fErr (absI s).objs (rgA s.regs fr) at_ ≠ 0 then (⟨fErr (absI s).objs (rgA s.regs fr) at_,false,0⟩,absI s) else (⟨0,false,0⟩,⟨s.regs.set to.toNat ((obA (absI s).objs (rgA s.regs fr).2).getD at_.toNat (false,0)),(absI s).objs⟩):=by
    unfold stepM
    rw [if_neg (by rw [hw]; simp)]
    unfold stepK
    dsimp only
    rw [if_neg (show ¬(5:Int)=1 by decide),if_neg (show ¬(5:Int)=2 by decide),if_neg (show ¬(5:Int)=3 by decide),if_neg (show ¬(5:Int)=4 by decide),if_pos rfl]
    rfl
  obtain ⟨res,hres⟩:∃ r,stepM ⟨5,to,fr,at_,n⟩ (absI s)=r:=⟨_,rfl⟩
  rw [hres] at hst
  rw [hres]
  have HRES:=hide hst
  clear hst hres
  have HCW:=wrong_any ((w.alloc (.cells (DoV.cells ⟨5,to,fr,at_,n⟩) 72)).alloc (.cells #[.int .i64 0,.bool false,.int .i64 0] 74)) ⟨5,to,fr,at_,n⟩
  rw [hw] at HCW
  replace HCW:=hide HCW
  obtain ⟨t0,t1⟩:=wrongM_to hw (by show (5:Int) ≠ 7; decide)
  dsimp only at t0 t1
  obtain ⟨R,rfl⟩:=int_nat t0
  have hR:R < 8:=by omega
  obtain ⟨u0,u1⟩:=wrongM_fr hw (by show (5:Int) ≠ 1; decide) (by show (5:Int) ≠ 2; decide)
  dsimp only at u0 u1
  obtain ⟨Q,rfl⟩:=int_nat u0
  have hQ:Q < 8:=by omega
  have hvv:(rgA s.regs (Q:Int)).1=true → 0 ≤ (rgA s.regs (Q:Int)).2 ∧ (rgA s.regs (Q:Int)).2 < (s.ps.length:Int):=by rw [← hps]; exact valsOk_getD ok.m.vr _
  have HVV:=hide hvv
  have HS0:=hide hS0
  unfold DoV.cells at HCW HS0 ⊢
  dsimp only at HCW HS0 ⊢
  obtain ⟨a1,a2,a3,a4⟩:=HS0.out.rules 1 (g:=g) (t:=72) rfl
  have e0:=(a1 0).trans (show _=some (.int .i64 5) from rfl)
  have e1:=(a1 1).trans (show _=some (.int .i64 _) from rfl)
  have e2:=(a1 2).trans (show _=some (.int .i64 _) from rfl)
  have e3:=(a1 3).trans (show _=some (.int .i64 _) from rfl)
  have e4:=(a1 4).trans (show _=some (.int .i64 _) from rfl)
  have HOK:=hide ok
  have hbnd:=ok.n
  clear hS0 hF hP a1 a4 hw ok hps
  go_enter Tryz.func15,Tryz.ntmps15
  go_wp2_with fail
  refine HCW.out.mono ?_
  rintro e w1 ⟨rfl,hb1⟩
  have hS1:=HS0.out.below hb1
  obtain ⟨b1,b2,b3,b4⟩:=hS1.rules 2 (g:=g + 1) (t:=74) rfl
  have f0:=(b1 0).trans (show _=some (.int .i64 0) from rfl)
  have f1:=(b1 1).trans (show _=some (.bool false) from rfl)
  have f2:=(b1 2).trans (show _=some (.int .i64 0) from rfl)
  obtain ⟨a1,a2',a3',a4⟩:=hS1.rules 1 (g:=g) (t:=72) rfl
  have e0:=(a1 0).trans (show _=some (.int .i64 5) from rfl)
  have e1:=(a1 1).trans (show _=some (.int .i64 _) from rfl)
  have e2:=(a1 2).trans (show _=some (.int .i64 _) from rfl)
  have e3:=(a1 3).trans (show _=some (.int .i64 _) from rfl)
  have e4:=(a1 4).trans (show _=some (.int .i64 _) from rfl)
  clear a1 a4 b1 b4
  have HS1:=hide hS1
  clear hb1 HS0 HCW a2 a3
  have hP1:(idI Bm Be s).P w1:=hS1.get 0 rfl
  obtain ⟨i3,i4,i1,_,i2⟩:=id_cells hP1 h8 Q hQ
  clear hvv
  obtain ⟨v,hv⟩:∃ v,rgA s.regs (Q:Int)=v:=⟨_,rfl⟩
  have HVD:=hide hv
  rw [hv] at i3 i4 HVV
  clear hv hS1 hP1
  obtain ⟨bv,mv⟩:=v
  dsimp only at i3 i4
  go_wp2_with fail
  have q1:g ≠ w1.heap.size:=by omega
  have q2:Bm ≠ w1.heap.size:=by omega
  go_region_held3 (fun w' => w'.cell? ⟨g,2,none⟩=some (.int .i64 (Q:Int)) ∧ w'.cell? ⟨Bm,Q * 2,none⟩=some (.bool bv) ∧ w'.cell? ⟨Bm,Q * 2 + 1,none⟩=some (.int .i64 mv)) (simp (config:={ maxDischargeDepth:=8 }) [*,World.cell?_alloc_some]) (fail)
  have hSv:=(HS1.out.blkAt 63 #[.bool bv,.int .i64 mv] (g:=w1.heap.size) rfl).drew
  have CF:=mfield_any (pre:=[]) ((Sep.start (hSv.get 0 rfl)).flat) h8 (by omega) (bv,mv) at_ HVV.out
  rw [ferr_eq ((Sep.start (hSv.get 0 rfl)).flat) (bv,mv) HVV.out at_] at CF
  dsimp only at CF
  obtain ⟨x,hx⟩:∃ x,fErr (absI s).objs (bv,mv) at_=x:=⟨_,rfl⟩
  rw [hx] at CF
  have HX:=hide hx
  have HCF:=hide CF
  obtain ⟨gv,hgv⟩:∃ g,w1.heap.size=g:=⟨_,rfl⟩
  obtain ⟨v1,v2,v3,_⟩:=hSv.rules 3 (g:=w1.heap.size) (t:=63) rfl
  have v4:=(v1 0).trans (show _=some (.bool bv) from rfl)
  have v5:=(v1 1).trans (show _=some (.int .i64 mv) from rfl)
  obtain ⟨b1,b2,b3,b4⟩:=hSv.rules 2 (g:=g + 1) (t:=74) rfl
  have f0:=(b1 0).trans (show _=some (.int .i64 0) from rfl)
  have f1:=(b1 1).trans (show _=some (.bool false) from rfl)
  have f2:=(b1 2).trans (show _=some (.int .i64 0) from rfl)
  obtain ⟨a1,a2',a3',a4⟩:=hSv.rules 1 (g:=g) (t:=72) rfl
  have e0:=(a1 0).trans (show _=some (.int .i64 5) from rfl)
  have e1:=(a1 1).trans (show _=some (.int .i64 _) from rfl)
  have e2:=(a1 2).trans (show _=some (.int .i64 _) from rfl)
  have e3:=(a1 3).trans (show _=some (.int .i64 _) from rfl)
  have e4:=(a1 4).trans (show _=some (.int .i64 _) from rfl)
  clear a1 a4 b1 b4
  have HSV:=hide hSv
  clear hSv CF hx v1
  obtain ⟨W,hW⟩:∃ W,(w1.alloc (.cells #[.bool bv,.int .i64 mv] 63)).drew=W:=⟨_,rfl⟩
  rw [hW] at HSV HCF v2 v3 v4 v5 f0 f1 f2 e0 e1 e2 e3 e4 ⊢
  clear hW q1 q2 i1 i2 i3 i4
  try rw [hgv] at v4
  try rw [hgv] at v5
  try rw [hgv] at HSV
  try rw [hgv] at v2
  rw [hgv]
  clear hgv
  go_wp2_with fail
  refine HCF.out.mono ?_
  rintro e w3 ⟨rfl,hb3⟩
  have hS3:=HSV.out.below hb3
  obtain ⟨b1,b2,b3,b4⟩:=hS3.rules 2 (g:=g + 1) (t:=74) rfl
  have f0:=(b1 0).trans (show _=some (.int .i64 0) from rfl)
  have f1:=(b1 1).trans (show _=some (.bool false) from rfl)
  have f2:=(b1 2).trans (show _=some (.int .i64 0) from rfl)
  obtain ⟨a1,a2',a3',a4⟩:=hS3.rules 1 (g:=g) (t:=72) rfl
  have e0:=(a1 0).trans (show _=some (.int .i64 5) from rfl)
  have e1:=(a1 1).trans (show _=some (.int .i64 _) from rfl)
  have e2:=(a1 2).trans (show _=some (.int .i64 _) from rfl)
  have e3:=(a1 3).trans (show _=some (.int .i64 _) from rfl)
  have e4:=(a1 4).trans (show _=some (.int .i64 _) from rfl)
  clear a1 a4 b1 b4
  obtain ⟨v1,v2,v3,_⟩:=hS3.rules 3 (g:=gv) (t:=63) rfl
  have v4:=(v1 0).trans (show _=some (.bool bv) from rfl)
  have v5:=(v1 1).trans (show _=some (.int .i64 mv) from rfl)
  clear hb3 HSV HCF v1
  have HS3:=hide hS3
  clear hS3 HS1
  by_cases hxz:x=0
  · subst hxz
    obtain ⟨rfl,i,k,rfl,rfl,hi,hk,hkn,h4,hoe,hol⟩:=ferr_facts ((Sep.start (HS3.out.get 0 rfl)).flat) HOK.out HVV.out HX.out
    obtain ⟨i3,i4,i1,i5,i2⟩:=id_cells (HS3.out.get 0 rfl) h8 Q hQ
    have hS3d:=HS3.out.drew
    obtain ⟨u,hu⟩:∃ u,s.ps[i].o.fields[k]=u:=⟨_,rfl⟩
    have CP:Hid (Calls Tryz.prog 103 #[.slice s.As s.ps.length s.c,.int .i64 i,.int .i64 k] w3.drew fun e w' => e=.returned (.agg #[.bool u.1,.int .i64 u.2]) ∧ Below w3.drew.heap.size w3.drew w'):=hide (by rw [← hu]; exact get_any (pre:=[]) ((Sep.start (hS3d.get 0 rfl)).flat) (by omega) hi hk hkn h4)
    have HU:=hide (show s.ps[i].o.fields[k]?=some u from (List.getElem?_eq_getElem hk).trans (congrArg some hu))
    have CMG:=hide (fun (W:World) (h:(idI Bm Be s).P W) => mset_any h h8 u hR)
    obtain ⟨bu,mu⟩:=u
    have hme:=meth_get Be (.slice s.As s.ps.length s.c) w3.drew (by rw [World.cell?_drew]; exact i5)
    dsimp only at CP CMG
    clear hS3d hu HOK HVV i5 i3 i4
    go_wp2_with fail
    go_region_held3 (fun w' => w'.cell? ⟨Bm,16,none⟩=some (idF Be) ∧ w'.cell? ⟨gv,1,none⟩=some (.int .i64 (i:Int)) ∧ w'.cell? ⟨g,3,none⟩=some (.int .i64 (k:Int)) ∧ w'.cell? ⟨g,1,none⟩=some (.int .i64 (R:Int))) (go_keep)
      (first
       | (go_at_call 103; (with_reducible refine CP.out.mono ?_); rintro e w4 ⟨rfl,hb4⟩; have hS4:=HS3.out.drew.below hb4; obtain ⟨_,_,k1,_,k2⟩:=id_cells (hS4.get 0 rfl) h8 Q hQ; obtain ⟨a1,_,a3,_⟩:=hS4.rules 1 (g:=g) (t:=72) rfl; have k5:=(a1 1).trans (show _=some (.int .i64 (R:Int)) from rfl); have k6:=(a1 3).trans (show _=some (.int .i64 (k:Int)) from rfl); obtain ⟨c1,_,c3,_⟩:=hS4.rules 3 (g:=gv) (t:=63) rfl; have k7:=(c1 1).trans (show _=some (.int .i64 (i:Int)) from rfl); have CM:=hide (CMG.out _ (hS4.get 0 rfl)); have HS4:=hide hS4; clear hb4 hS4 a1 c1 hme)
       | (go_at_call 39; (with_reducible refine CM.out.mono ?_); rintro e w5 ⟨⟨u,rfl⟩,hP5⟩; have hS5:=HS4.out.call 0 rfl hP5; obtain ⟨_,_,k1,_,k2⟩:=id_cells (hS5.get 0 rfl) (show (s.set R (bu,mu)).regs.length=8 from by show (s.regs.set R (bu,mu)).length=8; simp [h8]) Q hQ; obtain ⟨a1,_,a3,_⟩:=hS5.rules 1 (g:=g) (t:=72) rfl; have k5:=(a1 1).trans (show _=some (.int .i64 (R:Int)) from rfl); have k6:=(a1 3).trans (show _=some (.int .i64 (k:Int)) from rfl); obtain ⟨c1,_,c3,_⟩:=hS5.rules 3 (g:=gv) (t:=63) rfl; have k7:=(c1 1).trans (show _=some (.int .i64 (i:Int)) from rfl); have HS5:=hide hS5; clear hP5 hS5 a1 c1))
    all_goals
      have hS5:=HS5.out
      obtain ⟨b1,b2,b3,b4⟩:=hS5.rules 2 (g:=g + 1) (t:=74) rfl
      have f0:=(b1 0).trans (show _=some (.int .i64 0) from rfl)
      have f1:=(b1 1).trans (show _=some (.bool false) from rfl)
      have f2:=(b1 2).trans (show _=some (.int .i64 0) from rfl)
      clear hS5 b1 b4
      go_wp2_with fail
      have hr:=HRES.out
      rw [HVD.out,if_neg (by rw [HX.out]; simp)] at hr
      dsimp only at hr
      rw [hoe,show ((R:Int)).toNat=R from by omega,show ((k:Int)).toNat=k from by omega,List.getD_eq_getElem?_getD,HU.out,Option.getD_some] at hr
      subst hr
      have hF:=(((HS5.out).set_ 2 (g:=g + 1) (t:=74) rfl 0 (.int .i64 0)).set_ 2 (g:=g + 1) (t:=74) rfl 1 (.bool false)).set_ 2 (g:=g + 1) (t:=74) rfl 2 (.int .i64 0)
      refine bodyPost_ret (v:=.agg #[.int .i64 0,.bool false,.int .i64 0]) (by simp [results,Tryz.results15,go_sem,f0,f1,f2]) rfl ⟨(s.set R (bu,mu)),rfl,rfl,hF.sub (by simp)⟩
  · have y1:(x != 0)=true:=by rw [bne_iff_ne]; exact hxz
    go_wp2_with fail
    have hr:=HRES.out
    rw [HVD.out,HX.out,if_pos hxz] at hr
    subst hr
    have hF:=(((HS3.out).set_ 2 (g:=g + 1) (t:=74) rfl 0 (.int .i64 x)).set_ 2 (g:=g + 1) (t:=74) rfl 1 (.bool false)).set_ 2 (g:=g + 1) (t:=74) rfl 2 (.int .i64 0)
    refine bodyPost_ret (v:=.agg #[.int .i64 x,.bool false,.int .i64 0]) (by simp [results,Tryz.results15,go_sem,f0,f1,f2]) rfl ⟨s,rfl,rfl,hF.sub (by simp)⟩
set_option maxRecDepth 100000 in
set_option maxHeartbeats 16000000 in
theorem do_6 {Bm Be:Nat} {s:Idl} {w:World} (hP:(idI Bm Be s).P w) (ok:IOk s) (to fr at_ n:Int) (hw:wrongM ⟨6,to,fr,at_,n⟩=0):DoOk Bm Be s w ⟨6,to,fr,at_,n⟩:=by
  unfold DoOk
  obtain ⟨F,hF⟩:∃ F,(idI Bm Be s).fp=F:=⟨_,rfl⟩
  obtain ⟨g,hg⟩:∃ g,w.heap.size=g:=⟨_,rfl⟩
  have hS0:=((Sep.start hP).blkAt 72 (DoV.cells ⟨6,to,fr,at_,n⟩) (g:=g) hg).blkAt 74 #[.int .i64 0,.bool false,.int .i64 0] (g:=g + 1) (by simp [hg])
  rw [hF] at hS0 ⊢
  have h8:s.regs.length=8:=ok.m.r8
  have hps:(absI s).objs.length=s.ps.length:=by simp [absI]
  have hst:stepM ⟨6,to,fr,at_,n⟩ (absI s)=(⟨0,false,if rgA s.regs to=rgA s.regs fr then 1 else 0⟩,absI s):=by
    unfold stepM
    rw [if_neg (by rw [hw]; simp)]
    unfold stepK
    dsimp only
    rw [if_neg (show ¬(6:Int)=1 by decide),if_neg (show ¬(6:Int)=2 by decide),if_neg (show ¬(6:Int)=3 by decide),if_neg (show ¬(6:Int)=4 by decide),if_neg (show ¬(6:Int)=5 by decide),if_pos rfl]
    rfl
  obtain ⟨res,hres⟩:∃ r,stepM ⟨6,to,fr,at_,n⟩ (absI s)=r:=⟨_,rfl⟩
  rw [hres] at hst
  rw [hres]
  have HRES:=hide hst
  clear hst hres
  have HCW:=wrong_any ((w.alloc (.cells (DoV.cells ⟨6,to,fr,at_,n⟩) 72)).alloc (.cells #[.int .i64 0,.bool false,.int .i64 0] 74)) ⟨6,to,fr,at_,n⟩
  rw [hw] at HCW
  replace HCW:=hide HCW
  obtain ⟨t0,t1⟩:=wrongM_to hw (by show (6:Int) ≠ 7; decide)
  dsimp only at t0 t1
  obtain ⟨R,rfl⟩:=int_nat t0
  have hR:R < 8:=by omega
  obtain ⟨u0,u1⟩:=wrongM_fr hw (by show (6:Int) ≠ 1; decide) (by show (6:Int) ≠ 2; decide)
  dsimp only at u0 u1
  obtain ⟨Q,rfl⟩:=int_nat u0
  have hQ:Q < 8:=by omega
  have HS0:=hide hS0
  unfold DoV.cells at HCW HS0 ⊢
  dsimp only at HCW HS0 ⊢
  obtain ⟨a1,a2,a3,a4⟩:=HS0.out.rules 1 (g:=g) (t:=72) rfl
  have e0:=(a1 0).trans (show _=some (.int .i64 6) from rfl)
  have e1:=(a1 1).trans (show _=some (.int .i64 _) from rfl)
  have e2:=(a1 2).trans (show _=some (.int .i64 _) from rfl)
  have e3:=(a1 3).trans (show _=some (.int .i64 _) from rfl)
  have e4:=(a1 4).trans (show _=some (.int .i64 _) from rfl)
  have HOK:=hide ok
  have hbnd:=ok.n
  clear hS0 hF hP a1 a4 hw ok hps
  go_enter Tryz.func15,Tryz.ntmps15
  go_wp2_with fail
  refine HCW.out.mono ?_
  rintro e w1 ⟨rfl,hb1⟩
  have hS1:=HS0.out.below hb1
  obtain ⟨b1,b2,b3,b4⟩:=hS1.rules 2 (g:=g + 1) (t:=74) rfl
  have f0:=(b1 0).trans (show _=some (.int .i64 0) from rfl)
  have f1:=(b1 1).trans (show _=some (.bool false) from rfl)
  have f2:=(b1 2).trans (show _=some (.int .i64 0) from rfl)
  obtain ⟨a1,a2',a3',a4⟩:=hS1.rules 1 (g:=g) (t:=72) rfl
  have e0:=(a1 0).trans (show _=some (.int .i64 6) from rfl)
  have e1:=(a1 1).trans (show _=some (.int .i64 _) from rfl)
  have e2:=(a1 2).trans (show _=some (.int .i64 _) from rfl)
  have e3:=(a1 3).trans (show _=some (.int .i64 _) from rfl)
  have e4:=(a1 4).trans (show _=some (.int .i64 _) from rfl)
  clear a1 a4 b1 b4
  have HS1:=hide hS1
  clear hb1 HS0 HCW a2 a3
  have hP1:(idI Bm Be s).P w1:=hS1.get 0 rfl
  obtain ⟨i3,i4,_,_,i2⟩:=id_cells hP1 h8 Q hQ
  obtain ⟨i5,i6,_,_,_⟩:=id_cells hP1 h8 R hR
  obtain ⟨v,hv⟩:∃ v,rgA s.regs (R:Int)=v:=⟨_,rfl⟩
  obtain ⟨u,hu⟩:∃ v,rgA s.regs (Q:Int)=v:=⟨_,rfl⟩
  rw [hv] at i5 i6
  rw [hu] at i3 i4
  have HV:=hide hv
  have HU:=hide hu
  obtain ⟨bv,mv⟩:=v
  obtain ⟨bu,mu⟩:=u
  dsimp only at i3 i4 i5 i6
  obtain ⟨b,hb⟩:∃ b,decide (((bv,mv):Val)=(bu,mu))=b:=⟨_,rfl⟩
  have heq:∀ W,(binOp .eql 63 (.agg #[.bool bv,.int .i64 mv]) (.agg #[.bool bu,.int .i64 mu])).run Tryz.prog W=.ok (.bool b) W:=fun W => by rw [eq_val,hb]
  have hgd:=fun W x y => guard_val W x y bv bu mv mu
  have HB:=hide hb
  clear hb
  clear hv hu hP1 hS1
  go_wp2_with fail
  go_region_held3 (fun w' => w'.cell? ⟨g,1,none⟩=some (.int .i64 (R:Int)) ∧ w'.cell? ⟨g,2,none⟩=some (.int .i64 (Q:Int)) ∧ w'.cell? ⟨Bm,Q * 2,none⟩=some (.bool bu) ∧ w'.cell? ⟨Bm,Q * 2 + 1,none⟩=some (.int .i64 mu) ∧ w'.cell? ⟨Bm,R * 2,none⟩=some (.bool bv) ∧ w'.cell? ⟨Bm,R * 2 + 1,none⟩=some (.int .i64 mv)) (go_keep) (fail)
  cases b
  · go_wp2_with fail
    have hr:=HRES.out
    rw [HV.out,HU.out,if_neg (of_decide_eq_false HB.out)] at hr
    subst hr
    have hF:=(((HS1.out.drew).set_ 2 (g:=g + 1) (t:=74) rfl 0 (.int .i64 0)).set_ 2 (g:=g + 1) (t:=74) rfl 1 (.bool false)).set_ 2 (g:=g + 1) (t:=74) rfl 2 (.int .i64 0)
    refine bodyPost_ret (v:=.agg #[.int .i64 0,.bool false,.int .i64 0]) (by simp [results,Tryz.results15,go_sem,f0,f1,f2]) rfl ⟨s,rfl,rfl,hF.sub (by simp)⟩
  · go_wp2_with fail
    have hr:=HRES.out
    rw [HV.out,HU.out,if_pos (of_decide_eq_true HB.out)] at hr
    subst hr
    have hF:=(((HS1.out.drew).set_ 2 (g:=g + 1) (t:=74) rfl 0 (.int .i64 0)).set_ 2 (g:=g + 1) (t:=74) rfl 1 (.bool false)).set_ 2 (g:=g + 1) (t:=74) rfl 2 (.int .i64 1)
    refine bodyPost_ret (v:=.agg #[.int .i64 0,.bool false,.int .i64 1]) (by simp [results,Tryz.results15,go_sem,f0,f1,f2]) rfl ⟨s,rfl,rfl,hF.sub (by simp)⟩
set_option maxRecDepth 100000 in
set_option maxHeartbeats 16000000 in
theorem do_7 {Bm Be:Nat} {s:Idl} {w:World} (hP:(idI Bm Be s).P w) (ok:IOk s) (to fr at_ n:Int) (hw:wrongM ⟨7,to,fr,at_,n⟩=0):DoOk Bm Be s w ⟨7,to,fr,at_,n⟩:=by
  unfold DoOk
  obtain ⟨F,hF⟩:∃ F,(idI Bm Be s).fp=F:=⟨_,rfl⟩
  obtain ⟨g,hg⟩:∃ g,w.heap.size=g:=⟨_,rfl⟩
  have hS0:=((Sep.start hP).blkAt 72 (DoV.cells ⟨7,to,fr,at_,n⟩) (g:=g) hg).blkAt 74 #[.int .i64 0,.bool false,.int .i64 0] (g:=g + 1) (by simp [hg])
  rw [hF] at hS0 ⊢
  have h8:s.regs.length=8:=ok.m.r8
  have hps:(absI s).objs.length=s.ps.length:=by simp [absI]
  have hst:stepM ⟨7,to,fr,at_,n⟩ (absI s)=(⟨0,(rgA s.regs fr).1,if (rgA s.regs fr).1=true then (obA (absI s).objs (rgA s.regs fr).2).length else (rgA s.regs fr).2⟩,absI s):=by
    unfold stepM
    rw [if_neg (by rw [hw]; simp)]
    unfold stepK
    dsimp only
    rw [if_neg (show ¬(7:Int)=1 by decide),if_neg (show ¬(7:Int)=2 by decide),if_neg (show ¬(7:Int)=3 by decide),if_neg (show ¬(7:Int)=4 by decide),if_neg (show ¬(7:Int)=5 by decide),if_neg (show ¬(7:Int)=6 by decide)]
    rfl
  obtain ⟨res,hres⟩:∃ r,stepM ⟨7,to,fr,at_,n⟩ (absI s)=r:=⟨_,rfl⟩
  rw [hres] at hst
  rw [hres]
  have HRES:=hide hst
  clear hst hres
  have HCW:=wrong_any ((w.alloc (.cells (DoV.cells ⟨7,to,fr,at_,n⟩) 72)).alloc (.cells #[.int .i64 0,.bool false,.int .i64 0] 74)) ⟨7,to,fr,at_,n⟩
  rw [hw] at HCW
  replace HCW:=hide HCW
  obtain ⟨u0,u1⟩:=wrongM_fr hw (by show (7:Int) ≠ 1; decide) (by show (7:Int) ≠ 2; decide)
  dsimp only at u0 u1
  obtain ⟨Q,rfl⟩:=int_nat u0
  have hQ:Q < 8:=by omega
  have hvv:(rgA s.regs (Q:Int)).1=true → 0 ≤ (rgA s.regs (Q:Int)).2 ∧ (rgA s.regs (Q:Int)).2 < (s.ps.length:Int):=by rw [← hps]; exact valsOk_getD ok.m.vr _
  have HVV:=hide hvv
  have HS0:=hide hS0
  unfold DoV.cells at HCW HS0 ⊢
  dsimp only at HCW HS0 ⊢
  obtain ⟨a1,a2,a3,a4⟩:=HS0.out.rules 1 (g:=g) (t:=72) rfl
  have e0:=(a1 0).trans (show _=some (.int .i64 7) from rfl)
  have e1:=(a1 1).trans (show _=some (.int .i64 _) from rfl)
  have e2:=(a1 2).trans (show _=some (.int .i64 _) from rfl)
  have e3:=(a1 3).trans (show _=some (.int .i64 _) from rfl)
  have e4:=(a1 4).trans (show _=some (.int .i64 _) from rfl)
  have HOK:=hide ok
  have hbnd:=ok.n
  clear hS0 hF hP a1 a4 hw ok hps
  go_enter Tryz.func15,Tryz.ntmps15
  go_wp2_with fail
  refine HCW.out.mono ?_
  rintro e w1 ⟨rfl,hb1⟩
  have hS1:=HS0.out.below hb1
  obtain ⟨b1,b2,b3,b4⟩:=hS1.rules 2 (g:=g + 1) (t:=74) rfl
  have f0:=(b1 0).trans (show _=some (.int .i64 0) from rfl)
  have f1:=(b1 1).trans (show _=some (.bool false) from rfl)
  have f2:=(b1 2).trans (show _=some (.int .i64 0) from rfl)
  obtain ⟨a1,a2',a3',a4⟩:=hS1.rules 1 (g:=g) (t:=72) rfl
  have e0:=(a1 0).trans (show _=some (.int .i64 7) from rfl)
  have e1:=(a1 1).trans (show _=some (.int .i64 _) from rfl)
  have e2:=(a1 2).trans (show _=some (.int .i64 _) from rfl)
  have e3:=(a1 3).trans (show _=some (.int .i64 _) from rfl)
  have e4:=(a1 4).trans (show _=some (.int .i64 _) from rfl)
  clear a1 a4 b1 b4
  have HS1:=hide hS1
  clear hb1 HS0 HCW a2 a3
  have hP1:(idI Bm Be s).P w1:=hS1.get 0 rfl
  obtain ⟨i3,i4,i1,_,i2⟩:=id_cells hP1 h8 Q hQ
  clear hvv
  obtain ⟨v,hv⟩:∃ v,rgA s.regs (Q:Int)=v:=⟨_,rfl⟩
  have HVD:=hide hv
  rw [hv] at i3 i4 HVV
  clear hv hS1 hP1
  obtain ⟨bv,mv⟩:=v
  dsimp only at i3 i4
  go_wp2_with fail
  have q1:g ≠ w1.heap.size:=by omega
  have q2:Bm ≠ w1.heap.size:=by omega
  go_region_held3 (fun w' => w'.cell? ⟨g,2,none⟩=some (.int .i64 (Q:Int)) ∧ w'.cell? ⟨Bm,Q * 2,none⟩=some (.bool bv) ∧ w'.cell? ⟨Bm,Q * 2 + 1,none⟩=some (.int .i64 mv)) (simp (config:={ maxDischargeDepth:=8 }) [*,World.cell?_alloc_some]) (fail)
  have hSv:=(HS1.out.blkAt 63 #[.bool bv,.int .i64 mv] (g:=w1.heap.size) rfl).drew
  obtain ⟨gv,hgv⟩:∃ g,w1.heap.size=g:=⟨_,rfl⟩
  obtain ⟨v1,v2,v3,_⟩:=hSv.rules 3 (g:=w1.heap.size) (t:=63) rfl
  have v4:=(v1 0).trans (show _=some (.bool bv) from rfl)
  have v5:=(v1 1).trans (show _=some (.int .i64 mv) from rfl)
  obtain ⟨b1,b2,b3,b4⟩:=hSv.rules 2 (g:=g + 1) (t:=74) rfl
  have f0:=(b1 0).trans (show _=some (.int .i64 0) from rfl)
  have f1:=(b1 1).trans (show _=some (.bool false) from rfl)
  have f2:=(b1 2).trans (show _=some (.int .i64 0) from rfl)
  obtain ⟨a1,a2',a3',a4⟩:=hSv.rules 1 (g:=g) (t:=72) rfl
  have e0:=(a1 0).trans (show _=some (.int .i64 7) from rfl)
  have e1:=(a1 1).trans (show _=some (.int .i64 _) from rfl)
  have e2:=(a1 2).trans (show _=some (.int .i64 _) from rfl)
  have e3:=(a1 3).trans (show _=some (.int .i64 _) from rfl)
  have e4:=(a1 4).trans (show _=some (.int .i64 _) from rfl)
  clear a1 a4 b1 b4
  obtain ⟨c1,_,c3,c4,c5⟩:=id_cells (hSv.get 0 rfl) h8 Q hQ
  have HSV:=hide hSv
  clear hSv v1
  obtain ⟨W,hW⟩:∃ W,(w1.alloc (.cells #[.bool bv,.int .i64 mv] 63)).drew=W:=⟨_,rfl⟩
  rw [hW] at HSV v2 v3 v4 v5 b2 b3 f0 f1 f2 e0 e1 e2 e3 e4 c3 c4 c5 ⊢
  clear hW q1 q2 i1 i2 i3 i4 c1
  try rw [hgv] at v4
  try rw [hgv] at v5
  try rw [hgv] at HSV
  try rw [hgv] at v2
  try rw [hgv] at v3
  rw [hgv]
  clear hgv
  by_cases hb:bv=true
  · subst hb
    obtain ⟨h0,h1⟩:=HVV.out rfl
    obtain ⟨i,rfl⟩:=int_nat h0
    have hi:i < s.ps.length:=by omega
    have CP:=hide (fun (n:Nat) => len_any (pre:=[]) ((Sep.start ((HSV.out.drewN n).get 0 rfl)).flat) (by have:=HOK.out.n; omega) hi)
    have hme:=meth_len Be (.slice s.As s.ps.length s.c) W.drew (by rw [World.cell?_drew]; exact c4)
    go_wp2_with fail
    go_region_law (first
      | (try go_simp
         go_at_call 105
         refine (CP.out 1).mono ?_
         rintro e w4 ⟨rfl,rfl⟩))
    all_goals
      have hS4:=(HSV.out.drewN 1).set_ 3 (g:=gv) (t:=63) rfl 1 (.int .i64 (s.ps[i].o.n:Int))
      obtain ⟨b1,b2,b3,b4⟩:=hS4.rules 2 (g:=g + 1) (t:=74) rfl
      have f0:=(b1 0).trans (show _=some (.int .i64 0) from rfl)
      have f1:=(b1 1).trans (show _=some (.bool false) from rfl)
      have f2:=(b1 2).trans (show _=some (.int .i64 0) from rfl)
      obtain ⟨v1,v2,v3,_⟩:=hS4.rules 3 (g:=gv) (t:=63) rfl
      have v4:=(v1 0).trans (show _=some (.bool true) from rfl)
      have v5:=(v1 1).trans (show _=some (.int .i64 (s.ps[i].o.n:Int)) from rfl)
      have hln:=Idl.fields_len ((Sep.start (hS4.get 0 rfl)).flat) (List.getElem_mem hi)
      have HS4:=hide hS4
      have HLN:=hide hln
      clear b1 b4 v1 hS4 CP hme hln
      obtain ⟨W4,hW4⟩:∃ W4,(W.drewN 1).setCell ⟨gv,1,none⟩ (.int .i64 (s.ps[i].o.n:Int))=W4:=⟨_,rfl⟩
      rw [hW4] at HS4 f0 f1 f2 b2 b3 v2 v3 v4 v5 ⊢
      go_wp2_with fail
      have hr:=HRES.out
      rw [HVD.out] at hr
      dsimp only at hr
      rw [if_pos rfl,obA_abs hi,HLN.out] at hr
      subst hr
      have hF:=(((HS4.out).set_ 2 (g:=g + 1) (t:=74) rfl 0 (.int .i64 0)).set_ 2 (g:=g + 1) (t:=74) rfl 1 (.bool true)).set_ 2 (g:=g + 1) (t:=74) rfl 2 (.int .i64 (s.ps[i].o.n:Int))
      refine bodyPost_ret (v:=.agg #[.int .i64 0,.bool true,.int .i64 (s.ps[i].o.n:Int)]) (by simp [results,Tryz.results15,go_sem,f0,f1,f2]) rfl ⟨s,rfl,rfl,hF.sub (by simp)⟩
  · have hb2:bv=false:=by cases bv <;> simp_all
    subst hb2
    go_wp2_with fail
    have hr:=HRES.out
    rw [HVD.out] at hr
    dsimp only at hr
    rw [if_neg (by decide)] at hr
    subst hr
    have hF:=(((HSV.out).set_ 2 (g:=g + 1) (t:=74) rfl 0 (.int .i64 0)).set_ 2 (g:=g + 1) (t:=74) rfl 1 (.bool false)).set_ 2 (g:=g + 1) (t:=74) rfl 2 (.int .i64 mv)
    refine bodyPost_ret (v:=.agg #[.int .i64 0,.bool false,.int .i64 mv]) (by simp [results,Tryz.results15,go_sem,f0,f1,f2]) rfl ⟨s,rfl,rfl,hF.sub (by simp)⟩
theorem do_any {Bm Be:Nat} {s:Idl} {w:World} (hP:(idI Bm Be s).P w) (ok:IOk s) (d:DoV):DoOk Bm Be s w d:=by
  by_cases hw:wrongM d=0
  · obtain ⟨k1,k2⟩:=wrongM_rng hw
    obtain ⟨k,to,fr,at_,n⟩:=d
    dsimp only at k1 k2
    obtain rfl | rfl | rfl | rfl | rfl | rfl | rfl:k=1 ∨ k=2 ∨ k=3 ∨ k=4 ∨ k=5 ∨ k=6 ∨ k=7:=by omega
    · exact do_1 hP ok to fr at_ n hw
    · exact do_2 hP ok to fr at_ n hw
    · exact do_3 hP ok to fr at_ n hw
    · exact do_4 hP ok to fr at_ n hw
    · exact do_5 hP ok to fr at_ n hw
    · exact do_6 hP ok to fr at_ n hw
    · exact do_7 hP ok to fr at_ n hw
  · exact do_bad hP d hw
end Go.Proofs.YtjphckfbbiehdaaGreat

namespace Go.Proofs.YtjphckfbbiehdaaGreat
open Go.RowKit
def rWrong (d:DoV) (σ:MSt):Int:=if wrongM d ≠ 0 then wrongM d else if d.k=4 then fErr σ.objs (rgA σ.regs d.to) d.at_ else if d.k=5 then fErr σ.objs (rgA σ.regs d.fr) d.at_ else 0
theorem stepM_rw (d:DoV) (σ:MSt):stepM d σ=if rWrong d σ ≠ 0 then (⟨rWrong d σ,false,0⟩,σ) else stepK d σ:=by
  unfold stepM rWrong
  by_cases h:wrongM d ≠ 0
  · simp [h]
  · rw [if_neg h,if_neg h]
    unfold stepK
    by_cases h4:d.k=4
    · rw [h4]
      simp only [show ¬(4:Int)=1 from by decide,show ¬(4:Int)=2 from by decide,show ¬(4:Int)=3 from by decide,if_false,if_true]
      by_cases hp:fErr σ.objs (rgA σ.regs d.to) d.at_=0 <;> simp [hp]
    by_cases h5:d.k=5
    · rw [h5]
      simp only [show ¬(5:Int)=1 from by decide,show ¬(5:Int)=2 from by decide,show ¬(5:Int)=3 from by decide,show ¬(5:Int)=4 from by decide,if_false,if_true]
      by_cases hp:fErr σ.objs (rgA σ.regs d.fr) d.at_=0 <;> simp [hp]
    · simp [h4,h5]
def goneD (d:DoV) (gone:List Bool):List Bool:=if d.k=1 then gone ++ [false] else gone
end Go.Proofs.YtjphckfbbiehdaaGreat

namespace Go.Proofs.YtjphckfbbiehdaaGreat
open Go.RowKit
def padR (l:List Val) (k:Nat):List Val:=l.take k ++ List.replicate (8 - k) (false,0)
theorem padR_len (l:List Val) (k:Nat) (hk:k ≤ l.length) (h8:k ≤ 8):(padR l k).length=8:=by
  unfold padR; rw [List.length_append,List.length_take,List.length_replicate]; omega
end Go.Proofs.YtjphckfbbiehdaaGreat

namespace Go.Proofs.YtjphckfbbiehdaaGreat
open Go.RowKit
def outsV (l:List OutV):List Value:=l.flatMap fun o => [.int .i64 o.code,.bool o.rf,.int .i64 o.n]
theorem outsV_length (l:List OutV):(outsV l).length=l.length * 3:=by
  unfold outsV; induction l with
  | nil => rfl
  | cons a l ih => simp [List.flatMap_cons] at ih ⊢; omega
theorem outsV_at (l:List OutV) (k:Nat) (h:k < l.length):(outsV l)[k * 3]?=some (.int .i64 l[k].code) ∧ (outsV l)[k * 3 + 1]?=some (.bool l[k].rf) ∧ (outsV l)[k * 3 + 2]?=some (.int .i64 l[k].n):=by
  unfold outsV
  induction l generalizing k with
  | nil => simp at h
  | cons a l ih =>
    cases k with
    | zero => exact ⟨rfl,rfl,rfl⟩
    | succ k =>
      have h2:=ih k (by simpa using h)
      rw [List.flatMap_cons,show (k + 1) * 3=k * 3 + 1 + 1 + 1 from by omega]
      exact h2
end Go.Proofs.YtjphckfbbiehdaaGreat

namespace Go.Proofs.YtjphckfbbiehdaaGreat
open Go.RowKit
section
variable {F : Fence} {n : Nat} {P : Program} {ops : Array Oper} {md : Region.Mode} {w : World}
structure WideF (F:Fence) (P:Program):Prop where
  fn:∀ f,F.fn f
  depth:F.depth.isSome=true → False
  calls:∀ {m:Nat} {f:FuncId} {args:Array Value} {w:World} {R:Ending → World → Prop},Calls P f args w R → CallsIn F m P f args w R
theorem wideF:WideF Fence.wide P:=⟨fun _ => trivial,fun h => (by simp [Fence.wide] at h),fun h => callsIn_wide.2 h⟩
theorem wideF_round (l:Nat):WideF (Fence.wide.inRound l) P:=⟨fun _ => trivial,fun h => (by simp [Fence.wide] at h),fun h => CallsIn.inRound l (callsIn_wide.2 h)⟩
theorem wpOpIn_of_stOp (hF:WideF F P) {i:Nat} {a:Act} {K:Act → Prop} {K':Act → World → Prop} {Q':Exit → Act → World → Prop} (h:∀ a,K a → K' a w) (hh:stOp P ops w i K a):wpOpIn F n P ops Q' i K' a w:=by
  unfold stOp at hh
  unfold wpOpIn
  split
  · rename_i ho; simp only [ho] at hh; exact h _ hh
  · rename_i o ho
    simp only [ho] at hh
    split
    · rename_i hw
      simp only [hw,if_true] at hh
      refine ⟨fun f _ => hF.fn f,?_⟩
      have hsem:o.semAt F.round a.eval=execOp a.eval o:=by
        by_cases hd:∃ c,o.op=.defer c
        · obtain ⟨c,hc⟩:=hd
          exfalso
          unfold Oper.still at hh
          simp only [execOp,hc,Sem.run_bind] at hh
          generalize (resolve a.eval c o.type).run P w=r at hh
          cases r with
          | ok d w' => simp [Result.andThen,Oper.stillUpon] at hh
          | halt x w' => simp [Result.andThen,Oper.stillUpon] at hh
        · exact Oper.semAt_plain F _ _ (fun c hc => hd ⟨c,hc⟩)
      rw [hsem]
      unfold Oper.still at hh
      generalize (execOp a.eval o).run P w=r at *
      cases r with
      | ok m w' =>
        cases m <;> simp only [Oper.stillUpon] at hh <;> simp only [Oper.uponIn]
        case enter f args =>
          obtain ⟨rfl,v,hc,hn⟩:=hh
          exact ⟨fun hd => (hF.depth hd).elim,hF.calls (hc.mono fun e w'' ⟨he,hw⟩ => by subst he; subst hw; exact h _ hn)⟩
        all_goals (obtain ⟨rfl,h2⟩:=hh; exact h _ h2)
      | halt x w' => simp only [Oper.stillUpon] at hh
    · rename_i hw; simp only [hw] at hh; exact ⟨fun f _ => hF.fn f,h _ hh⟩
theorem wpAnyIn_of_head (hF:WideF F P) {m g:Nat} {L:Array Bool → Act → Prop} {Q':Exit → Act → World → Prop} (hL:∀ listed a,L listed a → wpAnyIn F n P md ops Q' g listed a w) :
    ∀ (f:Nat) (listed:Array Bool) (a:Act),wpAnyL P md ops w m L f listed a → wpAnyIn F n P md ops Q' (f + g) listed a w
  | 0,listed,a,h => by rw [Nat.zero_add]; exact hL _ _ h
  | f + 1,listed,a,h => by
    rw [show f + 1 + g=(f + g) + 1 by omega]
    exact ⟨fun h0 => absurd h0 h.1,fun i hi => wpOpIn_of_stOp hF (fun a' h' => wpAnyIn_of_head hF hL f _ a' h') (h.2 i hi).2⟩
theorem wpAnyIn_of_seq {Q':Exit → Act → World → Prop}:∀ (l:List Oper) (k:Nat) (listed:Array Bool) (a:Act) (w:World),(∀ j,l[j]?=ops[k + j]?) →
    Region.seqB md ops l.length k listed=true → wpListIn F n P ops Q' l a w → wpAnyIn F n P md ops Q' l.length listed a w
  | [],_,_,_,_,_,hB,h => ⟨by simpa [Region.seqB] using hB,h⟩
  | o :: l,k,listed,a,w,hl,hB,h => by
    have h0:ops[k]?=some o:=by simpa using (hl 0).symm
    simp only [List.length_cons,Region.seqB,Bool.and_eq_true,decide_eq_true_eq] at hB
    refine ⟨fun h1 => (by rw [hB.1] at h1; cases h1),fun i hi => ?_⟩
    rw [hB.1] at hi
    have hik:i=k:=by simpa using hi
    subst hik
    have hw:wpOpIn F n P ops Q' i (wpListIn F n P ops Q' l) a w:=by unfold wpOpIn; simp only [h0]; exact h
    exact wpOpIn_mono (fun a' w' h' => wpAnyIn_of_seq l (i + 1) _ a' w' (fun j => by have:=hl (j + 1); simpa [Nat.add_assoc,Nat.add_comm 1 j] using this) hB.2 h') hw
theorem wpIn_region_still_tail (hF:WideF F P) {id:Nat} {Q:Exit → Act → World → Prop} {a:Act} {w:World} {l:List Oper} (m:Nat) (hm:P.follows .mixedOrders=true) (hB:Region.lexTailB .any l.toArray m=true)
    (h:wpStill P l.toArray w.drew (fun a' => wpListIn F n P l.toArray Q (l.drop m) a' w.drew) (l.take m) a):(Code.region id l.toArray true).wpIn F n P Q a w:=by
  simp only [Region.lexTailB,Bool.and_eq_true,decide_eq_true_eq] at hB
  obtain ⟨⟨⟨⟨hsel,hn⟩,hs⟩,hc⟩,hlex⟩:=hB
  have hn':m < l.length:=by simpa using hn
  have htl:(l.take m).length=m:=by simp; omega
  have hdl:(l.drop m).length=l.toArray.size - m:=by simp
  have inv0:HeadInv .any l.toArray m (Array.replicate l.toArray.size false) :=
    ⟨by simp,fun j oj _ hl => (by rw [getD_replicate_false] at hl; cases hl),fun t _ ht => getD_in (by simpa using ht) (getD_replicate_false _ _)⟩
  have H:=wpAnyL_lex (md:=.any) (g:=l.toArray.size - m) hsel hs hc hn (l.take m) 0 _ a (fun j hj => by
    have hj':j < m:=by rw [htl] at hj; exact hj
    simp [hj']) (by simpa using htl) inv0 (by rw [htl]; exact hlex) h
  refine wpIn_region_any hm ?_
  have:=wpAnyIn_of_head (n:=n) hF (Q':=Q) (g:=l.toArray.size - m) (fun listed a' hL => by
    have:=wpAnyIn_of_seq (F:=F) (n:=n) (P:=P) (md:=.any) (Q':=Q) (l.drop m) m listed a' w.drew (fun j => by simp [List.getElem?_drop]) (by rw [hdl]; exact hL.1) hL.2
    rwa [hdl] at this) _ _ _ H
  rw [htl,show m + (l.toArray.size - m)=l.toArray.size by omega] at this
  exact this
end
end Go.Proofs.YtjphckfbbiehdaaGreat

namespace Go.Proofs.YtjphckfbbiehdaaGreat
open Go.RowKit
def refers (vs:List Val) (i:Int):Bool:=vs.any fun v => v.1 && v.2 == i
def d0 (gs:List (List Val)) (vs:List Val):List Int:=(List.range gs.length).map fun (i:Nat) => if refers vs (i:Int)=true then 0 else -1
def dLook (gs:List (List Val)) (t i:Nat) (d:List Int) (j:Nat):List Int:=if d.getD j 0 < 0 ∧ refers (fieldsI gs (i:Int)) (j:Int)=true then d.set j ((t:Int) + 1) else d
def dFrom (gs:List (List Val)) (t:Nat) (d:List Int) (i:Nat):List Int:=if d.getD i 0=(t:Int) then (List.range gs.length).foldl (dLook gs t i) d else d
def dTurn (gs:List (List Val)) (d:List Int) (t:Nat):List Int:=(List.range gs.length).foldl (dFrom gs t) d
def distR (gs:List (List Val)) (vs:List Val):List Int:=(List.range gs.length).foldl (dTurn gs) (d0 gs vs)
def reachR (gs:List (List Val)) (vs:List Val):List Int:=((List.range gs.length).filter fun (i:Nat) => decide (0 ≤ (distR gs vs).getD i 0)).map fun (i:Nat) => (i:Int)
theorem range_snoc_fold {α:Type} (f:α → Nat → α) (a:α) (k:Nat):(List.range (k + 1)).foldl f a=f ((List.range k).foldl f a) k:=by rw [List.range_succ,List.foldl_append]; rfl
theorem d0_len (gs:List (List Val)) (vs:List Val):(d0 gs vs).length=gs.length:=by simp [d0]
theorem dMadeInts (n:Nat):(madeCells (Value.cells (.int .i64 0)) (n * 1)).toList=ints (List.replicate n 0):=by
  rcases Nat.eq_zero_or_pos n with rfl | h
  · simp [madeCells,ints]
  · apply List.ext_getElem (by simp [madeCells,Value.cells,ints])
    intro i h1 h2
    simp [madeCells,Value.cells,ints,Nat.mod_one]
theorem ints_set_ (l:List Int) (k:Nat) (x:Int):(ints l).set k (.int .i64 x)=ints (l.set k x):=by unfold ints; rw [List.map_set]
end Go.Proofs.YtjphckfbbiehdaaGreat

namespace Go.Proofs.YtjphckfbbiehdaaGreat
open Go.RowKit
theorem getD_get {d:List Int} {k:Nat} (h:k < d.length):d.getD k 0=d[k]:=by rw [List.getD_eq_getElem?_getD,List.getElem?_eq_getElem h]; rfl
theorem dLook_keep {gs:List (List Val)} {t i:Nat} {d:List Int} (j:Nat) (h:d.getD i 0=(t:Int)):(dLook gs t i d j).getD i 0=(t:Int):=by
  unfold dLook
  split
  · rename_i hc
    have hne:i ≠ j:=by rintro rfl; omega
    rw [List.getD_eq_getElem?_getD,List.getElem?_set_ne (Ne.symm hne),← List.getD_eq_getElem?_getD]
    exact h
  · exact h
end Go.Proofs.YtjphckfbbiehdaaGreat

namespace Go.Proofs.YtjphckfbbiehdaaGreat
theorem seen1_mem (l:List Int) (v:Val) (h:v.1=true):v.2 ∈ seen1 l v:=by
  unfold seen1
  by_cases h2:v.2 ∈ l
  · rw [if_neg (by rintro ⟨_,h3⟩; exact h3 h2)]; exact h2
  · rw [if_pos ⟨h,h2⟩]; simp
theorem seenAll_mem (vs:List Val):∀ (l:List Int) (v:Val),v ∈ vs → v.1=true → v.2 ∈ seenAll l vs:=by
  induction vs with
  | nil => intro l v h; simp at h
  | cons a vs ih =>
    intro l v h h1
    rw [seenAll_cons]
    rcases List.mem_cons.1 h with rfl | h2
    · exact (seenAll_pre _ _).subset (seen1_mem _ _ h1)
    · exact ih _ v h2 h1
end Go.Proofs.YtjphckfbbiehdaaGreat
