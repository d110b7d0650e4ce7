/- Part of a proof. -/
import Derived.Test.YtjphckfbbiehdaaGreatSTopAll24
import Derived.Test.YtjphckfbbiehdaaGreatSTopAll13
import Derived.Test.YtjphckfbbiehdaaGreatSTopAll21
import Derived.Laws.CopyOwn
import Derived.Test.YtjphckfbbiehdaaGreatSTopAll10
import Derived.Test.YtjphckfbbiehdaaGreatSTopAll15
import Derived.BigQuiet
import Derived.Test.YtjphckfbbiehdaaGreatSTopAll5
import Derived.StillTailTactics
import Derived.Deep.RegionHeld3
import Derived.Test.YtjphckfbbiehdaaGreatSTopAll8
import Derived.Test.YtjphckfbbiehdaaGreatSTopAll2
import Derived.Test.YtjphckfbbiehdaaGreatSTopAll22
import Derived.Test.YtjphckfbbiehdaaGreatSTopAll23
import Derived.Deep.OwnRows
set_option linter.unusedSimpArgs false
set_option linter.unusedVariables false
namespace Go.Proofs.YtjphckfbbiehdaaGreat
open Go.RowKit
def CnT.put (t:CnT) (i k:Nat) (v:Val) (p:Po):CnT:={ t with oj:=t.oj.put i k v p }
theorem CnT.put_a {t:CnT} {i:Nat} {p:Po} (hi:t.oj.ps[i]?=some (some p)) (k:Nat) (v:Val):(t.put i k v p).a=t.a.seto i k v:=by
  have hf:t.a.fld i=some p.o.fields:=CnA.fld_iff.2 (by show t.oj.abs[i]?=_; unfold Oj.abs; rw [List.getElem?_map,hi]; rfl)
  unfold CnA.seto
  rw [hf]
  unfold CnT.put CnT.a
  dsimp only
  rw [oj_put_abs]
  rfl
theorem y_cells {g1 g:Nat} {x:Item} {cs1 cs:Array Value} {w:World} (h:(allI [blkI g1 63 cs1,blkI g 63 cs,x]).P w):((∀ i,w.cell? ⟨g1,i,none⟩=cs1[i]?) ∧ (∀ i,w.frozen? ⟨g1,i,none⟩=false) ∧ g1 < w.heap.size) ∧ (∀ i,w.cell? ⟨g,i,none⟩=cs[i]?) ∧ (∀ i,w.frozen? ⟨g,i,none⟩=false) ∧ g < w.heap.size:=by
  obtain ⟨a1,a2,a3,_⟩:=(Sep.start h).flat.rules 0 (g:=g1) (t:=63) rfl
  obtain ⟨b1,b2,b3,_⟩:=(Sep.start h).flat.rules 1 (g:=g) (t:=63) rfl
  exact ⟨⟨a1,a2,a3⟩,b1,b2,b3⟩
theorem cn_pgather {F:Nat → Prop} {W w:World} {y:Item} {Be Bm:Nat} {R N:Int} {t:CnT} (h:Sep F W w (y :: cnRN Be Bm R N t)):Sep F W w [allI (ojL t.oj),y,blkI Be 80 (cnC Bm R N t),rowI 3 1 t.Ac t.cnt.length t.cc (ints t.cnt),rowI 3 1 t.Ag t.gl.length t.cg (ints t.gl)] :=
  Sep.join (l:=ojL t.oj) (Sep.perm (l:=ojL t.oj ++ [y,blkI Be 80 (cnC Bm R N t),rowI 3 1 t.Ac t.cnt.length t.cc (ints t.cnt),rowI 3 1 t.Ag t.gl.length t.cg (ints t.gl)]) h (List.perm_append_comm (l₁:=[y,blkI Be 80 (cnC Bm R N t),rowI 3 1 t.Ac t.cnt.length t.cc (ints t.cnt),rowI 3 1 t.Ag t.gl.length t.cg (ints t.gl)])))
theorem cn_pungather {F:Nat → Prop} {W w:World} {y:Item} {Be Bm:Nat} {R N:Int} {t:CnT} {i k:Nat} {v:Val} {p:Po} (h:Sep F W w [allI (ojL (t.oj.put i k v p)),y,blkI Be 80 (cnC Bm R N t),rowI 3 1 t.Ac t.cnt.length t.cc (ints t.cnt),rowI 3 1 t.Ag t.gl.length t.cg (ints t.gl)]):Sep F W w (y :: cnRN Be Bm R N (t.put i k v p)):=by
  have h1:=(Sep.split (l:=ojL (t.oj.put i k v p)) h).perm (List.perm_append_comm (l₁:=ojL (t.oj.put i k v p)) (l₂:=[y,blkI Be 80 (cnC Bm R N t),rowI 3 1 t.Ac t.cnt.length t.cc (ints t.cnt),rowI 3 1 t.Ag t.gl.length t.cg (ints t.gl)]))
  have e:cnC Bm R N (t.put i k v p)=cnC Bm R N t:=by
    unfold cnC CnT.put Oj.v Oj.put
    dsimp only
    rw [List.length_set]
  unfold cnRN
  rw [e]
  exact h1
set_option maxRecDepth 100000 in
set_option maxHeartbeats 16000000 in
theorem ctput_any {F:Nat → Prop} {W0 w:World} {Be Bm:Nat} {R:Int} {t:CnT} {x:Item} (h:Sep F W0 w (x :: cnR Be Bm R t)) (ok:CnOk t.a) (hn:t.oj.ps.length ≤ 600) {i k:Nat} {p:Po} (v:Val) (hv:t.a.vok v) (hi:t.oj.ps[i]?=some (some p)) (hk:k < p.o.fields.length) :
    Calls Tryz.prog 110 #[.pointer (some ⟨Be,0,none⟩),.int .i64 (i:Int),.int .i64 (k:Int),.agg #[.bool v.1,.int .i64 v.2]] w fun e w' => (∃ u,e=.returned u) ∧ ∃ t':CnT,t'.a=cnPut t.a i k v ∧ t'.regs=t.regs ∧ Sep F W0 w' (x :: cnR Be Bm R t'):=by
  obtain ⟨g,hg⟩:∃ g,w.heap.size=g:=⟨_,rfl⟩
  have hf:t.a.fld i=some p.o.fields:=CnA.fld_iff.2 (by show t.oj.abs[i]?=_; unfold Oj.abs; rw [List.getElem?_map,hi]; rfl)
  have h4:=ok.inv.f4 i _ hf
  have hil:=(List.getElem?_eq_some_iff.1 hi).1
  have hS0:=h.blkAtF 63 #[.bool v.1,.int .i64 v.2] hg
  obtain ⟨W,hW⟩:∃ W,w.alloc (.cells #[.bool v.1,.int .i64 v.2] 63)=W:=⟨_,rfl⟩
  rw [hW] at hS0
  obtain ⟨k1,-,-,-,-,-,-,k8⟩:=cn_cells (pre:=[_,x]) hS0
  have CG:=hide (oget_any (pre:=[_,x,_,_,_]) hS0 (by omega) hi hk h4)
  obtain ⟨p1,p2,p3,p4,p5⟩:=ok.put hf hk hv
  have hnum:t.a.num ≤ t.a.objs.length:=someN_le _
  have hgb:=ok.gb
  have hon:=t.n
  have hcl:t.cnt.length ≤ 1000:=by have:=ok.inv.cl; rw [hon] at this; have h3:t.a.cnt=t.cnt:=rfl; rw [h3] at this; omega
  have hvin:=cn_vin ok.inv hv
  have hbd:=cn_bound ok.inv (by have:=ok.r8; omega) hn
  have HU:=hide (fun (wq:World) (y:Item) (hq:Sep F W0 wq (y :: cnR Be Bm R t)) => show Calls Tryz.prog 17 #[.pointer (some ⟨Be,0,none⟩),.agg #[.bool v.1,.int .i64 v.2]] wq fun e w' => (∃ u,e=.returned u) ∧ Sep F W0 w' (y :: cnR Be Bm R (t.cn (t.a.up v).cnt)) from by
    rw [← cnR_cn]
    exact cup_any hq hcl v hvin hbd)
  have hi1:(t.cn (t.a.up v).cnt).oj.ps[i]?=some (some p):=hi
  have HP:=hide (fun (wq:World) (hq:(allI (ojL t.oj)).P wq) => oput_any hq (by omega) v hi hk h4)
  have e2:((t.cn (t.a.up v).cnt).put i k v p).a=(t.a.up v).seto i k v:=by rw [CnT.put_a hi1,t.cn_a]
  have hup:(t.a.up v).fld i=some p.o.fields:=by rw [up_fld]; exact hf
  have en:(((t.cn (t.a.up v).cnt).put i k v p).a.num:Int)=((t.cn (t.a.up v).cnt).a.num:Int):=by rw [e2,seto_num v hup,t.cn_a]
  have HPT:=hide (fun (wq:World) (y:Item) (hq:Sep F W0 wq (y :: cnRN Be Bm R ((t.cn (t.a.up v).cnt).a.num:Int) ((t.cn (t.a.up v).cnt).put i k v p))) => show Sep F W0 wq (y :: cnR Be Bm R ((t.cn (t.a.up v).cnt).put i k v p)) from by unfold cnR; rw [en]; exact hq)
  have hol:((t.a.up v).seto i k v).objs.length=t.a.objs.length:=by show ((t.a.up v).objs.set _ _).length=_; rw [List.length_set,up_objs]
  have HD:=hide (fun (wq:World) (y:Item) (hq:Sep F W0 wq (y :: cnR Be Bm R ((t.cn (t.a.up v).cnt).put i k v p))) => cdown_any ((t.a.up v).seto i k v).objs.length (v:=p.o.fields[k]) (P:=t.a.regs) hq (by rw [e2]; exact p1) (by rw [e2]; exact someN_le _) (by rw [← CnT.n,e2,hol,hon]; exact hn) (by rw [e2,seto_num v hup,up_num]; show (t.a.gl).length + _ ≤ _; omega) (by rw [e2,seto_num v hup,up_num]; have:=ok.r8; omega))
  have HA:=hide (show ∀ t':CnT,t'.a=downW (cdropN ((t.a.up v).seto i k v).objs.length) ((t.cn (t.a.up v).cnt).put i k v p).a p.o.fields[k] → t'.a=cnPut t.a i k v ∧ t'.regs=t.regs from fun t' e => by
    rw [e2] at e
    have e3:t'.a=cnPut t.a i k v:=by rw [p2]; exact e
    exact ⟨e3, by have e4 : t'.a.regs = t.a.regs := by rw [e3]; exact p4
                  exact e4⟩)
  obtain ⟨old,ho⟩:∃ o,p.o.fields[k]=o:=⟨_,rfl⟩
  rw [ho] at CG HD HA
  obtain ⟨t1,ht1⟩:∃ q,t.cn (t.a.up v).cnt=q:=⟨_,rfl⟩
  have hoj:t1.oj=t.oj:=by rw [← ht1]; rfl
  rw [ht1] at HPT HD HU HA
  rw [← hoj] at HP
  obtain ⟨bv,mv⟩:=v
  obtain ⟨ov,om⟩:=old
  dsimp only at hS0 CG HU HD HA HP HPT hW ⊢
  obtain ⟨x1,x2,x3,_⟩:=hS0.rules 0 (g:=g) (t:=63) rfl
  have x5:=(x1 0).trans (show _=some (.bool bv) from rfl)
  have x6:=(x1 1).trans (show _=some (.int .i64 mv) from rfl)
  obtain ⟨N,hN⟩:∃ n,t.oj.ps.length=n:=⟨_,rfl⟩
  have k1':W.cell? ⟨Be,0,none⟩=some (.slice t.oj.As N t.oj.c):=by rw [← hN]; exact k1
  have hv1:t1.oj.v=.slice t.oj.As N t.oj.c:=by rw [hoj]; unfold Oj.v; rw [hN]
  rw [hv1] at HP
  unfold Oj.v at CG
  rw [hN] at CG
  have HOJ:=hide hoj
  have HN:=hide hN
  have HS0:=hide hS0
  clear h hv hf h4 hS0 k1 p1 p2 p3 p4 p5 hnum hgb hon hcl hvin hbd hi1 e2 hup en hol ho ht1 x1 hk hi ok hn hil hN hoj hv1
  go_enter Tryz.func110,Tryz.ntmps110
  go_wp2_with fail
  refine CG.out.mono ?_
  rintro e w1 ⟨rfl,hb1⟩
  have hS1:=HS0.out.below hb1
  obtain ⟨g1,hg1⟩:∃ g,w1.heap.size=g:=⟨_,rfl⟩
  have hS2:=hS1.blkAtF 63 #[.bool ov,.int .i64 om] hg1
  obtain ⟨X,hX⟩:∃ X,w1.alloc (.cells #[.bool ov,.int .i64 om] 63)=X:=⟨_,rfl⟩
  rw [hX] at hS2
  obtain ⟨y1,y2,y3,_⟩:=hS2.rules 1 (g:=g) (t:=63) rfl
  have y5:=(y1 0).trans (show _=some (.bool bv) from rfl)
  have y6:=(y1 1).trans (show _=some (.int .i64 mv) from rfl)
  have HU2:=hide (HU.out X _ (Sep.join (l:=[_,_,x]) hS2))
  clear hS1 hS2 HS0 HU y1 hb1 x2 x3 x5 x6 k1' k8 CG
  go_wp2_with fail
  refine HU2.out.mono ?_
  rintro e w2 ⟨⟨u,rfl⟩,hS3⟩
  obtain ⟨k1,-,-,-,-,-,-,k8⟩:=cn_cells (pre:=[_]) hS3
  rw [show t1.oj.v=.slice t.oj.As N t.oj.c from by rw [HOJ.out]; unfold Oj.v; rw [HN.out]] at k1
  obtain ⟨⟨z1,z2,z3⟩,y1,y2,y3⟩:=y_cells (hS3.get 0 rfl)
  have y5:=(y1 0).trans (show _=some (.bool bv) from rfl)
  have y6:=(y1 1).trans (show _=some (.int .i64 mv) from rfl)
  have hg5:=cn_pgather hS3.drew
  have CP5:=hide (HP.out w2.drew (hg5.get 0 rfl))
  have HG5:=hide hg5
  clear hg5 hS3 HU2 HP y1 z1 z2 z3
  go_wp2_with fail
  go_region_held3 (fun w' => w'.cell? ⟨Be,0,none⟩=some (.slice t.oj.As N t.oj.c) ∧ w'.cell? ⟨g,0,none⟩=some (.bool bv) ∧ w'.cell? ⟨g,1,none⟩=some (.int .i64 mv)) (go_keep)
    ((go_at_call 107; (with_reducible refine CP5.out.mono ?_); rintro e w6 ⟨⟨u6,rfl⟩,hP6⟩; have hS6:=HG5.out.call 0 rfl hP6; obtain ⟨j1,_,j3,_⟩:=hS6.rules 2 (g:=Be) (t:=80) rfl; have j5:w6.cell? ⟨Be,0,none⟩=some (.slice t.oj.As N t.oj.c):=(j1 0).trans (show some t1.oj.v=_ from by rw [HOJ.out]; unfold Oj.v; rw [HN.out]); obtain ⟨⟨z1,z2,z3⟩,y1,y2,y3⟩:=y_cells (hS6.get 1 rfl); have y5:=(y1 0).trans (show _=some (.bool bv) from rfl); have y6:=(y1 1).trans (show _=some (.int .i64 mv) from rfl); have z5:=(z1 0).trans (show _=some (.bool ov) from rfl); have z6:=(z1 1).trans (show _=some (.int .i64 om) from rfl); have HS6:=hide hS6; clear hP6 hS6 y1 z1 j1))
  all_goals
    have hS7:=HPT.out _ _ (cn_pungather HS6.out)
    have HS7:=hide hS7
    clear hS7 HS6 HPT
    go_wp2_with fail
    refine (HD.out _ _ HS7.out).mono ?_
    rintro e w8 ⟨⟨u8,rfl⟩,t',hab,hS8⟩
    obtain ⟨a1,a2⟩:=HA.out t' hab
    have HFIN:=hide (show Sep F W0 w8 (x :: cnR Be Bm R t') from (Sep.split (l:=[_,_,x]) hS8).sub (.cons _ (.cons _ (List.Sublist.refl _))))
    clear hS8 hab HS7 HD HA
    go_wp2_with fail
    go_end0
    exact ⟨⟨_,rfl⟩,t',a1,a2,HFIN.out⟩
end Go.Proofs.YtjphckfbbiehdaaGreat

namespace Go.Proofs.YtjphckfbbiehdaaGreat
open Go.RowKit
structure CnOk2 (a:CnA):Prop where
  ok:CnOk a
  n:a.objs.length ≤ 500
def cnKm (R:Int) (Bm Be:Nat):MemK where
  A:=CnA
  St:=CnT
  abs:=CnT.a
  Bm:=Bm
  T:=77
  p:=.pointer (some ⟨Be,0,none⟩)
  regs:=CnA.regs
  fld:=CnA.fld
  rest t:=cnR Be Bm R t
  ok:=CnOk2
  ok1 a:=CnOk a ∧ a.objs.length < 500
  hold:=CnA.hold
  setr:=CnA.sr
  new_ a n:=cnNew R a n
  put:=cnPut
  fH:=108
  fN:=109
  fL:=105
  fG:=103
  fP:=110
  rL t:=t.oj.v
  rG t:=t.oj.v
  rP _:=.pointer (some ⟨Be,0,none⟩)
theorem nmeth_hold (x:Value) (w:World):(method 303 77 x "Hold").run Tryz.prog w=.ok (108,x) w:=by kernel_rfl
theorem nmeth_new (x:Value) (w:World):(method 303 77 x "New").run Tryz.prog w=.ok (109,x) w:=by kernel_rfl
theorem nmeth_put (x:Value) (w:World):(method 303 77 x "Put").run Tryz.prog w=.ok (110,x) w:=by kernel_rfl
theorem nmeth_len0 (Be:Nat) (w:World):(method 303 77 (.pointer (some ⟨Be,0,none⟩)) "Len").run Tryz.prog w=(Sem.run Tryz.prog (do let v ← receiverAt 57 (.var ⟨Be,0,none⟩) false none; pure (105,v)) w):=by kernel_rfl
theorem nmeth_get0 (Be:Nat) (w:World):(method 303 77 (.pointer (some ⟨Be,0,none⟩)) "Get").run Tryz.prog w=(Sem.run Tryz.prog (do let v ← receiverAt 57 (.var ⟨Be,0,none⟩) false none; pure (103,v)) w):=by kernel_rfl
theorem nmeth_len (Be:Nat) (v:Value) (w:World) (h:w.cell? ⟨Be,0,none⟩=some v):(method 303 77 (.pointer (some ⟨Be,0,none⟩)) "Len").run Tryz.prog w=.ok (105,v) w:=by
  rw [nmeth_len0,Sem.run_bind,recv_cell Be w v h]; rfl
theorem nmeth_get (Be:Nat) (v:Value) (w:World) (h:w.cell? ⟨Be,0,none⟩=some v):(method 303 77 (.pointer (some ⟨Be,0,none⟩)) "Get").run Tryz.prog w=.ok (103,v) w:=by
  rw [nmeth_get0,Sem.run_bind,recv_cell Be w v h]; rfl
theorem nkm_flat {R:Int} {Bm Be:Nat} {t:CnT} {w:World} (hP:((cnKm R Bm Be).item t).P w):Sep ((cnKm R Bm Be).item t).fp w w (cnM Be Bm t :: cnR Be Bm R t):=(Sep.start hP).flat
theorem nkm_fold {R:Int} {Bm Be:Nat} {t:CnT} {F:Nat → Prop} {W0 w:World} (h:Sep F W0 w (cnM Be Bm t :: cnR Be Bm R t)):Sep F W0 w [(cnKm R Bm Be).item t]:=Sep.fold (l:=(cnKm R Bm Be).items t) h
theorem cnM_regs {Be Bm:Nat} {t t':CnT} (h:t'.regs=t.regs):cnM Be Bm t'=cnM Be Bm t:=by unfold cnM; rw [h]
set_option maxHeartbeats 1000000 in
theorem cnKm_ok (R:Int) (Bm Be:Nat):(cnKm R Bm Be).Ok where
  r8 _ ok:=CnOk.r8 (CnOk2.ok ok)
  vr _ v ok hv:=CnOk.vr (CnOk2.ok ok) (v:=v) hv
  vf _ i fs v ok h hv:=CnInv.vokF (CnOk.inv (CnOk2.ok ok)) h hv
  f4 _ i fs ok h:=CnInv.f4 (CnOk.inv (CnOk2.ok ok)) i fs h
  lim _ i fs ok h:=by have h1:=CnA.fld_lt h; have h2:=CnOk2.n ok; omega
  set_ t r v:=⟨{ t with regs:=t.regs.set r v },rfl,rfl⟩
  regs_set _ _ _:=rfl
  regs_hold a r v:=(down_regs _ _).trans (up_regs _ _)
  regs_put a i k v:=(down_regs _ _).trans (up_regs _ _)
  eH:=kenter_of Tryz.func108 (by kernel_rfl) rfl
  eN:=kenter_of Tryz.func109 (by kernel_rfl) rfl
  eL:=kenter_of Tryz.func105 (by kernel_rfl) rfl
  eG:=kenter_of Tryz.func103 (by kernel_rfl) rfl
  eP:=kenter_of Tryz.func110 (by kernel_rfl) rfl
  mH w:=nmeth_hold _ w
  mN w:=nmeth_new _ w
  mL _ w hP:=nmeth_len Be _ w (cn_cells (pre:=[_]) (nkm_flat hP)).1
  mG _ w hP:=nmeth_get Be _ w (cn_cells (pre:=[_]) (nkm_flat hP)).1
  mP _ w _:=nmeth_put _ w
  cH t w r v hP ok hr hv:=by
    have hn:t.oj.ps.length ≤ 600:=by have h1:=CnOk2.n ok; have h2:=t.n; have h3:(CnA.objs ((cnKm R Bm Be).abs t)).length=t.a.objs.length:=rfl; omega
    refine (cthold_any (nkm_flat hP) (CnOk2.ok ok) hn hr v hv).mono ?_
    rintro e w' ⟨he,t',e1,hS⟩
    exact ⟨he,t',e1,nkm_fold hS⟩
  cN t w n hP ok h4:=by
    have hn:t.oj.ps.length ≤ 600:=by have h1:=CnOk2.n ok; have h2:=t.n; have h3:(CnA.objs ((cnKm R Bm Be).abs t)).length=t.a.objs.length:=rfl; omega
    refine (ctnew_any (nkm_flat hP) ((CnInv.cl (CnOk.inv (CnOk2.ok ok))).trans t.n) hn h4).mono ?_
    rintro e w' ⟨he,t',e1,e2,hS⟩
    rw [← cnM_regs e2] at hS
    exact ⟨he,t',e1,nkm_fold hS⟩
  ok_of _ h:=⟨h.1,by have:=h.2; omega⟩
  okN a n h h4:=by
    obtain ⟨k1,k2,_,k4⟩:=CnOk.new_ h.1 R h4
    exact ⟨⟨k1,by show (cnNew R a n).1.objs.length ≤ 500; have:=h.2; omega⟩,k2⟩
  cL t w i fs hP ok h:=by
    obtain ⟨p,hp,hf⟩:=CnT.fld h
    have hS:=nkm_flat hP
    have hl:=oj_len (pre:=[_,_,_,_]) hS hp
    have hn:t.oj.ps.length ≤ 600:=by have h1:=CnOk2.n ok; have h2:=t.n; have h3:(CnA.objs ((cnKm R Bm Be).abs t)).length=t.a.objs.length:=rfl; omega
    refine (olen_any (pre:=[_,_,_,_]) hS (by omega) hp).mono fun e w' ⟨he,hw⟩ => ⟨?_,hw⟩
    rw [he,← hf,hl]
  cG t w i k fs hk hP ok h:=by
    obtain ⟨p,hp,hf⟩:=CnT.fld h
    have hS:=nkm_flat hP
    have hn:t.oj.ps.length ≤ 600:=by have h1:=CnOk2.n ok; have h2:=t.n; have h3:(CnA.objs ((cnKm R Bm Be).abs t)).length=t.a.objs.length:=rfl; omega
    have h4:=CnInv.f4 (CnOk.inv (CnOk2.ok ok)) i fs h
    subst hf
    exact oget_any (pre:=[_,_,_,_]) hS (by omega) hp hk h4
  cP t w i k fs v hk hP ok h hv:=by
    obtain ⟨p,hp,hf⟩:=CnT.fld h
    have hn:t.oj.ps.length ≤ 600:=by have h1:=CnOk2.n ok; have h2:=t.n; have h3:(CnA.objs ((cnKm R Bm Be).abs t)).length=t.a.objs.length:=rfl; omega
    subst hf
    refine (ctput_any (nkm_flat hP) (CnOk2.ok ok) hn v hv hp hk).mono ?_
    rintro e w' ⟨he,t',e1,e2,hS⟩
    rw [← cnM_regs e2] at hS
    exact ⟨he,t',e1,nkm_fold hS⟩
theorem cndo_any {R:Int} {Bm Be:Nat} {t:CnT} {F:Nat → Prop} {W0 w:World} {L:List Item} (h:Sep F W0 w ((cnKm R Bm Be).item t :: L)) (ok:CnOk t.a) (hn:t.a.objs.length < 500) (d:DoV) :
    Calls Tryz.prog 15 #[.pointer (some ⟨Bm,0,none⟩),.agg d.cells] w fun e w' => ∃ (oc:Int) (orf:Bool) (on:Int) (t':CnT),e=.returned (.agg #[.int .i64 oc,.bool orf,.int .i64 on]) ∧ cnDo R d t.a=(⟨oc,orf,on⟩,t'.a) ∧ Sep F W0 w' ((cnKm R Bm Be).item t' :: L):=by
  refine (kdo_any (cnKm R Bm Be) (cnKm_ok R Bm Be) (s:=t) (h.get 0 rfl) ⟨ok,hn⟩ d).mono ?_
  rintro e w' ⟨rfl,t',hab,hS⟩
  exact ⟨(cnDo R d t.a).1.code,(cnDo R d t.a).1.rf,(cnDo R d t.a).1.n,t',rfl,Prod.ext rfl (show (cnDo R d t.a).2=t'.a from hab.symm),h.call 0 rfl hS⟩
end Go.Proofs.YtjphckfbbiehdaaGreat

namespace Go.Proofs.YtjphckfbbiehdaaGreat
open Go.RowKit
def cntErr (nO nR nd:Nat) (obs:List Ob) (roots:List Val) (R:Int):Int:=if gcheck nO nR obs roots ≠ 0 then gcheck nO nR obs roots else if R < 1 ∨ 64 < R then 3 else if 100 < nd then 1 else 0
set_option maxRecDepth 100000 in
set_option maxHeartbeats 8000000 in
theorem countPlay_no (w:World) (AO AR Ad:Option Addr) (nO cO nR cR nd cd:Nat) (obs:List Ob) (roots:List Val) (R:Int) (hO:ObsRd w (fun _ => True) AO nO obs) (hR:Rd w (fun _ => True) 2 AR nR (vals roots)) (hz:cntErr nO nR nd obs roots R ≠ 0) :
    Calls Tryz.prog 6 #[.agg #[.slice AO nO cO,.slice AR nR cR],.int .i64 R,.slice Ad nd cd] w fun e w' => e=.returned (.tuple #[.agg #[.slice none 0 0,.slice none 0 0,.slice none 0 0],.int .i64 (cntErr nO nR nd obs roots R)]) ∧ Below w.heap.size w w':=by
  obtain ⟨g,hg⟩:∃ g,w.heap.size=g:=⟨_,rfl⟩
  have hS0:=((Sep.nil No w).blkAt 25 #[.slice AO nO cO,.slice AR nR cR] hg).blkAt 35 #[.slice none 0 0,.slice none 0 0,.slice none 0 0] (g:=g + 1) (by simp [hg])
  have C1:=hide (graphCheck_any _ AO AR nO cO nR cR obs roots (hO.below hS0.below_) (hR.below hS0.below_))
  obtain ⟨a1,a2,a3,a4⟩:=hS0.rules 0 (g:=g) (t:=25) rfl
  have HS0:=hide hS0
  unfold cntErr at hz ⊢
  obtain ⟨x,hx⟩:∃ x,gcheck nO nR obs roots=x:=⟨_,rfl⟩
  rw [hx] at C1 hz ⊢
  clear hS0 a4 hO hR hx
  by_cases h0:x=0
  · subst h0
    rw [if_neg (by simp)] at hz ⊢
    by_cases hb:R < 1 ∨ 64 < R
    · rw [if_pos hb]
      by_cases hb1:R < 1
      · have t1:decide (R < 1)=true:=by simp [hb1]
        clear hz hb hb1
        go_enter Tryz.func6,Tryz.ntmps6
        go_wp2_with fail
        refine C1.out.mono ?_
        rintro e w1 ⟨rfl,hb1⟩
        have hS2:=HS0.out.below hb1
        obtain ⟨x1,x2,x3,x4⟩:=hS2.rules 1 (g:=g + 1) (t:=35) rfl
        have HS2:=hide hS2
        clear hb1 hS2 HS0 C1 a1 a2 a3 x4
        go_wp2_with fail
        have hF:=((HS2.out.set_ 1 (g:=g + 1) (t:=35) rfl 0 (.slice none 0 0)).set_ 1 (g:=g + 1) (t:=35) rfl 1 (.slice none 0 0)).set_ 1 (g:=g + 1) (t:=35) rfl 2 (.slice none 0 0)
        refine bodyPost_ret (v:=.tuple #[.agg #[.slice none 0 0,.slice none 0 0,.slice none 0 0],.int .i64 3]) (by simp [results,Tryz.results6,go_sem,x1]) rfl ⟨rfl,hF.below_⟩
      · have t1:decide (R < 1)=false:=by simp only [hb1,decide_false]
        have t2:decide (64 < R)=true:=by simp; omega
        clear hz hb hb1
        go_enter Tryz.func6,Tryz.ntmps6
        go_wp2_with fail
        refine C1.out.mono ?_
        rintro e w1 ⟨rfl,hb1⟩
        have hS2:=HS0.out.below hb1
        obtain ⟨x1,x2,x3,x4⟩:=hS2.rules 1 (g:=g + 1) (t:=35) rfl
        have HS2:=hide hS2
        clear hb1 hS2 HS0 C1 a1 a2 a3 x4
        go_wp2_with fail
        have hF:=((HS2.out.set_ 1 (g:=g + 1) (t:=35) rfl 0 (.slice none 0 0)).set_ 1 (g:=g + 1) (t:=35) rfl 1 (.slice none 0 0)).set_ 1 (g:=g + 1) (t:=35) rfl 2 (.slice none 0 0)
        refine bodyPost_ret (v:=.tuple #[.agg #[.slice none 0 0,.slice none 0 0,.slice none 0 0],.int .i64 3]) (by simp [results,Tryz.results6,go_sem,x1]) rfl ⟨rfl,hF.below_⟩
    · rw [if_neg hb] at hz ⊢
      have hnd:100 < nd:=by
        split at hz
        · assumption
        · omega
      rw [if_pos hnd]
      have t1:decide (R < 1)=false:=by simp; omega
      have t2:decide (64 < R)=false:=by simp; omega
      have t3:decide ((100:Int) < (nd:Int))=true:=by simp; omega
      have t4:decide (100 < nd)=true:=by simp; omega
      clear hz hb
      go_enter Tryz.func6,Tryz.ntmps6
      go_wp2_with fail
      refine C1.out.mono ?_
      rintro e w1 ⟨rfl,hb1⟩
      have hS2:=HS0.out.below hb1
      obtain ⟨x1,x2,x3,x4⟩:=hS2.rules 1 (g:=g + 1) (t:=35) rfl
      have HS2:=hide hS2
      clear hb1 hS2 HS0 C1 a1 a2 a3 x4
      go_wp2_with fail
      have hF:=((HS2.out.set_ 1 (g:=g + 1) (t:=35) rfl 0 (.slice none 0 0)).set_ 1 (g:=g + 1) (t:=35) rfl 1 (.slice none 0 0)).set_ 1 (g:=g + 1) (t:=35) rfl 2 (.slice none 0 0)
      refine bodyPost_ret (v:=.tuple #[.agg #[.slice none 0 0,.slice none 0 0,.slice none 0 0],.int .i64 1]) (by simp [results,Tryz.results6,go_sem,x1]) rfl ⟨rfl,hF.below_⟩
  · rw [if_pos h0]
    have t1:decide (x=0)=false:=by simp [h0]
    have t2:(x == 0)=false:=by simp [h0]
    have t3:(x != 0)=true:=by simp [h0]
    clear hz
    go_enter Tryz.func6,Tryz.ntmps6
    go_wp2_with fail
    refine C1.out.mono ?_
    rintro e w1 ⟨rfl,hb1⟩
    have hS2:=HS0.out.below hb1
    obtain ⟨x1,x2,x3,x4⟩:=hS2.rules 1 (g:=g + 1) (t:=35) rfl
    have HS2:=hide hS2
    clear hb1 hS2 HS0 C1 a1 a2 a3 x4
    go_wp2_with fail
    have hF:=((HS2.out.set_ 1 (g:=g + 1) (t:=35) rfl 0 (.slice none 0 0)).set_ 1 (g:=g + 1) (t:=35) rfl 1 (.slice none 0 0)).set_ 1 (g:=g + 1) (t:=35) rfl 2 (.slice none 0 0)
    refine bodyPost_ret (v:=.tuple #[.agg #[.slice none 0 0,.slice none 0 0,.slice none 0 0],.int .i64 x]) (by simp [results,Tryz.results6,go_sem,x1]) rfl ⟨rfl,hF.below_⟩
end Go.Proofs.YtjphckfbbiehdaaGreat

namespace Go.Proofs.YtjphckfbbiehdaaGreat
open Go.RowKit
theorem cn_in {F:Nat → Prop} {W0 w:World} {l L:List Item} (h:Sep F W0 w (allI l :: L)):Sep F W0 w (allI L :: l) :=
  Sep.join (l:=L) ((Sep.split h).perm (List.perm_append_comm (l₁:=l) (l₂:=L)))
theorem cn_out {F:Nat → Prop} {W0 w:World} {l L:List Item} (h:Sep F W0 w (allI L :: l)):Sep F W0 w (allI l :: L):=cn_in h
theorem cnt_none {t:CnT} {i:Nat} (h:t.oj.ps[i]?=some none):(t.a.fld i).isSome=false:=by
  cases hf:t.a.fld i with
  | none => rfl
  | some fs =>
    obtain ⟨p,hp,_⟩:=CnT.fld hf
    rw [h] at hp
    cases hp
theorem cnt_some {t:CnT} {i:Nat} {p:Po} (h:t.oj.ps[i]?=some (some p)):t.a.fld i=some p.o.fields :=
  CnA.fld_iff.2 (by show t.oj.abs[i]?=_; unfold Oj.abs; rw [List.getElem?_map,h]; rfl)
theorem cup_at {F:Nat → Prop} {W0 w:World} {Be Bm:Nat} {R:Int} {t:CnT} {L:List Item} {σ:MSt} {N:Nat} (h:Sep F W0 w (allI (cnR Be Bm R t) :: L)) (hU:UpOk σ t.a N) (hN:N ≤ 1000) (hσ:σ.objs.length ≤ 1000) (v:Val) (hv:v.1=true → 0 ≤ v.2 ∧ v.2 < (σ.objs.length:Int)) :
    Calls Tryz.prog 17 #[.pointer (some ⟨Be,0,none⟩),.agg #[.bool v.1,.int .i64 v.2]] w fun e w' => (∃ u,e=.returned u) ∧ Sep F W0 w' (allI (cnR Be Bm R (t.cn (t.a.up v).cnt)) :: L):=by
  have hn:t.cnt.length=σ.objs.length:=hU.n
  refine (cup_any (cn_in h) (by omega) v (fun hb => by
    obtain ⟨z,e⟩:=int_nat (hv hb).1
    exact ⟨z,e,by have:=(hv hb).2; omega⟩) (fun j => by have h1:0 ≤ t.cnt.getD j 0 ∧ t.cnt.getD j 0 ≤ N:=hU.b j; omega)).mono ?_
  rintro e w' ⟨he,hS⟩
  rw [cnR_cn] at hS
  exact ⟨he,cn_out hS⟩
theorem cdrop_at {F:Nat → Prop} {W0 w:World} {Be Bm:Nat} {R:Int} {t:CnT} {L:List Item} (h:Sep F W0 w (allI (cnR Be Bm R t) :: L)) (ok:CnOk t.a) (hn:t.oj.ps.length ≤ 500) {i:Nat} {p:Po} (hi:t.oj.ps[i]?=some (some p)) (hc:t.cnt.getD i 0=0) :
    Calls Tryz.prog 18 #[.pointer (some ⟨Be,0,none⟩),.int .i64 (i:Int)] w fun e w' => (∃ u,e=.returned u) ∧ ∃ t':CnT,t'.a=t.a.drop i ∧ Sep F W0 w' (allI (cnR Be Bm R t') :: L):=by
  have hnum:t.a.num ≤ t.a.objs.length:=someN_le _
  have h1:=t.n
  have h2:=ok.gb
  have h8:=ok.r8
  refine (cdrop_any t.a.objs.length (P:=t.a.regs) (cn_in h) ok.inv hi hc hnum (by omega) (by show t.a.gl.length + _ ≤ _; omega) (by omega)).mono ?_
  rintro e w' ⟨he,t',e1,hS⟩
  exact ⟨he,t',e1,cn_out hS⟩
theorem nkm_cells {R:Int} {Bm Be:Nat} {t:CnT} {X:World} (hP:((cnKm R Bm Be).item t).P X):X.cell? ⟨Be,0,none⟩=some (.slice t.oj.As t.oj.ps.length t.oj.c) ∧ X.cell? ⟨Be,5,none⟩=some (.slice t.Ag t.gl.length t.cg) ∧ Be < X.heap.size:=by
  obtain ⟨k1,-,-,-,-,k6,-,k8⟩:=cn_cells (pre:=[_]) (show Sep _ _ _ ([cnM Be Bm t] ++ cnRN Be Bm R _ t) from nkm_flat hP)
  exact ⟨k1,k6,k8⟩
theorem nkm_at {R:Int} {Bm Be:Nat} {t:CnT} {X:World} (hP:((cnKm R Bm Be).item t).P X) {z gc:Nat} (hz:z < t.cnt.length) (hA:t.Ac=some ⟨gc,0,none⟩) :
    X.cell? ⟨Be,2,none⟩=some (.slice (some ⟨gc,0,none⟩) t.cnt.length t.cc) ∧ X.cell? ⟨gc,z,none⟩=some (.int .i64 (t.cnt.getD z 0)) ∧ gc < X.heap.size ∧ Be < X.heap.size:=by
  have h:=show Sep _ _ _ ([cnM Be Bm t] ++ cnRN Be Bm R _ t) from nkm_flat hP
  obtain ⟨-,-,k3,-,-,-,-,k8⟩:=cn_cells (pre:=[_]) h
  obtain ⟨gc',hA',c0,c1,c2,c3⟩:=cn_int (pre:=[_]) h hz
  obtain rfl:gc'=gc:=by rw [hA] at hA'; injection hA' with h; injection h with h; exact h.symm
  rw [hA] at k3
  exact ⟨k3,c0,c2,k8⟩
theorem nkm_int {R:Int} {Bm Be:Nat} {t:CnT} {X:World} (hP:((cnKm R Bm Be).item t).P X) {z:Nat} (hz:z < t.cnt.length):∃ gc,t.Ac=some ⟨gc,0,none⟩:=by
  obtain ⟨gc',hA',_⟩:=cn_int (pre:=[_]) (show Sep _ _ _ ([cnM Be Bm t] ++ cnRN Be Bm R _ t) from nkm_flat hP) hz
  exact ⟨gc',hA'⟩
theorem nkm_mem {R:Int} {Bm Be:Nat} {t:CnT} {i:Item} (h:i ∈ cnR Be Bm R t):i ∈ (cnKm R Bm Be).items t:=List.mem_cons_of_mem _ h
theorem nkm_rd {R:Int} {Bm Be:Nat} {t:CnT} {X:World} (hP:((cnKm R Bm Be).item t).P X):Rd X (fun _ => True) 1 t.oj.As t.oj.ps.length (t.oj.ps.map ptrV) :=
  Rd.of_own (show X.ownsRow 0 84 1 (.slice t.oj.As t.oj.ps.length t.oj.c) t.oj.ps.length (t.oj.ps.map ptrV) from (nkm_flat hP).get 4 rfl) (fun _ _ => trivial)
theorem nkm_gl {R:Int} {Bm Be:Nat} {t:CnT} {X:World} (hP:((cnKm R Bm Be).item t).P X):X.ownsRow 0 3 1 (.slice t.Ag t.gl.length t.cg) t.gl.length (ints t.gl):=(nkm_flat hP).get 3 rfl
end Go.Proofs.YtjphckfbbiehdaaGreat

namespace Go.Proofs.YtjphckfbbiehdaaGreat
open Go.RowKit
theorem idx_reg0 (p0 p1 p2 p3 p4 p5 p6 p7:Val) (w:World):(Instr.index 65 (.agg #[.bool p0.1,.int .i64 p0.2,.bool p1.1,.int .i64 p1.2,.bool p2.1,.int .i64 p2.2,.bool p3.1,.int .i64 p3.2,.bool p4.1,.int .i64 p4.2,.bool p5.1,.int .i64 p5.2,.bool p6.1,.int .i64 p6.2,.bool p7.1,.int .i64 p7.2]) (.int .i64 0)).run Tryz.prog w=.ok (.agg #[.bool p0.1,.int .i64 p0.2]) w:=by kernel_rfl
theorem idx_reg1 (p0 p1 p2 p3 p4 p5 p6 p7:Val) (w:World):(Instr.index 65 (.agg #[.bool p0.1,.int .i64 p0.2,.bool p1.1,.int .i64 p1.2,.bool p2.1,.int .i64 p2.2,.bool p3.1,.int .i64 p3.2,.bool p4.1,.int .i64 p4.2,.bool p5.1,.int .i64 p5.2,.bool p6.1,.int .i64 p6.2,.bool p7.1,.int .i64 p7.2]) (.int .i64 1)).run Tryz.prog w=.ok (.agg #[.bool p1.1,.int .i64 p1.2]) w:=by kernel_rfl
theorem idx_reg2 (p0 p1 p2 p3 p4 p5 p6 p7:Val) (w:World):(Instr.index 65 (.agg #[.bool p0.1,.int .i64 p0.2,.bool p1.1,.int .i64 p1.2,.bool p2.1,.int .i64 p2.2,.bool p3.1,.int .i64 p3.2,.bool p4.1,.int .i64 p4.2,.bool p5.1,.int .i64 p5.2,.bool p6.1,.int .i64 p6.2,.bool p7.1,.int .i64 p7.2]) (.int .i64 2)).run Tryz.prog w=.ok (.agg #[.bool p2.1,.int .i64 p2.2]) w:=by kernel_rfl
theorem idx_reg3 (p0 p1 p2 p3 p4 p5 p6 p7:Val) (w:World):(Instr.index 65 (.agg #[.bool p0.1,.int .i64 p0.2,.bool p1.1,.int .i64 p1.2,.bool p2.1,.int .i64 p2.2,.bool p3.1,.int .i64 p3.2,.bool p4.1,.int .i64 p4.2,.bool p5.1,.int .i64 p5.2,.bool p6.1,.int .i64 p6.2,.bool p7.1,.int .i64 p7.2]) (.int .i64 3)).run Tryz.prog w=.ok (.agg #[.bool p3.1,.int .i64 p3.2]) w:=by kernel_rfl
theorem idx_reg4 (p0 p1 p2 p3 p4 p5 p6 p7:Val) (w:World):(Instr.index 65 (.agg #[.bool p0.1,.int .i64 p0.2,.bool p1.1,.int .i64 p1.2,.bool p2.1,.int .i64 p2.2,.bool p3.1,.int .i64 p3.2,.bool p4.1,.int .i64 p4.2,.bool p5.1,.int .i64 p5.2,.bool p6.1,.int .i64 p6.2,.bool p7.1,.int .i64 p7.2]) (.int .i64 4)).run Tryz.prog w=.ok (.agg #[.bool p4.1,.int .i64 p4.2]) w:=by kernel_rfl
theorem idx_reg5 (p0 p1 p2 p3 p4 p5 p6 p7:Val) (w:World):(Instr.index 65 (.agg #[.bool p0.1,.int .i64 p0.2,.bool p1.1,.int .i64 p1.2,.bool p2.1,.int .i64 p2.2,.bool p3.1,.int .i64 p3.2,.bool p4.1,.int .i64 p4.2,.bool p5.1,.int .i64 p5.2,.bool p6.1,.int .i64 p6.2,.bool p7.1,.int .i64 p7.2]) (.int .i64 5)).run Tryz.prog w=.ok (.agg #[.bool p5.1,.int .i64 p5.2]) w:=by kernel_rfl
theorem idx_reg6 (p0 p1 p2 p3 p4 p5 p6 p7:Val) (w:World):(Instr.index 65 (.agg #[.bool p0.1,.int .i64 p0.2,.bool p1.1,.int .i64 p1.2,.bool p2.1,.int .i64 p2.2,.bool p3.1,.int .i64 p3.2,.bool p4.1,.int .i64 p4.2,.bool p5.1,.int .i64 p5.2,.bool p6.1,.int .i64 p6.2,.bool p7.1,.int .i64 p7.2]) (.int .i64 6)).run Tryz.prog w=.ok (.agg #[.bool p6.1,.int .i64 p6.2]) w:=by kernel_rfl
theorem idx_reg7 (p0 p1 p2 p3 p4 p5 p6 p7:Val) (w:World):(Instr.index 65 (.agg #[.bool p0.1,.int .i64 p0.2,.bool p1.1,.int .i64 p1.2,.bool p2.1,.int .i64 p2.2,.bool p3.1,.int .i64 p3.2,.bool p4.1,.int .i64 p4.2,.bool p5.1,.int .i64 p5.2,.bool p6.1,.int .i64 p6.2,.bool p7.1,.int .i64 p7.2]) (.int .i64 7)).run Tryz.prog w=.ok (.agg #[.bool p7.1,.int .i64 p7.2]) w:=by kernel_rfl
theorem idx_reg (p0 p1 p2 p3 p4 p5 p6 p7:Val) (k:Nat) (v:Val) (hv:[p0,p1,p2,p3,p4,p5,p6,p7][k]?=some v) (w:World):(Instr.index 65 (.agg #[.bool p0.1,.int .i64 p0.2,.bool p1.1,.int .i64 p1.2,.bool p2.1,.int .i64 p2.2,.bool p3.1,.int .i64 p3.2,.bool p4.1,.int .i64 p4.2,.bool p5.1,.int .i64 p5.2,.bool p6.1,.int .i64 p6.2,.bool p7.1,.int .i64 p7.2]) (.int .i64 (k:Int))).run Tryz.prog w=.ok (.agg #[.bool v.1,.int .i64 v.2]) w:=by
  have hk:k < 8:=(List.getElem?_eq_some_iff.1 hv).1
  obtain rfl | rfl | rfl | rfl | rfl | rfl | rfl | rfl:k=0 ∨ k=1 ∨ k=2 ∨ k=3 ∨ k=4 ∨ k=5 ∨ k=6 ∨ k=7:=by omega
  · obtain rfl:=Option.some.inj hv; exact idx_reg0 ..
  · obtain rfl:=Option.some.inj hv; exact idx_reg1 ..
  · obtain rfl:=Option.some.inj hv; exact idx_reg2 ..
  · obtain rfl:=Option.some.inj hv; exact idx_reg3 ..
  · obtain rfl:=Option.some.inj hv; exact idx_reg4 ..
  · obtain rfl:=Option.some.inj hv; exact idx_reg5 ..
  · obtain rfl:=Option.some.inj hv; exact idx_reg6 ..
  · obtain rfl:=Option.some.inj hv; exact idx_reg7 ..
end Go.Proofs.YtjphckfbbiehdaaGreat

namespace Go.Proofs.YtjphckfbbiehdaaGreat
open Go.RowKit
theorem rowI_of_blk {w:World} {g t size n:Nat} {cs:Array Value} (h:Blk w g t cs) (hs:cs.size=n * size) (hm:n ≤ maxLen):(rowI t size (some ⟨g,0,none⟩) n n cs.toList).P w :=
  ⟨by rw [Array.length_toList,hs],.inr ⟨g,n,cs,rfl,Nat.zero_le _,h,Nat.le_refl _,hm,hs,by rw [List.take_of_length_le (by rw [Array.length_toList]; omega)]⟩⟩
theorem raddr0 (g j:Nat):(⟨g,0,none⟩:Addr).add j=⟨g,j,none⟩:=by
  unfold Addr.add; split <;> simp_all
set_option maxHeartbeats 6400000 in
theorem rmul64 (w:World) (N:Nat) (h1:N ≤ 24) :
    Calls Tryz.prog 63 #[.int .u64 1,.int .u64 N] w fun e w' => e=.returned (.tuple #[.int .u64 0,.int .u64 N]) ∧ w'=w:=by
  rcases (show N=0 ∨ N=1 ∨ N=2 ∨ N=3 ∨ N=4 ∨ N=5 ∨ N=6 ∨ N=7 ∨ N=8 ∨ N=9 ∨ N=10 ∨ N=11 ∨ N=12 ∨ N=13 ∨ N=14 ∨ N=15 ∨ N=16 ∨ N=17 ∨ N=18 ∨ N=19 ∨ N=20 ∨ N=21 ∨ N=22 ∨ N=23 ∨ N=24 from by omega) with rfl | rfl | rfl | rfl | rfl | rfl | rfl | rfl | rfl | rfl | rfl | rfl | rfl | rfl | rfl | rfl | rfl | rfl | rfl | rfl | rfl | rfl | rfl | rfl | rfl
  all_goals
    go_enter Tryz.func63,Tryz.ntmps63
    go_wp2_with fail
    refine bodyPost_ret (v:=.tuple #[.int .u64 0,_]) (by simp [results,Tryz.results63,go_sem]; rfl) rfl ⟨rfl,rfl⟩
set_option maxHeartbeats 1600000 in
theorem rmul_any (w:World) (N:Nat) (h1:N ≤ 24) :
    Calls Tryz.prog 44 #[.int .u64 1,.int .u64 N] w fun e w' => e=.returned (.tuple #[.int .u64 0,.int .u64 N]) ∧ w'=w:=by
  go_enter Tryz.func44,Tryz.ntmps44
  go_wp2_with fail
  refine (rmul64 w N h1).mono ?_
  rintro e w1 ⟨rfl,rfl⟩
  go_wp2_with fail
  refine bodyPost_ret (v:=.tuple #[.int .u64 0,.int .u64 N]) (by simp [results,Tryz.results44,go_sem]) rfl ⟨rfl,rfl⟩
theorem rblk_of_row {w:World} {base g t n:Nat} {xs:List Value} (h:w.ownsRow base t 1 (.slice (some ⟨g,0,none⟩) n n) n xs):Blk w g t xs.toArray:=by
  obtain ⟨h1,h2⟩:=h
  rcases h2 with ⟨h0,_⟩ | ⟨g',cap',cur,hv,hg,hh,hn,hcap,hsz,htake⟩
  · cases h0
  · cases hv
    have:xs.toArray=cur:=by
      rw [← htake,List.take_of_length_le (by simp [hsz])]
    rw [this]; exact hh
theorem rzInt:(Tryz.prog.info? 3).map (fun i => (i.zero,i.size,i.bytes))=some (some (.int .i64 0),1,8):=by kernel_rfl
theorem rzInt1:(Tryz.prog.info? 3).map (·.size)=some 1:=by kernel_rfl
theorem rmadeInts (n:Nat):(madeCells (Value.cells (.int .i64 0)) (n * 1)).toList=ints (List.replicate n 0):=by
  apply List.ext_getElem
  · simp [madeCells,ints]
  · intro i h1 h2
    simp [madeCells,Value.cells,ints,Nat.mod_one]
def rrowC (v0:Int) (N i:Nat):List Value:=ints (List.replicate i v0 ++ List.replicate (N - i) 0)
theorem rrow_length (v0:Int) (N i:Nat) (h:i ≤ N):(rrowC v0 N i).length=N:=by
  simp [rrowC,ints]; omega
theorem rrow_at (v0:Int) (N i j m:Nat) (hm:m ≤ i) (v:Value) (hv:(ints (List.replicate m v0))[j]?=some v):(rrowC v0 N i)[j]?=some v:=by
  have hj:j < m:=by
    have:=(List.getElem?_eq_some_iff.1 hv).1
    simpa [ints] using this
  rw [← hv]
  have hj2:j < i:=by omega
  simp [rrowC,ints,List.getElem?_append,List.getElem?_replicate,hj,hj2]
theorem rrow_next (v0:Int) (N i m:Nat) (h:i + m ≤ N):(rrowC v0 N i).toArray.toList.take i ++ (ints (List.replicate m v0) ++ (rrowC v0 N i).toArray.toList.drop (i + m))=rrowC v0 N (i + m):=by
  obtain ⟨r,rfl⟩:∃ r,N=i + m + r:=⟨N - (i + m),by omega⟩
  have e1:i + m + r - i=m + r:=by omega
  have e2:i + m + r - (i + m)=r:=by omega
  unfold rrowC ints
  rw [e1,e2,List.map_append,List.map_append,List.map_replicate,List.map_replicate,List.map_replicate,List.map_replicate,List.map_replicate]
  simp [List.drop_append]
  rw [← List.append_assoc,List.replicate_append_replicate]
set_option maxHeartbeats 1600000 in
set_option maxRecDepth 100000 in
theorem repeat_pos (w:World) (v0:Int) (N g0:Nat) (h1:1 ≤ N) (h4:N ≤ 24) (h:Blk w g0 3 #[.int .i64 v0]) :
    Calls Tryz.prog 21 #[.slice (some ⟨g0,0,none⟩) 1 1,.int .i64 N] w fun e w' => ∃ A c,e=.returned (.slice A N c) ∧ Sep No w w' [rowI 3 1 A N c (ints (List.replicate N v0))]:=by
  have C:=hide (rmul_any w N h4)
  go_enter Tryz.func21,Tryz.ntmps21
  go_wp2_with fail
  refine C.out.mono ?_
  rintro e w0 ⟨rfl,rfl⟩
  have hN:decide ((9223372036854775807:Int) < N)=false:=by simp; omega
  go_wp2_with (first
    | (refine wpList_make rfl (.tmp 29) (.tmp 29) 33 rfl (Sep.nil No w0) Tryz.underlying33 rzInt (by omega) .i64 .i64 N rfl rfl (by omega) ?_
       intro w1 hS1 hb1
       rw [rmadeInts] at hS1
       (have hB1:Blk w1 w0.heap.size 3 (ints (List.replicate N 0)).toArray:=rblk_of_row (base:=0) (n:=N) (hS1.get 0 rfl))
       have hG1:=h.below_ hb1)
    | (refine wpList_copy_splice rfl (.tmp 31) (.tmp 32) 33 33 rfl 3 Tryz.underlying33 rzInt1 (some ⟨w0.heap.size,0,none⟩) (some ⟨g0,0,none⟩) N N 1 1 rfl rfl w0.heap.size 0 (ints (List.replicate N 0)) 3 hB1 [.int .i64 v0] (by simp [Nat.min_eq_left h1]) (fun _ => ⟨rfl,_,rfl,fun j v hv => by
          rcases j with _ | j
          · simp at hv; subst hv; rw [raddr0,hG1.cell]; rfl
          · simp at hv⟩) (by simp [ints]; omega) (by simp [Value.oneCell']) w0.heap.size w0 hb1 (Nat.le_refl _) ?_
       intro w2 hg2 hb2))
  have hB2:Blk w2 w0.heap.size 3 (rrowC v0 N 1).toArray:=by
    have e:splice (ints (List.replicate N 0)) 0 [.int .i64 v0]=rrowC v0 N 1:=by
      obtain ⟨m,rfl⟩:∃ m,N=m + 1:=⟨N - 1,by omega⟩
      simp [splice,rrowC,ints,List.replicate_succ]
    rw [← e]; exact hg2.out
  clear hg2 hG1 hB1 hb1 hS1 C
  go_loopw [8] (fun v wr => ∃ i:Nat,1 ≤ i ∧ i ≤ N ∧ v=.int .i64 i ∧ Blk wr w0.heap.size 3 (rrowC v0 N i).toArray ∧ Below w0.heap.size w0 wr) (fun v _ => N - (intOf v).toNat)
  case atStart => exact ⟨1,by omega,by omega,rfl,hB2,hb2⟩
  case round =>
    obtain ⟨i,hi1,hi2,rfl,hB,hb⟩:=hrel
    clear hB2 hb2
    by_cases hlt:i < N
    · obtain ⟨m,hm⟩:∃ m,m=Nat.min i (N - i):=⟨_,rfl⟩
      have hm1:1 ≤ m:=by rw [hm]; exact Nat.le_min.2 ⟨hi1,by omega⟩
      have hm2:m ≤ i:=by rw [hm]; exact Nat.min_le_left _ _
      have hm3:m ≤ N - i:=by rw [hm]; exact Nat.min_le_right _ _
      have hat:∀ j v,(ints (List.replicate m v0))[j]?=some v → wr.drew.cell? ((⟨w0.heap.size,0,none⟩:Addr).add j)=some v:=by
        intro j v hv
        rw [raddr0,hB.drew.cell]
        simpa using rrow_at v0 N i j m hm2 v hv
      have hni:¬ N=i:=by omega
      have hrun:=run_copy_row (P:=Tryz.prog) (w:=wr.drew) 33 33 3 3 w0.heap.size i (N - i) (N - i) ⟨w0.heap.size,0,none⟩ i N (rrowC v0 N i).toArray 3 (ints (List.replicate m v0)) Tryz.underlying33 rzInt1 hB.drew (by simpa [ints] using hm) hat (by
        show _ ≤ (rrowC v0 N i).toArray.size
        rw [List.size_toArray,rrow_length _ _ _ hi2]; simp [ints]; omega) (by intro v hv; simp [ints] at hv; rw [hv.2]; rfl)
      have hlen:(ints (List.replicate m v0)).length=m:=by simp [ints]
      rw [hlen,List.append_assoc,show goInt (m:Int)=.int .i64 m from rfl] at hrun
      have hg3:=setRow_heap wr.drew w0.heap.size _ ((rrowC v0 N i).toArray.toList.take i ++ (ints (List.replicate m v0) ++ (rrowC v0 N i).toArray.toList.drop (i + m))).toArray 3 _ hB.drew
      have hb3:=below_setRow (g:=w0.heap.size) hb.drew (Nat.le_refl _) ((rrowC v0 N i).toArray.toList.take i ++ (ints (List.replicate m v0) ++ (rrowC v0 N i).toArray.toList.drop (i + m))).toArray
      obtain ⟨w3,hw3⟩:∃ w3,w3=wr.drew.setRow w0.heap.size ((rrowC v0 N i).toArray.toList.take i ++ (ints (List.replicate m v0) ++ (rrowC v0 N i).toArray.toList.drop (i + m))).toArray:=⟨_,rfl⟩
      rw [← hw3] at hrun hg3 hb3
      have hB3:Blk w3 w0.heap.size 3 (rrowC v0 N (i + m)).toArray:=by
        have e:(rrowC v0 N i).toArray.toList.take i ++ (ints (List.replicate m v0) ++ (rrowC v0 N i).toArray.toList.drop (i + m))=rrowC v0 N (i + m):=by
          exact rrow_next v0 N i m (by omega)
        rw [← e]; exact hg3
      have HB3:=hide hB3
      have HBb3:=hide hb3
      clear hat hm hB hb hg3 hb3 hw3 hB3 hlen
      go_wp2_with fail
      go_region_law (fail)
      all_goals
        go_simp
        have hw:IntKind.i64.wrap ((i:Int) + m)=((i + m:Nat):Int):=by
          simp only [IntKind.wrap,IntKind.bits,IntKind.signed]
          go_num
        rw [hw]
        go_roundw
        case rel => exact ⟨_,_,_,_,_,_,_,_,_,_,_,_,_,_,⟨i + m,by omega,by omega,rfl,HB3.out,HBb3.out⟩,rfl⟩
        case measure => simp [intOf]; omega
    · obtain rfl:i=N:=by omega
      go_wp2_with fail
      go_ret
      refine ⟨_,_,rfl,?_⟩
      have e:rrowC v0 i i=ints (List.replicate i v0):=by simp [rrowC]
      rw [e] at hB
      have hS:=(Sep.nil No w0).consNew (w':=wr) hb (blkI w0.heap.size 3 (ints (List.replicate i v0)).toArray) hB (fun g hg => by rw [show g=w0.heap.size from hg]; exact Nat.le_refl _)
      have hrow:=rowI_of_blk (n:=i) (size:=1) (hS.get 0 rfl) (by simp [ints]) (by unfold maxLen; omega)
      exact hS.step 0 rfl (Chg.refl _ wr) _ hrow (fun g hg => .inl (show g=w0.heap.size from by
        have:w0.heap.size=g:=by simpa [rowI,Value.ownBlock] using hg
        exact this.symm))
set_option maxHeartbeats 1600000 in
set_option maxRecDepth 100000 in
theorem repeat_zero (w:World) (v0:Int) (g0:Nat) (h:Blk w g0 3 #[.int .i64 v0]) :
    Calls Tryz.prog 21 #[.slice (some ⟨g0,0,none⟩) 1 1,.int .i64 0] w fun e w' => ∃ A c,e=.returned (.slice A 0 c) ∧ Sep No w w' [rowI 3 1 A 0 c []]:=by
  have C:=hide (rmul_any w 0 (by omega))
  have hmk:∀ w:World,(Instr.makeSlice 33 (.int .i64 0) (.int .i64 0)).run Tryz.prog w=.ok (.slice (some ⟨w.heap.size,0,none⟩) 0 0) (w.alloc (.cells #[] 3)):=fun w => by kernel_rfl
  have hcp:∀ (W:World) (g:Nat),(Builtin.copy_ #[33,33] 3 #[.slice (some ⟨g,0,none⟩) 0 0,.slice (some ⟨g0,0,none⟩) 1 1]).run Tryz.prog W=.ok (.int .i64 0) W:=fun W g => by kernel_rfl
  go_enter Tryz.func21,Tryz.ntmps21
  go_wp2_with fail
  refine C.out.mono ?_
  rintro e w0 ⟨rfl,rfl⟩
  go_wp2_with fail
  go_loop [8] (fun v => v=.int .i64 0) (fun _ => 0)
  case atStart => rfl
  case round =>
    subst hrel
    go_wp2_with fail
    go_ret
    exact ⟨some ⟨w0.heap.size,0,none⟩,0,rfl,((Sep.nil No w0).blkAt 3 #[] rfl).step 0 rfl (Chg.refl _ _) (rowI 3 1 (some ⟨w0.heap.size,0,none⟩) 0 0 []) (by
      have h:=rowI_of_blk (n:=0) (size:=1) (Blk.new w0 3 #[]) rfl (by unfold maxLen; omega)
      exact h) (fun g hg => .inl (show g=w0.heap.size from by
        have:w0.heap.size=g:=by simpa [rowI,Value.ownBlock] using hg
        exact this.symm))⟩
theorem repeat_any (w:World) (v0:Int) (N g0:Nat) (h4:N ≤ 24) (h:Blk w g0 3 #[.int .i64 v0]) :
    Calls Tryz.prog 21 #[.slice (some ⟨g0,0,none⟩) 1 1,.int .i64 N] w fun e w' => ∃ A c,e=.returned (.slice A N c) ∧ Sep No w w' [rowI 3 1 A N c (ints (List.replicate N v0))]:=by
  rcases Nat.eq_zero_or_pos N with rfl | h1
  · exact repeat_zero w v0 g0 h
  · exact repeat_pos w v0 N g0 h1 h4 h
end Go.Proofs.YtjphckfbbiehdaaGreat

namespace Go.Proofs.YtjphckfbbiehdaaGreat
open Go.RowKit
theorem rint_make (n:Nat) (hn:n ≤ 1000):∃ M:Array Value,M.toList=ints (List.replicate n 0) ∧ ∀ w:World,(Instr.makeSlice 33 (.int .i64 (n:Int)) (.int .i64 (n:Int))).run Tryz.prog w=.ok (.slice (some ⟨w.heap.size,0,none⟩) n n) (w.alloc (.cells M 3)):=by
  refine ⟨madeCells #[.int .i64 0] n,?_,fun w => Go.run_make_row' 33 3 (.int .i64 0) 8 Tryz.underlying33 rzInt rfl .i64 .i64 n (by omega) (by omega) w⟩
  have:=rmadeInts n
  simpa [Value.cells] using this
end Go.Proofs.YtjphckfbbiehdaaGreat
