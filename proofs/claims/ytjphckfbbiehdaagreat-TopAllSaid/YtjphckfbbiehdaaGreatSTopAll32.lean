/- Part of a proof. -/
import Derived.Test.YtjphckfbbiehdaaGreatSTopAll31
import Derived.Test.YtjphckfbbiehdaaGreatSTopAll23
import Derived.Test.YtjphckfbbiehdaaGreatSTopAll22
import Derived.Deep.DeepCutAuto
import Derived.Test.YtjphckfbbiehdaaGreatSTopAll0
import Derived.Test.YtjphckfbbiehdaaGreatSTopAll17
import Derived.Maps.Own
import Derived.Maps.RangeWalk
import Derived.MapKept
import Derived.DeepKeys4
import Derived.WideKeyPair
import Derived.Test.YtjphckfbbiehdaaGreatSTopAll18
import Derived.Test.YtjphckfbbiehdaaGreatSTopAll13
import Derived.Test.YtjphckfbbiehdaaGreatSTopAll4
import Derived.Test.YtjphckfbbiehdaaGreatSTopAll7
import Derived.Test.YtjphckfbbiehdaaGreatSTopAll5
set_option linter.unusedSimpArgs false
set_option linter.unusedVariables false
namespace Go.Proofs.YtjphckfbbiehdaaGreat
open Go.RowKit
theorem rp_start {F:Nat → Prop} {W w:World} {Be Bm:Nat} {t:RpT} {a b G1 G2:Item} (h:Sep F W w (a :: b :: rpM Be Bm t :: ([G1,G2] ++ rpR Be t))):Sep F W w ((rpKm Bm Be).item t :: [b,a,G1,G2]):=by
  have h1:=h.perm (l:=(rpM Be Bm t :: rpR Be t) ++ [b,a,G1,G2]) (by
    refine (List.perm_append_comm (l₁:=[a,b,rpM Be Bm t,G1,G2]) (l₂:=rpR Be t)).trans ?_
    refine List.Perm.trans (List.Perm.append_left (rpR Be t) (t₂:=[rpM Be Bm t,b,a,G1,G2]) ?_) ?_
    · exact (List.perm_append_comm (l₁:=[a,b]) (l₂:=[rpM Be Bm t])).append_right [G1,G2] |>.trans (List.Perm.cons _ (List.Perm.swap _ _ _))
    · exact (List.perm_middle (l₁:=rpR Be t) (a:=rpM Be Bm t) (l₂:=[b,a,G1,G2])))
  exact Sep.join (l:=(rpKm Bm Be).items t) h1
set_option maxRecDepth 100000 in
set_option maxHeartbeats 32000000 in
theorem repPlay_ok (w:World) (AO AR Ad:Option Addr) (nO cO nR cR nd cd:Nat) (obs:List Ob) (roots:List Val) (gs:List (List Val)) (ds:List DoV) (hgs:obs.map Ob.fields=gs) (hO:ObsRd w (fun _ => True) AO nO obs) (hR:Rd w (fun _ => True) 2 AR nR (vals roots)) (hcp:∀ o ∈ obs,o.A=none → o.c=0) (hz:repErr nO nR nd obs roots=0)
    (hM:MOk ⟨padR roots nR,gs⟩) (hNm:RpNm (rp0 ⟨padR roots nR,gs⟩)) (hD:Rd w (fun _ => True) 5 Ad nd (dosV ds)) :
    Calls Tryz.prog 8 #[.agg #[.slice AO nO cO,.slice AR nR cR],.slice Ad nd cd] w fun e w' => ∃ A c A2 n2 c2,e=.returned (.tuple #[.agg #[.slice A nd c,.slice A2 n2 c2,.int .i64 (rpRun ds (rp0 ⟨padR roots nR,gs⟩)).2.cps.length,.int .i64 (rpRun ds (rp0 ⟨padR roots nR,gs⟩)).2.log.length,.int .i64 (rpRun ds (rp0 ⟨padR roots nR,gs⟩)).2.times],.int .i64 0]) ∧ Below w.heap.size w w' ∧ Rd w' (fun g => w.heap.size ≤ g) 3 A nd (outsV (rpRun ds (rp0 ⟨padR roots nR,gs⟩)).1) ∧ Rd w' (fun g => w.heap.size ≤ g) 1 A2 n2 (ints (rpRun ds (rp0 ⟨padR roots nR,gs⟩)).2.row):=by
  obtain ⟨hx,hnd⟩:gcheck nO nR obs roots=0 ∧ nd ≤ 100:=by
    unfold repErr at hz
    split at hz
    · rename_i h; exact absurd hz h
    · rename_i h
      split at hz
      · omega
      · exact ⟨by omega,by omega⟩
  have hG:=gok_of hO hx
  have hnO:=hG.nO_
  have hnR:=hG.nR_
  have HDL:=hide (show ds.length=nd by have:=hD.1; rw [dosV_length] at this; omega)
  have hgl:gs.length=nO:=by rw [← hgs,List.length_map]; exact hO.len
  obtain ⟨g,hg⟩:∃ g,w.heap.size=g:=⟨_,rfl⟩
  have hS0:=((Sep.nil No w).blkAt 25 #[.slice AO nO cO,.slice AR nR cR] hg).blkAt 42 #[.slice none 0 0,.slice none 0 0,.int .i64 0,.int .i64 0,.int .i64 0] (g:=g + 1) (by simp [hg])
  have C1:=graphCheck_any _ AO AR nO cO nR cR obs roots (hO.below hS0.below_) (hR.below hS0.below_)
  rw [hx] at C1
  replace C1:=hide C1
  have CO:=hide (fun w' (hb:Below w.heap.size w w') => heapOf_any w' AO AR nO cO nR cR obs gs hgs (hO.below hb) hnO hG.fl hcp)
  have CI:=hide (fun w' (hb:Below w.heap.size w w') => heapFirst_any w' AO AR nO cO nR cR roots (hR.below hb) hnR)
  have HFL:=hide hG.fl
  obtain ⟨PR,hPR⟩:∃ l,padR roots nR=l:=⟨_,rfl⟩
  rw [hPR] at hM hNm ⊢
  simp only [hPR] at CI
  obtain ⟨p0,p1,p2,p3,p4,p5,p6,p7,hp⟩:=len8 (show PR.length=8 from hM.r8)
  obtain ⟨σ0,hσ⟩:∃ σ,(⟨PR,gs⟩:MSt)=σ:=⟨_,rfl⟩
  rw [hσ] at hM hNm ⊢
  have HSG:=hide hσ
  have HSO:=hide (show σ0.objs.length=nO by rw [← hσ]; exact hgl)
  obtain ⟨hok0,hsim0⟩:=rp0_ok hM (by rw [← hσ]; show gs.length ≤ 24; omega)
  have HAT:=hide (fun k (hk:k ≤ ds.length) => rp_run ds hsim0 hok0 k hk)
  have HNM:=hide (fun k (hk:k ≤ ds.length) => RpNm.run ds hsim0 hok0 hNm k hk)
  have HM:=hide hM
  have HPV:=hide hp
  have hCI2:∀ w' (hb:Below w.heap.size w w'),Calls Tryz.prog 14 #[.agg #[.slice AO nO cO,.slice AR nR cR]] w' fun e w2 => e=.returned (.agg #[.bool p0.1,.int .i64 p0.2,.bool p1.1,.int .i64 p1.2,.bool p2.1,.int .i64 p2.2,.bool p3.1,.int .i64 p3.2,.bool p4.1,.int .i64 p4.2,.bool p5.1,.int .i64 p5.2,.bool p6.1,.int .i64 p6.2,.bool p7.1,.int .i64 p7.2]) ∧ Below w'.heap.size w' w2:=by rw [hp] at CI; exact CI.out
  replace CI:=hide hCI2
  obtain ⟨a1,a2,a3,a4⟩:=hS0.rules 0 (g:=g) (t:=25) rfl
  have HS0:=hide hS0
  have t1:decide ((100:Int) < (nd:Int))=false:=by simp; omega
  have t2:decide (100 < nd)=false:=by simp; omega
  clear hgs hO hR hgl hS0 hM hCI2 hG hcp hz hx hσ hPR hp a1 a4 hok0 hsim0 hNm
  go_enter Tryz.func8,Tryz.ntmps8
  go_wp2_with fail
  refine C1.out.mono ?_
  rintro e w1 ⟨rfl,hb1⟩
  have hS2:=HS0.out.below hb1
  obtain ⟨b1,b2,b3,b4⟩:=hS2.rules 0 (g:=g) (t:=25) rfl
  have b5:=(b1 0).trans (show _=some (.slice AO nO cO) from rfl)
  have b6:=(b1 1).trans (show _=some (.slice AR nR cR) from rfl)
  have HS2:=hide hS2
  clear hb1 hS2 C1 HS0 a2 a3 b1 b4
  go_wp2_with fail
  refine (CO.out _ HS2.out.below_).mono ?_
  rintro e w4 ⟨As,c2,ps,rfl,hpl,hpf,hP4⟩
  have hS4:=objs_new HS2.out hP4
  obtain ⟨Be,hBe⟩:∃ x,w4.heap.size=x:=⟨_,rfl⟩
  have hS5:=hS4.blkAtF 103 #[.slice As nO c2,.slice none 0 0,.map none,.slice none 0 0,.int .i64 0,.slice none 0 0,.int .i64 0] hBe
  obtain ⟨X,hX⟩:∃ X,w4.alloc (.cells #[.slice As nO c2,.slice none 0 0,.map none,.slice none 0 0,.int .i64 0,.slice none 0 0,.int .i64 0] 103)=X:=⟨_,rfl⟩
  rw [hX] at hS5
  have HX:=hide hX
  have HS5:=hide hS5
  have HPL:=hide hpl
  have HPF:=hide hpf
  have CT:=oThere_any X As nO c2 (ps.map some) (by omega) (by
    have h1:=hS5.get 1 rfl
    have h2:(rowI 84 1 As nO c2 (ps.map poPtr)).P X:=h1.1 _ (List.mem_cons_self ..)
    have h3:=Rd.of_own (D:=fun _ => True) (show X.ownsRow 0 84 1 (.slice As nO c2) nO (ps.map poPtr) from h2) (fun _ _ => trivial)
    rw [List.map_map]
    exact h3)
  rw [thereL_all] at CT
  have HCT:=hide CT
  have HBB:=hide (hS5.hi 0 rfl Be rfl)
  clear hS4 hP4 hS5 hX hpl hpf CO CT
  go_upto_region 7 with fail
  go_wp2_with fail
  rw [HX.out]
  refine HCT.out.mono ?_
  rintro e w5 ⟨A0,c0,rfl,hP5⟩
  have hS6:=row_new HS5.out hP5
  obtain ⟨j1,j2,j3,_⟩:=hS6.rules 1 (g:=Be) (t:=103) rfl
  have j5:=(j1 1).trans (show _=some (.slice none 0 0) from rfl)
  obtain ⟨rn,hrn⟩:∃ q,(rangeI ps.length).length=q:=⟨_,rfl⟩
  rw [hrn] at hS6
  have hS7:=hS6.set_ 1 (g:=Be) (t:=103) rfl 1 (.slice A0 rn c0)
  have hS8:=rp_mk HPL.out hS7
  rw [← hrn] at hS8
  have CB:=rpbegin2_any [p0,p1,p2,p3,p4,p5,p6,p7] (oj:=⟨As,c2,ps.map some⟩) (times:=0) (by rw [show (⟨As,c2,ps.map some⟩:Oj).v=.slice As nO c2 from by unfold Oj.v; rw [List.length_map,HPL.out]]; exact hS8)
  rw [hrn] at CB ⊢
  have HCB:=hide CB
  clear hS6 hS7 hS8 hP5 j1 CB HCT HS5 HX
  go_wp2_with fail
  refine HCB.out.mono ?_
  rintro e w6 ⟨⟨u,rfl⟩,b,hS9⟩
  have hS9':Sep No w w6 ([blkI g 25 #[.slice AO nO cO,.slice AR nR cR],blkI (g + 1) 42 #[.slice none 0 0,.slice none 0 0,.int .i64 0,.int .i64 0,.int .i64 0]] ++ rpR Be (rpS [p0,p1,p2,p3,p4,p5,p6,p7] As c2 ps A0 c0 b)):=Sep.split hS9
  obtain ⟨l1,l2,l3,_⟩:=hS9'.rules 0 (g:=g) (t:=25) rfl
  have l5:=(l1 0).trans (show _=some (.slice AO nO cO) from rfl)
  have l6:=(l1 1).trans (show _=some (.slice AR nR cR) from rfl)
  have CI2:=hide (CI.out _ hS9'.below_)
  have HT0:=hide (show (rpS [p0,p1,p2,p3,p4,p5,p6,p7] As c2 ps A0 c0 b).a=(rpRun (ds.take 0) (rp0 σ0)).2 from by
    rw [rpS_a,HPF.out,← HSG.out,HPV.out]; rfl)
  generalize ht0:rpS [p0,p1,p2,p3,p4,p5,p6,p7] As c2 ps A0 c0 b=t0 at HT0 hS9'
  have HTR:=hide (show t0.regs=[p0,p1,p2,p3,p4,p5,p6,p7] from by rw [← ht0]; rfl)
  have HS9:=hide hS9'
  clear hS9 hS9' l1 CI HCB ht0 j2 j3 j5
  go_wp2_with fail
  refine CI2.out.mono ?_
  rintro e w7 ⟨rfl,hb7⟩
  obtain ⟨Bm,hBm⟩:∃ x,w7.heap.size=x:=⟨_,rfl⟩
  have hSa:=((HS9.out.below hb7).blkAtF 70 #[.bool p0.1,.int .i64 p0.2,.bool p1.1,.int .i64 p1.2,.bool p2.1,.int .i64 p2.2,.bool p3.1,.int .i64 p3.2,.bool p4.1,.int .i64 p4.2,.bool p5.1,.int .i64 p5.2,.bool p6.1,.int .i64 p6.2,.bool p7.1,.int .i64 p7.2,.iface 99 (.pointer (some ⟨Be,0,none⟩))] hBm).blkAtF 42 #[.slice none 0 0,.slice none 0 0,.int .i64 0,.int .i64 0,.int .i64 0] (g:=Bm + 1) (by simp [hBm])
  have hSb:=hSa.nilRow0 74 3
  have eM:rpM Be Bm t0=blkI Bm 70 #[.bool p0.1,.int .i64 p0.2,.bool p1.1,.int .i64 p1.2,.bool p2.1,.int .i64 p2.2,.bool p3.1,.int .i64 p3.2,.bool p4.1,.int .i64 p4.2,.bool p5.1,.int .i64 p5.2,.bool p6.1,.int .i64 p6.2,.bool p7.1,.int .i64 p7.2,.iface 99 (.pointer (some ⟨Be,0,none⟩))]:=by unfold rpM; rw [HTR.out]; rfl
  rw [← eM] at hSb
  obtain ⟨Y,hY⟩:∃ Y,(w7.alloc (.cells #[.bool p0.1,.int .i64 p0.2,.bool p1.1,.int .i64 p1.2,.bool p2.1,.int .i64 p2.2,.bool p3.1,.int .i64 p3.2,.bool p4.1,.int .i64 p4.2,.bool p5.1,.int .i64 p5.2,.bool p6.1,.int .i64 p6.2,.bool p7.1,.int .i64 p7.2,.iface 99 (.pointer (some ⟨Be,0,none⟩))] 70)).alloc (.cells #[.slice none 0 0,.slice none 0 0,.int .i64 0,.int .i64 0,.int .i64 0] 42)=Y:=⟨_,rfl⟩
  rw [hY] at hSb
  have hSc:=rp_start hSb
  have HSC:=hide hSc
  have HY:=hide hY
  clear hSa hSb eM hY hSc HS9 hb7 CI2 l2 l3 l5 l6
  go_wp2_with fail
  rw [HY.out]
  go_loopw [45] (fun i wr => ∃ (k:Nat) (A:Option Addr) (c:Nat) (t:RpT),k ≤ nd ∧ i=.int .i64 k ∧ Hid (t.a=(rpRun (ds.take k) (rp0 σ0)).2) ∧
    Sep No w wr ((rpKm Bm Be).item t :: [blkI (Bm + 1) 42 #[.slice A k c,.slice none 0 0,.int .i64 0,.int .i64 0,.int .i64 0],rowI 74 3 A k c (outsV (rpRun (ds.take k) (rp0 σ0)).1),blkI g 25 #[.slice AO nO cO,.slice AR nR cR],blkI (g + 1) 42 #[.slice none 0 0,.slice none 0 0,.int .i64 0,.int .i64 0,.int .i64 0]])) (fun i _ => nd - (intOf i).toNat)
  case atStart => exact ⟨0,none,0,t0,by omega,rfl,HT0.out,HSC.out⟩
  case round =>
    clear HSC HT0 HTR HY
    obtain ⟨k,A,c',t,hk,rfl,HA,hS⟩:=hrel
    by_cases hlt:k < nd
    · have hkl:k < ds.length:=by rw [HDL.out]; exact hlt
      obtain ⟨-,-,ok0,on,-,ol,otm⟩:=HAT.out k (by omega)
      have onm:=HNM.out k (by omega)
      rw [← HA.out] at ok0 on ol otm onm
      have o1 : t.a.objs.length < 500 := by have h1 : (rp0 σ0).objs.length = nO := by show (σ0.objs.map some).length = nO; rw [List.length_map]; exact HSO.out
                                            omega
      have o2:t.a.log.length ≤ 900:=by have h1:(rp0 σ0).log.length=0:=rfl; omega
      have o3:t.a.times ≤ 100000:=by have h1:(rp0 σ0).times=0:=rfl; omega
      obtain ⟨v0,v1,v2,v3,v4⟩:=dosV_at ds k hkl
      obtain ⟨ad,hA,_,had,hc,hd⟩:=(hD.below hS.below_).atN hlt
      have e0:=hc _ v0
      have e1:=hd 0 _ v1
      have e2:=hd 1 _ v2
      have e3:=hd 2 _ v3
      have e4:=hd 3 _ v4
      have hrs:=rpRun_at ds (rp0 σ0) k hkl
      rw [← HA.out] at hrs
      obtain ⟨d,hd'⟩:∃ d,ds[k]=d:=⟨_,rfl⟩
      rw [hd'] at e0 e1 e2 e3 e4 hrs
      obtain ⟨gd,hgd⟩:∃ x,wr.heap.size=x:=⟨_,rfl⟩
      have hS2:=(hS.blkAt 72 d.cells hgd).blkAt 74 #[.int .i64 0,.bool false,.int .i64 0] (g:=gd + 1) (by simp [hgd])
      have hgO:=hS.hi 1 rfl (Bm + 1) rfl
      have n1:Bm + 1 ≠ gd:=by omega
      have n2:Bm + 1 ≠ gd + 1:=by omega
      have n3:gd ≠ Bm + 1:=by omega
      have n4:gd + 1 ≠ Bm + 1:=by omega
      have n5:gd + 1 ≠ gd:=by omega
      have n6:gd ≠ gd + 1:=by omega
      obtain ⟨gO,hgOe⟩:∃ q,Bm + 1=q:=⟨_,rfl⟩
      rw [hgOe] at n1 n2 n3 n4 hgO hS2 ⊢
      subst hA
      by_cases h8:d.k=8
      · obtain ⟨q0,q1,q2,q3,q4,q5,q6,q7,hq⟩:=len8 (show t.regs.length=8 from ok0.r8)
        have CW:=hide (rpwork_km hS2 ok0 onm (by omega) (by omega) o3 q0 q1 q2 q3 q4 q5 q6 q7 hq)
        obtain ⟨d0,d1,d2,d3,d4,d5,d6,d7,d8,d9,d10,d11,d12,d13,d14,d15,d16⟩:=rp_sel (hS2.get 0 rfl) hq
        have hst:rpStep d t.a=(⟨0,false,0⟩,t.a.work):=by unfold rpStep; rw [if_pos h8]
        rw [hst] at hrs
        have HRS:=hide hrs
        have HS2:=hide hS2
        obtain ⟨dk,dto,dfr,dat,dn⟩:=d
        dsimp only at h8 e0 e1 e2 e3 e4
        subst h8
        clear hrs hS2 hS hc hd v0 v1 v2 v3 v4 hd' hst ok0 on onm ol otm o1 o2 o3
        unfold DoV.cells at CW HS2 d0 d1 d2 d3 d4 d5 d6 d7 d8 d9 d10 d11 d12 d13 d14 d15 d16
        go_wp2_with fail
        refine CW.out.mono ?_
        rintro e w4 ⟨⟨u,rfl⟩,t',hcw,hS4⟩
        obtain ⟨u1,u2,u3,-⟩:=hS4.rules 1 (g:=gO) (t:=42) rfl
        have u5:=(u1 0).trans (show _=some (.slice A k c') from rfl)
        obtain ⟨x1,x2,x3,-⟩:=hS4.rules 6 (g:=gd + 1) (t:=74) rfl
        have x5:=(x1 0).trans (show _=some (.int .i64 0) from rfl)
        have x6:=(x1 1).trans (show _=some (.bool false) from rfl)
        have x7:=(x1 2).trans (show _=some (.int .i64 0) from rfl)
        have hrs:=HRS.out
        rw [← hcw] at hrs
        have HRS:=hide hrs
        have HS5:=hide hS4
        clear hS4 HS2 CW u1 x1 hrs hcw d0 d1 d2 d3 d4 d5 d6 d7 d8 d9 d10 d11 d12 d13 d14 d15 d16
        go_wp2_with (first
          | (at_builtin
             refine wpList_app1 (cs:=#[.int .i64 0,.bool false,.int .i64 0]) rfl (.tmp 63) (.tmp 65) 27 rfl (F:=No) (W:=w) sOut (items:=_ :: _ :: _ :: _ :: _) HS5.out 2 (n:=k) rfl rfl rfl (by simp) rfl rfl (by omega) ?_
             intro A6 c6 w6 hS6 hC6
             obtain ⟨u1,u2,u3,-⟩:=hS6.rules 1 (g:=gO) (t:=42) rfl))
        have hS7:=hS6.set_ 1 (g:=gO) (t:=42) rfl 0 (.slice A6 (k + 1) c6)
        have HS7:=hide (hS7.sub (l:=[_,_,_,_,_]) (List.sublist_append_left [_,_,_,_,_] [_,_]))
        clear hS6 hC6 hS7 u1 HS5
        go_roundw
        case rel => exact ⟨k + 1,A6,c6,t',by omega,by go_num,by rw [HRS.out]; exact hide rfl,by
          rw [HRS.out]
          dsimp only
          rw [outsV_app,outsV_one]
          exact HS7.out⟩
        case measure => simp [intOf]; omega
      · have CD:=rpdo_any hS2 ok0 o1 o2 d
        have hst:rpStep d t.a=rpDo d t.a:=by unfold rpStep; rw [if_neg h8]
        rw [hst] at hrs
        have HRS:=hide hrs
        have HCD:=hide CD
        obtain ⟨dk,dto,dfr,dat,dn⟩:=d
        dsimp only at h8 e0 e1 e2 e3 e4
        have y8:(dk == 8)=false:=by simp [h8]
        clear hrs hS2 hS hc hd v0 v1 v2 v3 v4 hd' hst ok0 on onm ol otm o1 o2 o3 CD h8
        unfold DoV.cells at HCD
        go_wp2_with fail
        refine HCD.out.mono ?_
        rintro e w4 ⟨oc,orf,on,t',rfl,hcw,hS4⟩
        obtain ⟨u1,u2,u3,-⟩:=hS4.rules 1 (g:=gO) (t:=42) rfl
        have u5:=(u1 0).trans (show _=some (.slice A k c') from rfl)
        obtain ⟨x1,x2,x3,-⟩:=hS4.rules 6 (g:=gd + 1) (t:=74) rfl
        have x5:=(x1 0).trans (show _=some (.int .i64 0) from rfl)
        have x6:=(x1 1).trans (show _=some (.bool false) from rfl)
        have x7:=(x1 2).trans (show _=some (.int .i64 0) from rfl)
        have hrs:=HRS.out
        rw [hcw] at hrs
        have HRS:=hide hrs
        have HS5:=hide (((hS4.set_ 6 (g:=gd + 1) (t:=74) rfl 0 (.int .i64 oc)).set_ 6 (g:=gd + 1) (t:=74) rfl 1 (.bool orf)).set_ 6 (g:=gd + 1) (t:=74) rfl 2 (.int .i64 on))
        clear hS4 HCD u1 x1 hrs hcw
        go_wp2_with (first
          | (at_builtin
             refine wpList_app1 (cs:=#[.int .i64 oc,.bool orf,.int .i64 on]) rfl (.tmp 63) (.tmp 65) 27 rfl (F:=No) (W:=w) sOut (items:=_ :: _ :: _ :: _ :: _) HS5.out 2 (n:=k) rfl rfl rfl (by simp) rfl rfl (by omega) ?_
             intro A6 c6 w6 hS6 hC6
             obtain ⟨u1,u2,u3,-⟩:=hS6.rules 1 (g:=gO) (t:=42) rfl))
        have hS7:=hS6.set_ 1 (g:=gO) (t:=42) rfl 0 (.slice A6 (k + 1) c6)
        have HS7:=hide (hS7.sub (l:=[_,_,_,_,_]) (List.sublist_append_left [_,_,_,_,_] [_,_]))
        clear hS6 hC6 hS7 u1 HS5
        go_roundw
        case rel => exact ⟨k + 1,A6,c6,t',by omega,by go_num,by rw [HRS.out]; exact hide rfl,by
          rw [HRS.out]
          dsimp only
          rw [outsV_app,outsV_one]
          exact HS7.out⟩
        case measure => simp [intOf]; omega
    · obtain rfl:k=nd:=by omega
      rw [List.take_of_length_le (by rw [HDL.out]; exact Nat.le_refl _)] at HA hS
      obtain ⟨-,k2,-,k4,k5,k6,k7,-,k8⟩:=rp_cells (pre:=[_]) (pkm_flat (hS.get 0 rfl))
      obtain ⟨o1,o2,o3,-⟩:=hS.rules 1 (g:=Bm + 1) (t:=42) rfl
      obtain ⟨y1,y2,y3,-⟩:=hS.rules 4 (g:=g + 1) (t:=42) rfl
      have q0:=(y1 0).trans (show _=some (.slice none 0 0) from rfl)
      have q1:=(y1 1).trans (show _=some (.slice none 0 0) from rfl)
      have q2:=(y1 2).trans (show _=some (.int .i64 0) from rfl)
      have q3:=(y1 3).trans (show _=some (.int .i64 0) from rfl)
      have q4:=(y1 4).trans (show _=some (.int .i64 0) from rfl)
      have z0:=(o1 0).trans (show _=some (.slice A k c') from rfl)
      have z1:=(o1 1).trans (show _=some (.slice none 0 0) from rfl)
      have z2:=(o1 2).trans (show _=some (.int .i64 0) from rfl)
      have z3:=(o1 3).trans (show _=some (.int .i64 0) from rfl)
      have z4:=(o1 4).trans (show _=some (.int .i64 0) from rfl)
      have n1:Bm + 1 ≠ Be:=fun e => hS.other (a:=1) (b:=0) rfl rfl (by decide) (Bm + 1) rfl (by
        rw [e]; exact ⟨blkI Be 103 (rpC t),by simp [MemK.items,rpKm,rpR],rfl⟩)
      have n2:Be ≠ Bm + 1:=fun e => n1 e.symm
      have n3:g + 1 ≠ Bm + 1:=fun e => hS.other (a:=4) (b:=1) rfl rfl (by decide) (g + 1) rfl (by rw [e]; rfl)
      have n4:Bm + 1 ≠ g + 1:=fun e => n3 e.symm
      have HS:=hide hS
      obtain ⟨gO,hgOe⟩:∃ q,Bm + 1=q:=⟨_,rfl⟩
      rw [hgOe] at n1 n2 n3 n4 z0 z1 z2 z3 z4 o2 o3 ⊢
      obtain ⟨aR,haR⟩:∃ q,t.Ar=q:=⟨_,rfl⟩
      obtain ⟨cR',hcR⟩:∃ q,t.cr=q:=⟨_,rfl⟩
      obtain ⟨nr,hnr⟩:∃ q,t.row.length=q:=⟨_,rfl⟩
      obtain ⟨nm,hnm⟩:∃ q,t.cps.length=q:=⟨_,rfl⟩
      obtain ⟨nl,hnl⟩:∃ q,t.log.length=q:=⟨_,rfl⟩
      obtain ⟨tm,htm⟩:∃ q,t.times=q:=⟨_,rfl⟩
      rw [haR,hcR,hnr] at k2
      rw [hnm] at k4
      rw [hnl] at k6
      rw [htm] at k7
      have HFI:=hide (And.intro hnm (And.intro hnl htm))
      have HRO:=hide (And.intro haR (And.intro hcR hnr))
      clear hS o1 y1 haR hcR hnr hnm hnl htm
      go_wp2_with fail
      go_region_held3 (fun w' => w'.cell? ⟨Be,1,none⟩=some (.slice aR nr cR') ∧ w'.cell? ⟨Be,3,none⟩=some (.slice t.Am nm t.cm) ∧ w'.cell? ⟨Be,5,none⟩=some (.slice t.Al nl t.cl) ∧ w'.cell? ⟨Be,6,none⟩=some (.int .i64 tm)) (first | go_keep | (simp only [World.cell?_drew]; assumption) | assumption) (fail)
      all_goals
        go_wp2_with fail
        have hF:=(((((((((HS.out.set_ 1 (g:=gO) (t:=42) (by rw [← hgOe]; rfl) 1 (.slice aR nr cR')).set_ 1 (g:=gO) (t:=42) rfl 2 (.int .i64 nm)).set_ 1 (g:=gO) (t:=42) rfl 3 (.int .i64 nl)).set_ 1 (g:=gO) (t:=42) rfl 4 (.int .i64 tm)).set_ 4 (g:=g + 1) (t:=42) rfl 0 (.slice A k c')).set_ 4 (g:=g + 1) (t:=42) rfl 1 (.slice aR nr cR')).set_ 4 (g:=g + 1) (t:=42) rfl 2 (.int .i64 nm)).set_ 4 (g:=g + 1) (t:=42) rfl 3 (.int .i64 nl)).set_ 4 (g:=g + 1) (t:=42) rfl 4 (.int .i64 tm)).drew
        obtain ⟨x1,-,-,-⟩:=hF.rules 4 (g:=g + 1) (t:=42) rfl
        have hrow:=(Sep.split (l:=(rpKm Bm Be).items t) hF).rd 3 (show _=some (rowI 3 1 t.Ar t.row.length t.cr (ints t.row)) from rfl)
        rw [HRO.out.1,HRO.out.2.2] at hrow
        refine bodyPost_ret (v:=.tuple #[.agg #[.slice A k c',.slice aR nr cR',.int .i64 nm,.int .i64 nl,.int .i64 tm],.int .i64 0]) (by simp [results,Tryz.results8,go_sem,x1]) rfl ⟨A,c',aR,nr,cR',?_,hF.below_,hF.rd 2 rfl,?_⟩
        · rw [← HA.out,← HFI.out.1,← HFI.out.2.1,← HFI.out.2.2,show t.a.cps.length=t.cps.length from by show (cpP t.cps).length=_; unfold cpP; rw [List.length_map]]
          rfl
        · rw [← HA.out]
          exact hrow
end Go.Proofs.YtjphckfbbiehdaaGreat

namespace Go.Proofs.YtjphckfbbiehdaaGreat
open Go.RowKit Go.Maps Go.WideMaps
theorem gnLaid:laidOutB Tryz.prog=true:=by kernel_rfl
set_option maxRecDepth 100000 in
theorem gnRow:(88:TypeId) < Tryz.prog.types.size:=of_decide_eq_true (by kernel_rfl)
theorem gnPos {n k:Nat} (h:k < n):∃ m,n=m + 1:=⟨n - 1,by omega⟩
set_option maxRecDepth 100000 in
theorem gnSize:∃ m,Tryz.prog.types.size=m + 1:=gnPos gnRow
theorem gnWide:(match Tryz.prog.underlying 88 with | some (.array _ _) | some (.struct _) => true | _ => false)=true:=by rw [Tryz.underlying88]
set_option maxRecDepth 100000 in
theorem gnLaw:KeyLaw Tryz.prog 88:=deep_law_laid gnLaid (m:=2) (by omega) gnRow (by kernel_rfl) gnWide
theorem gnKeyed:Keyed Tryz.prog 88:=Keyed.of_law gnLaw
theorem gnKeyT:Tryz.prog.keyType 88=true:=by kernel_rfl
theorem gnCells:Tryz.prog.cellsOf 88=2:=by kernel_rfl
theorem gnCellsI:Tryz.prog.cellsOf 3=1:=by kernel_rfl
abbrev Zp:=Int × Int
def gz (p:Gp):Zp:=((p.1:Int),(p.2:Int))
theorem gz_inj {p q:Gp} (h:gz p=gz q):p=q:=by
  unfold gz at h
  injection h with h1 h2
  exact Prod.ext (by omega) (by omega)
def gk (p:Zp):Lit:=.string (keyBytes [.int .i64 p.1,.int .i64 p.2])
def ZOk (p:Zp):Prop:=(Lit.int .i64 p.1).wf=true ∧ (Lit.int .i64 p.2).wf=true
def gpV (p:Zp):Value:=.agg #[.int .i64 p.1,.int .i64 p.2]
theorem gk_inj {p q:Zp} (hp:ZOk p) (hq:ZOk q) (h:gk p=gk q):p=q:=by
  unfold gk at h
  injection h with h
  have:=keyBytes_inj (l:=[.int .i64 p.1,.int .i64 p.2]) (l':=[.int .i64 q.1,.int .i64 q.2]) (by simp [Go.Alike,Lit.sameKind]) (by simp [Lit.keyWf,hp.1,hp.2]) (by simp [Lit.keyWf,hq.1,hq.2]) h
  simp at this
  exact Prod.ext this.1 this.2
theorem keyOf_gp {p:Zp} (hp:ZOk p):keyOf Tryz.prog 88 (gpV p)=some (gk p):=by
  obtain ⟨m,hm⟩:=gnSize
  unfold keyOf gpV
  simp only [Tryz.underlying88]
  rw [if_pos (by simp [gnKeyT,Value.formed,Tryz.underlying88,gnCells]),hm]
  unfold Program.keyLits
  simp only [Tryz.underlying88,Value.cells]
  rw [if_pos (by rw [gnCells]; simp)]
  simp [gnCellsI,Program.keyLits,Tryz.underlying3,hp.1,hp.2,gk]
theorem keyLits_int {m:Nat} {x:Value} {ls:List Lit} (h:Tryz.prog.keyLits (m + 1) 3 [x]=some ls):∃ a,x=.int .i64 a ∧ (Lit.int .i64 a).wf=true ∧ ls=[.int .i64 a]:=by
  unfold Program.keyLits at h
  simp only [Tryz.underlying3] at h
  cases x with
  | int q a =>
    dsimp only at h
    split at h
    · rename_i hq
      obtain ⟨rfl,hw⟩:=hq
      injection h with h
      exact ⟨a,rfl,hw,h.symm⟩
    · cases h
  | _ => simp at h
set_option maxRecDepth 100000 in
theorem keyOf_gp_inv {v:Value} {kl:Lit} (h:keyOf Tryz.prog 88 v=some kl):∃ p:Zp,v=gpV p ∧ kl=gk p ∧ ZOk p:=by
  obtain ⟨m,hm⟩:=gnSize
  unfold keyOf at h
  simp only [Tryz.underlying88] at h
  rw [hm] at h
  split at h
  · rename_i hf
    rw [Bool.and_eq_true] at hf
    have hf2:=hf.2
    unfold Value.formed at hf2
    simp only [Tryz.underlying88] at hf2
    cases v with
    | agg cs =>
      obtain ⟨l⟩:=cs
      simp only [gnCells] at hf2
      match l,hf2 with
      | [],hf2 => simp at hf2
      | [_],hf2 => simp at hf2
      | _ :: _ :: _ :: _,hf2 => simp at hf2
      | [x,y],_ =>
        unfold Program.keyLits at h
        simp only [Tryz.underlying88,Value.cells] at h
        rw [if_pos (by rw [gnCells]; simp)] at h
        simp only [gnCellsI,List.mapM_cons,List.mapM_nil,List.drop_zero,List.drop_succ_cons,List.take_succ_cons,List.take_zero] at h
        cases hx:Tryz.prog.keyLits (m + 1) 3 [x] with
        | none => rw [hx] at h; simp at h
        | some lx =>
          cases hy:Tryz.prog.keyLits (m + 1) 3 [y] with
          | none => rw [hx,hy] at h; simp at h
          | some ly =>
            obtain ⟨a,rfl,wa,rfl⟩:=keyLits_int hx
            obtain ⟨b,rfl,wb,rfl⟩:=keyLits_int hy
            rw [hx,hy] at h
            simp at h
            exact ⟨(a,b),rfl,h.symm,wa,wb⟩
    | _ => simp at hf2
  · cases h
end Go.Proofs.YtjphckfbbiehdaaGreat

namespace Go.Proofs.YtjphckfbbiehdaaGreat
open Go.RowKit Go.Maps Go.WideMaps Go.MapKept
def gmT (D:DataW Unit) (l:List Gp):Prop:=∀ p,ZOk p → ∀ z,D.atKey (gk p) z=if p ∈ l.map gz then .lit (.int .i64 1) else z
def gmI (b N:Nat) (l:List Gp):Item where
  fp k:=k=b
  P w:=∃ D:DataW Unit,w.ownsMap Tryz.prog 88 (plainElem Tryz.prog 3) b N D ∧ gmT D l
  dom w h k hk:=by subst hk; obtain ⟨D,h,_⟩:=h; exact World.ownsMap.lt h
  loc w w' _ hk h:=by obtain ⟨D,⟨es,clock,hb,r⟩,h2⟩:=h; exact ⟨D,⟨es,clock,(hk b rfl).trans hb,r⟩,h2⟩
theorem mem_gz {p:Gp} {l:List Gp}:gz p ∈ l.map gz ↔ p ∈ l:=by
  rw [List.mem_map]
  exact ⟨fun ⟨q,h1,h2⟩ => gz_inj h2 ▸ h1,fun h => ⟨p,h,rfl⟩⟩
theorem gm_tight {w:World} {b n m:Nat} {D:DataW Unit} (h:w.ownsMap Tryz.prog 88 (plainElem Tryz.prog 3) b n D) (hm:Maps.size D ≤ m):w.ownsMap Tryz.prog 88 (plainElem Tryz.prog 3) b m D:=by
  obtain ⟨es,clock,hb,F,hs,rfl⟩:=h
  refine ⟨es,clock,hb,F,?_,rfl⟩
  simpa [Maps.size,length_sorted] using hm
theorem gmT_nil:gmT (.map []) []:=fun p _ z => by simp [DataW.atKey]
theorem Sep.gmNew {F:Nat → Prop} {W w:World} {items:List Item} (hS:Sep F W w items) {g:Nat} (hg:w.heap.size=g):Sep F W (w.alloc (.map #[] 0)) (items ++ [gmI g 0 []]):=by
  subst hg
  exact hS.snocNew ((Below.refl _ w).alloc (Nat.le_refl _) _) (gmI w.heap.size 0 []) ⟨_,World.ownsMap_made _ _ _ _,gmT_nil⟩ (fun g hg => by rw [show g=w.heap.size from hg]; exact Nat.le_refl _)
theorem wf1:(Lit.int .i64 1).wf=true:=by decide
set_option maxRecDepth 100000 in
theorem Sep.gmPut {F:Nat → Prop} {W w:World} {items:List Item} (hS:Sep F W w items) (k:Nat) {b N:Nat} {l:List Gp} (hk:items[k]?=some (gmI b N l)) (hn:N + 1 < maxLen) (p:Gp) (hp:ZOk (gz p)) (l':List Gp) (hl:∀ q,q ∈ l' ↔ q=p ∨ q ∈ l) :
    ∃ w',(Instr.mapUpdate 107 (.map (some b)) (gpV (gz p)) (.int .i64 1)).run Tryz.prog w=.ok () w' ∧ Sep F W w' (items.set k (gmI b (N + 1) l')):=by
  obtain ⟨D,hown,hD⟩:(gmI b N l).P w:=hS.get k hk
  have ht:=hown.tidy gnKeyed
  have hs:=hown.size_le
  obtain ⟨w',hrun,r1,r2⟩:=hown.update gnKeyed Tryz.underlying107 (by omega) (keyOf_gp hp) (plainElem_int Tryz.underlying3 wf1)
  have hsz:Maps.size (D.put (gk (gz p)) (.lit (.int .i64 1))) ≤ N + 1:=by
    rw [Maps.size_put ht]
    split <;> omega
  have hc:Chg (fun g => g=b) w w':=(Chg.of_grown r2).mono (fun g hx => .inl (by injection hx with hx; exact hx.symm))
  refine ⟨w',hrun,hS.step k hk hc (gmI b (N + 1) l') ⟨_,gm_tight r1 hsz,fun q hq z => ?_⟩ (fun g hg => .inl hg)⟩
  by_cases hyx:q=gz p
  · subst hyx
    rw [if_pos (mem_gz.2 ((hl p).2 (.inl rfl))),atKey_put_same (k:=gk (gz p)) ht.isMap trivial]
  · rw [atKey_put_other (fun h => hyx (gk_inj hq hp h)),hD q hq]
    have:q ∈ l.map gz ↔ q ∈ l'.map gz:=by
      rw [List.mem_map,List.mem_map]
      constructor
      · rintro ⟨r,h1,rfl⟩
        exact ⟨r,(hl r).2 (.inr h1),rfl⟩
      · rintro ⟨r,h1,rfl⟩
        rcases (hl r).1 h1 with rfl | h
        · exact absurd rfl hyx
        · exact ⟨r,h,rfl⟩
    by_cases h1:q ∈ l.map gz
    · rw [if_pos h1,if_pos (this.1 h1)]
    · rw [if_neg h1,if_neg (fun h => h1 (this.2 h))]
set_option maxRecDepth 100000 in
theorem wpList_gmPut {w:World} {ops:Array Oper} {rest:List Oper} {o:Oper} {a:Act} {Q:Exit → Act → World → Prop} (hgd:o.guard=none) (m x v:Operand) (hop:o.op=Op.mapUpdate 107 m x v)
    {F:Nat → Prop} {W:World} {items:List Item} (hS:Sep F W w items) (k:Nat) {b N:Nat} {l:List Gp} (hk:items[k]?=some (gmI b N l)) (hn:N + 1 < maxLen) (p:Gp) (hm:a.eval m=.map (some b)) (hx:a.eval x=gpV (gz p)) (hv:a.eval v=.int .i64 1)
    (hp:ZOk (gz p)) (l':List Gp) (hl:∀ q,q ∈ l' ↔ q=p ∨ q ∈ l) (h:∀ w',Sep F W w' (items.set k (gmI b (N + 1) l')) → wpList Tryz.prog ops Q rest (a.put o.dst undef) w'):wpList Tryz.prog ops Q (o :: rest) a w :=
  wpList_plain hgd fun K hK => by
    obtain ⟨w',hrun,hS'⟩:=hS.gmPut k hk hn p hp l' hl
    unfold Oper.wp
    simp [execOp,hop,hm,hx,hv,hrun,Result.andThen]
    exact hK _ _ (h w' hS')
set_option maxRecDepth 100000 in
theorem Sep.gmClear {F:Nat → Prop} {W w:World} {items:List Item} (hS:Sep F W w items) (k:Nat) {b N:Nat} {l:List Gp} (hk:items[k]?=some (gmI b N l)) (ty:TypeId) :
    ∃ w',(Builtin.clear_ #[107] ty #[.map (some b)]).run Tryz.prog w=.ok (.tuple #[]) w' ∧ Sep F W w' (items.set k (gmI b 0 [])):=by
  obtain ⟨D,⟨es,clock,hb,_⟩,_⟩:(gmI b N l).P w:=hS.get k hk
  obtain ⟨h1,h2⟩:=MapKept.heap_set (w:=w) (o':=.map #[] clock) hb
  obtain ⟨w2,hw2⟩:∃ w2:World,w2={ w with heap:=w.heap.setIfInBounds b (.map #[] clock) }:=⟨_,rfl⟩
  have hc:Chg (fun g => g=b) w w2:=by
    subst hw2
    exact ⟨rfl,rfl,rfl,by simp,fun i hi hn => h2 i (fun e => hn e)⟩
  have hh:w2.heap[b]?=some (.map #[] clock):=by subst hw2; exact h1
  refine ⟨w2,?_,hS.step k hk hc (gmI b 0 []) ⟨.map [],⟨#[],clock,hh,⟨by simp,stamped_empty _,by simp⟩,Nat.le_refl _,rfl⟩,gmT_nil⟩ (fun g hg => .inl hg)⟩
  subst hw2
  simp [Builtin.clear_,run_underlying Tryz.underlying107,MapKept.run_getObj_map hb,MapKept.run_setObj_map _ hb,Result.andThen]
set_option maxRecDepth 100000 in
theorem wpList_gmClear {w:World} {ops:Array Oper} {rest:List Oper} {o:Oper} {a:Act} {Q:Exit → Act → World → Prop} (hgd:o.guard=none) (m:Operand) (hop:o.op=Op.call { callee:=Callee.builtin Builtin.clear,args:=#[m],argTypes:=#[107] })
    {F:Nat → Prop} {W:World} {items:List Item} (hS:Sep F W w items) (k:Nat) {b N:Nat} {l:List Gp} (hk:items[k]?=some (gmI b N l)) (hm:a.eval m=.map (some b))
    (h:∀ w',Sep F W w' (items.set k (gmI b 0 [])) → wpList Tryz.prog ops Q rest (a.put o.dst (.tuple #[])) w'):wpList Tryz.prog ops Q (o :: rest) a w :=
  wpList_plain hgd fun K hK => by
    obtain ⟨w',hrun,hS'⟩:=hS.gmClear k hk o.type
    unfold Oper.wp
    simp [execOp,hop,resolve,invoke,builtin,hm,hrun,Result.andThen]
    exact hK _ _ (h w' hS')
def gmR (b r N:Nat) (l:List Gp) (left:Gp → Bool) (cnt:Nat):Item where
  fp k:=k=b ∨ k=r
  P w:=∃ (D:DataW Unit) (lf:Lit → Bool),w.ranges Tryz.prog 88 (plainElem Tryz.prog 3) b r N D lf cnt ∧ gmT D l ∧ ∀ p ∈ l,lf (gk (gz p))=left p
  dom w h k hk:=by
    obtain ⟨D,lf,h,_,_⟩:=h
    rcases hk with rfl | rfl
    · exact World.ownsMap.lt (World.ranges.owns h)
    · exact World.ranges.lt h
  loc w w' _ hk h:=by
    have h1:=hk b (.inl rfl)
    have h2:=hk r (.inr rfl)
    obtain ⟨D,lf,h,h3,h4⟩:=h
    refine ⟨D,lf,?_,h3,h4⟩
    unfold World.ranges at h ⊢
    rw [h1,h2]
    exact h
theorem gmR_owns {w:World} {b r N cnt:Nat} {l:List Gp} {left:Gp → Bool} (h:(gmR b r N l left cnt).P w):(gmI b N l).P w:=by
  obtain ⟨D,lf,h1,h2,_⟩:=h
  exact ⟨D,World.ranges.owns h1,h2⟩
theorem Sep.gmEnd {F:Nat → Prop} {W w:World} {items:List Item} (hS:Sep F W w items) (k:Nat) {b r N cnt:Nat} {l:List Gp} {left:Gp → Bool} (hk:items[k]?=some (gmR b r N l left cnt)):Sep F W w (items.set k (gmI b N l)) :=
  hS.step k hk (Chg.refl _ w) (gmI b N l) (gmR_owns (hS.get k hk)) (fun g hg => .inl (.inl hg))
set_option maxRecDepth 100000 in
theorem wpList_gmBegin {w:World} {ops:Array Oper} {rest:List Oper} {o:Oper} {a:Act} {Q:Exit → Act → World → Prop} (hgd:o.guard=none) (m:Operand) (hop:o.op=Op.range 107 m)
    {F:Nat → Prop} {W:World} {items:List Item} (hS:Sep F W w items) (k:Nat) {b N:Nat} {l:List Gp} (hk:items[k]?=some (gmI b N l)) (hz:∀ p ∈ l,ZOk (gz p)) (hm:a.eval m=.map (some b))
    (h:∀ w' cnt,cnt ≤ N → Sep F W w' (items.set k (gmR b w.heap.size N l (fun _ => true) cnt)) → w'.heap.size=w.heap.size + 1 → wpList Tryz.prog ops Q rest (a.put o.dst (.pointer (some ⟨w.heap.size,0,none⟩))) w'):wpList Tryz.prog ops Q (o :: rest) a w:=by
  obtain ⟨D,hown,hD⟩:(gmI b N l).P w:=hS.get k hk
  refine wpList_range_own w hgd m 107 hop 88 3 gnKeyed Tryz.underlying107 _ b N D hm hown ?_
  intro w' h1 h2 h3
  refine h w' (Maps.size D) hown.size_le (hS.step k hk ((Chg.of_grown h2).mono (fun g hx => by cases hx)) (gmR b w.heap.size N l (fun _ => true) (Maps.size D)) ⟨D,_,h1,hD,fun p hp => ?_⟩ (fun g hg => by
    rcases hg with hg | hg
    · exact .inl hg
    · exact .inr (by omega))) h3
  have h4:=hD (gz p) (hz p hp)
  exact has_true_of_atKey (y:=.lit (.int .i64 1)) fun z => by rw [h4,if_pos (mem_gz.2 hp)]
set_option maxRecDepth 100000 in
theorem wpList_gmNext {w:World} {ops:Array Oper} {rest:List Oper} {o:Oper} {a:Act} {Q:Exit → Act → World → Prop} (hgd:o.guard=none) (it:Operand) (hop:o.op=Op.next it false)
    {F:Nat → Prop} {W:World} {items:List Item} (hS:Sep F W w items) (k:Nat) {b r N cnt:Nat} {l:List Gp} {left:Gp → Bool} (hz:∀ p ∈ l,ZOk (gz p)) (hk:items[k]?=some (gmR b r N l left cnt)) (hit:a.eval it=.pointer (some ⟨r,0,none⟩))
    (hDone:cnt=0 → (∀ p ∈ l,left p=false) → wpList Tryz.prog ops Q rest (a.put o.dst (.tuple #[.bool false])) w)
    (hMore:∀ (p:Gp) (w':World) (cnt':Nat),p ∈ l → left p=true → cnt' < cnt →
      Sep F W w' (items.set k (gmR b r N l (fun q => left q && !decide (q=p)) cnt')) → w'.heap.size=w.heap.size → (Instr.entry (.pointer (some ⟨r,0,none⟩))).run Tryz.prog w'=.ok (.tuple #[gpV (gz p),.int .i64 1]) w' → wpList Tryz.prog ops Q rest (a.put o.dst (.tuple #[.bool true,gpV (gz p),.int .i64 1])) w') :
    wpList Tryz.prog ops Q (o :: rest) a w:=by
  obtain ⟨D,lf,hr,hD,hL⟩:(gmR b r N l left cnt).P w:=hS.get k hk
  refine wpList_next_ranges w hgd it hop 88 gnKeyed (plainElem Tryz.prog 3) gpV (Value.int .i64) (fun key kl hkey => by obtain ⟨p,h1,_⟩:=keyOf_gp_inv hkey; exact ⟨p,h1⟩) (fun v y hv => by obtain ⟨c,h1,_⟩:=plainElem_int_inv Tryz.underlying3 hv; exact ⟨c,h1⟩)
    b r N D lf cnt hit hr (fun h1 h2 => hDone h1 (fun p hp => by rw [← hL p hp]; exact h2 _)) ?_
  intro x c kl y w' cnt' hkey hlk hv hat hrg hlt hgr hsz hen
  obtain ⟨x',ex,rfl,hx⟩:=keyOf_gp_inv hkey
  have hxx:x=x':=by
    unfold gpV at ex
    obtain ⟨x1,x2⟩:=x
    obtain ⟨y1,y2⟩:=x'
    simp at ex
    exact Prod.ext ex.1 ex.2
  subst hxx
  obtain ⟨c',ec,rfl,hwc⟩:=plainElem_int_inv Tryz.underlying3 hv
  cases ec
  have h10:=hD x hx
  by_cases hm:x ∈ l.map gz
  · obtain ⟨p,hp,rfl⟩:=List.mem_map.1 hm
    obtain rfl:c=1:=by
      have h11:=(hat (.map [])).symm.trans (h10 (.map []))
      rw [if_pos hm] at h11
      injection h11 with h11; injection h11
    refine hMore p w' cnt' hp ((hL p hp).symm.trans hlk) hlt (hS.step k hk ((Chg.of_grown hgr).mono (fun g hx => .inl (.inr (by injection hx with hx; exact hx.symm)))) (gmR b r N l _ cnt') ⟨D,_,hrg,hD,fun q hq => ?_⟩ (fun g hg => .inl hg)) hsz hen
    rw [hL q hq]
    by_cases hqp:q=p
    · subst hqp
      simp [Lit.sameKey,gk]
    · rw [Maps.sameKey_ne (fun h => hqp (gz_inj (gk_inj (hz q hq) hx h)))]
      simp [hqp]
  · exfalso
    have:=(has_true_of_atKey hat).symm.trans (has_false_of_atKey (fun z => by rw [h10 z,if_neg hm]))
    cases this
end Go.Proofs.YtjphckfbbiehdaaGreat

namespace Go.Proofs.YtjphckfbbiehdaaGreat
open Go.RowKit Go.Maps
structure GnT where
  regs:List Val
  oj:Oj
  Ao:Option Addr
  oc:Nat
  old:List Bool
  b:Nat
  N:Nat
  mks:List Gp
def GnT.a (t:GnT):GnA:=⟨t.regs,t.oj.abs,t.old,t.mks⟩
def oldI (A:Option Addr) (c n:Nat) (h:List Bool):Item:=rowI 4 1 A n c (bools h)
def gnC (Bm:Nat) (room:Int) (t:GnT):Array Value:=#[t.oj.v,.pointer (some ⟨Bm,0,none⟩),.slice t.Ao t.old.length t.oc,.map (some t.b),.int .i64 room]
def gnR (Be Bm:Nat) (room:Int) (t:GnT):List Item:=blkI Be 109 (gnC Bm room t) :: oldI t.Ao t.oc t.old.length t.old :: gmI t.b t.N t.mks :: ojL t.oj
def gnM (Be Bm:Nat) (t:GnT):Item:=blkI Bm 70 (mcCells t.regs (.iface 104 (.pointer (some ⟨Be,0,none⟩))))
def gnK (Be Bm:Nat) (room:Int) (t:GnT):List Item:=gnM Be Bm t :: gnR Be Bm room t
theorem gn_cells {F:Nat → Prop} {W0 w:World} {Be Bm:Nat} {room:Int} {t:GnT} {pre:List Item} (hS:Sep F W0 w (pre ++ gnK Be Bm room t)) :
    w.cell? ⟨Be,0,none⟩=some t.oj.v ∧ w.cell? ⟨Be,1,none⟩=some (.pointer (some ⟨Bm,0,none⟩)) ∧ w.cell? ⟨Be,2,none⟩=some (.slice t.Ao t.old.length t.oc) ∧ w.cell? ⟨Be,3,none⟩=some (.map (some t.b)) ∧ w.cell? ⟨Be,4,none⟩=some (.int .i64 room) ∧ (∀ i,w.frozen? ⟨Be,i,none⟩=false) ∧ Be < w.heap.size:=by
  obtain ⟨c1,c2,c3,_⟩:=hS.rules (pre.length + 1) (g:=Be) (t:=109) (cs:=gnC Bm room t) (by rw [List.getElem?_append_right (by omega)]; simp [gnK,gnR])
  exact ⟨(c1 0).trans rfl,(c1 1).trans rfl,(c1 2).trans rfl,(c1 3).trans rfl,(c1 4).trans rfl,c2,c3⟩
theorem bo_cell {w:World} {n c g:Nat} {l:List Bool} (h:(rowI 4 1 (some ⟨g,0,none⟩) n c (bools l)).P w) (k:Nat) (hk:k < n):w.cell? ⟨g,k,none⟩=some (.bool (l.getD k false)) ∧ w.frozen? ⟨g,k,none⟩=false:=by
  have hrow:w.ownsRow 0 4 1 (.slice (some ⟨g,0,none⟩) n c) n (bools l):=h
  have hl:l.length=n:=by have:=hrow.1; simpa [bools] using this
  refine ⟨?_,hrow.frozenAt _⟩
  obtain ⟨ad,hA,_,_,hc⟩:=(Rd.of_own (D:=fun _ => True) hrow (fun _ _ => trivial)).at_ hk
  injection hA with hA
  subst hA
  have h5:=hc (.bool (l.getD k false)) (by simp [bools,List.getElem?_eq_getElem (show k < l.length by omega),List.getD_eq_getElem?_getD])
  rw [hraddr0] at h5
  exact h5
theorem bools_st (l:List Bool) (k:Nat) (b:Bool):(bools l).set k (.bool b)=bools (l.set k b):=by unfold bools; rw [List.map_set]
theorem oldI_fp {g c n:Nat} {h:List Bool} {k:Nat}:(oldI (some ⟨g,0,none⟩) c n h).fp k ↔ k=g:=by
  simp only [oldI,rowI,Value.ownBlock]
  constructor
  · intro h; simpa using h.symm
  · intro h; simp [h]
theorem old_some {F:Nat → Prop} {W w:World} {items:List Item} {k:Nat} {A:Option Addr} {c n:Nat} {h:List Bool} (hS:Sep F W w items) (hk:items[k]?=some (oldI A c n h)) (hn:0 < n):∃ g,A=some ⟨g,0,none⟩:=by
  have hrow:w.ownsRow 0 4 1 (.slice A n c) n (bools h):=hS.get k hk
  rcases hrow.2 with ⟨h1,_⟩ | ⟨g,cap,cur,hv,_⟩
  · injection h1 with h1 h2 h3; omega
  · injection hv with hv; exact ⟨g,hv⟩
theorem oldI_fp' {A:Option Addr} {g c n:Nat} {h:List Bool} {k:Nat} (hA:A=some ⟨g,0,none⟩ ∨ (A=none ∧ n=0)) (hk:(oldI A c n h).fp k):k=g:=by
  rcases hA with rfl | ⟨rfl,rfl⟩
  · exact oldI_fp.1 hk
  · simp [oldI,rowI,Value.ownBlock] at hk
structure GnF (Ao:Option Addr) (go Be:Nat) (oj:Oj) (N oc:Nat) (w:World):Prop where
  A:Ao=some ⟨go,0,none⟩ ∨ (Ao=none ∧ N=0)
  hb:Be ≠ go ∧ Be < w.heap.size
  c0:w.cell? ⟨Be,0,none⟩=some oj.v
  c2:w.cell? ⟨Be,2,none⟩=some (.slice Ao N oc)
  p:∀ (i:Nat) (p:Po),oj.ps[i]?=some (some p) → ∃ ad,oj.As=some ad ∧ ad.block ≠ go ∧ ad.block < w.heap.size ∧ w.cell? (ad.add i)=some (.pointer (some ⟨p.B,0,none⟩)) ∧ p.B ≠ go ∧ p.B < w.heap.size ∧ w.cell? ⟨p.B,0,none⟩=some (.slice p.o.A p.o.n p.o.c) ∧ Rd w (fun g => g ≠ go) 2 p.o.A p.o.n (vals p.o.fields) ∧ p.o.fields.length=p.o.n
theorem chg_cell {F:Nat → Prop} {w w':World} {go:Nat} (hc:Chg F w w') (hF:∀ k,F k → k=go) {ad:Addr} {u:Value} (h1:ad.block ≠ go) (h2:ad.block < w.heap.size) (h:w.cell? ad=some u):w'.cell? ad=some u:=by
  have hb:=hc.block ad.block h2 (fun h => h1 (hF _ h))
  unfold World.cell? at h ⊢
  rw [hb]; exact h
theorem add_blk (ad:Addr) (i:Nat):(ad.add i).block=ad.block:=by unfold Addr.add; split <;> rfl
theorem GnF.chg {Ao:Option Addr} {go Be:Nat} {oj:Oj} {N oc:Nat} {w w':World} {F:Nat → Prop} (a:GnF Ao go Be oj N oc w) (hc:Chg F w w') (hF:∀ k,F k → k=go):GnF Ao go Be oj N oc w' where
  A:=a.A
  hb:=⟨a.hb.1,Nat.lt_of_lt_of_le a.hb.2 hc.size⟩
  c0:=chg_cell hc hF a.hb.1 a.hb.2 a.c0
  c2:=chg_cell hc hF a.hb.1 a.hb.2 a.c2
  p i p hp:=by
    obtain ⟨ad,h1,h2,h3,h4,h5,h6,h7,h8,h9⟩:=a.p i p hp
    exact ⟨ad,h1,h2,Nat.lt_of_lt_of_le h3 hc.size,chg_cell hc hF (ad:=ad.add i) (by rw [add_blk]; exact h2) (by rw [add_blk]; exact h3) h4,h5,Nat.lt_of_lt_of_le h6 hc.size,chg_cell hc hF (ad:=⟨p.B,0,none⟩) h5 h6 h7,h8.keep hc.size (fun k hk hd => hc.block k hk (fun h => hd (hF k h))),h9⟩
end Go.Proofs.YtjphckfbbiehdaaGreat
