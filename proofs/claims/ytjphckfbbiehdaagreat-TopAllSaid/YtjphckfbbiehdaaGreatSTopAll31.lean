/- Part of a proof. -/
import Derived.Test.YtjphckfbbiehdaaGreatSTopAll30
import Derived.Test.YtjphckfbbiehdaaGreatSTopAll21
set_option linter.unusedSimpArgs false
set_option linter.unusedVariables false
namespace Go.Proofs.YtjphckfbbiehdaaGreat
open Go.RowKit Go.Maps
theorem ints_at {w:World} {n c:Nat} {A:Option Addr} {l:List Int} (h:(rowI 3 1 A n c (ints l)).P w) {k:Nat} (hk:k < l.length):∃ g,A=some ⟨g,0,none⟩ ∧ g < w.heap.size ∧ w.cell? ⟨g,k,none⟩=some (.int .i64 l[k]):=by
  have hrow:w.ownsRow 0 3 1 (.slice A n c) n (ints l):=h
  have hl:l.length=n:=by have:=hrow.1; simpa [ints] using this
  obtain ⟨g,hA⟩:=hown_addr hrow (by omega)
  subst hA
  refine ⟨g,rfl,(rowI 3 1 (some ⟨g,0,none⟩) n c (ints l)).dom w h g rfl,?_⟩
  rw [hrow.cellAt k (by omega)]
  simp [ints,List.getElem?_eq_getElem hk]
theorem ptr_at {w:World} {n c:Nat} {A:Option Addr} {l:List (Option Po)} (h:(rowI 84 1 A n c (l.map ptrV)).P w) {k:Nat} (hk:k < l.length):∃ g,A=some ⟨g,0,none⟩ ∧ g < w.heap.size ∧ w.cell? ⟨g,k,none⟩=some (ptrV l[k]) ∧ w.frozen? ⟨g,k,none⟩=false:=by
  have hrow:w.ownsRow 0 84 1 (.slice A n c) n (l.map ptrV):=h
  have hl:l.length=n:=by have:=hrow.1; simpa using this
  obtain ⟨g,hA⟩:=hown_addr hrow (by omega)
  subst hA
  refine ⟨g,rfl,(rowI 84 1 (some ⟨g,0,none⟩) n c (l.map ptrV)).dom w h g rfl,?_,hrow.frozenAt k⟩
  rw [hrow.cellAt k (by omega)]
  simp [List.getElem?_eq_getElem hk]
theorem fr_end {F:Nat → Prop} {W0 w:World} {Be:Nat} {t:RpT} {x:Item} {rest:List Cp} {s:Oj} (h:Sep F W0 w (x :: frR Be t rest s)) (h1:s.As=t.oj.As) (h2:s.ps.length=t.oj.ps.length) (h3:s.c=t.oj.c) :
    Sep F W0 ((w.setCell ⟨Be,1,none⟩ (.slice t.Am t.cps.length t.cm)).setCell ⟨Be,6,none⟩ (.int .i64 ((t.times + 1:Nat):Int))) (x :: blkI Be 103 #[s.v,.slice t.Am (t.cps.map fun c => (c.i:Int)).length t.cm,.map (some t.b),.slice t.Am t.cps.length t.cm,.int .i64 (t.filled:Int),.slice t.Al t.log.length t.cl,.int .i64 ((t.times + 1:Nat):Int)] :: rowI 3 1 t.Am (t.cps.map fun c => (c.i:Int)).length t.cm (ints (t.cps.map fun c => (c.i:Int))) :: ojL s):=by
  have h4:=(h.set_ 2 (g:=Be) (t:=103) rfl 1 (.slice t.Am t.cps.length t.cm)).set_ 2 (g:=Be) (t:=103) rfl 6 (.int .i64 ((t.times + 1:Nat):Int))
  rw [List.length_map]
  have e:s.v=t.oj.v:=by unfold Oj.v; rw [h1,h2,h3]
  rw [e]
  refine h4.sub ?_
  exact List.Sublist.cons_cons _ (List.Sublist.cons _ (List.Sublist.cons_cons _ (List.Sublist.cons _ (List.Sublist.cons _ (List.Sublist.cons_cons _ (List.Sublist.cons _ (List.Sublist.refl _)))))))
theorem fr_abs (t:RpT) (s:Oj) (b:Nat) (h:s.abs=flipO (cpP t.cps) t.row t.oj.abs):(rpN t.regs s t.Am t.cm (t.cps.map fun c => (c.i:Int)) b (t.times + 1)).a=t.a.flip:=by
  unfold RpT.a RpA.flip rpN RpA.made
  dsimp only
  rw [cpP_keys,h,List.map_map]
  rfl
set_option maxRecDepth 100000 in
set_option maxHeartbeats 16000000 in
theorem rwork_flip {F:Nat → Prop} {W0 w:World} {Be:Nat} {t:RpT} {x:Item} (h:Sep F W0 w (x :: rpR Be t)) (ok:RpOk t.a) (hps:t.oj.ps.length ≤ 600) (hl:t.log=[]) (p0 p1 p2 p3 p4 p5 p6 p7:Val) (hregs:t.regs=[p0,p1,p2,p3,p4,p5,p6,p7]) (hnum:∀ v ∈ t.regs,numOk v) (hnd:t.row.Nodup) (htm:t.times ≤ 100000) (hm:t.a.miss=none) (hcq:t.a.cps[t.a.filled]?=none) :
    Calls Tryz.prog 26 #[.pointer (some ⟨Be,0,none⟩),.agg #[.bool p0.1,.int .i64 p0.2,.bool p1.1,.int .i64 p1.2,.bool p2.1,.int .i64 p2.2,.bool p3.1,.int .i64 p3.2,.bool p4.1,.int .i64 p4.2,.bool p5.1,.int .i64 p5.2,.bool p6.1,.int .i64 p6.2,.bool p7.1,.int .i64 p7.2]] w fun e w' => (∃ u,e=.returned u) ∧ ∃ t':RpT,t'.a=t.a.work ∧ Sep F W0 w' (x :: rpR Be t'):=by
  obtain ⟨g,hg⟩:∃ g,w.heap.size=g:=⟨_,rfl⟩
  have hS0:=h.blkAtF 65 (regC t.regs) hg
  rw [show regC t.regs=#[.bool p0.1,.int .i64 p0.2,.bool p1.1,.int .i64 p1.2,.bool p2.1,.int .i64 p2.2,.bool p3.1,.int .i64 p3.2,.bool p4.1,.int .i64 p4.2,.bool p5.1,.int .i64 p5.2,.bool p6.1,.int .i64 p6.2,.bool p7.1,.int .i64 p7.2] from by rw [hregs]; rfl] at hS0
  obtain ⟨W,hW⟩:∃ W,w.alloc (.cells #[.bool p0.1,.int .i64 p0.2,.bool p1.1,.int .i64 p1.2,.bool p2.1,.int .i64 p2.2,.bool p3.1,.int .i64 p3.2,.bool p4.1,.int .i64 p4.2,.bool p5.1,.int .i64 p5.2,.bool p6.1,.int .i64 p6.2,.bool p7.1,.int .i64 p7.2] 65)=W:=⟨_,rfl⟩
  rw [hW] at hS0
  have HW:=hide hW
  rw [show (#[.bool p0.1,.int .i64 p0.2,.bool p1.1,.int .i64 p1.2,.bool p2.1,.int .i64 p2.2,.bool p3.1,.int .i64 p3.2,.bool p4.1,.int .i64 p4.2,.bool p5.1,.int .i64 p5.2,.bool p6.1,.int .i64 p6.2,.bool p7.1,.int .i64 p7.2]:Array Value)=regC t.regs from by rw [hregs]; rfl] at hS0
  obtain ⟨-,-,-,-,-,k5,-,k7,k8⟩:=rp_cells (pre:=[_,x]) hS0
  obtain ⟨-,x2,x3,-⟩:=hS0.rules 0 (g:=g) (t:=65) rfl
  have hr8:t.regs.length=8:=by rw [hregs]; rfl
  have HC:=hide (rpcontains_any (n:=8) (c:=8) (regs:=t.regs) (A:=some ⟨g,0,none⟩) (x:=allI [blkI g 65 (regC t.regs),x]) (Sep.join (l:=[_,_]) hS0) ok hps (by omega) hr8 (fun X hX => regs_rd hr8 X hX) (fun v hv => ⟨ok.vr v hv,hnum v hv⟩))
  have hml:missL t.a t.regs=none:=hm
  rw [hl] at k5
  have HM:=hide hml
  have HWK:=hide (show t.a.work=t.a.flip from by
    unfold RpA.work RpA.fill
    rw [show t.a.log=[] from hl,hm,hcq])
  have HOK:=hide ok
  have HPS:=hide (show ∀ t':RpT,t'.oj.abs=t.oj.abs → t'.oj.ps.length ≤ 600 from fun t' e => by rw [← oj_lenabs,e,oj_lenabs]; exact hps)
  have HND:=hide hnd
  have HTM:=hide htm
  have HCQ:=hide hcq
  clear h ok hps hl hregs hnum hm hW hS0 hr8 hml hnd htm hcq
  go_enter Tryz.func26,Tryz.ntmps26
  go_upto_region 1 with fail
  rw [HW.out]
  go_wp2_with fail
  refine HC.out.mono ?_
  rintro e w5 ⟨rfl,t5,hab,hS5⟩
  rw [HM.out] at hab ⊢
  have hab':t5.a=t.a:=hab
  have hS6:Sep F W0 w5 ([blkI g 65 (regC t.regs),x] ++ rpR Be t5):=Sep.split (l:=[_,x]) hS5
  obtain ⟨-,-,-,k3,k4,-,-,k7,k8⟩:=rp_cells (pre:=[_,x]) hS6
  have ok:=HOK.out
  have hcq:=HCQ.out
  have hwk:=HWK.out
  rw [← hab'] at ok hcq hwk
  have hps:t5.oj.ps.length ≤ 600:=HPS.out t5 (show t5.a.objs=t.a.objs by rw [hab'])
  have hnd:t5.row.Nodup:=by have:=HND.out; rw [show t5.row=t.row from by show t5.a.row=t.a.row; rw [hab']]; exact this
  have hml:t5.cps.length ≤ t5.filled:=by
    have h1:=List.getElem?_eq_none_iff.1 hcq
    rw [show t5.a.cps.length=t5.cps.length from by show (cpP t5.cps).length=_; unfold cpP; rw [List.length_map]] at h1
    exact h1
  have hm24:t5.cps.length ≤ 24:=by have:=RpOkE.made24 ok; rw [show t5.a.cps.length=t5.cps.length from by show (cpP t5.cps).length=_; unfold cpP; rw [List.length_map]] at this; exact this
  have HTE:=hide (show t5.times=t.times from by show t5.a.times=t.a.times; rw [hab'])
  have HWK2:=hide (show t.a.work=t5.a.flip from by rw [← hab']; exact hwk)
  obtain ⟨f,hfd⟩:∃ q,t5.filled=q:=⟨_,rfl⟩
  obtain ⟨nm,hnm⟩:∃ q,t5.cps.length=q:=⟨_,rfl⟩
  obtain ⟨cm,hcm⟩:∃ q,t5.cm=q:=⟨_,rfl⟩
  rw [hnm,hcm] at k3
  rw [hfd] at k4
  rw [hfd,hnm] at hml
  rw [hnm] at hm24
  have HOK5:=hide ok
  have HND5:=hide hnd
  have HPS5:=hide hps
  have HS6:=hide hS6
  have HFN:=hide hnm
  have HCM:=hide hcm
  clear hab hab' hS5 hS6 ok hcq hwk hps hnd hcm hfd hnm HOK HCQ HWK HC HM HW HND HPS
  have t1:decide ((f:Int) < (nm:Int))=false:=by simp; exact hml
  go_upto_region 8 with fail
  go_quiet (fail)
  go_upto_region 16 with fail
  refine wp_name ?_
  intro X hX
  have hS7:Sep F W0 X (allI [blkI g 65 (regC t.regs),x] :: rpR Be t5):=Sep.join (l:=[_,x]) (by rw [← hX]; first | exact HS6.out | exact HS6.out.drewN _)
  clear hX HS6 k7 k8
  have htm:t5.times ≤ 100000:=by have:=HTM.out; rw [show t5.times=t.times from HTE.out]; exact this
  obtain ⟨k0,k1,-,-,-,-,k6,k7,k8⟩:=rp_cells (pre:=[_]) hS7
  have hr24:=HOK5.out.r24
  obtain ⟨nr,hnr⟩:∃ q,t5.row.length=q:=⟨_,rfl⟩
  rw [show t5.a.row.length=nr from hnr] at hr24
  rw [hnr] at k1
  have HNR:=hide hnr
  have HS7:=hide hS7
  obtain ⟨cr,hcr⟩:∃ q,t5.cr=q:=⟨_,rfl⟩
  rw [hcr] at k1
  obtain ⟨aR,haR⟩:∃ q,t5.Ar=q:=⟨_,rfl⟩
  rw [haR] at k1
  have HAR:=hide haR
  obtain ⟨nO,hnO⟩:∃ q,t5.oj.ps.length=q:=⟨_,rfl⟩
  have HNO:=hide hnO
  obtain ⟨cO,hcO⟩:∃ q,t5.oj.c=q:=⟨_,rfl⟩
  have HCO:=hide hcO
  have hO6:nO ≤ 600:=by rw [← hnO]; exact HPS5.out
  obtain ⟨tm,htmq⟩:∃ q,t5.times=q:=⟨_,rfl⟩
  have HTM5:=hide htmq
  rw [htmq] at htm
  obtain ⟨mb,hmb⟩:∃ q,t5.b=q:=⟨_,rfl⟩
  have HMB:=hide hmb
  clear hS7 hnr hcr haR hnO hcO htmq hmb HTM HTE k0 k6 k3 k4
  go_wp2_with fail
  go_loopw [105] (fun q wr => ∃ (k:Nat) (s:Oj),k ≤ nr ∧ q=.int .i64 k ∧ Hid (s.As=t5.oj.As ∧ s.c=t5.oj.c ∧ s.ps.length=t5.oj.ps.length ∧ s.abs=flipO (cpP t5.cps) (t5.row.take k) t5.oj.abs) ∧ Sep F W0 wr (allI [blkI g 65 (regC t.regs),x] :: frR Be t5 (restC t5.cps (t5.row.take k)) s)) (fun q _ => nr - (intOf q).toNat)
  case atStart => exact ⟨0,t5.oj,by omega,rfl,⟨rfl,rfl,rfl,rfl⟩,by rw [List.take_zero,restC_nil,frR_all]; exact HS7.out⟩
  case round =>
    clear HS7 k1 k7 k8
    obtain ⟨k,s,hk,rfl,HI,hS⟩:=hrel
    obtain ⟨hA,hC,hN,hF⟩:=HI.out
    obtain ⟨c1,k7,k8,-⟩:=hS.rules 2 (g:=Be) (t:=103) (cs:=rpC t5) rfl
    have k0:=(c1 0).trans (show _=some (.slice t5.oj.As t5.oj.ps.length t5.oj.c) from rfl)
    have k1:=(c1 1).trans (show _=some (.slice t5.Ar t5.row.length t5.cr) from rfl)
    have k2:=(c1 2).trans (show _=some (.map (some t5.b)) from rfl)
    have k3:=(c1 3).trans (show _=some (.slice t5.Am t5.cps.length t5.cm) from rfl)
    have k6:=(c1 6).trans (show _=some (.int .i64 (t5.times:Int)) from rfl)
    rw [HNO.out,HCO.out] at k0
    rw [HMB.out] at k2
    rw [HFN.out,HCM.out] at k3
    rw [HTM5.out] at k6
    by_cases hlt:k < nr
    · have hkl:k < t5.row.length:=by rw [HNR.out]; exact hlt
      obtain ⟨gr,hAr,hgr,r0⟩:=ints_at (show (rowI 3 1 t5.Ar t5.row.length t5.cr (ints t5.row)).P wr from hS.get 3 rfl) hkl
      obtain ⟨z,fs,hz,hzf⟩:=(HOK5.out.row t5.row[k]).1 (List.getElem_mem hkl)
      have hzl:z < t5.oj.ps.length:=by rw [← t5.n]; exact RpA.fld_lt hzf
      obtain ⟨ga,hAs,hga,y0,y1⟩:=ptr_at (show (rowI 84 1 s.As s.ps.length s.c (s.ps.map ptrV)).P wr from hS.get 7 rfl) (k:=z) (by rw [hN]; exact hzl)
      rw [hz] at r0
      rw [← hA,hAs] at k0
      have hzN:z < nO:=by rw [← HNO.out]; exact hzl
      obtain ⟨u,hu⟩:∃ u,ptrV s.ps[z]=u:=⟨_,rfl⟩
      rw [hu] at y0
      have hnd:(t5.cps.map fun c => c.i).Nodup:=by have h1:=HOK5.out.nd; rw [show keysC t5.a.cps=_ from cpP_keys t5.cps] at h1; exact h1
      have hlk:=cp_look (l:=t5.cps) (hS.get 4 rfl) hnd z (numW (by omega) (by omega))
      have hT:=List.take_succ_eq_append_getElem hkl
      rw [hz] at hT
      have hnot:(z:Int) ∉ t5.row.take k:=fun hm => by
        obtain ⟨j,hj⟩:=List.getElem?_of_mem hm
        obtain ⟨hj1,hj2⟩:=List.getElem?_eq_some_iff.1 hj
        rw [List.length_take] at hj1
        rw [List.getElem_take] at hj2
        exact List.pairwise_iff_getElem.1 HND5.out j k (by omega) hkl (by omega) (hj2.trans hz.symm)
      rw [HMB.out] at hlk
      have t2:decide ((z:Int) < 0)=false:=by simp
      have t3:decide ((nO:Int) ≤ (z:Int))=false:=by simp; exact hzN
      have n1:Be ≠ ga:=fun e => by
        have:=hS.other (a:=2) (b:=7) rfl rfl (by decide) Be rfl
        exact this (by rw [hAs,e]; rfl)
      obtain ⟨gB,hgB⟩:∃ q,wr.heap.size=q:=⟨_,rfl⟩
      have n2:ga ≠ gB:=by omega
      have n3:gB ≠ ga:=by omega
      have n4:gr ≠ gB:=by omega
      have HT:=hide hT
      have haR:=HAR.out
      rw [hAr] at haR
      subst haR
      clear k1
      by_cases hh:t5.a.has z
      · obtain ⟨c,hc,hci⟩:=List.mem_map.1 (RpT.has.1 hh)
        have hl1:=hlk.1 c hc hci
        have hpm:=restC_has hnd hc (R:=t5.row.take k) (by rw [hci]; exact hnot)
        rw [hci,← hT] at hpm
        have HNX:=hide (fr_take hS hpm hgB (z:=z) (ga:=ga) (by rw [hN]; exact hzl) hAs)
        have hcc:copyC (cpP t5.cps) z=some c.fs:=by
          have h1:=copyC_some (l:=cpP t5.cps) (by rw [cpP_keys]; exact hnd) (p:=(c.i,c.fs)) (List.mem_map.2 ⟨c,hc,rfl⟩)
          rw [← hci]; exact h1
        have HI2:=hide (show (s.setP z (some (c.po gB))).As=t5.oj.As ∧ (s.setP z (some (c.po gB))).c=t5.oj.c ∧ (s.setP z (some (c.po gB))).ps.length=t5.oj.ps.length ∧ (s.setP z (some (c.po gB))).abs=flipO (cpP t5.cps) (t5.row.take (k + 1)) t5.oj.abs from ⟨hA,hC,by unfold Oj.setP; rw [List.length_set]; exact hN,by rw [oj_setP_abs,hF,hT,flipO_snoc,Int.toNat_natCast,hcc]; rfl⟩)
        obtain ⟨ga',hAs',hga',y0',y1'⟩:=ptr_at (show (rowI 84 1 s.As s.ps.length s.c (s.ps.map ptrV)).P (wr.alloc (.cells #[.slice (some ⟨c.g,0,none⟩) c.fs.length c.fs.length] 83)) from (hS.alloc _).get 7 rfl) (k:=z) (by rw [hN]; exact hzl)
        obtain rfl:ga=ga':=by rw [hAs] at hAs'; injection hAs' with e; injection e
        rw [hu] at y0'
        obtain ⟨P,hP⟩:∃ P,some (c.po gB)=P:=⟨_,rfl⟩
        rw [hP] at HNX HI2
        obtain ⟨cg,hcg⟩:∃ q,c.g=q:=⟨_,rfl⟩
        obtain ⟨cl,hcl⟩:∃ q,c.fs.length=q:=⟨_,rfl⟩
        unfold slV at hl1
        rw [hcg,hcl] at HNX hl1 y0' y1' hga'
        clear HI hA hC hN hF c1 hz hzf hzl hAs hAs' hu hnd hlk hT hnot hh hc hci hpm hcc hP hcg hcl hkl hS hgr HT
        go_wp2_with fail
        go_roundw
        case rel => exact ⟨k + 1,s.setP z P,by omega,by go_num,HI2,HNX.out⟩
        case measure => simp [intOf]; omega
      · have hnc:∀ c ∈ t5.cps,(c.i:Int) ≠ z:=fun c hc e => hh (RpT.has.2 (List.mem_map.2 ⟨c,hc,by omega⟩))
        have hl1:=hlk.2.1 (fun h => hh (RpT.has.2 h))
        have HNX:=hide (fr_none hS (z:=z) (ga:=ga) (by rw [hN]; exact hzl) hAs)
        rw [← restC_no hnc,← hT] at HNX
        have hcc:copyC (cpP t5.cps) z=none:=copyC_none (by rw [cpP_keys]; exact fun h => hh (RpT.has.2 h))
        have HI2:=hide (show (s.setP z none).As=t5.oj.As ∧ (s.setP z none).c=t5.oj.c ∧ (s.setP z none).ps.length=t5.oj.ps.length ∧ (s.setP z none).abs=flipO (cpP t5.cps) (t5.row.take (k + 1)) t5.oj.abs from ⟨hA,hC,by unfold Oj.setP; rw [List.length_set]; exact hN,by rw [oj_setP_abs,hF,hT,flipO_snoc,Int.toNat_natCast,hcc]; rfl⟩)
        clear HI hA hC hN hF c1 hz hzf hzl hAs hu hnd hlk hT hnot hh hnc hcc hkl hS hgr HT
        go_wp2_with fail
        go_roundw
        case rel => exact ⟨k + 1,s.setP z none,by omega,by go_num,HI2,HNX.out⟩
        case measure => simp [intOf]; omega
    · have hkn:k=nr:=by omega
      rw [List.take_of_length_le (by rw [HNR.out]; omega)] at hF
      have HE:=hide (fr_end hS hA hN hC)
      rw [HFN.out,HCM.out,HTM5.out,HMB.out] at HE
      have HAB:=hide (fun b => fr_abs t5 s b hF)
      subst hkn
      clear HI hA hC hN hF c1 hS k0 k2
      go_wp2_with fail
      have CB:=rpbegin2_any t5.regs (x:=allI [blkI g 65 (regC t.regs),x]) HE.out
      refine CB.mono ?_
      rintro e w9 ⟨⟨u,rfl⟩,b,hS9⟩
      have HS9:=hide (Sep.split (l:=[_,x]) hS9)
      clear hS9 CB HE
      go_wp2_with fail
      go_end0
      exact ⟨⟨_,rfl⟩,_,(by rw [HWK2.out,← HAB.out b,HTM5.out,HCM.out]),HS9.out.sub (List.sublist_cons_self _ _)⟩
end Go.Proofs.YtjphckfbbiehdaaGreat

namespace Go.Proofs.YtjphckfbbiehdaaGreat
open Go.RowKit Go.Maps
def intOk (v:Val):Prop:=v.1=false → numOk v
structure RpNm (a:RpA):Prop where
  rg:∀ v ∈ a.regs,intOk v
  fs:∀ i fs,a.fld i=some fs → ∀ v ∈ fs,intOk v
  nd:a.row.Nodup
theorem vok_num {a:RpA} {v:Val} (h:intOk v) (hv:a.vok v) (hn:a.objs.length ≤ 600):numOk v:=by
  cases hb:v.1 with
  | false => exact h hb
  | true =>
    obtain ⟨i,fs,e,hf⟩:=hv hb
    have:=RpA.fld_lt hf
    unfold numOk
    rw [e]; omega
theorem RpNm.num {a:RpA} (h:RpNm a) (ok:RpOk a) (hn:a.objs.length ≤ 600):(∀ v ∈ a.regs,numOk v) ∧ (∀ i fs,a.fld i=some fs → ∀ v ∈ fs,numOk v) :=
  ⟨fun v hv => vok_num (h.rg v hv) (ok.vr v hv) hn,fun i fs hf v hv => vok_num (h.fs i fs hf v hv) (ok.vf i fs hf v hv) hn⟩
theorem RpNm.congr {a b:RpA} (h:RpNm a) (h1:b.regs=a.regs) (h2:b.objs=a.objs) (h3:b.row=a.row):RpNm b :=
  ⟨by rw [h1]; exact h.rg,fun i fs hf => h.fs i fs (by rw [← hf]; unfold RpA.fld; rw [h2]),by rw [h3]; exact h.nd⟩
theorem RpNm.sr {a:RpA} (h:RpNm a) (r:Nat) {v:Val} (hv:intOk v):RpNm (a.sr r v) :=
  ⟨fun u hu => (List.mem_or_eq_of_mem_set hu).elim (fun h1 => h.rg u h1) (fun h1 => h1 ▸ hv),h.fs,h.nd⟩
theorem RpNm.put {a:RpA} (h:RpNm a) {i k:Nat} {fs:List Val} (hf:a.fld i=some fs) {v:Val} (hv:intOk v):RpNm (rpPut a i k v):=by
  refine ⟨h.rg,fun j gs hj u hu => ?_,h.nd⟩
  rcases (rput_fld v hf j gs).1 hj with ⟨_,rfl⟩ | ⟨_,h1⟩
  · rcases List.mem_or_eq_of_mem_set hu with h2 | h2
    · exact h.fs i fs hf u h2
    · exact h2 ▸ hv
  · exact h.fs j gs h1 u hu
theorem RpNm.push {a:RpA} (h:RpNm a) (ok:RpOk a) (n:Nat):RpNm (a.push n):=by
  refine ⟨h.rg,fun j gs hj u hu => ?_,?_⟩
  · rcases (rpush_fld a n j gs).1 hj with h1 | ⟨_,rfl⟩
    · exact h.fs j gs h1 u hu
    · unfold zeroVs at hu
      rw [(List.mem_replicate.1 hu).2]
      intro _
      exact ⟨by decide,by decide⟩
  · show (a.row ++ [(a.objs.length:Int)]).Nodup
    refine List.nodup_append.2 ⟨h.nd,by simp,fun x hx y hy e => ?_⟩
    rw [List.mem_singleton] at hy
    subst hy
    obtain ⟨i,fs,e2,hf⟩:=(ok.row x).1 hx
    have:=RpA.fld_lt hf
    omega
theorem RpNm.flip {a:RpA} (h:RpNm a) (ok:RpOk a) (hl:a.log=[]) (hf:a.cps[a.filled]?=none):RpNm a.flip:=by
  refine ⟨h.rg,fun i fs hi => h.fs i fs ((flip_fld ok hl hf i fs).1 hi).2,?_⟩
  show a.made.Nodup
  exact List.pairwise_map.2 (ok.nd.imp fun h e => h (by omega))
theorem bringN_keep (a:RpA) (o:Nat):∀ n,(a.bringN o n).regs=a.regs ∧ (a.bringN o n).objs=a.objs ∧ (a.bringN o n).row=a.row:=by
  intro n
  induction n with
  | zero => exact ⟨rfl,rfl,rfl⟩
  | succ n ih =>
    rw [bringN_succ]
    obtain ⟨b1,b2,b3,-⟩:=bring_keep (a.bringN o n) o n
    exact ⟨b1.trans ih.1,b2.trans ih.2.1,b3.trans ih.2.2⟩
theorem RpNm.work {a:RpA} (h:RpNm a) (ok:RpOk a):RpNm a.work:=by
  unfold RpA.work
  split
  · split
    · obtain ⟨b1,b2,b3,-⟩:=bring_keep (a.nl ‹_›) (Prod.fst ‹Nat × Nat›) (Prod.snd ‹Nat × Nat›)
      exact h.congr b1 b2 b3
    · exact h.congr rfl rfl rfl
  · rename_i hl
    split
    · rename_i v _
      obtain ⟨b1,b2,b3,-⟩:=cop_keep a v
      exact h.congr b1 b2 b3
    · unfold RpA.fill
      split
      · rename_i p _
        obtain ⟨b1,b2,b3⟩:=bringN_keep (a.fl (a.filled + 1)) p.1 (a.flds p.1).length
        exact h.congr b1 b2 b3
      · rename_i hc
        exact h.flip ok hl hc
theorem wrongM_v {d:DoV} (h:wrongM d=0) (hk:d.k=2):-4611686018427387904 ≤ d.n ∧ d.n ≤ 4611686018427387903:=by
  unfold wrongM at h
  split at h
  · omega
  · split at h
    · omega
    · split at h
      · omega
      · split at h
        · omega
        · omega
theorem intOk_reg {a:RpA} (h:RpNm a) (r:Int):intOk (rgA a.regs r):=by
  unfold rgA
  rcases getD_mem_or a.regs r.toNat (false,0) with h2 | h2
  · exact h.rg _ h2
  · rw [h2]; intro _; exact ⟨by decide,by decide⟩
theorem RpNm.step {a:RpA} (h:RpNm a) (ok:RpOk a) (d:DoV):RpNm (rpStep d a).2:=by
  unfold rpStep
  split
  · exact h.work ok
  unfold rpDo
  by_cases hw:wrongM d ≠ 0
  · rw [if_pos hw]; exact h
  rw [if_neg hw]
  have hw0:wrongM d=0:=by omega
  have hnew:∀ n,RpNm (rpNew a n).1:=fun n => by
    unfold rpNew
    split
    · exact h
    · exact h.push ok n
  unfold rpKst
  split
  · split
    · exact hnew _
    · exact (hnew _).sr _ (fun h => by cases h)
  split
  · rename_i h2
    exact h.sr _ (fun _ => wrongM_v hw0 h2)
  split
  · exact h.sr _ (intOk_reg h _)
  split
  · split
    · exact h
    · rename_i hz
      obtain ⟨i,k,fs,e,hf,e2,hk⟩:=RpOkE.at_field ok (r:=d.to) (at_:=d.at_) (by omega)
      rw [e,e2,Int.toNat_natCast,Int.toNat_natCast]
      exact h.put hf (intOk_reg h _)
  split
  · split
    · exact h
    · rename_i hz
      obtain ⟨i,k,fs,e,hf,e2,hk⟩:=RpOkE.at_field ok (r:=d.fr) (at_:=d.at_) (by omega)
      rw [e,e2,Int.toNat_natCast,Int.toNat_natCast,hf,Option.getD_some]
      refine h.sr _ ?_
      rw [List.getD_eq_getElem?_getD,List.getElem?_eq_getElem hk]
      exact h.fs i fs hf _ (List.getElem_mem hk)
  split <;> exact h
theorem RpNm.run {a:RpA} (ds:List DoV) {r:RqA} (hs:RpSim a r) (ok:RpOk a) (h:RpNm a):∀ k,k ≤ ds.length → RpNm (rpRun (ds.take k) a).2:=by
  intro k
  induction k with
  | zero => exact fun _ => h
  | succ k ih =>
    intro hk
    rw [rpRun_at ds a k (by omega)]
    exact (ih (by omega)).step (rp_run ds hs ok k (by omega)).2.2.1 _
theorem rwork_any {F:Nat → Prop} {W0 w:World} {Be:Nat} {t:RpT} {x:Item} (h:Sep F W0 w (x :: rpR Be t)) (ok:RpOk t.a) (nm:RpNm t.a) (hn:t.a.objs.length ≤ 600) (hl:t.a.log.length ≤ 1000) (ht:t.a.times ≤ 100000) (p0 p1 p2 p3 p4 p5 p6 p7:Val) (hregs:t.regs=[p0,p1,p2,p3,p4,p5,p6,p7]) :
    Calls Tryz.prog 26 #[.pointer (some ⟨Be,0,none⟩),.agg #[.bool p0.1,.int .i64 p0.2,.bool p1.1,.int .i64 p1.2,.bool p2.1,.int .i64 p2.2,.bool p3.1,.int .i64 p3.2,.bool p4.1,.int .i64 p4.2,.bool p5.1,.int .i64 p5.2,.bool p6.1,.int .i64 p6.2,.bool p7.1,.int .i64 p7.2]] w fun e w' => (∃ u,e=.returned u) ∧ ∃ t':RpT,t'.a=t.a.work ∧ Sep F W0 w' (x :: rpR Be t'):=by
  obtain ⟨h1,h2⟩:=nm.num ok hn
  have hps:t.oj.ps.length ≤ 600:=by rw [← t.n]; exact hn
  cases hlg:t.log with
  | cons p l => exact rwork_log h ok hps h2 (o:=p.1) (k:=p.2) (l:=l) hlg hl p0 p1 p2 p3 p4 p5 p6 p7
  | nil =>
    cases hm:t.a.miss with
    | some v => exact rwork_copy h ok hps hlg p0 p1 p2 p3 p4 p5 p6 p7 hregs h1 hm
    | none =>
      cases hc:t.a.cps[t.a.filled]? with
      | some cq => exact rwork_fill h ok hps hlg p0 p1 p2 p3 p4 p5 p6 p7 hregs h1 h2 hm hc
      | none => exact rwork_flip h ok hps hlg p0 p1 p2 p3 p4 p5 p6 p7 hregs h1 nm.nd ht hm hc
end Go.Proofs.YtjphckfbbiehdaaGreat

namespace Go.Proofs.YtjphckfbbiehdaaGreat
open Go.RowKit
def repErr (nO nR nd:Nat) (obs:List Ob) (roots:List Val):Int:=if gcheck nO nR obs roots ≠ 0 then gcheck nO nR obs roots else if 100 < nd then 1 else 0
set_option maxRecDepth 100000 in
set_option maxHeartbeats 8000000 in
theorem repPlay_no (w:World) (AO AR Ad:Option Addr) (nO cO nR cR nd cd:Nat) (obs:List Ob) (roots:List Val) (hO:ObsRd w (fun _ => True) AO nO obs) (hR:Rd w (fun _ => True) 2 AR nR (vals roots)) (hz:repErr nO nR nd obs roots ≠ 0) :
    Calls Tryz.prog 8 #[.agg #[.slice AO nO cO,.slice AR nR cR],.slice Ad nd cd] w fun e w' => e=.returned (.tuple #[.agg #[.slice none 0 0,.slice none 0 0,.int .i64 0,.int .i64 0,.int .i64 0],.int .i64 (repErr nO nR nd obs roots)]) ∧ Below w.heap.size w w':=by
  obtain ⟨g,hg⟩:∃ g,w.heap.size=g:=⟨_,rfl⟩
  have hS0:=((Sep.nil No w).blkAt 25 #[.slice AO nO cO,.slice AR nR cR] hg).blkAt 42 #[.slice none 0 0,.slice none 0 0,.int .i64 0,.int .i64 0,.int .i64 0] (g:=g + 1) (by simp [hg])
  have C1:=hide (graphCheck_any _ AO AR nO cO nR cR obs roots (hO.below hS0.below_) (hR.below hS0.below_))
  obtain ⟨a1,a2,a3,a4⟩:=hS0.rules 0 (g:=g) (t:=25) rfl
  have HS0:=hide hS0
  unfold repErr at hz ⊢
  obtain ⟨x,hx⟩:∃ x,gcheck nO nR obs roots=x:=⟨_,rfl⟩
  rw [hx] at C1 hz ⊢
  clear hS0 a4 hO hR hx
  by_cases h0:x=0
  · subst h0
    rw [if_neg (by simp)] at hz ⊢
    have hnd:100 < nd:=by
      split at hz
      · assumption
      · omega
    rw [if_pos hnd]
    have t3:decide ((100:Int) < (nd:Int))=true:=by simp; omega
    have t4:decide (100 < nd)=true:=by simp; omega
    clear hz
    go_enter Tryz.func8,Tryz.ntmps8
    go_wp2_with fail
    refine C1.out.mono ?_
    rintro e w1 ⟨rfl,hb1⟩
    have hS2:=HS0.out.below hb1
    obtain ⟨x1,x2,x3,x4⟩:=hS2.rules 1 (g:=g + 1) (t:=42) rfl
    have HS2:=hide hS2
    clear hb1 hS2 HS0 C1 a1 a2 a3 x4
    go_wp2_with fail
    have hF:=((((HS2.out.set_ 1 (g:=g + 1) (t:=42) rfl 0 (.slice none 0 0)).set_ 1 (g:=g + 1) (t:=42) rfl 1 (.slice none 0 0)).set_ 1 (g:=g + 1) (t:=42) rfl 2 (.int .i64 0)).set_ 1 (g:=g + 1) (t:=42) rfl 3 (.int .i64 0)).set_ 1 (g:=g + 1) (t:=42) rfl 4 (.int .i64 0)
    refine bodyPost_ret (v:=.tuple #[.agg #[.slice none 0 0,.slice none 0 0,.int .i64 0,.int .i64 0,.int .i64 0],.int .i64 1]) (by simp [results,Tryz.results8,go_sem,x1]) rfl ⟨rfl,hF.below_⟩
  · rw [if_pos h0]
    have t1:decide (x=0)=false:=by simp [h0]
    have t2:(x == 0)=false:=by simp [h0]
    have t3:(x != 0)=true:=by simp [h0]
    clear hz
    go_enter Tryz.func8,Tryz.ntmps8
    go_wp2_with fail
    refine C1.out.mono ?_
    rintro e w1 ⟨rfl,hb1⟩
    have hS2:=HS0.out.below hb1
    obtain ⟨x1,x2,x3,x4⟩:=hS2.rules 1 (g:=g + 1) (t:=42) rfl
    have HS2:=hide hS2
    clear hb1 hS2 HS0 C1 a1 a2 a3 x4
    go_wp2_with fail
    have hF:=((((HS2.out.set_ 1 (g:=g + 1) (t:=42) rfl 0 (.slice none 0 0)).set_ 1 (g:=g + 1) (t:=42) rfl 1 (.slice none 0 0)).set_ 1 (g:=g + 1) (t:=42) rfl 2 (.int .i64 0)).set_ 1 (g:=g + 1) (t:=42) rfl 3 (.int .i64 0)).set_ 1 (g:=g + 1) (t:=42) rfl 4 (.int .i64 0)
    refine bodyPost_ret (v:=.tuple #[.agg #[.slice none 0 0,.slice none 0 0,.int .i64 0,.int .i64 0,.int .i64 0],.int .i64 x]) (by simp [results,Tryz.results8,go_sem,x1]) rfl ⟨rfl,hF.below_⟩
end Go.Proofs.YtjphckfbbiehdaaGreat

namespace Go.Proofs.YtjphckfbbiehdaaGreat
open Go.RowKit Go.Maps
theorem work_regs (a:RpA):a.work.regs=a.regs:=by
  unfold RpA.work
  split
  · split
    · exact (bring_keep _ _ _).1
    · rfl
  · split
    · exact (cop_keep _ _).1
    · unfold RpA.fill
      split
      · exact (bringN_keep _ _ _).1
      · rfl
theorem rpwork_km {F:Nat → Prop} {W0 w:World} {Be Bm:Nat} {t:RpT} {L:List Item} (h:Sep F W0 w ((rpKm Bm Be).item t :: L)) (ok:RpOk t.a) (nm:RpNm t.a) (hn:t.a.objs.length ≤ 600) (hl:t.a.log.length ≤ 1000) (ht:t.a.times ≤ 100000) (p0 p1 p2 p3 p4 p5 p6 p7:Val) (hregs:t.regs=[p0,p1,p2,p3,p4,p5,p6,p7]) :
    Calls Tryz.prog 26 #[.pointer (some ⟨Be,0,none⟩),.agg #[.bool p0.1,.int .i64 p0.2,.bool p1.1,.int .i64 p1.2,.bool p2.1,.int .i64 p2.2,.bool p3.1,.int .i64 p3.2,.bool p4.1,.int .i64 p4.2,.bool p5.1,.int .i64 p5.2,.bool p6.1,.int .i64 p6.2,.bool p7.1,.int .i64 p7.2]] w fun e w' => (∃ u,e=.returned u) ∧ ∃ t':RpT,t'.a=t.a.work ∧ Sep F W0 w' ((rpKm Bm Be).item t' :: L):=by
  refine (rwork_any (x:=rpM Be Bm t) (pkm_flat (h.get 0 rfl)) ok nm hn hl ht p0 p1 p2 p3 p4 p5 p6 p7 hregs).mono ?_
  rintro e w' ⟨he,t',e1,hS⟩
  have e2:t'.regs=t.regs:=by
    have:=congrArg RpA.regs e1
    rw [work_regs] at this
    exact this
  rw [← rpM_regs e2] at hS
  exact ⟨he,t',e1,h.call 0 rfl (pkm_fold hS)⟩
theorem rp_sel {Bm Be:Nat} {t:RpT} {X:World} {q0 q1 q2 q3 q4 q5 q6 q7:Val} (hP:((rpKm Bm Be).item t).P X) (hq:t.regs=[q0,q1,q2,q3,q4,q5,q6,q7]):X.cell? ⟨Bm,0,none⟩=some (.bool q0.1) ∧ X.cell? ⟨Bm,1,none⟩=some (.int .i64 q0.2) ∧ X.cell? ⟨Bm,2,none⟩=some (.bool q1.1) ∧ X.cell? ⟨Bm,3,none⟩=some (.int .i64 q1.2) ∧ X.cell? ⟨Bm,4,none⟩=some (.bool q2.1) ∧ X.cell? ⟨Bm,5,none⟩=some (.int .i64 q2.2) ∧ X.cell? ⟨Bm,6,none⟩=some (.bool q3.1) ∧ X.cell? ⟨Bm,7,none⟩=some (.int .i64 q3.2) ∧ X.cell? ⟨Bm,8,none⟩=some (.bool q4.1) ∧ X.cell? ⟨Bm,9,none⟩=some (.int .i64 q4.2) ∧ X.cell? ⟨Bm,10,none⟩=some (.bool q5.1) ∧ X.cell? ⟨Bm,11,none⟩=some (.int .i64 q5.2) ∧ X.cell? ⟨Bm,12,none⟩=some (.bool q6.1) ∧ X.cell? ⟨Bm,13,none⟩=some (.int .i64 q6.2) ∧ X.cell? ⟨Bm,14,none⟩=some (.bool q7.1) ∧ X.cell? ⟨Bm,15,none⟩=some (.int .i64 q7.2) ∧ Bm < X.heap.size:=by
  have hS:=pkm_flat hP
  obtain ⟨c1,_,c3,_⟩:=hS.rules 0 (g:=Bm) (t:=70) (cs:=mcCells t.regs (.iface 99 (.pointer (some ⟨Be,0,none⟩)))) rfl
  rw [hq] at c1
  exact ⟨(c1 0).trans rfl,(c1 1).trans rfl,(c1 2).trans rfl,(c1 3).trans rfl,(c1 4).trans rfl,(c1 5).trans rfl,(c1 6).trans rfl,(c1 7).trans rfl,(c1 8).trans rfl,(c1 9).trans rfl,(c1 10).trans rfl,(c1 11).trans rfl,(c1 12).trans rfl,(c1 13).trans rfl,(c1 14).trans rfl,(c1 15).trans rfl,c3⟩
theorem rp_mk {F:Nat → Prop} {W w:World} {Be nO n c2 c':Nat} {As A:Option Addr} {ps:List Po} {cs:Array Value} {l:List Int} {G1 G2:Item} (hps:ps.length=nO)
    (h:Sep F W w (rowI 3 1 A n c' (ints l) :: blkI Be 103 cs :: allI (rowI 84 1 As nO c2 (ps.map poPtr) :: ps.map poI) :: [G1,G2])):Sep F W w (allI [G1,G2] :: blkI Be 103 cs :: rowI 3 1 A n c' (ints l) :: ojL ⟨As,c2,ps.map some⟩):=by
  have e:ojL ⟨As,c2,ps.map some⟩=rowI 84 1 As nO c2 (ps.map poPtr) :: ps.map poI:=by
    unfold ojL
    dsimp only
    rw [List.length_map,hps,List.map_map,List.map_map]
    rfl
  rw [e]
  have h1:Sep F W w (allI (rowI 84 1 As nO c2 (ps.map poPtr) :: ps.map poI) :: [G1,G2,blkI Be 103 cs,rowI 3 1 A n c' (ints l)]):=h.perm (by
    refine List.Perm.trans (List.perm_append_comm (l₁:=[_,_]) (l₂:=[_,_,_])) ?_
    exact List.Perm.cons _ (List.Perm.cons _ (List.Perm.cons _ (List.Perm.swap _ _ _))))
  exact Sep.join (l:=[G1,G2]) ((Sep.split h1).perm List.perm_append_comm)
def rpS (regs:List Val) (As:Option Addr) (c:Nat) (ps:List Po) (A:Option Addr) (c':Nat) (b:Nat):RpT:=rpN regs ⟨As,c,ps.map some⟩ A c' (rangeI ps.length) b 0
theorem rpS_a (regs:List Val) (As:Option Addr) (c:Nat) (ps:List Po) (A:Option Addr) (c' b:Nat):(rpS regs As c ps A c' b).a=rp0 ⟨regs,ps.map fun p => p.o.fields⟩:=by
  unfold RpT.a rpS rpN rp0
  dsimp only
  rw [show (⟨As,c,ps.map some⟩:Oj).abs=(ps.map fun p => p.o.fields).map some from co1_abs As c ps A c',List.length_map]
  rfl
end Go.Proofs.YtjphckfbbiehdaaGreat
