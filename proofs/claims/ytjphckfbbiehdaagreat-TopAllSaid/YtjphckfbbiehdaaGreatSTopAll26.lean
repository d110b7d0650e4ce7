/- Part of a proof. -/
import Derived.Test.YtjphckfbbiehdaaGreatSTopAll25
import Derived.Test.YtjphckfbbiehdaaGreatSTopAll22
import Derived.Deep.DeepCutAuto
set_option linter.unusedSimpArgs false
set_option linter.unusedVariables false
namespace Go.Proofs.YtjphckfbbiehdaaGreat
open Go.RowKit
def cn1 (regs:List Val) (As:Option Addr) (c:Nat) (ps:List Po) (Ac:Option Addr) (cc:Nat):CnT:=⟨regs,⟨As,c,ps.map some⟩,Ac,cc,List.replicate ps.length 0,none,0,[]⟩
theorem cn1_abs (regs:List Val) (As:Option Addr) (c:Nat) (ps:List Po) (Ac:Option Addr) (cc:Nat):(cn1 regs As c ps Ac cc).a=cn0 ⟨regs,ps.map fun p => p.o.fields⟩:=by
  unfold CnT.a cn1 cn0
  dsimp only
  rw [show (⟨As,c,ps.map some⟩:Oj).abs=(ps.map fun p => p.o.fields).map some from co1_abs As c ps Ac cc,List.length_map]
theorem someN_all {α:Type} (l:List α):someN (l.map some)=l.length:=by
  unfold someN
  rw [List.filter_eq_self.2 (fun o ho => by obtain ⟨x,_,rfl⟩:=List.mem_map.1 ho; rfl),List.length_map]
theorem perm_mid {α:Type} (P A L:List α):(P ++ (A ++ L)).Perm (A ++ P ++ L):=by
  rw [← List.append_assoc]
  exact List.Perm.append_right L List.perm_append_comm
theorem cn_mk {F:Nat → Prop} {W w:World} {Be Bm nO c cc:Nat} {R:Int} {As Ac:Option Addr} {ps:List Po} {L:List Item} (regs:List Val) (hps:ps.length=nO)
    (h:Sep F W w (blkI Be 80 #[.slice As nO c,.pointer (some ⟨Bm,0,none⟩),.slice Ac nO cc,.int .i64 R,.int .i64 nO,.slice none 0 0] :: rowI 3 1 Ac nO cc (ints (List.replicate nO 0)) :: allI (rowI 84 1 As nO c (ps.map poPtr) :: ps.map poI) :: L)):Sep F W w (allI (cnR Be Bm R (cn1 regs As c ps Ac cc)) :: L):=by
  have e:cnR Be Bm R (cn1 regs As c ps Ac cc)=[blkI Be 80 #[.slice As nO c,.pointer (some ⟨Bm,0,none⟩),.slice Ac nO cc,.int .i64 R,.int .i64 nO,.slice none 0 0],rowI 3 1 Ac nO cc (ints (List.replicate nO 0)),rowI 3 1 none 0 0 []] ++ (rowI 84 1 As nO c (ps.map poPtr) :: ps.map poI):=by
    unfold cnR
    rw [cn1_abs]
    unfold CnA.num cn0
    dsimp only
    rw [someN_all,List.length_map]
    unfold cnRN cnC cn1 ojL Oj.v
    dsimp only
    rw [List.length_map,List.length_replicate,hps,List.map_map,List.map_map]
    rfl
  refine Sep.join (l:=cnR Be Bm R (cn1 regs As c ps Ac cc)) ?_
  rw [e]
  have h1:=h.nilRow0 3 1
  have h2:Sep F W w (allI (rowI 84 1 As nO c (ps.map poPtr) :: ps.map poI) :: blkI Be 80 #[.slice As nO c,.pointer (some ⟨Bm,0,none⟩),.slice Ac nO cc,.int .i64 R,.int .i64 nO,.slice none 0 0] :: rowI 3 1 Ac nO cc (ints (List.replicate nO 0)) :: rowI 3 1 none 0 0 [] :: L):=h1.perm (by
    refine (List.perm_append_comm (l₁:=[_,_,_]) (l₂:=[allI (rowI 84 1 As nO c (ps.map poPtr) :: ps.map poI)])).append_right L |>.trans ?_
    refine List.Perm.cons _ ?_
    exact ((List.perm_append_comm (l₁:=[rowI 3 1 none 0 0 []]) (l₂:=[_,_])).append_right L))
  have h3:=Sep.split (l:=rowI 84 1 As nO c (ps.map poPtr) :: ps.map poI) h2
  exact h3.perm (perm_mid _ [_,_,_] L)
theorem row_of_M {F:Nat → Prop} {W w:World} {gc nO:Nat} {M:Array Value} {items:List Item} (hM:M.toList=ints (List.replicate nO 0)) (hn:nO ≤ 1000) (k:Nat) (h:Sep F W w items) (hk:items[k]?=some (blkI gc 3 M)) :
    Sep F W w (items.set k (rowI 3 1 (some ⟨gc,0,none⟩) nO nO (ints (List.replicate nO 0)))):=by
  have hms:M.size=nO:=by
    have:=congrArg List.length hM
    simpa [ints] using this
  have hr:=rowI_of_blk (n:=nO) (size:=1) (show Blk w gc 3 M from h.get k hk) (by omega) (by unfold maxLen; omega)
  have h1:=h.step k hk (Chg.refl _ _) (rowI 3 1 (some ⟨gc,0,none⟩) nO nO M.toList) hr (fun g hg => .inl (by
    have:gc=g:=by simpa [rowI,Value.ownBlock] using hg
    exact this.symm))
  rw [hM] at h1
  exact h1
set_option maxRecDepth 100000 in
set_option maxHeartbeats 32000000 in
theorem countPlay_ok (w:World) (AO AR Ad:Option Addr) (nO cO nR cR nd cd:Nat) (obs:List Ob) (roots:List Val) (gs:List (List Val)) (ds:List DoV) (R:Int) (hgs:obs.map Ob.fields=gs) (hO:ObsRd w (fun _ => True) AO nO obs) (hR:Rd w (fun _ => True) 2 AR nR (vals roots)) (hcp:∀ o ∈ obs,o.A=none → o.c=0) (hz:cntErr nO nR nd obs roots R=0)
    (hM:MOk ⟨padR roots nR,gs⟩) (hD:Rd w (fun _ => True) 5 Ad nd (dosV ds)) :
    Calls Tryz.prog 6 #[.agg #[.slice AO nO cO,.slice AR nR cR],.int .i64 R,.slice Ad nd cd] w fun e w' => ∃ A c A2 n2 c2 A3 n3 c3,e=.returned (.tuple #[.agg #[.slice A nd c,.slice A2 n2 c2,.slice A3 n3 c3],.int .i64 0]) ∧ Below w.heap.size w w' ∧ Rd w' (fun g => w.heap.size ≤ g) 3 A nd (outsV (cnRun R ds (cnBeg ⟨padR roots nR,gs⟩ nO)).1) ∧ Rd w' (fun g => w.heap.size ≤ g) 2 A2 n2 (countsV (cnThere (cnRun R ds (cnBeg ⟨padR roots nR,gs⟩ nO)).2)) ∧ Rd w' (fun g => w.heap.size ≤ g) 1 A3 n3 (ints (cnRun R ds (cnBeg ⟨padR roots nR,gs⟩ nO)).2.gl):=by
  obtain ⟨hx,hnd,hR1,hR2⟩:gcheck nO nR obs roots=0 ∧ nd ≤ 100 ∧ 1 ≤ R ∧ R ≤ 64:=by
    unfold cntErr at hz
    split at hz
    · rename_i h; exact absurd hz h
    · rename_i h
      split at hz
      · omega
      · split at hz
        · omega
        · exact ⟨by omega,by omega,by omega,by omega⟩
  have hG:=gok_of hO hx
  have hnO:=hG.nO_
  have hnR:=hG.nR_
  have HDL:=hide (show ds.length=nd by have:=hD.1; rw [dosV_length] at this; omega)
  have hgl:gs.length=nO:=by rw [← hgs,List.length_map]; exact hO.len
  obtain ⟨g,hg⟩:∃ g,w.heap.size=g:=⟨_,rfl⟩
  have hS0:=((Sep.nil No w).blkAt 25 #[.slice AO nO cO,.slice AR nR cR] hg).blkAt 35 #[.slice none 0 0,.slice none 0 0,.slice none 0 0] (g:=g + 1) (by simp [hg])
  have C1:=graphCheck_any _ AO AR nO cO nR cR obs roots (hO.below hS0.below_) (hR.below hS0.below_)
  rw [hx] at C1
  replace C1:=hide C1
  have CO:=hide (fun w' (hb:Below w.heap.size w w') => heapOf_any w' AO AR nO cO nR cR obs gs hgs (hO.below hb) hnO hG.fl hcp)
  have CI:=hide (fun w' (hb:Below w.heap.size w w') => heapFirst_any w' AO AR nO cO nR cR roots (hR.below hb) hnR)
  have HOB:=hide (fun w' (hb:Below w.heap.size w w') => hO.below hb)
  have HGS:=hide hgs
  have HFL:=hide hG.fl
  obtain ⟨M,hMM,hmk⟩:=rint_make nO (by omega)
  have HMM:=hide hMM
  obtain ⟨PR,hPR⟩:∃ l,padR roots nR=l:=⟨_,rfl⟩
  rw [hPR] at hM ⊢
  simp only [hPR] at CI
  obtain ⟨p0,p1,p2,p3,p4,p5,p6,p7,hp⟩:=len8 (show PR.length=8 from hM.r8)
  obtain ⟨σ0,hσ⟩:∃ σ,(⟨PR,gs⟩:MSt)=σ:=⟨_,rfl⟩
  rw [hσ] at hM ⊢
  have HSG:=hide hσ
  have HSO:=hide (show σ0.objs.length=nO by rw [← hσ]; exact hgl)
  have HM:=hide hM
  have HPV:=hide hp
  have hCI2:∀ w' (hb:Below w.heap.size w w'),Calls Tryz.prog 14 #[.agg #[.slice AO nO cO,.slice AR nR cR]] w' fun e w2 => e=.returned (.agg #[.bool p0.1,.int .i64 p0.2,.bool p1.1,.int .i64 p1.2,.bool p2.1,.int .i64 p2.2,.bool p3.1,.int .i64 p3.2,.bool p4.1,.int .i64 p4.2,.bool p5.1,.int .i64 p5.2,.bool p6.1,.int .i64 p6.2,.bool p7.1,.int .i64 p7.2]) ∧ Below w'.heap.size w' w2:=by rw [hp] at CI; exact CI.out
  replace CI:=hide hCI2
  obtain ⟨a1,a2,a3,a4⟩:=hS0.rules 0 (g:=g) (t:=25) rfl
  have HS0:=hide hS0
  have t1:decide ((100:Int) < (nd:Int))=false:=by simp; omega
  have t2:decide (100 < nd)=false:=by simp; omega
  have t3:decide (R < 1)=false:=by simp; omega
  have t4:decide (64 < R)=false:=by simp; omega
  clear hgs hO hR hgl hS0 hM hCI2 hG hcp hz hx hσ hPR hp a1 a4 hMM
  go_enter Tryz.func6,Tryz.ntmps6
  go_wp2_with fail
  refine C1.out.mono ?_
  rintro e w1 ⟨rfl,hb1⟩
  have hS2:=HS0.out.below hb1
  obtain ⟨b1,b2,b3,b4⟩:=hS2.rules 0 (g:=g) (t:=25) rfl
  have b5:=(b1 0).trans (show _=some (.slice AO nO cO) from rfl)
  have b6:=(b1 1).trans (show _=some (.slice AR nR cR) from rfl)
  have HS2:=hide hS2
  clear hb1 hS2 C1 HS0 a2 a3 b1 b4
  go_wp2_with fail
  go_cut [9] from 40 to 51 (fun s9 wx => ∃ (Be c2 gc:Nat) (As:Option Addr) (ps:List Po),s9=.pointer (some ⟨Be,0,none⟩) ∧ Hid (ps.length=nO ∧ (ps.map fun p => p.o.fields)=gs) ∧ Sep No w wx [blkI Be 80 #[.slice As nO c2,.pointer none,.slice (some ⟨gc,0,none⟩) nO nO,.int .i64 R,.int .i64 nO,.slice none 0 0],rowI 3 1 (some ⟨gc,0,none⟩) nO nO (ints (List.replicate nO 0)),allI (rowI 84 1 As nO c2 (ps.map poPtr) :: ps.map poI),blkI g 25 #[.slice AO nO cO,.slice AR nR cR],blkI (g + 1) 35 #[.slice none 0 0,.slice none 0 0,.slice none 0 0]])
  case first =>
    have HSa:=hide ((HS2.out.blkAtF 3 M (g:=w1.heap.size) rfl).drew)
    go_region_held3 (fun w' => w'.cell? ⟨g,0,none⟩=some (.slice AO nO cO) ∧ w'.cell? ⟨g,1,none⟩=some (.slice AR nR cR)) (simp (config:={ maxDischargeDepth:=8 }) [*,World.cell?_alloc_some])
      (first
        | (go_at_call 13
           first
           | (with_reducible refine (CO.out _ HSa.out.below_).mono ?_
              rintro e w4 ⟨As,c2,ps,rfl,hpl,hpf,hP4⟩
              have hS4:=objs_new HSa.out hP4
              obtain ⟨k1,k2,k3,_⟩:=hS4.rules 2 (g:=g) (t:=25) rfl
              (have k5:=(k1 0).trans (show _=some (.slice AO nO cO) from rfl))
              (have k6:=(k1 1).trans (show _=some (.slice AR nR cR) from rfl))
              have HS4:=hide (row_of_M HMM.out (by omega) 0 (hS4.perm (List.Perm.swap _ _ _)) rfl)
              have HPL:=hide hpl
              have HPF:=hide hpf
              clear hS4 hP4 k1 hpl hpf)
           | (with_reducible refine (CO.out _ HS2.out.drew.below_).mono ?_
              rintro e w4 ⟨As,c2,ps,rfl,hpl,hpf,hP4⟩
              have hS4:=(objs_new HS2.out.drew hP4)
              obtain ⟨k1,k2,k3,_⟩:=hS4.rules 1 (g:=g) (t:=25) rfl
              (have k5:=(k1 0).trans (show _=some (.slice AO nO cO) from rfl))
              (have k6:=(k1 1).trans (show _=some (.slice AR nR cR) from rfl))
              have HS4:=hide (row_of_M HMM.out (by omega) 0 (hS4.blkAtF 3 M (g:=w4.heap.size) rfl) rfl)
              have HPL:=hide hpl
              have HPF:=hide hpf
              clear hS4 hP4 k1 hpl hpf)))
    all_goals
      go_wp2_with fail
      go_meet
      case rel =>
        first
        | exact ⟨w4.heap.size,c2,w1.heap.size,As,ps,rfl,hide ⟨HPL.out,HPF.out⟩,HS4.out.blkAtF 80 #[.slice As nO c2,.pointer none,.slice (some ⟨w1.heap.size,0,none⟩) nO nO,.int .i64 R,.int .i64 nO,.slice none 0 0] (g:=w4.heap.size) rfl⟩
        | exact ⟨w4.heap.size + 1,c2,w4.heap.size,As,ps,rfl,hide ⟨HPL.out,HPF.out⟩,HS4.out.blkAtF 80 #[.slice As nO c2,.pointer none,.slice (some ⟨w4.heap.size,0,none⟩) nO nO,.int .i64 R,.int .i64 nO,.slice none 0 0] (g:=w4.heap.size + 1) (by simp)⟩
  case rest =>
    obtain ⟨Be,c2,gc,As,ps,rfl,HPP,hS7⟩:=hcut
    have HPL:=hide HPP.out.1
    have HPF:=hide HPP.out.2
    clear HPP CO b2 b3 b5 b6 HS2 HMM hmk
    obtain ⟨l1,l2,l3,_⟩:=hS7.rules 3 (g:=g) (t:=25) rfl
    have l5:=(l1 0).trans (show _=some (.slice AO nO cO) from rfl)
    have l6:=(l1 1).trans (show _=some (.slice AR nR cR) from rfl)
    have CI2:=hide (CI.out _ hS7.below_)
    have HS7:=hide hS7
    clear hS7 l1 CI
    go_wp2_with fail
    refine CI2.out.mono ?_
    rintro e w6 ⟨rfl,hb6⟩
    obtain ⟨Bm,hBm⟩:∃ x,w6.heap.size=x:=⟨_,rfl⟩
    have hS8:=(HS7.out.below hb6).blkAtF 70 #[.bool p0.1,.int .i64 p0.2,.bool p1.1,.int .i64 p1.2,.bool p2.1,.int .i64 p2.2,.bool p3.1,.int .i64 p3.2,.bool p4.1,.int .i64 p4.2,.bool p5.1,.int .i64 p5.2,.bool p6.1,.int .i64 p6.2,.bool p7.1,.int .i64 p7.2,.iface 77 (.pointer (some ⟨Be,0,none⟩))] hBm
    obtain ⟨X,hX⟩:∃ X,w6.alloc (.cells #[.bool p0.1,.int .i64 p0.2,.bool p1.1,.int .i64 p1.2,.bool p2.1,.int .i64 p2.2,.bool p3.1,.int .i64 p3.2,.bool p4.1,.int .i64 p4.2,.bool p5.1,.int .i64 p5.2,.bool p6.1,.int .i64 p6.2,.bool p7.1,.int .i64 p7.2,.iface 77 (.pointer (some ⟨Be,0,none⟩))] 70)=X:=⟨_,rfl⟩
    rw [hX] at hS8
    obtain ⟨j1,j2,j3,_⟩:=hS8.rules 1 (g:=Be) (t:=80) rfl
    obtain ⟨_,i2,i3,_⟩:=hS8.rules 0 (g:=Bm) (t:=70) rfl
    have hS9:=(hS8.set_ 1 (g:=Be) (t:=80) rfl 1 (.pointer (some ⟨Bm,0,none⟩))).perm (List.perm_append_comm (l₁:=[_]) (l₂:=[_,_,_]) |>.append_right _)
    have hS10:=cn_mk [p0,p1,p2,p3,p4,p5,p6,p7] HPL.out hS9
    have HS10:=hide hS10
    have j5:=(j1 1).trans (show _=some (.pointer none) from rfl)
    clear hS8 hS9 hS10 HS7 CI2 hb6 l2 l3 l5 l6 j1 i2
    go_upto_region 11 with fail
    obtain ⟨Y,hY⟩:∃ Y,X.setCell ⟨Be,1,none⟩ (.pointer (some ⟨Bm,0,none⟩))=Y:=⟨_,rfl⟩
    rw [hY] at HS10 ⊢
    have hS:=HS10.out
    obtain ⟨i1,i2,i3',_⟩:=hS.rules 1 (g:=Bm) (t:=70) rfl
    have e0:=(i1 0).trans (show _=some (.bool p0.1) from rfl)
    have e1:=(i1 1).trans (show _=some (.int .i64 p0.2) from rfl)
    have e2:=(i1 2).trans (show _=some (.bool p1.1) from rfl)
    have e3:=(i1 3).trans (show _=some (.int .i64 p1.2) from rfl)
    have e4:=(i1 4).trans (show _=some (.bool p2.1) from rfl)
    have e5:=(i1 5).trans (show _=some (.int .i64 p2.2) from rfl)
    have e6:=(i1 6).trans (show _=some (.bool p3.1) from rfl)
    have e7:=(i1 7).trans (show _=some (.int .i64 p3.2) from rfl)
    have e8:=(i1 8).trans (show _=some (.bool p4.1) from rfl)
    have e9:=(i1 9).trans (show _=some (.int .i64 p4.2) from rfl)
    have e10:=(i1 10).trans (show _=some (.bool p5.1) from rfl)
    have e11:=(i1 11).trans (show _=some (.int .i64 p5.2) from rfl)
    have e12:=(i1 12).trans (show _=some (.bool p6.1) from rfl)
    have e13:=(i1 13).trans (show _=some (.int .i64 p6.2) from rfl)
    have e14:=(i1 14).trans (show _=some (.bool p7.1) from rfl)
    have e15:=(i1 15).trans (show _=some (.int .i64 p7.2) from rfl)
    clear hS i1 j2 j3 j5 i3 hY hX
    go_wp2_with fail
    have HAB:=hide (show (cn1 [p0,p1,p2,p3,p4,p5,p6,p7] As c2 ps (some ⟨gc,0,none⟩) nO).a=cn0 σ0 from by rw [cn1_abs,HPF.out,← HSG.out,HPV.out])
    obtain ⟨tI,htI⟩:∃ q,cn1 [p0,p1,p2,p3,p4,p5,p6,p7] As c2 ps (some ⟨gc,0,none⟩) nO=q:=⟨_,rfl⟩
    rw [htI] at HS10 HAB
    clear htI e0 e1 e2 e3 e4 e5 e6 e7 e8 e9 e10 e11 e12 e13 e14 e15 i2 i3'
    go_loopw [68] (fun q wr => ∃ (k:Nat) (t:CnT),k ≤ 8 ∧ q=.int .i64 k ∧ Hid (t.a=upsC (σ0.regs.take k) (cn0 σ0)) ∧ Sep No w wr [allI (cnR Be Bm R t),blkI Bm 70 #[.bool p0.1,.int .i64 p0.2,.bool p1.1,.int .i64 p1.2,.bool p2.1,.int .i64 p2.2,.bool p3.1,.int .i64 p3.2,.bool p4.1,.int .i64 p4.2,.bool p5.1,.int .i64 p5.2,.bool p6.1,.int .i64 p6.2,.bool p7.1,.int .i64 p7.2,.iface 77 (.pointer (some ⟨Be,0,none⟩))],blkI g 25 #[.slice AO nO cO,.slice AR nR cR],blkI (g + 1) 35 #[.slice none 0 0,.slice none 0 0,.slice none 0 0]]) (fun q _ => 8 - (intOf q).toNat)
    case atStart => exact ⟨0,tI,by omega,rfl,HAB.out,HS10.out⟩
    case round =>
      clear HS10 HAB
      obtain ⟨k,t,hk,rfl,HA,hS⟩:=hrel
      by_cases hlt:k < 8
      · have hrl:σ0.regs=[p0,p1,p2,p3,p4,p5,p6,p7]:=by rw [← HSG.out]; exact HPV.out
        have hU:=upOk_regs HM.out k
        rw [← HA.out] at hU
        have hkr:k < σ0.regs.length:=by rw [HM.out.r8]; exact hlt
        have hnx:=upsC_take σ0.regs (cn0 σ0) hkr
        rw [← HA.out] at hnx
        have hvr:=HM.out.vr _ (List.getElem_mem hkr)
        have hat:[p0,p1,p2,p3,p4,p5,p6,p7][k]?=some σ0.regs[k]:=by rw [← hrl]; exact List.getElem?_eq_getElem hkr
        obtain ⟨v,hv⟩:∃ v,σ0.regs[k]=v:=⟨_,rfl⟩
        rw [hv] at hnx hvr hat
        have ix:=idx_reg p0 p1 p2 p3 p4 p5 p6 p7 k v hat
        have C:=hide (cup_at (hS.alloc (.cells #[.bool v.1,.int .i64 v.2] 63)) hU (by omega) (by have:=HSO.out; omega) v hvr)
        have HNX:=hide hnx
        have HS:=hide hS
        clear hrl hU hnx hvr hat hS HA hv hkr
        go_wp2_with fail
        refine C.out.mono ?_
        rintro e w2 ⟨⟨u,rfl⟩,hS2⟩
        have HS2:=hide hS2
        clear hS2 C HS
        go_wp2_with fail
        go_roundw
        case rel => exact ⟨k + 1,_,by omega,by go_num,(by rw [HNX.out]; exact hide (t.cn_a _)),HS2.out⟩
        case measure => simp [intOf]; omega
      · obtain rfl:k=8:=by omega
        have hrl8:σ0.regs.take 8=σ0.regs:=List.take_of_length_le (by rw [HM.out.r8]; exact Nat.le_refl _)
        have HA0:Hid (t.a=upsO (σ0.objs.take 0) (upsC σ0.regs (cn0 σ0))):=hide (by rw [HA.out,hrl8]; rfl)
        obtain ⟨l1,l2,l3,_⟩:=hS.rules 2 (g:=g) (t:=25) rfl
        have l5:=(l1 0).trans (show _=some (.slice AO nO cO) from rfl)
        have HS:=hide hS
        have HON:=hide (show ∀ k (hk:k < nO),∃ o,obs[k]?=some o ∧ o ∈ obs ∧ obA σ0.objs (k:Int)=o.fields from fun k hk => by
          have hl:=(HOB.out w (Below.refl _ _)).len
          have hkl:k < obs.length:=by omega
          refine ⟨obs[k],List.getElem?_eq_getElem hkl,List.getElem_mem hkl,?_⟩
          rw [← HSG.out,← HGS.out]
          unfold obA
          rw [Int.toNat_natCast,List.getD_eq_getElem?_getD]
          simp [List.getElem?_eq_getElem hkl])
        clear hS l1 hrl8 HA
        go_wp2_with fail
        go_loopw [78] (fun q wr => ∃ (k:Nat) (t:CnT),k ≤ nO ∧ q=.int .i64 k ∧ Hid (t.a=upsO (σ0.objs.take k) (upsC σ0.regs (cn0 σ0))) ∧ Sep No w wr [allI (cnR Be Bm R t),blkI Bm 70 #[.bool p0.1,.int .i64 p0.2,.bool p1.1,.int .i64 p1.2,.bool p2.1,.int .i64 p2.2,.bool p3.1,.int .i64 p3.2,.bool p4.1,.int .i64 p4.2,.bool p5.1,.int .i64 p5.2,.bool p6.1,.int .i64 p6.2,.bool p7.1,.int .i64 p7.2,.iface 77 (.pointer (some ⟨Be,0,none⟩))],blkI g 25 #[.slice AO nO cO,.slice AR nR cR],blkI (g + 1) 35 #[.slice none 0 0,.slice none 0 0,.slice none 0 0]]) (fun q _ => nO - (intOf q).toNat)
        case atStart => exact ⟨0,t,by omega,rfl,HA0.out,HS.out⟩
        case round =>
          clear HS HA0 l2 l3 l5
          obtain ⟨k,t,hk,rfl,HA,hS⟩:=hrel
          by_cases hlt:k < nO
          · obtain ⟨o,ho1,ho2,ho3⟩:=HON.out k hlt
            have hO':=HOB.out wr hS.below_
            obtain ⟨ad,hA,_,had,hc⟩:=hO'.row.at_ hlt
            have e1:=hc o.val (by rw [List.getElem?_map,ho1]; rfl)
            have hfl:=hO'.flen ho2
            have hf4:=HFL.out o ho2
            unfold Ob.val at e1
            have HEA:=hide (fun (X:World) (hb:Below w.heap.size w X) => (HOB.out X hb).each o ho2)
            have hsk:k < σ0.objs.length:=by rw [HSO.out]; exact hlt
            have hnx:=upsO_take σ0.objs (upsC σ0.regs (cn0 σ0)) hsk
            have hUU:=upOk_objs HM.out (by rw [HSO.out]; exact hnO) k
            have hvv:=(HM.out.ob (k:Int)).1
            rw [ho3] at hnx hUU hvv
            obtain ⟨oA,on,oc,fs⟩:=o
            dsimp only at e1 hfl hf4 HEA hnx hUU hvv
            have HFN:=hide hfl
            have HNX:=hide hnx
            have HUU:=hide hUU
            have HVV:=hide hvv
            have HS:=hide (hS.alloc (.cells #[.slice oA on oc] 83))
            have HA0:Hid (t.a=upsC (fs.take 0) (upsO (σ0.objs.take k) (upsC σ0.regs (cn0 σ0)))):=hide (by rw [HA.out]; rfl)
            subst hA
            clear ho1 ho2 ho3 hO' hc hfl hsk hnx hUU hvv hS HA
            go_wp2_with fail
            go_loopw [85] (fun q wr => ∃ (j:Nat) (t:CnT),j ≤ on ∧ q=.int .i64 j ∧ Hid (t.a=upsC (fs.take j) (upsO (σ0.objs.take k) (upsC σ0.regs (cn0 σ0)))) ∧ Sep No w wr [allI (cnR Be Bm R t),blkI Bm 70 #[.bool p0.1,.int .i64 p0.2,.bool p1.1,.int .i64 p1.2,.bool p2.1,.int .i64 p2.2,.bool p3.1,.int .i64 p3.2,.bool p4.1,.int .i64 p4.2,.bool p5.1,.int .i64 p5.2,.bool p6.1,.int .i64 p6.2,.bool p7.1,.int .i64 p7.2,.iface 77 (.pointer (some ⟨Be,0,none⟩))],blkI g 25 #[.slice (some ad) nO cO,.slice AR nR cR],blkI (g + 1) 35 #[.slice none 0 0,.slice none 0 0,.slice none 0 0]]) (fun q _ => on - (intOf q).toNat)
            case atStart => exact ⟨0,t,by omega,rfl,HA0.out,HS.out⟩
            case round =>
              clear HS HA0 e1
              obtain ⟨j,t,hj,rfl,HA,hS⟩:=hrel
              by_cases hltj:j < on
              · have hjl:j < fs.length:=by rw [HFN.out]; exact hltj
                obtain ⟨ad3,hA3,_,had3,hc3,hd3⟩:=(HEA.out wr hS.below_).atN hltj
                obtain ⟨v0,v1⟩:=vals_at fs j hjl
                have e0:=hc3 _ v0
                have e2:=hd3 0 _ v1
                have hvr:=HVV.out _ (List.getElem_mem hjl)
                have hnx:=upsC_take fs (upsO (σ0.objs.take k) (upsC σ0.regs (cn0 σ0))) hjl
                have hU:=HUU.out j
                rw [← HA.out] at hU hnx
                obtain ⟨v,hv⟩:∃ v,fs[j]=v:=⟨_,rfl⟩
                rw [hv] at e0 e2 hvr hnx
                have C:=hide (cup_at (hS.alloc (.cells #[.bool v.1,.int .i64 v.2] 63)) hU (by omega) (by have:=HSO.out; omega) v hvr)
                have HNJ:=hide hnx
                have HS:=hide hS
                subst hA3
                clear hc3 hd3 v0 v1 hvr hnx hU hv had3 hjl hS HA
                go_wp2_with fail
                refine C.out.mono ?_
                rintro e w2 ⟨⟨u,rfl⟩,hS2⟩
                have HS2:=hide hS2
                clear hS2 C HS
                go_wp2_with fail
                go_roundw
                case rel =>
                  refine ⟨_,_,_,_,_,_,_,_,_,?_,rfl⟩
                  exact ⟨j + 1,_,by omega,by go_num,(by rw [HNJ.out]; exact hide (t.cn_a _)),HS2.out⟩
                case measure => simp [intOf]; omega
              · obtain rfl:j=on:=by omega
                have HA1:=hide (show t.a=upsO (σ0.objs.take (k + 1)) (upsC σ0.regs (cn0 σ0)) from by
                  rw [HNX.out,HA.out,List.take_of_length_le (by rw [HFN.out]; exact Nat.le_refl _)])
                have HS:=hide hS
                clear hS HA
                go_wp2_with fail
                go_roundw
                case rel => exact ⟨k + 1,t,by omega,by go_num,HA1,HS.out⟩
                case measure => simp [intOf]; omega
          · obtain rfl:k=nO:=by omega
            have HA1:=hide (show t.a=cnBeg σ0 0 from by
              rw [HA.out,List.take_of_length_le (by rw [HSO.out]; exact Nat.le_refl _)]
              rfl)
            obtain ⟨l1,l2,l3,_⟩:=hS.rules 2 (g:=g) (t:=25) rfl
            have l5:=(l1 0).trans (show _=some (.slice AO k cO) from rfl)
            have HS:=hide hS
            clear hS HA l1 HON HOB HFL HGS
            go_wp2_with fail
            go_loopw [97] (fun q wr => ∃ (j:Nat) (t:CnT),j ≤ k ∧ q=.int .i64 j ∧ Hid (t.a=cnBeg σ0 j) ∧ Sep No w wr [allI (cnR Be Bm R t),blkI Bm 70 #[.bool p0.1,.int .i64 p0.2,.bool p1.1,.int .i64 p1.2,.bool p2.1,.int .i64 p2.2,.bool p3.1,.int .i64 p3.2,.bool p4.1,.int .i64 p4.2,.bool p5.1,.int .i64 p5.2,.bool p6.1,.int .i64 p6.2,.bool p7.1,.int .i64 p7.2,.iface 77 (.pointer (some ⟨Be,0,none⟩))],blkI g 25 #[.slice AO k cO,.slice AR nR cR],blkI (g + 1) 35 #[.slice none 0 0,.slice none 0 0,.slice none 0 0]]) (fun q _ => k - (intOf q).toNat)
            case atStart => exact ⟨0,t,by omega,rfl,HA1.out,HS.out⟩
            case round =>
              clear HS HA1 l2 l3 l5
              obtain ⟨j,t,hj,rfl,HA,hS⟩:=hrel
              obtain ⟨-,hok,hon,hrg⟩:=cnBeg_ok HM.out j (by rw [HSO.out]; exact hj)
              rw [← HA.out] at hok hon hrg
              have hson:=HSO.out
              have hpl:t.oj.ps.length=k:=by rw [← t.n,hon]; exact hson
              have hcl:t.cnt.length=k:=by have h1:=hok.inv.cl; have h2:t.a.cnt.length=t.cnt.length:=rfl; omega
              by_cases hlt:j < k
              · have hS':=cn_in hS
                obtain ⟨c0,-,c2,-,-,-,c6,c7⟩:=cn_cells (pre:=[_]) hS'
                obtain ⟨gc2,hAc,d0,d1,d2,d3⟩:=cn_int (pre:=[_]) hS' (z:=j) (by omega)
                obtain ⟨po,hpo⟩:∃ po,t.oj.ps[j]?=some po:=⟨_,List.getElem?_eq_getElem (by omega)⟩
                obtain ⟨ap,hAp,_,hap,hcp2⟩:=(Rd.of_own (D:=fun _ => True) (show wr.ownsRow 0 84 1 (.slice t.oj.As t.oj.ps.length t.oj.c) t.oj.ps.length (t.oj.ps.map ptrV) from hS'.get 4 rfl) (fun _ _ => trivial)).at_ (show j < t.oj.ps.length by omega)
                have f0:=hcp2 (ptrV po) (by rw [List.getElem?_map,hpo]; rfl)
                rw [hAc,hcl] at c2
                have c1:wr.cell? ⟨Be,0,none⟩=some (.slice (some ap) k t.oj.c):=by rw [← hpl,← hAp]; exact c0
                have hbs:=cnBeg_succ σ0 j
                rw [← HA.out] at hbs
                obtain ⟨y,hy⟩:∃ y,t.cnt.getD j 0=y:=⟨_,rfl⟩
                have CD:=hide (fun (p:Po) (hp:t.oj.ps[j]?=some (some p)) (hy:t.cnt.getD j 0=0) (X:World) (hb:Sep No w X [allI (cnR Be Bm R t),blkI Bm 70 #[.bool p0.1,.int .i64 p0.2,.bool p1.1,.int .i64 p1.2,.bool p2.1,.int .i64 p2.2,.bool p3.1,.int .i64 p3.2,.bool p4.1,.int .i64 p4.2,.bool p5.1,.int .i64 p5.2,.bool p6.1,.int .i64 p6.2,.bool p7.1,.int .i64 p7.2,.iface 77 (.pointer (some ⟨Be,0,none⟩))],blkI g 25 #[.slice AO k cO,.slice AR nR cR],blkI (g + 1) 35 #[.slice none 0 0,.slice none 0 0,.slice none 0 0]]) => cdrop_at hb hok (by omega) hp hy)
                rw [hy] at d0
                have HBS:=hide hbs
                have HPO:=hide hpo
                have HY:=hide hy
                have HS:=hide hS
                have q1:decide ((j:Int) < 0)=false:=by simp
                have q2:decide ((k:Int) ≤ (j:Int))=false:=by simp; omega
                obtain ⟨oc2,hoc2⟩:∃ x,t.oj.c=x:=⟨_,rfl⟩
                rw [hoc2] at c1
                clear hok hon hrg hson hpl hcl hS' hAc hpo hAp hcp2 c0 hbs hy hS hoc2 HA
                by_cases hy0:y=0
                · subst hy0
                  cases po with
                  | none =>
                    have HNX:=hide (show t.a=cnBeg σ0 (j + 1) from by
                      rw [HBS.out]
                      unfold begC
                      rw [if_neg]
                      rintro ⟨_,h⟩
                      rw [cnt_none HPO.out] at h
                      cases h)
                    replace f0:wr.cell? (ap.add j)=some (.pointer none):=f0
                    go_wp2_with fail
                    go_roundw
                    case rel => exact ⟨j + 1,t,by omega,by go_num,HNX,by first | exact HS.out | exact HS.out.drew | exact HS.out.drewN _⟩
                    case measure => simp [intOf]; omega
                  | some p =>
                    replace f0:wr.cell? (ap.add j)=some (.pointer (some ⟨p.B,0,none⟩)):=f0
                    have C:=hide (CD.out p HPO.out HY.out)
                    have HNX:=hide (show cnBeg σ0 (j + 1)=t.a.drop j from by
                      rw [HBS.out]
                      unfold begC
                      rw [if_pos ⟨HY.out,by rw [cnt_some HPO.out]; rfl⟩])
                    clear CD HBS
                    go_wp2_with fail
                    refine (C.out _ (by first | exact HS.out | exact HS.out.drew | exact HS.out.drewN _)).mono ?_
                    rintro e w2 ⟨⟨u,rfl⟩,t',ht',hS2⟩
                    have HS2:=hide hS2
                    have HT2:=hide ht'
                    clear hS2 ht' C HS
                    go_wp2_with fail
                    go_roundw
                    case rel =>
                      repeat apply Exists.intro
                      refine ⟨?_,rfl⟩
                      exact ⟨j + 1,t',by omega,by go_num,(by rw [HNX.out]; exact HT2),HS2.out⟩
                    case measure => simp [intOf]; omega
                · have HNX:=hide (show t.a=cnBeg σ0 (j + 1) from by
                    rw [HBS.out]
                    unfold begC
                    rw [if_neg]
                    rintro ⟨h,_⟩
                    exact hy0 (HY.out.symm.trans h))
                  have y1:(y == 0)=false:=by simp [hy0]
                  clear CD HBS hy0 f0
                  go_wp2_with fail
                  go_roundw
                  case rel => exact ⟨j + 1,t,by omega,by go_num,HNX,by first | exact HS.out | exact HS.out.drew | exact HS.out.drewN _⟩
                  case measure => simp [intOf]; omega
              · obtain rfl:j=k:=by omega
                have hreg:t.regs=[p0,p1,p2,p3,p4,p5,p6,p7]:=by
                  have h1:t.a.regs=t.regs:=rfl
                  rw [← h1,hrg,← HSG.out]
                  exact HPV.out
                have hS5:Sep No w wr ((cnKm R Bm Be).item t :: [blkI g 25 #[.slice AO j cO,.slice AR nR cR],blkI (g + 1) 35 #[.slice none 0 0,.slice none 0 0,.slice none 0 0]]):=by
                  have h2:=(Sep.split hS).perm (List.perm_middle (l₁:=cnR Be Bm R t))
                  refine Sep.join (l:=cnM Be Bm t :: cnR Be Bm R t) ?_
                  have e:cnM Be Bm t=blkI Bm 70 (mcCells [p0,p1,p2,p3,p4,p5,p6,p7] (.iface 77 (.pointer (some ⟨Be,0,none⟩)))):=by unfold cnM; rw [hreg]
                  rw [e]
                  exact h2
                have HCR:=hide (fun q (hq:q ≤ ds.length) => cn_run R ds (cnBeg_ok HM.out j (by rw [HSO.out]; exact Nat.le_refl _)).1 (cnBeg_ok HM.out j (by rw [HSO.out]; exact Nat.le_refl _)).2.1 q hq)
                have HBN:=hide (show (cnBeg σ0 j).objs.length=j from by rw [← HA.out,hon]; exact hson)
                obtain ⟨gO,hgO⟩:∃ x,wr.heap.size=x:=⟨_,rfl⟩
                have hS6:=(hS5.nilRow0 74 3).blkAtF 35 #[.slice none 0 0,.slice none 0 0,.slice none 0 0] hgO
                have HS6:=hide (hS6.perm (l:=(cnKm R Bm Be).item t :: [blkI gO 35 #[.slice none 0 0,.slice none 0 0,.slice none 0 0],rowI 74 3 none 0 0 [],blkI g 25 #[.slice AO j cO,.slice AR nR cR],blkI (g + 1) 35 #[.slice none 0 0,.slice none 0 0,.slice none 0 0]]) (by
                  exact (List.perm_append_comm (l₁:=[_,_]) (l₂:=[_])).append_right _))
                have HA0:=hide (show t.a=(cnRun R (ds.take 0) (cnBeg σ0 j)).2 from by rw [List.take_zero]; exact HA.out)
                clear hok hon hrg hson hpl hcl hreg hS5 hS hS6 HA HM
                go_wp2_with fail
                go_loopw [124] (fun q wr => ∃ (k:Nat) (A:Option Addr) (c:Nat) (t:CnT),k ≤ nd ∧ q=.int .i64 k ∧ Hid (t.a=(cnRun R (ds.take k) (cnBeg σ0 j)).2) ∧
                  Sep No w wr ((cnKm R Bm Be).item t :: [blkI gO 35 #[.slice A k c,.slice none 0 0,.slice none 0 0],rowI 74 3 A k c (outsV (cnRun R (ds.take k) (cnBeg σ0 j)).1),blkI g 25 #[.slice AO j cO,.slice AR nR cR],blkI (g + 1) 35 #[.slice none 0 0,.slice none 0 0,.slice none 0 0]])) (fun q _ => nd - (intOf q).toNat)
                case atStart => exact ⟨0,none,0,t,by omega,rfl,HA0.out,HS6.out⟩
                case round =>
                  clear HS6 HA0
                  obtain ⟨k,A,c,t,hk,rfl,HA,hS⟩:=hrel
                  by_cases hlt:k < nd
                  · have hkl:k < ds.length:=by rw [HDL.out]; exact hlt
                    obtain ⟨-,-,ok0,on,-⟩:=HCR.out k (by omega)
                    rw [← HA.out,HBN.out] at on
                    rw [← HA.out] at ok0
                    obtain ⟨v0,v1,v2,v3,v4⟩:=dosV_at ds k hkl
                    obtain ⟨ad,hA,_,had,hc,hd⟩:=(hD.below hS.below_).atN hlt
                    have e0:=hc _ v0
                    have e1:=hd 0 _ v1
                    have e2:=hd 1 _ v2
                    have e3:=hd 2 _ v3
                    have e4:=hd 3 _ v4
                    have hrs:=cnRun_at R ds (cnBeg σ0 j) k hkl
                    rw [← HA.out] at hrs
                    obtain ⟨d,hd'⟩:∃ d,ds[k]=d:=⟨_,rfl⟩
                    rw [hd'] at e0 e1 e2 e3 e4 hrs
                    obtain ⟨gd,hgd⟩:∃ x,wr.heap.size=x:=⟨_,rfl⟩
                    have hS2:=hS.blkAt 72 d.cells hgd
                    have CD:=cndo_any hS2.drew ok0 (by omega) d
                    obtain ⟨x1,x2,x3,-⟩:=hS2.rules 1 (g:=gO) (t:=35) rfl
                    have x5:=(x1 0).trans (show _=some (.slice A k c) from rfl)
                    obtain ⟨z1,z2,z3,-⟩:=hS2.rules 5 (g:=gd) (t:=72) rfl
                    obtain ⟨dk,dto,dfr,dat,dn⟩:=d
                    unfold DoV.cells at CD hS2 x2 x3 x5 z1 z2 z3
                    dsimp only at CD hS2 e0 e1 e2 e3 e4 x2 x3 x5 z1 z2 z3
                    have z5:=(z1 0).trans (show _=some (.int .i64 dk) from rfl)
                    have z6:=(z1 1).trans (show _=some (.int .i64 dto) from rfl)
                    have z7:=(z1 2).trans (show _=some (.int .i64 dfr) from rfl)
                    have z8:=(z1 3).trans (show _=some (.int .i64 dat) from rfl)
                    have z9:=(z1 4).trans (show _=some (.int .i64 dn) from rfl)
                    have HRS:=hide hrs
                    have HCD:=hide CD
                    have HS2:=hide hS2
                    have hne:gO ≠ gd:=by have:=hS.hi 1 rfl gO rfl; omega
                    have hne2:gd ≠ gO:=fun e => hne e.symm
                    subst hA
                    clear hc hd v0 v1 v2 v3 v4 hrs hd' hS2 hS ok0 on CD x1 z1 HA
                    try clear HCR
                    try clear HBN
                    try clear HSG
                    try clear HSO
                    try clear HPV
                    try clear HPL
                    try clear HPF
                    try clear C1
                    go_wp2_with fail
                    go_region_law (first
                      | (try go_simp
                         go_at_call 15
                         (with_reducible refine HCD.out.mono ?_)
                         rintro e w3 ⟨oc,orf,on,t',rfl,hcw,hS3⟩
                         obtain ⟨y1,y2,y3,-⟩:=hS3.rules 1 (g:=gO) (t:=35) rfl
                         (have y5:=(y1 0).trans (show _=some (.slice A k c) from rfl))
                         (have HS3:=hide hS3)
                         (have HCW:=hide hcw)
                         (have y6:=(World.cell?_alloc_lt w3 (.cells #[.int .i64 oc,.bool orf,.int .i64 on] 74) _ y3).trans y5)
                         clear hS3 hcw y1)
                      | (refine step_app1 (cs:=#[.int .i64 oc,.bool orf,.int .i64 on]) rfl (.tmp 129) (.tmp 133) 27 rfl (F:=No) (W:=w) sOut (items:=_ :: _ :: _ :: _ :: _ :: _) HS3.out 2 (n:=k) rfl rfl rfl (by simp) rfl rfl (by omega) ?_
                         intro A7 c7 w7 hS7 hC7
                         obtain ⟨u1,u2,u3,-⟩:=hS7.rules 1 (g:=gO) (t:=35) rfl
                         (have u5:=(u1 0).trans (show _=some (.slice A k c) from rfl))
                         clear u1 hC7))
                    all_goals
                      have HS8:=hide ((hS7.set_ 1 (g:=gO) (t:=35) rfl 0 (.slice A7 (k + 1) c7)).sub (l:=[_,_,_,_,_]) (List.sublist_append_left [_,_,_,_,_] [_]))
                      clear hS7
                      go_wp2_with fail
                      have hrs:=HRS.out
                      rw [HCW.out] at hrs
                      have HRS2:=hide hrs
                      clear hrs
                      go_roundw
                      case rel => exact ⟨k + 1,by omega,by go_num,A7,c7,t',by rw [HRS2.out]; exact hide rfl,by
                        rw [HRS2.out]
                        dsimp only
                        rw [outsV_app,outsV_one]
                        exact HS8.out⟩
                      case measure => simp [intOf]; omega
                  · obtain rfl:k=nd:=by omega
                    obtain ⟨-,-,ok0,on,-⟩:=HCR.out k (by rw [HDL.out]; exact Nat.le_refl _)
                    rw [← HA.out,HBN.out] at on
                    rw [← HA.out] at ok0
                    rw [List.take_of_length_le (by rw [HDL.out]; exact Nat.le_refl _)] at HA hS
                    have hpn:t.oj.ps.length ≤ 1000:=by rw [← t.n]; omega
                    have hcl:t.cnt.length=t.oj.ps.length:=by
                      have h1:=ok0.inv.cl
                      have h2:t.a.cnt.length=t.cnt.length:=rfl
                      rw [← h2,h1,t.n]
                    obtain ⟨b0,-,b2⟩:=nkm_cells (hS.get 0 rfl)
                    have CT:=hide (oThere_any wr t.oj.As t.oj.ps.length t.oj.c t.oj.ps hpn (nkm_rd (hS.get 0 rfl)))
                    have HTN:=hide (fun x (h:x ∈ thereL t.oj.ps) => thereL_nat h)
                    have HTL:=hide (thereK_len t.oj.ps t.oj.ps.length)
                    obtain ⟨L,hL⟩:∃ l,thereL t.oj.ps=l:=⟨_,rfl⟩
                    have hm1:L.length ≤ 1000:=by
                      have h1:=HTL.out
                      have h2:L.length=(thereK t.oj.ps t.oj.ps.length).length:=by rw [← hL]; rfl
                      omega
                    have HTH:=hide (show cnThere (cnRun R ds (cnBeg σ0 j)).2=L.map fun x => (x,t.cnt.getD x.toNat 0) from by
                      rw [← HA.out]
                      unfold cnThere
                      rw [show thereL t.a.objs=thereL t.oj.ps from thereL_abs t.oj,hL]
                      rfl)
                    have HGO:=hide (show (cnRun R ds (cnBeg σ0 j)).2.gl=t.gl from by rw [← HA.out]; rfl)
                    rw [hL] at CT HTN
                    have HS:=hide hS
                    obtain ⟨N,hN⟩:∃ n,t.oj.ps.length=n:=⟨_,rfl⟩
                    rw [hN] at hpn hcl b0 CT HTN
                    have HCL:=hide hcl
                    clear hS ok0 on HTL hL HA hN hcl HCR HBN HSO HSG HPV HPL HPF
                    go_wp2_with fail
                    refine CT.out.mono ?_
                    rintro e w1 ⟨AL,cL,rfl,hPL⟩
                    obtain ⟨m,hm⟩:∃ m,L.length=m:=⟨_,rfl⟩
                    rw [hm] at hPL hm1 ⊢
                    have HM2:=hide hm
                    have HS1:=hide ((row_new HS.out hPL).nilRow0 88 2)
                    clear hPL HS CT hm b0 b2
                    go_wp2_with fail
                    go_loopw [143] (fun q wr => ∃ (i:Nat) (A2:Option Addr) (c2:Nat),i ≤ m ∧ q=.int .i64 i ∧
                      Sep No w wr [rowI 88 2 A2 i c2 (countsV ((L.take i).map fun x => (x,t.cnt.getD x.toNat 0))),rowI 3 1 AL m cL (ints L),(cnKm R Bm Be).item t,blkI gO 35 #[.slice A k c,.slice A2 i c2,.slice none 0 0],rowI 74 3 A k c (outsV (cnRun R ds (cnBeg σ0 j)).1),blkI g 25 #[.slice AO j cO,.slice AR nR cR],blkI (g + 1) 35 #[.slice none 0 0,.slice none 0 0,.slice none 0 0]]) (fun q _ => m - (intOf q).toNat)
                    case atStart => exact ⟨0,none,0,by omega,rfl,HS1.out⟩
                    case round =>
                      clear HS1
                      obtain ⟨i,A2,c2,hi,rfl,hS⟩:=hrel
                      by_cases hlti:i < m
                      · have hkl:i < L.length:=by rw [HM2.out]; exact hlti
                        obtain ⟨ad,hA,_,had,hc⟩:=(hS.rd_ 1 rfl).at_ hlti
                        have e0:=hc (.int .i64 L[i]) (by simp [ints,List.getElem?_eq_getElem hkl])
                        have hT:=List.take_succ_eq_append_getElem hkl
                        have hmem:L[i] ∈ L:=List.getElem_mem hkl
                        obtain ⟨x,hx⟩:∃ x,L[i]=x:=⟨_,rfl⟩
                        rw [hx] at e0 hT hmem
                        obtain ⟨z,rfl,hz⟩:=HTN.out x hmem
                        obtain ⟨gc,hAc⟩:=nkm_int (hS.get 2 rfl) (z:=z) (by rw [HCL.out]; exact hz)
                        obtain ⟨d0,d1,d3,d4⟩:=nkm_at (hS.get 2 rfl) (z:=z) (by rw [HCL.out]; exact hz) hAc
                        rw [HCL.out] at d0
                        obtain ⟨y,hy⟩:∃ y,t.cnt.getD z 0=y:=⟨_,rfl⟩
                        rw [hy] at d1
                        have HTT:=hide (show (L.take (i + 1)).map (fun x => (x,t.cnt.getD x.toNat 0))=(L.take i).map (fun x => (x,t.cnt.getD x.toNat 0)) ++ [((z:Int),y)] from by
                          rw [hT,List.map_append,List.map_cons,List.map_nil,Int.toNat_natCast,hy])
                        obtain ⟨u1,u2,u3,_⟩:=hS.rules 3 (g:=gO) (t:=35) rfl
                        have u5:=(u1 1).trans (show _=some (.slice A2 i c2) from rfl)
                        have t3:decide ((z:Int) < 0)=false:=by simp
                        have t4:decide ((N:Int) ≤ (z:Int))=false:=by simp; omega
                        have t5:(0:Int) ≤ (z:Int):=by omega
                        have t6:(z:Int) < (N:Int):=by omega
                        have HS:=hide hS
                        have n1:gO ≠ Be:=fun e => hS.other (a:=3) (b:=2) rfl rfl (by omega) gO rfl ⟨blkI Be 80 (cnC Bm R (t.a.num:Int) t),nkm_mem (by simp [cnR,cnRN]),e⟩
                        have n2:gO ≠ gc:=fun e => hS.other (a:=3) (b:=2) rfl rfl (by omega) gO rfl ⟨rowI 3 1 t.Ac t.cnt.length t.cc (ints t.cnt),nkm_mem (by simp [cnR,cnRN]),by show (Value.slice t.Ac t.cnt.length t.cc).ownBlock=some gO; rw [hAc,e]; rfl⟩
                        have n3:Be ≠ gO:=fun e => n1 e.symm
                        have n4:gc ≠ gO:=fun e => n2 e.symm
                        obtain ⟨scc,hscc⟩:∃ c,t.cc=c:=⟨_,rfl⟩
                        rw [hscc] at d0
                        have HCO:=hide (fun (X:World) (h:((cnKm R Bm Be).item t).P X) => nkm_at h (z:=z) (by rw [HCL.out]; exact hz) hAc)
                        simp only [HCL.out,hy,hscc] at HCO
                        subst hA
                        clear hc hT hmem hx hy hS u1 hAc hscc
                        go_wp2_with fail
                        try clear hD
                        try clear hnd
                        try clear hnO
                        try clear hnR
                        try clear HDL
                        try clear HTH
                        try clear HGO
                        try clear HTN
                        try clear HCL
                        try clear HM2
                        try clear t1
                        try clear t2
                        try clear hg
                        try clear hpn
                        try clear hk
                        try clear had
                        try clear hkl
                        try clear e0
                        go_region_law (first
                          | (refine step_app1d (cs:=#[.int .i64 z,.int .i64 y]) rfl (.tmp 148) (.tmp 158) 32 rfl (F:=No) (W:=w) sCount (items:=_ :: _ :: _ :: _ :: _ :: _ :: _) HS.out 0 (n:=i) rfl rfl rfl (by simp) rfl rfl (by omega) ?_
                             intro A7 c7 w7 hS7 hC7
                             obtain ⟨z1,z2,z3,z4⟩:=hS7.rules 3 (g:=gO) (t:=35) rfl
                             (have z5:=(z1 1).trans (show _=some (.slice A2 i c2) from rfl))
                             obtain ⟨o1,o2,o3,o4⟩:=HCO.out w7 (hS7.get 2 rfl)
                             clear z1 z4))
                        all_goals
                          have HS8:=hide (hS7.set_ 3 (g:=gO) (t:=35) rfl 1 (.slice A7 (i + 1) c7))
                          clear hS7 hC7
                          go_wp2_with fail
                          go_roundw
                          case rel => exact ⟨i + 1,A7,c7,by omega,by go_num,by
                            rw [HTT.out,countsV_app]
                            exact HS8.out⟩
                          case measure => simp [intOf]; omega
                      · obtain rfl:i=m:=by omega
                        rw [List.take_of_length_le (by rw [HM2.out]; exact Nat.le_refl _),← HTH.out] at hS
                        obtain ⟨u1,u2,u3,_⟩:=hS.rules 3 (g:=gO) (t:=35) rfl
                        have u5:=(u1 0).trans (show _=some (.slice A k c) from rfl)
                        have u6:=(u1 1).trans (show _=some (.slice A2 i c2) from rfl)
                        have u7:=(u1 2).trans (show _=some (.slice none 0 0) from rfl)
                        obtain ⟨-,b5,b3⟩:=nkm_cells (hS.get 2 rfl)
                        obtain ⟨x1,x2,x3,_⟩:=hS.rules 6 (g:=g + 1) (t:=35) rfl
                        have n1:gO ≠ Be:=fun e => hS.other (a:=3) (b:=2) rfl rfl (by omega) gO rfl ⟨blkI Be 80 (cnC Bm R (t.a.num:Int) t),nkm_mem (by simp [cnR,cnRN]),e⟩
                        have n2:gO ≠ g + 1:=fun e => hS.other (a:=3) (b:=6) rfl rfl (by omega) gO rfl e
                        have n3:Be ≠ gO:=fun e => n1 e.symm
                        have n4:g + 1 ≠ gO:=fun e => n2 e.symm
                        have HF1:=hide ((hS.set_ 3 (g:=gO) (t:=35) rfl 2 (.slice t.Ag t.gl.length t.cg)).set_ 6 (g:=g + 1) (t:=35) rfl 0 (.slice A k c))
                        obtain ⟨gl,hgl⟩:∃ x,t.gl.length=x:=⟨_,rfl⟩
                        have HGL:=hide hgl
                        rw [hgl] at b5
                        clear hS u1 hgl
                        go_wp2_with fail
                        have hF:=(HF1.out.set_ 6 (g:=g + 1) (t:=35) rfl 1 (.slice A2 i c2)).set_ 6 (g:=g + 1) (t:=35) rfl 2 (.slice t.Ag t.gl.length t.cg)
                        rw [HGL.out] at hF
                        refine bodyPost_ret (v:=.tuple #[.agg #[.slice A k c,.slice A2 i c2,.slice t.Ag gl t.cg],.int .i64 0]) (by simp [results,Tryz.results6,go_sem,x1]) rfl ⟨A,c,A2,i,c2,t.Ag,gl,t.cg,rfl,hF.below_,hF.rd 4 rfl,hF.rd 0 rfl,?_⟩
                        rw [HGO.out]
                        have hrow:=nkm_gl (hF.get 2 rfl)
                        rw [HGL.out] at hrow
                        exact Rd.of_own hrow (fun g' hg' => (hF.lo 2 rfl g' ⟨rowI 3 1 t.Ag t.gl.length t.cg (ints t.gl),nkm_mem (by simp [cnR,cnRN]),by show (Value.slice t.Ag t.gl.length t.cg).ownBlock=some g'; rw [hg']; rfl⟩).resolve_left (fun h => h))
end Go.Proofs.YtjphckfbbiehdaaGreat
