/- Part of a proof. -/
import Derived.Test.YtjphckfbbiehdaaGreatSTopAll36
import Derived.Deep.DeepCutAuto
set_option linter.unusedSimpArgs false
set_option linter.unusedVariables false
namespace Go.Proofs.YtjphckfbbiehdaaGreat
open Go.RowKit
theorem permG {α:Type} (a b c d e f:α) (L:List α):(a :: b :: c :: d :: e :: f :: L).Perm (d :: b :: c :: e :: f :: a :: L):=by
  have h1:=List.perm_middle (l₁:=[a,b,c]) (a:=d) (l₂:=e :: f :: L)
  exact h1.trans (List.Perm.cons d (List.perm_middle (l₁:=[b,c,e,f]) (a:=a) (l₂:=L)).symm)
theorem aszG (w:World) (o:Obj):(w.alloc o).heap.size=w.heap.size + 1:=by simp
set_option maxRecDepth 100000 in
set_option maxHeartbeats 64000000 in
theorem genPlay_ok (w:World) (AO AR Ad:Option Addr) (nO cO nR cR nd cd R:Nat) (obs:List Ob) (roots:List Val) (gs:List (List Val)) (ds:List DoV) (hgs:obs.map Ob.fields=gs) (hO:ObsRd w (fun _ => True) AO nO obs) (hR:Rd w (fun _ => True) 2 AR nR (vals roots)) (hcp:∀ o ∈ obs,o.A=none → o.c=0) (hz:genErr nO nR nd obs roots (R:Int)=0)
    (hM:MOk ⟨padR roots nR,gs⟩) (hD:Rd w (fun _ => True) 5 Ad nd (dosV ds)) :
    Calls Tryz.prog 9 #[.agg #[.slice AO nO cO,.slice AR nR cR],.int .i64 (R:Int),.slice Ad nd cd] w fun e w' => ∃ A c A2 n2 c2 A3 n3 c3,e=.returned (.tuple #[.agg #[.slice A nd c,.slice A2 n2 c2,.slice A3 n3 c3],.int .i64 0]) ∧ Below w.heap.size w w' ∧ Rd w' (fun g => w.heap.size ≤ g) 3 A nd (outsV (gnRun R ds (gn0 ⟨padR roots nR,gs⟩)).1) ∧ Rd w' (fun g => w.heap.size ≤ g) 2 A2 n2 (countsV (gnThere (gnRun R ds (gn0 ⟨padR roots nR,gs⟩)).2)) ∧ Rd w' (fun g => w.heap.size ≤ g) 2 A3 n3 (countsV (gnMks (gnRun R ds (gn0 ⟨padR roots nR,gs⟩)).2)):=by
  obtain ⟨hx,hnd,hR1,hR2⟩:gcheck nO nR obs roots=0 ∧ nd ≤ 100 ∧ 1 ≤ R ∧ R ≤ 64:=by
    unfold genErr at hz
    split at hz
    · rename_i h; exact absurd hz h
    · rename_i h
      split at hz
      · omega
      · split at hz
        · omega
        · exact ⟨by omega,by omega,by omega,by omega⟩
  have hG:=gok_of hO hx
  have hnO:=hG.nO_
  have hnR:=hG.nR_
  have HDL:=hide (show ds.length=nd by have:=hD.1; rw [dosV_length] at this; omega)
  have hgl:gs.length=nO:=by rw [← hgs,List.length_map]; exact hO.len
  obtain ⟨g,hg⟩:∃ g,w.heap.size=g:=⟨_,rfl⟩
  have hS0:=((Sep.nil No w).blkAt 25 #[.slice AO nO cO,.slice AR nR cR] hg).blkAt 46 #[.slice none 0 0,.slice none 0 0,.slice none 0 0] (g:=g + 1) (by simp [hg])
  have C1:=graphCheck_any _ AO AR nO cO nR cR obs roots (hO.below hS0.below_) (hR.below hS0.below_)
  rw [hx] at C1
  replace C1:=hide C1
  have CO:=hide (fun w' (hb:Below w.heap.size w w') => heapOf_any w' AO AR nO cO nR cR obs gs hgs (hO.below hb) hnO hG.fl hcp)
  have CI:=hide (fun w' (hb:Below w.heap.size w w') => heapFirst_any w' AO AR nO cO nR cR roots (hR.below hb) hnR)
  have CR:=hide (fun (X:World) (g0:Nat) (h:Blk X g0 4 #[.bool true]) => repB_any X true nO g0 hnO h)
  obtain ⟨PR,hPR⟩:∃ l,padR roots nR=l:=⟨_,rfl⟩
  rw [hPR] at hM ⊢
  simp only [hPR] at CI
  obtain ⟨p0,p1,p2,p3,p4,p5,p6,p7,hp⟩:=len8 (show PR.length=8 from hM.r8)
  obtain ⟨σ0,hσ⟩:∃ σ,(⟨PR,gs⟩:MSt)=σ:=⟨_,rfl⟩
  rw [hσ] at hM ⊢
  have HSG:=hide hσ
  have HSO:=hide (show σ0.objs.length=nO by rw [← hσ]; exact hgl)
  have HAT:=hide (fun k (hk:k ≤ ds.length) => gn_at hM R ds (by rw [← hσ]; show gs.length ≤ 24; omega) (by have:=HDL.out; omega) k hk)
  have HPV:=hide hp
  have hCI2:∀ w' (hb:Below w.heap.size w w'),Calls Tryz.prog 14 #[.agg #[.slice AO nO cO,.slice AR nR cR]] w' fun e w2 => e=.returned (.agg #[.bool p0.1,.int .i64 p0.2,.bool p1.1,.int .i64 p1.2,.bool p2.1,.int .i64 p2.2,.bool p3.1,.int .i64 p3.2,.bool p4.1,.int .i64 p4.2,.bool p5.1,.int .i64 p5.2,.bool p6.1,.int .i64 p6.2,.bool p7.1,.int .i64 p7.2]) ∧ Below w'.heap.size w' w2:=by rw [hp] at CI; exact CI.out
  replace CI:=hide hCI2
  obtain ⟨a1,a2,a3,a4⟩:=hS0.rules 0 (g:=g) (t:=25) rfl
  have HS0:=hide hS0
  have t1:decide ((100:Int) < (nd:Int))=false:=by simp; omega
  have t2:decide (100 < nd)=false:=by simp; omega
  have t3:decide ((R:Int) < 1)=false:=by simp; omega
  have t4:decide ((64:Int) < (R:Int))=false:=by simp; omega
  have t5:decide (64 < R)=false:=by simp; omega
  have t6:decide (R < 1)=false:=by simp; omega
  have t7:decide (R=0)=false:=by simp; omega
  clear hgs hO hR hgl hS0 hM hCI2 hG hcp hz hx hσ hPR hp a1 a4
  go_enter Tryz.func9,Tryz.ntmps9
  go_wp2_with fail
  refine C1.out.mono ?_
  rintro e w1 ⟨rfl,hb1⟩
  have hS2:=HS0.out.below hb1
  obtain ⟨b1,b2,b3,b4⟩:=hS2.rules 0 (g:=g) (t:=25) rfl
  have b5:=(b1 0).trans (show _=some (.slice AO nO cO) from rfl)
  have b6:=(b1 1).trans (show _=some (.slice AR nR cR) from rfl)
  have HS:=hide (hS2.nil1.nil1.nil1)
  have HDR:=hide (show w1.drew.heap.size=w1.heap.size from rfl)
  clear hb1 hS2 C1 HS0 a2 a3 b1 b4
  go_wp2_with fail
  go_cut [9] from 36 to 46 (fun s9 wx => ∃ (Be c2 cc gM:Nat) (As Ac:Option Addr) (ps:List Po),s9=.pointer (some ⟨Be,0,none⟩) ∧ Hid (ps.length=nO ∧ (ps.map fun p => p.o.fields)=gs) ∧ Sep No w wx [blkI Be 109 #[.slice As nO c2,.pointer none,.slice Ac nO cc,.map (some gM),.int .i64 (R:Int)],allI (rowI 84 1 As nO c2 (ps.map poPtr) :: ps.map poI),rowI 4 1 Ac nO cc (bools (List.replicate nO true)),gmI gM 0 [],blkI g 25 #[.slice AO nO cO,.slice AR nR cR],blkI (g + 1) 46 #[.slice none 0 0,.slice none 0 0,.slice none 0 0]])
  case first =>
    have hmm:=@run_makeMap Tryz.prog
    go_region_held3 (fun w' => w'.cell? ⟨g,0,none⟩=some (.slice AO nO cO) ∧ w'.cell? ⟨g,1,none⟩=some (.slice AR nR cR)) (simp (config:={ maxDischargeDepth:=8 }) [*,World.cell?_alloc_some])
      (first
        | (go_at_call 13
           first
           | (with_reducible refine (CO.out _ (HS.out).below_).mono ?_
              rintro e w4 ⟨As,c2,ps,rfl,hpl,hpf,hP4⟩
              replace HS:=hide ((HS.out).fillAll 0 rfl hP4)
              obtain ⟨k1,k2,k3,-⟩:=HS.out.rules 3 (g:=g) (t:=25) rfl
              (have k5:=(k1 0).trans (show _=some (.slice AO nO cO) from rfl))
              (have k6:=(k1 1).trans (show _=some (.slice AR nR cR) from rfl))
              have HPL:=hide hpl
              have HPF:=hide hpf
              clear hP4 k1 hpl hpf)
           | (with_reducible refine (CO.out _ ((HS.out).fillBlk 1 rfl 4 #[.bool true] rfl).below_).mono ?_
              rintro e w4 ⟨As,c2,ps,rfl,hpl,hpf,hP4⟩
              replace HS:=hide (((HS.out).fillBlk 1 rfl 4 #[.bool true] rfl).fillAll 0 rfl hP4)
              obtain ⟨k1,k2,k3,-⟩:=HS.out.rules 3 (g:=g) (t:=25) rfl
              (have k5:=(k1 0).trans (show _=some (.slice AO nO cO) from rfl))
              (have k6:=(k1 1).trans (show _=some (.slice AR nR cR) from rfl))
              have HPL:=hide hpl
              have HPF:=hide hpf
              clear hP4 k1 hpl hpf)
           | (with_reducible refine (CO.out _ ((HS.out).fillMap 2 rfl rfl).below_).mono ?_
              rintro e w4 ⟨As,c2,ps,rfl,hpl,hpf,hP4⟩
              replace HS:=hide (((HS.out).fillMap 2 rfl rfl).fillAll 0 rfl hP4)
              obtain ⟨k1,k2,k3,-⟩:=HS.out.rules 3 (g:=g) (t:=25) rfl
              (have k5:=(k1 0).trans (show _=some (.slice AO nO cO) from rfl))
              (have k6:=(k1 1).trans (show _=some (.slice AR nR cR) from rfl))
              have HPL:=hide hpl
              have HPF:=hide hpf
              clear hP4 k1 hpl hpf)
           | (with_reducible refine (CO.out _ (((HS.out).fillBlk 1 rfl 4 #[.bool true] rfl).fillMap 2 rfl (aszG _ _)).below_).mono ?_
              rintro e w4 ⟨As,c2,ps,rfl,hpl,hpf,hP4⟩
              replace HS:=hide ((((HS.out).fillBlk 1 rfl 4 #[.bool true] rfl).fillMap 2 rfl (aszG _ _)).fillAll 0 rfl hP4)
              obtain ⟨k1,k2,k3,-⟩:=HS.out.rules 3 (g:=g) (t:=25) rfl
              (have k5:=(k1 0).trans (show _=some (.slice AO nO cO) from rfl))
              (have k6:=(k1 1).trans (show _=some (.slice AR nR cR) from rfl))
              have HPL:=hide hpl
              have HPF:=hide hpf
              clear hP4 k1 hpl hpf)
           | (with_reducible refine (CO.out _ (((HS.out).fillMap 2 rfl rfl).fillBlk 1 rfl 4 #[.bool true] (aszG _ _)).below_).mono ?_
              rintro e w4 ⟨As,c2,ps,rfl,hpl,hpf,hP4⟩
              replace HS:=hide ((((HS.out).fillMap 2 rfl rfl).fillBlk 1 rfl 4 #[.bool true] (aszG _ _)).fillAll 0 rfl hP4)
              obtain ⟨k1,k2,k3,-⟩:=HS.out.rules 3 (g:=g) (t:=25) rfl
              (have k5:=(k1 0).trans (show _=some (.slice AO nO cO) from rfl))
              (have k6:=(k1 1).trans (show _=some (.slice AR nR cR) from rfl))
              have HPL:=hide hpl
              have HPF:=hide hpf
              clear hP4 k1 hpl hpf)
           | (with_reducible refine (CO.out _ ((HS.out).drew).below_).mono ?_
              rintro e w4 ⟨As,c2,ps,rfl,hpl,hpf,hP4⟩
              replace HS:=hide (((HS.out).drew).fillAll 0 rfl hP4)
              obtain ⟨k1,k2,k3,-⟩:=HS.out.rules 3 (g:=g) (t:=25) rfl
              (have k5:=(k1 0).trans (show _=some (.slice AO nO cO) from rfl))
              (have k6:=(k1 1).trans (show _=some (.slice AR nR cR) from rfl))
              have HPL:=hide hpl
              have HPF:=hide hpf
              clear hP4 k1 hpl hpf)
           | (with_reducible refine (CO.out _ (((HS.out).fillBlk 1 rfl 4 #[.bool true] rfl).drew).below_).mono ?_
              rintro e w4 ⟨As,c2,ps,rfl,hpl,hpf,hP4⟩
              replace HS:=hide ((((HS.out).fillBlk 1 rfl 4 #[.bool true] rfl).drew).fillAll 0 rfl hP4)
              obtain ⟨k1,k2,k3,-⟩:=HS.out.rules 3 (g:=g) (t:=25) rfl
              (have k5:=(k1 0).trans (show _=some (.slice AO nO cO) from rfl))
              (have k6:=(k1 1).trans (show _=some (.slice AR nR cR) from rfl))
              have HPL:=hide hpl
              have HPF:=hide hpf
              clear hP4 k1 hpl hpf)
           | (with_reducible refine (CO.out _ (((HS.out).fillMap 2 rfl rfl).drew).below_).mono ?_
              rintro e w4 ⟨As,c2,ps,rfl,hpl,hpf,hP4⟩
              replace HS:=hide ((((HS.out).fillMap 2 rfl rfl).drew).fillAll 0 rfl hP4)
              obtain ⟨k1,k2,k3,-⟩:=HS.out.rules 3 (g:=g) (t:=25) rfl
              (have k5:=(k1 0).trans (show _=some (.slice AO nO cO) from rfl))
              (have k6:=(k1 1).trans (show _=some (.slice AR nR cR) from rfl))
              have HPL:=hide hpl
              have HPF:=hide hpf
              clear hP4 k1 hpl hpf)
           | (with_reducible refine (CO.out _ ((((HS.out).fillBlk 1 rfl 4 #[.bool true] rfl).fillMap 2 rfl (aszG _ _)).drew).below_).mono ?_
              rintro e w4 ⟨As,c2,ps,rfl,hpl,hpf,hP4⟩
              replace HS:=hide (((((HS.out).fillBlk 1 rfl 4 #[.bool true] rfl).fillMap 2 rfl (aszG _ _)).drew).fillAll 0 rfl hP4)
              obtain ⟨k1,k2,k3,-⟩:=HS.out.rules 3 (g:=g) (t:=25) rfl
              (have k5:=(k1 0).trans (show _=some (.slice AO nO cO) from rfl))
              (have k6:=(k1 1).trans (show _=some (.slice AR nR cR) from rfl))
              have HPL:=hide hpl
              have HPF:=hide hpf
              clear hP4 k1 hpl hpf)
           | (with_reducible refine (CO.out _ ((((HS.out).fillMap 2 rfl rfl).fillBlk 1 rfl 4 #[.bool true] (aszG _ _)).drew).below_).mono ?_
              rintro e w4 ⟨As,c2,ps,rfl,hpl,hpf,hP4⟩
              replace HS:=hide (((((HS.out).fillMap 2 rfl rfl).fillBlk 1 rfl 4 #[.bool true] (aszG _ _)).drew).fillAll 0 rfl hP4)
              obtain ⟨k1,k2,k3,-⟩:=HS.out.rules 3 (g:=g) (t:=25) rfl
              (have k5:=(k1 0).trans (show _=some (.slice AO nO cO) from rfl))
              (have k6:=(k1 1).trans (show _=some (.slice AR nR cR) from rfl))
              have HPL:=hide hpl
              have HPF:=hide hpf
              clear hP4 k1 hpl hpf))
        | (go_at_call 27
           first
           | (with_reducible refine (CR.out _ _ ((HS.out).get 1 rfl)).mono ?_
              rintro e w5 ⟨Ac,cc,rfl,hP5⟩
              replace HS:=hide ((HS.out).fillRow 1 rfl hP5)
              obtain ⟨k1,k2,k3,-⟩:=HS.out.rules 3 (g:=g) (t:=25) rfl
              (have k5:=(k1 0).trans (show _=some (.slice AO nO cO) from rfl))
              (have k6:=(k1 1).trans (show _=some (.slice AR nR cR) from rfl))
              clear hP5 k1)
           | (with_reducible refine (CR.out _ _ (((HS.out).fillBlk 1 rfl 4 #[.bool true] rfl).get 1 rfl)).mono ?_
              rintro e w5 ⟨Ac,cc,rfl,hP5⟩
              replace HS:=hide (((HS.out).fillBlk 1 rfl 4 #[.bool true] rfl).fillRow 1 rfl hP5)
              obtain ⟨k1,k2,k3,-⟩:=HS.out.rules 3 (g:=g) (t:=25) rfl
              (have k5:=(k1 0).trans (show _=some (.slice AO nO cO) from rfl))
              (have k6:=(k1 1).trans (show _=some (.slice AR nR cR) from rfl))
              clear hP5 k1)
           | (with_reducible refine (CR.out _ _ (((HS.out).fillMap 2 rfl rfl).get 1 rfl)).mono ?_
              rintro e w5 ⟨Ac,cc,rfl,hP5⟩
              replace HS:=hide (((HS.out).fillMap 2 rfl rfl).fillRow 1 rfl hP5)
              obtain ⟨k1,k2,k3,-⟩:=HS.out.rules 3 (g:=g) (t:=25) rfl
              (have k5:=(k1 0).trans (show _=some (.slice AO nO cO) from rfl))
              (have k6:=(k1 1).trans (show _=some (.slice AR nR cR) from rfl))
              clear hP5 k1)
           | (with_reducible refine (CR.out _ _ ((((HS.out).fillBlk 1 rfl 4 #[.bool true] rfl).fillMap 2 rfl (aszG _ _)).get 1 rfl)).mono ?_
              rintro e w5 ⟨Ac,cc,rfl,hP5⟩
              replace HS:=hide ((((HS.out).fillBlk 1 rfl 4 #[.bool true] rfl).fillMap 2 rfl (aszG _ _)).fillRow 1 rfl hP5)
              obtain ⟨k1,k2,k3,-⟩:=HS.out.rules 3 (g:=g) (t:=25) rfl
              (have k5:=(k1 0).trans (show _=some (.slice AO nO cO) from rfl))
              (have k6:=(k1 1).trans (show _=some (.slice AR nR cR) from rfl))
              clear hP5 k1)
           | (with_reducible refine (CR.out _ _ ((((HS.out).fillMap 2 rfl rfl).fillBlk 1 rfl 4 #[.bool true] (aszG _ _)).get 1 rfl)).mono ?_
              rintro e w5 ⟨Ac,cc,rfl,hP5⟩
              replace HS:=hide ((((HS.out).fillMap 2 rfl rfl).fillBlk 1 rfl 4 #[.bool true] (aszG _ _)).fillRow 1 rfl hP5)
              obtain ⟨k1,k2,k3,-⟩:=HS.out.rules 3 (g:=g) (t:=25) rfl
              (have k5:=(k1 0).trans (show _=some (.slice AO nO cO) from rfl))
              (have k6:=(k1 1).trans (show _=some (.slice AR nR cR) from rfl))
              clear hP5 k1)
           | (with_reducible refine (CR.out _ _ (((HS.out).drew).get 1 rfl)).mono ?_
              rintro e w5 ⟨Ac,cc,rfl,hP5⟩
              replace HS:=hide (((HS.out).drew).fillRow 1 rfl hP5)
              obtain ⟨k1,k2,k3,-⟩:=HS.out.rules 3 (g:=g) (t:=25) rfl
              (have k5:=(k1 0).trans (show _=some (.slice AO nO cO) from rfl))
              (have k6:=(k1 1).trans (show _=some (.slice AR nR cR) from rfl))
              clear hP5 k1)
           | (with_reducible refine (CR.out _ _ ((((HS.out).fillBlk 1 rfl 4 #[.bool true] rfl).drew).get 1 rfl)).mono ?_
              rintro e w5 ⟨Ac,cc,rfl,hP5⟩
              replace HS:=hide ((((HS.out).fillBlk 1 rfl 4 #[.bool true] rfl).drew).fillRow 1 rfl hP5)
              obtain ⟨k1,k2,k3,-⟩:=HS.out.rules 3 (g:=g) (t:=25) rfl
              (have k5:=(k1 0).trans (show _=some (.slice AO nO cO) from rfl))
              (have k6:=(k1 1).trans (show _=some (.slice AR nR cR) from rfl))
              clear hP5 k1)
           | (with_reducible refine (CR.out _ _ ((((HS.out).fillMap 2 rfl rfl).drew).get 1 rfl)).mono ?_
              rintro e w5 ⟨Ac,cc,rfl,hP5⟩
              replace HS:=hide ((((HS.out).fillMap 2 rfl rfl).drew).fillRow 1 rfl hP5)
              obtain ⟨k1,k2,k3,-⟩:=HS.out.rules 3 (g:=g) (t:=25) rfl
              (have k5:=(k1 0).trans (show _=some (.slice AO nO cO) from rfl))
              (have k6:=(k1 1).trans (show _=some (.slice AR nR cR) from rfl))
              clear hP5 k1)
           | (with_reducible refine (CR.out _ _ (((((HS.out).fillBlk 1 rfl 4 #[.bool true] rfl).fillMap 2 rfl (aszG _ _)).drew).get 1 rfl)).mono ?_
              rintro e w5 ⟨Ac,cc,rfl,hP5⟩
              replace HS:=hide (((((HS.out).fillBlk 1 rfl 4 #[.bool true] rfl).fillMap 2 rfl (aszG _ _)).drew).fillRow 1 rfl hP5)
              obtain ⟨k1,k2,k3,-⟩:=HS.out.rules 3 (g:=g) (t:=25) rfl
              (have k5:=(k1 0).trans (show _=some (.slice AO nO cO) from rfl))
              (have k6:=(k1 1).trans (show _=some (.slice AR nR cR) from rfl))
              clear hP5 k1)
           | (with_reducible refine (CR.out _ _ (((((HS.out).fillMap 2 rfl rfl).fillBlk 1 rfl 4 #[.bool true] (aszG _ _)).drew).get 1 rfl)).mono ?_
              rintro e w5 ⟨Ac,cc,rfl,hP5⟩
              replace HS:=hide (((((HS.out).fillMap 2 rfl rfl).fillBlk 1 rfl 4 #[.bool true] (aszG _ _)).drew).fillRow 1 rfl hP5)
              obtain ⟨k1,k2,k3,-⟩:=HS.out.rules 3 (g:=g) (t:=25) rfl
              (have k5:=(k1 0).trans (show _=some (.slice AO nO cO) from rfl))
              (have k6:=(k1 1).trans (show _=some (.slice AR nR cR) from rfl))
              clear hP5 k1)))
    all_goals
      go_wp2_with fail
      go_meet
      case rel =>
        first
        | exact ⟨_,_,_,_,_,_,_,rfl,hide ⟨HPL.out,HPF.out⟩,HS.out.blkAtF 109 _ rfl⟩
        | exact ⟨_,_,_,_,_,_,_,rfl,hide ⟨HPL.out,HPF.out⟩,(HS.out.fillMap 2 rfl rfl).blkAtF 109 _ rfl⟩
        | exact ⟨_,_,_,_,_,_,_,rfl,hide ⟨HPL.out,HPF.out⟩,(HS.out.fillMap 2 rfl rfl).blkAtF 109 _ (aszG _ _)⟩
  case rest =>
    obtain ⟨Be,c2,cc,gM,As,Ac,ps,rfl,HPP,hS7⟩:=hcut
    have HPL:=hide HPP.out.1
    have HPF:=hide HPP.out.2
    clear HPP CO CR b2 b3 b5 b6 HS
    obtain ⟨l1,l2,l3,-⟩:=hS7.rules 4 (g:=g) (t:=25) rfl
    have l5:=(l1 0).trans (show _=some (.slice AO nO cO) from rfl)
    have l6:=(l1 1).trans (show _=some (.slice AR nR cR) from rfl)
    have CI2:=hide (CI.out _ hS7.below_)
    have HS7:=hide hS7
    clear hS7 l1 CI
    go_wp2_with fail
    refine CI2.out.mono ?_
    rintro e w6 ⟨rfl,hb6⟩
    obtain ⟨Bm,hBm⟩:∃ x,w6.heap.size=x:=⟨_,rfl⟩
    have hS8:=(HS7.out.below hb6).blkAtF 70 #[.bool p0.1,.int .i64 p0.2,.bool p1.1,.int .i64 p1.2,.bool p2.1,.int .i64 p2.2,.bool p3.1,.int .i64 p3.2,.bool p4.1,.int .i64 p4.2,.bool p5.1,.int .i64 p5.2,.bool p6.1,.int .i64 p6.2,.bool p7.1,.int .i64 p7.2,.iface 104 (.pointer (some ⟨Be,0,none⟩))] hBm
    obtain ⟨X,hX⟩:∃ X,w6.alloc (.cells #[.bool p0.1,.int .i64 p0.2,.bool p1.1,.int .i64 p1.2,.bool p2.1,.int .i64 p2.2,.bool p3.1,.int .i64 p3.2,.bool p4.1,.int .i64 p4.2,.bool p5.1,.int .i64 p5.2,.bool p6.1,.int .i64 p6.2,.bool p7.1,.int .i64 p7.2,.iface 104 (.pointer (some ⟨Be,0,none⟩))] 70)=X:=⟨_,rfl⟩
    rw [hX] at hS8
    have hXs:X.heap.size=Bm + 1:=by rw [← hX]; simp [hBm]
    obtain ⟨j1,j2,j3,-⟩:=hS8.rules 1 (g:=Be) (t:=109) rfl
    have j5:=(j1 1).trans (show _=some (.pointer none) from rfl)
    have hS9:=hS8.set_ 1 (g:=Be) (t:=109) rfl 1 (.pointer (some ⟨Bm,0,none⟩))
    have hS10:=hS9.blkAtF 46 #[.slice none 0 0,.slice none 0 0,.slice none 0 0] (g:=Bm + 1) (by simp [hXs])
    have hS11:=gn_mk (L:=[blkI (Bm + 1) 46 #[.slice none 0 0,.slice none 0 0,.slice none 0 0],blkI g 25 #[.slice AO nO cO,.slice AR nR cR],blkI (g + 1) 46 #[.slice none 0 0,.slice none 0 0,.slice none 0 0]]) [p0,p1,p2,p3,p4,p5,p6,p7] HPL.out (hS10.perm (permG _ _ _ _ _ _ _))
    have hS12:=(hS11.nilRow0 74 3).perm (List.perm_middle (l₁:=[_,_]) (l₂:=[_,_])).symm
    obtain ⟨Y,hY⟩:∃ Y,(X.setCell ⟨Be,1,none⟩ (.pointer (some ⟨Bm,0,none⟩))).alloc (.cells #[.slice none 0 0,.slice none 0 0,.slice none 0 0] 46)=Y:=⟨_,rfl⟩
    rw [hY] at hS12
    have HXS:=hide hXs
    have HY:=hide hY
    have HT0:=hide (show (gnT0 [p0,p1,p2,p3,p4,p5,p6,p7] As c2 ps Ac cc gM).a=(gnRun R (ds.take 0) (gn0 σ0)).2 ∧ (gnT0 [p0,p1,p2,p3,p4,p5,p6,p7] As c2 ps Ac cc gM).N ≤ 0 from
      ⟨by rw [gnT0_a,HPF.out,← HSG.out,HPV.out]; rfl,Nat.le_refl _⟩)
    generalize ht0:gnT0 [p0,p1,p2,p3,p4,p5,p6,p7] As c2 ps Ac cc gM=t0 at HT0 hS12
    have HSC:=hide hS12
    clear hS8 hS9 hS10 hS11 hS12 hXs hY HS7 CI2 hb6 l2 l3 l5 l6 j1 ht0
    go_upto_region 12 with fail
    first | rw [HXS.out] | rw [show (X.setCell ⟨Be,1,none⟩ (.pointer (some ⟨Bm,0,none⟩))).heap.size=Bm + 1 from by simp [HXS.out]] | skip
    rw [HY.out]
    obtain ⟨gO,hgO⟩:∃ x,Bm + 1=x:=⟨_,rfl⟩
    rw [hgO] at HSC ⊢
    clear j2 j3 j5 HXS HY hgO
    go_wp2_with fail
    go_loopw [61] (fun i wr => ∃ (k:Nat) (A:Option Addr) (c:Nat) (t:GnT),k ≤ nd ∧ i=.int .i64 k ∧ Hid (t.a=(gnRun R (ds.take k) (gn0 σ0)).2 ∧ t.N ≤ k) ∧
      Sep No w wr ((gnKm R Bm Be).item t :: [blkI gO 46 #[.slice A k c,.slice none 0 0,.slice none 0 0],rowI 74 3 A k c (outsV (gnRun R (ds.take k) (gn0 σ0)).1),blkI g 25 #[.slice AO nO cO,.slice AR nR cR],blkI (g + 1) 46 #[.slice none 0 0,.slice none 0 0,.slice none 0 0]])) (fun i _ => nd - (intOf i).toNat)
    case atStart => exact ⟨0,none,0,t0,by omega,rfl,HT0.out,HSC.out⟩
    case round =>
      clear HSC HT0
      obtain ⟨k,A,c',t,hk,rfl,HA,hS⟩:=hrel
      by_cases hlt:k < nd
      · have hkl:k < ds.length:=by rw [HDL.out]; exact hlt
        obtain ⟨ok0,on⟩:=HAT.out k (by omega)
        rw [← HA.out.1] at ok0 on
        have hNk:=HA.out.2
        obtain ⟨v0,v1,v2,v3,v4⟩:=dosV_at ds k hkl
        obtain ⟨ad,hA,_,had,hc,hd⟩:=(hD.below hS.below_).atN hlt
        have e0:=hc _ v0
        have e1:=hd 0 _ v1
        have e2:=hd 1 _ v2
        have e3:=hd 2 _ v3
        have e4:=hd 3 _ v4
        have hrs:=gnRun_at R ds (gn0 σ0) k hkl
        rw [← HA.out.1] at hrs
        obtain ⟨d,hd'⟩:∃ d,ds[k]=d:=⟨_,rfl⟩
        rw [hd'] at e0 e1 e2 e3 e4 hrs
        obtain ⟨gd,hgd⟩:∃ x,wr.heap.size=x:=⟨_,rfl⟩
        have hS2:=(hS.blkAt 72 d.cells hgd).blkAt 74 #[.int .i64 0,.bool false,.int .i64 0] (g:=gd + 1) (by simp [hgd])
        have hgO:=hS.hi 1 rfl gO rfl
        have n1:gO ≠ gd:=by omega
        have n2:gO ≠ gd + 1:=by omega
        have n3:gd ≠ gO:=by omega
        have n4:gd + 1 ≠ gO:=by omega
        have n5:gd + 1 ≠ gd:=by omega
        have n6:gd ≠ gd + 1:=by omega
        subst hA
        by_cases h8:d.k=8
        · have CW:=hide (gnminor_km hS2 ok0 (by omega))
          have hst:gnStep R d t.a=(⟨0,false,0⟩,t.a.minor):=by unfold gnStep; rw [if_pos h8]
          rw [hst] at hrs
          have HRS:=hide hrs
          have HS2:=hide hS2
          obtain ⟨dk,dto,dfr,dat,dn⟩:=d
          dsimp only at h8 e0 e1 e2 e3 e4
          subst h8
          clear hrs hS2 hS hc hd v0 v1 v2 v3 v4 hd' hst ok0 on
          unfold DoV.cells at CW HS2
          go_wp2_with fail
          refine CW.out.mono ?_
          rintro e w4 ⟨⟨u,rfl⟩,t',hcw,hN',hS4⟩
          obtain ⟨u1,u2,u3,-⟩:=hS4.rules 1 (g:=gO) (t:=46) rfl
          have u5:=(u1 0).trans (show _=some (.slice A k c') from rfl)
          obtain ⟨x1,x2,x3,-⟩:=hS4.rules 6 (g:=gd + 1) (t:=74) rfl
          have x5:=(x1 0).trans (show _=some (.int .i64 0) from rfl)
          have x6:=(x1 1).trans (show _=some (.bool false) from rfl)
          have x7:=(x1 2).trans (show _=some (.int .i64 0) from rfl)
          have hrs:=HRS.out
          rw [← hcw] at hrs
          have HRS:=hide hrs
          have HN2:=hide (show t'.N ≤ k + 1 by omega)
          have HS5:=hide hS4
          clear hS4 HS2 CW u1 x1 hrs hcw hN'
          go_wp2_with (first
            | (at_builtin
               refine wpList_app1 (cs:=#[.int .i64 0,.bool false,.int .i64 0]) rfl (.tmp 80) (.tmp 82) 27 rfl (F:=No) (W:=w) sOut (items:=_ :: _ :: _ :: _ :: _) HS5.out 2 (n:=k) rfl rfl rfl (by simp) rfl rfl (by omega) ?_
               intro A6 c6 w6 hS6 hC6
               obtain ⟨u1,u2,u3,-⟩:=hS6.rules 1 (g:=gO) (t:=46) rfl))
          have hS7:=hS6.set_ 1 (g:=gO) (t:=46) rfl 0 (.slice A6 (k + 1) c6)
          have HS7:=hide (hS7.sub (l:=[_,_,_,_,_]) (List.sublist_append_left [_,_,_,_,_] [_,_]))
          clear hS6 hC6 hS7 u1 HS5
          go_roundw
          case rel => exact ⟨k + 1,A6,c6,t',by omega,by go_num,by rw [HRS.out]; exact hide ⟨rfl,HN2.out⟩,by
            rw [HRS.out]
            dsimp only
            rw [outsV_app,outsV_one]
            exact HS7.out⟩
          case measure => simp [intOf]; omega
        by_cases h9:d.k=9
        · have CW:=hide (gnmajor_km hS2 ok0 (by omega))
          have hst:gnStep R d t.a=(⟨0,false,0⟩,t.a.major):=by unfold gnStep; rw [if_neg h8,if_pos h9]
          rw [hst] at hrs
          have HRS:=hide hrs
          have HS2:=hide hS2
          obtain ⟨dk,dto,dfr,dat,dn⟩:=d
          dsimp only at h8 h9 e0 e1 e2 e3 e4
          subst h9
          clear hrs hS2 hS hc hd v0 v1 v2 v3 v4 hd' hst ok0 on
          unfold DoV.cells at CW HS2
          go_wp2_with fail
          refine CW.out.mono ?_
          rintro e w4 ⟨⟨u,rfl⟩,t',hcw,hN',hS4⟩
          obtain ⟨u1,u2,u3,-⟩:=hS4.rules 1 (g:=gO) (t:=46) rfl
          have u5:=(u1 0).trans (show _=some (.slice A k c') from rfl)
          obtain ⟨x1,x2,x3,-⟩:=hS4.rules 6 (g:=gd + 1) (t:=74) rfl
          have x5:=(x1 0).trans (show _=some (.int .i64 0) from rfl)
          have x6:=(x1 1).trans (show _=some (.bool false) from rfl)
          have x7:=(x1 2).trans (show _=some (.int .i64 0) from rfl)
          have hrs:=HRS.out
          rw [← hcw] at hrs
          have HRS:=hide hrs
          have HN2:=hide (show t'.N ≤ k + 1 by omega)
          have HS5:=hide hS4
          clear hS4 HS2 CW u1 x1 hrs hcw hN'
          go_wp2_with (first
            | (at_builtin
               refine wpList_app1 (cs:=#[.int .i64 0,.bool false,.int .i64 0]) rfl (.tmp 80) (.tmp 82) 27 rfl (F:=No) (W:=w) sOut (items:=_ :: _ :: _ :: _ :: _) HS5.out 2 (n:=k) rfl rfl rfl (by simp) rfl rfl (by omega) ?_
               intro A6 c6 w6 hS6 hC6
               obtain ⟨u1,u2,u3,-⟩:=hS6.rules 1 (g:=gO) (t:=46) rfl))
          have hS7:=hS6.set_ 1 (g:=gO) (t:=46) rfl 0 (.slice A6 (k + 1) c6)
          have HS7:=hide (hS7.sub (l:=[_,_,_,_,_]) (List.sublist_append_left [_,_,_,_,_] [_,_]))
          clear hS6 hC6 hS7 u1 HS5
          go_roundw
          case rel => exact ⟨k + 1,A6,c6,t',by omega,by go_num,by rw [HRS.out]; exact hide ⟨rfl,HN2.out⟩,by
            rw [HRS.out]
            dsimp only
            rw [outsV_app,outsV_one]
            exact HS7.out⟩
          case measure => simp [intOf]; omega
        · have CD:=gndo_any hS2 ok0 (by omega) (by omega) d
          have hst:gnStep R d t.a=gnDo R d t.a:=by unfold gnStep; rw [if_neg h8,if_neg h9]
          rw [hst] at hrs
          have HRS:=hide hrs
          have HCD:=hide CD
          obtain ⟨dk,dto,dfr,dat,dn⟩:=d
          dsimp only at h8 h9 e0 e1 e2 e3 e4
          have y8:(dk == 8)=false:=by simp [h8]
          have y9:(dk == 9)=false:=by simp [h9]
          clear hrs hS2 hS hc hd v0 v1 v2 v3 v4 hd' hst ok0 on CD h8 h9
          unfold DoV.cells at HCD
          go_wp2_with fail
          refine HCD.out.mono ?_
          rintro e w4 ⟨oc,orf,on,t',rfl,hcw,hN',hS4⟩
          obtain ⟨u1,u2,u3,-⟩:=hS4.rules 1 (g:=gO) (t:=46) rfl
          have u5:=(u1 0).trans (show _=some (.slice A k c') from rfl)
          obtain ⟨x1,x2,x3,-⟩:=hS4.rules 6 (g:=gd + 1) (t:=74) rfl
          have x5:=(x1 0).trans (show _=some (.int .i64 0) from rfl)
          have x6:=(x1 1).trans (show _=some (.bool false) from rfl)
          have x7:=(x1 2).trans (show _=some (.int .i64 0) from rfl)
          have hrs:=HRS.out
          rw [hcw] at hrs
          have HRS:=hide hrs
          have HN2:=hide (show t'.N ≤ k + 1 by omega)
          have HS5:=hide (((hS4.set_ 6 (g:=gd + 1) (t:=74) rfl 0 (.int .i64 oc)).set_ 6 (g:=gd + 1) (t:=74) rfl 1 (.bool orf)).set_ 6 (g:=gd + 1) (t:=74) rfl 2 (.int .i64 on))
          clear hS4 HCD u1 x1 hrs hcw hN'
          go_wp2_with (first
            | (at_builtin
               refine wpList_app1 (cs:=#[.int .i64 oc,.bool orf,.int .i64 on]) rfl (.tmp 80) (.tmp 82) 27 rfl (F:=No) (W:=w) sOut (items:=_ :: _ :: _ :: _ :: _) HS5.out 2 (n:=k) rfl rfl rfl (by simp) rfl rfl (by omega) ?_
               intro A6 c6 w6 hS6 hC6
               obtain ⟨u1,u2,u3,-⟩:=hS6.rules 1 (g:=gO) (t:=46) rfl))
          have hS7:=hS6.set_ 1 (g:=gO) (t:=46) rfl 0 (.slice A6 (k + 1) c6)
          have HS7:=hide (hS7.sub (l:=[_,_,_,_,_]) (List.sublist_append_left [_,_,_,_,_] [_,_]))
          clear hS6 hC6 hS7 u1 HS5
          go_roundw
          case rel => exact ⟨k + 1,A6,c6,t',by omega,by go_num,by rw [HRS.out]; exact hide ⟨rfl,HN2.out⟩,by
            rw [HRS.out]
            dsimp only
            rw [outsV_app,outsV_one]
            exact HS7.out⟩
          case measure => simp [intOf]; omega
      · obtain rfl:k=nd:=by omega
        obtain ⟨ok0,on⟩:=HAT.out k (by have:=HDL.out; omega)
        rw [← HA.out.1] at ok0 on
        rw [List.take_of_length_le (by rw [HDL.out]; exact Nat.le_refl _)] at HA hS
        have hgl:=gn_len t
        have hn:t.oj.ps.length ≤ 1000:=by omega
        have hol:t.old.length=t.oj.ps.length:=by have h:t.old.length=t.a.objs.length:=ok0.ol; omega
        have hN9:=HA.out.2
        have hZ:∀ p ∈ t.mks,ZOk (gz p):=fun p hp => ok0.mkz (by omega) hp
        have HZ:=hide hZ
        have HMS:=hide (show t.mks.Pairwise ltP from ok0.ms)
        obtain ⟨b0,-,-,-,-,-,bs⟩:=gn_cells (pre:=[]) (gkm_flat (hS.get 0 rfl))
        have CT:=hide (oThere_any wr t.oj.As t.oj.ps.length t.oj.c t.oj.ps hn ((gkm_flat (hS.get 0 rfl)).rd_ 4 rfl))
        have HTN:=hide (fun x (h:x ∈ thereL t.oj.ps) => thereL_nat h)
        have HTL:=hide (thereK_len t.oj.ps t.oj.ps.length)
        obtain ⟨L,hL⟩:∃ l,thereL t.oj.ps=l:=⟨_,rfl⟩
        have hm1:L.length ≤ 1000:=by
          have h1:=HTL.out
          have h2:L.length=(thereK t.oj.ps t.oj.ps.length).length:=by rw [← hL]; rfl
          omega
        have HTH:=hide (show gnThere (gnRun R ds (gn0 σ0)).2=L.map fun x => (x,if bt t.old x.toNat=true then 1 else 0) from by
          rw [← HA.out.1]
          unfold gnThere
          rw [show thereL t.a.objs=thereL t.oj.ps from thereL_abs t.oj,hL]
          rfl)
        have HMK:=hide (show gnMks (gnRun R ds (gn0 σ0)).2=t.mks.map fun p => ((p.1:Int),(p.2:Int)) from by rw [← HA.out.1]; rfl)
        have HOU:=hide (show (gnRun R ds (gn0 σ0)).1=(gnRun R ds (gn0 σ0)).1 from rfl)
        rw [hL] at CT HTN
        have HS:=hide hS
        have HOL:=hide hol
        unfold Oj.v at b0
        clear hS ok0 on HTL hL HA hgl hZ
        obtain ⟨N,hN⟩:∃ n,t.oj.ps.length=n:=⟨_,rfl⟩
        rw [hN] at hn hol b0 CT HTN HOL
        have HN:=hide hN
        clear hN hol
        go_wp2_with fail
        refine CT.out.mono ?_
        rintro e w1 ⟨AL,cL,rfl,hPL⟩
        obtain ⟨m,hm⟩:∃ m,L.length=m:=⟨_,rfl⟩
        rw [hm] at hPL hm1 ⊢
        have HM2:=hide hm
        have HS1:=hide ((row_new HS.out hPL).nilRow0 88 2)
        clear hPL HS CT hm b0 bs
        go_wp2_with fail
        go_loopw [92] (fun i wr => ∃ (j:Nat) (A2:Option Addr) (c2:Nat),j ≤ m ∧ i=.int .i64 j ∧
          Sep No w wr [rowI 88 2 A2 j c2 (countsV ((L.take j).map fun x => (x,if bt t.old x.toNat=true then 1 else 0))),rowI 3 1 AL m cL (ints L),(gnKm R Bm Be).item t,blkI gO 46 #[.slice A k c',.slice A2 j c2,.slice none 0 0],rowI 74 3 A k c' (outsV (gnRun R ds (gn0 σ0)).1),blkI g 25 #[.slice AO nO cO,.slice AR nR cR],blkI (g + 1) 46 #[.slice none 0 0,.slice none 0 0,.slice none 0 0]]) (fun i _ => m - (intOf i).toNat)
        case atStart => exact ⟨0,none,0,by omega,rfl,HS1.out⟩
        case round =>
          clear HS1
          obtain ⟨j,A2,c2,hj,rfl,hS⟩:=hrel
          by_cases hlt:j < m
          · have hkl:j < L.length:=by rw [HM2.out]; exact hlt
            obtain ⟨ad,hA,_,had,hc⟩:=(hS.rd_ 1 rfl).at_ hlt
            have e0:=hc (.int .i64 L[j]) (by simp [ints,List.getElem?_eq_getElem hkl])
            have hT:=List.take_succ_eq_append_getElem hkl
            have hmem:L[j] ∈ L:=List.getElem_mem hkl
            obtain ⟨x,hx⟩:∃ x,L[j]=x:=⟨_,rfl⟩
            rw [hx] at e0 hT hmem
            obtain ⟨z,rfl,hz⟩:=HTN.out x hmem
            obtain ⟨gc,hgc⟩:∃ x,wr.heap.size=x:=⟨_,rfl⟩
            have hS2:=hS.blkAt 88 #[.int .i64 (z:Int),.int .i64 0] hgc
            obtain ⟨W5,hW5⟩:∃ x,wr.alloc (.cells #[.int .i64 (z:Int),.int .i64 0] 88)=x:=⟨_,rfl⟩
            rw [hW5] at hS2
            obtain ⟨go,hgo,k2,k3,k4,k5⟩:=gn_cell_old (Sep.start (hS2.get 2 rfl)) (z:=z) (by rw [HOL.out]; exact hz)
            rw [HOL.out] at k2
            obtain ⟨y,hy⟩:∃ y,t.old.getD z false=y:=⟨_,rfl⟩
            rw [hy] at k3
            have HTT:=hide (show (L.take (j + 1)).map (fun x => (x,if bt t.old x.toNat=true then (1:Int) else 0))=(L.take j).map (fun x => (x,if bt t.old x.toNat=true then (1:Int) else 0)) ++ [((z:Int),if y=true then 1 else 0)] from by
              rw [hT,List.map_append,List.map_cons,List.map_nil,Int.toNat_natCast,show bt t.old z=y from hy])
            obtain ⟨u1,u2,u3,-⟩:=hS2.rules 3 (g:=gO) (t:=46) rfl
            have u5:=(u1 1).trans (show _=some (.slice A2 j c2) from rfl)
            obtain ⟨d1,d2,d3,-⟩:=hS2.rules 7 (g:=gc) (t:=88) rfl
            have d4:=(d1 0).trans (show _=some (.int .i64 (z:Int)) from rfl)
            have d5:=(d1 1).trans (show _=some (.int .i64 0) from rfl)
            have t8:decide ((z:Int) < 0)=false:=by simp
            have t9:decide ((N:Int) ≤ (z:Int))=false:=by simp; omega
            have t10:(0:Int) ≤ (z:Int):=by omega
            have t11:(z:Int) < (N:Int):=by omega
            have n1:gO ≠ gc:=fun e => hS2.other (a:=3) (b:=7) rfl rfl (by omega) gO rfl e
            have n2:gc ≠ gO:=fun e => n1 e.symm
            have HW5:=hide hW5
            subst hA
            cases y with
            | false =>
              rw [if_neg (by decide)] at HTT
              have HS:=hide hS2
              clear hS hS2 hc hT hmem hx hy u1 hgo hW5 d1
              go_upto_region 28 with fail
              rw [HW5.out]
              go_wp2_with (first
                | (at_builtin
                   refine wpList_app1 (cs:=#[.int .i64 z,.int .i64 0]) rfl (.tmp 107) (.tmp 109) 32 rfl (F:=No) (W:=w) sCount (items:=_ :: _ :: _ :: _ :: _ :: _ :: _ :: _) HS.out 0 (n:=j) rfl rfl rfl (by simp) rfl rfl (by omega) ?_
                   intro A7 c7 w7 hS7 hC7
                   obtain ⟨z1,z2,z3,-⟩:=hS7.rules 3 (g:=gO) (t:=46) rfl
                   (have z5:=(z1 1).trans (show _=some (.slice A2 j c2) from rfl))
                   clear z1))
              have hS8:=hS7.set_ 3 (g:=gO) (t:=46) rfl 1 (.slice A7 (j + 1) c7)
              have HS8:=hide (hS8.sub (l:=[_,_,_,_,_,_,_]) (List.sublist_append_left [_,_,_,_,_,_,_] [_]))
              clear hS7 hC7 hS8 HS
              go_roundw
              case rel => exact ⟨j + 1,A7,c7,by omega,by go_num,by
                rw [HTT.out,countsV_app]
                exact HS8.out⟩
              case measure => simp [intOf]; omega
            | true =>
              rw [if_pos rfl] at HTT
              have HS:=hide (hS2.set_ 7 (g:=gc) (t:=88) rfl 1 (.int .i64 1))
              clear hS hS2 hc hT hmem hx hy u1 hgo hW5 d1
              go_upto_region 28 with fail
              rw [HW5.out]
              go_wp2_with (first
                | (at_builtin
                   refine wpList_app1 (cs:=#[.int .i64 z,.int .i64 1]) rfl (.tmp 107) (.tmp 109) 32 rfl (F:=No) (W:=w) sCount (items:=_ :: _ :: _ :: _ :: _ :: _ :: _ :: _) HS.out 0 (n:=j) rfl rfl rfl (by simp) rfl rfl (by omega) ?_
                   intro A7 c7 w7 hS7 hC7
                   obtain ⟨z1,z2,z3,-⟩:=hS7.rules 3 (g:=gO) (t:=46) rfl
                   (have z5:=(z1 1).trans (show _=some (.slice A2 j c2) from rfl))
                   clear z1))
              have hS8:=hS7.set_ 3 (g:=gO) (t:=46) rfl 1 (.slice A7 (j + 1) c7)
              have HS8:=hide (hS8.sub (l:=[_,_,_,_,_,_,_]) (List.sublist_append_left [_,_,_,_,_,_,_] [_]))
              clear hS7 hC7 hS8 HS
              go_roundw
              case rel => exact ⟨j + 1,A7,c7,by omega,by go_num,by
                rw [HTT.out,countsV_app]
                exact HS8.out⟩
              case measure => simp [intOf]; omega
          · obtain rfl:j=m:=by omega
            rw [List.take_of_length_le (by rw [HM2.out]; exact Nat.le_refl _),← HTH.out] at hS
            obtain ⟨-,-,-,b3,-,-,bs⟩:=gn_cells (pre:=[]) (gkm_flat (hS.get 2 rfl))
            have hS2:=hS.perm (l:=[(gnKm R Bm Be).item t,rowI 88 2 A2 j c2 (countsV (gnThere (gnRun R ds (gn0 σ0)).2)),rowI 3 1 AL j cL (ints L),blkI gO 46 #[.slice A k c',.slice A2 j c2,.slice none 0 0],rowI 74 3 A k c' (outsV (gnRun R ds (gn0 σ0)).1),blkI g 25 #[.slice AO nO cO,.slice AR nR cR],blkI (g + 1) 46 #[.slice none 0 0,.slice none 0 0,.slice none 0 0]]) (List.perm_middle (l₁:=[_,_]) (l₂:=[_,_,_,_]))
            have HS2:=hide (gn_open hS2)
            obtain ⟨RI,hRI⟩:∃ i,allI (gnM Be Bm t :: blkI Be 109 (gnC Bm (R:Int) t) :: oldI t.Ao t.oc t.old.length t.old :: ojL t.oj)=i:=⟨_,rfl⟩
            rw [hRI] at HS2
            clear hS hS2 hRI
            go_wp2_with (first
              | (at_range
                 refine wpList_gmBegin rfl (.tmp 116) rfl HS2.out 0 rfl HZ.out rfl ?_
                 intro w4 cnt hcn hS4 hsz4
                 (have HS4:=hide (hS4.nilRow0 88 2))
                 clear hS4))
            go_frame
            obtain ⟨r,hr⟩:∃ r,wr.heap.size=r:=⟨_,rfl⟩
            rw [hr] at HS4 ⊢
            clear hsz4 hr b3 bs
            go_loopg [18] cnt (fun gh _ wr => ∃ (left:Gp → Bool) (l:List Gp) (A3:Option Addr) (n3 c3:Nat),Hid (l.Nodup ∧ (∀ p ∈ l,p ∈ t.mks) ∧ (∀ p ∈ t.mks,left p=false ↔ p ∈ l)) ∧ l.length=n3 ∧ n3 + gh ≤ 200 ∧
              Sep No w wr [rowI 88 2 A3 n3 c3 (gpsV l),gmR t.b r t.N t.mks left gh,RI,rowI 88 2 A2 j c2 (countsV (gnThere (gnRun R ds (gn0 σ0)).2)),rowI 3 1 AL j cL (ints L),blkI gO 46 #[.slice A k c',.slice A2 j c2,.slice A3 n3 c3],rowI 74 3 A k c' (outsV (gnRun R ds (gn0 σ0)).1),blkI g 25 #[.slice AO nO cO,.slice AR nR cR],blkI (g + 1) 46 #[.slice none 0 0,.slice none 0 0,.slice none 0 0]])
            case atStart => exact ⟨_,[],none,0,0,hide ⟨.nil,by simp,by simp⟩,rfl,by omega,HS4.out⟩
            case round =>
              clear HS4 HS2
              obtain ⟨left,l,A3,n3,c3,HI,hln,hn3,hS⟩:=hrel
              have hSO:=hS
              go_wp2_with (first
                | (at_next
                   refine wpList_gmNext rfl (.tmp 117) rfl hSO 1 HZ.out rfl rfl ?_ ?_))
              · intro hc0 hl0
                have HL0:=hide (show ∀ p,p ∈ l ↔ p ∈ t.mks from fun p => ⟨fun h => HI.out.2.1 p h,fun h => (HI.out.2.2 p h).1 (hl0 p.1 p.2 h)⟩)
                have HND:=hide HI.out.1
                obtain ⟨u1,u2,u3,-⟩:=hS.rules 5 (g:=gO) (t:=46) rfl
                have u5:=(u1 2).trans (show _=some (.slice A3 n3 c3) from rfl)
                have CS:=hide (gpsort_any hS 0 rfl (by omega))
                clear hSO hS hl0 u1
                go_wp2_with fail
                refine CS.out.mono ?_
                rintro e w8 ⟨rfl,l',hpm,hso,hS8⟩
                rw [rem_sorted HMS.out HND.out HL0.out hpm hso] at hS8
                obtain ⟨u1,u2,u3,-⟩:=hS8.rules 5 (g:=gO) (t:=46) rfl
                have u5:=(u1 0).trans (show _=some (.slice A k c') from rfl)
                have u6:=(u1 1).trans (show _=some (.slice A2 j c2) from rfl)
                have u7:=(u1 2).trans (show _=some (.slice A3 n3 c3) from rfl)
                obtain ⟨x1,x2,x3,-⟩:=hS8.rules 8 (g:=g + 1) (t:=46) rfl
                have q0:=(x1 0).trans (show _=some (.slice none 0 0) from rfl)
                have q1:=(x1 1).trans (show _=some (.slice none 0 0) from rfl)
                have q2:=(x1 2).trans (show _=some (.slice none 0 0) from rfl)
                have n2:gO ≠ g + 1:=fun e => hS8.other (a:=5) (b:=8) rfl rfl (by omega) gO rfl e
                have n4:g + 1 ≠ gO:=fun e => n2 e.symm
                have HF:=hide hS8
                clear hS8 u1 x1 hpm hso CS
                go_wp2_with fail
                have hF:=((HF.out.set_ 8 (g:=g + 1) (t:=46) rfl 0 (.slice A k c')).set_ 8 (g:=g + 1) (t:=46) rfl 1 (.slice A2 j c2)).set_ 8 (g:=g + 1) (t:=46) rfl 2 (.slice A3 n3 c3)
                obtain ⟨x1,-,-,-⟩:=hF.rules 8 (g:=g + 1) (t:=46) rfl
                refine bodyPost_ret (v:=.tuple #[.agg #[.slice A k c',.slice A2 j c2,.slice A3 n3 c3],.int .i64 0]) (by simp [results,Tryz.results9,go_sem,x1]) rfl ⟨A,c',A2,j,c2,A3,n3,c3,rfl,hF.below_,hF.rd 6 rfl,hF.rd 3 rfl,?_⟩
                rw [HMK.out,← gpsV_counts]
                exact hF.rd 0 rfl
              · intro p1 p2 w5 cnt' hp hl hc hS5 hsz hent
                obtain ⟨g5,hgw⟩:∃ x,wr.heap.size=x:=⟨_,rfl⟩
                have hg5:w5.heap.size=g5:=hsz.trans hgw
                have hpl:((p1,p2):Gp) ∉ l:=fun h => by
                  have:=(HI.out.2.2 (p1,p2) hp).2 h
                  rw [hl] at this; cases this
                have HI2:=hide (show (l ++ [((p1,p2):Gp)]).Nodup ∧ (∀ p ∈ l ++ [((p1,p2):Gp)],p ∈ t.mks) ∧ (∀ p ∈ t.mks,(left p && !decide (p=((p1,p2):Gp)))=false ↔ p ∈ l ++ [((p1,p2):Gp)]) from by
                  refine ⟨List.nodup_append.2 ⟨HI.out.1,by simp,fun a ha b hb e => ?_⟩,fun p h => ?_,fun p h => ?_⟩
                  · rw [List.mem_singleton.1 hb] at e; subst e; exact hpl ha
                  · rcases List.mem_append.1 h with h | h
                    · exact HI.out.2.1 p h
                    · rw [List.mem_singleton.1 h]; exact hp
                  · rw [List.mem_append,List.mem_singleton,← HI.out.2.2 p h]
                    cases left p <;> simp)
                have hS6:=hS5.blkAt 88 #[.int .i64 (p1:Int),.int .i64 (p2:Int)] hg5
                obtain ⟨W5,hW5⟩:∃ x,w5.alloc (.cells #[.int .i64 (p1:Int),.int .i64 (p2:Int)] 88)=x:=⟨_,rfl⟩
                rw [hW5] at hS6
                obtain ⟨u1,u2,u3,-⟩:=hS6.rules 5 (g:=gO) (t:=46) rfl
                have u5:=(u1 2).trans (show _=some (.slice A3 n3 c3) from rfl)
                obtain ⟨d1,d2,d3,-⟩:=hS6.rules 9 (g:=g5) (t:=88) rfl
                have d4:=(d1 0).trans (show _=some (.int .i64 (p1:Int)) from rfl)
                have d5:=(d1 1).trans (show _=some (.int .i64 (p2:Int)) from rfl)
                unfold gpV gz at hent
                dsimp only at hent
                have HW5:=hide hW5
                have HG5:=hide hgw
                have HS6:=hide hS6
                have HC:=hide hc
                have HLL:=hide (show (l ++ [((p1,p2):Gp)]).length=n3 + 1 from by rw [List.length_append,hln]; rfl)
                have HNN:=hide (show n3 + 1 + cnt' ≤ 200 by omega)
                clear hS6 hS5 hSO hS hW5 hg5 hgw u1 d1 hp hl HI hpl
                go_upto_region 35 with fail
                rw [HW5.out,HG5.out]
                go_wp2_with (first
                  | (at_builtin
                     refine wpList_app1 (cs:=#[.int .i64 (p1:Int),.int .i64 (p2:Int)]) rfl (.tmp 123) (.tmp 125) 32 rfl (F:=No) (W:=w) sCount (items:=_ :: _ :: _ :: _ :: _ :: _ :: _ :: _) HS6.out 0 (n:=n3) rfl rfl rfl (by simp) rfl rfl (by omega) ?_
                     intro A7 c7 w7 hS7 hC7
                     obtain ⟨z1,z2,z3,-⟩:=hS7.rules 5 (g:=gO) (t:=46) rfl
                     (have z5:=(z1 2).trans (show _=some (.slice A3 n3 c3) from rfl))
                     clear z1))
                have hS8:=hS7.set_ 5 (g:=gO) (t:=46) rfl 2 (.slice A7 (n3 + 1) c7)
                have HS8:=hide (hS8.sub (l:=[_,_,_,_,_,_,_,_,_]) (List.sublist_append_left [_,_,_,_,_,_,_,_,_] [_]))
                clear hS7 hC7 hS8 HS6
                go_roundg cnt'
                case measure => exact HC.out
                case rel => exact ⟨_,l ++ [((p1,p2):Gp)],A7,n3 + 1,c7,HI2,HLL.out,HNN.out,by
                  rw [gpsV_app]
                  exact HS8.out⟩
end Go.Proofs.YtjphckfbbiehdaaGreat
