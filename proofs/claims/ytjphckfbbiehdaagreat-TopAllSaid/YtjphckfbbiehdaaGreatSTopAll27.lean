/- Part of a proof. -/
import Derived.Test.YtjphckfbbiehdaaGreatSTopAll23
import Derived.Test.YtjphckfbbiehdaaGreatSTopAll21
import Derived.Test.YtjphckfbbiehdaaGreatSTopAll25
import Derived.Test.YtjphckfbbiehdaaGreatSTopAll22
import Derived.Deep.DeepCutAuto
import Derived.Maps.OwnOps
import Derived.Maps.OwnSet
import Derived.Test.YtjphckfbbiehdaaGreatSTopAll9
set_option linter.unusedSimpArgs false
set_option linter.unusedVariables false
namespace Go.Proofs.YtjphckfbbiehdaaGreat
open Go.RowKit
def triErr (nO nR nd:Nat) (obs:List Ob) (roots:List Val) (b:Int):Int:=if gcheck nO nR obs roots ≠ 0 then gcheck nO nR obs roots else if b < 1 ∨ 3 < b then 5 else if 100 < nd then 1 else 0
theorem barV_iface {b:Int} (h:¬ (b < 1 ∨ 3 < b)):∃ q:Nat,b=(q:Int) ∧ (q=1 ∨ q=2 ∨ q=3) ∧ barV b=(barOf q).bv:=by
  obtain rfl | rfl | rfl:b=1 ∨ b=2 ∨ b=3:=by omega
  · exact ⟨1,rfl,.inl rfl,rfl⟩
  · exact ⟨2,rfl,.inr (.inl rfl),rfl⟩
  · exact ⟨3,rfl,.inr (.inr rfl),rfl⟩
theorem barV_nil {b:Int} (h:b < 1 ∨ 3 < b):barV b=.nilIface:=by
  unfold barV
  rw [if_neg (by omega),if_neg (by omega),if_neg (by omega)]
set_option maxRecDepth 100000 in
set_option maxHeartbeats 8000000 in
theorem triPlay_no (w:World) (AO AR Ad:Option Addr) (nO cO nR cR nd cd:Nat) (obs:List Ob) (roots:List Val) (b:Int) (hO:ObsRd w (fun _ => True) AO nO obs) (hR:Rd w (fun _ => True) 2 AR nR (vals roots)) (hz:triErr nO nR nd obs roots b ≠ 0) :
    Calls Tryz.prog 7 #[.agg #[.slice AO nO cO,.slice AR nR cR],.int .i64 b,.slice Ad nd cd] w fun e w' => e=.returned (.tuple #[.agg #[.slice none 0 0,.slice none 0 0,.slice none 0 0],.int .i64 (triErr nO nR nd obs roots b)]) ∧ Below w.heap.size w w':=by
  obtain ⟨g,hg⟩:∃ g,w.heap.size=g:=⟨_,rfl⟩
  have hS0:=((Sep.nil No w).blkAt 25 #[.slice AO nO cO,.slice AR nR cR] hg).blkAt 38 #[.slice none 0 0,.slice none 0 0,.slice none 0 0] (g:=g + 1) (by simp [hg])
  have C1:=hide (graphCheck_any _ AO AR nO cO nR cR obs roots (hO.below hS0.below_) (hR.below hS0.below_))
  have C2:=hide (fun w' => barrierOf_any w' b)
  obtain ⟨a1,a2,a3,a4⟩:=hS0.rules 0 (g:=g) (t:=25) rfl
  have HS0:=hide hS0
  unfold triErr at hz ⊢
  obtain ⟨x,hx⟩:∃ x,gcheck nO nR obs roots=x:=⟨_,rfl⟩
  rw [hx] at C1 hz ⊢
  clear hS0 a4 hO hR hx
  by_cases h0:x=0
  · subst h0
    rw [if_neg (by simp)] at hz ⊢
    by_cases hb:b < 1 ∨ 3 < b
    · rw [if_pos hb]
      rw [barV_nil hb] at C2
      clear hz hb
      go_enter Tryz.func7,Tryz.ntmps7
      go_wp2_with fail
      refine C1.out.mono ?_
      rintro e w1 ⟨rfl,hb1⟩
      have HS1:=hide (HS0.out.below hb1)
      clear hb1 HS0 C1 a1 a2 a3
      go_wp2_with fail
      refine (C2.out _).mono ?_
      rintro e w2 ⟨rfl,hb2⟩
      have hS2:=HS1.out.below hb2
      obtain ⟨x1,x2,x3,x4⟩:=hS2.rules 1 (g:=g + 1) (t:=38) rfl
      have HS2:=hide hS2
      clear hb2 hS2 HS1 C2 x4
      go_wp2_with fail
      have hF:=((HS2.out.set_ 1 (g:=g + 1) (t:=38) rfl 0 (.slice none 0 0)).set_ 1 (g:=g + 1) (t:=38) rfl 1 (.slice none 0 0)).set_ 1 (g:=g + 1) (t:=38) rfl 2 (.slice none 0 0)
      refine bodyPost_ret (v:=.tuple #[.agg #[.slice none 0 0,.slice none 0 0,.slice none 0 0],.int .i64 5]) (by simp [results,Tryz.results7,go_sem,x1]) rfl ⟨rfl,hF.below_⟩
    · rw [if_neg hb] at hz ⊢
      obtain ⟨q,rfl,hq,hbv⟩:=barV_iface hb
      rw [hbv] at C2
      by_cases hnd:100 < nd
      · rw [if_pos hnd]
        have t1:decide ((100:Int) < (nd:Int))=true:=by simp; omega
        have t2:decide (100 < nd)=true:=by simp; omega
        have hbq:(barOf q).bv=.iface (barOf q).T (.agg #[]):=rfl
        rw [hbq] at C2
        obtain ⟨T,hT⟩:∃ T,(barOf q).T=T:=⟨_,rfl⟩
        rw [hT] at C2
        clear hz hb hq hbv hbq hT
        go_enter Tryz.func7,Tryz.ntmps7
        go_wp2_with fail
        refine C1.out.mono ?_
        rintro e w1 ⟨rfl,hb1⟩
        have HS1:=hide (HS0.out.below hb1)
        clear hb1 HS0 C1 a1 a2 a3
        go_wp2_with fail
        refine (C2.out _).mono ?_
        rintro e w2 ⟨rfl,hb2⟩
        have hS2:=HS1.out.below hb2
        obtain ⟨x1,x2,x3,x4⟩:=hS2.rules 1 (g:=g + 1) (t:=38) rfl
        have HS2:=hide hS2
        clear hb2 hS2 HS1 C2 x4
        go_wp2_with fail
        have hF:=((HS2.out.set_ 1 (g:=g + 1) (t:=38) rfl 0 (.slice none 0 0)).set_ 1 (g:=g + 1) (t:=38) rfl 1 (.slice none 0 0)).set_ 1 (g:=g + 1) (t:=38) rfl 2 (.slice none 0 0)
        refine bodyPost_ret (v:=.tuple #[.agg #[.slice none 0 0,.slice none 0 0,.slice none 0 0],.int .i64 1]) (by simp [results,Tryz.results7,go_sem,x1]) rfl ⟨rfl,hF.below_⟩
      · rw [if_neg hnd] at hz
        exact absurd rfl hz
  · rw [if_pos h0]
    have y1:(x != 0)=true:=by rw [bne_iff_ne]; exact h0
    clear hz h0
    go_enter Tryz.func7,Tryz.ntmps7
    go_wp2_with fail
    refine C1.out.mono ?_
    rintro e w1 ⟨rfl,hb1⟩
    have hS1:=HS0.out.below hb1
    obtain ⟨x1,x2,x3,x4⟩:=hS1.rules 1 (g:=g + 1) (t:=38) rfl
    have HS1:=hide hS1
    clear hb1 hS1 HS0 C1 a1 a2 a3 x4
    go_wp2_with fail
    have hF:=((HS1.out.set_ 1 (g:=g + 1) (t:=38) rfl 0 (.slice none 0 0)).set_ 1 (g:=g + 1) (t:=38) rfl 1 (.slice none 0 0)).set_ 1 (g:=g + 1) (t:=38) rfl 2 (.slice none 0 0)
    refine bodyPost_ret (v:=.tuple #[.agg #[.slice none 0 0,.slice none 0 0,.slice none 0 0],.int .i64 x]) (by simp [results,Tryz.results7,go_sem,x1]) rfl ⟨rfl,hF.below_⟩
end Go.Proofs.YtjphckfbbiehdaaGreat

namespace Go.Proofs.YtjphckfbbiehdaaGreat
open Go.RowKit
set_option maxRecDepth 100000 in
set_option maxHeartbeats 32000000 in
theorem triPlay_ok (w:World) (AO AR Ad:Option Addr) (nO cO nR cR nd cd:Nat) (obs:List Ob) (roots:List Val) (gs:List (List Val)) (ds:List DoV) (q:Nat) (hq:q=1 ∨ q=2 ∨ q=3) (hgs:obs.map Ob.fields=gs) (hO:ObsRd w (fun _ => True) AO nO obs) (hR:Rd w (fun _ => True) 2 AR nR (vals roots)) (hcp:∀ o ∈ obs,o.A=none → o.c=0) (hz:triErr nO nR nd obs roots q=0)
    (hM:MOk ⟨padR roots nR,gs⟩) (hD:Rd w (fun _ => True) 5 Ad nd (dosV ds)) :
    Calls Tryz.prog 7 #[.agg #[.slice AO nO cO,.slice AR nR cR],.int .i64 q,.slice Ad nd cd] w fun e w' => ∃ A c A2 n2 c2 A3 n3 c3,e=.returned (.tuple #[.agg #[.slice A nd c,.slice A2 n2 c2,.slice A3 n3 c3],.int .i64 0]) ∧ Below w.heap.size w w' ∧ Rd w' (fun g => w.heap.size ≤ g) 3 A nd (outsV (coRun q ds (co0 ⟨padR roots nR,gs⟩)).1) ∧ Rd w' (fun g => w.heap.size ≤ g) 2 A2 n2 (countsV (coThere (coRun q ds (co0 ⟨padR roots nR,gs⟩)).2)) ∧ Rd w' (fun g => w.heap.size ≤ g) 1 A3 n3 (ints (coRun q ds (co0 ⟨padR roots nR,gs⟩)).2.gone):=by
  obtain ⟨hx,hnd⟩:gcheck nO nR obs roots=0 ∧ nd ≤ 100:=by
    unfold triErr at hz
    split at hz
    · rename_i h; exact absurd hz h
    · rename_i h
      split at hz
      · omega
      · split at hz
        · omega
        · exact ⟨by omega,by omega⟩
  have hG:=gok_of hO hx
  have hnO:=hG.nO_
  have hnR:=hG.nR_
  have HDL:=hide (show ds.length=nd by have:=hD.1; rw [dosV_length] at this; omega)
  have hgl:gs.length=nO:=by rw [← hgs,List.length_map]; exact hO.len
  obtain ⟨g,hg⟩:∃ g,w.heap.size=g:=⟨_,rfl⟩
  have hS0:=((Sep.nil No w).blkAt 25 #[.slice AO nO cO,.slice AR nR cR] hg).blkAt 38 #[.slice none 0 0,.slice none 0 0,.slice none 0 0] (g:=g + 1) (by simp [hg])
  have C1:=graphCheck_any _ AO AR nO cO nR cR obs roots (hO.below hS0.below_) (hR.below hS0.below_)
  rw [hx] at C1
  replace C1:=hide C1
  have C2:=fun w' => barrierOf_any w' (q:Int)
  have hbv:barV (q:Int)=.iface (barOf q).T (.agg #[]):=by
    rcases hq with rfl | rfl | rfl <;> rfl
  rw [hbv] at C2
  have HKO:=hide (fun Bm Be => coK_ok (barOf q) (barOf_ok q) Bm Be)
  have CO:=hide (fun w' (hb:Below w.heap.size w w') => heapOf_any w' AO AR nO cO nR cR obs gs hgs (hO.below hb) hnO hG.fl hcp)
  have CI:=hide (fun w' (hb:Below w.heap.size w w') => heapFirst_any w' AO AR nO cO nR cR roots (hR.below hb) hnR)
  have CR:=hide (fun (X:World) (g0:Nat) (h:Blk X g0 3 #[.int .i64 0]) => repeat_any X 0 nO g0 hnO h)
  obtain ⟨PR,hPR⟩:∃ l,padR roots nR=l:=⟨_,rfl⟩
  rw [hPR] at hM ⊢
  simp only [hPR] at CI
  obtain ⟨p0,p1,p2,p3,p4,p5,p6,p7,hp⟩:=len8 (show PR.length=8 from hM.r8)
  obtain ⟨σ0,hσ⟩:∃ σ,(⟨PR,gs⟩:MSt)=σ:=⟨_,rfl⟩
  rw [hσ] at hM ⊢
  have HSG:=hide hσ
  have HSO:=hide (show σ0.objs.length=nO by rw [← hσ]; exact hgl)
  have HAT:=hide (fun k (hk:k ≤ ds.length) => co_at hq hM ds (by rw [← hσ]; show gs.length ≤ 24; omega) (by have:=HDL.out; omega) k hk)
  have HGN:=hide (fun k (hk:k ≤ ds.length) => co_goneN hq hM ds (by rw [← hσ]; show gs.length ≤ 24; omega) (by have:=HDL.out; omega) k hk)
  have HM:=hide hM
  have HPV:=hide hp
  have hCI2:∀ w' (hb:Below w.heap.size w w'),Calls Tryz.prog 14 #[.agg #[.slice AO nO cO,.slice AR nR cR]] w' fun e w2 => e=.returned (.agg #[.bool p0.1,.int .i64 p0.2,.bool p1.1,.int .i64 p1.2,.bool p2.1,.int .i64 p2.2,.bool p3.1,.int .i64 p3.2,.bool p4.1,.int .i64 p4.2,.bool p5.1,.int .i64 p5.2,.bool p6.1,.int .i64 p6.2,.bool p7.1,.int .i64 p7.2]) ∧ Below w'.heap.size w' w2:=by rw [hp] at CI; exact CI.out
  replace CI:=hide hCI2
  obtain ⟨a1,a2,a3,a4⟩:=hS0.rules 0 (g:=g) (t:=25) rfl
  have HS0:=hide hS0
  have t1:decide ((100:Int) < (nd:Int))=false:=by simp; omega
  have t2:decide (100 < nd)=false:=by simp; omega
  have HQ:=hide hq
  obtain ⟨T,hT⟩:∃ T,(barOf q).T=T:=⟨_,rfl⟩
  rw [hT] at C2
  have HT:=hide (show (barOf q).bv=.iface T (.agg #[]) by rw [← hT]; rfl)
  have HC2:=hide C2
  clear hgs hO hR hgl hS0 hM hCI2 hG hcp hz hx hσ hPR hp a1 a4 hq hbv hT C2
  go_enter Tryz.func7,Tryz.ntmps7
  go_wp2_with fail
  refine C1.out.mono ?_
  rintro e w1 ⟨rfl,hb1⟩
  have HS1:=hide (HS0.out.below hb1)
  clear hb1 C1 HS0 a2 a3
  go_wp2_with fail
  refine (HC2.out _).mono ?_
  rintro e w2 ⟨rfl,hb2⟩
  have hS2:=HS1.out.below hb2
  obtain ⟨b1,b2,b3,b4⟩:=hS2.rules 0 (g:=g) (t:=25) rfl
  have b5:=(b1 0).trans (show _=some (.slice AO nO cO) from rfl)
  have b6:=(b1 1).trans (show _=some (.slice AR nR cR) from rfl)
  have HS2:=hide hS2
  clear hb2 hS2 HS1 HC2 b1 b4
  go_wp2_with fail
  go_cut [10] from 33 to 42 (fun s10 wx => ∃ (Be c2 cc:Nat) (As Ac:Option Addr) (ps:List Po),s10=.pointer (some ⟨Be,0,none⟩) ∧ Hid (ps.length=nO ∧ (ps.map fun p => p.o.fields)=gs) ∧ Sep No w wx [coI Be (.iface T (.agg #[])) (co1 As c2 ps Ac cc),blkI g 25 #[.slice AO nO cO,.slice AR nR cR],blkI (g + 1) 38 #[.slice none 0 0,.slice none 0 0,.slice none 0 0]])
  case first =>
    have hSa:=(HS2.out.blkAtF 3 #[.int .i64 0] (g:=w2.heap.size) rfl).drew
    have HSa:=hide hSa
    clear hSa
    go_region_held3 (fun w' => w'.cell? ⟨g,0,none⟩=some (.slice AO nO cO) ∧ w'.cell? ⟨g,1,none⟩=some (.slice AR nR cR)) (simp (config:={ maxDischargeDepth:=8 }) [*,World.cell?_alloc_some])
      (first
        | (go_at_call 13
           first
           | (with_reducible refine (CO.out _ HSa.out.below_).mono ?_
              rintro e w4 ⟨As,c2,ps,rfl,hpl,hpf,hP4⟩
              have hS4:=objs_new HSa.out hP4
              obtain ⟨k1,k2,k3,_⟩:=hS4.rules 2 (g:=g) (t:=25) rfl
              (have k5:=(k1 0).trans (show _=some (.slice AO nO cO) from rfl))
              (have k6:=(k1 1).trans (show _=some (.slice AR nR cR) from rfl))
              have HS4:=hide hS4
              have HPL:=hide hpl
              have HPF:=hide hpf
              have HFST:=hide True.intro
              clear hS4 hP4 k1 hpl hpf)
           | (with_reducible refine (CO.out _ HS2.out.drew.below_).mono ?_
              rintro e w4 ⟨As,c2,ps,rfl,hpl,hpf,hP4⟩
              have hS4:=(objs_new HS2.out.drew hP4)
              obtain ⟨k1,k2,k3,_⟩:=hS4.rules 1 (g:=g) (t:=25) rfl
              (have k5:=(k1 0).trans (show _=some (.slice AO nO cO) from rfl))
              (have k6:=(k1 1).trans (show _=some (.slice AR nR cR) from rfl))
              have HS4:=hide ((hS4.blkAtF 3 #[.int .i64 0] (g:=w4.heap.size) rfl).perm (List.Perm.swap _ _ _))
              have HPL:=hide hpl
              have HPF:=hide hpf
              clear hS4 hP4 k1 hpl hpf))
        | (go_at_call 21
           (with_reducible refine (CR.out _ _ (HS4.out.get 1 rfl)).mono ?_)
           rintro e w5 ⟨Ac,cc,rfl,hP5⟩
           have hS5:=row_new HS4.out hP5
           obtain ⟨l1,l2,l3,_⟩:=hS5.rules 3 (g:=g) (t:=25) rfl
           (have l5:=(l1 0).trans (show _=some (.slice AO nO cO) from rfl))
           (have l6:=(l1 1).trans (show _=some (.slice AR nR cR) from rfl))
           have HS5:=hide hS5
           clear hP5 hS5 HS4 l1))
    all_goals
      go_wp2_with fail
      go_meet
      case rel => exact ⟨w5.heap.size,c2,cc,As,Ac,ps,rfl,hide ⟨HPL.out,HPF.out⟩,((co_mk HPL.out (HS5.out.blkAtF 95 #[.slice As nO c2,.iface T (.agg #[]),.slice Ac nO cc,.slice none 0 0] (g:=w5.heap.size) rfl)).perm (List.Perm.cons _ (List.perm_append_comm (l₁:=[_]) (l₂:=[_,_])))).sub (List.sublist_append_left [_,_,_] [_])⟩
  case rest =>
    obtain ⟨Be,c2,cc,As,Ac,ps,rfl,HPP,hS7⟩:=hcut
    have HPL:=hide HPP.out.1
    have HPF:=hide HPP.out.2
    clear HPP CO CR b2 b3 b5 b6 HS2
    obtain ⟨l1,l2,l3,_⟩:=hS7.rules 1 (g:=g) (t:=25) rfl
    have l5:=(l1 0).trans (show _=some (.slice AO nO cO) from rfl)
    have l6:=(l1 1).trans (show _=some (.slice AR nR cR) from rfl)
    have CI2:=hide (CI.out _ hS7.below_)
    have HS7:=hide hS7
    clear hS7 l1 CI
    go_wp2_with fail
    refine CI2.out.mono ?_
    rintro e w6 ⟨rfl,hb6⟩
    obtain ⟨Bm,hBm⟩:∃ x,w6.heap.size=x:=⟨_,rfl⟩
    have hS8:=(HS7.out.below hb6).blkAtF 70 #[.bool p0.1,.int .i64 p0.2,.bool p1.1,.int .i64 p1.2,.bool p2.1,.int .i64 p2.2,.bool p3.1,.int .i64 p3.2,.bool p4.1,.int .i64 p4.2,.bool p5.1,.int .i64 p5.2,.bool p6.1,.int .i64 p6.2,.bool p7.1,.int .i64 p7.2,.iface 92 (.pointer (some ⟨Be,0,none⟩))] hBm
    have hS9:=hS8.perm (List.Perm.swap _ _ _)
    have hregs:σ0.regs=[p0,p1,p2,p3,p4,p5,p6,p7]:=by rw [← HSG.out]; exact HPV.out
    have hc1:(co1 As c2 ps Ac cc).cols.length=nO:=by show (List.replicate ps.length (0:Int)).length=nO; rw [List.length_replicate]; exact HPL.out
    have CB:=begin_any (hS9.get 0 rfl) (by rw [hc1]; omega) (regs:=[p0,p1,p2,p3,p4,p5,p6,p7]) rfl (fun v hv h1 => by
      rw [← hregs] at hv
      obtain ⟨h2,h3⟩:=HM.out.vr v hv h1
      obtain ⟨z,hz⟩:=int_nat h2
      exact ⟨z,hz,by rw [hc1]; have:=HSO.out; omega⟩)
    have hCB2:Calls Tryz.prog 22 #[.pointer (some ⟨Be,0,none⟩),.agg #[.bool p0.1,.int .i64 p0.2,.bool p1.1,.int .i64 p1.2,.bool p2.1,.int .i64 p2.2,.bool p3.1,.int .i64 p3.2,.bool p4.1,.int .i64 p4.2,.bool p5.1,.int .i64 p5.2,.bool p6.1,.int .i64 p6.2,.bool p7.1,.int .i64 p7.2]] _ _:=CB
    obtain ⟨f1,f2,f3,_⟩:=hS9.rules 1 (g:=Bm) (t:=70) rfl
    have e0:=(f1 0).trans (show _=some (.bool p0.1) from rfl)
    have e1:=(f1 1).trans (show _=some (.int .i64 p0.2) from rfl)
    have e2:=(f1 2).trans (show _=some (.bool p1.1) from rfl)
    have e3:=(f1 3).trans (show _=some (.int .i64 p1.2) from rfl)
    have e4:=(f1 4).trans (show _=some (.bool p2.1) from rfl)
    have e5:=(f1 5).trans (show _=some (.int .i64 p2.2) from rfl)
    have e6:=(f1 6).trans (show _=some (.bool p3.1) from rfl)
    have e7:=(f1 7).trans (show _=some (.int .i64 p3.2) from rfl)
    have e8:=(f1 8).trans (show _=some (.bool p4.1) from rfl)
    have e9:=(f1 9).trans (show _=some (.int .i64 p4.2) from rfl)
    have e10:=(f1 10).trans (show _=some (.bool p5.1) from rfl)
    have e11:=(f1 11).trans (show _=some (.int .i64 p5.2) from rfl)
    have e12:=(f1 12).trans (show _=some (.bool p6.1) from rfl)
    have e13:=(f1 13).trans (show _=some (.int .i64 p6.2) from rfl)
    have e14:=(f1 14).trans (show _=some (.bool p7.1) from rfl)
    have e15:=(f1 15).trans (show _=some (.int .i64 p7.2) from rfl)
    have HCB:=hide hCB2
    have HS9:=hide hS9
    have HAB:=hide (show ((co1 As c2 ps Ac cc).col (beginC (co1 As c2 ps Ac cc).cols.length [p0,p1,p2,p3,p4,p5,p6,p7])).a [p0,p1,p2,p3,p4,p5,p6,p7]=(coRun q (ds.take 0) (co0 σ0)).2 from by
      rw [List.take_zero,hc1]
      show (⟨_,(co1 As c2 ps Ac cc).oj.abs,_,_⟩:CoA)=co0 σ0
      rw [co1_abs,HPF.out]
      unfold co0
      rw [hregs,← HSO.out,← HSG.out]
      rfl)
    clear hS8 hS9 CB hCB2 HS7 CI2 f1 hb6 l2 l3 l5 l6 hregs hc1
    go_wp2_with fail
    refine HCB.out.mono ?_
    rintro e w7 ⟨⟨u,rfl⟩,hP7⟩
    have hS10:=(HS9.out.call 0 rfl hP7).nilRow0 74 3
    obtain ⟨gO,hgO⟩:∃ x,w7.heap.size=x:=⟨_,rfl⟩
    have hS11:=hS10.blkAtF 38 #[.slice none 0 0,.slice none 0 0,.slice none 0 0] hgO
    have HS11:=hide (hS11.perm (l:=[coI Be (.iface T (.agg #[])) ((co1 As c2 ps Ac cc).col (beginC (co1 As c2 ps Ac cc).cols.length [p0,p1,p2,p3,p4,p5,p6,p7])),blkI Bm 70 (mcCells [p0,p1,p2,p3,p4,p5,p6,p7] (.iface 92 (.pointer (some ⟨Be,0,none⟩)))),blkI gO 38 #[.slice none 0 0,.slice none 0 0,.slice none 0 0],rowI 74 3 none 0 0 [],blkI g 25 #[.slice AO nO cO,.slice AR nR cR],blkI (g + 1) 38 #[.slice none 0 0,.slice none 0 0,.slice none 0 0]]) (by
      exact (List.perm_append_comm (l₁:=[_,_]) (l₂:=[_,_])).append_right _))
    clear hP7 hS10 hS11 HS9 HCB e0 e1 e2 e3 e4 e5 e6 e7 e8 e9 e10 e11 e12 e13 e14 e15 f2 f3
    go_wp2_with fail
    go_loopw [57] (fun i wr => ∃ (k:Nat) (A:Option Addr) (c:Nat) (s:CoS) (regs:List Val),k ≤ nd ∧ i=.int .i64 k ∧ Hid (s.a regs=(coRun q (ds.take k) (co0 σ0)).2) ∧
      Sep No w wr [coI Be (.iface T (.agg #[])) s,blkI Bm 70 (mcCells regs (.iface 92 (.pointer (some ⟨Be,0,none⟩)))),blkI gO 38 #[.slice A k c,.slice none 0 0,.slice none 0 0],rowI 74 3 A k c (outsV (coRun q (ds.take k) (co0 σ0)).1),blkI g 25 #[.slice AO nO cO,.slice AR nR cR],blkI (g + 1) 38 #[.slice none 0 0,.slice none 0 0,.slice none 0 0]]) (fun i _ => nd - (intOf i).toNat)
    case atStart => exact ⟨0,none,0,_,_,by omega,rfl,HAB.out,HS11.out⟩
    case round =>
      clear HS11 HAB
      obtain ⟨k,A,c,s,regs,hk,rfl,HA,hS⟩:=hrel
      by_cases hlt:k < nd
      · have hkl:k < ds.length:=by rw [HDL.out]; exact hlt
        obtain ⟨ok0,on,_⟩:=HAT.out k (by omega)
        have hgn:=HGN.out k (by omega)
        rw [← HA.out] at ok0 on hgn
        have hgn2:s.gone.length ≤ 100000:=by have h1:(s.a regs).gone.length=s.gone.length:=rfl; omega
        obtain ⟨v0,v1,v2,v3,v4⟩:=dosV_at ds k hkl
        obtain ⟨ad,hA,_,had,hc,hd⟩:=(hD.below hS.below_).atN hlt
        have e0:=hc _ v0
        have e1:=hd 0 _ v1
        have e2:=hd 1 _ v2
        have e3:=hd 2 _ v3
        have e4:=hd 3 _ v4
        have hrs:=coRun_at q ds (co0 σ0) k hkl
        rw [← HA.out] at hrs
        obtain ⟨d,hd'⟩:∃ d,ds[k]=d:=⟨_,rfl⟩
        rw [hd'] at e0 e1 e2 e3 e4 hrs
        obtain ⟨gd,hgd⟩:∃ x,wr.heap.size=x:=⟨_,rfl⟩
        have hS2:=(hS.blkAt 72 d.cells hgd).blkAt 74 #[.int .i64 0,.bool false,.int .i64 0] (g:=gd + 1) (by simp [hgd])
        have hgO:=hS.hi 2 rfl gO rfl
        have hBm:=hS.hi 1 rfl Bm rfl
        have n1:gO ≠ gd:=by omega
        have n2:gO ≠ gd + 1:=by omega
        have n3:gd ≠ gO:=by omega
        have n4:gd + 1 ≠ gO:=by omega
        have n5:gd + 1 ≠ gd:=by omega
        have n6:gd ≠ gd + 1:=by omega
        subst hA
        by_cases h8:d.k=8
        · have CW:=hide (cowork_any (hS2.get 0 rfl) ok0)
          have hst:coStep q d (s.a regs)=coWork (s.a regs):=by unfold coStep; rw [if_pos h8]
          rw [hst] at hrs
          have HRS:=hide hrs
          have HS2:=hide hS2
          obtain ⟨dk,dto,dfr,dat,dn⟩:=d
          dsimp only at h8 e0 e1 e2 e3 e4
          subst h8
          clear hrs hS2 hS hc hd v0 v1 v2 v3 v4 hd' hst ok0 on hgn hgn2
          unfold DoV.cells at CW HS2
          go_wp2_with fail
          refine CW.out.mono ?_
          rintro e w4 ⟨x,s',rfl,hcw,hP4⟩
          have hS4:=HS2.out.call 0 rfl hP4
          obtain ⟨u1,u2,u3,_⟩:=hS4.rules 2 (g:=gO) (t:=38) rfl
          have u5:=(u1 0).trans (show _=some (.slice A k c) from rfl)
          obtain ⟨x1,x2,x3,_⟩:=hS4.rules 7 (g:=gd + 1) (t:=74) rfl
          have x5:=(x1 0).trans (show _=some (.int .i64 0) from rfl)
          have x6:=(x1 1).trans (show _=some (.bool false) from rfl)
          have x7:=(x1 2).trans (show _=some (.int .i64 0) from rfl)
          have hrs:=HRS.out
          rw [hcw] at hrs
          have HRS:=hide hrs
          have HS5:=hide (hS4.set_ 7 (g:=gd + 1) (t:=74) rfl 0 (.int .i64 x))
          clear hS4 hP4 HS2 CW u1 x1 hrs hcw
          go_wp2_with (first
            | (at_builtin
               refine wpList_app1 (cs:=#[.int .i64 x,.bool false,.int .i64 0]) rfl (.tmp 82) (.tmp 84) 27 rfl (F:=No) (W:=w) sOut (items:=_ :: _ :: _ :: _ :: _) HS5.out 3 (n:=k) rfl rfl rfl (by simp) rfl rfl (by omega) ?_
               intro A6 c6 w6 hS6 hC6
               obtain ⟨u1,u2,u3,_⟩:=hS6.rules 2 (g:=gO) (t:=38) rfl))
          have hS7:=hS6.set_ 2 (g:=gO) (t:=38) rfl 0 (.slice A6 (k + 1) c6)
          have HS7:=hide (hS7.sub (l:=[_,_,_,_,_,_]) (List.sublist_append_left [_,_,_,_,_,_] [_,_]))
          clear hS6 hC6 hS7 u1 HS5
          go_roundw
          case rel => exact ⟨k + 1,A6,c6,s',regs,by omega,by go_num,by rw [HRS.out]; exact hide rfl,by
            rw [HRS.out]
            dsimp only
            rw [outsV_app,outsV_one]
            exact HS7.out⟩
          case measure => simp [intOf]; omega
        by_cases h9:d.k=9
        · obtain ⟨q0,q1,q2,q3,q4,q5,q6,q7,hq8⟩:=len8 (show regs.length=8 from ok0.r8)
          subst hq8
          unfold DoV.cells at hS2
          have CS:=cosweep_any (hS2.get 0 rfl) ok0 hgn2
          have hCS:Calls Tryz.prog 24 #[.pointer (some ⟨Be,0,none⟩),.agg #[.bool q0.1,.int .i64 q0.2,.bool q1.1,.int .i64 q1.2,.bool q2.1,.int .i64 q2.2,.bool q3.1,.int .i64 q3.2,.bool q4.1,.int .i64 q4.2,.bool q5.1,.int .i64 q5.2,.bool q6.1,.int .i64 q6.2,.bool q7.1,.int .i64 q7.2]] _ _:=CS
          obtain ⟨f1,f2,f3,_⟩:=hS2.rules 1 (g:=Bm) (t:=70) rfl
          have r0:=(f1 0).trans (show _=some (.bool q0.1) from rfl)
          have r1:=(f1 1).trans (show _=some (.int .i64 q0.2) from rfl)
          have r2:=(f1 2).trans (show _=some (.bool q1.1) from rfl)
          have r3:=(f1 3).trans (show _=some (.int .i64 q1.2) from rfl)
          have r4:=(f1 4).trans (show _=some (.bool q2.1) from rfl)
          have r5:=(f1 5).trans (show _=some (.int .i64 q2.2) from rfl)
          have r6:=(f1 6).trans (show _=some (.bool q3.1) from rfl)
          have r7:=(f1 7).trans (show _=some (.int .i64 q3.2) from rfl)
          have r8:=(f1 8).trans (show _=some (.bool q4.1) from rfl)
          have r9:=(f1 9).trans (show _=some (.int .i64 q4.2) from rfl)
          have r10:=(f1 10).trans (show _=some (.bool q5.1) from rfl)
          have r11:=(f1 11).trans (show _=some (.int .i64 q5.2) from rfl)
          have r12:=(f1 12).trans (show _=some (.bool q6.1) from rfl)
          have r13:=(f1 13).trans (show _=some (.int .i64 q6.2) from rfl)
          have r14:=(f1 14).trans (show _=some (.bool q7.1) from rfl)
          have r15:=(f1 15).trans (show _=some (.int .i64 q7.2) from rfl)
          have hst:coStep q d (s.a [q0,q1,q2,q3,q4,q5,q6,q7])=coSweep (s.a [q0,q1,q2,q3,q4,q5,q6,q7]):=by unfold coStep; rw [if_neg (by omega),if_pos h9]
          rw [hst] at hrs
          have HRS:=hide hrs
          have HS2:=hide hS2
          have HCS:=hide hCS
          obtain ⟨dk,dto,dfr,dat,dn⟩:=d
          dsimp only at h9 e0 e1 e2 e3 e4 HS2 HCS r0 r1 r2 r3 r4 r5 r6 r7 r8 r9 r10 r11 r12 r13 r14 r15 f2 f3
          subst h9
          clear hrs hS2 hS hc hd v0 v1 v2 v3 v4 hd' hst ok0 on hgn hgn2 CS hCS f1 h8
          go_wp2_with fail
          refine HCS.out.mono ?_
          rintro e w4 ⟨x,s',rfl,hcw,hP4⟩
          have hS4:=HS2.out.call 0 rfl hP4
          obtain ⟨u1,u2,u3,_⟩:=hS4.rules 2 (g:=gO) (t:=38) rfl
          have u5:=(u1 0).trans (show _=some (.slice A k c) from rfl)
          obtain ⟨x1,x2,x3,_⟩:=hS4.rules 7 (g:=gd + 1) (t:=74) rfl
          have x5:=(x1 0).trans (show _=some (.int .i64 0) from rfl)
          have x6:=(x1 1).trans (show _=some (.bool false) from rfl)
          have x7:=(x1 2).trans (show _=some (.int .i64 0) from rfl)
          have hrs:=HRS.out
          rw [hcw] at hrs
          have HRS:=hide hrs
          have HS5:=hide (hS4.set_ 7 (g:=gd + 1) (t:=74) rfl 0 (.int .i64 x))
          clear hS4 hP4 HS2 HCS u1 x1 hrs hcw r0 r1 r2 r3 r4 r5 r6 r7 r8 r9 r10 r11 r12 r13 r14 r15
          go_wp2_with (first
            | (at_builtin
               refine wpList_app1 (cs:=#[.int .i64 x,.bool false,.int .i64 0]) rfl (.tmp 82) (.tmp 84) 27 rfl (F:=No) (W:=w) sOut (items:=_ :: _ :: _ :: _ :: _) HS5.out 3 (n:=k) rfl rfl rfl (by simp) rfl rfl (by omega) ?_
               intro A6 c6 w6 hS6 hC6
               obtain ⟨u1,u2,u3,_⟩:=hS6.rules 2 (g:=gO) (t:=38) rfl))
          have hS7:=hS6.set_ 2 (g:=gO) (t:=38) rfl 0 (.slice A6 (k + 1) c6)
          have HS7:=hide (hS7.sub (l:=[_,_,_,_,_,_]) (List.sublist_append_left [_,_,_,_,_,_] [_,_]))
          clear hS6 hC6 hS7 u1 HS5
          go_roundw
          case rel => exact ⟨k + 1,A6,c6,s',[q0,q1,q2,q3,q4,q5,q6,q7],by omega,by go_num,by rw [HRS.out]; exact hide rfl,by
            rw [HRS.out]
            dsimp only
            rw [outsV_app,outsV_one]
            exact HS7.out⟩
          case measure => simp [intOf]; omega
        · have hS2b:Sep No w ((wr.alloc (.cells d.cells 72)).alloc (.cells #[.int .i64 0,.bool false,.int .i64 0] 74)) (coI Be (barOf q).bv s :: blkI Bm 70 (mcCells regs (.iface 92 (.pointer (some ⟨Be,0,none⟩)))) :: [blkI gO 38 #[.slice A k c,.slice none 0 0,.slice none 0 0],rowI 74 3 A k c (outsV (coRun q (ds.take k) (co0 σ0)).1),blkI g 25 #[.slice AO nO cO,.slice AR nR cR],blkI (g + 1) 38 #[.slice none 0 0,.slice none 0 0,.slice none 0 0],blkI gd 72 d.cells,blkI (gd + 1) 74 #[.int .i64 0,.bool false,.int .i64 0]]):=by rw [HT.out]; exact hS2
          have CD:=codo_any q hS2b ok0 (by omega) d
          rw [HT.out] at CD
          have hst:coStep q d (s.a regs)=coDo (barOf q) d (s.a regs):=by unfold coStep; rw [if_neg h8,if_neg h9]
          rw [hst] at hrs
          have HRS:=hide hrs
          have HCD:=hide CD
          obtain ⟨dk,dto,dfr,dat,dn⟩:=d
          dsimp only at h8 h9 e0 e1 e2 e3 e4
          have y8:(dk == 8)=false:=by simp [h8]
          have y9:(dk == 9)=false:=by simp [h9]
          clear hrs hS2 hS2b hS hc hd v0 v1 v2 v3 v4 hd' hst ok0 on hgn hgn2 CD h8 h9
          unfold DoV.cells at HCD
          go_wp2_with fail
          refine HCD.out.mono ?_
          rintro e w4 ⟨oc,orf,on,s',regs',rfl,hcw,hS4⟩
          obtain ⟨u1,u2,u3,_⟩:=hS4.rules 2 (g:=gO) (t:=38) rfl
          have u5:=(u1 0).trans (show _=some (.slice A k c) from rfl)
          obtain ⟨x1,x2,x3,_⟩:=hS4.rules 7 (g:=gd + 1) (t:=74) rfl
          have x5:=(x1 0).trans (show _=some (.int .i64 0) from rfl)
          have x6:=(x1 1).trans (show _=some (.bool false) from rfl)
          have x7:=(x1 2).trans (show _=some (.int .i64 0) from rfl)
          have hrs:=HRS.out
          rw [hcw] at hrs
          have HRS:=hide hrs
          have HS5:=hide (((hS4.set_ 7 (g:=gd + 1) (t:=74) rfl 0 (.int .i64 oc)).set_ 7 (g:=gd + 1) (t:=74) rfl 1 (.bool orf)).set_ 7 (g:=gd + 1) (t:=74) rfl 2 (.int .i64 on))
          clear hS4 HCD u1 x1 hrs hcw
          go_wp2_with (first
            | (at_builtin
               refine wpList_app1 (cs:=#[.int .i64 oc,.bool orf,.int .i64 on]) rfl (.tmp 82) (.tmp 84) 27 rfl (F:=No) (W:=w) sOut (items:=_ :: _ :: _ :: _ :: _) HS5.out 3 (n:=k) rfl rfl rfl (by simp) rfl rfl (by omega) ?_
               intro A6 c6 w6 hS6 hC6
               obtain ⟨u1,u2,u3,_⟩:=hS6.rules 2 (g:=gO) (t:=38) rfl))
          have hS7:=hS6.set_ 2 (g:=gO) (t:=38) rfl 0 (.slice A6 (k + 1) c6)
          have HS7:=hide (hS7.sub (l:=[_,_,_,_,_,_]) (List.sublist_append_left [_,_,_,_,_,_] [_,_]))
          clear hS6 hC6 hS7 u1 HS5
          go_roundw
          case rel => exact ⟨k + 1,A6,c6,s',regs',by omega,by go_num,by rw [HRS.out]; exact hide rfl,by
            rw [HRS.out]
            dsimp only
            rw [outsV_app,outsV_one]
            exact HS7.out⟩
          case measure => simp [intOf]; omega
      · obtain rfl:k=nd:=by omega
        obtain ⟨ok0,on,_⟩:=HAT.out k (by have:=HDL.out; omega)
        rw [← HA.out] at ok0 on
        rw [List.take_of_length_le (by rw [HDL.out]; exact Nat.le_refl _)] at HA hS
        have hn:s.oj.ps.length ≤ 1000:=by have h1:=coa_len s regs; omega
        have hcl:s.cols.length=s.oj.ps.length:=ok0.cl.trans (coa_len s regs)
        obtain ⟨b0,_,b2⟩:=co_01 (hS.get 0 rfl)
        have CT:=hide (oThere_any wr s.oj.As s.oj.ps.length s.oj.c s.oj.ps hn (((Sep.start (hS.get 0 rfl)).flat).rd_ 3 rfl))
        have HTN:=hide (fun x (h:x ∈ thereL s.oj.ps) => thereL_nat h)
        have HTL:=hide (thereK_len s.oj.ps s.oj.ps.length)
        obtain ⟨L,hL⟩:∃ l,thereL s.oj.ps=l:=⟨_,rfl⟩
        have hm1 : L.length ≤ 1000 := by have h1 := HTL.out; have h2 : L.length = (thereK s.oj.ps s.oj.ps.length).length := by { rw [← hL]; rfl }
                                         omega
        have HTH:=hide (show coThere (coRun q ds (co0 σ0)).2=L.map fun x => (x,s.cols.getD x.toNat 0) from by
          rw [← HA.out]
          unfold coThere
          rw [show thereL (s.a regs).objs=thereL s.oj.ps from thereL_abs s.oj,hL]
          rfl)
        have HGO:=hide (show (coRun q ds (co0 σ0)).2.gone=s.gone from by rw [← HA.out]; rfl)
        rw [hL] at CT HTN
        have HS:=hide hS
        clear hS ok0 on HTL hL HA
        obtain ⟨N,hN⟩:∃ n,s.oj.ps.length=n:=⟨_,rfl⟩
        rw [hN] at hn hcl b0 CT HTN
        have HCL:=hide hcl
        clear hN hcl
        go_wp2_with fail
        refine CT.out.mono ?_
        rintro e w1 ⟨AL,cL,rfl,hPL⟩
        obtain ⟨m,hm⟩:∃ m,L.length=m:=⟨_,rfl⟩
        rw [hm] at hPL hm1 ⊢
        have HM2:=hide hm
        have HS1:=hide ((row_new HS.out hPL).nilRow0 88 2)
        clear hPL HS CT hm b0 b2
        go_wp2_with fail
        go_loopw [94] (fun i wr => ∃ (j:Nat) (A2:Option Addr) (c2:Nat),j ≤ m ∧ i=.int .i64 j ∧
          Sep No w wr [rowI 88 2 A2 j c2 (countsV ((L.take j).map fun x => (x,s.cols.getD x.toNat 0))),rowI 3 1 AL m cL (ints L),coI Be (.iface T (.agg #[])) s,blkI Bm 70 (mcCells regs (.iface 92 (.pointer (some ⟨Be,0,none⟩)))),blkI gO 38 #[.slice A k c,.slice A2 j c2,.slice none 0 0],rowI 74 3 A k c (outsV (coRun q ds (co0 σ0)).1),blkI g 25 #[.slice AO nO cO,.slice AR nR cR],blkI (g + 1) 38 #[.slice none 0 0,.slice none 0 0,.slice none 0 0]]) (fun i _ => m - (intOf i).toNat)
        case atStart => exact ⟨0,none,0,by omega,rfl,HS1.out⟩
        case round =>
          clear HS1
          obtain ⟨j,A2,c2,hj,rfl,hS⟩:=hrel
          by_cases hlt:j < m
          · have hkl:j < L.length:=by rw [HM2.out]; exact hlt
            obtain ⟨ad,hA,_,had,hc⟩:=(hS.rd_ 1 rfl).at_ hlt
            have e0:=hc (.int .i64 L[j]) (by simp [ints,List.getElem?_eq_getElem hkl])
            have hT:=List.take_succ_eq_append_getElem hkl
            have hmem:L[j] ∈ L:=List.getElem_mem hkl
            obtain ⟨x,hx⟩:∃ x,L[j]=x:=⟨_,rfl⟩
            rw [hx] at e0 hT hmem
            obtain ⟨z,rfl,hz⟩:=HTN.out x hmem
            obtain ⟨gc,hAc,d0,d1,_,d3,d4,n7⟩:=co_cell (hS.get 2 rfl) (z:=z) (by rw [HCL.out]; exact hz)
            rw [HCL.out] at d0
            obtain ⟨y,hy⟩:∃ y,s.cols.getD z 0=y:=⟨_,rfl⟩
            rw [hy] at d1
            have HTT:=hide (show (L.take (j + 1)).map (fun x => (x,s.cols.getD x.toNat 0))=(L.take j).map (fun x => (x,s.cols.getD x.toNat 0)) ++ [((z:Int),y)] from by
              rw [hT,List.map_append,List.map_cons,List.map_nil,Int.toNat_natCast,hy])
            obtain ⟨u1,u2,u3,_⟩:=hS.rules 4 (g:=gO) (t:=38) rfl
            have u5:=(u1 1).trans (show _=some (.slice A2 j c2) from rfl)
            have t3:decide ((z:Int) < 0)=false:=by simp
            have t4:decide ((N:Int) ≤ (z:Int))=false:=by simp; omega
            have t5:(0:Int) ≤ (z:Int):=by omega
            have t6:(z:Int) < (N:Int):=by omega
            have HS:=hide hS
            have n1:gO ≠ Be:=fun e => hS.other (a:=4) (b:=2) rfl rfl (by omega) gO rfl ⟨blkI Be 95 (coC (.iface T (.agg #[])) s),by simp [coR],e⟩
            have n2:gO ≠ gc:=fun e => hS.other (a:=4) (b:=2) rfl rfl (by omega) gO rfl ⟨rowI 3 1 s.Ac s.cols.length s.cc (ints s.cols),by simp [coR],by show (Value.slice s.Ac s.cols.length s.cc).ownBlock=some gO; rw [hAc,e]; rfl⟩
            have n3:Be ≠ gO:=fun e => n1 e.symm
            have n4:gc ≠ gO:=fun e => n2 e.symm
            obtain ⟨scc,hscc⟩:∃ c,s.cc=c:=⟨_,rfl⟩
            rw [hscc] at d0
            have HCO:=hide (fun (X:World) (h:(coI Be (.iface T (.agg #[])) s).P X) => co_cell_at h (z:=z) (by rw [HCL.out]; exact hz) hAc)
            simp only [HCL.out,hy,hscc] at HCO
            subst hA
            clear hc hT hmem hx hy hS u1 hAc hscc
            go_wp2_with fail
            try clear hD
            try clear hnd
            try clear hnO
            try clear hnR
            try clear HDL
            try clear HKO
            try clear HSG
            try clear HSO
            try clear HAT
            try clear HGN
            try clear HM
            try clear HPV
            try clear HQ
            try clear HT
            try clear HPL
            try clear HPF
            try clear HTH
            try clear HGO
            try clear HTN
            try clear HCL
            try clear HM2
            try clear CO
            try clear CR
            try clear HCI
            try clear t1
            try clear t2
            try clear hg
            try clear hn
            try clear hk
            try clear had
            try clear hkl
            try clear e0
            try clear HFST
            go_region_law (first
              | (refine step_app1d (cs:=#[.int .i64 z,.int .i64 y]) rfl (.tmp 99) (.tmp 109) 32 rfl (F:=No) (W:=w) sCount (items:=_ :: _ :: _ :: _ :: _ :: _ :: _ :: _) HS.out 0 (n:=j) rfl rfl rfl (by simp) rfl rfl (by omega) ?_
                 intro A7 c7 w7 hS7 hC7
                 obtain ⟨z1,z2,z3,z4⟩:=hS7.rules 4 (g:=gO) (t:=38) rfl
                 (have z5:=(z1 1).trans (show _=some (.slice A2 j c2) from rfl))
                 obtain ⟨o1,o2,o3,o4⟩:=HCO.out w7 (hS7.get 2 rfl)
                 clear z1 z4))
            all_goals
              have HS8:=hide (hS7.set_ 4 (g:=gO) (t:=38) rfl 1 (.slice A7 (j + 1) c7))
              clear hS7 hC7
              go_wp2_with fail
              go_roundw
              case rel => exact ⟨j + 1,A7,c7,by omega,by go_num,by
                rw [HTT.out,countsV_app]
                exact HS8.out⟩
              case measure => simp [intOf]; omega
          · obtain rfl:j=m:=by omega
            rw [List.take_of_length_le (by rw [HM2.out]; exact Nat.le_refl _),← HTH.out] at hS
            obtain ⟨u1,u2,u3,_⟩:=hS.rules 4 (g:=gO) (t:=38) rfl
            have u5:=(u1 0).trans (show _=some (.slice A k c) from rfl)
            have u6:=(u1 1).trans (show _=some (.slice A2 j c2) from rfl)
            have u7:=(u1 2).trans (show _=some (.slice none 0 0) from rfl)
            have hCf:=(Sep.start (hS.get 2 rfl)).flat
            obtain ⟨b1,_,b3,_⟩:=hCf.rules 0 (g:=Be) (t:=95) rfl
            have b5:=(b1 3).trans (show _=some (.slice s.Ag s.gone.length s.cg) from rfl)
            obtain ⟨x1,x2,x3,_⟩:=hS.rules 7 (g:=g + 1) (t:=38) rfl
            have n1:gO ≠ Be:=fun e => hS.other (a:=4) (b:=2) rfl rfl (by omega) gO rfl ⟨blkI Be 95 (coC (.iface T (.agg #[])) s),by simp [coR],e⟩
            have n2:gO ≠ g + 1:=fun e => hS.other (a:=4) (b:=7) rfl rfl (by omega) gO rfl e
            have n3:Be ≠ gO:=fun e => n1 e.symm
            have n4:g + 1 ≠ gO:=fun e => n2 e.symm
            have HF1:=hide ((hS.set_ 4 (g:=gO) (t:=38) rfl 2 (.slice s.Ag s.gone.length s.cg)).set_ 7 (g:=g + 1) (t:=38) rfl 0 (.slice A k c))
            obtain ⟨gl,hgl⟩:∃ x,s.gone.length=x:=⟨_,rfl⟩
            have HGL:=hide hgl
            rw [hgl] at b5
            clear hS hCf b1 u1 hgl
            go_wp2_with fail
            have hF:=(HF1.out.set_ 7 (g:=g + 1) (t:=38) rfl 1 (.slice A2 j c2)).set_ 7 (g:=g + 1) (t:=38) rfl 2 (.slice s.Ag s.gone.length s.cg)
            rw [HGL.out] at hF
            refine bodyPost_ret (v:=.tuple #[.agg #[.slice A k c,.slice A2 j c2,.slice s.Ag gl s.cg],.int .i64 0]) (by simp [results,Tryz.results7,go_sem,x1]) rfl ⟨A,c,A2,j,c2,s.Ag,gl,s.cg,rfl,hF.below_,hF.rd 5 rfl,hF.rd 0 rfl,?_⟩
            rw [HGO.out]
            have hrow:World.ownsRow _ 0 3 1 (.slice s.Ag s.gone.length s.cg) s.gone.length (ints s.gone):=(Sep.start (hF.get 2 rfl)).flat.get 2 rfl
            rw [HGL.out] at hrow
            exact Rd.of_own hrow (fun g' hg' => (hF.lo 2 rfl g' ⟨rowI 3 1 s.Ag s.gone.length s.cg (ints s.gone),by simp [coR],by show (Value.slice s.Ag s.gone.length s.cg).ownBlock=some g'; rw [hg']; rfl⟩).resolve_left (fun h => h))
end Go.Proofs.YtjphckfbbiehdaaGreat

namespace Go.Proofs.YtjphckfbbiehdaaGreat
open Go.RowKit Go.Maps
theorem lit_ne {x y:Int} (h:x ≠ y):(Lit.int .i64 x) ≠ .int .i64 y:=fun e => by injection e with _ e; exact h e
def wfI (x:Int):Prop:=(Lit.int .i64 x).wf=true
end Go.Proofs.YtjphckfbbiehdaaGreat
