/- Part of a proof. -/
import Derived.Test.YtjphckfbbiehdaaGreatSTopAll38
import Derived.Deep.RegionHeld3
import Derived.Deep.DeepCutAuto
import Derived.BigQuiet
set_option linter.unusedSimpArgs false
set_option linter.unusedVariables false
namespace Go.Proofs.YtjphckfbbiehdaaGreat
open Go.RowKit
def Told (X:World) (E:Int) (A:Option Addr) (n nd:Nat) (os:List OutV):Prop:=(E=0 → n=nd ∧ Rd X (fun _ => True) 3 A n (outsV os)) ∧ (E ≠ 0 → n=0)
theorem Told.below {X Y:World} {E:Int} {A:Option Addr} {n nd:Nat} {os:List OutV} (h:Told X E A n nd os) (hb:Below X.heap.size X Y):Told Y E A n nd os:=⟨fun e => ⟨(h.1 e).1,(h.1 e).2.below hb⟩,h.2⟩
theorem told_of {X Y Z:World} {E:Int} {A:Option Addr} {n nd:Nat} {os:List OutV} (h:SomeOut X Y E A n nd os) {S:Nat → Prop} (hc:Chg S Y Z) (hs:∀ g,S g → g < X.heap.size):Told Z E A n nd os :=
  ⟨fun e => ⟨(h.2.1 e).1,((h.2.1 e).2.chg hc (fun g hg hd => by have:=hs g hg; omega)).more (fun _ _ _ => trivial)⟩,h.2.2⟩
theorem bel_seq {a b c:World} (h1:Below a.heap.size a b) (h2:Below b.heap.size b c):Below a.heap.size a c:=h1.trans (h2.mono h1.size)
theorem told_of0 {X Y:World} {E:Int} {A:Option Addr} {n nd:Nat} {os:List OutV} (h:SomeOut X Y E A n nd os) {Z:World} (hb:Below Y.heap.size Y Z):Told Z E A n nd os :=
  told_of h (S:=fun _ => False) (Chg.of_below hb _) (fun _ h => h.elim)
set_option maxRecDepth 100000 in
set_option maxHeartbeats 64000000 in
theorem topAll_walk (w:World) (AO AR Ad:Option Addr) (nO cO nR cR nd cd:Nat) (obs:List Ob) (roots:List Val) (ds:List DoV) (q R:Int) (hcp:Caps obs) (hO:ObsRd w (fun _ => True) AO nO obs) (hR:Rd w (fun _ => True) 2 AR nR (vals roots)) (hD:Rd w (fun _ => True) 5 Ad nd (dosV ds)) (hnd:(nd + 1) * 40 ≤ 140737488355328) :
    Calls Tryz.prog 3 #[.agg #[.slice AO nO cO,.slice AR nR cR],.int .i64 q,.int .i64 R,.slice Ad nd cd] w fun e w' => e=.returned (.bool true) ∧ Below w.heap.size w w':=by
  have hdl:ds.length=nd:=by have:=hD.1; rw [dosV_length] at this; omega
  have hcp2:∀ o ∈ obs,o.A=none → o.c=0:=fun o ho => (hcp o ho).2
  have HALL:=hide (fun (ht:triErr nO nR nd obs roots q=0) => all_told (b:=q) (R:=R) hO hR hdl ht)
  obtain ⟨pl,hpl⟩:∃ l,plainV ds=l:=⟨_,rfl⟩
  obtain ⟨np,hnp⟩:∃ n,pl.length=n:=⟨_,rfl⟩
  have CP:=hide (fun (X:World) (items:List Item) (hS:Sep No w X items) => plain_any hS Ad nd cd ds hnd (hD.below hS.below_))
  rw [hpl,hnp] at CP
  have C1:=hide (fun (X:World) (A:Option Addr) (n c:Nat) (hb:Below w.heap.size w X) (h:Rd X (fun _ => True) 5 A n (dosV pl)) => idealT_some X AO AR A nO cO nR cR n c obs roots pl (hO.below hb) (hR.below hb) hcp2 h)
  have C2:=hide (fun (X:World) (A:Option Addr) (n c:Nat) (hb:Below w.heap.size w X) (h:Rd X (fun _ => True) 5 A n (dosV pl)) => cntT_some X AO AR A nO cO nR cR n c obs roots pl 64 (hO.below hb) (hR.below hb) hcp2 h)
  have C3:=hide (fun (X:World) (hb:Below w.heap.size w X) => triT_some X AO AR Ad nO cO nR cR nd cd obs roots ds q (hO.below hb) (hR.below hb) hcp2 (hD.below hb))
  have C4:=hide (fun (X:World) (hb:Below w.heap.size w X) => repT_some X AO AR Ad nO cO nR cR nd cd obs roots ds (hO.below hb) (hR.below hb) hcp2 (hD.below hb))
  have C5:=hide (fun (X:World) (hb:Below w.heap.size w X) => genT_some X AO AR Ad nO cO nR cR nd cd obs roots ds R (hO.below hb) (hR.below hb) hcp2 (hD.below hb))
  have CK:=hide (fun (X:World) (A:Option Addr) (c:Nat) (os:List OutV) (hnd:nd ≤ 1000000) (hb:Below w.heap.size w X) (h:Rd X (fun _ => True) 3 A nd (outsV os)) => kept_any X Ad A nd cd c ds os hnd (hD.below hb) h)
  have CKP:=hide (fun (X:World) (A0 A:Option Addr) (c0 c:Nat) (os:List OutV) (hnd:np ≤ 1000000) (h0:Rd X (fun _ => True) 5 A0 np (dosV pl)) (h:Rd X (fun _ => True) 3 A np (outsV os)) => kept_any X A0 A np c0 c pl os hnd h0 h)
  have HNP:=hide (show np ≤ nd from by rw [← hnp,← hpl,← hdl]; exact plainV_len ds)
  rw [hpl] at HALL
  obtain ⟨E1,hE1⟩:∃ e,playErr nO nR np obs roots=e:=⟨_,rfl⟩
  obtain ⟨E2,hE2⟩:∃ e,cntErr nO nR np obs roots 64=e:=⟨_,rfl⟩
  obtain ⟨E3,hE3⟩:∃ e,triErr nO nR nd obs roots q=e:=⟨_,rfl⟩
  obtain ⟨E4,hE4⟩:∃ e,repErr nO nR nd obs roots=e:=⟨_,rfl⟩
  obtain ⟨E5,hE5⟩:∃ e,genErr nO nR nd obs roots R=e:=⟨_,rfl⟩
  obtain ⟨o1,ho1⟩:∃ l,(runM pl (sgM obs roots nR)).1=l:=⟨_,rfl⟩
  obtain ⟨o2,ho2⟩:∃ l,(cnRun 64 pl (cnBeg (sgM obs roots nR) (sgM obs roots nR).objs.length)).1=l:=⟨_,rfl⟩
  obtain ⟨o3,ho3⟩:∃ l,(coRun q.toNat ds (co0 (sgM obs roots nR))).1=l:=⟨_,rfl⟩
  obtain ⟨o4,ho4⟩:∃ l,(rpRun ds (rp0 (sgM obs roots nR))).1=l:=⟨_,rfl⟩
  obtain ⟨o5,ho5⟩:∃ l,(gnRun R.toNat ds (gn0 (sgM obs roots nR))).1=l:=⟨_,rfl⟩
  have C1:=hide (fun (X:World) (A:Option Addr) (c:Nat) (hb:Below w.heap.size w X) (h:Rd X (fun _ => True) 5 A np (dosV pl)) => C1.out X A np c hb h)
  have C2:=hide (fun (X:World) (A:Option Addr) (c:Nat) (hb:Below w.heap.size w X) (h:Rd X (fun _ => True) 5 A np (dosV pl)) => C2.out X A np c hb h)
  rw [hE3,ho1,ho2,ho3,ho4,ho5] at HALL
  rw [hE1,ho1] at C1
  rw [hE2,ho2] at C2
  rw [hE3,ho3] at C3
  rw [hE4,ho4] at C4
  rw [hE5,ho5] at C5
  obtain ⟨gG,hgG⟩:∃ x,w.heap.size=x:=⟨_,rfl⟩
  have hS0:=(Sep.nil No w).blkAt 25 #[.slice AO nO cO,.slice AR nR cR] hgG
  have hb0:Below w.heap.size w (w.alloc (.cells #[.slice AO nO cO,.slice AR nR cR] 25)):=(Below.refl _ w).alloc (Nat.le_refl _) _
  obtain ⟨W0,hW0⟩:∃ X,w.alloc (.cells #[.slice AO nO cO,.slice AR nR cR] 25)=X:=⟨_,rfl⟩
  rw [hW0] at hS0 hb0
  have HW0:=hide hW0
  have HGG:=hide hgG
  have HS0:=hide hS0
  obtain ⟨a1,a2,a3,-⟩:=hS0.rules 0 (g:=gG) (t:=25) rfl
  have a5:=(a1 0).trans (show _=some (.slice AO nO cO) from rfl)
  have a6:=(a1 1).trans (show _=some (.slice AR nR cR) from rfl)
  clear hdl hcp hcp2 hO hR hD hnd hpl hnp hE1 hE2 hE3 hE4 hE5 ho1 ho2 ho3 ho4 ho5 hgG hS0 hW0 a1 hb0
  go_enter Tryz.func3,Tryz.ntmps3
  go_upto_region 1 with fail
  rw [HW0.out,HGG.out]
  obtain ⟨gx,hgx⟩:∃ x,W0.heap.size=x:=⟨_,rfl⟩
  have HGX:=hide hgx
  have CP1:=hide (CP.out W0.drew _ HS0.out.drew)
  have CP2:=hide (CP.out _ _ ((HS0.out.blkAt 25 #[.slice none 0 0,.slice none 0 0] hgx).drew))
  have nx1:gG ≠ gx:=by have h1:=HS0.out.hi 0 rfl gG rfl; omega
  have nx2:gx ≠ gG:=fun e => nx1 e.symm
  go_cut [9,10,11] from 26 to 34 (fun s9 s10 s11 wx => ∃ (A1:Option Addr) (n1 c1:Nat),s9=.slice A1 n1 c1 ∧ s11=.int .i64 E1 ∧ Hid (Told wx E1 A1 n1 np o1) ∧ Sep No w wx [blkI gG 25 #[.slice AO nO cO,.slice AR nR cR]])
  case first =>
    go_region_held3 (fun w' => w'.cell? ⟨gG,0,none⟩=some (.slice AO nO cO) ∧ w'.cell? ⟨gG,1,none⟩=some (.slice AR nR cR)) (first | go_keep | (simp only [World.cell?_drew]; assumption) | (simp (config:={ maxDischargeDepth:=8 }) [*,World.cell?_alloc_some]; done) | assumption)
      (first
        | (go_at_call 5; first
            | ((with_reducible refine CP1.out.mono ?_); rintro e wp ⟨Ap,cp,rfl,hbp,hSp⟩; obtain ⟨p1,-,p3,-⟩:=hSp.rules 1 (g:=gG) (t:=25) rfl; have p5:=(p1 0).trans (show _=some (.slice AO nO cO) from rfl); have p6:=(p1 1).trans (show _=some (.slice AR nR cR) from rfl); have HSp:=hide hSp; have HBP:=hide (bel_seq ((Below.refl _ W0).drew) hbp); have CI1:=hide (C1.out wp Ap cp hSp.below_ (hSp.rd_ 0 rfl)); have CI2:=hide (C1.out _ Ap cp (hSp.alloc (.cells #[.slice none 0 0,.slice none 0 0] 25)).below_ ((hSp.alloc (.cells #[.slice none 0 0,.slice none 0 0] 25)).rd_ 0 rfl)); clear hSp hbp p1)
            | ((with_reducible refine CP2.out.mono ?_); rintro e wp ⟨Ap,cp,rfl,hbp,hSp⟩; obtain ⟨p1,-,p3,-⟩:=hSp.rules 1 (g:=gG) (t:=25) rfl; have p5:=(p1 0).trans (show _=some (.slice AO nO cO) from rfl); have p6:=(p1 1).trans (show _=some (.slice AR nR cR) from rfl); obtain ⟨-,p7,p8,-⟩:=hSp.rules 2 (g:=gx) (t:=25) rfl; have HSp:=hide hSp; have HBP:=hide (bel_seq (((Below.refl _ W0).alloc (Nat.le_refl _) _).drew) hbp); have CI1:=hide (C1.out wp Ap cp hSp.below_ (hSp.rd_ 0 rfl)); clear hSp hbp p1))
        | (go_at_call 4; first
            | ((with_reducible refine CI1.out.mono ?_); rintro e wq ⟨A1,n1,c1,B,mB,dB,B2,mB2,dB2,rfl,hsq⟩; have hbq:=hsq.1; have hSq:=HSp.out.below hbq; obtain ⟨q1,-,q3,-⟩:=hSq.rules 1 (g:=gG) (t:=25) rfl; have q5:=(q1 0).trans (show _=some (.slice AO nO cO) from rfl); have q6:=(q1 1).trans (show _=some (.slice AR nR cR) from rfl); have HSq:=hide hSq; have HSQ:=hide hsq; have HBQ:=hide (bel_seq HBP.out hbq); (try (obtain ⟨r1,r2,r3,-⟩:=hSq.rules 2 (g:=gx) (t:=25) rfl)); clear hSq hsq hbq q1)
            | ((with_reducible refine CI2.out.mono ?_); rintro e wq ⟨A1,n1,c1,B,mB,dB,B2,mB2,dB2,rfl,hsq⟩; have hbq:=hsq.1; have hSq:=(HSp.out.blkAt 25 #[.slice none 0 0,.slice none 0 0] (g:=wp.heap.size) rfl).below hbq; obtain ⟨q1,-,q3,-⟩:=hSq.rules 1 (g:=gG) (t:=25) rfl; have q5:=(q1 0).trans (show _=some (.slice AO nO cO) from rfl); have q6:=(q1 1).trans (show _=some (.slice AR nR cR) from rfl); have HSq:=hide hSq; have HSQ:=hide hsq; have HBQ:=hide (bel_seq (HBP.out.alloc HBP.out.size _) hbq); have ny1:gG ≠ wp.heap.size:=(by have h1:=HSp.out.hi 1 rfl gG rfl; omega); have ny2:wp.heap.size ≠ gG:=fun e => ny1 e.symm; obtain ⟨r1,r2,r3,-⟩:=hSq.rules 2 (g:=wp.heap.size) (t:=25) rfl; clear hSq hsq hbq q1)))
    all_goals
      go_wp2_with fail
      go_meet
      case rel => first
        | exact ⟨A1,n1,c1,rfl,rfl,hide (told_of0 HSQ.out ((Below.refl _ wq).alloc (Nat.le_refl _) _)),((HSq.out.alloc _).sub (List.Sublist.cons _ (List.Sublist.refl _)))⟩
        | exact ⟨A1,n1,c1,rfl,rfl,hide (told_of HSQ.out (S:=fun g => g=wp.heap.size) (((Chg.refl (fun k => k=wp.heap.size) wq).setCell (p:=⟨wp.heap.size,0,none⟩) (.inl rfl) _).setCell (p:=⟨wp.heap.size,1,none⟩) (.inl rfl) _) (fun g hg => by subst hg; simp)),(((HSq.out.set_ 2 (g:=wp.heap.size) (t:=25) rfl 0 (.slice B mB dB)).set_ 2 (g:=wp.heap.size) (t:=25) rfl 1 (.slice B2 mB2 dB2)).sub (List.Sublist.cons _ (List.Sublist.cons_cons _ (List.nil_sublist _))))⟩
        | exact ⟨A1,n1,c1,rfl,rfl,hide (told_of HSQ.out (S:=fun g => g=gx) (((Chg.refl (fun k => k=gx) wq).setCell (p:=⟨gx,0,none⟩) (.inl rfl) _).setCell (p:=⟨gx,1,none⟩) (.inl rfl) _) (fun g hg => by rw [hg]; exact HSp.out.hi 2 rfl gx rfl)),(((HSq.out.set_ 2 (g:=gx) (t:=25) rfl 0 (.slice B mB dB)).set_ 2 (g:=gx) (t:=25) rfl 1 (.slice B2 mB2 dB2)).sub (List.Sublist.cons _ (List.Sublist.cons_cons _ (List.nil_sublist _))))⟩
  case rest =>
    obtain ⟨A1,n1,c1,rfl,rfl,HT1,hS1⟩:=hcut
    obtain ⟨W1,hW1⟩:∃ X,wc=X:=⟨_,rfl⟩
    subst hW1
    obtain ⟨a1,a2',a3',-⟩:=hS1.rules 0 (g:=gG) (t:=25) rfl
    have a5':=(a1 0).trans (show _=some (.slice AO nO cO) from rfl)
    have a6':=(a1 1).trans (show _=some (.slice AR nR cR) from rfl)
    have HS1:=hide hS1
    clear hS1 a1 a2 a3 a5 a6 CP1 CP2 nx1 nx2 HS0 HW0 HGX hgx
    go_upto_region 2 with fail
    obtain ⟨gx,hgx⟩:∃ x,wc.heap.size=x:=⟨_,rfl⟩
    have HGX:=hide hgx
    have CP1:=hide (CP.out wc.drew _ HS1.out.drew)
    have CP2:=hide (CP.out _ _ ((HS1.out.blkAt 35 #[.slice none 0 0,.slice none 0 0,.slice none 0 0] hgx).drew))
    have nx1:gG ≠ gx:=by have h1:=HS1.out.hi 0 rfl gG rfl; omega
    have nx2:gx ≠ gG:=fun e => nx1 e.symm
    go_cut [12,13] from 34 to 41 (fun s12 s13 wx => ∃ (b:Nat) (A:Option Addr) (n c:Nat) (A2:Option Addr) (n2 c2:Nat) (A3:Option Addr) (n3 c3:Nat),s12=.pointer (some ⟨b,0,none⟩) ∧ s13=.int .i64 E2 ∧ Hid (Told wx E1 A1 n1 np o1) ∧ Hid (Told wx E2 A n np o2) ∧ Sep No w wx [blkI gG 25 #[.slice AO nO cO,.slice AR nR cR],blkI b 35 #[.slice A n c,.slice A2 n2 c2,.slice A3 n3 c3]])
    case first =>
      go_region_held3 (fun w' => w'.cell? ⟨gG,0,none⟩=some (.slice AO nO cO) ∧ w'.cell? ⟨gG,1,none⟩=some (.slice AR nR cR)) (first | go_keep | (simp only [World.cell?_drew]; assumption) | (simp (config:={ maxDischargeDepth:=8 }) [*,World.cell?_alloc_some]; done) | assumption)
        (first
          | (go_at_call 5; first
              | ((with_reducible refine CP1.out.mono ?_); rintro e wp ⟨Ap,cp,rfl,hbp,hSp⟩; obtain ⟨p1,-,p3,-⟩:=hSp.rules 1 (g:=gG) (t:=25) rfl; have p5:=(p1 0).trans (show _=some (.slice AO nO cO) from rfl); have p6:=(p1 1).trans (show _=some (.slice AR nR cR) from rfl); have HSp:=hide hSp; have HBP:=hide (bel_seq ((Below.refl _ wc).drew) hbp); have CI1:=hide (C2.out wp Ap cp hSp.below_ (hSp.rd_ 0 rfl)); have CI2:=hide (C2.out _ Ap cp (hSp.alloc (.cells #[.slice none 0 0,.slice none 0 0,.slice none 0 0] 35)).below_ ((hSp.alloc (.cells #[.slice none 0 0,.slice none 0 0,.slice none 0 0] 35)).rd_ 0 rfl)); clear hSp hbp p1)
              | ((with_reducible refine CP2.out.mono ?_); rintro e wp ⟨Ap,cp,rfl,hbp,hSp⟩; obtain ⟨p1,-,p3,-⟩:=hSp.rules 1 (g:=gG) (t:=25) rfl; have p5:=(p1 0).trans (show _=some (.slice AO nO cO) from rfl); have p6:=(p1 1).trans (show _=some (.slice AR nR cR) from rfl); obtain ⟨-,p7,p8,-⟩:=hSp.rules 2 (g:=gx) (t:=35) rfl; have HSp:=hide hSp; have HBP:=hide (bel_seq (((Below.refl _ wc).alloc (Nat.le_refl _) _).drew) hbp); have CI1:=hide (C2.out wp Ap cp hSp.below_ (hSp.rd_ 0 rfl)); clear hSp hbp p1))
          | (go_at_call 6; first
              | ((with_reducible refine CI1.out.mono ?_); rintro e wq ⟨A,n,c,A2,n2,c2,A3,n3,c3,rfl,hsq⟩; have hbq:=hsq.1; have hSq:=HSp.out.below hbq; obtain ⟨q1,-,q3,-⟩:=hSq.rules 1 (g:=gG) (t:=25) rfl; have q5:=(q1 0).trans (show _=some (.slice AO nO cO) from rfl); have q6:=(q1 1).trans (show _=some (.slice AR nR cR) from rfl); have HSq:=hide hSq; have HSQ:=hide hsq; have HBQ:=hide (bel_seq HBP.out hbq); (try (obtain ⟨r1,r2,r3,-⟩:=hSq.rules 2 (g:=gx) (t:=35) rfl)); clear hSq hsq hbq q1)
              | ((with_reducible refine CI2.out.mono ?_); rintro e wq ⟨A,n,c,A2,n2,c2,A3,n3,c3,rfl,hsq⟩; have hbq:=hsq.1; have hSq:=(HSp.out.blkAt 35 #[.slice none 0 0,.slice none 0 0,.slice none 0 0] (g:=wp.heap.size) rfl).below hbq; obtain ⟨q1,-,q3,-⟩:=hSq.rules 1 (g:=gG) (t:=25) rfl; have q5:=(q1 0).trans (show _=some (.slice AO nO cO) from rfl); have q6:=(q1 1).trans (show _=some (.slice AR nR cR) from rfl); have HSq:=hide hSq; have HSQ:=hide hsq; have HBQ:=hide (bel_seq (HBP.out.alloc HBP.out.size _) hbq); have ny1:gG ≠ wp.heap.size:=(by have h1:=HSp.out.hi 1 rfl gG rfl; omega); have ny2:wp.heap.size ≠ gG:=fun e => ny1 e.symm; obtain ⟨r1,r2,r3,-⟩:=hSq.rules 2 (g:=wp.heap.size) (t:=35) rfl; clear hSq hsq hbq q1)))
      all_goals
        go_wp2_with fail
        go_meet
        case rel => first
          | exact ⟨wq.heap.size,A,n,c,A2,n2,c2,A3,n3,c3,rfl,rfl,hide (HT1.out.below (HBQ.out.alloc HBQ.out.size _)),hide (told_of0 HSQ.out ((Below.refl _ wq).alloc (Nat.le_refl _) _)),((HSq.out.blkAt 35 #[.slice A n c,.slice A2 n2 c2,.slice A3 n3 c3] (g:=wq.heap.size) rfl).sub (List.Sublist.cons _ (List.Sublist.refl _)))⟩
          | exact ⟨wp.heap.size,A,n,c,A2,n2,c2,A3,n3,c3,rfl,rfl,hide (HT1.out.below (((HBQ.out.setCell (p:=⟨wp.heap.size,0,none⟩) HBP.out.size _).setCell (p:=⟨wp.heap.size,1,none⟩) HBP.out.size _).setCell (p:=⟨wp.heap.size,2,none⟩) HBP.out.size _)),hide (told_of HSQ.out (S:=fun g => g=wp.heap.size) ((((Chg.refl (fun k => k=wp.heap.size) wq).setCell (p:=⟨wp.heap.size,0,none⟩) (.inl rfl) _).setCell (p:=⟨wp.heap.size,1,none⟩) (.inl rfl) _).setCell (p:=⟨wp.heap.size,2,none⟩) (.inl rfl) _) (fun g hg => by subst hg; simp)),((((HSq.out.set_ 2 (g:=wp.heap.size) (t:=35) rfl 0 (.slice A n c)).set_ 2 (g:=wp.heap.size) (t:=35) rfl 1 (.slice A2 n2 c2)).set_ 2 (g:=wp.heap.size) (t:=35) rfl 2 (.slice A3 n3 c3)).sub (List.Sublist.cons _ (List.Sublist.refl _)))⟩
          | exact ⟨gx,A,n,c,A2,n2,c2,A3,n3,c3,rfl,rfl,hide (HT1.out.below (((HBQ.out.setCell (p:=⟨gx,0,none⟩) (Nat.le_of_eq HGX.out) _).setCell (p:=⟨gx,1,none⟩) (Nat.le_of_eq HGX.out) _).setCell (p:=⟨gx,2,none⟩) (Nat.le_of_eq HGX.out) _)),hide (told_of HSQ.out (S:=fun g => g=gx) ((((Chg.refl (fun k => k=gx) wq).setCell (p:=⟨gx,0,none⟩) (.inl rfl) _).setCell (p:=⟨gx,1,none⟩) (.inl rfl) _).setCell (p:=⟨gx,2,none⟩) (.inl rfl) _) (fun g hg => by rw [hg]; exact HSp.out.hi 2 rfl gx rfl)),((((HSq.out.set_ 2 (g:=gx) (t:=35) rfl 0 (.slice A n c)).set_ 2 (g:=gx) (t:=35) rfl 1 (.slice A2 n2 c2)).set_ 2 (g:=gx) (t:=35) rfl 2 (.slice A3 n3 c3)).sub (List.Sublist.cons _ (List.Sublist.refl _)))⟩
    case rest =>
      obtain ⟨b2,K2,k2,d2,K21,k21,d21,K22,k22,d22,rfl,rfl,HT1',HT2,hS2⟩:=hcut
      have HT1:=HT1'
      have HS2:=hide hS2
      obtain ⟨a1,a2,a3,-⟩:=hS2.rules 0 (g:=gG) (t:=25) rfl
      have a5:=(a1 0).trans (show _=some (.slice AO nO cO) from rfl)
      have a6:=(a1 1).trans (show _=some (.slice AR nR cR) from rfl)
      have CT:=hide (C3.out wc hS2.below_)
      clear hS2 a1 HT1' HS1 a2' a3' a5' a6' CP1 CP2 nx1 nx2 hgx HGX C1 C2 C3
      go_wp2_with fail
      refine CT.out.mono ?_
      rintro e w3 ⟨K3,k3,d3,K31,k31,d31,K32,k32,d32,rfl,hsq⟩
      obtain ⟨b3,hb3⟩:∃ x,w3.heap.size=x:=⟨_,rfl⟩
      have hS3:=(HS2.out.below hsq.1).blkAt 38 #[.slice K3 k3 d3,.slice K31 k31 d31,.slice K32 k32 d32] hb3
      have hbel:Below w3.heap.size w3 (w3.alloc (.cells #[.slice K3 k3 d3,.slice K31 k31 d31,.slice K32 k32 d32] 38)):=(Below.refl _ w3).alloc (Nat.le_refl _) _
      obtain ⟨W3,hW3⟩:∃ X,w3.alloc (.cells #[.slice K3 k3 d3,.slice K31 k31 d31,.slice K32 k32 d32] 38)=X:=⟨_,rfl⟩
      rw [hW3] at hS3 hbel
      have HT3:=hide (told_of0 hsq hbel)
      replace HT1:=hide (HT1.out.below (bel_seq hsq.1 hbel))
      replace HT2:=hide (HT2.out.below (bel_seq hsq.1 hbel))
      obtain ⟨x1,x2,x3,-⟩:=hS3.rules 0 (g:=gG) (t:=25) rfl
      have x5:=(x1 0).trans (show _=some (.slice AO nO cO) from rfl)
      have x6:=(x1 1).trans (show _=some (.slice AR nR cR) from rfl)
      have CT2:=hide (C4.out W3 hS3.below_)
      have HS3:=hide hS3
      have HW3:=hide hW3
      have HB3:=hide hb3
      clear hS3 hsq hbel x1 a2 a3 a5 a6 CT hW3 hb3
      have CT:=CT2
      clear CT2
      go_upto_region 4 with fail
      rw [HW3.out,HB3.out]
      have a2:=x2
      have a3:=x3
      have a5:=x5
      have a6:=x6
      clear x2 x3 x5 x6 C4
      go_wp2_with fail
      refine CT.out.mono ?_
      rintro e w4 ⟨K4,k4,d4,K41,k41,d41,r1,r2,r3,rfl,hsq⟩
      obtain ⟨b4,hb4⟩:∃ x,w4.heap.size=x:=⟨_,rfl⟩
      have hS4:=(HS3.out.below hsq.1).blkAt 42 #[.slice K4 k4 d4,.slice K41 k41 d41,.int .i64 r1,.int .i64 r2,.int .i64 r3] hb4
      have hbel:Below w4.heap.size w4 (w4.alloc (.cells #[.slice K4 k4 d4,.slice K41 k41 d41,.int .i64 r1,.int .i64 r2,.int .i64 r3] 42)):=(Below.refl _ w4).alloc (Nat.le_refl _) _
      obtain ⟨W4,hW4⟩:∃ X,w4.alloc (.cells #[.slice K4 k4 d4,.slice K41 k41 d41,.int .i64 r1,.int .i64 r2,.int .i64 r3] 42)=X:=⟨_,rfl⟩
      rw [hW4] at hS4 hbel
      have HT4:=hide (told_of0 hsq hbel)
      replace HT1:=hide (HT1.out.below (bel_seq hsq.1 hbel))
      replace HT2:=hide (HT2.out.below (bel_seq hsq.1 hbel))
      replace HT3:=hide (HT3.out.below (bel_seq hsq.1 hbel))
      obtain ⟨x1,x2,x3,-⟩:=hS4.rules 0 (g:=gG) (t:=25) rfl
      have x5:=(x1 0).trans (show _=some (.slice AO nO cO) from rfl)
      have x6:=(x1 1).trans (show _=some (.slice AR nR cR) from rfl)
      have CT2:=hide (C5.out W4 hS4.below_)
      have HS4:=hide hS4
      have HW4:=hide hW4
      have HB4:=hide hb4
      clear hS4 hsq hbel x1 a2 a3 a5 a6 CT hW4 hb4
      have CT:=CT2
      clear CT2
      go_upto_region 5 with fail
      rw [HW4.out,HB4.out]
      have a2:=x2
      have a3:=x3
      have a5:=x5
      have a6:=x6
      clear x2 x3 x5 x6 C5
      go_wp2_with fail
      refine CT.out.mono ?_
      rintro e w5 ⟨K5,k5,d5,K51,k51,d51,K52,k52,d52,rfl,hsq⟩
      obtain ⟨b5,hb5⟩:∃ x,w5.heap.size=x:=⟨_,rfl⟩
      have hS5:=(HS4.out.below hsq.1).blkAt 46 #[.slice K5 k5 d5,.slice K51 k51 d51,.slice K52 k52 d52] hb5
      have hbel:Below w5.heap.size w5 (w5.alloc (.cells #[.slice K5 k5 d5,.slice K51 k51 d51,.slice K52 k52 d52] 46)):=(Below.refl _ w5).alloc (Nat.le_refl _) _
      obtain ⟨W5,hW5⟩:∃ X,w5.alloc (.cells #[.slice K5 k5 d5,.slice K51 k51 d51,.slice K52 k52 d52] 46)=X:=⟨_,rfl⟩
      rw [hW5] at hS5 hbel
      have HT5:=hide (told_of0 hsq hbel)
      replace HT1:=hide (HT1.out.below (bel_seq hsq.1 hbel))
      replace HT2:=hide (HT2.out.below (bel_seq hsq.1 hbel))
      replace HT3:=hide (HT3.out.below (bel_seq hsq.1 hbel))
      replace HT4:=hide (HT4.out.below (bel_seq hsq.1 hbel))
      obtain ⟨x1,x2,x3,-⟩:=hS5.rules 0 (g:=gG) (t:=25) rfl
      have x5:=(x1 0).trans (show _=some (.slice AO nO cO) from rfl)
      have x6:=(x1 1).trans (show _=some (.slice AR nR cR) from rfl)
      have HS5:=hide hS5
      have HW5:=hide hW5
      have HB5:=hide hb5
      clear hS5 hsq hbel x1 a2 a3 a5 a6 CT hW5 hb5
      go_upto_region 6 with fail
      rw [HW5.out,HB5.out]
      obtain ⟨z21,-,z23,-⟩:=HS5.out.rules 1 (g:=b2) (t:=35) rfl
      have z25:=(z21 0).trans (show _=some (.slice K2 k2 d2) from rfl)
      obtain ⟨z31,-,z33,-⟩:=HS5.out.rules 2 (g:=b3) (t:=38) rfl
      have z35:=(z31 0).trans (show _=some (.slice K3 k3 d3) from rfl)
      obtain ⟨z41,-,z43,-⟩:=HS5.out.rules 3 (g:=b4) (t:=42) rfl
      have z45:=(z41 0).trans (show _=some (.slice K4 k4 d4) from rfl)
      obtain ⟨z51,-,z53,-⟩:=HS5.out.rules 4 (g:=b5) (t:=46) rfl
      have z55:=(z51 0).trans (show _=some (.slice K5 k5 d5) from rfl)
      clear z21 z31 z41 z51 x2 x3 x5 x6 HW3 HW4 HW5 HB3 HB4 HB5 HS2 HS3 HS4
      by_cases e1:E1=0
      rotate_left
      · have y1:(E1 != 0)=true:=by rw [bne_iff_ne]; exact e1
        have f1:=HT1.out.2 e1
        have HB:=hide HS5.out.below_
        subst f1
        clear HT1 HT2 HT3 HT4 HT5 HS5
        go_wp2_with fail
        go_ret
        exact ⟨rfl,HB.out⟩
      by_cases e2:E2=0
      rotate_left
      · have y1:(E1 != 0)=false:=by rw [e1]; rfl
        have y2:(E2 != 0)=true:=by rw [bne_iff_ne]; exact e2
        have f2:=HT2.out.2 e2
        have HB:=hide HS5.out.below_
        by_cases g1:n1=0
        · subst g1
          clear HT1 HT2 HT3 HT4 HT5 HS5
          go_wp2_with fail
          go_ret
          exact ⟨rfl,HB.out⟩
        · have u1:((n1:Int) == 0)=false:=by simp; omega
          have v1:(n1 == 0)=false:=by simp; omega
          subst f2
          clear HT1 HT2 HT3 HT4 HT5 HS5
          go_wp2_with fail
          go_ret
          exact ⟨rfl,HB.out⟩
      by_cases e3:E3=0
      rotate_left
      · have y1:(E1 != 0)=false:=by rw [e1]; rfl
        have y2:(E2 != 0)=false:=by rw [e2]; rfl
        have y3:(E3 != 0)=true:=by rw [bne_iff_ne]; exact e3
        have f3:=HT3.out.2 e3
        have HB:=hide HS5.out.below_
        by_cases g1:n1=0
        · subst g1
          clear HT1 HT2 HT3 HT4 HT5 HS5
          go_wp2_with fail
          go_ret
          exact ⟨rfl,HB.out⟩
        · have u1:((n1:Int) == 0)=false:=by simp; omega
          have v1:(n1 == 0)=false:=by simp; omega
          by_cases g2:k2=0
          · subst g2
            clear HT1 HT2 HT3 HT4 HT5 HS5
            go_wp2_with fail
            go_ret
            exact ⟨rfl,HB.out⟩
          · have u2:((k2:Int) == 0)=false:=by simp; omega
            have v2:(k2 == 0)=false:=by simp; omega
            subst f3
            clear HT1 HT2 HT3 HT4 HT5 HS5
            go_wp2_with fail
            go_ret
            exact ⟨rfl,HB.out⟩
      by_cases e4:E4=0
      rotate_left
      · have y1:(E1 != 0)=false:=by rw [e1]; rfl
        have y2:(E2 != 0)=false:=by rw [e2]; rfl
        have y3:(E3 != 0)=false:=by rw [e3]; rfl
        have y4:(E4 != 0)=true:=by rw [bne_iff_ne]; exact e4
        have f4:=HT4.out.2 e4
        have HB:=hide HS5.out.below_
        by_cases g1:n1=0
        · subst g1
          clear HT1 HT2 HT3 HT4 HT5 HS5
          go_wp2_with fail
          go_ret
          exact ⟨rfl,HB.out⟩
        · have u1:((n1:Int) == 0)=false:=by simp; omega
          have v1:(n1 == 0)=false:=by simp; omega
          by_cases g2:k2=0
          · subst g2
            clear HT1 HT2 HT3 HT4 HT5 HS5
            go_wp2_with fail
            go_ret
            exact ⟨rfl,HB.out⟩
          · have u2:((k2:Int) == 0)=false:=by simp; omega
            have v2:(k2 == 0)=false:=by simp; omega
            by_cases g3:k3=0
            · subst g3
              clear HT1 HT2 HT3 HT4 HT5 HS5
              go_wp2_with fail
              go_ret
              exact ⟨rfl,HB.out⟩
            · have u3:((k3:Int) == 0)=false:=by simp; omega
              have v3:(k3 == 0)=false:=by simp; omega
              subst f4
              clear HT1 HT2 HT3 HT4 HT5 HS5
              go_wp2_with fail
              go_ret
              exact ⟨rfl,HB.out⟩
      by_cases e5:E5=0
      rotate_left
      · have y1:(E1 != 0)=false:=by rw [e1]; rfl
        have y2:(E2 != 0)=false:=by rw [e2]; rfl
        have y3:(E3 != 0)=false:=by rw [e3]; rfl
        have y4:(E4 != 0)=false:=by rw [e4]; rfl
        have y5:(E5 != 0)=true:=by rw [bne_iff_ne]; exact e5
        have f5:=HT5.out.2 e5
        have HB:=hide HS5.out.below_
        by_cases g1:n1=0
        · subst g1
          clear HT1 HT2 HT3 HT4 HT5 HS5
          go_wp2_with fail
          go_ret
          exact ⟨rfl,HB.out⟩
        · have u1:((n1:Int) == 0)=false:=by simp; omega
          have v1:(n1 == 0)=false:=by simp; omega
          by_cases g2:k2=0
          · subst g2
            clear HT1 HT2 HT3 HT4 HT5 HS5
            go_wp2_with fail
            go_ret
            exact ⟨rfl,HB.out⟩
          · have u2:((k2:Int) == 0)=false:=by simp; omega
            have v2:(k2 == 0)=false:=by simp; omega
            by_cases g3:k3=0
            · subst g3
              clear HT1 HT2 HT3 HT4 HT5 HS5
              go_wp2_with fail
              go_ret
              exact ⟨rfl,HB.out⟩
            · have u3:((k3:Int) == 0)=false:=by simp; omega
              have v3:(k3 == 0)=false:=by simp; omega
              by_cases g4:k4=0
              · subst g4
                clear HT1 HT2 HT3 HT4 HT5 HS5
                go_wp2_with fail
                go_ret
                exact ⟨rfl,HB.out⟩
              · have u4:((k4:Int) == 0)=false:=by simp; omega
                have v4:(k4 == 0)=false:=by simp; omega
                subst f5
                clear HT1 HT2 HT3 HT4 HT5 HS5
                go_wp2_with fail
                go_ret
                exact ⟨rfl,HB.out⟩
      subst e1 e2 e3 e4 e5
      obtain ⟨h3,h4,h5,h2,hn100⟩:=HALL.out rfl
      have H2:=hide h2
      have H3:=hide h3
      have H4:=hide h4
      have H5:=hide h5
      obtain ⟨q1',hr1⟩:=HT1.out.1 rfl
      have q1:=q1'.symm
      clear q1'
      obtain ⟨q2',hr2⟩:=HT2.out.1 rfl
      have q2:=q2'.symm
      clear q2'
      obtain ⟨q3',hr3⟩:=HT3.out.1 rfl
      have q3:=q3'.symm
      clear q3'
      obtain ⟨q4',hr4⟩:=HT4.out.1 rfl
      have q4:=q4'.symm
      clear q4'
      obtain ⟨q5',hr5⟩:=HT5.out.1 rfl
      have q5:=q5'.symm
      clear q5'
      subst q1 q2 q3 q4 q5
      have hnp:=HNP.out
      have HR1:=hide hr1
      have HR2:=hide hr2
      have HR3:=hide hr3
      have HR4:=hide hr4
      have HR5:=hide hr5
      obtain ⟨gL,hgL⟩:∃ x,W5.heap.size=x:=⟨_,rfl⟩
      have hS6:=HS5.out.blkAt 27 #[.slice K3 nd d3,.slice K4 nd d4,.slice K5 nd d5] hgL
      obtain ⟨W6,hW6⟩:∃ X,W5.alloc (.cells #[.slice K3 nd d3,.slice K4 nd d4,.slice K5 nd d5] 27)=X:=⟨_,rfl⟩
      have hbel:Below W5.heap.size W5 (W5.alloc (.cells #[.slice K3 nd d3,.slice K4 nd d4,.slice K5 nd d5] 27)):=(Below.refl _ W5).alloc (Nat.le_refl _) _
      rw [hW6] at hS6 hbel
      have HBL:=hide hbel
      have HW6:=hide hW6
      have HGL:=hide hgL
      have HS6:=hide hS6
      obtain ⟨l1,-,l3,-⟩:=hS6.rules 5 (g:=gL) (t:=27) rfl
      have L0:=(l1 0).trans (show _=some (.slice K3 nd d3) from rfl)
      have L1:=(l1 1).trans (show _=some (.slice K4 nd d4) from rfl)
      have L2:=(l1 2).trans (show _=some (.slice K5 nd d5) from rfl)
      obtain ⟨z21,-,z26,-⟩:=hS6.rules 1 (g:=b2) (t:=35) rfl
      have z27:=(z21 0).trans (show _=some (.slice K2 np d2) from rfl)
      have HL0:=hide L0
      have HL1:=hide L1
      have HL2:=hide L2
      have HZ27:=hide z27
      have CO:=hide (fun (X:World) (A:Option Addr) (c:Nat) (hb:Below W6.heap.size W6 X) (h:Rd X (fun _ => True) 3 A np (outsV o1)) => outsT_any X A A1 np c c1 o1 (by omega) h ((HR1.out.below HBL.out).below hb))
      clear h2 h3 h4 h5 hr1 hr2 hr3 hr4 hr5 HT1 HT2 HT3 HT4 HT5 hgL hS6 hW6 hbel l1 l3 L0 L1 L2 z21 z26 z27
      go_wp2_with fail
      rw [HW6.out,HGL.out]
      go_loopw [144] (fun i wr => ∃ (k:Nat),k ≤ 3 ∧ i=.int .i64 k ∧ Hid (Below W6.heap.size W6 wr)) (fun i _ => 3 - (intOf i).toNat)
      case atStart => exact ⟨0,by omega,rfl,hide (Below.refl _ _)⟩
      case round =>
        obtain ⟨k,hk,rfl,HB⟩:=hrel
        by_cases hlt:k < 3
        · have hkk:k=0 ∨ k=1 ∨ k=2:=by omega
          rcases hkk with rfl | rfl | rfl
          · have L:=cell_later HB.out HL0.out
            have CKx:=hide (CK.out wr K3 d3 o3 (by omega) ((HS6.out.below HB.out).below_) ((HR3.out.below HBL.out).below HB.out))
            clear hlt hk
            go_wp2_with fail
            refine CKx.out.mono ?_
            rintro e w7 ⟨A7,n7,c7,bb,rfl,hb7,himp⟩
            have HB7:=hide (HB.out.trans (hb7.mono HB.out.size))
            cases bb with
            | false =>
              clear himp hb7 CKx
              go_wp2_with fail
              go_roundw
              case rel => exact ⟨1,by omega,by first | rfl | go_num,HB7⟩
              case measure => simp [intOf]
            | true =>
              obtain ⟨hno,hrd⟩:=himp rfl
              rw [H3.out hno] at hrd
              obtain rfl:np=n7:=by
                have h1:=hrd.1
                have h2:=HR1.out.1
                rw [outsV_length] at h1 h2
                omega
              have CO2:=hide (CO.out w7 A7 c7 HB7.out hrd)
              clear himp hb7 CKx hno hrd
              go_wp2_with fail
              refine CO2.out.mono ?_
              rintro e w8 ⟨rfl,hb8⟩
              have HB8:=hide (HB7.out.trans (hb8.mono HB7.out.size))
              clear hb8 CO2
              go_wp2_with fail
              go_roundw
              case rel => exact ⟨1,by omega,by first | rfl | go_num,HB8⟩
              case measure => simp [intOf]
          · have L:=cell_later HB.out HL1.out
            have CKx:=hide (CK.out wr K4 d4 o4 (by omega) ((HS6.out.below HB.out).below_) ((HR4.out.below HBL.out).below HB.out))
            clear hlt hk
            go_wp2_with fail
            refine CKx.out.mono ?_
            rintro e w7 ⟨A7,n7,c7,bb,rfl,hb7,himp⟩
            have HB7:=hide (HB.out.trans (hb7.mono HB.out.size))
            cases bb with
            | false =>
              clear himp hb7 CKx
              go_wp2_with fail
              go_roundw
              case rel => exact ⟨2,by omega,by first | rfl | go_num,HB7⟩
              case measure => simp [intOf]
            | true =>
              obtain ⟨hno,hrd⟩:=himp rfl
              rw [H4.out hno] at hrd
              obtain rfl:np=n7:=by
                have h1:=hrd.1
                have h2:=HR1.out.1
                rw [outsV_length] at h1 h2
                omega
              have CO2:=hide (CO.out w7 A7 c7 HB7.out hrd)
              clear himp hb7 CKx hno hrd
              go_wp2_with fail
              refine CO2.out.mono ?_
              rintro e w8 ⟨rfl,hb8⟩
              have HB8:=hide (HB7.out.trans (hb8.mono HB7.out.size))
              clear hb8 CO2
              go_wp2_with fail
              go_roundw
              case rel => exact ⟨2,by omega,by first | rfl | go_num,HB8⟩
              case measure => simp [intOf]
          · have L:=cell_later HB.out HL2.out
            have CKx:=hide (CK.out wr K5 d5 o5 (by omega) ((HS6.out.below HB.out).below_) ((HR5.out.below HBL.out).below HB.out))
            clear hlt hk
            go_wp2_with fail
            refine CKx.out.mono ?_
            rintro e w7 ⟨A7,n7,c7,bb,rfl,hb7,himp⟩
            have HB7:=hide (HB.out.trans (hb7.mono HB.out.size))
            cases bb with
            | false =>
              clear himp hb7 CKx
              go_wp2_with fail
              go_roundw
              case rel => exact ⟨3,by omega,by first | rfl | go_num,HB7⟩
              case measure => simp [intOf]
            | true =>
              obtain ⟨hno,hrd⟩:=himp rfl
              rw [H5.out hno] at hrd
              obtain rfl:np=n7:=by
                have h1:=hrd.1
                have h2:=HR1.out.1
                rw [outsV_length] at h1 h2
                omega
              have CO2:=hide (CO.out w7 A7 c7 HB7.out hrd)
              clear himp hb7 CKx hno hrd
              go_wp2_with fail
              refine CO2.out.mono ?_
              rintro e w8 ⟨rfl,hb8⟩
              have HB8:=hide (HB7.out.trans (hb8.mono HB7.out.size))
              clear hb8 CO2
              go_wp2_with fail
              go_roundw
              case rel => exact ⟨3,by omega,by first | rfl | go_num,HB8⟩
              case measure => simp [intOf]
        · obtain rfl:k=3:=by omega
          have z:=cell_later HB.out HZ27.out
          have HSx:=hide (HS6.out.below HB.out)
          have CPx:=hide (CP.out wr.drew _ HSx.out.drew)
          clear hlt hk
          go_wp2_with fail
          go_cut [24,25] from 162 to 170 (fun s24 s25 wx => ∃ (A:Option Addr) (n c:Nat) (bb:Bool),s24=.slice A n c ∧ s25=.bool bb ∧ Hid (Below W6.heap.size W6 wx) ∧ Hid (bb=true → n=np ∧ Rd wx (fun _ => True) 3 A n (outsV o1)))
          case first =>
            go_region_held3 (fun w' => w'.cell? ⟨b2,0,none⟩=some (.slice K2 np d2)) (first | go_keep | (simp only [World.cell?_drew]; assumption) | (simp (config:={ maxDischargeDepth:=8 }) [*,World.cell?_alloc_some]; done) | assumption)
              (first
                | (go_at_call 5; (with_reducible refine CPx.out.mono ?_); rintro e wp ⟨Ap,cp,rfl,hbp,hSp⟩; have hbq:=bel_seq ((Below.refl _ wr).drew) hbp; have zp:=cell_later hbq z; have HBP:=hide (HB.out.trans (hbq.mono HB.out.size)); have CKx:=hide (CKP.out wp Ap K2 cp d2 o2 (by omega) (hSp.rd_ 0 rfl) ((HR2.out.below HBL.out).below HBP.out)); clear hSp hbp hbq)
                | (go_at_call 10; (with_reducible refine CKx.out.mono ?_); rintro e wq ⟨A7,n7,c7,bb,rfl,hb7,himp⟩; have zq:=cell_later hb7 zp; have HB7:=hide (HBP.out.trans (hb7.mono HBP.out.size)); have HIMP:=hide himp; clear hb7 himp))
            all_goals
              go_wp2_with fail
              go_meet
              case rel => exact ⟨A7,n7,c7,bb,rfl,rfl,HB7,hide (fun h => by
                obtain ⟨hno,hrd⟩:=HIMP.out h
                rw [H2.out hno] at hrd
                refine ⟨?_,hrd⟩
                have h1:=hrd.1
                have h2:=HR1.out.1
                rw [outsV_length] at h1 h2
                omega)⟩
          case rest =>
            obtain ⟨A7,n7,c7,bb,rfl,rfl,HB7,HI⟩:=hcut
            cases bb with
            | false =>
              have HE:=hide (HS6.out.below HB7.out).below_
              clear HSx CPx z
              go_wp2_with fail
              go_ret
              exact ⟨rfl,HE.out⟩
            | true =>
              obtain ⟨e7,hr7⟩:=HI.out rfl
              subst e7
              have CO2:=hide (CO.out wc A7 c7 HB7.out hr7)
              clear HSx CPx z hr7
              go_wp2_with fail
              refine CO2.out.mono ?_
              rintro e w8 ⟨rfl,hb8⟩
              have HE:=hide (HS6.out.below (HB7.out.trans (hb8.mono HB7.out.size))).below_
              clear hb8 CO2
              go_wp2_with fail
              go_ret
              exact ⟨rfl,HE.out⟩
end Go.Proofs.YtjphckfbbiehdaaGreat
