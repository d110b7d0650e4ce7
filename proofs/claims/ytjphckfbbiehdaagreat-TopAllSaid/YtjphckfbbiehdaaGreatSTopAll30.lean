/- Part of a proof. -/
import Derived.Deep.DeepCutAuto
import Derived.Test.YtjphckfbbiehdaaGreatSTopAll29
set_option linter.unusedSimpArgs false
set_option linter.unusedVariables false
namespace Go.Proofs.YtjphckfbbiehdaaGreat
open Go.RowKit Go.Maps
set_option maxRecDepth 100000 in
set_option maxHeartbeats 4000000 in
theorem rpcontains_any {F:Nat → Prop} {W0 w:World} {Be:Nat} {t:RpT} {x:Item} {A:Option Addr} {n c:Nat} {regs:List Val} (h:Sep F W0 w (x :: rpR Be t)) (ok:RpOk t.a) (hps:t.oj.ps.length ≤ 600) (hn:n ≤ 1000) (hrl:regs.length=n) (hx:∀ X,x.P X → Rd X (fun _ => True) 2 A n (vals regs)) (hvk:∀ v ∈ regs,t.a.vok v ∧ numOk v) :
    Calls Tryz.prog 49 #[.slice A n c,.func (.func 50) #[.pointer (some ⟨Be,0,none⟩)] #[]] w fun e w' => e=.returned (.bool (missL t.a regs).isSome) ∧ ∃ t':RpT,t'.a=t.a.copM (missL t.a regs) ∧ Sep F W0 w' (x :: rpR Be t'):=by
  have C:=hide (rpindex_any (c:=c) h ok hps hn hrl hx hvk)
  clear h ok hps hn hrl hx hvk
  go_enter Tryz.func49,Tryz.ntmps49
  go_wp2_with fail
  refine C.out.mono ?_
  rintro e w1 ⟨⟨r,rfl,hr⟩,t',ht,hS⟩
  have hb:(missL t.a regs).isSome=decide (0 ≤ r):=by
    rw [Bool.eq_iff_iff,decide_eq_true_eq]; exact hr.symm
  have HB:=hide hb
  have HT:=hide ht
  have HS:=hide hS
  clear hb hr ht hS C
  go_wp2_with fail
  go_ret
  exact ⟨ret_bool HB.out.symm,t',HT.out,HS.out⟩
theorem rd_blk {w:World} {g T n size:Nat} {cs:Array Value} (h:Blk w g T cs) (hs:cs.size=n * size) (hm:n ≤ maxLen):Rd w (fun _ => True) size (some ⟨g,0,none⟩) n cs.toList :=
  Rd.of_own (show w.ownsRow 0 T size (.slice (some ⟨g,0,none⟩) n n) n cs.toList from hrow_of_blk h hs hm) (fun _ _ => trivial)
def regC (regs:List Val):Array Value:=(vals regs).toArray
def RpT.tl (t:RpT) (l:List (Nat × Nat)):RpT:={ t with Al:=(if t.cl=1 then t.Al else t.Al.map (·.add (1 * 2))),cl:=t.cl - 1,log:=l }
theorem rp_tail {F:Nat → Prop} {W0 w:World} {Be:Nat} {t:RpT} {x:Item} (h:Sep F W0 w (x :: rpR Be t)) {p:Nat × Nat} {l:List (Nat × Nat)} (hl:t.log=p :: l) :
    Sep F W0 (w.setCell ⟨Be,5,none⟩ (.slice (t.tl l).Al l.length (t.cl - 1))) (x :: rpR Be (t.tl l)):=by
  have e1:t.log.length=l.length + 1:=by rw [hl]; rfl
  have e2:logV t.log=.int .i64 (p.1:Int) :: .int .i64 (p.2:Int) :: logV l:=by rw [hl]; rfl
  have h0:Sep F W0 w (x :: allI (t.cps.map cpRow) :: blkI Be 103 (rpC t) :: rowI 3 1 t.Ar t.row.length t.cr (ints t.row) :: cpI t.b t.cps.length t.cps :: rowI 3 1 t.Am t.cps.length t.cm (madeV t.cps) :: sufI 143 2 t.Al (l.length + 1) t.cl (.int .i64 (p.1:Int) :: .int .i64 (p.2:Int) :: logV l) :: ojL t.oj):=by
    rw [← e1,← e2]; exact h
  have h1:=h0.sufTail 6 rfl (by omega)
  have h2:=h1.set_ 2 (g:=Be) (t:=103) rfl 5 (.slice (t.tl l).Al l.length (t.cl - 1))
  exact h2
theorem rp_log {F:Nat → Prop} {W0 w:World} {Be:Nat} {t:RpT} {pre:List Item} (h:Sep F W0 w (pre ++ rpR Be t)) {p:Nat × Nat} {l:List (Nat × Nat)} (hl:t.log=p :: l) :
    ∃ lg off,t.Al=some ⟨lg,off,none⟩ ∧ w.cell? ⟨lg,off,none⟩=some (.int .i64 (p.1:Int)) ∧ w.cell? ⟨lg,off + 1,none⟩=some (.int .i64 (p.2:Int)) ∧ lg < w.heap.size ∧ 1 ≤ t.cl:=by
  have hP:(sufI 143 2 t.Al t.log.length t.cl (logV t.log)).P w:=h.get (pre.length + 5) (by rw [List.getElem?_append_right (by omega)]; simp [rpR])
  have hle:=suf_le hP
  rw [hl] at hP hle
  rcases hP.2 with ⟨_,h0,_⟩ | ⟨g,off,cur,hA,_⟩
  · cases h0
  · obtain ⟨ad,e1,_,hb,hc⟩:=(suf_rd hP).2 (by simp)
    rw [hA] at e1
    injection e1 with e1
    subst e1
    have c0:=hc 0 (.int .i64 (p.1:Int)) rfl
    have c1:=hc 1 (.int .i64 (p.2:Int)) rfl
    rw [suf_addr] at c0 c1
    exact ⟨g,off,hA,c0,c1,hb,by simp at hle; omega⟩
set_option maxRecDepth 100000 in
set_option maxHeartbeats 16000000 in
theorem rwork_log {F:Nat → Prop} {W0 w:World} {Be:Nat} {t:RpT} {x:Item} (h:Sep F W0 w (x :: rpR Be t)) (ok:RpOk t.a) (hps:t.oj.ps.length ≤ 600) (hnum:∀ i fs,t.a.fld i=some fs → ∀ v ∈ fs,numOk v) {o k:Nat} {l:List (Nat × Nat)} (hl:t.log=(o,k) :: l) (hll:t.log.length ≤ 1000) (p0 p1 p2 p3 p4 p5 p6 p7:Val) :
    Calls Tryz.prog 26 #[.pointer (some ⟨Be,0,none⟩),.agg #[.bool p0.1,.int .i64 p0.2,.bool p1.1,.int .i64 p1.2,.bool p2.1,.int .i64 p2.2,.bool p3.1,.int .i64 p3.2,.bool p4.1,.int .i64 p4.2,.bool p5.1,.int .i64 p5.2,.bool p6.1,.int .i64 p6.2,.bool p7.1,.int .i64 p7.2]] w fun e w' => (∃ u,e=.returned u) ∧ ∃ t':RpT,t'.a=t.a.work ∧ Sep F W0 w' (x :: rpR Be t'):=by
  obtain ⟨g,hg⟩:∃ g,w.heap.size=g:=⟨_,rfl⟩
  obtain ⟨W,hW⟩:∃ W,w.alloc (.cells #[.bool p0.1,.int .i64 p0.2,.bool p1.1,.int .i64 p1.2,.bool p2.1,.int .i64 p2.2,.bool p3.1,.int .i64 p3.2,.bool p4.1,.int .i64 p4.2,.bool p5.1,.int .i64 p5.2,.bool p6.1,.int .i64 p6.2,.bool p7.1,.int .i64 p7.2] 65)=W:=⟨_,rfl⟩
  have HW:=hide hW
  have hS0:Sep F W0 W (x :: rpR Be t):=by rw [← hW]; exact h.alloc _
  obtain ⟨lg,off,hA,c0,c1,c2,hc1⟩:=rp_log (pre:=[x]) hS0 hl
  obtain ⟨-,-,k2,-,-,k5,-,k7,k8⟩:=rp_cells (pre:=[x]) hS0
  obtain ⟨gc,hgc⟩:∃ g,W.heap.size=g:=⟨_,rfl⟩
  have hS1:=hS0.blkAtF 143 #[.int .i64 (o:Int),.int .i64 (k:Int)] hgc
  have hS2:=Sep.split (l:=[_,x]) (rp_tail (Sep.join (l:=[_,x]) hS1) hl)
  obtain ⟨X,hX⟩:∃ X,(W.alloc (.cells #[.int .i64 (o:Int),.int .i64 (k:Int)] 143)).setCell ⟨Be,5,none⟩ (.slice (t.tl l).Al l.length (t.cl - 1))=X:=⟨_,rfl⟩
  rw [hX] at hS2
  obtain ⟨-,-,-,-,-,q5,-,q7,q8⟩:=rp_cells (pre:=[_,x]) hS1
  obtain ⟨z1,z2,z3,-⟩:=hS1.rules 0 (g:=gc) (t:=143) rfl
  obtain ⟨-,-,y2,-,-,-,-,-,y8⟩:=rp_cells (pre:=[_,x]) hS2
  obtain ⟨x1,x2,x3,-⟩:=hS2.rules 0 (g:=gc) (t:=143) rfl
  have x5:=(x1 0).trans (show _=some (.int .i64 (o:Int)) from rfl)
  have x6:=(x1 1).trans (show _=some (.int .i64 (k:Int)) from rfl)
  have hwk:t.a.work=if t.a.has o then (t.a.nl l).bring o k else t.a.nl l:=by
    unfold RpA.work
    rw [show t.a.log=(o,k) :: l from hl]
  obtain ⟨fs,hf,hk⟩:=ok.lg (o,k) (by rw [show t.a.log=(o,k) :: l from hl]; exact List.mem_cons_self ..)
  dsimp only at hf hk
  have hol:o < t.a.objs.length:=RpA.fld_lt hf
  rw [t.n] at hol
  have hnd:(t.cps.map fun c => c.i).Nodup:=by have h1:=RpOkE.nd ok; rw [show keysC t.a.cps=_ from cpP_keys t.cps] at h1; exact h1
  have hlk:=fun m => cp_look (l:=t.cps) (rp_map (t:=t.tl l) (pre:=[_,x]) (hS2.drewN m)) hnd o (numW (by omega) (by omega))
  have hokn:RpOkE (fun o' j => o'=o ∧ j=k) (t.tl l).a:=ok.nl (show t.a.log=(o,k) :: l from hl)
  have HC:=hide (fun (hh:t.a.has o) (wq:World) (hq:Sep F W0 wq (allI [blkI gc 143 #[.int .i64 (o:Int),.int .i64 (k:Int)],x] :: rpR Be (t.tl l))) => rbring_any hq hokn hps (o:=o) (k:=k) hh (by show k < (t.a.flds o).length; rw [RpA.flds_of hf]; exact hk) (by
    have h1:=at_of (a:=t.a) (o:=o) (k:=k) (by rw [RpA.flds_of hf]; exact hk)
    rw [RpA.flds_of hf] at h1
    exact hnum o fs hf _ (List.mem_of_getElem? h1)))
  have HS2:=hide hS2
  have HWK:=hide hwk
  have HS2d:=hide (fun m => hS2.drewN m)
  rw [hA] at k5 q5
  obtain ⟨n,hn⟩:∃ n,t.log.length=n:=⟨_,rfl⟩
  have hnl:l.length=n - 1:=by rw [← hn,hl]; simp
  have hn1:1 ≤ n:=by rw [← hn,hl]; simp
  rw [hn] at k5 q5 hll
  obtain ⟨C,hC⟩:∃ C,t.cl=C:=⟨_,rfl⟩
  rw [hC] at k5 q5 hc1
  have hEX:(W.alloc (.cells #[.int .i64 (o:Int),.int .i64 (k:Int)] 143)).setCell ⟨Be,5,none⟩ (.slice (if C=1 then some ⟨lg,off,none⟩ else some ⟨lg,off + 2,none⟩) (n - 1) (C - 1))=X:=by
    rw [← hX,← hnl,← hC]
    unfold RpT.tl
    dsimp only
    rw [hA,Option.map_some,suf_addr]
  obtain ⟨mb,hmb⟩:∃ q,t.b=q:=⟨_,rfl⟩
  rw [hmb] at k2
  have y2':X.cell? ⟨Be,2,none⟩=some (.map (some mb)):=by rw [← hmb]; exact y2
  have t1:decide ((0:Int) < (n:Int))=true:=by simp; omega
  have HEX:=hide hEX
  have n1:gc ≠ Be:=by omega
  have n2:Be ≠ gc:=by omega
  have n3:lg ≠ gc:=by omega
  clear h ok hnum hl hW hS0 hA hS1 hS2 hX z1 y2 x1 hwk hf hk hnd hokn hn hC hEX hps
  by_cases hh:t.a.has o
  · obtain ⟨c,hc,hci⟩:=List.mem_map.1 (RpT.has.1 hh)
    have hlk1:∀ m,(Instr.lookup 100 (.map (some mb)) (.int .i64 (o:Int)) true).run Tryz.prog (X.drewN m)=.ok (.tuple #[.slice (some ⟨c.g,0,none⟩) c.fs.length c.fs.length,.bool true]) (X.drewN m):=fun m => by
      rw [← hmb]
      exact (hlk m).1 c hc hci
    have HC1:=hide (HC.out hh)
    have hwk:=HWK.out
    rw [if_pos hh] at hwk
    have HWK1:=hide hwk
    obtain ⟨cg,hcg⟩:∃ q,c.g=q:=⟨_,rfl⟩
    obtain ⟨cl,hcl⟩:∃ q,c.fs.length=q:=⟨_,rfl⟩
    simp only [hcg,hcl] at hlk1
    clear hlk hc hci hmb HC hwk HWK hh hcg hcl
    rcases Decidable.em (C=1) with hC1 | hC1
    all_goals
      have hEX:=HEX.out
      have HEX1:=HEX
      clear HEX
      first
        | subst hC1; rw [if_pos rfl,Nat.sub_self] at hEX
        | rw [if_neg hC1] at hEX
      have HEX:=hide hEX
      clear hEX HEX1
      go_enter Tryz.func26,Tryz.ntmps26
      go_upto_region 1 with fail
      rw [HW.out]
      go_upto_region 4 with fail
      rw [HEX.out]
      go_quiet (fail)
      go_wp2_with fail
      refine (HC1.out _ (Sep.join (l:=[_,x]) (by first | exact HS2.out | exact HS2d.out _))).mono ?_
      rintro e w5 ⟨⟨u,rfl⟩,t5,hab,hS5⟩
      have HS5:=hide (Sep.split (l:=[_,x]) hS5)
      have HA:=hide hab
      clear hS5 hab
      go_wp2_with fail
      (try simp only [Exit.inBlock,Exit.then]); refine bodyPost_ret (results_none rfl _ _ _) rfl ?_
      exact ⟨⟨_,rfl⟩,t5,HA.out.trans HWK1.out.symm,HS5.out.sub (List.sublist_cons_self _ _)⟩
  · have hlk1:=fun m => (hlk m).2.1 (fun h => hh (RpT.has.2 h))
    rw [show (t.tl l).b=mb from hmb] at hlk1
    have hwk:=HWK.out
    rw [if_neg hh] at hwk
    have HWK1:=hide hwk
    clear hlk hmb HC hwk HWK hh
    rcases Decidable.em (C=1) with hC1 | hC1
    all_goals
      have hEX:=HEX.out
      have HEX1:=HEX
      clear HEX
      first
        | subst hC1; rw [if_pos rfl,Nat.sub_self] at hEX
        | rw [if_neg hC1] at hEX
      have HEX:=hide hEX
      clear hEX HEX1
      go_enter Tryz.func26,Tryz.ntmps26
      go_upto_region 1 with fail
      rw [HW.out]
      go_upto_region 4 with fail
      rw [HEX.out]
      go_quiet (fail)
      go_wp2_with fail
      (try simp only [Exit.inBlock,Exit.then]); refine bodyPost_ret (results_none rfl _ _ _) rfl ?_
      exact ⟨⟨_,rfl⟩,t.tl l,HWK1.out.symm,by first | exact HS2.out.sub (List.sublist_cons_self _ _) | exact (HS2d.out _).sub (List.sublist_cons_self _ _)⟩
end Go.Proofs.YtjphckfbbiehdaaGreat

namespace Go.Proofs.YtjphckfbbiehdaaGreat
open Go.RowKit Go.Maps
theorem regs_rd {g:Nat} {regs:List Val} {x:Item} (hl:regs.length=8) (X:World) (h:(allI [blkI g 65 (regC regs),x]).P X):Rd X (fun _ => True) 2 (some ⟨g,0,none⟩) 8 (vals regs):=by
  have h1:Blk X g 65 (regC regs):=h.1 (blkI g 65 (regC regs)) (List.mem_cons_self ..)
  have h2:=rd_blk (size:=2) (n:=8) h1 (by unfold regC; rw [List.size_toArray,vals_length,hl]) (by decide)
  exact h2
set_option maxRecDepth 100000 in
set_option maxHeartbeats 16000000 in
theorem rwork_copy {F:Nat → Prop} {W0 w:World} {Be:Nat} {t:RpT} {x:Item} (h:Sep F W0 w (x :: rpR Be t)) (ok:RpOk t.a) (hps:t.oj.ps.length ≤ 600) (hl:t.log=[]) (p0 p1 p2 p3 p4 p5 p6 p7:Val) (hregs:t.regs=[p0,p1,p2,p3,p4,p5,p6,p7]) (hnum:∀ v ∈ t.regs,numOk v) {v:Val} (hm:t.a.miss=some v) :
    Calls Tryz.prog 26 #[.pointer (some ⟨Be,0,none⟩),.agg #[.bool p0.1,.int .i64 p0.2,.bool p1.1,.int .i64 p1.2,.bool p2.1,.int .i64 p2.2,.bool p3.1,.int .i64 p3.2,.bool p4.1,.int .i64 p4.2,.bool p5.1,.int .i64 p5.2,.bool p6.1,.int .i64 p6.2,.bool p7.1,.int .i64 p7.2]] w fun e w' => (∃ u,e=.returned u) ∧ ∃ t':RpT,t'.a=t.a.work ∧ Sep F W0 w' (x :: rpR Be t'):=by
  obtain ⟨g,hg⟩:∃ g,w.heap.size=g:=⟨_,rfl⟩
  have hS0:=h.blkAtF 65 (regC t.regs) hg
  rw [show regC t.regs=#[.bool p0.1,.int .i64 p0.2,.bool p1.1,.int .i64 p1.2,.bool p2.1,.int .i64 p2.2,.bool p3.1,.int .i64 p3.2,.bool p4.1,.int .i64 p4.2,.bool p5.1,.int .i64 p5.2,.bool p6.1,.int .i64 p6.2,.bool p7.1,.int .i64 p7.2] from by rw [hregs]; rfl] at hS0
  obtain ⟨W,hW⟩:∃ W,w.alloc (.cells #[.bool p0.1,.int .i64 p0.2,.bool p1.1,.int .i64 p1.2,.bool p2.1,.int .i64 p2.2,.bool p3.1,.int .i64 p3.2,.bool p4.1,.int .i64 p4.2,.bool p5.1,.int .i64 p5.2,.bool p6.1,.int .i64 p6.2,.bool p7.1,.int .i64 p7.2] 65)=W:=⟨_,rfl⟩
  rw [hW] at hS0
  have HW:=hide hW
  rw [show (#[.bool p0.1,.int .i64 p0.2,.bool p1.1,.int .i64 p1.2,.bool p2.1,.int .i64 p2.2,.bool p3.1,.int .i64 p3.2,.bool p4.1,.int .i64 p4.2,.bool p5.1,.int .i64 p5.2,.bool p6.1,.int .i64 p6.2,.bool p7.1,.int .i64 p7.2]:Array Value)=regC t.regs from by rw [hregs]; rfl] at hS0
  obtain ⟨-,-,-,-,-,k5,-,k7,k8⟩:=rp_cells (pre:=[_,x]) hS0
  obtain ⟨-,x2,x3,-⟩:=hS0.rules 0 (g:=g) (t:=65) rfl
  have hr8:t.regs.length=8:=by rw [hregs]; rfl
  have HC:=hide (rpcontains_any (n:=8) (c:=8) (regs:=t.regs) (A:=some ⟨g,0,none⟩) (x:=allI [blkI g 65 (regC t.regs),x]) (Sep.join (l:=[_,_]) hS0) ok hps (by omega) hr8 (fun X hX => regs_rd hr8 X hX) (fun v hv => ⟨ok.vr v hv,hnum v hv⟩))
  have hml:missL t.a t.regs=some v:=hm
  rw [hl] at k5
  have HM:=hide hml
  have HWK:=hide (show t.a.work=t.a.copM (missL t.a t.regs) from by
    unfold RpA.work
    rw [show t.a.log=[] from hl,hm,hml]
    rfl)
  clear h ok hps hl hregs hnum hm hW hS0 hr8 hml
  go_enter Tryz.func26,Tryz.ntmps26
  go_upto_region 1 with fail
  rw [HW.out]
  go_wp2_with fail
  refine HC.out.mono ?_
  rintro e w5 ⟨rfl,t5,hab,hS5⟩
  have HS5:=hide (Sep.split (l:=[_,x]) hS5)
  have HA:=hide (hab.trans HWK.out.symm)
  clear hS5 hab HC
  rw [HM.out]
  go_wp2_with fail
  (try simp only [Exit.inBlock,Exit.then]); refine bodyPost_ret (results_none rfl _ _ _) rfl ?_
  exact ⟨⟨_,rfl⟩,t5,HA.out,HS5.out.sub (List.sublist_cons_self _ _)⟩
end Go.Proofs.YtjphckfbbiehdaaGreat

namespace Go.Proofs.YtjphckfbbiehdaaGreat
open Go.RowKit Go.Maps
theorem wp_name {P:Program} {c:Code} {Q:Exit → Act → World → Prop} {a:Act} {w:World} (h:∀ X,w=X → Code.wp P c Q a X):Code.wp P c Q a w:=h w rfl
theorem filled_ok {a:RpA} (ok:RpOk a) {p:Nat × List Val} (hp:a.cps[a.filled]?=some p):RpOkE (fun o' _ => o'=p.1) (a.fl (a.filled + 1)):=by
  refine ⟨ok.r8,ok.vr,ok.vf,ok.f4,ok.row,ok.r24,ok.nd,ok.ck,?_,ok.lg,fun i q hi hq j hj => ?_⟩
  · show a.filled + 1 ≤ a.cps.length
    have:=(List.getElem?_eq_some_iff.1 hp).1
    omega
  · have hi':i < a.filled + 1:=hi
    by_cases e:i=a.filled
    · subst e
      obtain rfl:q=p:=Option.some.inj ((show a.cps[a.filled]?=some q from hq).symm.trans hp)
      exact .inl rfl
    · exact .inr ((ok.ok i q (by omega) hq j hj).resolve_left fun h => h)
theorem made_cell {F:Nat → Prop} {W0 w:World} {Be:Nat} {t:RpT} {pre:List Item} (h:Sep F W0 w (pre ++ rpR Be t)) {k:Nat} {c:Cp} (hk:t.cps[k]?=some c):∃ g,t.Am=some ⟨g,0,none⟩ ∧ g < w.heap.size ∧ w.cell? ⟨g,k,none⟩=some (.int .i64 (c.i:Int)):=by
  have hrow:w.ownsRow 0 3 1 (.slice t.Am t.cps.length t.cm) t.cps.length (madeV t.cps) :=
    h.get (i:=rowI 3 1 t.Am t.cps.length t.cm (madeV t.cps)) (pre.length + 4) (by rw [List.getElem?_append_right (by omega)]; simp [rpR])
  obtain ⟨hkl,hke⟩:=List.getElem?_eq_some_iff.1 hk
  obtain ⟨g,hA⟩:=hown_addr hrow (by omega)
  rw [hA] at hrow
  refine ⟨g,hA,(rowI 3 1 (some ⟨g,0,none⟩) t.cps.length t.cm (madeV t.cps)).dom w hrow g rfl,?_⟩
  rw [hrow.cellAt k (by omega)]
  unfold madeV
  simp [ints]
  exact ⟨c,hk,rfl⟩
theorem fl_set {F:Nat → Prop} {W0 w:World} {Be:Nat} {t:RpT} {pre:List Item} (h:Sep F W0 w (pre ++ rpR Be t)) (n:Nat):Sep F W0 (w.setCell ⟨Be,4,none⟩ (.int .i64 (n:Int))) (pre ++ rpR Be { t with filled:=n }):=by
  have h1:=h.set_ (pre.length + 1) (g:=Be) (t:=103) (cs:=rpC t) (by rw [List.getElem?_append_right (by omega)]; simp [rpR]) 4 (.int .i64 (n:Int))
  have e:(pre ++ rpR Be t).set (pre.length + 1) (blkI Be 103 ((rpC t).setIfInBounds 4 (.int .i64 (n:Int))))=pre ++ rpR Be { t with filled:=n }:=by
    rw [List.set_append_right _ _ (by omega),show pre.length + 1 - pre.length=1 from by omega]
    rfl
  rw [e] at h1
  exact h1
set_option maxRecDepth 100000 in
set_option maxHeartbeats 16000000 in
theorem rwork_fill {F:Nat → Prop} {W0 w:World} {Be:Nat} {t:RpT} {x:Item} (h:Sep F W0 w (x :: rpR Be t)) (ok:RpOk t.a) (hps:t.oj.ps.length ≤ 600) (hl:t.log=[]) (p0 p1 p2 p3 p4 p5 p6 p7:Val) (hregs:t.regs=[p0,p1,p2,p3,p4,p5,p6,p7]) (hnum:∀ v ∈ t.regs,numOk v) (hnumf:∀ i fs,t.a.fld i=some fs → ∀ v ∈ fs,numOk v) (hm:t.a.miss=none) {cq:Nat × List Val} (hcq:t.a.cps[t.a.filled]?=some cq) :
    Calls Tryz.prog 26 #[.pointer (some ⟨Be,0,none⟩),.agg #[.bool p0.1,.int .i64 p0.2,.bool p1.1,.int .i64 p1.2,.bool p2.1,.int .i64 p2.2,.bool p3.1,.int .i64 p3.2,.bool p4.1,.int .i64 p4.2,.bool p5.1,.int .i64 p5.2,.bool p6.1,.int .i64 p6.2,.bool p7.1,.int .i64 p7.2]] w fun e w' => (∃ u,e=.returned u) ∧ ∃ t':RpT,t'.a=t.a.work ∧ Sep F W0 w' (x :: rpR Be t'):=by
  obtain ⟨g,hg⟩:∃ g,w.heap.size=g:=⟨_,rfl⟩
  have hS0:=h.blkAtF 65 (regC t.regs) hg
  rw [show regC t.regs=#[.bool p0.1,.int .i64 p0.2,.bool p1.1,.int .i64 p1.2,.bool p2.1,.int .i64 p2.2,.bool p3.1,.int .i64 p3.2,.bool p4.1,.int .i64 p4.2,.bool p5.1,.int .i64 p5.2,.bool p6.1,.int .i64 p6.2,.bool p7.1,.int .i64 p7.2] from by rw [hregs]; rfl] at hS0
  obtain ⟨W,hW⟩:∃ W,w.alloc (.cells #[.bool p0.1,.int .i64 p0.2,.bool p1.1,.int .i64 p1.2,.bool p2.1,.int .i64 p2.2,.bool p3.1,.int .i64 p3.2,.bool p4.1,.int .i64 p4.2,.bool p5.1,.int .i64 p5.2,.bool p6.1,.int .i64 p6.2,.bool p7.1,.int .i64 p7.2] 65)=W:=⟨_,rfl⟩
  rw [hW] at hS0
  have HW:=hide hW
  rw [show (#[.bool p0.1,.int .i64 p0.2,.bool p1.1,.int .i64 p1.2,.bool p2.1,.int .i64 p2.2,.bool p3.1,.int .i64 p3.2,.bool p4.1,.int .i64 p4.2,.bool p5.1,.int .i64 p5.2,.bool p6.1,.int .i64 p6.2,.bool p7.1,.int .i64 p7.2]:Array Value)=regC t.regs from by rw [hregs]; rfl] at hS0
  obtain ⟨-,-,-,-,-,k5,-,k7,k8⟩:=rp_cells (pre:=[_,x]) hS0
  obtain ⟨-,x2,x3,-⟩:=hS0.rules 0 (g:=g) (t:=65) rfl
  have hr8:t.regs.length=8:=by rw [hregs]; rfl
  have HC:=hide (rpcontains_any (n:=8) (c:=8) (regs:=t.regs) (A:=some ⟨g,0,none⟩) (x:=allI [blkI g 65 (regC t.regs),x]) (Sep.join (l:=[_,_]) hS0) ok hps (by omega) hr8 (fun X hX => regs_rd hr8 X hX) (fun v hv => ⟨ok.vr v hv,hnum v hv⟩))
  have hml:missL t.a t.regs=none:=hm
  rw [hl] at k5
  have HM:=hide hml
  have HWK:=hide (show t.a.work=(t.a.fl (t.a.filled + 1)).bringN cq.1 (t.a.flds cq.1).length from by
    unfold RpA.work RpA.fill
    rw [show t.a.log=[] from hl,hm,hcq])
  have HOK:=hide ok
  have HPS:=hide (show ∀ t':RpT,t'.oj.abs=t.oj.abs → t'.oj.ps.length ≤ 600 from fun t' e => by rw [← oj_lenabs,e,oj_lenabs]; exact hps)
  have HNF:=hide hnumf
  have HCQ:=hide hcq
  clear h ok hps hl hregs hnum hm hW hS0 hr8 hml hnumf hcq
  go_enter Tryz.func26,Tryz.ntmps26
  go_upto_region 1 with fail
  rw [HW.out]
  go_wp2_with fail
  refine HC.out.mono ?_
  rintro e w5 ⟨rfl,t5,hab,hS5⟩
  rw [HM.out] at hab ⊢
  have hab':t5.a=t.a:=hab
  have hS6:Sep F W0 w5 ([blkI g 65 (regC t.regs),x] ++ rpR Be t5):=Sep.split (l:=[_,x]) hS5
  obtain ⟨k0,-,-,k3,k4,-,-,k7,k8⟩:=rp_cells (pre:=[_,x]) hS6
  have ok:=HOK.out
  have hcq:=HCQ.out
  have hnf:=HNF.out
  have hwk:=HWK.out
  rw [← hab'] at ok hcq hnf hwk
  have hps:t5.oj.ps.length ≤ 600:=HPS.out t5 (show t5.a.objs=t.a.objs by rw [hab'])
  have hE:=filled_ok ok hcq
  have hh:t5.a.has cq.1:=List.mem_map.2 ⟨cq,List.mem_of_getElem? hcq,rfl⟩
  obtain ⟨fs,hf⟩:=ok.has_fld hh
  obtain ⟨p,hp,hpf⟩:=RpT.fld hf
  have hfl:=oj_len (pre:=[_,x,_,_,_,_,_,_]) hS6 hp
  have h4:=ok.f4 _ fs hf
  obtain ⟨cp,hcp,hcpi⟩:∃ cp,t5.cps[t5.filled]?=some cp ∧ cp.i=cq.1:=by
    have h1:(cpP t5.cps)[t5.filled]?=some cq:=hcq
    unfold cpP at h1
    rw [List.getElem?_map] at h1
    obtain ⟨cp,h2,h3⟩:=Option.map_eq_some_iff.1 h1
    exact ⟨cp,h2,by rw [← h3]⟩
  obtain ⟨gm,hAm,hgm,m0⟩:=made_cell (pre:=[_,x]) hS6 hcp
  have hol:=(List.getElem?_eq_some_iff.1 hp).1
  have hml:=(List.getElem?_eq_some_iff.1 hcp).1
  have hm24:t5.cps.length ≤ 24:=by have:=RpOkE.made24 ok; rw [show t5.a.cps.length=t5.cps.length from by show (cpP t5.cps).length=_; unfold cpP; rw [List.length_map]] at this; exact this
  rw [hpf] at hfl
  rw [hAm] at k3
  rw [hcpi] at m0
  have hfn:t5.a.flds cq.1=fs:=RpA.flds_of hf
  rw [hfn] at hwk
  have HIV:=hide (fun n (hn:n ≤ fs.length) => hE.bringN (o:=cq.1) hh n (by show n ≤ (t5.a.flds cq.1).length; rw [hfn]; exact hn))
  have HFS:=hide hfn
  have HNF2:=hide (hnf _ fs hf)
  have HWK2:=hide (show t.a.work=(t5.a.fl (t5.a.filled + 1)).bringN cq.1 fs.length from by rw [← hab']; exact hwk)
  obtain ⟨o,ho⟩:∃ o,cq.1=o:=⟨_,rfl⟩
  have HST:=hide (fun n => fl_set (pre:=[_,x]) hS6 n)
  have HSTd:=hide (fun m n => fl_set (pre:=[_,x]) (hS6.drewN m) n)
  obtain ⟨f,hfd⟩:∃ q,t5.filled=q:=⟨_,rfl⟩
  obtain ⟨nm,hnm⟩:∃ q,t5.cps.length=q:=⟨_,rfl⟩
  have hfe:t5.a.filled=f:=hfd
  rw [ho] at hol m0 hp hh
  obtain ⟨cm,hcm⟩:∃ q,t5.cm=q:=⟨_,rfl⟩
  rw [hnm,hcm] at k3
  rw [hfd] at k4 m0
  rw [hfd,hnm] at hml
  rw [hnm] at hm24
  have hfs:=hfl
  have HP:=hide hp
  have HPS:=hide hps
  rw [hfe,ho] at HIV HWK2
  rw [ho] at HFS
  have HHAS:=hide hh
  clear hab hab' hS5 hS6 ok hcq hnf hwk hE hh hf hp hpf hcp hcpi hAm hfn hcm hfd hnm HOK HCQ HNF HWK HC HM HW k0 hfl
  have t1:decide ((f:Int) < (nm:Int))=true:=by simp; exact hml
  have t2:decide ((f:Int) < 0)=false:=by simp
  have t3:decide ((nm:Int) ≤ (f:Int))=false:=by simp; exact hml
  go_upto_region 8 with fail
  go_quiet (fail)
  go_upto_region 9 with fail
  go_quiet (fail)
  go_upto_region 11 with fail
  refine wp_name ?_
  intro X hX
  have hS7:Sep F W0 X ([blkI g 65 (regC t.regs),x] ++ rpR Be { t5 with filled:=f + 1 }):=by rw [← hX]; exact HSTd.out _ (f + 1)
  clear hX
  have hfl:=oj_len (pre:=[_,x,_,_,_,_,_,_]) hS7 HP.out
  obtain ⟨ad,hA,had,f0,f1,hob⟩:=oj_at (pre:=[_,x,_,_,_,_,_,_]) hS7 HP.out
  obtain ⟨k0,-,-,-,-,-,-,k7,k8⟩:=rp_cells (pre:=[_,x]) hS7
  dsimp only at hA k0
  rw [hA] at k0
  have hpn:p.o.n=fs.length:=hfs.symm
  obtain ⟨pn,hpn2⟩:∃ q,fs.length=q:=⟨_,rfl⟩
  rw [hpn,hpn2] at f1
  obtain ⟨nO,hnO⟩:∃ q,t5.oj.ps.length=q:=⟨_,rfl⟩
  have hol:o < nO:=by rw [← hnO]; exact (List.getElem?_eq_some_iff.1 HP.out).1
  rw [hnO] at k0
  have hO6:nO ≤ 600:=by rw [← hnO]; exact HPS.out
  have t4:decide ((o:Int) < 0)=false:=by simp
  have t5':decide ((nO:Int) ≤ (o:Int))=false:=by simp; exact hol
  have HS7:=hide hS7
  have HPN:=hide hpn2
  rw [hpn2] at h4
  have HNO:=hide (show ∀ t':RpT,t'.a.objs=t5.a.objs → t'.oj.ps.length ≤ 600 from fun t' e => by rw [← oj_lenabs,show t'.oj.abs=t5.oj.abs from e,oj_lenabs]; exact HPS.out)
  clear hS7 hfl hob hA hfs hpn hpn2 hnO HP
  go_wp2_with fail
  go_loopw [92] (fun q wr => ∃ (k:Nat) (t':RpT),k ≤ pn ∧ q=.int .i64 k ∧ Hid (t'.a=(t5.a.fl (f + 1)).bringN o k) ∧ Sep F W0 wr (allI [blkI g 65 (regC t.regs),x] :: rpR Be t')) (fun q _ => pn - (intOf q).toNat)
  case atStart => exact ⟨0,{ t5 with filled:=f + 1 },by omega,rfl,rfl,Sep.join (l:=[_,x]) HS7.out⟩
  case round =>
    clear HS7
    obtain ⟨k,t',hk,rfl,HI,hS⟩:=hrel
    have hI:=HI.out
    by_cases hlt:k < pn
    · have hkf:k < fs.length:=by rw [HPN.out]; exact hlt
      obtain ⟨i1,i2,i3,-⟩:=HIV.out k (by omega)
      rw [← hI] at i1 i2 i3
      have hfe:t'.a.flds o=fs:=by rw [← HFS.out]; unfold RpA.flds RpA.fld; rw [i3]; rfl
      have hat:=at_of (a:=t'.a) (o:=o) (k:=k) (by rw [hfe]; exact hkf)
      rw [hfe] at hat
      have C:=rbring_any hS i1 (HNO.out t' (by rw [i3]; rfl)) (o:=o) (k:=k) i2 (by rw [hfe]; exact hkf) (HNF2.out _ (List.mem_of_getElem? hat))
      have HC:=hide C
      have HNX:=hide (show t'.a.bring o k=(t5.a.fl (f + 1)).bringN o (k + 1) from by rw [bringN_succ,← hI])
      clear hkf i1 i2 i3 hfe hat C hS hI
      go_wp2_with fail
      refine HC.out.mono ?_
      rintro e w6 ⟨⟨u,rfl⟩,t2,hab,hS2⟩
      have HS2:=hide hS2
      have HA2:=hide (hab.trans HNX.out)
      clear hS2 hab HC HNX
      go_wp2_with fail
      go_roundw
      case rel => exact ⟨k + 1,t2,by omega,by go_num,HA2,HS2.out⟩
      case measure => simp [intOf]; omega
    · obtain rfl:k=pn:=by omega
      have HS:=hide hS
      clear hS
      go_wp2_with fail
      (try simp only [Exit.inBlock,Exit.then]); refine bodyPost_ret (results_none rfl _ _ _) rfl ?_
      exact ⟨⟨_,rfl⟩,t',by rw [hI,HWK2.out,HPN.out],(Sep.split (l:=[_,x]) HS.out).sub (List.sublist_cons_self _ _)⟩
end Go.Proofs.YtjphckfbbiehdaaGreat

namespace Go.Proofs.YtjphckfbbiehdaaGreat
open Go.RowKit Go.Maps
def Oj.setP (s:Oj) (i:Nat) (p:Option Po):Oj:={ s with ps:=s.ps.set i p }
theorem oj_setP_abs (s:Oj) (i:Nat) (p:Option Po):(s.setP i p).abs=s.abs.set i (p.map fun p => p.o.fields):=by
  unfold Oj.setP Oj.abs
  dsimp only
  rw [List.map_set]
theorem oj_setP {F:Nat → Prop} {W w:World} {s:Oj} {pre:List Item} {p:Option Po} (h:Sep F W w (opI p :: (pre ++ ojL s))) {i ga:Nat} (hi:i < s.ps.length) (hA:s.As=some ⟨ga,0,none⟩):Sep F W (w.setCell ⟨ga,i,none⟩ (ptrV p)) (pre ++ ojL (s.setP i p)):=by
  have h2:Sep F W w ((rowI 84 1 (some ⟨ga,0,none⟩) s.ps.length s.c (s.ps.map ptrV) :: opI p :: pre) ++ s.ps.map opI):=by
    rw [← hA]
    exact h.perm (show ((opI p :: pre) ++ rowI 84 1 s.As s.ps.length s.c (s.ps.map ptrV) :: s.ps.map opI).Perm _ from List.perm_middle)
  have h3:=h2.store 0 (g:=ga) rfl i (ptrV p)
  have h4:Sep F W (w.setCell ⟨ga,i,none⟩ (ptrV p)) ((rowI 84 1 (some ⟨ga,0,none⟩) s.ps.length s.c ((s.ps.map ptrV).set i (ptrV p)) :: opI p :: pre) ++ s.ps.map opI):=h3
  have h5:=h4.focus (j:=i) (t:=s.ps[i]) (List.getElem?_eq_getElem hi)
  have h6:=h5.sub (List.sublist_cons_self _ _)
  have h7:=Sep.unfocus (f:=opI) (pre:=rowI 84 1 (some ⟨ga,0,none⟩) s.ps.length s.c ((s.ps.map ptrV).set i (ptrV p)) :: pre) (l:=s.ps) (j:=i) (t:=p) (h6.perm (List.Perm.swap _ _ _)) hi
  have e:ojL (s.setP i p)=rowI 84 1 (some ⟨ga,0,none⟩) s.ps.length s.c ((s.ps.map ptrV).set i (ptrV p)) :: (s.ps.set i p).map opI:=by
    unfold ojL Oj.setP
    dsimp only
    rw [List.length_set,List.map_set,hA]
  rw [e]
  exact h7.perm List.perm_middle.symm
def frT (Be:Nat) (t:RpT):List Item:=[blkI Be 103 (rpC t),rowI 3 1 t.Ar t.row.length t.cr (ints t.row),cpI t.b t.cps.length t.cps,rowI 3 1 t.Am t.cps.length t.cm (madeV t.cps),sufI 143 2 t.Al t.log.length t.cl (logV t.log)]
def frR (Be:Nat) (t:RpT) (rest:List Cp) (s:Oj):List Item:=allI (rest.map cpRow) :: (frT Be t ++ ojL s)
theorem frR_all (Be:Nat) (t:RpT):frR Be t t.cps t.oj=rpR Be t:=rfl
def Cp.po (c:Cp) (gB:Nat):Po:=⟨gB,⟨some ⟨c.g,0,none⟩,c.fs.length,c.fs.length,c.fs⟩⟩
theorem fr_take {F:Nat → Prop} {W0 w:World} {Be:Nat} {t:RpT} {x:Item} {rest rest':List Cp} {s:Oj} {c:Cp} (h:Sep F W0 w (x :: frR Be t rest s)) (hp:rest.Perm (c :: rest')) {gB:Nat} (hg:w.heap.size=gB) {z ga:Nat} (hz:z < s.ps.length) (hA:s.As=some ⟨ga,0,none⟩) :
    Sep F W0 ((w.alloc (.cells #[.slice (some ⟨c.g,0,none⟩) c.fs.length c.fs.length] 83)).setCell ⟨ga,z,none⟩ (.pointer (some ⟨gB,0,none⟩))) (x :: frR Be t rest' (s.setP z (some (c.po gB)))):=by
  have h1:Sep F W0 w (rest.map cpRow ++ (x :: (frT Be t ++ ojL s))):=Sep.split (h.perm (List.Perm.swap _ _ _))
  have h2:Sep F W0 w (cpRow c :: (rest'.map cpRow ++ (x :: (frT Be t ++ ojL s)))):=h1.perm (List.Perm.append_right _ (hp.map cpRow))
  have h3:=h2.blkAtF 83 #[.slice (some ⟨c.g,0,none⟩) c.fs.length c.fs.length] hg
  have h4:Sep F W0 (w.alloc (.cells #[.slice (some ⟨c.g,0,none⟩) c.fs.length c.fs.length] 83)) (opI (some (c.po gB)) :: ((rest'.map cpRow ++ (x :: frT Be t)) ++ ojL s)):=by
    have h5:=Sep.join (l:=[_,_]) h3
    rw [List.append_assoc]
    exact h5
  have h6:=oj_setP h4 hz hA
  rw [List.append_assoc] at h6
  exact (Sep.join h6).perm (List.Perm.swap _ _ _)
theorem fr_none {F:Nat → Prop} {W0 w:World} {Be:Nat} {t:RpT} {x:Item} {rest:List Cp} {s:Oj} (h:Sep F W0 w (x :: frR Be t rest s)) {z ga:Nat} (hz:z < s.ps.length) (hA:s.As=some ⟨ga,0,none⟩) :
    Sep F W0 (w.setCell ⟨ga,z,none⟩ (.pointer none)) (x :: frR Be t rest (s.setP z none)):=by
  have h1:Sep F W0 w (opI none :: ((x :: allI (rest.map cpRow) :: frT Be t) ++ ojL s)):=h.addNil (opI none) ⟨fun i hi => by simp at hi,.nil⟩ (fun g hg => by obtain ⟨_,h,_⟩:=hg; simp at h)
  exact oj_setP h1 hz hA
def restC (l:List Cp) (R:List Int):List Cp:=l.filter fun c => !decide ((c.i:Int) ∈ R)
theorem filter_one {l:List Cp} (hn:(l.map fun c => c.i).Nodup) {c:Cp} (hc:c ∈ l):l.filter (fun d => decide (d.i=c.i))=[c]:=by
  induction l with
  | nil => cases hc
  | cons d l ih =>
    rw [List.map_cons,List.nodup_cons] at hn
    rcases List.mem_cons.1 hc with rfl | h
    · rw [List.filter_cons,if_pos (by simp)]
      congr 1
      refine List.filter_eq_nil_iff.2 fun e he => ?_
      simp only [decide_eq_true_eq]
      exact fun h => hn.1 (h ▸ List.mem_map.2 ⟨e,he,rfl⟩)
    · rw [List.filter_cons,if_neg (by simp only [decide_eq_true_eq]; exact fun e => hn.1 (e ▸ List.mem_map.2 ⟨c,h,rfl⟩))]
      exact ih hn.2 h
theorem restC_has {l:List Cp} (hn:(l.map fun c => c.i).Nodup) {c:Cp} (hc:c ∈ l) {R:List Int} (hz:(c.i:Int) ∉ R):(restC l R).Perm (c :: restC l (R ++ [(c.i:Int)])):=by
  have h1:=(List.filter_append_perm (fun d:Cp => decide (d.i=c.i)) (restC l R)).symm
  have hcr:c ∈ restC l R:=List.mem_filter.2 ⟨hc,by simpa using hz⟩
  have hnr:((restC l R).map fun c => c.i).Nodup:=hn.sublist (List.filter_sublist.map _)
  rw [filter_one hnr hcr] at h1
  refine h1.trans (List.Perm.cons c ?_)
  refine List.Perm.of_eq ?_
  unfold restC
  rw [List.filter_filter]
  refine List.filter_congr fun d _ => ?_
  rw [Bool.eq_iff_iff]
  simp only [List.mem_append,List.mem_singleton,Bool.and_eq_true,Bool.not_eq_true',decide_eq_false_iff_not]
  constructor
  · rintro ⟨h1,h2⟩ (h3 | h3)
    · exact h2 h3
    · exact h1 (by omega)
  · intro h1
    exact ⟨fun h => h1 (.inr (by rw [h])),fun h => h1 (.inl h)⟩
theorem restC_no {l:List Cp} {z:Int} (h:∀ c ∈ l,(c.i:Int) ≠ z) (R:List Int):restC l (R ++ [z])=restC l R:=by
  refine List.filter_congr fun d hd => ?_
  simp [h d hd]
theorem restC_nil (l:List Cp):restC l []=l:=by
  unfold restC
  simp
theorem flipO_snoc (cps:List (Nat × List Val)) (R:List Int) (z:Int) (objs:List (Option (List Val))):flipO cps (R ++ [z]) objs=(flipO cps R objs).set z.toNat (copyC cps z.toNat):=by unfold flipO; rw [List.foldl_append]; rfl
def rpN (regs:List Val) (oj:Oj) (Ar:Option Addr) (cr:Nat) (row:List Int) (b times:Nat):RpT:=⟨regs,oj,Ar,cr,row,b,[],none,0,0,none,0,[],times⟩
theorem rp_begin2 {F:Nat → Prop} {W0 w:World} {Be:Nat} {x:Item} (regs:List Val) {oj:Oj} {Ar:Option Addr} {cr:Nat} {row:List Int} {times:Nat} {u2 u3 u4 u5:Value} (h:Sep F W0 w (x :: blkI Be 103 #[oj.v,.slice Ar row.length cr,u2,u3,u4,u5,.int .i64 (times:Int)] :: rowI 3 1 Ar row.length cr (ints row) :: ojL oj)) {gm:Nat} (hg:w.heap.size=gm) :
    Sep F W0 (((((w.alloc (.map #[] 0)).setCell ⟨Be,2,none⟩ (.map (some gm))).setCell ⟨Be,3,none⟩ (.slice none 0 0)).setCell ⟨Be,4,none⟩ (.int .i64 0)).setCell ⟨Be,5,none⟩ (.slice none 0 0)) (x :: rpR Be (rpN regs oj Ar cr row gm times)):=by
  have h1:=h.cpNew hg
  have h2:=(((h1.set_ 1 (g:=Be) (t:=103) rfl 2 (.map (some gm))).set_ 1 (g:=Be) (t:=103) rfl 3 (.slice none 0 0)).set_ 1 (g:=Be) (t:=103) rfl 4 (.int .i64 0)).set_ 1 (g:=Be) (t:=103) rfl 5 (.slice none 0 0)
  have h3:Sep F W0 _ ([cpI gm 0 []] ++ (x :: blkI Be 103 (rpC (rpN regs oj Ar cr row gm times)) :: rowI 3 1 Ar row.length cr (ints row) :: ojL oj)) :=
    Sep.perm (items:=(x :: blkI Be 103 (rpC (rpN regs oj Ar cr row gm times)) :: rowI 3 1 Ar row.length cr (ints row) :: ojL oj) ++ [cpI gm 0 []]) h2 List.perm_append_comm
  have h5:=((h3.addNil (allI []) ⟨fun i hi => (by cases hi),.nil⟩ (fun g hg => by obtain ⟨_,hm,_⟩:=hg; cases hm)).addNil (rowI 3 1 none 0 0 []) (by exact World.ownsRow_nil _ _ _ _) (fun g hg => by cases hg)).addNil (sufI 143 2 none 0 0 []) (suf_nil _ _ _) (fun g hg => by cases hg)
  exact h5.perm (List.Perm.append_right (ojL oj) (perm7 _ _ _ _ _ _ _))
set_option maxRecDepth 100000 in
set_option maxHeartbeats 8000000 in
theorem rpbegin2_any {F:Nat → Prop} {W0 w:World} {Be:Nat} {x:Item} (regs:List Val) {oj:Oj} {Ar:Option Addr} {cr:Nat} {row:List Int} {times:Nat} {u2 u3 u4 u5:Value} (h:Sep F W0 w (x :: blkI Be 103 #[oj.v,.slice Ar row.length cr,u2,u3,u4,u5,.int .i64 (times:Int)] :: rowI 3 1 Ar row.length cr (ints row) :: ojL oj)) :
    Calls Tryz.prog 25 #[.pointer (some ⟨Be,0,none⟩)] w fun e w' => (∃ u,e=.returned u) ∧ ∃ b,Sep F W0 w' (x :: rpR Be (rpN regs oj Ar cr row b times)):=by
  obtain ⟨gm,hgm⟩:∃ g,w.heap.size=g:=⟨_,rfl⟩
  obtain ⟨c1,k7,k8,-⟩:=(h.alloc (.map #[] 0)).rules 1 (g:=Be) (t:=103) rfl
  have k9:=(h.rules 1 (g:=Be) (t:=103) rfl).2.2.1
  have k2:=(c1 2).trans (show _=some u2 from rfl)
  have k3:=(c1 3).trans (show _=some u3 from rfl)
  have k4:=(c1 4).trans (show _=some u4 from rfl)
  have k5:=(c1 5).trans (show _=some u5 from rfl)
  have HS:=hide (rp_begin2 regs h hgm)
  have hmm:=@run_makeMap Tryz.prog
  have n1:Be ≠ gm:=by omega
  have n2:gm ≠ Be:=by omega
  clear h c1
  go_enter Tryz.func25,Tryz.ntmps25
  go_wp2_with fail
  go_end0
  exact ⟨⟨_,rfl⟩,gm,HS.out⟩
end Go.Proofs.YtjphckfbbiehdaaGreat
