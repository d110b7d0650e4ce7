/- Part of a proof. -/
import Derived.Test.YtjphckfbbiehdaaGreatSTopAll28
import Derived.Test.YtjphckfbbiehdaaGreatSTopAll25
set_option linter.unusedSimpArgs false
set_option linter.unusedVariables false
namespace Go.Proofs.YtjphckfbbiehdaaGreat
open Go.RowKit Go.Maps
theorem nodup_idx {l:List Nat} (hn:l.Nodup) {i j a:Nat} (hi:l[i]?=some a) (hj:l[j]?=some a):i=j:=by
  obtain ⟨h1,e1⟩:=List.getElem?_eq_some_iff.1 hi
  obtain ⟨h2,e2⟩:=List.getElem?_eq_some_iff.1 hj
  have hp:=List.pairwise_iff_getElem.1 hn
  rcases Nat.lt_trichotomy i j with h | h | h
  · exact absurd (e1.trans e2.symm) (hp i j h1 h2 h)
  · exact h
  · exact absurd (e2.trans e1.symm) (hp j i h2 h1 h)
theorem cp_set_a {t:RpT} (hn:(t.cps.map fun c => c.i).Nodup) {j:Nat} {c:Cp} (hj:t.cps[j]?=some c) (k:Nat) (v:Val):({ t with cps:=t.cps.set j ⟨c.i,c.g,c.fs.set k v⟩ }:RpT).a=t.a.cset c.i k v:=by
  have hjl:=(List.getElem?_eq_some_iff.1 hj).1
  have e:cpP (t.cps.set j ⟨c.i,c.g,c.fs.set k v⟩)=cpSet (cpP t.cps) c.i k v:=by
    unfold cpP cpSet
    refine List.ext_getElem? fun i => ?_
    rw [List.getElem?_map,List.getElem?_set,List.getElem?_map,List.getElem?_map]
    by_cases h:j=i
    · subst h
      rw [if_pos rfl,if_pos hjl,hj]
      simp
    · rw [if_neg h]
      cases hd:t.cps[i]? with
      | none => rfl
      | some d =>
        have hne:d.i ≠ c.i:=fun e => h (nodup_idx hn (by rw [List.getElem?_map,hj]; rfl) (by rw [List.getElem?_map,hd]; exact congrArg some e))
        show some (d.i,d.fs)=some (if d.i=c.i then _ else _)
        rw [if_neg hne]
  unfold RpT.a RpA.cset
  dsimp only
  rw [e]
theorem rp_cset {F:Nat → Prop} {W0 w:World} {Be:Nat} {t:RpT} {x:Item} (h:Sep F W0 w (x :: rpR Be t)) {j:Nat} {c:Cp} (hj:t.cps[j]?=some c) (k:Nat) (v:Val) :
    Sep F W0 ((w.setCell ⟨c.g,k * 2,none⟩ (.bool v.1)).setCell ⟨c.g,k * 2 + 1,none⟩ (.int .i64 v.2)) (x :: rpR Be { t with cps:=t.cps.set j ⟨c.i,c.g,c.fs.set k v⟩ }):=by
  have hjl:=(List.getElem?_eq_some_iff.1 hj).1
  obtain ⟨L,hL⟩:∃ L,L=x :: blkI Be 103 (rpC t) :: rowI 3 1 t.Ar t.row.length t.cr (ints t.row) :: cpI t.b t.cps.length t.cps :: rowI 3 1 t.Am t.cps.length t.cm (madeV t.cps) :: sufI 143 2 t.Al t.log.length t.cl (logV t.log) :: ojL t.oj:=⟨_,rfl⟩
  have h0:Sep F W0 w (allI (t.cps.map cpRow) :: L):=by rw [hL]; exact h.perm (List.Perm.swap _ _ _)
  have h1:Sep F W0 w (L ++ t.cps.map cpRow):=(Sep.split h0).perm List.perm_append_comm
  have h2:=h1.focus (j:=j) (t:=c) hj
  have h3:=h2.store2 0 (g:=c.g) rfl (k * 2) (.bool v.1) (.int .i64 v.2)
  rw [List.set_cons_zero,vals_set2] at h3
  have he:cpRow ⟨c.i,c.g,c.fs.set k v⟩=rowI 63 2 (some ⟨c.g,0,none⟩) c.fs.length c.fs.length (vals (c.fs.set k (v.1,v.2))):=by unfold cpRow; dsimp only; rw [List.length_set]
  rw [← he] at h3
  have h4:=h3.unfocus (l:=t.cps) (j:=j) hjl
  have h5:=Sep.join (l:=(t.cps.set j ⟨c.i,c.g,c.fs.set k v⟩).map cpRow) (h4.perm List.perm_append_comm)
  rw [hL] at h5
  have h6:=h5.perm (l:=x :: allI ((t.cps.set j ⟨c.i,c.g,c.fs.set k v⟩).map cpRow) :: _) (List.Perm.swap _ _ _)
  have e:rpR Be { t with cps:=t.cps.set j ⟨c.i,c.g,c.fs.set k v⟩ }=allI ((t.cps.set j ⟨c.i,c.g,c.fs.set k v⟩).map cpRow) :: blkI Be 103 (rpC t) :: rowI 3 1 t.Ar t.row.length t.cr (ints t.row) :: cpI t.b t.cps.length t.cps :: rowI 3 1 t.Am t.cps.length t.cm (madeV t.cps) :: sufI 143 2 t.Al t.log.length t.cl (logV t.log) :: ojL t.oj:=by
    have e1:(t.cps.set j ⟨c.i,c.g,c.fs.set k v⟩).map (fun c => (c.i:Int))=t.cps.map fun c => (c.i:Int):=by
      rw [List.map_set]
      refine List.ext_getElem? fun i => ?_
      rw [List.getElem?_set]
      split
      · rename_i e
        subst e
        rw [List.length_map,if_pos hjl,List.getElem?_map,hj]; rfl
      · rfl
    have e2:cpI t.b t.cps.length (t.cps.set j ⟨c.i,c.g,c.fs.set k v⟩)=cpI t.b t.cps.length t.cps:=by
      unfold cpI
      rw [cp_setlen _ _ _ (fun d hd => by rw [hj] at hd; obtain rfl:=Option.some.inj hd; exact ⟨rfl,rfl,(List.length_set ..).symm⟩)]
    unfold rpR rpC madeV
    dsimp only
    rw [List.length_set,e1,e2]
  rw [e]
  exact h6
theorem cp_row {F:Nat → Prop} {W0 w:World} {Be:Nat} {t:RpT} {pre:List Item} (h:Sep F W0 w (pre ++ rpR Be t)) {j:Nat} {c:Cp} (hj:t.cps[j]?=some c) {k:Nat} (hk:k < c.fs.length) :
    w.cell? ⟨c.g,k * 2,none⟩=some (.bool c.fs[k].1) ∧ w.cell? ⟨c.g,k * 2 + 1,none⟩=some (.int .i64 c.fs[k].2) ∧ w.frozen? ⟨c.g,k * 2,none⟩=false ∧ w.frozen? ⟨c.g,k * 2 + 1,none⟩=false ∧ c.g < w.heap.size:=by
  have h1:(allI (t.cps.map cpRow)).P w:=h.get pre.length (by rw [List.getElem?_append_right (by omega)]; simp [rpR])
  have h2:(cpRow c).P w:=h1.1 _ (List.mem_map.2 ⟨c,List.mem_of_getElem? hj,rfl⟩)
  obtain ⟨a,b,c1,d⟩:=hrow_val h2 k hk hk
  exact ⟨a,b,c1,d,(cpRow c).dom w h2 c.g rfl⟩
set_option maxRecDepth 100000 in
set_option maxHeartbeats 16000000 in
theorem rbring_any {E:Nat → Nat → Prop} {F:Nat → Prop} {W0 w:World} {Be:Nat} {t:RpT} {x:Item} (h:Sep F W0 w (x :: rpR Be t)) (ok:RpOkE E t.a) (hn:t.oj.ps.length ≤ 600) {o k:Nat} (ho:t.a.has o) (hk:k < (t.a.flds o).length) (hw:numOk (t.a.at_ o k)) :
    Calls Tryz.prog 48 #[.pointer (some ⟨Be,0,none⟩),.int .i64 (o:Int),.int .i64 (k:Int)] w fun e w' => (∃ u,e=.returned u) ∧ ∃ t':RpT,t'.a=t.a.bring o k ∧ Sep F W0 w' (x :: rpR Be t'):=by
  obtain ⟨fs,hf⟩:=ok.has_fld ho
  obtain ⟨p,hp,hpf⟩:=RpT.fld hf
  rw [RpA.flds_of hf] at hk
  have hat:=at_of (a:=t.a) (o:=o) (k:=k) (by rw [RpA.flds_of hf]; exact hk)
  rw [RpA.flds_of hf] at hat
  have hvk:=ok.at_vok (o:=o) (k:=k) ho (by rw [RpA.flds_of hf]; exact hk)
  obtain ⟨v,hv⟩:∃ v,t.a.at_ o k=v:=⟨_,rfl⟩
  rw [hv] at hat hvk hw
  have hfl:=oj_len (pre:=[x,_,_,_,_,_,_]) h hp
  have h4:=ok.f4 o fs hf
  obtain ⟨ad,hA,had,f0,f1,hob⟩:=oj_at (pre:=[x,_,_,_,_,_,_]) h hp
  obtain ⟨k1,-,-,-,-,-,-,-,k8⟩:=rp_cells (pre:=[x]) h
  rw [hA] at k1
  have hol:=(List.getElem?_eq_some_iff.1 hp).1
  rw [hpf] at hfl
  have hkn:k < p.o.n:=by omega
  obtain ⟨g5,hA5⟩:=hown_addr (show w.ownsRow 0 63 2 (.slice p.o.A p.o.n p.o.c) p.o.n (vals p.o.fields) from hob) (by omega)
  have hob2:(rowI 63 2 (some ⟨g5,0,none⟩) p.o.n p.o.c (vals fs)).P w:=by rw [← hA5,← hpf]; exact hob
  obtain ⟨d1,d2,-,-⟩:=hrow_val hob2 k hkn hk
  have hfk:fs[k]=v:=by rw [List.getElem?_eq_getElem hk] at hat; exact Option.some.inj hat
  rw [hfk] at d1 d2
  have hg5:g5 < w.heap.size:=(rowI 63 2 (some ⟨g5,0,none⟩) p.o.n p.o.c (vals fs)).dom w hob2 g5 rfl
  rw [hA5] at f1
  obtain ⟨gv,hgv⟩:∃ g,w.heap.size=g:=⟨_,rfl⟩
  have hS1:=h.blkAtF 63 #[.bool v.1,.int .i64 v.2] hgv
  have CC:=hide (rcopied_any (x:=allI [blkI gv 63 #[.bool v.1,.int .i64 v.2],x]) (Sep.join (l:=[_,_]) hS1) ok hn v hvk hw)
  have hokc:=ok.cop hvk
  have hhas:(t.a.cop v).has o:=(cop_has _ _ _).2 (.inl ho)
  have HOKC:=hide hokc
  have HHAS:=hide hhas
  have HFC:=hide (show (t.a.cop v).fld o=some fs from by unfold RpA.fld; rw [(cop_keep _ _).2.1]; exact hf)
  have HBR:=hide (show t.a.bring o k=(t.a.cop v).cset o k v from by unfold RpA.bring; rw [hv])
  have HKL:=hide hk
  have H4:=hide h4
  rw [HBR.out]
  obtain ⟨m,hm⟩:∃ m,p.o.n=m:=⟨_,rfl⟩
  obtain ⟨oC,hoC⟩:∃ m,p.o.c=m:=⟨_,rfl⟩
  obtain ⟨pB,hpB⟩:∃ m,p.B=m:=⟨_,rfl⟩
  rw [hm,hoC] at f1
  rw [hpB] at f0 f1
  rw [hm] at hkn
  obtain ⟨nO,hnO⟩:∃ q,t.oj.ps.length=q:=⟨_,rfl⟩
  rw [hnO] at k1 hol hn
  obtain ⟨cO,hcO⟩:∃ q,t.oj.c=q:=⟨_,rfl⟩
  rw [hcO] at k1
  have hm4:m ≤ 4:=by omega
  have t1:decide ((o:Int) < 0)=false:=by simp
  have t2:decide ((nO:Int) ≤ (o:Int))=false:=by simp; omega
  have hmx:Tryz.prog.follows .mixedOrders=true:=by kernel_rfl
  obtain ⟨bv,mv⟩:=v
  dsimp only at d1 d2 CC
  clear h ok ho hk hw hf hp hpf hat hvk hv hfl h4 hA had hob hA5 hob2 hfk hS1 hokc hhas hm hoC hpB hnO hcO HBR
  go_enter Tryz.func48,Tryz.ntmps48
  go_wp2_with fail
  refine CC.out.mono ?_
  rintro e w5 ⟨rfl,t',hab,hS5⟩
  have hS6:Sep F W0 w5 (blkI gv 63 #[.bool bv,.int .i64 mv] :: x :: rpR Be t'):=Sep.split (l:=[_,_]) hS5
  obtain ⟨x1,x2,x3,-⟩:=hS6.rules 0 (g:=gv) (t:=63) rfl
  have x5:=(x1 0).trans (show _=some (.bool bv) from rfl)
  have x6:=(x1 1).trans (show _=some (.int .i64 mv) from rfl)
  obtain ⟨-,-,y2,-,-,-,-,-,y8⟩:=rp_cells (pre:=[_,x]) hS6
  have hok':=HOKC.out
  have hhas':=HHAS.out
  rw [← hab] at hok' hhas'
  have hnd':(t'.cps.map fun c => c.i).Nodup:=by have h1:=hok'.nd; rw [show keysC t'.a.cps=_ from cpP_keys t'.cps] at h1; exact h1
  obtain ⟨j,hj⟩:=List.getElem?_of_mem (RpT.has.1 hhas')
  rw [List.getElem?_map] at hj
  obtain ⟨c,hc,hci⟩:=Option.map_eq_some_iff.1 hj
  have hcl:c.fs.length=fs.length:=by
    obtain ⟨fs',hf',hl'⟩:=hok'.ck (c.i,c.fs) (List.mem_map.2 ⟨c,List.mem_of_getElem? hc,rfl⟩)
    dsimp only at hf' hl'
    rw [hci,hab,HFC.out] at hf'
    obtain rfl:=Option.some.inj hf'
    exact hl'
  have hlk:=(cp_look (rp_map (pre:=[_,x]) hS6) hnd' o (numW (by omega) (by omega))).2.2 c (List.mem_of_getElem? hc) hci
  have hlk2:=(cp_look (rp_map (pre:=[_,x]) hS6.drew) hnd' o (numW (by omega) (by omega))).2.2 c (List.mem_of_getElem? hc) hci
  have hkl:=HKL.out
  obtain ⟨r0,r1,r2,r3,r4⟩:=cp_row (pre:=[_,x]) hS6 hc (k:=k) (by omega)
  have hST:=rp_cset (x:=x) (hS6.sub (List.sublist_cons_self _ _)) hc k (bv,mv)
  have HFIN:=hide (show ({ t' with cps:=t'.cps.set j ⟨c.i,c.g,c.fs.set k (bv,mv)⟩ }:RpT).a=(t.a.cop (bv,mv)).cset o k (bv,mv) from by rw [cp_set_a hnd' hc,hab,hci])
  have HST:=hide hST
  unfold slV at hlk hlk2
  rw [hcl] at hlk hlk2
  obtain ⟨fl,hfl⟩:∃ q,fs.length=q:=⟨_,rfl⟩
  rw [hfl] at hlk hlk2 hkl
  obtain ⟨ov,hov⟩:∃ q,c.fs[k]=q:=⟨_,rfl⟩
  rw [hov] at r0 r1
  obtain ⟨cg,hcg⟩:∃ q,c.g=q:=⟨_,rfl⟩
  simp only [hcg] at hlk hlk2 r0 r1 r2 r3 r4 HST HFIN
  obtain ⟨mb,hmb⟩:∃ q,t'.b=q:=⟨_,rfl⟩
  rw [hmb] at y2 hlk hlk2
  have hfl4:fl ≤ 4:=by have:=H4.out; omega
  have t3:decide ((k:Int) < 0)=false:=by simp
  have t4:decide ((fl:Int) ≤ (k:Int))=false:=by simp; omega
  clear hS5 hS6 x1 hok' hhas' hnd' hj hc hci hcl hST hab hfl hov hcg hmb CC HOKC HHAS HFC HKL k1 f0 f1 d1 d2
  go_wp2_with fail
  go_still_tail 8,hmx
  go_wp2_with fail
  go_end0
  exact ⟨⟨_,rfl⟩,_,HFIN.out,by first | exact HST.out | exact HST.out.drew⟩
end Go.Proofs.YtjphckfbbiehdaaGreat

namespace Go.Proofs.YtjphckfbbiehdaaGreat
open Go.RowKit Go.Maps
theorem Sep.addNil {F:Nat → Prop} {W w:World} {items:List Item} (h:Sep F W w items) (i:Item) (hP:i.P w) (hf:∀ g,¬ i.fp g):Sep F W w (i :: items) :=
  h.consNew (Below.refl _ w) i hP (fun g hg => absurd hg (hf g))
theorem perm7 {α:Type} (a b c d e f g:α):[a,b,c,d,e,f,g].Perm [e,c,f,g,d,b,a]:=by
  classical
  rw [List.perm_iff_count]
  intro x
  simp only [List.count_cons,List.count_nil]
  omega
end Go.Proofs.YtjphckfbbiehdaaGreat

namespace Go.Proofs.YtjphckfbbiehdaaGreat
open Go.RowKit Go.Maps
theorem perm7b {α:Type} (a b c d e f g:α):[a,b,c,d,e,f,g].Perm [c,a,b,d,e,f,g]:=by
  classical
  rw [List.perm_iff_count]
  intro x
  simp only [List.count_cons,List.count_nil]
  omega
theorem rp_gather {F:Nat → Prop} {W w:World} {x y b r c m s:Item} {L:List Item} (h:Sep F W w (x :: y :: b :: r :: c :: m :: s :: L)):Sep F W w [allI (b :: L),x,y,r,c,m,s] :=
  Sep.join (l:=b :: L) (h.perm (((perm7b x y b r c m s).append_right L).trans (List.Perm.cons b (List.perm_append_comm (l₁:=[x,y,r,c,m,s]) (l₂:=L)))))
theorem rp_ungather {F:Nat → Prop} {W w:World} {x y b r c m s:Item} {L:List Item} (h:Sep F W w [allI (b :: L),x,y,r,c,m,s]):Sep F W w (x :: y :: b :: r :: c :: m :: s :: L) :=
  (Sep.split (l:=b :: L) h).perm (((perm7b x y b r c m s).append_right L).trans (List.Perm.cons b (List.perm_append_comm (l₁:=[x,y,r,c,m,s]) (l₂:=L)))).symm
set_option maxRecDepth 100000 in
set_option maxHeartbeats 8000000 in
theorem rpnew_any {F:Nat → Prop} {W0 w:World} {Be:Nat} {t:RpT} {x:Item} (h:Sep F W0 w (x :: rpR Be t)) (hn:t.oj.ps.length ≤ 600) (hr:t.row.length ≤ 24) {n:Nat} (h4:n ≤ 4) :
    Calls Tryz.prog 115 #[.pointer (some ⟨Be,0,none⟩),.int .i64 (n:Int)] w fun e w' => e=.returned (.tuple #[.int .i64 (rpNew t.a n).2.1,.int .i64 (rpNew t.a n).2.2]) ∧ ∃ t':RpT,t'.a=(rpNew t.a n).1 ∧ t'.regs=t.regs ∧ Sep F W0 w' (x :: rpR Be t'):=by
  obtain ⟨k1,k2,-,-,-,-,-,k7,k8⟩:=rp_cells (pre:=[x]) h
  unfold rpNew
  rw [show t.a.row.length=t.row.length from rfl]
  obtain ⟨m,hm⟩:∃ m,t.row.length=m:=⟨_,rfl⟩
  rw [hm] at k2 hr ⊢
  by_cases hR:24 ≤ m
  · rw [if_pos hR]
    have t1:decide ((24:Int) ≤ (m:Int))=true:=by simp; omega
    have HS:=hide h
    clear h hm k1 k7 hR
    go_enter Tryz.func115,Tryz.ntmps115
    go_wp2_with fail
    refine bodyPost_ret (v:=.tuple #[.int .i64 0,.int .i64 6]) (by simp [results,Tryz.results115,go_sem]) rfl ⟨rfl,t,rfl,rfl,HS.out⟩
  · rw [if_neg hR]
    have t1:decide ((24:Int) ≤ (m:Int))=false:=by simp; omega
    have HON:=hide t.n
    have hG:=rp_gather h
    have CN:=onew_any ((Sep.start (hG.get 0 rfl)).flat) (s:=t.oj) rfl (by omega) h4
    have HG:=hide hG
    have HCN:=hide CN
    have HM:=hide hm
    have HFIN:=hide (fun (wq:World) (A7 As:Option Addr) (c7 cA B gB:Nat) (hq:Sep F W0 wq (x :: allI (t.cps.map cpRow) :: blkI Be 103 (((rpC t).setIfInBounds 0 (t.oj.new As cA B gB n).v).setIfInBounds 1 (.slice A7 (m + 1) c7)) :: rowI 3 1 A7 (m + 1) c7 (ints t.row ++ [.int .i64 (t.oj.ps.length:Int)]) :: cpI t.b t.cps.length t.cps :: rowI 3 1 t.Am t.cps.length t.cm (madeV t.cps) :: sufI 143 2 t.Al t.log.length t.cl (logV t.log) :: ojL (t.oj.new As cA B gB n))) =>
      (show ∃ t':RpT,t'.a=t.a.push n ∧ t'.regs=t.regs ∧ Sep F W0 wq (x :: rpR Be t') from by
        refine ⟨{ t with oj:=t.oj.new As cA B gB n,Ar:=A7,cr:=c7,row:=t.row ++ [(t.oj.ps.length:Int)] },?_,rfl,?_⟩
        · unfold RpT.a RpA.push
          dsimp only
          rw [Oj.abs_new,show t.oj.abs.length=t.oj.ps.length from oj_lenabs t.oj]
        · unfold rpR rpC
          dsimp only
          rw [List.length_append,List.length_singleton,HM.out,show ints (t.row ++ [(t.oj.ps.length:Int)])=ints t.row ++ [.int .i64 (t.oj.ps.length:Int)] from by simp [ints]]
          exact hq))
    clear h hG CN hR hm k1
    go_enter Tryz.func115,Tryz.ntmps115
    go_wp2_with fail
    refine HCN.out.mono ?_
    rintro e w9 ⟨rfl,As,cA,B,gB,hP9⟩
    have hS9:=rp_ungather (HG.out.call 0 rfl hP9.fold)
    obtain ⟨j1,j2,j3,_⟩:=hS9.rules 2 (g:=Be) (t:=103) rfl
    have j5:=(j1 1).trans (show _=some (.slice t.Ar t.row.length t.cr) from rfl)
    rw [HM.out] at j5
    have HS9:=hide (show Sep F W0 w9 (x :: allI (t.cps.map cpRow) :: blkI Be 103 ((rpC t).setIfInBounds 0 (t.oj.new As cA B gB n).v) :: rowI 3 1 t.Ar m t.cr (ints t.row) :: cpI t.b t.cps.length t.cps :: rowI 3 1 t.Am t.cps.length t.cm (madeV t.cps) :: sufI 143 2 t.Al t.log.length t.cl (logV t.log) :: ojL (t.oj.new As cA B gB n)) from by rw [← HM.out]; exact hS9)
    clear hP9 hS9 j1 HG HCN k2 k7 k8
    obtain ⟨pl,hpl⟩:∃ q,t.oj.ps.length=q:=⟨_,rfl⟩
    rw [hpl] at HFIN ⊢
    have HPL:=hide hpl
    clear hpl
    go_wp2_with (first
      | (at_builtin
         refine wpList_app1 (cs:=#[.int .i64 (pl:Int)]) rfl (.tmp 26) (.tmp 28) 33 rfl (F:=F) (W:=W0) sInt (items:=_ :: _ :: _ :: _ :: _ :: _ :: _ :: _) HS9.out 3 (n:=m) rfl rfl rfl (by simp) rfl rfl (by omega) ?_
         intro A7 c7 w7 hS7 hC7
         obtain ⟨u1,u2,u3,_⟩:=hS7.rules 2 (g:=Be) (t:=103) rfl))
    have HF:=hide (HFIN.out _ A7 As c7 cA B gB (hS7.set_ 2 (g:=Be) (t:=103) rfl 1 (.slice A7 (m + 1) c7)))
    clear hS7 hC7 u1 HFIN HS9
    go_wp2_with fail
    refine bodyPost_ret (v:=.tuple #[.int .i64 pl,.int .i64 0]) (by simp [results,Tryz.results115,go_sem]) rfl ⟨by rw [HON.out,HPL.out],HF.out⟩
theorem end_gather {F:Nat → Prop} {W w:World} {pre L:List Item} (h:Sep F W w (pre ++ L)):Sep F W w (allI L :: pre):=Sep.join (l:=L) (h.perm List.perm_append_comm)
theorem end_ungather {F:Nat → Prop} {W w:World} {pre L:List Item} (h:Sep F W w (allI L :: pre)):Sep F W w (pre ++ L):=(Sep.split (l:=L) h).perm List.perm_append_comm
theorem sChg:SliceT Tryz.prog 101 143 2 16:=SliceT.mk_ Tryz.underlying101 (z:=.agg #[.int .i64 0,.int .i64 0]) (by kernel_rfl) rfl (by omega)
theorem logV_app (l:List (Nat × Nat)) (p:Nat × Nat):logV (l ++ [p])=logV l ++ [.int .i64 (p.1:Int),.int .i64 (p.2:Int)]:=by unfold logV; rw [List.flatMap_append]; rfl
def RpT.put (t:RpT) (i k:Nat) (v:Val) (p:Po) (A:Option Addr) (c:Nat):RpT:={ t with oj:=t.oj.put i k v p,Al:=A,cl:=c,log:=t.log ++ [(i,k)] }
theorem RpT.putA {t:RpT} {i:Nat} {p:Po} (hi:t.oj.ps[i]?=some (some p)) (k:Nat) (v:Val) (A:Option Addr) (c:Nat):(t.put i k v p A c).a=rpPut t.a i k v:=by
  have hf:t.a.fld i=some p.o.fields:=RpA.fld_iff.2 (by show t.oj.abs[i]?=_; unfold Oj.abs; rw [List.getElem?_map,hi]; rfl)
  unfold rpPut
  rw [RpA.flds_of hf]
  unfold RpT.put RpT.a
  dsimp only
  rw [oj_put_abs]
set_option maxRecDepth 100000 in
set_option maxHeartbeats 8000000 in
theorem rpput_any {F:Nat → Prop} {W0 w:World} {Be:Nat} {t:RpT} {x:Item} (h:Sep F W0 w (x :: rpR Be t)) (hn:t.oj.ps.length ≤ 600) (hl:t.log.length ≤ 1000) {i k:Nat} {p:Po} (v:Val) (hi:t.oj.ps[i]?=some (some p)) (hk:k < p.o.fields.length) (h4:p.o.fields.length ≤ 4) :
    Calls Tryz.prog 116 #[.pointer (some ⟨Be,0,none⟩),.int .i64 (i:Int),.int .i64 (k:Int),.agg #[.bool v.1,.int .i64 v.2]] w fun e w' => (∃ u,e=.returned u) ∧ ∃ t':RpT,t'.a=rpPut t.a i k v ∧ t'.regs=t.regs ∧ Sep F W0 w' (x :: rpR Be t'):=by
  obtain ⟨g,hg⟩:∃ g,w.heap.size=g:=⟨_,rfl⟩
  have hS0:=h.blkAtF 63 #[.bool v.1,.int .i64 v.2] hg
  obtain ⟨W,hW⟩:∃ W,w.alloc (.cells #[.bool v.1,.int .i64 v.2] 63)=W:=⟨_,rfl⟩
  rw [hW] at hS0
  obtain ⟨x1,x2,x3,x4⟩:=hS0.rules 0 (g:=g) (t:=63) rfl
  have x5:=(x1 0).trans (show _=some (.bool v.1) from rfl)
  have x6:=(x1 1).trans (show _=some (.int .i64 v.2) from rfl)
  obtain ⟨k1,-,-,-,-,k5,-,-,k8⟩:=rp_cells (pre:=[_,x]) hS0
  have hg5:=end_gather (pre:=[_,x,_,_,_,_,_,_]) (L:=ojL t.oj) hS0.drew
  have CP:=oput_any (hg5.get 0 rfl) (by omega) v hi hk h4
  unfold Oj.v at CP
  have HPA:=hide (fun (A:Option Addr) (c:Nat) => RpT.putA hi k v A c)
  have HFIN:=hide (fun (wq:World) (A:Option Addr) (c:Nat) (hq:Sep F W0 wq (x :: allI (t.cps.map cpRow) :: blkI Be 103 ((rpC t).setIfInBounds 5 (.slice A (t.log.length + 1) c)) :: rowI 3 1 t.Ar t.row.length t.cr (ints t.row) :: cpI t.b t.cps.length t.cps :: rowI 3 1 t.Am t.cps.length t.cm (madeV t.cps) :: sufI 143 2 A (t.log.length + 1) c (logV t.log ++ [.int .i64 (i:Int),.int .i64 (k:Int)]) :: ojL (t.oj.put i k v p))) =>
    (show Sep F W0 wq (x :: rpR Be (t.put i k v p A c)) from by
      unfold rpR rpC RpT.put
      dsimp only
      rw [List.length_append,List.length_singleton,logV_app]
      unfold Oj.put Oj.v
      dsimp only
      rw [List.length_set]
      exact hq))
  have HG5:=hide hg5
  have HCP:=hide CP
  have hmx:Tryz.prog.follows .mixedOrders=true:=by kernel_rfl
  obtain ⟨N,hN⟩:∃ n,t.oj.ps.length=n:=⟨_,rfl⟩
  have HN:=hide hN
  rw [hN] at k1 HCP
  obtain ⟨ll,hll⟩:∃ n,t.log.length=n:=⟨_,rfl⟩
  have HLL:=hide hll
  rw [hll] at k5 hl HFIN
  obtain ⟨bv,mv⟩:=v
  dsimp only at x5 x6 HCP HFIN HPA HG5 hW ⊢
  have HWW:=hide hW
  clear h hS0 x1 hi hk h4 hg5 CP hN hll hn hW
  go_enter Tryz.func116,Tryz.ntmps116
  go_wp2_with fail
  rw [HWW.out]
  go_region_held3 (fun w' => w'.cell? ⟨Be,0,none⟩=some (.slice t.oj.As N t.oj.c) ∧ w'.cell? ⟨g,0,none⟩=some (.bool bv) ∧ w'.cell? ⟨g,1,none⟩=some (.int .i64 mv)) (first | go_keep | assumption)
    ((go_at_call 107; (with_reducible refine HCP.out.mono ?_); rintro e w6 ⟨⟨u6,rfl⟩,hP6⟩; have hS6:=end_ungather (pre:=[_,x,_,_,_,_,_,_]) (HG5.out.call 0 rfl hP6); obtain ⟨j1,j2,j3,_⟩:=hS6.rules 3 (g:=Be) (t:=103) rfl; have j5:=(j1 5).trans (show _=some (.slice t.Al t.log.length t.cl) from rfl); have j6:w6.cell? ⟨Be,0,none⟩=some (.slice t.oj.As N t.oj.c):=by { rw [← HN.out]; exact (j1 0).trans rfl }; obtain ⟨y1,y2,y3,_⟩:=hS6.rules 0 (g:=g) (t:=63) rfl; have y5:=(y1 0).trans (show _=some (.bool bv) from rfl); have y6:=(y1 1).trans (show _=some (.int .i64 mv) from rfl); have HS6a:=hide hS6; clear hP6 hS6 j1 y1))
  have hS6:=HS6a.out
  rw [HLL.out] at j5
  have HS6:=hide (show Sep F W0 w6 (blkI g 63 #[.bool bv,.int .i64 mv] :: x :: allI (t.cps.map cpRow) :: blkI Be 103 (rpC t) :: rowI 3 1 t.Ar t.row.length t.cr (ints t.row) :: cpI t.b t.cps.length t.cps :: rowI 3 1 t.Am t.cps.length t.cm (madeV t.cps) :: sufI 143 2 t.Al ll t.cl (logV t.log) :: ojL (t.oj.put i k (bv,mv) p)) from by rw [← HLL.out]; exact hS6)
  clear HS6a hS6 HG5 HCP k1 k5
  go_wp2_with (first
    | (at_builtin
       refine wpList_suf1 (cs:=#[.int .i64 (i:Int),.int .i64 (k:Int)]) rfl (.tmp 20) (.tmp 24) 101 rfl (F:=F) (W:=W0) sChg (items:=_ :: _ :: _ :: _ :: _ :: _ :: _ :: _ :: _) HS6.out 7 (n:=ll) rfl rfl rfl (by simp) rfl rfl (by omega) ?_
       intro A7 c7 w7 hS7
       obtain ⟨u1,u2,u3,_⟩:=hS7.rules 3 (g:=Be) (t:=103) rfl))
  have HF:=hide (HFIN.out _ A7 c7 ((hS7.set_ 3 (g:=Be) (t:=103) rfl 5 (.slice A7 (ll + 1) c7)).sub (List.sublist_cons_self _ _)))
  have HAF:=hide (HPA.out A7 c7)
  clear hS7 u1 HFIN HS6 HPA
  go_wp2_with fail
  go_end0
  exact ⟨⟨_,rfl⟩,_,HAF.out,rfl,HF.out⟩
set_option maxRecDepth 100000 in
theorem rphold_any {F:Nat → Prop} {W0 w:World} {items:List Item} (h:Sep F W0 w items) (x:Value) (r:Nat) (v:Val):Calls Tryz.prog 114 #[x,.int .i64 (r:Int),.agg #[.bool v.1,.int .i64 v.2]] w fun e w' => (∃ u,e=.returned u) ∧ Sep F W0 w' items:=by
  have HS:=hide (h.alloc (.cells #[.bool v.1,.int .i64 v.2] 63))
  clear h
  go_enter Tryz.func114,Tryz.ntmps114
  go_wp2_with fail
  go_end0
  exact ⟨⟨_,rfl⟩,HS.out⟩
end Go.Proofs.YtjphckfbbiehdaaGreat

namespace Go.Proofs.YtjphckfbbiehdaaGreat
open Go.RowKit Go.Maps
structure RpOk2 (a:RpA):Prop where
  ok:RpOk a
  n:a.objs.length ≤ 500
  l:a.log.length ≤ 900
def rpM (Be Bm:Nat) (t:RpT):Item:=blkI Bm 70 (mcCells t.regs (.iface 99 (.pointer (some ⟨Be,0,none⟩))))
def rpKm (Bm Be:Nat):MemK where
  A:=RpA
  St:=RpT
  abs:=RpT.a
  Bm:=Bm
  T:=99
  p:=.pointer (some ⟨Be,0,none⟩)
  regs:=RpA.regs
  fld:=RpA.fld
  rest t:=rpR Be t
  ok:=RpOk2
  ok1 a:=RpOk a ∧ a.objs.length < 500 ∧ a.log.length ≤ 900
  hold a _ _:=a
  setr:=RpA.sr
  new_ a n:=rpNew a n
  put:=rpPut
  fH:=114
  fN:=115
  fL:=105
  fG:=103
  fP:=116
  rL t:=t.oj.v
  rG t:=t.oj.v
  rP _:=.pointer (some ⟨Be,0,none⟩)
theorem pmeth_hold (x:Value) (w:World):(method 303 99 x "Hold").run Tryz.prog w=.ok (114,x) w:=by kernel_rfl
theorem pmeth_new (x:Value) (w:World):(method 303 99 x "New").run Tryz.prog w=.ok (115,x) w:=by kernel_rfl
theorem pmeth_put (x:Value) (w:World):(method 303 99 x "Put").run Tryz.prog w=.ok (116,x) w:=by kernel_rfl
theorem pmeth_len0 (Be:Nat) (w:World):(method 303 99 (.pointer (some ⟨Be,0,none⟩)) "Len").run Tryz.prog w=(Sem.run Tryz.prog (do let v ← receiverAt 57 (.var ⟨Be,0,none⟩) false none; pure (105,v)) w):=by kernel_rfl
theorem pmeth_get0 (Be:Nat) (w:World):(method 303 99 (.pointer (some ⟨Be,0,none⟩)) "Get").run Tryz.prog w=(Sem.run Tryz.prog (do let v ← receiverAt 57 (.var ⟨Be,0,none⟩) false none; pure (103,v)) w):=by kernel_rfl
theorem pmeth_len (Be:Nat) (v:Value) (w:World) (h:w.cell? ⟨Be,0,none⟩=some v):(method 303 99 (.pointer (some ⟨Be,0,none⟩)) "Len").run Tryz.prog w=.ok (105,v) w:=by
  rw [pmeth_len0,Sem.run_bind,recv_cell Be w v h]; rfl
theorem pmeth_get (Be:Nat) (v:Value) (w:World) (h:w.cell? ⟨Be,0,none⟩=some v):(method 303 99 (.pointer (some ⟨Be,0,none⟩)) "Get").run Tryz.prog w=.ok (103,v) w:=by
  rw [pmeth_get0,Sem.run_bind,recv_cell Be w v h]; rfl
theorem pkm_flat {Bm Be:Nat} {t:RpT} {w:World} (hP:((rpKm Bm Be).item t).P w):Sep ((rpKm Bm Be).item t).fp w w (rpM Be Bm t :: rpR Be t):=(Sep.start hP).flat
theorem pkm_fold {Bm Be:Nat} {t:RpT} {F:Nat → Prop} {W0 w:World} (h:Sep F W0 w (rpM Be Bm t :: rpR Be t)):Sep F W0 w [(rpKm Bm Be).item t]:=Sep.fold (l:=(rpKm Bm Be).items t) h
theorem rpM_regs {Be Bm:Nat} {t t':RpT} (h:t'.regs=t.regs):rpM Be Bm t'=rpM Be Bm t:=by unfold rpM; rw [h]
set_option maxHeartbeats 1000000 in
theorem rpKm_ok (Bm Be:Nat):(rpKm Bm Be).Ok where
  r8 _ ok:=RpOkE.r8 (RpOk2.ok ok)
  vr _ v ok hv:=RpOkE.vr (RpOk2.ok ok) v hv
  vf _ i fs v ok h hv:=RpOkE.vf (RpOk2.ok ok) i fs h v hv
  f4 _ i fs ok h:=RpOkE.f4 (RpOk2.ok ok) i fs h
  lim _ i fs ok h:=by have h1:=RpA.fld_lt h; have h2:=RpOk2.n ok; omega
  set_ t r v:=⟨{ t with regs:=t.regs.set r v },rfl,rfl⟩
  regs_set _ _ _:=rfl
  regs_hold _ _ _:=rfl
  regs_put _ _ _ _:=rfl
  eH:=kenter_of Tryz.func114 (by kernel_rfl) rfl
  eN:=kenter_of Tryz.func115 (by kernel_rfl) rfl
  eL:=kenter_of Tryz.func105 (by kernel_rfl) rfl
  eG:=kenter_of Tryz.func103 (by kernel_rfl) rfl
  eP:=kenter_of Tryz.func116 (by kernel_rfl) rfl
  mH w:=pmeth_hold _ w
  mN w:=pmeth_new _ w
  mL t w hP:=pmeth_len Be _ w (rp_cells (pre:=[_]) (pkm_flat hP)).1
  mG t w hP:=pmeth_get Be _ w (rp_cells (pre:=[_]) (pkm_flat hP)).1
  mP _ w _:=pmeth_put _ w
  cH t w r v hP ok hr hv:=by
    refine (rphold_any (pkm_flat hP) _ r v).mono ?_
    rintro e w' ⟨he,hS⟩
    exact ⟨he,t,rfl,pkm_fold hS⟩
  cN t w n hP ok h4:=by
    have hn:t.oj.ps.length ≤ 600:=by have h1:=RpOk2.n ok; have h2:=t.n; have h3:(RpA.objs ((rpKm Bm Be).abs t)).length=t.a.objs.length:=rfl; omega
    refine (rpnew_any (pkm_flat hP) hn (RpOkE.r24 (RpOk2.ok ok)) h4).mono ?_
    rintro e w' ⟨he,t',e1,e2,hS⟩
    rw [← rpM_regs e2] at hS
    exact ⟨he,t',e1,pkm_fold hS⟩
  ok_of _ h:=⟨h.1,by have:=h.2.1; omega,h.2.2⟩
  okN a n h h4:=by
    obtain ⟨k1,k2,_,k4⟩:=RpOk.new_ h.1 h4
    refine ⟨⟨k1,by show (rpNew a n).1.objs.length ≤ 500; have:=h.2.1; omega,?_⟩,k2⟩
    show (rpNew a n).1.log.length ≤ 900
    unfold rpNew
    split
    · exact h.2.2
    · exact h.2.2
  cL t w i fs hP ok h:=by
    obtain ⟨p,hp,hf⟩:=RpT.fld h
    have hS:=pkm_flat hP
    have hl:=oj_len (pre:=[_,_,_,_,_,_,_]) hS hp
    have hn:t.oj.ps.length ≤ 600:=by have h1:=RpOk2.n ok; have h2:=t.n; have h3:(RpA.objs ((rpKm Bm Be).abs t)).length=t.a.objs.length:=rfl; omega
    refine (olen_any (pre:=[_,_,_,_,_,_,_]) hS (by omega) hp).mono fun e w' ⟨he,hw⟩ => ⟨?_,hw⟩
    rw [he,← hf,hl]
  cG t w i k fs hk hP ok h:=by
    obtain ⟨p,hp,hf⟩:=RpT.fld h
    have hS:=pkm_flat hP
    have hn:t.oj.ps.length ≤ 600:=by have h1:=RpOk2.n ok; have h2:=t.n; have h3:(RpA.objs ((rpKm Bm Be).abs t)).length=t.a.objs.length:=rfl; omega
    have h4:=RpOkE.f4 (RpOk2.ok ok) i fs h
    subst hf
    exact oget_any (pre:=[_,_,_,_,_,_,_]) hS (by omega) hp hk h4
  cP t w i k fs v hk hP ok h hv:=by
    obtain ⟨p,hp,hf⟩:=RpT.fld h
    have hn:t.oj.ps.length ≤ 600:=by have h1:=RpOk2.n ok; have h2:=t.n; have h3:(RpA.objs ((rpKm Bm Be).abs t)).length=t.a.objs.length:=rfl; omega
    have h4:=RpOkE.f4 (RpOk2.ok ok) i fs h
    have hl:=RpOk2.l ok
    subst hf
    refine (rpput_any (pkm_flat hP) hn (by have h3:(RpA.log ((rpKm Bm Be).abs t)).length=t.log.length:=rfl; omega) v hp hk h4).mono ?_
    rintro e w' ⟨he,t',e1,e2,hS⟩
    rw [← rpM_regs e2] at hS
    exact ⟨he,t',e1,pkm_fold hS⟩
theorem rpdo_any {Bm Be:Nat} {t:RpT} {F:Nat → Prop} {W0 w:World} {L:List Item} (h:Sep F W0 w ((rpKm Bm Be).item t :: L)) (ok:RpOk t.a) (hn:t.a.objs.length < 500) (hl:t.a.log.length ≤ 900) (d:DoV) :
    Calls Tryz.prog 15 #[.pointer (some ⟨Bm,0,none⟩),.agg d.cells] w fun e w' => ∃ (oc:Int) (orf:Bool) (on:Int) (t':RpT),e=.returned (.agg #[.int .i64 oc,.bool orf,.int .i64 on]) ∧ rpDo d t.a=(⟨oc,orf,on⟩,t'.a) ∧ Sep F W0 w' ((rpKm Bm Be).item t' :: L):=by
  refine (kdo_any (rpKm Bm Be) (rpKm_ok Bm Be) (s:=t) (h.get 0 rfl) ⟨ok,hn,hl⟩ d).mono ?_
  rintro e w' ⟨rfl,t',hab,hS⟩
  exact ⟨(rpDo d t.a).1.code,(rpDo d t.a).1.rf,(rpDo d t.a).1.n,t',rfl,Prod.ext rfl (show (rpDo d t.a).2=t'.a from hab.symm),h.call 0 rfl hS⟩
end Go.Proofs.YtjphckfbbiehdaaGreat

namespace Go.Proofs.YtjphckfbbiehdaaGreat
open Go.RowKit Go.Maps
def missL (a:RpA) (l:List Val):Option Val:=l.find? fun v => v.1 && !decide (a.has v.2.toNat)
theorem missL_no {a:RpA} {l:List Val} (h:∀ v ∈ l,(v.1 && !decide (a.has v.2.toNat))=false):missL a l=none:=List.find?_eq_none.2 fun v hv => by rw [h v hv]; simp
theorem missL_yes {a:RpA} {l:List Val} {k:Nat} (hk:k < l.length) (h:∀ v ∈ l.take k,(v.1 && !decide (a.has v.2.toNat))=false) (hv:(l[k].1 && !decide (a.has l[k].2.toNat))=true):missL a l=some l[k]:=by
  have e:l=l.take k ++ l[k] :: l.drop (k + 1):=by rw [← List.drop_eq_getElem_cons hk,List.take_append_drop]
  have h1:(l.take k ++ l[k] :: l.drop (k + 1)).find? (fun v => v.1 && !decide (a.has v.2.toNat))=some l[k]:=by
    rw [List.find?_append,missL_no h |> (fun x => (x:(l.take k).find? _=none)),Option.none_or,List.find?_cons,hv]
  unfold missL
  rw [← e] at h1
  exact h1
def RpA.copM (a:RpA) (o:Option Val):RpA:=match o with
  | some v => a.cop v
  | none => a
set_option maxRecDepth 100000 in
set_option maxHeartbeats 8000000 in
theorem rpindex_any {F:Nat → Prop} {W0 w:World} {Be:Nat} {t:RpT} {x:Item} {A:Option Addr} {n c:Nat} {regs:List Val} (h:Sep F W0 w (x :: rpR Be t)) (ok:RpOk t.a) (hps:t.oj.ps.length ≤ 600) (hn:n ≤ 1000) (hrl:regs.length=n) (hx:∀ X,x.P X → Rd X (fun _ => True) 2 A n (vals regs)) (hvk:∀ v ∈ regs,t.a.vok v ∧ numOk v) :
    Calls Tryz.prog 66 #[.slice A n c,.func (.func 50) #[.pointer (some ⟨Be,0,none⟩)] #[]] w fun e w' => (∃ r:Int,e=.returned (.int .i64 r) ∧ (0 ≤ r ↔ (missL t.a regs).isSome=true)) ∧ ∃ t':RpT,t'.a=t.a.copM (missL t.a regs) ∧ Sep F W0 w' (x :: rpR Be t'):=by
  have HL:=hide hrl
  have HS:=hide h
  have HX:=hide hx
  have HV:=hide hvk
  have HOK:=hide ok
  have HPS:=hide (show ∀ t':RpT,t'.a=t.a → t'.oj.ps.length ≤ 600 from fun t' e => by rw [← t'.n,e,t.n]; exact hps)
  clear h hrl hx hvk ok hps
  go_enter Tryz.func66,Tryz.ntmps66
  go_wp2_with fail
  go_loopw [5,8] (fun _ i wr => ∃ (k:Nat) (t':RpT),k ≤ n ∧ i=.int .i64 k ∧ Hid (t'.a=t.a ∧ ∀ v ∈ regs.take k,(v.1 && !decide (t.a.has v.2.toNat))=false) ∧ Sep F W0 wr (x :: rpR Be t')) (fun _ i _ => n - (intOf i).toNat)
  case atStart => exact ⟨0,t,by omega,rfl,⟨rfl,fun v hv => by simp at hv⟩,HS.out⟩
  case round =>
    clear HS
    obtain ⟨k,t',hk,rfl,HI,hS⟩:=hrel
    obtain ⟨hab,hnot⟩:=HI.out
    by_cases hlt:k < n
    · have hkl:k < regs.length:=by rw [HL.out]; exact hlt
      obtain ⟨ad,hA,_,had,hc,hd⟩:=(HX.out wr (hS.get 0 rfl)).atN hlt
      obtain ⟨v0,v1⟩:=vals_at regs k hkl
      have e0:=hc _ v0
      have e1:=hd 0 _ v1
      have hvv:=HV.out _ (List.getElem_mem hkl)
      have hT:=List.take_succ_eq_append_getElem hkl
      have C:=rcopied_any hS (by rw [hab]; exact HOK.out) (HPS.out t' hab) regs[k] (by rw [hab]; exact hvv.1) hvv.2
      rw [hab] at C
      have HY:=hide (fun (h:(regs[k].1 && !decide (t.a.has regs[k].2.toNat))=true) => missL_yes hkl hnot h)
      have HNT:=hide hnot
      obtain ⟨v,hv⟩:∃ v,regs[k]=v:=⟨_,rfl⟩
      rw [hv] at e0 e1 C HY hT
      have HT:=hide hT
      have HC:=hide C
      subst hA
      clear hc hd v0 v1 hvv hT hv C hS hnot hkl
      obtain ⟨b,hb⟩:∃ b,(v.1 && !decide (t.a.has v.2.toNat))=b:=⟨_,rfl⟩
      have HBB:=hide hb
      simp only [hb] at HC HY
      have HNO:=hide (show b=false → t.a.cop v=t.a from fun h0 => cop_no (by
        rw [h0] at hb
        cases hv1:v.1 with
        | false => exact .inl rfl
        | true => rw [hv1] at hb; exact .inr (by simpa using hb)))
      clear hb
      obtain ⟨bv,mv⟩:=v
      dsimp only at e0 e1 HC HY HT HBB HNO
      go_wp2_with fail
      refine HC.out.mono ?_
      rintro e w1 ⟨rfl,t2,hab2,hS2⟩
      have HS2:=hide hS2
      have HA2:=hide hab2
      clear hS2 hab2 HC
      cases b with
      | true =>
        have HM:=hide (HY.out rfl)
        clear HY HNO
        go_wp2_with fail
        go_ret
        exact ⟨⟨k,rfl,⟨fun _ => by rw [HM.out]; rfl,fun _ => by omega⟩⟩,t2,by rw [HM.out]; exact HA2.out,HS2.out⟩
      | false =>
        have HN2:=hide (HNO.out rfl)
        clear HY HNO
        go_wp2_with fail
        go_roundw
        case rel => exact ⟨k + 1,t2,by omega,by go_num,⟨by rw [HA2.out,HN2.out],fun v hv => by
          rw [HT.out] at hv
          rcases List.mem_append.1 hv with h3 | h3
          · exact HNT.out v h3
          · rw [List.mem_singleton.1 h3]; exact HBB.out⟩,HS2.out⟩
        case measure => simp [intOf]; omega
    · rw [List.take_of_length_le (by rw [HL.out]; omega)] at hnot
      have HM:=hide (missL_no hnot)
      have HS:=hide hS
      clear hnot hS
      go_wp2_with fail
      go_ret
      exact ⟨⟨-1,rfl,⟨fun h => by omega,fun h => by rw [HM.out] at h; cases h⟩⟩,t',by rw [HM.out]; exact hab,HS.out⟩
end Go.Proofs.YtjphckfbbiehdaaGreat
