/- Part of a proof. -/
import Derived.Test.YtjphckfbbiehdaaGreatSTopAll11
import Derived.Test.YtjphckfbbiehdaaGreatSTopAll7
import Derived.Test.YtjphckfbbiehdaaGreatSTopAll13
set_option linter.unusedSimpArgs false
set_option linter.unusedVariables false
namespace Go.Proofs.YtjphckfbbiehdaaGreat
open Go.RowKit
def barV (n:Int):Value:=if n=1 then (barOf 1).bv else if n=2 then (barOf 2).bv else if n=3 then (barOf 3).bv else .nilIface
set_option maxRecDepth 100000 in
set_option maxHeartbeats 4000000 in
theorem barrierOf_any (w:World) (n:Int):Calls Tryz.prog 20 #[.int .i64 n] w fun e w' => e=.returned (barV n) ∧ Below w.heap.size w w':=by
  unfold barV
  by_cases h1:n=1
  · subst h1
    rw [if_pos rfl]
    go_enter Tryz.func20,Tryz.ntmps20
    go_wp2_with fail
    go_ret
    exact ⟨rfl,Below.refl _ _⟩
  · rw [if_neg h1]
    have y1:(n == 1)=false:=by simp [h1]
    by_cases h2:n=2
    · subst h2
      rw [if_pos rfl]
      clear h1 y1
      go_enter Tryz.func20,Tryz.ntmps20
      go_wp2_with fail
      go_ret
      exact ⟨rfl,Below.refl _ _⟩
    · rw [if_neg h2]
      have y2:(n == 2)=false:=by simp [h2]
      by_cases h3:n=3
      · subst h3
        rw [if_pos rfl]
        clear h1 y1 h2 y2
        go_enter Tryz.func20,Tryz.ntmps20
        go_wp2_with fail
        go_ret
        exact ⟨rfl,Below.refl _ _⟩
      · rw [if_neg h3]
        have y3:(n == 3)=false:=by simp [h3]
        clear h1 h2 h3
        go_enter Tryz.func20,Tryz.ntmps20
        go_wp2_with fail
        go_ret
        exact ⟨rfl,Below.refl _ _⟩
def shadeL (cols:List Int) (vs:List Val):List Int:=vs.foldl shadeC cols
theorem shadeL_len (cols:List Int) (vs:List Val):(shadeL cols vs).length=cols.length:=by
  unfold shadeL
  induction vs generalizing cols with
  | nil => rfl
  | cons v vs ih => rw [List.foldl_cons,ih,shadeC_len]
theorem shadeL_snoc (cols:List Int) (vs:List Val) (v:Val):shadeL cols (vs ++ [v])=shadeC (shadeL cols vs) v:=by unfold shadeL; rw [List.foldl_append]; rfl
theorem greyF_at {α:Type} {l:List (Option α)} {cols:List Int} (h:greyF (thereL l) cols ≠ -1):∃ (i:Nat) (a:α),greyF (thereL l) cols=(i:Int) ∧ l[i]?=some (some a):=by
  unfold greyF at h ⊢
  split at h
  · rename_i x hx
    obtain ⟨i,a,h1,h2⟩:=(mem_thereL l x).1 (List.mem_of_find?_eq_some hx)
    exact ⟨i,a,by simp [hx,h1],h2⟩
  · exact absurd rfl h
set_option maxRecDepth 100000 in
set_option maxHeartbeats 8000000 in
theorem work_any {Be:Nat} {bv:Value} {s:CoS} {w:World} (hP:(coI Be bv s).P w) (hl:s.cols.length=s.oj.ps.length) (hn:s.oj.ps.length ≤ 1000)
    (hv:∀ (i:Nat) (p:Po),s.oj.ps[i]?=some (some p) → p.o.fields.length ≤ 4 ∧ ∀ v ∈ p.o.fields,vin s.cols.length v) :
    Calls Tryz.prog 23 #[.pointer (some ⟨Be,0,none⟩)] w fun e w' =>
      (greyF (thereL s.oj.ps) s.cols=-1 ∧ e=.returned (.int .i64 7) ∧ Below w.heap.size w w') ∨
      (∃ (i:Nat) (p:Po),greyF (thereL s.oj.ps) s.cols=(i:Int) ∧ s.oj.ps[i]?=some (some p) ∧ e=.returned (.int .i64 0) ∧ Sep (coI Be bv s).fp w w' [coI Be bv (s.col ((shadeL s.cols p.o.fields).set i 2))]):=by
  obtain ⟨F,hF⟩:∃ F,(coI Be bv s).fp=F:=⟨_,rfl⟩
  have CG:=hide (grey_any hP hl hn)
  have hS0:=Sep.start hP
  rw [hF] at hS0 ⊢
  have HS0:=hide hS0
  have HL:=hide hl
  have HN:=hide hn
  have HV:=hide hv
  by_cases hg:greyF (thereL s.oj.ps) s.cols=-1
  · rw [hg] at CG ⊢
    clear hS0 hP hl hn hv hF HS0 HV
    go_enter Tryz.func23,Tryz.ntmps23
    go_wp2_with fail
    refine CG.out.mono ?_
    rintro e w1 ⟨rfl,hb⟩
    have HB:=hide hb
    clear hb
    go_wp2_with fail
    go_ret
    exact .inl ⟨by first | trivial | rfl,rfl,HB.out⟩
  · obtain ⟨i,p,hi,hp⟩:=greyF_at hg
    rw [hi] at CG ⊢
    have HP:=hide hp
    have hil:=(List.getElem?_eq_some_iff.1 hp).1
    obtain ⟨h4,hvi⟩:=hv i p hp
    obtain ⟨N,hN⟩:∃ n,s.oj.ps.length=n:=⟨_,rfl⟩
    rw [hN] at hl hil hn
    have t1:decide ((i:Int) < 0)=false:=by simp
    have t2:decide ((N:Int) ≤ (i:Int))=false:=by simp; omega
    have HNN:=hide hN
    have HCL:=hide hl
    have HVI:=hide hvi
    clear hS0 hP hl hv hF HV hg hi hp hN hvi
    go_enter Tryz.func23,Tryz.ntmps23
    go_wp2_with fail
    refine CG.out.mono ?_
    rintro e w1 ⟨rfl,hb⟩
    have hS1:=HS0.out.below hb
    obtain ⟨b5,_,b3⟩:=(show w1.cell? ⟨Be,0,none⟩=some (.slice s.oj.As s.oj.ps.length s.oj.c) ∧ w1.cell? ⟨Be,2,none⟩=some (.slice s.Ac s.cols.length s.cc) ∧ Be < w1.heap.size from by
      obtain ⟨b1,b2,b3,_⟩:=(hS1.split:Sep F w w1 (coR Be bv s ++ [])).rules 0 (g:=Be) (t:=95) rfl
      exact ⟨(b1 0).trans rfl,(b1 2).trans rfl,b3⟩)
    obtain ⟨ad,hA,had,e0,e1,hob⟩:=oj_at (pre:=[blkI Be 95 (coC bv s),rowI 3 1 s.Ac s.cols.length s.cc (ints s.cols),rowI 3 1 s.Ag s.gone.length s.cg (ints s.gone)]) ((Sep.start (hS1.get 0 rfl)).flat) HP.out
    rw [HNN.out,hA] at b5
    have HS1:=hide hS1
    obtain ⟨B,hB⟩:∃ x,p.B=x:=⟨_,rfl⟩
    rw [hB] at e0 e1
    have hfl:p.o.fields.length=p.o.n:=oj_len (pre:=[blkI Be 95 (coC bv s),rowI 3 1 s.Ac s.cols.length s.cc (ints s.cols),rowI 3 1 s.Ag s.gone.length s.cg (ints s.gone)]) ((Sep.start (hS1.get 0 rfl)).flat) HP.out
    have HFL:=hide hfl
    obtain ⟨m,hm⟩:∃ x,p.o.n=x:=⟨_,rfl⟩
    obtain ⟨cf,hcf⟩:∃ x,p.o.c=x:=⟨_,rfl⟩
    obtain ⟨Af,hAf⟩:∃ x,p.o.A=x:=⟨_,rfl⟩
    rw [hm,hcf,hAf] at e1
    have hm4:m ≤ 4:=by omega
    have HM:=hide hm
    have HCF:=hide hcf
    have HAF:=hide hAf
    clear hS1 hb hob CG hB hfl hm hcf hAf h4
    go_wp2_with fail
    go_loopw [21] (fun i wr => ∃ k:Nat,k ≤ m ∧ i=.int .i64 k ∧ Sep F w wr [coI Be bv (s.col (shadeL s.cols (p.o.fields.take k)))]) (fun i _ => m - (intOf i).toNat)
    case atStart => exact ⟨0,by omega,rfl,HS1.out⟩
    case round =>
      clear HS1 e0 e1 b5 b3 had
      obtain ⟨k,hk,rfl,hS⟩:=hrel
      by_cases hlt:k < m
      · have hkl:k < p.o.fields.length:=by rw [HFL.out,HM.out]; exact hlt
        obtain ⟨ad2,hA2,had2,f0,f1,hob⟩:=oj_at (s:=s.oj) (pre:=[blkI Be 95 (coC bv (s.col (shadeL s.cols (p.o.fields.take k)))),rowI 3 1 s.Ac (shadeL s.cols (p.o.fields.take k)).length s.cc (ints (shadeL s.cols (p.o.fields.take k))),rowI 3 1 s.Ag s.gone.length s.cg (ints s.gone)]) ((Sep.start (hS.get 0 rfl)).flat) HP.out
        obtain ⟨gf,hAg⟩:=hown_addr (show wr.ownsRow 0 63 2 (.slice p.o.A p.o.n p.o.c) p.o.n (vals p.o.fields) from hob) (by have:=HM.out; omega)
        have hob2:(rowI 63 2 (some ⟨gf,0,none⟩) p.o.n p.o.c (vals p.o.fields)).P wr:=by rw [← hAg]; exact hob
        obtain ⟨e2,e3,e4,e5⟩:=hrow_val hob2 k (by have:=HM.out; omega) hkl
        have hT:=List.take_succ_eq_append_getElem hkl
        have hvk:=HVI.out _ (List.getElem_mem hkl)
        obtain ⟨v,hv⟩:∃ v,p.o.fields[k]=v:=⟨_,rfl⟩
        rw [hv] at e2 e3 hT hvk
        have HLK:=hide (shadeL_len s.cols (p.o.fields.take k))
        have HT:=hide (show shadeL s.cols (p.o.fields.take (k + 1))=shadeC (shadeL s.cols (p.o.fields.take k)) v from by rw [hT,shadeL_snoc])
        obtain ⟨CK,hCK⟩:∃ c,shadeL s.cols (p.o.fields.take k)=c:=⟨_,rfl⟩
        rw [hCK] at HLK HT hS
        have hcn:CK.length ≤ 1000:=by have:=HLK.out; have:=HCL.out; omega
        have hvk2:vin CK.length v:=by rw [HLK.out]; exact hvk
        have C:=hide (fun (X:World) (h:Sep F w X [coI Be bv (s.col CK)]) => shade_any (s:=s.col CK) (h.get 0 rfl) hcn v hvk2)
        have HS:=hide hS
        rw [← HAF.out,hAg]
        obtain ⟨bv1,mv⟩:=v
        dsimp only at C e2 e3 HT
        clear hT hvk hv hCK hcn hvk2 hS hob hob2 f0 f1 had2 hA2 hAg
        go_wp2_with fail
        refine (C.out _ (HS.out.alloc (.cells #[.bool bv1,.int .i64 mv] 63))).mono ?_
        rintro e w2 ⟨⟨u,rfl⟩,hP2⟩
        have HS2:=hide ((HS.out.alloc (.cells #[.bool bv1,.int .i64 mv] 63)).call 0 rfl hP2)
        clear hP2 C HS
        go_wp2_with fail
        go_roundw
        case rel => exact ⟨k + 1,by omega,by go_num,by rw [HT.out]; exact HS2.out⟩
        case measure => simp [intOf]; omega
      · obtain rfl:k=m:=by omega
        have hall:p.o.fields.take k=p.o.fields:=List.take_of_length_le (by have:=HFL.out; have:=HM.out; omega)
        rw [hall] at hS
        have HLK:=hide (shadeL_len s.cols p.o.fields)
        have hz:i < (s.col (shadeL s.cols p.o.fields)).cols.length:=by have:=HLK.out; have:=HCL.out; show i < (shadeL s.cols p.o.fields).length; omega
        obtain ⟨gc,hAc,c0,c1,c2,c3,c4,n1⟩:=co_cell (hS.get 0 rfl) hz
        have HFIN:=hide (co_store hS (z:=i) hAc 2)
        have hcl:(s.col (shadeL s.cols p.o.fields)).cols.length=N:=by have:=HLK.out; have:=HCL.out; show (shadeL s.cols p.o.fields).length=N; omega
        rw [hcl] at c0
        have t3:(0:Int) ≤ (i:Int):=by omega
        have t4:(i:Int) < (N:Int):=by omega
        have n2:gc ≠ Be:=fun e => n1 e.symm
        obtain ⟨y,hy⟩:∃ y,(s.col (shadeL s.cols p.o.fields)).cols.getD i 0=y:=⟨_,rfl⟩
        rw [hy] at c1
        obtain ⟨cc,hcc⟩:∃ c,(s.col (shadeL s.cols p.o.fields)).cc=c:=⟨_,rfl⟩
        rw [hcc] at c0
        clear hall hS hz hAc hcl hy hcc
        go_wp2_with fail
        go_ret
        exact .inr ⟨i,p,rfl,HP.out,rfl,HFIN.out⟩
end Go.Proofs.YtjphckfbbiehdaaGreat

namespace Go.Proofs.YtjphckfbbiehdaaGreat
open Go.RowKit Go.Shelf
attribute [local go_sem] Oper.semAt_some
def greyL (l xs:List Int):List Int:=xs.foldl (fun l x => l.set x.toNat 1) l
theorem greyL_snoc (l xs:List Int) (x:Int):greyL l (xs ++ [x])=(greyL l xs).set x.toNat 1:=by unfold greyL; rw [List.foldl_append]; rfl
theorem greyL_len (l xs:List Int):(greyL l xs).length=l.length:=by
  unfold greyL
  induction xs generalizing l with
  | nil => rfl
  | cons x xs ih => rw [List.foldl_cons,ih,List.length_set]
def beginC (n:Nat) (regs:List Val):List Int:=greyL (List.replicate n 0) (tgts regs)
def coF (Be:Nat) (bv:Value) (s:CoS):List Int → Item:=fun l => coI Be bv (s.col l)
theorem coF_tame (B Be:Nat) (bv:Value) (s:CoS) (l:List Int):Tame B (coF Be bv s l):=Tame.all (l:=coR Be bv (s.col l)) fun i hi => by
  unfold coR ojL at hi
  rcases List.mem_cons.1 hi with rfl | hi
  · exact Tame.blk _ _ _ _
  rcases List.mem_cons.1 hi with rfl | hi
  · exact Tame.row _ _ _ _ _ _ _
  rcases List.mem_cons.1 hi with rfl | hi
  · exact Tame.row _ _ _ _ _ _ _
  rcases List.mem_cons.1 hi with rfl | hi
  · exact Tame.row _ _ _ _ _ _ _
  obtain ⟨p,_,rfl⟩:=List.mem_map.1 hi
  cases p with
  | none => exact Tame.all (l:=[]) (by simp)
  | some p =>
    refine Tame.all (l:=[blkI p.B 83 #[.slice p.o.A p.o.n p.o.c],obI p.o]) fun i hi => ?_
    rcases List.mem_cons.1 hi with rfl | hi
    · exact Tame.blk _ _ _ _
    · obtain rfl:i=_:=by simpa using hi
      exact Tame.row _ _ _ _ _ _ _
set_option maxRecDepth 100000 in
set_option maxHeartbeats 8000000 in
theorem begin_any {Be:Nat} {bv:Value} {s:CoS} {w:World} (hP:(coI Be bv s).P w) (hn:s.cols.length ≤ 1000) {regs:List Val} (h8:regs.length=8) (hv:∀ v ∈ regs,vin s.cols.length v) :
    Calls Tryz.prog 22 #[.pointer (some ⟨Be,0,none⟩),.agg (vals regs).toArray] w fun e w' => (∃ u,e=.returned u) ∧ Sep (coI Be bv s).fp w w' [coI Be bv (s.col (beginC s.cols.length regs))]:=by
  obtain ⟨F,hF⟩:∃ F,(coI Be bv s).fp=F:=⟨_,rfl⟩
  have hS0:=((Sep.start hP).blkAt 92 #[.pointer (some ⟨Be,0,none⟩)] (g:=w.heap.size) rfl).blkAt 65 (vals regs).toArray (g:=w.heap.size + 1) (by simp)
  rw [hF] at hS0 ⊢
  obtain ⟨vr,hvr⟩:∃ x,(vals regs).toArray=x:=⟨_,rfl⟩
  have HVR:=hide hvr
  rw [hvr] at hS0 ⊢
  obtain ⟨b5,b3⟩:=(show ((w.alloc (.cells #[.pointer (some ⟨Be,0,none⟩)] 92)).alloc (.cells vr 65)).cell? ⟨Be,2,none⟩=some (.slice s.Ac s.cols.length s.cc) ∧ Be < ((w.alloc (.cells #[.pointer (some ⟨Be,0,none⟩)] 92)).alloc (.cells vr 65)).heap.size from by
    obtain ⟨b1,b2,b3,_⟩:=(Sep.start (hS0.get 0 rfl)).flat.rules 0 (g:=Be) (t:=95) rfl
    exact ⟨(b1 2).trans rfl,b3⟩)
  have HS0:=hide hS0
  have HV:=hide hv
  obtain ⟨n,hm⟩:∃ n,s.cols.length=n:=⟨_,rfl⟩
  rw [hm] at b5 hn ⊢
  have HN:=hide hm
  have H8:=hide h8
  clear hS0 hP hv hF hm h8 hvr
  refine (callsIn_wide (n:=10)).1 ?_
  refine callsIn_of_wp_calm Tryz.func22 rfl trivial ?_ rfl
  simp only [Tryz.ntmps22,List.size_toArray,List.length_cons,List.length_nil,Nat.reduceAdd,Nat.reduceSub,Array.replicate_succ,Array.replicate_zero,List.push_toArray,List.append_toArray,List.nil_append,List.cons_append]
  gi_wp2
  obtain ⟨gm,hgm⟩:∃ g,w.heap.size=g:=⟨_,rfl⟩
  have HGM:=hide hgm
  rw [hgm] at HS0 ⊢
  clear b5 b3 hgm
  gi_loopw [11] (fun i wr => ∃ (k:Nat) (l:List Int),k ≤ n ∧ i=.int .i64 k ∧ Hid (l.length=n ∧ ∀ j,j < k → l.getD j 0=0) ∧ Sep F w wr [coI Be bv (s.col l),blkI gm 92 #[.pointer (some ⟨Be,0,none⟩)],blkI (gm + 1) 65 vr]) (fun i _ => n - (intOf i).toNat)
  case atStart => exact ⟨0,s.cols,by omega,rfl,⟨HN.out,fun j hj => by omega⟩,HS0.out⟩
  case round =>
    obtain ⟨k,l,hk,rfl,HI,hS⟩:=hrel
    obtain ⟨x1,x2,x3,_⟩:=hS.rules 1 (g:=gm) (t:=92) rfl
    have x4:=(x1 0).trans (show _=some (.pointer (some ⟨Be,0,none⟩)) from rfl)
    by_cases hlt:k < n
    · have hz:k < (s.col l).cols.length:=by have:=HI.out.1; show k < l.length; omega
      obtain ⟨gc,hAc,c0,c1,c2,c3,c4,n1⟩:=co_cell (hS.get 0 rfl) hz
      have hcl:(s.col l).cols.length=n:=HI.out.1
      rw [hcl] at c0
      obtain ⟨y,hy⟩:∃ y,(s.col l).cols.getD k 0=y:=⟨_,rfl⟩
      rw [hy] at c1
      obtain ⟨cc,hcc⟩:∃ c,(s.col l).cc=c:=⟨_,rfl⟩
      rw [hcc] at c0
      have HS:=hide hS
      have n2:gc ≠ Be:=fun e => n1 e.symm
      clear hS hz hcl hy hcc x1
      have HFIN:=hide (HS.out.call 0 rfl (co_store (Sep.start (HS.out.get 0 rfl)) (z:=k) hAc 0))
      have HI2:=hide (show (l.set k 0).length=n ∧ ∀ j,j < k + 1 → (l.set k 0).getD j 0=0 from ⟨by rw [List.length_set]; exact HI.out.1,fun j hj => by
        rw [List.getD_eq_getElem?_getD,List.getElem?_set]
        by_cases e:k=j
        · rw [if_pos e,if_pos (by have:=HI.out.1; omega)]; rfl
        · rw [if_neg e,← List.getD_eq_getElem?_getD]; exact HI.out.2 j (by omega)⟩)
      clear HS hAc
      gi_wp2
      refine ⟨⟨k + 1,l.set k 0,by omega,by go_num,HI2.out,HFIN.out⟩,by simp [intOf]; omega⟩
    · obtain rfl:k=n:=by omega
      have hrep:l=List.replicate k 0:=List.ext_getElem (by simp [HI.out.1]) fun j h1 h2 => by
        have h3:=HI.out.2 j (by simpa using h2)
        rw [List.getD_eq_getElem?_getD,List.getElem?_eq_getElem h1] at h3
        simpa using h3
      subst hrep
      have HS:=hide hS
      have HX:=hide (show Blk wr gm 92 #[.pointer (some ⟨Be,0,none⟩)] from hS.get 1 rfl)
      have HR:=hide (show Blk wr (gm + 1) 65 vr from hS.get 2 rfl)
      have hg1:gm + 1 < wr.heap.size:=hS.hi 2 rfl (gm + 1) rfl
      clear hS x1
      gi_wp2_with (refine ⟨trivial,?_⟩; gi_at_call 45; refine (targets_in Fence.wide 9 trivial rfl _ _ _ _).mono ?_; rintro e w2 ⟨rfl,rfl⟩)
      have hS2:=HS.out.blkAt 23 #[.slice (some ⟨gm + 1,0,none⟩) 8 8] (g:=wr.heap.size) rfl
      have hlr:(vals regs).length=8 * 2:=by rw [vals_length,H8.out]
      have hRd:Rd (wr.alloc (.cells #[.slice (some ⟨gm + 1,0,none⟩) 8 8] 23)) (fun q => ¬ (coF Be bv s (List.replicate k 0)).fp q) 2 (some ⟨gm + 1,0,none⟩) 8 (vals regs):=by
        have hb:Blk (wr.alloc (.cells #[.slice (some ⟨gm + 1,0,none⟩) 8 8] 23)) (gm + 1) 65 (vals regs).toArray:=by rw [HVR.out]; exact hS2.get 2 rfl
        exact ⟨hlr,fun _ => ⟨_,rfl,hS2.other (a:=2) (b:=0) rfl rfl (by omega) _ rfl,hb.lt,fun j u hu => by rw [hraddr0,hb.cell]; simpa using hu⟩⟩
      refine wpIn_tgt (n:=10) rfl (by omega) trivial wr.heap.size (by rfl) (by rfl) (coF Be bv s) (List.replicate k 0) (vs:=regs) (by omega) (hS2.get 3 rfl) (hS2.other (a:=3) (b:=0) rfl rfl (by omega) _ rfl) hRd
        (fun pre l => l=greyL (List.replicate k 0) pre) (fun _ _ _ => False) (fun l => coF_tame _ _ _ _ _) rfl (hS2.get 0 rfl) ?a1 ?assign ?body ?done ?stop
      case assign =>
        intro l x W K hK
        gi_wp2
        exact hK
      case stop =>
        rintro Dd c pre s W hD hpre hF
        exact hF.elim
      case body =>
        rintro lo pre x l W hx hpre hlen hI hP2
        obtain ⟨z,rfl,hz⟩:=HV.out _ (tgts_mem.1 hx) rfl
        rw [HN.out] at hz
        have hll:l.length=k:=by rw [hI,greyL_len]; simp
        have hSW:=hS2.call 0 rfl hP2
        obtain ⟨x1,x2,x3,_⟩:=hSW.rules 1 (g:=gm) (t:=92) rfl
        have x4:=(x1 0).trans (show _=some (.pointer (some ⟨Be,0,none⟩)) from rfl)
        obtain ⟨gc,hAc,c0,c1,c2,c3,c4,n1⟩:=co_cell (show (coI Be bv (s.col l)).P W from hP2.get 0 rfl) (show z < (s.col l).cols.length from by show z < l.length; omega)
        have hcl:(s.col l).cols.length=k:=hll
        rw [hcl] at c0
        obtain ⟨y,hy⟩:∃ y,(s.col l).cols.getD z 0=y:=⟨_,rfl⟩
        rw [hy] at c1
        obtain ⟨cc,hcc⟩:∃ c,(s.col l).cc=c:=⟨_,rfl⟩
        rw [hcc] at c0
        have n2:gc ≠ Be:=fun e => n1 e.symm
        have HFIN:=hide (show l.set z 1=greyL (List.replicate k 0) (pre ++ [(z:Int)]) from by rw [greyL_snoc,← hI]; rfl)
        have HP3:=hide (show Sep (coF Be bv s l).fp W (W.setCell ⟨gc,z,none⟩ (.int .i64 1)) [coF Be bv s (l.set z 1)] from co_store (Sep.start (hP2.get 0 rfl)) (z:=z) hAc 1)
        clear hx hpre hlen hI hP2 hSW hll hcl hy hcc x1 hAc hS2 hRd hlr
        gi_wp2
        exact ⟨_,HFIN.out,HP3.out⟩
      case done =>
        rintro Dd l W hD hI hP2 hK
        have hfin:=hide hI
        have hCL:Colls wr.heap.size W [{ target:=.collected Dd,args:=#[] }]:=⟨Dd,rfl,by simp at hD; omega,hK,by simp,trivial⟩
        have HSW:=hide (hS2.call 0 rfl hP2)
        clear hI hS2 hP2 hRd hlr
        gi_wp2
        refine collsOff (B:=wr.heap.size) (u:=.returning) (by simp) _ _ hCL ?_
        intro w' c1 c2 c3 c4 c5 c6
        have hSw:=(HSW.out.sub (l:=[coF Be bv s l]) (by simp)).closed (B:=wr.heap.size) (fun i hi => by
          obtain rfl:i=_:=by simpa using hi
          exact coF_tame _ _ _ _ _) (by have:=HGM.out; omega) c1 c2 c3 c4 c5 c6
        have hl:l=beginC k regs:=hfin.out
        subst hl
        exact ⟨_,results_none rfl _ _ _,⟨_,rfl⟩,hSw⟩
end Go.Proofs.YtjphckfbbiehdaaGreat

namespace Go.Proofs.YtjphckfbbiehdaaGreat
open Go.RowKit
def coWork (a:CoA):OutV × CoA :=
  if greyF (thereL a.objs) a.cols=-1 then (⟨7,false,0⟩,a)
  else (⟨0,false,0⟩,{ a with cols:=(shadeL a.cols ((a.fld (greyF (thereL a.objs) a.cols).toNat).getD [])).set (greyF (thereL a.objs) a.cols).toNat 2 })
def whitesF (l cols:List Int):List Int:=l.filter fun x => decide (cols.getD x.toNat 0=0)
def dropF (objs:List (Option (List Val))) (xs:List Int):List (Option (List Val)):=xs.foldl (fun l x => l.set x.toNat none) objs
def coSweep (a:CoA):OutV × CoA :=
  if greyF (thereL a.objs) (shadeL a.cols a.regs) ≠ -1 then (⟨8,false,0⟩,{ a with cols:=shadeL a.cols a.regs })
  else (⟨0,false,0⟩,⟨a.regs,dropF a.objs (whitesF (thereL a.objs) (shadeL a.cols a.regs)),beginC a.cols.length a.regs,a.gone ++ whitesF (thereL a.objs) (shadeL a.cols a.regs)⟩)
def coErr (a:CoA) (v:Val) (at_:Int):Int:=if v.1=false then 5 else if at_ < 0 ∨ (((a.fld v.2.toNat).getD []).length:Int) ≤ at_ then 3 else 0
def CoA.sr (a:CoA) (r:Nat) (v:Val):CoA:={ a with regs:=a.regs.set r v }
def coKst (b:BarK) (d:DoV) (a:CoA):OutV × CoA :=
  if d.k=1 then
    if (coNew a d.n.toNat).2.2 ≠ 0 then (⟨(coNew a d.n.toNat).2.2,false,0⟩,(coNew a d.n.toNat).1)
    else (⟨0,false,0⟩,(coNew a d.n.toNat).1.sr d.to.toNat (true,(coNew a d.n.toNat).2.1))
  else if d.k=2 then (⟨0,false,0⟩,a.sr d.to.toNat (false,d.n))
  else if d.k=3 then (⟨0,false,0⟩,a.sr d.to.toNat (rgA a.regs d.fr))
  else if d.k=4 then
    if coErr a (rgA a.regs d.to) d.at_ ≠ 0 then (⟨coErr a (rgA a.regs d.to) d.at_,false,0⟩,a)
    else (⟨0,false,0⟩,coPut b a (rgA a.regs d.to).2.toNat d.at_.toNat (rgA a.regs d.fr))
  else if d.k=5 then
    if coErr a (rgA a.regs d.fr) d.at_ ≠ 0 then (⟨coErr a (rgA a.regs d.fr) d.at_,false,0⟩,a)
    else (⟨0,false,0⟩,a.sr d.to.toNat (((a.fld (rgA a.regs d.fr).2.toNat).getD []).getD d.at_.toNat (false,0)))
  else if d.k=6 then (⟨0,false,if rgA a.regs d.to=rgA a.regs d.fr then 1 else 0⟩,a)
  else (⟨0,(rgA a.regs d.fr).1,if (rgA a.regs d.fr).1=true then (((a.fld (rgA a.regs d.fr).2.toNat).getD []).length:Int) else (rgA a.regs d.fr).2⟩,a)
def coDo (b:BarK) (d:DoV) (a:CoA):OutV × CoA:=if wrongM d ≠ 0 then (⟨wrongM d,false,0⟩,a) else coKst b d a
def coStep (k:Nat) (d:DoV) (a:CoA):OutV × CoA :=
  if d.k=8 then coWork a else if d.k=9 then coSweep a else coDo (barOf k) d a
theorem shadeC_get (cols:List Int) (v:Val) (j:Nat):(shadeC cols v).getD j 0=cols.getD j 0 ∨ ((shadeC cols v).getD j 0=1 ∧ cols.getD j 0=0):=by
  unfold shadeC
  split
  · rename_i h
    rw [List.getD_eq_getElem?_getD,List.getElem?_set]
    by_cases e:v.2.toNat=j
    · subst e
      rw [if_pos rfl]
      by_cases hl:v.2.toNat < cols.length
      · rw [if_pos hl]
        right
        unfold whiteB at h
        simp at h
        exact ⟨rfl,by rw [List.getD_eq_getElem?_getD]; simpa using h.2⟩
      · rw [if_neg hl]
        left
        rw [List.getD_eq_getElem?_getD,List.getElem?_eq_none (by omega)]
    · rw [if_neg e,← List.getD_eq_getElem?_getD]
      exact .inl rfl
  · exact .inl rfl
theorem shadeC_hit {cols:List Int} {v:Val} (h1:v.1=true) (h2:v.2.toNat < cols.length):(shadeC cols v).getD v.2.toNat 0 ≠ 0:=by
  unfold shadeC
  split
  · rw [List.getD_eq_getElem?_getD,List.getElem?_set,if_pos rfl,if_pos h2]; decide
  · rename_i h
    unfold whiteB at h
    rw [h1,Bool.true_and] at h
    exact fun e => h (decide_eq_true e)
theorem shadeL_get (vs:List Val):∀ (cols:List Int) (j:Nat),(shadeL cols vs).getD j 0=cols.getD j 0 ∨ ((shadeL cols vs).getD j 0=1 ∧ cols.getD j 0=0):=by
  induction vs with
  | nil => exact fun _ _ => .inl rfl
  | cons v vs ih =>
    intro cols j
    have h1:shadeL cols (v :: vs)=shadeL (shadeC cols v) vs:=rfl
    rw [h1]
    rcases ih (shadeC cols v) j with h | ⟨h,h0⟩
    · rw [h]; exact shadeC_get cols v j
    · rcases shadeC_get cols v j with h2 | ⟨h2,h3⟩
      · exact .inr ⟨h,by rw [← h2]; exact h0⟩
      · rw [h2] at h0; cases h0
theorem shadeL_hit (vs:List Val):∀ (cols:List Int) (v:Val),v ∈ vs → v.1=true → v.2.toNat < cols.length → (shadeL cols vs).getD v.2.toNat 0 ≠ 0:=by
  induction vs with
  | nil => intro _ _ h; cases h
  | cons u vs ih =>
    intro cols v hv h1 h2
    have h3:shadeL cols (u :: vs)=shadeL (shadeC cols u) vs:=rfl
    rw [h3]
    rcases List.mem_cons.1 hv with rfl | hv
    · have h4:=shadeC_hit h1 h2
      rcases shadeL_get vs (shadeC cols v) v.2.toNat with h | ⟨h,_⟩
      · rw [h]; exact h4
      · rw [h]; decide
    · exact ih _ v hv h1 (by rw [shadeC_len]; exact h2)
inductive CoGP (a:CoA):Nat → Prop
  | grey {i j:Nat} {fs:List Val}:a.cols.getD i 0=1 → a.fld i=some fs → (true,(j:Int)) ∈ fs → a.cols.getD j 0=0 → CoGP a j
  | step {i j:Nat} {fs:List Val}:CoGP a i → a.fld i=some fs → (true,(j:Int)) ∈ fs → a.cols.getD j 0=0 → CoGP a j
def CoNG (a:CoA) (j:Nat):Prop:=a.cols.getD j 0 ≠ 0 ∨ CoGP a j
theorem CoGP.white {a:CoA} {j:Nat} (h:CoGP a j):a.cols.getD j 0=0:=by cases h <;> assumption
structure CoInv (k:Nat) (a:CoA):Prop where
  rng:∀ i,a.cols.getD i 0=0 ∨ a.cols.getD i 0=1 ∨ a.cols.getD i 0=2
  bs:k ≠ 3 → ∀ (i j:Nat) fs,a.fld i=some fs → a.cols.getD i 0=2 → (true,(j:Int)) ∈ fs → a.cols.getD j 0 ≠ 0
  rg:k=3 → ∀ j:Nat,(true,(j:Int)) ∈ a.regs → CoNG a j
  by_:k=3 → ∀ (i j:Nat) fs,a.fld i=some fs → a.cols.getD i 0=2 → (true,(j:Int)) ∈ fs → CoNG a j
theorem CoNG.keep {a a':CoA} (c1:∀ i fs,a.fld i=some fs → a.cols.getD i 0=0 → a'.cols.getD i 0=0 ∨ a'.cols.getD i 0=1)
    (c2:∀ i fs,a.fld i=some fs → a.cols.getD i 0=1 → a'.cols.getD i 0=1 ∨ ∀ fs' (j:Nat),a'.fld i=some fs' → (true,(j:Int)) ∈ fs' → a'.cols.getD j 0 ≠ 0)
    (c3:∀ i fs (j:Nat),a.fld i=some fs → (true,(j:Int)) ∈ fs → a'.cols.getD j 0=0 → ∃ fs',a'.fld i=some fs' ∧ (true,(j:Int)) ∈ fs')
    (c4:∀ j,a.cols.getD j 0 ≠ 0 → a'.cols.getD j 0 ≠ 0) {j:Nat} (h:CoNG a j):CoNG a' j:=by
  rcases h with h | h
  · exact .inl (c4 j h)
  · induction h with
    | grey h1 h2 h3 h4 =>
      rename_i i j fs
      by_cases hj:a'.cols.getD j 0=0
      · obtain ⟨fs',e1,e2⟩:=c3 _ _ _ h2 h3 hj
        rcases c2 _ _ h2 h1 with h5 | h5
        · exact .inr (.grey h5 e1 e2 hj)
        · exact absurd hj (h5 _ _ e1 e2)
      · exact .inl hj
    | step h1 h2 h3 h4 ih =>
      rename_i i j fs
      by_cases hj:a'.cols.getD j 0=0
      · obtain ⟨fs',e1,e2⟩:=c3 _ _ _ h2 h3 hj
        rcases c1 _ _ h2 h1.white with h5 | h5
        · rcases ih with h6 | h6
          · exact absurd h5 h6
          · exact .inr (.step h6 e1 e2 hj)
        · exact .inr (.grey h5 e1 e2 hj)
      · exact .inl hj
theorem CoNG.shade1 {a:CoA} (v:Val) {j:Nat} (h:CoNG a j):CoNG { a with cols:=shadeC a.cols v } j:=by
  refine CoNG.keep (a:=a) (a':={ a with cols:=shadeC a.cols v }) (fun i _ _ h0 => ?_) (fun i _ _ h1 => ?_) (fun i fs j h1 h2 _ => ⟨fs,h1,h2⟩) (fun j h0 h1 => ?_) h
  · rcases shadeC_get a.cols v i with h | h
    · exact .inl (h.trans h0)
    · exact .inr h.1
  · rcases shadeC_get a.cols v i with h | h
    · exact .inl (h.trans h1)
    · exact .inl h.1
  · dsimp only at h1
    rcases shadeC_get a.cols v j with h | h
    · exact h0 (h.symm.trans h1)
    · rw [h.1] at h1; cases h1
theorem CoInv.shade1 {k:Nat} {a:CoA} (h:CoInv k a) (v:Val):CoInv k { a with cols:=shadeC a.cols v } where
  rng i:=by
    dsimp only
    rcases shadeC_get a.cols v i with h1 | h1
    · rw [h1]; exact h.rng i
    · exact .inr (.inl h1.1)
  bs hk i j fs hf h2 hj h0:=by
    dsimp only at h2 h0
    rcases shadeC_get a.cols v i with h1 | h1
    · rcases shadeC_get a.cols v j with h3 | h3
      · exact h.bs hk i j fs hf (h1.symm.trans h2) hj (h3.symm.trans h0)
      · rw [h3.1] at h0; cases h0
    · rw [h1.1] at h2; cases h2
  rg hk j hj:=(h.rg hk j hj).shade1 v
  by_ hk i j fs hf h2 hj:=by
    dsimp only at h2
    rcases shadeC_get a.cols v i with h1 | h1
    · exact (h.by_ hk i j fs hf (h1.symm.trans h2) hj).shade1 v
    · rw [h1.1] at h2; cases h2
theorem CoInv.shadeAll {k:Nat} (vs:List Val):∀ {a:CoA},CoInv k a → CoInv k { a with cols:=shadeL a.cols vs }:=by
  induction vs with
  | nil => intro a h; exact h
  | cons v vs ih => intro a h; exact ih (h.shade1 v)
theorem getD_set (l:List Int) (i j:Nat) (y:Int):(l.set i y).getD j 0=if i=j ∧ i < l.length then y else l.getD j 0:=by
  rw [List.getD_eq_getElem?_getD,List.getElem?_set]
  by_cases e:i=j
  · subst e
    by_cases hl:i < l.length
    · simp [hl]
    · rw [if_pos rfl,if_neg hl,if_neg (fun h => hl h.2),List.getD_eq_getElem?_getD,List.getElem?_eq_none (by omega)]
  · rw [if_neg e,if_neg (fun h => e h.1),← List.getD_eq_getElem?_getD]
theorem CoInv.black {k:Nat} {a:CoA} (h:CoInv k a) {i:Nat} {fs:List Val} (hf:a.fld i=some fs) (hg:a.cols.getD i 0 ≠ 0) (hn:∀ j:Nat,(true,(j:Int)) ∈ fs → a.cols.getD j 0 ≠ 0):CoInv k { a with cols:=a.cols.set i 2 }:=by
  have hk0:∀ j,(a.cols.set i 2).getD j 0=0 → a.cols.getD j 0=0:=fun j h0 => by
    rw [getD_set] at h0
    split at h0
    · cases h0
    · exact h0
  have hk1:∀ j,a.cols.getD j 0=0 → (a.cols.set i 2).getD j 0=0:=fun j h0 => by
    rw [getD_set]
    split
    · rename_i e; rw [← e.1] at h0; exact absurd h0 hg
    · exact h0
  have hkeep:∀ j,CoNG a j → CoNG { a with cols:=a.cols.set i 2 } j:=fun j hj => CoNG.keep (a:=a) (a':={ a with cols:=a.cols.set i 2 })
    (fun x _ _ h0 => .inl (hk1 x h0))
    (fun x fs' hx h1 => by
      dsimp only
      rw [getD_set]
      split
      · rename_i e
        right
        intro fs2 j h2 h3 h4
        have:fs2=fs:=by rw [← e.1] at h2; exact Option.some.inj ((show a.fld i=some fs2 from h2).symm.trans hf)
        subst this
        exact hn j h3 (hk0 j h4)
      · exact .inl h1)
    (fun x fs' j h1 h2 _ => ⟨fs',h1,h2⟩) (fun j h1 h2 => h1 (hk0 j h2)) hj
  refine ⟨fun x => ?_,fun hk x j fs2 hf2 h2 hj h0 => ?_,fun hk j hj => hkeep j (h.rg hk j hj),fun hk x j fs2 hf2 h2 hj => ?_⟩
  · dsimp only
    rw [getD_set]
    split
    · exact .inr (.inr rfl)
    · exact h.rng x
  · dsimp only at h2 h0
    rw [getD_set] at h2
    split at h2
    · rename_i e
      have:fs2=fs:=by rw [← e.1] at hf2; exact Option.some.inj ((show a.fld i=some fs2 from hf2).symm.trans hf)
      subst this
      exact hn j hj (hk0 j h0)
    · exact h.bs hk x j fs2 hf2 h2 hj (hk0 j h0)
  · dsimp only at h2
    rw [getD_set] at h2
    split at h2
    · rename_i e
      have:fs2=fs:=by rw [← e.1] at hf2; exact Option.some.inj ((show a.fld i=some fs2 from hf2).symm.trans hf)
      subst this
      exact .inl (fun h0 => hn j hj (hk0 j h0))
    · exact hkeep j (h.by_ hk x j fs2 hf2 h2 hj)
theorem CoGP.has {a:CoA} {j:Nat} (h:CoGP a j):∃ i fs,a.fld i=some fs ∧ a.cols.getD i 0=1:=by
  induction h with
  | grey h1 h2 _ _ => exact ⟨_,_,h2,h1⟩
  | step _ _ _ _ ih => exact ih
theorem CoOk.cols {a:CoA} (ok:CoOk a) {c:List Int} (hc:c.length=a.cols.length):CoOk { a with cols:=c } :=
  ⟨ok.r8,hc.trans ok.cl,ok.n,ok.vr,ok.vf,ok.f4⟩
theorem CoOk.vin {a:CoA} (ok:CoOk a) {v:Val} (h:a.vok v) (h1:v.1=true):v.2.toNat < a.cols.length:=by
  obtain ⟨i,fs,e,hf⟩:=h h1
  rw [e,ok.cl]
  exact (CoA.fld_at hf).2
theorem thereL_fld {a:CoA} {x:Int}:x ∈ thereL a.objs ↔ ∃ (i:Nat) (fs:List Val),x=(i:Int) ∧ a.fld i=some fs:=by
  rw [mem_thereL]
  constructor
  · rintro ⟨i,fs,e,h⟩; exact ⟨i,fs,e,by unfold CoA.fld; rw [h]; rfl⟩
  · rintro ⟨i,fs,e,h⟩; exact ⟨i,fs,e,(CoA.fld_at h).1⟩
theorem greyF_some {a:CoA} {c:List Int} (h:greyF (thereL a.objs) c ≠ -1):∃ (i:Nat) (fs:List Val),greyF (thereL a.objs) c=(i:Int) ∧ a.fld i=some fs ∧ c.getD i 0=1:=by
  unfold greyF at h ⊢
  split at h
  · rename_i x hx
    obtain ⟨i,fs,e,hf⟩:=thereL_fld.1 (List.mem_of_find?_eq_some hx)
    have h3:=List.find?_some hx
    subst e
    refine ⟨i,fs,rfl,hf,?_⟩
    simpa using h3
  · exact absurd rfl h
theorem greyF_none {a:CoA} {c:List Int} (h:greyF (thereL a.objs) c=-1) {i:Nat} {fs:List Val} (hf:a.fld i=some fs):c.getD i 0 ≠ 1:=by
  intro h1
  unfold greyF at h
  split at h
  · rename_i x hx
    obtain ⟨j,_,e,_⟩:=thereL_fld.1 (List.mem_of_find?_eq_some hx)
    omega
  · rename_i hx
    rw [List.find?_eq_none] at hx
    exact hx _ (thereL_fld.2 ⟨i,fs,rfl,hf⟩) (by simp only [Int.toNat_natCast]; exact decide_eq_true h1)
theorem coWork_ok {k:Nat} {a:CoA} (ok:CoOk a) (h:CoInv k a):CoOk (coWork a).2 ∧ CoInv k (coWork a).2:=by
  unfold coWork
  split
  · exact ⟨ok,h⟩
  · rename_i hg
    obtain ⟨i,fs,e,hf,h1⟩:=greyF_some hg
    rw [e,Int.toNat_natCast,hf,Option.getD_some]
    refine ⟨ok.cols (by rw [List.length_set,shadeL_len]),?_⟩
    refine (h.shadeAll fs).black (i:=i) (fs:=fs) hf ?_ ?_
    · dsimp only
      rcases shadeL_get fs a.cols i with h2 | h2
      · rw [h2,h1]; decide
      · rw [h2.1]; decide
    · intro j hj
      have h2:=shadeL_hit fs a.cols (true,(j:Int)) hj rfl (ok.vin (ok.vf i fs _ hf hj) rfl)
      simpa using h2
theorem dropF_len (xs:List Int):∀ objs:List (Option (List Val)),(dropF objs xs).length=objs.length:=by
  unfold dropF
  induction xs with
  | nil => intro _; rfl
  | cons x xs ih => intro objs; rw [List.foldl_cons,ih,List.length_set]
theorem dropF_get (xs:List Int):∀ (objs:List (Option (List Val))) (i:Nat),(∀ x ∈ xs,0 ≤ x) → (dropF objs xs)[i]?=if (i:Int) ∈ xs ∧ i < objs.length then some none else objs[i]?:=by
  unfold dropF
  induction xs with
  | nil => intro objs i _; simp
  | cons x xs ih =>
    intro objs i hx
    rw [List.foldl_cons,ih _ _ (fun y hy => hx y (List.mem_cons_of_mem _ hy)),List.length_set,List.getElem?_set]
    have h0:=hx x (List.mem_cons_self ..)
    by_cases h1:(i:Int) ∈ xs
    · by_cases h2:i < objs.length
      · rw [if_pos ⟨h1,h2⟩,if_pos ⟨List.mem_cons_of_mem _ h1,h2⟩]
      · rw [if_neg (fun h => h2 h.2)]
        by_cases e:x.toNat=i
        · subst e; rw [if_pos rfl,if_neg h2,if_neg (fun h => h2 h.2),List.getElem?_eq_none (by omega)]
        · rw [if_neg e,if_neg (fun h => h2 h.2)]
    · rw [if_neg (fun h => h1 h.1)]
      by_cases h3:x.toNat=i
      · rw [if_pos h3]
        have hm:(i:Int) ∈ x :: xs:=by rw [← h3,Int.toNat_of_nonneg h0]; exact List.mem_cons_self ..
        by_cases h2:i < objs.length
        · rw [if_pos (by omega),if_pos ⟨hm,h2⟩]
        · rw [if_neg (by omega),if_neg (fun h => h2 h.2),List.getElem?_eq_none (by omega)]
      · rw [if_neg h3,if_neg]
        rintro ⟨h4,_⟩
        rcases List.mem_cons.1 h4 with h5 | h5
        · exact h3 (by omega)
        · exact h1 h5
theorem greyL_get (xs:List Int):∀ (l:List Int) (j:Nat),(∀ x ∈ xs,0 ≤ x) → (greyL l xs).getD j 0=if (j:Int) ∈ xs ∧ j < l.length then 1 else l.getD j 0:=by
  unfold greyL
  induction xs with
  | nil => intro l j _; simp
  | cons x xs ih =>
    intro l j hx
    have h0:=hx x (List.mem_cons_self ..)
    rw [List.foldl_cons,ih _ _ (fun y hy => hx y (List.mem_cons_of_mem _ hy)),List.length_set,getD_set]
    by_cases h2:j < l.length
    · by_cases h1:(j:Int) ∈ xs
      · rw [if_pos ⟨h1,h2⟩,if_pos ⟨List.mem_cons_of_mem _ h1,h2⟩]
      · rw [if_neg (fun h => h1 h.1)]
        by_cases h3:x.toNat=j
        · rw [if_pos ⟨h3,by omega⟩,if_pos ⟨by rw [← h3,Int.toNat_of_nonneg h0]; exact List.mem_cons_self ..,h2⟩]
        · rw [if_neg (fun h => h3 h.1),if_neg]
          rintro ⟨h4,_⟩
          rcases List.mem_cons.1 h4 with h5 | h5
          · exact h3 (by omega)
          · exact h1 h5
    · rw [if_neg (fun h => h2 h.2),if_neg (fun h => h2 (by have:=h.2; omega)),if_neg (fun h => h2 h.2)]
theorem beginC_get {n:Nat} {regs:List Val} (h0:∀ v ∈ regs,v.1=true → 0 ≤ v.2) (j:Nat):(beginC n regs).getD j 0=if (true,(j:Int)) ∈ regs ∧ j < n then 1 else 0:=by
  unfold beginC
  rw [greyL_get _ _ _ (fun x hx => h0 _ (tgts_mem.1 hx) rfl),List.length_replicate]
  have h1:(List.replicate n (0:Int)).getD j 0=0:=by
    rw [List.getD_eq_getElem?_getD,List.getElem?_replicate]; split <;> rfl
  rw [h1]
  by_cases h:(true,(j:Int)) ∈ regs ∧ j < n
  · rw [if_pos h,if_pos ⟨tgts_mem.2 h.1,h.2⟩]
  · rw [if_neg h,if_neg (fun h2 => h ⟨tgts_mem.1 h2.1,h2.2⟩)]
theorem beginC_len (n:Nat) (regs:List Val):(beginC n regs).length=n:=by unfold beginC; rw [greyL_len,List.length_replicate]
theorem CoInv.begin_ (k:Nat) {a:CoA} (h0:∀ v ∈ a.regs,a.vok v) (hc:a.cols=beginC a.objs.length a.regs):CoInv k a:=by
  have hg:∀ j,a.cols.getD j 0=if (true,(j:Int)) ∈ a.regs ∧ j < a.objs.length then 1 else 0:=fun j => by
    rw [hc]
    exact beginC_get (fun v hv h1 => by obtain ⟨i,_,e,_⟩:=h0 v hv h1; omega) j
  have h2:∀ i,a.cols.getD i 0 ≠ 2:=fun i => by rw [hg]; split <;> decide
  refine ⟨fun i => ?_,fun _ i j fs _ h _ => absurd h (h2 i),fun _ j hj => ?_,fun _ i j fs _ h _ => absurd h (h2 i)⟩
  · rw [hg]; split
    · exact .inr (.inl rfl)
    · exact .inl rfl
  · left
    obtain ⟨i,fs,e,hf⟩:=h0 _ hj rfl
    have hij:i=j:=by dsimp only at e; omega
    subst hij
    rw [hg,if_pos ⟨hj,(CoA.fld_at hf).2⟩]; decide
theorem coSweep_ok {k:Nat} {a:CoA} (ok:CoOk a) (h:CoInv k a):CoOk (coSweep a).2 ∧ CoInv k (coSweep a).2 ∧ (coSweep a).2.objs.length=a.objs.length:=by
  unfold coSweep
  split
  · exact ⟨ok.cols (shadeL_len _ _),h.shadeAll _,rfl⟩
  · rename_i hg
    have hg1:greyF (thereL a.objs) (shadeL a.cols a.regs)=-1:=by
      rcases Int.decEq (greyF (thereL a.objs) (shadeL a.cols a.regs)) (-1) with h | h
      · exact absurd h hg
      · exact h
    have hi:=h.shadeAll a.regs
    obtain ⟨c,hc⟩:∃ c,shadeL a.cols a.regs=c:=⟨_,rfl⟩
    have hcl:c.length=a.cols.length:=by rw [← hc,shadeL_len]
    have hhit:∀ j:Nat,(true,(j:Int)) ∈ a.regs → c.getD j 0 ≠ 0:=fun j hj => by
      have h2:=shadeL_hit a.regs a.cols (true,(j:Int)) hj rfl (ok.vin (ok.vr _ hj) rfl)
      rw [hc] at h2
      simpa using h2
    rw [hc] at hg1 hi ⊢
    have hws:∀ x ∈ whitesF (thereL a.objs) c,0 ≤ x:=fun x hx => by
      obtain ⟨i,_,e,_⟩:=thereL_fld.1 ((List.mem_filter.1 hx).1)
      omega
    have hfl:∀ i fs,(dropF a.objs (whitesF (thereL a.objs) c))[i]?=some (some fs) ↔ (a.fld i=some fs ∧ c.getD i 0 ≠ 0):=fun i fs => by
      rw [dropF_get _ _ _ hws]
      constructor
      · intro h1
        split at h1
        · cases h1
        · rename_i h2
          have hf:a.fld i=some fs:=by unfold CoA.fld; rw [h1]; rfl
          refine ⟨hf,fun h3 => h2 ⟨List.mem_filter.2 ⟨thereL_fld.2 ⟨i,fs,rfl,hf⟩,?_⟩,(CoA.fld_at hf).2⟩⟩
          simp only [Int.toNat_natCast]
          exact decide_eq_true h3
      · rintro ⟨hf,h1⟩
        rw [if_neg,(CoA.fld_at hf).1]
        rintro ⟨h2,_⟩
        have h3:=(List.mem_filter.1 h2).2
        simp only [Int.toNat_natCast] at h3
        exact h1 (of_decide_eq_true h3)
    obtain ⟨O,hO⟩:∃ o,dropF a.objs (whitesF (thereL a.objs) c)=o:=⟨_,rfl⟩
    have hOl:O.length=a.objs.length:=by rw [← hO,dropF_len]
    rw [hO] at hfl ⊢
    have hf2:∀ (X:CoA) i fs,X.objs=O → (X.fld i=some fs ↔ (a.fld i=some fs ∧ c.getD i 0 ≠ 0)):=fun X i fs hX => by
      rw [← hfl]
      constructor
      · intro h1; have:=(CoA.fld_at h1).1; rw [hX] at this; exact this
      · intro h1; unfold CoA.fld; rw [hX,h1]; rfl
    have hvo:∀ (X:CoA) v,X.objs=O → a.vok v → (∀ j:Nat,v=(true,(j:Int)) → c.getD j 0 ≠ 0) → X.vok v:=fun X v hX hv hj h1 => by
      obtain ⟨i,fs,e,hf⟩:=hv h1
      exact ⟨i,fs,e,(hf2 X i fs hX).2 ⟨hf,hj i (Prod.ext h1 e)⟩⟩
    have hvr:∀ (X:CoA),X.objs=O → ∀ v ∈ a.regs,X.vok v:=fun X hX v hv => hvo X v hX (ok.vr v hv) fun j e => hhit j (e ▸ hv)
    have hvf:∀ (X:CoA),X.objs=O → ∀ i fs v,X.fld i=some fs → v ∈ fs → X.vok v:=fun X hX i fs v hf hv => by
      obtain ⟨hf1,h0⟩:=(hf2 X i fs hX).1 hf
      refine hvo X v hX (ok.vf i fs v hf1 hv) fun j e => ?_
      have h1:c.getD i 0 ≠ 1:=greyF_none hg1 hf1
      have h2:c.getD i 0=2:=by
        rcases hi.rng i with h | h | h
        · exact absurd h h0
        · exact absurd h h1
        · exact h
      by_cases hk:k=3
      · rcases hi.by_ hk i j fs hf1 h2 (e ▸ hv) with h3 | h3
        · exact h3
        · obtain ⟨x,fs',hx,hx1⟩:=h3.has
          exact absurd hx1 (greyF_none hg1 (a:=a) hx)
      · exact hi.bs hk i j fs hf1 h2 (e ▸ hv)
    refine ⟨⟨ok.r8,by dsimp only; rw [beginC_len,hOl,ok.cl],by dsimp only; rw [hOl]; exact ok.n,hvr _ rfl,hvf _ rfl,fun i fs hf => ok.f4 i fs ((hf2 _ i fs rfl).1 hf).1⟩,?_,by dsimp only; exact hOl⟩
    exact CoInv.begin_ k (hvr _ rfl) (by dsimp only; rw [hOl,ok.cl])
end Go.Proofs.YtjphckfbbiehdaaGreat
