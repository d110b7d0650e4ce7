/- Part of a proof. -/
import Derived.Test.YtjphckfbbiehdaaGreatSTopAll17
import Derived.Test.YtjphckfbbiehdaaGreatSTopAll10
import Derived.Test.YtjphckfbbiehdaaGreatSTopAll23
import Derived.Test.YtjphckfbbiehdaaGreatSTopAll13
set_option linter.unusedSimpArgs false
set_option linter.unusedVariables false
namespace Go.Proofs.YtjphckfbbiehdaaGreat
open Go.RowKit
theorem wrapC64 (x:Int) (h0:-1000000 ≤ x) (h1:x ≤ 1000000):IntKind.i64.wrap x=x:=by
  simp [IntKind.wrap,IntKind.bits,IntKind.signed]; omega
structure CnT where
  regs:List Val
  oj:Oj
  Ac:Option Addr
  cc:Nat
  cnt:List Int
  Ag:Option Addr
  cg:Nat
  gl:List Int
def CnT.a (t:CnT):CnA:=⟨t.regs,t.oj.abs,t.cnt,t.gl⟩
def CnT.cn (t:CnT) (l:List Int):CnT:={ t with cnt:=l }
def cnC (Bm:Nat) (R N:Int) (t:CnT):Array Value:=#[t.oj.v,.pointer (some ⟨Bm,0,none⟩),.slice t.Ac t.cnt.length t.cc,.int .i64 R,.int .i64 N,.slice t.Ag t.gl.length t.cg]
def cnRN (Be Bm:Nat) (R N:Int) (t:CnT):List Item:=blkI Be 80 (cnC Bm R N t) :: rowI 3 1 t.Ac t.cnt.length t.cc (ints t.cnt) :: rowI 3 1 t.Ag t.gl.length t.cg (ints t.gl) :: ojL t.oj
def cnR (Be Bm:Nat) (R:Int) (t:CnT):List Item:=cnRN Be Bm R (t.a.num:Int) t
theorem CnT.cn_a (t:CnT) (v:Val):(t.cn (t.a.up v).cnt).a=t.a.up v:=by
  unfold CnA.up
  split <;> rfl
theorem CnT.n (t:CnT):t.a.objs.length=t.oj.ps.length:=oj_lenabs t.oj
theorem CnT.fld {t:CnT} {i:Nat} {fs:List Val} (h:t.a.fld i=some fs):∃ p,t.oj.ps[i]?=some (some p) ∧ p.o.fields=fs:=oj_abs_at (CnA.fld_iff.1 h)
theorem cn_cells {F:Nat → Prop} {W0 w:World} {Be Bm:Nat} {R N:Int} {t:CnT} {pre:List Item} (hS:Sep F W0 w (pre ++ cnRN Be Bm R N t)) :
    w.cell? ⟨Be,0,none⟩=some t.oj.v ∧ w.cell? ⟨Be,1,none⟩=some (.pointer (some ⟨Bm,0,none⟩)) ∧ w.cell? ⟨Be,2,none⟩=some (.slice t.Ac t.cnt.length t.cc) ∧ w.cell? ⟨Be,3,none⟩=some (.int .i64 R) ∧ w.cell? ⟨Be,4,none⟩=some (.int .i64 N) ∧ w.cell? ⟨Be,5,none⟩=some (.slice t.Ag t.gl.length t.cg) ∧ (∀ i,w.frozen? ⟨Be,i,none⟩=false) ∧ Be < w.heap.size:=by
  obtain ⟨c1,c2,c3,_⟩:=hS.rules pre.length (g:=Be) (t:=80) (cs:=cnC Bm R N t) (by rw [List.getElem?_append_right (by omega)]; simp [cnRN])
  exact ⟨(c1 0).trans rfl,(c1 1).trans rfl,(c1 2).trans rfl,(c1 3).trans rfl,(c1 4).trans rfl,(c1 5).trans rfl,c2,c3⟩
theorem cn_int {F:Nat → Prop} {W0 w:World} {Be Bm:Nat} {R N:Int} {t:CnT} {pre:List Item} (hS:Sep F W0 w (pre ++ cnRN Be Bm R N t)) {z:Nat} (hz:z < t.cnt.length) :
    ∃ g,t.Ac=some ⟨g,0,none⟩ ∧ w.cell? ⟨g,z,none⟩=some (.int .i64 (t.cnt.getD z 0)) ∧ w.frozen? ⟨g,z,none⟩=false ∧ g < w.heap.size ∧ g ≠ Be:=by
  obtain ⟨g,h1,h2,h3,h4,h5⟩:=int_at (hS.get (pre.length + 1) (i:=rowI 3 1 t.Ac t.cnt.length t.cc (ints t.cnt)) (by rw [List.getElem?_append_right (by omega)]; simp [cnRN])) hz
  refine ⟨g,h1,h3,h4,h5,fun e => ?_⟩
  have h6:=hS.other (a:=pre.length + 1) (b:=pre.length) (x:=rowI 3 1 t.Ac t.cnt.length t.cc (ints t.cnt)) (y:=blkI Be 80 (cnC Bm R N t)) (by rw [List.getElem?_append_right (by omega)]; simp [cnRN]) (by rw [List.getElem?_append_right (by omega)]; simp [cnRN]) (by omega) g (by rw [h1]; rfl)
  exact h6 e
theorem cn_set {F:Nat → Prop} {W0 w:World} {Be Bm:Nat} {R N:Int} {t:CnT} {pre:List Item} (hS:Sep F W0 w (pre ++ cnRN Be Bm R N t)) {g:Nat} (hA:t.Ac=some ⟨g,0,none⟩) (z:Nat) (y:Int) :
    Sep F W0 (w.setCell ⟨g,z,none⟩ (.int .i64 y)) (pre ++ cnRN Be Bm R N (t.cn (t.cnt.set z y))):=by
  have h1:Sep F W0 w (blkI Be 80 (cnC Bm R N t) :: rowI 3 1 (some ⟨g,0,none⟩) t.cnt.length t.cc (ints t.cnt) :: ((rowI 3 1 t.Ag t.gl.length t.cg (ints t.gl) :: ojL t.oj) ++ pre)):=by
    rw [← hA]
    exact hS.perm (List.perm_append_comm (l₁:=pre))
  have h2:=h1.store 1 (g:=g) rfl z (.int .i64 y)
  rw [ints_setC] at h2
  refine Sep.perm (l:=pre ++ cnRN Be Bm R N (t.cn (t.cnt.set z y))) ?_ List.perm_append_comm
  have e:cnRN Be Bm R N (t.cn (t.cnt.set z y))=blkI Be 80 (cnC Bm R N t) :: rowI 3 1 (some ⟨g,0,none⟩) t.cnt.length t.cc (ints (t.cnt.set z y)) :: rowI 3 1 t.Ag t.gl.length t.cg (ints t.gl) :: ojL t.oj:=by
    unfold cnRN cnC CnT.cn
    dsimp only
    rw [List.length_set,hA]
  rw [e]
  exact h2
set_option maxRecDepth 100000 in
set_option maxHeartbeats 4000000 in
theorem cup_any {F:Nat → Prop} {W0 w:World} {Be Bm:Nat} {R N:Int} {t:CnT} {x:Item} (h:Sep F W0 w (x :: cnRN Be Bm R N t)) (hn:t.cnt.length ≤ 1000) (v:Val) (hv:v.1=true → ∃ z:Nat,v.2=(z:Int) ∧ z < t.cnt.length) (hb:∀ j:Nat,0 ≤ t.cnt.getD j 0 ∧ t.cnt.getD j 0 ≤ 100000) :
    Calls Tryz.prog 17 #[.pointer (some ⟨Be,0,none⟩),.agg #[.bool v.1,.int .i64 v.2]] w fun e w' => (∃ u,e=.returned u) ∧ Sep F W0 w' (x :: cnRN Be Bm R N (t.cn (t.a.up v).cnt)):=by
  obtain ⟨g,hg⟩:∃ g,w.heap.size=g:=⟨_,rfl⟩
  have hS0:=h.blkAtF 63 #[.bool v.1,.int .i64 v.2] hg
  obtain ⟨W,hW⟩:∃ W,w.alloc (.cells #[.bool v.1,.int .i64 v.2] 63)=W:=⟨_,rfl⟩
  rw [hW] at hS0
  obtain ⟨x1,x2,x3,x4⟩:=hS0.rules 0 (g:=g) (t:=63) rfl
  have x5:=(x1 0).trans (show _=some (.bool v.1) from rfl)
  have x6:=(x1 1).trans (show _=some (.int .i64 v.2) from rfl)
  obtain ⟨-,-,k3,-,-,-,-,k8⟩:=cn_cells (pre:=[_,x]) hS0
  obtain ⟨bv,mv⟩:=v
  dsimp only at hv x5 x6 hW hS0 ⊢
  cases bv with
  | false =>
    have HS:=hide (show Sep F W0 W (x :: cnRN Be Bm R N (t.cn (t.a.up (false,mv)).cnt)) from hS0.sub (List.sublist_cons_self _ _))
    clear h hS0 x1 k3 hv hb
    go_enter Tryz.func17,Tryz.ntmps17
    go_wp2_with fail
    go_end0
    exact ⟨⟨_,rfl⟩,HS.out⟩
  | true =>
    obtain ⟨z,rfl,hz⟩:=hv rfl
    obtain ⟨gc,hA,e0,e1,e2,e3⟩:=cn_int (pre:=[_,x]) hS0 hz
    have hbz:=hb z
    have HS:=hide (show Sep F W0 (W.setCell ⟨gc,z,none⟩ (.int .i64 (t.cnt.getD z 0 + 1))) (x :: cnRN Be Bm R N (t.cn (t.a.up (true,(z:Int))).cnt)) from
      (cn_set (pre:=[_,x]) hS0 hA z (t.cnt.getD z 0 + 1)).sub (List.sublist_cons_self _ _))
    have n1:g ≠ gc:=fun e => hS0.other (a:=3) (b:=0) rfl rfl (by omega) gc (by rw [hA]; rfl) e.symm
    rw [hA] at k3
    obtain ⟨m,hm⟩:∃ m,t.cnt.length=m:=⟨_,rfl⟩
    obtain ⟨y,hy⟩:∃ y,t.cnt.getD z 0=y:=⟨_,rfl⟩
    rw [hm] at k3 hz hn
    rw [hy] at e0 hbz HS
    have t1:decide ((z:Int) < 0)=false:=by simp
    have t2:decide ((m:Int) ≤ (z:Int))=false:=by simp; omega
    have t3:(0:Int) ≤ (z:Int):=by omega
    have t4:(z:Int) < (m:Int):=by omega
    have t5:IntKind.i64.wrap (y + 1)=y + 1:=wrapC64 _ (by omega) (by omega)
    have hmx:Tryz.prog.follows .mixedOrders=true:=by kernel_rfl
    have n2:gc ≠ g:=fun e => n1 e.symm
    have n3:Be ≠ gc:=fun e => e3 e.symm
    clear h hS0 x1 hv hb hbz hm hy
    go_enter Tryz.func17,Tryz.ntmps17
    go_wp2_with fail
    go_still_tail 9,hmx
    go_wp2_with fail
    go_end0
    exact ⟨⟨_,rfl⟩,HS.out.drew⟩
end Go.Proofs.YtjphckfbbiehdaaGreat

namespace Go.Proofs.YtjphckfbbiehdaaGreat
open Go.RowKit
def Oj.dropC (s:Oj) (i:Nat):Oj:={ s with ps:=s.ps.set i none }
theorem oj_dropC_abs (s:Oj) (i:Nat):(s.dropC i).abs=s.abs.set i none:=by
  unfold Oj.dropC Oj.abs
  dsimp only
  rw [List.map_set]
  rfl
theorem oj_take {F:Nat → Prop} {W w:World} {s:Oj} {pre:List Item} (h:Sep F W w (pre ++ ojL s)) {i ga:Nat} {p:Po} (hi:s.ps[i]?=some (some p)) (hA:s.As=some ⟨ga,0,none⟩):Sep F W (w.setCell ⟨ga,i,none⟩ (.pointer none)) (obI p.o :: pre ++ ojL (s.dropC i)):=by
  have hil:i < s.ps.length:=(List.getElem?_eq_some_iff.1 hi).1
  have h2:Sep F W w ((rowI 84 1 (some ⟨ga,0,none⟩) s.ps.length s.c (s.ps.map ptrV) :: pre) ++ s.ps.map opI):=by
    rw [← hA]
    exact h.perm (show (pre ++ rowI 84 1 s.As s.ps.length s.c (s.ps.map ptrV) :: s.ps.map opI).Perm _ from List.perm_middle)
  have h3:=h2.store 0 (g:=ga) rfl i (.pointer none)
  have h4:Sep F W (w.setCell ⟨ga,i,none⟩ (.pointer none)) ((rowI 84 1 (some ⟨ga,0,none⟩) s.ps.length s.c ((s.ps.map ptrV).set i (.pointer none)) :: pre) ++ s.ps.map opI):=h3
  have h5:=h4.focus (j:=i) (t:=some p) hi
  have h6:=Sep.split (l:=[blkI p.B 83 #[.slice p.o.A p.o.n p.o.c],obI p.o]) h5
  have h7:Sep F W (w.setCell ⟨ga,i,none⟩ (.pointer none)) (obI p.o :: ((rowI 84 1 (some ⟨ga,0,none⟩) s.ps.length s.c ((s.ps.map ptrV).set i (.pointer none)) :: pre) ++ (s.ps.eraseIdx i).map opI)):=h6.sub (List.sublist_cons_self _ _)
  have h8:=Sep.join (l:=[]) h7
  have h9:=Sep.unfocus (f:=opI) (l:=s.ps) (j:=i) (t:=none) (pre:=obI p.o :: rowI 84 1 (some ⟨ga,0,none⟩) s.ps.length s.c ((s.ps.map ptrV).set i (.pointer none)) :: pre) h8 hil
  have e:ojL (s.dropC i)=rowI 84 1 (some ⟨ga,0,none⟩) s.ps.length s.c ((s.ps.map ptrV).set i (.pointer none)) :: (s.ps.set i none).map opI:=by
    unfold ojL Oj.dropC
    dsimp only
    rw [List.length_set,List.map_set,hA]
    rfl
  rw [e]
  refine h9.perm ?_
  exact (List.perm_middle.symm).cons _
def CDrop (n:Nat):Prop:=∀ {F:Nat → Prop} {W0 w:World} {Be Bm:Nat} {R:Int} {t:CnT} {x:Item} {P:List Val} {i:Nat} {p:Po},Sep F W0 w (x :: cnR Be Bm R t) → CnInv t.a P → t.oj.ps[i]?=some (some p) → t.cnt.getD i 0=0 → t.a.num ≤ n → t.oj.ps.length ≤ 600 → t.gl.length + t.a.num ≤ 600 → P.length + 4 * t.a.num ≤ 5000 →
  Calls Tryz.prog 18 #[.pointer (some ⟨Be,0,none⟩),.int .i64 (i:Int)] w fun e w' => (∃ u,e=.returned u) ∧ ∃ t':CnT,t'.a=cdropN n t.a i ∧ Sep F W0 w' (x :: cnR Be Bm R t')
def CDown (n:Nat):Prop:=∀ {F:Nat → Prop} {W0 w:World} {Be Bm:Nat} {R:Int} {t:CnT} {x:Item} {P:List Val} {v:Val},Sep F W0 w (x :: cnR Be Bm R t) → CnInv t.a (v :: P) → t.a.num ≤ n → t.oj.ps.length ≤ 600 → t.gl.length + t.a.num ≤ 600 → P.length + 4 * t.a.num ≤ 5000 →
  Calls Tryz.prog 43 #[.pointer (some ⟨Be,0,none⟩),.agg #[.bool v.1,.int .i64 v.2]] w fun e w' => (∃ u,e=.returned u) ∧ ∃ t':CnT,t'.a=downW (cdropN n) t.a v ∧ Sep F W0 w' (x :: cnR Be Bm R t')
set_option maxRecDepth 100000 in
set_option maxHeartbeats 8000000 in
theorem cdown_of {n:Nat} (hD:CDrop n):CDown n:=by
  intro F W0 w Be Bm R t x P v h inv hnum hlen hgl hP
  obtain ⟨g,hg⟩:∃ g,w.heap.size=g:=⟨_,rfl⟩
  have hS0:=h.blkAtF 63 #[.bool v.1,.int .i64 v.2] hg
  obtain ⟨W,hW⟩:∃ W,w.alloc (.cells #[.bool v.1,.int .i64 v.2] 63)=W:=⟨_,rfl⟩
  rw [hW] at hS0
  obtain ⟨x1,x2,x3,x4⟩:=hS0.rules 0 (g:=g) (t:=63) rfl
  have x5:=(x1 0).trans (show _=some (.bool v.1) from rfl)
  have x6:=(x1 1).trans (show _=some (.int .i64 v.2) from rfl)
  obtain ⟨-,-,k3,-,-,-,-,k8⟩:=cn_cells (pre:=[_,x]) hS0
  obtain ⟨bv,mv⟩:=v
  dsimp only at x5 x6 hW hS0 ⊢
  unfold downW
  cases bv with
  | false =>
    rw [if_pos rfl]
    have HS:=hide (show Sep F W0 W (x :: cnR Be Bm R t) from hS0.sub (List.sublist_cons_self _ _))
    clear h hS0 x1 k3 inv hD hnum hlen hgl hP
    go_enter Tryz.func43,Tryz.ntmps43
    go_wp2_with fail
    refine bodyPost_ret (results_none rfl _ _ _) rfl ?_
    exact ⟨⟨_,rfl⟩,t,rfl,HS.out⟩
  | true =>
    rw [if_neg (by simp)]
    obtain ⟨z,fs,hz0,hf⟩:=inv.vokP (List.mem_cons_self ..) rfl
    dsimp only at hz0
    subst hz0
    have hcl:t.cnt.length=t.oj.ps.length:=inv.cl.trans t.n
    have hzl:=CnA.fld_lt hf
    rw [t.n] at hzl
    have hz:z < t.cnt.length:=by omega
    obtain ⟨gc,hA,e0,e1,e2,e3⟩:=cn_int (pre:=[_,x]) hS0 hz
    have hbz:0 ≤ t.cnt.getD z 0 ∧ t.cnt.getD z 0 ≤ 10000:=by
      have h1:=inv.bound z
      have h2:(((true,(z:Int)) :: P).length:Int)=P.length + 1:=by simp
      rw [h2,t.n] at h1
      exact ⟨h1.1,by have:=h1.2; have h3:t.a.cnt=t.cnt:=rfl; rw [h3] at this; omega⟩
    have inv1:=inv.dec rfl
    obtain ⟨p,hp,-⟩:=CnT.fld hf
    rw [show ((true,(z:Int)):Val).2.toNat=z from by simp]
    have hdz:(t.a.dec (true,(z:Int))).cnt=t.cnt.set z (t.cnt.getD z 0 - 1):=by
      show t.cnt.set (z:Int).toNat (t.cnt.getD (z:Int).toNat 0 + -1)=_
      rw [Int.toNat_natCast]; rfl
    have hS1:Sep F W0 (W.setCell ⟨gc,z,none⟩ (.int .i64 (t.cnt.getD z 0 - 1))) (blkI g 63 #[.bool true,.int .i64 (z:Int)] :: x :: cnR Be Bm R (t.cn (t.a.dec (true,(z:Int))).cnt)):=by
      have h1:=cn_set (pre:=[_,x]) hS0 hA z (t.cnt.getD z 0 - 1)
      rw [← hdz] at h1
      exact h1
    have n1:g ≠ gc:=fun e => hS0.other (a:=3) (b:=0) rfl rfl (by omega) gc (by rw [hA]; rfl) e.symm
    rw [hA] at k3
    have hdy:(t.a.dec (true,(z:Int))).cnt.getD z 0=t.cnt.getD z 0 - 1:=by rw [hdz,List.getD_eq_getElem?_getD,List.getElem?_set,if_pos rfl,if_pos hz]; rfl
    rw [hdy]
    have hml:(t.cn (t.a.dec (true,(z:Int))).cnt).cnt.length=t.cnt.length:=by show (t.a.dec _).cnt.length=_; rw [hdz,List.length_set]
    obtain ⟨t1,ht1⟩:∃ t1,t.cn (t.a.dec (true,(z:Int))).cnt=t1:=⟨_,rfl⟩
    have ha1:t1.a=t.a.dec (true,(z:Int)):=by rw [← ht1]; rfl
    have hA1:t1.Ac=some ⟨gc,0,none⟩:=by rw [← ht1]; exact hA
    have hcc:t1.cc=t.cc:=by rw [← ht1]; rfl
    have hg1:t1.gl=t.gl:=by rw [← ht1]; rfl
    have hp1:t1.oj=t.oj:=by rw [← ht1]; rfl
    have hn1:t1.a.num=t.a.num:=by rw [ha1]; rfl
    have hd1:t1.cnt.getD z 0=t.cnt.getD z 0 - 1:=by rw [← ht1]; exact hdy
    rw [ht1] at hS1 hml
    obtain ⟨m,hm⟩:∃ m,t.cnt.length=m:=⟨_,rfl⟩
    obtain ⟨y,hy⟩:∃ y,t.cnt.getD z 0=y:=⟨_,rfl⟩
    rw [hm] at k3 hz hml
    rw [hy] at e0 hbz hS1 hd1 ⊢
    obtain ⟨y1,hy1⟩:∃ y1,y - 1=y1:=⟨_,rfl⟩
    rw [hy1] at hS1 hd1 ⊢
    have s1:decide ((z:Int) < 0)=false:=by simp
    have s2:decide ((m:Int) ≤ (z:Int))=false:=by simp; omega
    have s3:(0:Int) ≤ (z:Int):=by omega
    have s4:(z:Int) < (m:Int):=by omega
    have s5:IntKind.i64.wrap (y - 1)=y1:=by rw [wrapC64 _ (by omega) (by omega),hy1]
    have hmx:Tryz.prog.follows .mixedOrders=true:=by kernel_rfl
    have n2:gc ≠ g:=fun e => n1 e.symm
    have n3:Be ≠ gc:=fun e => e3 e.symm
    have HS1:=hide hS1.drew
    have HML:=hide hml
    have HCC:=hide hcc
    have HA1:=hide hA1
    have HD1:=hide hd1
    have HZ:=hide (show z < t1.cnt.length by rw [hml]; exact hz)
    rw [← ha1]
    have CD:=hide (fun (w2:World) (hq:Sep F W0 w2 (x :: cnR Be Bm R t1)) (h0:y1=0) => hD (i:=z) (p:=p) hq (P:=P) (by rw [ha1]; exact inv1) (by rw [hp1]; exact hp) (by rw [hd1]; exact h0) (by rw [hn1]; exact hnum) (by rw [hp1]; exact hlen) (by rw [hg1,hn1]; exact hgl) (by rw [hn1]; exact hP))
    clear h hS0 x1 inv hm hy hD hnum hlen hgl hP hf hcl hzl hbz hA inv1 hp hdz hS1 hdy hml ht1 ha1 hA1 hcc hg1 hp1 hn1 hd1 hy1
    have hz7:z < m:=hz
    obtain ⟨res,hres⟩:∃ r,(if y1=0 then cdropN n t1.a z else t1.a)=r:=⟨_,rfl⟩
    rw [hres]
    have HRES:=hide hres
    clear hres
    go_enter Tryz.func43,Tryz.ntmps43
    go_wp2_with fail
    go_still_tail 9,hmx
    go_wp2_with fail
    obtain ⟨X,hX⟩:∃ X,(W.setCell ⟨gc,z,none⟩ (.int .i64 y1)).drew=X:=⟨_,rfl⟩
    rw [hX] at HS1 ⊢
    have hS2:=HS1.out
    obtain ⟨-,-,k3',-,-,-,-,k8'⟩:=cn_cells (pre:=[_,x]) hS2
    obtain ⟨v1,v2,v3,_⟩:=hS2.rules 0 (g:=g) (t:=63) rfl
    have v5:=(v1 0).trans (show _=some (.bool true) from rfl)
    have v6:=(v1 1).trans (show _=some (.int .i64 (z:Int)) from rfl)
    obtain ⟨gc',hA',f0,f1,f2,_⟩:=cn_int (pre:=[_,x]) hS2 HZ.out
    rw [HA1.out] at hA'
    obtain rfl:gc=gc':=by injection hA' with h1; injection h1
    rw [HD1.out] at f0
    rw [HA1.out,HML.out,HCC.out] at k3'
    have HS3:=hide (show Sep F W0 X (x :: cnR Be Bm R t1) from hS2.sub (List.sublist_cons_self _ _))
    clear hS2 HS1 k3 e0 e1 e2 x2 x3 x5 x6 k8 hX hA' HML HCC HA1 HD1 HZ v1
    by_cases h0:y1=0
    · have hres:=HRES.out
      rw [if_pos h0] at hres
      have HRS:=hide hres
      clear hres HRES
      have q1:decide (y1=0)=true:=by simp [h0]
      have q2:(y1 == 0)=true:=by simp [h0]
      have HH:=hide h0
      clear h0
      go_wp2_with fail
      go_quiet (fail)
      go_wp2_with fail
      refine (CD.out _ (by first | exact HS3.out | exact HS3.out.drew | exact HS3.out.drewN _) HH.out).mono ?_
      rintro e w5 ⟨⟨u,rfl⟩,t',hab,hS5⟩
      have HS5:=hide hS5
      clear hS5
      go_wp2_with fail
      go_end0
      exact ⟨⟨_,rfl⟩,t',hab.trans HRS.out,HS5.out⟩
    · have hres:=HRES.out
      rw [if_neg h0] at hres
      have HRS:=hide hres
      clear hres HRES
      have q1:decide (y1=0)=false:=by simp [h0]
      have q2:(y1 == 0)=false:=by simp [h0]
      clear h0
      go_wp2_with fail
      go_quiet (fail)
      go_wp2_with fail
      go_end0
      exact ⟨⟨_,rfl⟩,t1,HRS.out,by first | exact HS3.out | exact HS3.out.drew | exact HS3.out.drewN _⟩
end Go.Proofs.YtjphckfbbiehdaaGreat

namespace Go.Proofs.YtjphckfbbiehdaaGreat
open Go.RowKit
def CnT.go (t:CnT) (i:Nat) (A:Option Addr) (c:Nat):CnT:={ t with oj:=t.oj.dropC i,Ag:=A,cg:=c,gl:=t.gl ++ [(i:Int)] }
theorem CnT.go_a (t:CnT) (i:Nat) (A:Option Addr) (c:Nat):(t.go i A c).a=t.a.go1 i:=by
  unfold CnT.a CnT.go CnA.go1
  dsimp only
  rw [oj_dropC_abs]
set_option maxRecDepth 100000 in
set_option maxHeartbeats 16000000 in
theorem cdrop_of {n:Nat} (hD:CDown n):CDrop (n + 1):=by
  intro F W0 w Be Bm R t x P i p h inv hp hc0 hnum hlen hgl hP
  have hil:=(List.getElem?_eq_some_iff.1 hp).1
  obtain ⟨ad,hA,had,e0,e1,hob⟩:=oj_at (pre:=[x,_,_,_]) h hp
  obtain ⟨ga,hga⟩:=hown_addr (show w.ownsRow 0 84 1 (.slice t.oj.As t.oj.ps.length t.oj.c) t.oj.ps.length _ from h.get 4 rfl) (by omega)
  rw [hA] at hga
  obtain rfl:ad=⟨ga,0,none⟩:=by injection hga
  rw [hraddr0] at e0
  obtain ⟨k1,-,-,-,k5,k6,k7,k8⟩:=cn_cells (pre:=[x]) h
  have hgaI:(rowI 84 1 t.oj.As t.oj.ps.length t.oj.c (t.oj.ps.map ptrV)).fp ga:=by rw [hA]; rfl
  have n1:ga ≠ Be:=fun e => h.other (a:=4) (b:=1) rfl rfl (by omega) ga hgaI e
  have n2:Be ≠ ga:=fun e => n1 e.symm
  have hrowP:w.ownsRow 0 84 1 (.slice t.oj.As t.oj.ps.length t.oj.c) t.oj.ps.length (t.oj.ps.map ptrV):=h.get 4 rfl
  rw [hA] at hrowP
  have f1:w.frozen? ⟨ga,i,none⟩=false:=hrowP.frozenAt _
  clear hrowP
  have hpos:=someN_set (l:=t.oj.abs) (i:=i) (x:=p.o.fields) (by unfold Oj.abs; rw [List.getElem?_map,hp]; rfl)
  have hf:t.a.fld i=some p.o.fields:=CnA.fld_iff.2 (by show t.oj.abs[i]?=_; unfold Oj.abs; rw [List.getElem?_map,hp]; rfl)
  have hfl:=oj_len (pre:=[x,_,_,_]) h hp
  have h4:=inv.f4 i _ hf
  have hinv:=inv.go1 hf hc0
  have hgn:=go1_num hf
  have HINV:=hide (fun k => CnInv.downs (cdrop_ok n) (p.o.fields.take k) (P:=p.o.fields.drop k ++ P) (by rw [← List.append_assoc,List.take_append_drop]; exact hinv) (by omega))
  have hS1:=oj_take (pre:=[x,_,_,_]) h hp hA
  have hS2:=hS1.set_ 2 (g:=Be) (t:=80) rfl 4 (.int .i64 ((t.a.num:Int) - 1))
  have hS3:Sep F W0 ((w.setCell ⟨ga,i,none⟩ (.pointer none)).setCell ⟨Be,4,none⟩ (.int .i64 ((t.a.num:Int) - 1))) (obI p.o :: x :: blkI Be 80 (cnC Bm R ((t.a.num:Int) - 1) t) :: rowI 3 1 t.Ac t.cnt.length t.cc (ints t.cnt) :: rowI 3 1 t.Ag t.gl.length t.cg (ints t.gl) :: ojL (t.oj.dropC i)):=hS2
  have HFIN:=hide (fun (wq:World) (A7:Option Addr) (c7:Nat) (hq:Sep F W0 wq (obI p.o :: x :: blkI Be 80 ((cnC Bm R ((t.a.num:Int) - 1) t).setIfInBounds 5 (.slice A7 (t.gl.length + 1) c7)) :: rowI 3 1 t.Ac t.cnt.length t.cc (ints t.cnt) :: rowI 3 1 A7 (t.gl.length + 1) c7 (ints t.gl ++ [.int .i64 (i:Int)]) :: ojL (t.oj.dropC i))) =>
    (show Sep F W0 wq (obI p.o :: x :: cnR Be Bm R (t.go i A7 c7)) from by
      have e:cnR Be Bm R (t.go i A7 c7)=blkI Be 80 ((cnC Bm R ((t.a.num:Int) - 1) t).setIfInBounds 5 (.slice A7 (t.gl.length + 1) c7)) :: rowI 3 1 t.Ac t.cnt.length t.cc (ints t.cnt) :: rowI 3 1 A7 (t.gl.length + 1) c7 (ints t.gl ++ [.int .i64 (i:Int)]) :: ojL (t.oj.dropC i):=by
        unfold cnR
        rw [t.go_a]
        have e1:((t.a.go1 i).num:Int)=(t.a.num:Int) - 1:=by omega
        rw [e1]
        unfold cnRN cnC CnT.go Oj.v Oj.dropC
        dsimp only
        rw [List.length_append,List.length_singleton,List.length_set,show ints (t.gl ++ [(i:Int)])=ints t.gl ++ [.int .i64 i] from by simp [ints]]
        rfl
      rw [e]
      exact hq))
  have HGO:=hide (fun (A7:Option Addr) (c7:Nat) => t.go_a i A7 c7)
  have hres:cdropN (n + 1) t.a i=p.o.fields.foldl (downW (cdropN n)) (t.a.go1 i):=by
    show ((t.a.fld i).getD []).foldl _ _=_
    rw [hf]; rfl
  rw [hres]
  obtain ⟨N,hN⟩:∃ N,(t.a.num:Int)=N:=⟨_,rfl⟩
  have HB:=hide (show t.a.objs.length ≤ 600 ∧ t.a.gl.length + t.a.num ≤ 600 ∧ P.length + 4 * t.a.num ≤ 5000 ∧ (t.a.go1 i).num + 1=t.a.num ∧ (t.a.go1 i).objs.length=t.a.objs.length ∧ (t.a.go1 i).gl.length=t.a.gl.length + 1 ∧ t.a.num ≤ n + 1 from ⟨by rw [t.n]; exact hlen,hgl,hP,hgn,List.length_set ..,by show (t.a.gl ++ [_]).length=_; simp,hnum⟩)
  have hN0:1 ≤ N:=by omega
  have hN1:N ≤ 600:=by omega
  rw [hN] at k5 hS3 HFIN
  have t5:IntKind.i64.wrap (N - 1)=N - 1:=wrapC64 _ (by omega) (by omega)
  obtain ⟨a0,ha0⟩:∃ a0,t.a.go1 i=a0:=⟨_,rfl⟩
  simp only [ha0] at HINV HGO HB
  rw [ha0]
  obtain ⟨fs,hfs⟩:∃ fs,p.o.fields=fs:=⟨_,rfl⟩
  obtain ⟨m,hm⟩:∃ m,p.o.n=m:=⟨_,rfl⟩
  obtain ⟨A5,hA5⟩:∃ A,p.o.A=A:=⟨_,rfl⟩
  obtain ⟨c5,hc5⟩:∃ c,p.o.c=c:=⟨_,rfl⟩
  obtain ⟨B5,hB5⟩:∃ c,p.B=c:=⟨_,rfl⟩
  have hob5:obI p.o=rowI 63 2 A5 m c5 (vals fs):=by unfold obI; rw [hA5,hm,hc5,hfs]
  rw [hob5] at hS3 HFIN hob
  rw [hfs] at HINV hfl h4 ⊢
  rw [hm] at hfl e1
  rw [hA5,hc5] at e1
  rw [hB5] at e0 e1
  have k1':w.cell? ⟨Be,0,none⟩=some (.slice (some ⟨ga,0,none⟩) t.oj.ps.length t.oj.c):=by rw [← hA]; exact k1
  obtain ⟨nO,hnO⟩:∃ q,t.oj.ps.length=q:=⟨_,rfl⟩
  obtain ⟨cO,hcO⟩:∃ q,t.oj.c=q:=⟨_,rfl⟩
  obtain ⟨gn,hgn'⟩:∃ q,t.gl.length=q:=⟨_,rfl⟩
  rw [hnO,hcO] at k1'
  rw [hnO] at hil hlen
  rw [hgn'] at k6 hS3 HFIN hgl
  have hgn6:gn ≤ 600:=by omega
  have z1:decide ((i:Int) < 0)=false:=by simp
  have z2:decide ((nO:Int) ≤ (i:Int))=false:=by simp; omega
  have hm4:m ≤ 4:=by omega
  have HM:=hide hfl
  have HS3:=hide hS3
  have HD:Hid (CDown n):=by exact hide hD
  clear h inv hp hc0 hnum hgl hP hgaI hpos hf hinv hgn hS1 hS2 hS3 hres hN ha0 hfs hm hA5 hc5 hB5 hob5 k1 hnO hcO hgn' hA hga hfl h4 hD hob
  go_enter Tryz.func18,Tryz.ntmps18
  go_wp2_with (first
    | (at_builtin
       refine wpList_app1 (cs:=#[.int .i64 (i:Int)]) rfl (.tmp 34) (.tmp 36) 33 rfl (F:=F) (W:=W0) sInt (items:=_ :: _ :: _ :: _ :: _ :: _) HS3.out 4 (n:=gn) rfl rfl rfl (by simp) rfl rfl (by omega) ?_
       intro A7 c7 w7 hS7 hC7
       obtain ⟨k1,k2,k3,_⟩:=hS7.rules 2 (g:=Be) (t:=80) rfl))
  have hS8:=hS7.set_ 2 (g:=Be) (t:=80) rfl 5 (.slice A7 (gn + 1) c7)
  have HS9:=hide (HFIN.out _ A7 c7 hS8)
  have HA0:=hide (HGO.out A7 c7)
  obtain ⟨X,hX⟩:∃ X,w7.setCell ⟨Be,5,none⟩ (.slice A7 (gn + 1) c7)=X:=⟨_,rfl⟩
  rw [hX] at HS9 ⊢
  clear hX hS8 hS7 hC7 k1 k2 k3 HFIN HS3 HGO k5 k6 k7 k8 e0 e1 f1 k1' n1 n2 had t5 z1 z2
  go_loopw [42] (fun q wr => ∃ (k:Nat) (t':CnT),k ≤ m ∧ q=.int .i64 k ∧ Hid (t'.a=(fs.take k).foldl (downW (cdropN n)) a0) ∧ Sep F W0 wr (rowI 63 2 A5 m c5 (vals fs) :: x :: cnR Be Bm R t')) (fun q _ => m - (intOf q).toNat)
  case atStart => exact ⟨0,t.go i A7 c7,by omega,rfl,HA0.out,HS9.out⟩
  case round =>
    clear HS9 HA0
    obtain ⟨k,t',hk,rfl,HI,hS⟩:=hrel
    by_cases hlt:k < m
    · have hkl:k < fs.length:=by rw [HM.out]; exact hlt
      obtain ⟨g5,hA⟩:=hown_addr (show wr.ownsRow 0 63 2 (.slice A5 m c5) m (vals fs) from hS.get 0 rfl) (by omega)
      have hob2:(rowI 63 2 (some ⟨g5,0,none⟩) m c5 (vals fs)).P wr:=by rw [← hA]; exact hS.get 0 rfl
      obtain ⟨r0,r1,r2,r3⟩:=hrow_val hob2 k hlt hkl
      obtain ⟨h1,h2⟩:=HINV.out k
      rw [List.drop_eq_getElem_cons hkl,List.cons_append,← HI.out] at h1
      rw [← HI.out] at h2
      have hb:=HB.out
      have hd:=List.length_drop (i:=k + 1) (l:=fs)
      have hnx:(fs.take (k + 1)).foldl (downW (cdropN n)) a0=downW (cdropN n) t'.a fs[k]:=by rw [List.take_succ_eq_append_getElem hkl,List.foldl_append,← HI.out]; rfl
      have HNX:=hide hnx
      have C:=hide (fun (wq:World) (hq:Sep F W0 wq (rowI 63 2 A5 m c5 (vals fs) :: x :: cnR Be Bm R t')) => HD.out (x:=allI [rowI 63 2 A5 m c5 (vals fs),x]) (v:=fs[k]) (P:=fs.drop (k + 1) ++ P) (Sep.join (l:=[_,x]) hq) h1 (by have:=h2.m; omega) (by rw [← t'.n,h2.n]; omega) (by have:=h2.l; show t'.a.gl.length + _ ≤ _; omega) (by
        have h3:=HM.out
        have h4:=h2.m
        rw [List.length_append,hd]
        omega))
      obtain ⟨v,hv⟩:∃ v,fs[k]=v:=⟨_,rfl⟩
      rw [hv] at r0 r1 C HNX
      obtain ⟨bv,mv⟩:=v
      dsimp only at r0 r1 C HNX
      have HS:=hide hS
      subst hA
      clear h1 h2 hb hd hnx hS hob2 hv HI
      go_wp2_with fail
      refine (C.out _ (by first | exact HS.out.alloc _ | exact (HS.out.alloc _).drew)).mono ?_
      rintro e w5 ⟨⟨u,rfl⟩,t2,hab,hS5⟩
      have hS6:Sep F W0 w5 (rowI 63 2 (some ⟨g5,0,none⟩) m c5 (vals fs) :: x :: cnR Be Bm R t2):=Sep.split (l:=[_,x]) hS5
      have HS6:=hide hS6
      have HAB:=hide hab
      clear hS5 hS6 hab C HS
      go_wp2_with fail
      go_roundw
      case rel => exact ⟨k + 1,t2,by omega,by go_num,by rw [HNX.out]; exact HAB.out,HS6.out⟩
      case measure => simp [intOf]; omega
    · obtain rfl:k=m:=by omega
      have HS:=hide hS
      clear hS
      go_wp2_with fail
      go_end0
      refine ⟨⟨_,rfl⟩,t',?_,HS.out.sub (List.sublist_cons_self _ _)⟩
      rw [HI.out,← HM.out,List.take_length]
theorem cdrop_any:∀ n,CDrop n:=by
  intro n
  induction n with
  | zero =>
    intro F W0 w Be Bm R t x P i p h inv hp hc0 hnum
    have hf:t.a.fld i=some p.o.fields:=CnA.fld_iff.2 (by show t.oj.abs[i]?=_; unfold Oj.abs; rw [List.getElem?_map,hp]; rfl)
    have:=go1_num hf
    omega
  | succ n ih => exact cdrop_of (cdown_of ih)
theorem cdown_any (n:Nat):CDown n:=cdown_of (cdrop_any n)
end Go.Proofs.YtjphckfbbiehdaaGreat

namespace Go.Proofs.YtjphckfbbiehdaaGreat
open Go.RowKit
def cnM (Be Bm:Nat) (t:CnT):Item:=blkI Bm 70 (mcCells t.regs (.iface 77 (.pointer (some ⟨Be,0,none⟩))))
theorem cnR_cn (Be Bm:Nat) (R:Int) (t:CnT) (v:Val):cnRN Be Bm R (t.a.num:Int) (t.cn (t.a.up v).cnt)=cnR Be Bm R (t.cn (t.a.up v).cnt):=by unfold cnR; rw [t.cn_a,up_num]
theorem cn_bound {t:CnT} {P:List Val} (inv:CnInv t.a P) (hP:P.length ≤ 10000) (hn:t.oj.ps.length ≤ 600) (j:Nat):0 ≤ t.cnt.getD j 0 ∧ t.cnt.getD j 0 ≤ 100000:=by
  have h1:=inv.bound j
  rw [t.n] at h1
  have h3:t.a.cnt=t.cnt:=rfl
  rw [h3] at h1
  exact ⟨h1.1,by omega⟩
theorem cn_vin {t:CnT} {P:List Val} (inv:CnInv t.a P) {v:Val} (hv:t.a.vok v):v.1=true → ∃ z:Nat,v.2=(z:Int) ∧ z < t.cnt.length:=fun hb => by
  obtain ⟨z,fs,e,hf⟩:=hv hb
  exact ⟨z,e,by have:=CnA.fld_lt hf; have:=inv.cl; have h3:t.a.cnt=t.cnt:=rfl; rw [h3] at this; omega⟩
set_option maxRecDepth 100000 in
set_option maxHeartbeats 8000000 in
theorem cthold_any {F:Nat → Prop} {W0 w:World} {Be Bm:Nat} {R:Int} {t:CnT} (h:Sep F W0 w (cnM Be Bm t :: cnR Be Bm R t)) (ok:CnOk t.a) (hn:t.oj.ps.length ≤ 600) {r:Nat} (hr:r < 8) (v:Val) (hv:t.a.vok v) :
    Calls Tryz.prog 108 #[.pointer (some ⟨Be,0,none⟩),.int .i64 (r:Int),.agg #[.bool v.1,.int .i64 v.2]] w fun e w' => (∃ u,e=.returned u) ∧ ∃ t':CnT,t'.a=t.a.hold r v ∧ Sep F W0 w' (cnM Be Bm t' :: cnR Be Bm R t'):=by
  obtain ⟨g,hg⟩:∃ g,w.heap.size=g:=⟨_,rfl⟩
  have h8:t.regs.length=8:=ok.r8
  have hrl:r < t.regs.length:=by omega
  obtain ⟨m1,m2⟩:=mc_reg (f:=.iface 77 (.pointer (some ⟨Be,0,none⟩))) hrl
  have hat:=rgA_at hrl
  rw [List.getElem?_eq_getElem hrl] at hat
  have hold:t.regs[r]=rgA t.regs (r:Int):=Option.some.inj hat
  rw [hold] at m1 m2
  have hS0:=h.blkAtF 63 #[.bool v.1,.int .i64 v.2] hg
  obtain ⟨W,hW⟩:∃ W,w.alloc (.cells #[.bool v.1,.int .i64 v.2] 63)=W:=⟨_,rfl⟩
  have hWs:W.heap.size=g + 1:=by rw [← hW,← hg]; simp
  rw [hW] at hS0
  obtain ⟨c1,c2,c3,_⟩:=hS0.rules 1 (g:=Bm) (t:=70) rfl
  have d1:=(c1 _).trans m1
  have d2:=(c1 _).trans m2
  obtain ⟨-,k2,-,-,-,-,-,k8⟩:=cn_cells (pre:=[_,_]) hS0
  obtain ⟨old,ho⟩:∃ o,rgA t.regs (r:Int)=o:=⟨_,rfl⟩
  rw [ho] at d1 d2
  have hS1:=hS0.blkAtF 63 #[.bool old.1,.int .i64 old.2] hWs
  obtain ⟨X,hX⟩:∃ X,W.alloc (.cells #[.bool old.1,.int .i64 old.2] 63)=X:=⟨_,rfl⟩
  rw [hX] at hS1
  have hinv:=(ok.inv.up hv).swap (r:=r) (u:=old) (by rw [← ho]; exact rgA_at hrl)
  have hnum:t.a.num ≤ t.a.objs.length:=someN_le _
  have hgb:=ok.gb
  have hon:=t.n
  have HU:=hide (show Calls Tryz.prog 17 #[.pointer (some ⟨Be,0,none⟩),.agg #[.bool v.1,.int .i64 v.2]] X fun e w' => (∃ u,e=.returned u) ∧ Sep F W0 w' (allI [blkI (g + 1) 63 #[.bool old.1,.int .i64 old.2],blkI g 63 #[.bool v.1,.int .i64 v.2],cnM Be Bm t] :: cnR Be Bm R (t.cn (t.a.up v).cnt)) from by
    rw [← cnR_cn]
    exact cup_any (Sep.join (l:=[_,_,_]) hS1) (by have:=ok.inv.cl; rw [hon] at this; have h3:t.a.cnt=t.cnt:=rfl; rw [h3] at this; omega) v (cn_vin ok.inv hv) (cn_bound ok.inv (by have:=ok.r8; omega) hn))
  have HD:=hide (fun (wq:World) (x:Item) (hq:Sep F W0 wq (x :: cnR Be Bm R (t.cn (t.a.up v).cnt))) => cdown_any (t.a.up v).objs.length (v:=old) (P:=t.a.regs.set r v) hq (by rw [t.cn_a]; exact hinv) (by rw [t.cn_a]; exact someN_le _) hn (by rw [t.cn_a,up_num]; show t.a.gl.length + _ ≤ _; omega) (by rw [t.cn_a,up_num,List.length_set]; have:=ok.r8; omega))
  have HA:=hide (show ∀ t':CnT,t'.a=downW (cdropN (t.a.up v).objs.length) (t.cn (t.a.up v).cnt).a old → t'.a=t.a.hold r v ∧ t'.regs=t.regs from fun t' e => by
    rw [t.cn_a,← ho] at e
    refine ⟨e,?_⟩
    have e2:t'.a.regs=t.a.regs:=by rw [e]; exact (down_regs (t.a.up v) _).trans (up_regs _ _)
    exact e2)
  obtain ⟨bv,mv⟩:=v
  obtain ⟨ov,om⟩:=old
  dsimp only at hS0 hS1 d1 d2 HU HD HA hW hX ⊢
  have hr5:(0:Int) ≤ (r:Int):=by omega
  have hr6:(r:Int) < 8:=by omega
  have hr7:decide ((r:Int) < 0)=false:=by simp
  have hr8:decide ((8:Int) ≤ (r:Int))=false:=by simp; omega
  obtain ⟨x1,x2,x3,_⟩:=hS0.rules 0 (g:=g) (t:=63) rfl
  have x5:=(x1 0).trans (show _=some (.bool bv) from rfl)
  have x6:=(x1 1).trans (show _=some (.int .i64 mv) from rfl)
  obtain ⟨y1,y2,y3,_⟩:=hS1.rules 1 (g:=g) (t:=63) rfl
  have y5:=(y1 0).trans (show _=some (.bool bv) from rfl)
  have y6:=(y1 1).trans (show _=some (.int .i64 mv) from rfl)
  clear h hv hinv hnum hgb hon ok hS0 hS1 m1 m2 c1 hat hold ho x1 y1 h8 hrl
  go_enter Tryz.func108,Tryz.ntmps108
  go_wp2_with fail
  refine HU.out.mono ?_
  rintro e w1 ⟨⟨u,rfl⟩,hS2⟩
  have hS3:Sep F W0 w1 (blkI (g + 1) 63 #[.bool ov,.int .i64 om] :: blkI g 63 #[.bool bv,.int .i64 mv] :: cnM Be Bm t :: cnR Be Bm R (t.cn (t.a.up (bv,mv)).cnt)):=Sep.split (l:=[_,_,_]) hS2
  obtain ⟨z1,z2,z3,_⟩:=hS3.rules 0 (g:=g + 1) (t:=63) rfl
  have z5:=(z1 0).trans (show _=some (.bool ov) from rfl)
  have z6:=(z1 1).trans (show _=some (.int .i64 om) from rfl)
  have HS3:=hide (show Sep F W0 w1 (cnM Be Bm t :: cnR Be Bm R (t.cn (t.a.up (bv,mv)).cnt)) from hS3.sub (.cons _ (.cons _ (List.Sublist.refl _))))
  clear hS2 hS3 HU y2 y3 y5 y6 x2 x3 x5 x6 d1 d2 z1 k2 k8
  go_wp2_with fail
  refine (HD.out _ _ HS3.out).mono ?_
  rintro e w2 ⟨⟨u2,rfl⟩,t',hab,hS4⟩
  obtain ⟨e1,e2⟩:=HA.out t' hab
  have HFIN:=hide (show t'.a=t.a.hold r (bv,mv) ∧ Sep F W0 w2 (cnM Be Bm t' :: cnR Be Bm R t') from ⟨e1,by unfold cnM at hS4 ⊢; rw [e2]; exact hS4⟩)
  clear hS4 hab e1 e2 HS3 HD HA
  go_wp2_with fail
  go_end0
  exact ⟨⟨_,rfl⟩,t',HFIN.out⟩
end Go.Proofs.YtjphckfbbiehdaaGreat

namespace Go.Proofs.YtjphckfbbiehdaaGreat
open Go.RowKit
theorem cn_gather {F:Nat → Prop} {W w:World} {x b c g:Item} {L:List Item} (h:Sep F W w (x :: b :: c :: g :: L)):Sep F W w [allI (b :: L),x,c,g] :=
  Sep.join (l:=b :: L) (h.perm ((List.Perm.swap b x _).trans (List.Perm.cons b (List.perm_append_comm (l₁:=[x,c,g]) (l₂:=L)))).symm.symm)
theorem cn_ungather {F:Nat → Prop} {W w:World} {x b c g:Item} {L:List Item} (h:Sep F W w [allI (b :: L),x,c,g]):Sep F W w (x :: b :: c :: g :: L) :=
  (Sep.split (l:=b :: L) h).perm ((List.Perm.swap b x _).trans (List.Perm.cons b (List.perm_append_comm (l₁:=[x,c,g]) (l₂:=L)))).symm
set_option maxRecDepth 100000 in
set_option maxHeartbeats 8000000 in
theorem ctnew_any {F:Nat → Prop} {W0 w:World} {Be Bm:Nat} {R:Int} {t:CnT} {x:Item} (h:Sep F W0 w (x :: cnR Be Bm R t)) (hl:t.cnt.length=t.oj.ps.length) (hn:t.oj.ps.length ≤ 600) {n:Nat} (h4:n ≤ 4) :
    Calls Tryz.prog 109 #[.pointer (some ⟨Be,0,none⟩),.int .i64 (n:Int)] w fun e w' => e=.returned (.tuple #[.int .i64 (cnNew R t.a n).2.1,.int .i64 (cnNew R t.a n).2.2]) ∧ ∃ t':CnT,t'.a=(cnNew R t.a n).1 ∧ t'.regs=t.regs ∧ Sep F W0 w' (x :: cnR Be Bm R t'):=by
  obtain ⟨k1,-,k3,k4,k5,-,k7,k8⟩:=cn_cells (pre:=[x]) h
  have hnum:t.a.num ≤ t.oj.ps.length:=by rw [← t.n]; exact someN_le _
  unfold cnNew
  by_cases hR:R ≤ (t.a.num:Int)
  · rw [if_pos hR]
    obtain ⟨N,hN⟩:∃ N,(t.a.num:Int)=N:=⟨_,rfl⟩
    rw [hN] at k5 hR
    have t1:decide (R ≤ N)=true:=by simp [hR]
    have HS:=hide h
    clear h hN hnum hl k1 k3 k7 hR
    go_enter Tryz.func109,Tryz.ntmps109
    go_wp2_with fail
    go_quiet (fail)
    go_wp2_with fail
    refine bodyPost_ret (v:=.tuple #[.int .i64 0,.int .i64 6]) (by simp [results,Tryz.results109,go_sem]) rfl ⟨rfl,t,rfl,rfl,by first | exact HS.out | exact HS.out.drew | exact HS.out.drewN _⟩
  · rw [if_neg hR]
    have hpn:(t.a.push n).num=t.a.num + 1:=someN_app _ _
    have hS1:Sep F W0 (w.setCell ⟨Be,4,none⟩ (.int .i64 ((t.a.num:Int) + 1))) (x :: blkI Be 80 (cnC Bm R ((t.a.num:Int) + 1) t) :: rowI 3 1 t.Ac t.cnt.length t.cc (ints t.cnt) :: rowI 3 1 t.Ag t.gl.length t.cg (ints t.gl) :: ojL t.oj):=h.set_ 1 (g:=Be) (t:=80) rfl 4 (.int .i64 ((t.a.num:Int) + 1))
    have HFIN:=hide (fun (wq:World) (A7 As:Option Addr) (c7 cA B gB:Nat) (hq:Sep F W0 wq (x :: blkI Be 80 (((cnC Bm R ((t.a.num:Int) + 1) t).setIfInBounds 2 (.slice A7 (t.cnt.length + 1) c7)).setIfInBounds 0 (t.oj.new As cA B gB n).v) :: rowI 3 1 A7 (t.cnt.length + 1) c7 (ints t.cnt ++ [.int .i64 0]) :: rowI 3 1 t.Ag t.gl.length t.cg (ints t.gl) :: ojL (t.oj.new As cA B gB n))) =>
      (show ∃ t':CnT,t'.a=t.a.push n ∧ t'.regs=t.regs ∧ Sep F W0 wq (x :: cnR Be Bm R t') from by
        have ea:(⟨t.regs,t.oj.new As cA B gB n,A7,c7,t.cnt ++ [0],t.Ag,t.cg,t.gl⟩:CnT).a=t.a.push n:=by
          unfold CnT.a CnA.push
          dsimp only
          rw [Oj.abs_new]
        refine ⟨⟨t.regs,t.oj.new As cA B gB n,A7,c7,t.cnt ++ [0],t.Ag,t.cg,t.gl⟩,ea,rfl,?_⟩
        unfold cnR
        rw [ea,hpn]
        unfold cnRN cnC
        dsimp only
        rw [List.length_append,List.length_singleton,show ints (t.cnt ++ [0])=ints t.cnt ++ [.int .i64 0] from by simp [ints]]
        exact hq))
    obtain ⟨N,hN⟩:∃ N,(t.a.num:Int)=N:=⟨_,rfl⟩
    rw [hN] at k5 hR hS1 HFIN
    have t1:decide (R ≤ N)=false:=by simp only [hR,decide_false]
    have t5:IntKind.i64.wrap (N + 1)=N + 1:=wrapC64 _ (by omega) (by omega)
    obtain ⟨m,hm⟩:∃ m,t.cnt.length=m:=⟨_,rfl⟩
    rw [hm] at k3 hS1 HFIN hl
    have hm6:m ≤ 600:=by omega
    have HS1:=hide hS1
    have HN:=hide hn
    have HON:=hide t.n
    obtain ⟨b1,b2,b3,_⟩:=hS1.rules 1 (g:=Be) (t:=80) rfl
    clear h hN hnum hl hR hm hS1 hpn k1 b1 b2 b3 hn
    go_enter Tryz.func109,Tryz.ntmps109
    go_wp2_with fail
    go_quiet (fail)
    go_wp2_with (first
      | (at_builtin
         refine wpList_app1 (cs:=#[.int .i64 0]) rfl (.tmp 26) (.tmp 27) 33 rfl (F:=F) (W:=W0) sInt (items:=_ :: _ :: _ :: _ :: _) (by first | exact HS1.out | exact HS1.out.drew | exact HS1.out.drewN _) 2 (n:=m) rfl rfl rfl (by simp) rfl rfl (by omega) ?_
         intro A7 c7 w7 hS7 hC7
         obtain ⟨j1,j2,j3,_⟩:=hS7.rules 1 (g:=Be) (t:=80) rfl))
    have hS8:=cn_gather (hS7.set_ 1 (g:=Be) (t:=80) rfl 2 (.slice A7 (m + 1) c7))
    have CN:=onew_any ((Sep.start (hS8.get 0 rfl)).flat) (s:=t.oj) rfl (by have:=HN.out; omega) h4
    refine CN.mono ?_
    rintro e w9 ⟨rfl,As,cA,B,gB,hP9⟩
    have hS9:=cn_ungather (hS8.call 0 rfl hP9.fold)
    have HF9:=hide (HFIN.out w9 A7 As c7 cA B gB hS9)
    clear hS9 hP9 hS8 hS7 hC7 j1 j2 j3 CN HFIN HS1
    go_wp2_with fail
    refine bodyPost_ret (v:=.tuple #[.int .i64 t.oj.ps.length,.int .i64 0]) (by simp [results,Tryz.results109,go_sem]) rfl ⟨by rw [HON.out],HF9.out⟩
end Go.Proofs.YtjphckfbbiehdaaGreat
