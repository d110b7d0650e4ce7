/- Part of a proof. -/
import Derived.Test.YtjphckfbbiehdaaGreatSTopAll10
import Derived.Test.YtjphckfbbiehdaaGreatSTopAll4
set_option linter.unusedSimpArgs false
set_option linter.unusedVariables false
namespace Go.Proofs.YtjphckfbbiehdaaGreat
open Go.RowKit
def barD (cols:List Int) (_o:Nat) (_old v:Val):List Int:=shadeC cols v
def barS (cols:List Int) (o:Nat) (_old v:Val):List Int:=if cols.getD o 0=2 ∧ whiteB cols v=true then cols.set o 1 else cols
def barY (cols:List Int) (_o:Nat) (old _v:Val):List Int:=shadeC cols old
structure BarK where
  T:Nat
  fB:Nat
  f:List Int → Nat → Val → Val → List Int
abbrev BarK.r:Value:=.agg #[]
def BarK.bv (b:BarK):Value:=.iface b.T BarK.r
def vin (n:Nat) (v:Val):Prop:=v.1=true → ∃ z:Nat,v.2=(z:Int) ∧ z < n
structure BarK.Ok (b:BarK):Prop where
  len:∀ cols o old v,(b.f cols o old v).length=cols.length
  m:∀ w,(method 303 b.T BarK.r "ragpicker/tri.field").run Tryz.prog w=.ok (b.fB,BarK.r) w
  e:∀ (args:Array Value) (w:World),(callFunc b.fB args).run Tryz.prog w=.ok (.enter b.fB args) w
  c:∀ (Be:Nat) (bv:Value) (s:CoS) (w:World) (o:Nat) (old v:Val),(coI Be bv s).P w → s.cols.length ≤ 1000 → o < s.cols.length → vin s.cols.length old → vin s.cols.length v →
    Calls Tryz.prog b.fB #[BarK.r,.pointer (some ⟨Be,0,none⟩),.int .i64 o,.agg #[.bool old.1,.int .i64 old.2],.agg #[.bool v.1,.int .i64 v.2]] w fun e w' => (∃ u,e=.returned u) ∧ Sep (coI Be bv s).fp w w' [coI Be bv (s.col (b.f s.cols o old v))]
theorem kenter_ofB {c:FuncId} {fn:Func} (hf:Tryz.prog.funcs[c]?=some fn) (hn:(fn.name == "runtime.NumGoroutine")=false) (hb:fn.body.isNone=false) (args:Array Value) (w:World):(callFunc c args).run Tryz.prog w=.ok (.enter c args) w:=by
  unfold callFunc
  simp [go_sem,hf]
  rw [if_neg (by simpa using hn),if_neg (by intro h; rw [h] at hb; cases hb)]
set_option maxRecDepth 100000 in
set_option maxHeartbeats 4000000 in
theorem fieldD_any (Be:Nat) (bv:Value) (s:CoS) (w:World) (o:Nat) (old v:Val) (hP:(coI Be bv s).P w) (hn:s.cols.length ≤ 1000) (hv:vin s.cols.length v) :
    Calls Tryz.prog 121 #[BarK.r,.pointer (some ⟨Be,0,none⟩),.int .i64 o,.agg #[.bool old.1,.int .i64 old.2],.agg #[.bool v.1,.int .i64 v.2]] w fun e w' => (∃ u,e=.returned u) ∧ Sep (coI Be bv s).fp w w' [coI Be bv (s.col (shadeC s.cols v))]:=by
  obtain ⟨F,hF⟩:∃ F,(coI Be bv s).fp=F:=⟨_,rfl⟩
  have hS0:=Sep.start hP
  rw [hF] at hS0 ⊢
  have C:=hide (fun (X:World) (h:Sep F w X [coI Be bv s]) => shade_any (h.get 0 rfl) hn v hv)
  have HS0:=hide hS0
  obtain ⟨bv1,m1⟩:=old
  obtain ⟨bv2,m2⟩:=v
  dsimp only at C ⊢
  clear hS0 hP hv hF
  go_enter Tryz.func121,Tryz.ntmps121
  go_wp2_with fail
  have hS1:=((HS0.out.alloc (.cells #[] 132)).alloc (.cells #[.bool bv1,.int .i64 m1] 63)).alloc (.cells #[.bool bv2,.int .i64 m2] 63)
  refine (C.out _ hS1).mono ?_
  rintro e w1 ⟨⟨u,rfl⟩,hP1⟩
  have HS2:=hide (hS1.call 0 rfl hP1)
  clear hS1 hP1 HS0 C
  go_wp2_with fail
  go_end0
  exact ⟨⟨_,rfl⟩,HS2.out⟩
set_option maxRecDepth 100000 in
set_option maxHeartbeats 4000000 in
theorem fieldY_any (Be:Nat) (bv:Value) (s:CoS) (w:World) (o:Nat) (old v:Val) (hP:(coI Be bv s).P w) (hn:s.cols.length ≤ 1000) (hv:vin s.cols.length old) :
    Calls Tryz.prog 123 #[BarK.r,.pointer (some ⟨Be,0,none⟩),.int .i64 o,.agg #[.bool old.1,.int .i64 old.2],.agg #[.bool v.1,.int .i64 v.2]] w fun e w' => (∃ u,e=.returned u) ∧ Sep (coI Be bv s).fp w w' [coI Be bv (s.col (shadeC s.cols old))]:=by
  obtain ⟨F,hF⟩:∃ F,(coI Be bv s).fp=F:=⟨_,rfl⟩
  have hS0:=Sep.start hP
  rw [hF] at hS0 ⊢
  have C:=hide (fun (X:World) (h:Sep F w X [coI Be bv s]) => shade_any (h.get 0 rfl) hn old hv)
  have HS0:=hide hS0
  obtain ⟨bv1,m1⟩:=old
  obtain ⟨bv2,m2⟩:=v
  dsimp only at C ⊢
  clear hS0 hP hv hF
  go_enter Tryz.func123,Tryz.ntmps123
  go_wp2_with fail
  have hS1:=((HS0.out.alloc (.cells #[] 134)).alloc (.cells #[.bool bv1,.int .i64 m1] 63)).alloc (.cells #[.bool bv2,.int .i64 m2] 63)
  refine (C.out _ hS1).mono ?_
  rintro e w1 ⟨⟨u,rfl⟩,hP1⟩
  have HS2:=hide (hS1.call 0 rfl hP1)
  clear hS1 hP1 HS0 C
  go_wp2_with fail
  go_end0
  exact ⟨⟨_,rfl⟩,HS2.out⟩
theorem co_store {F:Nat → Prop} {W w:World} {Be:Nat} {bv:Value} {s:CoS} (h:Sep F W w [coI Be bv s]) {z gc:Nat} (hA:s.Ac=some ⟨gc,0,none⟩) (y:Int):Sep F W (w.setCell ⟨gc,z,none⟩ (.int .i64 y)) [coI Be bv (s.col (s.cols.set z y))]:=by
  have hS1:Sep F W w (coR Be bv s):=h.flat
  have he:rowI 3 1 s.Ac s.cols.length s.cc (ints s.cols)=rowI 3 1 (some ⟨gc,0,none⟩) s.cols.length s.cc (ints s.cols):=by rw [hA]
  have hS2:Sep F W w (blkI Be 95 (coC bv s) :: rowI 3 1 (some ⟨gc,0,none⟩) s.cols.length s.cc (ints s.cols) :: rowI 3 1 s.Ag s.gone.length s.cg (ints s.gone) :: ojL s.oj):=by rw [← he]; exact hS1
  have hS3:=hS2.store 1 (g:=gc) rfl z (.int .i64 y)
  rw [ints_setC] at hS3
  have h4:Sep F W (w.setCell ⟨gc,z,none⟩ (.int .i64 y)) (coR Be bv (s.col (s.cols.set z y))):=by
    unfold coR coC CoS.col
    dsimp only
    rw [List.length_set,hA]
    simp only [List.set_cons_succ,List.set_cons_zero] at hS3
    unfold coC Oj.v at hS3
    rw [hA] at hS3
    exact hS3
  exact h4.fold
theorem co_cell {Be:Nat} {bv:Value} {s:CoS} {w:World} (hP:(coI Be bv s).P w) {z:Nat} (hz:z < s.cols.length):∃ gc,s.Ac=some ⟨gc,0,none⟩ ∧ w.cell? ⟨Be,2,none⟩=some (.slice (some ⟨gc,0,none⟩) s.cols.length s.cc) ∧ w.cell? ⟨gc,z,none⟩=some (.int .i64 (s.cols.getD z 0)) ∧ w.frozen? ⟨gc,z,none⟩=false ∧ gc < w.heap.size ∧ Be < w.heap.size ∧ Be ≠ gc:=by
  have hS:=(Sep.start hP).flat
  obtain ⟨gc,hA,hzl,e0,e1,e2⟩:=int_at (show (rowI 3 1 s.Ac s.cols.length s.cc (ints s.cols)).P w from hS.get 1 rfl) hz
  obtain ⟨b1,b2,b3,_⟩:=hS.rules 0 (g:=Be) (t:=95) rfl
  have b5:=(b1 2).trans (show _=some (.slice s.Ac s.cols.length s.cc) from rfl)
  rw [hA] at b5
  exact ⟨gc,hA,b5,e0,e1,e2,b3,fun e => hS.other (a:=0) (b:=1) rfl rfl (by omega) Be rfl (by show (Value.slice s.Ac s.cols.length s.cc).ownBlock=some Be; rw [hA,e]; rfl)⟩
set_option maxRecDepth 100000 in
set_option maxHeartbeats 4000000 in
theorem fieldS_any (Be:Nat) (bv:Value) (s:CoS) (w:World) (o:Nat) (old v:Val) (hP:(coI Be bv s).P w) (hn:s.cols.length ≤ 1000) (ho:o < s.cols.length) (hv:vin s.cols.length v) :
    Calls Tryz.prog 122 #[BarK.r,.pointer (some ⟨Be,0,none⟩),.int .i64 o,.agg #[.bool old.1,.int .i64 old.2],.agg #[.bool v.1,.int .i64 v.2]] w fun e w' => (∃ u,e=.returned u) ∧ Sep (coI Be bv s).fp w w' [coI Be bv (s.col (barS s.cols o old v))]:=by
  obtain ⟨F,hF⟩:∃ F,(coI Be bv s).fp=F:=⟨_,rfl⟩
  have hS0:=((Sep.start hP).alloc (.cells #[] 133)).alloc (.cells #[.bool old.1,.int .i64 old.2] 63)
  rw [hF] at hS0 ⊢
  obtain ⟨g,hg⟩:∃ g,((w.alloc (.cells #[] 133)).alloc (.cells #[.bool old.1,.int .i64 old.2] 63)).heap.size=g:=⟨_,rfl⟩
  have hS1:=hS0.blkAt 63 #[.bool v.1,.int .i64 v.2] hg
  have hg2:w.heap.size + 1 + 1=g:=by rw [← hg]; simp
  obtain ⟨W,hW⟩:∃ W,((w.alloc (.cells #[] 133)).alloc (.cells #[.bool old.1,.int .i64 old.2] 63)).alloc (.cells #[.bool v.1,.int .i64 v.2] 63)=W:=⟨_,rfl⟩
  rw [hW] at hS1
  obtain ⟨gc,hA,c0,c1,c2,c3,c4,n1⟩:=co_cell (hS1.get 0 rfl) ho
  obtain ⟨x1,x2,x3,_⟩:=hS1.rules 1 (g:=g) (t:=63) rfl
  have x5:=(x1 0).trans (show _=some (.bool v.1) from rfl)
  have x6:=(x1 1).trans (show _=some (.int .i64 v.2) from rfl)
  have CW:=hide (white_any (hS1.get 0 rfl) hn v hv)
  have HS1:=hide hS1
  have t1:decide ((o:Int) < 0)=false:=by simp
  have t2:decide ((s.cols.length:Int) ≤ (o:Int))=false:=by simp; omega
  have t3:(0:Int) ≤ (o:Int):=by omega
  have t4:(o:Int) < (s.cols.length:Int):=by omega
  unfold barS
  obtain ⟨b,hb⟩:∃ b,whiteB s.cols v=b:=⟨_,rfl⟩
  rw [hb] at CW ⊢
  obtain ⟨y,hy⟩:∃ y,s.cols.getD o 0=y:=⟨_,rfl⟩
  rw [hy] at c1 ⊢
  obtain ⟨m,hm⟩:∃ m,s.cols.length=m:=⟨_,rfl⟩
  have HM:=hide hm
  have HA:=hide hA
  rw [hm] at c0 hn ho t2 t4
  obtain ⟨bv1,m1⟩:=old
  obtain ⟨bv2,m2⟩:=v
  dsimp only at CW hW HS1 x5 x6 ⊢
  clear hS0 hS1 hP hv hF hg x1 hb hm hy hA
  by_cases hy2:y=2
  · subst hy2
    cases b with
    | false =>
      rw [if_neg (by simp)]
      go_enter Tryz.func122,Tryz.ntmps122
      go_wp2_with fail
      refine CW.out.mono ?_
      rintro e w1 ⟨rfl,hb1⟩
      have HS2:=hide ((HS1.out.below hb1).sub (List.sublist_append_left [_] [_]))
      clear hb1 HS1 CW c0 c1 c2 c3 c4 x2 x3 x5 x6
      go_wp2_with fail
      go_end0
      exact ⟨⟨_,rfl⟩,HS2.out⟩
    | true =>
      rw [if_pos ⟨rfl,rfl⟩]
      go_enter Tryz.func122,Tryz.ntmps122
      go_wp2_with fail
      refine CW.out.mono ?_
      rintro e w1 ⟨rfl,hb1⟩
      have hS2:=(HS1.out.below hb1).sub (List.sublist_append_left [_] [_])
      obtain ⟨gc2,hA2,c0',c1',c2',c3',c4',_⟩:=co_cell (hS2.get 0 rfl) (show o < s.cols.length by rw [HM.out]; exact ho)
      obtain rfl:gc2=gc:=by have h:=HA.out; rw [h] at hA2; injection hA2 with h2; injection h2 with h3; exact h3.symm
      rw [HM.out] at c0'
      have HS3:=hide (co_store hS2 HA.out (z:=o) 1)
      clear hb1 HS1 CW c0 c1 c2 c3 c4 x2 x3 x5 x6 hS2 hA2
      go_wp2_with fail
      go_end0
      exact ⟨⟨_,rfl⟩,HS3.out⟩
  · have y1:(y == 2)=false:=by simp [hy2]
    rw [if_neg (fun h => hy2 h.1)]
    have HS2:=hide (HS1.out.sub (List.sublist_append_left [_] [_]))
    clear hy2
    go_enter Tryz.func122,Tryz.ntmps122
    go_wp2_with fail
    go_end0
    exact ⟨⟨_,rfl⟩,HS2.out⟩
def barOf (k:Nat):BarK:=if k=1 then ⟨132,121,barD⟩ else if k=2 then ⟨133,122,barS⟩ else ⟨134,123,barY⟩
theorem barOf_ok (k:Nat):(barOf k).Ok:=by
  unfold barOf
  split
  · exact ⟨fun _ _ _ _ => shadeC_len _ _,fun w => by kernel_rfl,kenter_ofB Tryz.func121 (by kernel_rfl) rfl,fun Be bv s w o old v hP hn _ _ hv => fieldD_any Be bv s w o old v hP hn hv⟩
  · split
    · exact ⟨fun cols o old v => by unfold barS; dsimp only; split <;> simp,fun w => by kernel_rfl,kenter_ofB Tryz.func122 (by kernel_rfl) rfl,fun Be bv s w o old v hP hn ho _ hv => fieldS_any Be bv s w o old v hP hn ho hv⟩
    · exact ⟨fun _ _ _ _ => shadeC_len _ _,fun w => by kernel_rfl,kenter_ofB Tryz.func123 (by kernel_rfl) rfl,fun Be bv s w o old v hP hn _ hold _ => fieldY_any Be bv s w o old v hP hn hold⟩
end Go.Proofs.YtjphckfbbiehdaaGreat

namespace Go.Proofs.YtjphckfbbiehdaaGreat
open Go.RowKit
def CoS.put (s:CoS) (i k:Nat) (v:Val) (p:Po):CoS:={ s with oj:=s.oj.put i k v p }
theorem co_gather {F:Nat → Prop} {W w:World} {Be:Nat} {bv:Value} {s:CoS} {L:List Item} (h:Sep F W w (coI Be bv s :: L)) :
    Sep F W w (allI (ojL s.oj) :: blkI Be 95 (coC bv s) :: rowI 3 1 s.Ac s.cols.length s.cc (ints s.cols) :: rowI 3 1 s.Ag s.gone.length s.cg (ints s.gone) :: L):=by
  have h1:Sep F W w ([blkI Be 95 (coC bv s),rowI 3 1 s.Ac s.cols.length s.cc (ints s.cols),rowI 3 1 s.Ag s.gone.length s.cg (ints s.gone)] ++ ojL s.oj ++ L):=Sep.split h
  have h2:=h1.perm (l:=ojL s.oj ++ ([blkI Be 95 (coC bv s),rowI 3 1 s.Ac s.cols.length s.cc (ints s.cols),rowI 3 1 s.Ag s.gone.length s.cg (ints s.gone)] ++ L)) (by
    rw [← List.append_assoc]
    exact List.Perm.append_right L List.perm_append_comm)
  exact h2.join
theorem co_ungather {F:Nat → Prop} {W w:World} {Be:Nat} {bv:Value} {s:CoS} {L:List Item} (h:Sep F W w (allI (ojL s.oj) :: blkI Be 95 (coC bv s) :: rowI 3 1 s.Ac s.cols.length s.cc (ints s.cols) :: rowI 3 1 s.Ag s.gone.length s.cg (ints s.gone) :: L)):Sep F W w (coI Be bv s :: L):=by
  have h1:Sep F W w (ojL s.oj ++ ([blkI Be 95 (coC bv s),rowI 3 1 s.Ac s.cols.length s.cc (ints s.cols),rowI 3 1 s.Ag s.gone.length s.cg (ints s.gone)] ++ L)):=Sep.split h
  have h2:=h1.perm (l:=coR Be bv s ++ L) (by
    rw [← List.append_assoc]
    exact List.Perm.append_right L List.perm_append_comm)
  exact Sep.join (l:=coR Be bv s) h2
theorem coC_put (bv:Value) (s:CoS) (i k:Nat) (v:Val) (p:Po):coC bv (s.put i k v p)=coC bv s:=by
  unfold coC CoS.put Oj.put Oj.v
  dsimp only
  rw [List.length_set]
theorem co_01 {Be:Nat} {bv:Value} {s:CoS} {w:World} (hP:(coI Be bv s).P w):w.cell? ⟨Be,0,none⟩=some (.slice s.oj.As s.oj.ps.length s.oj.c) ∧ w.cell? ⟨Be,1,none⟩=some bv ∧ Be < w.heap.size:=by
  have hS:=(Sep.start hP).flat
  obtain ⟨b1,b2,b3,_⟩:=hS.rules 0 (g:=Be) (t:=95) rfl
  exact ⟨(b1 0).trans rfl,(b1 1).trans rfl,b3⟩
set_option maxRecDepth 100000 in
set_option maxHeartbeats 8000000 in
theorem cput_any (b:BarK) (hb:b.Ok) {Be:Nat} {s:CoS} {w:World} (hP:(coI Be b.bv s).P w) (hl:s.cols.length=s.oj.ps.length) (hn:s.oj.ps.length ≤ 900) {i k:Nat} {p:Po} (v:Val) (hi:s.oj.ps[i]?=some (some p)) (hk:k < p.o.fields.length) (h4:p.o.fields.length ≤ 4) (hvv:vin s.cols.length v) (hold:vin s.cols.length p.o.fields[k]) :
    Calls Tryz.prog 113 #[.pointer (some ⟨Be,0,none⟩),.int .i64 i,.int .i64 k,.agg #[.bool v.1,.int .i64 v.2]] w fun e w' => (∃ u,e=.returned u) ∧ Sep (coI Be b.bv s).fp w w' [coI Be b.bv ((s.col (b.f s.cols i p.o.fields[k] v)).put i k v p)]:=by
  obtain ⟨F,hF⟩:∃ F,(coI Be b.bv s).fp=F:=⟨_,rfl⟩
  obtain ⟨g,hg⟩:∃ g,w.heap.size=g:=⟨_,rfl⟩
  have hS0:=(Sep.start hP).blkAt 63 #[.bool v.1,.int .i64 v.2] hg
  rw [hF] at hS0 ⊢
  obtain ⟨W,hW⟩:∃ W,w.alloc (.cells #[.bool v.1,.int .i64 v.2] 63)=W:=⟨_,rfl⟩
  rw [hW] at hS0
  have hil:=(List.getElem?_eq_some_iff.1 hi).1
  have hS1:=(Sep.start (hS0.get 0 rfl)).flat
  obtain ⟨b1,b2,b3,_⟩:=hS1.rules 0 (g:=Be) (t:=95) rfl
  have b5:=(b1 0).trans (show _=some (.slice s.oj.As s.oj.ps.length s.oj.c) from rfl)
  have b6:=(b1 1).trans (show _=some (.iface b.T BarK.r) from rfl)
  obtain ⟨x1,x2,x3,_⟩:=hS0.rules 1 (g:=g) (t:=63) rfl
  have x5:=(x1 0).trans (show _=some (.bool v.1) from rfl)
  have x6:=(x1 1).trans (show _=some (.int .i64 v.2) from rfl)
  have CG:Calls Tryz.prog 103 #[.slice s.oj.As s.oj.ps.length s.oj.c,.int .i64 i,.int .i64 k] W.drew fun e w' => e=.returned (.agg #[.bool p.o.fields[k].1,.int .i64 p.o.fields[k].2]) ∧ Below W.drew.heap.size W.drew w':=oget_any (pre:=[_,_,_]) (show Sep _ _ W.drew ([blkI Be 95 (coC b.bv s),rowI 3 1 s.Ac s.cols.length s.cc (ints s.cols),rowI 3 1 s.Ag s.gone.length s.cg (ints s.gone)] ++ ojL s.oj) from hS1.drew) (by omega) hi hk h4
  have CB:=hide (fun (X:World) (hX:(coI Be b.bv s).P X) => hb.c Be b.bv s X i p.o.fields[k] v hX (by omega) (by omega) hold hvv)
  have hm:=hb.m
  have hent:=hb.e
  have HLN:=hide (hb.len s.cols i p.o.fields[k] v)
  obtain ⟨old,hold2⟩:∃ o,p.o.fields[k]=o:=⟨_,rfl⟩
  rw [hold2] at CG HLN ⊢
  simp only [hold2] at CB
  have HCG:=hide CG
  obtain ⟨C2,hC2⟩:∃ c,b.f s.cols i old v=c:=⟨_,rfl⟩
  rw [hC2] at HLN ⊢
  simp only [hC2] at CB
  have CP:=hide (fun (X:World) (hX:(allI (ojL s.oj)).P X) => oput_any hX (by omega) v hi hk h4)
  unfold Oj.v at CP
  obtain ⟨ov1,ov2⟩:=old
  obtain ⟨bv2,mv⟩:=v
  dsimp only at x5 x6 CB CP HCG hS0 hW ⊢
  obtain ⟨N,hN⟩:∃ n,s.oj.ps.length=n:=⟨_,rfl⟩
  rw [hN] at b5 HCG hl hn hil
  simp only [hN] at CP
  have HN:=hide hN
  have HLL:=hide hl
  obtain ⟨fB,hfB⟩:∃ f,b.fB=f:=⟨_,rfl⟩
  obtain ⟨bT,hbT⟩:∃ f,b.T=f:=⟨_,rfl⟩
  have hbv:b.bv=.iface bT BarK.r:=by rw [← hbT]; rfl
  simp only [hfB,hbT] at hm hent b6 CB
  rw [hbv] at hS0 ⊢
  simp only [hbv] at CB
  have HS0:=hide hS0
  clear hS0 hS1 hP hF b1 x1 CG hold hvv hold2 hC2 hN hb hfB hbT hbv hi hk h4
  go_enter Tryz.func113,Tryz.ntmps113
  go_wp2_with fail
  go_region_held3 (fun w' => w'.cell? ⟨Be,1,none⟩=some (.iface bT (.agg #[])) ∧ w'.cell? ⟨Be,0,none⟩=some (.slice s.oj.As N s.oj.c) ∧ w'.cell? ⟨g,0,none⟩=some (.bool bv2) ∧ w'.cell? ⟨g,1,none⟩=some (.int .i64 mv)) (go_keep)
    (first
      | (go_at_call 103; (with_reducible refine HCG.out.mono ?_); rintro e w4 ⟨rfl,hb4⟩; have hS4:=HS0.out.drew.below hb4; obtain ⟨k0,k1,k2⟩:=co_01 (hS4.get 0 rfl); rw [HN.out] at k0; obtain ⟨y1,y2,y3,_⟩:=hS4.rules 1 (g:=g) (t:=63) rfl; have y5:=(y1 0).trans (show _=some (.bool bv2) from rfl); have y6:=(y1 1).trans (show _=some (.int .i64 mv) from rfl); have CB4:=hide (CB.out w4 (hS4.get 0 rfl)); have HS4:=hide hS4; clear hb4 hS4 y1)
      | ((with_reducible refine CB4.out.mono ?_); rintro e w5 ⟨⟨u,rfl⟩,hP5⟩; have hS5:=HS4.out.call 0 rfl hP5; obtain ⟨k0,k1,k2⟩:=co_01 (hS5.get 0 rfl); replace k0:w5.cell? ⟨Be,0,none⟩=some (.slice s.oj.As s.oj.ps.length s.oj.c):=k0; rw [HN.out] at k0; obtain ⟨y1,y2,y3,_⟩:=hS5.rules 1 (g:=g) (t:=63) rfl; have y5:=(y1 0).trans (show _=some (.bool bv2) from rfl); have y6:=(y1 1).trans (show _=some (.int .i64 mv) from rfl); have HS5:=hide hS5; clear hP5 hS5 y1))
  all_goals
    have hg5:=co_gather HS5.out.drew
    have CP5:=hide (CP.out w5.drew (hg5.get 0 rfl))
    have HG5:=hide hg5
    clear hg5
    go_wp2_with fail
    go_region_held3 (fun w' => w'.cell? ⟨Be,0,none⟩=some (.slice s.oj.As N s.oj.c) ∧ w'.cell? ⟨g,0,none⟩=some (.bool bv2) ∧ w'.cell? ⟨g,1,none⟩=some (.int .i64 mv)) (go_keep)
      ((go_at_call 107; (with_reducible refine CP5.out.mono ?_); rintro e w6 ⟨⟨u,rfl⟩,hP6⟩; have hS6:=HG5.out.call 0 rfl hP6; obtain ⟨j1,_,j3,_⟩:=hS6.rules 1 (g:=Be) (t:=95) rfl; have j5:w6.cell? ⟨Be,0,none⟩=some (.slice s.oj.As s.oj.ps.length s.oj.c):=(j1 0).trans rfl; rw [HN.out] at j5; obtain ⟨y1,y2,y3,_⟩:=hS6.rules 4 (g:=g) (t:=63) rfl; have y5:=(y1 0).trans (show _=some (.bool bv2) from rfl); have y6:=(y1 1).trans (show _=some (.int .i64 mv) from rfl); have HS6:=hide hS6; clear hP6 hS6 y1 j1))
    all_goals
      go_wp2_with fail
      go_end0
      refine ⟨⟨_,rfl⟩,?_⟩
      have h6:=HS6.out
      rw [← coC_put (.iface bT BarK.r) (s.col C2) i k (bv2,mv) p] at h6
      exact (co_ungather (s:=(s.col C2).put i k (bv2,mv) p) h6).sub (List.sublist_append_left [_] [_])
end Go.Proofs.YtjphckfbbiehdaaGreat

namespace Go.Proofs.YtjphckfbbiehdaaGreat
open Go.RowKit
structure MemK where
  A:Type
  St:Type
  abs:St → A
  Bm:Nat
  T:Nat
  p:Value
  regs:A → List Val
  fld:A → Nat → Option (List Val)
  rest:St → List Item
  ok:A → Prop
  ok1:A → Prop
  hold:A → Nat → Val → A
  setr:A → Nat → Val → A
  new_:A → Nat → A × Int × Int
  put:A → Nat → Nat → Val → A
  fH:Nat
  fN:Nat
  fL:Nat
  fG:Nat
  fP:Nat
  rL:St → Value
  rG:St → Value
  rP:St → Value
theorem kenter_of {c:FuncId} {fn:Func} (hf:Tryz.prog.funcs[c]?=some fn) (hn:(fn.name == "runtime.NumGoroutine")=false) (hb:fn.body.isNone=false) (args:Array Value) (w:World):(callFunc c args).run Tryz.prog w=.ok (.enter c args) w:=by
  unfold callFunc
  simp [go_sem,hf]
  rw [if_neg (by simpa using hn),if_neg (by intro h; rw [h] at hb; cases hb)]
set_option maxRecDepth 100000 in
def MemK.items (K:MemK) (s:K.St):List Item:=blkI K.Bm 70 (mcCells (K.regs (K.abs s)) (.iface K.T K.p)) :: K.rest s
def MemK.item (K:MemK) (s:K.St):Item:=allI (K.items s)
def MemK.vok (K:MemK) (a:K.A) (v:Val):Prop:=v.1=true → ∃ (i:Nat) (fs:List Val),v.2=(i:Int) ∧ K.fld a i=some fs
structure MemK.Ok (K:MemK):Prop where
  r8:∀ a,K.ok a → (K.regs a).length=8
  vr:∀ a v,K.ok a → v ∈ K.regs a → K.vok a v
  vf:∀ a i fs v,K.ok a → K.fld a i=some fs → v ∈ fs → K.vok a v
  f4:∀ a i fs,K.ok a → K.fld a i=some fs → fs.length ≤ 4
  lim:∀ a i fs,K.ok a → K.fld a i=some fs → i ≤ 1000
  set_:∀ s r v,∃ s',K.abs s'=K.setr (K.abs s) r v ∧ K.rest s'=K.rest s
  regs_set:∀ a r v,K.regs (K.setr a r v)=(K.regs a).set r v
  regs_hold:∀ a r v,K.regs (K.hold a r v)=K.regs a
  regs_put:∀ a i k v,K.regs (K.put a i k v)=K.regs a
  eH:∀ (args:Array Value) (w:World),(callFunc K.fH args).run Tryz.prog w=.ok (.enter K.fH args) w
  eN:∀ (args:Array Value) (w:World),(callFunc K.fN args).run Tryz.prog w=.ok (.enter K.fN args) w
  eL:∀ (args:Array Value) (w:World),(callFunc K.fL args).run Tryz.prog w=.ok (.enter K.fL args) w
  eG:∀ (args:Array Value) (w:World),(callFunc K.fG args).run Tryz.prog w=.ok (.enter K.fG args) w
  eP:∀ (args:Array Value) (w:World),(callFunc K.fP args).run Tryz.prog w=.ok (.enter K.fP args) w
  mH:∀ w,(method 303 K.T K.p "Hold").run Tryz.prog w=.ok (K.fH,K.p) w
  mN:∀ w,(method 303 K.T K.p "New").run Tryz.prog w=.ok (K.fN,K.p) w
  mL:∀ s w,(K.item s).P w → (method 303 K.T K.p "Len").run Tryz.prog w=.ok (K.fL,K.rL s) w
  mG:∀ s w,(K.item s).P w → (method 303 K.T K.p "Get").run Tryz.prog w=.ok (K.fG,K.rG s) w
  mP:∀ s w,(K.item s).P w → (method 303 K.T K.p "Put").run Tryz.prog w=.ok (K.fP,K.rP s) w
  cH:∀ s w (r:Nat) v,(K.item s).P w → K.ok (K.abs s) → r < 8 → K.vok (K.abs s) v → Calls Tryz.prog K.fH #[K.p,.int .i64 (r:Int),.agg #[.bool v.1,.int .i64 v.2]] w fun e w' => (∃ u,e=.returned u) ∧ ∃ s',K.abs s'=K.hold (K.abs s) r v ∧ Sep (K.item s).fp w w' [K.item s']
  cN:∀ s w (n:Nat),(K.item s).P w → K.ok (K.abs s) → n ≤ 4 → Calls Tryz.prog K.fN #[K.p,.int .i64 (n:Int)] w fun e w' => e=.returned (.tuple #[.int .i64 (K.new_ (K.abs s) n).2.1,.int .i64 (K.new_ (K.abs s) n).2.2]) ∧ ∃ s',K.abs s'=(K.new_ (K.abs s) n).1 ∧ Sep (K.item s).fp w w' [K.item s']
  ok_of:∀ a,K.ok1 a → K.ok a
  okN:∀ a (n:Nat),K.ok1 a → n ≤ 4 → K.ok (K.new_ a n).1 ∧ ((K.new_ a n).2.2=0 → K.vok (K.new_ a n).1 (true,(K.new_ a n).2.1))
  cL:∀ s w (i:Nat) fs,(K.item s).P w → K.ok (K.abs s) → K.fld (K.abs s) i=some fs → Calls Tryz.prog K.fL #[K.rL s,.int .i64 (i:Int)] w fun e w' => e=.returned (.int .i64 (fs.length:Int)) ∧ w'=w
  cG:∀ s w (i k:Nat) fs (hk:k < fs.length),(K.item s).P w → K.ok (K.abs s) → K.fld (K.abs s) i=some fs → Calls Tryz.prog K.fG #[K.rG s,.int .i64 (i:Int),.int .i64 (k:Int)] w fun e w' => e=.returned (.agg #[.bool fs[k].1,.int .i64 fs[k].2]) ∧ Below w.heap.size w w'
  cP:∀ s w (i k:Nat) fs v,k < fs.length → (K.item s).P w → K.ok (K.abs s) → K.fld (K.abs s) i=some fs → K.vok (K.abs s) v → Calls Tryz.prog K.fP #[K.rP s,.int .i64 (i:Int),.int .i64 (k:Int),.agg #[.bool v.1,.int .i64 v.2]] w fun e w' => (∃ u,e=.returned u) ∧ ∃ s',K.abs s'=K.put (K.abs s) i k v ∧ Sep (K.item s).fp w w' [K.item s']
theorem MemK.cells (K:MemK) {s:K.St} {w:World} (hP:(K.item s).P w) (h8:(K.regs (K.abs s)).length=8) (r:Nat) (hr:r < 8) :
    w.cell? ⟨K.Bm,r * 2,none⟩=some (.bool (rgA (K.regs (K.abs s)) r).1) ∧ w.cell? ⟨K.Bm,r * 2 + 1,none⟩=some (.int .i64 (rgA (K.regs (K.abs s)) r).2) ∧ w.cell? ⟨K.Bm,16,none⟩=some (.iface K.T K.p) ∧ K.Bm < w.heap.size:=by
  have hB:Blk w K.Bm 70 (mcCells (K.regs (K.abs s)) (.iface K.T K.p)):=hP.1 (blkI K.Bm 70 (mcCells (K.regs (K.abs s)) (.iface K.T K.p))) (by simp [MemK.items])
  obtain ⟨c1,c2,c3⟩:=hB.rules
  have hrl:r < (K.regs (K.abs s)).length:=by omega
  obtain ⟨m1,m2⟩:=mc_reg (f:=.iface K.T K.p) hrl
  have hg:rgA (K.regs (K.abs s)) (r:Int)=(K.regs (K.abs s))[r]:=by unfold rgA; rw [show ((r:Int)).toNat=r from by omega,List.getD_eq_getElem?_getD,List.getElem?_eq_getElem hrl]; rfl
  rw [hg]
  exact ⟨(c1 _).trans m1,(c1 _).trans m2,(c1 16).trans (mc_if h8),c3⟩
theorem MemK.frozen (K:MemK) {s:K.St} {w:World} (hP:(K.item s).P w) (j:Nat):w.frozen? ⟨K.Bm,j,none⟩=false:=by
  have hB:Blk w K.Bm 70 (mcCells (K.regs (K.abs s)) (.iface K.T K.p)):=hP.1 (blkI K.Bm 70 (mcCells (K.regs (K.abs s)) (.iface K.T K.p))) (by simp [MemK.items])
  exact hB.rules.2.1 j
set_option maxRecDepth 100000 in
set_option maxHeartbeats 8000000 in
theorem kset_any (K:MemK) (h:K.Ok) {s:K.St} {w:World} (hP:(K.item s).P w) (ok:K.ok (K.abs s)) {r:Nat} (v:Val) (hr:r < 8) (hv:K.vok (K.abs s) v) :
    Calls Tryz.prog 39 #[.pointer (some ⟨K.Bm,0,none⟩),.int .i64 r,.agg #[.bool v.1,.int .i64 v.2]] w fun e w' => (∃ u,e=.returned u) ∧ ∃ s',K.abs s'=K.setr (K.hold (K.abs s) r v) r v ∧ Sep (K.item s).fp w w' [K.item s']:=by
  obtain ⟨F,hF⟩:∃ F,(K.item s).fp=F:=⟨_,rfl⟩
  obtain ⟨g,hg⟩:∃ g,w.heap.size=g:=⟨_,rfl⟩
  have hS0:Sep F w (w.alloc (.cells #[.bool v.1,.int .i64 v.2] 63)) [K.item s,blkI g 63 #[.bool v.1,.int .i64 v.2]]:=by
    rw [← hF]
    exact (Sep.start hP).blkAt 63 #[.bool v.1,.int .i64 v.2] (g:=g) hg
  rw [hF]
  have h8:=h.r8 _ ok
  obtain ⟨_,_,c5,c6⟩:=K.cells (hS0.get 0 rfl) h8 r hr
  obtain ⟨x1,x2,x3,_⟩:=hS0.rules 1 (g:=g) (t:=63) rfl
  have x5:=(x1 0).trans (show _=some (.bool v.1) from rfl)
  have x6:=(x1 1).trans (show _=some (.int .i64 v.2) from rfl)
  have hne1:g ≠ K.Bm:=fun e => hS0.other (a:=1) (b:=0) rfl rfl (by omega) g rfl ⟨_,by unfold MemK.items; exact List.mem_cons_self ..,e⟩
  have hne2:K.Bm ≠ g:=fun e => hne1 e.symm
  have HST:=hide (fun (X:World) (s1:K.St) (h8':(K.regs (K.abs s1)).length=8) (hX:Sep F w X [K.item s1,blkI g 63 #[.bool v.1,.int .i64 v.2]]) =>
    (show ∃ s',K.abs s'=K.setr (K.abs s1) r v ∧ Sep F w ((X.setCell ⟨K.Bm,r * 2,none⟩ (.bool v.1)).setCell ⟨K.Bm,r * 2 + 1,none⟩ (.int .i64 v.2)) [K.item s'] from by
      obtain ⟨s',e1,e2⟩:=h.set_ s1 r v
      refine ⟨s',e1,?_⟩
      have h1:Sep F w X (K.items s1 ++ [blkI g 63 #[.bool v.1,.int .i64 v.2]]):=hX.split
      have h2:=((h1.set_ 0 (g:=K.Bm) (t:=70) rfl (r * 2) (.bool v.1)).set_ 0 (g:=K.Bm) (t:=70) rfl (r * 2 + 1) (.int .i64 v.2))
      rw [mc_set (by omega) v] at h2
      refine Sep.fold (l:=K.items s') ?_
      have h3:K.items s'=blkI K.Bm 70 (mcCells ((K.regs (K.abs s1)).set r v) (.iface K.T K.p)) :: K.rest s1:=by unfold MemK.items; rw [e1,e2,h.regs_set]
      rw [h3]
      exact h2.sub (List.sublist_append_left (_ :: K.rest s1) [_])))
  have HRU:=hide (fun (X:World) (s1:K.St) (h8':(K.regs (K.abs s1)).length=8) (hX:Sep F w X [K.item s1,blkI g 63 #[.bool v.1,.int .i64 v.2]]) =>
    (⟨((hX.rules 1 (g:=g) (t:=63) rfl).1 0).trans rfl,((hX.rules 1 (g:=g) (t:=63) rfl).1 1).trans rfl,(K.cells (hX.get 0 rfl) h8' r hr).1,(K.cells (hX.get 0 rfl) h8' r hr).2.1,K.frozen (hX.get 0 rfl) (r * 2),K.frozen (hX.get 0 rfl) (r * 2 + 1),(K.cells (hX.get 0 rfl) h8' r hr).2.2.2,(K.cells (hX.get 0 rfl) h8' r hr).2.2.1⟩ :
      X.cell? ⟨g,0,none⟩=some (.bool v.1) ∧ X.cell? ⟨g,1,none⟩=some (.int .i64 v.2) ∧ X.cell? ⟨K.Bm,r * 2,none⟩=some (.bool (rgA (K.regs (K.abs s1)) r).1) ∧ X.cell? ⟨K.Bm,r * 2 + 1,none⟩=some (.int .i64 (rgA (K.regs (K.abs s1)) r).2) ∧ X.frozen? ⟨K.Bm,r * 2,none⟩=false ∧ X.frozen? ⟨K.Bm,r * 2 + 1,none⟩=false ∧ K.Bm < X.heap.size ∧ X.cell? ⟨K.Bm,16,none⟩=some (.iface K.T K.p)))
  have CH:=hide (fun (W:World) (hW:(K.item s).P W) => h.cH s W r v hW ok hr hv)
  have HRH:=hide (h.regs_hold (K.abs s) r v)
  have H8:=hide h8
  have HS0:=hide hS0
  have hinv:=h.mH
  have hent:=h.eH
  obtain ⟨W,hW⟩:∃ W,w.alloc (.cells #[.bool v.1,.int .i64 v.2] 63)=W:=⟨_,rfl⟩
  rw [hW] at HS0 c5 c6 x2 x3 x5 x6
  have HW:=hide hW
  have HGG:=hide hg
  have hr2:r < 8:=hr
  have hr5:(0:Int) ≤ (r:Int):=by omega
  have hr6:(r:Int) < 8:=by omega
  have hr7:decide ((r:Int) < 0)=false:=by simp
  have hr8:decide ((8:Int) ≤ (r:Int))=false:=by simp; omega
  obtain ⟨bv,mv⟩:=v
  dsimp only at x5 x6 HST HRU HW HS0 CH HRH ⊢
  obtain ⟨Bm,hBm⟩:∃ x,K.Bm=x:=⟨_,rfl⟩
  obtain ⟨fH,hfH⟩:∃ x,K.fH=x:=⟨_,rfl⟩
  obtain ⟨KT,hKT⟩:∃ x,K.T=x:=⟨_,rfl⟩
  obtain ⟨Kp,hKp⟩:∃ x,K.p=x:=⟨_,rfl⟩
  simp only [hBm,hfH,hKT,hKp] at c5 c6 HRU HST CH hinv hent hne1 hne2 ⊢
  clear hS0 hP hF hW hg x1 h8 hv ok h hBm hfH hKT hKp
  go_enter Tryz.func39,Tryz.ntmps39
  go_wp2_with fail
  rw [HW.out,HGG.out]
  have CH2:=hide (CH.out W.drew (HS0.out.drew.get 0 rfl))
  go_region_held3 (fun w' => w'.cell? ⟨Bm,16,none⟩=some (.iface KT Kp) ∧ w'.cell? ⟨g,0,none⟩=some (.bool bv) ∧ w'.cell? ⟨g,1,none⟩=some (.int .i64 mv)) (go_keep)
    (((with_reducible refine CH2.out.mono ?_); rintro e w5 ⟨⟨u,rfl⟩,s1,hab1,hP5⟩; have hS5:=HS0.out.drew.call 0 rfl hP5; have H81:=hide (show (K.regs (K.abs s1)).length=8 by rw [hab1,HRH.out]; exact H8.out); obtain ⟨k1,k2,k3,k4,k5,k6,k7,k8⟩:=HRU.out _ s1 H81.out hS5; have HS5:=hide hS5; have HAB:=hide hab1; clear hP5 hS5 hab1))
  all_goals
    go_wp2_with fail
    go_region_held3 (fun w' => w'.cell? ⟨g,0,none⟩=some (.bool bv) ∧ w'.cell? ⟨g,1,none⟩=some (.int .i64 mv)) (go_keep) (fail)
    all_goals
      go_end0
      obtain ⟨s2,hab2,hP6⟩:=HST.out _ s1 H81.out HS5.out.drew
      exact ⟨⟨_,rfl⟩,s2,by rw [hab2,HAB.out],hP6⟩
def MemK.len (K:MemK) (a:K.A) (x:Int):Int:=(((K.fld a x.toNat).getD []).length:Int)
def MemK.fErr (K:MemK) (a:K.A) (v:Val) (at_:Int):Int:=if v.1=false then 5 else if at_ < 0 ∨ K.len a v.2 ≤ at_ then 3 else 0
set_option maxRecDepth 100000 in
set_option maxHeartbeats 8000000 in
theorem kfield_any (K:MemK) (h:K.Ok) {s:K.St} {w:World} (hP:(K.item s).P w) (ok:K.ok (K.abs s)) (v:Val) (at_:Int) (hv:K.vok (K.abs s) v) :
    Calls Tryz.prog 40 #[.pointer (some ⟨K.Bm,0,none⟩),.agg #[.bool v.1,.int .i64 v.2],.int .i64 at_] w fun e w' => e=.returned (.int .i64 (K.fErr (K.abs s) v at_)) ∧ Below w.heap.size w w':=by
  have hB0:Below w.heap.size w (w.alloc (.cells #[.bool v.1,.int .i64 v.2] 63)):=(Below.refl _ w).alloc (Nat.le_refl _) _
  have hP1:∀ k,(K.item s).P ((w.alloc (.cells #[.bool v.1,.int .i64 v.2] 63)).drewN k):=fun k => (((Sep.start hP).below hB0).drewN k).get 0 rfl
  obtain ⟨_,_,c5,c6⟩:=K.cells (hP1 0) (h.r8 _ ok) 0 (by omega)
  replace c5:(w.alloc (.cells #[.bool v.1,.int .i64 v.2] 63)).cell? ⟨K.Bm,16,none⟩=some (.iface K.T K.p):=c5
  replace c6:K.Bm < (w.alloc (.cells #[.bool v.1,.int .i64 v.2] 63)).heap.size:=c6
  unfold MemK.fErr
  obtain ⟨bv,m⟩:=v
  dsimp only at hv ⊢
  have HB0:=hide hB0
  cases bv with
  | false =>
    rw [if_pos rfl]
    obtain ⟨Bm,hBm⟩:∃ x,K.Bm=x:=⟨_,rfl⟩
    rw [hBm] at c5 c6 ⊢
    clear hB0 hP1 h hP ok hv hBm
    go_enter Tryz.func40,Tryz.ntmps40
    go_wp2_with fail
    go_ret
    exact ⟨rfl,HB0.out⟩
  | true =>
    rw [if_neg (by simp)]
    obtain ⟨z,fs,hz,hfs⟩:=hv rfl
    dsimp only at hz
    subst hz
    have hgd:K.len (K.abs s) (z:Int)=(fs.length:Int):=by unfold MemK.len; rw [show ((z:Int)).toNat=z from by omega,hfs]; rfl
    rw [hgd]
    have hz1:=h.lim _ _ _ ok hfs
    have hq4:=h.f4 _ _ _ ok hfs
    have CL:=fun k => h.cL s _ z fs (hP1 k) ok hfs
    have hent:=h.eL
    have hme:∀ k,(method 303 K.T K.p "Len").run Tryz.prog ((w.alloc (.cells #[.bool true,.int .i64 z] 63)).drewN k)=.ok (K.fL,K.rL s) ((w.alloc (.cells #[.bool true,.int .i64 z] 63)).drewN k):=fun k => h.mL s _ (hP1 k)
    obtain ⟨q,hq⟩:∃ q,fs.length=q:=⟨_,rfl⟩
    simp only [hq] at CL
    rw [hq] at hq4 ⊢
    obtain ⟨Bm,hBm⟩:∃ x,K.Bm=x:=⟨_,rfl⟩
    obtain ⟨fL,hfL⟩:∃ x,K.fL=x:=⟨_,rfl⟩
    obtain ⟨KT,hKT⟩:∃ x,K.T=x:=⟨_,rfl⟩
    obtain ⟨Kp,hKp⟩:∃ x,K.p=x:=⟨_,rfl⟩
    obtain ⟨rL,hrL⟩:∃ x,K.rL s=x:=⟨_,rfl⟩
    simp only [hBm,hfL,hKT,hKp,hrL] at c5 c6 CL hme hent ⊢
    replace CL:=hide (fun k => Calls.quiet_of_same (v:=.int .i64 q) (CL k))
    clear hgd hB0 hP1 h hP ok hv hBm hfL hKT hKp hrL hq hfs
    by_cases h0:at_ < 0
    · have t1:decide (at_ < 0)=true:=by simp [h0]
      rw [if_pos (.inl h0)]
      go_enter Tryz.func40,Tryz.ntmps40
      go_wp2_with fail
      go_quiet (fail)
      go_wp2_with fail
      go_ret
      exact ⟨rfl,below_drewN HB0.out _⟩
    · have t1:decide (at_ < 0)=false:=by simp only [h0,decide_false]
      by_cases h1:(q:Int) ≤ at_
      · have t2:decide ((q:Int) ≤ at_)=true:=by simp [h1]
        rw [if_pos (.inr h1)]
        go_enter Tryz.func40,Tryz.ntmps40
        go_wp2_with fail
        go_quiet (with_reducible exact CL.out _)
        go_wp2_with fail
        go_ret
        exact ⟨rfl,below_drewN HB0.out _⟩
      · have t2:decide ((q:Int) ≤ at_)=false:=by simp only [h1,decide_false]
        rw [if_neg (fun h => h.elim h0 h1)]
        go_enter Tryz.func40,Tryz.ntmps40
        go_wp2_with fail
        go_quiet (with_reducible exact CL.out _)
        go_wp2_with fail
        go_ret
        exact ⟨rfl,below_drewN HB0.out _⟩
end Go.Proofs.YtjphckfbbiehdaaGreat
