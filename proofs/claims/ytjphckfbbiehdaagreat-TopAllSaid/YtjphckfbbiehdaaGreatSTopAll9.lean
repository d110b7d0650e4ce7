/- Part of a proof. -/
import Derived.Test.YtjphckfbbiehdaaGreatSTopAll2
import Derived.Test.YtjphckfbbiehdaaGreatSTopAll8
set_option linter.unusedSimpArgs false
set_option linter.unusedVariables false
namespace Go.Proofs.YtjphckfbbiehdaaGreat
open Go.RowKit
def opI:Option Po → Item
  | some p => poI p
  | none => allI []
def ptrV (p:Option Po):Value:=.pointer (p.map fun p => ⟨p.B,0,none⟩)
structure Oj where
  As:Option Addr
  c:Nat
  ps:List (Option Po)
def ojL (s:Oj):List Item:=rowI 84 1 s.As s.ps.length s.c (s.ps.map ptrV) :: s.ps.map opI
def Oj.v (s:Oj):Value:=.slice s.As s.ps.length s.c
def Oj.abs (s:Oj):List (Option (List Val)):=s.ps.map fun p => p.map fun p => p.o.fields
theorem mem_opI {s:Oj} {i:Nat} {p:Po} (hi:s.ps[i]?=some (some p)):poI p ∈ ojL s:=by
  unfold ojL
  simp only [List.mem_cons,List.mem_map]
  exact .inr ⟨some p,List.mem_of_getElem? hi,rfl⟩
theorem oj_len {s:Oj} {F:Nat → Prop} {W w:World} {pre:List Item} (h:Sep F W w (pre ++ ojL s)) {i:Nat} {p:Po} (hi:s.ps[i]?=some (some p)):p.o.fields.length=p.o.n:=by
  have h1:=(h.all (poI p) (List.mem_append_right _ (mem_opI hi))).1 (obI p.o) (by simp)
  have h2:(vals p.o.fields).length=p.o.n * 2:=(show w.ownsRow 0 63 2 (.slice p.o.A p.o.n p.o.c) p.o.n (vals p.o.fields) from h1).1
  rw [vals_length] at h2; omega
theorem oj_at {s:Oj} {F:Nat → Prop} {W w:World} {pre:List Item} (h:Sep F W w (pre ++ ojL s)) {i:Nat} {p:Po} (hi:s.ps[i]?=some (some p)) :
    ∃ (ad:Addr),s.As=some ad ∧ ad.block < w.heap.size ∧ w.cell? (ad.add i)=some (.pointer (some ⟨p.B,0,none⟩)) ∧ w.cell? ⟨p.B,0,none⟩=some (.slice p.o.A p.o.n p.o.c) ∧ (obI p.o).P w:=by
  have hrow:(rowI 84 1 s.As s.ps.length s.c (s.ps.map ptrV)).P w:=h.all _ (by unfold ojL; simp)
  have hp:=h.all (poI p) (List.mem_append_right _ (mem_opI hi))
  obtain ⟨hil,hie⟩:=List.getElem?_eq_some_iff.1 hi
  obtain ⟨ad,hA,_,had,hc⟩:=(Rd.of_own (D:=fun _ => True) (show w.ownsRow 0 84 1 (.slice s.As s.ps.length s.c) s.ps.length _ from hrow) (fun _ _ => trivial)).at_ hil
  have hb:(blkI p.B 83 #[.slice p.o.A p.o.n p.o.c]).P w:=hp.1 _ (by simp)
  refine ⟨ad,hA,had,hc _ (by rw [List.getElem?_map,hi]; rfl),((show Blk w _ _ _ from hb).rules.1 0).trans rfl,hp.1 _ (by simp)⟩
set_option maxRecDepth 100000 in
set_option maxHeartbeats 4000000 in
theorem olen_any {s:Oj} {F:Nat → Prop} {W w:World} {pre:List Item} (h:Sep F W w (pre ++ ojL s)) (hn:s.ps.length ≤ 1000) {i:Nat} {p:Po} (hi:s.ps[i]?=some (some p)) :
    Calls Tryz.prog 105 #[s.v,.int .i64 i] w fun e w' => e=.returned (.int .i64 p.o.n) ∧ w'=w:=by
  obtain ⟨ad,hA,had,e0,e1,_⟩:=oj_at h hi
  have hil:=(List.getElem?_eq_some_iff.1 hi).1
  unfold Oj.v
  obtain ⟨n,hn2⟩:∃ n,s.ps.length=n:=⟨_,rfl⟩
  rw [hn2] at hil hn ⊢
  rw [hA]
  clear hn2 h hi
  go_enter Tryz.func105,Tryz.ntmps105
  go_wp2_with fail
  go_ret
  exact ⟨rfl,rfl⟩
set_option maxRecDepth 100000 in
set_option maxHeartbeats 4000000 in
theorem oget_any {s:Oj} {F:Nat → Prop} {W w:World} {pre:List Item} (h:Sep F W w (pre ++ ojL s)) (hn:s.ps.length ≤ 1000) {i k:Nat} {p:Po} (hi:s.ps[i]?=some (some p)) (hk:k < p.o.fields.length) (h4:p.o.fields.length ≤ 4) :
    Calls Tryz.prog 103 #[s.v,.int .i64 i,.int .i64 k] w fun e w' => e=.returned (.agg #[.bool p.o.fields[k].1,.int .i64 p.o.fields[k].2]) ∧ Below w.heap.size w w':=by
  have hfl:=oj_len h hi
  have hkn:k < p.o.n:=by omega
  rw [hfl] at h4
  have hS1:=h.alloc (.cells #[.bool false,.int .i64 0] 63)
  have hB0:Below w.heap.size w (w.alloc (.cells #[.bool false,.int .i64 0] 63)):=(Below.refl _ w).alloc (Nat.le_refl _) _
  obtain ⟨ad,hA,had,e0,e1,hob⟩:=oj_at hS1 hi
  obtain ⟨g,hA2⟩:=hown_addr (show (w.alloc (.cells #[.bool false,.int .i64 0] 63)).ownsRow 0 63 2 (.slice p.o.A p.o.n p.o.c) p.o.n (vals p.o.fields) from hob) (by omega)
  have hob2:(rowI 63 2 (some ⟨g,0,none⟩) p.o.n p.o.c (vals p.o.fields)).P (w.alloc (.cells #[.bool false,.int .i64 0] 63)):=by rw [← hA2]; exact hob
  obtain ⟨e2,e3,_,_⟩:=hrow_val hob2 k hkn hk
  obtain ⟨v,hv⟩:∃ v,p.o.fields[k]=v:=⟨_,rfl⟩
  rw [hv] at e2 e3 ⊢
  rw [hA2] at e1
  have hil:=(List.getElem?_eq_some_iff.1 hi).1
  obtain ⟨B,hB⟩:∃ x,p.B=x:=⟨_,rfl⟩
  obtain ⟨m,hm⟩:∃ x,p.o.n=x:=⟨_,rfl⟩
  obtain ⟨c,hc⟩:∃ x,p.o.c=x:=⟨_,rfl⟩
  unfold Oj.v
  obtain ⟨n,hn2⟩:∃ n,s.ps.length=n:=⟨_,rfl⟩
  rw [hB] at e0 e1
  rw [hm] at e1 hkn h4
  rw [hc] at e1
  rw [hn2] at hil hn ⊢
  rw [hA]
  have HB0:=hide hB0
  clear hv hB hm hc hn2 hob hob2 hk h hS1 hB0 hfl hi
  obtain ⟨bv,mv⟩:=v
  dsimp only at e2 e3 ⊢
  go_enter Tryz.func103,Tryz.ntmps103
  go_wp2_with fail
  refine bodyPost_ret (v:=.agg #[.bool bv,.int .i64 mv]) (by simp [results,Tryz.results103,go_sem]) rfl ⟨rfl,(Below.refl _ w).alloc (Nat.le_refl _) _⟩
def Oj.put (s:Oj) (i k:Nat) (v:Val) (p:Po):Oj:={ s with ps:=s.ps.set i (some (p.put k v)) }
theorem optrs_put (l:List (Option Po)) (i k:Nat) (v:Val) (p:Po) (h:l[i]?=some (some p)):(l.set i (some (p.put k v))).map ptrV=l.map ptrV:=by
  rw [List.map_set]
  obtain ⟨hl,he⟩:=List.getElem?_eq_some_iff.1 h
  refine List.ext_getElem (by simp) fun j h1 h2 => ?_
  rw [List.getElem_set]
  split
  · rename_i e; subst e; simp [he,ptrV,Po.put]
  · rfl
set_option maxRecDepth 100000 in
set_option maxHeartbeats 8000000 in
theorem oput_any {s:Oj} {w:World} (hP:(allI (ojL s)).P w) (hn:s.ps.length ≤ 1000) {i k:Nat} {p:Po} (v:Val) (hi:s.ps[i]?=some (some p)) (hk:k < p.o.fields.length) (h4:p.o.fields.length ≤ 4) :
    Calls Tryz.prog 107 #[s.v,.int .i64 i,.int .i64 k,.agg #[.bool v.1,.int .i64 v.2]] w fun e w' => (∃ u,e=.returned u) ∧ Sep (allI (ojL s)).fp w w' [allI (ojL (s.put i k v p))]:=by
  obtain ⟨F,hF⟩:∃ F,(allI (ojL s)).fp=F:=⟨_,rfl⟩
  have hfl:=oj_len (pre:=[]) (Sep.start hP).flat hi
  have hkn:k < p.o.n:=by omega
  rw [hfl] at h4
  have hil:=(List.getElem?_eq_some_iff.1 hi).1
  have hS0:Sep (allI (ojL s)).fp w (w.alloc (.cells #[.bool v.1,.int .i64 v.2] 63)) ([blkI w.heap.size 63 #[.bool v.1,.int .i64 v.2]] ++ ojL s):=((Sep.start hP).flat.blkAt 63 #[.bool v.1,.int .i64 v.2] (g:=w.heap.size) rfl).perm List.perm_append_comm
  rw [hF] at hS0 ⊢
  obtain ⟨ad,hA,had,e0,e1,hob⟩:=oj_at hS0 hi
  have hS00:Sep F w (w.alloc (.cells #[.bool v.1,.int .i64 v.2] 63)) ([blkI w.heap.size 63 #[.bool v.1,.int .i64 v.2],rowI 84 1 s.As s.ps.length s.c (s.ps.map ptrV)] ++ s.ps.map opI):=hS0
  have hS1:=hS00.focus (j:=i) (t:=some p) hi
  have hS2:=Sep.split (l:=[blkI p.B 83 #[.slice p.o.A p.o.n p.o.c],obI p.o]) hS1
  obtain ⟨ga,hga⟩:=hown_addr (show (w.alloc (.cells #[.bool v.1,.int .i64 v.2] 63)).ownsRow 0 84 1 (.slice s.As s.ps.length s.c) s.ps.length _ from hS2.get 3 rfl) (by omega)
  obtain ⟨g2,hg2⟩:=hown_addr (show (w.alloc (.cells #[.bool v.1,.int .i64 v.2] 63)).ownsRow 0 63 2 (.slice p.o.A p.o.n p.o.c) p.o.n (vals p.o.fields) from hob) (by omega)
  have hob2:(rowI 63 2 (some ⟨g2,0,none⟩) p.o.n p.o.c (vals p.o.fields)).P (w.alloc (.cells #[.bool v.1,.int .i64 v.2] 63)):=by rw [← hg2]; exact hob
  obtain ⟨f1,f2,f3,f4⟩:=hrow_val hob2 k hkn hk
  have hfp2:(obI p.o).fp g2:=by show (Value.slice p.o.A p.o.n p.o.c).ownBlock=some g2; rw [hg2]; rfl
  have hne1:g2 ≠ p.B:=fun e => hS2.other (a:=1) (b:=0) rfl rfl (by omega) g2 hfp2 e
  have hne2:g2 ≠ w.heap.size:=fun e => hS2.other (a:=1) (b:=2) rfl rfl (by omega) g2 hfp2 e
  have hne3:g2 ≠ ga:=fun e => hS2.other (a:=1) (b:=3) rfl rfl (by omega) g2 hfp2 (by show (Value.slice s.As s.ps.length s.c).ownBlock=some g2; rw [hga,e]; rfl)
  have hsz:g2 < (w.alloc (.cells #[.bool v.1,.int .i64 v.2] 63)).heap.size:=hS2.hi 1 rfl g2 hfp2
  obtain ⟨x1,x2,_,_⟩:=hS2.rules 2 (g:=w.heap.size) (t:=63) rfl
  have x5:=(x1 0).trans (show _=some (.bool v.1) from rfl)
  have x6:=(x1 1).trans (show _=some (.int .i64 v.2) from rfl)
  have HS2:=hide hS2
  have HFIN:=hide (fun (X:World) (h:Sep F w X (opI (some (p.put k v)) :: ([blkI w.heap.size 63 #[.bool v.1,.int .i64 v.2],rowI 84 1 s.As s.ps.length s.c (s.ps.map ptrV)] ++ (s.ps.eraseIdx i).map opI))) =>
    (show Sep F w X [allI (ojL (s.put i k v p))] from by
      have h1:=(h.unfocus (l:=s.ps) (j:=i) hil).sub (l:=rowI 84 1 s.As s.ps.length s.c (s.ps.map ptrV) :: (s.ps.set i (some (p.put k v))).map opI) (.cons _ (List.Sublist.refl _))
      refine Sep.fold (l:=ojL (s.put i k v p)) ?_
      unfold ojL Oj.put
      dsimp only
      rw [optrs_put s.ps i k v p hi,List.length_set]
      exact h1))
  have HST:=hide (fun (X:World) (h:Sep F w X (blkI p.B 83 #[.slice p.o.A p.o.n p.o.c] :: obI p.o :: ([blkI w.heap.size 63 #[.bool v.1,.int .i64 v.2],rowI 84 1 s.As s.ps.length s.c (s.ps.map ptrV)] ++ (s.ps.eraseIdx i).map opI))) =>
    (show Sep F w ((X.setCell ⟨g2,k * 2,none⟩ (.bool v.1)).setCell ⟨g2,k * 2 + 1,none⟩ (.int .i64 v.2)) (opI (some (p.put k v)) :: ([blkI w.heap.size 63 #[.bool v.1,.int .i64 v.2],rowI 84 1 s.As s.ps.length s.c (s.ps.map ptrV)] ++ (s.ps.eraseIdx i).map opI)) from by
      have he:obI p.o=rowI 63 2 (some ⟨g2,0,none⟩) p.o.n p.o.c (vals p.o.fields):=by unfold obI; rw [hg2]
      rw [he] at h
      have h2:=(h.store 1 (g:=g2) rfl (k * 2) (.bool v.1)).store 1 (g:=g2) rfl (k * 2 + 1) (.int .i64 v.2)
      simp only [List.set_cons_succ,List.set_cons_zero,vals_set2] at h2
      refine Sep.join (l:=[blkI p.B 83 #[.slice p.o.A p.o.n p.o.c],obI (p.put k v).o]) ?_
      have he2:obI (p.put k v).o=rowI 63 2 (some ⟨g2,0,none⟩) p.o.n p.o.c (vals (p.o.fields.set k (v.1,v.2))):=by unfold obI Po.put; dsimp only; rw [hg2]
      rw [he2]
      exact h2))
  obtain ⟨B,hB⟩:∃ x,p.B=x:=⟨_,rfl⟩
  obtain ⟨m,hm⟩:∃ x,p.o.n=x:=⟨_,rfl⟩
  obtain ⟨c,hc⟩:∃ x,p.o.c=x:=⟨_,rfl⟩
  unfold Oj.v
  obtain ⟨n,hn2⟩:∃ n,s.ps.length=n:=⟨_,rfl⟩
  obtain ⟨bv,mv⟩:=v
  obtain rfl:ad=⟨ga,0,none⟩:=by rw [hga] at hA; injection hA with hA; exact hA.symm
  rw [hraddr0] at e0
  rw [hB] at e0 e1 hne1
  rw [hg2,hm,hc] at e1
  rw [hm] at hkn h4
  rw [hA]
  have hin:i < n:=by rw [← hn2]; exact hil
  rw [hn2] at hn ⊢
  dsimp only at x5 x6 HS2 HFIN HST f1 f2 ⊢
  obtain ⟨W,hW⟩:∃ W,w.alloc (.cells #[.bool bv,.int .i64 mv] 63)=W:=⟨_,rfl⟩
  rw [hW] at e0 e1 f1 f2 f3 f4 hsz x2 x5 x6 HS2
  obtain ⟨gb,hgb⟩:∃ g,w.heap.size=g:=⟨_,rfl⟩
  have HGB:=hide hgb
  have HW:=hide hW
  rw [hgb] at hne2 x2 x5 x6
  clear hS0 hS00 hS1 hS2 hob hob2 hP hB hm hc hn2 x1 hF hfp2 hgb hW hA hg2 hga hi hil hfl
  go_enter Tryz.func107,Tryz.ntmps107
  go_wp2_with fail
  rw [HW.out]
  rw [HGB.out]
  have hne4:ga ≠ g2:=fun e => hne3 e.symm
  have hne5:B ≠ g2:=fun e => hne1 e.symm
  have hne6:gb ≠ g2:=fun e => hne2 e.symm
  go_region_held3 (fun w' => w'.cell? ⟨ga,i,none⟩=some (.pointer (some ⟨B,0,none⟩)) ∧ w'.cell? ⟨B,0,none⟩=some (.slice (some ⟨g2,0,none⟩) m c) ∧ w'.cell? ⟨gb,0,none⟩=some (.bool bv) ∧ w'.cell? ⟨gb,1,none⟩=some (.int .i64 mv)) (go_keep) (fail)
  all_goals
    go_end0
    exact ⟨⟨_,rfl⟩,HFIN.out _ (HST.out _ HS2.out.drew)⟩
end Go.Proofs.YtjphckfbbiehdaaGreat

namespace Go.Proofs.YtjphckfbbiehdaaGreat
open Go.RowKit
def thereK {α:Type} (l:List (Option α)) (k:Nat):List Int:=((List.range k).filter fun i => (l.getD i none).isSome).map fun i:Nat => (i:Int)
def thereL {α:Type} (l:List (Option α)):List Int:=thereK l l.length
theorem thereK_succ {α:Type} (l:List (Option α)) (k:Nat):thereK l (k + 1)=thereK l k ++ (if (l.getD k none).isSome=true then [(k:Int)] else []):=by
  unfold thereK
  rw [List.range_succ,List.filter_append,List.map_append]
  congr 1
  rw [List.filter_cons,List.filter_nil]
  cases h:(l.getD k none).isSome
  · rfl
  · rfl
theorem thereK_len {α:Type} (l:List (Option α)) (k:Nat):(thereK l k).length ≤ k:=by
  unfold thereK
  rw [List.length_map]
  have:=List.length_filter_le (fun i => (l.getD i none).isSome) (List.range k)
  simpa using this
theorem mem_thereL {α:Type} (l:List (Option α)) (x:Int):x ∈ thereL l ↔ ∃ (i:Nat) (a:α),x=(i:Int) ∧ l[i]?=some (some a):=by
  unfold thereL thereK
  simp only [List.mem_map,List.mem_filter,List.mem_range,List.getD_eq_getElem?_getD]
  constructor
  · rintro ⟨i,⟨h1,h2⟩,rfl⟩
    rw [List.getElem?_eq_getElem h1] at h2
    simp only [Option.getD_some,Option.isSome_iff_exists] at h2
    obtain ⟨a,ha⟩:=h2
    exact ⟨i,a,rfl,by rw [List.getElem?_eq_getElem h1,ha]⟩
  · rintro ⟨i,a,rfl,h⟩
    obtain ⟨h1,h2⟩:=List.getElem?_eq_some_iff.1 h
    exact ⟨i,⟨h1,by rw [h]; rfl⟩,rfl⟩
set_option maxRecDepth 100000 in
set_option maxHeartbeats 4000000 in
theorem oThere_any (w:World) (As:Option Addr) (n c:Nat) (ps:List (Option Po)) (hn:n ≤ 1000) (hR:Rd w (fun _ => True) 1 As n (ps.map ptrV)) :
    Calls Tryz.prog 19 #[.slice As n c] w fun e w' => ∃ A c',e=.returned (.slice A (thereL ps).length c') ∧ Sep No w w' [rowI 3 1 A (thereL ps).length c' (ints (thereL ps))]:=by
  have hl:ps.length=n:=by have:=hR.1; simpa using this
  have hth:thereL ps=thereK ps n:=by unfold thereL; rw [hl]
  rw [hth]
  have HL:=hide hl
  have HS0:=hide ((Sep.nil No w).nilRow 3 1)
  clear hl hth
  go_enter Tryz.func19,Tryz.ntmps19
  go_wp2_with fail
  go_loopw [3,8] (fun s i wr => ∃ (k m:Nat) (A':Option Addr) (c':Nat),k ≤ n ∧ i=.int .i64 k ∧ s=.slice A' m c' ∧ Hid (m=(thereK ps k).length) ∧ Sep No w wr [rowI 3 1 A' m c' (ints (thereK ps k))]) (fun _ i _ => n - (intOf i).toNat)
  case atStart => exact ⟨0,0,none,0,by omega,rfl,rfl,rfl,HS0.out⟩
  case round =>
    clear HS0
    obtain ⟨k,m,A',c',hk,rfl,rfl,HM,hS⟩:=hrel
    have hm:m ≤ 1000:=by have h1:=HM.out; have h2:=thereK_len ps k; omega
    by_cases hlt:k < n
    · have hkl:k < ps.length:=by rw [HL.out]; exact hlt
      obtain ⟨ad,hA,_,had,hc⟩:=(hR.below hS.below_).at_ hlt
      have e0:=hc (ptrV ps[k]) (by simp [List.getElem?_eq_getElem hkl])
      have hg:ps.getD k none=ps[k]:=by rw [List.getD_eq_getElem?_getD,List.getElem?_eq_getElem hkl]; rfl
      have hT:=thereK_succ ps k
      rw [hg] at hT
      obtain ⟨p,hp⟩:∃ p,ps[k]=p:=⟨_,rfl⟩
      rw [hp] at e0 hT
      subst hA
      cases p with
      | none =>
        have HT:=hide (show thereK ps (k + 1)=thereK ps k from by rw [hT]; simp)
        have e1:wr.cell? (ad.add k)=some (.pointer none):=e0
        have HS:=hide hS
        clear hc e0 hT hp hg hS
        go_wp2_with fail
        go_roundw
        case rel => exact ⟨k + 1,m,A',c',by omega,by go_num,rfl,by rw [HT.out]; exact HM,by rw [HT.out]; exact HS.out⟩
        case measure => simp [intOf]; omega
      | some p =>
        have HT:=hide (show thereK ps (k + 1)=thereK ps k ++ [(k:Int)] from by rw [hT]; simp)
        have e1:wr.cell? (ad.add k)=some (.pointer (some ⟨p.B,0,none⟩)):=e0
        clear hc e0 hT hp hg
        go_wp2_with (first
          | (at_builtin
             refine wpList_app1 (cs:=#[.int .i64 (k:Int)]) rfl (.tmp 15) (.tmp 17) 33 rfl (F:=No) (W:=w) sInt (items:=[_]) hS 0 (n:=m) rfl rfl rfl (by simp) rfl rfl (by omega) ?_
             intro A7 c7 w7 hS7 hC7))
        go_roundw
        case rel => exact ⟨k + 1,m + 1,A7,c7,by omega,by go_num,rfl,by show m + 1=_; rw [HT.out,List.length_append,← HM.out]; rfl,by rw [HT.out]; simpa [ints] using hS7⟩
        case measure => simp [intOf]; omega
    · obtain rfl:k=n:=by omega
      have HS:=hide hS
      clear hS
      go_wp2_with fail
      go_ret
      have h:=HM.out
      subst h
      exact ⟨A',c',rfl,HS.out⟩
def Oj.new (s:Oj) (As:Option Addr) (c B g n:Nat):Oj:={ As:=As,c:=c,ps:=s.ps ++ [some ⟨B,⟨some ⟨g,0,none⟩,n,n,zeroVs n⟩⟩] }
theorem Oj.abs_new (s:Oj) (As:Option Addr) (c B g n:Nat):(s.new As c B g n).abs=s.abs ++ [some (zeroVs n)]:=by simp [Oj.abs,Oj.new]
set_option maxRecDepth 100000 in
set_option maxHeartbeats 8000000 in
theorem onew_any {F:Nat → Prop} {w:World} {Be T:Nat} {cs:Array Value} {s:Oj} (hS:Sep F w w (blkI Be T cs :: ojL s)) (h0:cs[0]?=some s.v) (hn:s.ps.length ≤ 1000) {n:Nat} (h4:n ≤ 4) :
    Calls Tryz.prog 106 #[.pointer (some ⟨Be,0,none⟩),.int .i64 n] w fun e w' => e=.returned (.tuple #[.int .i64 s.ps.length,.int .i64 0]) ∧ ∃ As' c' B g,Sep F w w' (blkI Be T (cs.setIfInBounds 0 (s.new As' c' B g n).v) :: ojL (s.new As' c' B g n)):=by
  obtain ⟨g,hg⟩:∃ g,w.heap.size=g:=⟨_,rfl⟩
  have hS1:=hS.blkAt 63 (vals (zeroVs n)).toArray (g:=g) hg
  have hS2:Sep F w ((w.alloc (.cells (vals (zeroVs n)).toArray 63)).alloc (.cells #[.slice (some ⟨g,0,none⟩) n n] 83)) (blkI (g + 1) 83 #[.slice (some ⟨g,0,none⟩) n n] :: rowI 63 2 (some ⟨g,0,none⟩) n n (vals (zeroVs n)) :: blkI Be T cs :: ojL s):=by
    have h1:=hS1.perm (l:=blkI g 63 (vals (zeroVs n)).toArray :: blkI Be T cs :: ojL s) List.perm_append_comm
    have hb:Blk (w.alloc (.cells (vals (zeroVs n)).toArray 63)) g 63 (vals (zeroVs n)).toArray:=h1.get 0 rfl
    have hr:=hrow_of_blk (n:=n) (size:=2) hb (by have:=vals_length (zeroVs n); simp [zeroVs] at this ⊢; omega) (by unfold maxLen; omega)
    have h2:=h1.step 0 rfl (Chg.refl _ _) (rowI 63 2 (some ⟨g,0,none⟩) n n (vals (zeroVs n)).toArray.toList) hr (fun g' hg' => .inl (by
      have:g=g':=by simpa [rowI,Value.ownBlock] using hg'
      exact this.symm))
    exact (h2.blkAt 83 #[.slice (some ⟨g,0,none⟩) n n] (g:=g + 1) (by simp [hg])).perm List.perm_append_comm
  obtain ⟨c1,c2,c3,_⟩:=hS.rules 0 (g:=Be) (t:=T) rfl
  obtain ⟨m,hm⟩:∃ m,s.ps.length=m:=⟨_,rfl⟩
  have HM:=hide hm
  unfold Oj.v at h0
  rw [hm] at h0
  have c5:=(c1 0).trans h0
  have hmk:=hval_make n h4
  have hS3:Sep F w ((w.alloc (.cells (vals (zeroVs n)).toArray 63)).alloc (.cells #[.slice (some ⟨g,0,none⟩) n n] 83)) (blkI (g + 1) 83 #[.slice (some ⟨g,0,none⟩) n n] :: rowI 63 2 (some ⟨g,0,none⟩) n n (vals (zeroVs n)) :: blkI Be T cs :: rowI 84 1 s.As m s.c (s.ps.map ptrV) :: s.ps.map opI):=by rw [← hm]; exact hS2
  have HS3:=hide hS3
  rw [hm] at hn ⊢
  have HFIN:=hide (fun (X:World) (A':Option Addr) (c':Nat) (h:Sep F w X (blkI (g + 1) 83 #[.slice (some ⟨g,0,none⟩) n n] :: rowI 63 2 (some ⟨g,0,none⟩) n n (vals (zeroVs n)) :: blkI Be T (cs.setIfInBounds 0 (.slice A' (m + 1) c')) :: rowI 84 1 A' (m + 1) c' (s.ps.map ptrV ++ [.pointer (some ⟨g + 1,0,none⟩)]) :: s.ps.map opI)) =>
    (show Sep F w X (blkI Be T (cs.setIfInBounds 0 (s.new A' c' (g + 1) g n).v) :: ojL (s.new A' c' (g + 1) g n)) from by
      have h1:=(h.join (l:=[_,_])).perm (l:=blkI Be T (cs.setIfInBounds 0 (.slice A' (m + 1) c')) :: rowI 84 1 A' (m + 1) c' (s.ps.map ptrV ++ [.pointer (some ⟨g + 1,0,none⟩)]) :: (s.ps.map opI ++ [opI (some ⟨g + 1,⟨some ⟨g,0,none⟩,n,n,zeroVs n⟩⟩)])) (List.perm_append_singleton _ _).symm
      unfold ojL Oj.new Oj.v
      dsimp only
      rw [List.length_append,List.length_singleton,HM.out,List.map_append,List.map_append]
      exact h1))
  have d1:(w.alloc (.cells (vals (zeroVs n)).toArray 63)).cell? ⟨Be,0,none⟩=some (.slice s.As m s.c):=(World.cell?_alloc_lt w _ _ c3).trans c5
  have d2:((w.alloc (.cells (vals (zeroVs n)).toArray 63)).alloc (.cells #[.slice (some ⟨g,0,none⟩) n n] 83)).cell? ⟨Be,0,none⟩=some (.slice s.As m s.c):=(World.cell?_alloc_lt _ _ _ (by simp; omega)).trans d1
  have d3:(((w.alloc (.cells (vals (zeroVs n)).toArray 63)).alloc (.cells #[.slice (some ⟨g,0,none⟩) n n] 83)).alloc (.cells #[.pointer (some ⟨g + 1,0,none⟩)] 84)).cell? ⟨Be,0,none⟩=some (.slice s.As m s.c):=(World.cell?_alloc_lt _ _ _ (by simp; omega)).trans d2
  have hcz:0 < cs.size:=by
    rcases Nat.eq_zero_or_pos cs.size with h | h
    · rw [Array.getElem?_eq_none (by omega)] at h0; cases h0
    · exact h
  have hq (v:Value):(cs.setIfInBounds 0 v)[0]?=some v:=by simp [hcz]
  have HQ:=hide hq
  have HC0:=hide h0
  clear hS1 hS2 hS3 hS hm c1 h0 hq hcz
  go_enter Tryz.func106,Tryz.ntmps106
  go_wp2_with fail
  go_region_law (first
    | (refine step_app1d (cs:=#[.pointer (some ⟨g + 1,0,none⟩)]) rfl (.tmp 9) (.tmp 14) 57 rfl (F:=F) (W:=w) sPtr (items:=_ :: _ :: _ :: _ :: _) HS3.out 3 (n:=m) rfl rfl rfl (by simp [hg]) rfl rfl (by omega) ?_
       intro A7 c7 w7 hS7 hC7
       obtain ⟨z1,z2,z3,z4⟩:=hS7.rules 2 (g:=Be) (t:=T) rfl
       (have z5:=(z1 0).trans HC0.out)
       clear z1 z4))
  all_goals
    have HX:=hide (HFIN.out _ _ _ (hS7.set_ 2 (g:=Be) (t:=T) rfl 0 (.slice A7 (m + 1) c7)))
    have q1:(w7.setCell ⟨Be,0,none⟩ (.slice A7 (m + 1) c7)).cell? ⟨Be,0,none⟩=some (.slice A7 (m + 1) c7):=(((hS7.set_ 2 (g:=Be) (t:=T) rfl 0 (.slice A7 (m + 1) c7)).rules 2 (g:=Be) (t:=T) rfl).1 0).trans (HQ.out _)
    clear hS7 hC7
    go_wp2_with fail
    refine bodyPost_ret (v:=.tuple #[.int .i64 m,.int .i64 0]) (by simp [results,Tryz.results106,go_sem]) rfl ⟨rfl,A7,c7,g + 1,g,HX.out⟩
end Go.Proofs.YtjphckfbbiehdaaGreat

namespace Go.Proofs.YtjphckfbbiehdaaGreat
structure CnA where
  regs:List Val
  objs:List (Option (List Val))
  cnt:List Int
  gl:List Int
def CnA.fld (a:CnA) (i:Nat):Option (List Val):=(a.objs[i]?).getD none
def CnA.vok (a:CnA) (v:Val):Prop:=v.1=true → ∃ (i:Nat) (fs:List Val),v.2=(i:Int) ∧ a.fld i=some fs
def CnA.add (a:CnA) (z:Nat) (x:Int):CnA:={ a with cnt:=a.cnt.set z (a.cnt.getD z 0 + x) }
def CnA.up (a:CnA) (v:Val):CnA:=if v.1=true then a.add v.2.toNat 1 else a
def CnA.dec (a:CnA) (v:Val):CnA:=a.add v.2.toNat (-1)
def CnA.go1 (a:CnA) (i:Nat):CnA:={ a with objs:=a.objs.set i none,gl:=a.gl ++ [(i:Int)] }
def downW (D:CnA → Nat → CnA) (a:CnA) (v:Val):CnA :=
  if v.1=false then a else if (a.dec v).cnt.getD v.2.toNat 0=0 then D (a.dec v) v.2.toNat else a.dec v
def cdropN:Nat → CnA → Nat → CnA
  | 0,a,_ => a
  | n + 1,a,i => ((a.fld i).getD []).foldl (downW (cdropN n)) (a.go1 i)
def someN {α:Type} (l:List (Option α)):Nat:=(l.filter Option.isSome).length
def CnA.num (a:CnA):Nat:=someN a.objs
def CnA.down (a:CnA) (v:Val):CnA:=downW (cdropN a.objs.length) a v
theorem CnA.fld_iff {a:CnA} {i:Nat} {fs:List Val}:a.fld i=some fs ↔ a.objs[i]?=some (some fs):=by
  unfold CnA.fld
  cases h:a.objs[i]? with
  | none => simp
  | some o => cases o <;> simp
theorem CnA.fld_lt {a:CnA} {i:Nat} {fs:List Val} (h:a.fld i=some fs):i < a.objs.length:=(List.getElem?_eq_some_iff.1 (CnA.fld_iff.1 h)).1
theorem someN_le {α:Type} (l:List (Option α)):someN l ≤ l.length:=List.length_filter_le ..
theorem someN_set {α:Type}:∀ {l:List (Option α)} {i:Nat} {x:α},l[i]?=some (some x) → someN (l.set i none) + 1=someN l:=by
  intro l
  induction l with
  | nil => intro i x h; cases h
  | cons o l ih =>
    intro i x h
    cases i with
    | zero =>
      have h1:o=some x:=by simpa using h
      subst h1
      simp [someN]
    | succ i =>
      have h1:l[i]?=some (some x):=by simpa using h
      have h2:=ih h1
      unfold someN at h2 ⊢
      rw [List.set_cons_succ,List.filter_cons,List.filter_cons]
      split
      · simp only [List.length_cons]; omega
      · exact h2
theorem someN_app {α:Type} (l:List (Option α)) (x:α):someN (l ++ [some x])=someN l + 1:=by simp [someN,List.filter_append]
theorem someN_put {α:Type}:∀ {l:List (Option α)} {i:Nat} {x:α} (y:α),l[i]?=some (some x) → someN (l.set i (some y))=someN l:=by
  intro l
  induction l with
  | nil => intro i x y h; cases h
  | cons o l ih =>
    intro i x y h
    cases i with
    | zero =>
      have h1:o=some x:=by simpa using h
      subst h1
      simp [someN]
    | succ i =>
      have h1:l[i]?=some (some x):=by simpa using h
      have h2:=ih y h1
      unfold someN at h2 ⊢
      rw [List.set_cons_succ,List.filter_cons,List.filter_cons]
      split
      · simp only [List.length_cons]; omega
      · exact h2
def refB (j:Nat) (v:Val):Bool:=v.1 && decide (v.2=(j:Int))
def occ (j:Nat) (l:List Val):Nat:=l.countP (refB j)
def occO (j:Nat) (objs:List (Option (List Val))):Nat:=(objs.map fun o => occ j (o.getD [])).sum
theorem occ_cons (j:Nat) (v:Val) (l:List Val):occ j (v :: l)=occ j l + if refB j v=true then 1 else 0:=by unfold occ; rw [List.countP_cons]
theorem occ_app (j:Nat) (l m:List Val):occ j (l ++ m)=occ j l + occ j m:=by unfold occ; rw [List.countP_append]
theorem occ_nil (j:Nat):occ j []=0:=rfl
theorem occ_le (j:Nat) (l:List Val):occ j l ≤ l.length:=List.countP_le_length
theorem occ_set {j:Nat}:∀ {l:List Val} {k:Nat} (v:Val) {u:Val},l[k]?=some u → occ j (l.set k v) + (if refB j u=true then 1 else 0)=occ j l + if refB j v=true then 1 else 0:=by
  intro l
  induction l with
  | nil => intro k v u h; cases h
  | cons x l ih =>
    intro k v u h
    cases k with
    | zero =>
      have h1:x=u:=by simpa using h
      subst h1
      rw [List.set_cons_zero,occ_cons,occ_cons]
      omega
    | succ k =>
      have h1:l[k]?=some u:=by simpa using h
      have h2:=ih v h1
      rw [List.set_cons_succ,occ_cons,occ_cons]
      omega
theorem occ_mem {j:Nat} {l:List Val} {v:Val} (h:v ∈ l) (hv:refB j v=true):1 ≤ occ j l:=List.countP_pos_iff.2 ⟨v,h,hv⟩
theorem refB_self {v:Val} {j:Nat} (h:v.1=true) (h2:v.2=(j:Int)):refB j v=true:=by unfold refB; rw [h,h2]; simp
theorem refB_eq {v:Val} {j:Nat} (h:refB j v=true):v.1=true ∧ v.2=(j:Int):=by
  unfold refB at h
  simpa using h
theorem occO_set {j:Nat}:∀ {l:List (Option (List Val))} {i:Nat} (x:Option (List Val)) {o:Option (List Val)},l[i]?=some o → occO j (l.set i x) + occ j (o.getD [])=occO j l + occ j (x.getD []):=by
  intro l
  induction l with
  | nil => intro i x o h; cases h
  | cons p l ih =>
    intro i x o h
    unfold occO at ih ⊢
    cases i with
    | zero =>
      have h1:p=o:=by simpa using h
      subst h1
      rw [List.set_cons_zero,List.map_cons,List.map_cons,List.sum_cons,List.sum_cons]
      omega
    | succ i =>
      have h1:l[i]?=some o:=by simpa using h
      have h2:=ih x h1
      rw [List.set_cons_succ,List.map_cons,List.map_cons,List.sum_cons,List.sum_cons]
      omega
theorem occO_app (j:Nat) (l:List (Option (List Val))) (fs:List Val):occO j (l ++ [some fs])=occO j l + occ j fs:=by simp [occO]
theorem occO_mem {j:Nat} {l:List (Option (List Val))} {i:Nat} {fs:List Val} (h:l[i]?=some (some fs)):occ j fs ≤ occO j l:=by
  have h1:=occO_set (j:=j) none h
  simp only [Option.getD_some,Option.getD_none,occ_nil] at h1
  omega
theorem occO_le {j:Nat}:∀ {l:List (Option (List Val))},(∀ (i:Nat) (fs:List Val),l[i]?=some (some fs) → fs.length ≤ 4) → occO j l ≤ 4 * l.length:=by
  intro l
  induction l with
  | nil => intro _; exact Nat.le_refl _
  | cons o l ih =>
    intro h
    have h1:=ih fun i fs hi => h (i + 1) fs (by simpa using hi)
    unfold occO at h1 ⊢
    rw [List.map_cons,List.sum_cons,List.length_cons]
    have h2:occ j (o.getD []) ≤ 4:=by
      cases o with
      | none => simp [occ_nil]
      | some fs => exact Nat.le_trans (occ_le _ _) (h 0 fs (by simp))
    omega
theorem occ_zeros (j n:Nat):occ j (zeroVs n)=0:=by
  unfold occ zeroVs
  rw [List.countP_eq_zero]
  intro v hv
  obtain ⟨_,rfl⟩:=List.mem_replicate.1 hv
  simp [refB]
structure CnInv (a:CnA) (P:List Val):Prop where
  cl:a.cnt.length=a.objs.length
  eq:∀ j:Nat,j < a.objs.length → a.cnt.getD j 0=((occ j P + occO j a.objs:Nat):Int)
  th:∀ j,j < a.objs.length → a.fld j=none → a.cnt.getD j 0=0
  vp:∀ v ∈ P,v.1=true → ∃ j:Nat,j < a.objs.length ∧ v.2=(j:Int)
  vf:∀ i fs,a.fld i=some fs → ∀ v ∈ fs,v.1=true → ∃ j:Nat,j < a.objs.length ∧ v.2=(j:Int)
  f4:∀ i fs,a.fld i=some fs → fs.length ≤ 4
theorem CnInv.congr {a:CnA} {P Q:List Val} (h:CnInv a P) (h1:∀ j,occ j Q=occ j P) (h2:∀ v ∈ Q,v.1=true → ∃ j:Nat,j < a.objs.length ∧ v.2=(j:Int)):CnInv a Q :=
  ⟨h.cl,fun j hj => by rw [h.eq j hj,h1],h.th,h2,h.vf,h.f4⟩
theorem CnInv.off {a:CnA} {P:List Val} {v:Val} (h:CnInv a (v :: P)) (hv:v.1=false):CnInv a P :=
  h.congr (fun j => by rw [occ_cons,if_neg (by unfold refB; simp [hv])]; rfl) fun u hu => h.vp u (List.mem_cons_of_mem _ hu)
theorem CnInv.on {a:CnA} {P:List Val} {v:Val} (h:CnInv a P) (hv:v.1=false):CnInv a (v :: P) :=
  h.congr (fun j => by rw [occ_cons,if_neg (by unfold refB; simp [hv])]; rfl) fun u hu h1 => by
    rcases List.mem_cons.1 hu with rfl | h2
    · rw [hv] at h1; cases h1
    · exact h.vp u h2 h1
theorem CnInv.pos {a:CnA} {P:List Val} (h:CnInv a P) {j:Nat} (hj:j < a.objs.length) (h1:1 ≤ occ j P + occO j a.objs):∃ fs,a.fld j=some fs:=by
  cases hf:a.fld j with
  | some fs => exact ⟨fs,rfl⟩
  | none =>
    have h2:=h.th j hj hf
    rw [h.eq j hj] at h2
    omega
theorem CnInv.vokP {a:CnA} {P:List Val} (h:CnInv a P) {v:Val} (hv:v ∈ P):a.vok v:=fun h1 => by
  obtain ⟨j,hj,e⟩:=h.vp v hv h1
  have h2:=occ_mem hv (refB_self h1 e)
  obtain ⟨fs,hf⟩:=h.pos hj (by omega)
  exact ⟨j,fs,e,hf⟩
theorem CnInv.vokF {a:CnA} {P:List Val} (h:CnInv a P) {i:Nat} {gs:List Val} {v:Val} (hg:a.fld i=some gs) (hv:v ∈ gs):a.vok v:=fun h1 => by
  obtain ⟨j,hj,e⟩:=h.vf i gs hg v hv h1
  have h2:=occ_mem hv (refB_self h1 e)
  have h3:=occO_mem (j:=j) (CnA.fld_iff.1 hg)
  obtain ⟨fs,hf⟩:=h.pos hj (by omega)
  exact ⟨j,fs,e,hf⟩
theorem CnInv.bound {a:CnA} {P:List Val} (h:CnInv a P) (j:Nat):0 ≤ a.cnt.getD j 0 ∧ a.cnt.getD j 0 ≤ P.length + 4 * a.objs.length:=by
  by_cases hj:j < a.objs.length
  · rw [h.eq j hj]
    have h1:=occ_le j P
    have h2:=occO_le (j:=j) (l:=a.objs) fun i fs hi => h.f4 i fs (CnA.fld_iff.2 hi)
    omega
  · have h1:a.cnt.getD j 0=0:=by rw [List.getD_eq_getElem?_getD,List.getElem?_eq_none (by rw [h.cl]; omega)]; rfl
    rw [h1]; omega
theorem add_getD (a:CnA) (z:Nat) (x:Int) (hz:z < a.cnt.length) (j:Nat):(a.add z x).cnt.getD j 0=a.cnt.getD j 0 + if j=z then x else 0:=by
  unfold CnA.add
  dsimp only
  rw [List.getD_eq_getElem?_getD,List.getElem?_set]
  by_cases e:z=j
  · subst e
    rw [if_pos rfl,if_pos hz,if_pos rfl]; rfl
  · rw [if_neg e,if_neg (fun h => e h.symm),← List.getD_eq_getElem?_getD]; omega
theorem CnInv.up {a:CnA} {P:List Val} (h:CnInv a P) {v:Val} (hv:a.vok v):CnInv (a.up v) (v :: P):=by
  unfold CnA.up
  by_cases hb:v.1=true
  · rw [if_pos hb]
    obtain ⟨z,fs,e,hf⟩:=hv hb
    have hz:=CnA.fld_lt hf
    rw [e,Int.toNat_natCast]
    have hg:=add_getD a z 1 (by rw [h.cl]; exact hz)
    have hr:∀ j,refB j v=decide (j=z):=fun j => by unfold refB; rw [hb,e]; simp only [Bool.true_and]; exact decide_eq_decide.2 (by omega)
    refine ⟨by show (a.cnt.set _ _).length=_; rw [List.length_set]; exact h.cl,fun j hj => ?_,fun j hj hn => ?_,fun u hu h1 => ?_,h.vf,h.f4⟩
    · rw [hg,h.eq j hj,occ_cons,hr]
      show _=((_ + occO j a.objs:Nat):Int)
      by_cases ej:j=z
      · rw [if_pos ej,if_pos (by simp [ej])]; omega
      · rw [if_neg ej,if_neg (by simp [ej])]; omega
    · rw [hg]
      by_cases ej:j=z
      · subst ej
        rw [show (a.add j 1).fld j=a.fld j from rfl,hf] at hn; cases hn
      · rw [if_neg ej,h.th j hj hn]; rfl
    · rcases List.mem_cons.1 hu with rfl | h2
      · exact ⟨z,hz,e⟩
      · exact h.vp u h2 h1
  · rw [if_neg hb]
    exact h.on (by simpa using hb)
theorem CnInv.dec {a:CnA} {P:List Val} {v:Val} (h:CnInv a (v :: P)) (hb:v.1=true):CnInv (a.dec v) P:=by
  obtain ⟨z,fs,e,hf⟩:=h.vokP (List.mem_cons_self ..) hb
  have hz:=CnA.fld_lt hf
  unfold CnA.dec
  rw [e,Int.toNat_natCast]
  have hg:=add_getD a z (-1) (by rw [h.cl]; exact hz)
  have hr:∀ j,refB j v=decide (j=z):=fun j => by unfold refB; rw [hb,e]; simp only [Bool.true_and]; exact decide_eq_decide.2 (by omega)
  refine ⟨by show (a.cnt.set _ _).length=_; rw [List.length_set]; exact h.cl,fun j hj => ?_,fun j hj hn => ?_,fun u hu h1 => h.vp u (List.mem_cons_of_mem _ hu) h1,h.vf,h.f4⟩
  · rw [hg,h.eq j hj,occ_cons,hr]
    show _=((_ + occO j a.objs:Nat):Int)
    by_cases ej:j=z
    · rw [if_pos ej,if_pos (by simp [ej])]; omega
    · rw [if_neg ej,if_neg (by simp [ej])]; omega
  · rw [hg]
    by_cases ej:j=z
    · subst ej
      rw [show (a.add j (-1)).fld j=a.fld j from rfl,hf] at hn; cases hn
    · rw [if_neg ej,h.th j hj hn]; rfl
theorem go1_fld (a:CnA) (i:Nat) (j:Nat) (gs:List Val):(a.go1 i).fld j=some gs ↔ j ≠ i ∧ a.fld j=some gs:=by
  rw [CnA.fld_iff,CnA.fld_iff]
  show (a.objs.set i none)[j]?=_ ↔ _
  rw [List.getElem?_set]
  by_cases e:i=j
  · subst e
    rw [if_pos rfl]
    split <;> simp
  · rw [if_neg e]
    exact ⟨fun h => ⟨fun h1 => e h1.symm,h⟩,fun h => h.2⟩
theorem CnInv.go1 {a:CnA} {P:List Val} (h:CnInv a P) {i:Nat} {fs:List Val} (hf:a.fld i=some fs) (hc:a.cnt.getD i 0=0):CnInv (a.go1 i) (fs ++ P):=by
  have hl:(a.go1 i).objs.length=a.objs.length:=List.length_set ..
  refine ⟨by rw [hl]; exact h.cl,fun j hj => ?_,fun j hj hn => ?_,fun v hv h1 => ?_,fun j gs hg v hv h1 => ?_,fun j gs hg => h.f4 j gs ((go1_fld a i j gs).1 hg).2⟩
  · rw [hl] at hj
    show a.cnt.getD j 0=_
    rw [h.eq j hj,occ_app]
    have h2:=occO_set (j:=j) none (CnA.fld_iff.1 hf)
    simp only [Option.getD_some,Option.getD_none,occ_nil] at h2
    show _=((_ + occO j (a.objs.set i none):Nat):Int)
    omega
  · rw [hl] at hj
    show a.cnt.getD j 0=0
    by_cases e:j=i
    · rw [e]; exact hc
    · refine h.th j hj ?_
      cases hg:a.fld j with
      | none => rfl
      | some gs => rw [(go1_fld a i j gs).2 ⟨e,hg⟩] at hn; cases hn
  · rw [hl]
    rcases List.mem_append.1 hv with h2 | h2
    · exact h.vf i fs hf v h2 h1
    · exact h.vp v h2 h1
  · rw [hl]
    exact h.vf j gs ((go1_fld a i j gs).1 hg).2 v hv h1
structure CnKp (a b:CnA):Prop where
  r:b.regs=a.regs
  n:b.objs.length=a.objs.length
  m:b.num ≤ a.num
  l:b.gl.length + b.num ≤ a.gl.length + a.num
  f:∀ i fs,b.fld i=some fs → a.fld i=some fs
theorem CnKp.refl (a:CnA):CnKp a a:=⟨rfl,rfl,Nat.le_refl _,Nat.le_refl _,fun _ _ h => h⟩
theorem CnKp.trans {a b c:CnA} (h:CnKp a b) (k:CnKp b c):CnKp a c:=⟨k.r.trans h.r,k.n.trans h.n,Nat.le_trans k.m h.m,Nat.le_trans k.l h.l,fun i fs hf => h.f i fs (k.f i fs hf)⟩
theorem go1_num {a:CnA} {i:Nat} {fs:List Val} (hf:a.fld i=some fs):(a.go1 i).num + 1=a.num:=someN_set (CnA.fld_iff.1 hf)
theorem CnKp.go1 {a:CnA} {i:Nat} {fs:List Val} (hf:a.fld i=some fs):CnKp a (a.go1 i) :=
  ⟨rfl,List.length_set ..,by have:=go1_num hf; omega,by have:=go1_num hf; show (a.gl ++ [_]).length + _ ≤ _; rw [List.length_append,List.length_singleton]; omega,fun j gs h => ((go1_fld a i j gs).1 h).2⟩
theorem CnKp.dec (a:CnA) (v:Val):CnKp a (a.dec v):=⟨rfl,rfl,Nat.le_refl _,Nat.le_refl _,fun _ _ h => h⟩
def DropOk (D:CnA → Nat → CnA) (n:Nat):Prop:=∀ (a:CnA) (P:List Val) (i:Nat) (fs:List Val),CnInv a P → a.fld i=some fs → a.cnt.getD i 0=0 → a.num ≤ n → CnInv (D a i) P ∧ CnKp a (D a i)
theorem CnInv.downW {D:CnA → Nat → CnA} {n:Nat} (hD:DropOk D n) {a:CnA} {P:List Val} {v:Val} (h:CnInv a (v :: P)) (hn:a.num ≤ n):CnInv (downW D a v) P ∧ CnKp a (Go.Proofs.YtjphckfbbiehdaaGreat.downW D a v):=by
  unfold Go.Proofs.YtjphckfbbiehdaaGreat.downW
  by_cases hb:v.1=false
  · rw [if_pos hb]; exact ⟨h.off hb,CnKp.refl a⟩
  · rw [if_neg hb]
    have hb':v.1=true:=by simpa using hb
    have h1:=h.dec hb'
    obtain ⟨z,fs,e,hf⟩:=h.vokP (List.mem_cons_self ..) hb'
    split
    · rename_i hc
      rw [e,Int.toNat_natCast] at hc
      obtain ⟨k1,k2⟩:=hD _ P z fs h1 hf hc hn
      rw [e,Int.toNat_natCast]
      exact ⟨k1,(CnKp.dec a v).trans k2⟩
    · exact ⟨h1,CnKp.dec a v⟩
theorem CnInv.downs {D:CnA → Nat → CnA} {n:Nat} (hD:DropOk D n):∀ (l:List Val) {a:CnA} {P:List Val},CnInv a (l ++ P) → a.num ≤ n → CnInv (l.foldl (Go.Proofs.YtjphckfbbiehdaaGreat.downW D) a) P ∧ CnKp a (l.foldl (Go.Proofs.YtjphckfbbiehdaaGreat.downW D) a):=by
  intro l
  induction l with
  | nil => exact fun h _ => ⟨h,CnKp.refl _⟩
  | cons v l ih =>
    intro a P h hn
    obtain ⟨k1,k2⟩:=CnInv.downW hD (P:=l ++ P) h hn
    obtain ⟨k3,k4⟩:=ih k1 (Nat.le_trans k2.m hn)
    exact ⟨k3,k2.trans k4⟩
theorem cdrop_ok:∀ n,DropOk (cdropN n) n:=by
  intro n
  induction n with
  | zero =>
    intro a P i fs h hf hc hn
    have:=go1_num hf
    omega
  | succ n ih =>
    intro a P i fs h hf hc hn
    have h1:=go1_num hf
    unfold cdropN
    rw [hf,Option.getD_some]
    obtain ⟨k1,k2⟩:=CnInv.downs ih fs (h.go1 hf hc) (by omega)
    exact ⟨k1,(CnKp.go1 hf).trans k2⟩
theorem CnInv.down {a:CnA} {P:List Val} {v:Val} (h:CnInv a (v :: P)):CnInv (a.down v) P ∧ CnKp a (a.down v) :=
  CnInv.downW (cdrop_ok _) h (someN_le _)
end Go.Proofs.YtjphckfbbiehdaaGreat
