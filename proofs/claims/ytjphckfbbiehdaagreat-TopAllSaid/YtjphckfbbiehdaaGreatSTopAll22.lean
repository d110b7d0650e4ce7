/- Part of a proof. -/
import Derived.Test.YtjphckfbbiehdaaGreatSTopAll21
import Derived.Test.YtjphckfbbiehdaaGreatSTopAll8
import Derived.Test.YtjphckfbbiehdaaGreatSTopAll5
set_option linter.unusedSimpArgs false
set_option linter.unusedVariables false
namespace Go.Proofs.YtjphckfbbiehdaaGreat
open Go.RowKit
abbrev poPtr (p:Po):Value:=.pointer (some ⟨p.B,0,none⟩)
theorem po_snoc {w X:World} {B g5 n c5 q c7:Nat} {A5 A7:Option Addr} {fs:List Val} {ps:List Po} {cs:Array Value} {x:Item}
    (h:Sep No w X (blkI B 83 #[.slice A5 n c5] :: rowI 63 2 A5 n c5 (vals fs) :: blkI g5 83 cs :: x :: rowI 84 1 A7 (q + 1) c7 (ps.map poPtr ++ [.pointer (some ⟨B,0,none⟩)]) :: ps.map poI)) :
    Sep No w X (x :: rowI 84 1 A7 (q + 1) c7 ((ps ++ [(⟨B,⟨A5,n,c5,fs⟩⟩:Po)]).map poPtr) :: (ps ++ [(⟨B,⟨A5,n,c5,fs⟩⟩:Po)]).map poI):=by
  have h0:=h.sub (l:=blkI B 83 #[.slice A5 n c5] :: rowI 63 2 A5 n c5 (vals fs) :: x :: rowI 84 1 A7 (q + 1) c7 (ps.map poPtr ++ [.pointer (some ⟨B,0,none⟩)]) :: ps.map poI) (.cons_cons _ (.cons_cons _ (.cons _ (List.Sublist.refl _))))
  have h1:=(h0.join (l:=[blkI B 83 #[.slice A5 n c5],rowI 63 2 A5 n c5 (vals fs)])).perm (List.perm_append_comm (l₁:=[_]))
  rw [List.map_append,List.map_append]
  exact h1
set_option maxRecDepth 100000 in
set_option maxHeartbeats 16000000 in
theorem heapOf_any (w:World) (AO AR:Option Addr) (nO cO nR cR:Nat) (obs:List Ob) (gs:List (List Val)) (hgs:obs.map Ob.fields=gs) (hO:ObsRd w (fun _ => True) AO nO obs) (hnO:nO ≤ 24) (h4:∀ o ∈ obs,o.n ≤ 4) (hcp:∀ o ∈ obs,o.A=none → o.c=0) :
    Calls Tryz.prog 13 #[.agg #[.slice AO nO cO,.slice AR nR cR]] w fun e w' => ∃ (As:Option Addr) (c:Nat) (ps:List Po),e=.returned (.slice As nO c) ∧ ps.length=nO ∧ ps.map (fun p => p.o.fields)=gs ∧ Sep No w w' (rowI 84 1 As nO c (ps.map poPtr) :: ps.map poI):=by
  obtain ⟨g,hg⟩:∃ g,w.heap.size=g:=⟨_,rfl⟩
  have hS0:=((Sep.nil No w).blkAt 25 #[.slice AO nO cO,.slice AR nR cR] hg).nilRow 84 1
  obtain ⟨a1,a2,a3,a4⟩:=hS0.rules 0 (g:=g) (t:=25) rfl
  have a5:=(a1 0).trans (show _=some (.slice AO nO cO) from rfl)
  have HGS:=hide hgs
  have H4:=hide h4
  have HCP:=hide hcp
  have HS0:=hide hS0
  have HOL:=hide hO.len
  clear hS0 a1 hgs h4 hcp
  go_enter Tryz.func13,Tryz.ntmps13
  go_wp2_with fail
  go_loopw [3,9] (fun s i wr => ∃ (q:Nat) (A':Option Addr) (c':Nat) (ps:List Po),q ≤ nO ∧ i=.int .i64 q ∧ s=.slice A' q c' ∧ Hid (ps.map (fun p => p.o.fields)=gs.take q) ∧
    Sep No w wr (blkI g 25 #[.slice AO nO cO,.slice AR nR cR] :: rowI 84 1 A' q c' (ps.map poPtr) :: ps.map poI)) (fun _ i _ => nO - (intOf i).toNat)
  case atStart => exact ⟨0,none,0,[],by omega,rfl,rfl,by simp [Hid],HS0.out⟩
  case round =>
    clear HS0 a2 a3 a5
    obtain ⟨q,A',c',ps,hq,rfl,rfl,HP,hS⟩:=hrel
    by_cases hlq:q < nO
    · obtain ⟨ad2,hA2,_,had2,hc2⟩:=(hO.below hS.below_).row.at_ hlq
      have hxl:q < obs.length:=by rw [HOL.out]; exact hlq
      have e1:=hc2 obs[q].val (by simp [List.getElem?_eq_getElem hxl])
      have hEach:=hO.each _ (List.getElem_mem hxl)
      have ho4:=H4.out _ (List.getElem_mem hxl)
      have hoc:=HCP.out _ (List.getElem_mem hxl)
      have hgt:gs.take (q + 1)=gs.take q ++ [obs[q].fields]:=by
        rw [← HGS.out,← List.map_take,← List.map_take,List.take_succ_eq_append_getElem hxl,List.map_append]; rfl
      have HGT:=hide hgt
      obtain ⟨o,ho⟩:∃ o,obs[q]=o:=⟨_,rfl⟩
      rw [ho] at e1 hEach ho4 hoc HGT
      unfold Ob.val at e1
      obtain ⟨oA,on,oc,ofs⟩:=o
      dsimp only at e1 hEach ho4 hoc HGT
      obtain ⟨g5,hg5⟩:∃ x,wr.heap.size=x:=⟨_,rfl⟩
      have hS1:=(hS.blkAt 83 #[.slice oA on oc] hg5).perm List.perm_append_comm
      have CC:=hide (fun W (hb:Below w.heap.size w W) => cloneV_any W oA on oc ofs hoc (by omega) (hEach.below hb))
      have HS1:=hide hS1
      subst hA2
      clear hc2 ho hgt hS1 hS hoc hEach
      go_wp2_with fail
      refine (CC.out _ HS1.out.below_).mono ?_
      rintro e w3 ⟨A5,c5,rfl,hP⟩
      have hS3:=HS1.out.consNew hP.below_ _ (hP.get 0 rfl) (fun g hg => (hP.lo 0 rfl g hg).resolve_left (fun h => h))
      obtain ⟨b7,hb7⟩:∃ x,w3.heap.size=x:=⟨_,rfl⟩
      have hS4:=(hS3.blkAt 83 #[.slice A5 on c5] hb7).perm List.perm_append_comm
      clear hP hS3 HS1 CC
      go_wp2_with (first
        | (at_builtin
           refine wpList_app1 (cs:=#[.pointer (some ⟨b7,0,none⟩)]) rfl (.tmp 13) (.tmp 19) 57 rfl (F:=No) (W:=w) sPtr (items:=_ :: _ :: _ :: _ :: _ :: _) hS4 4 (n:=q) rfl rfl rfl (by simp [hb7]) rfl rfl (by omega) ?_
           intro A7 c7 w7 hS7 hC7))
      go_roundw
      case rel => exact ⟨q + 1,A7,c7,ps ++ [(⟨b7,⟨A5,on,c5,ofs⟩⟩:Po)],by omega,by go_num,rfl,by
        show (ps ++ [(⟨b7,⟨A5,on,c5,ofs⟩⟩:Po)]).map (fun p => p.o.fields)=gs.take (q + 1)
        rw [List.map_append,HP.out,HGT.out]; rfl,po_snoc hS7⟩
      case measure => simp [intOf]; omega
    · obtain rfl:q=nO:=by omega
      go_wp2_with fail
      go_ret
      have h:=HP.out
      have hgl:gs.length=q:=by rw [← HGS.out,List.length_map]; exact HOL.out
      rw [List.take_of_length_le (by omega)] at h
      refine ⟨A',c',ps,rfl,?_,h,hS.sub (List.sublist_cons_self _ _)⟩
      have h2:=congrArg List.length h
      rw [List.length_map] at h2
      omega
end Go.Proofs.YtjphckfbbiehdaaGreat

namespace Go.Proofs.YtjphckfbbiehdaaGreat
open Go.RowKit
theorem padR_ok {n:Nat} {l:List Val} (h:ValsOk n l) (k:Nat):ValsOk n (padR l k):=fun v hv h1 => by
  unfold padR at hv
  rcases List.mem_append.1 hv with h2 | h2
  · exact h v (List.mem_of_mem_take h2) h1
  · obtain ⟨_,rfl⟩:=List.mem_replicate.1 h2
    cases h1
end Go.Proofs.YtjphckfbbiehdaaGreat

namespace Go.Proofs.YtjphckfbbiehdaaGreat
open Go.RowKit
theorem eight (l:List Val) (h:l.length=8):∃ p0 p1 p2 p3 p4 p5 p6 p7,l=[p0,p1,p2,p3,p4,p5,p6,p7]:=by
  match l,h with
  | [a0,a1,a2,a3,a4,a5,a6,a7],_ => exact ⟨a0,a1,a2,a3,a4,a5,a6,a7,rfl⟩
def playErr (nO nR nd:Nat) (obs:List Ob) (roots:List Val):Int:=if gcheck nO nR obs roots ≠ 0 then gcheck nO nR obs roots else if 100 < nd then 1 else 0
theorem idl_ptrs {Bm Be:Nat} {s:Idl} {w:World} (hP:(idI Bm Be s).P w):PtrsRd w s.As s.ps.length (s.ps.map fun p => (some p.B,p.o)):=by
  have hS:=(Sep.start hP).flat
  refine ⟨?_,?_,?_⟩
  · rw [List.map_map]
    exact Rd.of_own (D:=fun _ => True) (show w.ownsRow 0 84 1 (.slice s.As s.ps.length s.c) s.ps.length _ from hS.get 2 rfl) (fun _ _ => trivial)
  · intro q hq B hB
    obtain ⟨p,hp,rfl⟩:=List.mem_map.1 hq
    injection hB with hB
    subst hB
    have h1:=hS.all (poI p) (mem_poI hp)
    have hb:Blk w p.B 83 #[.slice p.o.A p.o.n p.o.c]:=h1.1 (blkI p.B 83 #[.slice p.o.A p.o.n p.o.c]) (by simp)
    have hr:(obI p.o).P w:=h1.1 (obI p.o) (by simp)
    exact ⟨hb.lt,(hb.cell 0).trans rfl,Rd.of_own (D:=fun _ => True) (show w.ownsRow 0 63 2 (.slice p.o.A p.o.n p.o.c) p.o.n _ from hr) (fun _ _ => trivial)⟩
  · intro q hq h
    obtain ⟨p,_,rfl⟩:=List.mem_map.1 hq
    cases h
theorem idl_sel {Bm Be:Nat} {m:Idl} {X:World} {q0 q1 q2 q3 q4 q5 q6 q7:Val} (hP:(idI Bm Be m).P X) (hq:m.regs=[q0,q1,q2,q3,q4,q5,q6,q7]):X.cell? ⟨Be,0,none⟩=some (.slice m.As m.ps.length m.c) ∧ X.cell? ⟨Bm,0,none⟩=some (.bool q0.1) ∧ X.cell? ⟨Bm,1,none⟩=some (.int .i64 q0.2) ∧ X.cell? ⟨Bm,2,none⟩=some (.bool q1.1) ∧ X.cell? ⟨Bm,3,none⟩=some (.int .i64 q1.2) ∧ X.cell? ⟨Bm,4,none⟩=some (.bool q2.1) ∧ X.cell? ⟨Bm,5,none⟩=some (.int .i64 q2.2) ∧ X.cell? ⟨Bm,6,none⟩=some (.bool q3.1) ∧ X.cell? ⟨Bm,7,none⟩=some (.int .i64 q3.2) ∧ X.cell? ⟨Bm,8,none⟩=some (.bool q4.1) ∧ X.cell? ⟨Bm,9,none⟩=some (.int .i64 q4.2) ∧ X.cell? ⟨Bm,10,none⟩=some (.bool q5.1) ∧ X.cell? ⟨Bm,11,none⟩=some (.int .i64 q5.2) ∧ X.cell? ⟨Bm,12,none⟩=some (.bool q6.1) ∧ X.cell? ⟨Bm,13,none⟩=some (.int .i64 q6.2) ∧ X.cell? ⟨Bm,14,none⟩=some (.bool q7.1) ∧ X.cell? ⟨Bm,15,none⟩=some (.int .i64 q7.2):=by
  have hS:=(Sep.start hP).flat
  obtain ⟨b1,_,_,_⟩:=hS.rules 1 (g:=Be) (t:=60) rfl
  obtain ⟨c1,_,_,_⟩:=hS.rules 0 (g:=Bm) (t:=70) rfl
  rw [hq] at c1
  exact ⟨(b1 0).trans rfl,(c1 0).trans rfl,(c1 1).trans rfl,(c1 2).trans rfl,(c1 3).trans rfl,(c1 4).trans rfl,(c1 5).trans rfl,(c1 6).trans rfl,(c1 7).trans rfl,(c1 8).trans rfl,(c1 9).trans rfl,(c1 10).trans rfl,(c1 11).trans rfl,(c1 12).trans rfl,(c1 13).trans rfl,(c1 14).trans rfl,(c1 15).trans rfl⟩
set_option maxRecDepth 100000 in
set_option maxHeartbeats 8000000 in
theorem idealPlay_no (w:World) (AO AR Ad:Option Addr) (nO cO nR cR nd cd:Nat) (obs:List Ob) (roots:List Val) (hO:ObsRd w (fun _ => True) AO nO obs) (hR:Rd w (fun _ => True) 2 AR nR (vals roots)) (hz:playErr nO nR nd obs roots ≠ 0) :
    Calls Tryz.prog 4 #[.agg #[.slice AO nO cO,.slice AR nR cR],.slice Ad nd cd] w fun e w' => e=.returned (.tuple #[.slice none 0 0,.agg #[.slice none 0 0,.slice none 0 0],.int .i64 (playErr nO nR nd obs roots)]) ∧ Below w.heap.size w w':=by
  obtain ⟨g,hg⟩:∃ g,w.heap.size=g:=⟨_,rfl⟩
  have hS0:=((Sep.nil No w).blkAt 25 #[.slice AO nO cO,.slice AR nR cR] hg).blkAt 25 #[.slice none 0 0,.slice none 0 0] (g:=g + 1) (by simp [hg])
  have C1:=hide (graphCheck_any _ AO AR nO cO nR cR obs roots (hO.below hS0.below_) (hR.below hS0.below_))
  obtain ⟨a1,a2,a3,a4⟩:=hS0.rules 0 (g:=g) (t:=25) rfl
  have HS0:=hide hS0
  unfold playErr at hz ⊢
  obtain ⟨x,hx⟩:∃ x,gcheck nO nR obs roots=x:=⟨_,rfl⟩
  rw [hx] at C1 hz ⊢
  clear hS0 a4 hO hR hx
  by_cases h0:x=0
  · subst h0
    rw [if_neg (by simp)] at hz ⊢
    by_cases hnd:100 < nd
    · rw [if_pos hnd]
      have t1:decide ((100:Int) < (nd:Int))=true:=by simp; omega
      have t2:decide (100 < nd)=true:=by simp; omega
      clear hz
      go_enter Tryz.func4,Tryz.ntmps4
      go_wp2_with fail
      refine C1.out.mono ?_
      rintro e w1 ⟨rfl,hb1⟩
      have hS1:=HS0.out.below hb1
      obtain ⟨x1,x2,x3,x4⟩:=hS1.rules 1 (g:=g + 1) (t:=25) rfl
      have HS1:=hide hS1
      clear hb1 hS1 HS0 C1 a1 a2 a3 x4
      go_wp2_with fail
      have hF:=(HS1.out.set_ 1 (g:=g + 1) (t:=25) rfl 0 (.slice none 0 0)).set_ 1 (g:=g + 1) (t:=25) rfl 1 (.slice none 0 0)
      refine bodyPost_ret (v:=.tuple #[.slice none 0 0,.agg #[.slice none 0 0,.slice none 0 0],.int .i64 1]) (by simp [results,Tryz.results4,go_sem,x1]) rfl ⟨rfl,hF.below_⟩
    · rw [if_neg hnd] at hz
      exact absurd rfl hz
  · rw [if_pos h0]
    have y1:(x != 0)=true:=by rw [bne_iff_ne]; exact h0
    clear hz h0
    go_enter Tryz.func4,Tryz.ntmps4
    go_wp2_with fail
    refine C1.out.mono ?_
    rintro e w1 ⟨rfl,hb1⟩
    have hS1:=HS0.out.below hb1
    obtain ⟨x1,x2,x3,x4⟩:=hS1.rules 1 (g:=g + 1) (t:=25) rfl
    have HS1:=hide hS1
    clear hb1 hS1 HS0 C1 a1 a2 a3 x4
    go_wp2_with fail
    have hF:=(HS1.out.set_ 1 (g:=g + 1) (t:=25) rfl 0 (.slice none 0 0)).set_ 1 (g:=g + 1) (t:=25) rfl 1 (.slice none 0 0)
    refine bodyPost_ret (v:=.tuple #[.slice none 0 0,.agg #[.slice none 0 0,.slice none 0 0],.int .i64 x]) (by simp [results,Tryz.results4,go_sem,x1]) rfl ⟨rfl,hF.below_⟩
set_option maxRecDepth 100000 in
set_option maxHeartbeats 32000000 in
theorem idealPlay_ok (w:World) (AO AR Ad:Option Addr) (nO cO nR cR nd cd:Nat) (obs:List Ob) (roots:List Val) (gs:List (List Val)) (ds:List DoV) (hgs:obs.map Ob.fields=gs) (hO:ObsRd w (fun _ => True) AO nO obs) (hR:Rd w (fun _ => True) 2 AR nR (vals roots)) (hcp:∀ o ∈ obs,o.A=none → o.c=0) (hz:playErr nO nR nd obs roots=0)
    (hM:MOk ⟨padR roots nR,gs⟩) (hD:Rd w (fun _ => True) 5 Ad nd (dosV ds)) :
    Calls Tryz.prog 4 #[.agg #[.slice AO nO cO,.slice AR nR cR],.slice Ad nd cd] w fun e w' => ∃ A c v',e=.returned (.tuple #[.slice A nd c,v',.int .i64 0]) ∧ Below w.heap.size w w' ∧ Rd w' (fun g => w.heap.size ≤ g) 3 A nd (outsV (runM ds ⟨padR roots nR,gs⟩).1) ∧ GraphRd w' (fun g => w.heap.size ≤ g) v' (renumF (runM ds ⟨padR roots nR,gs⟩).2.objs (order (runM ds ⟨padR roots nR,gs⟩).2.objs (runM ds ⟨padR roots nR,gs⟩).2.regs)) ((runM ds ⟨padR roots nR,gs⟩).2.regs.map (turnL (order (runM ds ⟨padR roots nR,gs⟩).2.objs (runM ds ⟨padR roots nR,gs⟩).2.regs))):=by
  obtain ⟨hx,hnd⟩:gcheck nO nR obs roots=0 ∧ nd ≤ 100:=by
    unfold playErr at hz
    split at hz
    · rename_i h; exact absurd hz h
    · rename_i h
      split at hz
      · omega
      · exact ⟨by omega,by omega⟩
  have hG:=gok_of hO hx
  have hnO:=hG.nO_
  have hnR:=hG.nR_
  have HDL:=hide (show ds.length=nd by have:=hD.1; rw [dosV_length] at this; omega)
  have hgl:gs.length=nO:=by rw [← hgs,List.length_map]; exact hO.len
  obtain ⟨g,hg⟩:∃ g,w.heap.size=g:=⟨_,rfl⟩
  have hS0:=((Sep.nil No w).blkAt 25 #[.slice AO nO cO,.slice AR nR cR] hg).blkAt 25 #[.slice none 0 0,.slice none 0 0] (g:=g + 1) (by simp [hg])
  have C1:=graphCheck_any _ AO AR nO cO nR cR obs roots (hO.below hS0.below_) (hR.below hS0.below_)
  rw [hx] at C1
  replace C1:=hide C1
  have CO:=hide (fun w' (hb:Below w.heap.size w w') => heapOf_any w' AO AR nO cO nR cR obs gs hgs (hO.below hb) hnO hG.fl hcp)
  have CI:=hide (fun w' (hb:Below w.heap.size w w') => heapFirst_any w' AO AR nO cO nR cR roots (hR.below hb) hnR)
  obtain ⟨PR,hPR⟩:∃ l,padR roots nR=l:=⟨_,rfl⟩
  rw [hPR] at hM ⊢
  simp only [hPR] at CI
  obtain ⟨p0,p1,p2,p3,p4,p5,p6,p7,hp⟩:=eight PR hM.r8
  obtain ⟨σ0,hσ⟩:∃ σ,(⟨PR,gs⟩:MSt)=σ:=⟨_,rfl⟩
  rw [hσ] at hM ⊢
  have HSG:=hide hσ
  have HSO:=hide (show σ0.objs.length=nO by rw [← hσ]; exact hgl)
  have HM:=hide hM
  subst hp
  have hCI2:∀ w' (hb:Below w.heap.size w w'),Calls Tryz.prog 14 #[.agg #[.slice AO nO cO,.slice AR nR cR]] w' fun e w2 => e=.returned (.agg #[.bool p0.1,.int .i64 p0.2,.bool p1.1,.int .i64 p1.2,.bool p2.1,.int .i64 p2.2,.bool p3.1,.int .i64 p3.2,.bool p4.1,.int .i64 p4.2,.bool p5.1,.int .i64 p5.2,.bool p6.1,.int .i64 p6.2,.bool p7.1,.int .i64 p7.2]) ∧ Below w'.heap.size w' w2:=CI.out
  replace CI:=hide hCI2
  obtain ⟨a1,a2,a3,a4⟩:=hS0.rules 0 (g:=g) (t:=25) rfl
  have a5:=(a1 0).trans (show _=some (.slice AO nO cO) from rfl)
  have a6:=(a1 1).trans (show _=some (.slice AR nR cR) from rfl)
  have HS0:=hide hS0
  have t1:decide ((100:Int) < (nd:Int))=false:=by simp; omega
  have t2:decide (100 < nd)=false:=by simp; omega
  clear hgs hO hR hgl hS0 hM hCI2 hG hcp hz hx hσ hPR a1 a4
  go_enter Tryz.func4,Tryz.ntmps4
  go_wp2_with fail
  refine C1.out.mono ?_
  rintro e w1 ⟨rfl,hb1⟩
  have hS1:=HS0.out.below hb1
  have CO1:=hide (CO.out w1 hS1.below_)
  obtain ⟨b1,b2,b3,b4⟩:=hS1.rules 0 (g:=g) (t:=25) rfl
  have b5:=(b1 0).trans (show _=some (.slice AO nO cO) from rfl)
  have b6:=(b1 1).trans (show _=some (.slice AR nR cR) from rfl)
  have HS1:=hide hS1
  clear hb1 hS1 HS0 C1 CO a2 a3 a5 a6 b1 b4
  go_wp2_with fail
  refine CO1.out.mono ?_
  rintro e w2 ⟨As,c2,ps,rfl,hpl,hpf,hP2⟩
  obtain ⟨Be,hBe⟩:∃ x,w2.heap.size=x:=⟨_,rfl⟩
  have hS2:=((HS1.out.snocNew hP2.below_ (allI (rowI 84 1 As nO c2 (ps.map poPtr) :: ps.map poI)) (hP2.fold.get 0 rfl) (fun g hg => (hP2.fold.lo 0 rfl g hg).resolve_left (fun h => h))).blkAt 60 #[.slice As nO c2] (g:=Be) hBe)
  obtain ⟨b1,b2,b3,b4⟩:=hS2.rules 0 (g:=g) (t:=25) rfl
  have b5:=(b1 0).trans (show _=some (.slice AO nO cO) from rfl)
  have b6:=(b1 1).trans (show _=some (.slice AR nR cR) from rfl)
  have CI2:=hide (CI.out _ hS2.below_)
  have HS2:=hide hS2
  have HPL:=hide hpl
  have HPF:=hide hpf
  clear hP2 hS2 HS1 CO1 CI b1 b4 hpl hpf
  go_wp2_with fail
  refine CI2.out.mono ?_
  rintro e w3 ⟨rfl,hb3⟩
  obtain ⟨Bm,hBm⟩:∃ x,w3.heap.size=x:=⟨_,rfl⟩
  have hS3:=((HS2.out.below hb3).blkAt 70 #[.bool p0.1,.int .i64 p0.2,.bool p1.1,.int .i64 p1.2,.bool p2.1,.int .i64 p2.2,.bool p3.1,.int .i64 p3.2,.bool p4.1,.int .i64 p4.2,.bool p5.1,.int .i64 p5.2,.bool p6.1,.int .i64 p6.2,.bool p7.1,.int .i64 p7.2,idF Be] (g:=Bm) hBm).nilRow 74 3
  have hS3b:Sep No w (w3.alloc (.cells #[.bool p0.1,.int .i64 p0.2,.bool p1.1,.int .i64 p1.2,.bool p2.1,.int .i64 p2.2,.bool p3.1,.int .i64 p3.2,.bool p4.1,.int .i64 p4.2,.bool p5.1,.int .i64 p5.2,.bool p6.1,.int .i64 p6.2,.bool p7.1,.int .i64 p7.2,idF Be] 70)) [blkI g 25 #[.slice AO nO cO,.slice AR nR cR],blkI (g + 1) 25 #[.slice none 0 0,.slice none 0 0],idI Bm Be ⟨As,c2,ps,[p0,p1,p2,p3,p4,p5,p6,p7]⟩,rowI 74 3 none 0 0 []]:=by
    have hl:ps.length=nO:=HPL.out
    have h1:=hS3.perm (l:=[allI (rowI 84 1 As nO c2 (ps.map poPtr) :: ps.map poI),blkI g 25 #[.slice AO nO cO,.slice AR nR cR],blkI (g + 1) 25 #[.slice none 0 0,.slice none 0 0],blkI Be 60 #[.slice As nO c2],blkI Bm 70 #[.bool p0.1,.int .i64 p0.2,.bool p1.1,.int .i64 p1.2,.bool p2.1,.int .i64 p2.2,.bool p3.1,.int .i64 p3.2,.bool p4.1,.int .i64 p4.2,.bool p5.1,.int .i64 p5.2,.bool p6.1,.int .i64 p6.2,.bool p7.1,.int .i64 p7.2,idF Be],rowI 74 3 none 0 0 []]) ((List.perm_append_comm (l₁:=[_,_]) (l₂:=[_])).append_right [_,_,_])
    have h2:=h1.split
    have h3:=h2.perm (l:=(blkI Bm 70 #[.bool p0.1,.int .i64 p0.2,.bool p1.1,.int .i64 p1.2,.bool p2.1,.int .i64 p2.2,.bool p3.1,.int .i64 p3.2,.bool p4.1,.int .i64 p4.2,.bool p5.1,.int .i64 p5.2,.bool p6.1,.int .i64 p6.2,.bool p7.1,.int .i64 p7.2,idF Be] :: blkI Be 60 #[.slice As nO c2] :: rowI 84 1 As nO c2 (ps.map poPtr) :: ps.map poI) ++ [blkI g 25 #[.slice AO nO cO,.slice AR nR cR],blkI (g + 1) 25 #[.slice none 0 0,.slice none 0 0],rowI 74 3 none 0 0 []]) (by
      refine (List.perm_append_comm (l₁:=rowI 84 1 As nO c2 (ps.map poPtr) :: ps.map poI) (l₂:=[_,_,_,_,_])).trans ?_
      refine (List.Perm.trans (l₂:=[blkI Bm 70 #[.bool p0.1,.int .i64 p0.2,.bool p1.1,.int .i64 p1.2,.bool p2.1,.int .i64 p2.2,.bool p3.1,.int .i64 p3.2,.bool p4.1,.int .i64 p4.2,.bool p5.1,.int .i64 p5.2,.bool p6.1,.int .i64 p6.2,.bool p7.1,.int .i64 p7.2,idF Be],blkI Be 60 #[.slice As nO c2]] ++ ([blkI g 25 #[.slice AO nO cO,.slice AR nR cR],blkI (g + 1) 25 #[.slice none 0 0,.slice none 0 0],rowI 74 3 none 0 0 []] ++ (rowI 84 1 As nO c2 (ps.map poPtr) :: ps.map poI))) ?_ ?_)
      · refine List.Perm.append_right (l₁:=[blkI g 25 #[.slice AO nO cO,.slice AR nR cR],blkI (g + 1) 25 #[.slice none 0 0,.slice none 0 0],blkI Be 60 #[.slice As nO c2],blkI Bm 70 #[.bool p0.1,.int .i64 p0.2,.bool p1.1,.int .i64 p1.2,.bool p2.1,.int .i64 p2.2,.bool p3.1,.int .i64 p3.2,.bool p4.1,.int .i64 p4.2,.bool p5.1,.int .i64 p5.2,.bool p6.1,.int .i64 p6.2,.bool p7.1,.int .i64 p7.2,idF Be],rowI 74 3 none 0 0 []]) (l₂:=[blkI Bm 70 #[.bool p0.1,.int .i64 p0.2,.bool p1.1,.int .i64 p1.2,.bool p2.1,.int .i64 p2.2,.bool p3.1,.int .i64 p3.2,.bool p4.1,.int .i64 p4.2,.bool p5.1,.int .i64 p5.2,.bool p6.1,.int .i64 p6.2,.bool p7.1,.int .i64 p7.2,idF Be],blkI Be 60 #[.slice As nO c2],blkI g 25 #[.slice AO nO cO,.slice AR nR cR],blkI (g + 1) 25 #[.slice none 0 0,.slice none 0 0],rowI 74 3 none 0 0 []]) _ ?_
        refine (List.perm_append_comm (l₁:=[_,_]) (l₂:=[_,_,_])).trans ?_
        exact (List.Perm.swap _ _ _).trans (List.Perm.append_left [_,_] (List.perm_append_comm (l₁:=[_]) (l₂:=[_,_])))
      · exact List.Perm.append_left [_,_] (List.perm_append_comm (l₁:=[_,_,_])))
    have h4:=h3.join
    have h5:=h4.perm (l:=[blkI g 25 #[.slice AO nO cO,.slice AR nR cR],blkI (g + 1) 25 #[.slice none 0 0,.slice none 0 0],allI (blkI Bm 70 #[.bool p0.1,.int .i64 p0.2,.bool p1.1,.int .i64 p1.2,.bool p2.1,.int .i64 p2.2,.bool p3.1,.int .i64 p3.2,.bool p4.1,.int .i64 p4.2,.bool p5.1,.int .i64 p5.2,.bool p6.1,.int .i64 p6.2,.bool p7.1,.int .i64 p7.2,idF Be] :: blkI Be 60 #[.slice As nO c2] :: rowI 84 1 As nO c2 (ps.map poPtr) :: ps.map poI),rowI 74 3 none 0 0 []]) ((List.perm_append_comm (l₁:=[_]) (l₂:=[_,_])).append_right [_])
    unfold idI idL
    dsimp only
    rw [hl]
    exact h5
  have HS3:=hide hS3b
  have HAB:=hide (show absI ⟨As,c2,ps,[p0,p1,p2,p3,p4,p5,p6,p7]⟩=(runM (ds.take 0) σ0).2 from by
    rw [List.take_zero]
    show _=σ0
    rw [← HSG.out]
    unfold absI
    dsimp only
    rw [HPF.out])
  clear hb3 hS3 hS3b HS2 CI2 b2 b3 b5 b6 HPL HPF
  go_wp2_with fail
  go_loopw [10,35] (fun s i wr => ∃ (k:Nat) (A:Option Addr) (c:Nat) (m:Idl),k ≤ nd ∧ i=.int .i64 k ∧ s=.slice A k c ∧ Hid (absI m=(runM (ds.take k) σ0).2) ∧
    Sep No w wr [blkI g 25 #[.slice AO nO cO,.slice AR nR cR],blkI (g + 1) 25 #[.slice none 0 0,.slice none 0 0],idI Bm Be m,rowI 74 3 A k c (outsV (runM (ds.take k) σ0).1)]) (fun _ i _ => nd - (intOf i).toNat)
  case atStart => exact ⟨0,none,0,_,by omega,rfl,rfl,HAB.out,HS3.out⟩
  case round =>
    clear HS3 HAB
    obtain ⟨k,A,c,m,hk,rfl,rfl,HA,hS⟩:=hrel
    obtain ⟨hm1,hm2,hm3⟩:=runM_ok (ds.take k) HM.out
    have htl:(ds.take k).length=k:=by rw [List.length_take,HDL.out]; omega
    rw [htl,HSO.out] at hm2
    rw [← HA.out] at hm1 hm2
    have hmo:(absI m).objs.length=m.ps.length:=by simp [absI]
    have ok:IOk m:=⟨hm1,by omega⟩
    have HOK:=hide ok
    clear hm1 hm3 htl hmo ok
    by_cases hlt:k < nd
    · have hkl:k < ds.length:=by rw [HDL.out]; exact hlt
      obtain ⟨v0,v1,v2,v3,v4⟩:=dosV_at ds k hkl
      obtain ⟨ad,hA,_,had,hc,hd⟩:=(hD.below hS.below_).atN hlt
      have e0:=hc _ v0
      have e1:=hd 0 _ v1
      have e2:=hd 1 _ v2
      have e3:=hd 2 _ v3
      have e4:=hd 3 _ v4
      have hrs:=runM_snoc (ds.take k) ds[k] σ0
      rw [← List.take_succ_eq_append_getElem hkl,← HA.out] at hrs
      obtain ⟨d,hd'⟩:∃ d,ds[k]=d:=⟨_,rfl⟩
      rw [hd'] at e0 e1 e2 e3 e4 hrs
      obtain ⟨b9,hb9⟩:∃ x,wr.heap.size=x:=⟨_,rfl⟩
      have hS2:=hS.blkAt 72 d.cells hb9
      have CD:=do_any (hS2.get 2 rfl) HOK.out d
      unfold DoOk at CD
      obtain ⟨p,hp⟩:∃ p,stepM d (absI m)=p:=⟨_,rfl⟩
      rw [hp] at hrs CD
      obtain ⟨⟨oc,orf,on⟩,σ'⟩:=p
      unfold OutV.val DoV.cells at CD
      dsimp only at CD hrs
      unfold DoV.cells at hS2
      have HRS:=hide hrs
      have HCD:=hide CD
      have HS2:=hide hS2
      subst hA
      clear hc hd v0 v1 v2 v3 v4 hrs hd' hS2 hS CD hp
      go_wp2_with fail
      refine HCD.out.mono ?_
      rintro e w4 ⟨m',rfl,hab',hP4⟩
      have hS4:=HS2.out.call 2 rfl hP4
      have HAB':=hide hab'
      clear hP4 HS2 HCD hab'
      go_wp2_with (first
        | (at_builtin
           refine wpList_app1 (cs:=#[.int .i64 oc,.bool orf,.int .i64 on]) rfl (.tmp 39) (.tmp 43) 27 rfl (F:=No) (W:=w) sOut (items:=_ :: _ :: _ :: _ :: _) hS4 3 (n:=k) rfl rfl rfl (by simp) rfl rfl (by omega) ?_
           intro A6 c6 w6 hS6 hC6))
      go_roundw
      case rel => exact ⟨k + 1,A6,c6,m',by omega,by go_num,rfl,by rw [HRS.out]; exact HAB'.out,by
        rw [HRS.out]
        dsimp only
        rw [outsV_app]
        exact hS6.sub (List.sublist_append_left [_,_,_,_] _)⟩
      case measure => simp [intOf]; omega
    · obtain rfl:k=nd:=by omega
      rw [List.take_of_length_le (by rw [HDL.out]; omega)] at HA hS
      have hr8:m.regs.length=8:=HOK.out.m.r8
      have hml:=HOK.out.n
      have CG:=hide (fun (X:World) (hP:(idI Bm Be m).P X) => heapGraph_any X m.As m.ps.length m.c (m.ps.map fun p => (some p.B,p.o)) m.regs (absI m).objs (by rw [List.map_map]; rfl) (idl_ptrs hP) (by omega) hr8 (fun q hq => by
        obtain ⟨p,hp,rfl⟩:=List.mem_map.1 hq
        have h1:=Idl.fields_len (Sep.start hP).flat hp
        have h2:=HOK.out.m.f4 p.o.fields (List.mem_map.2 ⟨p,hp,rfl⟩)
        show p.o.n ≤ 4
        omega) HOK.out.m.vr HOK.out.m.vo)
      obtain ⟨q0,q1,q2,q3,q4,q5,q6,q7,hq⟩:=eight m.regs hr8
      obtain ⟨b1,b2,b3,_⟩:=((Sep.start (hS.get 2 rfl)).flat).rules 1 (g:=Be) (t:=60) rfl
      have b5:=(b1 0).trans (show _=some (.slice m.As m.ps.length m.c) from rfl)
      obtain ⟨_,d0,d1,d2,d3,d4,d5,d6,d7,d8,d9,d10,d11,d12,d13,d14,d15⟩:=idl_sel (hS.get 2 rfl) hq
      obtain ⟨_,_,c3,_⟩:=((Sep.start (hS.get 2 rfl)).flat).rules 0 (g:=Bm) (t:=70) rfl
      obtain ⟨FF,hFF⟩:∃ F,renumF (absI m).objs (order (absI m).objs m.regs)=F:=⟨_,rfl⟩
      obtain ⟨RR,hRR⟩:∃ F,m.regs.map (turnL (order (absI m).objs m.regs))=F:=⟨_,rfl⟩
      simp only [hFF,hRR] at CG
      have HFF:=hide hFF
      have HRR:=hide hRR
      rw [hq] at CG
      have hCG2:∀ (X:World) (hP:(idI Bm Be m).P X),Calls Tryz.prog 16 #[.slice m.As m.ps.length m.c,.agg #[.bool q0.1,.int .i64 q0.2,.bool q1.1,.int .i64 q1.2,.bool q2.1,.int .i64 q2.2,.bool q3.1,.int .i64 q3.2,.bool q4.1,.int .i64 q4.2,.bool q5.1,.int .i64 q5.2,.bool q6.1,.int .i64 q6.2,.bool q7.1,.int .i64 q7.2]] X fun e w' => ∃ v',e=.returned v' ∧ Below X.heap.size X w' ∧ GraphRd w' (fun g => X.heap.size ≤ g) v' FF RR:=CG.out
      have CG3:=hide (hCG2 wr.drew (hS.drew.get 2 rfl))
      have HS:=hide hS
      have n1:g + 1 ≠ Be:=fun e => hS.other (a:=1) (b:=2) rfl rfl (by omega) (g + 1) rfl ⟨blkI Be 60 #[.slice m.As m.ps.length m.c],by simp [idL],e⟩
      have n2:g + 1 ≠ Bm:=fun e => hS.other (a:=1) (b:=2) rfl rfl (by omega) (g + 1) rfl ⟨blkI Bm 70 (mcCells m.regs (idF Be)),by simp [idL],e⟩
      have n3:Be ≠ g + 1:=fun e => n1 e.symm
      have n4:Bm ≠ g + 1:=fun e => n2 e.symm
      have HSEL:=hide (fun (X:World) (hP:(idI Bm Be m).P X) => idl_sel hP hq)
      obtain ⟨ml,hmll⟩:∃ x,m.ps.length=x:=⟨_,rfl⟩
      obtain ⟨mA,hmA⟩:∃ x,m.As=x:=⟨_,rfl⟩
      obtain ⟨mc,hmc⟩:∃ x,m.c=x:=⟨_,rfl⟩
      rw [hmll,hmA,hmc] at b5 CG3 HSEL
      clear CG hCG2 hS b1 hFF hRR hq hmll hmA hmc hr8 hml hk
      go_wp2_with fail
      have zz:wr.drew.cell? ⟨Be,0,none⟩=some (.slice mA ml mc):=b5
      go_region_held3 (fun w' => w'.cell? ⟨Be,0,none⟩=some (.slice mA ml mc) ∧ w'.cell? ⟨Bm,0,none⟩=some (.bool q0.1) ∧ w'.cell? ⟨Bm,1,none⟩=some (.int .i64 q0.2) ∧ w'.cell? ⟨Bm,2,none⟩=some (.bool q1.1) ∧ w'.cell? ⟨Bm,3,none⟩=some (.int .i64 q1.2) ∧ w'.cell? ⟨Bm,4,none⟩=some (.bool q2.1) ∧ w'.cell? ⟨Bm,5,none⟩=some (.int .i64 q2.2) ∧ w'.cell? ⟨Bm,6,none⟩=some (.bool q3.1) ∧ w'.cell? ⟨Bm,7,none⟩=some (.int .i64 q3.2) ∧ w'.cell? ⟨Bm,8,none⟩=some (.bool q4.1) ∧ w'.cell? ⟨Bm,9,none⟩=some (.int .i64 q4.2) ∧ w'.cell? ⟨Bm,10,none⟩=some (.bool q5.1) ∧ w'.cell? ⟨Bm,11,none⟩=some (.int .i64 q5.2) ∧ w'.cell? ⟨Bm,12,none⟩=some (.bool q6.1) ∧ w'.cell? ⟨Bm,13,none⟩=some (.int .i64 q6.2) ∧ w'.cell? ⟨Bm,14,none⟩=some (.bool q7.1) ∧ w'.cell? ⟨Bm,15,none⟩=some (.int .i64 q7.2)) (first | go_keep | (simp only [World.cell?_drew]; assumption) | assumption)
        ((go_at_call 16; (with_reducible refine CG3.out.mono ?_); rintro e w4 ⟨v',rfl,hb4,hg4⟩; obtain ⟨B5,n5,d5',B6,n6,d6',obs',rfl,hO5,hF5,hR6⟩:=hg4.ex; have hS4:=HS.out.drew.below hb4; obtain ⟨e16,e0,e1,e2,e3,e4,e5,e6,e7,e8,e9,e10,e11,e12,e13,e14,e15⟩:=HSEL.out w4 (hS4.get 2 rfl); obtain ⟨x1,x2,x3,x4⟩:=hS4.rules 1 (g:=g + 1) (t:=25) rfl; have HG4:=hide hg4; have HS4:=hide hS4; clear hO5 hF5 hR6 hS4 hg4 hb4 x4))
      all_goals
        have hsz:g + 1 < wr.drew.heap.size:=HS.out.drew.hi 1 rfl _ rfl
        have hws:w.heap.size ≤ wr.drew.heap.size:=HS.out.drew.below_.size
        go_wp2_with fail
        have hF:=(HS4.out.set_ 1 (g:=g + 1) (t:=25) rfl 0 (.slice B5 n5 d5')).set_ 1 (g:=g + 1) (t:=25) rfl 1 (.slice B6 n6 d6')
        refine bodyPost_ret (v:=.tuple #[.slice A k c,.agg #[.slice B5 n5 d5',.slice B6 n6 d6'],.int .i64 0]) (by simp [results,Tryz.results4,go_sem,x1]) rfl ⟨A,c,_,rfl,hF.below_,hF.rd 3 rfl,?_⟩
        have hc:Chg (fun g' => g'=g + 1) w4 ((w4.setCell ⟨g + 1,0,none⟩ (.slice B5 n5 d5')).setCell ⟨g + 1,1,none⟩ (.slice B6 n6 d6')):=((Chg.refl (fun g' => g'=g + 1) w4).setCell (p:=⟨g + 1,0,none⟩) (.inl rfl) _).setCell (p:=⟨g + 1,1,none⟩) (.inl rfl) _
        obtain ⟨C5,m5,k5,C6,m6,k6,obs2,he,hO5,hF5,hR6⟩:=HG4.out.ex
        rw [← HFF.out] at hF5
        rw [← HRR.out] at hR6
        rw [← HA.out]
        exact ⟨C5,m5,k5,C6,m6,k6,obs2,he,(hO5.chg hc (fun g' hg hd => by subst hg; omega)).more (fun k _ hk => by omega),hF5,(hR6.chg hc (fun g' hg hd => by subst hg; omega)).more (fun k _ hk => by omega)⟩
end Go.Proofs.YtjphckfbbiehdaaGreat
