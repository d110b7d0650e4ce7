/- Part of a proof. -/
import Derived.Maps.OwnOps
import Derived.Maps.OwnSet
import Derived.Test.YtjphckfbbiehdaaGreatSTopAll2
import Derived.Test.YtjphckfbbiehdaaGreatSTopAll20
import Derived.Test.YtjphckfbbiehdaaGreatSTopAll8
import Derived.Deep.RegionHeld3
import Derived.Laws.Rows
import Derived.Laws.Tables
set_option linter.unusedSimpArgs false
set_option linter.unusedVariables false
namespace Go.Proofs.YtjphckfbbiehdaaGreat
open Go.RowKit Go.Maps
def imL (b n:Nat) (D:DataW Unit):Item where
  fp k:=k=b
  P w:=w.ownsMap Tryz.prog 2 (plainElem Tryz.prog 2) b n D
  dom w h k hk:=by subst hk; exact World.ownsMap.lt h
  loc w w' _ hk h:=by obtain ⟨es,clock,hb,r⟩:=h; exact ⟨es,clock,(hk b rfl).trans hb,r⟩
set_option maxRecDepth 100000 in
theorem Sep.imLUpd {F:Nat → Prop} {W w:World} {items:List Item} (hS:Sep F W w items) (k:Nat) {b n:Nat} {D:DataW Unit} (hk:items[k]?=some (imL b n D)) (hn:n < maxLen) (y z:Int) (hy:(Lit.int .i64 y).wf=true) (hz:(Lit.int .i64 z).wf=true) :
    ∃ w',(Instr.mapUpdate 156 (.map (some b)) (.int .i64 y) (.int .i64 z)).run Tryz.prog w=.ok () w' ∧ Sep F W w' (items.set k (imL b (n + 1) (D.put (.int .i64 y) (.lit (.int .i64 z))))) ∧ Chg (fun g => g=b) w w':=by
  have hown:w.ownsMap Tryz.prog 2 (plainElem Tryz.prog 2) b n D:=hS.get k hk
  obtain ⟨w',hrun,r1,r2⟩:=hown.update (int_keyed Tryz.underlying2) Tryz.underlying156 hn (keyOf_int_mk Tryz.underlying2 hy) (plainElem_int Tryz.underlying2 hz)
  have hc:Chg (fun g => g=b) w w':=(Chg.of_grown r2).mono (fun g hx => .inl (by injection hx with hx; exact hx.symm))
  exact ⟨w',hrun,hS.step k hk hc (imL b (n + 1) (D.put (.int .i64 y) (.lit (.int .i64 z)))) r1 (fun g hg => .inl hg),hc⟩
set_option maxRecDepth 100000 in
theorem wpList_imLUpd {w:World} {ops:Array Oper} {rest:List Oper} {o:Oper} {a:Act} {Q:Exit → Act → World → Prop} (hgd:o.guard=none) (m x v:Operand) (hop:o.op=Op.mapUpdate 156 m x v)
    {F:Nat → Prop} {W:World} {items:List Item} (hS:Sep F W w items) (k:Nat) {b n:Nat} {D:DataW Unit} (hk:items[k]?=some (imL b n D)) (hn:n < maxLen) (y z:Int) (hm:a.eval m=.map (some b)) (hx:a.eval x=.int .i64 y) (hv:a.eval v=.int .i64 z)
    (hy:(Lit.int .i64 y).wf=true) (hz:(Lit.int .i64 z).wf=true) (h:∀ w',Sep F W w' (items.set k (imL b (n + 1) (D.put (.int .i64 y) (.lit (.int .i64 z))))) → wpList Tryz.prog ops Q rest (a.put o.dst undef) w'):wpList Tryz.prog ops Q (o :: rest) a w :=
  wpList_plain hgd fun K hK => by
    obtain ⟨w',hrun,hS',_⟩:=hS.imLUpd k hk hn y z hy hz
    unfold Oper.wp
    simp [execOp,hop,hm,hx,hv,hrun,Result.andThen]
    exact hK _ _ (h w' hS')
theorem zeroL_ (w:World):(zeroValue 2).run Tryz.prog w=.ok (.int .i64 0) w:=by kernel_rfl
set_option maxRecDepth 100000 in
theorem run_lookupL {w:World} {b n:Nat} {D:DataW Unit} (hown:w.ownsMap Tryz.prog 2 (plainElem Tryz.prog 2) b n D) (y z:Int) (hy:(Lit.int .i64 y).wf=true) (hz:D.atKey (.int .i64 y) (.lit (.int .i64 0))=.lit (.int .i64 z)):(Instr.lookup 156 (.map (some b)) (.int .i64 y) false).run Tryz.prog w=.ok (.int .i64 z) w:=by
  obtain ⟨c,hrun,hat,hwc⟩:=hown.lookup_int (int_keyed Tryz.underlying2) Tryz.underlying156 Tryz.underlying2 (zeroL_ w) (keyOf_int_mk Tryz.underlying2 hy)
  obtain rfl:c=z:=by
    have h9:=hz.symm.trans hat
    injection h9 with h9; injection h9 with _ h9; exact h9.symm
  exact hrun
theorem Sep.imLNew {F:Nat → Prop} {W w:World} {items:List Item} (hS:Sep F W w items) {g:Nat} (hg:w.heap.size=g):Sep F W (w.alloc (.map #[] 0)) (items ++ [imL g 0 (.map [])]):=by
  subst hg
  exact hS.snocNew ((Below.refl _ w).alloc (Nat.le_refl _) _) (imL w.heap.size 0 (.map [])) (World.ownsMap_made _ _ _ _) (fun g hg => by rw [show g=w.heap.size from hg]; exact Nat.le_refl _)
theorem litL_ne {x y:Int} (h:x ≠ y):(Lit.int .i64 x) ≠ .int .i64 y:=fun e => by injection e with _ e; exact h e
theorem wfL {x:Int} (h0:-1000 ≤ x) (h1:x ≤ 1000):(Lit.int .i64 x).wf=true:=WalkArith.wf_i64 (by omega)
structure AtD (l:List Int) (D:DataW Unit):Prop where
  map:Maps.IsMap D
  at_:∀ x:Int,D.atKey (.int .i64 x) (.lit (.int .i64 0))=.lit (.int .i64 (placeN l x))
theorem AtD.nil:AtD [] (.map []):=⟨⟨[],rfl⟩,fun x => by simp [DataW.atKey,placeN]⟩
theorem placeN_snoc {l:List Int} {x:Int} (hx:x ∉ l) (y:Int):placeN (l ++ [x]) y=if y=x then l.length else placeN l y:=by
  unfold placeN
  by_cases e:y=x
  · subst e
    rw [if_pos rfl,if_pos (by simp),List.idxOf_append,if_neg hx]
    simp
  · rw [if_neg e]
    by_cases h:y ∈ l
    · rw [if_pos h,if_pos (by simp [h]),List.idxOf_append,if_pos h]
    · rw [if_neg h,if_neg (by simp [h,e])]
theorem AtD.snoc {l:List Int} {D:DataW Unit} (h:AtD l D) {x:Int} (hx:x ∉ l):AtD (l ++ [x]) (D.put (.int .i64 x) (.lit (.int .i64 (l.length:Int)))):=by
  refine ⟨h.map.put _ _,fun y => ?_⟩
  rw [placeN_snoc hx]
  by_cases e:y=x
  · subst e
    rw [atKey_put_same (k:=Lit.int .i64 y) h.map trivial,if_pos rfl]
  · rw [atKey_put_other (litL_ne e),h.at_,if_neg e]
set_option maxRecDepth 100000 in
set_option maxHeartbeats 4000000 in
theorem turnP_any (w:World) (Bm b nn:Nat) (D:DataW Unit) (A:Option Addr) (n c N:Nat) (vs:List Val) (l:List Int) (hn:n ≤ 1000) (hnl:l.length ≤ 1000) (hv:Rd w (fun _ => True) 2 A n (vals vs)) (hB:Blk w Bm 156 #[.map (some b)]) (hM:(imL b nn D).P w) (hD:AtD l D) (hvs:ValsOk N vs) (hN:N ≤ 1000) :
    Calls Tryz.prog 61 #[.slice A n c,.pointer (some ⟨Bm,0,none⟩)] w fun e w' => ∃ A' c',e=.returned (.slice A' n c') ∧ Sep No w w' [rowI 63 2 A' n c' (vals (vs.map (turnL l)))]:=by
  have HLL:=hide (show vs.length=n by have:=hv.1; rw [vals_length] at this; omega)
  have HS0:=hide ((Sep.nil No w).nilRow 63 2)
  have HBB:=hide hB
  have HMM:=hide hM
  have HDD:=hide hD
  have HVS:=hide hvs
  clear hB hM hD hvs
  go_enter Tryz.func61,Tryz.ntmps61
  go_wp2_with fail
  go_loopw [4,9] (fun s5 i wr => ∃ (k:Nat) (A':Option Addr) (c':Nat),k ≤ n ∧ i=.int .i64 k ∧ s5=.slice A' k c' ∧ Sep No w wr [rowI 63 2 A' k c' (vals ((vs.take k).map (turnL l)))]) (fun _ i _ => n - (intOf i).toNat)
  case atStart => exact ⟨0,none,0,by omega,rfl,rfl,HS0.out⟩
  case round =>
    clear HS0
    obtain ⟨k,A',c',hk,rfl,rfl,hS⟩:=hrel
    by_cases hlt:k < n
    · have hkl:k < vs.length:=by rw [HLL.out]; exact hlt
      obtain ⟨ad,hA,_,had,hc,hd⟩:=(hv.below hS.below_).atN hlt
      obtain ⟨v0,v1⟩:=vals_at vs k hkl
      have e0:=hc _ v0
      have e1:=hd 0 _ v1
      have HT:=hide (List.take_succ_eq_append_getElem hkl)
      have hvk:=HVS.out _ (List.getElem_mem hkl)
      obtain ⟨x,hx⟩:∃ x,vs[k]=x:=⟨_,rfl⟩
      rw [hx] at e0 e1 HT hvk
      subst hA
      clear hc hd v0 v1 hx
      obtain ⟨b9,m⟩:=x
      dsimp only at e0 e1 hvk
      cases b9 with
      | false =>
        have HX:=hide (show turnL l (false,m)=(false,m) from rfl)
        clear hvk
        go_wp2_with (first
          | (at_builtin
             refine wpList_app1 (cs:=#[.bool false,.int .i64 m]) rfl (.tmp 20) (.tmp 22) 23 rfl sVal (hS.alloc _) 0 (n:=k) rfl rfl rfl (by simp) rfl rfl (by omega) ?_
             intro A4 c4 w4 hS4 hC4))
        go_roundw
        case rel => exact ⟨k + 1,A4,c4,by omega,by go_num,rfl,by rw [HT.out,List.map_append,List.map_cons,List.map_nil,HX.out,vals_snoc]; exact hS4⟩
        case measure => simp [intOf]; omega
      | true =>
        obtain ⟨r0,r1⟩:=hvk rfl
        have HX:=hide (show turnL l (true,m)=(true,(placeN l m:Int)) from rfl)
        have hbw:=(hS.alloc (.cells #[.bool true,.int .i64 m] 63)).below_
        have hM2:(imL b nn D).P (wr.alloc (.cells #[.bool true,.int .i64 m] 63)):=(imL b nn D).loc w _ hbw.size (fun k hk => hbw.block k ((imL b nn D).dom w HMM.out k hk)) HMM.out
        have q1:=run_lookupL hM2 m (placeN l m:Int) (wfL (by omega) (by omega)) (HDD.out.at_ m)
        obtain ⟨z1,z2,z3⟩:=(HBB.out.below_ hS.below_).rules
        have z4:=z1 0
        obtain ⟨q,hq⟩:∃ q,placeN l m=q:=⟨_,rfl⟩
        rw [hq] at q1 HX
        clear hq hbw hM2 hvk z1
        go_wp2_with (first
          | (at_builtin
             refine wpList_app1 (cs:=#[.bool true,.int .i64 q]) rfl (.tmp 20) (.tmp 22) 23 rfl sVal (hS.alloc _) 0 (n:=k) rfl rfl rfl (by simp) rfl rfl (by omega) ?_
             intro A4 c4 w4 hS4 hC4))
        go_roundw
        case rel => exact ⟨k + 1,A4,c4,by omega,by go_num,rfl,by rw [HT.out,List.map_append,List.map_cons,List.map_nil,HX.out,vals_snoc]; exact hS4⟩
        case measure => simp [intOf]; omega
    · obtain rfl:k=n:=by omega
      rw [show vs.take k=vs from List.take_of_length_le (by rw [HLL.out]; omega)] at hS
      go_wp2_with fail
      go_ret
      exact ⟨A',c',rfl,hS⟩
end Go.Proofs.YtjphckfbbiehdaaGreat

namespace Go.Proofs.YtjphckfbbiehdaaGreat
open Go.RowKit Go.Maps
set_option maxRecDepth 100000 in
set_option maxHeartbeats 16000000 in
theorem renumP_any (w:World) (v:Value) (Al:Option Addr) (nl cl:Nat) (fss:List (List Val)) (roots:List Val) (l:List Int) (h:GraphRd w (fun _ => True) v fss roots) (hl:Rd w (fun _ => True) 1 Al nl (ints l)) (hlr:∀ x ∈ l,0 ≤ x ∧ x < (fss.length:Int)) (hnd:l.Nodup) (hn:fss.length ≤ 1000) (hnl:nl ≤ 1000) (hr:roots.length ≤ 1000) (hf:∀ fs ∈ fss,fs.length ≤ 1000) (hvr:ValsOk fss.length roots) (hvg:∀ fs ∈ fss,ValsOk fss.length fs) :
    Calls Tryz.prog 42 #[v,.slice Al nl cl] w fun e w' => ∃ v',e=.returned v' ∧ Below w.heap.size w w' ∧ GraphRd w' (fun g => w.heap.size ≤ g) v' (renumF fss l) (roots.map (turnL l)):=by
  obtain ⟨AO,nO,cO,AR,nR,cR,obs,rfl,hO,h3,hR⟩:=h.ex
  have HRL:=hide (show roots.length=nR by have:=hR.1; rw [vals_length] at this; omega)
  have HLL:=hide (show l.length=nl by have:=hl.1; simpa using this)
  have HOL:=hide hO.len
  have hlen:fss.length=nO:=by rw [← h3,List.length_map]; exact hO.len
  rw [hlen] at hlr hn hvr
  simp only [hlen] at hvg
  have HF:=hide hf
  have H3:=hide h3
  have HLR:=hide hlr
  have HND:=hide hnd
  have HVR:=hide hvr
  have HVG:=hide hvg
  have hnR:nR ≤ 1000:=by have:=HRL.out; omega
  have hS0:=(((((Sep.nil No w).blkAt 25 #[.slice AO nO cO,.slice AR nR cR] rfl).blkAt 25 #[.slice none 0 0,.slice none 0 0] (g:=w.heap.size + 1) (by simp)).imLNew (g:=w.heap.size + 1 + 1) (by simp)).blkAt 156 #[.map (some (w.heap.size + 1 + 1))] (g:=w.heap.size + 1 + 1 + 1) (by simp))
  have HS0:=hide hS0
  have hmm:=@run_makeMap Tryz.prog
  clear hlr hf h3 hlen hr h hS0 hnd hvr hvg
  go_enter Tryz.func42,Tryz.ntmps42
  go_wp2_with fail
  go_loopw [15] (fun s wr => ∃ (k:Nat) (D:DataW Unit),k ≤ nl ∧ s=.int .i64 k ∧ Hid (AtD (l.take k) D) ∧ Sep No w wr [blkI w.heap.size 25 #[.slice AO nO cO,.slice AR nR cR],blkI (w.heap.size + 1) 25 #[.slice none 0 0,.slice none 0 0],imL (w.heap.size + 1 + 1) k D,blkI (w.heap.size + 1 + 1 + 1) 156 #[.map (some (w.heap.size + 1 + 1))]]) (fun s _ => nl - (intOf s).toNat)
  case atStart => exact ⟨0,.map [],by omega,rfl,by rw [List.take_zero]; exact AtD.nil,HS0.out⟩
  case round =>
    clear HS0
    obtain ⟨k,D,hk,rfl,HD,hS⟩:=hrel
    obtain ⟨x1,x2,x3,x4⟩:=hS.rules 3 (g:=w.heap.size + 1 + 1 + 1) (t:=156) rfl
    have x5:=x1 0
    by_cases hlt:k < nl
    · have hkl:k < l.length:=by rw [HLL.out]; exact hlt
      obtain ⟨ad,hA,_,had,hc⟩:=(hl.below hS.below_).at_ hlt
      have e0:=hc (.int .i64 l[k]) (by simp [ints,List.getElem?_eq_getElem hkl])
      obtain ⟨r1,r2⟩:=HLR.out _ (List.getElem_mem hkl)
      have HT:=hide (List.take_succ_eq_append_getElem hkl)
      have HNI:=hide (show l[k] ∉ l.take k from fun hm => by
        obtain ⟨j,hj,he⟩:=List.mem_iff_getElem.1 hm
        rw [List.getElem_take] at he
        rw [List.length_take] at hj
        have:=(List.nodup_iff_pairwise_ne.1 HND.out)
        rw [List.pairwise_iff_getElem] at this
        exact this j k (by omega) hkl (by omega) he)
      obtain ⟨x,hx⟩:∃ x,l[k]=x:=⟨_,rfl⟩
      rw [hx] at e0 r1 r2 HT HNI
      have hwf:=wfL (x:=x) (by omega) (by omega)
      have hwk:=wfL (x:=(k:Int)) (by omega) (by omega)
      have HD2:=hide (show AtD (l.take (k + 1)) (D.put (.int .i64 x) (.lit (.int .i64 (k:Int)))) from by
        rw [HT.out]
        have h:=HD.out.snoc HNI.out
        rw [List.length_take,Nat.min_eq_left (by omega)] at h
        exact h)
      subst hA
      clear hc hx x1 x4 HD HNI
      go_wp2_with (first
        | (at_mapUpdate
           refine wpList_imLUpd rfl (.tmp 20) (.tmp 21) (.tmp 22) rfl hS 2 rfl (by unfold maxLen; omega) x (k:Int) rfl rfl rfl hwf hwk ?_
           intro w4 hS4))
      go_roundw
      case rel => exact ⟨k + 1,_,by omega,by go_num,HD2,hS4⟩
      case measure => simp [intOf]; omega
    · obtain rfl:k=nl:=by omega
      rw [List.take_of_length_le (by rw [HLL.out]; omega)] at HD
      obtain ⟨i1,i2,i3,i4⟩:=hS.rules 0 (g:=w.heap.size) (t:=25) rfl
      have i5:=i1 0
      have i6:=i1 1
      have C1:=hide (fun (W:World) (A:Option Addr) (n c:Nat) (vs:List Val) (hB:Blk W (w.heap.size + 1 + 1 + 1) 156 #[.map (some (w.heap.size + 1 + 1))]) (hM:(imL (w.heap.size + 1 + 1) k D).P W) (hn1:n ≤ 1000) (hv:Rd W (fun _ => True) 2 A n (vals vs)) (hvs:ValsOk nO vs) =>
        turnP_any W (w.heap.size + 1 + 1 + 1) (w.heap.size + 1 + 1) k D A n c nO vs l hn1 (by rw [HLL.out]; exact hnl) hv hB hM HD.out hvs hn)
      have HS5:=hide hS
      clear x1 x2 x3 x4 x5 i1 i4 HD hS
      go_wp2_with fail
      refine (C1.out _ AR nR cR roots (HS5.out.get 3 rfl) (HS5.out.get 2 rfl) hnR (hR.below HS5.out.below_) HVR.out).mono ?_
      rintro e w3 ⟨Ar,cr,rfl,hP⟩
      have hS6:=((HS5.out.snocNew hP.below_ _ (hP.get 0 rfl) (fun g hg => (hP.lo 0 rfl g hg).resolve_left (fun h => h))).blkAt 25 #[.slice none 0 0,.slice Ar nR cr] (g:=w3.heap.size) rfl).nilRow0 83 1
      have HS6:=hide hS6
      clear i2 i3 i5 i6 hP hS6 HS5
      go_wp2_with fail
      go_loopw [32] (fun i wr2 => ∃ (q:Nat) (A':Option Addr) (c':Nat) (obs':List Ob),q ≤ k ∧ i=.int .i64 q ∧ Hid (obs'.map Ob.fields=(renumF fss l).take q) ∧
        Sep No w wr2 (rowI 83 1 A' q c' (obs'.map Ob.val) :: blkI w.heap.size 25 #[.slice AO nO cO,.slice AR nR cR] :: blkI (w.heap.size + 1) 25 #[.slice none 0 0,.slice none 0 0] :: imL (w.heap.size + 1 + 1) k D :: blkI (w.heap.size + 1 + 1 + 1) 156 #[.map (some (w.heap.size + 1 + 1))] :: rowI 63 2 Ar nR cr (vals (roots.map (turnL l))) :: blkI w3.heap.size 25 #[.slice A' q c',.slice Ar nR cr] :: obs'.map obI)) (fun i _ => k - (intOf i).toNat)
      case atStart => exact ⟨0,none,0,[],by omega,rfl,by simp [Hid],HS6.out⟩
      case round =>
        clear HS6
        obtain ⟨q,A',c',obs',hq,rfl,HO,hS⟩:=hrel
        by_cases hlq:q < k
        · have hkl:q < l.length:=by rw [HLL.out]; exact hlq
          obtain ⟨ad,hA,_,had,hc⟩:=(hl.below hS.below_).at_ hlq
          have e0:=hc (.int .i64 l[q]) (by simp [ints,List.getElem?_eq_getElem hkl])
          obtain ⟨r1,r2⟩:=HLR.out _ (List.getElem_mem hkl)
          have HT:=hide (renumF_take fss l q hkl)
          obtain ⟨x,hx⟩:=int_nat r1
          rw [hx] at e0 r2 HT
          have hxn:x < nO:=by omega
          have hxl:x < obs.length:=by rw [HOL.out]; exact hxn
          obtain ⟨ad2,hA2,_,had2,hc2⟩:=(hO.below hS.below_).row.at_ hxn
          have e1:=hc2 obs[x].val (by simp [List.getElem?_eq_getElem hxl])
          have hEach:=hO.each _ (List.getElem_mem hxl)
          have hFl:=hO.flen (List.getElem_mem hxl)
          have hfi:fieldsI fss (x:Int)=obs[x].fields:=by
            unfold fieldsI
            rw [← H3.out,List.getD_eq_getElem?_getD]
            simp [List.getElem?_eq_getElem hxl]
          have hfm:obs[x].fields ∈ fss:=by rw [← H3.out]; exact List.mem_map.2 ⟨_,List.getElem_mem hxl,rfl⟩
          have hfb:=HF.out _ hfm
          have hvb:=HVG.out _ hfm
          obtain ⟨o,ho⟩:∃ o,obs[x]=o:=⟨_,rfl⟩
          rw [hfi] at HT
          rw [ho] at e1 hEach hFl hfb hvb HT
          unfold Ob.val at e1
          rw [hFl] at hfb
          have C:=hide (fun W (hb:Below w.heap.size w W) (hB:Blk W (w.heap.size + 1 + 1 + 1) 156 #[.map (some (w.heap.size + 1 + 1))]) (hM:(imL (w.heap.size + 1 + 1) k D).P W) => C1.out W o.A o.n o.c o.fields hB hM hfb (hEach.below hb) hvb)
          obtain ⟨i1,i2,i3,i4⟩:=hS.rules 1 (g:=w.heap.size) (t:=25) rfl
          obtain ⟨j1,j2,j3,j4⟩:=hS.rules 6 (g:=w3.heap.size) (t:=25) rfl
          have i5:wr.cell? ⟨w.heap.size,0,none⟩=some (.slice AO nO cO):=by rw [i1]; rfl
          have j5:wr.cell? ⟨w3.heap.size,0,none⟩=some (.slice A' q c'):=by rw [j1]; rfl
          have i0:(0:Int) ≤ x:=by omega
          have hq0:(0:Int) ≤ (q:Int):=by omega
          have hq1:(q:Int) < (k:Int):=by omega
          subst hA hA2
          have HS:=hide hS
          clear hc hc2 r1 r2 hx hfi hFl hfb hEach ho hS i1 j1 i4 j4 had2 hfm hvb
          go_wp2_with fail
          clear e0
          go_region_law (first
            | (refine step_app1 (cs:=#[.slice A5 o.n c5]) rfl (.tmp 37) (.tmp 47) 22 rfl (F:=No) (W:=w) sObj (items:=_ :: _ :: _ :: _ :: _ :: _ :: _ :: _) hS5 0 (n:=q) rfl rfl rfl (by simp) rfl rfl (by omega) ?_
               intro A7 c7 w7 hS7 hC7
               obtain ⟨z1,z2,z3,z4⟩:=hS7.rules 6 (g:=w3.heap.size) (t:=25) rfl
               (have z5:w7.cell? ⟨w3.heap.size,0,none⟩=some (.slice A' q c'):=by rw [z1]; rfl)
               clear z1 z4)
            | (try go_simp
               go_at_call 61
               refine (C.out wr.drew HS.out.drew.below_ (HS.out.drew.get 4 rfl) (HS.out.drew.get 3 rfl)).mono ?_
               rintro e w4 ⟨A5,c5,rfl,hP5⟩
               have hS5:=HS.out.drew.snocNew hP5.below_ _ (hP5.get 0 rfl) (fun g hg => (hP5.lo 0 rfl g hg).resolve_left (fun h => h))
               obtain ⟨x1,x2,x3,x4⟩:=hS5.rules 6 (g:=w3.heap.size) (t:=25) rfl
               (have x5:w4.cell? ⟨w3.heap.size,0,none⟩=some (.slice A' q c'):=by rw [x1]; rfl)
               clear x1 x4))
          all_goals
            go_wp2_with fail
            go_roundw
            case rel =>
              refine ⟨q + 1,A7,c7,obs' ++ [⟨A5,o.n,c5,o.fields.map (turnL l)⟩],by omega,by go_num,?_,?_⟩
              · show _=_
                rw [HT.out,← HO.out]
                simp
              · rw [obs_snoc_,List.map_append]
                exact hS7.set_ 6 (g:=w3.heap.size) (t:=25) rfl 0 (.slice A7 (q + 1) c7)
            case measure => simp [intOf]; omega
        · obtain rfl:q=k:=by omega
          have hO2:obs'.map Ob.fields=renumF fss l:=by
            rw [HO.out]; exact List.take_of_length_le (by unfold renumF; rw [List.length_map,HLL.out]; omega)
          have HO2:=hide hO2
          obtain ⟨j1,j2,j3,j4⟩:=hS.rules 6 (g:=w3.heap.size) (t:=25) rfl
          obtain ⟨y1,y2,y3,y4⟩:=hS.rules 2 (g:=w.heap.size + 1) (t:=25) rfl
          have HS:=hide hS
          clear hO2 hS HO
          go_wp2_with fail
          have hF:=(HS.out.set_ 2 (g:=w.heap.size + 1) (t:=25) rfl 0 (.slice A' q c')).set_ 2 (g:=w.heap.size + 1) (t:=25) rfl 1 (.slice Ar nR cr)
          refine bodyPost_ret (v:=.agg #[.slice A' q c',.slice Ar nR cr]) (by simp [results,Tryz.results42,go_sem,y1]) rfl ⟨_,rfl,hF.below_,?_⟩
          refine ⟨_,_,_,_,_,_,obs',rfl,obs_read hF (fun o ho => ?_) 0 rfl,HO2.out,hF.rd 5 rfl⟩
          simp only [List.set_cons_succ,List.set_cons_zero,List.mem_cons,List.mem_map]
          exact .inr (.inr (.inr (.inr (.inr (.inr (.inr ⟨o,ho,rfl⟩))))))
end Go.Proofs.YtjphckfbbiehdaaGreat

namespace Go.Proofs.YtjphckfbbiehdaaGreat
open Go.RowKit
structure PtrsRd (w:World) (A:Option Addr) (n:Nat) (l:List (Option Nat × Ob)):Prop where
  row:Rd w (fun _ => True) 1 A n (l.map fun p => .pointer (p.1.map fun B => ⟨B,0,none⟩))
  each:∀ p ∈ l,∀ B,p.1=some B → B < w.heap.size ∧ w.cell? ⟨B,0,none⟩=some (.slice p.2.A p.2.n p.2.c) ∧ Rd w (fun _ => True) 2 p.2.A p.2.n (vals p.2.fields)
  gone:∀ p ∈ l,p.1=none → p.2=⟨none,0,0,[]⟩
theorem PtrsRd.len {w:World} {A:Option Addr} {n:Nat} {l:List (Option Nat × Ob)} (h:PtrsRd w A n l):l.length=n:=by
  have:=h.row.1; simpa using this
theorem PtrsRd.below {w w':World} {A:Option Addr} {n:Nat} {l:List (Option Nat × Ob)} (h:PtrsRd w A n l) (hb:Below w.heap.size w w'):PtrsRd w' A n l :=
  ⟨h.row.below hb,fun p hp B hB => by
    obtain ⟨h1,h2,h3⟩:=h.each p hp B hB
    exact ⟨Nat.lt_of_lt_of_le h1 hb.size,(World.cell?_of_block (a:=⟨B,0,none⟩) (hb.block B h1)).trans h2,h3.below hb⟩,h.gone⟩
theorem PtrsRd.obs {w:World} {A:Option Addr} {n:Nat} {l:List (Option Nat × Ob)} (h:PtrsRd w A n l):∀ o ∈ l.map (·.2),Rd w (fun _ => True) 2 o.A o.n (vals o.fields):=by
  intro o ho
  obtain ⟨p,hp,rfl⟩:=List.mem_map.1 ho
  cases hq:p.1 with
  | none => rw [h.gone p hp hq]; exact Rd.nil
  | some B => exact (h.each p hp B hq).2.2
theorem rd_of_blk {w:World} {g t:Nat} {cs:List Value} {size n:Nat} (h:Blk w g t cs.toArray) (hs:cs.length=n * size):Rd w (fun _ => True) size (some ⟨g,0,none⟩) n cs :=
  ⟨hs,fun _ => ⟨_,rfl,trivial,h.lt,fun j u hu => by rw [hraddr0,h.cell]; simpa using hu⟩⟩
set_option maxRecDepth 100000 in
set_option maxHeartbeats 16000000 in
theorem heapGraph_any (w:World) (As:Option Addr) (n c:Nat) (l:List (Option Nat × Ob)) (regs:List Val) (gs:List (List Val)) (hgs:l.map (fun p => p.2.fields)=gs) (hl:PtrsRd w As n l) (hn:n ≤ 600) (h8:regs.length=8) (h4:∀ p ∈ l,p.2.n ≤ 4) (hvr:ValsOk gs.length regs) (hvg:∀ fs ∈ gs,ValsOk gs.length fs) :
    Calls Tryz.prog 16 #[.slice As n c,.agg (vals regs).toArray] w fun e w' => ∃ v',e=.returned v' ∧ Below w.heap.size w w' ∧ GraphRd w' (fun g => w.heap.size ≤ g) v' (renumF gs (order gs regs)) (regs.map (turnL (order gs regs))):=by
  obtain ⟨g,hg⟩:∃ g,w.heap.size=g:=⟨_,rfl⟩
  have hS0:=((((Sep.nil No w).blkAt 65 (vals regs).toArray hg).blkAt 25 #[.slice none 0 0,.slice none 0 0] (g:=g + 1) (by simp [hg])).blkAt 25 #[.slice none 0 0,.slice (some ⟨g,0,none⟩) 8 8] (g:=g + 1 + 1) (by simp [hg])).nilRow 83 1
  have HS0:=hide hS0
  obtain ⟨a1,a2,a3,a4⟩:=hS0.rules 2 (g:=g + 1 + 1) (t:=25) rfl
  have HLL:=hide hl.len
  have HPT:=hide (fun (X:World) (hb:Below w.heap.size w X) => hl.below hb)
  have HGL:=hide (show gs.length=n by rw [← hgs,List.length_map]; exact hl.len)
  have HGS:=hide hgs
  have H4:=hide h4
  have HVR:=hide hvr
  have HVG:=hide hvg
  have HOB:=hide (show (l.map (·.2)).map Ob.fields=gs by rw [List.map_map]; exact hgs)
  have HVL:=hide (show (vals regs).length=8 * 2 by rw [vals_length,h8])
  obtain ⟨L,hL⟩:∃ L,order gs regs=L:=⟨_,rfl⟩
  rw [hL]
  obtain ⟨FF,hFF⟩:∃ F,renumF gs L=F:=⟨_,rfl⟩
  obtain ⟨RR,hRR⟩:∃ F,regs.map (turnL L)=F:=⟨_,rfl⟩
  rw [hFF,hRR]
  have HL:=hide hL
  have HFF:=hide hFF
  have HRR:=hide hRR
  clear hS0 a1 hl hgs h4 hvr hvg hL hFF hRR
  go_enter Tryz.func16,Tryz.ntmps16
  go_wp2_with fail
  go_loopw [14] (fun i wr => ∃ (k:Nat) (A':Option Addr) (c':Nat),k ≤ n ∧ i=.int .i64 k ∧
    Sep No w wr [blkI g 65 (vals regs).toArray,blkI (g + 1) 25 #[.slice none 0 0,.slice none 0 0],blkI (g + 1 + 1) 25 #[.slice A' k c',.slice (some ⟨g,0,none⟩) 8 8],rowI 83 1 A' k c' ((l.take k).map fun p => p.2.val)]) (fun i _ => n - (intOf i).toNat)
  case atStart => exact ⟨0,none,0,by omega,rfl,HS0.out⟩
  case round =>
    clear HS0 a2 a3
    obtain ⟨k,A',c',hk,rfl,hS⟩:=hrel
    obtain ⟨x1,x2,x3,_⟩:=hS.rules 2 (g:=g + 1 + 1) (t:=25) rfl
    have x5:=(x1 0).trans (show _=some (.slice A' k c') from rfl)
    have x6:=(x1 1).trans (show _=some (.slice (some ⟨g,0,none⟩) 8 8) from rfl)
    by_cases hlt:k < n
    · have hP:=HPT.out wr hS.below_
      obtain ⟨ad,hA,_,had,hc⟩:=hP.row.at_ hlt
      have hkl:k < l.length:=by rw [HLL.out]; exact hlt
      have e1:=hc (.pointer (l[k].1.map fun B => ⟨B,0,none⟩)) (by simp [List.getElem?_eq_getElem hkl])
      have hE:=hP.each _ (List.getElem_mem hkl)
      have hG:=hP.gone _ (List.getElem_mem hkl)
      have hT:=List.take_succ_eq_append_getElem hkl
      obtain ⟨⟨pB,o⟩,hp⟩:∃ p,l[k]=p:=⟨_,rfl⟩
      rw [hp] at e1 hE hG hT
      have HT:=hide (show (l.take (k + 1)).map (fun p => p.2.val)=(l.take k).map (fun p => p.2.val) ++ [Value.slice o.A o.n o.c] by rw [hT,List.map_append]; rfl)
      dsimp only at e1 hE hG
      subst hA
      cases pB with
      | none =>
        have hG2:=hG rfl
        subst hG2
        obtain ⟨b9,hb9⟩:∃ x,wr.heap.size=x:=⟨_,rfl⟩
        have hS1:=hS.blkAt 83 #[.slice none 0 0] hb9
        obtain ⟨y1,y2,y3,_⟩:=hS1.rules 2 (g:=g + 1 + 1) (t:=25) rfl
        have y5:=(y1 0).trans (show _=some (.slice A' k c') from rfl)
        obtain ⟨z1,z2,z3,_⟩:=hS1.rules 4 (g:=b9) (t:=83) rfl
        have z5:=(z1 0).trans (show _=some (.slice none 0 0) from rfl)
        have HS1:=hide hS1
        have HB9:=hide hb9
        obtain ⟨w1,hw1⟩:∃ x,wr.alloc (.cells #[.slice none 0 0] 83)=x:=⟨_,rfl⟩
        have HW1:=hide hw1
        rw [hw1] at y2 y3 y5 z2 z3 z5 HS1
        have z6:=(World.cell?_alloc_lt _ (.cells #[.slice none 0 0] 83) _ z3).trans z5
        have y6:=(World.cell?_alloc_lt _ (.cells #[.slice none 0 0] 83) _ y3).trans y5
        clear hc hE hG hP hT hp had hS hS1 hb9 hw1 x1 y1 z1
        go_wp2_with fail
        rw [HW1.out,HB9.out]
        go_region_law (first
          | (refine step_app1d (cs:=#[.slice none 0 0]) rfl (.tmp 23) (.tmp 27) 22 rfl (F:=No) (W:=w) sObj (items:=_ :: _ :: _ :: _ :: _) HS1.out 3 (n:=k) rfl rfl rfl (by simp) rfl rfl (by omega) ?_
             intro A7 c7 w7 hS7 hC7
             obtain ⟨u1,u2,u3,_⟩:=hS7.rules 2 (g:=g + 1 + 1) (t:=25) rfl
             (have u5:=(u1 0).trans (show _=some (.slice A' k c') from rfl))
             clear u1 hC7))
        all_goals
          go_wp2_with fail
          go_roundw
          case rel => exact ⟨k + 1,A7,c7,by omega,by go_num,by
            rw [HT.out]
            exact (hS7.set_ 2 (g:=g + 1 + 1) (t:=25) rfl 0 (.slice A7 (k + 1) c7)).sub (List.sublist_append_left [_,_,_,_] [_])⟩
          case measure => simp [intOf]; omega
      | some B =>
        obtain ⟨z3,z5,_⟩:=hE B rfl
        have z6:=(World.cell?_alloc_lt _ (.cells #[.slice o.A o.n o.c] 83) _ z3).trans z5
        have y6:=(World.cell?_alloc_lt _ (.cells #[.slice o.A o.n o.c] 83) _ x3).trans x5
        have HS1:=hide hS
        obtain ⟨oA,on,oc,ofs⟩:=o
        dsimp only at z5 z6 y6 HT
        clear hc hE hG hP hT hp had hS x1
        go_wp2_with fail
        go_region_law (first
          | (refine step_app1d (cs:=#[.slice oA on oc]) rfl (.tmp 23) (.tmp 27) 22 rfl (F:=No) (W:=w) sObj (items:=_ :: _ :: _ :: _ :: _) HS1.out 3 (n:=k) rfl rfl rfl (by simp) rfl rfl (by omega) ?_
             intro A7 c7 w7 hS7 hC7
             obtain ⟨u1,u2,u3,_⟩:=hS7.rules 2 (g:=g + 1 + 1) (t:=25) rfl
             (have u5:=(u1 0).trans (show _=some (.slice A' k c') from rfl))
             clear u1 hC7))
        all_goals
          go_wp2_with fail
          go_roundw
          case rel => exact ⟨k + 1,A7,c7,by omega,by go_num,by
            rw [HT.out]
            exact hS7.set_ 2 (g:=g + 1 + 1) (t:=25) rfl 0 (.slice A7 (k + 1) c7)⟩
          case measure => simp [intOf]; omega
    · obtain rfl:k=n:=by omega
      rw [List.take_of_length_le (by rw [HLL.out]; exact Nat.le_refl _)] at hS
      have hOB:∀ X,Sep No w X [blkI g 65 (vals regs).toArray,blkI (g + 1) 25 #[.slice none 0 0,.slice none 0 0],blkI (g + 1 + 1) 25 #[.slice A' k c',.slice (some ⟨g,0,none⟩) 8 8],rowI 83 1 A' k c' (l.map fun p => p.2.val)] → ObsRd X (fun _ => True) A' k (l.map (·.2)) ∧ Rd X (fun _ => True) 2 (some ⟨g,0,none⟩) 8 (vals regs):=fun X hX =>
        ⟨⟨by have:=hX.rd_ 3 rfl; rw [List.map_map]; exact this,(HPT.out X hX.below_).obs⟩,rd_of_blk (hX.get 0 rfl) HVL.out⟩
      have hF4:∀ o ∈ l.map (·.2),o.n ≤ 4:=fun o ho => by
        obtain ⟨p,hp,rfl⟩:=List.mem_map.1 ho
        exact H4.out p hp
      have hok:=order_ok HVG.out HVR.out
      have hf4:∀ fs ∈ gs,fs.length ≤ 4:=fun fs hfs => by
        rw [← HOB.out] at hfs
        obtain ⟨o,ho,rfl⟩:=List.mem_map.1 hfs
        have h1:=hF4 o ho
        have h2:=(hOB wr hS).1.flen ho
        omega
      have CF:=found_any wr A' (some ⟨g,0,none⟩) k c' 8 8 (l.map (·.2)) regs gs HOB.out (hOB wr hS).1 (hOB wr hS).2 (by omega) (by omega) (fun o ho => by have:=hF4 o ho; omega) HVG.out HVR.out
      rw [(fndAll_eq HVG.out HVR.out).1] at CF
      have CR:=hide (fun (X:World) (A:Option Addr) (m d:Nat) (hX:Sep No w X [blkI g 65 (vals regs).toArray,blkI (g + 1) 25 #[.slice none 0 0,.slice none 0 0],blkI (g + 1 + 1) 25 #[.slice A' k c',.slice (some ⟨g,0,none⟩) 8 8],rowI 83 1 A' k c' (l.map fun p => p.2.val)]) (hr:Rd X (fun _ => True) 1 A m (ints (order gs regs))) =>
        renumP_any X _ A m d gs regs (order gs regs) (by have h:=graphRd_of (cO:=c') (hOB X hX).1 (cR:=8) (hOB X hX).2; rw [HOB.out] at h; exact h) hr hok.rng hok.nodup (by rw [HGL.out]; omega) (by have h1:(order gs regs).length=m:=(by have:=hr.1; simpa using this); have:=hok.len; have:=HGL.out; omega) (by omega) (fun fs hfs => by have:=hf4 fs hfs; omega) HVR.out HVG.out)
      simp only [HL.out] at CF CR
      generalize (fndAll gs regs).2=DD at CF
      have HCF:=hide CF
      have HS:=hide hS
      simp only [HFF.out,HRR.out] at CR
      clear hOB hF4 hok hf4 CF hS x1 hk
      go_wp2_with fail
      refine HCF.out.mono ?_
      rintro e w3 ⟨A5,n5,c5,A6,c6,rfl,hP5⟩
      have hS3:=HS.out.below hP5.below_
      have CR3:=hide (CR.out w3 A5 n5 c5 hS3 (hP5.rd_ 0 rfl))
      obtain ⟨y1,y2,y3,_⟩:=hS3.rules 2 (g:=g + 1 + 1) (t:=25) rfl
      have y5:=(y1 0).trans (show _=some (.slice A' k c') from rfl)
      have y6:=(y1 1).trans (show _=some (.slice (some ⟨g,0,none⟩) 8 8) from rfl)
      have HS3:=hide hS3
      clear hP5 hS3 HS HCF CR y1 x2 x3 x5 x6
      go_wp2_with fail
      refine CR3.out.mono ?_
      rintro e w4 ⟨v',rfl,hb4,hg4⟩
      obtain ⟨B5,n5',d5,B6,n6,d6,obs',rfl,hO5,hF5,hR6⟩:=hg4.ex
      have hS4:=HS3.out.below hb4
      obtain ⟨x1,x2,x3,x4⟩:=hS4.rules 1 (g:=g + 1) (t:=25) rfl
      have hsz:g + 1 < w3.heap.size:=HS3.out.hi 1 rfl _ rfl
      have hws:w.heap.size ≤ w3.heap.size:=HS3.out.below_.size
      have HG4:=hide hg4
      have HS4:=hide hS4
      clear hO5 hF5 hR6 hS4 hg4 hb4 HS3 CR3 x4 y2 y3 y5 y6
      go_wp2_with fail
      have hF:=(HS4.out.set_ 1 (g:=g + 1) (t:=25) rfl 0 (.slice B5 n5' d5)).set_ 1 (g:=g + 1) (t:=25) rfl 1 (.slice B6 n6 d6)
      refine bodyPost_ret (v:=.agg #[.slice B5 n5' d5,.slice B6 n6 d6]) (by simp [results,Tryz.results16,go_sem,x1]) rfl ⟨_,rfl,hF.below_,?_⟩
      have hc:Chg (fun g' => g'=g + 1) w4 ((w4.setCell ⟨g + 1,0,none⟩ (.slice B5 n5' d5)).setCell ⟨g + 1,1,none⟩ (.slice B6 n6 d6)):=((Chg.refl (fun g' => g'=g + 1) w4).setCell (p:=⟨g + 1,0,none⟩) (.inl rfl) _).setCell (p:=⟨g + 1,1,none⟩) (.inl rfl) _
      obtain ⟨C5,m5,k5,C6,m6,k6,obs2,he,hO5,hF5,hR6⟩:=HG4.out.ex
      exact ⟨C5,m5,k5,C6,m6,k6,obs2,he,(hO5.chg hc (fun g' hg hd => by subst hg; omega)).more (fun k _ hk => by omega),hF5,(hR6.chg hc (fun g' hg hd => by subst hg; omega)).more (fun k _ hk => by omega)⟩
end Go.Proofs.YtjphckfbbiehdaaGreat

namespace Go.Proofs.YtjphckfbbiehdaaGreat
open Go.RowKit
theorem first_cells (nR:Nat) (roots:List Val) (hl:roots.length=nR) (h8:nR ≤ 8):((vals (zeroVs 8)).toArray.toList.take 0 ++ vals roots ++ (vals (zeroVs 8)).toArray.toList.drop (0 + (vals roots).length))=vals (padR roots nR):=by
  rw [vals_length,hl,Nat.zero_add]
  unfold padR
  rw [List.take_zero,List.nil_append,List.take_of_length_le (by omega),vals_app,← vals_rep nR h8]
theorem padR_zero (l:List Val) (h:l.length=0):padR l 0=zeroVs 8:=by
  cases l with
  | nil => rfl
  | cons a l => simp at h
set_option maxRecDepth 100000 in
set_option maxHeartbeats 8000000 in
theorem heapFirst_any (w:World) (AO AR:Option Addr) (nO cO nR cR:Nat) (roots:List Val) (hR:Rd w (fun _ => True) 2 AR nR (vals roots)) (hnR:nR ≤ 8) :
    Calls Tryz.prog 14 #[.agg #[.slice AO nO cO,.slice AR nR cR]] w fun e w' => e=.returned (.agg (vals (padR roots nR)).toArray) ∧ Below w.heap.size w w':=by
  have hrl:roots.length=nR:=by have:=hR.1; rw [vals_length] at this; omega
  obtain ⟨g,hg⟩:∃ g,w.heap.size=g:=⟨_,rfl⟩
  have hmx:Tryz.prog.follows .mixedOrders=true:=by kernel_rfl
  have hS0:=(((Sep.nil No w).blkAt 25 #[.slice AO nO cO,.slice AR nR cR] hg).blkAt 65 (vals (zeroVs 8)).toArray (g:=g + 1) (by simp [hg])).blkAt 65 (vals (zeroVs 8)).toArray (g:=g + 1 + 1) (by simp [hg])
  have hlit:(vals (zeroVs 8)).toArray=#[.bool false,.int .i64 0,.bool false,.int .i64 0,.bool false,.int .i64 0,.bool false,.int .i64 0,.bool false,.int .i64 0,.bool false,.int .i64 0,.bool false,.int .i64 0,.bool false,.int .i64 0]:=rfl
  rw [hlit] at hS0
  obtain ⟨W,hW⟩:∃ X,((w.alloc (.cells #[.slice AO nO cO,.slice AR nR cR] 25)).alloc (.cells #[.bool false,.int .i64 0,.bool false,.int .i64 0,.bool false,.int .i64 0,.bool false,.int .i64 0,.bool false,.int .i64 0,.bool false,.int .i64 0,.bool false,.int .i64 0,.bool false,.int .i64 0] 65)).alloc (.cells #[.bool false,.int .i64 0,.bool false,.int .i64 0,.bool false,.int .i64 0,.bool false,.int .i64 0,.bool false,.int .i64 0,.bool false,.int .i64 0,.bool false,.int .i64 0,.bool false,.int .i64 0] 65)=X:=⟨_,rfl⟩
  rw [hW] at hS0
  have hb:=hS0.below_
  obtain ⟨a1,_,a3,_⟩:=hS0.rules 0 (g:=g) (t:=25) rfl
  have a5:=(a1 1).trans (show _=some (.slice AR nR cR) from rfl)
  obtain ⟨W',hcp,hS2⟩:∃ W',(Builtin.copy_ #[23,23] 3 #[.slice (some ⟨g + 1 + 1,0,none⟩) 8 8,.slice AR nR cR]).run Tryz.prog W.drew=.ok (goInt nR) W' ∧ Sep No w W' [blkI g 25 #[.slice AO nO cO,.slice AR nR cR],blkI (g + 1) 65 (vals (zeroVs 8)).toArray,blkI (g + 1 + 1) 65 (vals (padR roots nR)).toArray]:=by
    rw [← hlit] at hS0
    rcases Nat.eq_zero_or_pos nR with h0 | h0
    · subst h0
      refine ⟨W.drew,run_copy_noneN W.drew 23 23 3 63 2 8 8 cR _ AR Tryz.underlying23 vSize,?_⟩
      rw [padR_zero roots hrl]
      exact hS0.drew
    · obtain ⟨ad,hA,_,_,hc⟩:=(hR.below hb).2 h0
      subst hA
      have hB:Blk W (g + 1 + 1) 65 (vals (zeroVs 8)).toArray:=hS0.get 2 rfl
      have hvl:=vals_length roots
      have hz:(vals (zeroVs 8)).length=16:=vals_length _
      have hrun:=run_copy_rowN (P:=Tryz.prog) W.drew 23 23 3 63 2 nR (g + 1 + 1) 0 8 8 ad nR cR (vals (zeroVs 8)).toArray 65 (vals roots) Tryz.underlying23 vSize hB (Nat.min_eq_left hnR) (by omega) hc (by rw [List.size_toArray]; omega) (fun v hv => by
        unfold vals at hv
        obtain ⟨x,_,hx⟩:=List.mem_flatMap.1 hv
        rcases List.mem_cons.1 hx with rfl | hx
        · rfl
        · rw [List.mem_singleton.1 hx]; rfl)
      rw [first_cells nR roots hrl hnR] at hrun
      refine ⟨_,hrun,?_⟩
      have hst:=hS0.drew.step 2 rfl (w':=W.drew.setRow (g + 1 + 1) (vals (padR roots nR)).toArray) ⟨rfl,rfl,rfl,by simp [World.setRow],fun k _ hk => setRow_other _ _ _ _ (fun e => hk e)⟩ (blkI (g + 1 + 1) 65 (vals (padR roots nR)).toArray) (setRow_heap _ _ _ _ _ _ hB) (fun _ h => .inl h)
      exact hst
  have hpl:=padR_len roots nR (by omega) hnR
  have hi16:(Tryz.prog.info? 65).map (·.size)=some 16:=by kernel_rfl
  have hcs:(vals (padR roots nR)).toArray.size=16:=by rw [List.size_toArray,vals_length,hpl]
  have hone:(vals (padR roots nR)).toArray.all (·.oneCell')=true:=by
    rw [List.all_toArray]
    unfold vals
    rw [List.all_flatMap]
    simp [Value.oneCell']
  obtain ⟨CS,hCS⟩:∃ c,(vals (padR roots nR)).toArray=c:=⟨_,rfl⟩
  rw [hCS] at hS2 hcs hone ⊢
  have hB1:Blk W' (g + 1) 65 (vals (zeroVs 8)).toArray:=hS2.get 1 rfl
  have hB2:Blk W' (g + 1 + 1) 65 CS:=hS2.get 2 rfl
  have hZ:(vals (zeroVs 8)).toArray.size=CS.size:=by rw [hcs]; rfl
  rw [← hcs] at hi16
  have HB1:=hide hB1
  have HB2:=hide hB2
  have HS2:=hide hS2
  have HI:=hide hi16
  have HZ:=hide hZ
  have HO:=hide hone
  clear hS0 hb hS2 a1 hpl hB1 hB2 hcs hi16 hZ hone hCS hR hrl
  go_enter Tryz.func14,Tryz.ntmps14
  go_wp2_with fail
  clear hW
  go_still_tail 3,hmx
  go_wp2_with (first
    | (refine wpList_load_row rfl 65 (.tmp 3) rfl (g + 1 + 1) rfl 65 CS (0,0) _ HB2.out Tryz.underlying65 rfl HI.out ?_)
    | (refine wpList_store_row rfl 65 (.tmp 2) (.tmp 8) rfl (g + 1) CS rfl rfl 65 (vals (zeroVs 8)).toArray HB1.out HI.out HZ.out HO.out ?_))
  have hF:=setRow_heap W' (g + 1) _ CS _ _ HB1.out
  have hb2:Below w.heap.size w (W'.setRow (g + 1) CS):=below_setRow HS2.out.below_ (by omega) CS
  refine bodyPost_ret (v:=.agg CS) (results_cell_row Tryz.results14 _ _ (g + 1) 65 CS (0,0) _ rfl hF Tryz.underlying65 rfl HI.out) rfl ⟨rfl,hb2⟩
end Go.Proofs.YtjphckfbbiehdaaGreat

namespace Go.Proofs.YtjphckfbbiehdaaGreat
open Go.RowKit
theorem row2 {F:Nat → Prop} {W w:World} {items:List Item} (h:Sep F W w items) (k:Nat) {g t:Nat} (hk:items[k]?=some (blkI g t #[])):Sep F W w (items.set k (rowI t 2 (some ⟨g,0,none⟩) 0 0 [])) :=
  h.step k hk (Chg.refl _ w) _ ⟨by simp,.inr ⟨g,0,#[],rfl,Nat.zero_le _,h.get k hk,Nat.le_refl _,by simp only [maxLen]; omega,rfl,by simp⟩⟩ (fun g' hg => .inl (by
    have:g=g':=by simpa [rowI,Value.ownBlock] using hg
    exact this.symm))
theorem eqlNilV (w:World):(binOp .eql 23 (.slice none 0 0) (.slice none 0 0)).run Tryz.prog w=.ok (.bool true) w:=by kernel_rfl
theorem eqlSomeV (w:World) (ad:Addr) (n c:Nat):(binOp .eql 23 (.slice (some ad) n c) (.slice none 0 0)).run Tryz.prog w=.ok (.bool false) w:=by
  have h:=run_equal_slice_nil (P:=Tryz.prog) w 23 63 (some ad) n c Tryz.underlying23
  unfold binOp
  simp [h,go_sem]
theorem vals_one (l:List Val):∀ u ∈ vals l,u.oneCell'=true:=fun u hu => by
  unfold vals at hu
  obtain ⟨v,_,hv⟩:=List.mem_flatMap.1 hu
  simp at hv
  rcases hv with rfl | rfl <;> rfl
set_option maxRecDepth 100000 in
set_option maxHeartbeats 1600000 in
theorem cloneV_any (w:World) (A:Option Addr) (n c:Nat) (xs:List Val) (hA:A=none → c=0) (hn:n ≤ 1000) (hR:Rd w (fun _ => True) 2 A n (vals xs)) :
    Calls Tryz.prog 37 #[.slice A n c] w fun e w' => ∃ A' c',e=.returned (.slice A' n c') ∧ Sep No w w' [rowI 63 2 A' n c' (vals xs)]:=by
  cases A with
  | none =>
    obtain rfl:=hA rfl
    have hn0:n=0:=by
      rcases Nat.eq_zero_or_pos n with h | h
      · exact h
      · obtain ⟨ad,h1,_⟩:=hR.2 h; cases h1
    subst hn0
    have hx:vals xs=[]:=List.eq_nil_of_length_eq_zero (by have:=hR.1; simpa using this)
    rw [hx]
    have HS:=hide ((Sep.nil No w).nilRow 63 2)
    clear hx hR
    have hnil:=eqlNilV
    go_enter Tryz.func37,Tryz.ntmps37
    go_wp2_with fail
    go_ret
    exact ⟨none,0,rfl,HS.out⟩
  | some ad =>
    have hS:=row2 ((Sep.nil No w).blkAt 63 #[] rfl) 0 rfl
    have hR1:=hR.below hS.below_
    have hnil:=eqlSomeV
    go_enter Tryz.func37,Tryz.ntmps37
    go_wp2_with (first
      | (at_builtin
         refine wpList_app rfl (.tmp 5) (.tmp 6) 23 rfl sVal hS 0 (n:=0) rfl rfl rfl hR1 (vals_one _) (by omega) ?_
         intro A4 c4 w4 hS4 hC4))
    go_ret
    rw [Nat.zero_add] at hS4
    exact ⟨A4,c4,by first | rfl | simp,hS4⟩
end Go.Proofs.YtjphckfbbiehdaaGreat
