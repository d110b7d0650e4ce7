/- Part of a proof. -/
import Derived.Laws.EntriesVeiled
import Derived.Sort.LoopGhostIn
import Derived.Test.YtjphckfbbiehdaaGreatSTopAll5
import Derived.Test.YtjphckfbbiehdaaGreatSTopAll7
import Derived.Test.YtjphckfbbiehdaaGreatSTopAll2
import Derived.Test.YtjphckfbbiehdaaGreatSTopAll6
import Derived.Deep.RegionHeld3
import Derived.Test.YtjphckfbbiehdaaGreatSTopAll0
import Derived.SizedLaws
set_option linter.unusedSimpArgs false
set_option linter.unusedVariables false
namespace Go.Proofs.YtjphckfbbiehdaaGreat
open Go.RowKit Go.Shelf
attribute [local go_sem] Oper.semAt_some
theorem fInt:(Tryz.prog.info? 3).map (fun i => (i.zero,i.size,i.bytes))=some (some (.int .i64 0),1,8):=by kernel_rfl
def negs (n k:Nat):List Int:=List.replicate k (-1) ++ List.replicate (n - k) 0
theorem negs_zero (n:Nat):negs n 0=List.replicate n 0:=by simp [negs]
theorem negs_end (n:Nat):negs n n=List.replicate n (-1):=by simp [negs]
theorem negs_set (n k:Nat) (h:k < n):(negs n k).set k (-1)=negs n (k + 1):=by
  unfold negs
  rw [List.set_append_right _ _ (by simp),List.length_replicate,Nat.sub_self,show n - k=(n - (k + 1)) + 1 from by omega,List.replicate_succ,List.set_cons_zero,List.replicate_succ',List.append_assoc]
  rfl
theorem own_addr' {w:World} {b e size n c:Nat} {A:Option Addr} {xs:List Value} (h:w.ownsRow b e size (.slice A n c) n xs) (hn:0 < n):∃ g,A=some ⟨g,0,none⟩:=by
  rcases h.2 with ⟨hv,_⟩ | ⟨g,cap,cur,hv,_⟩
  · injection hv with _ h1 _; omega
  · injection hv with h1 _ _; exact ⟨g,h1⟩
theorem ints_get' (l:List Int) (k:Nat) (h:k < l.length):(ints l)[k]?=some (.int .i64 l[k]):=by simp [ints,List.getElem?_eq_getElem h]
theorem fnd_done (gs:List (List Val)) (f j:Nat) (σ:List Int × List Int) (h:¬ j < σ.1.length):fnd gs f j σ=σ:=by
  cases f with
  | zero => rfl
  | succ f => unfold fnd; rw [if_neg h]
theorem fnd_step (gs:List (List Val)) (n j:Nat) (σ:List Int × List Int) (h:j < σ.1.length) (hj:j < n):fnd gs (n - j) j σ=fnd gs (n - (j + 1)) (j + 1) (tkAll (σ.2.getD (σ.1.getD j 0).toNat 0 + 1) (fieldsI gs (σ.1.getD j 0)) σ):=by
  rw [show n - j=(n - (j + 1)) + 1 from by omega]
  conv => lhs; unfold fnd
  rw [if_pos h]
def tkI (t:Int) (xs:List Int) (σ:List Int × List Int):List Int × List Int:=tkAll t (xs.map fun x => (true,x)) σ
theorem tkI_tgts (t:Int) (vs:List Val) (σ:List Int × List Int):tkI t (tgts vs) σ=tkAll t vs σ:=by
  unfold tkI tgts
  induction vs generalizing σ with
  | nil => rfl
  | cons v vs ih =>
    obtain ⟨b,x⟩:=v
    cases b with
    | false =>
      rw [List.filterMap_cons_none (by simp),ih,tkAll_cons,tk1_no (.inl rfl)]
    | true =>
      rw [List.filterMap_cons_some (b:=x) (by simp),List.map_cons,tkAll_cons,tkAll_cons,ih]
theorem tkI_snoc (t:Int) (xs:List Int) (x:Int) (σ:List Int × List Int):tkI t (xs ++ [x]) σ=tk1 t (tkI t xs σ) (true,x):=by
  unfold tkI
  rw [List.map_append,List.map_cons,List.map_nil,tkAll_snoc]
theorem tgts_rng {n:Nat} {vs:List Val} (h:ValsOk n vs) {x:Int} (hx:x ∈ tgts vs):0 ≤ x ∧ x < (n:Int):=h _ (tgts_mem.1 hx) rfl
theorem tkI_ok {n:Nat} {t:Int} {vs:List Val} {σ:List Int × List Int} (hv:ValsOk n vs) (ht:0 ≤ t ∧ t < n + 1) (h:FOk n σ) {xs:List Int} (hx:∀ x ∈ xs,x ∈ tgts vs):FOk n (tkI t xs σ) ∧ Tkn n t σ (tkI t xs σ):=by
  have hv2:ValsOk n (xs.map fun x => ((true,x):Val)):=fun v hv2 _ => by
    obtain ⟨x,hx2,rfl⟩:=List.mem_map.1 hv2
    exact tgts_rng hv (hx x hx2)
  exact ⟨(FOk.tkAll ht _ h hv2).1,Tkn.all ht _ h hv2⟩
theorem fdIt_tame (B Bd Bl gd n:Nat) (s:FdS):Tame B (fdIt Bd Bl gd n s):=Tame.all fun i hi => by
  simp only [FdI,List.mem_cons,List.not_mem_nil,or_false] at hi
  rcases hi with rfl | rfl | rfl | rfl
  · exact Tame.row _ _ _ _ _ _ _
  · exact Tame.row _ _ _ _ _ _ _
  · exact Tame.blk _ _ _ _
  · exact Tame.blk _ _ _ _
theorem perm_fd {α:Type} (bg di bd bl bf bt rl:α):[bg,di,bd,bl,bf,bt,rl].Perm [rl,di,bd,bl,bg,bf,bt]:=by
  classical
  rw [List.perm_iff_count]
  intro x
  simp only [List.count_cons,List.count_nil]
  omega
set_option maxRecDepth 100000 in
set_option maxHeartbeats 2500000 in
theorem found_any (w:World) (AO AR:Option Addr) (nO cO nR cR:Nat) (obs:List Ob) (roots:List Val) (gs:List (List Val)) (hgs:obs.map Ob.fields=gs) (hO:ObsRd w (fun _ => True) AO nO obs) (hR:Rd w (fun _ => True) 2 AR nR (vals roots))
    (hnO:nO ≤ 1000) (hnR:nR ≤ 1000) (hF:∀ o ∈ obs,o.n ≤ 1000) (hvg:∀ fs ∈ gs,ValsOk gs.length fs) (hvr:ValsOk gs.length roots) :
    Calls Tryz.prog 41 #[.agg #[.slice AO nO cO,.slice AR nR cR]] w fun e w' => ∃ A n c A2 c2,e=.returned (.tuple #[.slice A n c,.slice A2 nO c2]) ∧
      Sep No w w' [rowI 3 1 A n c (ints (fndAll gs roots).1),rowI 3 1 A2 nO c2 (ints (fndAll gs roots).2)]:=by
  have hS0:=(Sep.nil No w).blkAt 25 #[.slice AO nO cO,.slice AR nR cR] rfl
  obtain ⟨a1,a2,a3,a4⟩:=hS0.rules 0 (g:=w.heap.size) (t:=25) rfl
  have a5:=a1 0
  have a6:=a1 1
  have HS0:=hide hS0
  have HGL:=hide (show gs.length=nO by rw [← hgs,List.length_map]; exact hO.len)
  have HVR:=hide hvr
  have HVG:=hide hvg
  have HGS:=hide hgs
  have HOO:=hide (hO.more (D':=fun g => g < w.heap.size) (fun g hg _ => hg))
  have HFF:=hide hF
  clear hS0 a1 a4 hvr hvg hgs hO hF
  refine (callsIn_wide (n:=10)).1 ?_
  refine callsIn_of_wp_calm Tryz.func41 rfl trivial ?_ rfl
  simp only [Tryz.ntmps41,List.size_toArray,List.length_cons,List.length_nil,Nat.reduceAdd,Nat.reduceSub,Array.replicate_succ,Array.replicate_zero,List.push_toArray,List.append_toArray,List.nil_append,List.cons_append]
  gi_wp2_with (first
    | (gi_at_make
       refine wpListIn_make rfl (.tmp 13) (.tmp 13) 33 rfl HS0.out Tryz.underlying33 fInt (by omega) .i64 .i64 nO rfl rfl (by omega) ?_
       intro w1 hS1 hb1
       rw [dMadeInts] at hS1
       have a5:w1.cell? ⟨w.heap.size,0,none⟩=some (.slice AO nO cO):=by rw [(hS1.rules 0 (g:=w.heap.size) (t:=25) rfl).1]; rfl
       have a6:w1.cell? ⟨w.heap.size,1,none⟩=some (.slice AR nR cR):=by rw [(hS1.rules 0 (g:=w.heap.size) (t:=25) rfl).1]; rfl
       have hsz1:=hb1.size
       rw [World.size_alloc] at hS1 hsz1))
  have hS2:=hS1.blkAt 33 #[.slice (some ⟨w.heap.size + 1,0,none⟩) nO nO] rfl
  rw [← negs_zero] at hS2
  have HS2:=hide hS2
  clear hS1 hS2 hb1 HS0
  gi_loopw [17] (fun i wr => ∃ k:Nat,k ≤ nO ∧ i=.int .i64 k ∧ Sep No w wr [blkI w.heap.size 25 #[.slice AO nO cO,.slice AR nR cR],rowI 3 1 (some ⟨w.heap.size + 1,0,none⟩) nO nO (ints (negs nO k)),blkI w1.heap.size 33 #[.slice (some ⟨w.heap.size + 1,0,none⟩) nO nO]]) (fun i _ => nO - (intOf i).toNat)
  case atStart => exact ⟨0,by omega,rfl,HS2.out⟩
  case round =>
    clear HS2
    obtain ⟨k,hk,rfl,hS⟩:=hrel
    obtain ⟨b1,b2,b3,b4⟩:=hS.rules 2 (g:=w1.heap.size) (t:=33) rfl
    have b5:=b1 0
    by_cases hlt:k < nO
    · have hrow:wr.ownsRow 0 3 1 (.slice (some ⟨w.heap.size + 1,0,none⟩) nO nO) nO (ints (negs nO k)):=hS.get 1 rfl
      have hkl:k < (negs nO k).length:=by simp [negs]; omega
      have e0:wr.cell? ⟨w.heap.size + 1,k,none⟩=some (.int .i64 (negs nO k)[k]):=by rw [hrow.cellAt k (by omega)]; simp [ints,List.getElem?_eq_getElem hkl]
      have e1:=hrow.frozenAt k
      have hS2:=hS.store 1 (g:=w.heap.size + 1) rfl k (.int .i64 (-1))
      rw [ints_set_,negs_set nO k hlt] at hS2
      have HS2:=hide hS2
      obtain ⟨y,hy⟩:∃ y,(negs nO k)[k]=y:=⟨_,rfl⟩
      rw [hy] at e0
      clear hS hS2 hrow hkl hy b1 b4
      gi_wp2
      go_roundw
      case rel => exact ⟨k + 1,by omega,by go_num,HS2.out⟩
      case measure => simp [intOf]; omega
    · obtain rfl:k=nO:=by omega
      rw [negs_end] at hS
      obtain ⟨q1,q2,q3,q4⟩:=hS.rules 0 (g:=w.heap.size) (t:=25) rfl
      have q5:=q1 0
      have q6:=q1 1
      have hS2:=(((((hS.blkAt 33 #[.slice none 0 0] rfl).blkAt 145 #[.func (.func 60) #[] #[.pointer (some ⟨w1.heap.size,0,none⟩),.pointer (some ⟨wr.heap.size,0,none⟩)]] (g:=wr.heap.size + 1) (by simp)).blkAt 23 #[.slice AR nR cR] (g:=wr.heap.size + 2) (by simp)).nilRow 3 1).perm (perm_fd _ _ _ _ _ _ _)).join (l:=[_,_,_,_])
      have HS:=hide hS2
      have HRR:=hide ((hR.more (D':=fun g => g < w.heap.size) (fun g hg _ => hg)).below hS2.below_)
      clear hS hS2 b1 b4 q1 q4
      gi_wp2_with (refine ⟨trivial,?_⟩; gi_at_call 45; refine (targets_in Fence.wide 9 trivial rfl _ _ _ _).mono ?_; rintro e w2 ⟨rfl,rfl⟩)
      have hS2:=HS.out
      obtain ⟨g1,g2,g3,g4⟩:=hS2.rules 3 (g:=wr.heap.size + 2) (t:=23) rfl
      refine wpIn_tgt (n:=10) rfl (by omega) trivial (wr.heap.size + 2) (by rfl) (by rfl) (fdIt w1.heap.size wr.heap.size (w.heap.size + 1) k) ⟨none,0,0,([],List.replicate k (-1))⟩ hnR (hS2.get 3 rfl) (hS2.other (a:=3) (b:=0) rfl rfl (by omega) _ rfl) (HRR.out.more (fun g _ hg hf => by
          rcases hS2.lo 0 rfl g hf with h | h
          · exact h
          · omega))
        (fun pre s => FdOk s ∧ s.σ=tkI 0 pre ([],List.replicate k (-1))) (fun _ _ _ => False) (fun s => fdIt_tame _ _ _ _ _ s) ⟨rfl,rfl⟩ (hS2.get 0 rfl) ?a1 ?assign ?body ?done ?stop
      case assign =>
        intro l x W K hK
        gi_wp2
        exact hK
      case stop =>
        rintro Dd c pre s W hD hpre hF
        exact hF.elim
      case body =>
        rintro l pre x s W hx hpre hlen ⟨hok,hσ⟩ hP'
        have hSW:=hS2.call 0 rfl hP'
        obtain ⟨f1,f2,f3,f4⟩:=hSW.rules 2 (g:=wr.heap.size + 1) (t:=145) rfl
        have f5:=f1 0
        obtain ⟨t1,t2⟩:=tkI_ok (t:=0) (σ:=([],List.replicate k (-1))) HVR.out (by omega) (HGL.out ▸ FOk.zero gs.length) hpre
        rw [← hσ] at t1
        have hxr:=tgts_rng HVR.out hx
        have hll:=t1.ok.len
        have C:=hide (take_any W w1.heap.size wr.heap.size (w.heap.size + 1) k s.A s.nl s.cl s.σ x 0 (hP'.get 0 rfl) hxr.1 (by have:=HGL.out; omega) (by have:=HGL.out; have:=show s.nl=s.σ.1.length from hok; omega) (by rw [t1.len]; exact HGL.out) hok)
        have HT:=hide (tkI_snoc 0 pre x ([],List.replicate k (-1)))
        have HSS:=hide hσ
        clear hSW hP' hx hpre hlen hok hσ f1 f4 t1 t2 hxr hll hS2 g1 g2 g3 g4
        gi_wp2_with (refine ⟨trivial,?_⟩; gi_at_call 60; refine (CallsIn.inRound l (callsIn_wide.2 C.out)).mono ?_; rintro e w5 ⟨s',⟨v,rfl⟩,⟨h1,h2⟩,h3⟩)
        exact ⟨s',⟨h1,by rw [h2,HT.out,HSS.out]⟩,h3⟩
      case done =>
        rintro Dd s W hD ⟨hok,hσ⟩ hP' hK
        rw [tkI_tgts] at hσ
        have hFI:=FI.begin (gs:=gs) HVR.out
        rw [HGL.out,← hσ] at hFI
        have hCL:Colls w.heap.size W [{ target:=.collected Dd,args:=#[] }]:=⟨Dd,rfl,by omega,hK,by simp,trivial⟩
        have hSW:=(hS2.call 0 rfl hP').blkAt 3 #[.int .i64 0] (g:=W.heap.size) rfl
        have hCL2:=hCL.keep (w':=W.alloc (.cells #[.int .i64 0] 3)) (fun k o _ hk _ => (Below.heap_alloc W _ k (Array.getElem?_eq_some_iff.1 hk).1).trans hk)
        have HSW:=hide hSW
        have HCL:=hide hCL2
        have HFI:=hide hFI
        have HOK:=hide (show s.nl=s.σ.1.length from hok)
        have HFE:=hide (show fnd gs (gs.length - 0) 0 s.σ=fndAll gs roots from by rw [hσ,← HGL.out]; rfl)
        have hDs:W.heap.size ≤ W.heap.size:=Nat.le_refl _
        clear hSW hP' hK hCL hCL2 hok hσ hFI hS2 HS g1 g2 g3 g4
        gi_wp2
        refine wpIn_loop_ghost_k (fun (g:Nat) (a':Act) (w':World) => ∃ (u9 u32 u33 u34 u35 u36 u37 u38 u39 u40 u41 u42 u43 u44 u45 u46 u47 u60:Value) (ds:List Deferred),(∃ (j Bk:Nat) (s:FdS),u9=.pointer (some ⟨Bk,0,none⟩) ∧ g=k - j ∧ Hid (j ≤ s.nl) ∧ Hid (FI gs roots j s.σ) ∧ Hid (fnd gs (gs.length - j) j s.σ=fndAll gs roots) ∧ Hid (s.nl=s.σ.1.length) ∧ Hid (Colls w.heap.size w' ds) ∧
            Sep No w w' [fdIt w1.heap.size wr.heap.size (w.heap.size + 1) k s,blkI w.heap.size 25 #[.slice AO k cO,.slice AR nR cR],blkI (wr.heap.size + 1) 145 #[.func (.func 60) #[] #[.pointer (some ⟨w1.heap.size,0,none⟩),.pointer (some ⟨wr.heap.size,0,none⟩)]],blkI Bk 3 #[.int .i64 j]]) ∧ a'={ tmps:=#[.agg #[.slice AO k cO,.slice AR nR cR],.pointer (some ⟨w.heap.size,0,none⟩),.slice none 0 0,.slice none 0 0,.pointer (some ⟨w1.heap.size,0,none⟩),u5,.pointer (some ⟨wr.heap.size,0,none⟩),.pointer (some ⟨wr.heap.size + 1,0,none⟩),undef,u9,undef,.pointer (some ⟨w.heap.size,0,none⟩),.slice AO k cO,.int .i64 ↑k,.slice (some ⟨w.heap.size + 1,0,none⟩) k k,.slice (some ⟨w.heap.size + 1,0,none⟩) k k,.int .i64 ↑k,.int .i64 ↑k,.bool false,u19,u20,u21,u22,u23,.func (.func 60) #[] #[.pointer (some ⟨w1.heap.size,0,none⟩),.pointer (some ⟨wr.heap.size,0,none⟩)],.pointer (some ⟨w.heap.size,1,none⟩),.slice AR nR cR,.func (.func 64) #[] #[.pointer (some ⟨wr.heap.size + 1 + 1,0,none⟩)],undef,undef,undef,undef,u32,u33,u34,u35,u36,u37,u38,u39,u40,u41,u42,u43,u44,u45,u46,u47,undef,undef,undef,undef,undef,undef,undef,undef,undef,undef,undef,undef,u60,undef,undef],defers:=ds }) k ?atStart ?round
        case atStart =>
          (repeat apply Exists.intro)
          refine ⟨⟨0,W.heap.size,s,rfl,rfl,Nat.zero_le _,HFI,HFE,HOK,HCL,HSW.out.sub (by simp)⟩,rfl⟩
        case round =>
          clear HFI HFE HOK HCL HSW
          rintro gk a' wv ⟨u9,u32,u33,u34,u35,u36,u37,u38,u39,u40,u41,u42,u43,u44,u45,u46,u47,u60,ds,⟨j,Bk,⟨A,nl,cl,σ⟩,rfl,hgk,HJ,HFI,HFE,HOK,HCL,hS⟩,rfl⟩ J K hJ hK
          dsimp only at HJ HFI HFE HOK hS
          clear a2 a3 a5 a6 b2 b3 q2 q3 q5 q6 hsz1 hlt
          have hlen:=HFI.out.f.ok.len
          have hlen2:=HGL.out
          have hok:=HOK.out
          have hSf:=hS.split
          obtain ⟨b1,b2,b3,b4⟩:=hSf.rules 3 (g:=wr.heap.size) (t:=33) rfl
          have b5:=b1 0
          obtain ⟨k1,k2,k3,k4⟩:=hSf.rules 6 (g:=Bk) (t:=3) rfl
          have k5:=k1 0
          by_cases hjl:j < nl
          · have t1:decide ((j:Int) < (nl:Int))=true:=by simp; omega
            have t2:decide (j < nl)=true:=by simp; omega
            have hjs:j < σ.1.length:=by omega
            obtain ⟨x,hx⟩:∃ x,σ.1.getD j 0=x:=⟨_,rfl⟩
            have hxm:x ∈ σ.1:=by rw [← hx]; exact getD_mem hjs
            obtain ⟨hx0,hx1⟩:=HFI.out.f.ok.rng x hxm
            obtain ⟨z,hz⟩:=int_nat hx0
            have hzk:z < k:=by omega
            have hrow:wv.ownsRow 0 3 1 (.slice A nl cl) nl (ints σ.1):=hSf.get 0 rfl
            obtain ⟨gl,hA⟩:=own_addr' hrow (by omega)
            subst hA
            have e0:wv.cell? ⟨gl,j,none⟩=some (.int .i64 (z:Int)):=by
              rw [hrow.cellAt j (by omega),ints_get' _ _ hjs,← hz,← hx,List.getD_eq_getElem?_getD,List.getElem?_eq_getElem hjs]; rfl
            obtain ⟨g1,g2,g3,g4⟩:=hSf.rules 4 (g:=w.heap.size) (t:=25) rfl
            have g5:=g1 0
            have hOw:=HOO.out.below hS.below_
            have hzl:z < obs.length:=by rw [HOO.out.len]; exact hzk
            obtain ⟨ad,hAO,_,had,hc⟩:=hOw.row.at_ hzk
            have e1:=hc obs[z].val (by simp [List.getElem?_eq_getElem hzl])
            have hEach:=hOw.each _ (List.getElem_mem hzl)
            have hFl:=HOO.out.flen (List.getElem_mem hzl)
            have hF1:=HFF.out _ (List.getElem_mem hzl)
            have hfi:fieldsI gs x=obs[z].fields:=by
              unfold fieldsI
              rw [hz,← HGS.out,List.getD_eq_getElem?_getD]
              simp [List.getElem?_eq_getElem hzl]
            obtain ⟨o,ho⟩:∃ o,obs[z]=o:=⟨_,rfl⟩
            rw [ho] at e1 hEach hFl hF1 hfi
            unfold Ob.val at e1
            have i0:(0:Int) ≤ (j:Int):=by omega
            have i1:(0:Int) ≤ (z:Int):=by omega
            have hmx:Tryz.prog.follows .mixedOrders=true:=by kernel_rfl
            have HAO:=hide hAO
            have HS:=hide hS
            have HX:=hide hx
            have HZ:=hide hz
            have HFIX:=hide hfi
            have HXM:=hide hxm
            have HEACH:=hide hEach
            have HFL:=hide hFl
            clear hS hSf b1 b4 k1 k4 g1 g4 hc hx hz hfi hxm hEach hFl hrow ho hOw hok hlen hlen2
            subst hAO
            gi_wp2
            refine wpIn_region_still_tail wideF 9 hmx (by kernel_rfl) ?_
            simp only [List.take_succ_cons,List.take_zero,List.drop_succ_cons,List.drop_zero]
            repeat still_step
            refine wpStill_nil ?_
            have HS2:=hide ((HS.out.blkAt 23 #[.slice o.A o.n o.c] (g:=wv.heap.size) rfl).drew)
            have hS2:=HS2.out
            have hidx:=HFI.out.idx j hjs
            have hnn:0 ≤ σ.2.getD z 0:=by
              have h3:=HFI.out.f.there z (by have:=HGL.out; omega)
              exact h3.2 (by rw [← HZ.out]; exact HXM.out)
            rw [HX.out,HZ.out,show ((z:Int)).toNat=z from by omega] at hidx
            obtain ⟨t,ht⟩:∃ t,σ.2.getD z 0 + 1=t:=⟨_,rfl⟩
            have hlen:=HFI.out.f.ok.len
            have htb:0 ≤ t ∧ t < gs.length + 1:=by omega
            have HT:=hide ht
            have hfo:ValsOk gs.length o.fields:=by rw [← HFIX.out]; exact fieldsI_ok HVG.out _
            have hOK:=HOK.out
            have hEB:=HEACH.out.below ((Below.refl _ wv).alloc (Nat.le_refl _) (.cells #[.slice o.A o.n o.c] 23)).drew
            gi_wp2_with (refine ⟨trivial,?_⟩; gi_at_call 45; refine (targets_in Fence.wide 9 trivial rfl _ _ _ _).mono ?_; rintro e w2 ⟨rfl,rfl⟩)
            refine wpIn_tgt (n:=10) rfl (by omega) trivial wv.heap.size (by rfl) (by rfl) (fdIt w1.heap.size wr.heap.size (w.heap.size + 1) k) ⟨some ⟨gl,0,none⟩,nl,cl,σ⟩ (vs:=o.fields) hF1 (hS2.get 4 rfl) (hS2.other (a:=4) (b:=0) rfl rfl (by omega) _ rfl) ?hrd
              (fun pre s => FdOk s ∧ s.σ=tkI t pre σ) (fun _ _ _ => False) (fun s => fdIt_tame _ _ _ _ _ s) ⟨HOK.out,rfl⟩ (hS2.get 0 rfl) ?a2 ?assign2 ?body2 ?done2 ?stop2
            case hrd =>
              exact hEB.more (fun g _ hg hf => by
                rcases hS2.lo 0 rfl g hf with h | h
                · exact h
                · omega)
            case assign2 =>
              intro l x W K hK
              gi_wp2
              exact hK
            case stop2 =>
              rintro Dd c pre s W hD hpre hF
              exact hF.elim
            case body2 =>
              rintro l pre y s2 W2 hx2 hpre2 hlen2 ⟨hok2,hσ2⟩ hP2
              have hSW:=hS2.call 0 rfl hP2
              obtain ⟨t1,t2⟩:=tkI_ok hfo htb HFI.out.f hpre2
              rw [← hσ2] at t1 t2
              have hyr:=tgts_rng hfo hx2
              have hll:=t1.ok.len
              have hlt1:=t1.len
              have hpl:=t2.pre_.length_le
              have hjs2:j < s2.σ.1.length:=by omega
              have hx3:s2.σ.1[j]=(z:Int):=by
                have h1:=getD_pre t2.pre_ hjs
                rw [HX.out,HZ.out,List.getD_eq_getElem?_getD,List.getElem?_eq_getElem hjs2] at h1
                exact h1
              have hz3:s2.σ.2.getD z 0=σ.2.getD z 0:=by
                have h1:=t2.keep x HXM.out
                rw [HZ.out,show ((z:Int)).toNat=z from by omega] at h1
                exact h1
              have hzl3:z < s2.σ.2.length:=by have:=HGL.out; omega
              have hok3:s2.nl=s2.σ.1.length:=hok2
              obtain ⟨A2,nl2,cl2,σ2⟩:=s2
              dsimp only at hok3 hσ2 hjs2 hx3 hz3 hzl3 hlt1 hll t1
              have hSf:=hSW.split
              have hrow:W2.ownsRow 0 3 1 (.slice A2 nl2 cl2) nl2 (ints σ2.1):=hSf.get 0 rfl
              obtain ⟨gl2,hA2⟩:=own_addr' hrow (by omega)
              subst hA2
              have e0:W2.cell? ⟨gl2,j,none⟩=some (.int .i64 (z:Int)):=by
                rw [hrow.cellAt j (by omega),ints_get' _ _ hjs2,hx3]
              have hrowD:W2.ownsRow 0 3 1 (.slice (some ⟨w.heap.size + 1,0,none⟩) k k) k (ints σ2.2):=hSf.get 1 rfl
              have e1:W2.cell? ⟨w.heap.size + 1,z,none⟩=some (.int .i64 (σ.2.getD z 0)):=by
                rw [hrowD.cellAt z (by omega),ints_get' _ _ hzl3,← hz3,List.getD_eq_getElem?_getD,List.getElem?_eq_getElem hzl3]; rfl
              obtain ⟨x1,x2,x3,x4⟩:=hSf.rules 2 (g:=w1.heap.size) (t:=33) rfl
              have x5:=x1 0
              obtain ⟨y1,y2,y3,y4⟩:=hSf.rules 3 (g:=wr.heap.size) (t:=33) rfl
              have y5:=y1 0
              obtain ⟨f1,f2,f3,f4⟩:=hSf.rules 5 (g:=wr.heap.size + 1) (t:=145) rfl
              have f5:=f1 0
              obtain ⟨m1,m2,m3,m4⟩:=hSf.rules 6 (g:=Bk) (t:=3) rfl
              have m5:=m1 0
              have C:=hide (take_any W2.drew w1.heap.size wr.heap.size (w.heap.size + 1) k (some ⟨gl2,0,none⟩) nl2 cl2 σ2 y t (hSW.drew.get 0 rfl) hyr.1 (by have:=HGL.out; omega) (by have:=HGL.out; omega) (by rw [hlt1]; exact HGL.out) hok3)
              have HTK:=hide (tkI_snoc t pre y σ)
              have HSS:=hide hσ2
              have HPP:=hide (Sep.start (hP2.get 0 rfl)).drew
              obtain ⟨v,hv⟩:∃ v,σ.2.getD z 0=v:=⟨_,rfl⟩
              rw [hv] at e1 hnn ht hidx
              have W1:IntKind.i64.wrap (v + 1)=t:=by have:=HGL.out; have:=HOK.out; simp only [IntKind.wrap_i64]; omega
              have t6:j < nl2:=by omega
              have t7:decide ((j:Int) < (nl2:Int))=true:=by simp; omega
              have t8:decide (j < nl2)=true:=by simp; omega
              have t9:decide (z < k)=true:=by simp; omega
              clear hSW hSf hrow hrowD hx2 hpre2 hlen2 hok2 hσ2 hP2 x1 x4 y1 y4 f1 f4 m1 m4 t1 t2 hyr hll hlt1 hpl hjs2 hx3 hz3 hzl3 hok3 hS2 hidx hfo hOK hEB hv ht htb hlen hD hDs
              refine wpIn_opaque fun K9 hK9 => ?_
              gi_wp2
              refine wpIn_region_still_tail (wideF_round l) 10 hmx (by kernel_rfl) ?_
              simp only [List.take_succ_cons,List.take_zero,List.drop_succ_cons,List.drop_zero]
              repeat still_step
              refine wpStill_nil ?_
              gi_wp2_with (refine ⟨trivial,?_⟩; gi_at_call 60; (with_reducible refine (CallsIn.inRound l (callsIn_wide.2 C.out)).mono ?_); rintro e w5 ⟨s5,⟨v5,rfl⟩,h12,h3⟩; have H12:=hide h12; have H3:=hide h3; clear h12 h3)
              exact ⟨s5,⟨H12.out.1,by rw [H12.out.2,HTK.out,HSS.out]⟩,HPP.out.call 0 rfl H3.out⟩
            case done2 =>
              rintro Dd2 s2 W2 hD2 ⟨hok2,hσ2⟩ hP2 hK2
              rw [tkI_tgts] at hσ2
              have hFI2:=HFI.out.next HVG.out hjs
              have hFE2:=HFE.out
              rw [fnd_step gs gs.length j σ hjs (by have:=HGL.out; have:=HOK.out; omega)] at hFE2
              rw [HX.out,HZ.out,show ((z:Int)).toNat=z from by omega,HT.out,← HZ.out,HFIX.out,← hσ2] at hFI2 hFE2
              have hSW:=hS2.call 0 rfl hP2
              have hkf:KeepsFrom w.heap.size wv W2:=(((KeepsOthers.alloc wv (.cells #[.slice o.A o.n o.c] 23)).trans (KeepsOthers.drew _)).from _).trans (hP2.bel.keepsFrom (fun k o hk ho hc => (fdIt_tame w.heap.size _ _ _ _ _).far (hS2.get 0 rfl) hk ho hc))
              have hszv:w.heap.size ≤ wv.heap.size:=HS.out.bel.size
              have hsz9:(wv.alloc (.cells #[.slice o.A o.n o.c] 23)).drew.heap.size=wv.heap.size + 1:=by simp
              have hCL2:=HCL.out.push hkf.same hszv (by omega) hK2
              obtain ⟨m1,m2,m3,m4⟩:=hSW.rules 3 (g:=Bk) (t:=3) rfl
              have m5:=m1 0
              have hlen4:=HFI.out.f.ok.len
              have W1:IntKind.i64.wrap ((j:Int) + 1)=((j + 1:Nat):Int):=by have:=HGL.out; have:=HOK.out; simp only [IntKind.wrap_i64]; omega
              have hjn2:j + 1 ≤ s2.nl:=by
                have h1:s2.nl=s2.σ.1.length:=hok2
                have h2:=(Tkn.all htb o.fields HFI.out.f hfo).pre_.length_le
                rw [← hσ2] at h2
                have:=HOK.out
                omega
              have HM:=hide (show k - (j + 1) < gk from by have:=HGL.out; have:=HOK.out; omega)
              have HFI2:=hide hFI2
              have HFE2:=hide hFE2
              have HOK2:=hide (show s2.nl=s2.σ.1.length from hok2)
              have HJ2:=hide hjn2
              have HCL3:=hide (hCL2.keep (w':=W2.alloc (.cells #[.int .i64 ((j + 1:Nat):Int)] 3)) (fun k o _ hk _ => (Below.heap_alloc W2 _ k (Array.getElem?_eq_some_iff.1 hk).1).trans hk))
              have HSW:=hide ((hSW.sub (List.take_sublist 3 _)).blkAt 3 #[.int .i64 ((j + 1:Nat):Int)] (g:=W2.heap.size) rfl)
              clear hFI2 hFE2 hSW hkf hCL2 m1 m4 hjn2 hok2 hσ2 hP2 hK2 hS2 HS HFI HFE HOK hD2 hidx ht htb hfo hOK hEB hlen hlen4 hnn hgk
              gi_wp2
              gi_roundg (k - (j + 1))
              case measure => exact HM.out
              case rel => exact ⟨j + 1,W2.heap.size,s2,rfl,rfl,HJ2,HFI2,HFE2,HOK2,HCL3,HSW.out⟩
          · have t1:decide ((j:Int) < (nl:Int))=false:=by simp; omega
            have t2:decide (j < nl)=false:=by simp; omega
            have hE:σ=fndAll gs roots:=by rw [← HFE.out,fnd_done _ _ _ _ (by omega)]
            obtain ⟨d1,d2,d3,d4⟩:=hSf.rules 2 (g:=w1.heap.size) (t:=33) rfl
            have d5:=d1 0
            have HS:=hide hSf
            have HE:=hide hE
            have hmx:Tryz.prog.follows .mixedOrders=true:=by kernel_rfl
            clear hS hSf b1 b4 k1 k4 d1 d4 hE hgk hok hlen hlen2
            gi_wp2
            gi_region_o
            all_goals
              gi_wp2
              refine collsOff (B:=w.heap.size) (u:=.returning) (by simp) _ _ (HCL.out.keep (fun _ _ _ h _ => h)) ?_
              intro w' c1 c2 c3 c4 c5 c6
              have hSw:=((HS.out.sub (l:=[rowI 3 1 A nl cl (ints σ.1),rowI 3 1 (some ⟨w.heap.size + 1,0,none⟩) k k (ints σ.2)]) (by simp [FdI])).drew).closed (B:=w.heap.size) (fun i hi => by
                simp only [List.mem_cons,List.not_mem_nil,or_false] at hi
                rcases hi with rfl | rfl
                · exact Tame.row _ _ _ _ _ _ _
                · exact Tame.row _ _ _ _ _ _ _) (Nat.le_refl _) c1 c2 c3 c4 c5 c6
              rw [HE.out] at hSw
              exact ⟨.tuple #[.slice A nl cl,.slice (some ⟨w.heap.size + 1,0,none⟩) k k],by simp [results,Tryz.f41,go_sem],A,nl,cl,some ⟨w.heap.size + 1,0,none⟩,k,rfl,hSw⟩
end Go.Proofs.YtjphckfbbiehdaaGreat

namespace Go.Proofs.YtjphckfbbiehdaaGreat
open Go.RowKit
structure GOk (nO nR:Nat) (obs:List Ob) (roots:List Val):Prop where
  nO_:nO ≤ 24
  nR_:nR ≤ 8
  fl:∀ o ∈ obs,o.n ≤ 4
  len:(obs.map Ob.fields).length=nO
  vg:∀ fs ∈ obs.map Ob.fields,ValsOk (obs.map Ob.fields).length fs
  vr:ValsOk (obs.map Ob.fields).length roots
  fs:∀ fs ∈ obs.map Ob.fields,fs.length ≤ 4
theorem gok_of {w:World} {D:Nat → Prop} {AO:Option Addr} {nO nR:Nat} {obs:List Ob} {roots:List Val} (hO:ObsRd w D AO nO obs) (h:gcheck nO nR obs roots=0):GOk nO nR obs roots:=by
  unfold gcheck at h
  split at h
  · omega
  rename_i h1
  split at h
  · omega
  rename_i h2
  have h3:obs.any large=false:=by
    cases h4:obs.any large with
    | false => rfl
    | true => exact absurd (Or.inr (Or.inr h4)) h1
  have hfl:∀ o ∈ obs,o.n ≤ 4:=fun o ho => by
    have h5:=List.any_eq_false.1 h3 o ho
    unfold large at h5
    simp at h5
    omega
  have hlen:(obs.map Ob.fields).length=nO:=by rw [List.length_map]; exact hO.len
  have h4:∀ v ∈ allVals obs roots,v.1=true → 0 ≤ v.2 ∧ v.2 < ((obs.map Ob.fields).length:Int):=fun v hv hv1 => by
    have h5:(allVals obs roots).any (badArg nO)=false:=by
      cases h6:(allVals obs roots).any (badArg nO) with
      | false => rfl
      | true => exact absurd h6 h2
    have h6:=List.any_eq_false.1 h5 v hv
    unfold badArg at h6
    rw [hv1] at h6
    rw [hlen]
    simp at h6
    omega
  refine ⟨by omega,by omega,hfl,hlen,fun fs hfs v hv => ?_,fun v hv => h4 v (List.mem_append_left _ hv),fun fs hfs => ?_⟩
  · obtain ⟨o,ho,rfl⟩:=List.mem_map.1 hfs
    exact h4 v (List.mem_append_right _ (List.mem_flatMap.2 ⟨o,ho,hv⟩))
  · obtain ⟨o,ho,rfl⟩:=List.mem_map.1 hfs
    have:=hO.flen ho
    have:=hfl o ho
    omega
theorem graphRd_of {w:World} {D:Nat → Prop} {AO AR:Option Addr} {nO cO nR cR:Nat} {obs:List Ob} {roots:List Val} (hO:ObsRd w D AO nO obs) (hR:Rd w D 2 AR nR (vals roots)):GraphRd w D (.agg #[.slice AO nO cO,.slice AR nR cR]) (obs.map Ob.fields) roots:=⟨AO,nO,cO,AR,nR,cR,obs,rfl,hO,rfl,hR⟩
theorem roots_len {w:World} {D:Nat → Prop} {AR:Option Addr} {nR:Nat} {roots:List Val} (hR:Rd w D 2 AR nR (vals roots)):roots.length=nR:=by have:=hR.1; rw [vals_length] at this; omega
end Go.Proofs.YtjphckfbbiehdaaGreat

namespace Go.Proofs.YtjphckfbbiehdaaGreat
open Go.RowKit
def runStep (p:List OutV × MSt) (d:DoV):List OutV × MSt:=(p.1 ++ [(stepM d p.2).1],(stepM d p.2).2)
def runM (ds:List DoV) (σ:MSt):List OutV × MSt:=ds.foldl runStep ([],σ)
theorem runM_snoc (ds:List DoV) (d:DoV) (σ:MSt):runM (ds ++ [d]) σ=((runM ds σ).1 ++ [(stepM d (runM ds σ).2).1],(stepM d (runM ds σ).2).2):=by
  unfold runM; rw [List.foldl_append]; rfl
theorem runM_ok0 (ds:List DoV):∀ p:List OutV × MSt,MOk p.2 → MOk (ds.foldl runStep p).2 ∧ (ds.foldl runStep p).2.objs.length ≤ p.2.objs.length + ds.length ∧ (ds.foldl runStep p).1.length=p.1.length + ds.length:=by
  induction ds with
  | nil => intro p h; exact ⟨h,by simp,by simp⟩
  | cons d ds ih =>
    intro p h
    obtain ⟨h1,h2,h3⟩:=h.step d
    obtain ⟨i1,i2,i3⟩:=ih (runStep p d) h1
    rw [List.foldl_cons]
    refine ⟨i1,?_,?_⟩
    · have:(runStep p d).2.objs.length ≤ p.2.objs.length + 1:=h3
      rw [List.length_cons]; omega
    · have:(runStep p d).1.length=p.1.length + 1:=by simp [runStep]
      rw [List.length_cons]; omega
theorem runM_ok (ds:List DoV) {σ:MSt} (h:MOk σ):MOk (runM ds σ).2 ∧ (runM ds σ).2.objs.length ≤ σ.objs.length + ds.length ∧ (runM ds σ).1.length=ds.length:=by
  have h1:=runM_ok0 ds ([],σ) h
  simpa [runM] using h1
def dosV (l:List DoV):List Value:=l.flatMap fun d => [.int .i64 d.k,.int .i64 d.to,.int .i64 d.fr,.int .i64 d.at_,.int .i64 d.n]
theorem dosV_length (l:List DoV):(dosV l).length=l.length * 5:=by
  unfold dosV; induction l with
  | nil => rfl
  | cons a l ih => simp [List.flatMap_cons] at ih ⊢; omega
theorem dosV_at (l:List DoV) (k:Nat) (h:k < l.length):(dosV l)[k * 5]?=some (.int .i64 l[k].k) ∧ (dosV l)[k * 5 + (0 + 1)]?=some (.int .i64 l[k].to) ∧ (dosV l)[k * 5 + (1 + 1)]?=some (.int .i64 l[k].fr) ∧ (dosV l)[k * 5 + (2 + 1)]?=some (.int .i64 l[k].at_) ∧ (dosV l)[k * 5 + (3 + 1)]?=some (.int .i64 l[k].n):=by
  unfold dosV
  induction l generalizing k with
  | nil => simp at h
  | cons a l ih =>
    cases k with
    | zero => exact ⟨rfl,rfl,rfl,rfl,rfl⟩
    | succ k =>
      have h2:=ih k (by simpa using h)
      rw [List.flatMap_cons,show (k + 1) * 5=k * 5 + 1 + 1 + 1 + 1 + 1 from by omega]
      exact h2
theorem outsV_app (a b:List OutV):outsV (a ++ b)=outsV a ++ outsV b:=by simp [outsV]
theorem sOut:SliceT Tryz.prog 27 74 3 24:=SliceT.mk_ Tryz.underlying27 (z:=.agg #[.int .i64 0,.bool false,.int .i64 0]) (by kernel_rfl) rfl (by omega)
end Go.Proofs.YtjphckfbbiehdaaGreat

namespace Go.Proofs.YtjphckfbbiehdaaGreat
open Go.ChangeShapes Go.WideShapes Go.Deep Go.RowKit
theorem dosV_at5 (l:List DoV) (q r:Nat) (hr:r < 5):(dosV l)[q * 5 + r]?=(l[q]?).bind fun d => [Value.int .i64 d.k,.int .i64 d.to,.int .i64 d.fr,.int .i64 d.at_,.int .i64 d.n][r]?:=by
  unfold dosV
  induction l generalizing q with
  | nil => rfl
  | cons a l ih =>
    rw [List.flatMap_cons]
    cases q with
    | zero => rw [List.getElem?_append_left (by simp; omega)]; simp
    | succ q => rw [List.getElem?_append_right (by simp; omega),show (q + 1) * 5 + r - [Value.int .i64 a.k,.int .i64 a.to,.int .i64 a.fr,.int .i64 a.at_,.int .i64 a.n].length=q * 5 + r by simp; omega,ih]; rfl
theorem open_dos {H:Type} {enc:TypeId × Value → H} {P:Program} {w:World} {base:Nat} {spare:Nat → Bool} {held:Bool} {t e:TypeId} {v:Value} {d:DataW H} {p:List MemPlace} {fs:Array Field}
    (ht:P.underlying t=some (.slice e)) (he:P.underlying e=some (.struct fs)) (hone:oneCellFields P fs=true) (hC:P.cellsOf e=5) (hf:fs.size=5)
    (hi:∀ (j:Nat) (f:Field),fs[j]?=some f → P.underlying f.type=some (.int .i64)) {r:Reach} {bb:Nat} (hv:Value.okWide P w r bb t v) (h:DataW.Trod enc P w base spare held t v d p) :
    ∃ (A:Option Addr) (n c:Nat) (l:List DoV),v=.slice A n c ∧ n ≤ 9223372036854775807 ∧ l.length=n ∧ Rd w (fun _ => True) 5 A n (dosV l):=by
  obtain ⟨A,n,c,rfl⟩:=okWide_slice ht hv
  obtain ⟨fuel,h⟩:=h
  rcases open_slice ht h with ⟨h0,_⟩ | ⟨a,len,cap,m,n0,D,Pl,hcs,_,hl,hm,hmm,_,hx⟩
  · simp [Value.cells] at h0
    obtain ⟨rfl,rfl,rfl⟩:=h0
    exact ⟨none,0,0,[],rfl,by omega,rfl,Rd.nil⟩
  · simp [Value.cells] at hcs
    obtain ⟨rfl,rfl,rfl⟩:=hcs
    have hle:n ≤ m:=by rw [hmm]; split <;> omega
    have hmx:c ≤ 9223372036854775807:=by simpa [maxLen] using hm
    have key:∀ i,i < n → ∃ x:DoV,w.cell? (a.add (i * 5))=some (.int .i64 x.k) ∧ w.cell? (a.add (i * 5 + 1))=some (.int .i64 x.to) ∧ w.cell? (a.add (i * 5 + 2))=some (.int .i64 x.fr) ∧ w.cell? (a.add (i * 5 + 3))=some (.int .i64 x.at_) ∧ w.cell? (a.add (i * 5 + 4))=some (.int .i64 x.n):=by
      intro i hi'
      obtain ⟨cs',h1,h2⟩:=hx i (by omega)
      rw [hC] at h1
      obtain ⟨_,hcl,hat⟩:=World.cells?_some h1
      obtain ⟨ys,n',_,_,_,hyl,hj⟩:=DataW.trod_struct he h2
      have one:∀ j,j < 5 → ∃ k:Int,w.cell? (a.add (i * 5 + j))=some (.int .i64 k):=by
        intro j hj3
        have hfj:fs[j]?=some (fs[j]'(by omega)):=Array.getElem?_eq_getElem (by omega)
        obtain ⟨ho,hk⟩:=hone_of hone j _ hfj
        have h3:=hj j _ hfj
        rw [ho,hk,List.getElem?_eq_getElem (by omega)] at h3
        obtain ⟨k,e0,_,_⟩:=DataW.trod_int (hi j _ hfj) h3
        refine ⟨k,?_⟩
        rw [← add_of_add,hat j (by omega)]
        have e1:=congrArg (fun l => l[0]?) e0
        simpa [List.getElem?_take,List.getElem?_drop] using e1
      obtain ⟨x0,hx0⟩:=one 0 (by omega)
      obtain ⟨x1,hx1⟩:=one 1 (by omega)
      obtain ⟨x2,hx2⟩:=one 2 (by omega)
      obtain ⟨x3,hx3⟩:=one 3 (by omega)
      obtain ⟨x4,hx4⟩:=one 4 (by omega)
      exact ⟨⟨x0,x1,x2,x3,x4⟩,hx0,hx1,hx2,hx3,hx4⟩
    haveI:Inhabited DoV:=⟨⟨0,0,0,0,0⟩⟩
    obtain ⟨f,hf'⟩:=choose_lt key
    refine ⟨some a,n,c,(List.range n).map f,rfl,by omega,by simp,?_,?_⟩
    · rw [dosV_length]; simp
    · intro hn
      refine ⟨a,rfl,trivial,?_,?_⟩
      · have:=block_lt_ (hf' 0 hn).1
        simpa [block_of_add] using this
      · intro j u hu
        obtain ⟨q,r,hr,rfl⟩:∃ q r,r < 5 ∧ j=q * 5 + r:=⟨j / 5,j % 5,Nat.mod_lt _ (by omega),by omega⟩
        rw [dosV_at5 _ _ _ hr] at hu
        simp only [List.getElem?_map] at hu
        rcases Nat.lt_or_ge q n with hq | hq
        case inr => rw [List.getElem?_eq_none (by simp; omega)] at hu; cases hu
        rw [List.getElem?_range hq] at hu
        simp only [Option.map_some,Option.bind_some] at hu
        obtain ⟨g0,g1,g2,g3,g4⟩:=hf' q hq
        rcases (show r=0 ∨ r=1 ∨ r=2 ∨ r=3 ∨ r=4 by omega) with rfl | rfl | rfl | rfl | rfl
        · simp at hu; subst hu; simpa [add_of_add] using g0
        · simp at hu; subst hu; simpa [add_of_add] using g1
        · simp at hu; subst hu; simpa [add_of_add] using g2
        · simp at hu; subst hu; simpa [add_of_add] using g3
        · simp at hu; subst hu; simpa [add_of_add] using g4
end Go.Proofs.YtjphckfbbiehdaaGreat

namespace Go.Proofs.YtjphckfbbiehdaaGreat
open Go.ChangeShapes Go.WideShapes Go.Deep Go.RowKit
theorem slice_len {H:Type} {enc:TypeId × Value → H} {P:Program} {w:World} {base:Nat} {spare:Nat → Bool} {held:Bool} {t e:TypeId} {A:Option Addr} {n c:Nat} {d:DataW H} {p:List MemPlace} (ht:P.underlying t=some (.slice e)) (h:DataW.Trod enc P w base spare held t (.slice A n c) d p) :
    n=0 ∨ ∃ elems sp:List (DataW H),d=.slice elems sp ∧ elems.length=n:=by
  obtain ⟨fuel,h⟩:=h
  rcases open_slice ht h with ⟨h0,_⟩ | ⟨a,len,cap,m,n0,D,Pl,hcs,_,hl,hm,hmm,hxx,hx⟩
  · simp [Value.cells] at h0
    exact .inl h0.2.1
  · simp [Value.cells] at hcs
    obtain ⟨rfl,rfl,rfl⟩:=hcs
    injection hxx with h1 h2
    exact .inr ⟨_,_,h1,by simp⟩
theorem slice_room {H:Type} {P:Program} {ts:List TypeId} {ds:List (DataW H)} (hz:(DataW.weightsEach P ts ds).all (· ≤ reachBytes)=true) {j:Nat} {t e:TypeId} {d:DataW H} {n:Nat} (hs:n=0 ∨ ∃ elems sp:List (DataW H),d=.slice elems sp ∧ elems.length=n) (ht:ts[j]?=some t) (hd:ds[j]?=some d) (hu:P.underlying t=some (.slice e)) (hb:P.bytesOf e=40):(n + 1) * 40 ≤ 140737488355328:=by
  rcases hs with rfl | ⟨elems,sp,rfl,rfl⟩
  · omega
  · have h:=sized_slice hz ht hd hu
    rw [hb,show reachBytes=140737488351232 from rfl] at h
    omega
end Go.Proofs.YtjphckfbbiehdaaGreat
