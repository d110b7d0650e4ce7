/- Part of a proof. -/
import Derived.Test.YtjphckfbbiehdaaGreatSTopAll33
import Derived.BigQuiet
import Derived.Deep.LoopGhost
import Derived.Deep.RegionLaw
import Derived.Test.YtjphckfbbiehdaaGreatSTopAll13
set_option linter.unusedSimpArgs false
set_option linter.unusedVariables false
namespace Go.Proofs.YtjphckfbbiehdaaGreat
open Go.RowKit Go.Maps
theorem gmR_left {w:World} {b r N cnt:Nat} {l:List Gp} {left:Gp → Bool} (h:(gmR b r N l left cnt).P w):w.rangeLeft b r=cnt:=by
  obtain ⟨D,lf,h1,_,_⟩:=h
  exact World.ranges.left_eq h1
theorem gz_ok {p:Gp} (h1:p.1 ≤ 1000) (h2:p.2 ≤ 1000):ZOk (gz p):=by
  unfold ZOk gz
  constructor <;> simp [Lit.wf,IntKind.min,IntKind.max,IntKind.signed,IntKind.bits] <;> omega
theorem GnOk.mkz {a:GnA} (ok:GnOk a) (hn:a.objs.length ≤ 600) {p:Gp} (hp:p ∈ a.mks):ZOk (gz p):=by
  obtain ⟨_,fs,h1,h2⟩:=ok.mo p hp
  have:=GnA.fld_lt h1
  have:=ok.f4 _ _ h1
  exact gz_ok (by omega) (by omega)
theorem ob_own {w:World} {o:Ob} (h:(obI o).P w) (hn:0 < o.n):(∃ g,o.A=some ⟨g,0,none⟩) ∧ o.n ≤ o.c:=by
  have hr:w.ownsRow 0 63 2 (.slice o.A o.n o.c) o.n (vals o.fields):=h
  obtain ⟨A',c',hv,hle⟩:=ownsRow_slice hr
  injection hv with h1 h2 h3
  refine ⟨?_,by omega⟩
  rcases hr.2 with ⟨hv,_⟩ | ⟨g,cap,cur,hv,_⟩
  · injection hv with h4 h5 h6; omega
  · injection hv with hv; exact ⟨g,hv⟩
set_option maxRecDepth 100000 in
theorem run_cut1 (A:Option Addr) (n c k:Nat) (hk:k < n) (hc:n ≤ c) (X:World):(Instr.slice 23 (.slice A n c) (some (.int .i64 (k:Int))) (some (.int .i64 ((k:Int) + 1))) none).run Tryz.prog X=.ok (.slice (A.map (·.add (k * 2))) 1 (c - k)) X:=by
  have hs:(sizeOf (Tryz.prog.elem 23)).run Tryz.prog X=.ok 2 X:=by kernel_rfl
  rw [run_slice_lh X 23 A n c (by kernel_rfl) .i64 .i64 (k:Int) ((k:Int) + 1) (by omega) (by omega) (by omega),hs]
  simp only [Result.andThen,sliced]
  have e1:((k:Int)).toNat=k:=by omega
  have e2:((k:Int) + 1).toNat=k + 1:=by omega
  rw [e1,e2,if_neg (by omega),show k + 1 - k=1 by omega]
theorem rd_cut {w:World} {D:Nat → Prop} {g n k:Nat} {fs:List Val} {q:Val} (h:Rd w D 2 (some ⟨g,0,none⟩) n (vals fs)) (hk:k < n) (hq:fs[k]?=some q):Rd w D 2 (some ⟨g,k * 2,none⟩) 1 (vals [q]):=by
  obtain ⟨ad,hA,hd,had,hc⟩:=h.2 (by omega)
  injection hA with hA
  subst hA
  refine ⟨by simp [vals_length],fun _ => ⟨_,rfl,hd,had,fun j u hu => ?_⟩⟩
  obtain ⟨hkl,hq2⟩:=List.getElem?_eq_some_iff.1 hq
  obtain ⟨v0,v1⟩:=vals_at fs k hkl
  rw [hq2] at v0 v1
  have c0:=hc _ _ v0
  have c1:=hc _ _ v1
  rw [hraddr0] at c0 c1
  rcases j with _ | _ | j
  · obtain rfl:Value.bool q.1=u:=by simpa [vals] using hu
    simpa [Addr.add] using c0
  · obtain rfl:Value.int .i64 q.2=u:=by simpa [vals] using hu
    simpa [Addr.add] using c1
  · simp [vals] at hu
set_option maxRecDepth 100000 in
set_option maxHeartbeats 32000000 in
theorem gminor_any {F:Nat → Prop} {W0 w:World} {Be Bm:Nat} {room:Int} {t:GnT} (hK:Sep F W0 w (gnK Be Bm room t)) (ok:GnOk t.a) (hn:t.oj.ps.length ≤ 600) :
    Calls Tryz.prog 28 #[.pointer (some ⟨Be,0,none⟩)] w fun e w' => (∃ u,e=.returned u) ∧ ∃ t':GnT,t'.a=t.a.minor ∧ t'.N ≤ t.N ∧ Sep F W0 w' (gnK Be Bm room t'):=by
  have hNl:t.a.objs.length=t.oj.ps.length:=List.length_map ..
  have hol:t.old.length=t.oj.ps.length:=by have h:t.old.length=t.a.objs.length:=ok.ol; omega
  have gok:GkOk t.old.length (ojF t.oj) (RY t.a) t.old:=by rw [hol,← hNl]; exact gn_gkOk ok (by omega)
  obtain ⟨k0,k1,k2,k3,-,k5,k6⟩:=gn_cells (pre:=[]) hK
  obtain ⟨go,gf,hfp,hrg⟩:=gn_go hK hol ok.r8
  have hBm:Bm < w.heap.size:=hK.hi 0 rfl Bm rfl
  have GOK:=hide gok
  have KC:=hide (fun m => gkeep_any t.Ao go Be t.oj t.old.length t.oc (RY t.a) t.old gok m)
  have C1:=hide (KC.out (Un t.old) w (some ⟨Bm,0,none⟩) 8 8 t.regs t.old gf (hK.get 2 rfl) hrg (by omega) rfl (fun _ h => h) (fun x hx => by
    obtain ⟨j,fs,e,hf⟩:=ok.vr _ hx rfl
    exact ⟨j,fs,e,hf,0,.root _ (by rw [← e]; exact List.mem_append_left _ hx)⟩) (Nat.le_refl _))
  have HZ:=hide (show ∀ p ∈ t.mks,ZOk (gz p) from fun p hp => ok.mkz (by omega) hp)
  have HK:=hide hK
  have HOK:=hide ok
  have HN:=hide hn
  have HNL:=hide hNl
  have HOL:=hide hol
  have HFP:=hide hfp
  clear hK ok gf hrg gok hNl hol hfp
  go_enter Tryz.func28,Tryz.ntmps28
  go_wp2_with fail
  refine C1.out.mono ?_
  rintro e w1 ⟨s1,⟨u1,rfl⟩,hg1,hS1⟩
  have HK1:=hide (show Sep F W0 w1 ([gnM Be Bm t,blkI Be 109 (gnC Bm room t),oldI t.Ao t.oc t.old.length s1,gmI t.b t.N t.mks] ++ ojL t.oj) from HK.out.call 2 rfl hS1)
  obtain ⟨c1,c2,c3,-⟩:=HK1.out.rules 1 (g:=Be) (t:=109) rfl
  have c4:=(c1 3).trans (show _=some (.map (some t.b)) from rfl)
  have HG1:=hide (ClO.gk (ClO.refl rfl) hg1)
  have HH1:=hide hg1.hit
  clear hS1 hg1 C1 HK k0 k1 k2 k3 k5 k6 hBm c1
  go_wp2_with (first
    | (at_range
       refine wpList_gmBegin rfl (.tmp 16) rfl HK1.out 3 rfl HZ.out rfl ?_
       intro w4 cnt hcn hS4 hsz4
       (have HS4:=hide hS4)
       clear hS4))
  go_frame
  obtain ⟨r,hr⟩:∃ r,w1.heap.size=r:=⟨_,rfl⟩
  rw [hr] at HS4 ⊢
  clear hsz4 hr c2 c3 c4
  go_loopg [2] cnt (fun g _ wr => ∃ (h:List Bool) (left:Gp → Bool),Hid (ClO t.old.length (ojF t.oj) (RY t.a) t.old h) ∧ Hid (∀ j:Nat,(j:Int) ∈ tgts t.regs → bt h j=true) ∧ Hid (∀ p ∈ t.mks,left p=false → ∀ j:Nat,((t.a.fld p.1).getD []).getD p.2 (false,0)=(true,(j:Int)) → bt h j=true) ∧ Sep F W0 wr (gnKr Be Bm room t r left g h))
  case atStart => exact ⟨s1,_,HG1,HH1,hide (fun p _ h => by cases h),HS4.out⟩
  case round =>
    clear HS4 HG1 HH1
    obtain ⟨h,left,HG,HH,HP,hS⟩:=hrel
    have HM:=hide (gmR_left (hS.get 3 rfl))
    have hSO:=hS
    go_wp2_with (first
      | (at_next
         refine wpList_gmNext rfl (.tmp 17) rfl hSO 3 HZ.out rfl rfl ?_ ?_))
    · intro hc0 hl0
      have HL0:=hide hl0
      have HK2:=hide (show Sep F W0 wr ([gnM Be Bm t,blkI Be 109 (gnC Bm room t),oldI t.Ao t.oc t.old.length h,gmI t.b t.N t.mks] ++ ojL t.oj) from hS.gmEnd 3 rfl)
      clear hSO hS hl0
      obtain ⟨c1,c2,c3,-⟩:=HK2.out.rules 1 (g:=Be) (t:=109) rfl
      have c4:=(c1 0).trans (show _=some t.oj.v from rfl)
      have CT:=oThere_any wr t.oj.As t.oj.ps.length t.oj.c t.oj.ps (by have:=HN.out; omega) (HK2.out.rd_ 4 rfl)
      have HFIN:=hide (show h=(List.range t.a.objs.length).map t.a.kept from by
        refine ClO.fin HOK.out (h:=h) (by rw [HNL.out,← HOL.out]; exact HG.out) (fun j hj => ?_)
        rcases List.mem_append.1 hj with hj | hj
        · exact HH.out j (tgts_mem.2 hj)
        · obtain ⟨p,hp,hpe⟩:=List.mem_map.1 hj
          exact HP.out p hp (HL0.out p.1 p.2 hp) j hpe)
      have HTL:=hide (show ∀ x ∈ thereL t.oj.ps,∃ z:Nat,x=(z:Int) ∧ z < t.oj.ps.length from fun x hx => there_lt hx)
      have hTle:=thereL_len t.oj.ps
      obtain ⟨T,hT⟩:∃ T,thereL t.oj.ps=T:=⟨_,rfl⟩
      have HTE:=hide hT
      rw [hT] at CT HTL hTle
      unfold Oj.v at c4
      have HC2:=hide CT
      have HHL:=hide HG.out.len
      clear CT hT c1 HP HH HG HL0
      go_wp2_with fail
      refine HC2.out.mono ?_
      rintro e w2 ⟨A2,cc2,rfl,hP2⟩
      have hS3:=HK2.out.consNew hP2.below_ _ (hP2.get 0 rfl) (fun g hg => (hP2.lo 0 rfl g hg).resolve_left (fun h => h))
      obtain ⟨m,hm⟩:∃ m,T.length=m:=⟨_,rfl⟩
      rw [hm] at hS3 hTle ⊢
      have HM2:=hide hm
      have HS3:=hide hS3
      have hm9:m ≤ 600:=by have:=HN.out; omega
      clear hP2 hm HC2 hS3 c2 c3 c4 HK2
      go_wp2_with fail
      go_loopw [4,47] (fun _ i wr => ∃ (k:Nat) (s:Oj),k ≤ m ∧ i=.int .i64 k ∧ Hid (s.abs=dropF t.oj.abs (goneB (bt h) (T.take k)) ∧ s.ps.length=t.oj.ps.length ∧ s.As=t.oj.As ∧ s.c=t.oj.c) ∧ Sep F W0 wr (rowI 3 1 A2 m cc2 (ints T) :: ([gnM Be Bm t,blkI Be 109 (gnC Bm room t),oldI t.Ao t.oc t.old.length h,gmI t.b t.N t.mks] ++ ojL s))) (fun _ i _ => m - (intOf i).toNat)
      case atStart => exact ⟨0,t.oj,by omega,rfl,hide ⟨rfl,rfl,rfl,rfl⟩,HS3.out⟩
      case round =>
        clear HS3
        obtain ⟨k,s,hk,rfl,HI,hS⟩:=hrel
        obtain ⟨habs,hps,hAs,hcs⟩:=HI.out
        obtain ⟨c1,c2,c3,-⟩:=hS.rules 2 (g:=Be) (t:=109) rfl
        have c4:=(c1 0).trans (show _=some t.oj.v from rfl)
        have c5:=(c1 2).trans (show _=some (.slice t.Ao t.old.length t.oc) from rfl)
        have c6:=(c1 3).trans (show _=some (.map (some t.b)) from rfl)
        unfold Oj.v at c4
        by_cases hlt:k < m
        · have hkl:k < T.length:=by rw [HM2.out]; exact hlt
          obtain ⟨ad,hA,_,had,hc⟩:=(hS.rd_ 0 rfl).at_ hlt
          have e0:=hc (.int .i64 T[k]) (by simp [ints,List.getElem?_eq_getElem hkl])
          have hTk:=List.take_succ_eq_append_getElem hkl
          obtain ⟨z,hz,hzN⟩:=HTL.out _ (List.getElem_mem hkl)
          rw [hz] at e0 hTk
          have hG:=goneB_snoc (bt h) (T.take k) (z:Int)
          rw [← hTk,Int.toNat_natCast] at hG
          obtain ⟨go2,hgo2⟩:=old_some hS (k:=3) rfl (by rw [HOL.out]; omega)
          have hrow:=hS.get 3 rfl
          unfold oldI at hrow
          rw [hgo2] at hrow c5
          obtain ⟨f1,f2⟩:=bo_cell hrow z (by rw [HOL.out]; exact hzN)
          obtain ⟨y,hy⟩:∃ y,bt h z=y:=⟨_,rfl⟩
          rw [show h.getD z false=y from hy] at f1
          rw [hy] at hG
          have t1:(z:Int) < (t.old.length:Int):=by rw [HOL.out]; omega
          have t2:z < t.old.length:=by rw [HOL.out]; exact hzN
          subst hA
          cases y with
          | true =>
            rw [if_pos rfl,List.append_nil] at hG
            have HI2:=hide (show s.abs=dropF t.oj.abs (goneB (bt h) (T.take (k + 1))) ∧ s.ps.length=t.oj.ps.length ∧ s.As=t.oj.As ∧ s.c=t.oj.c from by rw [hG]; exact ⟨habs,hps,hAs,hcs⟩)
            have HS:=hide hS
            clear hc hTk hz hS hG habs hps hAs hcs HI c1 hrow hy
            go_wp2_with fail
            go_roundw
            case rel => exact ⟨k + 1,s,by omega,by go_num,HI2,HS.out⟩
            case measure => simp [intOf]; omega
          | false =>
            rw [if_neg (by simp)] at hG
            have hil:z < s.ps.length:=by rw [hps]; exact hzN
            have hrow4:wr.ownsRow 0 84 1 (.slice s.As s.ps.length s.c) s.ps.length (s.ps.map ptrV):=hS.get 5 rfl
            obtain ⟨ga,hga⟩:=hown_addr hrow4 (by omega)
            have p2:ga < wr.heap.size:=hS.hi 5 (i:=rowI 84 1 s.As s.ps.length s.c (s.ps.map ptrV)) rfl ga (by show (Value.slice s.As s.ps.length s.c).ownBlock=some ga; rw [hga]; rfl)
            have p3:wr.frozen? ⟨ga,z,none⟩=false:=by
              have ho:=hrow4
              rw [hga] at ho
              exact ho.frozenAt _
            have p4:wr.cell? ⟨ga,z,none⟩=some (ptrV s.ps[z]):=by
              obtain ⟨ad2,hA2,_,_,hc2⟩:=(Rd.of_own (D:=fun _ => True) hrow4 (fun _ _ => trivial)).at_ (k:=z) hil
              have h5:=hc2 (ptrV s.ps[z]) (by simp [List.getElem?_eq_getElem hil])
              obtain rfl:(⟨ga,0,none⟩:Addr)=ad2:=by rw [hga] at hA2; injection hA2
              rw [hraddr0] at h5
              exact h5
            obtain ⟨pv,hpv⟩:∃ v,ptrV s.ps[z]=v:=⟨_,rfl⟩
            rw [hpv] at p4
            have HI2:=hide (show (s.dropG z).abs=dropF t.oj.abs (goneB (bt h) (T.take (k + 1))) ∧ (s.dropG z).ps.length=t.oj.ps.length ∧ (s.dropG z).As=t.oj.As ∧ (s.dropG z).c=t.oj.c from by
              rw [hG,dropG_snoc,← habs,gj_drop_abs,Int.toNat_natCast]
              exact ⟨rfl,by show (s.ps.set z none).length=_; rw [List.length_set]; exact hps,hAs,hcs⟩)
            have HS4:=hide (show Sep F W0 (wr.setCell ⟨ga,z,none⟩ (.pointer none)) (rowI 3 1 (some ad) m cc2 (ints T) :: ([gnM Be Bm t,blkI Be 109 (gnC Bm room t),oldI t.Ao t.oc t.old.length h,gmI t.b t.N t.mks] ++ ojL (s.dropG z))) from gj_drop (pre:=[_,_,_,_,_]) hS hil hga)
            rw [← hAs,hga] at c4
            have hzp:(z:Int) < (t.oj.ps.length:Int):=by omega
            clear hc hTk hz hS hG habs hps hAs hcs HI c1 hrow hy hrow4 hga hpv hil
            go_wp2_with fail
            go_roundw
            case rel => exact ⟨k + 1,s.dropG z,by omega,by go_num,HI2,HS4.out⟩
            case measure => simp [intOf]; omega
        · obtain rfl:k=m:=by omega
          rw [List.take_of_length_le (by rw [HM2.out]; exact Nat.le_refl _)] at habs
          have HS:=hide hS
          have HE:=hide (show (⟨t.regs,s,t.Ao,t.oc,h,t.b,0,[]⟩:GnT).a=t.a.minor from by
            show (⟨t.regs,s.abs,h,[]⟩:GnA)=_
            unfold GnA.minor dropK
            rw [habs,← HTE.out,← thereL_oj,← HFIN.out]
            have hb:∀ x ∈ thereL t.oj.abs,bt h x.toNat=t.a.kept x.toNat:=fun x hx => by
              obtain ⟨z,fs,rfl,hz⟩:=(mem_thereL _ _).1 hx
              have hz2:z < t.a.objs.length:=(List.getElem?_eq_some_iff.1 hz).1
              rw [HFIN.out,Int.toNat_natCast]
              exact GnA.od_range _ _ _ hz2
            have hg:goneB (bt h) (thereL t.oj.abs)=goneB t.a.kept (thereL t.a.objs):=by
              unfold goneB
              refine List.filter_congr fun x hx => ?_
              rw [hb x hx]
            rw [hg]
            rfl)
          have HKE:=hide (fun (X:World) (hX:Sep F W0 X (rowI 3 1 A2 k cc2 (ints T) :: ([gnM Be Bm t,blkI Be 109 (gnC Bm room t),oldI t.Ao t.oc t.old.length h,gmI t.b 0 []] ++ ojL s))) => (show Sep F W0 X (gnK Be Bm room ⟨t.regs,s,t.Ao,t.oc,h,t.b,0,[]⟩) from by
            have e1:gnC Bm room ⟨t.regs,s,t.Ao,t.oc,h,t.b,0,[]⟩=gnC Bm room t:=by
              unfold gnC Oj.v
              dsimp only
              rw [hps,hAs,hcs,HHL.out]
            unfold gnK gnR
            rw [e1]
            dsimp only
            rw [HHL.out]
            exact hX.sub (List.sublist_cons_self ..)))
          clear hS habs hps hAs hcs HI c1 c4 c5
          go_wp2_with (first
            | (refine wpList_gmClear rfl (.tmp 69) rfl HS.out 4 rfl rfl ?_
               intro w7 hS7
               (have HS7:=hide (HKE.out w7 hS7))
               clear hS7))
          go_end0
          exact ⟨⟨_,rfl⟩,_,HE.out,Nat.zero_le _,HS7.out⟩
    · intro p1 p2 w5 cnt' hp hl hc hS5 hsz hent
      obtain ⟨p,hpe⟩:∃ p:Gp,((p1,p2):Gp)=p:=⟨_,rfl⟩
      rw [hpe] at hp hl hS5 hent
      have hk5:Sep F W0 w5 (gnKr Be Bm room t r (fun q => left q && !decide (q=p)) cnt' h):=hS5
      obtain ⟨fs,hf,hmem,hget⟩:=HOK.out.mkv hp
      obtain ⟨po,hpo,hpf⟩:=ojF_at hf
      obtain ⟨q,hq⟩:∃ q,((t.a.fld p.1).getD []).getD p.2 (false,0)=q:=⟨_,rfl⟩
      rw [hq] at hmem hget
      have HST:=hide (show ∀ h':List Bool,(∀ i,bt h i=true → bt h' i=true) → (∀ j:Nat,(j:Int) ∈ tgts [q] → bt h' j=true) → ∀ p' ∈ t.mks,(left p' && !decide (p'=p))=false → ∀ j:Nat,((t.a.fld p'.1).getD []).getD p'.2 (false,0)=(true,(j:Int)) → bt h' j=true from fun h' hm hq2 p' hp' hl' j hj => by
        by_cases e:p'=p
        · subst e
          refine hq2 j (tgts_mem.2 ?_)
          rw [← hq,hj]
          exact List.mem_singleton.2 rfl
        · refine hm j (HP.out p' hp' ?_ j hj)
          cases hl2:left p' with
          | false => rfl
          | true => rw [hl2] at hl'; simp [e] at hl')
      have HC:=hide hc
      obtain ⟨g5,hgw⟩:∃ x,wr.heap.size=x:=⟨_,rfl⟩
      have hg5:w5.heap.size=g5:=hsz.trans hgw
      have hK6:Sep F W0 (w5.alloc (.cells #[.int .i64 (p.1:Int),.int .i64 (p.2:Int)] 88)) (blkI g5 88 #[.int .i64 (p.1:Int),.int .i64 (p.2:Int)] :: gnKr Be Bm room t r (fun q => left q && !decide (q=p)) cnt' h) :=
        (hk5.blkAt 88 #[.int .i64 (p.1:Int),.int .i64 (p.2:Int)] hg5).perm List.perm_append_comm
      obtain ⟨W5,hW5⟩:∃ x,w5.alloc (.cells #[.int .i64 (p.1:Int),.int .i64 (p.2:Int)] 88)=x:=⟨_,rfl⟩
      rw [hW5] at hK6
      obtain ⟨ad,e1,e2,e3,e4,e5⟩:=oj_at (pre:=[_,_,_,_,_]) hK6 hpo
      have hpl:=(List.getElem?_eq_some_iff.1 hpo).1
      obtain ⟨c1,c2,c3,-⟩:=hK6.rules 2 (g:=Be) (t:=109) rfl
      have c4:=(c1 0).trans (show _=some t.oj.v from rfl)
      obtain ⟨d1,d2,d3,-⟩:=hK6.rules 0 (g:=g5) (t:=88) rfl
      have d4:=(d1 0).trans (show _=some (.int .i64 (p.1:Int)) from rfl)
      have d5:=(d1 1).trans (show _=some (.int .i64 (p.2:Int)) from rfl)
      have hk2:p.2 < po.o.fields.length:=by rw [hpf]; exact (List.getElem?_eq_some_iff.1 hget).1
      have hfl:=oj_len (pre:=[_,_,_,_,_]) hK6 hpo
      have hf4:po.o.fields.length ≤ 4:=by rw [hpf]; exact HOK.out.f4 _ _ hf
      obtain ⟨⟨gf,hgf⟩,hcap⟩:=ob_own e5 (by omega)
      unfold gpV gz at hent
      dsimp only at hent
      unfold Oj.v at c4
      rw [e1] at c4
      subst hpe
      dsimp only at *
      have HW5:=hide hW5
      have HG5:=hide hgw
      have hKm:Sep F W0 W5.drew (gnK Be Bm room (t.o_ h)):=by
        rw [gnK_o Be Bm room t h HG.out.len]
        exact (hK6.drew.sub (List.sublist_cons_self ..)).gmEnd 3 rfl
      obtain ⟨go',gf',_,_⟩:=gn_go hKm (by rw [show (t.o_ h).old.length=t.old.length from HG.out.len]; exact HOL.out) HOK.out.r8
      rw [show (t.o_ h).old.length=t.old.length from HG.out.len] at gf'
      have hrd:=(gf'.p p1 po hpo).choose_spec.2.2.2.2.2.2.2.1
      have C8:=fun A c (hrd':Rd W5.drew (fun g => g ≠ go') 2 A 1 (vals [q])) => gkeep_any t.Ao go' Be t.oj t.old.length t.oc (RY t.a) t.old GOK.out (Un h) W5.drew A 1 c [q] h gf' (hK6.drew.get 3 rfl) hrd' (by omega) HG.out.len HG.out.mono (fun x hx => by
        have hx1:q=(true,x):=(List.mem_singleton.1 hx).symm
        obtain ⟨j,gs',ej,hj⟩:=HOK.out.vf p1 fs (true,x) hf (hx1 ▸ hmem) rfl
        refine ⟨j,gs',ej,hj,0,.root _ (List.mem_append_right _ (List.mem_map.2 ⟨(p1,p2),hp,?_⟩))⟩
        show ((t.a.fld p1).getD []).getD p2 (false,0)=_
        rw [hq,hx1]
        exact Prod.ext rfl ej) (Nat.le_refl _)
      have HK6:=hide hK6
      have hmx:Tryz.prog.follows .mixedOrders=true:=by kernel_rfl
      obtain ⟨⟨oA,on,oc',ofs⟩,hpo2⟩:∃ o,po.o=o:=⟨_,rfl⟩
      rw [hpo2] at e4 hfl hf4 hk2 hcap
      dsimp only at e4 hfl hf4 hk2 hcap
      rw [hpo2] at hgf
      dsimp only at hgf
      subst hgf
      have hp2n:p2 < on:=by omega
      have C8:=hide (C8 (some ⟨gf,p2 * 2,none⟩) (oc' - p2) (by
        rw [hpo2] at hrd
        exact rd_cut hrd hp2n (by rw [← hpf,hpo2] at hget; exact hget)))
      have hsl:=run_cut1 (some ⟨gf,0,none⟩) on oc' p2 hp2n hcap
      simp only [Option.map_some,hraddr0] at hsl
      have w1':IntKind.i64.wrap ((p2:Int) + 1)=(p2:Int) + 1:=by simp [IntKind.wrap,IntKind.bits,IntKind.signed]; omega
      clear hK6 hk5 hS5 hSO hS hW5 hg5 hgw c1 d1
      go_wp2_with fail
      rw [HW5.out,HG5.out]
      go_still_tail 18,hmx
      go_wp2_with fail
      refine C8.out.mono ?_
      rintro e w8 ⟨s8,⟨u8,rfl⟩,hg8,hS8⟩
      have HK8:=hide (show Sep F W0 w8 (gnKr Be Bm room t r (fun q => left q && !decide (q=(p1,p2))) cnt' s8) from (HK6.out.drew.call 3 rfl hS8).sub (List.sublist_cons_self ..))
      have HG8:=hide (HG.out.gk hg8)
      have HH8:=hide (show ∀ j:Nat,(j:Int) ∈ tgts t.regs → bt s8 j=true from fun j hj => hg8.mono j (HH.out j hj))
      have HP8:=hide (HST.out s8 hg8.mono hg8.hit)
      clear hg8 hS8 C8 HK6
      go_wp2_with fail
      go_roundg cnt'
      case measure => exact HC.out
      case rel => exact ⟨s8,_,HG8,HH8,HP8,HK8.out⟩
end Go.Proofs.YtjphckfbbiehdaaGreat

namespace Go.Proofs.YtjphckfbbiehdaaGreat
open Go.RowKit Go.Maps
theorem sBo:SliceT Tryz.prog 105 4 1 1:=SliceT.mk_ Tryz.underlying105 (z:=.bool false) (by kernel_rfl) rfl (by omega)
theorem perm_gn (x b o m:Item) (L:List Item):([x,b,o,m] ++ L).Perm ((b :: L) ++ [x,o,m]):=by
  have h1:([x,b,o,m] ++ L).Perm ([b,x,o,m] ++ L):=(List.Perm.swap _ _ _)
  refine h1.trans (List.Perm.cons b ?_)
  exact List.perm_append_comm (l₁:=[x,o,m]) (l₂:=L)
theorem gn_gather {F:Nat → Prop} {W w:World} {x b o m:Item} {L:List Item} (h:Sep F W w ([x,b,o,m] ++ L)):Sep F W w (allI (b :: L) :: [x,o,m]):=Sep.join (l:=b :: L) (h.perm (perm_gn x b o m L))
theorem gn_ungather {F:Nat → Prop} {W w:World} {x b o m:Item} {L:List Item} (h:Sep F W w (allI (b :: L) :: [x,o,m])):Sep F W w ([x,b,o,m] ++ L):=(Sep.split (l:=b :: L) h).perm (perm_gn x b o m L).symm
set_option maxRecDepth 100000 in
set_option maxHeartbeats 16000000 in
theorem gnew_any {F:Nat → Prop} {W0 w:World} {Be Bm:Nat} {room:Nat} {t:GnT} (hK:Sep F W0 w (gnK Be Bm (room:Int) t)) (ok:GnOk t.a) (hn:t.oj.ps.length ≤ 500) {n:Nat} (h4:n ≤ 4) :
    Calls Tryz.prog 118 #[.pointer (some ⟨Be,0,none⟩),.int .i64 (n:Int)] w fun e w' => e=.returned (.tuple #[.int .i64 (gnNew room t.a n).2.1,.int .i64 (gnNew room t.a n).2.2]) ∧ ∃ t':GnT,t'.a=(gnNew room t.a n).1 ∧ t'.N ≤ t.N ∧ Sep F W0 w' (gnK Be Bm (room:Int) t'):=by
  have hNl:t.a.objs.length=t.oj.ps.length:=List.length_map ..
  have hol:t.old.length=t.oj.ps.length:=by have h:t.old.length=t.a.objs.length:=ok.ol; omega
  obtain ⟨-,-,-,-,k4,k5,k6⟩:=gn_cells (pre:=[]) hK
  have C1:=hide (gmany_any (pre:=[]) hK.drew hol (by omega) false)
  have HCE:=hide (fun (X:World) (hb:Below w.heap.size w X) => (⟨(gn_cells (pre:=[]) (hK.below hb)).2.2.2.2.1,(gn_cells (pre:=[]) (hK.below hb)).2.2.2.2.2.2⟩:X.cell? ⟨Be,4,none⟩=some (.int .i64 (room:Int)) ∧ Be < X.heap.size))
  have HTAIL:=hide (fun (X:World) (t2:GnT) (hX:Sep F W0 X (gnK Be Bm (room:Int) t2)) (he:t2.a=gnRoom room t.a) => gmany_any (pre:=[]) hX (by
    have h1:=(ok.room room).ol
    rw [← he] at h1
    have h2:t2.a.objs.length=t2.oj.ps.length:=List.length_map ..
    rw [← h2]; exact h1) (by
    have h1:=gnRoom_len room t.a
    rw [← he] at h1
    have h2:t2.a.objs.length=t2.oj.ps.length:=List.length_map ..
    omega) true)
  have CM:=hide (fun (X:World) (hb:Below w.heap.size w X) => gminor_any (hK.below hb) ok (by omega))
  have HNO:=hide (show 24 ≤ (gnRoom room t.a).many true → gnNew room t.a n=(gnRoom room t.a,0,6) from fun h => by unfold gnNew; rw [if_pos h])
  have HYES:=hide (show ¬ 24 ≤ (gnRoom room t.a).many true → gnNew room t.a n=((gnRoom room t.a).push n,(t.a.objs.length:Int),0) from fun h => by unfold gnNew; rw [if_neg h])
  have HRL:=hide (gnRoom_len room t.a)
  have HRK:=hide (ok.room room)
  have HK:=hide hK
  have HOK:=hide ok
  have HNL:=hide hNl
  obtain ⟨q,hq⟩:∃ q,t.a.many false=q:=⟨_,rfl⟩
  rw [hq] at C1
  have HQ:=hide hq
  have hq6:q ≤ 600:=by
    rw [← hq,many_cnt]
    have h1:=cntB_le t.old false (thereL t.oj.ps)
    have h2:=thereL_len t.oj.ps
    omega
  clear hK ok hNl hol hq
  by_cases hr:room ≤ q
  · have HRO:=hide (show gnRoom room t.a=t.a.minor from by unfold gnRoom; rw [if_pos (by rw [HQ.out]; exact hr)])
    have t1:decide ((room:Int) ≤ (q:Int))=true:=by simp; omega
    have t2:decide (room ≤ q)=true:=by simp; omega
    go_enter Tryz.func118,Tryz.ntmps118
    go_wp2_with fail
    go_region_law (first
      | (try go_simp
         go_at_call 120
         refine C1.out.mono ?_
         rintro e w1 ⟨rfl,hb1⟩
         (have hb2:Below w.heap.size w w1:=(Below.refl _ w).drew.trans hb1)
         obtain ⟨y1,y2⟩:=HCE.out w1 hb2
         (have HB:=hide hb2)
         clear hb1 hb2))
    all_goals
      go_wp2_with fail
      refine (CM.out _ HB.out).mono ?_
      rintro e w2 ⟨⟨u2,rfl⟩,t2,he2,hN2,hS2⟩
      (have HNN:=hide hN2)
      clear hN2
      (have he3:t2.a=gnRoom room t.a:=he2.trans HRO.out.symm)
      clear y1 y2 HB he2
      go_wp2_with fail
      (obtain ⟨M,hM⟩:∃ M,t2.a.many true=M:=⟨_,rfl⟩)
      (have CT2:=HTAIL.out w2 t2 hS2 he3)
      rw [hM] at CT2
      (have CT2:=hide CT2)
      (have HE3:=hide he3)
      (have HMM:=hide hM)
      clear he3 hM
      refine CT2.out.mono ?_
      rintro e w3 ⟨rfl,hb3⟩
      (have hS3:=hS2.below hb3)
      (have hrl:t2.oj.ps.length=t.oj.ps.length:=by
        have h1:=HRL.out
        rw [← HE3.out] at h1
        have h2:t2.a.objs.length=t2.oj.ps.length:=List.length_map ..
        have h3:=HNL.out
        omega)
      (have hol2:t2.old.length=t2.oj.ps.length:=by
        have h1:=HRK.out.ol
        rw [← HE3.out] at h1
        have h2:t2.a.objs.length=t2.oj.ps.length:=List.length_map ..
        rw [← h2]; exact h1)
      by_cases h24:24 ≤ M
      · have hno:=HNO.out (by rw [← HE3.out,HMM.out]; exact h24)
        have HNX:=hide hno
        have t3:decide ((24:Int) ≤ (M:Int))=true:=by simp; omega
        have HS3:=hide hS3
        clear hS3 hS2 hb3 hno hrl hol2
        go_wp2_with fail
        refine bodyPost_ret (v:=.tuple #[.int .i64 0,.int .i64 6]) (by simp [results,Tryz.results118,go_sem]) rfl ⟨by rw [HNX.out],t2,by rw [HNX.out]; exact HE3.out,HNN.out,HS3.out⟩
      · have hyes:=HYES.out (by rw [← HE3.out,HMM.out]; exact h24)
        have HYX:=hide hyes
        have t3:decide ((24:Int) ≤ (M:Int))=false:=by simp; omega
        have t4:decide (24 ≤ M)=false:=by simp; omega
        have HP2:=hide HE3.out
        have hS3':Sep F W0 w3 ([gnM Be Bm t2,blkI Be 109 (gnC Bm (room:Int) t2),oldI t2.Ao t2.oc t2.old.length t2.old,gmI t2.b t2.N t2.mks] ++ ojL t2.oj):=hS3
        obtain ⟨c1,c2,c3,-⟩:=hS3'.rules 1 (g:=Be) (t:=109) rfl
        have c4:=(c1 2).trans (show _=some (.slice t2.Ao t2.old.length t2.oc) from rfl)
        have hN2:t2.old.length ≤ 500:=by omega
        have HFIN:=hide (fun (wq:World) (A7 As:Option Addr) (c7 cA B gB:Nat) (hq:Sep F W0 wq ([gnM Be Bm t2,blkI Be 109 (((gnC Bm (room:Int) t2).setIfInBounds 2 (.slice A7 (t2.old.length + 1) c7)).setIfInBounds 0 (t2.oj.new As cA B gB n).v),rowI 4 1 A7 (t2.old.length + 1) c7 (bools t2.old ++ (#[.bool false]:Array Value).toList),gmI t2.b t2.N t2.mks] ++ ojL (t2.oj.new As cA B gB n))) =>
          (show ∃ t':GnT,t'.a=(gnRoom room t.a).push n ∧ t'.N ≤ t.N ∧ Sep F W0 wq (gnK Be Bm (room:Int) t') from by
            refine ⟨⟨t2.regs,t2.oj.new As cA B gB n,A7,c7,t2.old ++ [false],t2.b,t2.N,t2.mks⟩,?_,HNN.out,?_⟩
            · rw [← HP2.out]
              show (⟨t2.regs,(t2.oj.new As cA B gB n).abs,t2.old ++ [false],t2.mks⟩:GnA)=_
              rw [Oj.abs_new]
              rfl
            · unfold gnK gnR gnC oldI
              dsimp only
              rw [List.length_append,show bools (t2.old ++ [false])=bools t2.old ++ (#[.bool false]:Array Value).toList from by simp [bools]]
              exact hq))
        have hN3:t2.oj.ps.length ≤ 500:=by omega
        have HLN:=hide (show (t.a.objs.length:Int)=(t2.oj.ps.length:Int) from by have:=HNL.out; omega)
        clear hS3 hS2 hb3 hyes c1 hrl hol2
        go_wp2_with (first
          | (at_builtin
             refine wpList_app1 (cs:=#[.bool false]) rfl (.tmp 22) (.tmp 23) 105 rfl sBo hS3' 2 (n:=t2.old.length) rfl rfl rfl (by simp) rfl rfl (by omega) ?_
             intro A7 c7 w7 hS7 hC7
             obtain ⟨d1,d2,d3,-⟩:=hS7.rules 1 (g:=Be) (t:=109) rfl
             (have d4:=(d1 2).trans (show _=some (.slice t2.Ao t2.old.length t2.oc) from rfl))
             (have hS8:=hS7.set_ 1 (g:=Be) (t:=109) rfl 2 (.slice A7 (t2.old.length + 1) c7))
             (have hG:=gn_gather (x:=gnM Be Bm t2) (b:=blkI Be 109 ((gnC Bm (room:Int) t2).setIfInBounds 2 (.slice A7 (t2.old.length + 1) c7))) (o:=rowI 4 1 A7 (t2.old.length + 1) c7 (bools t2.old ++ (#[.bool false]:Array Value).toList)) (m:=gmI t2.b t2.N t2.mks) (L:=ojL t2.oj) hS8)
             (have CN:=hide (onew_any ((Sep.start (hG.get 0 rfl)).flat) (s:=t2.oj) rfl (by omega) h4))
             (have HG:=hide hG)
             clear hS7 hS8 hG hC7 d1))
        refine CN.out.mono ?_
        rintro e w9 ⟨rfl,As,cA,B,gB,hP9⟩
        (obtain ⟨t',he',hN9,hS9⟩:=HFIN.out w9 A7 As c7 cA B gB (gn_ungather (HG.out.call 0 rfl hP9.fold)))
        (have HS9:=hide hS9)
        (have HN9:=hide hN9)
        clear hP9 hS9 hN9 HG CN HFIN d2 d3 d4 c2 c3 c4
        go_wp2_with fail
        refine bodyPost_ret (v:=.tuple #[.int .i64 t2.oj.ps.length,.int .i64 0]) (by simp [results,Tryz.results118,go_sem]) rfl ⟨by rw [HYX.out,HLN.out],t',by rw [HYX.out]; exact he',HN9.out,HS9.out⟩
  · have HRO:=hide (show gnRoom room t.a=t.a from by unfold gnRoom; rw [if_neg (by rw [HQ.out]; exact hr)])
    have t1:decide ((room:Int) ≤ (q:Int))=false:=by simp; omega
    have t2':decide (room ≤ q)=false:=by simp; omega
    go_enter Tryz.func118,Tryz.ntmps118
    go_wp2_with fail
    go_region_law (first
      | (try go_simp
         go_at_call 120
         refine C1.out.mono ?_
         rintro e w1 ⟨rfl,hb1⟩
         (have hb2:Below w.heap.size w w1:=(Below.refl _ w).drew.trans hb1)
         obtain ⟨y1,y2⟩:=HCE.out w1 hb2
         (have HB:=hide hb2)
         clear hb1 hb2))
    all_goals
      (obtain ⟨t2,he3,hN2,hS2⟩:∃ t2:GnT,t2.a=gnRoom room t.a ∧ t2.N ≤ t.N ∧ Sep F W0 w1 (gnK Be Bm (room:Int) t2):=⟨t,HRO.out.symm,Nat.le_refl _,HK.out.below HB.out⟩)
      (have HNN:=hide hN2)
      clear hN2
      clear y1 y2 HB
      go_wp2_with fail
      (obtain ⟨M,hM⟩:∃ M,t2.a.many true=M:=⟨_,rfl⟩)
      (have CT2:=HTAIL.out w1 t2 hS2 he3)
      rw [hM] at CT2
      (have CT2:=hide CT2)
      (have HE3:=hide he3)
      (have HMM:=hide hM)
      clear he3 hM
      refine CT2.out.mono ?_
      rintro e w3 ⟨rfl,hb3⟩
      (have hS3:=hS2.below hb3)
      (have hrl:t2.oj.ps.length=t.oj.ps.length:=by
        have h1:=HRL.out
        rw [← HE3.out] at h1
        have h2:t2.a.objs.length=t2.oj.ps.length:=List.length_map ..
        have h3:=HNL.out
        omega)
      (have hol2:t2.old.length=t2.oj.ps.length:=by
        have h1:=HRK.out.ol
        rw [← HE3.out] at h1
        have h2:t2.a.objs.length=t2.oj.ps.length:=List.length_map ..
        rw [← h2]; exact h1)
      by_cases h24:24 ≤ M
      · have hno:=HNO.out (by rw [← HE3.out,HMM.out]; exact h24)
        have HNX:=hide hno
        have t3:decide ((24:Int) ≤ (M:Int))=true:=by simp; omega
        have HS3:=hide hS3
        clear hS3 hS2 hb3 hno hrl hol2
        go_wp2_with fail
        refine bodyPost_ret (v:=.tuple #[.int .i64 0,.int .i64 6]) (by simp [results,Tryz.results118,go_sem]) rfl ⟨by rw [HNX.out],t2,by rw [HNX.out]; exact HE3.out,HNN.out,HS3.out⟩
      · have hyes:=HYES.out (by rw [← HE3.out,HMM.out]; exact h24)
        have HYX:=hide hyes
        have t3:decide ((24:Int) ≤ (M:Int))=false:=by simp; omega
        have t4:decide (24 ≤ M)=false:=by simp; omega
        have HP2:=hide HE3.out
        have hS3':Sep F W0 w3 ([gnM Be Bm t2,blkI Be 109 (gnC Bm (room:Int) t2),oldI t2.Ao t2.oc t2.old.length t2.old,gmI t2.b t2.N t2.mks] ++ ojL t2.oj):=hS3
        obtain ⟨c1,c2,c3,-⟩:=hS3'.rules 1 (g:=Be) (t:=109) rfl
        have c4:=(c1 2).trans (show _=some (.slice t2.Ao t2.old.length t2.oc) from rfl)
        have hN2:t2.old.length ≤ 500:=by omega
        have HFIN:=hide (fun (wq:World) (A7 As:Option Addr) (c7 cA B gB:Nat) (hq:Sep F W0 wq ([gnM Be Bm t2,blkI Be 109 (((gnC Bm (room:Int) t2).setIfInBounds 2 (.slice A7 (t2.old.length + 1) c7)).setIfInBounds 0 (t2.oj.new As cA B gB n).v),rowI 4 1 A7 (t2.old.length + 1) c7 (bools t2.old ++ (#[.bool false]:Array Value).toList),gmI t2.b t2.N t2.mks] ++ ojL (t2.oj.new As cA B gB n))) =>
          (show ∃ t':GnT,t'.a=(gnRoom room t.a).push n ∧ t'.N ≤ t.N ∧ Sep F W0 wq (gnK Be Bm (room:Int) t') from by
            refine ⟨⟨t2.regs,t2.oj.new As cA B gB n,A7,c7,t2.old ++ [false],t2.b,t2.N,t2.mks⟩,?_,HNN.out,?_⟩
            · rw [← HP2.out]
              show (⟨t2.regs,(t2.oj.new As cA B gB n).abs,t2.old ++ [false],t2.mks⟩:GnA)=_
              rw [Oj.abs_new]
              rfl
            · unfold gnK gnR gnC oldI
              dsimp only
              rw [List.length_append,show bools (t2.old ++ [false])=bools t2.old ++ (#[.bool false]:Array Value).toList from by simp [bools]]
              exact hq))
        have hN3:t2.oj.ps.length ≤ 500:=by omega
        have HLN:=hide (show (t.a.objs.length:Int)=(t2.oj.ps.length:Int) from by have:=HNL.out; omega)
        clear hS3 hS2 hb3 hyes c1 hrl hol2
        go_wp2_with (first
          | (at_builtin
             refine wpList_app1 (cs:=#[.bool false]) rfl (.tmp 22) (.tmp 23) 105 rfl sBo hS3' 2 (n:=t2.old.length) rfl rfl rfl (by simp) rfl rfl (by omega) ?_
             intro A7 c7 w7 hS7 hC7
             obtain ⟨d1,d2,d3,-⟩:=hS7.rules 1 (g:=Be) (t:=109) rfl
             (have d4:=(d1 2).trans (show _=some (.slice t2.Ao t2.old.length t2.oc) from rfl))
             (have hS8:=hS7.set_ 1 (g:=Be) (t:=109) rfl 2 (.slice A7 (t2.old.length + 1) c7))
             (have hG:=gn_gather (x:=gnM Be Bm t2) (b:=blkI Be 109 ((gnC Bm (room:Int) t2).setIfInBounds 2 (.slice A7 (t2.old.length + 1) c7))) (o:=rowI 4 1 A7 (t2.old.length + 1) c7 (bools t2.old ++ (#[.bool false]:Array Value).toList)) (m:=gmI t2.b t2.N t2.mks) (L:=ojL t2.oj) hS8)
             (have CN:=hide (onew_any ((Sep.start (hG.get 0 rfl)).flat) (s:=t2.oj) rfl (by omega) h4))
             (have HG:=hide hG)
             clear hS7 hS8 hG hC7 d1))
        refine CN.out.mono ?_
        rintro e w9 ⟨rfl,As,cA,B,gB,hP9⟩
        (obtain ⟨t',he',hN9,hS9⟩:=HFIN.out w9 A7 As c7 cA B gB (gn_ungather (HG.out.call 0 rfl hP9.fold)))
        (have HS9:=hide hS9)
        (have HN9:=hide hN9)
        clear hP9 hS9 hN9 HG CN HFIN d2 d3 d4 c2 c3 c4
        go_wp2_with fail
        refine bodyPost_ret (v:=.tuple #[.int .i64 t2.oj.ps.length,.int .i64 0]) (by simp [results,Tryz.results118,go_sem]) rfl ⟨by rw [HYX.out,HLN.out],t',by rw [HYX.out]; exact he',HN9.out,HS9.out⟩
end Go.Proofs.YtjphckfbbiehdaaGreat

namespace Go.Proofs.YtjphckfbbiehdaaGreat
open Go.RowKit Go.Maps
theorem gput_gather {F:Nat → Prop} {W w:World} {x b o m z:Item} {L:List Item} (h:Sep F W w ([x,b,o,m] ++ L ++ [z])):Sep F W w (allI L :: [z,x,b,o,m]) :=
  Sep.join (l:=L) (h.perm (by
    rw [List.append_assoc]
    refine List.perm_append_comm.trans ?_
    rw [List.append_assoc]
    exact List.Perm.refl _))
theorem gput_ungather {F:Nat → Prop} {W w:World} {l L:List Item} (h:Sep F W w (allI L :: l)):Sep F W w (l ++ L):=(Sep.split h).perm List.perm_append_comm
set_option maxRecDepth 100000 in
set_option maxHeartbeats 16000000 in
theorem gput_any {F:Nat → Prop} {W0 w:World} {Be Bm:Nat} {room:Nat} {t:GnT} (hK:Sep F W0 w (gnK Be Bm (room:Int) t)) (ok:GnOk t.a) (hn:t.oj.ps.length ≤ 600) (hN:t.N ≤ 100000) {i k:Nat} {fs:List Val} (v:Val) (hf:t.a.fld i=some fs) (hk:k < fs.length) (hv:t.a.vok v) :
    Calls Tryz.prog 119 #[.pointer (some ⟨Be,0,none⟩),.int .i64 (i:Int),.int .i64 (k:Int),.agg #[.bool v.1,.int .i64 v.2]] w fun e w' => (∃ u,e=.returned u) ∧ ∃ t':GnT,t'.a=gnPut t.a i k v ∧ t'.N ≤ t.N + 1 ∧ Sep F W0 w' (gnK Be Bm (room:Int) t'):=by
  have hNl:t.a.objs.length=t.oj.ps.length:=List.length_map ..
  have hol:t.old.length=t.oj.ps.length:=by have h:t.old.length=t.a.objs.length:=ok.ol; omega
  obtain ⟨p,hp,hpf⟩:=ojF_at hf
  obtain ⟨g,hg⟩:∃ g,w.heap.size=g:=⟨_,rfl⟩
  have hK1:=hK.blkAt 63 #[.bool v.1,.int .i64 v.2] hg
  have hG:=gput_gather (x:=gnM Be Bm t) (b:=blkI Be 109 (gnC Bm (room:Int) t)) (o:=oldI t.Ao t.oc t.old.length t.old) (m:=gmI t.b t.N t.mks) (L:=ojL t.oj) (z:=blkI g 63 #[.bool v.1,.int .i64 v.2]) hK1
  obtain ⟨W1,hW1⟩:∃ W1,w.alloc (.cells #[.bool v.1,.int .i64 v.2] 63)=W1:=⟨_,rfl⟩
  rw [hW1] at hG
  obtain ⟨c1,c2,c3,-⟩:=hG.rules 3 (g:=Be) (t:=109) rfl
  have c4:=(c1 0).trans (show _=some t.oj.v from rfl)
  obtain ⟨b1,b2,b3,-⟩:=hG.rules 1 (g:=g) (t:=63) rfl
  have b4:=(b1 0).trans (show _=some (.bool v.1) from rfl)
  have b5:=(b1 1).trans (show _=some (.int .i64 v.2) from rfl)
  have hf4:=ok.f4 i fs hf
  have C:=hide (oput_any (hG.drew.get 0 rfl) (by omega) v hp (by rw [hpf]; exact hk) (by rw [hpf]; exact hf4))
  have hil:i < t.old.length:=by rw [hol]; exact (List.getElem?_eq_some_iff.1 hp).1
  have HZ:=hide (show ZOk (gz (i,k)) from gz_ok (by omega) (by dsimp only; omega))
  have HVJ:=hide (show v.1=true → ∃ j:Nat,v.2=(j:Int) ∧ j < t.old.length from fun h => by
    obtain ⟨j,gs,e,hj⟩:=hv h
    have:=GnA.fld_lt hj
    exact ⟨j,e,by omega⟩)
  have HPF:=hide hpf
  have HFLD:=hide hf
  have HG:=hide hG
  have HW1:=hide hW1
  have HGG:=hide hg
  have hmx:Tryz.prog.follows .mixedOrders=true:=by kernel_rfl
  obtain ⟨bv,mv⟩:=v
  dsimp only at b4 b5 HVJ HG HW1 C ⊢
  clear hK hK1 hG hW1 hg c1 b1 ok hf hk hv hp hpf
  go_enter Tryz.func119,Tryz.ntmps119
  go_wp2_with fail
  rw [HW1.out,HGG.out]
  go_still_tail 7,hmx
  go_wp2_with fail
  refine C.out.mono ?_
  rintro e w2 ⟨⟨u2,rfl⟩,hP2⟩
  have hS2:=gput_ungather (HG.out.drew.call 0 rfl hP2)
  obtain ⟨c1,c2,c3,-⟩:=hS2.rules 2 (g:=Be) (t:=109) rfl
  have c4:=(c1 2).trans (show _=some (.slice t.Ao t.old.length t.oc) from rfl)
  have c5:=(c1 3).trans (show _=some (.map (some t.b)) from rfl)
  obtain ⟨d1,d2,d3,-⟩:=hS2.rules 0 (g:=g) (t:=63) rfl
  have d4:=(d1 0).trans (show _=some (.bool bv) from rfl)
  have d5:=(d1 1).trans (show _=some (.int .i64 mv) from rfl)
  obtain ⟨go,hgo⟩:=old_some hS2 (k:=3) rfl (by omega)
  have hrow:=hS2.get 3 rfl
  unfold oldI at hrow
  rw [hgo] at hrow c4
  obtain ⟨f1,f2⟩:=bo_cell hrow i hil
  obtain ⟨y,hy⟩:∃ y,bt t.old i=y:=⟨_,rfl⟩
  rw [show t.old.getD i false=y from hy] at f1
  have HY:=hide hy
  have HFIN:=hide (fun (X:World) (N':Nat) (mks':List Gp) (hm:mks'=(gnPut t.a i k (bv,mv)).mks) (hN':N' ≤ t.N + 1) (hX:Sep F W0 X ([blkI g 63 #[.bool bv,.int .i64 mv],gnM Be Bm t,blkI Be 109 (gnC Bm (room:Int) t),oldI t.Ao t.oc t.old.length t.old,gmI t.b N' mks'] ++ ojL (t.oj.put i k (bv,mv) p))) =>
    (show ∃ t':GnT,t'.a=gnPut t.a i k (bv,mv) ∧ t'.N ≤ t.N + 1 ∧ Sep F W0 X (gnK Be Bm (room:Int) t') from by
      refine ⟨⟨t.regs,t.oj.put i k (bv,mv) p,t.Ao,t.oc,t.old,t.b,N',mks'⟩,?_,hN',?_⟩
      · show (⟨t.regs,(t.oj.put i k (bv,mv) p).abs,t.old,mks'⟩:GnA)=_
        rw [oj_put_abs,hm,HPF.out]
        unfold gnPut
        rw [HFLD.out]
        rfl
      · have e1:gnC Bm (room:Int) ⟨t.regs,t.oj.put i k (bv,mv) p,t.Ao,t.oc,t.old,t.b,N',mks'⟩=gnC Bm (room:Int) t:=by
          unfold gnC Oj.v Oj.put
          dsimp only
          rw [List.length_set]
        unfold gnK gnR
        rw [e1]
        exact hX.sub (List.sublist_cons_self ..)))
  have HS2:=hide hS2
  have t1:(i:Int) < (t.old.length:Int):=by omega
  obtain ⟨NO,hNO⟩:∃ NO,t.old.length=NO:=⟨_,rfl⟩
  rw [hNO] at c4 hil t1 HVJ hrow
  clear hS2 hP2 C HG c1 d1 hy
  cases y with
  | false =>
    have HMK:=hide (show t.mks=(gnPut t.a i k (bv,mv)).mks from by
      unfold gnPut
      rw [show t.a.od i=false from HY.out]
      rfl)
    go_wp2_with fail
    go_quiet (fail)
    go_wp2_with fail
    go_end0
    exact ⟨⟨_,rfl⟩,HFIN.out _ t.N t.mks HMK.out (Nat.le_succ _) (HS2.out.drewN _)⟩
  | true =>
    cases bv with
    | false =>
      have HMK:=hide (show t.mks=(gnPut t.a i k (false,mv)).mks from by
        unfold gnPut
        dsimp only
        rw [Bool.and_false,Bool.false_and]
        rfl)
      go_wp2_with fail
      go_quiet (fail)
      go_wp2_with fail
      go_end0
      exact ⟨⟨_,rfl⟩,HFIN.out _ t.N t.mks HMK.out (Nat.le_succ _) (HS2.out.drewN _)⟩
    | true =>
      obtain ⟨j,rfl,hj⟩:=HVJ.out rfl
      obtain ⟨q1,q2⟩:=bo_cell hrow j hj
      obtain ⟨y2,hy2⟩:∃ y,bt t.old j=y:=⟨_,rfl⟩
      rw [show t.old.getD j false=y2 from hy2] at q1
      have t2:(j:Int) < (NO:Int):=by omega
      have HY2:=hide hy2
      clear hy2
      cases y2 with
      | true =>
        have HMK:=hide (show t.mks=(gnPut t.a i k (true,(j:Int))).mks from by
          unfold gnPut
          dsimp only
          rw [Int.toNat_natCast,show t.a.od j=true from HY2.out,Bool.not_true,Bool.and_false]
          rfl)
        go_wp2_with fail
        go_quiet (fail)
        go_wp2_with fail
        go_end0
        exact ⟨⟨_,rfl⟩,HFIN.out _ t.N t.mks HMK.out (Nat.le_succ _) (HS2.out.drewN _)⟩
      | false =>
        have HMK:=hide (show insF (i,k) t.mks=(gnPut t.a i k (true,(j:Int))).mks from by
          unfold gnPut
          dsimp only
          rw [Int.toNat_natCast,show t.a.od j=false from HY2.out,show t.a.od i=true from HY.out]
          rfl)
        go_wp2_with fail
        go_quiet (fail)
        go_wp2_with (first
          | (refine wpList_gmPut rfl (.tmp 41) (.tmp 44) (.const (.int .i64 1)) rfl (HS2.out.drewN _) 4 rfl (by unfold maxLen; omega) (i,k) rfl rfl rfl HZ.out (insF (i,k) t.mks) (fun q => mem_insF) ?_
             intro w7 hS7
             (have HS7:=hide hS7)
             clear hS7))
        go_end0
        exact ⟨⟨_,rfl⟩,HFIN.out _ (t.N + 1) _ HMK.out (Nat.le_refl _) HS7.out⟩
end Go.Proofs.YtjphckfbbiehdaaGreat
