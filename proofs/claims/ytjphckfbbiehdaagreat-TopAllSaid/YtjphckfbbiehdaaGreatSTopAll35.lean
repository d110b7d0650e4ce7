/- Part of a proof. -/
import Derived.Test.YtjphckfbbiehdaaGreatSTopAll33
import Derived.Test.YtjphckfbbiehdaaGreatSTopAll34
set_option linter.unusedSimpArgs false
set_option linter.unusedVariables false
namespace Go.Proofs.YtjphckfbbiehdaaGreat
open Go.RowKit Go.Maps Go.Shelf
attribute [local go_sem] Oper.semAt_some
structure GrF (go Bs Bw Bo:Nat) (oj:Oj) (N oc:Nat) (w:World):Prop where
  hs:Bs ≠ go ∧ Bs < w.heap.size
  hw:Bw ≠ go ∧ Bw < w.heap.size
  ho:Bo ≠ go ∧ Bo < w.heap.size
  cs:w.cell? ⟨Bs,0,none⟩=some (.slice (some ⟨go,0,none⟩) N oc)
  cw:w.cell? ⟨Bw,0,none⟩=some (.func (.func 67) #[] #[.pointer (some ⟨Bs,0,none⟩),.pointer (some ⟨Bw,0,none⟩),.pointer (some ⟨Bo,0,none⟩)])
  co:w.cell? ⟨Bo,0,none⟩=some oj.v
  p:∀ (i:Nat) (p:Po),oj.ps[i]?=some (some p) → ∃ ad,oj.As=some ad ∧ ad.block ≠ go ∧ ad.block < w.heap.size ∧ w.cell? (ad.add i)=some (.pointer (some ⟨p.B,0,none⟩)) ∧ p.B ≠ go ∧ p.B < w.heap.size ∧ w.cell? ⟨p.B,0,none⟩=some (.slice p.o.A p.o.n p.o.c) ∧ Rd w (fun g => g ≠ go) 2 p.o.A p.o.n (vals p.o.fields) ∧ p.o.fields.length=p.o.n
theorem GrF.chg {go Bs Bw Bo:Nat} {oj:Oj} {N oc:Nat} {w w':World} {F:Nat → Prop} (a:GrF go Bs Bw Bo oj N oc w) (hc:Chg F w w') (hF:∀ k,F k → k=go):GrF go Bs Bw Bo oj N oc w' where
  hs:=⟨a.hs.1,Nat.lt_of_lt_of_le a.hs.2 hc.size⟩
  hw:=⟨a.hw.1,Nat.lt_of_lt_of_le a.hw.2 hc.size⟩
  ho:=⟨a.ho.1,Nat.lt_of_lt_of_le a.ho.2 hc.size⟩
  cs:=chg_cell hc hF a.hs.1 a.hs.2 a.cs
  cw:=chg_cell hc hF a.hw.1 a.hw.2 a.cw
  co:=chg_cell hc hF a.ho.1 a.ho.2 a.co
  p i p hp:=by
    obtain ⟨ad,h1,h2,h3,h4,h5,h6,h7,h8,h9⟩:=a.p i p hp
    exact ⟨ad,h1,h2,Nat.lt_of_lt_of_le h3 hc.size,chg_cell hc hF (ad:=ad.add i) (by rw [add_blk]; exact h2) (by rw [add_blk]; exact h3) h4,h5,Nat.lt_of_lt_of_le h6 hc.size,chg_cell hc hF (ad:=⟨p.B,0,none⟩) h5 h6 h7,h8.keep hc.size (fun k hk hd => hc.block k hk (fun h => hd (hF k h))),h9⟩
def GrC (go Bs Bw Bo:Nat) (oj:Oj) (N oc:Nat) (R:Nat → Prop) (old0:List Bool) (m:Nat):Prop :=
  ∀ (w:World) (A:Option Addr) (n c:Nat) (vs:List Val) (h:List Bool),GrF go Bs Bw Bo oj N oc w → (oldI (some ⟨go,0,none⟩) oc N h).P w → Rd w (fun g => g ≠ go) 2 A n (vals vs) → n ≤ 8 → h.length=N → (∀ i,bt old0 i=true → bt h i=true) →
    (∀ x,(true,x) ∈ vs → ∃ (j:Nat) (gs:List Val),x=(j:Int) ∧ ojF oj j=some gs ∧ R j) → Un h ≤ m →
    Calls Tryz.prog 67 #[.slice A n c,.pointer (some ⟨Bs,0,none⟩),.pointer (some ⟨Bw,0,none⟩),.pointer (some ⟨Bo,0,none⟩)] w (RetS (oldI (some ⟨go,0,none⟩) oc N) (fun s => Gk N (ojF oj) R (tgts vs) h s) (oldI (some ⟨go,0,none⟩) oc N h).fp w)
set_option maxRecDepth 100000 in
set_option maxHeartbeats 4000000 in
theorem greach_step (go Bs Bw Bo:Nat) (oj:Oj) (N oc:Nat) (R:Nat → Prop) (old0:List Bool) (ok:GkOk N (ojF oj) R old0) (m:Nat) (ih:∀ k,m=k + 1 → GrC go Bs Bw Bo oj N oc R old0 k):GrC go Bs Bw Bo oj N oc R old0 m:=by
  intro w A n c vs h hM hP hRd hn8 hhl h0 hvs hB
  obtain ⟨F,hF⟩:∃ F,(oldI (some ⟨go,0,none⟩) oc N h).fp=F:=⟨_,rfl⟩
  have hFk:∀ k,F k → k=go:=fun k hk => by rw [← hF] at hk; exact oldI_fp.1 hk
  have hS0:=Sep.start hP
  rw [hF] at hS0 ⊢
  have HFK:=hide hFk
  have HM:=hide hM
  have HB:=hide hB
  have HHL:=hide hhl
  have HS0:=hide hS0
  have HIH:=hide ih
  have HOK:=hide ok
  have HH0:=hide h0
  have HVS:=hide hvs
  have HRD:=hide hRd
  clear hF hFk hP hM hB hhl hS0 ih ok h0 hvs hRd
  refine (callsIn_wide (n:=10)).1 ?_
  refine callsIn_of_wp_calm Tryz.func67 rfl trivial ?_ rfl
  simp only [Tryz.ntmps67,List.size_toArray,List.length_cons,List.length_nil,Nat.reduceAdd,Nat.reduceSub,Array.replicate_succ,Array.replicate_zero,List.push_toArray,List.append_toArray,List.nil_append,List.cons_append]
  gi_wp2_with (refine ⟨trivial,?_⟩; gi_at_call 45; refine (targets_in Fence.wide 9 trivial rfl _ _ _ _).mono ?_; rintro e w2 ⟨rfl,rfl⟩)
  have hS2:=HS0.out.blkAt 23 #[.slice A n c] (g:=w.heap.size) rfl
  have hmx:Tryz.prog.follows .mixedOrders=true:=by kernel_rfl
  refine wpIn_tgt (n:=10) rfl (by omega) trivial w.heap.size (by rfl) (by rfl) (oldI (some ⟨go,0,none⟩) oc N) h (vs:=vs) (by omega) (hS2.get 1 rfl) (hS2.other (a:=1) (b:=0) rfl rfl (by omega) _ rfl)
    ((HRD.out.below ((Below.refl _ _).alloc (Nat.le_refl _) _)).more (fun g _ hg hf => hg (oldI_fp.1 hf)))
    (fun pre s => Gk N (ojF oj) R pre h s) (fun _ _ _ => False) (fun s => Tame.row _ _ _ _ _ _ _) (Gk.refl HHL.out) (hS2.get 0 rfl) ?a1 ?assign ?body ?done ?stop
  case assign =>
    intro l x W K hK
    gi_wp2
    exact hK
  case stop =>
    rintro Dd c pre s W hD hpre hF
    exact hF.elim
  case body =>
    rintro lo pre x h2 W hx hpre hlen hI hP2
    obtain ⟨z,gs,rfl,hz,hRz⟩:=HVS.out x (tgts_mem.1 hx)
    have hzN:=HOK.out.lt z gs hz
    have hSW:=hS2.call 0 rfl hP2
    have GF:=HM.out.chg hSW.bel HFK.out
    obtain ⟨f1,f2⟩:=bo_cell (hP2.get 0 rfl) z hzN
    have g0:=GF.co
    have g2:=GF.cs
    have g3:=GF.hs.2
    have g6:=GF.cw
    have g7:=GF.hw.2
    have g8:=GF.ho.2
    have hlN:h2.length=N:=hI.len
    have t1:(0:Int) ≤ (z:Int):=by omega
    have t2:(z:Int) < (N:Int):=by omega
    have t3:decide ((z:Int) < (N:Int))=true:=by simp; omega
    have hbi:=hP2.hi 0 rfl go (oldI_fp.2 rfl)
    cases hb2:bt h2 z with
    | true =>
      rw [show h2.getD z false=true from hb2] at f1
      have HST:=hide (hI.seen hb2)
      have HPP:=hide (Sep.start (hP2.get 0 rfl))
      clear hx hpre hlen hI hP2 hSW hS2 GF hb2
      gi_wp2
      exact ⟨h2,HST.out,HPP.out⟩
    | false =>
      rw [show h2.getD z false=false from hb2] at f1
      obtain ⟨p,hps,hpf⟩:=ojF_at hz
      obtain ⟨ad,q1,q2,q3,q4,q5,q6,q7,q8,q9⟩:=GF.p z p hps
      obtain ⟨m',hm'⟩:∃ m',m=m' + 1:=⟨m - 1,by
        have k1:=Un_pos (x:=z) (h:=h2) (by omega) hb2
        have k2:=Un_mono (h:=h) (s:=h2) (by rw [HHL.out,hlN]) hI.mono
        have:=HB.out
        omega⟩
      subst hm'
      have hUn:Un (h2.set z true) ≤ m':=by
        have k1:=Un_set (x:=z) (h:=h2) (by omega) hb2
        have k2:=Un_mono (h:=h) (s:=h2) (by rw [HHL.out,hlN]) hI.mono
        have:=HB.out
        omega
      have hS3:=(Sep.start (hP2.get 0 rfl)).store 0 (g:=go) rfl z (.bool true)
      rw [bools_st] at hS3
      have hS3':Sep (oldI (some ⟨go,0,none⟩) oc N h2).fp W (W.setCell ⟨go,z,none⟩ (.bool true)) [oldI (some ⟨go,0,none⟩) oc N (h2.set z true)]:=hS3
      have hS4:=hS3'.drew
      have GF3:=GF.chg hS4.bel (fun k hk => oldI_fp.1 hk)
      obtain ⟨ad',r1,r2,r3,r4,r5,r6,r7,r8,r9⟩:=GF3.p z p hps
      have hold:∀ i,bt old0 i=true → bt (h2.set z true) i=true:=fun i hi => by
        rw [bt_set h2 z i (by omega)]
        split
        · rfl
        · exact hI.mono i (HH0.out i hi)
      have hno:bt old0 z=false:=by
        cases ho:bt old0 z with
        | false => rfl
        | true => rw [hI.mono z (HH0.out z ho)] at hb2; cases hb2
      have C:=hide (HIH.out m' rfl ((W.setCell ⟨go,z,none⟩ (.bool true)).drew) p.o.A p.o.n p.o.c p.o.fields (h2.set z true) GF3 (hS4.get 0 rfl) r8 (by rw [← r9,hpf]; have:=HOK.out.f4 z gs hz; omega) (by rw [List.length_set]; exact hlN) hold (fun x hx => by
        rw [hpf] at hx
        obtain ⟨j,gs',e,hj⟩:=HOK.out.vf z gs x hz hx
        exact ⟨j,gs',e,hj,HOK.out.cl z gs j hRz hno hz (e ▸ hx)⟩) hUn)
      rw [hpf] at C
      have HST:=hide (fun (s:List Bool) (b:Gk N (ojF oj) R (tgts gs) (h2.set z true) s) => hI.step hzN hz hRz b)
      have HPP:=hide hS4
      have GFV:=GF.chg hS3'.bel (fun k hk => oldI_fp.1 hk)
      obtain ⟨ad2,s1,s2,s3,s4,s5,s6,s7,s8,s9⟩:=GFV.p z p hps
      obtain rfl:ad=ad2:=by rw [q1] at s1; injection s1
      have n1:Bs ≠ go:=GF.hs.1
      have n2:Bw ≠ go:=GF.hw.1
      have n3:Bo ≠ go:=GF.ho.1
      have g4:=GFV.co
      have g5:=GFV.cs
      have g9:=GFV.cw
      have hzl:z < oj.ps.length:=(List.getElem?_eq_some_iff.1 hps).1
      have t4:(z:Int) < (oj.ps.length:Int):=by omega
      unfold Oj.v at g0 g4
      rw [q1] at g0 g4
      obtain ⟨⟨oA,on,oc',ofs⟩,hpo⟩:∃ o,p.o=o:=⟨_,rfl⟩
      rw [hpo] at C q7 s7
      dsimp only at C q7 s7
      obtain ⟨pB,hpB⟩:∃ b,p.B=b:=⟨_,rfl⟩
      rw [hpB] at q4 q5 q6 q7 s4 s5 s6 s7
      obtain ⟨M,hM⟩:∃ M,oj.ps.length=M:=⟨_,rfl⟩
      rw [hM] at g0 g4 hzl t4
      obtain ⟨ojc,hojc⟩:∃ x,oj.c=x:=⟨_,rfl⟩
      rw [hojc] at g0 g4
      have t5:decide ((z:Int) < (M:Int))=true:=by simp; omega
      clear hx hpre hlen hI hP2 hS3 hS3' hS4 GF3 GFV GF hSW hS2 hb2 hps hpf q1 q8 q9 r1 r2 r3 r4 r5 r6 r7 r8 r9 s1 s8 s9 hUn hold hno hpo hpB hM hojc ad'
      refine wpIn_opaque fun K9 hK9 => ?_
      gi_wp2
      refine wpIn_region_still_tail (wideF_round lo) 8 hmx (by kernel_rfl) ?_
      simp only [List.take_succ_cons,List.take_zero,List.drop_succ_cons,List.drop_zero]
      repeat still_step
      refine wpStill_nil ?_
      gi_wp2_with (refine ⟨trivial,?_⟩; gi_at_call 67; (with_reducible refine (CallsIn.inRound lo (callsIn_wide.2 C.out)).mono ?_); rintro e w5 ⟨s5,⟨v5,rfl⟩,h12,h3⟩; have H12:=hide h12; have H3:=hide h3; clear h12 h3)
      exact ⟨s5,HST.out _ H12.out,HPP.out.call 0 rfl H3.out⟩
  case done =>
    rintro Dd h2 W hD hI hP2 hK
    have hfin:=hide (show Gk N (ojF oj) R (tgts vs) h h2 from hI)
    have hCL:Colls w.heap.size W [{ target:=.collected Dd,args:=#[] }]:=⟨Dd,rfl,by simp at hD; omega,hK,by simp,trivial⟩
    have HSW:=hide (hS2.call 0 rfl hP2)
    gi_wp2
    refine collsOff (B:=w.heap.size) (u:=.returning) (by simp) _ _ hCL ?_
    intro w' c1 c2 c3 c4 c5 c6
    have hSw:=(HSW.out.sub (l:=[oldI (some ⟨go,0,none⟩) oc N h2]) (by simp)).closed (B:=w.heap.size) (fun i hi => by
      obtain rfl:i=_:=by simpa using hi
      exact Tame.row _ _ _ _ _ _ _) (Nat.le_refl _) c1 c2 c3 c4 c5 c6
    exact ⟨_,results_none rfl _ _ _,h2,⟨_,rfl⟩,hfin.out,hSw⟩
theorem greach_any (go Bs Bw Bo:Nat) (oj:Oj) (N oc:Nat) (R:Nat → Prop) (old0:List Bool) (ok:GkOk N (ojF oj) R old0) (m:Nat):GrC go Bs Bw Bo oj N oc R old0 m:=by
  induction m with
  | zero => exact greach_step go Bs Bw Bo oj N oc R old0 ok 0 (fun k h => by omega)
  | succ m ih => exact greach_step go Bs Bw Bo oj N oc R old0 ok (m + 1) (fun k h => by obtain rfl:m=k:=(by omega); exact ih)
end Go.Proofs.YtjphckfbbiehdaaGreat

namespace Go.Proofs.YtjphckfbbiehdaaGreat
open Go.RowKit Go.Maps
theorem gbInfo:(Tryz.prog.info? 4).map (fun i => (i.zero,i.size,i.bytes))=some (some (.bool false),1,1):=by kernel_rfl
theorem gbMade (n:Nat):(madeCells (Value.cells (.bool false)) (n * 1)).toList=bools (List.replicate n false):=by
  rcases Nat.eq_zero_or_pos n with rfl | h
  · simp [madeCells,bools]
  · apply List.ext_getElem (by simp [madeCells,Value.cells,bools])
    intro i h1 h2
    simp [madeCells,Value.cells,bools,Nat.mod_one]
def RG (a:GnA) (i:Nat):Prop:=∃ k,Lev a.gs a.regs k (i:Int)
theorem bt_rep (n i:Nat):bt (List.replicate n false) i=false:=by
  unfold bt
  rw [List.getD_eq_getElem?_getD,List.getElem?_replicate]
  split <;> rfl
theorem gr_gkOk {a:GnA} (ok:GnOk a) (hn:a.objs.length ≤ 600) (old0:List Bool):GkOk a.objs.length a.fld (RG a) old0 where
  lt i fs h:=GnA.fld_lt h
  vf i fs x h hx:=ok.vf i fs _ h hx rfl
  f4 i fs h:=ok.f4 i fs h
  cl i fs j hR _ h hj:=by
    obtain ⟨k,hk⟩:=hR
    refine ⟨k + 1,.step k _ _ hk ?_⟩
    rw [a.gs_get,h]
    exact hj
  n:=hn
theorem gr_fin {a:GnA} (ok:GnOk a) {s:List Bool} (c:Gk a.objs.length a.fld (RG a) (tgts a.regs) (List.replicate a.objs.length false) s):s=(List.range a.objs.length).map a.lives:=by
  have key:∀ i,bt s i=a.lives i:=fun i => by
    rw [Bool.eq_iff_iff]
    unfold GnA.lives
    rw [decide_eq_true_eq,mem_reachR ok.gv.1 ok.gv.2]
    constructor
    · intro hi
      rcases c.snd i hi with h | h
      · rw [bt_rep] at h; cases h
      · exact h
    · rintro ⟨k,hk⟩
      have hth:∀ k x,Lev a.gs a.regs k x → ∃ z:Nat,x=(z:Int):=fun k x hx => by
        have h9:x ∈ reachR a.gs a.regs:=(mem_reachR ok.gv.1 ok.gv.2 x).2 ⟨k,hx⟩
        unfold reachR at h9
        obtain ⟨z,_,e⟩:=List.mem_map.1 h9
        exact ⟨z,e.symm⟩
      have:∀ k x,Lev a.gs a.regs k x → ∀ j:Nat,x=(j:Int) → bt s j=true:=by
        intro k x hx
        induction hx with
        | root x hx => rintro j rfl; exact c.hit j (tgts_mem.2 hx)
        | step k x y hx hy ih =>
          rintro j rfl
          obtain ⟨z,rfl⟩:=hth k x hx
          have hz:=ih z rfl
          rw [a.gs_get] at hy
          cases hf:a.fld z with
          | none => rw [hf] at hy; cases hy
          | some fs =>
            rw [hf] at hy
            exact c.cls z fs j hz (bt_rep _ _) hf hy
      exact this k _ hk i rfl
  apply List.ext_getElem (by simp [c.len])
  intro i hi1 hi2
  have:=key i
  unfold bt at this
  rw [List.getD_eq_getElem?_getD,List.getElem?_eq_getElem hi1,Option.getD_some] at this
  rw [this]
  simp
set_option maxRecDepth 100000 in
set_option maxHeartbeats 8000000 in
theorem greached_any {F:Nat → Prop} {W0 w:World} {Be Bm:Nat} {room:Int} {t:GnT} (hK:Sep F W0 w (gnK Be Bm room t)) (ok:GnOk t.a) (hn:t.oj.ps.length ≤ 600) :
    Calls Tryz.prog 52 #[t.oj.v,.slice (some ⟨Bm,0,none⟩) 8 8] w fun e w' => ∃ g,e=.returned (.slice (some ⟨g,0,none⟩) t.oj.ps.length t.oj.ps.length) ∧ Sep No w w' [rowI 4 1 (some ⟨g,0,none⟩) t.oj.ps.length t.oj.ps.length (bools ((List.range t.oj.ps.length).map t.a.lives))]:=by
  have hNl:t.a.objs.length=t.oj.ps.length:=List.length_map ..
  obtain ⟨N,hN⟩:∃ n,t.oj.ps.length=n:=⟨_,rfl⟩
  obtain ⟨g0,hg0⟩:∃ n,w.heap.size=n:=⟨_,rfl⟩
  have hS0:=(Sep.nil No w).blkAt 57 #[t.oj.v] hg0
  have HS0:=hide hS0
  have HK:=hide hK
  have HOK:=hide ok
  have HNL:=hide hNl
  have HN:=hide hN
  have HG0:=hide hg0
  unfold Oj.v at HS0 ⊢
  obtain ⟨x1,x2,x3,-⟩:=HS0.out.rules 0 (g:=g0) (t:=57) rfl
  have x5:=(x1 0).trans (show _=some (.slice t.oj.As t.oj.ps.length t.oj.c) from rfl)
  rw [hN] at hn hNl HS0 ⊢ x5
  clear hS0 hK ok hN x1
  go_enter Tryz.func52,Tryz.ntmps52
  go_wp2_with (first
    | (at_make
       refine wpList_make rfl (.tmp 8) (.tmp 8) 105 rfl HS0.out Tryz.underlying105 gbInfo (by omega) .i64 .i64 N rfl rfl (by omega) ?_
       intro wM hSM hbM
       (rw [gbMade,World.size_alloc,HG0.out] at hSM)
       (have HSM:=hide hSM)
       clear hSM hbM))
  obtain ⟨gs,hgs⟩:∃ x,wM.heap.size=x:=⟨_,rfl⟩
  have hS4:=(HSM.out.blkAt 105 #[.slice (some ⟨g0 + 1,0,none⟩) N N] hgs).blkAt 148 #[.func (.func 67) #[] #[.pointer (some ⟨gs,0,none⟩),.pointer (some ⟨gs + 1,0,none⟩),.pointer (some ⟨g0,0,none⟩)]] (g:=gs + 1) (by simp [hgs])
  obtain ⟨W4,hW4⟩:∃ x,((wM.alloc (.cells #[.slice (some ⟨g0 + 1,0,none⟩) N N] 105)).alloc (.cells #[.func (.func 67) #[] #[.pointer (some ⟨gs,0,none⟩),.pointer (some ⟨gs + 1,0,none⟩),.pointer (some ⟨g0,0,none⟩)]] 148))=x:=⟨_,rfl⟩
  rw [hW4] at hS4
  have hb4:=hS4.below_
  have hK4:=HK.out.below hb4
  obtain ⟨q1,q2,q3,-⟩:=hS4.rules 0 (g:=g0) (t:=57) rfl
  obtain ⟨r1,r2,r3,-⟩:=hS4.rules 2 (g:=gs) (t:=105) rfl
  obtain ⟨s1,s2,s3,-⟩:=hS4.rules 3 (g:=gs + 1) (t:=148) rfl
  have n1:gs ≠ g0 + 1:=fun e => hS4.other (a:=2) (b:=1) rfl rfl (by omega) gs rfl (by rw [e]; exact (oldI_fp (c:=N) (n:=N) (h:=List.replicate N false)).2 rfl)
  have n2:gs + 1 ≠ g0 + 1:=fun e => hS4.other (a:=3) (b:=1) rfl rfl (by omega) (gs + 1) rfl (by rw [e]; exact (oldI_fp (c:=N) (n:=N) (h:=List.replicate N false)).2 rfl)
  have GF:GrF (g0 + 1) gs (gs + 1) g0 t.oj N N W4:=by
    refine ⟨⟨n1,r3⟩,⟨n2,s3⟩,⟨by omega,q3⟩,(r1 0).trans rfl,(s1 0).trans rfl,(q1 0).trans (by unfold Oj.v; rw [HN.out]; rfl),fun i p hp => ?_⟩
    obtain ⟨ad,e1,e2,e3,e4,e5⟩:=oj_at (pre:=[_,_,_,_]) HK.out hp
    obtain ⟨ad',e1',e2',e3',e4',e5'⟩:=oj_at (pre:=[_,_,_,_]) hK4 hp
    have hB:p.B < w.heap.size:=HK.out.hi (5 + i) (gn_op hp) p.B ⟨blkI p.B 83 #[.slice p.o.A p.o.n p.o.c],by simp,rfl⟩
    rw [HG0.out] at e2 hB
    obtain rfl:ad=ad':=by rw [e1] at e1'; injection e1'
    have hB4:p.B < W4.heap.size:=hK4.hi (5 + i) (gn_op hp) p.B ⟨blkI p.B 83 #[.slice p.o.A p.o.n p.o.c],by simp,rfl⟩
    have hrd:Rd w (fun _ => True) 2 p.o.A p.o.n (vals p.o.fields):=Rd.of_own (show w.ownsRow 0 63 2 (.slice p.o.A p.o.n p.o.c) p.o.n _ from e5) (fun _ _ => trivial)
    exact ⟨ad,e1,by omega,e2',e3',by omega,hB4,e4',(hrd.more (D':=fun g => g ≠ g0 + 1) (fun k hk _ => by rw [HG0.out] at hk; omega)).below hb4,oj_len (pre:=[_,_,_,_]) HK.out hp⟩
  have hBm:Bm < w.heap.size:=HK.out.hi 0 rfl Bm rfl
  obtain ⟨_,_,_,hrg⟩:=gn_go HK.out (by have h:t.old.length=t.a.objs.length:=HOK.out.ol; rw [HN.out,h,hNl]) HOK.out.r8
  have hrg2:Rd W4 (fun g => g ≠ g0 + 1) 2 (some ⟨Bm,0,none⟩) 8 (vals t.regs):=(hrg.more (D':=fun g => g ≠ g0 + 1) (fun k hk _ => by rw [HG0.out] at hk; omega)).below hb4
  have gok:GkOk N (ojF t.oj) (RG t.a) (List.replicate N false):=by rw [← hNl]; exact gr_gkOk HOK.out (by omega) _
  have C:=hide (greach_any (g0 + 1) gs (gs + 1) g0 t.oj N N (RG t.a) (List.replicate N false) gok (Un (List.replicate N false)) W4 (some ⟨Bm,0,none⟩) 8 8 t.regs (List.replicate N false) GF (hS4.get 1 rfl) hrg2 (by omega) (by simp) (fun _ h => h) (fun x hx => by
    obtain ⟨j,fs,e,hf⟩:=HOK.out.vr _ hx rfl
    exact ⟨j,fs,e,hf,0,.root _ (by rw [← e]; exact hx)⟩) (Nat.le_refl _))
  have HS4:=hide hS4
  rw [hgs,hW4]
  clear hS4 hb4 hK4 q1 q2 q3 r1 r2 r3 s1 s2 s3 GF hrg hrg2 gok hBm hgs hW4
  refine C.out.mono ?_
  rintro e w5 ⟨s5,⟨u5,rfl⟩,hg5,hS5⟩
  have hS6:=HS4.out.call 1 rfl hS5
  obtain ⟨r1,r2,r3,-⟩:=hS6.rules 2 (g:=gs) (t:=105) rfl
  have r4:=(r1 0).trans (show _=some (.slice (some ⟨g0 + 1,0,none⟩) N N) from rfl)
  have hfin:s5=(List.range N).map t.a.lives:=by
    have:=gr_fin HOK.out (s:=s5) (by rw [hNl]; exact hg5)
    rw [this,hNl]
  have HF:=hide (show Sep No w w5 [rowI 4 1 (some ⟨g0 + 1,0,none⟩) N N (bools ((List.range N).map t.a.lives))] from by
    rw [← hfin]
    exact hS6.sub (l:=[oldI (some ⟨g0 + 1,0,none⟩) N N s5]) (by simp))
  clear hS6 hS5 hg5 C HS4 r1 hfin
  go_wp2_with fail
  go_ret
  exact ⟨g0 + 1,rfl,HF.out⟩
end Go.Proofs.YtjphckfbbiehdaaGreat

namespace Go.Proofs.YtjphckfbbiehdaaGreat
open Go.RowKit Go.Maps
theorem bt_map (f:Nat → Bool) (n i:Nat) (h:i < n):((List.range n).map f).getD i false=f i:=GnA.od_range f n i h
set_option maxRecDepth 100000 in
set_option maxHeartbeats 32000000 in
theorem gmajor_any {F:Nat → Prop} {W0 w:World} {Be Bm:Nat} {room:Int} {t:GnT} (hK:Sep F W0 w (gnK Be Bm room t)) (ok:GnOk t.a) (hn:t.oj.ps.length ≤ 600) :
    Calls Tryz.prog 29 #[.pointer (some ⟨Be,0,none⟩)] w fun e w' => (∃ u,e=.returned u) ∧ ∃ t':GnT,t'.a=t.a.major ∧ t'.N ≤ t.N ∧ Sep F W0 w' (gnK Be Bm room t'):=by
  have hNl:t.a.objs.length=t.oj.ps.length:=List.length_map ..
  have hol:t.old.length=t.oj.ps.length:=by have h:t.old.length=t.a.objs.length:=ok.ol; omega
  obtain ⟨k0,k1,k2,k3,-,k5,k6⟩:=gn_cells (pre:=[]) hK
  have hBm:Bm < w.heap.size:=hK.hi 0 rfl Bm rfl
  have C1:=hide (greached_any hK.drew ok hn)
  have HK:=hide hK
  have HOK:=hide ok
  have HN:=hide hn
  have HNL:=hide hNl
  have HOL:=hide hol
  have hmx:Tryz.prog.follows .mixedOrders=true:=by kernel_rfl
  unfold Oj.v at k0 C1
  clear hK ok hNl hol
  go_enter Tryz.func29,Tryz.ntmps29
  go_wp2_with fail
  go_still_tail 10,hmx
  go_wp2_with fail
  refine C1.out.mono ?_
  rintro e w1 ⟨gr,rfl,hP1⟩
  have hS1:=HK.out.drew.consNew hP1.below_ _ (hP1.get 0 rfl) (fun g hg => (hP1.lo 0 rfl g hg).resolve_left (fun h => h))
  have HS1:=hide hS1
  obtain ⟨c1,c2,c3,-⟩:=hS1.rules 2 (g:=Be) (t:=109) rfl
  have c4:=(c1 0).trans (show _=some t.oj.v from rfl)
  have CT:=oThere_any w1 t.oj.As t.oj.ps.length t.oj.c t.oj.ps (by have:=HN.out; omega) (hS1.rd_ 5 rfl)
  have HTL:=hide (show ∀ x ∈ thereL t.oj.ps,∃ z:Nat,x=(z:Int) ∧ z < t.oj.ps.length from fun x hx => there_lt hx)
  have hTle:=thereL_len t.oj.ps
  obtain ⟨T,hT⟩:∃ T,thereL t.oj.ps=T:=⟨_,rfl⟩
  have HTE:=hide hT
  rw [hT] at CT HTL hTle
  unfold Oj.v at c4
  have HC2:=hide CT
  clear CT hT c1 hP1 hS1 C1 HK k0 k1 k2 k3 k5 k6 hBm
  go_wp2_with fail
  refine HC2.out.mono ?_
  rintro e w2 ⟨A2,cc2,rfl,hP2⟩
  have hS3:=HS1.out.consNew hP2.below_ _ (hP2.get 0 rfl) (fun g hg => (hP2.lo 0 rfl g hg).resolve_left (fun h => h))
  obtain ⟨m,hm⟩:∃ m,T.length=m:=⟨_,rfl⟩
  rw [hm] at hS3 hTle ⊢
  have HM2:=hide hm
  have HS3:=hide hS3
  have hm9:m ≤ 600:=by have:=HN.out; omega
  clear hP2 hm HC2 hS3 c2 c3 c4 HS1
  go_wp2_with fail
  go_loopw [4,22] (fun _ i wr => ∃ (k:Nat) (s:Oj) (h:List Bool),k ≤ m ∧ i=.int .i64 k ∧ Hid (h.length=t.old.length ∧ ∀ i,bt h i=(bt t.old i || decide ((i:Int) ∈ T.take k))) ∧ Hid (s.abs=dropF t.oj.abs (goneB t.a.lives (T.take k)) ∧ s.ps.length=t.oj.ps.length ∧ s.As=t.oj.As ∧ s.c=t.oj.c) ∧ Sep F W0 wr (rowI 3 1 A2 m cc2 (ints T) :: rowI 4 1 (some ⟨gr,0,none⟩) t.oj.ps.length t.oj.ps.length (bools ((List.range t.oj.ps.length).map t.a.lives)) :: ([gnM Be Bm t,blkI Be 109 (gnC Bm room t),oldI t.Ao t.oc t.old.length h,gmI t.b t.N t.mks] ++ ojL s))) (fun _ i _ => m - (intOf i).toNat)
  case atStart => exact ⟨0,t.oj,t.old,by omega,rfl,hide ⟨rfl,fun i => by simp⟩,hide ⟨rfl,rfl,rfl,rfl⟩,HS3.out⟩
  case round =>
    clear HS3
    obtain ⟨k,s,h,hk,rfl,HO,HI,hS⟩:=hrel
    obtain ⟨habs,hps,hAs,hcs⟩:=HI.out
    obtain ⟨hhl,hhb⟩:=HO.out
    obtain ⟨c1,c2,c3,-⟩:=hS.rules 3 (g:=Be) (t:=109) rfl
    have c4:=(c1 0).trans (show _=some t.oj.v from rfl)
    have c5:=(c1 2).trans (show _=some (.slice t.Ao t.old.length t.oc) from rfl)
    have c6:=(c1 3).trans (show _=some (.map (some t.b)) from rfl)
    unfold Oj.v at c4
    by_cases hlt:k < m
    · have hkl:k < T.length:=by rw [HM2.out]; exact hlt
      obtain ⟨ad,hA,_,had,hc⟩:=(hS.rd_ 0 rfl).at_ hlt
      have e0:=hc (.int .i64 T[k]) (by simp [ints,List.getElem?_eq_getElem hkl])
      have hTk:=List.take_succ_eq_append_getElem hkl
      obtain ⟨z,hz,hzN⟩:=HTL.out _ (List.getElem_mem hkl)
      rw [hz] at e0 hTk
      have hG:=goneB_snoc t.a.lives (T.take k) (z:Int)
      rw [← hTk,Int.toNat_natCast] at hG
      obtain ⟨go2,hgo2⟩:=old_some hS (k:=4) rfl (by rw [HOL.out]; omega)
      have hrow:=hS.get 4 rfl
      unfold oldI at hrow
      rw [hgo2] at hrow c5
      obtain ⟨f1,f2⟩:=bo_cell hrow z (by rw [HOL.out]; exact hzN)
      have hrowS:=hS.get 1 rfl
      obtain ⟨s1,s2⟩:=bo_cell hrowS z hzN
      rw [bt_map _ _ _ hzN] at s1
      obtain ⟨y,hy⟩:∃ y,t.a.lives z=y:=⟨_,rfl⟩
      rw [hy] at s1 hG
      have hol:=HOL.out
      have t1:(z:Int) < (t.old.length:Int):=by omega
      have t2:z < t.old.length:=by omega
      have t3:(z:Int) < (t.oj.ps.length:Int):=by omega
      have hfpo:(oldI t.Ao t.oc t.old.length h).fp go2:=by rw [hgo2]; exact oldI_fp.2 rfl
      have n1:gr ≠ go2:=fun e => hS.other (a:=1) (b:=4) rfl rfl (by omega) gr (by show (Value.slice (some ⟨gr,0,none⟩) _ _).ownBlock=some gr; rfl) (e ▸ hfpo)
      have n2:Be ≠ go2:=fun e => hS.other (a:=3) (b:=4) rfl rfl (by omega) Be rfl (e ▸ hfpo)
      have n2':go2 ≠ Be:=fun e => n2 e.symm
      have hgolt:go2 < wr.heap.size:=hS.hi 4 rfl go2 hfpo
      have hgrlt:gr < wr.heap.size:=hS.hi 1 rfl gr rfl
      have hS2:=hS
      rw [hgo2] at hS2
      have hSo:=hS2.store 4 rfl z (.bool true)
      rw [bools_st,← hgo2] at hSo
      have hSo2:Sep F W0 (wr.setCell ⟨go2,z,none⟩ (.bool true)) (rowI 3 1 A2 m cc2 (ints T) :: rowI 4 1 (some ⟨gr,0,none⟩) t.oj.ps.length t.oj.ps.length (bools ((List.range t.oj.ps.length).map t.a.lives)) :: ([gnM Be Bm t,blkI Be 109 (gnC Bm room t),oldI t.Ao t.oc t.old.length (h.set z true),gmI t.b t.N t.mks] ++ ojL s)):=hSo
      have HO2:=hide (show (h.set z true).length=t.old.length ∧ ∀ i,bt (h.set z true) i=(bt t.old i || decide ((i:Int) ∈ T.take (k + 1))) from ⟨by rw [List.length_set]; exact hhl,fun i => by
        rw [bt_set h z i (by rw [hhl]; exact t2),hTk,hhb]
        by_cases e:i=z
        · subst e; rw [if_pos rfl]; simp
        · rw [if_neg e]
          have:(i:Int) ∈ T.take k ++ [(z:Int)] ↔ (i:Int) ∈ T.take k:=by
            rw [List.mem_append,List.mem_singleton]
            exact ⟨fun h => h.resolve_right (fun h => e (by omega)),.inl⟩
          rw [decide_eq_decide.2 this]⟩)
      obtain ⟨o1,o2,o3,-⟩:=hSo2.rules 3 (g:=Be) (t:=109) rfl
      subst hA
      cases y with
      | true =>
        rw [if_pos rfl,List.append_nil] at hG
        have HI2:=hide (show s.abs=dropF t.oj.abs (goneB t.a.lives (T.take (k + 1))) ∧ s.ps.length=t.oj.ps.length ∧ s.As=t.oj.As ∧ s.c=t.oj.c from by rw [hG]; exact ⟨habs,hps,hAs,hcs⟩)
        have HS4:=hide hSo2
        clear hc hTk hz hS hS2 hSo hSo2 hG habs hps hAs hcs HI HO hhl hhb c1 o1 hrow hrowS hy hfpo
        go_wp2_with fail
        go_roundw
        case rel => exact ⟨k + 1,s,h.set z true,by omega,by go_num,HO2,HI2,HS4.out⟩
        case measure => simp [intOf]; omega
      | false =>
        rw [if_neg (by simp)] at hG
        have hil:z < s.ps.length:=by rw [hps]; exact hzN
        have hrow4:wr.ownsRow 0 84 1 (.slice s.As s.ps.length s.c) s.ps.length (s.ps.map ptrV):=hS.get 6 rfl
        obtain ⟨ga,hga⟩:=hown_addr hrow4 (by omega)
        have hfpa:(rowI 84 1 s.As s.ps.length s.c (s.ps.map ptrV)).fp ga:=by show (Value.slice s.As s.ps.length s.c).ownBlock=some ga; rw [hga]; rfl
        have p2:ga < wr.heap.size:=hS.hi 6 (i:=rowI 84 1 s.As s.ps.length s.c (s.ps.map ptrV)) rfl ga hfpa
        have n3:ga ≠ go2:=fun e => hS.other (a:=6) (b:=4) (x:=rowI 84 1 s.As s.ps.length s.c (s.ps.map ptrV)) rfl rfl (by omega) ga hfpa (e ▸ hfpo)
        have n3':go2 ≠ ga:=fun e => n3 e.symm
        have p3:wr.frozen? ⟨ga,z,none⟩=false:=by
          have ho:=hrow4
          rw [hga] at ho
          exact ho.frozenAt _
        have p4:wr.cell? ⟨ga,z,none⟩=some (ptrV s.ps[z]):=by
          obtain ⟨ad2,hA2,_,_,hc2⟩:=(Rd.of_own (D:=fun _ => True) hrow4 (fun _ _ => trivial)).at_ (k:=z) hil
          have h5:=hc2 (ptrV s.ps[z]) (by simp [List.getElem?_eq_getElem hil])
          obtain rfl:(⟨ga,0,none⟩:Addr)=ad2:=by rw [hga] at hA2; injection hA2
          rw [hraddr0] at h5
          exact h5
        obtain ⟨pv,hpv⟩:∃ v,ptrV s.ps[z]=v:=⟨_,rfl⟩
        rw [hpv] at p4
        have HI2:=hide (show (s.dropG z).abs=dropF t.oj.abs (goneB t.a.lives (T.take (k + 1))) ∧ (s.dropG z).ps.length=t.oj.ps.length ∧ (s.dropG z).As=t.oj.As ∧ (s.dropG z).c=t.oj.c from by
          rw [hG,dropG_snoc,← habs,gj_drop_abs,Int.toNat_natCast]
          exact ⟨rfl,by show (s.ps.set z none).length=_; rw [List.length_set]; exact hps,hAs,hcs⟩)
        have HS4:=hide (show Sep F W0 ((wr.setCell ⟨go2,z,none⟩ (.bool true)).setCell ⟨ga,z,none⟩ (.pointer none)) (rowI 3 1 (some ad) m cc2 (ints T) :: rowI 4 1 (some ⟨gr,0,none⟩) t.oj.ps.length t.oj.ps.length (bools ((List.range t.oj.ps.length).map t.a.lives)) :: ([gnM Be Bm t,blkI Be 109 (gnC Bm room t),oldI t.Ao t.oc t.old.length (h.set z true),gmI t.b t.N t.mks] ++ ojL (s.dropG z))) from gj_drop (pre:=[_,_,_,_,_,_]) hSo2 hil hga)
        rw [← hAs,hga] at c4
        clear hc hTk hz hS hS2 hSo hSo2 hG habs hps hAs hcs HI HO hhl hhb c1 o1 hrow hrowS hy hfpo hrow4 hga hpv hil hfpa
        go_wp2_with fail
        go_roundw
        case rel => exact ⟨k + 1,s.dropG z,h.set z true,by omega,by go_num,HO2,HI2,HS4.out⟩
        case measure => simp [intOf]; omega
    · obtain rfl:k=m:=by omega
      rw [List.take_of_length_le (by rw [HM2.out]; exact Nat.le_refl _)] at habs hhb
      have HS:=hide hS
      have hhr:h=(List.range t.a.objs.length).map fun i => t.a.od i || (t.a.fld i).isSome:=by
        have hl2:h.length=t.a.objs.length:=by rw [hhl,HOL.out,HNL.out]
        apply List.ext_getElem (by simp [hl2])
        intro i hi1 hi2
        have h5:=hhb i
        unfold bt at h5
        rw [List.getD_eq_getElem?_getD,List.getElem?_eq_getElem hi1,Option.getD_some] at h5
        rw [h5,List.getElem_map,List.getElem_range]
        congr 1
        rw [Bool.eq_iff_iff,decide_eq_true_eq,← HTE.out,← thereL_oj,mem_thereL]
        constructor
        · rintro ⟨j,fs,e,hj⟩
          obtain rfl:i=j:=by omega
          have:t.a.fld i=some fs:=GnA.fld_iff.2 hj
          rw [this]; rfl
        · intro h6
          cases h7:t.a.fld i with
          | none => rw [h7] at h6; cases h6
          | some fs => exact ⟨i,fs,rfl,GnA.fld_iff.1 h7⟩
      have HE:=hide (show (⟨t.regs,s,t.Ao,t.oc,h,t.b,0,[]⟩:GnT).a=t.a.major from by
        show (⟨t.regs,s.abs,h,[]⟩:GnA)=_
        unfold GnA.major dropK
        rw [habs,← HTE.out,← thereL_oj,hhr]
        rfl)
      have HKE:=hide (fun (X:World) (hX:Sep F W0 X (rowI 3 1 A2 k cc2 (ints T) :: rowI 4 1 (some ⟨gr,0,none⟩) t.oj.ps.length t.oj.ps.length (bools ((List.range t.oj.ps.length).map t.a.lives)) :: ([gnM Be Bm t,blkI Be 109 (gnC Bm room t),oldI t.Ao t.oc t.old.length h,gmI t.b 0 []] ++ ojL s))) => (show Sep F W0 X (gnK Be Bm room ⟨t.regs,s,t.Ao,t.oc,h,t.b,0,[]⟩) from by
        have e1:gnC Bm room ⟨t.regs,s,t.Ao,t.oc,h,t.b,0,[]⟩=gnC Bm room t:=by
          unfold gnC Oj.v
          dsimp only
          rw [hps,hAs,hcs,hhl]
        unfold gnK gnR
        rw [e1]
        dsimp only
        rw [hhl]
        exact hX.sub (.cons _ (List.sublist_cons_self ..))))
      clear hS habs hps hAs hcs HI HO hhb hhr c1 c4 c5
      go_wp2_with (first
        | (refine wpList_gmClear rfl (.tmp 47) rfl HS.out 5 rfl rfl ?_
           intro w7 hS7
           (have HS7:=hide (HKE.out w7 hS7))
           clear hS7))
      go_end0
      exact ⟨⟨_,rfl⟩,_,HE.out,Nat.zero_le _,HS7.out⟩
end Go.Proofs.YtjphckfbbiehdaaGreat

namespace Go.Proofs.YtjphckfbbiehdaaGreat
open Go.RowKit Go.Maps
theorem Sep.gmMore {F:Nat → Prop} {W w:World} {items:List Item} (hS:Sep F W w items) (k:Nat) {b N M:Nat} {l:List Gp} (hk:items[k]?=some (gmI b N l)) (h:N ≤ M):Sep F W w (items.set k (gmI b M l)):=by
  obtain ⟨D,h1,h2⟩:(gmI b N l).P w:=hS.get k hk
  exact hS.step k hk (Chg.refl _ w) (gmI b M l) ⟨D,gm_tight h1 (Nat.le_trans h1.size_le h),h2⟩ (fun g hg => .inl hg)
theorem gnK_more {F:Nat → Prop} {W0 w:World} {Be Bm:Nat} {room:Int} {t:GnT} (h:Sep F W0 w (gnK Be Bm room t)) {M:Nat} (hM:t.N ≤ M):Sep F W0 w (gnK Be Bm room { t with N:=M }) :=
  h.gmMore 3 rfl hM
structure GnOk2 (a:GnA × Nat):Prop where
  ok:GnOk a.1
  n:a.1.objs.length ≤ 500
  m:a.2 ≤ 100000
def gnKm (room:Nat) (Bm Be:Nat):MemK where
  A:=GnA × Nat
  St:=GnT
  abs t:=(t.a,t.N)
  Bm:=Bm
  T:=104
  p:=.pointer (some ⟨Be,0,none⟩)
  regs a:=a.1.regs
  fld a:=a.1.fld
  rest t:=gnR Be Bm (room:Int) t
  ok:=GnOk2
  ok1 a:=GnOk a.1 ∧ a.1.objs.length < 500 ∧ a.2 ≤ 100000
  hold a _ _:=a
  setr a r v:=(a.1.sr r v,a.2)
  new_ a n:=(((gnNew room a.1 n).1,a.2),(gnNew room a.1 n).2.1,(gnNew room a.1 n).2.2)
  put a i k v:=(gnPut a.1 i k v,a.2 + 1)
  fH:=117
  fN:=118
  fL:=105
  fG:=103
  fP:=119
  rL t:=t.oj.v
  rG t:=t.oj.v
  rP _:=.pointer (some ⟨Be,0,none⟩)
set_option maxHeartbeats 400000 in
theorem ghold_any (w:World) (p:Value) (r:Int) (v:Val):Calls Tryz.prog 117 #[p,.int .i64 r,.agg #[.bool v.1,.int .i64 v.2]] w fun e w' => (∃ u,e=.returned u) ∧ Below w.heap.size w w':=by
  go_enter Tryz.func117,Tryz.ntmps117
  go_wp2_with fail
  go_end0
  exact ⟨⟨_,rfl⟩,(Below.refl _ w).alloc (Nat.le_refl _) _⟩
theorem gmeth_hold (x:Value) (w:World):(method 303 104 x "Hold").run Tryz.prog w=.ok (117,x) w:=by kernel_rfl
theorem gmeth_new (x:Value) (w:World):(method 303 104 x "New").run Tryz.prog w=.ok (118,x) w:=by kernel_rfl
theorem gmeth_put (x:Value) (w:World):(method 303 104 x "Put").run Tryz.prog w=.ok (119,x) w:=by kernel_rfl
theorem gmeth_len0 (Be:Nat) (w:World):(method 303 104 (.pointer (some ⟨Be,0,none⟩)) "Len").run Tryz.prog w=(Sem.run Tryz.prog (do let v ← receiverAt 57 (.var ⟨Be,0,none⟩) false none; pure (105,v)) w):=by kernel_rfl
theorem gmeth_get0 (Be:Nat) (w:World):(method 303 104 (.pointer (some ⟨Be,0,none⟩)) "Get").run Tryz.prog w=(Sem.run Tryz.prog (do let v ← receiverAt 57 (.var ⟨Be,0,none⟩) false none; pure (103,v)) w):=by kernel_rfl
theorem gmeth_len (Be:Nat) (v:Value) (w:World) (h:w.cell? ⟨Be,0,none⟩=some v):(method 303 104 (.pointer (some ⟨Be,0,none⟩)) "Len").run Tryz.prog w=.ok (105,v) w:=by
  rw [gmeth_len0,Sem.run_bind,recv_cell Be w v h]; rfl
theorem gmeth_get (Be:Nat) (v:Value) (w:World) (h:w.cell? ⟨Be,0,none⟩=some v):(method 303 104 (.pointer (some ⟨Be,0,none⟩)) "Get").run Tryz.prog w=.ok (103,v) w:=by
  rw [gmeth_get0,Sem.run_bind,recv_cell Be w v h]; rfl
theorem gkm_flat {room Bm Be:Nat} {t:GnT} {w:World} (hP:((gnKm room Bm Be).item t).P w):Sep ((gnKm room Bm Be).item t).fp w w (gnK Be Bm (room:Int) t):=(Sep.start hP).flat
theorem gkm_fold {room Bm Be:Nat} {t:GnT} {F:Nat → Prop} {W0 w:World} (h:Sep F W0 w (gnK Be Bm (room:Int) t)):Sep F W0 w [(gnKm room Bm Be).item t]:=Sep.fold (l:=(gnKm room Bm Be).items t) h
theorem gn_fld {t:GnT} {i:Nat} {fs:List Val} (h:t.a.fld i=some fs):∃ p,t.oj.ps[i]?=some (some p) ∧ p.o.fields=fs:=oj_abs_at (GnA.fld_iff.1 h)
theorem gn_len (t:GnT):t.a.objs.length=t.oj.ps.length:=List.length_map ..
theorem gnNew_len (room:Nat) (a:GnA) (n:Nat):(gnNew room a n).1.objs.length ≤ a.objs.length + 1 ∧ a.objs.length ≤ (gnNew room a n).1.objs.length:=by
  have h:=gnRoom_len room a
  unfold gnNew
  split
  · exact ⟨by dsimp only; omega,by dsimp only; omega⟩
  · have:((gnRoom room a).push n).objs.length=(gnRoom room a).objs.length + 1:=by
      show ((gnRoom room a).objs ++ [_]).length=_; simp
    exact ⟨by dsimp only; omega,by dsimp only; omega⟩
set_option maxHeartbeats 1000000 in
theorem gnKm_ok (room Bm Be:Nat):(gnKm room Bm Be).Ok where
  r8 _ ok:=GnOk.r8 (GnOk2.ok ok)
  vr _ v ok hv:=GnOk.vr (GnOk2.ok ok) v hv
  vf _ i fs v ok h hv:=GnOk.vf (GnOk2.ok ok) i fs v h hv
  f4 _ i fs ok h:=GnOk.f4 (GnOk2.ok ok) i fs h
  lim _ i fs ok h:=by have h1:=GnA.fld_lt h; have h2:=GnOk2.n ok; omega
  set_ t r v:=⟨{ t with regs:=t.regs.set r v },rfl,rfl⟩
  regs_set _ _ _:=rfl
  regs_hold _ _ _:=rfl
  regs_put _ _ _ _:=rfl
  eH:=kenter_of Tryz.func117 (by kernel_rfl) rfl
  eN:=kenter_of Tryz.func118 (by kernel_rfl) rfl
  eL:=kenter_of Tryz.func105 (by kernel_rfl) rfl
  eG:=kenter_of Tryz.func103 (by kernel_rfl) rfl
  eP:=kenter_of Tryz.func119 (by kernel_rfl) rfl
  mH w:=gmeth_hold _ w
  mN w:=gmeth_new _ w
  mL _ w hP:=gmeth_len Be _ w (gn_cells (pre:=[]) (gkm_flat hP)).1
  mG _ w hP:=gmeth_get Be _ w (gn_cells (pre:=[]) (gkm_flat hP)).1
  mP _ w _:=gmeth_put _ w
  cH t w r v hP _ _ _:=(ghold_any w _ r v).mono fun _ _ ⟨he,hb⟩ => ⟨he,t,rfl,(Sep.start hP).below hb⟩
  cN t w n hP ok h4:=by
    have hn:t.oj.ps.length ≤ 500:=by have h1:=GnOk2.n ok; have h2:=gn_len t; exact h2 ▸ h1
    refine (gnew_any (gkm_flat hP) (GnOk2.ok ok) hn h4).mono ?_
    rintro e w' ⟨he,t',e1,hN,hS⟩
    exact ⟨he,{ t' with N:=t.N },by show (t'.a,t.N)=((gnNew room t.a n).1,t.N); rw [e1],gkm_fold (gnK_more hS hN)⟩
  ok_of _ h:=⟨h.1,by have:=h.2.1; omega,h.2.2⟩
  okN a n h h4:=by
    obtain ⟨k1,k2⟩:=GnOk.new_ h.1 room h4
    obtain ⟨l1,l2⟩:=gnNew_len room a.1 n
    exact ⟨⟨k1,by show (gnNew room a.1 n).1.objs.length ≤ 500; have:=h.2.1; omega,h.2.2⟩,k2⟩
  cL t w i fs hP ok h:=by
    obtain ⟨p,hp,hf⟩:=gn_fld h
    have hS:=gkm_flat hP
    have hl:=oj_len (pre:=[_,_,_,_]) hS hp
    have hn:t.oj.ps.length ≤ 500:=by have h1:=GnOk2.n ok; have h2:=gn_len t; exact h2 ▸ h1
    refine (olen_any (pre:=[_,_,_,_]) hS (by omega) hp).mono fun e w' ⟨he,hw⟩ => ⟨?_,hw⟩
    rw [he,← hf,hl]
  cG t w i k fs hk hP ok h:=by
    obtain ⟨p,hp,hf⟩:=gn_fld h
    have hS:=gkm_flat hP
    have hn:t.oj.ps.length ≤ 500:=by have h1:=GnOk2.n ok; have h2:=gn_len t; exact h2 ▸ h1
    have h4:=GnOk.f4 (GnOk2.ok ok) i fs h
    subst hf
    exact oget_any (pre:=[_,_,_,_]) hS (by omega) hp hk h4
  cP t w i k fs v hk hP ok h hv:=by
    have hn:t.oj.ps.length ≤ 500:=by have h1:=GnOk2.n ok; have h2:=gn_len t; exact h2 ▸ h1
    refine (gput_any (gkm_flat hP) (GnOk2.ok ok) (by omega) (GnOk2.m ok) v h hk hv).mono ?_
    rintro e w' ⟨he,t',e1,hN,hS⟩
    exact ⟨he,{ t' with N:=t.N + 1 },by show (t'.a,t.N + 1)=(gnPut t.a i k v,t.N + 1); rw [e1],gkm_fold (gnK_more hS hN)⟩
theorem gnDo_eq (room Bm Be:Nat) (d:DoV) (a:GnA × Nat):(((gnKm room Bm Be).step d a).1,((gnKm room Bm Be).step d a).2.1)=gnDo room d a.1 ∧ ((gnKm room Bm Be).step d a).2.2 ≤ a.2 + 1:=by
  have he:∀ v at_,(gnKm room Bm Be).fErr a v at_=gnErr a.1 v at_:=fun _ _ => rfl
  unfold MemK.step gnDo
  by_cases hw:wrongM d ≠ 0
  · rw [if_pos hw,if_pos hw]; exact ⟨rfl,Nat.le_succ _⟩
  rw [if_neg hw,if_neg hw]
  unfold MemK.kstep gnKst
  by_cases h1:d.k=1
  · rw [if_pos h1,if_pos h1]
    by_cases hc:(gnNew room a.1 d.n.toNat).2.2 ≠ 0
    · rw [if_pos (show ((gnKm room Bm Be).new_ a d.n.toNat).2.2 ≠ 0 from hc),if_pos hc]; exact ⟨rfl,Nat.le_succ _⟩
    · rw [if_neg (show ¬ ((gnKm room Bm Be).new_ a d.n.toNat).2.2 ≠ 0 from hc),if_neg hc]; exact ⟨rfl,Nat.le_succ _⟩
  rw [if_neg h1,if_neg h1]
  by_cases h2:d.k=2
  · rw [if_pos h2,if_pos h2]; exact ⟨rfl,Nat.le_succ _⟩
  rw [if_neg h2,if_neg h2]
  by_cases h3:d.k=3
  · rw [if_pos h3,if_pos h3]; exact ⟨rfl,Nat.le_succ _⟩
  rw [if_neg h3,if_neg h3]
  by_cases h4:d.k=4
  · rw [if_pos h4,if_pos h4,he]
    by_cases hc:gnErr a.1 (rgA a.1.regs d.to) d.at_ ≠ 0
    · rw [if_pos (show gnErr a.1 (rgA ((gnKm room Bm Be).regs a) d.to) d.at_ ≠ 0 from hc),if_pos hc]; exact ⟨rfl,Nat.le_succ _⟩
    · rw [if_neg (show ¬ gnErr a.1 (rgA ((gnKm room Bm Be).regs a) d.to) d.at_ ≠ 0 from hc),if_neg hc]; exact ⟨rfl,Nat.le_refl _⟩
  rw [if_neg h4,if_neg h4]
  by_cases h5:d.k=5
  · rw [if_pos h5,if_pos h5,he]
    by_cases hc:gnErr a.1 (rgA a.1.regs d.fr) d.at_ ≠ 0
    · rw [if_pos (show gnErr a.1 (rgA ((gnKm room Bm Be).regs a) d.fr) d.at_ ≠ 0 from hc),if_pos hc]; exact ⟨rfl,Nat.le_succ _⟩
    · rw [if_neg (show ¬ gnErr a.1 (rgA ((gnKm room Bm Be).regs a) d.fr) d.at_ ≠ 0 from hc),if_neg hc]; exact ⟨rfl,Nat.le_succ _⟩
  rw [if_neg h5,if_neg h5]
  by_cases h6:d.k=6
  · rw [if_pos h6,if_pos h6]; exact ⟨rfl,Nat.le_succ _⟩
  · rw [if_neg h6,if_neg h6]; exact ⟨rfl,Nat.le_succ _⟩
theorem gndo_any {room Bm Be:Nat} {t:GnT} {F:Nat → Prop} {W0 w:World} {L:List Item} (h:Sep F W0 w ((gnKm room Bm Be).item t :: L)) (ok:GnOk t.a) (hn:t.a.objs.length < 500) (hN:t.N ≤ 100000) (d:DoV) :
    Calls Tryz.prog 15 #[.pointer (some ⟨Bm,0,none⟩),.agg d.cells] w fun e w' => ∃ (oc:Int) (orf:Bool) (on:Int) (t':GnT),e=.returned (.agg #[.int .i64 oc,.bool orf,.int .i64 on]) ∧ gnDo room d t.a=(⟨oc,orf,on⟩,t'.a) ∧ t'.N ≤ t.N + 1 ∧ Sep F W0 w' ((gnKm room Bm Be).item t' :: L):=by
  refine (kdo_any (gnKm room Bm Be) (gnKm_ok room Bm Be) (s:=t) (h.get 0 rfl) ⟨ok,hn,hN⟩ d).mono ?_
  rintro e w' ⟨rfl,t',hab,hS⟩
  obtain ⟨e1,e2⟩:=gnDo_eq room Bm Be d (t.a,t.N)
  have e3:((gnKm room Bm Be).step d (t.a,t.N)).2=(t'.a,t'.N):=hab.symm
  rw [e3] at e1 e2
  exact ⟨_,_,_,t',rfl,e1.symm,e2,h.call 0 rfl hS⟩
theorem gnminor_km {room Bm Be:Nat} {t:GnT} {F:Nat → Prop} {W0 w:World} {L:List Item} (h:Sep F W0 w ((gnKm room Bm Be).item t :: L)) (ok:GnOk t.a) (hn:t.a.objs.length < 500) :
    Calls Tryz.prog 28 #[.pointer (some ⟨Be,0,none⟩)] w fun e w' => (∃ u,e=.returned u) ∧ ∃ t':GnT,t'.a=t.a.minor ∧ t'.N ≤ t.N ∧ Sep F W0 w' ((gnKm room Bm Be).item t' :: L):=by
  have hl:=gn_len t
  refine (gminor_any (gkm_flat (h.get 0 rfl)) ok (by omega)).mono ?_
  rintro e w' ⟨he,t',e1,hN,hS⟩
  exact ⟨he,t',e1,hN,h.call 0 rfl (gkm_fold hS)⟩
theorem gnmajor_km {room Bm Be:Nat} {t:GnT} {F:Nat → Prop} {W0 w:World} {L:List Item} (h:Sep F W0 w ((gnKm room Bm Be).item t :: L)) (ok:GnOk t.a) (hn:t.a.objs.length < 500) :
    Calls Tryz.prog 29 #[.pointer (some ⟨Be,0,none⟩)] w fun e w' => (∃ u,e=.returned u) ∧ ∃ t':GnT,t'.a=t.a.major ∧ t'.N ≤ t.N ∧ Sep F W0 w' ((gnKm room Bm Be).item t' :: L):=by
  have hl:=gn_len t
  refine (gmajor_any (gkm_flat (h.get 0 rfl)) ok (by omega)).mono ?_
  rintro e w' ⟨he,t',e1,hN,hS⟩
  exact ⟨he,t',e1,hN,h.call 0 rfl (gkm_fold hS)⟩
end Go.Proofs.YtjphckfbbiehdaaGreat
