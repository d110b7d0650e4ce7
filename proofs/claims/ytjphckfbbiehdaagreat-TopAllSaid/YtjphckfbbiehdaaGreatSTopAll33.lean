/- Part of a proof. -/
import Derived.Test.YtjphckfbbiehdaaGreatSTopAll32
import Derived.Test.YtjphckfbbiehdaaGreatSTopAll9
set_option linter.unusedSimpArgs false
set_option linter.unusedVariables false
namespace Go.Proofs.YtjphckfbbiehdaaGreat
open Go.RowKit Go.Maps Go.Shelf
attribute [local go_sem] Oper.semAt_some
def bt (h:List Bool) (i:Nat):Bool:=h.getD i false
def Un (h:List Bool):Nat:=(h.filter fun b => !b).length
theorem bt_set (h:List Bool) (x i:Nat) (hx:x < h.length):bt (h.set x true) i=if i=x then true else bt h i:=by
  unfold bt
  rw [List.getD_eq_getElem?_getD,List.getElem?_set]
  by_cases e:x=i
  · subst e; rw [if_pos rfl,if_pos hx,if_pos rfl]; rfl
  · rw [if_neg e,if_neg (fun h => e h.symm),List.getD_eq_getElem?_getD]
theorem Un_mono:∀ {h s:List Bool},h.length=s.length → (∀ i,bt h i=true → bt s i=true) → Un s ≤ Un h
  | [],[],_,_ => Nat.le_refl _
  | [],_ :: _,h,_ => by simp at h
  | _ :: _,[],h,_ => by simp at h
  | a :: h,b :: s,hl,hm => by
    have ih:=Un_mono (h:=h) (s:=s) (by simpa using hl) (fun i hi => hm (i + 1) hi)
    have h0:=hm 0
    unfold Un at ih ⊢
    cases a <;> cases b <;> simp [bt] at h0 ih ⊢ <;> omega
theorem Un_set:∀ {h:List Bool} {x:Nat},x < h.length → bt h x=false → Un (h.set x true) + 1=Un h
  | [],x,hx,_ => by simp at hx
  | a :: h,0,_,hb => by
    have:a=false:=hb
    subst this
    simp [Un]
  | a :: h,x + 1,hx,hb => by
    have ih:=Un_set (h:=h) (x:=x) (by simpa using hx) hb
    unfold Un at ih ⊢
    rw [List.set_cons_succ,List.filter_cons,List.filter_cons]
    split
    · simp only [List.length_cons]; omega
    · exact ih
theorem Un_pos {h:List Bool} {x:Nat} (hx:x < h.length) (hb:bt h x=false):1 ≤ Un h:=by have:=Un_set hx hb; omega
structure Gk (N:Nat) (fld:Nat → Option (List Val)) (R:Nat → Prop) (xs:List Int) (h s:List Bool):Prop where
  len:s.length=N
  mono:∀ i,bt h i=true → bt s i=true
  snd:∀ i,bt s i=true → bt h i=true ∨ R i
  hit:∀ j:Nat,(j:Int) ∈ xs → bt s j=true
  cls:∀ i fs (j:Nat),bt s i=true → bt h i=false → fld i=some fs → (true,(j:Int)) ∈ fs → bt s j=true
theorem Gk.refl {N:Nat} {fld:Nat → Option (List Val)} {R:Nat → Prop} {h:List Bool} (hl:h.length=N):Gk N fld R [] h h :=
  ⟨hl,fun _ h => h,fun _ h => .inl h,fun j hj => by (cases hj),fun i fs j h1 h2 => by rw [h1] at h2; cases h2⟩
theorem Gk.seen {N:Nat} {fld:Nat → Option (List Val)} {R:Nat → Prop} {xs:List Int} {h s:List Bool} (a:Gk N fld R xs h s) {x:Nat} (hx:bt s x=true):Gk N fld R (xs ++ [(x:Int)]) h s :=
  ⟨a.len,a.mono,a.snd,fun j hj => by
    rcases List.mem_append.1 hj with hj | hj
    · exact a.hit j hj
    · have:(j:Int)=(x:Int):=List.mem_singleton.1 hj
      obtain rfl:j=x:=by omega
      exact hx,a.cls⟩
theorem Gk.step {N:Nat} {fld:Nat → Option (List Val)} {R:Nat → Prop} {xs:List Int} {h h2 s:List Bool} (a:Gk N fld R xs h h2) {x:Nat} {fs:List Val} (hx:x < N) (hf:fld x=some fs) (hR:R x)
    (b:Gk N fld R (tgts fs) (h2.set x true) s):Gk N fld R (xs ++ [(x:Int)]) h s:=by
  have hb:∀ i,bt (h2.set x true) i=if i=x then true else bt h2 i:=fun i => bt_set h2 x i (by rw [a.len]; exact hx)
  have m2:∀ i,bt h2 i=true → bt s i=true:=fun i hi => b.mono i (by rw [hb]; split; rfl; exact hi)
  have sx:bt s x=true:=b.mono x (by rw [hb,if_pos rfl])
  refine ⟨b.len,fun i hi => m2 i (a.mono i hi),fun i hi => ?_,fun j hj => ?_,fun i gs j h1 h3 hg hj => ?_⟩
  · rcases b.snd i hi with h3 | h3
    · rw [hb] at h3
      split at h3
      · rename_i e; subst e; exact .inr hR
      · exact a.snd i h3
    · exact .inr h3
  · rcases List.mem_append.1 hj with hj | hj
    · exact m2 j (a.hit j hj)
    · have:(j:Int)=(x:Int):=List.mem_singleton.1 hj
      obtain rfl:j=x:=by omega
      exact sx
  · by_cases e:i=x
    · subst e
      rw [hf] at hg
      injection hg with hg
      subst hg
      exact b.hit j (tgts_mem.2 hj)
    · cases h4:bt h2 i with
      | true => exact m2 j (a.cls i gs j h4 h3 hg hj)
      | false => exact b.cls i gs j h1 (by rw [hb,if_neg e]; exact h4) hg hj
structure GkOk (N:Nat) (fld:Nat → Option (List Val)) (R:Nat → Prop) (old0:List Bool):Prop where
  lt:∀ i fs,fld i=some fs → i < N
  vf:∀ i fs x,fld i=some fs → (true,x) ∈ fs → ∃ (j:Nat) (gs:List Val),x=(j:Int) ∧ fld j=some gs
  f4:∀ i fs,fld i=some fs → fs.length ≤ 4
  cl:∀ i fs (j:Nat),R i → bt old0 i=false → fld i=some fs → (true,(j:Int)) ∈ fs → R j
  n:N ≤ 600
def ojF (oj:Oj) (i:Nat):Option (List Val):=(oj.abs[i]?).getD none
theorem ojF_at {oj:Oj} {i:Nat} {fs:List Val} (h:ojF oj i=some fs):∃ p,oj.ps[i]?=some (some p) ∧ p.o.fields=fs:=by
  unfold ojF Oj.abs at h
  rw [List.getElem?_map] at h
  cases h2:oj.ps[i]? with
  | none => rw [h2] at h; cases h
  | some o =>
    rw [h2] at h
    cases o with
    | none => cases h
    | some p => exact ⟨p,rfl,by simpa using h⟩
def GkC (Ao:Option Addr) (go Be:Nat) (oj:Oj) (N oc:Nat) (R:Nat → Prop) (old0:List Bool) (m:Nat):Prop :=
  ∀ (w:World) (A:Option Addr) (n c:Nat) (vs:List Val) (h:List Bool),GnF Ao go Be oj N oc w → (oldI Ao oc N h).P w → Rd w (fun g => g ≠ go) 2 A n (vals vs) → n ≤ 8 → h.length=N → (∀ i,bt old0 i=true → bt h i=true) →
    (∀ x,(true,x) ∈ vs → ∃ (j:Nat) (gs:List Val),x=(j:Int) ∧ ojF oj j=some gs ∧ R j) → Un h ≤ m →
    Calls Tryz.prog 51 #[.pointer (some ⟨Be,0,none⟩),.slice A n c] w (RetS (oldI Ao oc N) (fun s => Gk N (ojF oj) R (tgts vs) h s) (oldI Ao oc N h).fp w)
set_option maxRecDepth 100000 in
set_option maxHeartbeats 4000000 in
theorem gkeep_step (Ao:Option Addr) (go Be:Nat) (oj:Oj) (N oc:Nat) (R:Nat → Prop) (old0:List Bool) (ok:GkOk N (ojF oj) R old0) (m:Nat) (ih:∀ k,m=k + 1 → GkC Ao go Be oj N oc R old0 k):GkC Ao go Be oj N oc R old0 m:=by
  intro w A n c vs h hM hP hRd hn8 hhl h0 hvs hB
  obtain ⟨F,hF⟩:∃ F,(oldI Ao oc N h).fp=F:=⟨_,rfl⟩
  have hFk:∀ k,F k → k=go:=fun k hk => by rw [← hF] at hk; exact oldI_fp' hM.A hk
  have hS0:=(Sep.start hP).blkAt 104 #[.pointer (some ⟨Be,0,none⟩)] (g:=w.heap.size) rfl
  rw [hF] at hS0 ⊢
  have HFK:=hide hFk
  have HM:=hide hM
  have HB:=hide hB
  have HHL:=hide hhl
  have HS0:=hide hS0
  have HIH:=hide ih
  have HOK:=hide ok
  have HH0:=hide h0
  have HVS:=hide hvs
  have HRD:=hide (hRd.keep (w':=w.alloc (.cells #[.pointer (some ⟨Be,0,none⟩)] 104)) (by simp) (fun k hk _ => Below.heap_alloc w _ k hk))
  clear hF hFk hP hM hB hhl hS0 ih ok h0 hvs hRd
  refine (callsIn_wide (n:=10)).1 ?_
  refine callsIn_of_wp_calm Tryz.func51 rfl trivial ?_ rfl
  simp only [Tryz.ntmps51,List.size_toArray,List.length_cons,List.length_nil,Nat.reduceAdd,Nat.reduceSub,Array.replicate_succ,Array.replicate_zero,List.push_toArray,List.append_toArray,List.nil_append,List.cons_append]
  gi_wp2_with (refine ⟨trivial,?_⟩; gi_at_call 45; refine (targets_in Fence.wide 9 trivial rfl _ _ _ _).mono ?_; rintro e w2 ⟨rfl,rfl⟩)
  have hS2:=HS0.out.blkAt 23 #[.slice A n c] (g:=w.heap.size + 1) (by simp)
  have hmx:Tryz.prog.follows .mixedOrders=true:=by kernel_rfl
  refine wpIn_tgt (n:=10) rfl (by omega) trivial (w.heap.size + 1) (by rfl) (by rfl) (oldI Ao oc N) h (vs:=vs) (by omega) (hS2.get 2 rfl) (hS2.other (a:=2) (b:=0) rfl rfl (by omega) _ rfl)
    ((HRD.out.below ((Below.refl _ _).alloc (Nat.le_refl _) _)).more (fun g _ hg hf => hg (oldI_fp' HM.out.A hf)))
    (fun pre s => Gk N (ojF oj) R pre h s) (fun _ _ _ => False) (fun s => Tame.row _ _ _ _ _ _ _) (Gk.refl HHL.out) (hS2.get 0 rfl) ?a1 ?assign ?body ?done ?stop
  case assign =>
    intro l x W K hK
    gi_wp2
    exact hK
  case stop =>
    rintro Dd c pre s W hD hpre hF
    exact hF.elim
  case body =>
    rintro lo pre x h2 W hx hpre hlen hI hP2
    obtain ⟨z,gs,rfl,hz,hRz⟩:=HVS.out x (tgts_mem.1 hx)
    have hzN:=HOK.out.lt z gs hz
    have hAo:Ao=some ⟨go,0,none⟩:=HM.out.A.resolve_right (fun h => by have:=h.2; omega)
    subst hAo
    have hSW:=hS2.call 0 rfl hP2
    obtain ⟨p1,p2,p3,p4⟩:=hSW.rules 1 (g:=w.heap.size) (t:=104) rfl
    have p5:=(p1 0).trans (show _=some (.pointer (some ⟨Be,0,none⟩)) from rfl)
    have GF:=HM.out.chg hSW.bel HFK.out
    obtain ⟨f1,f2⟩:=bo_cell (hP2.get 0 rfl) z hzN
    have g0:=GF.c0
    have g2:=GF.c2
    have g3:=GF.hb.2
    have hlN:h2.length=N:=hI.len
    have t1:(0:Int) ≤ (z:Int):=by omega
    have t2:(z:Int) < (N:Int):=by omega
    have t3:decide ((z:Int) < (N:Int))=true:=by simp; omega
    have hbi:=hP2.hi 0 rfl go (oldI_fp.2 rfl)
    cases hb2:bt h2 z with
    | true =>
      rw [show h2.getD z false=true from hb2] at f1
      have HST:=hide (hI.seen hb2)
      have HPP:=hide (Sep.start (hP2.get 0 rfl))
      clear hx hpre hlen hI hP2 hSW p1 p4 hS2 GF hb2
      gi_wp2
      exact ⟨h2,HST.out,HPP.out⟩
    | false =>
      rw [show h2.getD z false=false from hb2] at f1
      obtain ⟨p,hps,hpf⟩:=ojF_at hz
      obtain ⟨ad,q1,q2,q3,q4,q5,q6,q7,q8,q9⟩:=GF.p z p hps
      obtain ⟨m',hm'⟩:∃ m',m=m' + 1:=⟨m - 1,by
        have k1:=Un_pos (x:=z) (h:=h2) (by omega) hb2
        have k2:=Un_mono (h:=h) (s:=h2) (by rw [HHL.out,hlN]) hI.mono
        have:=HB.out
        omega⟩
      subst hm'
      have hUn:Un (h2.set z true) ≤ m':=by
        have k1:=Un_set (x:=z) (h:=h2) (by omega) hb2
        have k2:=Un_mono (h:=h) (s:=h2) (by rw [HHL.out,hlN]) hI.mono
        have:=HB.out
        omega
      have hS3:=(Sep.start (hP2.get 0 rfl)).store 0 (g:=go) rfl z (.bool true)
      rw [bools_st] at hS3
      have hS3':Sep (oldI (some ⟨go,0,none⟩) oc N h2).fp W (W.setCell ⟨go,z,none⟩ (.bool true)) [oldI (some ⟨go,0,none⟩) oc N (h2.set z true)]:=hS3
      have hS4:=hS3'.drew
      have GF3:=GF.chg hS4.bel (fun k hk => oldI_fp.1 hk)
      obtain ⟨ad',r1,r2,r3,r4,r5,r6,r7,r8,r9⟩:=GF3.p z p hps
      have hold:∀ i,bt old0 i=true → bt (h2.set z true) i=true:=fun i hi => by
        rw [bt_set h2 z i (by omega)]
        split
        · rfl
        · exact hI.mono i (HH0.out i hi)
      have hno:bt old0 z=false:=by
        cases ho:bt old0 z with
        | false => rfl
        | true => rw [hI.mono z (HH0.out z ho)] at hb2; cases hb2
      have C:=hide (HIH.out m' rfl ((W.setCell ⟨go,z,none⟩ (.bool true)).drew) p.o.A p.o.n p.o.c p.o.fields (h2.set z true) GF3 (hS4.get 0 rfl) r8 (by rw [← r9,hpf]; have:=HOK.out.f4 z gs hz; omega) (by rw [List.length_set]; exact hlN) hold (fun x hx => by
        rw [hpf] at hx
        obtain ⟨j,gs',e,hj⟩:=HOK.out.vf z gs x hz hx
        exact ⟨j,gs',e,hj,HOK.out.cl z gs j hRz hno hz (e ▸ hx)⟩) hUn)
      rw [hpf] at C
      have HST:=hide (fun (s:List Bool) (b:Gk N (ojF oj) R (tgts gs) (h2.set z true) s) => hI.step hzN hz hRz b)
      have HPP:=hide hS4
      have GFV:=GF.chg hS3'.bel (fun k hk => oldI_fp.1 hk)
      obtain ⟨ad2,s1,s2,s3,s4,s5,s6,s7,s8,s9⟩:=GFV.p z p hps
      obtain rfl:ad=ad2:=by rw [q1] at s1; injection s1
      have n1:w.heap.size ≠ go:=fun e => hSW.other (a:=1) (b:=0) rfl rfl (by omega) w.heap.size rfl (oldI_fp.2 e)
      have n2:Be ≠ go:=GF.hb.1
      have g4:=GFV.c0
      have hzl:z < oj.ps.length:=(List.getElem?_eq_some_iff.1 hps).1
      have t4:(z:Int) < (oj.ps.length:Int):=by omega
      unfold Oj.v at g0 g4
      rw [q1] at g0 g4
      obtain ⟨⟨oA,on,oc',ofs⟩,hpo⟩:∃ o,p.o=o:=⟨_,rfl⟩
      rw [hpo] at C q7 s7
      dsimp only at C q7 s7
      obtain ⟨pB,hpB⟩:∃ b,p.B=b:=⟨_,rfl⟩
      rw [hpB] at q4 q5 q6 q7 s4 s5 s6 s7
      obtain ⟨M,hM⟩:∃ M,oj.ps.length=M:=⟨_,rfl⟩
      rw [hM] at g0 g4 hzl t4
      obtain ⟨ojc,hojc⟩:∃ x,oj.c=x:=⟨_,rfl⟩
      rw [hojc] at g0 g4
      have t5:decide ((z:Int) < (M:Int))=true:=by simp; omega
      clear hx hpre hlen hI hP2 hS3 hS3' hS4 GF3 GFV GF hSW p1 p4 hS2 hb2 hps hpf q1 q8 q9 r1 r2 r3 r4 r5 r6 r7 r8 r9 s1 s8 s9 hUn hold hno hpo hpB hM hojc ad'
      refine wpIn_opaque fun K9 hK9 => ?_
      gi_wp2
      refine wpIn_region_still_tail (wideF_round lo) 11 hmx (by kernel_rfl) ?_
      simp only [List.take_succ_cons,List.take_zero,List.drop_succ_cons,List.drop_zero]
      repeat still_step
      refine wpStill_nil ?_
      gi_wp2_with (refine ⟨trivial,?_⟩; gi_at_call 51; (with_reducible refine (CallsIn.inRound lo (callsIn_wide.2 C.out)).mono ?_); rintro e w5 ⟨s5,⟨v5,rfl⟩,h12,h3⟩; have H12:=hide h12; have H3:=hide h3; clear h12 h3)
      exact ⟨s5,HST.out _ H12.out,HPP.out.call 0 rfl H3.out⟩
  case done =>
    rintro Dd h2 W hD hI hP2 hK
    have hfin:=hide (show Gk N (ojF oj) R (tgts vs) h h2 from hI)
    have hCL:Colls w.heap.size W [{ target:=.collected Dd,args:=#[] }]:=⟨Dd,rfl,by simp at hD; omega,hK,by simp,trivial⟩
    have HSW:=hide (hS2.call 0 rfl hP2)
    gi_wp2
    refine collsOff (B:=w.heap.size) (u:=.returning) (by simp) _ _ hCL ?_
    intro w' c1 c2 c3 c4 c5 c6
    have hSw:=(HSW.out.sub (l:=[oldI Ao oc N h2]) (by simp)).closed (B:=w.heap.size) (fun i hi => by
      obtain rfl:i=_:=by simpa using hi
      exact Tame.row _ _ _ _ _ _ _) (Nat.le_refl _) c1 c2 c3 c4 c5 c6
    exact ⟨_,results_none rfl _ _ _,h2,⟨_,rfl⟩,hfin.out,hSw⟩
theorem gkeep_any (Ao:Option Addr) (go Be:Nat) (oj:Oj) (N oc:Nat) (R:Nat → Prop) (old0:List Bool) (ok:GkOk N (ojF oj) R old0) (m:Nat):GkC Ao go Be oj N oc R old0 m:=by
  induction m with
  | zero => exact gkeep_step Ao go Be oj N oc R old0 ok 0 (fun k h => by omega)
  | succ m ih => exact gkeep_step Ao go Be oj N oc R old0 ok (m + 1) (fun k h => by obtain rfl:m=k:=(by omega); exact ih)
end Go.Proofs.YtjphckfbbiehdaaGreat

namespace Go.Proofs.YtjphckfbbiehdaaGreat
open Go.RowKit Go.Maps
theorem thereL_oj (s:Oj):thereL s.abs=thereL s.ps:=by
  have hl:s.abs.length=s.ps.length:=List.length_map ..
  unfold thereL thereK
  rw [hl]
  congr 1
  refine List.filter_congr fun i hi => ?_
  unfold Oj.abs
  rw [List.getD_eq_getElem?_getD,List.getD_eq_getElem?_getD,List.getElem?_map]
  cases s.ps[i]? with
  | none => rfl
  | some o => cases o <;> rfl
theorem there_lt {s:Oj} {x:Int} (h:x ∈ thereL s.ps):∃ z:Nat,x=(z:Int) ∧ z < s.ps.length:=by
  obtain ⟨i,p,rfl,h1⟩:=(mem_thereL _ _).1 h
  exact ⟨i,rfl,(List.getElem?_eq_some_iff.1 h1).1⟩
theorem thereL_len {α:Type} (l:List (Option α)):(thereL l).length ≤ l.length:=thereK_len l l.length
def cntB (old:List Bool) (b:Bool) (T:List Int):Nat:=(T.filter fun x => bt old x.toNat == b).length
theorem cntB_snoc (old:List Bool) (b:Bool) (T:List Int) (z:Nat):cntB old b (T ++ [(z:Int)])=cntB old b T + if bt old z=b then 1 else 0:=by
  unfold cntB
  rw [List.filter_append,List.length_append,List.filter_cons,List.filter_nil,Int.toNat_natCast]
  cases bt old z <;> cases b <;> rfl
theorem cntB_le (old:List Bool) (b:Bool) (T:List Int):cntB old b T ≤ T.length:=List.length_filter_le _ _
theorem many_cnt (t:GnT) (b:Bool):t.a.many b=cntB t.old b (thereL t.oj.ps):=by
  show ((thereL t.oj.abs).filter fun x => t.a.od x.toNat == b).length=_
  rw [thereL_oj]
  rfl
set_option maxRecDepth 100000 in
set_option maxHeartbeats 4000000 in
theorem gmany_any {F:Nat → Prop} {W0 w:World} {Be Bm:Nat} {room:Int} {t:GnT} {pre:List Item} (hK:Sep F W0 w (pre ++ gnK Be Bm room t)) (ol:t.old.length=t.oj.ps.length) (hn:t.oj.ps.length ≤ 600) (b:Bool) :
    Calls Tryz.prog 120 #[.pointer (some ⟨Be,0,none⟩),.bool b] w fun e w' => e=.returned (.int .i64 (t.a.many b:Int)) ∧ Below w.heap.size w w':=by
  rw [many_cnt]
  obtain ⟨k0,-,k2,-,-,-,k6⟩:=gn_cells hK
  have CT:=oThere_any w t.oj.As t.oj.ps.length t.oj.c t.oj.ps (by omega) (Rd.of_own (D:=fun _ => True) (show w.ownsRow 0 84 1 (.slice t.oj.As t.oj.ps.length t.oj.c) t.oj.ps.length (t.oj.ps.map ptrV) from hK.all (rowI 84 1 t.oj.As t.oj.ps.length t.oj.c (t.oj.ps.map ptrV)) (List.mem_append_right _ (by unfold gnK gnR ojL; simp))) (fun _ _ => trivial))
  have HOW:=hide (fun (X:World) (hb:Below w.heap.size w X) => (hK.below hb).all (oldI t.Ao t.oc t.old.length t.old) (List.mem_append_right _ (by unfold gnK gnR; simp)))
  have HBE:=hide (fun (X:World) (hb:Below w.heap.size w X) => (⟨(gn_cells (hK.below hb)).2.2.1,(gn_cells (hK.below hb)).2.2.2.2.2.2⟩:X.cell? ⟨Be,2,none⟩=some (.slice t.Ao t.old.length t.oc) ∧ Be < X.heap.size))
  have HTL:=hide (show ∀ x ∈ thereL t.oj.ps,∃ z:Nat,x=(z:Int) ∧ z < t.old.length from fun x hx => by
    obtain ⟨z,e,h⟩:=there_lt hx
    exact ⟨z,e,by omega⟩)
  have hTle:=thereL_len t.oj.ps
  unfold Oj.v at k0
  unfold oldI at HOW
  obtain ⟨T,hT⟩:∃ T,thereL t.oj.ps=T:=⟨_,rfl⟩
  rw [hT] at CT HTL hTle ⊢
  obtain ⟨N,hN⟩:∃ n,t.oj.ps.length=n:=⟨_,rfl⟩
  rw [hN] at CT k0 hTle hn ol
  rw [ol] at k2 HTL
  simp only [ol] at HOW HBE
  obtain ⟨As,hAs⟩:∃ n,t.oj.As=n:=⟨_,rfl⟩
  obtain ⟨cp,hcp⟩:∃ n,t.oj.c=n:=⟨_,rfl⟩
  rw [hAs,hcp] at CT k0
  obtain ⟨old,hold⟩:∃ l,t.old=l:=⟨_,rfl⟩
  obtain ⟨Ao,hAo⟩:∃ l,t.Ao=l:=⟨_,rfl⟩
  obtain ⟨oc,hoc⟩:∃ l,t.oc=l:=⟨_,rfl⟩
  simp only [hold,hAo,hoc] at HOW HBE k2
  rw [hold]
  have HCT:=hide CT
  clear hK CT hT hN hAs hcp hold hAo hoc ol
  go_enter Tryz.func120,Tryz.ntmps120
  go_wp2_with fail
  refine HCT.out.mono ?_
  rintro e w2 ⟨A2,c2,rfl,hP2⟩
  obtain ⟨m,hm⟩:∃ m,T.length=m:=⟨_,rfl⟩
  rw [hm] at hP2 hTle ⊢
  have HM:=hide hm
  have HS3:=hide hP2
  clear hP2 hm HCT k0 k2
  go_wp2_with fail
  go_loopw [5,14] (fun s5 i wr => ∃ k:Nat,k ≤ m ∧ i=.int .i64 k ∧ s5=.int .i64 (cntB old b (T.take k):Int) ∧ Sep No w wr [rowI 3 1 A2 m c2 (ints T)]) (fun _ i _ => m - (intOf i).toNat)
  case atStart => exact ⟨0,by omega,rfl,rfl,HS3.out⟩
  case round =>
    clear HS3
    obtain ⟨k,hk,rfl,rfl,hS⟩:=hrel
    by_cases hlt:k < m
    · have hkl:k < T.length:=by rw [HM.out]; exact hlt
      obtain ⟨ad,hA,_,had,hc⟩:=(hS.rd_ 0 rfl).at_ hlt
      have e0:=hc (.int .i64 T[k]) (by simp [ints,List.getElem?_eq_getElem hkl])
      have hTk:=List.take_succ_eq_append_getElem hkl
      obtain ⟨z,hz,hzN⟩:=HTL.out _ (List.getElem_mem hkl)
      rw [hz] at e0 hTk
      obtain ⟨g2,g3⟩:=HBE.out wr hS.below_
      have hrow:=HOW.out wr hS.below_
      have hAo:∃ go,Ao=some ⟨go,0,none⟩:=by
        have h1:wr.ownsRow 0 4 1 (.slice Ao N oc) N (bools old):=hrow
        rcases h1.2 with ⟨h1,_⟩ | ⟨g,cap,cur,hv,_⟩
        · injection h1 with h1 h2 h3; omega
        · injection hv with hv; exact ⟨g,hv⟩
      obtain ⟨go,rfl⟩:=hAo
      obtain ⟨f1,f2⟩:=bo_cell hrow z hzN
      have HCB:=hide (cntB_snoc old b (T.take k) z)
      rw [← hTk] at HCB
      have hcl:=cntB_le old b (T.take k)
      have hcl2:(T.take k).length ≤ k:=List.length_take_le ..
      obtain ⟨q,hq⟩:∃ q,cntB old b (T.take k)=q:=⟨_,rfl⟩
      rw [hq] at HCB hcl ⊢
      obtain ⟨y,hy⟩:∃ y,bt old z=y:=⟨_,rfl⟩
      rw [show old.getD z false=y from hy] at f1
      rw [hy] at HCB
      have HS:=hide hS
      have w1:IntKind.i64.wrap ((q:Int) + 1)=((q + 1:Nat):Int):=by simp [IntKind.wrap,IntKind.bits,IntKind.signed]; omega
      subst hA
      clear hc hTk hz hrow hS hq hy
      cases y <;> cases b
      all_goals
        go_wp2_with fail
        go_roundw
        case rel => exact ⟨k + 1,by omega,by go_num,by rw [HCB.out]; (first | rfl | simp),HS.out⟩
        case measure => simp [intOf]; omega
    · obtain rfl:k=m:=by omega
      rw [List.take_of_length_le (by rw [HM.out]; exact Nat.le_refl _)]
      have HB:=hide hS.below_
      clear hS
      go_wp2_with fail
      go_ret
      exact ⟨rfl,HB.out⟩
end Go.Proofs.YtjphckfbbiehdaaGreat

namespace Go.Proofs.YtjphckfbbiehdaaGreat
open Go.RowKit Go.Maps
theorem gn_op {Be Bm:Nat} {room:Int} {t:GnT} {i:Nat} {p:Po} (hp:t.oj.ps[i]?=some (some p)):(gnK Be Bm room t)[5 + i]?=some (opI (some p)):=by
  unfold gnK gnR ojL
  rw [show 5 + i=i + 1 + 1 + 1 + 1 + 1 by omega]
  simp [List.getElem?_map,hp]
theorem gn_go {F:Nat → Prop} {W0 w:World} {Be Bm:Nat} {room:Int} {t:GnT} (hK:Sep F W0 w (gnK Be Bm room t)) (ol:t.old.length=t.oj.ps.length) (h8:t.regs.length=8) :
    ∃ go,GnF t.Ao go Be t.oj t.old.length t.oc w ∧ (∀ k,(oldI t.Ao t.oc t.old.length t.old).fp k → k=go) ∧ Rd w (fun g => g ≠ go) 2 (some ⟨Bm,0,none⟩) 8 (vals t.regs):=by
  obtain ⟨k0,-,k2,-,-,-,k6⟩:=gn_cells (pre:=[]) hK
  have hBm:Bm < w.heap.size:=hK.hi 0 rfl Bm rfl
  have hrd:∀ go,Bm ≠ go → Rd w (fun g => g ≠ go) 2 (some ⟨Bm,0,none⟩) 8 (vals t.regs):=fun go hne => by
    refine ⟨by rw [vals_length,h8],fun _ => ⟨_,rfl,hne,hBm,fun j u hu => ?_⟩⟩
    obtain ⟨c1,_,_,_⟩:=hK.rules 0 (g:=Bm) (t:=70) (cs:=mcCells t.regs (.iface 104 (.pointer (some ⟨Be,0,none⟩)))) rfl
    rw [hraddr0,c1]
    unfold mcCells
    rw [List.getElem?_toArray,List.getElem?_append_left (List.getElem?_eq_some_iff.1 hu).1]
    exact hu
  have hrow:w.ownsRow 0 4 1 (.slice t.Ao t.old.length t.oc) t.old.length (bools t.old):=hK.get 2 rfl
  rcases hrow.2 with ⟨hv,h0⟩ | ⟨g,cap,cur,hv,_⟩
  · injection hv with h1 h2 h3
    have hA:t.Ao=some ⟨Be + Bm + 1,0,none⟩ ∨ (t.Ao=none ∧ t.old.length=0):=.inr ⟨h1,h2⟩
    refine ⟨Be + Bm + 1,⟨hA,⟨by omega,k6⟩,k0,k2,fun i p hp => ?_⟩,fun k hk => oldI_fp' hA hk,hrd _ (by omega)⟩
    have:=(List.getElem?_eq_some_iff.1 hp).1
    omega
  · injection hv with h1 h2 h3
    have hA:t.Ao=some ⟨g,0,none⟩ ∨ (t.Ao=none ∧ t.old.length=0):=.inl h1
    have hfp:(oldI t.Ao t.oc t.old.length t.old).fp g:=by rw [h1]; exact oldI_fp.2 rfl
    refine ⟨g,⟨hA,⟨fun e => hK.other (a:=1) (b:=2) rfl rfl (by omega) Be rfl (e ▸ hfp),k6⟩,k0,k2,fun i p hp => ?_⟩,fun k hk => oldI_fp' hA hk,hrd _ (fun e => hK.other (a:=0) (b:=2) rfl rfl (by omega) Bm rfl (e ▸ hfp))⟩
    obtain ⟨ad,e1,e2,e3,e4,e5⟩:=oj_at (pre:=[_,_,_,_]) hK hp
    have hap:=hK.other (a:=5 + i) (b:=2) (gn_op hp) rfl (by omega)
    have hB:p.B ≠ g:=fun e => hap p.B ⟨blkI p.B 83 #[.slice p.o.A p.o.n p.o.c],by simp,rfl⟩ (e ▸ hfp)
    have had:ad.block ≠ g:=fun e => hK.other (a:=4) (b:=2) (x:=rowI 84 1 t.oj.As t.oj.ps.length t.oj.c (t.oj.ps.map ptrV)) rfl rfl (by omega) ad.block (by
      have hr:w.ownsRow 0 84 1 (.slice t.oj.As t.oj.ps.length t.oj.c) t.oj.ps.length (t.oj.ps.map ptrV):=hK.get 4 rfl
      rcases hr.2 with ⟨hv,_⟩ | ⟨g',cap',cur',hv,_⟩
      · injection hv with hv; rw [e1] at hv; cases hv
      · injection hv with hv
        rw [e1] at hv
        injection hv with hv
        subst hv
        show (Value.slice t.oj.As t.oj.ps.length t.oj.c).ownBlock=some g'
        rw [e1]
        rfl) (e ▸ hfp)
    have hblt:p.B < w.heap.size:=by
      have:=hK.hi (5 + i) (gn_op hp) p.B ⟨blkI p.B 83 #[.slice p.o.A p.o.n p.o.c],by simp,rfl⟩
      exact this
    exact ⟨ad,e1,had,e2,e3,hB,hblt,e4,Rd.of_own (show w.ownsRow 0 63 2 (.slice p.o.A p.o.n p.o.c) p.o.n _ from e5) (fun k hk e => hap k ⟨obI p.o,by simp,by show (Value.slice p.o.A p.o.n p.o.c).ownBlock=some k; rw [hk]; rfl⟩ (e ▸ hfp)),oj_len (pre:=[_,_,_,_]) hK hp⟩
def Oj.dropG (s:Oj) (i:Nat):Oj:={ s with ps:=s.ps.set i none }
theorem gj_drop {F:Nat → Prop} {W w:World} {s:Oj} {pre:List Item} (h:Sep F W w (pre ++ ojL s)) {i ga:Nat} (hi:i < s.ps.length) (hA:s.As=some ⟨ga,0,none⟩):Sep F W (w.setCell ⟨ga,i,none⟩ (.pointer none)) (pre ++ ojL (s.dropG i)):=by
  have h2:Sep F W w ((rowI 84 1 (some ⟨ga,0,none⟩) s.ps.length s.c (s.ps.map ptrV) :: pre) ++ s.ps.map opI):=by
    rw [← hA]
    exact h.perm (show (pre ++ rowI 84 1 s.As s.ps.length s.c (s.ps.map ptrV) :: s.ps.map opI).Perm _ from List.perm_middle)
  have h3:=h2.store 0 (g:=ga) rfl i (.pointer none)
  have h4:Sep F W (w.setCell ⟨ga,i,none⟩ (.pointer none)) ((rowI 84 1 (some ⟨ga,0,none⟩) s.ps.length s.c ((s.ps.map ptrV).set i (.pointer none)) :: pre) ++ s.ps.map opI):=h3
  have h5:=h4.focus (j:=i) (t:=s.ps[i]) (List.getElem?_eq_getElem hi)
  have h6:=h5.step 0 rfl (Chg.refl _ _) (opI none) ⟨fun i hi => by simp at hi,.nil⟩ (fun g hg => by obtain ⟨_,h,_⟩:=hg; simp at h)
  have h7:=Sep.unfocus (l:=s.ps) (j:=i) h6 hi
  have e:ojL (s.dropG i)=rowI 84 1 (some ⟨ga,0,none⟩) s.ps.length s.c ((s.ps.map ptrV).set i (.pointer none)) :: (s.ps.set i none).map opI:=by
    unfold ojL Oj.dropG
    dsimp only
    rw [List.length_set,List.map_set,hA]
    rfl
  rw [e]
  exact h7.perm List.perm_middle.symm
theorem gj_drop_abs (s:Oj) (i:Nat):(s.dropG i).abs=s.abs.set i none:=by
  unfold Oj.dropG Oj.abs
  dsimp only
  rw [List.map_set]
  rfl
theorem dropG_snoc (objs:List (Option (List Val))) (xs:List Int) (x:Int):dropF objs (xs ++ [x])=(dropF objs xs).set x.toNat none:=by unfold dropF; rw [List.foldl_append]; rfl
structure ClO (N:Nat) (fld:Nat → Option (List Val)) (R:Nat → Prop) (old0 h:List Bool):Prop where
  len:h.length=N
  mono:∀ i,bt old0 i=true → bt h i=true
  snd:∀ i,bt h i=true → bt old0 i=true ∨ R i
  cls:∀ i fs (j:Nat),bt h i=true → bt old0 i=false → fld i=some fs → (true,(j:Int)) ∈ fs → bt h j=true
theorem ClO.refl {N:Nat} {fld:Nat → Option (List Val)} {R:Nat → Prop} {h:List Bool} (hl:h.length=N):ClO N fld R h h :=
  ⟨hl,fun _ h => h,fun _ h => .inl h,fun i fs j h1 h2 => by rw [h1] at h2; cases h2⟩
theorem ClO.gk {N:Nat} {fld:Nat → Option (List Val)} {R:Nat → Prop} {old0 h s:List Bool} {xs:List Int} (a:ClO N fld R old0 h) (b:Gk N fld R xs h s):ClO N fld R old0 s :=
  ⟨b.len,fun i hi => b.mono i (a.mono i hi),fun i hi => (b.snd i hi).elim (a.snd i) .inr,fun i fs j h1 h2 hf hj => by
    cases h3:bt h i with
    | true => exact b.mono j (a.cls i fs j h3 h2 hf hj)
    | false => exact b.cls i fs j h1 h3 hf hj⟩
def RY (a:GnA) (i:Nat):Prop:=∃ k,Lev a.gsY a.rtY k (i:Int)
theorem gn_gkOk {a:GnA} (ok:GnOk a) (hn:a.objs.length ≤ 600):GkOk a.objs.length a.fld (RY a) a.old where
  lt i fs h:=GnA.fld_lt h
  vf i fs x h hx:=ok.vf i fs _ h hx rfl
  f4 i fs h:=ok.f4 i fs h
  cl i fs j hR ho h hj:=by
    obtain ⟨k,hk⟩:=hR
    refine ⟨k + 1,.step k _ _ hk ?_⟩
    rw [a.gsY_get,show a.od i=false from ho,if_neg (by simp),h]
    exact hj
  n:=hn
theorem ClO.fin {a:GnA} (ok:GnOk a) {h:List Bool} (c:ClO a.objs.length a.fld (RY a) a.old h) (h1:∀ j:Nat,(true,(j:Int)) ∈ a.rtY → bt h j=true):h=(List.range a.objs.length).map a.kept:=by
  have key:∀ i,bt h i=a.kept i:=fun i => by
    rw [Bool.eq_iff_iff]
    unfold GnA.kept
    rw [Bool.or_eq_true,decide_eq_true_eq,mem_reachR ok.gvY.1 ok.gvY.2]
    constructor
    · exact fun hi => c.snd i hi
    · rintro (hi | ⟨k,hk⟩)
      · exact c.mono i hi
      · have:∀ k x,Lev a.gsY a.rtY k x → ∀ j:Nat,x=(j:Int) → bt h j=true:=by
          intro k x hx
          induction hx with
          | root x hx => rintro j rfl; exact h1 j hx
          | step k x y hx hy ih =>
            rintro j rfl
            have hth:∀ k x,Lev a.gsY a.rtY k x → ∃ z:Nat,x=(z:Int):=fun k x hx => by
              have h9:x ∈ reachR a.gsY a.rtY:=(mem_reachR ok.gvY.1 ok.gvY.2 x).2 ⟨k,hx⟩
              unfold reachR at h9
              obtain ⟨z,_,e⟩:=List.mem_map.1 h9
              exact ⟨z,e.symm⟩
            obtain ⟨z,rfl⟩:=hth k x hx
            have hz:=ih z rfl
            rw [a.gsY_get] at hy
            split at hy
            · cases hy
            · rename_i ho
              cases hf:a.fld z with
              | none => rw [hf] at hy; cases hy
              | some fs =>
                rw [hf] at hy
                exact c.cls z fs j hz (by show a.od z=false; simpa using ho) hf hy
        exact this k _ hk i rfl
  apply List.ext_getElem (by simp [c.len])
  intro i hi1 hi2
  have:=key i
  unfold bt at this
  rw [List.getD_eq_getElem?_getD,List.getElem?_eq_getElem hi1,Option.getD_some] at this
  rw [this]
  simp
def GnT.o_ (t:GnT) (h:List Bool):GnT:={ t with old:=h }
theorem gnC_o (Bm:Nat) (room:Int) (t:GnT) (h:List Bool) (hl:h.length=t.old.length):gnC Bm room (t.o_ h)=gnC Bm room t:=by unfold gnC GnT.o_; dsimp only; rw [hl]
theorem gnK_o (Be Bm:Nat) (room:Int) (t:GnT) (h:List Bool) (hl:h.length=t.old.length):gnK Be Bm room (t.o_ h)=[gnM Be Bm t,blkI Be 109 (gnC Bm room t),oldI t.Ao t.oc t.old.length h,gmI t.b t.N t.mks] ++ ojL t.oj:=by
  unfold gnK gnR
  rw [gnC_o Bm room t h hl]
  show [gnM Be Bm t,_,oldI t.Ao t.oc h.length h,_] ++ ojL t.oj=_
  rw [hl]
  rfl
def gnKr (Be Bm:Nat) (room:Int) (t:GnT) (r:Nat) (left:Gp → Bool) (cnt:Nat) (h:List Bool):List Item:=[gnM Be Bm t,blkI Be 109 (gnC Bm room t),oldI t.Ao t.oc t.old.length h,gmR t.b r t.N t.mks left cnt] ++ ojL t.oj
end Go.Proofs.YtjphckfbbiehdaaGreat
