/- Part of a proof. -/
import Derived.Test.YtjphckfbbiehdaaGreatSTopAll14
import Derived.Test.YtjphckfbbiehdaaGreatSTopAll15
import Derived.Test.YtjphckfbbiehdaaGreatSTopAll22
import Derived.Test.YtjphckfbbiehdaaGreatSTopAll5
set_option linter.unusedSimpArgs false
set_option linter.unusedVariables false
namespace Go.Proofs.YtjphckfbbiehdaaGreat
open Go.RowKit
theorem len8 {α:Type} {l:List α} (h:l.length=8):∃ a0 a1 a2 a3 a4 a5 a6 a7,l=[a0,a1,a2,a3,a4,a5,a6,a7]:=by
  match l,h with
  | [a0,a1,a2,a3,a4,a5,a6,a7],_ => exact ⟨_,_,_,_,_,_,_,_,rfl⟩
theorem idx8_0 (b0 b1 b2 b3 b4 b5 b6 b7:Bool) (m0 m1 m2 m3 m4 m5 m6 m7:Int) (X:World):Sem.run Tryz.prog (Instr.index 65 (.agg #[.bool b0,.int .i64 m0,.bool b1,.int .i64 m1,.bool b2,.int .i64 m2,.bool b3,.int .i64 m3,.bool b4,.int .i64 m4,.bool b5,.int .i64 m5,.bool b6,.int .i64 m6,.bool b7,.int .i64 m7]) (.int .i64 0)) X=.ok (.agg #[.bool b0,.int .i64 m0]) X:=by kernel_rfl
theorem idx8_1 (b0 b1 b2 b3 b4 b5 b6 b7:Bool) (m0 m1 m2 m3 m4 m5 m6 m7:Int) (X:World):Sem.run Tryz.prog (Instr.index 65 (.agg #[.bool b0,.int .i64 m0,.bool b1,.int .i64 m1,.bool b2,.int .i64 m2,.bool b3,.int .i64 m3,.bool b4,.int .i64 m4,.bool b5,.int .i64 m5,.bool b6,.int .i64 m6,.bool b7,.int .i64 m7]) (.int .i64 1)) X=.ok (.agg #[.bool b1,.int .i64 m1]) X:=by kernel_rfl
theorem idx8_2 (b0 b1 b2 b3 b4 b5 b6 b7:Bool) (m0 m1 m2 m3 m4 m5 m6 m7:Int) (X:World):Sem.run Tryz.prog (Instr.index 65 (.agg #[.bool b0,.int .i64 m0,.bool b1,.int .i64 m1,.bool b2,.int .i64 m2,.bool b3,.int .i64 m3,.bool b4,.int .i64 m4,.bool b5,.int .i64 m5,.bool b6,.int .i64 m6,.bool b7,.int .i64 m7]) (.int .i64 2)) X=.ok (.agg #[.bool b2,.int .i64 m2]) X:=by kernel_rfl
theorem idx8_3 (b0 b1 b2 b3 b4 b5 b6 b7:Bool) (m0 m1 m2 m3 m4 m5 m6 m7:Int) (X:World):Sem.run Tryz.prog (Instr.index 65 (.agg #[.bool b0,.int .i64 m0,.bool b1,.int .i64 m1,.bool b2,.int .i64 m2,.bool b3,.int .i64 m3,.bool b4,.int .i64 m4,.bool b5,.int .i64 m5,.bool b6,.int .i64 m6,.bool b7,.int .i64 m7]) (.int .i64 3)) X=.ok (.agg #[.bool b3,.int .i64 m3]) X:=by kernel_rfl
theorem idx8_4 (b0 b1 b2 b3 b4 b5 b6 b7:Bool) (m0 m1 m2 m3 m4 m5 m6 m7:Int) (X:World):Sem.run Tryz.prog (Instr.index 65 (.agg #[.bool b0,.int .i64 m0,.bool b1,.int .i64 m1,.bool b2,.int .i64 m2,.bool b3,.int .i64 m3,.bool b4,.int .i64 m4,.bool b5,.int .i64 m5,.bool b6,.int .i64 m6,.bool b7,.int .i64 m7]) (.int .i64 4)) X=.ok (.agg #[.bool b4,.int .i64 m4]) X:=by kernel_rfl
theorem idx8_5 (b0 b1 b2 b3 b4 b5 b6 b7:Bool) (m0 m1 m2 m3 m4 m5 m6 m7:Int) (X:World):Sem.run Tryz.prog (Instr.index 65 (.agg #[.bool b0,.int .i64 m0,.bool b1,.int .i64 m1,.bool b2,.int .i64 m2,.bool b3,.int .i64 m3,.bool b4,.int .i64 m4,.bool b5,.int .i64 m5,.bool b6,.int .i64 m6,.bool b7,.int .i64 m7]) (.int .i64 5)) X=.ok (.agg #[.bool b5,.int .i64 m5]) X:=by kernel_rfl
theorem idx8_6 (b0 b1 b2 b3 b4 b5 b6 b7:Bool) (m0 m1 m2 m3 m4 m5 m6 m7:Int) (X:World):Sem.run Tryz.prog (Instr.index 65 (.agg #[.bool b0,.int .i64 m0,.bool b1,.int .i64 m1,.bool b2,.int .i64 m2,.bool b3,.int .i64 m3,.bool b4,.int .i64 m4,.bool b5,.int .i64 m5,.bool b6,.int .i64 m6,.bool b7,.int .i64 m7]) (.int .i64 6)) X=.ok (.agg #[.bool b6,.int .i64 m6]) X:=by kernel_rfl
theorem idx8_7 (b0 b1 b2 b3 b4 b5 b6 b7:Bool) (m0 m1 m2 m3 m4 m5 m6 m7:Int) (X:World):Sem.run Tryz.prog (Instr.index 65 (.agg #[.bool b0,.int .i64 m0,.bool b1,.int .i64 m1,.bool b2,.int .i64 m2,.bool b3,.int .i64 m3,.bool b4,.int .i64 m4,.bool b5,.int .i64 m5,.bool b6,.int .i64 m6,.bool b7,.int .i64 m7]) (.int .i64 7)) X=.ok (.agg #[.bool b7,.int .i64 m7]) X:=by kernel_rfl
theorem idx8 (b0 b1 b2 b3 b4 b5 b6 b7:Bool) (m0 m1 m2 m3 m4 m5 m6 m7:Int) (k:Nat) (v:Val) (h:[(b0,m0),(b1,m1),(b2,m2),(b3,m3),(b4,m4),(b5,m5),(b6,m6),(b7,m7)][k]?=some v) (X:World) :
    Sem.run Tryz.prog (Instr.index 65 (.agg #[.bool b0,.int .i64 m0,.bool b1,.int .i64 m1,.bool b2,.int .i64 m2,.bool b3,.int .i64 m3,.bool b4,.int .i64 m4,.bool b5,.int .i64 m5,.bool b6,.int .i64 m6,.bool b7,.int .i64 m7]) (.int .i64 k)) X=.ok (.agg #[.bool v.1,.int .i64 v.2]) X:=by
  match k,h with
  | 0,h => cases h; exact idx8_0 b0 b1 b2 b3 b4 b5 b6 b7 m0 m1 m2 m3 m4 m5 m6 m7 X
  | 1,h => cases h; exact idx8_1 b0 b1 b2 b3 b4 b5 b6 b7 m0 m1 m2 m3 m4 m5 m6 m7 X
  | 2,h => cases h; exact idx8_2 b0 b1 b2 b3 b4 b5 b6 b7 m0 m1 m2 m3 m4 m5 m6 m7 X
  | 3,h => cases h; exact idx8_3 b0 b1 b2 b3 b4 b5 b6 b7 m0 m1 m2 m3 m4 m5 m6 m7 X
  | 4,h => cases h; exact idx8_4 b0 b1 b2 b3 b4 b5 b6 b7 m0 m1 m2 m3 m4 m5 m6 m7 X
  | 5,h => cases h; exact idx8_5 b0 b1 b2 b3 b4 b5 b6 b7 m0 m1 m2 m3 m4 m5 m6 m7 X
  | 6,h => cases h; exact idx8_6 b0 b1 b2 b3 b4 b5 b6 b7 m0 m1 m2 m3 m4 m5 m6 m7 X
  | 7,h => cases h; exact idx8_7 b0 b1 b2 b3 b4 b5 b6 b7 m0 m1 m2 m3 m4 m5 m6 m7 X
  | k + 8,h => simp at h
def CoS.drop (s:CoS) (i:Nat):CoS:={ s with oj:={ s.oj with ps:=s.oj.ps.set i none } }
theorem co_dropv (bv:Value) (s:CoS) (i:Nat):coC bv (s.drop i)=coC bv s:=by
  unfold coC CoS.drop Oj.v
  dsimp only
  rw [List.length_set]
theorem co_drop {F:Nat → Prop} {W w:World} {Be:Nat} {bv:Value} {s:CoS} {R:Item} (h:Sep F W w [coI Be bv s,R]) {i ga:Nat} (hi:i < s.oj.ps.length) (hA:s.oj.As=some ⟨ga,0,none⟩):Sep F W (w.setCell ⟨ga,i,none⟩ (.pointer none)) [coI Be bv (s.drop i),R]:=by
  have h1:Sep F W w (coR Be bv s ++ [R]):=Sep.split (l:=coR Be bv s) h
  have h2:=h1.perm (l:=[R,blkI Be 95 (coC bv s),rowI 3 1 s.Ac s.cols.length s.cc (ints s.cols),rowI 3 1 s.Ag s.gone.length s.cg (ints s.gone),rowI 84 1 s.oj.As s.oj.ps.length s.oj.c (s.oj.ps.map ptrV)] ++ s.oj.ps.map opI) (List.perm_append_comm (l₁:=coR Be bv s) (l₂:=[R]))
  rw [hA] at h2
  have h3:=h2.store 4 (g:=ga) rfl i (.pointer none)
  simp only [List.cons_append,List.nil_append,List.set_cons_succ,List.set_cons_zero] at h3
  have h4:Sep F W (w.setCell ⟨ga,i,none⟩ (.pointer none)) ([R,blkI Be 95 (coC bv s),rowI 3 1 s.Ac s.cols.length s.cc (ints s.cols),rowI 3 1 s.Ag s.gone.length s.cg (ints s.gone),rowI 84 1 (some ⟨ga,0,none⟩) s.oj.ps.length s.oj.c ((s.oj.ps.map ptrV).set i (.pointer none))] ++ s.oj.ps.map opI):=h3
  have h5:=h4.focus (j:=i) (t:=s.oj.ps[i]) (List.getElem?_eq_getElem hi)
  have h6:=h5.step 0 rfl (Chg.refl _ _) (opI none) ⟨fun i hi => by simp at hi,.nil⟩ (fun g hg => by obtain ⟨_,h,_⟩:=hg; simp at h)
  have h7:=Sep.unfocus (l:=s.oj.ps) (j:=i) h6 hi
  have h8:=h7.perm (l:=coR Be bv (s.drop i) ++ [R]) (by
    have e:coR Be bv (s.drop i)=[blkI Be 95 (coC bv s),rowI 3 1 s.Ac s.cols.length s.cc (ints s.cols),rowI 3 1 s.Ag s.gone.length s.cg (ints s.gone),rowI 84 1 (some ⟨ga,0,none⟩) s.oj.ps.length s.oj.c ((s.oj.ps.map ptrV).set i (.pointer none))] ++ (s.oj.ps.set i none).map opI:=by
      unfold coR
      rw [co_dropv]
      unfold ojL CoS.drop
      dsimp only
      rw [List.length_set,List.map_set,hA]
      rfl
    rw [e]
    exact List.perm_append_comm (l₁:=[R]) (l₂:=[_,_,_,_] ++ _))
  exact Sep.join (l:=coR Be bv (s.drop i)) h8
theorem co_drop_abs (s:CoS) (i:Nat):(s.drop i).oj.abs=s.oj.abs.set i none:=by
  unfold CoS.drop Oj.abs
  dsimp only
  rw [List.map_set]
  rfl
theorem dropF_snoc (objs:List (Option (List Val))) (xs:List Int) (x:Int):dropF objs (xs ++ [x])=(dropF objs xs).set x.toNat none:=by unfold dropF; rw [List.foldl_append]; rfl
theorem whitesF_snoc (xs C:List Int) (x:Int):whitesF (xs ++ [x]) C=whitesF xs C ++ if C.getD x.toNat 0=0 then [x] else []:=by
  unfold whitesF
  rw [List.filter_append,List.filter_cons,List.filter_nil]
  by_cases h:C.getD x.toNat 0=0
  · rw [if_pos h,if_pos (by simpa using h)]
  · rw [if_neg h,if_neg (by simpa using h)]
set_option maxRecDepth 100000 in
set_option maxHeartbeats 16000000 in
theorem sweep_any {Be:Nat} {bv:Value} {s:CoS} {w:World} (hP:(coI Be bv s).P w) (hl:s.cols.length=s.oj.ps.length) (hn:s.oj.ps.length ≤ 1000) (hgl:s.gone.length ≤ 100000) {regs:List Val} (h8:regs.length=8) (hv:∀ v ∈ regs,vin s.cols.length v) :
    Calls Tryz.prog 24 #[.pointer (some ⟨Be,0,none⟩),.agg (vals regs).toArray] w fun e w' =>
      (greyF (thereL s.oj.ps) (shadeL s.cols regs) ≠ -1 ∧ e=.returned (.int .i64 8) ∧ Sep (coI Be bv s).fp w w' [coI Be bv (s.col (shadeL s.cols regs))]) ∨
      (greyF (thereL s.oj.ps) (shadeL s.cols regs)=-1 ∧ e=.returned (.int .i64 0) ∧ ∃ s':CoS,s'.oj.abs=dropF s.oj.abs (whitesF (thereL s.oj.ps) (shadeL s.cols regs)) ∧ s'.cols=beginC s.cols.length regs ∧ s'.gone=s.gone ++ whitesF (thereL s.oj.ps) (shadeL s.cols regs) ∧ Sep (coI Be bv s).fp w w' [coI Be bv s']):=by
  obtain ⟨F,hF⟩:∃ F,(coI Be bv s).fp=F:=⟨_,rfl⟩
  obtain ⟨g,hg⟩:∃ g,w.heap.size=g:=⟨_,rfl⟩
  have HS0:=hide ((Sep.start hP).blkAt 65 (vals regs).toArray hg)
  rw [hF] at HS0 ⊢
  have HV:=hide hv
  have HL:=hide hl
  have HN:=hide hn
  have HGL:=hide hgl
  have HCB:=hide (fun (s2:CoS) (X:World) (hP2:(coI Be bv s2).P X) (hn2:s2.cols.length ≤ 1000) (hv2:∀ v ∈ regs,vin s2.cols.length v) => begin_any hP2 hn2 h8 hv2)
  obtain ⟨⟨b0,m0⟩,⟨b1,m1⟩,⟨b2,m2⟩,⟨b3,m3⟩,⟨b4,m4⟩,⟨b5,m5⟩,⟨b6,m6⟩,⟨b7,m7⟩,hr⟩:=len8 h8
  have hvr:(vals regs).toArray=#[.bool b0,.int .i64 m0,.bool b1,.int .i64 m1,.bool b2,.int .i64 m2,.bool b3,.int .i64 m3,.bool b4,.int .i64 m4,.bool b5,.int .i64 m5,.bool b6,.int .i64 m6,.bool b7,.int .i64 m7]:=by rw [hr]; rfl
  rw [hvr] at HS0 HCB ⊢
  have HSTEP:=hide (fun (k:Nat) (v:Val) (hk:regs[k]?=some v) (X:World) (h:Sep F w X [coI Be bv (s.col (shadeL s.cols (regs.take k))),blkI g 65 #[.bool b0,.int .i64 m0,.bool b1,.int .i64 m1,.bool b2,.int .i64 m2,.bool b3,.int .i64 m3,.bool b4,.int .i64 m4,.bool b5,.int .i64 m5,.bool b6,.int .i64 m6,.bool b7,.int .i64 m7]]) =>
    (shade_any (s:=s.col (shadeL s.cols (regs.take k))) (h.get 0 rfl) (by show (shadeL _ _).length ≤ _; rw [shadeL_len]; omega) v (by show vin (shadeL _ _).length v; rw [shadeL_len]; exact hv v (List.mem_of_getElem? hk))).mono fun e w' (h2:_ ∧ Sep _ X w' _) =>
      show (∃ u,e=.returned u) ∧ Sep F w w' [coI Be bv (s.col (shadeL s.cols (regs.take (k + 1)))),blkI g 65 #[.bool b0,.int .i64 m0,.bool b1,.int .i64 m1,.bool b2,.int .i64 m2,.bool b3,.int .i64 m3,.bool b4,.int .i64 m4,.bool b5,.int .i64 m5,.bool b6,.int .i64 m6,.bool b7,.int .i64 m7]] from ⟨h2.1,by
        have h3:=h.call 0 rfl h2.2
        rw [List.take_add_one,hk]
        show Sep F w w' [coI Be bv (s.col (shadeL s.cols (regs.take k ++ [v]))),_]
        rw [shadeL_snoc]
        exact h3⟩)
  have HIDX:=hide (fun (k:Nat) (v:Val) (hk:regs[k]?=some v) (X:World) => idx8 b0 b1 b2 b3 b4 b5 b6 b7 m0 m1 m2 m3 m4 m5 m6 m7 k v (hr ▸ hk) X)
  have HG0:=hide hg
  have H8:=hide h8
  have HLC:=hide (shadeL_len s.cols regs)
  obtain ⟨C,hC⟩:∃ c,shadeL s.cols regs=c:=⟨_,rfl⟩
  have HC:=hide hC
  obtain ⟨L,hL⟩:∃ l,thereL s.oj.ps=l:=⟨_,rfl⟩
  have HLL:=hide hL
  obtain ⟨x,hx⟩:∃ x,greyF L C=x:=⟨_,rfl⟩
  have HX:=hide hx
  rw [hC] at HLC ⊢
  rw [hL,hx]
  clear hP hv hF hl hn hgl hvr hr h8 hC hL hx
  go_enter Tryz.func24,Tryz.ntmps24
  go_wp2_with fail
  obtain ⟨arr,harr⟩:∃ a,(#[.bool b0,.int .i64 m0,.bool b1,.int .i64 m1,.bool b2,.int .i64 m2,.bool b3,.int .i64 m3,.bool b4,.int .i64 m4,.bool b5,.int .i64 m5,.bool b6,.int .i64 m6,.bool b7,.int .i64 m7]:Array Value)=a:=⟨_,rfl⟩
  have HARR:=hide harr
  rw [harr] at HIDX HS0 HSTEP HCB ⊢
  clear harr hg
  go_loopw [10] (fun i wr => ∃ k:Nat,k ≤ 8 ∧ i=.int .i64 k ∧ Sep F w wr [coI Be bv (s.col (shadeL s.cols (regs.take k))),blkI g 65 arr]) (fun i _ => 8 - (intOf i).toNat)
  case atStart => exact ⟨0,by omega,rfl,HS0.out⟩
  case round =>
    clear HS0
    obtain ⟨k,hk,rfl,hS⟩:=hrel
    by_cases hlt:k < 8
    · have hkr:k < regs.length:=by rw [H8.out]; exact hlt
      obtain ⟨v,hv⟩:∃ v,regs[k]?=some v:=⟨_,List.getElem?_eq_getElem hkr⟩
      have C:=hide (HSTEP.out k v hv)
      have I:=hide (HIDX.out k v hv)
      obtain ⟨vb,vm⟩:=v
      dsimp only at C I
      have HS:=hide hS
      clear hS hv hkr
      go_wp2_with fail
      rw [I.out]
      go_wp2_with fail
      refine (C.out _ (HS.out.alloc (.cells #[.bool vb,.int .i64 vm] 63))).mono ?_
      rintro e w2 ⟨⟨u,rfl⟩,hS2⟩
      have HS2:=hide hS2
      clear hS2 C HS
      go_wp2_with fail
      go_roundw
      case rel => exact ⟨k + 1,by omega,by go_num,HS2.out⟩
      case measure => simp [intOf]; omega
    · obtain rfl:k=8:=by omega
      have hall:regs.take 8=regs:=List.take_of_length_le (by rw [H8.out]; exact Nat.le_refl _)
      rw [hall,HC.out] at hS
      have CG:=grey_any (s:=s.col C) (hS.get 0 rfl) (by show C.length=_; rw [HLC.out]; exact HL.out) HN.out
      have hth:greyF (thereL (s.col C).oj.ps) (s.col C).cols=greyF (thereL s.oj.ps) C:=rfl
      rw [hth,HLL.out,HX.out] at CG
      have HS:=hide hS
      clear hth hS hall HSTEP HIDX
      by_cases hg:x=-1
      · subst hg
        have HCG:=hide CG
        clear CG
        go_wp2_with fail
        refine HCG.out.mono ?_
        rintro e w1 ⟨rfl,hb⟩
        have hS1:=HS.out.below hb
        obtain ⟨q0,_,q1⟩:=co_01 (hS1.get 0 rfl)
        replace q0:w1.cell? ⟨Be,0,none⟩=some (.slice s.oj.As s.oj.ps.length s.oj.c):=q0
        have CT:=oThere_any w1 s.oj.As s.oj.ps.length s.oj.c s.oj.ps HN.out (((Sep.start (hS1.get 0 rfl)).flat).rd_ 3 rfl)
        rw [HLL.out] at CT
        have HCT:=hide CT
        have HTN:=hide (fun x (h:x ∈ L) => thereL_nat (l:=s.oj.ps) (x:=x) (by rw [HLL.out]; exact h))
        have HS1:=hide hS1
        obtain ⟨N,hN⟩:∃ n,s.oj.ps.length=n:=⟨_,rfl⟩
        rw [hN] at q0 HCT HTN HN HL
        have HNN:=hide hN
        have hN1000:=HN.out
        clear hb hS1 CT HCG HS hN
        go_wp2_with fail
        refine HCT.out.mono ?_
        rintro e w2 ⟨A,c1,rfl,hP2⟩
        have hS2:=HS1.out.snocNew hP2.below_ _ (hP2.get 0 rfl) (fun g hg => (hP2.lo 0 rfl g hg).resolve_left (fun h => h))
        have hll:L.length ≤ 1000:=by
          have h1:=thereK_len s.oj.ps s.oj.ps.length
          have h2:L.length=(thereK s.oj.ps s.oj.ps.length).length:=by rw [← HLL.out]; rfl
          have h3:=HNN.out
          omega
        obtain ⟨m,hm⟩:∃ m,L.length=m:=⟨_,rfl⟩
        rw [hm] at hS2 hll ⊢
        have HM:=hide hm
        have HS2:=hide hS2
        clear hP2 hS2 HS1 HCT hm q0 q1
        go_wp2_with fail
        go_loopw [26] (fun i wr => ∃ (k:Nat) (s2:CoS),k ≤ m ∧ i=.int .i64 k ∧ Hid (s2.cols=C ∧ s2.oj.abs=dropF s.oj.abs (whitesF (L.take k) C) ∧ s2.gone=s.gone ++ whitesF (L.take k) C) ∧ Sep F w wr [coI Be bv s2,blkI g 65 arr,rowI 3 1 A m c1 (ints L)]) (fun i _ => m - (intOf i).toNat)
        case atStart => exact ⟨0,s.col C,by omega,rfl,⟨rfl,rfl,by simp [whitesF,CoS.col]⟩,HS2.out⟩
        case round =>
          clear HS2
          obtain ⟨k,s2,hk,rfl,HI,hS⟩:=hrel
          have hps:s2.oj.ps.length=N:=by have h1:=congrArg List.length HI.out.2.1; rw [dropF_len,oj_lenabs,oj_lenabs] at h1; rw [h1]; exact HNN.out
          have hcl:s2.cols.length=N:=by rw [HI.out.1,HLC.out]; exact HL.out
          by_cases hlt:k < m
          · have hkl:k < L.length:=by rw [HM.out]; exact hlt
            obtain ⟨ad,hA,_,had,hc⟩:=(hS.rd_ 2 rfl).at_ hlt
            have e0:=hc (.int .i64 L[k]) (by simp [ints,List.getElem?_eq_getElem hkl])
            have hT:=List.take_succ_eq_append_getElem hkl
            have hmem:L[k] ∈ L:=List.getElem_mem hkl
            obtain ⟨x,hx⟩:∃ x,L[k]=x:=⟨_,rfl⟩
            rw [hx] at e0 hT hmem
            obtain ⟨z,rfl,hz⟩:=HTN.out x hmem
            have hzN:z < N:=hz
            have hW:=whitesF_snoc (L.take k) C (z:Int)
            rw [← hT,Int.toNat_natCast] at hW
            obtain ⟨gc,hAc,d0,d1,_,d3,d4,_⟩:=co_cell (hS.get 0 rfl) (z:=z) (by omega)
            rw [hcl] at d0
            obtain ⟨y,hy⟩:∃ y,C.getD z 0=y:=⟨_,rfl⟩
            rw [HI.out.1,hy] at d1
            rw [hy] at hW
            have HW:=hide hW
            have t1:decide ((z:Int) < 0)=false:=by simp
            have t2:decide ((N:Int) ≤ (z:Int))=false:=by simp; omega
            have t3:(0:Int) ≤ (z:Int):=by omega
            have t4:(z:Int) < (N:Int):=by omega
            have HS:=hide hS
            obtain ⟨ccc,hccc⟩:∃ c,s2.cc=c:=⟨_,rfl⟩
            rw [hccc] at d0
            subst hA
            by_cases hy0:y=0
            · subst hy0
              rw [if_pos rfl] at hW
              have hS3:Sep F w wr [coI Be bv s2,allI [blkI g 65 arr,rowI 3 1 (some ad) m c1 (ints L)]]:=by
                have h1:=hS.perm (l:=[blkI g 65 arr,rowI 3 1 (some ad) m c1 (ints L)] ++ [coI Be bv s2]) (List.perm_append_comm (l₁:=[_]) (l₂:=[_,_]))
                exact (Sep.join (l:=[_,_]) h1).perm (List.Perm.swap _ _ _)
              have hS3f:=(Sep.start (hS.get 0 rfl)).flat
              obtain ⟨ga,hga⟩:=hown_addr (show wr.ownsRow 0 84 1 (.slice s2.oj.As s2.oj.ps.length s2.oj.c) s2.oj.ps.length _ from hS3f.get 3 rfl) (by omega)
              obtain ⟨p0,_,p1⟩:=co_01 (hS.get 0 rfl)
              rw [hga,hps] at p0
              have hgaI:(rowI 84 1 s2.oj.As s2.oj.ps.length s2.oj.c (s2.oj.ps.map ptrV)).fp ga:=by show (Value.slice s2.oj.As s2.oj.ps.length s2.oj.c).ownBlock=some ga; rw [hga]; rfl
              have p2:ga < wr.heap.size:=hS3f.hi 3 rfl ga hgaI
              have p3:wr.frozen? ⟨ga,z,none⟩=false:=by
                have ho:wr.ownsRow 0 84 1 (.slice s2.oj.As s2.oj.ps.length s2.oj.c) s2.oj.ps.length _:=hS3f.get 3 rfl
                rw [hga] at ho
                exact ho.frozenAt _
              have p4:wr.cell? ⟨ga,z,none⟩=some (ptrV (s2.oj.ps[z]'(by omega))):=by
                have ho:wr.ownsRow 0 84 1 (.slice s2.oj.As s2.oj.ps.length s2.oj.c) s2.oj.ps.length _:=hS3f.get 3 rfl
                obtain ⟨ad2,hA2,_,_,hc2⟩:=(Rd.of_own (D:=fun _ => True) ho (fun _ _ => trivial)).at_ (k:=z) (by omega)
                have h5:=hc2 (ptrV (s2.oj.ps[z]'(by omega))) (by simp [List.getElem?_eq_getElem (show z < s2.oj.ps.length by omega)])
                obtain rfl:(⟨ga,0,none⟩:Addr)=ad2:=by rw [hga] at hA2; injection hA2
                rw [hraddr0] at h5
                exact h5
              obtain ⟨pv,hpv⟩:∃ v,ptrV (s2.oj.ps[z]'(by omega))=v:=⟨_,rfl⟩
              rw [hpv] at p4
              have hS4:=co_drop hS3 (i:=z) (by omega) hga
              have hS5:Sep F w (wr.setCell ⟨ga,z,none⟩ (.pointer none)) (coR Be bv (s2.drop z) ++ [allI [blkI g 65 arr,rowI 3 1 (some ad) m c1 (ints L)]]):=Sep.split (l:=coR Be bv (s2.drop z)) hS4
              have n1:ga ≠ Be:=fun e => hS3f.other (a:=3) (b:=0) rfl rfl (by omega) ga hgaI e
              have n2:Be ≠ ga:=fun e => n1 e.symm
              obtain ⟨r1,r2,r3,_⟩:=hS5.rules 0 (g:=Be) (t:=95) rfl
              have r5:=(r1 3).trans (show _=some (.slice s2.Ag s2.gone.length s2.cg) from rfl)
              obtain ⟨oc,hoc⟩:∃ c,s2.oj.c=c:=⟨_,rfl⟩
              rw [hoc] at p0
              obtain ⟨gl2,hgl2⟩:∃ c,s2.gone.length=c:=⟨_,rfl⟩
              have hgl3:gl2 ≤ 200000:=by
                rw [← hgl2,HI.out.2.2,List.length_append]
                have h1:=List.length_filter_le (fun x => decide (C.getD x.toNat 0=0)) (L.take k)
                have h2:(L.take k).length ≤ L.length:=by rw [List.length_take]; omega
                have h3:=HGL.out
                unfold whitesF
                have h4:=HM.out
                omega
              rw [hgl2] at r5
              have hS6:Sep F w (wr.setCell ⟨ga,z,none⟩ (.pointer none)) (blkI Be 95 (coC bv (s2.drop z)) :: rowI 3 1 s2.Ac s2.cols.length s2.cc (ints s2.cols) :: rowI 3 1 s2.Ag gl2 s2.cg (ints s2.gone) :: (ojL (s2.drop z).oj ++ [allI [blkI g 65 arr,rowI 3 1 (some ad) m c1 (ints L)]])):=by rw [← hgl2]; exact hS5
              obtain ⟨u1,_,_,_⟩:=hS3f.rules 0 (g:=Be) (t:=95) rfl
              have u5:=(u1 3).trans (show _=some (.slice s2.Ag s2.gone.length s2.cg) from rfl)
              rw [hgl2] at u5
              have HS6:=hide hS6
              have HG2:=hide hgl2
              clear hc hT hmem hx hy hccc hS hS3 hS3f hgaI hS4 hS5 hS6 r1 r2 r3 r5 u1 hpv hoc hgl2 hW hga hps hcl hAc HS
              go_wp2_with (first
                | (at_builtin
                   refine wpList_app1 (cs:=#[.int .i64 z]) rfl (.tmp 48) (.tmp 50) 33 rfl (F:=F) (W:=w) sInt (items:=_ :: _ :: _ :: _) HS6.out 2 (n:=gl2) rfl rfl rfl (by simp) rfl rfl (by omega) ?_
                   intro A7 c7 w7 hS7 hC7
                   obtain ⟨k1,k2,k3,_⟩:=hS7.rules 0 (g:=Be) (t:=95) rfl))
              have hS8:=hS7.set_ 0 (g:=Be) (t:=95) rfl 3 (.slice A7 (gl2 + 1) c7)
              have HFIN:=hide (show Sep F w (w7.setCell ⟨Be,3,none⟩ (.slice A7 (gl2 + 1) c7)) [coI Be bv ⟨(s2.drop z).oj,s2.Ac,s2.cc,s2.cols,A7,c7,s2.gone ++ [(z:Int)]⟩,blkI g 65 arr,rowI 3 1 (some ad) m c1 (ints L)] from by
                have h9:Sep F w (w7.setCell ⟨Be,3,none⟩ (.slice A7 (gl2 + 1) c7)) (coR Be bv ⟨(s2.drop z).oj,s2.Ac,s2.cc,s2.cols,A7,c7,s2.gone ++ [(z:Int)]⟩ ++ [allI [blkI g 65 arr,rowI 3 1 (some ad) m c1 (ints L)]]):=by
                  unfold coR coC
                  dsimp only
                  rw [List.length_append,List.length_singleton,HG2.out,show ints (s2.gone ++ [(z:Int)])=ints s2.gone ++ [.int .i64 z] from by simp [ints]]
                  exact hS8
                have h10:=(Sep.join (l:=coR Be bv ⟨(s2.drop z).oj,s2.Ac,s2.cc,s2.cols,A7,c7,s2.gone ++ [(z:Int)]⟩) h9).perm (List.Perm.swap _ _ _)
                exact (Sep.split (l:=[_,_]) h10).perm (List.perm_append_comm (l₁:=[_,_]) (l₂:=[_])))
              clear hS7 hC7 hS8 k1
              go_roundw
              case rel =>
                have hw:whitesF (L.take (k + 1)) C=whitesF (L.take k) C ++ [(z:Int)]:=by
                  have h:=HW.out
                  simpa using h
                exact ⟨k + 1,⟨(s2.drop z).oj,s2.Ac,s2.cc,s2.cols,A7,c7,s2.gone ++ [(z:Int)]⟩,by omega,by go_num,⟨HI.out.1,by rw [hw,dropF_snoc,← HI.out.2.1,Int.toNat_natCast]; exact co_drop_abs s2 z,by rw [hw,← List.append_assoc,← HI.out.2.2]⟩,HFIN.out⟩
              case measure => simp [intOf]; omega
            · have y1:(y == 0)=false:=by simp [hy0]
              rw [if_neg hy0,List.append_nil] at hW
              have HW2:=hide hW
              clear hc hT hmem hx hy hccc hS hW hps hcl hy0 hAc HW
              go_wp2_with fail
              go_roundw
              case rel => exact ⟨k + 1,s2,by omega,by go_num,by rw [HW2.out]; exact HI.out,HS.out⟩
              case measure => simp [intOf]; omega
          · obtain rfl:k=m:=by omega
            have hI:=HI.out
            rw [List.take_of_length_le (by rw [HM.out]; exact Nat.le_refl _)] at hI
            have HI2:=hide hI
            have CB:=HCB.out s2 wr (hS.get 0 rfl) (by omega) (fun v hv => by rw [hcl]; have h1:=HV.out v hv; rw [HL.out] at h1; exact h1)
            have HB:=hide CB
            have HS:=hide hS
            obtain ⟨r1,r2,r3,_⟩:=hS.rules 1 (g:=g) (t:=65) rfl
            rw [← HARR.out] at r1 HB
            have f0:=(r1 0).trans (show _=some (.bool b0) from rfl)
            have f1:=(r1 1).trans (show _=some (.int .i64 m0) from rfl)
            have f2:=(r1 2).trans (show _=some (.bool b1) from rfl)
            have f3:=(r1 3).trans (show _=some (.int .i64 m1) from rfl)
            have f4:=(r1 4).trans (show _=some (.bool b2) from rfl)
            have f5:=(r1 5).trans (show _=some (.int .i64 m2) from rfl)
            have f6:=(r1 6).trans (show _=some (.bool b3) from rfl)
            have f7:=(r1 7).trans (show _=some (.int .i64 m3) from rfl)
            have f8:=(r1 8).trans (show _=some (.bool b4) from rfl)
            have f9:=(r1 9).trans (show _=some (.int .i64 m4) from rfl)
            have f10:=(r1 10).trans (show _=some (.bool b5) from rfl)
            have f11:=(r1 11).trans (show _=some (.int .i64 m5) from rfl)
            have f12:=(r1 12).trans (show _=some (.bool b6) from rfl)
            have f13:=(r1 13).trans (show _=some (.int .i64 m6) from rfl)
            have f14:=(r1 14).trans (show _=some (.bool b7) from rfl)
            have f15:=(r1 15).trans (show _=some (.int .i64 m7) from rfl)
            clear hI CB hS r1 HI HCB
            go_wp2_with fail
            refine HB.out.mono ?_
            rintro e w3 ⟨⟨u,rfl⟩,hP3⟩
            have HS3:=hide (HS.out.call 0 rfl hP3)
            clear hP3 HS HB f0 f1 f2 f3 f4 f5 f6 f7 f8 f9 f10 f11 f12 f13 f14 f15
            go_wp2_with fail
            go_ret
            refine ⟨rfl,s2.col (beginC s2.cols.length regs),HI2.out.2.1,?_,HI2.out.2.2,HS3.out.sub (List.sublist_append_left [_] [_,_])⟩
            show beginC s2.cols.length regs=_
            rw [HI2.out.1,HLC.out]
      · have hi:∃ i:Nat,x=(i:Int):=by
          have h1:=HX.out
          rw [← HLL.out] at h1
          obtain ⟨i,_,e,_⟩:=greyF_at (l:=s.oj.ps) (cols:=C) (by rw [h1]; exact hg)
          exact ⟨i,h1.symm.trans e⟩
        obtain ⟨i,rfl⟩:=hi
        have t5:decide ((0:Int) ≤ (i:Int))=true:=by simp
        have HGG:=hide hg
        have HCG:=hide CG
        clear CG hg
        go_wp2_with fail
        refine HCG.out.mono ?_
        rintro e w1 ⟨rfl,hb⟩
        have HS1:=hide (HS.out.below hb)
        clear hb HCG HS
        go_wp2_with fail
        go_ret
        exact .inl ⟨HGG.out,rfl,HS1.out.sub (List.sublist_append_left [_] [_])⟩
end Go.Proofs.YtjphckfbbiehdaaGreat

namespace Go.Proofs.YtjphckfbbiehdaaGreat
open Go.RowKit
def CoS.a (s:CoS) (regs:List Val):CoA:=⟨regs,s.oj.abs,s.cols,s.gone⟩
theorem co_work_no {s:CoS} (regs:List Val) (h:greyF (thereL s.oj.ps) s.cols=-1):coWork (s.a regs)=(⟨7,false,0⟩,s.a regs):=by
  unfold coWork
  rw [show thereL (s.a regs).objs=thereL s.oj.ps from thereL_abs s.oj,show (s.a regs).cols=s.cols from rfl,if_pos h]
theorem co_work_yes {s:CoS} (regs:List Val) {i:Nat} {p:Po} (h:greyF (thereL s.oj.ps) s.cols=(i:Int)) (hp:s.oj.ps[i]?=some (some p)):coWork (s.a regs)=(⟨0,false,0⟩,(s.col ((shadeL s.cols p.o.fields).set i 2)).a regs):=by
  unfold coWork
  have hf:(s.a regs).fld i=some p.o.fields:=by
    unfold CoA.fld CoS.a Oj.abs
    dsimp only
    rw [List.getElem?_map,hp]; rfl
  rw [show thereL (s.a regs).objs=thereL s.oj.ps from thereL_abs s.oj,show (s.a regs).cols=s.cols from rfl,h,if_neg (by omega),Int.toNat_natCast,hf]
  rfl
theorem co_sweep_no {s:CoS} (regs:List Val) (h:greyF (thereL s.oj.ps) (shadeL s.cols regs) ≠ -1):coSweep (s.a regs)=(⟨8,false,0⟩,(s.col (shadeL s.cols regs)).a regs):=by
  unfold coSweep
  rw [show thereL (s.a regs).objs=thereL s.oj.ps from thereL_abs s.oj,show (s.a regs).cols=s.cols from rfl,show (s.a regs).regs=regs from rfl,if_pos h]
  rfl
theorem co_sweep_yes {s s':CoS} (regs:List Val) (h:greyF (thereL s.oj.ps) (shadeL s.cols regs)=-1) (h1:s'.oj.abs=dropF s.oj.abs (whitesF (thereL s.oj.ps) (shadeL s.cols regs))) (h2:s'.cols=beginC s.cols.length regs) (h3:s'.gone=s.gone ++ whitesF (thereL s.oj.ps) (shadeL s.cols regs)):coSweep (s.a regs)=(⟨0,false,0⟩,s'.a regs):=by
  unfold coSweep
  rw [show thereL (s.a regs).objs=thereL s.oj.ps from thereL_abs s.oj,show (s.a regs).cols=s.cols from rfl,show (s.a regs).regs=regs from rfl,if_neg (by rw [h]; simp)]
  unfold CoS.a
  dsimp only
  rw [h1,h2,h3]
theorem co_at {q:Nat} (hq:q=1 ∨ q=2 ∨ q=3) {σ:MSt} (hM:MOk σ) (ds:List DoV) (hn:σ.objs.length ≤ 24) (hd:ds.length ≤ 100) (k:Nat) (hk:k ≤ ds.length) :
    CoOk (coRun q (ds.take k) (co0 σ)).2 ∧ (coRun q (ds.take k) (co0 σ)).2.objs.length ≤ 24 + k ∧ (coRun q (ds.take k) (co0 σ)).1.length=k:=by
  have h1:=rtRun_ok hq (ds.take k) (rt0_ok q hM (by omega)) (by rw [List.length_take]; show σ.objs.length + _ ≤ _; omega)
  rw [rt0_a] at h1
  obtain ⟨o1,o2,o3,o4⟩:=h1
  rw [o4]
  have hlt:(ds.take k).length=k:=by rw [List.length_take]; omega
  refine ⟨o1.ok,?_,by show (rtRun q (ds.take k) (rt0 σ)).1.length=k; rw [o3,hlt]⟩
  show (rtRun q (ds.take k) (rt0 σ)).2.a.objs.length ≤ _
  rw [o1.n]
  have h3:(rt0 σ).σ.objs.length=σ.objs.length:=rfl
  omega
theorem coRun_at (q:Nat) (ds:List DoV) (a:CoA) (k:Nat) (hk:k < ds.length):coRun q (ds.take (k + 1)) a=((coRun q (ds.take k) a).1 ++ [(coStep q ds[k] (coRun q (ds.take k) a).2).1],(coStep q ds[k] (coRun q (ds.take k) a).2).2):=by
  rw [List.take_succ_eq_append_getElem hk,coRun_snoc]
theorem cok_wholeL {b:BarK} {Bm Be:Nat} {t:CoT} {F:Nat → Prop} {W w:World} {L:List Item} (h:Sep F W w (coI Be b.bv t.s :: blkI Bm 70 (mcCells t.regs (.iface 92 (.pointer (some ⟨Be,0,none⟩)))) :: L)):Sep F W w ((coK b Bm Be).item t :: L):=by
  have h1:Sep F W w (coR Be b.bv t.s ++ (blkI Bm 70 (mcCells t.regs (.iface 92 (.pointer (some ⟨Be,0,none⟩)))) :: L)):=Sep.split h
  have h2:Sep F W w ((coK b Bm Be).items t ++ L):=h1.perm (by
    show List.Perm _ ((blkI Bm 70 (mcCells t.regs (.iface 92 (.pointer (some ⟨Be,0,none⟩)))) :: coR Be b.bv t.s) ++ L)
    have e:coR Be b.bv t.s ++ (blkI Bm 70 (mcCells t.regs (.iface 92 (.pointer (some ⟨Be,0,none⟩)))) :: L)=(coR Be b.bv t.s ++ [blkI Bm 70 (mcCells t.regs (.iface 92 (.pointer (some ⟨Be,0,none⟩))))]) ++ L:=by simp
    rw [e]
    exact List.Perm.append_right L (List.perm_append_comm (l₂:=[_])))
  exact Sep.join (l:=(coK b Bm Be).items t) h2
theorem cok_partL {b:BarK} {Bm Be:Nat} {t:CoT} {F:Nat → Prop} {W w:World} {L:List Item} (h:Sep F W w ((coK b Bm Be).item t :: L)):Sep F W w (coI Be b.bv t.s :: blkI Bm 70 (mcCells t.regs (.iface 92 (.pointer (some ⟨Be,0,none⟩)))) :: L):=by
  have h1:Sep F W w ((coK b Bm Be).items t ++ L):=Sep.split h
  have h2:=h1.perm (l:=coR Be b.bv t.s ++ (blkI Bm 70 (mcCells t.regs (.iface 92 (.pointer (some ⟨Be,0,none⟩)))) :: L)) (by
    show List.Perm ((blkI Bm 70 (mcCells t.regs (.iface 92 (.pointer (some ⟨Be,0,none⟩)))) :: coR Be b.bv t.s) ++ L) _
    have e:coR Be b.bv t.s ++ (blkI Bm 70 (mcCells t.regs (.iface 92 (.pointer (some ⟨Be,0,none⟩)))) :: L)=(coR Be b.bv t.s ++ [blkI Bm 70 (mcCells t.regs (.iface 92 (.pointer (some ⟨Be,0,none⟩))))]) ++ L:=by simp
    rw [e]
    exact List.Perm.append_right L (List.perm_append_comm (l₁:=[_])))
  exact Sep.join (l:=coR Be b.bv t.s) h2
def co1 (As:Option Addr) (c:Nat) (ps:List Po) (Ac:Option Addr) (cc:Nat):CoS:=⟨⟨As,c,ps.map some⟩,Ac,cc,List.replicate ps.length 0,none,0,[]⟩
theorem co1_abs (As:Option Addr) (c:Nat) (ps:List Po) (Ac:Option Addr) (cc:Nat):(co1 As c ps Ac cc).oj.abs=(ps.map fun p => p.o.fields).map some:=by
  unfold co1 Oj.abs
  dsimp only
  rw [List.map_map,List.map_map]
  rfl
theorem co_mk {F:Nat → Prop} {W w:World} {bv:Value} {Be nO c cc:Nat} {As Ac:Option Addr} {ps:List Po} {L:List Item} (hps:ps.length=nO)
    (h:Sep F W w (blkI Be 95 #[.slice As nO c,bv,.slice Ac nO cc,.slice none 0 0] :: rowI 3 1 Ac nO cc (ints (List.replicate nO 0)) :: allI (rowI 84 1 As nO c (ps.map poPtr) :: ps.map poI) :: L)):Sep F W w (coI Be bv (co1 As c ps Ac cc) :: L):=by
  have h1:=(h.nilRow0 3 1).perm (l:=allI (rowI 84 1 As nO c (ps.map poPtr) :: ps.map poI) :: blkI Be 95 #[.slice As nO c,bv,.slice Ac nO cc,.slice none 0 0] :: rowI 3 1 Ac nO cc (ints (List.replicate nO 0)) :: rowI 3 1 none 0 0 [] :: L) (by
    refine (List.perm_append_comm (l₁:=[_,_,_]) (l₂:=[allI (rowI 84 1 As nO c (ps.map poPtr) :: ps.map poI)])).append_right L |>.trans ?_
    refine List.Perm.cons _ ?_
    exact ((List.perm_append_comm (l₁:=[rowI 3 1 none 0 0 []]) (l₂:=[blkI Be 95 #[.slice As nO c,bv,.slice Ac nO cc,.slice none 0 0],rowI 3 1 Ac nO cc (ints (List.replicate nO 0))])).append_right L))
  have h2:Sep F W w (rowI 84 1 As nO c (ps.map poPtr) :: (ps.map poI ++ (blkI Be 95 #[.slice As nO c,bv,.slice Ac nO cc,.slice none 0 0] :: rowI 3 1 Ac nO cc (ints (List.replicate nO 0)) :: rowI 3 1 none 0 0 [] :: L))):=Sep.split (l:=rowI 84 1 As nO c (ps.map poPtr) :: ps.map poI) h1
  have h3:=h2.perm (l:=coR Be bv (co1 As c ps Ac cc) ++ L) (by
    have e:coR Be bv (co1 As c ps Ac cc)=[blkI Be 95 #[.slice As nO c,bv,.slice Ac nO cc,.slice none 0 0],rowI 3 1 Ac nO cc (ints (List.replicate nO 0)),rowI 3 1 none 0 0 []] ++ (rowI 84 1 As nO c (ps.map poPtr) :: ps.map poI):=by
      unfold coR coC co1 ojL Oj.v
      dsimp only
      rw [List.length_map,List.length_replicate,hps,List.map_map,List.map_map]
      rfl
    rw [e]
    refine List.Perm.trans (l₂:=(rowI 84 1 As nO c (ps.map poPtr) :: ps.map poI) ++ [blkI Be 95 #[.slice As nO c,bv,.slice Ac nO cc,.slice none 0 0],rowI 3 1 Ac nO cc (ints (List.replicate nO 0)),rowI 3 1 none 0 0 []] ++ L) (by simp) ?_
    exact List.Perm.append_right L List.perm_append_comm)
  exact Sep.join (l:=coR Be bv (co1 As c ps Ac cc)) h3
end Go.Proofs.YtjphckfbbiehdaaGreat

namespace Go.Proofs.YtjphckfbbiehdaaGreat
open Go.RowKit
theorem coa_len (s:CoS) (regs:List Val):(s.a regs).objs.length=s.oj.ps.length:=oj_lenabs s.oj
theorem cowork_any {Be:Nat} {bv:Value} {s:CoS} {regs:List Val} {w:World} (hP:(coI Be bv s).P w) (ok:CoOk (s.a regs)) :
    Calls Tryz.prog 23 #[.pointer (some ⟨Be,0,none⟩)] w fun e w' => ∃ (x:Int) (s':CoS),e=.returned (.int .i64 x) ∧ coWork (s.a regs)=(⟨x,false,0⟩,s'.a regs) ∧ Sep (coI Be bv s).fp w w' [coI Be bv s']:=by
  have hl:s.cols.length=s.oj.ps.length:=ok.cl.trans (coa_len s regs)
  have hn:=ok.n
  rw [coa_len] at hn
  refine (work_any hP hl (by omega) (fun i p hp => ?_)).mono ?_
  · have hf:(s.a regs).fld i=some p.o.fields:=by
      unfold CoA.fld CoS.a Oj.abs
      dsimp only
      rw [List.getElem?_map,hp]; rfl
    exact ⟨ok.f4 i _ hf,fun v hv => vok_vin ok (ok.vf i _ v hf hv)⟩
  · rintro e w' (⟨h1,rfl,hb⟩ | ⟨i,p,h1,hp,rfl,hS⟩)
    · exact ⟨7,s,rfl,co_work_no regs h1,(Sep.start hP).below hb⟩
    · exact ⟨0,_,rfl,co_work_yes regs h1 hp,hS⟩
theorem cosweep_any {Be:Nat} {bv:Value} {s:CoS} {regs:List Val} {w:World} (hP:(coI Be bv s).P w) (ok:CoOk (s.a regs)) (hg:s.gone.length ≤ 100000) :
    Calls Tryz.prog 24 #[.pointer (some ⟨Be,0,none⟩),.agg (vals regs).toArray] w fun e w' => ∃ (x:Int) (s':CoS),e=.returned (.int .i64 x) ∧ coSweep (s.a regs)=(⟨x,false,0⟩,s'.a regs) ∧ Sep (coI Be bv s).fp w w' [coI Be bv s']:=by
  have hl:s.cols.length=s.oj.ps.length:=ok.cl.trans (coa_len s regs)
  have hn:=ok.n
  rw [coa_len] at hn
  refine (sweep_any hP hl (by omega) hg ok.r8 (fun v hv => vok_vin ok (ok.vr v hv))).mono ?_
  rintro e w' (⟨h1,rfl,hS⟩ | ⟨h1,rfl,s',h2,h3,h4,hS⟩)
  · exact ⟨8,_,rfl,co_sweep_no regs h1,hS⟩
  · exact ⟨0,s',rfl,co_sweep_yes regs h1 h2 h3 h4,hS⟩
theorem codo_any (q:Nat) {Bm Be:Nat} {s:CoS} {regs:List Val} {F:Nat → Prop} {W w:World} {L:List Item} (h:Sep F W w (coI Be (barOf q).bv s :: blkI Bm 70 (mcCells regs (.iface 92 (.pointer (some ⟨Be,0,none⟩)))) :: L)) (ok:CoOk (s.a regs)) (hn:(s.a regs).objs.length < 500) (d:DoV) :
    Calls Tryz.prog 15 #[.pointer (some ⟨Bm,0,none⟩),.agg d.cells] w fun e w' => ∃ (oc:Int) (orf:Bool) (on:Int) (s':CoS) (regs':List Val),e=.returned (.agg #[.int .i64 oc,.bool orf,.int .i64 on]) ∧ coDo (barOf q) d (s.a regs)=(⟨oc,orf,on⟩,s'.a regs') ∧ Sep F W w' (coI Be (barOf q).bv s' :: blkI Bm 70 (mcCells regs' (.iface 92 (.pointer (some ⟨Be,0,none⟩)))) :: L):=by
  have h1:=cok_wholeL (t:=⟨regs,s⟩) h
  refine (kdo_any (coK (barOf q) Bm Be) (coK_ok (barOf q) (barOf_ok q) Bm Be) (s:=(⟨regs,s⟩:CoT)) (h1.get 0 rfl) ⟨ok,hn⟩ d).mono ?_
  rintro e w' ⟨rfl,t',hab,hS⟩
  have h2:=cok_partL (h1.call 0 rfl hS)
  have hab2:t'.s.a t'.regs=(coDo (barOf q) d (s.a regs)).2:=hab
  refine ⟨(coDo (barOf q) d (s.a regs)).1.code,(coDo (barOf q) d (s.a regs)).1.rf,(coDo (barOf q) d (s.a regs)).1.n,t'.s,t'.regs,rfl,?_,h2⟩
  exact Prod.ext rfl hab2.symm
theorem whitesF_len (a:CoA) (c:List Int):(whitesF (thereL a.objs) c).length ≤ a.objs.length:=by
  have h1:=List.length_filter_le (fun x => decide (c.getD x.toNat 0=0)) (thereL a.objs)
  have h2:=thereK_len a.objs a.objs.length
  have h3:(thereL a.objs).length=(thereK a.objs a.objs.length).length:=rfl
  unfold whitesF
  omega
theorem coStep_gone (q:Nat) (d:DoV) (a:CoA):(coStep q d a).2.gone.length ≤ a.gone.length + a.objs.length:=by
  unfold coStep
  split
  · unfold coWork; split <;> exact Nat.le_add_right _ _
  split
  · unfold coSweep
    split
    · exact Nat.le_add_right _ _
    · dsimp only
      rw [List.length_append]
      have:=whitesF_len a (shadeL a.cols a.regs)
      omega
  unfold coDo
  split
  · exact Nat.le_add_right _ _
  have hn:(coNew a d.n.toNat).1.gone=a.gone:=by unfold coNew; split <;> rfl
  have e:(coKst (barOf q) d a).2.gone=a.gone:=by
    unfold coKst
    split
    · split
      · exact hn
      · exact hn
    split
    · rfl
    split
    · rfl
    split
    · split <;> rfl
    split
    · split <;> rfl
    split <;> rfl
  rw [e]
  exact Nat.le_add_right _ _
theorem co_goneN {q:Nat} (hq:q=1 ∨ q=2 ∨ q=3) {σ:MSt} (hM:MOk σ) (ds:List DoV) (hn:σ.objs.length ≤ 24) (hd:ds.length ≤ 100) (k:Nat) (hk:k ≤ ds.length):(coRun q (ds.take k) (co0 σ)).2.gone.length ≤ k * 200:=by
  induction k with
  | zero => simp [coRun,co0]
  | succ k ih =>
    have h1:=ih (by omega)
    rw [coRun_at q ds (co0 σ) k (by omega)]
    have h2:=coStep_gone q ds[k] (coRun q (ds.take k) (co0 σ)).2
    have h3:=(co_at hq hM ds hn hd k (by omega)).2.1
    dsimp only
    omega
theorem outsV_one (o:OutV):outsV [o]=[.int .i64 o.code,.bool o.rf,.int .i64 o.n]:=rfl
end Go.Proofs.YtjphckfbbiehdaaGreat

namespace Go.Proofs.YtjphckfbbiehdaaGreat
open Go.RowKit
theorem Sep.blkAtF {F:Nat → Prop} {W w:World} {items:List Item} (h:Sep F W w items) (t:TypeId) (cs:Array Value) {g:Nat} (hg:w.heap.size=g):Sep F W (w.alloc (.cells cs t)) (blkI g t cs :: items):=(h.blkAt t cs hg).perm (List.perm_append_comm (l₂:=[_]))
theorem sCount:SliceT Tryz.prog 32 88 2 16:=SliceT.mk_ Tryz.underlying32 (z:=.agg #[.int .i64 0,.int .i64 0]) (by kernel_rfl) rfl (by omega)
theorem co_cell_at {Be:Nat} {bv:Value} {s:CoS} {X:World} (hP:(coI Be bv s).P X) {z gc:Nat} (hz:z < s.cols.length) (hA:s.Ac=some ⟨gc,0,none⟩) :
    X.cell? ⟨Be,2,none⟩=some (.slice (some ⟨gc,0,none⟩) s.cols.length s.cc) ∧ X.cell? ⟨gc,z,none⟩=some (.int .i64 (s.cols.getD z 0)) ∧ gc < X.heap.size ∧ Be < X.heap.size:=by
  obtain ⟨gc',hA',c0,c1,c2,c3,c4,n1⟩:=co_cell hP hz
  obtain rfl:gc'=gc:=by rw [hA] at hA'; injection hA' with h; injection h with h; exact h.symm
  exact ⟨c0,c1,c3,c4⟩
theorem objs_new {W w w':World} {items:List Item} {As:Option Addr} {nO c2:Nat} {ps:List Po} (h:Sep No W w items) (hP:Sep No w w' (rowI 84 1 As nO c2 (ps.map poPtr) :: ps.map poI)):Sep No W w' (allI (rowI 84 1 As nO c2 (ps.map poPtr) :: ps.map poI) :: items) :=
  h.consNew hP.below_ _ (hP.fold.get 0 rfl) (fun g hg => (hP.fold.lo 0 rfl g hg).resolve_left (fun h => h))
theorem row_new {W w w':World} {items:List Item} {i:Item} (h:Sep No W w items) (hP:Sep No w w' [i]):Sep No W w' (i :: items) :=
  h.consNew hP.below_ _ (hP.get 0 rfl) (fun g hg => (hP.lo 0 rfl g hg).resolve_left (fun h => h))
end Go.Proofs.YtjphckfbbiehdaaGreat
