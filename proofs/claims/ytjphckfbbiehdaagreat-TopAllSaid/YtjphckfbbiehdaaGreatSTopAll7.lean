/- Part of a proof. -/
import Derived.RangeFuncNested
import Derived.RangeFuncBox
import Derived.RangeFuncBound
import Derived.RangeFuncCalls
import Derived.RangeFuncLeaves
import Derived.Shelf.Abstract
import Derived.Shelf.RegionOpen
import Derived.OwnWalkIn
import Derived.TacticsInMore
import Derived.LoopNIn
import Derived.LoopIn
import Derived.Test.YtjphckfbbiehdaaGreatSTopAll1
import Derived.Deep.RegionLaw
import Derived.Test.YtjphckfbbiehdaaGreatSTopAll6
set_option linter.unusedSimpArgs false
set_option linter.unusedVariables false
namespace Go.Proofs.YtjphckfbbiehdaaGreat
open Go.RowKit Go.Shelf
attribute [local go_sem] Oper.semAt_some
def tgts (vs:List Val):List Int:=vs.filterMap fun v => if v.1=true then some v.2 else none
theorem tgts_snoc (vs:List Val) (v:Val):tgts (vs ++ [v])=tgts vs ++ if v.1=true then [v.2] else []:=by
  unfold tgts
  rw [List.filterMap_append]
  congr 1
  split <;> simp_all
theorem tgts_pre {a b:List Val} (h:a <+: b):tgts a <+: tgts b:=by
  obtain ⟨r,rfl⟩:=h
  exact ⟨tgts r,by simp [tgts]⟩
theorem tgts_mem {vs:List Val} {x:Int}:x ∈ tgts vs ↔ (true,x) ∈ vs:=by
  unfold tgts
  rw [List.mem_filterMap]
  constructor
  · rintro ⟨⟨b,y⟩,hv,h⟩
    split at h
    · rename_i hb
      dsimp only at hb h
      injection h with h
      subst h; subst hb; exact hv
    · cases h
  · intro h
    exact ⟨(true,x),h,by simp⟩
def KpD (D:Nat → Prop) (W W':World):Prop:=W.heap.size ≤ W'.heap.size ∧ ∀ k,k < W.heap.size → D k → W'.heap[k]?=W.heap[k]?
theorem KpD.refl (D:Nat → Prop) (W:World):KpD D W W:=⟨Nat.le_refl _,fun _ _ _ => rfl⟩
theorem KpD.trans {D:Nat → Prop} {A B C:World} (h:KpD D A B) (k:KpD D B C):KpD D A C:=⟨Nat.le_trans h.1 k.1,fun i hi hd => (k.2 i (Nat.lt_of_lt_of_le hi h.1) hd).trans (h.2 i hi hd)⟩
theorem KpD.alloc {D:Nat → Prop} (A:World) (o:Obj):KpD D A (A.alloc o):=⟨by simp,fun k hk _ => Below.heap_alloc A o k hk⟩
theorem KpD.of_chg {D S:Nat → Prop} {A B:World} (h:Chg S A B) (hd:∀ k,S k → ¬ D k):KpD D A B:=⟨h.size,fun k hk hk2 => h.block k hk (fun hs => hd k hs hk2)⟩
theorem KpD.rd {D:Nat → Prop} {A B:World} (h:KpD D A B) {size n:Nat} {ad:Option Addr} {xs:List Value} (hr:Rd A D size ad n xs):Rd B D size ad n xs:=hr.keep h.1 h.2
def Tame (B:Nat) (i:Item):Prop:=∀ w,i.P w → ∀ k,i.fp k → k < B ∨ ∃ o:Obj,w.heap[k]?=some o ∧ o.isCells=true
theorem Tame.row (B e size:Nat) (A:Option Addr) (n c:Nat) (xs:List Value):Tame B (rowI e size A n c xs):=by
  intro w h k hk
  have h1:(Value.slice A n c).ownBlock=some k:=hk
  rcases h.2 with ⟨hv,_⟩ | ⟨g,cap,cur,hv,_,hh,_⟩
  · rw [hv] at h1; cases h1
  · rw [hv] at h1
    have:g=k:=by simpa [Value.ownBlock] using h1
    subst this
    exact .inr ⟨_,hh,rfl⟩
theorem Tame.blk (B g t:Nat) (cs:Array Value):Tame B (blkI g t cs):=by
  intro w h k hk
  have:k=g:=hk
  subst this
  exact .inr ⟨_,h,rfl⟩
theorem Tame.all {B:Nat} {l:List Item} (h:∀ i ∈ l,Tame B i):Tame B (allI l):=by
  intro w hw k hk
  obtain ⟨i,hi,hik⟩:=hk
  exact h i hi w (hw.1 i hi) k hik
theorem Tame.far {B k:Nat} {i:Item} {w:World} {o:Obj} (h:Tame B i) (hw:i.P w) (hk:B ≤ k) (ho:w.heap[k]?=some o) (hc:o.isCells=false):¬ i.fp k:=fun hf => by
  rcases h w hw k hf with h1 | ⟨o',h1,h2⟩
  · omega
  · rw [ho] at h1; injection h1 with h1; subst h1; rw [hc] at h2; cases h2
theorem Sep.grown {F:Nat → Prop} {W w w':World} {i:Item} {B:Nat} {row:Option Nat} (h:Sep F W w [i]) (ht:Tame B i) (hB:W.heap.size ≤ B) (hg:w.grownBy w' row) (hr:∀ r,row=some r → B ≤ r ∧ ∃ o:Obj,w.heap[r]?=some o ∧ o.isCells=false):Sep F W w' [i]:=by
  have hP:i.P w:=h.all i (by simp)
  have hne:∀ k,i.fp k → some k ≠ row:=fun k hk e => by
    obtain ⟨h1,o,h2,h3⟩:=hr k e.symm
    exact ht.far hP h1 h2 h3 hk
  refine ⟨h.bel.trans (Chg.of_grown hg) (fun g hgr => ?_),fun j hj => ?_,h.own,h.apart⟩
  · obtain ⟨h1,_⟩:=hr g hgr
    exact .inr (by have:=h.bel.size; have h2:=(hr g hgr).2; omega)
  · have:j=i:=by simpa using hj
    subst this
    exact j.loc w w' hg.size (fun k hk => hg.block k (j.dom w hP k hk) (fun e => hne k hk e)) hP
theorem Chg.keepsFrom {S:Nat → Prop} {B:Nat} {W W':World} (h:Chg S W W') (hs:∀ (k:Nat) (o:Obj),B ≤ k → W.heap[k]?=some o → o.isCells=false → ¬ S k):KeepsFrom B W W' :=
  ⟨h.size,fun k o hk ho hc => (h.block k (Array.getElem?_eq_some_iff.1 ho).1 (hs k o hk ho hc)).trans ho⟩
def Colls (B:Nat) (w:World):List Deferred → Prop
  | [] => True
  | d :: ds => ∃ D:Nat,d={ target:=.collected D,args:=#[] } ∧ B ≤ D ∧ w.heap[D]?=some (.deferred (some [])) ∧ (∀ d' ∈ ds,∃ D':Nat,d'={ target:=.collected D',args:=#[] } ∧ D' < D) ∧ Colls B w ds
theorem Colls.keep {B:Nat} {w w':World}:∀ {ds:List Deferred},Colls B w ds → (∀ (k:Nat) (o:Obj),B ≤ k → w.heap[k]?=some o → o.isCells=false → w'.heap[k]?=some o) → Colls B w' ds
  | [],_,_ => trivial
  | d :: ds,⟨D,h1,h2,h3,h4,h5⟩,hk => ⟨D,h1,h2,hk D _ h2 h3 rfl,h4,h5.keep hk⟩
theorem Colls.lt {B:Nat} {w:World}:∀ {ds:List Deferred},Colls B w ds → ∀ d ∈ ds,∃ D:Nat,d={ target:=.collected D,args:=#[] } ∧ D < w.heap.size
  | [],_,_,hd => by simp at hd
  | _ :: _,⟨D,h1,_,h3,_,h5⟩,d,hd => by
    rcases List.mem_cons.1 hd with rfl | hd
    · exact ⟨D,h1,(Array.getElem?_eq_some_iff.1 h3).1⟩
    · exact h5.lt d hd
theorem Colls.push {B:Nat} {w w':World} {ds:List Deferred} {D:Nat} (h:Colls B w ds) (hk:∀ (k:Nat) (o:Obj),B ≤ k → w.heap[k]?=some o → o.isCells=false → w'.heap[k]?=some o) (hB:B ≤ w.heap.size) (hD:w.heap.size ≤ D) (hd:w'.heap[D]?=some (.deferred (some []))) :
    Colls B w' ({ target:=.collected D,args:=#[] } :: ds) :=
  ⟨D,rfl,by omega,hd,fun d' hd' => by obtain ⟨D',e,hl⟩:=h.lt d' hd'; exact ⟨D',e,by omega⟩,h.keep hk⟩
theorem collsOff {F:Fence} {n:Nat} {P:Program} {fn:Func} {tmps:Array Value} {R:Ending → World → Prop} {B:Nat} {u:FrameMode} (hu:u ≠ .run):∀ (ds:List Deferred) (w:World),Colls B w ds →
    (∀ w',w.heap.size=w'.heap.size → w'.os=w.os → w'.tape=w.tape → w'.output=w.output → (∀ (k:Nat),k < B → w'.heap[k]?=w.heap[k]?) → (∀ (k:Nat) (o:Obj),w.heap[k]?=some o → o.isCells=true → w'.heap[k]?=some o) → LeavesInM F n P fn tmps R [] u w') → LeavesInM F n P fn tmps R ds u w:=by
  intro ds
  induction ds with
  | nil => intro w _ h; exact h w rfl rfl rfl rfl (fun _ _ => rfl) (fun _ _ h _ => h)
  | cons d ds ih =>
    rintro w ⟨D,rfl,h2,h3,h4,h5⟩ h
    refine ⟨hu,.inl ⟨D,_,rfl,run_takeDeferred h3,?_⟩⟩
    have hg:=grownBy_putObj' w D (.deferred none)
    have hlt:=(Array.getElem?_eq_some_iff.1 h3).1
    refine ih _ ?_ fun w' g1 g2 g3 g4 g5 g6 => ?_
    · clear ih h
      have key:∀ (l:List Deferred),(∀ d' ∈ l,∃ D':Nat,d'={ target:=.collected D',args:=#[] } ∧ D' < D) → Colls B w l → Colls B (w.putObj D (.deferred none)) l:=by
        intro l
        induction l with
        | nil => intro _ _; trivial
        | cons e l ihl =>
          rintro hl ⟨E,e1,e2,e3,e4,e5⟩
          obtain ⟨E',e6,e7⟩:=hl e (by simp)
          have:E=E':=by
            rw [e1] at e6
            injection e6 with e6
            injection e6
          subst this
          exact ⟨E,e1,e2,(World.putObj_heap_other (by omega)).trans e3,e4,ihl (fun d' hd' => hl d' (by simp [hd'])) e5⟩
      exact key ds h4 h5
    · have hs:(w.putObj D (.deferred none)).heap.size=w.heap.size:=by simp [World.putObj]
      refine h w' (hs.symm.trans g1) (g2.trans hg.os) (g3.trans hg.tape) (g4.trans hg.output) (fun k hk => (g5 k hk).trans (World.putObj_heap_other (by omega))) (fun k o hk hc => g6 k o ?_ hc)
      refine (World.putObj_heap_other ?_).trans hk
      rintro rfl
      rw [h3] at hk
      injection hk with hk
      subst hk
      cases hc
theorem Sep.closed {F:Nat → Prop} {W w w':World} {items:List Item} {B:Nat} (h:Sep F W w items) (ht:∀ i ∈ items,Tame B i) (hB:W.heap.size ≤ B) (h1:w.heap.size=w'.heap.size) (h2:w'.os=w.os) (h3:w'.tape=w.tape) (h4:w'.output=w.output)
    (h5:∀ (k:Nat),k < B → w'.heap[k]?=w.heap[k]?) (h6:∀ (k:Nat) (o:Obj),w.heap[k]?=some o → o.isCells=true → w'.heap[k]?=some o):Sep F W w' items:=by
  refine ⟨⟨h2.trans h.bel.os,h3.trans h.bel.tape,h4.trans h.bel.output,by have:=h.bel.size; omega,fun k hk hn => (h5 k (by omega)).trans (h.bel.block k hk hn)⟩,fun i hi => i.loc w w' (by omega) (fun k hk => ?_) (h.all i hi),h.own,h.apart⟩
  rcases ht i hi w (h.all i hi) k hk with h7 | ⟨o,h7,h8⟩
  · exact h5 k h7
  · rw [h6 k o h7 h8,h7]
def calm (Q:Exit → Act → World → Prop):Exit → Act → World → Prop
  | .panic _,_,_ => False
  | .outgrown,_,_ => False
  | .normal,a,w => Q .normal a w
  | .ret,a,w => Q .ret a w
  | .exit id,a,w => Q (.exit id) a w
  | .goto t,a,w => Q (.goto t) a w
theorem callsIn_of_wp_calm {F:Fence} {n:Nat} {P:Program} {f:FuncId} {fn:Func} {c:Code} {args:Array Value} {w:World} {R:Ending → World → Prop} (hf:P.funcs[f]?=some fn) (hb:fn.body=some c) (hF:F.fn f)
    (h:c.wpIn F n P (calm (bodyPostM F n P fn R)) { tmps:=args ++ Array.replicate (fn.ntmps - args.size) undef,defers:=[] } w) (hro:F.round=none):CallsIn F n P f args w R :=
  callsIn_of_wp_marks hf hb hF (wpIn_mono h fun e a w h => by
    cases e with
    | panic ch => exact h.elim
    | outgrown => exact h.elim
    | normal => exact h
    | ret => exact h
    | exit id => exact h
    | goto t => exact h) hro
set_option maxHeartbeats 400000 in
theorem targets_in (F:Fence) (n:Nat) (h:F.fn 45) (hro:F.round=none) (A:Option Addr) (nl cl:Nat) (w:World) :
    CallsIn F n Tryz.prog 45 #[.slice A nl cl] w fun e w' => e=.returned (.func (.func 64) #[] #[.pointer (some ⟨w.heap.size,0,none⟩)]) ∧ w'=w.alloc (.cells #[.slice A nl cl] 23):=by
  refine callsIn_of_wp Tryz.func45 rfl h ?_ hro
  simp only [Tryz.ntmps45,List.size_toArray,List.length_cons,List.length_nil,Nat.reduceAdd,Nat.reduceSub,Array.replicate_succ,Array.replicate_zero,List.push_toArray,List.append_toArray,List.nil_append,List.cons_append]
  gi_wp2
  go_ret
  exact ⟨rfl,rfl⟩
abbrev Tgt (vs:List Val):Type:={ x:Int // x ∈ tgts vs }
def encTgt {vs:List Val} (x:Tgt vs):Array Value:=#[.int .i64 x.1]
def unT {vs:List Val} (l:List (Tgt vs)):List Int:=l.map Subtype.val
set_option maxRecDepth 100000 in
set_option maxHeartbeats 8000000 in
theorem targets1_in (F:Fence) (n:Nat) (h7:F.fn 64) (hro:F.round=none) (hn:1 ≤ n) (l Bg:Nat) (D:Nat → Prop) (A:Option Addr) (nl cl:Nat) (vs:List Val) (hnl:nl ≤ 1000) (J Jx:List (Tgt vs) → World → Prop)
    (hY:∀ pre x W,J pre W → pre.length < (tgts vs).length → YieldAt F (n - 1) Tryz.prog l (encTgt x) W fun e W' =>
      (e=.returned (.bool true) ∧ J (pre ++ [x]) W' ∧ KpD D W W') ∨ (e=.returned (.bool false) ∧ Jx (pre ++ [x]) W'))
    (W:World) (hJ:AbidesFrom W.heap.size J) (hDg:D Bg) (hB:Blk W Bg 23 #[.slice A nl cl]) (hR:Rd W D 2 A nl (vals vs)) (h0:J [] W) :
    CallsIn F n Tryz.prog 64 #[.func (.yield l) #[] #[],.pointer (some ⟨Bg,0,none⟩)] W fun e W' => (∃ v,e=.returned v) ∧
      ((∃ ys,unT ys=tgts vs ∧ J ys W') ∨ (∃ pre,unT pre <+: tgts vs ∧ Jx pre W')):=by
  refine callsIn_of_wp Tryz.func64 rfl h7 ?_ hro
  simp only [Tryz.ntmps64,List.size_toArray,List.length_cons,List.length_nil,Nat.reduceAdd,Nat.reduceSub,Array.replicate_succ,Array.replicate_zero,List.push_toArray,List.append_toArray,List.nil_append,List.cons_append]
  have g0:W.cell? ⟨Bg,0,none⟩=some (.slice A nl cl):=(hB.cell 0).trans rfl
  have HB:=hide hB
  clear hB
  gi_wp2
  gi_loopw [7] (fun i wr => ∃ (k:Nat) (ys:List (Tgt vs)),k ≤ nl ∧ i=.int .i64 k ∧ Hid (unT ys=tgts (vs.take k)) ∧ J ys wr ∧ KpD D W wr) (fun i _ => nl - (intOf i).toNat)
  case atStart => exact ⟨0,[],Nat.zero_le _,rfl,by rw [List.take_zero]; rfl,h0,KpD.refl _ _⟩
  case round =>
    obtain ⟨k,ys,hk,rfl,HYS,hJs,hKp⟩:=hrel
    have hRl:vs.length=nl:=by have:=hR.1; rw [vals_length] at this; omega
    have HRL:=hide hRl
    have hsz:=hKp.1
    clear hRl
    by_cases hlt:k < nl
    · have hkl:k < vs.length:=by rw [HRL.out]; exact hlt
      obtain ⟨ad,hA,had0,had,hc,hd⟩:=(hKp.rd hR).atN hlt
      obtain ⟨v0,v1⟩:=vals_at vs k hkl
      have e0:=hc _ v0
      have e1:=hd 0 _ v1
      have HT:=hide (List.take_succ_eq_append_getElem hkl)
      have HTP:=hide (tgts_pre (List.take_prefix (k + 1) vs))
      have hmem:=List.getElem_mem hkl
      obtain ⟨x,hx⟩:∃ x,vs[k]=x:=⟨_,rfl⟩
      rw [hx] at e0 e1 HT hmem
      subst hA
      clear hc hd v0 v1 hx
      obtain ⟨b,q⟩:=x
      dsimp only at e0 e1
      have HS:=hide (tgts_snoc (vs.take k) (b,q))
      cases b with
      | false =>
        have HS2:=hide (show unT ys=tgts (vs.take (k + 1)) from by rw [HT.out,HS.out,HYS.out]; simp)
        clear hmem
        have hJ2:=hide (hJ _ _ _ none hJs (World.grownBy_alloc wr (.cells #[.bool false,.int .i64 q] 63) none) (fun r e => by cases e))
        have hK2:=hide (hKp.trans (KpD.alloc wr (.cells #[.bool false,.int .i64 q] 63)))
        clear hJs hKp
        gi_wp2
        refine ⟨fun _ h => (by cases h),?_⟩
        gi_wp2
        go_roundw
        case rel => exact ⟨k + 1,ys,by omega,by go_num,HS2,hJ2.out,hK2.out⟩
        case measure => simp [intOf]; omega
      | true =>
        have hq9:q ∈ tgts vs:=tgts_mem.2 hmem
        have HS2:=hide (show unT (ys ++ [⟨q,hq9⟩])=tgts (vs.take (k + 1)) from by rw [HT.out,HS.out,← HYS.out]; simp [unT])
        have hlen:ys.length < (tgts vs).length:=by
          have h1:=HTP.out.length_le
          rw [← HS2.out] at h1
          simp [unT] at h1
          omega
        obtain ⟨fn,tmps,assign,body,hy,hR'⟩:=hY _ ⟨q,hq9⟩ (wr.alloc (.cells #[.bool true,.int .i64 q] 63)) (hJ _ _ _ none hJs (World.grownBy_alloc wr _ none) (fun r e => by cases e)) hlen
        clear hlen hmem
        unfold encTgt at hy
        dsimp only at hy
        gi_wp2
        refine hR'.mono ?_
        rintro e W3 (⟨rfl,hJ3,hk3⟩ | ⟨rfl,hJx3⟩)
        · gi_wp2
          go_roundw
          case rel => exact ⟨k + 1,ys ++ [⟨q,hq9⟩],by omega,by go_num,HS2,hJ3,hKp.trans ((KpD.alloc wr _).trans hk3)⟩
          case measure => simp [intOf]; omega
        · gi_wp2
          refine bodyPost_ret (results_none rfl _ _ _) rfl ?_
          exact ⟨⟨_,rfl⟩,.inr ⟨_,by rw [HS2.out]; exact HTP.out,hJx3⟩⟩
    · obtain rfl:k=nl:=by omega
      have HYE:=hide (show unT ys=tgts vs from by rw [HYS.out,List.take_of_length_le (by rw [HRL.out]; omega)])
      gi_wp2
      go_end0
      exact ⟨⟨_,rfl⟩,.inl ⟨_,HYE.out,hJs⟩⟩
theorem targets_stops (F:Fence) (n:Nat) (h7:F.fn 64) (hro:F.round=none) (hn:1 ≤ n) (Bg:Nat) (D:Nat → Prop) (A:Option Addr) (nl cl:Nat) (vs:List Val) (hnl:nl ≤ 1000)
    (w:World) (hDg:D Bg) (hB:Blk w Bg 23 #[.slice A nl cl]) (hR:Rd w D 2 A nl (vals vs)) :
    SeqStopsK F n Tryz.prog 64 #[.pointer (some ⟨Bg,0,none⟩)] (encTgt (vs:=vs)) (KpD D) (fun (ys:List (Tgt vs)) => unT ys=tgts vs) (fun (pre:List (Tgt vs)) => unT pre <+: tgts vs) (tgts vs).length w:=fun l J Jx W hW hJ _ hY h0 =>
  targets1_in F n h7 hro hn l Bg D A nl cl vs hnl J Jx hY W hJ hDg (hB.below_ hW) (hR.below hW) h0
theorem wpIn_opaque {F:Fence} {n:Nat} {P:Program} {c:Code} {Q:Exit → Act → World → Prop} {a:Act} {w:World}
    (h:∀ K:Act → World → Prop,(∀ a' w',Q .normal a' w' → K a' w') → c.wpIn F n P (Exit.then K (fun _ _ _ => False)) a w):c.wpIn F n P Q a w :=
  wpIn_mono (h (Q .normal) (fun _ _ q => q)) fun e a w hq => by
    cases e with
    | normal => exact hq
    | ret => exact hq.elim
    | panic ch => exact hq.elim
    | outgrown => exact hq.elim
    | exit id => exact hq.elim
    | goto t => exact hq.elim
def RetS {σ:Type} (it:σ → Item) (ok:σ → Prop) (S:Nat → Prop) (w:World):Ending → World → Prop:=fun e w' => ∃ s,(∃ v,e=.returned v) ∧ ok s ∧ Sep S w w' [it s]
def rngPost {σ:Type} (it:σ → Item) (Inv:List Int → σ → Prop) (Inx:Code → List Int → σ → Prop) (S:Nat → Prop) (xs:List Int) (W:World):Exit → Act → World → Prop
  | .normal,_,W' => ∃ s',Inv xs s' ∧ Sep S W W' [it s']
  | .ret,_,W' => ∃ s',Inx .ret xs s' ∧ Sep S W W' [it s']
  | .exit id,_,W' => ∃ s',Inx (.exit id) xs s' ∧ Sep S W W' [it s']
  | .goto t,_,W' => ∃ s',Inx (.goto t) xs s' ∧ Sep S W W' [it s']
  | .panic _,_,_ => False
  | .outgrown,_,_ => False
theorem wpIn_targets {F:Fence} {n:Nat} {g:Operand} {ps:Array Tmp} {assign body:Code} {Q:Exit → Act → World → Prop} {a:Act} {w:World}
    (hro:F.round=none) (h1:2 ≤ n) (hF1:F.fn 64) (Bg:Nat) (hg:a.eval g=.func (.func 64) #[] #[.pointer (some ⟨Bg,0,none⟩)]) (hps:ps.size=1)
    {D:Nat → Prop} {A:Option Addr} {nl cl:Nat} {vs:List Val} (hnl:nl ≤ 1000) (hDg:D Bg) (hDlt:∀ k,D k → k < w.heap.size) (hB:Blk w Bg 23 #[.slice A nl cl]) (hR:Rd w D 2 A nl (vals vs))
    {σ:Type} (it:σ → Item) (Inv:List Int → σ → Prop) (Inx:Code → List Int → σ → Prop) (ht:∀ s,Tame w.heap.size (it s)) {F0:Nat → Prop} {W0:World} (s0:σ) (h0:Inv [] s0) (hS:Sep F0 W0 w [it s0]) (hdis:∀ k,(it s0).fp k → ¬ D k) (a₁:Int → Act)
    (hassign:∀ (l:Nat) (x:Int) (W:World) (K:Act → World → Prop),K (a₁ x) W → assign.wpIn (F.inRound l) (n - 1 - 1) Tryz.prog (Exit.then K (fun _ _ _ => False)) { tmps:=(ps.zip #[.int .i64 x]).foldl (fun t (p,v) => t.setIfInBounds p v) a.tmps,defers:=[] } W)
    (hbody:∀ (l:Nat) (pre:List Int) (x:Int) (s:σ) (W:World),x ∈ tgts vs → (∀ y ∈ pre,y ∈ tgts vs) → pre.length < (tgts vs).length → Inv pre s → Sep F0 W0 W [it s] → (∀ k,(it s).fp k → ¬ D k) → KpD D w W → body.wpIn (F.inRound l) (n - 1 - 1) Tryz.prog (rngPost it Inv Inx (it s).fp (pre ++ [x]) W) (a₁ x) W)
    (hdone:∀ (Dd:Nat) (s:σ) (W:World),w.heap.size ≤ Dd → Inv (tgts vs) s → Sep F0 W0 W [it s] → KpD D w W → KeepsFrom w.heap.size w W → W.heap[Dd]?=some (.deferred (some [])) → Q .normal { a with defers:={ target:=.collected Dd,args:=#[] } :: a.defers } W)
    (hstop:∀ (Dd:Nat) (c:Code) (pre:List Int) (s:σ) (W:World),w.heap.size ≤ Dd → pre <+: tgts vs → Inx c pre s → Sep F0 W0 W [it s] → KpD D w W → KeepsFrom w.heap.size w W → W.heap[Dd]?=some (.deferred (some [])) → c.wpIn F n Tryz.prog Q { a with defers:={ target:=.collected Dd,args:=#[] } :: a.defers } W) :
    (Code.rangeFunc g ps assign body).wpIn F n Tryz.prog Q a w:=by
  have hW0:W0.heap.size ≤ w.heap.size:=hS.bel.size
  have hown:∀ (J:List (Tgt vs) → σ → Prop),OwnFrom w.heap.size (fun (pre:List (Tgt vs)) W => ∃ s,J pre s ∧ Sep F0 W0 W [it s] ∧ (∀ k,(it s).fp k → ¬ D k) ∧ KpD D w W ∧ KeepsFrom w.heap.size w W):=by
    rintro J pre X Y row ⟨s,hs1,hs2,hs3,hs4,hs5⟩ hgr hr
    refine ⟨s,hs1,hs2.grown (ht s) hW0 hgr hr,hs3,hs4.trans ⟨hgr.size,fun k hk hd => hgr.block k hk (fun e => ?_)⟩,ownFrom_keepsFrom (β:=Unit) (B':=w.heap.size) (Nat.le_refl _) () X Y row hs5 hgr hr⟩
    have h2:=(hr k e.symm).1
    have h3:=hDlt k hd
    omega
  refine wpIn_rangeFunc_ownG hro (by omega) (gf:=64) (lb:=#[.pointer (some ⟨Bg,0,none⟩)]) hg hF1 (enters_of Tryz.func64 (by kernel_rfl) rfl)
    (targets_stops F (n - 1) hF1 hro (by omega) Bg D A nl cl vs hnl w hDg hB hR)
    (fun h k => h.trans k) (fun W l o o' hl ho hc _ => ⟨by simp [World.putObj],fun k _ hd => World.putObj_heap_other (by have:=hDlt k hd; omega)⟩) (Below.refl _ _) (fun x => by rw [hps]; rfl)
    (fun pre W => ∃ s,Inv (unT pre) s ∧ Sep F0 W0 W [it s] ∧ (∀ k,(it s).fp k → ¬ D k) ∧ KpD D w W ∧ KeepsFrom w.heap.size w W)
    (fun c pre W => ∃ s,Inx c (unT pre) s ∧ Sep F0 W0 W [it s] ∧ (∀ k,(it s).fp k → ¬ D k) ∧ KpD D w W ∧ KeepsFrom w.heap.size w W)
    (hown fun pre s => Inv (unT pre) s) (fun c => hown fun pre s => Inx c (unT pre) s)
    ⟨s0,h0,hS,hdis,KpD.refl _ _,KeepsFrom.refl _ _⟩
    (fun x => a₁ x.1) ?_ ?_ ?_ ?_
  · intro l x W K hK
    exact hassign l x.1 W K hK
  · rintro l pre x W ⟨s,hs1,hs2,hs3,hs4,hs5⟩ hlen
    have hP:(it s).P W:=hs2.all _ (by simp)
    have hap:unT (pre ++ [x])=unT pre ++ [x.1]:=by simp [unT]
    have fin:∀ (W':World) (s':σ),Sep (it s).fp W W' [it s'] → KeepsFrom w.heap.size W W' ∧ KpD D W W' ∧ Sep F0 W0 W' [it s'] ∧ (∀ k,(it s').fp k → ¬ D k) ∧ KpD D w W' ∧ KeepsFrom w.heap.size w W':=fun W' s' h => by
      have k1:KeepsFrom w.heap.size W W':=h.bel.keepsFrom fun k o hk ho hc => (ht s).far hP hk ho hc
      have k2:KpD D W W':=KpD.of_chg h.bel hs3
      refine ⟨k1,k2,hs2.call 0 rfl h,fun k hk hd => ?_,hs4.trans k2,hs5.trans k1⟩
      rcases h.own _ (by simp) k hk with h2 | h2
      · exact hs3 k h2 hd
      · have:=hDlt k hd; have:=hs4.1; omega
    refine wpIn_mono (hbody l (unT pre) x.1 s W x.2 (fun y hy => by obtain ⟨z,_,rfl⟩:=List.mem_map.1 hy; exact z.2) (by simpa [unT] using hlen) hs1 hs2 hs3 hs4) ?_
    intro e a3 W' hp
    cases e with
    | normal => obtain ⟨s',h2,h3⟩:=hp; obtain ⟨k1,k2,k3⟩:=fin W' s' h3; exact ⟨k1,k2,s',by rw [hap]; exact h2,k3⟩
    | ret => obtain ⟨s',h2,h3⟩:=hp; obtain ⟨k1,k2,k3⟩:=fin W' s' h3; exact ⟨k1,s',by rw [hap]; exact h2,k3⟩
    | exit id => obtain ⟨s',h2,h3⟩:=hp; obtain ⟨k1,k2,k3⟩:=fin W' s' h3; exact ⟨k1,s',by rw [hap]; exact h2,k3⟩
    | goto t => obtain ⟨s',h2,h3⟩:=hp; obtain ⟨k1,k2,k3⟩:=fin W' s' h3; exact ⟨k1,s',by rw [hap]; exact h2,k3⟩
    | panic ch => exact hp.elim
    | outgrown => exact hp.elim
  · rintro Dd ys W hD hys ⟨s,hs1,hs2,hs3,hs4,hs5⟩ hK
    rw [hys] at hs1
    exact hdone Dd s W hD hs1 hs2 hs4 hs5 hK
  · rintro Dd c pre W hD hpre ⟨s,hs1,hs2,hs3,hs4,hs5⟩ hK
    exact hstop Dd c (unT pre) s W hD hpre hs1 hs2 hs4 hs5 hK
theorem wpIn_tgt {F:Fence} {n:Nat} {g:Operand} {ps:Array Tmp} {assign body:Code} {Q:Exit → Act → World → Prop} {a:Act} {w:World}
    (hro:F.round=none) (h1:2 ≤ n) (hF1:F.fn 64) (Bg:Nat) (hg:a.eval g=.func (.func 64) #[] #[.pointer (some ⟨Bg,0,none⟩)]) (hps:ps.size=1)
    {σ:Type} (it:σ → Item) (s0:σ) {A:Option Addr} {nl cl:Nat} {vs:List Val} (hnl:nl ≤ 1000) (hB:Blk w Bg 23 #[.slice A nl cl]) (hBg:¬ (it s0).fp Bg) (hR:Rd w (fun k => ¬ (it s0).fp k) 2 A nl (vals vs))
    (Inv:List Int → σ → Prop) (Inx:Code → List Int → σ → Prop) (ht:∀ s,Tame w.heap.size (it s)) (h0:Inv [] s0) (hP:(it s0).P w) (a₁:Int → Act)
    (hassign:∀ (l:Nat) (x:Int) (W:World) (K:Act → World → Prop),K (a₁ x) W → assign.wpIn (F.inRound l) (n - 1 - 1) Tryz.prog (Exit.then K (fun _ _ _ => False)) { tmps:=(ps.zip #[.int .i64 x]).foldl (fun t (p,v) => t.setIfInBounds p v) a.tmps,defers:=[] } W)
    (hbody:∀ (l:Nat) (pre:List Int) (x:Int) (s:σ) (W:World),x ∈ tgts vs → (∀ y ∈ pre,y ∈ tgts vs) → pre.length < (tgts vs).length → Inv pre s → Sep (it s0).fp w W [it s] → body.wpIn (F.inRound l) (n - 1 - 1) Tryz.prog (rngPost it Inv Inx (it s).fp (pre ++ [x]) W) (a₁ x) W)
    (hdone:∀ (Dd:Nat) (s:σ) (W:World),w.heap.size ≤ Dd → Inv (tgts vs) s → Sep (it s0).fp w W [it s] → W.heap[Dd]?=some (.deferred (some [])) → Q .normal { a with defers:={ target:=.collected Dd,args:=#[] } :: a.defers } W)
    (hstop:∀ (Dd:Nat) (c:Code) (pre:List Int) (s:σ) (W:World),w.heap.size ≤ Dd → pre <+: tgts vs → Inx c pre s → Sep (it s0).fp w W [it s] → W.heap[Dd]?=some (.deferred (some [])) → c.wpIn F n Tryz.prog Q { a with defers:={ target:=.collected Dd,args:=#[] } :: a.defers } W) :
    (Code.rangeFunc g ps assign body).wpIn F n Tryz.prog Q a w:=by
  refine wpIn_targets hro h1 hF1 Bg hg hps (D:=fun k => k < w.heap.size ∧ ¬ (it s0).fp k) hnl ⟨hB.lt,hBg⟩ (fun _ h => h.1) hB (hR.more (fun k hk h => ⟨hk,h⟩)) it Inv Inx ht (F0:=(it s0).fp) (W0:=w) s0 h0 (Sep.start hP) (fun k hk h => h.2 hk) a₁ hassign ?_ ?_ ?_
  · intro l pre x s W hx hpre hlen hI hS _ _
    exact hbody l pre x s W hx hpre hlen hI hS
  · intro Dd s W hD hI hS _ _ hK
    exact hdone Dd s W hD hI hS hK
  · intro Dd c pre s W hD hpre hI hS _ _ hK
    exact hstop Dd c pre s W hD hpre hI hS hK
section
variable {P : Program} {F : Fence} {N : Nat}
theorem wpListIn_make {w:World} {ops:Array Oper} {rest:List Oper} {o:Oper} {a:Act} {Q:Exit → Act → World → Prop}
    (hg:o.guard=none) (l c:Operand) (t:TypeId) (hop:o.op=Op.makeSlice t l c)
    {F0:Nat → Prop} {W:World} {items:List Item} (hS:Sep F0 W w items) {e size bytes:Nat} (h1:P.underlying t=some (.slice e)) {z:Value} (h2:(P.info? e).map (fun i => (i.zero,i.size,i.bytes))=some (some z,size,bytes)) (h0:0 < bytes)
    (kl kc:IntKind) (n:Nat) (hl:a.eval l=.int kl (n:Int)) (hc:a.eval c=.int kc (n:Int)) (hb:bytes * n ≤ 140737488355328)
    (hK:∀ w',Sep F0 W w' (items ++ [rowI e size (some ⟨w.heap.size,0,none⟩) n n (madeCells z.cells (n * size)).toList]) → Below w.heap.size w w' → wpListIn F N P ops Q rest (a.put o.dst (.slice (some ⟨w.heap.size,0,none⟩) n n)) w') :
    wpListIn F N P ops Q (o :: rest) a w:=by
  obtain ⟨i,hi,hz,hs,hby⟩:=info_parts h2
  have hn:n ≤ bytes * n:=Nat.le_mul_of_pos_left _ h0
  refine wpListIn_plain hg fun K hK' => ?_
  obtain ⟨w',hrun,h3,h4⟩:=run_make_full (P:=P) w 0 t e i z size h1 hi hz hs kl kc n (by rw [hby]; omega) (by simp only [maxLen]; omega) (Nat.zero_le _)
  have hbw:Below w.heap.size w w':=(Chg.of_grown h4).below (fun g hg => by cases hg)
  unfold Oper.wpIn
  refine ⟨?_,?_⟩
  · simp [Oper.about,hop]
  · rw [Oper.semAt_plain F _ _ (by rw [hop]; intro c hc'; cases hc')]
    simp [execOp,hop,hl,hc,hrun,Result.andThen]
    exact hK' _ _ (hK w' (hS.snocNew hbw (rowI e size (some ⟨w.heap.size,0,none⟩) n n (madeCells z.cells (n * size)).toList) h3 (fun g hg => by
      have:w.heap.size=g:=by simpa [rowI,Value.ownBlock] using hg
      omega)) hbw)
end
end Go.Proofs.YtjphckfbbiehdaaGreat

namespace Go.Proofs.YtjphckfbbiehdaaGreat
open Go.RowKit
def FdI (Bd Bl gd n:Nat) (A:Option Addr) (nl cl:Nat) (σ:List Int × List Int):List Item :=
  [rowI 3 1 A nl cl (ints σ.1),rowI 3 1 (some ⟨gd,0,none⟩) n n (ints σ.2),blkI Bd 33 #[.slice (some ⟨gd,0,none⟩) n n],blkI Bl 33 #[.slice A nl cl]]
structure FdS where
  A:Option Addr
  nl:Nat
  cl:Nat
  σ:List Int × List Int
def fdIt (Bd Bl gd n:Nat) (s:FdS):Item:=allI (FdI Bd Bl gd n s.A s.nl s.cl s.σ)
def FdOk (s:FdS):Prop:=s.nl=s.σ.1.length
set_option maxRecDepth 100000 in
set_option maxHeartbeats 4000000 in
theorem take_any (w:World) (Bd Bl gd n:Nat) (A:Option Addr) (nl cl:Nat) (σ:List Int × List Int) (i d:Int) (hs:(allI (FdI Bd Bl gd n A nl cl σ)).P w) (h0:0 ≤ i) (h1:i < (n:Int)) (hnl:nl ≤ 1000) (hlen:σ.2.length=n) (hll:nl=σ.1.length) :
    Calls Tryz.prog 60 #[.int .i64 i,.int .i64 d,.pointer (some ⟨Bd,0,none⟩),.pointer (some ⟨Bl,0,none⟩)] w (RetS (fdIt Bd Bl gd n) (fun s => FdOk s ∧ s.σ=tk1 d σ (true,i)) (allI (FdI Bd Bl gd n A nl cl σ)).fp w):=by
  obtain ⟨F,hF⟩:∃ F,(allI (FdI Bd Bl gd n A nl cl σ)).fp=F:=⟨_,rfl⟩
  have hS:=(Sep.start hs).flat
  rw [hF] at hS ⊢
  obtain ⟨k,hk⟩:=int_nat h0
  subst hk
  have hkn:k < σ.2.length:=by omega
  have hrow:w.ownsRow 0 3 1 (.slice (some ⟨gd,0,none⟩) n n) n (ints σ.2):=hS.get 1 rfl
  have e0:w.cell? ⟨gd,k,none⟩=some (.int .i64 σ.2[k]):=by rw [hrow.cellAt k (by omega)]; simp [ints,List.getElem?_eq_getElem hkn]
  have e1:=hrow.frozenAt k
  obtain ⟨b1,b2,b3,b4⟩:=hS.rules 2 (g:=Bd) (t:=33) rfl
  have b5:=b1 0
  obtain ⟨c1,c2,c3,c4⟩:=hS.rules 3 (g:=Bl) (t:=33) rfl
  have c5:=c1 0
  have hgd:σ.2.getD k 0=σ.2[k]:=getD_get hkn
  have HLL:=hide hll
  by_cases hneg:σ.2[k] < 0
  · have k1:decide (σ.2[k] < 0)=true:=by simp [hneg]
    have HT:=hide (show tk1 d σ (true,(k:Int))=(σ.1 ++ [(k:Int)],σ.2.set k d) from tk1_yes (by show σ.2.getD k 0 < 0; rw [hgd]; exact hneg))
    obtain ⟨y,hy⟩:∃ y,σ.2[k]=y:=⟨_,rfl⟩
    rw [hy] at e0 k1
    have HS:=hide hS
    clear hs hF hS hrow hneg hgd hy b1 b4 c1 c4 hlen hll
    go_enter Tryz.func60,Tryz.ntmps60
    go_wp2_with fail
    go_region_law (first
      | (refine step_app1d (cs:=#[.int .i64 (k:Int)]) rfl (.tmp 14) (.tmp 16) 33 rfl (F:=F) (W:=w) sInt (items:=[_,_,_,_]) HS.out 0 (n:=nl) rfl rfl rfl (by simp) rfl rfl (by omega) ?_
         intro A4 c4 w4 hS4 hC4
         obtain ⟨z1,z2,z3,z4⟩:=hS4.rules 2 (g:=Bd) (t:=33) rfl
         (have z5:=z1 0)
         obtain ⟨y1,y2,y3,y4⟩:=hS4.rules 3 (g:=Bl) (t:=33) rfl
         (have f1:w4.frozen? ⟨gd,k,none⟩=false:=(show w4.ownsRow 0 3 1 (.slice (some ⟨gd,0,none⟩) n n) n (ints σ.2) from hS4.get 1 rfl).frozenAt k)
         (have f0:∃ u,w4.cell? ⟨gd,k,none⟩=some u:=⟨_,((show w4.ownsRow 0 3 1 (.slice (some ⟨gd,0,none⟩) n n) n (ints σ.2) from hS4.get 1 rfl).cellAt k (by omega)).trans (show (ints σ.2)[k]?=some (.int .i64 σ.2[k]) by simp [ints,List.getElem?_eq_getElem hkn])⟩)
         obtain ⟨u,f0⟩:=f0
         (have HS5:=hide (hS4.store 1 (g:=gd) rfl k (.int .i64 d)))
         obtain ⟨x1,x2,x3,x4⟩:=HS5.out.rules 3 (g:=Bl) (t:=33) rfl
         (have x5:=x1 0)
         clear z1 z4 y1 y4 x1 x4 hS4))
    all_goals
      go_wp2_with fail
      go_end0
      have hF:=(HS5.out.set_ 3 (g:=Bl) (t:=33) rfl 0 (.slice A4 (nl + 1) c4)).fold
      refine ⟨⟨A4,nl + 1,c4,(σ.1 ++ [(k:Int)],σ.2.set k d)⟩,⟨_,rfl⟩,⟨by unfold FdOk; rw [HLL.out]; simp,HT.out.symm⟩,?_⟩
      unfold fdIt FdI
      dsimp only
      rw [ints_snoc_,← ints_set_]
      exact hF
  · have k1:decide (σ.2[k] < 0)=false:=by simp only [hneg,decide_false]
    have HT:=hide (show tk1 d σ (true,(k:Int))=σ from tk1_no (.inr (by show 0 ≤ σ.2.getD k 0; rw [hgd]; omega)))
    obtain ⟨y,hy⟩:∃ y,σ.2[k]=y:=⟨_,rfl⟩
    rw [hy] at e0 k1
    have HS:=hide hS
    clear hs hF hS hrow hneg hgd hy b1 b4 c1 c4 hlen hll
    go_enter Tryz.func60,Tryz.ntmps60
    go_wp2_with fail
    go_end0
    exact ⟨⟨A,nl,cl,σ⟩,⟨_,rfl⟩,⟨HLL.out,HT.out.symm⟩,HS.out.fold⟩
end Go.Proofs.YtjphckfbbiehdaaGreat
