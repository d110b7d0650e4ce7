/- Part of a proof. -/
import Derived.Test.YtjphckfbbiehdaaGreatSTopAll0
import Derived.RangeFuncNested
import Derived.RangeFuncBox
import Derived.RangeFuncBound
import Derived.RangeFuncCalls
import Derived.RangeFuncLeaves
import Derived.Shelf.Abstract
import Derived.Shelf.RegionOpen
import Derived.OwnWalkIn
import Derived.TacticsInMore
import Derived.LoopNIn
import Derived.LoopIn
set_option linter.unusedSimpArgs false
set_option linter.unusedVariables false
namespace Go.Proofs.YtjphckfbbiehdaaGreat
open Go.RowKit
abbrev Val:=Bool × Int
def vals (l:List Val):List Value:=l.flatMap fun v => [.bool v.1,.int .i64 v.2]
theorem vals_length (l:List Val):(vals l).length=l.length * 2:=by
  unfold vals; induction l with
  | nil => rfl
  | cons a l ih => simp [List.flatMap_cons] at ih ⊢; omega
theorem vals_at (l:List Val) (k:Nat) (h:k < l.length):(vals l)[k * 2]?=some (.bool l[k].1) ∧ (vals l)[k * 2 + (0 + 1)]?=some (.int .i64 l[k].2):=by
  unfold vals
  induction l generalizing k with
  | nil => simp at h
  | cons a l ih =>
    cases k with
    | zero => exact ⟨rfl,rfl⟩
    | succ k =>
      have h':k < l.length:=by simpa using h
      have:=ih k h'
      simp only [List.flatMap_cons]
      rw [show (k + 1) * 2=k * 2 + 2 from by omega]
      simpa [Nat.add_right_comm _ 2] using this
structure Ob where
  A:Option Addr
  n:Nat
  c:Nat
  fields:List Val
def Ob.val (o:Ob):Value:=.slice o.A o.n o.c
structure ObsRd (w:World) (D:Nat → Prop) (A:Option Addr) (n:Nat) (obs:List Ob):Prop where
  row:Rd w D 1 A n (obs.map Ob.val)
  each:∀ o ∈ obs,Rd w D 2 o.A o.n (vals o.fields)
theorem ObsRd.len {w:World} {D:Nat → Prop} {A:Option Addr} {n:Nat} {obs:List Ob} (h:ObsRd w D A n obs):obs.length=n:=by
  have:=h.row.1; simpa using this
theorem ObsRd.flen {w:World} {D:Nat → Prop} {A:Option Addr} {n:Nat} {obs:List Ob} (h:ObsRd w D A n obs) {o:Ob} (ho:o ∈ obs):o.fields.length=o.n:=by
  have:=(h.each o ho).1; rw [vals_length] at this; omega
theorem ObsRd.keep {w w':World} {D:Nat → Prop} {A:Option Addr} {n:Nat} {obs:List Ob} (h:ObsRd w D A n obs) (hs:w.heap.size ≤ w'.heap.size) (hk:∀ k,k < w.heap.size → D k → w'.heap[k]?=w.heap[k]?):ObsRd w' D A n obs :=
  ⟨h.row.keep hs hk,fun o ho => (h.each o ho).keep hs hk⟩
theorem ObsRd.below {w w':World} {D:Nat → Prop} {A:Option Addr} {n:Nat} {obs:List Ob} (h:ObsRd w D A n obs) (hb:Below w.heap.size w w'):ObsRd w' D A n obs:=h.keep hb.size fun k hk _ => hb.block k hk
theorem ObsRd.chg {w w':World} {D S:Nat → Prop} {A:Option Addr} {n:Nat} {obs:List Ob} (h:ObsRd w D A n obs) (hc:Chg S w w') (hM:∀ g,S g → ¬ D g):ObsRd w' D A n obs:=h.keep hc.size fun k hk hd => hc.block k hk (fun hm => hM k hm hd)
theorem ObsRd.more {w:World} {D D':Nat → Prop} {A:Option Addr} {n:Nat} {obs:List Ob} (h:ObsRd w D A n obs) (hD:∀ k,k < w.heap.size → D k → D' k):ObsRd w D' A n obs :=
  ⟨h.row.more hD,fun o ho => (h.each o ho).more hD⟩
def large (o:Ob):Bool:=decide (4 < o.n)
set_option maxHeartbeats 400000 in
theorem large_any (w:World) (o:Ob):Calls Tryz.prog 34 #[.agg #[o.val]] w fun e w' => e=.returned (.bool (large o)) ∧ Below w.heap.size w w':=by
  unfold large Ob.val
  go_enter Tryz.func34,Tryz.ntmps34
  go_wp2_with fail
  go_ret
  exact ⟨ret_bool (by rw [decide_eq_decide]; omega),(by repeat (first | with_reducible exact Below.refl _ _ | with_reducible (refine Below.setCell ?_ (by first | omega | (simp; done) | (simp; omega)) _) | with_reducible (refine Below.alloc ?_ (by first | omega | (simp; done) | (simp; omega)) _) | with_reducible refine Below.drew ?_ | with_reducible refine below_drewN ?_ _))⟩
set_option maxHeartbeats 400000 in
theorem index_large (w:World) (A:Option Addr) (n c:Nat) (obs:List Ob) (hn:n ≤ 1000) (h:ObsRd w (fun _ => True) A n obs) :
    Calls Tryz.prog 56 #[.slice A n c,.func (.func 34) #[] #[]] w fun e w' => (∃ r:Int,e=.returned (.int .i64 r) ∧ (0 ≤ r ↔ ∃ x ∈ obs,large x=true)) ∧ Below w.heap.size w w':=by
  have HL:=hide h.len
  go_enter Tryz.func56,Tryz.ntmps56
  go_wp2_with fail
  go_loopw [5,8] (fun _ i wr => ∃ k:Nat,k ≤ n ∧ i=.int .i64 k ∧ Hid (∀ t ∈ obs.take k,large t=false) ∧ Below w.heap.size w wr) (fun _ i _ => n - (intOf i).toNat)
  case atStart => exact ⟨0,by omega,rfl,by simp [Hid],Below.refl _ _⟩
  case round =>
    obtain ⟨k,hk,rfl,hnot,hB⟩:=hrel
    by_cases hlt:k < n
    · obtain ⟨ad,rfl,_,_,hc⟩:=(h.row.below hB).at_ hlt
      have hkl:k < obs.length:=by rw [HL.out]; exact hlt
      have hcell:=hc obs[k].val (by simp [List.getElem?_eq_getElem hkl])
      unfold Ob.val at hcell
      clear hc
      go_wp2_with fail
      refine (large_any _ obs[k]).mono ?_
      rintro e w1 ⟨rfl,hB1⟩
      have hz:=hB.size
      cases hq:large obs[k] with
      | true =>
        have HQ:=hide hq
        clear hq
        go_wp2_with fail
        go_ret
        exact ⟨⟨k,rfl,⟨fun _ => ⟨obs[k],List.getElem_mem hkl,HQ.out⟩,fun _ => by omega⟩⟩,hB.trans (hB1.mono hz)⟩
      | false =>
        have HQ:=hide hq
        clear hq
        go_wp2_with fail
        go_roundw
        case rel => exact ⟨k + 1,by omega,by go_num,by
          have h1:=hnot.out
          have h2:=HQ.out
          show ∀ t ∈ obs.take (k + 1),large t=false
          rw [List.take_succ_eq_append_getElem hkl]
          intro t ht
          rcases List.mem_append.1 ht with h3 | h3
          · exact h1 t h3
          · simp only [List.mem_singleton] at h3; subst h3; exact h2,hB.trans (hB1.mono hz)⟩
        case measure => simp [intOf]; omega
    · go_wp2_with fail
      go_ret
      have h1:=hnot.out
      rw [List.take_of_length_le (by rw [HL.out]; omega)] at h1
      exact ⟨⟨-1,rfl,⟨fun h => by omega,fun ⟨t,ht,htx⟩ => by rw [h1 t ht] at htx; cases htx⟩⟩,hB⟩
set_option maxHeartbeats 400000 in
theorem contains_large (w:World) (A:Option Addr) (n c:Nat) (obs:List Ob) (hn:n ≤ 1000) (h:ObsRd w (fun _ => True) A n obs) :
    Calls Tryz.prog 35 #[.slice A n c,.func (.func 34) #[] #[]] w fun e w' => e=.returned (.bool (obs.any large)) ∧ Below w.heap.size w w':=by
  go_enter Tryz.func35,Tryz.ntmps35
  go_wp2_with fail
  refine (index_large w A n c obs hn h).mono ?_
  rintro e w1 ⟨⟨r,rfl,hr⟩,hB⟩
  have hb:obs.any large=decide (0 ≤ r):=by
    rw [Bool.eq_iff_iff]; simp only [List.any_eq_true,decide_eq_true_eq]; exact hr.symm
  have HB:=hide hb
  clear hb hr
  go_wp2_with fail
  go_ret
  exact ⟨ret_bool HB.out.symm,hB⟩
end Go.Proofs.YtjphckfbbiehdaaGreat

namespace Go.Proofs.YtjphckfbbiehdaaGreat
open Go.RowKit Go.Shelf
attribute [local go_sem] Oper.semAt_some
def allVals (obs:List Ob) (roots:List Val):List Val:=roots ++ obs.flatMap Ob.fields
def encVal (v:Val):Array Value:=#[.agg #[.bool v.1,.int .i64 v.2]]
def KpG (n₀ Bg:Nat) (W W':World):Prop:=Below n₀ W W' ∧ W'.heap[Bg]?=W.heap[Bg]?
theorem KpG.trans_ {n₀ Bg:Nat} {A B C:World} (h:KpG n₀ Bg A B) (k:KpG n₀ Bg B C):KpG n₀ Bg A C:=⟨h.1.trans k.1,k.2.trans h.2⟩
theorem KpG.alloc {n₀ Bg:Nat} {A:World} (h1:n₀ ≤ A.heap.size) (h2:Bg < A.heap.size) (o:Obj):KpG n₀ Bg A (A.alloc o):=⟨(Below.refl _ _).alloc h1 _,Below.heap_alloc A o Bg h2⟩
theorem ObsRd.kp {n₀:Nat} {w w':World} {A:Option Addr} {n:Nat} {obs:List Ob} (h:ObsRd w (fun g => g < n₀) A n obs) (hb:Below n₀ w w'):ObsRd w' (fun g => g < n₀) A n obs:=h.keep hb.size fun k _ hd => hb.block k hd
theorem Rd.kp {n₀:Nat} {w w':World} {size n:Nat} {A:Option Addr} {xs:List Value} (h:Rd w (fun g => g < n₀) size A n xs) (hb:Below n₀ w w'):Rd w' (fun g => g < n₀) size A n xs:=h.keep hb.size fun k _ hd => hb.block k hd
set_option maxRecDepth 100000 in
set_option maxHeartbeats 8000000 in
theorem values1_in (F:Fence) (n:Nat) (h7:F.fn 57) (hro:F.round=none) (hn:1 ≤ n) (l Bg n₀:Nat) (AO AR:Option Addr) (nO cO nR cR:Nat) (obs:List Ob) (roots:List Val) (hnO:nO ≤ 1000) (hnR:nR ≤ 1000) (hF:∀ o ∈ obs,o.n ≤ 1000) (J Jx:List Val → World → Prop)
    (hY:∀ pre x W,J pre W → pre.length < (allVals obs roots).length → YieldAt F (n - 1) Tryz.prog l (encVal x) W fun e W' =>
      (e=.returned (.bool true) ∧ J (pre ++ [x]) W' ∧ KpG n₀ Bg W W') ∨ (e=.returned (.bool false) ∧ Jx (pre ++ [x]) W'))
    (W:World) (hJ:AbidesFrom W.heap.size J) (hn₀:n₀ ≤ W.heap.size) (hB:W.heap[Bg]?=some (.cells #[.slice AO nO cO,.slice AR nR cR] 25 (0,0))) (hO:ObsRd W (fun g => g < n₀) AO nO obs) (hR:Rd W (fun g => g < n₀) 2 AR nR (vals roots)) (h0:J [] W) :
    CallsIn F n Tryz.prog 57 #[.func (.yield l) #[] #[],.pointer (some ⟨Bg,0,none⟩)] W fun e W' => (∃ v,e=.returned v) ∧
      ((∃ ys,ys=allVals obs roots ∧ J ys W') ∨ (∃ pre,pre <+: allVals obs roots ∧ Jx pre W')):=by
  refine callsIn_of_wp Tryz.func57 rfl h7 ?_ hro
  simp only [Tryz.ntmps57,List.size_toArray,List.length_cons,List.length_nil,Nat.reduceAdd,Nat.reduceSub,Array.replicate_succ,Array.replicate_zero,List.push_toArray,List.append_toArray,List.nil_append,List.cons_append]
  have g0:W.cell? ⟨Bg,0,none⟩=some (.slice AO nO cO):=by simp [World.cell?,hB]
  have g1:W.cell? ⟨Bg,1,none⟩=some (.slice AR nR cR):=by simp [World.cell?,hB]
  have HB:=hide hB
  have hBg:=(Array.getElem?_eq_some_iff.1 hB).1
  clear hB
  gi_wp2
  gi_loopw [12] (fun i wr => ∃ k:Nat,k ≤ nR ∧ i=.int .i64 k ∧ J (roots.take k) wr ∧ KpG n₀ Bg W wr) (fun i _ => nR - (intOf i).toNat)
  case atStart => exact ⟨0,Nat.zero_le _,rfl,by simpa using h0,Below.refl _ _,rfl⟩
  case round =>
    obtain ⟨k,hk,rfl,hJs,hKp⟩:=hrel
    have hRl:roots.length=nR:=by have:=hR.1; rw [vals_length] at this; omega
    have HRL:=hide hRl
    have hsz:=hKp.1.size
    clear hRl
    by_cases hlt:k < nR
    · have hkl:k < roots.length:=by rw [HRL.out]; exact hlt
      obtain ⟨ad,hA,had0,had,hc,hd⟩:=(hR.kp hKp.1).atN hlt
      obtain ⟨v0,v1⟩:=vals_at roots k hkl
      have e0:=hc _ v0
      have e1:=hd 0 _ v1
      have HT:=hide (List.take_succ_eq_append_getElem hkl)
      obtain ⟨x,hx⟩:∃ x,roots[k]=x:=⟨_,rfl⟩
      rw [hx] at e0 e1 HT
      subst hA
      clear hc hd v0 v1 hx
      obtain ⟨fn,tmps,assign,body,hy,hR'⟩:=hY (roots.take k) x (wr.alloc (.cells #[.bool x.1,.int .i64 x.2] 63)) (hJ _ _ _ none hJs (World.grownBy_alloc wr _ none) (fun r e => by cases e)) (by simp [allVals]; omega)
      unfold encVal at hy
      gi_wp2
      refine hR'.mono ?_
      rintro e W3 (⟨rfl,hJ3,hk3⟩ | ⟨rfl,hJx3⟩)
      · gi_wp2
        go_roundw
        case rel => exact ⟨k + 1,by omega,by go_num,by rw [HT.out]; exact hJ3,hKp.trans_ (KpG.trans_ (KpG.alloc (by omega) (by omega) _) hk3)⟩
        case measure => simp [intOf]; omega
      · gi_wp2
        refine bodyPost_ret (results_none rfl _ _ _) rfl ?_
        exact ⟨⟨_,rfl⟩,.inr ⟨_,by rw [← HT.out]; exact (List.take_prefix _ _).trans (List.prefix_append _ _),hJx3⟩⟩
    · obtain rfl:k=nR:=by omega
      rw [show roots.take k=roots from List.take_of_length_le (by rw [HRL.out]; omega)] at hJs
      have g2:wr.cell? ⟨Bg,0,none⟩=some (.slice AO nO cO):=by simp [World.cell?,hKp.2.trans HB.out]
      gi_wp2
      clear g2
      have HJs:=hide hJs
      have HKp:=hide hKp
      clear hJs hKp hsz
      gi_loopw [24] (fun i w2 => ∃ j:Nat,j ≤ nO ∧ i=.int .i64 j ∧ J (roots ++ (obs.take j).flatMap Ob.fields) w2 ∧ KpG n₀ Bg W w2) (fun i _ => nO - (intOf i).toNat)
      case atStart => exact ⟨0,Nat.zero_le _,rfl,by simpa using HJs.out,HKp.out⟩
      case round =>
        clear HJs HKp
        obtain ⟨j,hj,rfl,hJs,hKp⟩:=hrel
        have HOL:=hide hO.len
        have hsz:=hKp.1.size
        by_cases hlt:j < nO
        · have hjl:j < obs.length:=by rw [HOL.out]; exact hlt
          obtain ⟨ad,hA,had0,had,hc⟩:=(hO.kp hKp.1).row.at_ hlt
          have e0:=hc obs[j].val (by simp [List.getElem?_eq_getElem hjl])
          have hEach:=hO.each _ (List.getElem_mem hjl)
          have hFl:=hO.flen (List.getElem_mem hjl)
          have hF1:=hF _ (List.getElem_mem hjl)
          have HT:=hide (List.take_succ_eq_append_getElem hjl)
          obtain ⟨o,ho⟩:∃ o,obs[j]=o:=⟨_,rfl⟩
          rw [ho] at e0 HT hEach hFl hF1
          unfold Ob.val at e0
          subst hA
          have HFL:=hide hFl
          have hsub:(obs.take j).flatMap Ob.fields ++ o.fields <+: obs.flatMap Ob.fields:=by
            have h2:=(List.take_prefix (j + 1) obs)
            obtain ⟨r,hr⟩:=h2
            rw [HT.out] at hr
            have h5:=congrArg (fun l => l.flatMap Ob.fields) hr
            simp only [List.flatMap_append,List.flatMap_cons,List.flatMap_nil,List.append_nil] at h5
            exact ⟨_,h5⟩
          have HSUB:=hide hsub
          clear hc ho hFl hsub
          have hsz2:n₀ ≤ wr.heap.size:=by omega
          have hsz3:Bg < wr.heap.size:=by omega
          have HJ0:=hide (hJ _ _ _ none hJs (World.grownBy_alloc wr (.cells #[.slice o.A o.n o.c] 83) none) (fun r e => by cases e))
          have HK0:=hide (hKp.trans_ (KpG.alloc (n₀:=n₀) hsz2 hsz3 (.cells #[.slice o.A o.n o.c] 83)))
          clear hJs hKp hsz
          gi_wp2
          gi_loopw [31] (fun i w3 => ∃ p:Nat,p ≤ o.n ∧ i=.int .i64 p ∧ J (roots ++ (obs.take j).flatMap Ob.fields ++ o.fields.take p) w3 ∧ KpG n₀ Bg W w3) (fun i _ => o.n - (intOf i).toNat)
          case atStart => exact ⟨0,Nat.zero_le _,rfl,by simpa using HJ0.out,HK0.out⟩
          case round =>
            clear HJ0 HK0 e0 hsz2 hsz3 had
            obtain ⟨p,hp,rfl,hJs,hKp⟩:=hrel
            have hsz:=hKp.1.size
            by_cases hlp:p < o.n
            · have hpl:p < o.fields.length:=by rw [HFL.out]; exact hlp
              obtain ⟨ad2,hA2,had02,had2,hc2,hd2⟩:=(hEach.kp hKp.1).atN hlp
              obtain ⟨v0,v1⟩:=vals_at o.fields p hpl
              have e0:=hc2 _ v0
              have e1:=hd2 0 _ v1
              have HT2:=hide (List.take_succ_eq_append_getElem hpl)
              obtain ⟨x,hx⟩:∃ x,o.fields[p]=x:=⟨_,rfl⟩
              rw [hx] at e0 e1 HT2
              rw [hA2]
              have HA2:=hide hA2
              have hpre:roots ++ (obs.take j).flatMap Ob.fields ++ o.fields.take (p + 1) <+: allVals obs roots:=by
                unfold allVals
                rw [List.append_assoc]
                refine List.prefix_append_right_inj _ |>.2 ?_
                exact (List.prefix_append_right_inj _ |>.2 (List.take_prefix _ _)).trans HSUB.out
              have HPRE:=hide hpre
              have hlen2:(roots ++ (obs.take j).flatMap Ob.fields ++ o.fields.take p).length < (allVals obs roots).length:=by
                have h3:=hpre.length_le
                rw [HT2.out] at h3
                simp only [List.length_append,List.length_singleton] at h3 ⊢
                omega
              clear hc2 hd2 v0 v1 hx hA2 hpre
              obtain ⟨fn,tmps,assign,body,hy,hR'⟩:=hY _ x (wr.alloc (.cells #[.bool x.1,.int .i64 x.2] 63)) (hJ _ _ _ none hJs (World.grownBy_alloc wr _ none) (fun r e => by cases e)) hlen2
              unfold encVal at hy
              clear hlen2
              gi_wp2
              refine hR'.mono ?_
              rintro e W3 (⟨rfl,hJ3,hk3⟩ | ⟨rfl,hJx3⟩)
              · gi_wp2
                go_roundw
                case rel => exact ⟨p + 1,by omega,by go_num,by rw [HT2.out,← List.append_assoc]; exact hJ3,hKp.trans_ (KpG.trans_ (KpG.alloc (by omega) (by omega) _) hk3)⟩
                case measure => simp [intOf]; omega
              · gi_wp2
                refine bodyPost_ret (results_none rfl _ _ _) rfl ?_
                exact ⟨⟨_,rfl⟩,.inr ⟨_,by have:=HPRE.out; rw [HT2.out,← List.append_assoc] at this; exact this,hJx3⟩⟩
            · obtain rfl:p=o.n:=by omega
              rw [show o.fields.take o.n=o.fields from List.take_of_length_le (by rw [HFL.out]; omega)] at hJs
              gi_wp2
              go_roundw
              case rel => exact ⟨j + 1,by omega,by go_num,by rw [HT.out,List.flatMap_append,List.flatMap_cons,List.flatMap_nil,List.append_nil,← List.append_assoc]; exact hJs,hKp⟩
              case measure => simp [intOf]; omega
        · obtain rfl:j=nO:=by omega
          rw [show obs.take j=obs from List.take_of_length_le (by rw [HOL.out]; omega)] at hJs
          gi_wp2
          go_end0
          exact ⟨⟨_,rfl⟩,.inl ⟨_,rfl,hJs⟩⟩
end Go.Proofs.YtjphckfbbiehdaaGreat

namespace Go.Proofs.YtjphckfbbiehdaaGreat
open Go.RowKit Go.Shelf
attribute [local go_sem] Oper.semAt_some
def badArg (nO:Nat) (v:Val):Bool:=v.1 && (decide (v.2 < 0) || decide ((nO:Int) ≤ v.2))
def badRange (v:Val):Bool:=!v.1 && (decide (v.2 < -4611686018427387904) || decide (4611686018427387903 < v.2))
def gcheck (nO nR:Nat) (obs:List Ob) (roots:List Val):Int :=
  if 24 < nO ∨ 8 < nR ∨ obs.any large=true then 1 else if (allVals obs roots).any (badArg nO)=true then 2 else if (allVals obs roots).any badRange=true then 3 else 0
set_option maxHeartbeats 400000 in
theorem values_in (F:Fence) (n:Nat) (h:F.fn 36) (hro:F.round=none) (AO AR:Option Addr) (nO cO nR cR:Nat) (w:World) :
    CallsIn F n Tryz.prog 36 #[.agg #[.slice AO nO cO,.slice AR nR cR]] w fun e w' => e=.returned (.func (.func 57) #[] #[.pointer (some ⟨w.heap.size,0,none⟩)]) ∧ w'=w.alloc (.cells #[.slice AO nO cO,.slice AR nR cR] 25):=by
  refine callsIn_of_wp Tryz.func36 rfl h ?_ hro
  simp only [Tryz.ntmps36,List.size_toArray,List.length_cons,List.length_nil,Nat.reduceAdd,Nat.reduceSub,Array.replicate_succ,Array.replicate_zero,List.push_toArray,List.append_toArray,List.nil_append,List.cons_append]
  gi_wp2
  go_ret
  exact ⟨rfl,rfl⟩
theorem values_stops (F:Fence) (n:Nat) (h7:F.fn 57) (hro:F.round=none) (hn:1 ≤ n) (Bg n₀:Nat) (AO AR:Option Addr) (nO cO nR cR:Nat) (obs:List Ob) (roots:List Val) (hnO:nO ≤ 1000) (hnR:nR ≤ 1000) (hF:∀ o ∈ obs,o.n ≤ 1000)
    (w:World) (hn₀:n₀ ≤ w.heap.size) (hB:w.heap[Bg]?=some (.cells #[.slice AO nO cO,.slice AR nR cR] 25 (0,0))) (hO:ObsRd w (fun g => g < n₀) AO nO obs) (hR:Rd w (fun g => g < n₀) 2 AR nR (vals roots)) :
    SeqStopsK F n Tryz.prog 57 #[.pointer (some ⟨Bg,0,none⟩)] encVal (KpG n₀ Bg) (fun ys => ys=allVals obs roots) (fun pre => pre <+: allVals obs roots) (allVals obs roots).length w:=fun l J Jx W hW hJ _ hY h0 =>
  values1_in F n h7 hro hn l Bg n₀ AO AR nO cO nR cR obs roots hnO hnR hF J Jx hY W hJ (Nat.le_trans hn₀ hW.size) ((hW.block Bg (Array.getElem?_eq_some_iff.1 hB).1).trans hB) (hO.kp (hW.mono hn₀)) (hR.kp (hW.mono hn₀)) h0
set_option maxRecDepth 100000 in
set_option maxHeartbeats 4000000 in
theorem gcheck_large (w:World) (AO AR:Option Addr) (nO cO nR cR:Nat) (obs:List Ob) (hO:ObsRd w (fun _ => True) AO nO obs) (h:24 < nO ∨ 8 < nR ∨ obs.any large=true) :
    CallsIn Fence.wide 10 Tryz.prog 12 #[.agg #[.slice AO nO cO,.slice AR nR cR]] w fun e w' => e=.returned (.int .i64 1) ∧ Below w.heap.size w w':=by
  refine callsIn_of_wp_marks Tryz.func12 rfl trivial ?_ rfl
  simp only [Tryz.ntmps12,List.size_toArray,List.length_cons,List.length_nil,Nat.reduceAdd,Nat.reduceSub,Array.replicate_succ,Array.replicate_zero,List.push_toArray,List.append_toArray,List.nil_append,List.cons_append]
  have c1:=contains_large ((w.alloc (.cells #[.slice AO nO cO,.slice AR nR cR] 25)).alloc (.cells #[.int .i64 0] 28)) AO nO cO obs
  by_cases h1:24 < nO
  · clear h c1
    gi_wp2
    refine ⟨trivial,?_⟩
    gi_wp2
    exact ⟨.int .i64 1,by simp [results,Tryz.f12,go_sem],rfl,(by repeat (first | with_reducible exact Below.refl _ _ | with_reducible (refine Below.setCell ?_ (by first | omega | (simp; done) | (simp; omega)) _) | with_reducible (refine Below.alloc ?_ (by first | omega | (simp; done) | (simp; omega)) _) | with_reducible refine Below.drew ?_ | with_reducible refine below_drewN ?_ _))⟩
  by_cases h2:8 < nR
  · clear h c1
    gi_wp2
    refine ⟨trivial,?_⟩
    gi_wp2
    exact ⟨.int .i64 1,by simp [results,Tryz.f12,go_sem],rfl,(by repeat (first | with_reducible exact Below.refl _ _ | with_reducible (refine Below.setCell ?_ (by first | omega | (simp; done) | (simp; omega)) _) | with_reducible (refine Below.alloc ?_ (by first | omega | (simp; done) | (simp; omega)) _) | with_reducible refine Below.drew ?_ | with_reducible refine below_drewN ?_ _))⟩
  have h3:obs.any large=true:=by
    rcases h with h | h | h
    · exact absurd h h1
    · exact absurd h h2
    · exact h
  have C:=hide (c1 (by omega) (hO.below (((Below.refl _ w).alloc (Nat.le_refl _) _).alloc (by simp) _)))
  rw [h3] at C
  have bE:=(Blk.new (w.alloc (.cells #[.slice AO nO cO,.slice AR nR cR] 25)) 28 #[.int .i64 0])
  rw [World.size_alloc] at bE
  have BE:=hide bE
  clear c1 h h3 bE
  gi_wp2
  refine ⟨trivial,?_⟩
  refine (callsIn_wide.2 C.out).mono ?_
  rintro e w1 ⟨rfl,hb1⟩
  have bE:=BE.out.below_ hb1
  obtain ⟨p1,p2,p3⟩:=bE.rules
  have hz:=hb1.size
  simp at hz
  gi_wp2
  have hc:(w1.setCell ⟨w.heap.size + 1,0,none⟩ (.int .i64 1)).cell? ⟨w.heap.size + 1,0,none⟩=some (.int .i64 1):=World.cell?_setCell_same' _ _ _ (by rw [p1]; rfl)
  exact ⟨.int .i64 1,by simp [results,Tryz.f12,go_sem,hc],rfl,((((Below.refl _ w).alloc (Nat.le_refl _) _).alloc (by simp) _).trans (hb1.mono (by simp; omega))).setCell (p:=⟨w.heap.size + 1,0,none⟩) (by simp) _⟩
theorem blk_own {β:Type} (B:Nat) (t:TypeId) (cs:Array Value):Own (fun (_:β) W => Blk W B t cs):=fun s X Y row hs hg hrow =>
  hs.grown hg (fun e' => by obtain ⟨o,ho,hc⟩:=hrow B e'.symm; rw [show X.heap[B]?=_ from hs] at ho; cases ho; cases hc)
theorem ownFrom_old {β:Type} {B D:Nat} {o:Obj} (hD:D < B):OwnFrom B (fun (_:β) W => W.heap[D]?=some o):=fun s X Y row hs hg hr =>
  (hg.block D (Array.getElem?_eq_some_iff.1 hs).1 (fun e => by have:=(hr _ e.symm).1; omega)).trans hs
theorem kpG_b {n₀ Bg:Nat} {w:World} (hn:n₀ ≤ w.heap.size) (hB:Bg < w.heap.size) (W:World) (l:Nat) (o o':Obj) (hl:w.heap.size ≤ l) (h:W.heap[l]?=some o) (h1:o.isCells=false) (h2:o.isWalk=false):KpG n₀ Bg W (W.putObj l o') :=
  ⟨belowK_b hn W l o o' hl h h1 h2,World.putObj_heap_other (by omega)⟩
theorem any_prefix {α:Type} {p:α → Bool} {l m:List α} (h:l <+: m) (hl:l.any p=true):m.any p=true:=by
  obtain ⟨r,rfl⟩:=h
  simp [hl]
def bad1 (nO:Nat) (l:List Val):Bool:=l.any (badArg nO)
def bad2 (l:List Val):Bool:=l.any badRange
def gres (nO:Nat) (l:List Val):Int:=if bad1 nO l=true then 2 else if bad2 l=true then 3 else 0
theorem bad1_snoc (nO:Nat) (pre:List Val) (x:Val) (h:bad1 nO pre=false):bad1 nO (pre ++ [x])=badArg nO x:=by unfold bad1 at *; simp [h]
theorem bad2_snoc (pre:List Val) (x:Val) (h:bad2 pre=false):bad2 (pre ++ [x])=badRange x:=by unfold bad2 at *; simp [h]
set_option maxRecDepth 100000 in
set_option maxHeartbeats 16000000 in
theorem gcheck_in (w:World) (AO AR:Option Addr) (nO cO nR cR:Nat) (obs:List Ob) (roots:List Val) (hO:ObsRd w (fun _ => True) AO nO obs) (hR:Rd w (fun _ => True) 2 AR nR (vals roots)) (h1:nO ≤ 24) (h2:nR ≤ 8) (h3:obs.any large=false) :
    CallsIn Fence.wide 10 Tryz.prog 12 #[.agg #[.slice AO nO cO,.slice AR nR cR]] w fun e w' => e=.returned (.int .i64 (gres nO (allVals obs roots))) ∧ Below w.heap.size w w':=by
  refine callsIn_of_wp_marks Tryz.func12 rfl trivial ?_ rfl
  simp only [Tryz.ntmps12,List.size_toArray,List.length_cons,List.length_nil,Nat.reduceAdd,Nat.reduceSub,Array.replicate_succ,Array.replicate_zero,List.push_toArray,List.append_toArray,List.nil_append,List.cons_append]
  have hB0:Below w.heap.size w ((w.alloc (.cells #[.slice AO nO cO,.slice AR nR cR] 25)).alloc (.cells #[.int .i64 0] 28)):=((Below.refl _ w).alloc (Nat.le_refl _) _).alloc (by simp) _
  have c1:=contains_large ((w.alloc (.cells #[.slice AO nO cO,.slice AR nR cR] 25)).alloc (.cells #[.int .i64 0] 28)) AO nO cO obs (by omega) (hO.below hB0)
  rw [h3] at c1
  have C:=hide c1
  have bE:=(Blk.new (w.alloc (.cells #[.slice AO nO cO,.slice AR nR cR] 25)) 28 #[.int .i64 0])
  rw [World.size_alloc] at bE
  have BE:=hide bE
  have BG:=hide ((Blk.new w 25 #[.slice AO nO cO,.slice AR nR cR]).alloc (.cells #[.int .i64 0] 28))
  have HB0:=hide hB0
  have hfl:∀ o ∈ obs,o.n ≤ 1000:=fun o ho => by
    have h5:=List.any_eq_false.1 h3 o ho
    unfold large at h5
    simp at h5
    omega
  have HFL:=hide hfl
  have hO0:ObsRd w (fun g => g < w.heap.size) AO nO obs:=hO.more (fun k hk _ => hk)
  have hR0:Rd w (fun g => g < w.heap.size) 2 AR nR (vals roots):=hR.more (fun k hk _ => hk)
  clear c1 bE hB0 hfl h3 hO hR
  gi_wp2
  refine ⟨trivial,?_⟩
  refine (callsIn_wide.2 C.out).mono ?_
  rintro e w1 ⟨rfl,hb1⟩
  have bE:=BE.out.below_ hb1
  have bG:=BG.out.below_ hb1
  have hz:=hb1.size
  simp at hz
  have hB1:Below w.heap.size w w1:=HB0.out.trans (hb1.mono (by simp; omega))
  obtain ⟨p1,p2,p3⟩:=bG.rules
  clear C BE BG HB0 hb1
  gi_wp2_with (refine ⟨trivial,?_⟩; gi_at_call 36; refine (values_in Fence.wide 9 trivial rfl _ _ _ _ _ _ _).mono ?_; rintro e w2 ⟨rfl,rfl⟩)
  have bN:=Blk.new w1 25 #[.slice AO nO cO,.slice AR nR cR]
  have hB2:=hB1.alloc hB1.size (.cells #[.slice AO nO cO,.slice AR nR cR] 25)
  have bE:=bE.alloc (.cells #[.slice AO nO cO,.slice AR nR cR] 25)
  have bG:=bG.alloc (.cells #[.slice AO nO cO,.slice AR nR cR] 25)
  have hz1:(w1.alloc (.cells #[.slice AO nO cO,.slice AR nR cR] 25)).heap.size=w1.heap.size + 1:=by simp
  obtain ⟨W0,hW0⟩:∃ W0,w1.alloc (.cells #[.slice AO nO cO,.slice AR nR cR] 25)=W0:=⟨_,rfl⟩
  rw [hW0] at bN hB2 bE bG hz1 ⊢
  clear hW0 p1 p2 p3
  refine wpIn_rangeFunc_ownH rfl (by omega) (gf:=57) (lb:=#[.pointer (some ⟨w1.heap.size,0,none⟩)]) rfl trivial (enters_of Tryz.func57 (by kernel_rfl) rfl)
    (values_stops Fence.wide 9 trivial rfl (by omega) w1.heap.size w.heap.size AO AR nO cO nR cR obs roots (by omega) (by omega) HFL.out W0 (by omega) bN (hO0.kp hB2) (hR0.kp hB2))
    (fun h k => h.trans_ k) (kpG_b (by omega) (by omega)) (Below.refl _ _) (fun _ => rfl)
    (fun pre W => (((bad1 nO pre=false ∧ Blk W w.heap.size 25 #[.slice AO nO cO,.slice AR nR cR]) ∧ Blk W w1.heap.size 25 #[.slice AO nO cO,.slice AR nR cR]) ∧ Blk W (w.heap.size + 1) 28 #[.int .i64 0]) ∧ Below w.heap.size w W)
    (fun c pre W => ((c=.ret ∧ bad1 nO pre=true) ∧ Blk W (w.heap.size + 1) 28 #[.int .i64 2]) ∧ Below w.heap.size w W)
    (OwnFrom.and (OwnFrom.and (OwnFrom.and (OwnFrom.and (fun _ _ _ _ hs _ _ => hs) (Own.from (blk_own _ _ _) _)) (Own.from (blk_own _ _ _) _)) (Own.from (blk_own _ _ _) _)) (ownFrom_below (Nat.le_refl _) (by omega)))
    (fun c => OwnFrom.and (OwnFrom.and (fun _ _ _ _ hs _ _ => hs) (Own.from (blk_own _ _ _) _)) (ownFrom_below (Nat.le_refl _) (by omega)))
    ⟨⟨⟨⟨rfl,bG⟩,bN⟩,bE⟩,hB2⟩
    (fun x a' W => ∃ Bx,w.heap.size + 1 < Bx ∧ Blk W Bx 63 #[.bool x.1,.int .i64 x.2] ∧ a'={ tmps:=#[.agg #[.slice AO nO cO,.slice AR nR cR],.pointer (some ⟨w.heap.size,0,none⟩),.pointer (some ⟨w.heap.size + 1,0,none⟩),.func (.func 34) #[] #[],.pointer (some ⟨Bx,0,none⟩),undef,.pointer (some ⟨w.heap.size,0,none⟩),.slice AO nO cO,.int .i64 nO,.bool (decide ((24:Int) < nO)),.bool (decide ((24:Int) < nO)),.pointer (some ⟨w.heap.size,1,none⟩),.slice AR nR cR,.int .i64 nR,.bool (decide ((8:Int) < nR)),.bool (decide ((24:Int) < nO) || decide ((8:Int) < nR)),.bool (decide ((24:Int) < nO) || decide ((8:Int) < nR)),.pointer (some ⟨w.heap.size,0,none⟩),.slice AO nO cO,.func (.func 34) #[] #[],.bool false,.bool (decide ((24:Int) < nO) || decide ((8:Int) < nR)),.agg #[.slice AO nO cO,.slice AR nR cR],.func (.func 57) #[] #[.pointer (some ⟨w1.heap.size,0,none⟩)],.agg #[.bool x.1,.int .i64 x.2],undef,undef,undef,undef,undef,undef,undef,undef,undef,undef,undef,undef,undef,undef,undef,undef,undef,undef,undef,undef,undef,undef,undef,undef,undef,undef,undef,undef,undef,undef,undef],defers:=[] })
    (fun x a' _ X Y row hs hg hr => by obtain ⟨Bx,h1,h2,h3⟩:=hs; exact ⟨Bx,h1,blk_own Bx 63 #[.bool x.1,.int .i64 x.2] () X Y row h2 hg (fun r e => (hr r e).2),h3⟩)
    ?assign ?body ?done ?stop
  case assign =>
    rintro l pre x W K ⟨⟨⟨⟨hp,bG1⟩,bN1⟩,bE1⟩,hB3⟩ hK
    unfold encVal
    gi_wp2
    exact hK _ _ ((KeepsOthers.alloc _ _).from _) (KpG.alloc hB3.size bN1.lt _) ⟨⟨⟨⟨hp,bG1.alloc _⟩,bN1.alloc _⟩,bE1.alloc _⟩,hB3.alloc hB3.size _⟩ ⟨W.heap.size,bE1.lt,Blk.new W _ _,rfl⟩
  case body =>
    rintro l pre x a' W hl hr ⟨⟨⟨⟨hp,bG1⟩,bN1⟩,bE1⟩,hB3⟩ ⟨Bx,hBx,bX,rfl⟩ hlt
    obtain ⟨x1,x2,x3⟩:=bX.rules
    obtain ⟨e1,e2,e3⟩:=bE1.rules
    obtain ⟨g1,g2,g3⟩:=bG1.rules
    have HS:=hide (bad1_snoc nO pre x hp)
    have HP:=hide hp
    clear hp hl hr hlt
    obtain ⟨b,k⟩:=x
    dsimp only at x1
    cases b with
    | false =>
      gi_wp2
      · rename_i hx hy
        first | (cases hx) | (simp [undef] at hx)
      · rename_i hx hy
        first | (cases hx) | (simp [undef] at hx)
      · exact ⟨KeepsFrom.refl _ _,⟨Below.refl _ _,rfl⟩,⟨⟨⟨by rw [HS.out]; rfl,bG1⟩,bN1⟩,bE1⟩,hB3⟩
    | true =>
      by_cases hk0:k < 0
      · have k1:decide (k < 0)=true:=by simp [hk0]
        have HQ:=hide (show badArg nO (true,k)=true from by simp [badArg,hk0])
        clear hk0
        gi_wp2
        exact ⟨(KeepsOthers.setCell _ _ _).from _,⟨⟨rfl,by rw [HS.out]; exact HQ.out⟩,bE1.set_ 0 _⟩,hB3.setCell (p:=⟨w.heap.size + 1,0,none⟩) (by simp) _⟩
      · have k1:decide (k < 0)=false:=by simp [hk0]
        by_cases hkn:(nO:Int) ≤ k
        · have k2:decide ((nO:Int) ≤ k)=true:=by simp [hkn]
          have HQ:=hide (show badArg nO (true,k)=true from by simp [badArg,hkn])
          clear hk0 hkn
          gi_wp2
          exact ⟨(KeepsOthers.setCell _ _ _).from _,⟨⟨rfl,by rw [HS.out]; exact HQ.out⟩,bE1.set_ 0 _⟩,hB3.setCell (p:=⟨w.heap.size + 1,0,none⟩) (by simp) _⟩
        · have k2:decide ((nO:Int) ≤ k)=false:=by simp [hkn]
          have HQ:=hide (show badArg nO (true,k)=false from by simp [badArg,k1,k2])
          clear hk0 hkn
          gi_wp2
          exact ⟨KeepsFrom.refl _ _,⟨Below.refl _ _,rfl⟩,⟨⟨⟨by rw [HS.out]; exact HQ.out,bG1⟩,bN1⟩,bE1⟩,hB3⟩
  case stop =>
    rintro D c pre W hD hpre ⟨⟨⟨rfl,hany⟩,bE1⟩,hB3⟩ hK
    obtain ⟨e1,e2,e3⟩:=bE1.rules
    have hc5:(W.putObj D (.deferred none)).cell? ⟨w.heap.size + 1,0,none⟩=some (.int .i64 2):=cell_kept (by rw [e1]; rfl) (grownBy_putObj' _ D (.deferred none)) (fun r e => by cases e; exact ⟨_,hK,rfl⟩)
    have HA:=hide (any_prefix hpre hany)
    clear hany hpre
    gi_wp2
    refine ⟨by simp,.inl ⟨_,_,rfl,run_takeDeferred hK,?_⟩⟩
    exact ⟨.int .i64 2,by simp [results,Tryz.f12,go_sem,hc5],by rw [show gres nO (allVals obs roots)=2 from if_pos HA.out],hB3.trans (belowK_b (w:=w) (Nat.le_refl _) W D _ _ (by omega) hK rfl rfl)⟩
  case done =>
    rintro D ys W hD rfl ⟨⟨⟨⟨hp,bG1⟩,bN1⟩,bE1⟩,hB3⟩ hK
    obtain ⟨g1,g2,g3⟩:=bG1.rules
    have HP:=hide hp
    have hDW:=(Array.getElem?_eq_some_iff.1 hK).1
    clear hp bN bE bG bN1 hB1 hB2
    gi_wp2_with (refine ⟨trivial,?_⟩; gi_at_call 36; refine (values_in Fence.wide 9 trivial rfl _ _ _ _ _ _ _).mono ?_; rintro e w2 ⟨rfl,rfl⟩)
    have bM:=Blk.new W 25 #[.slice AO nO cO,.slice AR nR cR]
    have hB4:=hB3.alloc hB3.size (.cells #[.slice AO nO cO,.slice AR nR cR] 25)
    have bF:=bE1.alloc (.cells #[.slice AO nO cO,.slice AR nR cR] 25)
    have hK2:=(Below.heap_alloc W (.cells #[.slice AO nO cO,.slice AR nR cR] 25) D hDW).trans hK
    have hz2:(W.alloc (.cells #[.slice AO nO cO,.slice AR nR cR] 25)).heap.size=W.heap.size + 1:=by simp
    have hz3:=hB3.size
    obtain ⟨V0,hV0⟩:∃ V0,W.alloc (.cells #[.slice AO nO cO,.slice AR nR cR] 25)=V0:=⟨_,rfl⟩
    rw [hV0] at bM hB4 bF hK2 hz2 ⊢
    clear hV0 g1 g2 g3 bE1 bG1 hK
    refine wpIn_rangeFunc_ownH rfl (by omega) (gf:=57) (lb:=#[.pointer (some ⟨W.heap.size,0,none⟩)]) rfl trivial (enters_of Tryz.func57 (by kernel_rfl) rfl)
      (values_stops Fence.wide 9 trivial rfl (by omega) W.heap.size w.heap.size AO AR nO cO nR cR obs roots (by omega) (by omega) HFL.out V0 (by omega) bM (hO0.kp hB4) (hR0.kp hB4))
      (fun h k => h.trans_ k) (kpG_b (by omega) (by omega)) (Below.refl _ _) (fun _ => rfl)
      (fun pre U => (((bad2 pre=false ∧ U.heap[D]?=some (.deferred (some []))) ∧ Blk U W.heap.size 25 #[.slice AO nO cO,.slice AR nR cR]) ∧ Blk U (w.heap.size + 1) 28 #[.int .i64 0]) ∧ Below w.heap.size w U)
      (fun c pre U => (((c=.ret ∧ bad2 pre=true) ∧ U.heap[D]?=some (.deferred (some []))) ∧ Blk U (w.heap.size + 1) 28 #[.int .i64 3]) ∧ Below w.heap.size w U)
      (OwnFrom.and (OwnFrom.and (OwnFrom.and (OwnFrom.and (fun _ _ _ _ hs _ _ => hs) (ownFrom_old (by omega))) (Own.from (blk_own _ _ _) _)) (Own.from (blk_own _ _ _) _)) (ownFrom_below (Nat.le_refl _) (by omega)))
      (fun c => OwnFrom.and (OwnFrom.and (OwnFrom.and (fun _ _ _ _ hs _ _ => hs) (ownFrom_old (by omega))) (Own.from (blk_own _ _ _) _)) (ownFrom_below (Nat.le_refl _) (by omega)))
      ⟨⟨⟨⟨rfl,hK2⟩,bM⟩,bF⟩,hB4⟩
      (fun x a' U => ∃ Bx,w.heap.size + 1 < Bx ∧ Blk U Bx 63 #[.bool x.1,.int .i64 x.2] ∧ a'={ tmps:=#[.agg #[.slice AO nO cO,.slice AR nR cR],.pointer (some ⟨w.heap.size,0,none⟩),.pointer (some ⟨w.heap.size + 1,0,none⟩),.func (.func 34) #[] #[],undef,.pointer (some ⟨Bx,0,none⟩),.pointer (some ⟨w.heap.size,0,none⟩),.slice AO nO cO,.int .i64 nO,.bool (decide ((24:Int) < nO)),.bool (decide ((24:Int) < nO)),.pointer (some ⟨w.heap.size,1,none⟩),.slice AR nR cR,.int .i64 nR,.bool (decide ((8:Int) < nR)),.bool (decide ((24:Int) < nO) || decide ((8:Int) < nR)),.bool (decide ((24:Int) < nO) || decide ((8:Int) < nR)),.pointer (some ⟨w.heap.size,0,none⟩),.slice AO nO cO,.func (.func 34) #[] #[],.bool false,.bool (decide ((24:Int) < nO) || decide ((8:Int) < nR)),.agg #[.slice AO nO cO,.slice AR nR cR],.func (.func 57) #[] #[.pointer (some ⟨w1.heap.size,0,none⟩)],undef,undef,undef,undef,undef,undef,undef,undef,undef,undef,undef,undef,undef,undef,undef,undef,.agg #[.slice AO nO cO,.slice AR nR cR],.func (.func 57) #[] #[.pointer (some ⟨W.heap.size,0,none⟩)],.agg #[.bool x.1,.int .i64 x.2],undef,undef,undef,undef,undef,undef,undef,undef,undef,undef,undef,undef,undef],defers:=[] })
      (fun x a' _ X Y row hs hg hr => by obtain ⟨Bx,h1,h2,h3⟩:=hs; exact ⟨Bx,h1,blk_own Bx 63 #[.bool x.1,.int .i64 x.2] () X Y row h2 hg (fun r e => (hr r e).2),h3⟩)
      ?assign2 ?body2 ?done2 ?stop2
    case assign2 =>
      rintro l pre x U K ⟨⟨⟨⟨hp,hKu⟩,bM1⟩,bF1⟩,hB5⟩ hK
      unfold encVal
      gi_wp2
      exact hK _ _ ((KeepsOthers.alloc _ _).from _) (KpG.alloc hB5.size bM1.lt _) ⟨⟨⟨⟨hp,(Below.heap_alloc U _ D (Array.getElem?_eq_some_iff.1 hKu).1).trans hKu⟩,bM1.alloc _⟩,bF1.alloc _⟩,hB5.alloc hB5.size _⟩ ⟨U.heap.size,bF1.lt,Blk.new U _ _,rfl⟩
    case body2 =>
      rintro l pre x a' U hl hr ⟨⟨⟨⟨hp,hKu⟩,bM1⟩,bF1⟩,hB5⟩ ⟨Bx,hBx,bX,rfl⟩ hlt
      obtain ⟨x1,x2,x3⟩:=bX.rules
      obtain ⟨e1,e2,e3⟩:=bF1.rules
      have HS:=hide (bad2_snoc pre x hp)
      have HKU:=hide hKu
      have hDne:D ≠ w.heap.size + 1:=by omega
      clear hp hl hr hlt hKu
      obtain ⟨b,k⟩:=x
      dsimp only at x1
      cases b with
      | true =>
        gi_wp2
        exact ⟨KeepsFrom.refl _ _,⟨Below.refl _ _,rfl⟩,⟨⟨⟨by rw [HS.out]; rfl,HKU.out⟩,bM1⟩,bF1⟩,hB5⟩
      | false =>
        by_cases hk0:k < -4611686018427387904
        · have k1:decide (k < -4611686018427387904)=true:=by simp [hk0]
          have HQ:=hide (show badRange (false,k)=true from by simp [badRange,hk0])
          clear hk0
          gi_wp2
          exact ⟨(KeepsOthers.setCell _ _ _).from _,⟨⟨⟨rfl,by rw [HS.out]; exact HQ.out⟩,(Below.heap_setCell U ⟨w.heap.size + 1,0,none⟩ _ D hDne).trans HKU.out⟩,bF1.set_ 0 _⟩,hB5.setCell (p:=⟨w.heap.size + 1,0,none⟩) (by simp) _⟩
        · have k1:decide (k < -4611686018427387904)=false:=by simp only [hk0,decide_false]
          by_cases hkn:4611686018427387903 < k
          · have k2:decide (4611686018427387903 < k)=true:=by simp [hkn]
            have HQ:=hide (show badRange (false,k)=true from by simp [badRange,hkn])
            clear hk0 hkn
            gi_wp2
            exact ⟨(KeepsOthers.setCell _ _ _).from _,⟨⟨⟨rfl,by rw [HS.out]; exact HQ.out⟩,(Below.heap_setCell U ⟨w.heap.size + 1,0,none⟩ _ D hDne).trans HKU.out⟩,bF1.set_ 0 _⟩,hB5.setCell (p:=⟨w.heap.size + 1,0,none⟩) (by simp) _⟩
          · have k2:decide (4611686018427387903 < k)=false:=by simp only [hkn,decide_false]
            have HQ:=hide (show badRange (false,k)=false from by unfold badRange; rw [k1,k2]; rfl)
            clear hk0 hkn
            gi_wp2
            exact ⟨KeepsFrom.refl _ _,⟨Below.refl _ _,rfl⟩,⟨⟨⟨by rw [HS.out]; exact HQ.out,HKU.out⟩,bM1⟩,bF1⟩,hB5⟩
    case stop2 =>
      rintro D2 c pre U hD2 hpre ⟨⟨⟨⟨rfl,hany⟩,hKu⟩,bF1⟩,hB5⟩ hK
      obtain ⟨e1,e2,e3⟩:=bF1.rules
      have hne:D ≠ D2:=by omega
      have hK3:(U.putObj D2 (.deferred none)).heap[D]?=some (.deferred (some [])):=(World.putObj_heap_other hne).trans hKu
      have hc5:(U.putObj D2 (.deferred none)).cell? ⟨w.heap.size + 1,0,none⟩=some (.int .i64 3):=cell_kept (by rw [e1]; rfl) (grownBy_putObj' _ D2 (.deferred none)) (fun r e => by cases e; exact ⟨_,hK,rfl⟩)
      have hc6:((U.putObj D2 (.deferred none)).putObj D (.deferred none)).cell? ⟨w.heap.size + 1,0,none⟩=some (.int .i64 3):=cell_kept hc5 (grownBy_putObj' _ D (.deferred none)) (fun r e => by cases e; exact ⟨_,hK3,rfl⟩)
      have HA:=hide (any_prefix hpre hany)
      clear hany hpre
      gi_wp2
      refine ⟨by simp,.inl ⟨_,_,rfl,run_takeDeferred hK,?_⟩⟩
      refine ⟨by simp,.inl ⟨_,_,rfl,run_takeDeferred hK3,?_⟩⟩
      exact ⟨.int .i64 3,by simp [results,Tryz.f12,go_sem,hc6],by rw [show gres nO (allVals obs roots)=3 from (if_neg (by rw [HP.out]; simp)).trans (if_pos HA.out)],(hB5.trans (belowK_b (w:=w) (Nat.le_refl _) U D2 _ _ (by omega) hK rfl rfl)).trans (belowK_b (w:=w) (Nat.le_refl _) _ D _ _ (by omega) hK3 rfl rfl)⟩
    case done2 =>
      rintro D2 ys U hD2 rfl ⟨⟨⟨⟨hp,hKu⟩,bM1⟩,bF1⟩,hB5⟩ hK
      obtain ⟨e1,e2,e3⟩:=bF1.rules
      have hne:D ≠ D2:=by omega
      have HA:=hide hp
      have bF2:=bF1.set_ 0 (.int .i64 0)
      have hB6:=hB5.setCell (p:=⟨w.heap.size + 1,0,none⟩) (by simp) (.int .i64 0)
      have hKu2:=(Below.heap_setCell U ⟨w.heap.size + 1,0,none⟩ (.int .i64 0) D (by show D ≠ w.heap.size + 1; omega)).trans hKu
      have hK2':=(Below.heap_setCell U ⟨w.heap.size + 1,0,none⟩ (.int .i64 0) D2 (by show D2 ≠ w.heap.size + 1; omega)).trans hK
      obtain ⟨U2,hU2⟩:∃ U2,U.setCell ⟨w.heap.size + 1,0,none⟩ (.int .i64 0)=U2:=⟨_,rfl⟩
      have HU2:=hide hU2
      rw [hU2] at bF2 hB6 hKu2 hK2'
      obtain ⟨i1,i2,i3⟩:=bF2.rules
      have hK3:(U2.putObj D2 (.deferred none)).heap[D]?=some (.deferred (some [])):=(World.putObj_heap_other hne).trans hKu2
      have hc5:(U2.putObj D2 (.deferred none)).cell? ⟨w.heap.size + 1,0,none⟩=some (.int .i64 0):=cell_kept (by rw [i1]; rfl) (grownBy_putObj' _ D2 (.deferred none)) (fun r e => by cases e; exact ⟨_,hK2',rfl⟩)
      have hc6:((U2.putObj D2 (.deferred none)).putObj D (.deferred none)).cell? ⟨w.heap.size + 1,0,none⟩=some (.int .i64 0):=cell_kept hc5 (grownBy_putObj' _ D (.deferred none)) (fun r e => by cases e; exact ⟨_,hK3,rfl⟩)
      clear hp hU2
      gi_wp2
      rw [HU2.out]
      refine ⟨by simp,.inl ⟨_,_,rfl,run_takeDeferred hK2',?_⟩⟩
      refine ⟨by simp,.inl ⟨_,_,rfl,run_takeDeferred hK3,?_⟩⟩
      exact ⟨.int .i64 0,by simp [results,Tryz.f12,go_sem,hc6],by rw [show gres nO (allVals obs roots)=0 from (if_neg (by rw [HP.out]; simp)).trans (if_neg (by rw [HA.out]; simp))],(hB6.trans (belowK_b (w:=w) (Nat.le_refl _) U2 D2 _ _ (by omega) hK2' rfl rfl)).trans (belowK_b (w:=w) (Nat.le_refl _) _ D _ _ (by omega) hK3 rfl rfl)⟩
theorem graphCheck_any (w:World) (AO AR:Option Addr) (nO cO nR cR:Nat) (obs:List Ob) (roots:List Val) (hO:ObsRd w (fun _ => True) AO nO obs) (hR:Rd w (fun _ => True) 2 AR nR (vals roots)) :
    Calls Tryz.prog 12 #[.agg #[.slice AO nO cO,.slice AR nR cR]] w fun e w' => e=.returned (.int .i64 (gcheck nO nR obs roots)) ∧ Below w.heap.size w w':=by
  unfold gcheck
  by_cases h:24 < nO ∨ 8 < nR ∨ obs.any large=true
  · rw [if_pos h]
    exact callsIn_wide.1 (gcheck_large w AO AR nO cO nR cR obs hO h)
  · rw [if_neg h]
    exact callsIn_wide.1 (gcheck_in w AO AR nO cO nR cR obs roots hO hR (by omega) (by omega) (by
      cases h3:obs.any large with
      | false => rfl
      | true => exact absurd (Or.inr (Or.inr h3)) h))
end Go.Proofs.YtjphckfbbiehdaaGreat

namespace Go.Proofs.YtjphckfbbiehdaaGreat
open Go.RowKit
theorem sVal:SliceT Tryz.prog 23 63 2 16:=SliceT.mk_ Tryz.underlying23 (z:=.agg #[.bool false,.int .i64 0]) (by kernel_rfl) rfl (by omega)
theorem vals_snoc (l:List Val) (x:Val):vals (l ++ [x])=vals l ++ [.bool x.1,.int .i64 x.2]:=by simp [vals]
end Go.Proofs.YtjphckfbbiehdaaGreat
