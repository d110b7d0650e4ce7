/- Part of a proof. -/
import Derived.Test.YtjphckfbbiehdaaGreatSTopAll35
import Derived.Test.YtjphckfbbiehdaaGreatSTopAll21
import Derived.Test.YtjphckfbbiehdaaGreatSTopAll25
import Derived.Test.YtjphckfbbiehdaaGreatSTopAll32
import Derived.Test.YtjphckfbbiehdaaGreatSTopAll18
import Derived.Test.YtjphckfbbiehdaaGreatSTopAll23
import Derived.Test.YtjphckfbbiehdaaGreatSTopAll22
import Derived.Shelf.SlGeneric
import Derived.Shelf.SlSortCmp.WholeK
import Derived.Test.YtjphckfbbiehdaaGreatProg
import Derived.Test.YtjphckfbbiehdaaGreatSTopAll17
import Derived.Test.YtjphckfbbiehdaaGreatSTopAll15
import Derived.Test.YtjphckfbbiehdaaGreatSTopAll11
import Derived.Test.YtjphckfbbiehdaaGreatSTopAll0
import Derived.Deep.RegionHeld3
set_option linter.unusedSimpArgs false
set_option linter.unusedVariables false
namespace Go.Proofs.YtjphckfbbiehdaaGreat
open Go.RowKit
def genErr (nO nR nd:Nat) (obs:List Ob) (roots:List Val) (R:Int):Int:=if gcheck nO nR obs roots ≠ 0 then gcheck nO nR obs roots else if R < 1 ∨ 64 < R then 3 else if 100 < nd then 1 else 0
set_option maxRecDepth 100000 in
set_option maxHeartbeats 8000000 in
theorem genPlay_no (w:World) (AO AR Ad:Option Addr) (nO cO nR cR nd cd:Nat) (obs:List Ob) (roots:List Val) (R:Int) (hO:ObsRd w (fun _ => True) AO nO obs) (hR:Rd w (fun _ => True) 2 AR nR (vals roots)) (hz:genErr nO nR nd obs roots R ≠ 0) :
    Calls Tryz.prog 9 #[.agg #[.slice AO nO cO,.slice AR nR cR],.int .i64 R,.slice Ad nd cd] w fun e w' => e=.returned (.tuple #[.agg #[.slice none 0 0,.slice none 0 0,.slice none 0 0],.int .i64 (genErr nO nR nd obs roots R)]) ∧ Below w.heap.size w w':=by
  obtain ⟨g,hg⟩:∃ g,w.heap.size=g:=⟨_,rfl⟩
  have hS0:=((Sep.nil No w).blkAt 25 #[.slice AO nO cO,.slice AR nR cR] hg).blkAt 46 #[.slice none 0 0,.slice none 0 0,.slice none 0 0] (g:=g + 1) (by simp [hg])
  have C1:=hide (graphCheck_any _ AO AR nO cO nR cR obs roots (hO.below hS0.below_) (hR.below hS0.below_))
  obtain ⟨a1,a2,a3,a4⟩:=hS0.rules 0 (g:=g) (t:=25) rfl
  have HS0:=hide hS0
  unfold genErr at hz ⊢
  obtain ⟨x,hx⟩:∃ x,gcheck nO nR obs roots=x:=⟨_,rfl⟩
  rw [hx] at C1 hz ⊢
  clear hS0 a4 hO hR hx
  by_cases h0:x=0
  · subst h0
    rw [if_neg (by simp)] at hz ⊢
    by_cases hb:R < 1 ∨ 64 < R
    · rw [if_pos hb]
      by_cases hb1:R < 1
      · have t1:decide (R < 1)=true:=by simp [hb1]
        clear hz hb hb1
        go_enter Tryz.func9,Tryz.ntmps9
        go_wp2_with fail
        refine C1.out.mono ?_
        rintro e w1 ⟨rfl,hb1⟩
        have hS2:=HS0.out.below hb1
        obtain ⟨x1,x2,x3,x4⟩:=hS2.rules 1 (g:=g + 1) (t:=46) rfl
        have HS2:=hide hS2
        clear hb1 hS2 HS0 C1 a1 a2 a3 x4
        go_wp2_with fail
        have hF:=((HS2.out.set_ 1 (g:=g + 1) (t:=46) rfl 0 (.slice none 0 0)).set_ 1 (g:=g + 1) (t:=46) rfl 1 (.slice none 0 0)).set_ 1 (g:=g + 1) (t:=46) rfl 2 (.slice none 0 0)
        refine bodyPost_ret (v:=.tuple #[.agg #[.slice none 0 0,.slice none 0 0,.slice none 0 0],.int .i64 3]) (by simp [results,Tryz.results9,go_sem,x1]) rfl ⟨rfl,hF.below_⟩
      · have t1:decide (R < 1)=false:=by simp only [hb1,decide_false]
        have t2:decide (64 < R)=true:=by simp; omega
        clear hz hb hb1
        go_enter Tryz.func9,Tryz.ntmps9
        go_wp2_with fail
        refine C1.out.mono ?_
        rintro e w1 ⟨rfl,hb1⟩
        have hS2:=HS0.out.below hb1
        obtain ⟨x1,x2,x3,x4⟩:=hS2.rules 1 (g:=g + 1) (t:=46) rfl
        have HS2:=hide hS2
        clear hb1 hS2 HS0 C1 a1 a2 a3 x4
        go_wp2_with fail
        have hF:=((HS2.out.set_ 1 (g:=g + 1) (t:=46) rfl 0 (.slice none 0 0)).set_ 1 (g:=g + 1) (t:=46) rfl 1 (.slice none 0 0)).set_ 1 (g:=g + 1) (t:=46) rfl 2 (.slice none 0 0)
        refine bodyPost_ret (v:=.tuple #[.agg #[.slice none 0 0,.slice none 0 0,.slice none 0 0],.int .i64 3]) (by simp [results,Tryz.results9,go_sem,x1]) rfl ⟨rfl,hF.below_⟩
    · rw [if_neg hb] at hz ⊢
      have hnd:100 < nd:=by
        split at hz
        · assumption
        · omega
      rw [if_pos hnd]
      have t1:decide (R < 1)=false:=by simp; omega
      have t2:decide (64 < R)=false:=by simp; omega
      have t3:decide ((100:Int) < (nd:Int))=true:=by simp; omega
      have t4:decide (100 < nd)=true:=by simp; omega
      clear hz hb
      go_enter Tryz.func9,Tryz.ntmps9
      go_wp2_with fail
      refine C1.out.mono ?_
      rintro e w1 ⟨rfl,hb1⟩
      have hS2:=HS0.out.below hb1
      obtain ⟨x1,x2,x3,x4⟩:=hS2.rules 1 (g:=g + 1) (t:=46) rfl
      have HS2:=hide hS2
      clear hb1 hS2 HS0 C1 a1 a2 a3 x4
      go_wp2_with fail
      have hF:=((HS2.out.set_ 1 (g:=g + 1) (t:=46) rfl 0 (.slice none 0 0)).set_ 1 (g:=g + 1) (t:=46) rfl 1 (.slice none 0 0)).set_ 1 (g:=g + 1) (t:=46) rfl 2 (.slice none 0 0)
      refine bodyPost_ret (v:=.tuple #[.agg #[.slice none 0 0,.slice none 0 0,.slice none 0 0],.int .i64 1]) (by simp [results,Tryz.results9,go_sem,x1]) rfl ⟨rfl,hF.below_⟩
  · rw [if_pos h0]
    have t1:decide (x=0)=false:=by simp [h0]
    have t2:(x == 0)=false:=by simp [h0]
    have t3:(x != 0)=true:=by simp [h0]
    clear hz
    go_enter Tryz.func9,Tryz.ntmps9
    go_wp2_with fail
    refine C1.out.mono ?_
    rintro e w1 ⟨rfl,hb1⟩
    have hS2:=HS0.out.below hb1
    obtain ⟨x1,x2,x3,x4⟩:=hS2.rules 1 (g:=g + 1) (t:=46) rfl
    have HS2:=hide hS2
    clear hb1 hS2 HS0 C1 a1 a2 a3 x4
    go_wp2_with fail
    have hF:=((HS2.out.set_ 1 (g:=g + 1) (t:=46) rfl 0 (.slice none 0 0)).set_ 1 (g:=g + 1) (t:=46) rfl 1 (.slice none 0 0)).set_ 1 (g:=g + 1) (t:=46) rfl 2 (.slice none 0 0)
    refine bodyPost_ret (v:=.tuple #[.agg #[.slice none 0 0,.slice none 0 0,.slice none 0 0],.int .i64 x]) (by simp [results,Tryz.results9,go_sem,x1]) rfl ⟨rfl,hF.below_⟩
end Go.Proofs.YtjphckfbbiehdaaGreat

namespace Go.Proofs.YtjphckfbbiehdaaGreat
open Go.RowKit
theorem rzBo:(Tryz.prog.info? 4).map (fun i => (i.zero,i.size,i.bytes))=some (some (.bool false),1,1):=by kernel_rfl
theorem rzBo1:(Tryz.prog.info? 4).map (·.size)=some 1:=by kernel_rfl
theorem rmadeBo (n:Nat):(madeCells (Value.cells (.bool false)) (n * 1)).toList=bools (List.replicate n false):=by
  apply List.ext_getElem
  · simp [madeCells,bools]
  · intro i h1 h2
    simp [madeCells,Value.cells,bools,Nat.mod_one]
def rrowB (v0:Bool) (N i:Nat):List Value:=bools (List.replicate i v0 ++ List.replicate (N - i) false)
theorem rrowB_length (v0:Bool) (N i:Nat) (h:i ≤ N):(rrowB v0 N i).length=N:=by
  simp [rrowB,bools]; omega
theorem rrowB_at (v0:Bool) (N i j m:Nat) (hm:m ≤ i) (v:Value) (hv:(bools (List.replicate m v0))[j]?=some v):(rrowB v0 N i)[j]?=some v:=by
  have hj:j < m:=by
    have:=(List.getElem?_eq_some_iff.1 hv).1
    simpa [bools] using this
  rw [← hv]
  have hj2:j < i:=by omega
  simp [rrowB,bools,List.getElem?_append,hj,hj2]
theorem rrowB_next (v0:Bool) (N i m:Nat) (h:i + m ≤ N):(rrowB v0 N i).toArray.toList.take i ++ (bools (List.replicate m v0) ++ (rrowB v0 N i).toArray.toList.drop (i + m))=rrowB v0 N (i + m):=by
  obtain ⟨r,rfl⟩:∃ r,N=i + m + r:=⟨N - (i + m),by omega⟩
  have e1:i + m + r - i=m + r:=by omega
  have e2:i + m + r - (i + m)=r:=by omega
  unfold rrowB bools
  rw [e1,e2,List.map_append,List.map_append,List.map_replicate,List.map_replicate,List.map_replicate,List.map_replicate,List.map_replicate]
  simp [List.drop_append]
  rw [← List.append_assoc,List.replicate_append_replicate]
set_option maxHeartbeats 1600000 in
set_option maxRecDepth 100000 in
theorem repB_pos (w:World) (v0:Bool) (N g0:Nat) (h1:1 ≤ N) (h4:N ≤ 24) (h:Blk w g0 4 #[.bool v0]) :
    Calls Tryz.prog 27 #[.slice (some ⟨g0,0,none⟩) 1 1,.int .i64 N] w fun e w' => ∃ A c,e=.returned (.slice A N c) ∧ Sep No w w' [rowI 4 1 A N c (bools (List.replicate N v0))]:=by
  have C:=hide (rmul_any w N h4)
  go_enter Tryz.func27,Tryz.ntmps27
  go_wp2_with fail
  refine C.out.mono ?_
  rintro e w0 ⟨rfl,rfl⟩
  have hN:decide ((9223372036854775807:Int) < N)=false:=by simp; omega
  go_wp2_with (first
    | (refine wpList_make rfl (.tmp 29) (.tmp 29) 105 rfl (Sep.nil No w0) Tryz.underlying105 rzBo (by omega) .i64 .i64 N rfl rfl (by omega) ?_
       intro w1 hS1 hb1
       rw [rmadeBo] at hS1
       (have hB1:Blk w1 w0.heap.size 4 (bools (List.replicate N false)).toArray:=rblk_of_row (base:=0) (n:=N) (hS1.get 0 rfl))
       have hG1:=h.below_ hb1)
    | (refine wpList_copy_splice rfl (.tmp 31) (.tmp 32) 105 105 rfl 4 Tryz.underlying105 rzBo1 (some ⟨w0.heap.size,0,none⟩) (some ⟨g0,0,none⟩) N N 1 1 rfl rfl w0.heap.size 0 (bools (List.replicate N false)) 4 hB1 [.bool v0] (by simp [Nat.min_eq_left h1]) (fun _ => ⟨rfl,_,rfl,fun j v hv => by
          rcases j with _ | j
          · simp at hv; subst hv; rw [raddr0,hG1.cell]; rfl
          · simp at hv⟩) (by simp [bools]; omega) (by simp [Value.oneCell']) w0.heap.size w0 hb1 (Nat.le_refl _) ?_
       intro w2 hg2 hb2))
  have hB2:Blk w2 w0.heap.size 4 (rrowB v0 N 1).toArray:=by
    have e:splice (bools (List.replicate N false)) 0 [.bool v0]=rrowB v0 N 1:=by
      obtain ⟨m,rfl⟩:∃ m,N=m + 1:=⟨N - 1,by omega⟩
      simp [splice,rrowB,bools,List.replicate_succ]
    rw [← e]; exact hg2.out
  clear hg2 hG1 hB1 hb1 hS1 C
  go_loopw [8] (fun v wr => ∃ i:Nat,1 ≤ i ∧ i ≤ N ∧ v=.int .i64 i ∧ Blk wr w0.heap.size 4 (rrowB v0 N i).toArray ∧ Below w0.heap.size w0 wr) (fun v _ => N - (intOf v).toNat)
  case atStart => exact ⟨1,by omega,by omega,rfl,hB2,hb2⟩
  case round =>
    obtain ⟨i,hi1,hi2,rfl,hB,hb⟩:=hrel
    clear hB2 hb2
    by_cases hlt:i < N
    · obtain ⟨m,hm⟩:∃ m,m=Nat.min i (N - i):=⟨_,rfl⟩
      have hm1:1 ≤ m:=by rw [hm]; exact Nat.le_min.2 ⟨hi1,by omega⟩
      have hm2:m ≤ i:=by rw [hm]; exact Nat.min_le_left _ _
      have hm3:m ≤ N - i:=by rw [hm]; exact Nat.min_le_right _ _
      have hat:∀ j v,(bools (List.replicate m v0))[j]?=some v → wr.drew.cell? ((⟨w0.heap.size,0,none⟩:Addr).add j)=some v:=by
        intro j v hv
        rw [raddr0,hB.drew.cell]
        simpa using rrowB_at v0 N i j m hm2 v hv
      have hni:¬ N=i:=by omega
      have hrun:=run_copy_row (P:=Tryz.prog) (w:=wr.drew) 105 105 3 4 w0.heap.size i (N - i) (N - i) ⟨w0.heap.size,0,none⟩ i N (rrowB v0 N i).toArray 4 (bools (List.replicate m v0)) Tryz.underlying105 rzBo1 hB.drew (by simpa [bools] using hm) hat (by
        show _ ≤ (rrowB v0 N i).toArray.size
        rw [List.size_toArray,rrowB_length _ _ _ hi2]; simp [bools]; omega) (by intro v hv; simp [bools] at hv; rw [hv.2]; rfl)
      have hlen:(bools (List.replicate m v0)).length=m:=by simp [bools]
      rw [hlen,List.append_assoc,show goInt (m:Int)=.int .i64 m from rfl] at hrun
      have hg3:=setRow_heap wr.drew w0.heap.size _ ((rrowB v0 N i).toArray.toList.take i ++ (bools (List.replicate m v0) ++ (rrowB v0 N i).toArray.toList.drop (i + m))).toArray 4 _ hB.drew
      have hb3:=below_setRow (g:=w0.heap.size) hb.drew (Nat.le_refl _) ((rrowB v0 N i).toArray.toList.take i ++ (bools (List.replicate m v0) ++ (rrowB v0 N i).toArray.toList.drop (i + m))).toArray
      obtain ⟨w3,hw3⟩:∃ w3,w3=wr.drew.setRow w0.heap.size ((rrowB v0 N i).toArray.toList.take i ++ (bools (List.replicate m v0) ++ (rrowB v0 N i).toArray.toList.drop (i + m))).toArray:=⟨_,rfl⟩
      rw [← hw3] at hrun hg3 hb3
      have hB3:Blk w3 w0.heap.size 4 (rrowB v0 N (i + m)).toArray:=by
        have e:(rrowB v0 N i).toArray.toList.take i ++ (bools (List.replicate m v0) ++ (rrowB v0 N i).toArray.toList.drop (i + m))=rrowB v0 N (i + m):=by
          exact rrowB_next v0 N i m (by omega)
        rw [← e]; exact hg3
      have HB3:=hide hB3
      have HBb3:=hide hb3
      clear hat hm hB hb hg3 hb3 hw3 hB3 hlen
      go_wp2_with fail
      go_region_law (fail)
      all_goals
        go_simp
        have hw:IntKind.i64.wrap ((i:Int) + m)=((i + m:Nat):Int):=by
          simp only [IntKind.wrap,IntKind.bits,IntKind.signed]
          go_num
        rw [hw]
        go_roundw
        case rel => exact ⟨_,_,_,_,_,_,_,_,_,_,_,_,_,_,⟨i + m,by omega,by omega,rfl,HB3.out,HBb3.out⟩,rfl⟩
        case measure => simp [intOf]; omega
    · obtain rfl:i=N:=by omega
      go_wp2_with fail
      go_ret
      refine ⟨_,_,rfl,?_⟩
      have e:rrowB v0 i i=bools (List.replicate i v0):=by simp [rrowB]
      rw [e] at hB
      have hS:=(Sep.nil No w0).consNew (w':=wr) hb (blkI w0.heap.size 4 (bools (List.replicate i v0)).toArray) hB (fun g hg => by rw [show g=w0.heap.size from hg]; exact Nat.le_refl _)
      have hrow:=rowI_of_blk (n:=i) (size:=1) (hS.get 0 rfl) (by simp [bools]) (by unfold maxLen; omega)
      exact hS.step 0 rfl (Chg.refl _ wr) _ hrow (fun g hg => .inl (show g=w0.heap.size from by
        have:w0.heap.size=g:=by simpa [rowI,Value.ownBlock] using hg
        exact this.symm))
set_option maxHeartbeats 1600000 in
set_option maxRecDepth 100000 in
theorem repB_zero (w:World) (v0:Bool) (g0:Nat) (h:Blk w g0 4 #[.bool v0]) :
    Calls Tryz.prog 27 #[.slice (some ⟨g0,0,none⟩) 1 1,.int .i64 0] w fun e w' => ∃ A c,e=.returned (.slice A 0 c) ∧ Sep No w w' [rowI 4 1 A 0 c []]:=by
  have C:=hide (rmul_any w 0 (by omega))
  have hmk:∀ w:World,(Instr.makeSlice 105 (.int .i64 0) (.int .i64 0)).run Tryz.prog w=.ok (.slice (some ⟨w.heap.size,0,none⟩) 0 0) (w.alloc (.cells #[] 4)):=fun w => by kernel_rfl
  have hcp:∀ (W:World) (g:Nat),(Builtin.copy_ #[105,105] 3 #[.slice (some ⟨g,0,none⟩) 0 0,.slice (some ⟨g0,0,none⟩) 1 1]).run Tryz.prog W=.ok (.int .i64 0) W:=fun W g => by kernel_rfl
  go_enter Tryz.func27,Tryz.ntmps27
  go_wp2_with fail
  refine C.out.mono ?_
  rintro e w0 ⟨rfl,rfl⟩
  go_wp2_with fail
  go_loop [8] (fun v => v=.int .i64 0) (fun _ => 0)
  case atStart => rfl
  case round =>
    subst hrel
    go_wp2_with fail
    go_ret
    exact ⟨some ⟨w0.heap.size,0,none⟩,0,rfl,((Sep.nil No w0).blkAt 4 #[] rfl).step 0 rfl (Chg.refl _ _) (rowI 4 1 (some ⟨w0.heap.size,0,none⟩) 0 0 []) (by
      have h:=rowI_of_blk (n:=0) (size:=1) (Blk.new w0 4 #[]) rfl (by unfold maxLen; omega)
      exact h) (fun g hg => .inl (show g=w0.heap.size from by
        have:w0.heap.size=g:=by simpa [rowI,Value.ownBlock] using hg
        exact this.symm))⟩
theorem repB_any (w:World) (v0:Bool) (N g0:Nat) (h4:N ≤ 24) (h:Blk w g0 4 #[.bool v0]) :
    Calls Tryz.prog 27 #[.slice (some ⟨g0,0,none⟩) 1 1,.int .i64 N] w fun e w' => ∃ A c,e=.returned (.slice A N c) ∧ Sep No w w' [rowI 4 1 A N c (bools (List.replicate N v0))]:=by
  rcases Nat.eq_zero_or_pos N with rfl | h1
  · exact repB_zero w v0 g0 h
  · exact repB_pos w v0 N g0 h1 h4 h
end Go.Proofs.YtjphckfbbiehdaaGreat

namespace Go.Proofs.YtjphckfbbiehdaaGreat
open Go.RowKit
def nilI:Item:=allI []
section
variable {F : Nat → Prop} {W w w' : World} {items : List Item}
theorem Sep.nil1 (h:Sep F W w items):Sep F W w (nilI :: items):=Sep.join (l:=[]) h
theorem Sep.fill (h:Sep F W w items) (k:Nat) (hk:items[k]?=some nilI) (hb:Below w.heap.size w w') (i:Item) (hi:i.P w') (hlo:∀ g,i.fp g → w.heap.size ≤ g):Sep F W w' (items.set k i) :=
  h.step k hk (Chg.of_below hb _) i hi (fun g hg => .inr (hlo g hg))
theorem Sep.fillBlk (h:Sep F W w items) (k:Nat) (hk:items[k]?=some nilI) (t:TypeId) (cs:Array Value) {g:Nat} (hg:w.heap.size=g):Sep F W (w.alloc (.cells cs t)) (items.set k (blkI g t cs)):=by
  subst hg
  exact h.fill k hk ((Below.refl _ w).alloc (Nat.le_refl _) _) _ (((Sep.start (i:=allI []) (w:=w) ⟨by simp,.nil⟩).blk t cs).get 1 rfl) (fun g hg => by rw [show g=w.heap.size from hg]; exact Nat.le_refl _)
theorem Sep.fillMap (h:Sep F W w items) (k:Nat) (hk:items[k]?=some nilI) {g:Nat} (hg:w.heap.size=g):Sep F W (w.alloc (.map #[] 0)) (items.set k (gmI g 0 [])):=by
  subst hg
  exact h.fill k hk ((Below.refl _ w).alloc (Nat.le_refl _) _) _ ((Sep.gmNew (Sep.nil No w) rfl).get 0 rfl) (fun g hg => by rw [show g=w.heap.size from hg]; exact Nat.le_refl _)
theorem Sep.fillAll {l:List Item} (h:Sep F W w items) (k:Nat) (hk:items[k]?=some nilI) (hP:Sep No w w' l):Sep F W w' (items.set k (allI l)) :=
  h.fill k hk hP.below_ _ (hP.fold.get 0 rfl) (fun g hg => (hP.fold.lo 0 rfl g hg).resolve_left (fun h => h))
theorem Sep.fillRow {i j:Item} (h:Sep F W w items) (k:Nat) (hk:items[k]?=some i) (hP:Sep No w w' [j]):Sep F W w' (items.set k j) :=
  h.step k hk (Chg.of_below hP.below_ _) j (hP.get 0 rfl) (fun g hg => .inr ((hP.lo 0 rfl g hg).resolve_left (fun h => h)))
end
def gnT0 (regs:List Val) (As:Option Addr) (c:Nat) (ps:List Po) (Ac:Option Addr) (cc gM:Nat):GnT:=⟨regs,⟨As,c,ps.map some⟩,Ac,cc,List.replicate ps.length true,gM,0,[]⟩
theorem gnT0_a (regs:List Val) (As:Option Addr) (c:Nat) (ps:List Po) (Ac:Option Addr) (cc gM:Nat):(gnT0 regs As c ps Ac cc gM).a=gn0 ⟨regs,ps.map fun p => p.o.fields⟩:=by
  unfold GnT.a gnT0 gn0
  dsimp only
  rw [show (⟨As,c,ps.map some⟩:Oj).abs=(ps.map fun p => p.o.fields).map some from co1_abs As c ps Ac cc,List.length_map]
theorem perm_midG {α:Type} (P A L:List α):(P ++ (A ++ L)).Perm (A ++ P ++ L):=by
  rw [← List.append_assoc]
  exact List.Perm.append_right L List.perm_append_comm
theorem gn_mk {F:Nat → Prop} {W w:World} {Be Bm R nO c cc gM:Nat} {As Ac:Option Addr} {ps:List Po} {L:List Item} (regs:List Val) (hps:ps.length=nO)
    (h:Sep F W w (allI (rowI 84 1 As nO c (ps.map poPtr) :: ps.map poI) :: blkI Bm 70 (mcCells regs (.iface 104 (.pointer (some ⟨Be,0,none⟩)))) :: blkI Be 109 #[.slice As nO c,.pointer (some ⟨Bm,0,none⟩),.slice Ac nO cc,.map (some gM),.int .i64 (R:Int)] :: rowI 4 1 Ac nO cc (bools (List.replicate nO true)) :: gmI gM 0 [] :: L)):Sep F W w ((gnKm R Bm Be).item (gnT0 regs As c ps Ac cc gM) :: L):=by
  have e:gnK Be Bm (R:Int) (gnT0 regs As c ps Ac cc gM)=[blkI Bm 70 (mcCells regs (.iface 104 (.pointer (some ⟨Be,0,none⟩)))),blkI Be 109 #[.slice As nO c,.pointer (some ⟨Bm,0,none⟩),.slice Ac nO cc,.map (some gM),.int .i64 (R:Int)],rowI 4 1 Ac nO cc (bools (List.replicate nO true)),gmI gM 0 []] ++ (rowI 84 1 As nO c (ps.map poPtr) :: ps.map poI):=by
    unfold gnK gnR gnM gnC oldI gnT0 ojL Oj.v
    dsimp only
    rw [List.length_map,List.length_replicate,hps,List.map_map,List.map_map]
    rfl
  refine Sep.join (l:=(gnKm R Bm Be).items (gnT0 regs As c ps Ac cc gM)) ?_
  rw [show (gnKm R Bm Be).items (gnT0 regs As c ps Ac cc gM)=gnK Be Bm (R:Int) (gnT0 regs As c ps Ac cc gM) from rfl,e]
  exact (Sep.split h).perm (perm_midG _ [_,_,_,_] L)
theorem gn_open {F:Nat → Prop} {W w:World} {Be Bm R:Nat} {t:GnT} {L:List Item} (h:Sep F W w ((gnKm R Bm Be).item t :: L)):Sep F W w (gmI t.b t.N t.mks :: allI (gnM Be Bm t :: blkI Be 109 (gnC Bm (R:Int) t) :: oldI t.Ao t.oc t.old.length t.old :: ojL t.oj) :: L):=by
  have h1:Sep F W w (gnK Be Bm (R:Int) t ++ L):=Sep.split (l:=(gnKm R Bm Be).items t) h
  have h2:Sep F W w ((gnM Be Bm t :: blkI Be 109 (gnC Bm (R:Int) t) :: oldI t.Ao t.oc t.old.length t.old :: ojL t.oj) ++ (gmI t.b t.N t.mks :: L)):=h1.perm (by
    refine List.Perm.cons _ (List.Perm.cons _ (List.Perm.cons _ ?_))
    exact (List.perm_middle (l₁:=ojL t.oj) (a:=gmI t.b t.N t.mks) (l₂:=L)).symm)
  exact (Sep.join h2).perm (List.Perm.swap _ _ _)
theorem gn_cell_old {F:Nat → Prop} {W w:World} {Be Bm R:Nat} {t:GnT} {L:List Item} (h:Sep F W w ((gnKm R Bm Be).item t :: L)) {z:Nat} (hz:z < t.old.length) :
    ∃ go,t.Ao=some ⟨go,0,none⟩ ∧ w.cell? ⟨Be,2,none⟩=some (.slice (some ⟨go,0,none⟩) t.old.length t.oc) ∧ w.cell? ⟨go,z,none⟩=some (.bool (t.old.getD z false)) ∧ go < w.heap.size ∧ Be < w.heap.size:=by
  have hS:=gkm_flat (h.get 0 rfl)
  obtain ⟨-,-,k2,-,-,-,k6⟩:=gn_cells (pre:=[]) hS
  obtain ⟨go,hgo⟩:=old_some hS (k:=2) rfl (by omega)
  have hrow:=hS.get 2 rfl
  unfold oldI at hrow
  rw [hgo] at hrow k2
  refine ⟨go,hgo,k2,(bo_cell hrow z hz).1,?_,k6⟩
  exact hS.hi 2 rfl go (by rw [hgo]; exact oldI_fp.2 rfl)
end Go.Proofs.YtjphckfbbiehdaaGreat

namespace Go.Proofs.YtjphckfbbiehdaaGreat
open Go.Shelf
def shelf_laysCt_ren:Go.Shelf.Ren:=⟨fun | 6 => 30 | 15 => 54 | 14 => 53 | 28 => 76 | 29 => 77 | 20 => 68 | 21 => 69 | 22 => 70 | 23 => 71 | 24 => 72 | 25 => 73 | 26 => 74 | 27 => 75 | 46 => 80 | 47 => 81 | 48 => 82 | 49 => 83 | 50 => 84 | 57 => 86 | n => n,fun | 22 => 32 | 24 => 88 | 25 => 113 | 3 => 3 | 39 => 135 | 0 => 0 | 53 => 157 | 55 => 160 | 4 => 4 | 46 => 166 | 45 => 165 | 50 => 170 | 5 => 5 | 9 => 9 | 66 => 175 | 70 => 179 | 76 => 182 | 77 => 183 | n => n,fun | n => n⟩
theorem shelf_laysCt:Go.Proofs.SlLaysF0.n6 Tryz.prog shelf_laysCt_ren:={
  mixed:=by kernel_rfl
  f6:=⟨Tryz.f30.name,by decide,Tryz.func30.trans (congrArg some (by kernel_rfl))⟩
  f14:=⟨Tryz.f53.name,by decide,Tryz.func53.trans (congrArg some (by kernel_rfl))⟩
  f15:=Tryz.func54.trans (congrArg some (by kernel_rfl))
  f20:=⟨Tryz.f68.name,by decide,Tryz.func68.trans (congrArg some (by kernel_rfl))⟩
  f21:=⟨Tryz.f69.name,by decide,Tryz.func69.trans (congrArg some (by kernel_rfl))⟩
  f22:=⟨Tryz.f70.name,by decide,Tryz.func70.trans (congrArg some (by kernel_rfl))⟩
  f23:=⟨Tryz.f71.name,by decide,Tryz.func71.trans (congrArg some (by kernel_rfl))⟩
  f24:=⟨Tryz.f72.name,by decide,Tryz.func72.trans (congrArg some (by kernel_rfl))⟩
  f25:=⟨Tryz.f73.name,by decide,Tryz.func73.trans (congrArg some (by kernel_rfl))⟩
  f26:=⟨Tryz.f74.name,by decide,Tryz.func74.trans (congrArg some (by kernel_rfl))⟩
  f27:=⟨Tryz.f75.name,by decide,Tryz.func75.trans (congrArg some (by kernel_rfl))⟩
  f28:=Tryz.func76.trans (congrArg some (by kernel_rfl))
  f29:=Tryz.func77.trans (congrArg some (by kernel_rfl))
  f46:=⟨Tryz.f80.name,by decide,Tryz.func80.trans (congrArg some (by kernel_rfl))⟩
  f47:=Tryz.func81.trans (congrArg some (by kernel_rfl))
  f48:=Tryz.func82.trans (congrArg some (by kernel_rfl))
  f49:=⟨Tryz.f83.name,by decide,Tryz.func83.trans (congrArg some (by kernel_rfl))⟩
  f50:=⟨Tryz.f84.name,by decide,Tryz.func84.trans (congrArg some (by kernel_rfl))⟩
  f57:=⟨Tryz.f86.name,by decide,Tryz.func86.trans (congrArg some (by kernel_rfl))⟩
  t0:=Tryz.underlying0
  a0:=Tryz.isAgg0
  z0:=Tryz.sizeOf0
  v0:=Tryz.zeroValue0
  t3:=Tryz.underlying3
  a3:=Tryz.isAgg3
  z3:=Tryz.sizeOf3
  v3:=Tryz.zeroValue3
  t4:=Tryz.underlying4
  a4:=Tryz.isAgg4
  z4:=Tryz.sizeOf4
  v4:=Tryz.zeroValue4
  t5:=Tryz.underlying5
  a5:=Tryz.isAgg5
  z5:=Tryz.sizeOf5
  v5:=Tryz.zeroValue5
  t9:=Tryz.underlying9
  a9:=Tryz.isAgg9
  z9:=Tryz.sizeOf9
  v9:=Tryz.zeroValue9
  t22:=Tryz.underlying32
  a22:=Tryz.isAgg32
  z22:=Tryz.sizeOf32
  v22:=Tryz.zeroValue32
  t25:=Tryz.underlying113
  a25:=Tryz.isAgg113
  z25:=Tryz.sizeOf113
  v25:=Tryz.zeroValue113
  t39:=Tryz.underlying135
  a39:=Tryz.isAgg135
  z39:=Tryz.sizeOf135
  v39:=Tryz.zeroValue135
  t45:=Tryz.underlying165
  a45:=Tryz.isAgg165
  z45:=Tryz.sizeOf165
  v45:=Tryz.zeroValue165
  t46:=Tryz.underlying166
  a46:=Tryz.isAgg166
  z46:=Tryz.sizeOf166
  v46:=Tryz.zeroValue166
  t50:=Tryz.underlying170
  a50:=Tryz.isAgg170
  z50:=Tryz.sizeOf170
  v50:=Tryz.zeroValue170
  t53:=Tryz.underlying157
  a53:=Tryz.isAgg157
  z53:=Tryz.sizeOf157
  v53:=Tryz.zeroValue157
  t55:=Tryz.underlying160
  a55:=Tryz.isAgg160
  z55:=Tryz.sizeOf160
  v55:=Tryz.zeroValue160
  t66:=Tryz.underlying175
  a66:=Tryz.isAgg175
  z66:=Tryz.sizeOf175
  v66:=Tryz.zeroValue175
  t70:=Tryz.underlying179
  a70:=Tryz.isAgg179
  z70:=Tryz.sizeOf179
  v70:=Tryz.zeroValue179
  t76:=Tryz.underlying182
  a76:=Tryz.isAgg182
  z76:=Tryz.sizeOf182
  v76:=Tryz.zeroValue182
  t77:=Tryz.underlying183
  a77:=Tryz.isAgg183
  z77:=Tryz.sizeOf183
  v77:=Tryz.zeroValue183 }
theorem ct_isAgg (w:World):(isAgg 88).run Tryz.prog w=.ok true w:=Tryz.isAgg88 w
theorem ct_sizeOf (w:World):(Go.sizeOf 88).run Tryz.prog w=.ok 2 w:=Tryz.sizeOf88 w
end Go.Proofs.YtjphckfbbiehdaaGreat

namespace Go.Proofs.YtjphckfbbiehdaaGreat
open Go.RowKit Go.Sort Go.Lib Go.Shelf
def cmpG (a b:Int):Int:=if a < b then -1 else if b < a then 1 else 0
set_option maxHeartbeats 400000 in
theorem gnan_any (x:Int) (w:World):Calls Tryz.prog 55 #[.int .i64 x] w fun e w' => e=.returned (.bool false) ∧ w'=w:=by
  go_enter Tryz.func55,Tryz.ntmps55
  go_wp2_with fail
  go_ret
  exact ⟨by first | rfl | simp,rfl⟩
set_option maxHeartbeats 4000000 in
theorem gcmp_any (x y:Int) (w:World):Calls Tryz.prog 33 #[.int .i64 x,.int .i64 y] w fun e w' => e=.returned (.int .i64 (cmpG x y)) ∧ w'=w:=by
  obtain ⟨z,hz⟩:∃ z,cmpG x y=z:=⟨_,rfl⟩
  rw [hz]
  unfold cmpG at hz
  have CN:=gnan_any
  by_cases h1:x < y
  · have t1:decide (x < y)=true:=by simp [h1]
    rw [if_pos h1] at hz
    subst hz
    go_enter Tryz.func33,Tryz.ntmps33
    go_wp2_with (go_at_call 55; refine (CN _ _).mono ?_; rintro e w' ⟨rfl,rfl⟩)
    go_ret
    exact ⟨rfl,rfl⟩
  · have t1:decide (x < y)=false:=by simp only [h1,decide_false]
    rw [if_neg h1] at hz
    by_cases h2:y < x
    · have t2:decide (y < x)=true:=by simp [h2]
      rw [if_pos h2] at hz
      subst hz
      go_enter Tryz.func33,Tryz.ntmps33
      go_wp2_with (go_at_call 55; refine (CN _ _).mono ?_; rintro e w' ⟨rfl,rfl⟩)
      go_ret
      exact ⟨rfl,rfl⟩
    · have t2:decide (y < x)=false:=by simp only [h2,decide_false]
      rw [if_neg h2] at hz
      subst hz
      go_enter Tryz.func33,Tryz.ntmps33
      go_wp2_with (go_at_call 55; refine (CN _ _).mono ?_; rintro e w' ⟨rfl,rfl⟩)
      go_ret
      exact ⟨rfl,rfl⟩
set_option maxHeartbeats 2000000 in
theorem gor_any (w:World) (g:Nat) (x y:Int) (h:Blk w g 3 #[.int .i64 x,.int .i64 y]):Calls Tryz.prog 32 #[.slice (some ⟨g,0,none⟩) 2 2] w fun e w' => e=.returned (.int .i64 (if x ≠ 0 then x else y)) ∧ w'=w:=by
  obtain ⟨c1,c2,c3⟩:=h.rules
  have e0:=(c1 0).trans (show _=some (.int .i64 x) from rfl)
  have e1:=(c1 1).trans (show _=some (.int .i64 y) from rfl)
  clear c1 h
  by_cases hx:x=0
  · subst hx
    by_cases hy:y=0
    · subst hy
      go_enter Tryz.func32,Tryz.ntmps32
      go_wp2_with fail
      refine wp_loop_rounds 3 ?_
      rw [rounds_succ]
      go_wp2_with fail
      rw [rounds_succ]
      go_wp2_with fail
      rw [rounds_succ]
      go_wp2_with fail
      go_ret
      exact ⟨rfl,rfl⟩
    · have y1:decide (y=0)=false:=by simp [hy]
      have y2:(y == 0)=false:=by simp [hy]
      have y3:(y != 0)=true:=by simp [hy]
      go_enter Tryz.func32,Tryz.ntmps32
      go_wp2_with fail
      refine wp_loop_rounds 3 ?_
      rw [rounds_succ]
      go_wp2_with fail
      rw [rounds_succ]
      go_wp2_with fail
      go_ret
      exact ⟨rfl,rfl⟩
  · have y1:decide (x=0)=false:=by simp [hx]
    have y2:(x == 0)=false:=by simp [hx]
    have y3:(x != 0)=true:=by simp [hx]
    rw [if_pos hx]
    go_enter Tryz.func32,Tryz.ntmps32
    go_wp2_with fail
    refine wp_loop_rounds 3 ?_
    rw [rounds_succ]
    go_wp2_with fail
    go_ret
    exact ⟨rfl,rfl⟩
def gpsV (l:List Gp):List Value:=l.flatMap fun b => [.int .i64 (b.1:Int),.int .i64 (b.2:Int)]
theorem gpsV_length (l:List Gp):(gpsV l).length=l.length * 2:=by
  unfold gpsV
  induction l with
  | nil => rfl
  | cons b l ih => simp [List.flatMap_cons,ih]; omega
theorem gpsV_at (l:List Gp) (k:Nat) (hk:k < l.length):(gpsV l)[k * 2]?=some (.int .i64 (l[k].1:Int)) ∧ (gpsV l)[k * 2 + 1]?=some (.int .i64 (l[k].2:Int)):=by
  unfold gpsV
  induction l generalizing k with
  | nil => cases hk
  | cons b l ih =>
    cases k with
    | zero => exact ⟨rfl,rfl⟩
    | succ k =>
      obtain ⟨h1,h2⟩:=ih k (by simpa using hk)
      rw [List.flatMap_cons]
      refine ⟨?_,?_⟩
      · rw [List.getElem?_append_right (by simp; omega)]
        simp only [List.length_cons,List.length_nil,List.getElem_cons_succ]
        rw [show (k + 1) * 2 - (0 + 1 + 1)=k * 2 by omega]; exact h1
      · rw [List.getElem?_append_right (by simp; omega)]
        simp only [List.length_cons,List.length_nil,List.getElem_cons_succ]
        rw [show (k + 1) * 2 + 1 - (0 + 1 + 1)=k * 2 + 1 by omega]; exact h2
theorem gpsV_app (l:List Gp) (b:Gp):gpsV (l ++ [b])=gpsV l ++ [.int .i64 (b.1:Int),.int .i64 (b.2:Int)]:=by unfold gpsV; simp
def encP (b:Gp):List Value:=[.int .i64 (b.1:Int),.int .i64 (b.2:Int)]
theorem encP_one (b:Gp):∀ v ∈ encP b,v.oneCell'=true:=by
  intro v hv
  rcases List.mem_cons.1 hv with rfl | hv
  · rfl
  · rw [List.mem_singleton.1 hv]; rfl
def cfP (x y:Gp):Int:=if cmpG (x.1:Int) (y.1:Int) ≠ 0 then cmpG (x.1:Int) (y.1:Int) else cmpG (x.2:Int) (y.2:Int)
theorem ltOf_cfP (x y:Gp):ltOf cfP x y=decide (ltP x y):=by
  unfold ltOf
  refine decide_eq_decide.2 ?_
  unfold cfP cmpG ltP
  obtain ⟨a,b⟩:=x
  obtain ⟨c,d⟩:=y
  dsimp only
  split <;> split <;> (try split) <;> (try split) <;> omega
theorem swo_cfP:SWO (ltOf cfP) where
  irrefl x:=by rw [ltOf_cfP]; exact decide_eq_false ltP_irr
  trans x y z h1 h2:=by rw [ltOf_cfP] at *; exact decide_eq_true (ltP_trans (of_decide_eq_true h1) (of_decide_eq_true h2))
  ntrans x y z h1 h2:=by
    rw [ltOf_cfP] at *
    have h1:=of_decide_eq_false h1
    have h2:=of_decide_eq_false h2
    refine decide_eq_false ?_
    unfold ltP at *
    omega
theorem flatK_gp (d:Array Gp):(flatK encP 2 d).toList=gpsV d.toList:=by
  apply List.ext_getElem?
  intro t
  rcases Nat.lt_or_ge t (d.size * 2) with h | h
  · have hd:t / 2 < d.size:=by omega
    have hl:t / 2 < d.toList.length:=by simpa using hd
    obtain ⟨v0,v1⟩:=gpsV_at d.toList (t / 2) hl
    have h1:=get_flatK encP 2 d t h
    rw [getElem!_pos _ t (by rw [size_flatK]; exact h),getElem!_pos d _ hd] at h1
    rw [Array.getElem?_toList,Array.getElem?_eq_getElem (by rw [size_flatK]; exact h),h1]
    rcases (show t % 2=0 ∨ t % 2=1 by omega) with h2 | h2
    · rw [show t / 2 * 2=t by omega] at v0
      rw [h2,v0]
      simp [encP]
    · rw [show t / 2 * 2 + 1=t by omega] at v1
      rw [h2,v1]
      simp [encP]
  · rw [List.getElem?_eq_none (by rw [Array.length_toList,size_flatK]; exact h),List.getElem?_eq_none (by rw [gpsV_length]; simpa using h)]
theorem sortP_eq (w:World) (g m:Nat) (dk:Array Gp) (os:Array Obj):sortWorldK encP 2 w g 0 m dk os=sortWorld id w g 0 m (flatK encP 2 dk) os:=rfl
theorem size_sortP (w:World) (g k:Nat) (d:Array Value) (os:Array Obj):(sortWorld id w g 0 k d os).heap.size=w.heap.size + os.size:=by simp [sortWorld,grow,putRow,mapBlock,Sort.ahead]
theorem block_sortP (w:World) (g k:Nat) (d:Array Value) (os:Array Obj) (j:Nat) (hj:j < w.heap.size) (hne:j ≠ g):(sortWorld id w g 0 k d os).heap[j]?=w.heap[j]?:=by
  show ((w.heap.modify g _) ++ os)[j]?=_
  rw [Array.getElem?_append_left (by simpa using hj),Array.getElem?_modify,if_neg (fun h => hne h.symm)]
theorem chg_sortP (w:World) (g k:Nat) (d:Array Value) (os:Array Obj):Chg (fun j => j=g) w (sortWorld id w g 0 k d os) :=
  ⟨rfl,rfl,rfl,by rw [size_sortP]; omega,fun j hj hn => block_sortP w g k d os j hj hn⟩
theorem row_sortP {w:World} {e g n c k:Nat} {l:List Value} {d:Array Value} {os:Array Obj} (hs:(rowI e 2 (some ⟨g,0,none⟩) n c l).P w) (hd:d.size=l.length) :
    (rowI e 2 (some ⟨g,0,none⟩) n c d.toList).P (sortWorld id w g 0 k d os):=by
  have hrow:w.ownsRow 0 e 2 (.slice (some ⟨g,0,none⟩) n c) n l:=hs
  have hlt:g < w.heap.size:=(hrow.lt g rfl).2
  have hln:l.length=n * 2:=hrow.1
  obtain ⟨h1,h2⟩:=hrow
  rcases h2 with ⟨hv,_⟩ | ⟨g',cap,cur,hv,_,hh,hnc,hcm,hcs,htk⟩
  · cases hv
  · injection hv with e1 e2 e3
    injection e1 with e1
    injection e1 with e1
    subst e1; subst e3
    have hg:(sortWorld id w g 0 k d os).heap[g]?=some (.cells (putCells id 0 d cur) e (0,0)):=by
      show ((w.heap.modify g _) ++ os)[g]?=_
      rw [Array.getElem?_append_left (by simpa using hlt),Array.getElem?_modify,if_pos rfl,hh]
      rfl
    refine ⟨by rw [Array.length_toList]; omega,.inr ⟨g,c,_,rfl,Nat.zero_le _,hg,hnc,hcm,by simp [putCells]; omega,?_⟩⟩
    refine List.ext_getElem? fun j => ?_
    rw [List.getElem?_take]
    by_cases hj:j < n * 2
    · rw [if_pos (by omega)]
      have hjc:j < cur.size:=by omega
      simp only [putCells,Array.getElem?_toList,Array.getElem?_mapIdx,Array.getElem?_eq_getElem hjc,Option.map_some]
      rw [if_pos (by simp; omega)]
      have hjd:j < d.size:=by omega
      simp [Array.getElem?_eq_getElem hjd,getElem!_pos d j hjd]
    · rw [if_neg (by omega)]
      rw [List.getElem?_eq_none (by rw [Array.length_toList]; omega)]
set_option maxHeartbeats 4000000 in
theorem gpcmp_any (w:World) (x y:Gp):Calls Tryz.prog 31 #[.agg (encP x).toArray,.agg (encP y).toArray] w fun e w' => e=.returned (.int .i64 (cfP x y)) ∧ ∃ os,w'=grow (w.drewN 1) os:=by
  obtain ⟨x1,hx1⟩:∃ q,(x.1:Int)=q:=⟨_,rfl⟩
  obtain ⟨x2,hx2⟩:∃ q,(x.2:Int)=q:=⟨_,rfl⟩
  obtain ⟨y1,hy1⟩:∃ q,(y.1:Int)=q:=⟨_,rfl⟩
  obtain ⟨y2,hy2⟩:∃ q,(y.2:Int)=q:=⟨_,rfl⟩
  have hcf:cfP x y=if cmpG x1 y1 ≠ 0 then cmpG x1 y1 else cmpG x2 y2:=by unfold cfP; rw [hx1,hx2,hy1,hy2]
  rw [hcf]
  show Calls Tryz.prog 31 #[.agg #[.int .i64 (x.1:Int),.int .i64 (x.2:Int)],.agg #[.int .i64 (y.1:Int),.int .i64 (y.2:Int)]] w _
  rw [hx1,hx2,hy1,hy2]
  have C1:=hide (gcmp_any x1 y1)
  have C2:=hide (gcmp_any x2 y2)
  obtain ⟨z1,hz1⟩:∃ z,cmpG x1 y1=z:=⟨_,rfl⟩
  obtain ⟨z2,hz2⟩:∃ z,cmpG x2 y2=z:=⟨_,rfl⟩
  rw [hz1] at C1
  rw [hz2] at C2
  rw [hz1,hz2]
  obtain ⟨g,hg⟩:∃ g,w.heap.size=g:=⟨_,rfl⟩
  obtain ⟨W,hW⟩:∃ W,(w.alloc (.cells #[.int .i64 x1,.int .i64 x2] 88)).alloc (.cells #[.int .i64 y1,.int .i64 y2] 88)=W:=⟨_,rfl⟩
  have hS0:=((Sep.nil No w).blkAt 88 #[.int .i64 x1,.int .i64 x2] hg).blkAt 88 #[.int .i64 y1,.int .i64 y2] (g:=g + 1) (by simp [hg])
  rw [hW] at hS0
  obtain ⟨a1,a2,a3,-⟩:=hS0.rules 0 (g:=g) (t:=88) rfl
  obtain ⟨b1,b2,b3,-⟩:=hS0.rules 1 (g:=g + 1) (t:=88) rfl
  have a4:=(a1 0).trans (show _=some (.int .i64 x1) from rfl)
  have a5:=(a1 1).trans (show _=some (.int .i64 x2) from rfl)
  have b4:=(b1 0).trans (show _=some (.int .i64 y1) from rfl)
  have b5:=(b1 1).trans (show _=some (.int .i64 y2) from rfl)
  have HO:=hide (gor_any (W.alloc (.cells #[.int .i64 z1,.int .i64 z2] 3)).drew W.heap.size z1 z2 (Blk.new W 3 #[.int .i64 z1,.int .i64 z2]).drew)
  obtain ⟨z,hz⟩:∃ z,(if z1 ≠ 0 then z1 else z2)=z:=⟨_,rfl⟩
  rw [hz] at HO ⊢
  clear hz
  have HW:=hide hW
  have HGG:=hide hg
  clear hcf hx1 hx2 hy1 hy2 hz1 hz2 hS0 a1 b1 hW hg
  go_enter Tryz.func31,Tryz.ntmps31
  go_wp2_with fail
  rw [HW.out,HGG.out]
  go_region_held3 (fun w' => w'.cell? ⟨g,0,none⟩=some (.int .i64 x1) ∧ w'.cell? ⟨g,1,none⟩=some (.int .i64 x2) ∧ w'.cell? ⟨g + 1,0,none⟩=some (.int .i64 y1) ∧ w'.cell? ⟨g + 1,1,none⟩=some (.int .i64 y2)) (simp (config:={ maxDischargeDepth:=8 }) [*,World.cell?_alloc_some])
    (first
      | (go_at_call 33
         first
         | (with_reducible refine (C1.out _).mono ?_
            rintro e w5 ⟨rfl,rfl⟩)
         | (with_reducible refine (C2.out _).mono ?_
            rintro e w5 ⟨rfl,rfl⟩))
      | (go_at_call 32
         (with_reducible refine HO.out.mono ?_)
         rintro e w5 ⟨rfl,rfl⟩))
  all_goals
    go_wp2_with fail
    go_ret
    refine ⟨rfl,#[.cells #[.int .i64 x1,.int .i64 x2] 88,.cells #[.int .i64 y1,.int .i64 y2] 88,.cells #[.int .i64 z1,.int .i64 z2] 3],?_⟩
    rw [← HW.out]
    rw [alloc_eq_grow,alloc_eq_grow,alloc_eq_grow,grow_grow,grow_grow]
    rfl
theorem cmpP_lays (w:World) (g size:Nat):CmpLays Tryz.prog 31 #[] encP 2 cfP g 0 size w:=fun m os dk _ x y => by
  refine (gpcmp_any _ x y).mono ?_
  rintro e w' ⟨he,os',rfl⟩
  exact ⟨he,1,os',rfl⟩
theorem enterP (args:Array Value) (w:World):(callFunc 31 args).run Tryz.prog w=.ok (.enter 31 args) w:=kenter_of Tryz.func31 (by kernel_rfl) rfl args w
theorem gpsort_pos {F:Nat → Prop} {W0 w:World} {items:List Item} (h:Sep F W0 w items) (q:Nat) {g n c:Nat} {l:List Gp} (hq:items[q]?=some (rowI 88 2 (some ⟨g,0,none⟩) n c (gpsV l))) (hn:n ≤ 1000000) :
    Calls Tryz.prog 30 #[.slice (some ⟨g,0,none⟩) n c,.func (.func 31) #[] #[]] w fun e w' => e=.returned (.tuple #[]) ∧ ∃ l':List Gp,l'.Perm l ∧ l'.Pairwise (fun a b => ¬ ltP b a) ∧ Sep F W0 w' (items.set q (rowI 88 2 (some ⟨g,0,none⟩) n c (gpsV l'))):=by
  have hP:=h.get q hq
  have hrow:w.ownsRow 0 88 2 (.slice (some ⟨g,0,none⟩) n c) n (gpsV l):=hP
  have hln:l.length=n:=by have:=hrow.1; rw [gpsV_length] at this; omega
  have hsz:l.toArray.size=n:=by simpa using hln
  have hH:HoldsK encP 2 w g 0 l.toArray:=by
    intro j hj
    rw [size_flatK,hsz] at hj
    refine ⟨?_,hrow.frozenAt _⟩
    have hf:=flatK_gp l.toArray
    rw [Nat.zero_add,hrow.cellAt j (by omega)]
    have e:(gpsV l)[j]?=(flatK encP 2 l.toArray).toList[j]?:=by rw [hf]
    rw [e,Array.getElem?_toList,getElem!_pos _ j (by rw [size_flatK,hsz]; exact hj)]
    exact Array.getElem?_eq_getElem (by rw [size_flatK,hsz]; exact hj)
  have hc:=AnyQ.slices_SortFunc shelf_laysCt 2 ct_isAgg ct_sizeOf encP (fun _ => rfl) encP_one cfP swo_cfP 31 #[] g 0 c l.toArray w enterP (cmpP_lays w g _) hH (hrow.lt g rfl).2 (by rw [hsz]; omega)
  rw [hsz] at hc
  refine Calls.mono hc ?_
  rintro e w' ⟨he,d',m,os,hp,hs,rfl⟩
  obtain ⟨p1,_,p3⟩:=hp
  rw [hsz] at p1
  have e1:d'.extract 0 n=d':=by rw [← p1]; simp
  have e2:l.toArray.extract 0 n=l.toArray:=by rw [← hsz]; simp
  rw [e1,e2] at p3
  refine ⟨he,d'.toList,by simpa using p3,?_,?_⟩
  · rw [List.pairwise_iff_getElem]
    intro i j hi hj hij
    rw [Array.length_toList] at hi hj
    have h4:=hs i j (Nat.zero_le _) hij (by omega)
    rw [ltOf_cfP,getElem!_pos d' i hi,getElem!_pos d' j hj] at h4
    simp only [Array.getElem_toList]
    simpa using h4
  · rw [sortP_eq]
    have h5:=row_sortP (k:=m) (d:=flatK encP 2 d') (os:=os) hP (by rw [size_flatK,p1,gpsV_length,hln])
    rw [flatK_gp] at h5
    exact h.step q hq ((chg_sortP w g m _ os).mono (fun j hj => .inl (by rw [hj]; rfl))) _ h5 (fun g' hg' => .inl hg')
set_option maxHeartbeats 2000000 in
theorem gpinsNil_any (p:Option Addr) (cap:Nat) (fv:Value) (w:World):Calls Tryz.prog 68 #[.slice p 0 cap,.int .i64 0,.int .i64 0,fv] w fun e w' => e=.returned (.tuple #[]) ∧ w'=w:=by
  go_enter Tryz.func68,Tryz.ntmps68
  go_wp2_with fail
  refine wp_loop_rounds 1 ?_
  rw [rounds_succ]
  go_wp2_with fail
  go_end0
  exact ⟨rfl,rfl⟩
set_option maxHeartbeats 2000000 in
theorem gppdqNil_any (p:Option Addr) (cap:Nat) (lim:Int) (fv:Value) (w:World):Calls Tryz.prog 53 #[.slice p 0 cap,.int .i64 0,.int .i64 0,.int .i64 lim,fv] w fun e w' => e=.returned (.tuple #[]) ∧ w'=w:=by
  go_enter Tryz.func53,Tryz.ntmps53
  go_wp2_with fail
  refine wp_loop_rounds 1 ?_
  rw [rounds_succ]
  go_wp2_with (go_at_call 68; refine (gpinsNil_any _ _ _ _).mono ?_; rintro e w' ⟨rfl,rfl⟩)
  (try simp only [Exit.inBlock,Exit.then]); refine bodyPost_ret (results_none rfl _ _ _) rfl ?_
  exact ⟨rfl,rfl⟩
theorem gpbitsLen0_any (w:World):Calls Tryz.prog 54 #[.int .u64 0] w fun e w' => e=.returned (.int .i64 (Lib.bitLen 0:Nat)) ∧ w'=w:=by
  have h:=Any.bits_Len (SlLaysF0.n15.bits (P:=Tryz.prog) (ρ:=shelf_laysCt_ren) { shelf_laysCt with }) 0 w (by omega) (by omega)
  exact h
set_option maxHeartbeats 2000000 in
theorem gpsortNil_any (p:Option Addr) (cap:Nat) (fv:Value) (w:World):Calls Tryz.prog 30 #[.slice p 0 cap,fv] w fun e w' => e=.returned (.tuple #[]) ∧ w'=w:=by
  have hl:=hide gpbitsLen0_any
  go_enter Tryz.func30,Tryz.ntmps30
  go_wp2_with (first | (go_at_call 54; refine (hl.out _).mono ?_; rintro e w' ⟨rfl,rfl⟩) | (go_at_call 53; refine (gppdqNil_any _ _ _ _ _).mono ?_; rintro e w' ⟨rfl,rfl⟩))
  go_end0
  exact ⟨rfl,rfl⟩
theorem gpsort_any {F:Nat → Prop} {W0 w:World} {items:List Item} (h:Sep F W0 w items) (q:Nat) {A:Option Addr} {n c:Nat} {l:List Gp} (hq:items[q]?=some (rowI 88 2 A n c (gpsV l))) (hn:n ≤ 1000000) :
    Calls Tryz.prog 30 #[.slice A n c,.func (.func 31) #[] #[]] w fun e w' => e=.returned (.tuple #[]) ∧ ∃ l':List Gp,l'.Perm l ∧ l'.Pairwise (fun a b => ¬ ltP b a) ∧ Sep F W0 w' (items.set q (rowI 88 2 A n c (gpsV l'))):=by
  have hrow:w.ownsRow 0 88 2 (.slice A n c) n (gpsV l):=h.get q hq
  have hln:l.length=n:=by have:=hrow.1; rw [gpsV_length] at this; omega
  by_cases h0:n=0
  · subst h0
    have hl0:l=[]:=List.length_eq_zero_iff.1 hln
    subst hl0
    refine (gpsortNil_any A c _ w).mono ?_
    rintro e w' ⟨he,rfl⟩
    exact ⟨he,[],List.Perm.refl _,.nil,h.step q hq (Chg.refl _ _) _ (h.get q hq) (fun g hg => .inl hg)⟩
  · obtain ⟨g,hg⟩:∃ g,A=some ⟨g,0,none⟩:=by
      rcases hrow.2 with ⟨h1,_⟩ | ⟨g,cap,cur,hv,_⟩
      · injection h1 with h1 h2 h3; omega
      · injection hv with hv; exact ⟨g,hv⟩
    subst hg
    exact gpsort_pos h q hq hn
theorem gpsV_counts (l:List Gp):gpsV l=countsV (l.map fun p => ((p.1:Int),(p.2:Int))):=by
  unfold gpsV countsV
  rw [List.flatMap_map]
theorem rem_sorted {l mks l':List Gp} (hm:mks.Pairwise ltP) (hn:l.Nodup) (h:∀ p,p ∈ l ↔ p ∈ mks) (hp:l'.Perm l) (hs:l'.Pairwise (fun a b => ¬ ltP b a)):l'=mks:=by
  have hn':l'.Nodup:=(hp.nodup_iff).2 hn
  have h2:l'.Pairwise ltP:=(hs.and hn').imp fun {a b} h => by
    rcases ltP_tri a b with h3 | h3 | h3
    · exact h3
    · exact absurd h3 h.2
    · exact absurd h3 h.1
  exact sorted_uniq h2 hm fun p => (hp.mem_iff).trans (h p)
end Go.Proofs.YtjphckfbbiehdaaGreat
