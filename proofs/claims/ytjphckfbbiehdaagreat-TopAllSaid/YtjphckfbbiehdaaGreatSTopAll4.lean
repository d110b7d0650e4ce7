/- Part of a proof. -/
import Derived.Test.YtjphckfbbiehdaaGreatSTopAll3
import Derived.Test.YtjphckfbbiehdaaGreatSTopAll0
import Derived.StillTailTactics
import Derived.Test.YtjphckfbbiehdaaGreatSTopAll1
import Derived.Laws.StructEq
set_option linter.unusedSimpArgs false
set_option linter.unusedVariables false
namespace Go.Proofs.YtjphckfbbiehdaaGreat
structure MSt where
  regs:List Val
  objs:List (List Val)
structure OutV where
  code:Int
  rf:Bool
  n:Int
def OutV.val (o:OutV):Value:=.agg #[.int .i64 o.code,.bool o.rf,.int .i64 o.n]
def rgA (l:List Val) (r:Int):Val:=l.getD r.toNat (false,0)
def obA (l:List (List Val)) (x:Int):List Val:=l.getD x.toNat []
def fErr (objs:List (List Val)) (v:Val) (at_:Int):Int:=if v.1=false then 5 else if at_ < 0 ∨ ((obA objs v.2).length:Int) ≤ at_ then 3 else 0
def stepK (d:DoV) (σ:MSt):OutV × MSt :=
  if d.k=1 then (⟨0,false,0⟩,⟨σ.regs.set d.to.toNat (true,σ.objs.length),σ.objs ++ [zeroVs d.n.toNat]⟩)
  else if d.k=2 then (⟨0,false,0⟩,⟨σ.regs.set d.to.toNat (false,d.n),σ.objs⟩)
  else if d.k=3 then (⟨0,false,0⟩,⟨σ.regs.set d.to.toNat (rgA σ.regs d.fr),σ.objs⟩)
  else if d.k=4 then
    if fErr σ.objs (rgA σ.regs d.to) d.at_ ≠ 0 then (⟨fErr σ.objs (rgA σ.regs d.to) d.at_,false,0⟩,σ)
    else (⟨0,false,0⟩,⟨σ.regs,σ.objs.set (rgA σ.regs d.to).2.toNat ((obA σ.objs (rgA σ.regs d.to).2).set d.at_.toNat (rgA σ.regs d.fr))⟩)
  else if d.k=5 then
    if fErr σ.objs (rgA σ.regs d.fr) d.at_ ≠ 0 then (⟨fErr σ.objs (rgA σ.regs d.fr) d.at_,false,0⟩,σ)
    else (⟨0,false,0⟩,⟨σ.regs.set d.to.toNat ((obA σ.objs (rgA σ.regs d.fr).2).getD d.at_.toNat (false,0)),σ.objs⟩)
  else if d.k=6 then (⟨0,false,if rgA σ.regs d.to=rgA σ.regs d.fr then 1 else 0⟩,σ)
  else (⟨0,(rgA σ.regs d.fr).1,if (rgA σ.regs d.fr).1=true then (obA σ.objs (rgA σ.regs d.fr).2).length else (rgA σ.regs d.fr).2⟩,σ)
def stepM (d:DoV) (σ:MSt):OutV × MSt:=if wrongM d ≠ 0 then (⟨wrongM d,false,0⟩,σ) else stepK d σ
structure MOk (σ:MSt):Prop where
  r8:σ.regs.length=8
  vr:ValsOk σ.objs.length σ.regs
  vo:∀ fs ∈ σ.objs,ValsOk σ.objs.length fs
  f4:∀ fs ∈ σ.objs,fs.length ≤ 4
theorem valsOk_mono {n m:Nat} {l:List Val} (h:ValsOk n l) (hm:n ≤ m):ValsOk m l:=fun v hv h1 => by have h2:=h v hv h1; exact ⟨h2.1,by have:=h2.2; omega⟩
theorem zeroVs_ok (n m:Nat):ValsOk n (zeroVs m):=fun v hv h1 => by
  obtain ⟨_,rfl⟩:=List.mem_replicate.1 hv
  cases h1
theorem mem_set_ {α:Type} {l:List α} {i:Nat} {a b:α} (h:b ∈ l.set i a):b ∈ l ∨ b=a:=by
  rcases List.mem_or_eq_of_mem_set h with h | h
  · exact .inl h
  · exact .inr h
theorem valsOk_set {n:Nat} {l:List Val} (h:ValsOk n l) (i:Nat) {v:Val} (hv:v.1=true → 0 ≤ v.2 ∧ v.2 < (n:Int)):ValsOk n (l.set i v):=fun u hu h1 => by
  rcases mem_set_ hu with h2 | rfl
  · exact h u h2 h1
  · exact hv h1
theorem getD_mem_or {α:Type} (l:List α) (i:Nat) (d:α):l.getD i d ∈ l ∨ l.getD i d=d:=by
  rw [List.getD_eq_getElem?_getD]
  cases h:l[i]? with
  | none => right; rfl
  | some a => left; exact List.mem_of_getElem? h
theorem valsOk_getD {n:Nat} {l:List Val} (h:ValsOk n l) (i:Nat):(l.getD i (false,0)).1=true → 0 ≤ (l.getD i (false,0)).2 ∧ (l.getD i (false,0)).2 < (n:Int):=fun h1 => by
  rcases getD_mem_or l i (false,0) with h2 | h2
  · exact h _ h2 h1
  · rw [h2] at h1; cases h1
theorem MOk.ob {σ:MSt} (h:MOk σ) (x:Int):ValsOk σ.objs.length (obA σ.objs x) ∧ (obA σ.objs x).length ≤ 4:=by
  unfold obA
  rcases getD_mem_or σ.objs x.toNat [] with h2 | h2
  · exact ⟨h.vo _ h2,h.f4 _ h2⟩
  · rw [h2]; exact ⟨fun v hv => (by cases hv),by simp⟩
theorem MOk.step {σ:MSt} (h:MOk σ) (d:DoV):MOk (stepM d σ).2 ∧ σ.objs.length ≤ (stepM d σ).2.objs.length ∧ (stepM d σ).2.objs.length ≤ σ.objs.length + 1:=by
  unfold stepM
  by_cases hw:wrongM d ≠ 0
  · rw [if_pos hw]; exact ⟨h,Nat.le_refl _,Nat.le_succ _⟩
  rw [if_neg hw]
  unfold stepK
  have hr:=fun r => valsOk_getD h.vr r
  have hwn:d.k=1 → d.n ≤ 4:=fun hk => by
    have hw2:wrongM d=0:=by omega
    unfold wrongM at hw2
    rw [if_neg (by omega)] at hw2
    split at hw2
    · omega
    · split at hw2
      · omega
      · rename_i h3
        omega
  split
  · rename_i hk
    refine ⟨⟨by simp [h.r8],?_,?_,?_⟩,by simp,by simp⟩
    · dsimp only
      rw [List.length_append,List.length_singleton]
      exact valsOk_set (valsOk_mono h.vr (by omega)) _ (fun _ => by dsimp only; omega)
    · dsimp only
      rw [List.length_append,List.length_singleton]
      intro fs hfs
      rcases List.mem_append.1 hfs with h1 | h1
      · exact valsOk_mono (h.vo fs h1) (by omega)
      · rw [List.mem_singleton.1 h1]; exact zeroVs_ok _ _
    · intro fs hfs
      rcases List.mem_append.1 hfs with h1 | h1
      · exact h.f4 fs h1
      · rw [List.mem_singleton.1 h1]
        have:=hwn hk
        simp [zeroVs]; omega
  split
  · exact ⟨⟨by simp [h.r8],valsOk_set h.vr _ (fun h => by cases h),h.vo,h.f4⟩,Nat.le_refl _,Nat.le_succ _⟩
  split
  · exact ⟨⟨by simp [h.r8],valsOk_set h.vr _ (hr _),h.vo,h.f4⟩,Nat.le_refl _,Nat.le_succ _⟩
  split
  · split
    · exact ⟨h,Nat.le_refl _,Nat.le_succ _⟩
    · refine ⟨⟨h.r8,by simpa using h.vr,?_,?_⟩,by simp,by simp⟩
      · intro fs hfs
        rw [List.length_set]
        rcases mem_set_ hfs with h1 | rfl
        · exact h.vo fs h1
        · exact valsOk_set (h.ob _).1 _ (hr _)
      · intro fs hfs
        rcases mem_set_ hfs with h1 | rfl
        · exact h.f4 fs h1
        · rw [List.length_set]; exact (h.ob _).2
  split
  · split
    · exact ⟨h,Nat.le_refl _,Nat.le_succ _⟩
    · exact ⟨⟨by simp [h.r8],valsOk_set h.vr _ (valsOk_getD (h.ob _).1 _),h.vo,h.f4⟩,Nat.le_refl _,Nat.le_succ _⟩
  split
  · exact ⟨h,Nat.le_refl _,Nat.le_succ _⟩
  · exact ⟨h,Nat.le_refl _,Nat.le_succ _⟩
theorem wrongM_rng {d:DoV} (h:wrongM d=0):1 ≤ d.k ∧ d.k ≤ 7:=by
  unfold wrongM at h
  split at h
  · omega
  · omega
theorem wrongM_to {d:DoV} (h:wrongM d=0) (hk:d.k ≠ 7):0 ≤ d.to ∧ d.to < 8:=by
  refine badR_no ?_
  unfold wrongM at h
  split at h
  · omega
  · split at h
    · omega
    · rename_i h2
      cases hb:badR d.to
      · rfl
      · exact absurd (.inl ⟨hk,hb⟩) h2
theorem wrongM_fr {d:DoV} (h:wrongM d=0) (hk:d.k ≠ 1) (hk2:d.k ≠ 2):0 ≤ d.fr ∧ d.fr < 8:=by
  refine badR_no ?_
  unfold wrongM at h
  split at h
  · omega
  · split at h
    · omega
    · rename_i h2
      cases hb:badR d.fr
      · rfl
      · exact absurd (.inr ⟨hk,hk2,hb⟩) h2
theorem wrongM_n {d:DoV} (h:wrongM d=0) (hk:d.k=1):0 ≤ d.n ∧ d.n ≤ 4:=by
  unfold wrongM at h
  split at h
  · omega
  · split at h
    · omega
    · split at h
      · omega
      · rename_i h3; omega
end Go.Proofs.YtjphckfbbiehdaaGreat

namespace Go.Proofs.YtjphckfbbiehdaaGreat
open Go.RowKit
section
variable {F : Nat → Prop} {W w : World} {items : List Item}
theorem Sep.store2 (h:Sep F W w items) (k:Nat) {e size n c g:Nat} {xs:List Value} (hk:items[k]?=some (rowI e size (some ⟨g,0,none⟩) n c xs)) (j:Nat) (u v:Value) :
    Sep F W ((w.setCell ⟨g,j,none⟩ u).setCell ⟨g,j + 1,none⟩ v) (items.set k (rowI e size (some ⟨g,0,none⟩) n c ((xs.set j u).set (j + 1) v))):=by
  have hkl:=(List.getElem?_eq_some_iff.1 hk).1
  have h1:=(h.store k hk j u).store k (xs:=xs.set j u) (by simp [hkl]; rfl) (j + 1) v
  simpa using h1
end
end Go.Proofs.YtjphckfbbiehdaaGreat

namespace Go.Proofs.YtjphckfbbiehdaaGreat
open Go.RowKit
def bools (l:List Bool):List Value:=l.map Value.bool
end Go.Proofs.YtjphckfbbiehdaaGreat

namespace Go.Proofs.YtjphckfbbiehdaaGreat
open Go.RowKit
def absI (s:Idl):MSt:=⟨s.regs,s.ps.map fun p => p.o.fields⟩
structure IOk (s:Idl):Prop where
  m:MOk (absI s)
  n:s.ps.length ≤ 500
def DoOk (Bm Be:Nat) (s:Idl) (w:World) (d:DoV):Prop :=
  Calls Tryz.prog 15 #[.pointer (some ⟨Bm,0,none⟩),.agg d.cells] w fun e w' => ∃ s',e=.returned (stepM d (absI s)).1.val ∧ absI s'=(stepM d (absI s)).2 ∧ Sep (idI Bm Be s).fp w w' [idI Bm Be s']
theorem id_cells {Bm Be:Nat} {s:Idl} {w:World} (hP:(idI Bm Be s).P w) (hl:s.regs.length=8) (r:Nat) (hr:r < 8):w.cell? ⟨Bm,r * 2,none⟩=some (.bool (rgA s.regs r).1) ∧ w.cell? ⟨Bm,r * 2 + 1,none⟩=some (.int .i64 (rgA s.regs r).2) ∧ w.cell? ⟨Bm,16,none⟩=some (idF Be) ∧ w.cell? ⟨Be,0,none⟩=some (.slice s.As s.ps.length s.c) ∧ Bm < w.heap.size:=by
  have hS:=(Sep.start hP).flat
  obtain ⟨c1,c2,c3,_⟩:=hS.rules 0 (g:=Bm) (t:=70) rfl
  obtain ⟨b1,_,_,_⟩:=hS.rules 1 (g:=Be) (t:=60) rfl
  have hrl:r < s.regs.length:=by omega
  obtain ⟨m1,m2⟩:=mc_reg (f:=idF Be) hrl
  have hg:rgA s.regs (r:Int)=s.regs[r]:=by unfold rgA; rw [show ((r:Int)).toNat=r from by omega,List.getD_eq_getElem?_getD,List.getElem?_eq_getElem hrl]; rfl
  rw [hg]
  exact ⟨(c1 _).trans m1,(c1 _).trans m2,(c1 16).trans (mc_if hl),(b1 0).trans rfl,c3⟩
set_option maxRecDepth 100000 in
set_option maxHeartbeats 8000000 in
theorem do_bad {Bm Be:Nat} {s:Idl} {w:World} (hP:(idI Bm Be s).P w) (d:DoV) (hw:wrongM d ≠ 0):DoOk Bm Be s w d:=by
  unfold DoOk
  obtain ⟨F,hF⟩:∃ F,(idI Bm Be s).fp=F:=⟨_,rfl⟩
  obtain ⟨g,hg⟩:∃ g,w.heap.size=g:=⟨_,rfl⟩
  have hS0:=((Sep.start hP).blkAt 72 d.cells (g:=g) hg).blkAt 74 #[.int .i64 0,.bool false,.int .i64 0] (g:=g + 1) (by simp [hg])
  rw [hF] at hS0 ⊢
  have hst:stepM d (absI s)=(⟨wrongM d,false,0⟩,absI s):=by unfold stepM; rw [if_pos hw]
  rw [hst]
  unfold OutV.val
  dsimp only
  have CW:=wrong_any ((w.alloc (.cells d.cells 72)).alloc (.cells #[.int .i64 0,.bool false,.int .i64 0] 74)) d
  obtain ⟨x,hx⟩:∃ x,wrongM d=x:=⟨_,rfl⟩
  rw [hx] at CW hw ⊢
  have HCW:=hide CW
  have HS0:=hide hS0
  have y1:(x != 0)=true:=by rw [bne_iff_ne]; exact hw
  obtain ⟨k,to,fr,at_,n⟩:=d
  unfold DoV.cells at HCW HS0 ⊢
  dsimp only at HCW HS0 ⊢
  obtain ⟨a1,a2,a3,a4⟩:=HS0.out.rules 1 (g:=g) (t:=72) rfl
  have e0:=(a1 0).trans (show _=some (.int .i64 k) from rfl)
  have e1:=(a1 1).trans (show _=some (.int .i64 to) from rfl)
  have e2:=(a1 2).trans (show _=some (.int .i64 fr) from rfl)
  have e3:=(a1 3).trans (show _=some (.int .i64 at_) from rfl)
  have e4:=(a1 4).trans (show _=some (.int .i64 n) from rfl)
  clear CW hS0 hst hw hx hF hP a1 a4
  go_enter Tryz.func15,Tryz.ntmps15
  go_wp2_with fail
  refine HCW.out.mono ?_
  rintro e w1 ⟨rfl,hb1⟩
  have hS1:=HS0.out.below hb1
  obtain ⟨b1,b2,b3,b4⟩:=hS1.rules 2 (g:=g + 1) (t:=74) rfl
  have f0:=(b1 0).trans (show _=some (.int .i64 0) from rfl)
  have f1:=(b1 1).trans (show _=some (.bool false) from rfl)
  have f2:=(b1 2).trans (show _=some (.int .i64 0) from rfl)
  have HS1:=hide hS1
  clear hb1 hS1 HS0 HCW a2 a3 e0 e1 e2 e3 e4 b1 b4
  go_wp2_with fail
  have hF:=((HS1.out.set_ 2 (g:=g + 1) (t:=74) rfl 0 (.int .i64 x)).set_ 2 (g:=g + 1) (t:=74) rfl 1 (.bool false)).set_ 2 (g:=g + 1) (t:=74) rfl 2 (.int .i64 0)
  refine bodyPost_ret (v:=.agg #[.int .i64 x,.bool false,.int .i64 0]) (by simp [results,Tryz.results15,go_sem,f0,f1,f2]) rfl ⟨s,rfl,rfl,hF.sub (by simp)⟩
set_option maxRecDepth 100000 in
set_option maxHeartbeats 16000000 in
theorem do_2 {Bm Be:Nat} {s:Idl} {w:World} (hP:(idI Bm Be s).P w) (ok:IOk s) (to fr at_ n:Int) (hw:wrongM ⟨2,to,fr,at_,n⟩=0):DoOk Bm Be s w ⟨2,to,fr,at_,n⟩:=by
  unfold DoOk
  obtain ⟨F,hF⟩:∃ F,(idI Bm Be s).fp=F:=⟨_,rfl⟩
  obtain ⟨g,hg⟩:∃ g,w.heap.size=g:=⟨_,rfl⟩
  have hS0:=((Sep.start hP).blkAt 72 (DoV.cells ⟨2,to,fr,at_,n⟩) (g:=g) hg).blkAt 74 #[.int .i64 0,.bool false,.int .i64 0] (g:=g + 1) (by simp [hg])
  rw [hF] at hS0 ⊢
  have h8:s.regs.length=8:=ok.m.r8
  have hps:(absI s).objs.length=s.ps.length:=by simp [absI]
  have hst:stepM ⟨2,to,fr,at_,n⟩ (absI s)=(⟨0,false,0⟩,⟨s.regs.set to.toNat (false,n),(absI s).objs⟩):=by
    unfold stepM
    rw [if_neg (by rw [hw]; simp)]
    unfold stepK
    simp [absI]
  rw [hst]
  unfold OutV.val
  dsimp only
  clear hst
  have HCW:=wrong_any ((w.alloc (.cells (DoV.cells ⟨2,to,fr,at_,n⟩) 72)).alloc (.cells #[.int .i64 0,.bool false,.int .i64 0] 74)) ⟨2,to,fr,at_,n⟩
  rw [hw] at HCW
  replace HCW:=hide HCW
  obtain ⟨t0,t1⟩:=wrongM_to hw (by show (2:Int) ≠ 7; decide)
  dsimp only at t0 t1
  obtain ⟨R,rfl⟩:=int_nat t0
  have hR:R < 8:=by omega
  rw [show ((R:Int)).toNat=R from by omega]
  have HS0:=hide hS0
  unfold DoV.cells at HCW HS0 ⊢
  dsimp only at HCW HS0 ⊢
  obtain ⟨a1,a2,a3,a4⟩:=HS0.out.rules 1 (g:=g) (t:=72) rfl
  have e0:=(a1 0).trans (show _=some (.int .i64 2) from rfl)
  have e1:=(a1 1).trans (show _=some (.int .i64 _) from rfl)
  have e2:=(a1 2).trans (show _=some (.int .i64 _) from rfl)
  have e3:=(a1 3).trans (show _=some (.int .i64 _) from rfl)
  have e4:=(a1 4).trans (show _=some (.int .i64 _) from rfl)
  have HOK:=hide ok
  have hbnd:=ok.n
  clear hS0 hF hP a1 a4 hw ok hps
  go_enter Tryz.func15,Tryz.ntmps15
  go_wp2_with fail
  refine HCW.out.mono ?_
  rintro e w1 ⟨rfl,hb1⟩
  have hS1:=HS0.out.below hb1
  obtain ⟨b1,b2,b3,b4⟩:=hS1.rules 2 (g:=g + 1) (t:=74) rfl
  have f0:=(b1 0).trans (show _=some (.int .i64 0) from rfl)
  have f1:=(b1 1).trans (show _=some (.bool false) from rfl)
  have f2:=(b1 2).trans (show _=some (.int .i64 0) from rfl)
  obtain ⟨a1,a2',a3',a4⟩:=hS1.rules 1 (g:=g) (t:=72) rfl
  have e0:=(a1 0).trans (show _=some (.int .i64 2) from rfl)
  have e1:=(a1 1).trans (show _=some (.int .i64 _) from rfl)
  have e2:=(a1 2).trans (show _=some (.int .i64 _) from rfl)
  have e3:=(a1 3).trans (show _=some (.int .i64 _) from rfl)
  have e4:=(a1 4).trans (show _=some (.int .i64 _) from rfl)
  clear a1 a4 b1 b4
  have HS1:=hide hS1
  clear hb1 HS0 HCW a2 a3
  have CM:=hide (mset_any (HS1.out.get 0 rfl) h8 (false,n) hR)
  dsimp only at CM
  clear hS1
  go_wp2_with fail
  refine CM.out.mono ?_
  rintro e w2 ⟨⟨u,rfl⟩,hP2⟩
  have hS2:=HS1.out.call 0 rfl hP2
  obtain ⟨b1,b2,b3,b4⟩:=hS2.rules 2 (g:=g + 1) (t:=74) rfl
  have f0:=(b1 0).trans (show _=some (.int .i64 0) from rfl)
  have f1:=(b1 1).trans (show _=some (.bool false) from rfl)
  have f2:=(b1 2).trans (show _=some (.int .i64 0) from rfl)
  obtain ⟨a1,a2',a3',a4⟩:=hS2.rules 1 (g:=g) (t:=72) rfl
  have e0:=(a1 0).trans (show _=some (.int .i64 2) from rfl)
  have e1:=(a1 1).trans (show _=some (.int .i64 _) from rfl)
  have e2:=(a1 2).trans (show _=some (.int .i64 _) from rfl)
  have e3:=(a1 3).trans (show _=some (.int .i64 _) from rfl)
  have e4:=(a1 4).trans (show _=some (.int .i64 _) from rfl)
  clear a1 a4 b1 b4
  have HS2:=hide hS2
  clear hP2 HS1 CM hS2
  go_wp2_with fail
  have hF:=(((HS2.out).set_ 2 (g:=g + 1) (t:=74) rfl 0 (.int .i64 0)).set_ 2 (g:=g + 1) (t:=74) rfl 1 (.bool false)).set_ 2 (g:=g + 1) (t:=74) rfl 2 (.int .i64 0)
  refine bodyPost_ret (v:=.agg #[.int .i64 0,.bool false,.int .i64 0]) (by simp [results,Tryz.results15,go_sem,f0,f1,f2]) rfl ⟨s.set R (false,n),rfl,rfl,hF.sub (by simp)⟩
set_option maxRecDepth 100000 in
set_option maxHeartbeats 16000000 in
theorem do_1 {Bm Be:Nat} {s:Idl} {w:World} (hP:(idI Bm Be s).P w) (ok:IOk s) (to fr at_ n:Int) (hw:wrongM ⟨1,to,fr,at_,n⟩=0):DoOk Bm Be s w ⟨1,to,fr,at_,n⟩:=by
  unfold DoOk
  obtain ⟨F,hF⟩:∃ F,(idI Bm Be s).fp=F:=⟨_,rfl⟩
  obtain ⟨g,hg⟩:∃ g,w.heap.size=g:=⟨_,rfl⟩
  have hS0:=((Sep.start hP).blkAt 72 (DoV.cells ⟨1,to,fr,at_,n⟩) (g:=g) hg).blkAt 74 #[.int .i64 0,.bool false,.int .i64 0] (g:=g + 1) (by simp [hg])
  rw [hF] at hS0 ⊢
  have h8:s.regs.length=8:=ok.m.r8
  have hps:(absI s).objs.length=s.ps.length:=by simp [absI]
  have hst:stepM ⟨1,to,fr,at_,n⟩ (absI s)=(⟨0,false,0⟩,⟨s.regs.set to.toNat (true,s.ps.length),(absI s).objs ++ [zeroVs n.toNat]⟩):=by
    unfold stepM
    rw [if_neg (by rw [hw]; simp)]
    unfold stepK
    simp [absI]
  rw [hst]
  unfold OutV.val
  dsimp only
  clear hst
  have HCW:=wrong_any ((w.alloc (.cells (DoV.cells ⟨1,to,fr,at_,n⟩) 72)).alloc (.cells #[.int .i64 0,.bool false,.int .i64 0] 74)) ⟨1,to,fr,at_,n⟩
  rw [hw] at HCW
  replace HCW:=hide HCW
  obtain ⟨t0,t1⟩:=wrongM_to hw (by show (1:Int) ≠ 7; decide)
  dsimp only at t0 t1
  obtain ⟨R,rfl⟩:=int_nat t0
  have hR:R < 8:=by omega
  rw [show ((R:Int)).toNat=R from by omega]
  obtain ⟨n0,n1⟩:=wrongM_n hw rfl
  dsimp only at n0 n1
  obtain ⟨N,rfl⟩:=int_nat n0
  have hN:N ≤ 4:=by omega
  rw [show ((N:Int)).toNat=N from by omega]
  have HS0:=hide hS0
  unfold DoV.cells at HCW HS0 ⊢
  dsimp only at HCW HS0 ⊢
  obtain ⟨a1,a2,a3,a4⟩:=HS0.out.rules 1 (g:=g) (t:=72) rfl
  have e0:=(a1 0).trans (show _=some (.int .i64 1) from rfl)
  have e1:=(a1 1).trans (show _=some (.int .i64 _) from rfl)
  have e2:=(a1 2).trans (show _=some (.int .i64 _) from rfl)
  have e3:=(a1 3).trans (show _=some (.int .i64 _) from rfl)
  have e4:=(a1 4).trans (show _=some (.int .i64 _) from rfl)
  have HOK:=hide ok
  have hbnd:=ok.n
  clear hS0 hF hP a1 a4 hw ok hps
  go_enter Tryz.func15,Tryz.ntmps15
  go_wp2_with fail
  refine HCW.out.mono ?_
  rintro e w1 ⟨rfl,hb1⟩
  have hS1:=HS0.out.below hb1
  obtain ⟨b1,b2,b3,b4⟩:=hS1.rules 2 (g:=g + 1) (t:=74) rfl
  have f0:=(b1 0).trans (show _=some (.int .i64 0) from rfl)
  have f1:=(b1 1).trans (show _=some (.bool false) from rfl)
  have f2:=(b1 2).trans (show _=some (.int .i64 0) from rfl)
  obtain ⟨a1,a2',a3',a4⟩:=hS1.rules 1 (g:=g) (t:=72) rfl
  have e0:=(a1 0).trans (show _=some (.int .i64 1) from rfl)
  have e1:=(a1 1).trans (show _=some (.int .i64 _) from rfl)
  have e2:=(a1 2).trans (show _=some (.int .i64 _) from rfl)
  have e3:=(a1 3).trans (show _=some (.int .i64 _) from rfl)
  have e4:=(a1 4).trans (show _=some (.int .i64 _) from rfl)
  clear a1 a4 b1 b4
  have HS1:=hide hS1
  clear hb1 HS0 HCW a2 a3
  have hP1:(idI Bm Be s).P w1:=hS1.get 0 rfl
  obtain ⟨_,_,i1,_,i2⟩:=id_cells hP1 h8 0 (by omega)
  have CN:=hide (new_any (w:=w1.drew) (hS1.drew.get 0 rfl) (by omega) hN)
  have hinv:=meth_new Be
  clear hS1 hP1
  go_wp2_with fail
  go_region_held3 (fun w' => w'.cell? ⟨Bm,16,none⟩=some (idF Be) ∧ w'.cell? ⟨g,4,none⟩=some (.int .i64 (N:Int))) (go_keep)
    ((go_at_call 106; (with_reducible refine CN.out.mono ?_); rintro e w2 ⟨A,c,B,gn,rfl,hP2⟩; have hS2:=HS1.out.drew.call 0 rfl hP2; obtain ⟨_,_,k1,_,k2⟩:=id_cells (hS2.get 0 rfl) h8 0 (by omega); have k3:w2.cell? ⟨g,4,none⟩=some (.int .i64 (N:Int)):=((hS2.rules 1 (g:=g) (t:=72) rfl).1 4).trans rfl; have HS2:=hide hS2; clear hP2 hS2))
  all_goals
    have hS2:=HS2.out
    obtain ⟨b1,b2,b3,b4⟩:=hS2.rules 2 (g:=g + 1) (t:=74) rfl
    have f0:=(b1 0).trans (show _=some (.int .i64 0) from rfl)
    have f1:=(b1 1).trans (show _=some (.bool false) from rfl)
    have f2:=(b1 2).trans (show _=some (.int .i64 0) from rfl)
    obtain ⟨a1,a2',a3',a4⟩:=hS2.rules 1 (g:=g) (t:=72) rfl
    have e0:=(a1 0).trans (show _=some (.int .i64 1) from rfl)
    have e1:=(a1 1).trans (show _=some (.int .i64 _) from rfl)
    have e2:=(a1 2).trans (show _=some (.int .i64 _) from rfl)
    have e3:=(a1 3).trans (show _=some (.int .i64 _) from rfl)
    have e4:=(a1 4).trans (show _=some (.int .i64 _) from rfl)
    clear a1 a4 b1 b4
    have CM:=hide (mset_any (hS2.get 0 rfl) h8 (true,s.ps.length) hR)
    dsimp only at CM
    clear hS2 CN
    go_wp2_with fail
    refine CM.out.mono ?_
    rintro e w3 ⟨⟨u,rfl⟩,hP3⟩
    have hS3:=HS2.out.call 0 rfl hP3
    obtain ⟨b1,b2,b3,b4⟩:=hS3.rules 2 (g:=g + 1) (t:=74) rfl
    have f0:=(b1 0).trans (show _=some (.int .i64 0) from rfl)
    have f1:=(b1 1).trans (show _=some (.bool false) from rfl)
    have f2:=(b1 2).trans (show _=some (.int .i64 0) from rfl)
    obtain ⟨a1,a2',a3',a4⟩:=hS3.rules 1 (g:=g) (t:=72) rfl
    have e0:=(a1 0).trans (show _=some (.int .i64 1) from rfl)
    have e1:=(a1 1).trans (show _=some (.int .i64 _) from rfl)
    have e2:=(a1 2).trans (show _=some (.int .i64 _) from rfl)
    have e3:=(a1 3).trans (show _=some (.int .i64 _) from rfl)
    have e4:=(a1 4).trans (show _=some (.int .i64 _) from rfl)
    clear a1 a4 b1 b4
    have HS3:=hide hS3
    clear hP3 HS2 CM hS3
    go_wp2_with fail
    have hF:=(((HS3.out).set_ 2 (g:=g + 1) (t:=74) rfl 0 (.int .i64 0)).set_ 2 (g:=g + 1) (t:=74) rfl 1 (.bool false)).set_ 2 (g:=g + 1) (t:=74) rfl 2 (.int .i64 0)
    refine bodyPost_ret (v:=.agg #[.int .i64 0,.bool false,.int .i64 0]) (by simp [results,Tryz.results15,go_sem,f0,f1,f2]) rfl ⟨(s.new A c B gn N).set R (true,s.ps.length),rfl,by simp [absI,Idl.set,Idl.new],hF.sub (by simp)⟩
set_option maxRecDepth 100000 in
set_option maxHeartbeats 16000000 in
theorem do_3 {Bm Be:Nat} {s:Idl} {w:World} (hP:(idI Bm Be s).P w) (ok:IOk s) (to fr at_ n:Int) (hw:wrongM ⟨3,to,fr,at_,n⟩=0):DoOk Bm Be s w ⟨3,to,fr,at_,n⟩:=by
  unfold DoOk
  obtain ⟨F,hF⟩:∃ F,(idI Bm Be s).fp=F:=⟨_,rfl⟩
  obtain ⟨g,hg⟩:∃ g,w.heap.size=g:=⟨_,rfl⟩
  have hS0:=((Sep.start hP).blkAt 72 (DoV.cells ⟨3,to,fr,at_,n⟩) (g:=g) hg).blkAt 74 #[.int .i64 0,.bool false,.int .i64 0] (g:=g + 1) (by simp [hg])
  rw [hF] at hS0 ⊢
  have h8:s.regs.length=8:=ok.m.r8
  have hps:(absI s).objs.length=s.ps.length:=by simp [absI]
  have hst:stepM ⟨3,to,fr,at_,n⟩ (absI s)=(⟨0,false,0⟩,⟨s.regs.set to.toNat (rgA s.regs fr),(absI s).objs⟩):=by
    unfold stepM
    rw [if_neg (by rw [hw]; simp)]
    unfold stepK
    simp [absI]
  rw [hst]
  unfold OutV.val
  dsimp only
  clear hst
  have HCW:=wrong_any ((w.alloc (.cells (DoV.cells ⟨3,to,fr,at_,n⟩) 72)).alloc (.cells #[.int .i64 0,.bool false,.int .i64 0] 74)) ⟨3,to,fr,at_,n⟩
  rw [hw] at HCW
  replace HCW:=hide HCW
  obtain ⟨t0,t1⟩:=wrongM_to hw (by show (3:Int) ≠ 7; decide)
  dsimp only at t0 t1
  obtain ⟨R,rfl⟩:=int_nat t0
  have hR:R < 8:=by omega
  obtain ⟨u0,u1⟩:=wrongM_fr hw (by show (3:Int) ≠ 1; decide) (by show (3:Int) ≠ 2; decide)
  dsimp only at u0 u1
  obtain ⟨Q,rfl⟩:=int_nat u0
  have hQ:Q < 8:=by omega
  rw [show ((R:Int)).toNat=R from by omega]
  have HS0:=hide hS0
  unfold DoV.cells at HCW HS0 ⊢
  dsimp only at HCW HS0 ⊢
  obtain ⟨a1,a2,a3,a4⟩:=HS0.out.rules 1 (g:=g) (t:=72) rfl
  have e0:=(a1 0).trans (show _=some (.int .i64 3) from rfl)
  have e1:=(a1 1).trans (show _=some (.int .i64 _) from rfl)
  have e2:=(a1 2).trans (show _=some (.int .i64 _) from rfl)
  have e3:=(a1 3).trans (show _=some (.int .i64 _) from rfl)
  have e4:=(a1 4).trans (show _=some (.int .i64 _) from rfl)
  have HOK:=hide ok
  have hbnd:=ok.n
  clear hS0 hF hP a1 a4 hw ok hps
  go_enter Tryz.func15,Tryz.ntmps15
  go_wp2_with fail
  refine HCW.out.mono ?_
  rintro e w1 ⟨rfl,hb1⟩
  have hS1:=HS0.out.below hb1
  obtain ⟨b1,b2,b3,b4⟩:=hS1.rules 2 (g:=g + 1) (t:=74) rfl
  have f0:=(b1 0).trans (show _=some (.int .i64 0) from rfl)
  have f1:=(b1 1).trans (show _=some (.bool false) from rfl)
  have f2:=(b1 2).trans (show _=some (.int .i64 0) from rfl)
  obtain ⟨a1,a2',a3',a4⟩:=hS1.rules 1 (g:=g) (t:=72) rfl
  have e0:=(a1 0).trans (show _=some (.int .i64 3) from rfl)
  have e1:=(a1 1).trans (show _=some (.int .i64 _) from rfl)
  have e2:=(a1 2).trans (show _=some (.int .i64 _) from rfl)
  have e3:=(a1 3).trans (show _=some (.int .i64 _) from rfl)
  have e4:=(a1 4).trans (show _=some (.int .i64 _) from rfl)
  clear a1 a4 b1 b4
  have HS1:=hide hS1
  clear hb1 HS0 HCW a2 a3
  have hP1:(idI Bm Be s).P w1:=hS1.get 0 rfl
  obtain ⟨i3,i4,i1,_,i2⟩:=id_cells hP1 h8 Q hQ
  obtain ⟨v,hv⟩:∃ v,rgA s.regs (Q:Int)=v:=⟨_,rfl⟩
  rw [hv] at i3 i4
  have HV:=hide hv
  have CM:=hide (mset_any (w:=w1.drew) (hS1.drew.get 0 rfl) h8 v hR)
  obtain ⟨bv,mv⟩:=v
  dsimp only at i3 i4 CM
  clear hS1 hP1 hv
  go_wp2_with fail
  go_region_law (first
    | (try go_simp
       go_at_call 39
       refine CM.out.mono ?_
       rintro e w2 ⟨⟨u,rfl⟩,hP2⟩))
  all_goals
    have hS2:=HS1.out.drew.call 0 rfl hP2
    obtain ⟨b1,b2,b3,b4⟩:=hS2.rules 2 (g:=g + 1) (t:=74) rfl
    have f0:=(b1 0).trans (show _=some (.int .i64 0) from rfl)
    have f1:=(b1 1).trans (show _=some (.bool false) from rfl)
    have f2:=(b1 2).trans (show _=some (.int .i64 0) from rfl)
    obtain ⟨a1,a2',a3',a4⟩:=hS2.rules 1 (g:=g) (t:=72) rfl
    have e0:=(a1 0).trans (show _=some (.int .i64 3) from rfl)
    have e1:=(a1 1).trans (show _=some (.int .i64 _) from rfl)
    have e2:=(a1 2).trans (show _=some (.int .i64 _) from rfl)
    have e3:=(a1 3).trans (show _=some (.int .i64 _) from rfl)
    have e4:=(a1 4).trans (show _=some (.int .i64 _) from rfl)
    clear a1 a4 b1 b4
    have HS2:=hide hS2
    clear hP2 HS1 CM hS2
    go_wp2_with fail
    have hF:=(((HS2.out).set_ 2 (g:=g + 1) (t:=74) rfl 0 (.int .i64 0)).set_ 2 (g:=g + 1) (t:=74) rfl 1 (.bool false)).set_ 2 (g:=g + 1) (t:=74) rfl 2 (.int .i64 0)
    refine bodyPost_ret (v:=.agg #[.int .i64 0,.bool false,.int .i64 0]) (by simp [results,Tryz.results15,go_sem,f0,f1,f2]) rfl ⟨s.set R (bv,mv),rfl,(by rw [HV.out]; rfl),hF.sub (by simp)⟩
theorem ferr_eq {Bm Be:Nat} {s:Idl} {F:Nat → Prop} {W w:World} (h:Sep F W w (idL Bm Be s)) (v:Val) (hv:v.1=true → 0 ≤ v.2 ∧ v.2 < (s.ps.length:Int)) (at_:Int) :
    (if v.1=false then (5:Int) else if at_ < 0 ∨ ((s.ps.map fun p => (p.o.n:Int)).getD v.2.toNat 0) ≤ at_ then 3 else 0)=fErr (absI s).objs v at_:=by
  unfold fErr
  cases hb:v.1 with
  | false => rfl
  | true =>
    obtain ⟨h0,h1⟩:=hv hb
    have hz:v.2.toNat < s.ps.length:=by omega
    have e1:(s.ps.map fun p => (p.o.n:Int)).getD v.2.toNat 0=(s.ps[v.2.toNat].o.n:Int):=by
      rw [List.getD_eq_getElem?_getD]; simp [List.getElem?_eq_getElem hz]
    have e2:obA (absI s).objs v.2=s.ps[v.2.toNat].o.fields:=by
      unfold obA absI
      rw [List.getD_eq_getElem?_getD]; simp [List.getElem?_eq_getElem hz]
    rw [e1,e2,Idl.fields_len h (List.getElem_mem hz)]
theorem ferr_zero {objs:List (List Val)} {v:Val} {at_:Int} (h:fErr objs v at_=0):v.1=true ∧ 0 ≤ at_ ∧ at_ < ((obA objs v.2).length:Int):=by
  unfold fErr at h
  split at h
  · omega
  · rename_i h1
    split at h
    · omega
    · exact ⟨by simpa using h1,by omega,by omega⟩
theorem ferr_facts {Bm Be:Nat} {s:Idl} {F:Nat → Prop} {W w:World} (h:Sep F W w (idL Bm Be s)) (ok:IOk s) {bv:Bool} {mv at_:Int} (hv:bv=true → 0 ≤ mv ∧ mv < (s.ps.length:Int)) (hz:fErr (absI s).objs (bv,mv) at_=0) :
    bv=true ∧ ∃ i k:Nat,mv=(i:Int) ∧ at_=(k:Int) ∧ ∃ hi:i < s.ps.length,k < s.ps[i].o.fields.length ∧ k < s.ps[i].o.n ∧ s.ps[i].o.n ≤ 4 ∧ obA (absI s).objs (i:Int)=s.ps[i].o.fields ∧ (absI s).objs.length=s.ps.length:=by
  obtain ⟨h1,h2,h3⟩:=ferr_zero hz
  dsimp only at h1 h3
  obtain ⟨h4,h5⟩:=hv h1
  obtain ⟨i,rfl⟩:=int_nat h4
  obtain ⟨k,rfl⟩:=int_nat h2
  have hi:i < s.ps.length:=by omega
  have e2:obA (absI s).objs (i:Int)=s.ps[i].o.fields:=by
    unfold obA absI
    rw [show ((i:Int)).toNat=i from by omega,List.getD_eq_getElem?_getD]; simp [List.getElem?_eq_getElem hi]
  have e3:=Idl.fields_len h (List.getElem_mem hi)
  have e4:=ok.m.f4 s.ps[i].o.fields (by unfold absI; exact List.mem_map.2 ⟨s.ps[i],List.getElem_mem hi,rfl⟩)
  rw [e2] at h3
  exact ⟨h1,i,k,rfl,rfl,hi,by omega,by omega,by omega,e2,by simp [absI]⟩
theorem abs_put (s:Idl) (i k:Nat) (v:Val) (hi:i < s.ps.length):absI (s.put i k v hi)=⟨s.regs,(absI s).objs.set i (s.ps[i].o.fields.set k v)⟩:=by
  unfold absI Idl.put
  simp [List.map_set,Po.put]
set_option maxRecDepth 100000 in
set_option maxHeartbeats 16000000 in
theorem do_4 {Bm Be:Nat} {s:Idl} {w:World} (hP:(idI Bm Be s).P w) (ok:IOk s) (to fr at_ n:Int) (hw:wrongM ⟨4,to,fr,at_,n⟩=0):DoOk Bm Be s w ⟨4,to,fr,at_,n⟩:=by
  unfold DoOk
  obtain ⟨F,hF⟩:∃ F,(idI Bm Be s).fp=F:=⟨_,rfl⟩
  obtain ⟨g,hg⟩:∃ g,w.heap.size=g:=⟨_,rfl⟩
  have hS0:=((Sep.start hP).blkAt 72 (DoV.cells ⟨4,to,fr,at_,n⟩) (g:=g) hg).blkAt 74 #[.int .i64 0,.bool false,.int .i64 0] (g:=g + 1) (by simp [hg])
  rw [hF] at hS0 ⊢
  have h8:s.regs.length=8:=ok.m.r8
  have hps:(absI s).objs.length=s.ps.length:=by simp [absI]
  have hst:stepM ⟨4,to,fr,at_,n⟩ (absI s)=if fErr (absI s).objs (rgA s.regs to) at_ ≠ 0 then (⟨fErr (absI s).objs (rgA s.regs to) at_,false,0⟩,absI s) else (⟨0,false,0⟩,⟨s.regs,(absI s).objs.set (rgA s.regs to).2.toNat ((obA (absI s).objs (rgA s.regs to).2).set at_.toNat (rgA s.regs fr))⟩):=by
    unfold stepM
    rw [if_neg (by rw [hw]; simp)]
    unfold stepK
    dsimp only
    rw [if_neg (show ¬(4:Int)=1 by decide),if_neg (show ¬(4:Int)=2 by decide),if_neg (show ¬(4:Int)=3 by decide),if_pos rfl]
    rfl
  obtain ⟨res,hres⟩:∃ r,stepM ⟨4,to,fr,at_,n⟩ (absI s)=r:=⟨_,rfl⟩
  rw [hres] at hst
  rw [hres]
  have HRES:=hide hst
  clear hst hres
  have HCW:=wrong_any ((w.alloc (.cells (DoV.cells ⟨4,to,fr,at_,n⟩) 72)).alloc (.cells #[.int .i64 0,.bool false,.int .i64 0] 74)) ⟨4,to,fr,at_,n⟩
  rw [hw] at HCW
  replace HCW:=hide HCW
  obtain ⟨t0,t1⟩:=wrongM_to hw (by show (4:Int) ≠ 7; decide)
  dsimp only at t0 t1
  obtain ⟨R,rfl⟩:=int_nat t0
  have hR:R < 8:=by omega
  obtain ⟨u0,u1⟩:=wrongM_fr hw (by show (4:Int) ≠ 1; decide) (by show (4:Int) ≠ 2; decide)
  dsimp only at u0 u1
  obtain ⟨Q,rfl⟩:=int_nat u0
  have hQ:Q < 8:=by omega
  have hvv:(rgA s.regs (R:Int)).1=true → 0 ≤ (rgA s.regs (R:Int)).2 ∧ (rgA s.regs (R:Int)).2 < (s.ps.length:Int):=by rw [← hps]; exact valsOk_getD ok.m.vr _
  have HVV:=hide hvv
  have HS0:=hide hS0
  unfold DoV.cells at HCW HS0 ⊢
  dsimp only at HCW HS0 ⊢
  obtain ⟨a1,a2,a3,a4⟩:=HS0.out.rules 1 (g:=g) (t:=72) rfl
  have e0:=(a1 0).trans (show _=some (.int .i64 4) from rfl)
  have e1:=(a1 1).trans (show _=some (.int .i64 _) from rfl)
  have e2:=(a1 2).trans (show _=some (.int .i64 _) from rfl)
  have e3:=(a1 3).trans (show _=some (.int .i64 _) from rfl)
  have e4:=(a1 4).trans (show _=some (.int .i64 _) from rfl)
  have HOK:=hide ok
  have hbnd:=ok.n
  clear hS0 hF hP a1 a4 hw ok hps
  go_enter Tryz.func15,Tryz.ntmps15
  go_wp2_with fail
  refine HCW.out.mono ?_
  rintro e w1 ⟨rfl,hb1⟩
  have hS1:=HS0.out.below hb1
  obtain ⟨b1,b2,b3,b4⟩:=hS1.rules 2 (g:=g + 1) (t:=74) rfl
  have f0:=(b1 0).trans (show _=some (.int .i64 0) from rfl)
  have f1:=(b1 1).trans (show _=some (.bool false) from rfl)
  have f2:=(b1 2).trans (show _=some (.int .i64 0) from rfl)
  obtain ⟨a1,a2',a3',a4⟩:=hS1.rules 1 (g:=g) (t:=72) rfl
  have e0:=(a1 0).trans (show _=some (.int .i64 4) from rfl)
  have e1:=(a1 1).trans (show _=some (.int .i64 _) from rfl)
  have e2:=(a1 2).trans (show _=some (.int .i64 _) from rfl)
  have e3:=(a1 3).trans (show _=some (.int .i64 _) from rfl)
  have e4:=(a1 4).trans (show _=some (.int .i64 _) from rfl)
  clear a1 a4 b1 b4
  have HS1:=hide hS1
  clear hb1 HS0 HCW a2 a3
  have hP1:(idI Bm Be s).P w1:=hS1.get 0 rfl
  obtain ⟨i3,i4,i1,_,i2⟩:=id_cells hP1 h8 R hR
  clear hvv
  obtain ⟨v,hv⟩:∃ v,rgA s.regs (R:Int)=v:=⟨_,rfl⟩
  have HVD:=hide hv
  rw [hv] at i3 i4 HVV
  clear hv hS1 hP1
  obtain ⟨bv,mv⟩:=v
  dsimp only at i3 i4
  go_wp2_with fail
  have q1:g ≠ w1.heap.size:=by omega
  have q2:Bm ≠ w1.heap.size:=by omega
  go_region_held3 (fun w' => w'.cell? ⟨g,1,none⟩=some (.int .i64 (R:Int)) ∧ w'.cell? ⟨Bm,R * 2,none⟩=some (.bool bv) ∧ w'.cell? ⟨Bm,R * 2 + 1,none⟩=some (.int .i64 mv)) (simp (config:={ maxDischargeDepth:=8 }) [*,World.cell?_alloc_some]) (fail)
  have hSv:=(HS1.out.blkAt 63 #[.bool bv,.int .i64 mv] (g:=w1.heap.size) rfl).drew
  have CF:=mfield_any (pre:=[]) ((Sep.start (hSv.get 0 rfl)).flat) h8 (by omega) (bv,mv) at_ HVV.out
  rw [ferr_eq ((Sep.start (hSv.get 0 rfl)).flat) (bv,mv) HVV.out at_] at CF
  dsimp only at CF
  obtain ⟨x,hx⟩:∃ x,fErr (absI s).objs (bv,mv) at_=x:=⟨_,rfl⟩
  rw [hx] at CF
  have HX:=hide hx
  have HCF:=hide CF
  obtain ⟨gv,hgv⟩:∃ g,w1.heap.size=g:=⟨_,rfl⟩
  obtain ⟨v1,v2,v3,_⟩:=hSv.rules 3 (g:=w1.heap.size) (t:=63) rfl
  have v4:=(v1 0).trans (show _=some (.bool bv) from rfl)
  have v5:=(v1 1).trans (show _=some (.int .i64 mv) from rfl)
  obtain ⟨b1,b2,b3,b4⟩:=hSv.rules 2 (g:=g + 1) (t:=74) rfl
  have f0:=(b1 0).trans (show _=some (.int .i64 0) from rfl)
  have f1:=(b1 1).trans (show _=some (.bool false) from rfl)
  have f2:=(b1 2).trans (show _=some (.int .i64 0) from rfl)
  obtain ⟨a1,a2',a3',a4⟩:=hSv.rules 1 (g:=g) (t:=72) rfl
  have e0:=(a1 0).trans (show _=some (.int .i64 4) from rfl)
  have e1:=(a1 1).trans (show _=some (.int .i64 _) from rfl)
  have e2:=(a1 2).trans (show _=some (.int .i64 _) from rfl)
  have e3:=(a1 3).trans (show _=some (.int .i64 _) from rfl)
  have e4:=(a1 4).trans (show _=some (.int .i64 _) from rfl)
  clear a1 a4 b1 b4
  have HSV:=hide hSv
  clear hSv CF hx v1
  obtain ⟨W,hW⟩:∃ W,(w1.alloc (.cells #[.bool bv,.int .i64 mv] 63)).drew=W:=⟨_,rfl⟩
  rw [hW] at HSV HCF v2 v3 v4 v5 f0 f1 f2 e0 e1 e2 e3 e4 ⊢
  clear hW q1 q2 i1 i2 i3 i4
  try rw [hgv] at v4
  try rw [hgv] at v5
  try rw [hgv] at HSV
  try rw [hgv] at v2
  rw [hgv]
  clear hgv
  go_wp2_with fail
  refine HCF.out.mono ?_
  rintro e w3 ⟨rfl,hb3⟩
  have hS3:=HSV.out.below hb3
  obtain ⟨b1,b2,b3,b4⟩:=hS3.rules 2 (g:=g + 1) (t:=74) rfl
  have f0:=(b1 0).trans (show _=some (.int .i64 0) from rfl)
  have f1:=(b1 1).trans (show _=some (.bool false) from rfl)
  have f2:=(b1 2).trans (show _=some (.int .i64 0) from rfl)
  obtain ⟨a1,a2',a3',a4⟩:=hS3.rules 1 (g:=g) (t:=72) rfl
  have e0:=(a1 0).trans (show _=some (.int .i64 4) from rfl)
  have e1:=(a1 1).trans (show _=some (.int .i64 _) from rfl)
  have e2:=(a1 2).trans (show _=some (.int .i64 _) from rfl)
  have e3:=(a1 3).trans (show _=some (.int .i64 _) from rfl)
  have e4:=(a1 4).trans (show _=some (.int .i64 _) from rfl)
  clear a1 a4 b1 b4
  obtain ⟨v1,v2,v3,_⟩:=hS3.rules 3 (g:=gv) (t:=63) rfl
  have v4:=(v1 0).trans (show _=some (.bool bv) from rfl)
  have v5:=(v1 1).trans (show _=some (.int .i64 mv) from rfl)
  clear hb3 HSV HCF v1
  have HS3:=hide hS3
  clear hS3 HS1
  by_cases hxz:x=0
  · subst hxz
    obtain ⟨rfl,i,k,rfl,rfl,hi,hk,hkn,h4,hoe,hol⟩:=ferr_facts ((Sep.start (HS3.out.get 0 rfl)).flat) HOK.out HVV.out HX.out
    obtain ⟨i3,i4,i1,i5,i2⟩:=id_cells (HS3.out.get 0 rfl) h8 Q hQ
    obtain ⟨u,hu⟩:∃ u,rgA s.regs (Q:Int)=u:=⟨_,rfl⟩
    have HU:=hide hu
    rw [hu] at i3 i4
    have hS3d:=HS3.out.drew
    have CP:=hide (put_any (hS3d.get 0 rfl) (by omega) u hi hk hkn h4)
    have hme:=meth_put Be (.slice s.As s.ps.length s.c) w3.drew (by rw [World.cell?_drew]; exact i5)
    obtain ⟨bu,mu⟩:=u
    dsimp only at i3 i4 CP
    clear hS3d hu HOK HVV i5
    go_wp2_with fail
    go_region_held3 (fun w' => w'.cell? ⟨Bm,16,none⟩=some (idF Be) ∧ w'.cell? ⟨gv,1,none⟩=some (.int .i64 (i:Int)) ∧ w'.cell? ⟨g,3,none⟩=some (.int .i64 (k:Int)) ∧ w'.cell? ⟨g,2,none⟩=some (.int .i64 (Q:Int)) ∧ w'.cell? ⟨Bm,Q * 2,none⟩=some (.bool bu) ∧ w'.cell? ⟨Bm,Q * 2 + 1,none⟩=some (.int .i64 mu)) (go_keep)
      ((go_at_call 107; (with_reducible refine CP.out.mono ?_); rintro e w4 ⟨⟨u,rfl⟩,hP4⟩; have hS4:=HS3.out.drew.call 0 rfl hP4; obtain ⟨k3,k4,k1,_,k2⟩:=id_cells (hS4.get 0 rfl) (show (s.put i k (bu,mu) hi).regs.length=8 from h8) Q hQ; rw [show rgA (s.put i k (bu,mu) hi).regs (Q:Int)=(bu,mu) from HU.out] at k3 k4; obtain ⟨a1,_,a3,_⟩:=hS4.rules 1 (g:=g) (t:=72) rfl; have k5:=(a1 2).trans (show _=some (.int .i64 (Q:Int)) from rfl); have k6:=(a1 3).trans (show _=some (.int .i64 (k:Int)) from rfl); obtain ⟨c1,_,c3,_⟩:=hS4.rules 3 (g:=gv) (t:=63) rfl; have k7:=(c1 1).trans (show _=some (.int .i64 (i:Int)) from rfl); have HS4:=hide hS4; clear hP4 hS4 a1 c1))
    all_goals
      have hS4:=HS4.out
      obtain ⟨b1,b2,b3,b4⟩:=hS4.rules 2 (g:=g + 1) (t:=74) rfl
      have f0:=(b1 0).trans (show _=some (.int .i64 0) from rfl)
      have f1:=(b1 1).trans (show _=some (.bool false) from rfl)
      have f2:=(b1 2).trans (show _=some (.int .i64 0) from rfl)
      clear hS4 b1 b4
      go_wp2_with fail
      have hr:=HRES.out
      rw [HVD.out,if_neg (by rw [HX.out]; simp),HU.out] at hr
      dsimp only at hr
      rw [hoe,show ((i:Int)).toNat=i from by omega,show ((k:Int)).toNat=k from by omega,← abs_put s i k (bu,mu) hi] at hr
      subst hr
      have hF:=(((HS4.out).set_ 2 (g:=g + 1) (t:=74) rfl 0 (.int .i64 0)).set_ 2 (g:=g + 1) (t:=74) rfl 1 (.bool false)).set_ 2 (g:=g + 1) (t:=74) rfl 2 (.int .i64 0)
      refine bodyPost_ret (v:=.agg #[.int .i64 0,.bool false,.int .i64 0]) (by simp [results,Tryz.results15,go_sem,f0,f1,f2]) rfl ⟨(s.put i k (bu,mu) hi),rfl,rfl,hF.sub (by simp)⟩
  · have y1:(x != 0)=true:=by rw [bne_iff_ne]; exact hxz
    go_wp2_with fail
    have hr:=HRES.out
    rw [HVD.out,HX.out,if_pos hxz] at hr
    subst hr
    have hF:=(((HS3.out).set_ 2 (g:=g + 1) (t:=74) rfl 0 (.int .i64 x)).set_ 2 (g:=g + 1) (t:=74) rfl 1 (.bool false)).set_ 2 (g:=g + 1) (t:=74) rfl 2 (.int .i64 0)
    refine bodyPost_ret (v:=.agg #[.int .i64 x,.bool false,.int .i64 0]) (by simp [results,Tryz.results15,go_sem,f0,f1,f2]) rfl ⟨s,rfl,rfl,hF.sub (by simp)⟩
end Go.Proofs.YtjphckfbbiehdaaGreat

namespace Go.Proofs.YtjphckfbbiehdaaGreat
open Go.RowKit
theorem eq_val (w:World) (a b:Bool) (m n:Int):(binOp .eql 63 (.agg #[.bool a,.int .i64 m]) (.agg #[.bool b,.int .i64 n])).run Tryz.prog w=.ok (.bool (decide (((a,m):Val)=(b,n)))) w:=by
  have h1:Tryz.prog.underlying 63=some (.struct (Tryz.prog.fieldsOf 63)):=by kernel_rfl
  have h2:Tryz.prog.stoodInHeld 63=false:=by kernel_rfl
  have h3:Tryz.prog.underlying 4=some .bool:=by kernel_rfl
  have h4:Tryz.prog.underlying 2=some (.int .i64):=by kernel_rfl
  rw [run_eql_struct,run_equalIn_agg _ _ _ _ _ h1 h2]
  have h5:(Tryz.prog.fieldsOf 63).toList=[(Tryz.prog.fieldsOf 63).toList[0]!,(Tryz.prog.fieldsOf 63).toList[1]!]:=by kernel_rfl
  have n1:((Tryz.prog.fieldsOf 63).toList[0]!).name = "Ref":=by kernel_rfl
  have n2:((Tryz.prog.fieldsOf 63).toList[0]!).type=4:=by kernel_rfl
  have n3:((Tryz.prog.fieldsOf 63).toList[0]!).offset=0:=by kernel_rfl
  have n4:((Tryz.prog.fieldsOf 63).toList[1]!).name = "N":=by kernel_rfl
  have n5:((Tryz.prog.fieldsOf 63).toList[1]!).type=2:=by kernel_rfl
  have n6:((Tryz.prog.fieldsOf 63).toList[1]!).offset=1:=by kernel_rfl
  rw [h5]
  obtain ⟨f1,hf1⟩:∃ f,(Tryz.prog.fieldsOf 63).toList[0]! = f:=⟨_,rfl⟩
  obtain ⟨f2,hf2⟩:∃ f,(Tryz.prog.fieldsOf 63).toList[1]! = f:=⟨_,rfl⟩
  rw [hf1] at n1 n2 n3 ⊢
  rw [hf2] at n4 n5 n6 ⊢
  have p1:∀ x y,(part 4 #[x,y] 0).run Tryz.prog w=.ok x w:=fun x y => by kernel_rfl
  have p2:∀ x y,(part 2 #[x,y] 1).run Tryz.prog w=.ok y w:=fun x y => by kernel_rfl
  simp only [Op.eqFields,n1,n2,n3,n4,n5,n6,ne_eq,Sem.run_ite,Sem.run_bind,p1,p2,Result.andThen_ok,run_equalIn_bool' w _ _ _ _ h3,run_equalIn_int w _ _ _ _ _ _ h4]
  cases a <;> cases b <;> simp <;> by_cases h:m=n <;> simp [h]
theorem guard_val (w:World) (x y:Operand) (a b:Bool) (m n:Int):(eqGuard .eql 63 x y (.agg #[.bool a,.int .i64 m]) (.agg #[.bool b,.int .i64 n])).run Tryz.prog w=.ok () w :=
  run_eqGuard_agg w .eql _ x y _ _ (by kernel_rfl)
end Go.Proofs.YtjphckfbbiehdaaGreat
