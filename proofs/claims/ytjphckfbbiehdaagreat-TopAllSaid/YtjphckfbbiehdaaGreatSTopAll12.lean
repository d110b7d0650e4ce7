/- Part of a proof. -/
import Derived.Test.YtjphckfbbiehdaaGreatSTopAll11
import Derived.Test.YtjphckfbbiehdaaGreatSTopAll4
set_option linter.unusedSimpArgs false
set_option linter.unusedVariables false
namespace Go.Proofs.YtjphckfbbiehdaaGreat
open Go.RowKit
def MemK.sh (K:MemK) (a:K.A) (r:Nat) (v:Val):K.A:=K.setr (K.hold a r v) r v
def MemK.kstep (K:MemK) (d:DoV) (a:K.A):OutV × K.A :=
  if d.k=1 then
    if (K.new_ a d.n.toNat).2.2 ≠ 0 then (⟨(K.new_ a d.n.toNat).2.2,false,0⟩,(K.new_ a d.n.toNat).1)
    else (⟨0,false,0⟩,K.sh (K.new_ a d.n.toNat).1 d.to.toNat (true,(K.new_ a d.n.toNat).2.1))
  else if d.k=2 then (⟨0,false,0⟩,K.sh a d.to.toNat (false,d.n))
  else if d.k=3 then (⟨0,false,0⟩,K.sh a d.to.toNat (rgA (K.regs a) d.fr))
  else if d.k=4 then
    if K.fErr a (rgA (K.regs a) d.to) d.at_ ≠ 0 then (⟨K.fErr a (rgA (K.regs a) d.to) d.at_,false,0⟩,a)
    else (⟨0,false,0⟩,K.put a (rgA (K.regs a) d.to).2.toNat d.at_.toNat (rgA (K.regs a) d.fr))
  else if d.k=5 then
    if K.fErr a (rgA (K.regs a) d.fr) d.at_ ≠ 0 then (⟨K.fErr a (rgA (K.regs a) d.fr) d.at_,false,0⟩,a)
    else (⟨0,false,0⟩,K.sh a d.to.toNat (((K.fld a (rgA (K.regs a) d.fr).2.toNat).getD []).getD d.at_.toNat (false,0)))
  else if d.k=6 then (⟨0,false,if rgA (K.regs a) d.to=rgA (K.regs a) d.fr then 1 else 0⟩,a)
  else (⟨0,(rgA (K.regs a) d.fr).1,if (rgA (K.regs a) d.fr).1=true then K.len a (rgA (K.regs a) d.fr).2 else (rgA (K.regs a) d.fr).2⟩,a)
def MemK.step (K:MemK) (d:DoV) (a:K.A):OutV × K.A:=if wrongM d ≠ 0 then (⟨wrongM d,false,0⟩,a) else K.kstep d a
def MemK.DoOk (K:MemK) (s:K.St) (w:World) (d:DoV):Prop :=
  Calls Tryz.prog 15 #[.pointer (some ⟨K.Bm,0,none⟩),.agg d.cells] w fun e w' => e=.returned (K.step d (K.abs s)).1.val ∧ ∃ s',K.abs s'=(K.step d (K.abs s)).2 ∧ Sep (K.item s).fp w w' [K.item s']
theorem MemK.vok_rg (K:MemK) (h:K.Ok) {a:K.A} (ok:K.ok a) (r:Int):K.vok a (rgA (K.regs a) r):=by
  unfold rgA
  rcases getD_mem_or (K.regs a) r.toNat (false,0) with h2 | h2
  · exact h.vr _ _ ok h2
  · rw [h2]; intro h1; cases h1
theorem kerr_facts (K:MemK) (h:K.Ok) {a:K.A} (ok:K.ok a) {bv:Bool} {mv at_:Int} (hv:K.vok a (bv,mv)) (hz:K.fErr a (bv,mv) at_=0) :
    bv=true ∧ ∃ (i k:Nat) (fs:List Val),mv=(i:Int) ∧ at_=(k:Int) ∧ K.fld a i=some fs ∧ k < fs.length ∧ fs.length ≤ 4 ∧ i ≤ 1000:=by
  unfold MemK.fErr at hz
  dsimp only at hz
  split at hz
  · omega
  · rename_i h1
    have hb:bv=true:=by simpa using h1
    obtain ⟨i,fs,h2,h3⟩:=hv hb
    dsimp only at h2
    subst h2
    split at hz
    · omega
    · rename_i h4
      have h5:K.len a (i:Int)=(fs.length:Int):=by unfold MemK.len; rw [show ((i:Int)).toNat=i from by omega,h3]; rfl
      rw [h5] at h4
      obtain ⟨k,rfl⟩:=int_nat (show 0 ≤ at_ from by omega)
      exact ⟨hb,i,k,fs,rfl,rfl,h3,by omega,h.f4 _ _ _ ok h3,h.lim _ _ _ ok h3⟩
set_option maxRecDepth 100000 in
set_option maxHeartbeats 8000000 in
theorem kdo_bad (K:MemK) {s:K.St} {w:World} (hP:(K.item s).P w) (d:DoV) (hw:wrongM d ≠ 0):K.DoOk s w d:=by
  unfold MemK.DoOk
  obtain ⟨F,hF⟩:∃ F,(K.item s).fp=F:=⟨_,rfl⟩
  obtain ⟨g,hg⟩:∃ g,w.heap.size=g:=⟨_,rfl⟩
  have hS0:=((Sep.start hP).blkAt 72 d.cells (g:=g) hg).blkAt 74 #[.int .i64 0,.bool false,.int .i64 0] (g:=g + 1) (by simp [hg])
  rw [hF] at hS0 ⊢
  have hst:K.step d (K.abs s)=(⟨wrongM d,false,0⟩,K.abs s):=by unfold MemK.step; rw [if_pos hw]
  rw [hst]
  unfold OutV.val
  dsimp only
  have CW:=wrong_any ((w.alloc (.cells d.cells 72)).alloc (.cells #[.int .i64 0,.bool false,.int .i64 0] 74)) d
  obtain ⟨x,hx⟩:∃ x,wrongM d=x:=⟨_,rfl⟩
  rw [hx] at CW hw ⊢
  have HCW:=hide CW
  have HS0:=hide hS0
  have y1:(x != 0)=true:=by rw [bne_iff_ne]; exact hw
  obtain ⟨k,to,fr,at_,n⟩:=d
  unfold DoV.cells at HCW HS0 ⊢
  dsimp only at HCW HS0 ⊢
  obtain ⟨a1,a2,a3,a4⟩:=HS0.out.rules 1 (g:=g) (t:=72) rfl
  have e0:=(a1 0).trans (show _=some (.int .i64 k) from rfl)
  have e1:=(a1 1).trans (show _=some (.int .i64 to) from rfl)
  have e2:=(a1 2).trans (show _=some (.int .i64 fr) from rfl)
  have e3:=(a1 3).trans (show _=some (.int .i64 at_) from rfl)
  have e4:=(a1 4).trans (show _=some (.int .i64 n) from rfl)
  clear CW hS0 hst hw hx hF hP a1 a4
  go_enter Tryz.func15,Tryz.ntmps15
  go_wp2_with fail
  refine HCW.out.mono ?_
  rintro e w1 ⟨rfl,hb1⟩
  have hS1:=HS0.out.below hb1
  obtain ⟨b1,b2,b3,b4⟩:=hS1.rules 2 (g:=g + 1) (t:=74) rfl
  have f0:=(b1 0).trans (show _=some (.int .i64 0) from rfl)
  have f1:=(b1 1).trans (show _=some (.bool false) from rfl)
  have f2:=(b1 2).trans (show _=some (.int .i64 0) from rfl)
  have HS1:=hide hS1
  clear hb1 hS1 HS0 HCW a2 a3 e0 e1 e2 e3 e4 b1 b4
  go_wp2_with fail
  have hF:=((HS1.out.set_ 2 (g:=g + 1) (t:=74) rfl 0 (.int .i64 x)).set_ 2 (g:=g + 1) (t:=74) rfl 1 (.bool false)).set_ 2 (g:=g + 1) (t:=74) rfl 2 (.int .i64 0)
  refine bodyPost_ret (v:=.agg #[.int .i64 x,.bool false,.int .i64 0]) (by simp [results,Tryz.results15,go_sem,f0,f1,f2]) rfl ⟨rfl,s,rfl,hF.sub (by simp)⟩
set_option maxRecDepth 100000 in
set_option maxHeartbeats 16000000 in
theorem kdo_2 (K:MemK) (h:K.Ok) {s:K.St} {w:World} (hP:(K.item s).P w) (ok1:K.ok1 (K.abs s)) (to fr at_ n:Int) (hw:wrongM ⟨2,to,fr,at_,n⟩=0):K.DoOk s w ⟨2,to,fr,at_,n⟩:=by
  have ok:=h.ok_of _ ok1
  unfold MemK.DoOk
  obtain ⟨F,hF⟩:∃ F,(K.item s).fp=F:=⟨_,rfl⟩
  obtain ⟨g,hg⟩:∃ g,w.heap.size=g:=⟨_,rfl⟩
  have hS0:=((Sep.start hP).blkAt 72 (DoV.cells ⟨2,to,fr,at_,n⟩) (g:=g) hg).blkAt 74 #[.int .i64 0,.bool false,.int .i64 0] (g:=g + 1) (by simp [hg])
  rw [hF] at hS0 ⊢
  have h8:(K.regs (K.abs s)).length=8:=h.r8 _ ok
  have HST:=hide (show K.step ⟨2,to,fr,at_,n⟩ (K.abs s)=(⟨0,false,0⟩,K.sh (K.abs s) to.toNat (false,n)) from by
    unfold MemK.step
    rw [if_neg (by rw [hw]; simp)]
    unfold MemK.kstep
    dsimp only
    rw [if_neg (show ¬(2:Int)=1 by decide),if_pos rfl])
  obtain ⟨res,hres⟩:∃ r,K.step ⟨2,to,fr,at_,n⟩ (K.abs s)=r:=⟨_,rfl⟩
  rw [hres] at HST ⊢
  clear hres
  have HCW:=wrong_any ((w.alloc (.cells (DoV.cells ⟨2,to,fr,at_,n⟩) 72)).alloc (.cells #[.int .i64 0,.bool false,.int .i64 0] 74)) ⟨2,to,fr,at_,n⟩
  rw [hw] at HCW
  replace HCW:=hide HCW
  obtain ⟨t0,t1⟩:=wrongM_to hw (by show (2:Int) ≠ 7; decide)
  dsimp only at t0 t1
  obtain ⟨R,rfl⟩:=int_nat t0
  have hR:R < 8:=by omega
  rw [show ((R:Int)).toNat=R from by omega] at HST
  have HS0:=hide hS0
  unfold DoV.cells at HCW HS0 ⊢
  dsimp only at HCW HS0 ⊢
  obtain ⟨a1,a2,a3,a4⟩:=HS0.out.rules 1 (g:=g) (t:=72) rfl
  have e0:=(a1 0).trans (show _=some (.int .i64 2) from rfl)
  have e1:=(a1 1).trans (show _=some (.int .i64 _) from rfl)
  have e2:=(a1 2).trans (show _=some (.int .i64 _) from rfl)
  have e3:=(a1 3).trans (show _=some (.int .i64 _) from rfl)
  have e4:=(a1 4).trans (show _=some (.int .i64 _) from rfl)
  have HOK:=hide ok
  have HOK1:=hide ok1
  have HH:=hide h
  clear hS0 hF hP a1 a4 hw ok ok1 h
  go_enter Tryz.func15,Tryz.ntmps15
  go_wp2_with fail
  refine HCW.out.mono ?_
  rintro e w1 ⟨rfl,hb1⟩
  have hS1:=HS0.out.below hb1
  obtain ⟨b1,b2,b3,b4⟩:=hS1.rules 2 (g:=g + 1) (t:=74) rfl
  have f0:=(b1 0).trans (show _=some (.int .i64 0) from rfl)
  have f1:=(b1 1).trans (show _=some (.bool false) from rfl)
  have f2:=(b1 2).trans (show _=some (.int .i64 0) from rfl)
  obtain ⟨a1,a2',a3',a4⟩:=hS1.rules 1 (g:=g) (t:=72) rfl
  have e0:=(a1 0).trans (show _=some (.int .i64 2) from rfl)
  have e1:=(a1 1).trans (show _=some (.int .i64 _) from rfl)
  have e2:=(a1 2).trans (show _=some (.int .i64 _) from rfl)
  have e3:=(a1 3).trans (show _=some (.int .i64 _) from rfl)
  have e4:=(a1 4).trans (show _=some (.int .i64 _) from rfl)
  clear a1 a4 b1 b4
  have HS1:=hide hS1
  clear hb1 HS0 HCW a2 a3
  have CM:=hide (kset_any K HH.out (HS1.out.get 0 rfl) HOK.out (false,n) hR (fun h => by cases h))
  dsimp only at CM
  clear hS1
  go_wp2_with fail
  refine CM.out.mono ?_
  rintro e w2 ⟨⟨u,rfl⟩,s2,hab2,hP2⟩
  have hS2:=HS1.out.call 0 rfl hP2
  obtain ⟨b1,b2,b3,b4⟩:=hS2.rules 2 (g:=g + 1) (t:=74) rfl
  have f0:=(b1 0).trans (show _=some (.int .i64 0) from rfl)
  have f1:=(b1 1).trans (show _=some (.bool false) from rfl)
  have f2:=(b1 2).trans (show _=some (.int .i64 0) from rfl)
  obtain ⟨a1,a2',a3',a4⟩:=hS2.rules 1 (g:=g) (t:=72) rfl
  have e0:=(a1 0).trans (show _=some (.int .i64 2) from rfl)
  have e1:=(a1 1).trans (show _=some (.int .i64 _) from rfl)
  have e2:=(a1 2).trans (show _=some (.int .i64 _) from rfl)
  have e3:=(a1 3).trans (show _=some (.int .i64 _) from rfl)
  have e4:=(a1 4).trans (show _=some (.int .i64 _) from rfl)
  clear a1 a4 b1 b4
  have HS2:=hide hS2
  have HAB:=hide hab2
  clear hP2 HS1 CM hS2 hab2
  go_wp2_with fail
  have hr:=HST.out
  subst hr
  have hF:=(((HS2.out).set_ 2 (g:=g + 1) (t:=74) rfl 0 (.int .i64 0)).set_ 2 (g:=g + 1) (t:=74) rfl 1 (.bool false)).set_ 2 (g:=g + 1) (t:=74) rfl 2 (.int .i64 0)
  refine bodyPost_ret (v:=.agg #[.int .i64 0,.bool false,.int .i64 0]) (by simp [results,Tryz.results15,go_sem,f0,f1,f2]) rfl ⟨rfl,s2,HAB.out,hF.sub (by simp)⟩
set_option maxRecDepth 100000 in
set_option maxHeartbeats 16000000 in
theorem kdo_1 (K:MemK) (h:K.Ok) {s:K.St} {w:World} (hP:(K.item s).P w) (ok1:K.ok1 (K.abs s)) (to fr at_ n:Int) (hw:wrongM ⟨1,to,fr,at_,n⟩=0):K.DoOk s w ⟨1,to,fr,at_,n⟩:=by
  have ok:=h.ok_of _ ok1
  unfold MemK.DoOk
  obtain ⟨F,hF⟩:∃ F,(K.item s).fp=F:=⟨_,rfl⟩
  obtain ⟨g,hg⟩:∃ g,w.heap.size=g:=⟨_,rfl⟩
  have hS0:=((Sep.start hP).blkAt 72 (DoV.cells ⟨1,to,fr,at_,n⟩) (g:=g) hg).blkAt 74 #[.int .i64 0,.bool false,.int .i64 0] (g:=g + 1) (by simp [hg])
  rw [hF] at hS0 ⊢
  have h8:(K.regs (K.abs s)).length=8:=h.r8 _ ok
  have HST:=hide (show K.step ⟨1,to,fr,at_,n⟩ (K.abs s)=if (K.new_ (K.abs s) n.toNat).2.2 ≠ 0 then (⟨(K.new_ (K.abs s) n.toNat).2.2,false,0⟩,(K.new_ (K.abs s) n.toNat).1) else (⟨0,false,0⟩,K.sh (K.new_ (K.abs s) n.toNat).1 to.toNat (true,(K.new_ (K.abs s) n.toNat).2.1)) from by
    unfold MemK.step
    rw [if_neg (by rw [hw]; simp)]
    unfold MemK.kstep
    dsimp only
    rw [if_pos rfl])
  obtain ⟨res,hres⟩:∃ r,K.step ⟨1,to,fr,at_,n⟩ (K.abs s)=r:=⟨_,rfl⟩
  rw [hres] at HST ⊢
  clear hres
  have HCW:=wrong_any ((w.alloc (.cells (DoV.cells ⟨1,to,fr,at_,n⟩) 72)).alloc (.cells #[.int .i64 0,.bool false,.int .i64 0] 74)) ⟨1,to,fr,at_,n⟩
  rw [hw] at HCW
  replace HCW:=hide HCW
  obtain ⟨t0,t1⟩:=wrongM_to hw (by show (1:Int) ≠ 7; decide)
  dsimp only at t0 t1
  obtain ⟨R,rfl⟩:=int_nat t0
  have hR:R < 8:=by omega
  rw [show ((R:Int)).toNat=R from by omega] at HST
  obtain ⟨n0,n1⟩:=wrongM_n hw rfl
  dsimp only at n0 n1
  obtain ⟨N,rfl⟩:=int_nat n0
  have hN:N ≤ 4:=by omega
  rw [show ((N:Int)).toNat=N from by omega] at HST
  have HS0:=hide hS0
  unfold DoV.cells at HCW HS0 ⊢
  dsimp only at HCW HS0 ⊢
  obtain ⟨a1,a2,a3,a4⟩:=HS0.out.rules 1 (g:=g) (t:=72) rfl
  have e0:=(a1 0).trans (show _=some (.int .i64 1) from rfl)
  have e1:=(a1 1).trans (show _=some (.int .i64 _) from rfl)
  have e2:=(a1 2).trans (show _=some (.int .i64 _) from rfl)
  have e3:=(a1 3).trans (show _=some (.int .i64 _) from rfl)
  have e4:=(a1 4).trans (show _=some (.int .i64 _) from rfl)
  have HOK:=hide ok
  have HOK1:=hide ok1
  have HH:=hide h
  clear hS0 hF hP a1 a4 hw ok ok1 h
  go_enter Tryz.func15,Tryz.ntmps15
  go_wp2_with fail
  refine HCW.out.mono ?_
  rintro e w1 ⟨rfl,hb1⟩
  have hS1:=HS0.out.below hb1
  obtain ⟨b1,b2,b3,b4⟩:=hS1.rules 2 (g:=g + 1) (t:=74) rfl
  have f0:=(b1 0).trans (show _=some (.int .i64 0) from rfl)
  have f1:=(b1 1).trans (show _=some (.bool false) from rfl)
  have f2:=(b1 2).trans (show _=some (.int .i64 0) from rfl)
  obtain ⟨a1,a2',a3',a4⟩:=hS1.rules 1 (g:=g) (t:=72) rfl
  have e0:=(a1 0).trans (show _=some (.int .i64 1) from rfl)
  have e1:=(a1 1).trans (show _=some (.int .i64 _) from rfl)
  have e2:=(a1 2).trans (show _=some (.int .i64 _) from rfl)
  have e3:=(a1 3).trans (show _=some (.int .i64 _) from rfl)
  have e4:=(a1 4).trans (show _=some (.int .i64 _) from rfl)
  clear a1 a4 b1 b4
  have HS1:=hide hS1
  clear hb1 HS0 HCW a2 a3
  have hP1:(K.item s).P w1:=hS1.get 0 rfl
  obtain ⟨_,_,i1,i2⟩:=K.cells hP1 h8 0 (by omega)
  have CN:=HH.out.cN s w1.drew N (hS1.drew.get 0 rfl) HOK.out hN
  have HON:=HH.out.okN _ N HOK1.out hN
  obtain ⟨⟨a',xo,xe⟩,hx⟩:∃ p,K.new_ (K.abs s) N=p:=⟨_,rfl⟩
  rw [hx] at CN HON HST
  dsimp only at CN HON HST
  replace CN:=hide CN
  replace HON:=hide HON
  have hinv:=HH.out.mN
  have hent:=HH.out.eN
  obtain ⟨fN,hfN⟩:∃ x,K.fN=x:=⟨_,rfl⟩
  simp only [hfN] at CN hinv hent
  clear hS1 hP1 hx hfN
  go_wp2_with fail
  go_region_held3 (fun w' => w'.cell? ⟨K.Bm,16,none⟩=some (.iface K.T K.p) ∧ w'.cell? ⟨g,4,none⟩=some (.int .i64 (N:Int))) (go_keep)
    (((with_reducible refine CN.out.mono ?_); rintro e w2 ⟨rfl,s2,hab2,hP2⟩; have hS2:=HS1.out.drew.call 0 rfl hP2; have HAB:=hide hab2; obtain ⟨_,_,k1,k2⟩:=K.cells (hS2.get 0 rfl) (by rw [HAB.out]; exact HH.out.r8 _ HON.out.1) 0 (by omega); have k3:w2.cell? ⟨g,4,none⟩=some (.int .i64 (N:Int)):=((hS2.rules 1 (g:=g) (t:=72) rfl).1 4).trans rfl; have HS2:=hide hS2; clear hP2 hS2 hab2))
  all_goals
    have hS2:=HS2.out
    obtain ⟨b1,b2,b3,b4⟩:=hS2.rules 2 (g:=g + 1) (t:=74) rfl
    have f0:=(b1 0).trans (show _=some (.int .i64 0) from rfl)
    have f1:=(b1 1).trans (show _=some (.bool false) from rfl)
    have f2:=(b1 2).trans (show _=some (.int .i64 0) from rfl)
    obtain ⟨a1,a2',a3',a4⟩:=hS2.rules 1 (g:=g) (t:=72) rfl
    have e0:=(a1 0).trans (show _=some (.int .i64 1) from rfl)
    have e1:=(a1 1).trans (show _=some (.int .i64 _) from rfl)
    have e2:=(a1 2).trans (show _=some (.int .i64 _) from rfl)
    have e3:=(a1 3).trans (show _=some (.int .i64 _) from rfl)
    have e4:=(a1 4).trans (show _=some (.int .i64 _) from rfl)
    clear a1 a4 b1 b4
    by_cases hxe:xe=0
    · have hxz:=hxe
      subst hxz
      clear hxe
      have CM:=hide (kset_any K HH.out (hS2.get 0 rfl) (by rw [HAB.out]; exact HON.out.1) (true,xo) hR (by rw [HAB.out]; exact HON.out.2 rfl))
      dsimp only at CM
      clear hS2 CN
      go_wp2_with fail
      refine CM.out.mono ?_
      rintro e w3 ⟨⟨u,rfl⟩,s3,hab3,hP3⟩
      have hS3:=HS2.out.call 0 rfl hP3
      obtain ⟨b1,b2,b3,b4⟩:=hS3.rules 2 (g:=g + 1) (t:=74) rfl
      have f0:=(b1 0).trans (show _=some (.int .i64 0) from rfl)
      have f1:=(b1 1).trans (show _=some (.bool false) from rfl)
      have f2:=(b1 2).trans (show _=some (.int .i64 0) from rfl)
      obtain ⟨a1,a2',a3',a4⟩:=hS3.rules 1 (g:=g) (t:=72) rfl
      have e0:=(a1 0).trans (show _=some (.int .i64 1) from rfl)
      have e1:=(a1 1).trans (show _=some (.int .i64 _) from rfl)
      have e2:=(a1 2).trans (show _=some (.int .i64 _) from rfl)
      have e3:=(a1 3).trans (show _=some (.int .i64 _) from rfl)
      have e4:=(a1 4).trans (show _=some (.int .i64 _) from rfl)
      clear a1 a4 b1 b4
      have HS3:=hide hS3
      have HAB3:=hide hab3
      clear hP3 HS2 CM hS3 hab3
      go_wp2_with fail
      have hr:=HST.out
      rw [if_neg (by simp)] at hr
      subst hr
      have hF:=(((HS3.out).set_ 2 (g:=g + 1) (t:=74) rfl 0 (.int .i64 0)).set_ 2 (g:=g + 1) (t:=74) rfl 1 (.bool false)).set_ 2 (g:=g + 1) (t:=74) rfl 2 (.int .i64 0)
      refine bodyPost_ret (v:=.agg #[.int .i64 0,.bool false,.int .i64 0]) (by simp [results,Tryz.results15,go_sem,f0,f1,f2]) rfl ⟨rfl,s3,by rw [HAB3.out,HAB.out]; rfl,hF.sub (by simp)⟩
    · have y1:(xe != 0)=true:=by rw [bne_iff_ne]; exact hxe
      have HXE:=hide hxe
      clear hS2 CN hxe
      go_wp2_with fail
      have hr:=HST.out
      rw [if_pos HXE.out] at hr
      subst hr
      have hF:=(((HS2.out).set_ 2 (g:=g + 1) (t:=74) rfl 0 (.int .i64 xe)).set_ 2 (g:=g + 1) (t:=74) rfl 1 (.bool false)).set_ 2 (g:=g + 1) (t:=74) rfl 2 (.int .i64 0)
      refine bodyPost_ret (v:=.agg #[.int .i64 xe,.bool false,.int .i64 0]) (by simp [results,Tryz.results15,go_sem,f0,f1,f2]) rfl ⟨rfl,s2,HAB.out,hF.sub (by simp)⟩
set_option maxRecDepth 100000 in
set_option maxHeartbeats 16000000 in
theorem kdo_3 (K:MemK) (h:K.Ok) {s:K.St} {w:World} (hP:(K.item s).P w) (ok1:K.ok1 (K.abs s)) (to fr at_ n:Int) (hw:wrongM ⟨3,to,fr,at_,n⟩=0):K.DoOk s w ⟨3,to,fr,at_,n⟩:=by
  have ok:=h.ok_of _ ok1
  unfold MemK.DoOk
  obtain ⟨F,hF⟩:∃ F,(K.item s).fp=F:=⟨_,rfl⟩
  obtain ⟨g,hg⟩:∃ g,w.heap.size=g:=⟨_,rfl⟩
  have hS0:=((Sep.start hP).blkAt 72 (DoV.cells ⟨3,to,fr,at_,n⟩) (g:=g) hg).blkAt 74 #[.int .i64 0,.bool false,.int .i64 0] (g:=g + 1) (by simp [hg])
  rw [hF] at hS0 ⊢
  have h8:(K.regs (K.abs s)).length=8:=h.r8 _ ok
  have HST:=hide (show K.step ⟨3,to,fr,at_,n⟩ (K.abs s)=(⟨0,false,0⟩,K.sh (K.abs s) to.toNat (rgA (K.regs (K.abs s)) fr)) from by
    unfold MemK.step
    rw [if_neg (by rw [hw]; simp)]
    unfold MemK.kstep
    dsimp only
    rw [if_neg (show ¬(3:Int)=1 by decide),if_neg (show ¬(3:Int)=2 by decide),if_pos rfl])
  obtain ⟨res,hres⟩:∃ r,K.step ⟨3,to,fr,at_,n⟩ (K.abs s)=r:=⟨_,rfl⟩
  rw [hres] at HST ⊢
  clear hres
  have HCW:=wrong_any ((w.alloc (.cells (DoV.cells ⟨3,to,fr,at_,n⟩) 72)).alloc (.cells #[.int .i64 0,.bool false,.int .i64 0] 74)) ⟨3,to,fr,at_,n⟩
  rw [hw] at HCW
  replace HCW:=hide HCW
  obtain ⟨t0,t1⟩:=wrongM_to hw (by show (3:Int) ≠ 7; decide)
  dsimp only at t0 t1
  obtain ⟨R,rfl⟩:=int_nat t0
  have hR:R < 8:=by omega
  rw [show ((R:Int)).toNat=R from by omega] at HST
  obtain ⟨u0,u1⟩:=wrongM_fr hw (by show (3:Int) ≠ 1; decide) (by show (3:Int) ≠ 2; decide)
  dsimp only at u0 u1
  obtain ⟨Q,rfl⟩:=int_nat u0
  have hQ:Q < 8:=by omega
  have HS0:=hide hS0
  unfold DoV.cells at HCW HS0 ⊢
  dsimp only at HCW HS0 ⊢
  obtain ⟨a1,a2,a3,a4⟩:=HS0.out.rules 1 (g:=g) (t:=72) rfl
  have e0:=(a1 0).trans (show _=some (.int .i64 3) from rfl)
  have e1:=(a1 1).trans (show _=some (.int .i64 _) from rfl)
  have e2:=(a1 2).trans (show _=some (.int .i64 _) from rfl)
  have e3:=(a1 3).trans (show _=some (.int .i64 _) from rfl)
  have e4:=(a1 4).trans (show _=some (.int .i64 _) from rfl)
  have HOK:=hide ok
  have HOK1:=hide ok1
  have HH:=hide h
  clear hS0 hF hP a1 a4 hw ok ok1 h
  go_enter Tryz.func15,Tryz.ntmps15
  go_wp2_with fail
  refine HCW.out.mono ?_
  rintro e w1 ⟨rfl,hb1⟩
  have hS1:=HS0.out.below hb1
  obtain ⟨b1,b2,b3,b4⟩:=hS1.rules 2 (g:=g + 1) (t:=74) rfl
  have f0:=(b1 0).trans (show _=some (.int .i64 0) from rfl)
  have f1:=(b1 1).trans (show _=some (.bool false) from rfl)
  have f2:=(b1 2).trans (show _=some (.int .i64 0) from rfl)
  obtain ⟨a1,a2',a3',a4⟩:=hS1.rules 1 (g:=g) (t:=72) rfl
  have e0:=(a1 0).trans (show _=some (.int .i64 3) from rfl)
  have e1:=(a1 1).trans (show _=some (.int .i64 _) from rfl)
  have e2:=(a1 2).trans (show _=some (.int .i64 _) from rfl)
  have e3:=(a1 3).trans (show _=some (.int .i64 _) from rfl)
  have e4:=(a1 4).trans (show _=some (.int .i64 _) from rfl)
  clear a1 a4 b1 b4
  have HS1:=hide hS1
  clear hb1 HS0 HCW a2 a3
  have hP1:(K.item s).P w1:=hS1.get 0 rfl
  obtain ⟨i3,i4,i1,i2⟩:=K.cells hP1 h8 Q hQ
  have hvv:=K.vok_rg HH.out HOK.out (Q:Int)
  obtain ⟨v,hv⟩:∃ v,rgA (K.regs (K.abs s)) (Q:Int)=v:=⟨_,rfl⟩
  rw [hv] at i3 i4 HST hvv
  have CM:=hide (kset_any K HH.out (w:=w1.drew) (hS1.drew.get 0 rfl) HOK.out v hR hvv)
  obtain ⟨bv,mv⟩:=v
  dsimp only at i3 i4 CM
  clear hS1 hP1 hv hvv
  go_wp2_with fail
  go_region_law (first
    | (try go_simp
       go_at_call 39
       refine CM.out.mono ?_
       rintro e w2 ⟨⟨u,rfl⟩,s2,hab2,hP2⟩))
  all_goals
    have hS2:=HS1.out.drew.call 0 rfl hP2
    obtain ⟨b1,b2,b3,b4⟩:=hS2.rules 2 (g:=g + 1) (t:=74) rfl
    have f0:=(b1 0).trans (show _=some (.int .i64 0) from rfl)
    have f1:=(b1 1).trans (show _=some (.bool false) from rfl)
    have f2:=(b1 2).trans (show _=some (.int .i64 0) from rfl)
    obtain ⟨a1,a2',a3',a4⟩:=hS2.rules 1 (g:=g) (t:=72) rfl
    have e0:=(a1 0).trans (show _=some (.int .i64 3) from rfl)
    have e1:=(a1 1).trans (show _=some (.int .i64 _) from rfl)
    have e2:=(a1 2).trans (show _=some (.int .i64 _) from rfl)
    have e3:=(a1 3).trans (show _=some (.int .i64 _) from rfl)
    have e4:=(a1 4).trans (show _=some (.int .i64 _) from rfl)
    clear a1 a4 b1 b4
    have HS2:=hide hS2
    have HAB:=hide hab2
    clear hP2 HS1 CM hS2 hab2
    go_wp2_with fail
    have hr:=HST.out
    subst hr
    have hF:=(((HS2.out).set_ 2 (g:=g + 1) (t:=74) rfl 0 (.int .i64 0)).set_ 2 (g:=g + 1) (t:=74) rfl 1 (.bool false)).set_ 2 (g:=g + 1) (t:=74) rfl 2 (.int .i64 0)
    refine bodyPost_ret (v:=.agg #[.int .i64 0,.bool false,.int .i64 0]) (by simp [results,Tryz.results15,go_sem,f0,f1,f2]) rfl ⟨rfl,s2,HAB.out,hF.sub (by simp)⟩
set_option maxRecDepth 100000 in
set_option maxHeartbeats 16000000 in
theorem kdo_4 (K:MemK) (h:K.Ok) {s:K.St} {w:World} (hP:(K.item s).P w) (ok1:K.ok1 (K.abs s)) (to fr at_ n:Int) (hw:wrongM ⟨4,to,fr,at_,n⟩=0):K.DoOk s w ⟨4,to,fr,at_,n⟩:=by
  have ok:=h.ok_of _ ok1
  unfold MemK.DoOk
  obtain ⟨F,hF⟩:∃ F,(K.item s).fp=F:=⟨_,rfl⟩
  obtain ⟨g,hg⟩:∃ g,w.heap.size=g:=⟨_,rfl⟩
  have hS0:=((Sep.start hP).blkAt 72 (DoV.cells ⟨4,to,fr,at_,n⟩) (g:=g) hg).blkAt 74 #[.int .i64 0,.bool false,.int .i64 0] (g:=g + 1) (by simp [hg])
  rw [hF] at hS0 ⊢
  have h8:(K.regs (K.abs s)).length=8:=h.r8 _ ok
  have HST:=hide (show K.step ⟨4,to,fr,at_,n⟩ (K.abs s)=if K.fErr (K.abs s) (rgA (K.regs (K.abs s)) to) at_ ≠ 0 then (⟨K.fErr (K.abs s) (rgA (K.regs (K.abs s)) to) at_,false,0⟩,K.abs s) else (⟨0,false,0⟩,K.put (K.abs s) (rgA (K.regs (K.abs s)) to).2.toNat at_.toNat (rgA (K.regs (K.abs s)) fr)) from by
    unfold MemK.step
    rw [if_neg (by rw [hw]; simp)]
    unfold MemK.kstep
    dsimp only
    rw [if_neg (show ¬(4:Int)=1 by decide),if_neg (show ¬(4:Int)=2 by decide),if_neg (show ¬(4:Int)=3 by decide),if_pos rfl])
  obtain ⟨res,hres⟩:∃ r,K.step ⟨4,to,fr,at_,n⟩ (K.abs s)=r:=⟨_,rfl⟩
  rw [hres] at HST ⊢
  clear hres
  have HCW:=wrong_any ((w.alloc (.cells (DoV.cells ⟨4,to,fr,at_,n⟩) 72)).alloc (.cells #[.int .i64 0,.bool false,.int .i64 0] 74)) ⟨4,to,fr,at_,n⟩
  rw [hw] at HCW
  replace HCW:=hide HCW
  obtain ⟨t0,t1⟩:=wrongM_to hw (by show (4:Int) ≠ 7; decide)
  dsimp only at t0 t1
  obtain ⟨R,rfl⟩:=int_nat t0
  have hR:R < 8:=by omega
  obtain ⟨u0,u1⟩:=wrongM_fr hw (by show (4:Int) ≠ 1; decide) (by show (4:Int) ≠ 2; decide)
  dsimp only at u0 u1
  obtain ⟨Q,rfl⟩:=int_nat u0
  have hQ:Q < 8:=by omega
  have HS0:=hide hS0
  unfold DoV.cells at HCW HS0 ⊢
  dsimp only at HCW HS0 ⊢
  obtain ⟨a1,a2,a3,a4⟩:=HS0.out.rules 1 (g:=g) (t:=72) rfl
  have e0:=(a1 0).trans (show _=some (.int .i64 4) from rfl)
  have e1:=(a1 1).trans (show _=some (.int .i64 _) from rfl)
  have e2:=(a1 2).trans (show _=some (.int .i64 _) from rfl)
  have e3:=(a1 3).trans (show _=some (.int .i64 _) from rfl)
  have e4:=(a1 4).trans (show _=some (.int .i64 _) from rfl)
  have HOK:=hide ok
  have HOK1:=hide ok1
  have HH:=hide h
  clear hS0 hF hP a1 a4 hw ok ok1 h
  go_enter Tryz.func15,Tryz.ntmps15
  go_wp2_with fail
  refine HCW.out.mono ?_
  rintro e w1 ⟨rfl,hb1⟩
  have hS1:=HS0.out.below hb1
  obtain ⟨b1,b2,b3,b4⟩:=hS1.rules 2 (g:=g + 1) (t:=74) rfl
  have f0:=(b1 0).trans (show _=some (.int .i64 0) from rfl)
  have f1:=(b1 1).trans (show _=some (.bool false) from rfl)
  have f2:=(b1 2).trans (show _=some (.int .i64 0) from rfl)
  obtain ⟨a1,a2',a3',a4⟩:=hS1.rules 1 (g:=g) (t:=72) rfl
  have e0:=(a1 0).trans (show _=some (.int .i64 4) from rfl)
  have e1:=(a1 1).trans (show _=some (.int .i64 _) from rfl)
  have e2:=(a1 2).trans (show _=some (.int .i64 _) from rfl)
  have e3:=(a1 3).trans (show _=some (.int .i64 _) from rfl)
  have e4:=(a1 4).trans (show _=some (.int .i64 _) from rfl)
  clear a1 a4 b1 b4
  have HS1:=hide hS1
  clear hb1 HS0 HCW a2 a3
  have hP1:(K.item s).P w1:=hS1.get 0 rfl
  obtain ⟨i3,i4,i1,i2⟩:=K.cells hP1 h8 R hR
  have hvv:=K.vok_rg HH.out HOK.out (R:Int)
  obtain ⟨v,hv⟩:∃ v,rgA (K.regs (K.abs s)) (R:Int)=v:=⟨_,rfl⟩
  rw [hv] at i3 i4 hvv HST
  have HVV:=hide hvv
  clear hv hS1 hP1 hvv
  obtain ⟨bv,mv⟩:=v
  dsimp only at i3 i4
  go_wp2_with fail
  have q1:g ≠ w1.heap.size:=by omega
  have q2:K.Bm ≠ w1.heap.size:=by omega
  go_region_held3 (fun w' => w'.cell? ⟨g,1,none⟩=some (.int .i64 (R:Int)) ∧ w'.cell? ⟨K.Bm,R * 2,none⟩=some (.bool bv) ∧ w'.cell? ⟨K.Bm,R * 2 + 1,none⟩=some (.int .i64 mv)) (simp (config:={ maxDischargeDepth:=8 }) [*,World.cell?_alloc_some]) (fail)
  have hSv:=(HS1.out.blkAt 63 #[.bool bv,.int .i64 mv] (g:=w1.heap.size) rfl).drew
  have CF:=kfield_any K HH.out (hSv.get 0 rfl) HOK.out (bv,mv) at_ HVV.out
  dsimp only at CF
  obtain ⟨x,hx⟩:∃ x,K.fErr (K.abs s) (bv,mv) at_=x:=⟨_,rfl⟩
  rw [hx] at CF HST
  have HX:=hide hx
  have HCF:=hide CF
  obtain ⟨gv,hgv⟩:∃ g,w1.heap.size=g:=⟨_,rfl⟩
  obtain ⟨v1,v2,v3,_⟩:=hSv.rules 3 (g:=w1.heap.size) (t:=63) rfl
  have v4:=(v1 0).trans (show _=some (.bool bv) from rfl)
  have v5:=(v1 1).trans (show _=some (.int .i64 mv) from rfl)
  obtain ⟨b1,b2,b3,b4⟩:=hSv.rules 2 (g:=g + 1) (t:=74) rfl
  have f0:=(b1 0).trans (show _=some (.int .i64 0) from rfl)
  have f1:=(b1 1).trans (show _=some (.bool false) from rfl)
  have f2:=(b1 2).trans (show _=some (.int .i64 0) from rfl)
  obtain ⟨a1,a2',a3',a4⟩:=hSv.rules 1 (g:=g) (t:=72) rfl
  have e0:=(a1 0).trans (show _=some (.int .i64 4) from rfl)
  have e1:=(a1 1).trans (show _=some (.int .i64 _) from rfl)
  have e2:=(a1 2).trans (show _=some (.int .i64 _) from rfl)
  have e3:=(a1 3).trans (show _=some (.int .i64 _) from rfl)
  have e4:=(a1 4).trans (show _=some (.int .i64 _) from rfl)
  clear a1 a4 b1 b4
  have HSV:=hide hSv
  clear hSv CF hx v1
  obtain ⟨W,hW⟩:∃ W,(w1.alloc (.cells #[.bool bv,.int .i64 mv] 63)).drew=W:=⟨_,rfl⟩
  rw [hW] at HSV HCF v2 v3 v4 v5 f0 f1 f2 e0 e1 e2 e3 e4 ⊢
  clear hW q1 q2 i1 i2 i3 i4
  try rw [hgv] at v4
  try rw [hgv] at v5
  try rw [hgv] at HSV
  try rw [hgv] at v2
  rw [hgv]
  clear hgv
  go_wp2_with fail
  refine HCF.out.mono ?_
  rintro e w3 ⟨rfl,hb3⟩
  have hS3:=HSV.out.below hb3
  obtain ⟨b1,b2,b3,b4⟩:=hS3.rules 2 (g:=g + 1) (t:=74) rfl
  have f0:=(b1 0).trans (show _=some (.int .i64 0) from rfl)
  have f1:=(b1 1).trans (show _=some (.bool false) from rfl)
  have f2:=(b1 2).trans (show _=some (.int .i64 0) from rfl)
  obtain ⟨a1,a2',a3',a4⟩:=hS3.rules 1 (g:=g) (t:=72) rfl
  have e0:=(a1 0).trans (show _=some (.int .i64 4) from rfl)
  have e1:=(a1 1).trans (show _=some (.int .i64 _) from rfl)
  have e2:=(a1 2).trans (show _=some (.int .i64 _) from rfl)
  have e3:=(a1 3).trans (show _=some (.int .i64 _) from rfl)
  have e4:=(a1 4).trans (show _=some (.int .i64 _) from rfl)
  clear a1 a4 b1 b4
  obtain ⟨v1,v2,v3,_⟩:=hS3.rules 3 (g:=gv) (t:=63) rfl
  have v4:=(v1 0).trans (show _=some (.bool bv) from rfl)
  have v5:=(v1 1).trans (show _=some (.int .i64 mv) from rfl)
  clear hb3 HSV HCF v1
  have HS3:=hide hS3
  clear hS3 HS1
  by_cases hxz:x=0
  · subst hxz
    obtain ⟨rfl,i,k,fs,rfl,rfl,hfs,hk,h4,h1k⟩:=kerr_facts K HH.out HOK.out HVV.out HX.out
    obtain ⟨i3,i4,i1,i2⟩:=K.cells (HS3.out.get 0 rfl) h8 Q hQ
    have hS3d:=HS3.out.drew
    have huu:=K.vok_rg HH.out HOK.out (Q:Int)
    obtain ⟨u,hu⟩:∃ u,rgA (K.regs (K.abs s)) (Q:Int)=u:=⟨_,rfl⟩
    rw [hu] at i3 i4 HST huu
    have HU:=hide hu
    have CP:=HH.out.cP s w3.drew i k fs u hk (hS3d.get 0 rfl) HOK.out hfs huu
    have hme:=HH.out.mP s w3.drew (hS3d.get 0 rfl)
    have hent:=HH.out.eP
    have HRP:=hide (HH.out.regs_put (K.abs s) i k u)
    obtain ⟨fP,hfP⟩:∃ x,K.fP=x:=⟨_,rfl⟩
    obtain ⟨rP,hrP⟩:∃ x,K.rP s=x:=⟨_,rfl⟩
    simp only [hfP,hrP] at CP hme hent
    replace CP:=hide CP
    obtain ⟨bu,mu⟩:=u
    dsimp only at i3 i4 CP
    have HFS:=hide hfs
    clear hS3d hu HVV huu hfP hrP hfs
    go_wp2_with fail
    go_region_held3 (fun w' => w'.cell? ⟨K.Bm,16,none⟩=some (.iface K.T K.p) ∧ w'.cell? ⟨gv,1,none⟩=some (.int .i64 (i:Int)) ∧ w'.cell? ⟨g,3,none⟩=some (.int .i64 (k:Int)) ∧ w'.cell? ⟨g,2,none⟩=some (.int .i64 (Q:Int)) ∧ w'.cell? ⟨K.Bm,Q * 2,none⟩=some (.bool bu) ∧ w'.cell? ⟨K.Bm,Q * 2 + 1,none⟩=some (.int .i64 mu)) (go_keep)
      (((with_reducible refine CP.out.mono ?_); rintro e w4 ⟨⟨u,rfl⟩,s4,hab4,hP4⟩; have hS4:=HS3.out.drew.call 0 rfl hP4; have HAB:=hide hab4; have hrg:=HRP.out; rw [← hab4] at hrg; obtain ⟨k3,k4,k1,k2⟩:=K.cells (hS4.get 0 rfl) (show (K.regs (K.abs s4)).length=8 from by rw [hrg]; exact h8) Q hQ; rw [hrg,HU.out] at k3 k4; obtain ⟨a1,_,a3,_⟩:=hS4.rules 1 (g:=g) (t:=72) rfl; have k5:=(a1 2).trans (show _=some (.int .i64 (Q:Int)) from rfl); have k6:=(a1 3).trans (show _=some (.int .i64 (k:Int)) from rfl); obtain ⟨c1,_,c3,_⟩:=hS4.rules 3 (g:=gv) (t:=63) rfl; have k7:=(c1 1).trans (show _=some (.int .i64 (i:Int)) from rfl); have HS4:=hide hS4; clear hP4 hS4 a1 c1 hrg hab4))
    all_goals
      have hS4:=HS4.out
      obtain ⟨b1,b2,b3,b4⟩:=hS4.rules 2 (g:=g + 1) (t:=74) rfl
      have f0:=(b1 0).trans (show _=some (.int .i64 0) from rfl)
      have f1:=(b1 1).trans (show _=some (.bool false) from rfl)
      have f2:=(b1 2).trans (show _=some (.int .i64 0) from rfl)
      clear hS4 b1 b4
      go_wp2_with fail
      have hr:=HST.out
      rw [if_neg (by simp)] at hr
      try dsimp only at hr
      rw [show ((i:Int)).toNat=i from by omega,show ((k:Int)).toNat=k from by omega] at hr
      subst hr
      have hF:=(((HS4.out).set_ 2 (g:=g + 1) (t:=74) rfl 0 (.int .i64 0)).set_ 2 (g:=g + 1) (t:=74) rfl 1 (.bool false)).set_ 2 (g:=g + 1) (t:=74) rfl 2 (.int .i64 0)
      refine bodyPost_ret (v:=.agg #[.int .i64 0,.bool false,.int .i64 0]) (by simp [results,Tryz.results15,go_sem,f0,f1,f2]) rfl ⟨rfl,s4,HAB.out,hF.sub (by simp)⟩
  · have y1:(x != 0)=true:=by rw [bne_iff_ne]; exact hxz
    go_wp2_with fail
    have hr:=HST.out
    rw [if_pos hxz] at hr
    subst hr
    have hF:=(((HS3.out).set_ 2 (g:=g + 1) (t:=74) rfl 0 (.int .i64 x)).set_ 2 (g:=g + 1) (t:=74) rfl 1 (.bool false)).set_ 2 (g:=g + 1) (t:=74) rfl 2 (.int .i64 0)
    refine bodyPost_ret (v:=.agg #[.int .i64 x,.bool false,.int .i64 0]) (by simp [results,Tryz.results15,go_sem,f0,f1,f2]) rfl ⟨rfl,s,rfl,hF.sub (by simp)⟩
end Go.Proofs.YtjphckfbbiehdaaGreat
