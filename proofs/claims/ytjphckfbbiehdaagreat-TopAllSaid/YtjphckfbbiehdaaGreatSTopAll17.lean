/- Part of a proof. -/
import Derived.Test.YtjphckfbbiehdaaGreatSTopAll16
import Derived.Test.YtjphckfbbiehdaaGreatSTopAll14
import Derived.Test.YtjphckfbbiehdaaGreatSTopAll6
import Derived.Test.YtjphckfbbiehdaaGreatSTopAll8
set_option linter.unusedSimpArgs false
set_option linter.unusedVariables false
namespace Go.Proofs.YtjphckfbbiehdaaGreat
open Go.RowKit
def upsC (l:List Val) (a:CnA):CnA:=l.foldl CnA.up a
def upsO (l:List (List Val)) (a:CnA):CnA:=l.foldl (fun a fs => upsC fs a) a
def cn0 (σ:MSt):CnA:=⟨σ.regs,σ.objs.map some,List.replicate σ.objs.length 0,[]⟩
def cnUp (σ:MSt):CnA:=upsO σ.objs (upsC σ.regs (cn0 σ))
def CnA.drop (a:CnA) (i:Nat):CnA:=cdropN a.objs.length a i
def begC (a:CnA) (i:Nat):CnA:=if a.cnt.getD i 0=0 ∧ (a.fld i).isSome=true then a.drop i else a
def cnBeg (σ:MSt) (k:Nat):CnA:=(List.range k).foldl begC (cnUp σ)
def cr0 (σ:MSt):CrA:=⟨σ,List.replicate σ.objs.length false,[]⟩
def begR (t:CrA) (i:Nat):CrA:=if t.gone.getD i false=false ∧ pts i t.σ=0 then goesN t.σ.objs.length t i else t
def crBeg (σ:MSt) (k:Nat):CrA:=(List.range k).foldl begR (cr0 σ)
theorem cnBeg_succ (σ:MSt) (k:Nat):cnBeg σ (k + 1)=begC (cnBeg σ k) k:=by unfold cnBeg; rw [List.range_succ,List.foldl_append]; rfl
theorem crBeg_succ (σ:MSt) (k:Nat):crBeg σ (k + 1)=begR (crBeg σ k) k:=by unfold crBeg; rw [List.range_succ,List.foldl_append]; rfl
structure UpK (a b:CnA) (f:Nat → Nat):Prop where
  r:b.regs=a.regs
  o:b.objs=a.objs
  g:b.gl=a.gl
  n:b.cnt.length=a.cnt.length
  c:∀ j:Nat,b.cnt.getD j 0=a.cnt.getD j 0 + (f j:Int)
theorem UpK.refl (a:CnA):UpK a a fun _ => 0:=⟨rfl,rfl,rfl,rfl,fun _ => by omega⟩
theorem UpK.trans {a b c:CnA} {f g:Nat → Nat} (h:UpK a b f) (k:UpK b c g):UpK a c fun j => f j + g j :=
  ⟨k.r.trans h.r,k.o.trans h.o,k.g.trans h.g,k.n.trans h.n,fun j => by rw [k.c,h.c]; omega⟩
theorem UpK.congr {a b:CnA} {f g:Nat → Nat} (h:UpK a b f) (e:∀ j,f j=g j):UpK a b g:=⟨h.r,h.o,h.g,h.n,fun j => by rw [h.c,e]⟩
theorem upK_up (a:CnA) {v:Val} (hv:v.1=true → 0 ≤ v.2 ∧ v.2 < (a.cnt.length:Int)):UpK a (a.up v) fun j => if refB j v=true then 1 else 0:=by
  have h1:=up_cnt a (v:=v) fun hb => by
    obtain ⟨z,e⟩:=int_nat (hv hb).1
    exact ⟨z,e,by have:=(hv hb).2; omega⟩
  refine ⟨up_regs a v,up_objs a v,up_gl a v,(h1 0).2.1,fun j => ?_⟩
  rw [(h1 j).1]
  split <;> rfl
theorem upK_ups:∀ (l:List Val) (a:CnA),ValsOk a.cnt.length l → UpK a (upsC l a) fun j => occ j l:=by
  intro l
  induction l with
  | nil => exact fun a _ => UpK.refl a
  | cons v l ih =>
    intro a h
    have h1:=upK_up a (h v (List.mem_cons_self ..))
    have h2:=ih (a.up v) (by rw [h1.n]; exact fun u hu => h u (List.mem_cons_of_mem _ hu))
    exact (h1.trans h2).congr fun j => by rw [occ_cons]; omega
theorem upK_upsO:∀ (l:List (List Val)) (a:CnA),(∀ fs ∈ l,ValsOk a.cnt.length fs) → UpK a (upsO l a) fun j => ptsO j l:=by
  intro l
  induction l with
  | nil => exact fun a _ => UpK.refl a
  | cons fs l ih =>
    intro a h
    have h1:=upK_ups fs a (h fs (List.mem_cons_self ..))
    have h2:=ih (upsC fs a) (by rw [h1.n]; exact fun u hu => h u (List.mem_cons_of_mem _ hu))
    exact (h1.trans h2).congr fun j => by unfold ptsO; rw [List.map_cons,List.sum_cons]
theorem cn0_cnt (σ:MSt):(cn0 σ).cnt.length=σ.objs.length ∧ ∀ j,(cn0 σ).cnt.getD j 0=0:=by
  refine ⟨List.length_replicate ..,fun j => ?_⟩
  show (List.replicate _ (0:Int)).getD j 0=0
  rw [List.getD_eq_getElem?_getD,List.getElem?_replicate]
  split <;> rfl
theorem ptsO_le {j:Nat}:∀ {l:List (List Val)},(∀ fs ∈ l,fs.length ≤ 4) → ptsO j l ≤ 4 * l.length:=by
  intro l
  induction l with
  | nil => intro _; exact Nat.le_refl _
  | cons o l ih =>
    intro h
    have h1:=ih fun fs hi => h fs (List.mem_cons_of_mem _ hi)
    have h2:=Nat.le_trans (occ_le j o) (h o (List.mem_cons_self ..))
    unfold ptsO at h1 ⊢
    rw [List.map_cons,List.sum_cons,List.length_cons]
    omega
structure UpOk (σ:MSt) (a:CnA) (N:Nat):Prop where
  r:a.regs=σ.regs
  o:a.objs=σ.objs.map some
  g:a.gl=[]
  n:a.cnt.length=σ.objs.length
  b:∀ j:Nat,0 ≤ a.cnt.getD j 0 ∧ a.cnt.getD j 0 ≤ N
theorem upOk_of {σ:MSt} {b:CnA} {f:Nat → Nat} (h:UpK (cn0 σ) b f) {N:Nat} (hf:∀ j,f j ≤ N):UpOk σ b N :=
  ⟨h.r,h.o,h.g,h.n.trans (cn0_cnt σ).1,fun j => by rw [h.c,(cn0_cnt σ).2]; have:=hf j; omega⟩
theorem upK_take {σ:MSt} (hM:MOk σ) (k q:Nat):UpK (cn0 σ) (upsC ((obA σ.objs (k:Int)).take q) (upsO (σ.objs.take k) (upsC σ.regs (cn0 σ)))) fun j => occ j σ.regs + ptsO j (σ.objs.take k) + occ j ((obA σ.objs (k:Int)).take q):=by
  have e0:=(cn0_cnt σ).1
  have h1:=upK_ups σ.regs (cn0 σ) (by rw [e0]; exact hM.vr)
  have h2:=upK_upsO (σ.objs.take k) (upsC σ.regs (cn0 σ)) (by rw [h1.n,e0]; exact fun fs hf => hM.vo fs (List.mem_of_mem_take hf))
  have h3:=upK_ups ((obA σ.objs (k:Int)).take q) (upsO (σ.objs.take k) (upsC σ.regs (cn0 σ))) (by rw [h2.n,h1.n,e0]; exact fun v hv => (hM.ob (k:Int)).1 v (List.mem_of_mem_take hv))
  exact ((h1.trans h2).trans h3).congr fun j => rfl
theorem upOk_regs {σ:MSt} (hM:MOk σ) (k:Nat):UpOk σ (upsC (σ.regs.take k) (cn0 σ)) 8 :=
  upOk_of (upK_ups _ _ (by rw [(cn0_cnt σ).1]; exact fun v hv => hM.vr v (List.mem_of_mem_take hv))) fun j => by
    have:=occ_le j (σ.regs.take k)
    have h8:=hM.r8
    rw [List.length_take] at this
    omega
theorem upOk_objs {σ:MSt} (hM:MOk σ) (hn:σ.objs.length ≤ 24) (k q:Nat):UpOk σ (upsC ((obA σ.objs (k:Int)).take q) (upsO (σ.objs.take k) (upsC σ.regs (cn0 σ)))) 200 :=
  upOk_of (upK_take hM k q) fun j => by
    have h1:=occ_le j σ.regs
    have h2:=ptsO_le (j:=j) (l:=σ.objs.take k) fun fs hf => hM.f4 fs (List.mem_of_mem_take hf)
    have h3:=occ_le j ((obA σ.objs (k:Int)).take q)
    have h4:=(hM.ob (k:Int)).2
    have h8:=hM.r8
    rw [List.length_take] at h2 h3
    omega
theorem upsC_take (l:List Val) (a:CnA) {k:Nat} (hk:k < l.length):upsC (l.take (k + 1)) a=(upsC (l.take k) a).up l[k]:=by
  unfold upsC
  rw [List.take_succ_eq_append_getElem hk,List.foldl_append]; rfl
theorem upsO_take (l:List (List Val)) (a:CnA) {k:Nat} (hk:k < l.length):upsO (l.take (k + 1)) a=upsC (obA l (k:Int)) (upsO (l.take k) a):=by
  unfold upsO
  rw [List.take_succ_eq_append_getElem hk,List.foldl_append]
  have:obA l (k:Int)=l[k]:=by unfold obA; rw [Int.toNat_natCast,List.getD_eq_getElem?_getD,List.getElem?_eq_getElem hk]; rfl
  rw [this]; rfl
theorem cr0_ok {σ:MSt} (hM:MOk σ):CrOk (cr0 σ):=⟨List.length_replicate ..,hM,fun j hj => by
  have:(List.replicate σ.objs.length false)[j]?=some true:=hj
  rw [List.getElem?_replicate] at this
  split at this <;> cases this⟩
theorem mask_all (objs:List (List Val)):maskL objs (List.replicate objs.length false)=objs.map some:=by
  refine List.ext_getElem? fun i => ?_
  rw [maskL_get _ _ (List.length_replicate ..),List.getElem?_map,List.getD_eq_getElem?_getD,List.getElem?_replicate]
  cases objs[i]? with
  | none => rfl
  | some fs => split <;> rfl
theorem upK_all {σ:MSt} (hM:MOk σ):UpK (cn0 σ) (cnUp σ) fun j => pts j σ:=by
  have e0:=(cn0_cnt σ).1
  have h1:=upK_ups σ.regs (cn0 σ) (by rw [e0]; exact hM.vr)
  have h2:=upK_upsO σ.objs (upsC σ.regs (cn0 σ)) (by rw [h1.n,e0]; exact hM.vo)
  exact (h1.trans h2).congr fun j => rfl
theorem cnUp_sim {σ:MSt} (hM:MOk σ):CnSim (cnUp σ) (cr0 σ):=by
  have h:=upK_all hM
  exact ⟨⟨h.o.trans (mask_all _).symm,h.g,h.n.trans (cn0_cnt σ).1,fun j _ => by rw [h.c,(cn0_cnt σ).2]; exact Int.zero_add _⟩,h.r,cr0_ok hM⟩
theorem CnSim.inv {a:CnA} {t:CrA} (h:CnSim a t) (hz:∀ i:Nat,t.gone[i]?=some true → ∀ j,occ j (obA t.σ.objs (i:Int))=0) (hgb:a.gl.length + a.num ≤ a.objs.length):CnOk a:=by
  have hO:∀ j,occO j a.objs=ptsO j t.σ.objs:=by
    intro j
    rw [h.s.ob]
    have gen:∀ (objs:List (List Val)) (gone:List Bool),gone.length=objs.length → (∀ i:Nat,gone[i]?=some true → occ j (obA objs (i:Int))=0) → occO j (maskL objs gone)=ptsO j objs:=by
      intro objs
      induction objs with
      | nil => intro gone hl _; rw [List.eq_nil_of_length_eq_zero hl]; rfl
      | cons o objs ih =>
        intro gone hl hz
        cases gone with
        | nil => cases hl
        | cons g gone =>
          have h1:=ih gone (by simpa using hl) fun i hi => by
            have:=hz (i + 1) (by simpa using hi)
            unfold obA at this ⊢
            rw [Int.toNat_natCast] at this ⊢
            simpa using this
          unfold occO ptsO maskL at h1 ⊢
          rw [List.zipWith_cons_cons,List.map_cons,List.map_cons,List.sum_cons,List.sum_cons,h1]
          cases g
          · rfl
          · have:=hz 0 (by simp)
            unfold obA at this
            simp at this
            simp [this,occ_nil]
    exact gen _ _ h.ok.lg fun i hi => hz i hi j
  refine ⟨by rw [h.r]; exact h.ok.m.r8,⟨h.s.lc.trans h.n.symm,fun j hj => ?_,fun j hj hn => ?_,fun v hv hb => ?_,fun i fs hf v hv hb => ?_,fun i fs hf => ?_⟩,hgb⟩
  · rw [h.s.eq j (by rw [← h.n]; exact hj),hO,h.r]; rfl
  · have hj':j < t.σ.objs.length:=by rw [← h.n]; exact hj
    rw [h.s.eq j hj']
    cases hg:t.gone[j]? with
    | none => rw [List.getElem?_eq_none_iff,h.ok.lg] at hg; omega
    | some b =>
      cases b
      · rw [(h.s.fld h.ok.lg j _).2 ⟨hg,rfl⟩] at hn; cases hn
      · rw [h.ok.th j hg]; rfl
  · rw [h.r] at hv
    have h1:=h.ok.m.vr v hv hb
    obtain ⟨z,e⟩:=int_nat h1.1
    exact ⟨z,by rw [h.n]; omega,e⟩
  · have h1:=(h.ok.m.ob (i:Int)).1
    rw [h.ob hf] at h1
    have h2:=h1 v hv hb
    obtain ⟨z,e⟩:=int_nat h2.1
    exact ⟨z,by rw [h.n]; omega,e⟩
  · have h1:=(h.ok.m.ob (i:Int)).2
    rwa [h.ob hf] at h1
theorem cnUp_ok {σ:MSt} (hM:MOk σ):CnOk (cnUp σ):=by
  have h:=upK_all hM
  refine (cnUp_sim hM).inv (fun i hi => ?_) ?_
  · have:(List.replicate σ.objs.length false)[i]?=some true:=hi
    rw [List.getElem?_replicate] at this
    split at this <;> cases this
  · rw [h.g]
    have:=someN_le (cnUp σ).objs
    show 0 + someN _ ≤ _
    omega
theorem cnBeg_ok {σ:MSt} (hM:MOk σ):∀ k,k ≤ σ.objs.length → CnSim (cnBeg σ k) (crBeg σ k) ∧ CnOk (cnBeg σ k) ∧ (cnBeg σ k).objs.length=σ.objs.length ∧ (cnBeg σ k).regs=σ.regs:=by
  intro k
  induction k with
  | zero => exact fun _ => ⟨cnUp_sim hM,cnUp_ok hM,by show (cnUp σ).objs.length=_; rw [(upK_all hM).o]; exact List.length_map ..,(upK_all hM).r⟩
  | succ k ih =>
    intro hk
    obtain ⟨h,ok,hn,hr⟩:=ih (by omega)
    rw [cnBeg_succ,crBeg_succ]
    have hkn:k < (crBeg σ k).σ.objs.length:=by rw [← h.n,hn]; omega
    have hg:(crBeg σ k).gone[k]?=some ((crBeg σ k).gone.getD k false):=by
      have hgl:k < (crBeg σ k).gone.length:=by rw [h.ok.lg]; exact hkn
      rw [List.getD_eq_getElem?_getD,List.getElem?_eq_getElem hgl]; rfl
    have e1:=h.s.eq k hkn
    have e2:((cnBeg σ k).fld k).isSome=true ↔ (crBeg σ k).gone.getD k false=false:=by
      constructor
      · intro hs
        obtain ⟨fs,hf⟩:=Option.isSome_iff_exists.1 hs
        have:=((h.s.fld h.ok.lg k fs).1 hf).1
        rw [hg] at this
        exact Option.some.inj this
      · intro he
        rw [he] at hg
        rw [(h.s.fld h.ok.lg k _).2 ⟨hg,rfl⟩]; rfl
    unfold begC begR
    by_cases hc:(crBeg σ k).gone.getD k false=false ∧ pts k (crBeg σ k).σ=0
    · have hg2:=hg
      rw [hc.1] at hg2
      have hf:=(h.s.fld h.ok.lg k (obA (crBeg σ k).σ.objs (k:Int))).2 ⟨hg2,rfl⟩
      have hc0:(cnBeg σ k).cnt.getD k 0=0:=by rw [e1,hc.2]; rfl
      rw [if_pos hc,if_pos ⟨hc0,e2.2 hc.1⟩]
      unfold CnA.drop
      have hng:(crBeg σ k).ng ≤ (crBeg σ k).σ.objs.length:=by
        have:(crBeg σ k).gone.countP (fun g => !g) ≤ (crBeg σ k).gone.length:=List.countP_le_length
        rw [← h.ok.lg]; exact this
      obtain ⟨g1,g2,g3⟩:=goes_ok _ (cnBeg σ k) (crBeg σ k) k h.ok h.s hg2 hc.2 hng
      obtain ⟨d1,d2⟩:=cdrop_ok (crBeg σ k).σ.objs.length (cnBeg σ k) (cnBeg σ k).regs k _ ok.inv hf hc0 (by rw [h.num]; exact hng)
      rw [h.n]
      refine ⟨⟨g3,d2.r.trans (h.r.trans g2.r.symm),g1⟩,⟨by rw [d2.r]; exact ok.r8,by rw [d2.r]; exact d1,by rw [d2.n]; have:=d2.l; have:=ok.gb; omega⟩,by rw [d2.n,hn],d2.r.trans hr⟩
    · rw [if_neg hc,if_neg (fun h2 => hc ⟨e2.1 h2.2,by have:=h2.1; omega⟩)]
      exact ⟨h,ok,hn,hr⟩
def cnStp (R:Int) (p:List OutV × CnA) (d:DoV):List OutV × CnA:=(p.1 ++ [(cnDo R d p.2).1],(cnDo R d p.2).2)
def crStp (R:Int) (p:List OutV × CrA) (d:DoV):List OutV × CrA:=(p.1 ++ [(crStep R d p.2).1],(crStep R d p.2).2)
def cnRun (R:Int) (ds:List DoV) (a:CnA):List OutV × CnA:=ds.foldl (cnStp R) ([],a)
def crRun (R:Int) (ds:List DoV) (t:CrA):List OutV × CrA:=ds.foldl (crStp R) ([],t)
theorem cnRun_at (R:Int) (ds:List DoV) (a:CnA) (k:Nat) (hk:k < ds.length):cnRun R (ds.take (k + 1)) a=((cnRun R (ds.take k) a).1 ++ [(cnDo R ds[k] (cnRun R (ds.take k) a).2).1],(cnDo R ds[k] (cnRun R (ds.take k) a).2).2):=by
  unfold cnRun
  rw [List.take_succ_eq_append_getElem hk,List.foldl_append]; rfl
theorem crRun_at (R:Int) (ds:List DoV) (t:CrA) (k:Nat) (hk:k < ds.length):crRun R (ds.take (k + 1)) t=((crRun R (ds.take k) t).1 ++ [(crStep R ds[k] (crRun R (ds.take k) t).2).1],(crStep R ds[k] (crRun R (ds.take k) t).2).2):=by
  unfold crRun
  rw [List.take_succ_eq_append_getElem hk,List.foldl_append]; rfl
theorem cn_run (R:Int) (ds:List DoV) {a:CnA} {t:CrA} (h:CnSim a t) (ok:CnOk a):∀ k,k ≤ ds.length → (cnRun R (ds.take k) a).1=(crRun R (ds.take k) t).1 ∧ CnSim (cnRun R (ds.take k) a).2 (crRun R (ds.take k) t).2 ∧ CnOk (cnRun R (ds.take k) a).2 ∧ (cnRun R (ds.take k) a).2.objs.length ≤ a.objs.length + k ∧ (cnRun R (ds.take k) a).1.length=k:=by
  intro k
  induction k with
  | zero => exact fun _ => ⟨rfl,h,ok,Nat.le_refl _,rfl⟩
  | succ k ih =>
    intro hk
    obtain ⟨h1,h2,h3,h4,h5⟩:=ih (by omega)
    rw [cnRun_at R ds a k (by omega),crRun_at R ds t k (by omega)]
    obtain ⟨s1,s2⟩:=h2.step h3 R (ds[k]'(by omega))
    obtain ⟨o1,o2,o3⟩:=h3.do_ R (ds[k]'(by omega))
    exact ⟨by dsimp only; rw [h1,s1],s2,o1,by dsimp only; omega,by dsimp only; rw [List.length_append,h5]; rfl⟩
def cnThere (a:CnA):List (Int × Int):=(thereL a.objs).map fun x => (x,a.cnt.getD x.toNat 0)
end Go.Proofs.YtjphckfbbiehdaaGreat

namespace Go.Proofs.YtjphckfbbiehdaaGreat
structure CnLk (a:CnA) (σ:MSt):Prop where
  r:a.regs=σ.regs
  n:a.objs.length=σ.objs.length
  f:∀ i fs,a.fld i=some fs → σ.objs[i]?=some fs
theorem CnLk.ob {a:CnA} {σ:MSt} (h:CnLk a σ) {i:Nat} {fs:List Val} (hf:a.fld i=some fs):obA σ.objs (i:Int)=fs:=by
  unfold obA
  rw [Int.toNat_natCast,List.getD_eq_getElem?_getD,h.f i fs hf]; rfl
theorem CnLk.kp {a b:CnA} {σ:MSt} (h:CnLk a σ) (k:CnKp a b):CnLk b σ:=⟨k.r.trans h.r,k.n.trans h.n,fun i fs hf => h.f i fs (k.f i fs hf)⟩
theorem CnLk.sr {a:CnA} {σ:MSt} (h:CnLk a σ) (r:Nat) (v:Val):CnLk (a.sr r v) ⟨σ.regs.set r v,σ.objs⟩:=⟨by rw [← h.r]; rfl,h.n,h.f⟩
theorem CnLk.sh {a:CnA} {σ:MSt} (h:CnLk a σ) (ok:CnOk a) {r:Nat} (hr:r < 8) {v:Val} (hv:a.vok v):CnLk (a.sh r v) ⟨σ.regs.set r v,σ.objs⟩ :=
  (h.kp ((up_kp a v).trans (ok.hold hr hv).2)).sr r v
theorem CnLk.push {a:CnA} {σ:MSt} (h:CnLk a σ) (n:Nat):CnLk (a.push n) ⟨σ.regs,σ.objs ++ [zeroVs n]⟩:=by
  refine ⟨h.r,?_,fun i fs hf => ?_⟩
  · show (a.objs ++ [_]).length=(σ.objs ++ [_]).length
    rw [List.length_append,List.length_append,h.n]; rfl
  · show (σ.objs ++ [zeroVs n])[i]?=_
    rcases (push_fld a n i fs).1 hf with h2 | ⟨e,e2⟩
    · have h3:=h.f i fs h2
      rw [List.getElem?_append_left (List.getElem?_eq_some_iff.1 h3).1]; exact h3
    · subst e; subst e2
      rw [h.n,List.getElem?_append_right (Nat.le_refl _),Nat.sub_self]; rfl
theorem CnLk.put {a:CnA} {σ:MSt} (h:CnLk a σ) (ok:CnOk a) {i k:Nat} {fs:List Val} (hf:a.fld i=some fs) (hk:k < fs.length) {v:Val} (hv:a.vok v) :
    CnLk (cnPut a i k v) ⟨σ.regs,σ.objs.set i (fs.set k v)⟩:=by
  obtain ⟨h1,e,_,_,_⟩:=ok.put hf hk hv
  rw [e]
  refine CnLk.kp (a:=(a.up v).seto i k v) ⟨(up_regs a v).trans h.r,?_,fun j gs hg => ?_⟩ h1.down.2
  · show ((a.up v).objs.set i _).length=(σ.objs.set i _).length
    rw [List.length_set,List.length_set,up_objs]; exact h.n
  · show (σ.objs.set i _)[j]?=_
    have hl:i < σ.objs.length:=by rw [← h.n]; exact CnA.fld_lt hf
    rcases (seto_fld v (a:=a.up v) (by rw [up_fld]; exact hf) j gs).1 hg with ⟨e1,e2⟩ | ⟨e1,h2⟩
    · subst e1; subst e2
      rw [List.getElem?_set_self hl]
    · rw [up_fld] at h2
      rw [List.getElem?_set_ne (fun e => e1 e.symm)]
      exact h.f j gs h2
theorem CnLk.err {a:CnA} {σ:MSt} (h:CnLk a σ) (ok:CnOk a) (r x:Int):cnErr a (rgA a.regs r) x=fErr σ.objs (rgA σ.regs r) x:=by
  rw [← h.r]
  unfold cnErr fErr
  by_cases hb:(rgA a.regs r).1=false
  · rw [if_pos hb,if_pos hb]
  · rw [if_neg hb,if_neg hb]
    obtain ⟨i,fs,e,hf⟩:=ok.rg r (by simpa using hb)
    rw [e,Int.toNat_natCast,hf,Option.getD_some,h.ob hf]
theorem cnDo_lk {a:CnA} {σ:MSt} (R:Int) (h:CnLk a σ) (ok:CnOk a) (d:DoV) :
    (cnDo R d a).1.code=6 ∨ ((cnDo R d a).1=(stepM d σ).1 ∧ CnLk (cnDo R d a).2 (stepM d σ).2):=by
  unfold cnDo stepM
  by_cases hw:wrongM d ≠ 0
  · rw [if_pos hw,if_pos hw]
    exact .inr ⟨rfl,h⟩
  rw [if_neg hw,if_neg hw]
  have hw0:wrongM d=0:=by omega
  have hto:d.k ≠ 7 → d.to.toNat < 8:=fun h => by have:=wrongM_to hw0 h; omega
  unfold cnKst stepK
  by_cases h1:d.k=1
  · rw [if_pos h1,if_pos h1]
    have h4:=wrongM_n hw0 h1
    have hnew:=ok.new_ R (n:=d.n.toNat) (by omega)
    unfold cnNew at hnew ⊢
    by_cases hc:R ≤ (a.num:Int)
    · rw [if_pos hc] at hnew ⊢
      rw [if_pos (show ¬ (6:Int)=0 by decide)]
      exact .inl rfl
    · rw [if_neg hc] at hnew ⊢
      rw [if_neg (show ¬ (0:Int) ≠ 0 by decide)]
      refine .inr ⟨rfl,?_⟩
      dsimp only
      have h5:=(h.push d.n.toNat).sh hnew.1 (hto (by omega)) (hnew.2.1 rfl)
      dsimp only at h5
      rw [h.n] at h5 ⊢
      exact h5
  rw [if_neg h1,if_neg h1]
  by_cases h2:d.k=2
  · rw [if_pos h2,if_pos h2]
    exact .inr ⟨rfl,h.sh ok (hto (by omega)) (fun h => by cases h)⟩
  rw [if_neg h2,if_neg h2]
  by_cases h3:d.k=3
  · rw [if_pos h3,if_pos h3]
    refine .inr ⟨rfl,?_⟩
    have:=h.sh ok (hto (by omega)) (ok.rg d.fr)
    rw [← h.r] at this ⊢
    exact this
  rw [if_neg h3,if_neg h3]
  by_cases h5:d.k=4
  · rw [if_pos h5,if_pos h5]
    have he:=h.err ok d.to d.at_
    by_cases hz:cnErr a (rgA a.regs d.to) d.at_ ≠ 0
    · rw [if_pos hz,if_pos (by rw [← he]; exact hz)]
      exact .inr ⟨by rw [he],h⟩
    · rw [if_neg hz,if_neg (by rw [← he]; exact hz)]
      obtain ⟨i,k,fs,e,hf,e2,hk⟩:=ok.at_field (r:=d.to) (at_:=d.at_) (by omega)
      rw [← h.r,e]
      dsimp only
      rw [Int.toNat_natCast,h.ob hf,e2,Int.toNat_natCast]
      refine .inr ⟨rfl,?_⟩
      have:=h.put (k:=k) (v:=rgA a.regs d.fr) ok hf hk (ok.rg _)
      rwa [← h.r] at this
  rw [if_neg h5,if_neg h5]
  by_cases h6:d.k=5
  · rw [if_pos h6,if_pos h6]
    have he:=h.err ok d.fr d.at_
    by_cases hz:cnErr a (rgA a.regs d.fr) d.at_ ≠ 0
    · rw [if_pos hz,if_pos (by rw [← he]; exact hz)]
      exact .inr ⟨by rw [he],h⟩
    · rw [if_neg hz,if_neg (by rw [← he]; exact hz)]
      obtain ⟨i,k,fs,e,hf,e2,hk⟩:=ok.at_field (r:=d.fr) (at_:=d.at_) (by omega)
      rw [← h.r,e]
      dsimp only
      rw [Int.toNat_natCast,h.ob hf,hf,Option.getD_some]
      refine .inr ⟨rfl,?_⟩
      have hv:a.vok (fs.getD d.at_.toNat (false,0)):=by
        rcases getD_mem_or fs d.at_.toNat (false,0) with h7 | h7
        · exact ok.inv.vokF hf h7
        · rw [h7]; intro h8; cases h8
      have:=h.sh ok (hto (by omega)) hv
      rwa [← h.r] at this
  rw [if_neg h6,if_neg h6]
  by_cases h7:d.k=6
  · rw [if_pos h7,if_pos h7]
    exact .inr ⟨by rw [h.r],h⟩
  · rw [if_neg h7,if_neg h7]
    refine .inr ⟨?_,h⟩
    rw [← h.r]
    by_cases hb:(rgA a.regs d.fr).1=true
    · obtain ⟨i,fs,e,hf⟩:=ok.rg d.fr hb
      rw [if_pos hb,if_pos hb,e,h.ob hf,Int.toNat_natCast,hf]
      rfl
    · rw [if_neg hb,if_neg hb]
theorem cnBeg_lk {σ:MSt} (hM:MOk σ):∀ k,k ≤ σ.objs.length → CnLk (cnBeg σ k) σ:=by
  intro k
  induction k with
  | zero =>
    intro _
    refine ⟨(upK_all hM).r,?_,fun i fs hf => ?_⟩
    · show (cnUp σ).objs.length=_; rw [(upK_all hM).o]; exact List.length_map ..
    · have h1:=CnA.fld_iff.1 hf
      rw [show (cnBeg σ 0).objs=(cn0 σ).objs from (upK_all hM).o,show (cn0 σ).objs=σ.objs.map some from rfl,List.getElem?_map] at h1
      cases h2:σ.objs[i]? with
      | none => rw [h2] at h1; cases h1
      | some gs => rw [h2] at h1; simpa using h1
  | succ k ih =>
    intro hk
    obtain ⟨h,ok,hn,hr⟩:=cnBeg_ok hM k (by omega)
    rw [cnBeg_succ]
    unfold begC
    split
    · rename_i hc
      obtain ⟨fs,hf⟩:=Option.isSome_iff_exists.1 hc.2
      unfold CnA.drop
      exact (ih (by omega)).kp (cdrop_ok _ (cnBeg σ k) (cnBeg σ k).regs k fs ok.inv hf hc.1 (someN_le _)).2
    · exact ih (by omega)
end Go.Proofs.YtjphckfbbiehdaaGreat

namespace Go.Proofs.YtjphckfbbiehdaaGreat
open Go.RowKit
abbrev Gp:=Nat × Nat
structure GnA where
  regs:List Val
  objs:List (Option (List Val))
  old:List Bool
  mks:List Gp
def GnA.fld (a:GnA) (i:Nat):Option (List Val):=(a.objs[i]?).getD none
def GnA.od (a:GnA) (i:Nat):Bool:=a.old.getD i false
def GnA.vok (a:GnA) (v:Val):Prop:=v.1=true → ∃ (i:Nat) (fs:List Val),v.2=(i:Int) ∧ a.fld i=some fs
theorem GnA.fld_iff {a:GnA} {i:Nat} {fs:List Val}:a.fld i=some fs ↔ a.objs[i]?=some (some fs):=by
  unfold GnA.fld
  cases a.objs[i]? with
  | none => simp
  | some o => simp
theorem GnA.fld_lt {a:GnA} {i:Nat} {fs:List Val} (h:a.fld i=some fs):i < a.objs.length:=(List.getElem?_eq_some_iff.1 (GnA.fld_iff.1 h)).1
def ltP (p q:Gp):Prop:=p.1 < q.1 ∨ (p.1=q.1 ∧ p.2 < q.2)
instance (p q:Gp):Decidable (ltP p q):=by unfold ltP; infer_instance
theorem ltP_tri (p q:Gp):ltP p q ∨ p=q ∨ ltP q p:=by
  unfold ltP
  obtain ⟨a,b⟩:=p
  obtain ⟨c,d⟩:=q
  simp only [Prod.mk.injEq]
  omega
theorem ltP_trans {p q r:Gp} (h1:ltP p q) (h2:ltP q r):ltP p r:=by unfold ltP at *; omega
theorem ltP_irr {p:Gp}:¬ ltP p p:=by unfold ltP; omega
def insF (f:Gp):List Gp → List Gp
  | [] => [f]
  | x :: l => if ltP x f then x :: insF f l else if x=f then x :: l else f :: x :: l
theorem mem_insF {f p:Gp}:∀ {l:List Gp},p ∈ insF f l ↔ p=f ∨ p ∈ l
  | [] => by simp [insF]
  | x :: l => by
    unfold insF
    split
    · rw [List.mem_cons,mem_insF,List.mem_cons]
      constructor
      · rintro (h | h | h)
        · exact .inr (.inl h)
        · exact .inl h
        · exact .inr (.inr h)
      · rintro (h | h | h)
        · exact .inr (.inl h)
        · exact .inl h
        · exact .inr (.inr h)
    · split
      · rename_i h
        subst h
        rw [List.mem_cons]
        exact ⟨.inr,fun h => h.elim (fun h => .inl h) id⟩
      · rw [List.mem_cons]
theorem insF_sorted {f:Gp}:∀ {l:List Gp},l.Pairwise ltP → (insF f l).Pairwise ltP
  | [],_ => by simp [insF]
  | x :: l,h => by
    obtain ⟨h1,h2⟩:=List.pairwise_cons.1 h
    unfold insF
    split
    · rename_i hx
      refine List.pairwise_cons.2 ⟨fun y hy => ?_,insF_sorted h2⟩
      rcases mem_insF.1 hy with rfl | hy
      · exact hx
      · exact h1 y hy
    · split
      · exact h
      · rename_i hx hn
        have hfx:ltP f x:=by
          rcases ltP_tri x f with h3 | h3 | h3
          · exact absurd h3 hx
          · exact absurd h3 hn
          · exact h3
        refine List.pairwise_cons.2 ⟨fun y hy => ?_,h⟩
        rcases List.mem_cons.1 hy with rfl | hy
        · exact hfx
        · exact ltP_trans hfx (h1 y hy)
theorem sorted_uniq {l m:List Gp} (h1:l.Pairwise ltP) (h2:m.Pairwise ltP) (h:∀ p,p ∈ l ↔ p ∈ m):l=m:=by
  have n1:l.Nodup:=h1.imp fun h e => by subst e; exact ltP_irr h
  have n2:m.Nodup:=h2.imp fun h e => by subst e; exact ltP_irr h
  exact List.Perm.eq_of_pairwise (le:=ltP) (fun x y _ _ h1 h2 => absurd (ltP_trans h1 h2) ltP_irr) h1 h2 ((List.perm_ext_iff_of_nodup n1 n2).2 h)
def GnA.gsY (a:GnA):List (List Val):=(List.range a.objs.length).map fun i => if a.od i=true then [] else (a.fld i).getD []
def GnA.rtY (a:GnA):List Val:=a.regs ++ a.mks.map fun p => ((a.fld p.1).getD []).getD p.2 (false,0)
def GnA.kept (a:GnA) (i:Nat):Bool:=a.od i || decide ((i:Int) ∈ reachR a.gsY a.rtY)
def GnA.gs (a:GnA):List (List Val):=a.objs.map fun o => o.getD []
def GnA.lives (a:GnA) (i:Nat):Bool:=decide ((i:Int) ∈ reachR a.gs a.regs)
def goneB (K:Nat → Bool) (T:List Int):List Int:=T.filter fun x => !K x.toNat
theorem goneB_snoc (K:Nat → Bool) (T:List Int) (x:Int):goneB K (T ++ [x])=goneB K T ++ if K x.toNat=true then [] else [x]:=by
  unfold goneB
  rw [List.filter_append,List.filter_cons,List.filter_nil]
  cases K x.toNat <;> simp
def dropK (K:Nat → Bool) (objs:List (Option (List Val))):List (Option (List Val)):=dropF objs (goneB K (thereL objs))
theorem dropK_len (K:Nat → Bool) (objs:List (Option (List Val))):(dropK K objs).length=objs.length:=dropF_len _ _
theorem dropK_get (K:Nat → Bool) (objs:List (Option (List Val))) (i:Nat) (fs:List Val):(dropK K objs)[i]?=some (some fs) ↔ objs[i]?=some (some fs) ∧ K i=true:=by
  unfold dropK
  have h0:∀ x ∈ goneB K (thereL objs),0 ≤ x:=fun x hx => by
    obtain ⟨j,_,rfl,_⟩:=(mem_thereL _ _).1 (List.mem_filter.1 hx).1
    omega
  rw [dropF_get _ _ _ h0]
  have hm:(i:Int) ∈ goneB K (thereL objs) ↔ (∃ gs,objs[i]?=some (some gs)) ∧ K i=false:=by
    unfold goneB
    rw [List.mem_filter,mem_thereL]
    simp only [Int.toNat_natCast,Bool.not_eq_true']
    constructor
    · rintro ⟨⟨j,gs,e,h⟩,hk⟩
      obtain rfl:i=j:=by omega
      exact ⟨⟨gs,h⟩,hk⟩
    · rintro ⟨⟨gs,h⟩,hk⟩
      exact ⟨⟨i,gs,rfl,h⟩,hk⟩
  constructor
  · split
    · intro h; injection h with h; cases h
    · rename_i hc
      intro h
      refine ⟨h,?_⟩
      cases hk:K i with
      | true => rfl
      | false => exact absurd ⟨hm.2 ⟨⟨fs,h⟩,hk⟩,(List.getElem?_eq_some_iff.1 h).1⟩ hc
  · rintro ⟨h1,h2⟩
    rw [if_neg (fun h => by have:=(hm.1 h.1).2; rw [h2] at this; cases this)]
    exact h1
def GnA.minor (a:GnA):GnA:=⟨a.regs,dropK a.kept a.objs,(List.range a.objs.length).map a.kept,[]⟩
def GnA.major (a:GnA):GnA:=⟨a.regs,dropK a.lives a.objs,(List.range a.objs.length).map fun i => a.od i || (a.fld i).isSome,[]⟩
def GnA.many (a:GnA) (b:Bool):Nat:=((thereL a.objs).filter fun x => a.od x.toNat == b).length
def GnA.push (a:GnA) (n:Nat):GnA:=⟨a.regs,a.objs ++ [some (zeroVs n)],a.old ++ [false],a.mks⟩
def gnRoom (room:Nat) (a:GnA):GnA:=if room ≤ a.many false then a.minor else a
def gnNew (room:Nat) (a:GnA) (n:Nat):GnA × Int × Int :=
  if 24 ≤ (gnRoom room a).many true then (gnRoom room a,0,6) else ((gnRoom room a).push n,(a.objs.length:Int),0)
def gnPut (a:GnA) (i k:Nat) (v:Val):GnA :=
  ⟨a.regs,a.objs.set i (some (((a.fld i).getD []).set k v)),a.old,if a.od i && v.1 && !a.od v.2.toNat then insF (i,k) a.mks else a.mks⟩
def GnA.sr (a:GnA) (r:Nat) (v:Val):GnA:={ a with regs:=a.regs.set r v }
structure GnOk (a:GnA):Prop where
  r8:a.regs.length=8
  ol:a.old.length=a.objs.length
  vr:∀ v ∈ a.regs,a.vok v
  vf:∀ i fs v,a.fld i=some fs → v ∈ fs → a.vok v
  f4:∀ i fs,a.fld i=some fs → fs.length ≤ 4
  mo:∀ p ∈ a.mks,a.od p.1=true ∧ ∃ fs,a.fld p.1=some fs ∧ p.2 < fs.length
  ms:a.mks.Pairwise ltP
  rm:∀ i fs k (j:Nat),a.fld i=some fs → a.od i=true → fs[k]?=some (true,(j:Int)) → a.od j=false → (i,k) ∈ a.mks
end Go.Proofs.YtjphckfbbiehdaaGreat

namespace Go.Proofs.YtjphckfbbiehdaaGreat
open Go.RowKit
theorem GnA.od_range (f:Nat → Bool) (n i:Nat) (h:i < n):((List.range n).map f).getD i false=f i:=by
  rw [List.getD_eq_getElem?_getD,List.getElem?_map,List.getElem?_range h]; rfl
theorem GnA.vok_rng {a:GnA} {v:Val} (h:a.vok v):v.1=true → 0 ≤ v.2 ∧ v.2 < (a.objs.length:Int):=fun h1 => by
  obtain ⟨i,fs,e,hf⟩:=h h1
  have:=GnA.fld_lt hf
  omega
theorem GnA.gsY_len (a:GnA):a.gsY.length=a.objs.length:=by simp [GnA.gsY]
theorem GnA.gs_len (a:GnA):a.gs.length=a.objs.length:=List.length_map ..
theorem GnA.gsY_get (a:GnA) (i:Nat):fieldsI a.gsY (i:Int)=if a.od i=true then [] else (a.fld i).getD []:=by
  unfold fieldsI GnA.gsY
  rw [Int.toNat_natCast,List.getD_eq_getElem?_getD,List.getElem?_map]
  rcases Nat.lt_or_ge i a.objs.length with h | h
  · rw [List.getElem?_range h]; rfl
  · rw [List.getElem?_eq_none (by simpa using h)]
    have:a.fld i=none:=by unfold GnA.fld; rw [List.getElem?_eq_none h]; rfl
    rw [this]
    simp
theorem GnA.gs_get (a:GnA) (i:Nat):fieldsI a.gs (i:Int)=(a.fld i).getD []:=by
  unfold fieldsI GnA.gs GnA.fld
  rw [Int.toNat_natCast,List.getD_eq_getElem?_getD,List.getElem?_map]
  cases a.objs[i]? <;> rfl
theorem GnOk.mkv {a:GnA} (ok:GnOk a) {p:Gp} (hp:p ∈ a.mks):∃ fs,a.fld p.1=some fs ∧ ((a.fld p.1).getD []).getD p.2 (false,0) ∈ fs ∧ fs[p.2]?=some (((a.fld p.1).getD []).getD p.2 (false,0)):=by
  obtain ⟨_,fs,h1,h2⟩:=ok.mo p hp
  refine ⟨fs,h1,?_,?_⟩
  · rw [h1,Option.getD_some,List.getD_eq_getElem?_getD,List.getElem?_eq_getElem h2]; exact List.getElem_mem h2
  · rw [h1,Option.getD_some,List.getD_eq_getElem?_getD,List.getElem?_eq_getElem h2]; rfl
theorem GnOk.gvY {a:GnA} (ok:GnOk a):(∀ fs ∈ a.gsY,ValsOk a.gsY.length fs) ∧ ValsOk a.gsY.length a.rtY:=by
  rw [a.gsY_len]
  refine ⟨fun fs hf v hv => ?_,fun v hv => ?_⟩
  · obtain ⟨i,hi,rfl⟩:=List.mem_map.1 hf
    split at hv
    · cases hv
    · cases h:a.fld i with
      | none => rw [h] at hv; cases hv
      | some gs => rw [h] at hv; exact GnA.vok_rng (ok.vf i gs v h hv)
  · rcases List.mem_append.1 hv with hv | hv
    · exact GnA.vok_rng (ok.vr v hv)
    · obtain ⟨p,hp,rfl⟩:=List.mem_map.1 hv
      obtain ⟨fs,h1,h2,_⟩:=ok.mkv hp
      exact GnA.vok_rng (ok.vf p.1 fs _ h1 h2)
theorem GnOk.gv {a:GnA} (ok:GnOk a):(∀ fs ∈ a.gs,ValsOk a.gs.length fs) ∧ ValsOk a.gs.length a.regs:=by
  rw [a.gs_len]
  refine ⟨fun fs hf v hv => ?_,fun v hv => GnA.vok_rng (ok.vr v hv)⟩
  obtain ⟨o,ho,rfl⟩:=List.mem_map.1 hf
  cases o with
  | none => cases hv
  | some fs =>
    obtain ⟨i,hi⟩:=List.mem_iff_getElem?.1 ho
    exact GnA.vok_rng (ok.vf i fs v (GnA.fld_iff.2 hi) hv)
theorem val_eq {v:Val} {i:Nat} (h1:v.1=true) (h2:v.2=(i:Int)):v=(true,(i:Int)):=Prod.ext h1 h2
theorem GnOk.kept_reg {a:GnA} (ok:GnOk a) {v:Val} (hv:v ∈ a.regs) (h1:v.1=true):∃ (j:Nat) (fs:List Val),v.2=(j:Int) ∧ a.fld j=some fs ∧ a.kept j=true:=by
  obtain ⟨j,fs,e,hf⟩:=ok.vr v hv h1
  refine ⟨j,fs,e,hf,?_⟩
  unfold GnA.kept
  rw [Bool.or_eq_true,decide_eq_true_eq,mem_reachR ok.gvY.1 ok.gvY.2]
  exact .inr ⟨0,.root _ (List.mem_append_left _ (val_eq h1 e ▸ hv))⟩
theorem GnOk.kept_fld {a:GnA} (ok:GnOk a) {i:Nat} {fs:List Val} {v:Val} (hi:a.fld i=some fs) (hk:a.kept i=true) (hv:v ∈ fs) (h1:v.1=true):∃ (j:Nat) (gs:List Val),v.2=(j:Int) ∧ a.fld j=some gs ∧ a.kept j=true:=by
  obtain ⟨j,gs,e,hf⟩:=ok.vf i fs v hi hv h1
  refine ⟨j,gs,e,hf,?_⟩
  have hv2:=val_eq h1 e
  subst hv2
  unfold GnA.kept at hk ⊢
  rw [Bool.or_eq_true,decide_eq_true_eq,mem_reachR ok.gvY.1 ok.gvY.2] at hk ⊢
  cases hj:a.od j with
  | true => exact .inl rfl
  | false =>
    right
    cases hoi:a.od i with
    | true =>
      obtain ⟨k,hk2⟩:=List.mem_iff_getElem?.1 hv
      have hm:=ok.rm i fs k j hi hoi hk2 hj
      refine ⟨0,.root _ (List.mem_append_right _ (List.mem_map.2 ⟨(i,k),hm,?_⟩))⟩
      rw [hi,Option.getD_some,List.getD_eq_getElem?_getD,hk2]; rfl
    | false =>
      obtain ⟨n,hn⟩:=hk.resolve_left (by rw [hoi]; simp)
      refine ⟨n + 1,.step n _ _ hn ?_⟩
      rw [a.gsY_get,hoi,if_neg (by simp),hi]
      exact hv
theorem GnOk.lives_reg {a:GnA} (ok:GnOk a) {v:Val} (hv:v ∈ a.regs) (h1:v.1=true):∃ (j:Nat) (fs:List Val),v.2=(j:Int) ∧ a.fld j=some fs ∧ a.lives j=true:=by
  obtain ⟨j,fs,e,hf⟩:=ok.vr v hv h1
  refine ⟨j,fs,e,hf,?_⟩
  unfold GnA.lives
  rw [decide_eq_true_eq,mem_reachR ok.gv.1 ok.gv.2]
  exact ⟨0,.root _ (val_eq h1 e ▸ hv)⟩
theorem GnOk.lives_fld {a:GnA} (ok:GnOk a) {i:Nat} {fs:List Val} {v:Val} (hi:a.fld i=some fs) (hk:a.lives i=true) (hv:v ∈ fs) (h1:v.1=true):∃ (j:Nat) (gs:List Val),v.2=(j:Int) ∧ a.fld j=some gs ∧ a.lives j=true:=by
  obtain ⟨j,gs,e,hf⟩:=ok.vf i fs v hi hv h1
  refine ⟨j,gs,e,hf,?_⟩
  have hv2:=val_eq h1 e
  subst hv2
  unfold GnA.lives at hk ⊢
  rw [decide_eq_true_eq,mem_reachR ok.gv.1 ok.gv.2] at hk ⊢
  obtain ⟨n,hn⟩:=hk
  refine ⟨n + 1,.step n _ _ hn ?_⟩
  rw [a.gs_get,hi]
  exact hv
theorem dropK_fld {a:GnA} {K:Nat → Bool} {old:List Bool} {mk:List Gp} {i:Nat} {fs:List Val}:(⟨a.regs,dropK K a.objs,old,mk⟩:GnA).fld i=some fs ↔ a.fld i=some fs ∧ K i=true:=by
  rw [GnA.fld_iff,GnA.fld_iff]
  exact dropK_get K a.objs i fs
theorem GnOk.drop {a:GnA} (ok:GnOk a) {K O:Nat → Bool} (h1:∀ v ∈ a.regs,v.1=true → ∃ (j:Nat) (fs:List Val),v.2=(j:Int) ∧ a.fld j=some fs ∧ K j=true)
    (h2:∀ i fs v,a.fld i=some fs → K i=true → v ∈ fs → v.1=true → ∃ (j:Nat) (gs:List Val),v.2=(j:Int) ∧ a.fld j=some gs ∧ K j=true) (h3:∀ i fs,a.fld i=some fs → K i=true → O i=true) :
    GnOk ⟨a.regs,dropK K a.objs,(List.range a.objs.length).map O,[]⟩:=by
  refine ⟨ok.r8,by rw [List.length_map,List.length_range]; exact (dropK_len K a.objs).symm,fun v hv hv1 => ?_,fun i fs v hf hv hv1 => ?_,fun i fs hf => ok.f4 i fs (dropK_fld.1 hf).1,fun p hp => by (cases hp),.nil,fun i fs k j hf ho hk hj => ?_⟩
  · obtain ⟨j,gs,e,hg,hk⟩:=h1 v hv hv1
    exact ⟨j,gs,e,dropK_fld.2 ⟨hg,hk⟩⟩
  · obtain ⟨hf,hki⟩:=dropK_fld.1 hf
    obtain ⟨j,gs,e,hg,hk⟩:=h2 i fs v hf hki hv hv1
    exact ⟨j,gs,e,dropK_fld.2 ⟨hg,hk⟩⟩
  · obtain ⟨hf,hki⟩:=dropK_fld.1 hf
    obtain ⟨j',gs,e,hg,hk2⟩:=h2 i fs _ hf hki (List.mem_of_getElem? hk) rfl
    dsimp only at e
    obtain rfl:j=j':=by omega
    have h5:((List.range a.objs.length).map O).getD j false=O j:=GnA.od_range O _ j (GnA.fld_lt hg)
    have h6:((List.range a.objs.length).map O).getD j false=false:=hj
    rw [h5,h3 j gs hg hk2] at h6
    cases h6
theorem GnOk.minor {a:GnA} (ok:GnOk a):GnOk a.minor:=ok.drop (fun _ hv h1 => ok.kept_reg hv h1) (fun _ _ _ hi hk hv h1 => ok.kept_fld hi hk hv h1) (fun _ _ _ hk => hk)
theorem GnOk.major {a:GnA} (ok:GnOk a):GnOk a.major:=ok.drop (fun _ hv h1 => ok.lives_reg hv h1) (fun _ _ _ hi hk hv h1 => ok.lives_fld hi hk hv h1) (fun i fs hf _ => by rw [hf]; simp)
theorem GnOk.sr {a:GnA} (ok:GnOk a) (r:Nat) {v:Val} (hv:a.vok v):GnOk (a.sr r v) :=
  ⟨by show (a.regs.set r v).length=8; rw [List.length_set]; exact ok.r8,ok.ol,fun u hu => by
    rcases mem_set_ (show u ∈ a.regs.set r v from hu) with h | rfl
    · exact ok.vr u h
    · exact hv,ok.vf,ok.f4,ok.mo,ok.ms,ok.rm⟩
theorem GnOk.rg {a:GnA} (ok:GnOk a) (r:Int):a.vok (rgA a.regs r):=by
  unfold rgA
  rcases getD_mem_or a.regs r.toNat (false,0) with h2 | h2
  · exact ok.vr _ h2
  · rw [h2]; intro h1; cases h1
theorem gnPut_fld {a:GnA} {i k:Nat} {fs:List Val} (v:Val) (hf:a.fld i=some fs) (j:Nat) (gs:List Val):(gnPut a i k v).fld j=some gs ↔ (j=i ∧ gs=fs.set k v) ∨ (j ≠ i ∧ a.fld j=some gs):=by
  rw [GnA.fld_iff,GnA.fld_iff]
  show (a.objs.set i _)[j]?=_ ↔ _
  rw [List.getElem?_set,hf]
  have hl:=GnA.fld_lt hf
  by_cases e:i=j
  · subst e
    rw [if_pos rfl,if_pos hl]
    simp [eq_comm]
  · rw [if_neg e]
    constructor
    · exact fun h => .inr ⟨fun h1 => e h1.symm,h⟩
    · rintro (⟨h1,_⟩ | ⟨_,h⟩)
      · exact absurd h1.symm e
      · exact h
theorem GnOk.put {a:GnA} (ok:GnOk a) {i k:Nat} {fs:List Val} {v:Val} (hf:a.fld i=some fs) (hk:k < fs.length) (hv:a.vok v):GnOk (gnPut a i k v):=by
  have hvo:∀ u,a.vok u → (gnPut a i k v).vok u:=fun u h h1 => by
    obtain ⟨j,gs,e,hg⟩:=h h1
    by_cases ej:j=i
    · exact ⟨j,_,e,(gnPut_fld v hf j _).2 (.inl ⟨ej,rfl⟩)⟩
    · exact ⟨j,gs,e,(gnPut_fld v hf j gs).2 (.inr ⟨ej,hg⟩)⟩
  have hmk:∀ p,p ∈ (gnPut a i k v).mks → (p=(i,k) ∧ a.od i=true) ∨ p ∈ a.mks:=fun p hp => by
    unfold gnPut at hp
    dsimp only at hp
    split at hp
    · rename_i hc
      simp only [Bool.and_eq_true] at hc
      rcases mem_insF.1 hp with h | h
      · exact .inl ⟨h,hc.1.1⟩
      · exact .inr h
    · exact .inr hp
  have hmk2:∀ p,p ∈ a.mks → p ∈ (gnPut a i k v).mks:=fun p hp => by
    unfold gnPut
    dsimp only
    split
    · exact mem_insF.2 (.inr hp)
    · exact hp
  refine ⟨ok.r8,?_,fun u hu => hvo u (ok.vr u hu),?_,?_,fun p hp => ?_,?_,?_⟩
  · show a.old.length=(a.objs.set i _).length
    rw [List.length_set]; exact ok.ol
  · intro j gs u hg hu
    rcases (gnPut_fld v hf j gs).1 hg with ⟨rfl,rfl⟩ | ⟨_,h2⟩
    · rcases mem_set_ hu with h3 | rfl
      · exact hvo u (ok.vf j fs u hf h3)
      · exact hvo u hv
    · exact hvo u (ok.vf j gs u h2 hu)
  · intro j gs hg
    rcases (gnPut_fld v hf j gs).1 hg with ⟨rfl,rfl⟩ | ⟨_,h2⟩
    · rw [List.length_set]; exact ok.f4 j fs hf
    · exact ok.f4 j gs h2
  · have key:a.od p.1=true ∧ ∃ gs,a.fld p.1=some gs ∧ p.2 < gs.length:=by
      rcases hmk p hp with ⟨rfl,ho⟩ | h
      · exact ⟨ho,fs,hf,hk⟩
      · exact ok.mo p h
    obtain ⟨k1,gs,k2,k3⟩:=key
    refine ⟨k1,?_⟩
    by_cases e:p.1=i
    · rw [e] at k2
      rw [hf] at k2
      injection k2 with k2
      subst k2
      exact ⟨_,(gnPut_fld v hf p.1 _).2 (.inl ⟨e,rfl⟩),by rw [List.length_set]; exact k3⟩
    · exact ⟨gs,(gnPut_fld v hf p.1 gs).2 (.inr ⟨e,k2⟩),k3⟩
  · unfold gnPut
    dsimp only
    split
    · exact insF_sorted ok.ms
    · exact ok.ms
  · intro j gs m q hg ho hq hqo
    have ho':a.od j=true:=ho
    have hqo':a.od q=false:=hqo
    rcases (gnPut_fld v hf j gs).1 hg with ⟨rfl,rfl⟩ | ⟨_,h2⟩
    · rw [List.getElem?_set] at hq
      by_cases e:k=m
      · subst e
        rw [if_pos rfl,if_pos hk] at hq
        injection hq with hq
        subst hq
        unfold gnPut
        dsimp only
        rw [Int.toNat_natCast,ho',hqo']
        exact mem_insF.2 (.inl rfl)
      · rw [if_neg e] at hq
        exact hmk2 _ (ok.rm j fs m q hf ho' hq hqo')
    · exact hmk2 _ (ok.rm j gs m q h2 ho' hq hqo')
theorem GnA.push_fld (a:GnA) (n i:Nat) (fs:List Val):(a.push n).fld i=some fs ↔ a.fld i=some fs ∨ (i=a.objs.length ∧ fs=zeroVs n):=by
  rw [GnA.fld_iff,GnA.fld_iff]
  show (a.objs ++ [some (zeroVs n)])[i]?=_ ↔ _
  by_cases h:i < a.objs.length
  · rw [List.getElem?_append_left h]
    exact ⟨.inl,fun h1 => h1.elim id fun h2 => by omega⟩
  · rw [List.getElem?_append_right (by omega),List.getElem?_eq_none (l:=a.objs) (by omega)]
    by_cases e:i=a.objs.length
    · subst e; simp [eq_comm]
    · rw [List.getElem?_eq_none (by simp only [List.length_singleton]; omega)]
      simp [e]
theorem GnOk.push_od {a:GnA} (ok:GnOk a) (n i:Nat) (h:i < a.objs.length):(a.push n).od i=a.od i:=by
  show (a.old ++ [false]).getD i false=a.old.getD i false
  rw [List.getD_eq_getElem?_getD,List.getD_eq_getElem?_getD,List.getElem?_append_left (by rw [ok.ol]; exact h)]
theorem GnOk.push_od_new {a:GnA} (ok:GnOk a) (n:Nat):(a.push n).od a.objs.length=false:=by
  show (a.old ++ [false]).getD _ false=false
  rw [List.getD_eq_getElem?_getD,← ok.ol]
  simp
theorem GnOk.push {a:GnA} (ok:GnOk a) {n:Nat} (h4:n ≤ 4):GnOk (a.push n) ∧ (a.push n).vok (true,(a.objs.length:Int)):=by
  have hvo:∀ u,a.vok u → (a.push n).vok u:=fun u h h1 => by
    obtain ⟨j,gs,e,hg⟩:=h h1
    exact ⟨j,gs,e,(a.push_fld n j gs).2 (.inl hg)⟩
  refine ⟨⟨ok.r8,by show (a.old ++ [false]).length=(a.objs ++ [_]).length; simp [ok.ol],fun u hu => hvo u (ok.vr u hu),?_,?_,fun p hp => ?_,ok.ms,?_⟩,fun _ => ⟨_,_,rfl,(a.push_fld n _ _).2 (.inr ⟨rfl,rfl⟩)⟩⟩
  · intro j gs u hg hu
    rcases (a.push_fld n j gs).1 hg with h | ⟨_,rfl⟩
    · exact hvo u (ok.vf j gs u h hu)
    · obtain ⟨_,rfl⟩:=List.mem_replicate.1 hu
      intro h1; cases h1
  · intro j gs hg
    rcases (a.push_fld n j gs).1 hg with h | ⟨_,rfl⟩
    · exact ok.f4 j gs h
    · simp [zeroVs,h4]
  · obtain ⟨k1,gs,k2,k3⟩:=ok.mo p hp
    exact ⟨by rw [ok.push_od n p.1 (GnA.fld_lt k2)]; exact k1,gs,(a.push_fld n _ _).2 (.inl k2),k3⟩
  · intro j gs m q hg ho hq hqo
    rcases (a.push_fld n j gs).1 hg with h | ⟨_,rfl⟩
    · obtain ⟨q',_,e,hq'⟩:=ok.vf j gs _ h (List.mem_of_getElem? hq) rfl
      dsimp only at e
      obtain rfl:q=q':=by omega
      rw [ok.push_od n j (GnA.fld_lt h)] at ho
      rw [ok.push_od n q (GnA.fld_lt hq')] at hqo
      exact ok.rm j gs m q h ho hq hqo
    · have:=List.mem_of_getElem? hq
      obtain ⟨_,h⟩:=List.mem_replicate.1 this
      cases h
theorem GnOk.room {a:GnA} (ok:GnOk a) (room:Nat):GnOk (gnRoom room a):=by
  unfold gnRoom
  split
  · exact ok.minor
  · exact ok
theorem gnRoom_len (room:Nat) (a:GnA):(gnRoom room a).objs.length=a.objs.length:=by
  unfold gnRoom
  split
  · exact dropK_len _ _
  · rfl
theorem GnOk.new_ {a:GnA} (ok:GnOk a) (room:Nat) {n:Nat} (h4:n ≤ 4):GnOk (gnNew room a n).1 ∧ ((gnNew room a n).2.2=0 → (gnNew room a n).1.vok (true,(gnNew room a n).2.1)):=by
  unfold gnNew
  split
  · exact ⟨ok.room room,fun h => absurd h (show ¬ (6:Int)=0 by decide)⟩
  · have h:=(ok.room room).push h4
    rw [gnRoom_len] at h
    exact ⟨h.1,fun _ => h.2⟩
end Go.Proofs.YtjphckfbbiehdaaGreat
