/- Part of a proof. -/
import Derived.Test.YtjphckfbbiehdaaGreatSTopAll10
import Derived.Test.YtjphckfbbiehdaaGreatSTopAll15
set_option linter.unusedSimpArgs false
set_option linter.unusedVariables false
namespace Go.Proofs.YtjphckfbbiehdaaGreat
open Go.RowKit
structure CrA where
  σ:MSt
  gone:List Bool
  gl:List Int
def ptsO (j:Nat) (objs:List (List Val)):Nat:=(objs.map (occ j)).sum
def pts (j:Nat) (σ:MSt):Nat:=occ j σ.regs + ptsO j σ.objs
def CrA.mark (t:CrA) (i:Nat):CrA:={ t with gone:=t.gone.set i true,gl:=t.gl ++ [(i:Int)] }
def CrA.zero (t:CrA) (i k:Nat):CrA:={ t with σ:=⟨t.σ.regs,t.σ.objs.set i ((obA t.σ.objs (i:Int)).set k (false,0))⟩ }
def loseW (G:CrA → Nat → CrA) (t:CrA) (v:Val):CrA:=if v.1=false ∨ 0 < pts v.2.toNat t.σ then t else G t v.2.toNat
def goesK (G:CrA → Nat → CrA) (i:Nat) (t:CrA) (k:Nat):CrA:=loseW G (t.zero i k) ((obA t.σ.objs (i:Int)).getD k (false,0))
def goesN:Nat → CrA → Nat → CrA
  | 0,t,_ => t
  | n + 1,t,i => (List.range' 0 (obA t.σ.objs (i:Int)).length).foldl (goesK (goesN n) i) (t.mark i)
def CrA.ng (t:CrA):Nat:=t.gone.countP fun g => !g
def CrA.lose (t:CrA) (v:Val):CrA:=loseW (goesN t.σ.objs.length) t v
theorem ptsO_set {j:Nat}:∀ {l:List (List Val)} {i:Nat} (x:List Val) {o:List Val},l[i]?=some o → ptsO j (l.set i x) + occ j o=ptsO j l + occ j x:=by
  intro l
  induction l with
  | nil => intro i x o h; cases h
  | cons p l ih =>
    intro i x o h
    unfold ptsO at ih ⊢
    cases i with
    | zero =>
      have h1:p=o:=by simpa using h
      subst h1
      rw [List.set_cons_zero,List.map_cons,List.map_cons,List.sum_cons,List.sum_cons]
      omega
    | succ i =>
      have h1:l[i]?=some o:=by simpa using h
      have h2:=ih x h1
      rw [List.set_cons_succ,List.map_cons,List.map_cons,List.sum_cons,List.sum_cons]
      omega
theorem ptsO_app (j:Nat) (l:List (List Val)) (fs:List Val):ptsO j (l ++ [fs])=ptsO j l + occ j fs:=by simp [ptsO]
theorem ptsO_mem {j:Nat} {l:List (List Val)} {i:Nat} {fs:List Val} (h:l[i]?=some fs):occ j fs ≤ ptsO j l:=by
  have h1:=ptsO_set (j:=j) [] h
  rw [occ_nil] at h1
  omega
theorem ob_at {l:List (List Val)} {i:Nat} (h:i < l.length):l[i]?=some (obA l (i:Int)):=by
  unfold obA
  rw [Int.toNat_natCast,List.getD_eq_getElem?_getD,List.getElem?_eq_getElem h]; rfl
structure CrOk (t:CrA):Prop where
  lg:t.gone.length=t.σ.objs.length
  m:MOk t.σ
  th:∀ j:Nat,t.gone[j]?=some true → pts j t.σ=0
structure CrKp (t u:CrA):Prop where
  r:u.σ.regs=t.σ.regs
  n:u.σ.objs.length=t.σ.objs.length
  m:u.ng ≤ t.ng
  g:∀ j:Nat,t.gone[j]?=some true → u.gone[j]?=some true ∧ obA u.σ.objs (j:Int)=obA t.σ.objs (j:Int)
theorem CrKp.refl (t:CrA):CrKp t t:=⟨rfl,rfl,Nat.le_refl _,fun _ h => ⟨h,rfl⟩⟩
structure SimC (a:CnA) (t:CrA):Prop where
  ob:a.objs=maskL t.σ.objs t.gone
  gl:a.gl=t.gl
  lc:a.cnt.length=t.σ.objs.length
  eq:∀ j:Nat,j < t.σ.objs.length → a.cnt.getD j 0=(pts j t.σ:Int)
theorem SimC.fld {a:CnA} {t:CrA} (h:SimC a t) (lg:t.gone.length=t.σ.objs.length) (i:Nat) (fs:List Val):a.fld i=some fs ↔ t.gone[i]?=some false ∧ obA t.σ.objs (i:Int)=fs:=by
  rw [CnA.fld_iff,h.ob,maskL_get _ _ lg]
  by_cases hi:i < t.σ.objs.length
  · rw [ob_at hi,Option.map_some,List.getD_eq_getElem?_getD]
    have hg:i < t.gone.length:=by omega
    rw [List.getElem?_eq_getElem hg,Option.getD_some]
    cases hx:t.gone[i] <;> simp
  · rw [List.getElem?_eq_none (by omega),List.getElem?_eq_none (l:=t.gone) (by omega)]
    simp
theorem ng_mark {t:CrA} {i:Nat} (h:t.gone[i]?=some false):(t.mark i).ng + 1=t.ng:=by
  have gen:∀ (l:List Bool) (i:Nat),l[i]?=some false → (l.set i true).countP (fun g => !g) + 1=l.countP (fun g => !g):=by
    intro l
    induction l with
    | nil => intro i h; cases h
    | cons b l ih =>
      intro i h
      cases i with
      | zero =>
        have h1:b=false:=by simpa using h
        subst h1
        rw [List.set_cons_zero,List.countP_cons,List.countP_cons]; simp
      | succ i =>
        have h1:=ih i (by simpa using h)
        rw [List.set_cons_succ,List.countP_cons,List.countP_cons]; omega
  exact gen _ _ h
theorem CrOk.mark {t:CrA} (ok:CrOk t) {i:Nat} (h0:pts i t.σ=0):CrOk (t.mark i) :=
  ⟨by show (t.gone.set i true).length=_; rw [List.length_set]; exact ok.lg,ok.m,fun j hj => by
    rw [show (t.mark i).gone=t.gone.set i true from rfl,List.getElem?_set] at hj
    split at hj
    · rename_i e; subst e; exact h0
    · exact ok.th j hj⟩
theorem CrKp.mark {t:CrA} {i:Nat} (h:t.gone[i]?=some false):CrKp t (t.mark i) :=
  ⟨rfl,rfl,by have:=ng_mark h; omega,fun j hj => ⟨by
    show (t.gone.set i true)[j]?=_
    rw [List.getElem?_set]
    split
    · rename_i e; subst e; rw [h] at hj; cases hj
    · exact hj,rfl⟩⟩
theorem SimC.mark {a:CnA} {t:CrA} (h:SimC a t) (lg:t.gone.length=t.σ.objs.length) (i:Nat):SimC (a.go1 i) (t.mark i) :=
  ⟨by show a.objs.set i none=maskL t.σ.objs (t.gone.set i true); rw [h.ob,maskL_drop _ _ lg],by show a.gl ++ _=t.gl ++ _; rw [h.gl],h.lc,h.eq⟩
theorem maskL_hid (objs:List (List Val)) (gone:List Bool) (h:gone.length=objs.length) (i:Nat) (hg:gone[i]?=some true) (fs:List Val):maskL (objs.set i fs) gone=maskL objs gone:=by
  refine List.ext_getElem? fun j => ?_
  rw [maskL_get _ _ (by rw [List.length_set]; exact h),List.getElem?_set,maskL_get _ _ h]
  by_cases e:i=j
  · subst e
    rw [if_pos rfl,List.getD_eq_getElem?_getD,hg]
    by_cases hl:i < objs.length
    · rw [if_pos hl,List.getElem?_eq_getElem hl]; rfl
    · rw [if_neg hl,List.getElem?_eq_none (by omega)]
  · rw [if_neg e]
theorem cr_zero {t:CrA} (ok:CrOk t) {i:Nat} (hg:t.gone[i]?=some true) {pre l:List Val} {v:Val} (hob:obA t.σ.objs (i:Int)=pre ++ v :: l) :
    CrOk (t.zero i pre.length) ∧ (∀ j,pts j (t.zero i pre.length).σ + (if refB j v=true then 1 else 0)=pts j t.σ) ∧ obA (t.zero i pre.length).σ.objs (i:Int)=pre ++ (false,0) :: l ∧
    (t.zero i pre.length).σ.objs.length=t.σ.objs.length ∧ (∀ j:Nat,j ≠ i → obA (t.zero i pre.length).σ.objs (j:Int)=obA t.σ.objs (j:Int)):=by
  have hi:i < t.σ.objs.length:=by rw [← ok.lg]; exact (List.getElem?_eq_some_iff.1 hg).1
  have hat:=ob_at hi
  have hset:(obA t.σ.objs (i:Int)).set pre.length (false,0)=pre ++ (false,0) :: l:=by rw [hob]; simp
  have hz:(t.zero i pre.length).σ=⟨t.σ.regs,t.σ.objs.set i (pre ++ (false,0) :: l)⟩:=by show (⟨_,t.σ.objs.set i _⟩:MSt)=_; rw [hset]
  have hp:∀ j,pts j (t.zero i pre.length).σ + (if refB j v=true then 1 else 0)=pts j t.σ:=fun j => by
    rw [hz]
    unfold pts
    have h1:=ptsO_set (j:=j) (pre ++ (false,0) :: l) hat
    rw [hob,occ_app,occ_app,occ_cons,occ_cons,show refB j (false,0)=false from rfl] at h1
    dsimp only
    rw [if_neg (show ¬ (false=true) by simp)] at h1
    omega
  have hlen:(t.zero i pre.length).σ.objs.length=t.σ.objs.length:=by rw [hz]; exact List.length_set ..
  refine ⟨⟨by rw [hlen]; exact ok.lg,?_,fun j hj => by have:=hp j; have:=ok.th j hj; omega⟩,hp,?_,hlen,fun j hj => ?_⟩
  · have hv:ValsOk t.σ.objs.length (pre ++ v :: l):=by
      have:=(ok.m.ob (i:Int)).1
      rwa [hob] at this
    have hv2:ValsOk t.σ.objs.length (pre ++ (false,0) :: l):=fun u hu h1 => by
      rcases List.mem_append.1 hu with h2 | h2
      · exact hv u (List.mem_append_left _ h2) h1
      · rcases List.mem_cons.1 h2 with rfl | h3
        · cases h1
        · exact hv u (List.mem_append_right _ (List.mem_cons_of_mem _ h3)) h1
    have h4:(pre ++ v :: l).length ≤ 4:=by
      have:=(ok.m.ob (i:Int)).2
      rwa [hob] at this
    rw [hz]
    refine ⟨ok.m.r8,?_,fun fs hf => ?_,fun fs hf => ?_⟩
    · dsimp only; rw [List.length_set]; exact ok.m.vr
    · dsimp only at hf ⊢
      rw [List.length_set]
      rcases mem_set_ hf with h1 | rfl
      · exact ok.m.vo fs h1
      · exact hv2
    · dsimp only at hf
      rcases mem_set_ hf with h1 | rfl
      · exact ok.m.f4 fs h1
      · simp only [List.length_append,List.length_cons] at h4 ⊢; exact h4
  · rw [hz]
    unfold obA
    dsimp only
    rw [Int.toNat_natCast,List.getD_eq_getElem?_getD,List.getElem?_set,if_pos rfl,if_pos hi]; rfl
  · rw [hz]
    unfold obA
    dsimp only
    rw [Int.toNat_natCast,List.getD_eq_getElem?_getD,List.getElem?_set,if_neg (fun e => hj e.symm),← List.getD_eq_getElem?_getD]
def CnA.decV (a:CnA) (v:Val):CnA:=if v.1=true then a.dec v else a
theorem decV_obj (a:CnA) (v:Val):(a.decV v).objs=a.objs ∧ (a.decV v).gl=a.gl ∧ (a.decV v).cnt.length=a.cnt.length ∧ (a.decV v).regs=a.regs:=by
  unfold CnA.decV
  split
  · exact ⟨rfl,rfl,List.length_set ..,rfl⟩
  · exact ⟨rfl,rfl,rfl,rfl⟩
theorem decV_cnt (a:CnA) {v:Val} (hv:v.1=true → ∃ z:Nat,v.2=(z:Int) ∧ z < a.cnt.length) (j:Nat):(a.decV v).cnt.getD j 0 + (if refB j v=true then 1 else 0)=a.cnt.getD j 0:=by
  unfold CnA.decV
  by_cases hb:v.1=true
  · rw [if_pos hb]
    obtain ⟨z,e,hz⟩:=hv hb
    unfold CnA.dec
    rw [e,Int.toNat_natCast,add_getD a z (-1) hz]
    have hr:refB j v=decide (j=z):=by unfold refB; rw [hb,e]; simp only [Bool.true_and]; exact decide_eq_decide.2 (by omega)
    rw [hr]
    by_cases ej:j=z
    · rw [if_pos ej,if_pos (by simp [ej])]; omega
    · rw [if_neg ej,if_neg (by simp [ej])]; omega
  · rw [if_neg hb,if_neg (by unfold refB; simp [show v.1=false by simpa using hb])]; omega
def GoesOk (D:CnA → Nat → CnA) (G:CrA → Nat → CrA) (n:Nat):Prop:=∀ (a:CnA) (t:CrA) (i:Nat),CrOk t → SimC a t → t.gone[i]?=some false → pts i t.σ=0 → t.ng ≤ n → CrOk (G t i) ∧ CrKp t (G t i) ∧ SimC (D a i) (G t i)
theorem lose_ok {D:CnA → Nat → CnA} {G:CrA → Nat → CrA} {n:Nat} (hG:GoesOk D G n) {a:CnA} {t:CrA} (ok:CrOk t) {v:Val} (hs:SimC (a.decV v) t) (hv:v.1=true → ∃ z:Nat,v.2=(z:Int) ∧ t.gone[z]?=some false) (hn:t.ng ≤ n) :
    CrOk (loseW G t v) ∧ CrKp t (loseW G t v) ∧ SimC (downW D a v) (loseW G t v):=by
  unfold loseW downW
  by_cases hb:v.1=false
  · rw [if_pos (.inl hb),if_pos hb]
    unfold CnA.decV at hs
    rw [if_neg (by rw [hb]; simp)] at hs
    exact ⟨ok,CrKp.refl t,hs⟩
  · rw [if_neg hb]
    have hb':v.1=true:=by simpa using hb
    unfold CnA.decV at hs
    rw [if_pos hb'] at hs
    obtain ⟨z,e,hz⟩:=hv hb'
    have hzl:z < t.σ.objs.length:=by rw [← ok.lg]; exact (List.getElem?_eq_some_iff.1 hz).1
    rw [e,Int.toNat_natCast]
    have h1:=hs.eq z hzl
    by_cases h0:0 < pts z t.σ
    · rw [if_pos (.inr h0),if_neg (by rw [h1]; omega)]
      exact ⟨ok,CrKp.refl t,hs⟩
    · rw [if_neg (fun h => h.elim hb h0),if_pos (by rw [h1]; omega)]
      exact hG _ t z ok hs hz (by omega) hn
theorem goes_loop {D:CnA → Nat → CnA} {G:CrA → Nat → CrA} {n:Nat} (hG:GoesOk D G n) {i:Nat}:∀ (l pre:List Val) {a:CnA} {t:CrA},CrOk t → SimC a t → t.gone[i]?=some true → obA t.σ.objs (i:Int)=pre ++ l → t.ng ≤ n →
    CrOk ((List.range' pre.length l.length).foldl (goesK G i) t) ∧ (((List.range' pre.length l.length).foldl (goesK G i) t).ng ≤ t.ng ∧ ((List.range' pre.length l.length).foldl (goesK G i) t).σ.regs=t.σ.regs ∧ ((List.range' pre.length l.length).foldl (goesK G i) t).σ.objs.length=t.σ.objs.length ∧
    ((List.range' pre.length l.length).foldl (goesK G i) t).gone[i]?=some true ∧ ∀ j:Nat,j ≠ i → t.gone[j]?=some true → ((List.range' pre.length l.length).foldl (goesK G i) t).gone[j]?=some true ∧ obA ((List.range' pre.length l.length).foldl (goesK G i) t).σ.objs (j:Int)=obA t.σ.objs (j:Int)) ∧
    SimC (l.foldl (downW D) a) ((List.range' pre.length l.length).foldl (goesK G i) t):=by
  intro l
  induction l with
  | nil => exact fun pre a t ok hs hg hob hn => ⟨ok,⟨Nat.le_refl _,rfl,rfl,hg,fun j _ hj => ⟨hj,rfl⟩⟩,hs⟩
  | cons v l ih =>
    intro pre a t ok hs hg hob hn
    obtain ⟨k1,k3,k4,k5,k6⟩:=cr_zero ok hg hob
    have hv:v.1=true → ∃ z:Nat,v.2=(z:Int) ∧ z < t.σ.objs.length:=fun hb => by
      have h1:=(ok.m.ob (i:Int)).1 v (by rw [hob]; simp) hb
      obtain ⟨z,hz⟩:=int_nat h1.1
      exact ⟨z,hz,by omega⟩
    have hv2:v.1=true → ∃ z:Nat,v.2=(z:Int) ∧ (t.zero i pre.length).gone[z]?=some false:=fun hb => by
      obtain ⟨z,e,hz⟩:=hv hb
      refine ⟨z,e,?_⟩
      have h1:=k3 z
      rw [if_pos (refB_self hb e)] at h1
      show t.gone[z]?=some false
      cases h2:t.gone[z]? with
      | none => rw [List.getElem?_eq_none_iff,ok.lg] at h2; omega
      | some b =>
        cases b
        · rfl
        · have:=ok.th z h2; omega
    have hs2:SimC (a.decV v) (t.zero i pre.length):=by
      obtain ⟨d1,d2,d3,_⟩:=decV_obj a v
      refine ⟨?_,d2.trans hs.gl,by rw [d3,k5]; exact hs.lc,fun j hj => ?_⟩
      · rw [d1,hs.ob]
        show _=maskL (t.σ.objs.set i _) t.gone
        rw [maskL_hid _ _ ok.lg _ hg]
      · have h1:=decV_cnt a (v:=v) (fun hb => by rw [hs.lc]; exact hv hb) j
        have h2:=k3 j
        rw [k5] at hj
        rw [hs.eq j hj] at h1
        split at h1
        · rename_i hr; rw [if_pos hr] at h2; omega
        · rename_i hr; rw [if_neg hr] at h2; omega
    obtain ⟨l1,l2,l3⟩:=lose_ok hG k1 hs2 hv2 hn
    have hbody:goesK G i t pre.length=loseW G (t.zero i pre.length) v:=by
      unfold goesK
      rw [hob]
      simp
    have hgi:=l2.g i hg
    rw [k4] at hgi
    obtain ⟨m1,⟨m2,m3,m4,m5,m6⟩,m7⟩:=ih (pre ++ [(false,0)]) l1 l3 hgi.1 (by rw [hgi.2]; simp) (Nat.le_trans l2.m hn)
    rw [List.length_append,List.length_singleton] at m1 m2 m3 m4 m5 m6 m7
    rw [List.length_cons,List.range'_succ,List.foldl_cons,List.foldl_cons,hbody]
    refine ⟨m1,⟨Nat.le_trans m2 l2.m,m3.trans l2.r,m4.trans (l2.n.trans k5),m5,fun j hj hjt => ?_⟩,m7⟩
    obtain ⟨p1,p2⟩:=l2.g j hjt
    obtain ⟨p3,p4⟩:=m6 j hj p1
    exact ⟨p3,p4.trans (p2.trans (k6 j hj))⟩
theorem goes_ok:∀ n,GoesOk (cdropN n) (goesN n) n:=by
  intro n
  induction n with
  | zero =>
    intro a t i ok hs hg h0 hn
    have:=ng_mark hg
    omega
  | succ n ih =>
    intro a t i ok hs hg h0 hn
    have h1:=ng_mark hg
    have hil:i < t.gone.length:=(List.getElem?_eq_some_iff.1 hg).1
    have hgm:(t.mark i).gone[i]?=some true:=by show (t.gone.set i true)[i]?=_; rw [List.getElem?_set,if_pos rfl,if_pos hil]
    have hf:=(hs.fld ok.lg i (obA t.σ.objs (i:Int))).2 ⟨hg,rfl⟩
    obtain ⟨m1,⟨m2,m3,m4,m5,m6⟩,m7⟩:=goes_loop ih (obA t.σ.objs (i:Int)) [] (ok.mark h0) (hs.mark ok.lg i) hgm rfl (by omega)
    unfold cdropN goesN
    rw [hf,Option.getD_some]
    refine ⟨m1,⟨m3,m4,Nat.le_trans m2 (by omega),fun j hj => ?_⟩,m7⟩
    have hne:j ≠ i:=by rintro rfl; rw [hg] at hj; cases hj
    exact m6 j hne ((CrKp.mark hg).g j hj).1
end Go.Proofs.YtjphckfbbiehdaaGreat

namespace Go.Proofs.YtjphckfbbiehdaaGreat
open Go.RowKit
def crOld (d:DoV) (σ:MSt):Val:=if d.k=1 ∨ d.k=2 ∨ d.k=3 ∨ d.k=5 then rgA σ.regs d.to else if d.k=4 then (obA σ.objs (rgA σ.regs d.to).2).getD d.at_.toNat (false,0) else (false,0)
def crErr (R:Int) (d:DoV) (t:CrA):Int:=if rWrong d t.σ=0 ∧ d.k=1 ∧ R ≤ (t.ng:Int) then 6 else rWrong d t.σ
def CrA.do_ (t:CrA) (d:DoV):CrA:=⟨(stepK d t.σ).2,goneD d t.gone,t.gl⟩
def crStep (R:Int) (d:DoV) (t:CrA):OutV × CrA:=if crErr R d t ≠ 0 then (⟨crErr R d t,false,0⟩,t) else ((stepK d t.σ).1,(t.do_ d).lose (crOld d t.σ))
structure CnSim (a:CnA) (t:CrA):Prop where
  s:SimC a t
  r:a.regs=t.σ.regs
  ok:CrOk t
theorem CnSim.n {a:CnA} {t:CrA} (h:CnSim a t):a.objs.length=t.σ.objs.length:=by rw [h.s.ob,maskL_len _ _ h.ok.lg]
theorem CnSim.num {a:CnA} {t:CrA} (h:CnSim a t):a.num=t.ng:=by
  unfold CnA.num CrA.ng
  rw [h.s.ob]
  have gen:∀ (objs:List (List Val)) (gone:List Bool),gone.length=objs.length → someN (maskL objs gone)=gone.countP fun g => !g:=by
    intro objs
    induction objs with
    | nil => intro gone hl; rw [List.eq_nil_of_length_eq_zero hl]; rfl
    | cons o objs ih =>
      intro gone hl
      cases gone with
      | nil => cases hl
      | cons g gone =>
        have h1:=ih gone (by simpa using hl)
        unfold someN maskL at h1 ⊢
        rw [List.zipWith_cons_cons,List.filter_cons,List.countP_cons]
        cases g
        · simp [h1]
        · simp [h1]
  exact gen _ _ h.ok.lg
theorem CnSim.there {a:CnA} {t:CrA} (h:CnSim a t) {v:Val} (hv:a.vok v):v.1=true → ∃ z:Nat,v.2=(z:Int) ∧ t.gone[z]?=some false:=fun hb => by
  obtain ⟨z,fs,e,hf⟩:=hv hb
  exact ⟨z,e,((h.s.fld h.ok.lg z fs).1 hf).1⟩
theorem up_cnt (a:CnA) {v:Val} (hv:v.1=true → ∃ z:Nat,v.2=(z:Int) ∧ z < a.cnt.length) (j:Nat):(a.up v).cnt.getD j 0=a.cnt.getD j 0 + (if refB j v=true then 1 else 0) ∧ (a.up v).cnt.length=a.cnt.length ∧ (a.up v).gl=a.gl:=by
  unfold CnA.up
  by_cases hb:v.1=true
  · rw [if_pos hb]
    obtain ⟨z,e,hz⟩:=hv hb
    rw [e,Int.toNat_natCast,add_getD a z 1 hz]
    have hr:refB j v=decide (j=z):=by unfold refB; rw [hb,e]; simp only [Bool.true_and]; exact decide_eq_decide.2 (by omega)
    rw [hr]
    refine ⟨?_,List.length_set ..,rfl⟩
    by_cases ej:j=z
    · rw [if_pos ej,if_pos (by simp [ej])]
    · rw [if_neg ej,if_neg (by simp [ej])]
  · rw [if_neg hb,if_neg (by unfold refB; simp [show v.1=false by simpa using hb])]
    exact ⟨by omega,rfl,rfl⟩
theorem CnSim.rep {a:CnA} {t:CrA} (h:CnSim a t) {u v:Val} {σ':MSt} {b:CnA} (hm:MOk σ') (hl:σ'.objs.length=t.σ.objs.length)
    (hp:∀ j,pts j σ' + (if refB j u=true then 1 else 0)=pts j t.σ + (if refB j v=true then 1 else 0))
    (hv:v.1=true → ∃ z:Nat,v.2=(z:Int) ∧ t.gone[z]?=some false) (hu:u.1=true → ∃ z:Nat,u.2=(z:Int) ∧ z < t.σ.objs.length ∧ 1 ≤ pts z t.σ)
    (hb:b.objs=maskL σ'.objs t.gone) (hgl:b.gl=t.gl) (hc:b.cnt=(a.up v).cnt) :
    CrOk ((⟨σ',t.gone,t.gl⟩:CrA).lose u) ∧ CrKp ⟨σ',t.gone,t.gl⟩ ((⟨σ',t.gone,t.gl⟩:CrA).lose u) ∧ SimC (b.down u) ((⟨σ',t.gone,t.gl⟩:CrA).lose u):=by
  have hlg:t.gone.length=σ'.objs.length:=by rw [hl]; exact h.ok.lg
  have hvl:v.1=true → ∃ z:Nat,v.2=(z:Int) ∧ z < a.cnt.length:=fun hb => by
    obtain ⟨z,e,hz⟩:=hv hb
    have:=(List.getElem?_eq_some_iff.1 hz).1
    exact ⟨z,e,by rw [h.s.lc,← h.ok.lg]; exact this⟩
  have hup:=up_cnt a hvl
  have hcl:b.cnt.length=σ'.objs.length:=by rw [hc,(hup 0).2.1,h.s.lc,hl]
  have hul:u.1=true → ∃ z:Nat,u.2=(z:Int) ∧ z < b.cnt.length:=fun hb => by
    obtain ⟨z,e,hz,_⟩:=hu hb
    exact ⟨z,e,by rw [hcl,hl]; exact hz⟩
  have hok:CrOk ⟨σ',t.gone,t.gl⟩:=⟨hlg,hm,fun j hj => by
    have h1:=hp j
    have h2:=h.ok.th j hj
    by_cases hr:refB j v=true
    · obtain ⟨e1,e2⟩:=refB_eq hr
      obtain ⟨z,e3,hz⟩:=hv e1
      have:z=j:=by omega
      subst this
      rw [show t.gone[z]?=some true from hj] at hz
      cases hz
    · rw [if_neg hr] at h1
      show pts j σ'=0
      omega⟩
  have hs:SimC (b.decV u) ⟨σ',t.gone,t.gl⟩:=by
    obtain ⟨d1,d2,d3,_⟩:=decV_obj b u
    refine ⟨d1.trans hb,d2.trans hgl,d3.trans hcl,fun j hj => ?_⟩
    have h1:=decV_cnt b hul j
    have h2:=hp j
    have h3:=(hup j).1
    have h4:=h.s.eq j (by rw [← hl]; exact hj)
    rw [hc] at h1
    show _=(pts j σ':Int)
    have e1:(if refB j u=true then (1:Int) else 0)=((if refB j u=true then 1 else 0:Nat):Int):=by split <;> rfl
    have e2:(if refB j v=true then (1:Int) else 0)=((if refB j v=true then 1 else 0:Nat):Int):=by split <;> rfl
    rw [e1] at h1
    rw [e2] at h3
    omega
  have hbl:b.objs.length=σ'.objs.length:=by rw [hb,maskL_len _ _ hlg]
  have hng:(⟨σ',t.gone,t.gl⟩:CrA).ng ≤ σ'.objs.length:=by
    have:t.gone.countP (fun g => !g) ≤ t.gone.length:=List.countP_le_length
    show t.gone.countP _ ≤ _
    omega
  have:=lose_ok (goes_ok σ'.objs.length) hok hs (fun hb => by
    obtain ⟨z,e,hz,h1⟩:=hu hb
    refine ⟨z,e,?_⟩
    show t.gone[z]?=some false
    cases h2:t.gone[z]? with
    | none => rw [List.getElem?_eq_none_iff,h.ok.lg] at h2; omega
    | some b =>
      cases b
      · rfl
      · have:=h.ok.th z h2; omega) hng
  unfold CnA.down
  rw [hbl]
  exact this
theorem downW_regs {D:CnA → Nat → CnA} (hD:∀ a i,(D a i).regs=a.regs) (a:CnA) (v:Val):(downW D a v).regs=a.regs:=by
  unfold downW
  split
  · rfl
  · split
    · rw [hD]; rfl
    · rfl
theorem cdropN_regs:∀ n a i,(cdropN n a i).regs=a.regs:=by
  intro n
  induction n with
  | zero => exact fun _ _ => rfl
  | succ n ih =>
    intro a i
    unfold cdropN
    have gen:∀ (l:List Val) (b:CnA),(l.foldl (downW (cdropN n)) b).regs=b.regs:=by
      intro l
      induction l with
      | nil => exact fun _ => rfl
      | cons v l ih2 => intro b; rw [List.foldl_cons,ih2,downW_regs ih]
    rw [gen]; rfl
theorem down_regs (a:CnA) (v:Val):(a.down v).regs=a.regs:=downW_regs (cdropN_regs _) a v
theorem mok_pos {σ:MSt} {v:Val} {l:List Val} (hl:ValsOk σ.objs.length l) (hv:v ∈ l) (hle:∀ j,occ j l ≤ pts j σ):v.1=true → ∃ z:Nat,v.2=(z:Int) ∧ z < σ.objs.length ∧ 1 ≤ pts z σ:=fun hb => by
  have h1:=hl v hv hb
  obtain ⟨z,e⟩:=int_nat h1.1
  exact ⟨z,e,by omega,Nat.le_trans (occ_mem hv (refB_self hb e)) (hle z)⟩
theorem MOk.pos_reg {σ:MSt} (h:MOk σ) {r:Nat} (hr:r < 8):(rgA σ.regs (r:Int)).1=true → ∃ z:Nat,(rgA σ.regs (r:Int)).2=(z:Int) ∧ z < σ.objs.length ∧ 1 ≤ pts z σ :=
  mok_pos h.vr (List.mem_of_getElem? (rgA_at (by rw [h.r8]; exact hr))) fun j => by unfold pts; omega
theorem CnSim.reg {a:CnA} {t:CrA} (h:CnSim a t) {r:Nat} (hr:r < 8) {v:Val} (hv:a.vok v) :
    CnSim (a.sh r v) ((⟨⟨t.σ.regs.set r v,t.σ.objs⟩,t.gone,t.gl⟩:CrA).lose (rgA t.σ.regs (r:Int))):=by
  have hvt:=h.there hv
  have h8:=h.ok.m.r8
  have hm:MOk ⟨t.σ.regs.set r v,t.σ.objs⟩:=⟨by dsimp only; rw [List.length_set]; exact h8,valsOk_set h.ok.m.vr _ (fun hb => by
    obtain ⟨z,e,hz⟩:=hvt hb
    have:=(List.getElem?_eq_some_iff.1 hz).1
    have:=h.ok.lg
    omega),h.ok.m.vo,h.ok.m.f4⟩
  obtain ⟨k1,k2,k3⟩:=h.rep (u:=rgA t.σ.regs (r:Int)) (v:=v) (σ':=⟨t.σ.regs.set r v,t.σ.objs⟩) (b:=a.up v) hm rfl (fun j => by
    have:=occ_set (j:=j) v (rgA_at (l:=t.σ.regs) (r:=r) (by omega))
    unfold pts
    dsimp only
    omega) hvt (h.ok.m.pos_reg hr) (by rw [up_objs]; exact h.s.ob) (by unfold CnA.up; split <;> exact h.s.gl) rfl
  have e:a.sh r v=((a.up v).down (rgA t.σ.regs (r:Int))).sr r v:=by unfold CnA.sh CnA.hold; rw [h.r]
  refine ⟨?_,?_,k1⟩
  · rw [e]; exact ⟨k3.ob,k3.gl,k3.lc,k3.eq⟩
  · rw [e,k2.r]
    show ((a.up v).down _).regs.set r v=_
    rw [down_regs,up_regs,h.r]
theorem pts_out {σ:MSt} (h:MOk σ) {j:Nat} (hj:σ.objs.length ≤ j):pts j σ=0:=by
  have hz:∀ l:List Val,ValsOk σ.objs.length l → occ j l=0:=fun l hl => by
    unfold occ
    rw [List.countP_eq_zero]
    intro v hv hb
    obtain ⟨h1,h2⟩:=refB_eq hb
    have:=hl v hv h1
    omega
  have gen:∀ l:List (List Val),(∀ fs ∈ l,occ j fs=0) → ptsO j l=0:=by
    intro l
    induction l with
    | nil => exact fun _ => rfl
    | cons x l ih =>
      intro hx
      have h1:=ih fun fs hf => hx fs (List.mem_cons_of_mem _ hf)
      have h2:=hx x (List.mem_cons_self ..)
      unfold ptsO at h1 ⊢
      rw [List.map_cons,List.sum_cons,h1,h2]
  unfold pts
  rw [hz _ h.vr,gen _ fun fs hf => hz _ (h.vo fs hf)]
theorem CnSim.push {a:CnA} {t:CrA} (h:CnSim a t) {n:Nat} (h4:n ≤ 4):CnSim (a.push n) ⟨⟨t.σ.regs,t.σ.objs ++ [zeroVs n]⟩,t.gone ++ [false],t.gl⟩:=by
  have hp:∀ j,pts j ⟨t.σ.regs,t.σ.objs ++ [zeroVs n]⟩=pts j t.σ:=fun j => by
    unfold pts
    dsimp only
    rw [ptsO_app,occ_zeros]; rfl
  have hm:MOk ⟨t.σ.regs,t.σ.objs ++ [zeroVs n]⟩:=by
    refine ⟨h.ok.m.r8,?_,fun fs hf => ?_,fun fs hf => ?_⟩
    · dsimp only
      rw [List.length_append,List.length_singleton]
      exact valsOk_mono h.ok.m.vr (by omega)
    · dsimp only at hf ⊢
      rw [List.length_append,List.length_singleton]
      rcases List.mem_append.1 hf with h1 | h1
      · exact valsOk_mono (h.ok.m.vo fs h1) (by omega)
      · rw [List.mem_singleton.1 h1]; exact zeroVs_ok _ _
    · rcases List.mem_append.1 hf with h1 | h1
      · exact h.ok.m.f4 fs h1
      · rw [List.mem_singleton.1 h1]; simp only [zeroVs,List.length_replicate]; exact h4
  refine ⟨⟨?_,h.s.gl,?_,fun j hj => ?_⟩,h.r,⟨?_,hm,fun j hj => ?_⟩⟩
  · show a.objs ++ _=maskL (t.σ.objs ++ _) (t.gone ++ [false])
    rw [h.s.ob,maskL_app _ _ h.ok.lg]
  · show (a.cnt ++ [0]).length=(t.σ.objs ++ [_]).length
    rw [List.length_append,List.length_append,h.s.lc]; rfl
  · rw [show (⟨⟨t.σ.regs,t.σ.objs ++ [zeroVs n]⟩,t.gone ++ [false],t.gl⟩:CrA).σ=⟨t.σ.regs,t.σ.objs ++ [zeroVs n]⟩ from rfl,hp]
    show (a.cnt ++ [0]).getD j 0=_
    rw [List.getD_eq_getElem?_getD]
    by_cases hj2:j < t.σ.objs.length
    · rw [List.getElem?_append_left (by rw [h.s.lc]; exact hj2),← List.getD_eq_getElem?_getD,h.s.eq j hj2]
    · rw [List.getElem?_append_right (by rw [h.s.lc]; omega),pts_out h.ok.m (by omega)]
      cases h2:([0]:List Int)[j - a.cnt.length]? with
      | none => rfl
      | some x =>
        have:=List.mem_of_getElem? h2
        rw [List.mem_singleton.1 this]; rfl
  · show (t.gone ++ [false]).length=(t.σ.objs ++ [_]).length
    rw [List.length_append,List.length_append,h.ok.lg]; rfl
  · rw [show (⟨⟨t.σ.regs,t.σ.objs ++ [zeroVs n]⟩,t.gone ++ [false],t.gl⟩:CrA).σ=⟨t.σ.regs,t.σ.objs ++ [zeroVs n]⟩ from rfl,hp]
    have hj':(t.gone ++ [false])[j]?=some true:=hj
    by_cases hj2:j < t.gone.length
    · rw [List.getElem?_append_left hj2] at hj'
      exact h.ok.th j hj'
    · rw [List.getElem?_append_right (by omega)] at hj'
      have:=List.mem_of_getElem? hj'
      simp at this
theorem CnSim.ob {a:CnA} {t:CrA} (h:CnSim a t) {i:Nat} {fs:List Val} (hf:a.fld i=some fs):obA t.σ.objs (i:Int)=fs:=((h.s.fld h.ok.lg i fs).1 hf).2
theorem CnSim.err {a:CnA} {t:CrA} (h:CnSim a t) (ok:CnOk a) (r at_:Int):cnErr a (rgA a.regs r) at_=fErr t.σ.objs (rgA t.σ.regs r) at_:=by
  rw [← h.r]
  unfold cnErr fErr
  by_cases hb:(rgA a.regs r).1=false
  · rw [if_pos hb,if_pos hb]
  · rw [if_neg hb,if_neg hb]
    obtain ⟨i,fs,e,hf⟩:=ok.rg r (by simpa using hb)
    rw [e,h.ob hf,Int.toNat_natCast,hf]
    rfl
theorem lose_no (t:CrA):t.lose (false,0)=t:=by unfold CrA.lose loseW; rw [if_pos (.inl rfl)]
theorem CnSim.step {a:CnA} {t:CrA} (h:CnSim a t) (ok:CnOk a) (R:Int) (d:DoV):(cnDo R d a).1=(crStep R d t).1 ∧ CnSim (cnDo R d a).2 (crStep R d t).2:=by
  unfold cnDo crStep
  by_cases hw:wrongM d ≠ 0
  · have e1:rWrong d t.σ=wrongM d:=by unfold rWrong; rw [if_pos hw]
    have e2:crErr R d t=wrongM d:=by unfold crErr; rw [e1,if_neg (fun h => hw h.1)]
    rw [if_pos hw,e2,if_pos hw]
    exact ⟨rfl,h⟩
  rw [if_neg hw]
  have hw0:wrongM d=0:=by omega
  have hto:d.k ≠ 7 → ∃ r:Nat,d.to=(r:Int) ∧ r < 8:=fun h => by
    have h1:=wrongM_to hw0 h
    obtain ⟨r,e⟩:=int_nat h1.1
    exact ⟨r,e,by omega⟩
  unfold cnKst
  by_cases h1:d.k=1
  · rw [if_pos h1]
    obtain ⟨r,er,hr⟩:=hto (by omega)
    have h4:=wrongM_n hw0 h1
    obtain ⟨n,en⟩:=int_nat h4.1
    have e1:rWrong d t.σ=0:=by unfold rWrong; rw [if_neg hw,if_neg (by omega),if_neg (by omega)]
    unfold crErr cnNew
    rw [e1,h.num,en,Int.toNat_natCast]
    by_cases hR:R ≤ (t.ng:Int)
    · have ec:(if (0:Int)=0 ∧ d.k=1 ∧ R ≤ (t.ng:Int) then (6:Int) else 0)=6:=if_pos ⟨rfl,h1,hR⟩
      rw [if_pos hR,ec]
      exact ⟨rfl,h⟩
    · have ec:(if (0:Int)=0 ∧ d.k=1 ∧ R ≤ (t.ng:Int) then (6:Int) else 0)=0:=if_neg (fun h => hR h.2.2)
      rw [if_neg hR,ec,if_neg (fun h => h rfl),if_neg (fun h => h rfl)]
      have hk:stepK d t.σ=(⟨0,false,0⟩,⟨t.σ.regs.set r (true,t.σ.objs.length),t.σ.objs ++ [zeroVs n]⟩):=by unfold stepK; rw [if_pos h1,er,en,Int.toNat_natCast,Int.toNat_natCast]
      have hp:=h.push (n:=n) (by omega)
      have h2:=hp.reg hr (v:=(true,(a.objs.length:Int))) (ok.push (by omega)).2
      unfold CrA.do_ crOld goneD
      rw [hk,if_pos h1,if_pos (.inl h1),er,Int.toNat_natCast]
      rw [h.n] at h2 ⊢
      exact ⟨rfl,h2⟩
  have e0:crErr R d t=rWrong d t.σ:=by unfold crErr; rw [if_neg (fun h => h1 h.2.1)]
  have hgo:goneD d t.gone=t.gone:=by unfold goneD; rw [if_neg h1]
  rw [if_neg h1,e0]
  unfold CrA.do_
  rw [hgo]
  by_cases h2:d.k=2
  · obtain ⟨r,er,hr⟩:=hto (by omega)
    have e1:rWrong d t.σ=0:=by unfold rWrong; rw [if_neg hw,if_neg (by omega),if_neg (by omega)]
    have hk:stepK d t.σ=(⟨0,false,0⟩,⟨t.σ.regs.set r (false,d.n),t.σ.objs⟩):=by unfold stepK; rw [if_neg h1,if_pos h2,er,Int.toNat_natCast]
    unfold crOld
    rw [if_pos h2,e1,if_neg (by simp),hk,if_pos (.inr (.inl h2)),er,Int.toNat_natCast]
    exact ⟨rfl,h.reg hr (fun hb => by cases hb)⟩
  rw [if_neg h2]
  by_cases h3:d.k=3
  · obtain ⟨r,er,hr⟩:=hto (by omega)
    have e1:rWrong d t.σ=0:=by unfold rWrong; rw [if_neg hw,if_neg (by omega),if_neg (by omega)]
    have hk:stepK d t.σ=(⟨0,false,0⟩,⟨t.σ.regs.set r (rgA t.σ.regs d.fr),t.σ.objs⟩):=by unfold stepK; rw [if_neg h1,if_neg h2,if_pos h3,er,Int.toNat_natCast]
    unfold crOld
    rw [if_pos h3,e1,if_neg (by simp),hk,if_pos (.inr (.inr (.inl h3))),er,Int.toNat_natCast]
    have h5:=h.reg hr (ok.rg d.fr)
    rw [h.r] at h5 ⊢
    exact ⟨rfl,h5⟩
  rw [if_neg h3]
  by_cases h5:d.k=4
  · rw [if_pos h5]
    have he:=h.err ok d.to d.at_
    have e1:rWrong d t.σ=fErr t.σ.objs (rgA t.σ.regs d.to) d.at_:=by unfold rWrong; rw [if_neg hw,if_pos h5]
    by_cases hz:cnErr a (rgA a.regs d.to) d.at_ ≠ 0
    · rw [if_pos hz,e1,← he,if_pos hz]
      exact ⟨rfl,h⟩
    · rw [if_neg hz,e1,← he,if_neg hz]
      obtain ⟨i,k,fs,e,hf,e2,hk⟩:=ok.at_field (r:=d.to) (at_:=d.at_) (by omega)
      have hob:=h.ob hf
      have e':rgA t.σ.regs d.to=(true,(i:Int)):=by rw [← h.r]; exact e
      have hks:stepK d t.σ=(⟨0,false,0⟩,⟨t.σ.regs,t.σ.objs.set i (fs.set k (rgA t.σ.regs d.fr))⟩):=by
        unfold stepK
        rw [if_neg h1,if_neg h2,if_neg h3,if_pos h5,if_neg (by rw [← he]; exact hz),e',e2]
        dsimp only
        rw [hob,Int.toNat_natCast,Int.toNat_natCast]
      have hol:crOld d t.σ=fs[k]:=by
        unfold crOld
        rw [if_neg (by omega),if_pos h5,e',e2]
        dsimp only
        rw [hob,Int.toNat_natCast,List.getD_eq_getElem?_getD,List.getElem?_eq_getElem hk]; rfl
      rw [hks,hol,e,e2,Int.toNat_natCast]
      dsimp only
      rw [Int.toNat_natCast]
      obtain ⟨_,p1,p2,p3,_⟩:=ok.put hf hk (ok.rg d.fr)
      have hg:=((h.s.fld h.ok.lg i fs).1 hf).1
      have hat:=ob_at (l:=t.σ.objs) (i:=i) (by rw [← h.n]; exact CnA.fld_lt hf)
      rw [hob] at hat
      have hm:MOk ⟨t.σ.regs,t.σ.objs.set i (fs.set k (rgA t.σ.regs d.fr))⟩:=by
        have:=stepK_m (d:=d) h.ok.m (by rw [e1,← he]; omega)
        rw [hks] at this
        exact this
      obtain ⟨k1,k2,k3⟩:=h.rep (u:=fs[k]) (v:=rgA a.regs d.fr) (σ':=⟨t.σ.regs,t.σ.objs.set i (fs.set k (rgA t.σ.regs d.fr))⟩) (b:=(a.up (rgA a.regs d.fr)).seto i k (rgA a.regs d.fr)) hm (List.length_set ..) (fun j => by
        have q1:=ptsO_set (j:=j) (fs.set k (rgA t.σ.regs d.fr)) hat
        have q2:=occ_set (j:=j) (rgA t.σ.regs d.fr) (List.getElem?_eq_getElem hk)
        unfold pts
        rw [h.r]
        dsimp only
        omega) (h.there (ok.rg d.fr)) (mok_pos (l:=fs) (by have:=(h.ok.m.ob (i:Int)).1; rw [hob] at this; exact this) (List.getElem_mem hk) fun j => by have:=ptsO_mem (j:=j) hat; unfold pts; omega)
        (by
          show (a.up _).objs.set i _=_
          rw [up_objs,up_fld,hf,h.s.ob,Option.getD_some,maskL_set _ _ h.ok.lg _ (by rw [List.getD_eq_getElem?_getD,hg]; rfl),h.r]) (by show (a.up _).gl=_; unfold CnA.up; split <;> exact h.s.gl) rfl
      rw [p1]
      refine ⟨rfl,k3,?_,k1⟩
      rw [k2.r,down_regs]
      show (a.up _).regs=_
      rw [up_regs]; exact h.r
  rw [if_neg h5]
  by_cases h6:d.k=5
  · rw [if_pos h6]
    have he:=h.err ok d.fr d.at_
    have e1:rWrong d t.σ=fErr t.σ.objs (rgA t.σ.regs d.fr) d.at_:=by unfold rWrong; rw [if_neg hw,if_neg h5,if_pos h6]
    by_cases hz:cnErr a (rgA a.regs d.fr) d.at_ ≠ 0
    · rw [if_pos hz,e1,← he,if_pos hz]
      exact ⟨rfl,h⟩
    · rw [if_neg hz,e1,← he,if_neg hz]
      obtain ⟨i,k,fs,e,hf,e2,hk⟩:=ok.at_field (r:=d.fr) (at_:=d.at_) (by omega)
      obtain ⟨r,er,hr⟩:=hto (by omega)
      have hob:=h.ob hf
      have e':rgA t.σ.regs d.fr=(true,(i:Int)):=by rw [← h.r]; exact e
      have hg:fs.getD k (false,0)=fs[k]:=by rw [List.getD_eq_getElem?_getD,List.getElem?_eq_getElem hk]; rfl
      have hks:stepK d t.σ=(⟨0,false,0⟩,⟨t.σ.regs.set r fs[k],t.σ.objs⟩):=by
        unfold stepK
        rw [if_neg h1,if_neg h2,if_neg h3,if_neg h5,if_pos h6,if_neg (by rw [← he]; exact hz),e',e2,er]
        dsimp only
        rw [hob,Int.toNat_natCast,Int.toNat_natCast,hg]
      unfold crOld
      rw [hks,if_pos (.inr (.inr (.inr h6))),e,e2,er,Int.toNat_natCast]
      dsimp only
      rw [Int.toNat_natCast,Int.toNat_natCast,hf,Option.getD_some,hg]
      exact ⟨rfl,h.reg hr (ok.inv.vokF hf (List.getElem_mem hk))⟩
  rw [if_neg h6]
  have e1:rWrong d t.σ=0:=by unfold rWrong; rw [if_neg hw,if_neg h5,if_neg h6]
  have hol:crOld d t.σ=(false,0):=by unfold crOld; rw [if_neg (by omega),if_neg h5]
  have ee:∀ x y:OutV × CrA,(if (0:Int) ≠ 0 then x else y)=y:=fun x y => if_neg (fun h => h rfl)
  rw [e1,ee,hol,lose_no]
  by_cases h7:d.k=6
  · have hks:stepK d t.σ=(⟨0,false,if rgA t.σ.regs d.to=rgA t.σ.regs d.fr then 1 else 0⟩,t.σ):=by
      unfold stepK
      rw [if_neg h1,if_neg h2,if_neg h3,if_neg h5,if_neg h6,if_pos h7]
    rw [if_pos h7,hks]
    exact ⟨by rw [h.r],h⟩
  · have hks:stepK d t.σ=(⟨0,(rgA t.σ.regs d.fr).1,if (rgA t.σ.regs d.fr).1=true then (obA t.σ.objs (rgA t.σ.regs d.fr).2).length else (rgA t.σ.regs d.fr).2⟩,t.σ):=by
      unfold stepK
      rw [if_neg h1,if_neg h2,if_neg h3,if_neg h5,if_neg h6,if_neg h7]
    rw [if_neg h7,hks]
    refine ⟨?_,h⟩
    dsimp only
    rw [← h.r]
    by_cases hb:(rgA a.regs d.fr).1=true
    · obtain ⟨i,fs,e,hf⟩:=ok.rg d.fr hb
      rw [if_pos hb,if_pos hb,e,h.ob hf,Int.toNat_natCast,hf]
      rfl
    · rw [if_neg hb,if_neg hb]
end Go.Proofs.YtjphckfbbiehdaaGreat
