/- Part of a proof. -/
import Derived.Test.YtjphckfbbiehdaaGreatSTopAll9
import Derived.StillTailTactics
set_option linter.unusedSimpArgs false
set_option linter.unusedVariables false
namespace Go.Proofs.YtjphckfbbiehdaaGreat
open Go.RowKit
def CnA.sr (a:CnA) (r:Nat) (v:Val):CnA:={ a with regs:=a.regs.set r v }
def CnA.hold (a:CnA) (r:Nat) (v:Val):CnA:=(a.up v).down (rgA a.regs (r:Int))
def CnA.seto (a:CnA) (i k:Nat) (v:Val):CnA:={ a with objs:=a.objs.set i (some (((a.fld i).getD []).set k v)) }
def cnPut (a:CnA) (i k:Nat) (v:Val):CnA:=((a.up v).seto i k v).down (((a.fld i).getD []).getD k (false,0))
def CnA.push (a:CnA) (n:Nat):CnA:={ a with objs:=a.objs ++ [some (zeroVs n)],cnt:=a.cnt ++ [0] }
def cnNew (R:Int) (a:CnA) (n:Nat):CnA × Int × Int:=if R ≤ (a.num:Int) then (a,0,6) else (a.push n,a.objs.length,0)
def cnErr (a:CnA) (v:Val) (at_:Int):Int:=if v.1=false then 5 else if at_ < 0 ∨ (((a.fld v.2.toNat).getD []).length:Int) ≤ at_ then 3 else 0
def CnA.sh (a:CnA) (r:Nat) (v:Val):CnA:=(a.hold r v).sr r v
def cnKst (R:Int) (d:DoV) (a:CnA):OutV × CnA :=
  if d.k=1 then
    if (cnNew R a d.n.toNat).2.2 ≠ 0 then (⟨(cnNew R a d.n.toNat).2.2,false,0⟩,(cnNew R a d.n.toNat).1)
    else (⟨0,false,0⟩,(cnNew R a d.n.toNat).1.sh d.to.toNat (true,(cnNew R a d.n.toNat).2.1))
  else if d.k=2 then (⟨0,false,0⟩,a.sh d.to.toNat (false,d.n))
  else if d.k=3 then (⟨0,false,0⟩,a.sh d.to.toNat (rgA a.regs d.fr))
  else if d.k=4 then
    if cnErr a (rgA a.regs d.to) d.at_ ≠ 0 then (⟨cnErr a (rgA a.regs d.to) d.at_,false,0⟩,a)
    else (⟨0,false,0⟩,cnPut a (rgA a.regs d.to).2.toNat d.at_.toNat (rgA a.regs d.fr))
  else if d.k=5 then
    if cnErr a (rgA a.regs d.fr) d.at_ ≠ 0 then (⟨cnErr a (rgA a.regs d.fr) d.at_,false,0⟩,a)
    else (⟨0,false,0⟩,a.sh d.to.toNat (((a.fld (rgA a.regs d.fr).2.toNat).getD []).getD d.at_.toNat (false,0)))
  else if d.k=6 then (⟨0,false,if rgA a.regs d.to=rgA a.regs d.fr then 1 else 0⟩,a)
  else (⟨0,(rgA a.regs d.fr).1,if (rgA a.regs d.fr).1=true then (((a.fld (rgA a.regs d.fr).2.toNat).getD []).length:Int) else (rgA a.regs d.fr).2⟩,a)
def cnDo (R:Int) (d:DoV) (a:CnA):OutV × CnA:=if wrongM d ≠ 0 then (⟨wrongM d,false,0⟩,a) else cnKst R d a
structure CnOk (a:CnA):Prop where
  r8:a.regs.length=8
  inv:CnInv a a.regs
  gb:a.gl.length + a.num ≤ a.objs.length
theorem CnOk.vr {a:CnA} (ok:CnOk a) {v:Val} (hv:v ∈ a.regs):a.vok v:=ok.inv.vokP hv
theorem CnOk.rg {a:CnA} (ok:CnOk a) (r:Int):a.vok (rgA a.regs r):=by
  unfold rgA
  rcases getD_mem_or a.regs r.toNat (false,0) with h2 | h2
  · exact ok.vr h2
  · rw [h2]; intro h1; cases h1
theorem rgA_at {l:List Val} {r:Nat} (h:r < l.length):l[r]?=some (rgA l (r:Int)):=by
  unfold rgA
  rw [Int.toNat_natCast,List.getD_eq_getElem?_getD,List.getElem?_eq_getElem h]; rfl
theorem up_regs (a:CnA) (v:Val):(a.up v).regs=a.regs:=by unfold CnA.up; split <;> rfl
theorem up_objs (a:CnA) (v:Val):(a.up v).objs=a.objs:=by unfold CnA.up; split <;> rfl
theorem up_fld (a:CnA) (v:Val) (i:Nat):(a.up v).fld i=a.fld i:=by unfold CnA.fld; rw [up_objs]
theorem CnInv.swap {a:CnA} {l:List Val} {r:Nat} {u v:Val} (h:CnInv a (v :: l)) (hr:l[r]?=some u):CnInv a (u :: l.set r v):=by
  refine h.congr (fun j => ?_) fun x hx h1 => ?_
  · have h2:=occ_set (j:=j) v hr
    rw [occ_cons,occ_cons]; omega
  · rcases List.mem_cons.1 hx with rfl | h2
    · exact h.vp x (List.mem_cons_of_mem _ (List.mem_of_getElem? hr)) h1
    · rcases mem_set_ h2 with h3 | rfl
      · exact h.vp x (List.mem_cons_of_mem _ h3) h1
      · exact h.vp x (List.mem_cons_self ..) h1
theorem CnOk.hold {a:CnA} (ok:CnOk a) {r:Nat} (hr:r < 8) {v:Val} (hv:a.vok v):CnInv (a.hold r v) (a.regs.set r v) ∧ CnKp (a.up v) (a.hold r v):=by
  have h1:=ok.inv.up hv
  exact (h1.swap (rgA_at (r:=r) (by rw [ok.r8]; exact hr))).down
theorem up_gl (a:CnA) (v:Val):(a.up v).gl=a.gl:=by unfold CnA.up; split <;> rfl
theorem up_num (a:CnA) (v:Val):(a.up v).num=a.num:=by unfold CnA.num; rw [up_objs]
theorem up_kp (a:CnA) (v:Val):CnKp a (a.up v):=⟨up_regs a v,by rw [up_objs],by rw [up_num]; exact Nat.le_refl _,by rw [up_num,up_gl]; exact Nat.le_refl _,fun i fs h => by rw [up_fld] at h; exact h⟩
theorem CnOk.sh {a:CnA} (ok:CnOk a) {r:Nat} (hr:r < 8) {v:Val} (hv:a.vok v):CnOk (a.sh r v) ∧ (a.sh r v).objs.length=a.objs.length:=by
  obtain ⟨h1,h2⟩:=ok.hold hr hv
  have hk:=(up_kp a v).trans h2
  refine ⟨⟨?_,?_,?_⟩,hk.n⟩
  · show ((a.hold r v).regs.set r v).length=8
    rw [hk.r,List.length_set]; exact ok.r8
  · show CnInv (a.sh r v) ((a.hold r v).regs.set r v)
    rw [hk.r]
    exact ⟨h1.cl,h1.eq,h1.th,h1.vp,h1.vf,h1.f4⟩
  · show (a.hold r v).gl.length + (a.hold r v).num ≤ (a.hold r v).objs.length
    have:=hk.l
    have:=ok.gb
    rw [hk.n]; omega
theorem seto_fld {a:CnA} {i k:Nat} {fs:List Val} (v:Val) (hf:a.fld i=some fs) (j:Nat) (gs:List Val):(a.seto i k v).fld j=some gs ↔ (j=i ∧ gs=fs.set k v) ∨ (j ≠ i ∧ a.fld j=some gs):=by
  rw [CnA.fld_iff,CnA.fld_iff]
  show (a.objs.set i _)[j]?=_ ↔ _
  rw [List.getElem?_set,hf]
  have hl:=CnA.fld_lt hf
  by_cases e:i=j
  · subst e
    rw [if_pos rfl,if_pos hl]
    simp [eq_comm]
  · rw [if_neg e]
    constructor
    · exact fun h => .inr ⟨fun h1 => e h1.symm,h⟩
    · rintro (⟨h1,_⟩ | ⟨_,h⟩)
      · exact absurd h1.symm e
      · exact h
theorem CnInv.seto {a:CnA} {P:List Val} {v u:Val} (h:CnInv a (v :: P)) {i k:Nat} {fs:List Val} (hf:a.fld i=some fs) (hu:fs[k]?=some u):CnInv (a.seto i k v) (u :: P):=by
  have hl:(a.seto i k v).objs.length=a.objs.length:=List.length_set ..
  have hs:(a.seto i k v).objs=a.objs.set i (some (fs.set k v)):=by show a.objs.set i _=_; rw [hf]; rfl
  refine ⟨by rw [hl]; exact h.cl,fun j hj => ?_,fun j hj hn => ?_,fun x hx h1 => ?_,fun j gs hg x hx h1 => ?_,fun j gs hg => ?_⟩
  · rw [hl] at hj
    show a.cnt.getD j 0=_
    rw [h.eq j hj,hs,occ_cons,occ_cons]
    have h2:=occO_set (j:=j) (some (fs.set k v)) (CnA.fld_iff.1 hf)
    have h3:=occ_set (j:=j) v hu
    simp only [Option.getD_some] at h2
    omega
  · rw [hl] at hj
    show a.cnt.getD j 0=0
    refine h.th j hj ?_
    cases hg:a.fld j with
    | none => rfl
    | some gs =>
      by_cases e:j=i
      · rw [(seto_fld v hf j _).2 (.inl ⟨e,rfl⟩)] at hn; cases hn
      · rw [(seto_fld v hf j gs).2 (.inr ⟨e,hg⟩)] at hn; cases hn
  · rw [hl]
    rcases List.mem_cons.1 hx with rfl | h2
    · exact h.vf i fs hf x (List.mem_of_getElem? hu) h1
    · exact h.vp x (List.mem_cons_of_mem _ h2) h1
  · rw [hl]
    rcases (seto_fld v hf j gs).1 hg with ⟨rfl,rfl⟩ | ⟨_,h2⟩
    · rcases mem_set_ hx with h3 | rfl
      · exact h.vf j fs hf x h3 h1
      · exact h.vp x (List.mem_cons_self ..) h1
    · exact h.vf j gs h2 x hx h1
  · rcases (seto_fld v hf j gs).1 hg with ⟨rfl,rfl⟩ | ⟨_,h2⟩
    · rw [List.length_set]; exact h.f4 j fs hf
    · exact h.f4 j gs h2
theorem seto_num {a:CnA} {i k:Nat} {fs:List Val} (v:Val) (hf:a.fld i=some fs):(a.seto i k v).num=a.num:=someN_put _ (CnA.fld_iff.1 hf)
theorem CnOk.put {a:CnA} (ok:CnOk a) {i k:Nat} {fs:List Val} (hf:a.fld i=some fs) (hk:k < fs.length) {v:Val} (hv:a.vok v) :
    CnInv ((a.up v).seto i k v) (fs[k] :: a.regs) ∧ cnPut a i k v=((a.up v).seto i k v).down fs[k] ∧ CnOk (cnPut a i k v) ∧ (cnPut a i k v).regs=a.regs ∧ (cnPut a i k v).objs.length=a.objs.length:=by
  have h1:=(ok.inv.up hv).seto (k:=k) (u:=fs[k]) (by rw [up_fld]; exact hf) (List.getElem?_eq_getElem hk)
  have e:cnPut a i k v=((a.up v).seto i k v).down fs[k]:=by
    unfold cnPut
    rw [hf,Option.getD_some,List.getD_eq_getElem?_getD,List.getElem?_eq_getElem hk]; rfl
  obtain ⟨h2,h3⟩:=h1.down
  rw [← e] at h2 h3
  have er:(cnPut a i k v).regs=a.regs:=h3.r.trans (up_regs a v)
  have el:(cnPut a i k v).objs.length=a.objs.length:=h3.n.trans (by show ((a.up v).objs.set i _).length=_; rw [List.length_set,up_objs])
  refine ⟨h1,e,⟨by rw [er]; exact ok.r8,by rw [er]; exact h2,?_⟩,er,el⟩
  have h4:=h3.l
  rw [seto_num v (by rw [up_fld]; exact hf),up_num,show ((a.up v).seto i k v).gl=a.gl from up_gl a v] at h4
  have:=ok.gb
  rw [el]; omega
theorem push_fld (a:CnA) (n:Nat) (i:Nat) (fs:List Val):(a.push n).fld i=some fs ↔ a.fld i=some fs ∨ (i=a.objs.length ∧ fs=zeroVs n):=by
  rw [CnA.fld_iff,CnA.fld_iff]
  show (a.objs ++ [some (zeroVs n)])[i]?=_ ↔ _
  by_cases h:i < a.objs.length
  · rw [List.getElem?_append_left h]
    exact ⟨.inl,fun h1 => h1.elim id fun h2 => by omega⟩
  · rw [List.getElem?_append_right (by omega),List.getElem?_eq_none (l:=a.objs) (by omega)]
    by_cases e:i=a.objs.length
    · subst e; simp [eq_comm]
    · rw [List.getElem?_eq_none (by simp only [List.length_singleton]; omega)]
      simp [e]
theorem CnOk.push {a:CnA} (ok:CnOk a) {n:Nat} (h4:n ≤ 4):CnOk (a.push n) ∧ (a.push n).vok (true,(a.objs.length:Int)):=by
  have hl:(a.push n).objs.length=a.objs.length + 1:=by show (a.objs ++ [_]).length=_; simp
  have hin:∀ (v:Val),(∃ j:Nat,j < a.objs.length ∧ v.2=(j:Int)) → ∃ j:Nat,j < (a.push n).objs.length ∧ v.2=(j:Int):=fun v ⟨j,h1,h2⟩ => ⟨j,by omega,h2⟩
  have hcn:∀ j,(a.push n).cnt.getD j 0=if j < a.objs.length then a.cnt.getD j 0 else 0:=fun j => by
    show (a.cnt ++ [0]).getD j 0=_
    rw [List.getD_eq_getElem?_getD]
    split
    · rename_i h
      rw [List.getElem?_append_left (by rw [ok.inv.cl]; exact h),← List.getD_eq_getElem?_getD]
    · rename_i h
      rw [List.getElem?_append_right (by rw [ok.inv.cl]; omega)]
      cases h2:([0]:List Int)[j - a.cnt.length]? with
      | none => rfl
      | some x =>
        have:=List.mem_of_getElem? h2
        rw [List.mem_singleton.1 this]; rfl
  have hz:∀ j,a.objs.length ≤ j → occ j a.regs=0 ∧ occO j a.objs=0:=fun j hj => by
    constructor
    · unfold occ
      rw [List.countP_eq_zero]
      intro v hv hb
      obtain ⟨h1,h2⟩:=refB_eq hb
      obtain ⟨z,h3,h4⟩:=ok.inv.vp v hv h1
      omega
    · unfold occO
      have:∀ x ∈ a.objs.map fun o => occ j (o.getD []),x=0:=fun x hx => by
        obtain ⟨o,ho,rfl⟩:=List.mem_map.1 hx
        cases o with
        | none => rfl
        | some fs =>
          obtain ⟨i,hi⟩:=List.mem_iff_getElem?.1 ho
          show occ j fs=0
          unfold occ
          rw [List.countP_eq_zero]
          intro v hv hb
          obtain ⟨h1,h2⟩:=refB_eq hb
          obtain ⟨z,h3,h4⟩:=ok.inv.vf i fs (CnA.fld_iff.2 hi) v hv h1
          omega
      have gen:∀ l:List Nat,(∀ x ∈ l,x=0) → l.sum=0:=by
        intro l
        induction l with
        | nil => exact fun _ => rfl
        | cons x l ih => exact fun h => by rw [List.sum_cons,h x (List.mem_cons_self ..),ih fun y hy => h y (List.mem_cons_of_mem _ hy)]
      exact gen _ this
  refine ⟨⟨ok.r8,⟨?_,fun j hj => ?_,fun j hj hn => ?_,fun v hv h1 => hin v (ok.inv.vp v hv h1),fun i fs hf v hv h1 => ?_,fun i fs hf => ?_⟩,?_⟩,fun _ => ⟨a.objs.length,zeroVs n,rfl,(push_fld a n _ _).2 (.inr ⟨rfl,rfl⟩)⟩⟩
  · rw [hl]
    show (a.cnt ++ [0]).length=_
    rw [List.length_append,ok.inv.cl]; rfl
  · rw [hcn]
    show _=((occ j a.regs + occO j (a.objs ++ [some (zeroVs n)]):Nat):Int)
    rw [occO_app,occ_zeros]
    split
    · rename_i h
      exact ok.inv.eq j h
    · rename_i h
      obtain ⟨h1,h2⟩:=hz j (by omega)
      omega
  · rw [hcn]
    split
    · rename_i h
      refine ok.inv.th j h ?_
      cases hg:a.fld j with
      | none => rfl
      | some gs => rw [(push_fld a n j gs).2 (.inl hg)] at hn; cases hn
    · rfl
  · rcases (push_fld a n i fs).1 hf with h2 | ⟨_,rfl⟩
    · exact hin v (ok.inv.vf i fs h2 v hv h1)
    · obtain ⟨_,rfl⟩:=List.mem_replicate.1 hv
      cases h1
  · rcases (push_fld a n i fs).1 hf with h2 | ⟨_,rfl⟩
    · exact ok.inv.f4 i fs h2
    · simp only [zeroVs,List.length_replicate]; exact h4
  · have h1:(a.push n).num=a.num + 1:=someN_app _ _
    have:=ok.gb
    rw [h1,hl]
    show a.gl.length + _ ≤ _
    omega
theorem CnOk.new_ {a:CnA} (ok:CnOk a) (R:Int) {n:Nat} (h4:n ≤ 4):CnOk (cnNew R a n).1 ∧ ((cnNew R a n).2.2=0 → (cnNew R a n).1.vok (true,(cnNew R a n).2.1)) ∧ a.objs.length ≤ (cnNew R a n).1.objs.length ∧ (cnNew R a n).1.objs.length ≤ a.objs.length + 1:=by
  unfold cnNew
  split
  · exact ⟨ok,fun h => (by cases h),Nat.le_refl _,Nat.le_succ _⟩
  · obtain ⟨h1,h2⟩:=ok.push h4
    have hl:(a.push n).objs.length=a.objs.length + 1:=by show (a.objs ++ [_]).length=_; simp
    exact ⟨h1,fun _ => h2,by dsimp only; omega,by dsimp only; omega⟩
theorem CnOk.at_field {a:CnA} (ok:CnOk a) {r at_:Int} (h:cnErr a (rgA a.regs r) at_=0):∃ (i k:Nat) (fs:List Val),rgA a.regs r=(true,(i:Int)) ∧ a.fld i=some fs ∧ at_=(k:Int) ∧ k < fs.length:=by
  unfold cnErr at h
  split at h
  · omega
  · rename_i hb
    have hb':(rgA a.regs r).1=true:=by simpa using hb
    obtain ⟨i,fs,e,hf⟩:=ok.rg r hb'
    split at h
    · omega
    · rename_i h2
      rw [e,Int.toNat_natCast,hf,Option.getD_some] at h2
      obtain ⟨k,rfl⟩:=int_nat (show 0 ≤ at_ from by omega)
      exact ⟨i,k,fs,Prod.ext hb' e,hf,rfl,by omega⟩
theorem CnOk.do_ {a:CnA} (ok:CnOk a) (R:Int) (d:DoV):CnOk (cnDo R d a).2 ∧ a.objs.length ≤ (cnDo R d a).2.objs.length ∧ (cnDo R d a).2.objs.length ≤ a.objs.length + 1:=by
  unfold cnDo
  by_cases hw:wrongM d ≠ 0
  · rw [if_pos hw]; exact ⟨ok,Nat.le_refl _,Nat.le_succ _⟩
  rw [if_neg hw]
  have hw0:wrongM d=0:=by omega
  have hto:d.k ≠ 7 → d.to.toNat < 8:=fun h => by have:=wrongM_to hw0 h; omega
  have hsh:∀ (b:CnA) (v:Val),CnOk b → b.vok v → d.k ≠ 7 → CnOk (b.sh d.to.toNat v) ∧ (b.sh d.to.toNat v).objs.length=b.objs.length:=fun b v hb hv h7 => hb.sh (hto h7) hv
  unfold cnKst
  split
  · rename_i h1
    have h4:=wrongM_n hw0 h1
    obtain ⟨n1,n2,n3,n4⟩:=ok.new_ R (n:=d.n.toNat) (by omega)
    split
    · exact ⟨n1,n3,n4⟩
    · rename_i hz
      obtain ⟨s1,s2⟩:=hsh _ _ n1 (n2 (by omega)) (by omega)
      exact ⟨s1,by rw [s2]; exact n3,by rw [s2]; exact n4⟩
  split
  · obtain ⟨s1,s2⟩:=hsh a (false,d.n) ok (fun h => by cases h) (by omega)
    exact ⟨s1,by rw [s2]; exact Nat.le_refl _,by rw [s2]; exact Nat.le_succ _⟩
  split
  · obtain ⟨s1,s2⟩:=hsh a _ ok (ok.rg d.fr) (by omega)
    exact ⟨s1,by rw [s2]; exact Nat.le_refl _,by rw [s2]; exact Nat.le_succ _⟩
  split
  · split
    · exact ⟨ok,Nat.le_refl _,Nat.le_succ _⟩
    · rename_i hz
      obtain ⟨i,k,fs,e,hf,e2,hk⟩:=ok.at_field (r:=d.to) (at_:=d.at_) (by omega)
      rw [e,e2,Int.toNat_natCast,Int.toNat_natCast]
      obtain ⟨_,_,p1,_,p2⟩:=ok.put hf hk (ok.rg d.fr)
      exact ⟨p1,by rw [p2]; exact Nat.le_refl _,by rw [p2]; exact Nat.le_succ _⟩
  split
  · split
    · exact ⟨ok,Nat.le_refl _,Nat.le_succ _⟩
    · rename_i hz
      obtain ⟨i,k,fs,e,hf,e2,hk⟩:=ok.at_field (r:=d.fr) (at_:=d.at_) (by omega)
      rw [e,e2,Int.toNat_natCast,Int.toNat_natCast,hf,Option.getD_some]
      have hv:a.vok (fs.getD k (false,0)):=by
        rw [List.getD_eq_getElem?_getD,List.getElem?_eq_getElem hk]
        exact ok.inv.vokF hf (List.getElem_mem hk)
      obtain ⟨s1,s2⟩:=hsh a _ ok hv (by omega)
      exact ⟨s1,by rw [s2]; exact Nat.le_refl _,by rw [s2]; exact Nat.le_succ _⟩
  split
  · exact ⟨ok,Nat.le_refl _,Nat.le_succ _⟩
  · exact ⟨ok,Nat.le_refl _,Nat.le_succ _⟩
end Go.Proofs.YtjphckfbbiehdaaGreat

namespace Go.Proofs.YtjphckfbbiehdaaGreat
open Go.RowKit
structure CoS where
  oj:Oj
  Ac:Option Addr
  cc:Nat
  cols:List Int
  Ag:Option Addr
  cg:Nat
  gone:List Int
def coC (bv:Value) (s:CoS):Array Value:=#[s.oj.v,bv,.slice s.Ac s.cols.length s.cc,.slice s.Ag s.gone.length s.cg]
def coR (Be:Nat) (bv:Value) (s:CoS):List Item:=blkI Be 95 (coC bv s) :: rowI 3 1 s.Ac s.cols.length s.cc (ints s.cols) :: rowI 3 1 s.Ag s.gone.length s.cg (ints s.gone) :: ojL s.oj
def coI (Be:Nat) (bv:Value) (s:CoS):Item:=allI (coR Be bv s)
def whiteB (cols:List Int) (v:Val):Bool:=v.1 && decide (cols.getD v.2.toNat 0=0)
def shadeC (cols:List Int) (v:Val):List Int:=if whiteB cols v=true then cols.set v.2.toNat 1 else cols
theorem shadeC_len (cols:List Int) (v:Val):(shadeC cols v).length=cols.length:=by unfold shadeC; split <;> simp
def CoS.col (s:CoS) (l:List Int):CoS:={ s with cols:=l }
theorem int_at {w:World} {A:Option Addr} {n c:Nat} {l:List Int} (h:(rowI 3 1 A n c (ints l)).P w) {z:Nat} (hz:z < n):∃ g,A=some ⟨g,0,none⟩ ∧ z < l.length ∧ w.cell? ⟨g,z,none⟩=some (.int .i64 (l.getD z 0)) ∧ w.frozen? ⟨g,z,none⟩=false ∧ g < w.heap.size:=by
  have ho:w.ownsRow 0 3 1 (.slice A n c) n (ints l):=h
  have hl:l.length=n:=by have:=ho.1; simpa using this
  obtain ⟨g,hA⟩:=hown_addr ho (by omega)
  subst hA
  obtain ⟨fd,hA,_,hb,hc⟩:=(Rd.of_own (D:=fun _ => True) ho (fun _ _ => trivial)).at_ hz
  obtain rfl:(⟨g,0,none⟩:Addr)=fd:=by injection hA
  have e:=hc (.int .i64 (l.getD z 0)) (by simp [ints,List.getD_eq_getElem?_getD,List.getElem?_eq_getElem (show z < l.length by omega)])
  rw [hraddr0] at e
  exact ⟨g,rfl,by omega,e,ho.frozenAt _,hb⟩
theorem ints_setC (l:List Int) (z:Nat) (y:Int):(ints l).set z (.int .i64 y)=ints (l.set z y):=by simp [ints,List.map_set]
set_option maxRecDepth 100000 in
set_option maxHeartbeats 4000000 in
theorem white_any {Be:Nat} {bv:Value} {s:CoS} {w:World} (hP:(coI Be bv s).P w) (hn:s.cols.length ≤ 1000) (v:Val) (hv:v.1=true → ∃ z:Nat,v.2=(z:Int) ∧ z < s.cols.length) :
    Calls Tryz.prog 65 #[.pointer (some ⟨Be,0,none⟩),.agg #[.bool v.1,.int .i64 v.2]] w fun e w' => e=.returned (.bool (whiteB s.cols v)) ∧ Below w.heap.size w w':=by
  obtain ⟨g,hg⟩:∃ g,w.heap.size=g:=⟨_,rfl⟩
  have hS0:=(Sep.start hP).flat.blkAt 63 #[.bool v.1,.int .i64 v.2] hg
  have hb:Below w.heap.size w (w.alloc (.cells #[.bool v.1,.int .i64 v.2] 63)):=(Below.refl _ w).alloc (Nat.le_refl _) _
  obtain ⟨b1,b2,b3,_⟩:=hS0.rules 0 (g:=Be) (t:=95) rfl
  have b5:=(b1 2).trans (show _=some (.slice s.Ac s.cols.length s.cc) from rfl)
  have hrow:(rowI 3 1 s.Ac s.cols.length s.cc (ints s.cols)).P (w.alloc (.cells #[.bool v.1,.int .i64 v.2] 63)):=hS0.get 1 rfl
  have HB:=hide hb
  obtain ⟨bv2,mv⟩:=v
  unfold whiteB
  dsimp only at hv hrow b5 b3 HB ⊢
  cases bv2 with
  | false =>
    clear hS0 hP hb b1 b2 hv hrow b5
    rw [Bool.false_and]
    go_enter Tryz.func65,Tryz.ntmps65
    go_wp2_with fail
    go_quiet (fail)
    go_wp2_with fail
    go_ret
    exact ⟨rfl,below_drewN HB.out _⟩
  | true =>
    obtain ⟨z,rfl,hz⟩:=hv rfl
    obtain ⟨gc,hA,_,e0,_,e2⟩:=int_at hrow hz
    rw [hA] at b5
    rw [Bool.true_and,show ((z:Int)).toNat=z from by omega]
    obtain ⟨y,hy⟩:∃ y,s.cols.getD z 0=y:=⟨_,rfl⟩
    rw [hy] at e0 ⊢
    obtain ⟨m,hm⟩:∃ m,s.cols.length=m:=⟨_,rfl⟩
    rw [hm] at b5 hz hn
    have t1:decide ((z:Int) < 0)=false:=by simp
    have t2:decide ((m:Int) ≤ (z:Int))=false:=by simp; omega
    clear hS0 hP hb b1 b2 hrow hA hm hy
    go_enter Tryz.func65,Tryz.ntmps65
    go_wp2_with fail
    go_quiet (fail)
    go_wp2_with fail
    go_ret
    exact ⟨ret_bool (by first | rfl | simp),below_drewN HB.out _⟩
set_option maxRecDepth 100000 in
set_option maxHeartbeats 4000000 in
theorem shade_any {Be:Nat} {bv:Value} {s:CoS} {w:World} (hP:(coI Be bv s).P w) (hn:s.cols.length ≤ 1000) (v:Val) (hv:v.1=true → ∃ z:Nat,v.2=(z:Int) ∧ z < s.cols.length) :
    Calls Tryz.prog 47 #[.pointer (some ⟨Be,0,none⟩),.agg #[.bool v.1,.int .i64 v.2]] w fun e w' => (∃ u,e=.returned u) ∧ Sep (coI Be bv s).fp w w' [coI Be bv (s.col (shadeC s.cols v))]:=by
  obtain ⟨F,hF⟩:∃ F,(coI Be bv s).fp=F:=⟨_,rfl⟩
  obtain ⟨g,hg⟩:∃ g,w.heap.size=g:=⟨_,rfl⟩
  have hS0:=(Sep.start hP).blkAt 63 #[.bool v.1,.int .i64 v.2] hg
  rw [hF] at hS0 ⊢
  obtain ⟨W,hW⟩:∃ W,w.alloc (.cells #[.bool v.1,.int .i64 v.2] 63)=W:=⟨_,rfl⟩
  rw [hW] at hS0
  obtain ⟨x1,x2,x3,_⟩:=hS0.rules 1 (g:=g) (t:=63) rfl
  have x5:=(x1 0).trans (show _=some (.bool v.1) from rfl)
  have x6:=(x1 1).trans (show _=some (.int .i64 v.2) from rfl)
  have CW:=hide (white_any (hS0.get 0 rfl) hn v hv)
  have HW:=hide hW
  have HGG:=hide hg
  have HS0:=hide hS0
  have HV:=hide hv
  unfold shadeC
  obtain ⟨b,hb⟩:∃ b,whiteB s.cols v=b:=⟨_,rfl⟩
  rw [hb] at CW ⊢
  have HB:=hide hb
  obtain ⟨bv2,mv⟩:=v
  dsimp only at HV HB CW x5 x6 HS0 HW ⊢
  clear hS0 hP hF hW hv x1 hb hg
  cases b with
  | false =>
    rw [if_neg (by simp)]
    go_enter Tryz.func47,Tryz.ntmps47
    go_wp2_with fail
    rw [HW.out,HGG.out]
    go_wp2_with fail
    refine CW.out.mono ?_
    rintro e w1 ⟨rfl,hb1⟩
    have HS1:=hide (HS0.out.below hb1)
    clear hb1 HS0 CW x2 x3 x5 x6
    go_wp2_with fail
    go_end0
    exact ⟨⟨_,rfl⟩,HS1.out.sub (List.sublist_append_left [_] [_])⟩
  | true =>
    rw [if_pos rfl]
    have hv1:bv2=true:=by have h:=HB.out; unfold whiteB at h; simp at h; exact h.1
    subst hv1
    obtain ⟨z,rfl,hz⟩:=HV.out rfl
    rw [show ((z:Int)).toNat=z from by omega]
    go_enter Tryz.func47,Tryz.ntmps47
    go_wp2_with fail
    rw [HW.out,HGG.out]
    go_wp2_with fail
    refine CW.out.mono ?_
    rintro e w1 ⟨rfl,hb1⟩
    have hS1:=(HS0.out.below hb1).drew.split
    obtain ⟨gc,hA,hzl,e0,e1,e2⟩:=int_at (show (rowI 3 1 s.Ac s.cols.length s.cc (ints s.cols)).P w1.drew from hS1.get 1 rfl) hz
    obtain ⟨b1,b2,b3,_⟩:=hS1.rules 0 (g:=Be) (t:=95) rfl
    have b5:=(b1 2).trans (show _=some (.slice s.Ac s.cols.length s.cc) from rfl)
    obtain ⟨x1,x2,x3,_⟩:=(HS0.out.below hb1).rules 1 (g:=g) (t:=63) rfl
    have x6:=(x1 1).trans (show _=some (.int .i64 (z:Int)) from rfl)
    rw [hA] at b5
    have he:rowI 3 1 s.Ac s.cols.length s.cc (ints s.cols)=rowI 3 1 (some ⟨gc,0,none⟩) s.cols.length s.cc (ints s.cols):=by rw [hA]
    have hS2:Sep F w w1.drew ((blkI Be 95 (coC bv s) :: rowI 3 1 (some ⟨gc,0,none⟩) s.cols.length s.cc (ints s.cols) :: rowI 3 1 s.Ag s.gone.length s.cg (ints s.gone) :: ojL s.oj) ++ [blkI g 63 #[.bool true,.int .i64 z]]):=by rw [← he]; exact hS1
    have hS3:=hS2.store 1 (g:=gc) rfl z (.int .i64 1)
    rw [ints_setC] at hS3
    have HS3:=hide (show Sep F w (w1.drew.setCell ⟨gc,z,none⟩ (.int .i64 1)) [coI Be bv (s.col (s.cols.set z 1))] from by
      have h4:Sep F w (w1.drew.setCell ⟨gc,z,none⟩ (.int .i64 1)) (coR Be bv (s.col (s.cols.set z 1))):=by
        unfold coR coC CoS.col
        dsimp only
        rw [List.length_set,hA]
        simp only [List.cons_append,List.set_cons_succ,List.set_cons_zero] at hS3
        unfold coC Oj.v at hS3
        rw [hA] at hS3
        exact hS3.sub (List.sublist_append_left (_ :: _ :: _ :: ojL s.oj) [_])
      exact h4.fold)
    have e3:=e1
    have b6:w1.cell? ⟨Be,2,none⟩=some (.slice (some ⟨gc,0,none⟩) s.cols.length s.cc):=b5
    have e4:w1.cell? ⟨gc,z,none⟩=some (.int .i64 (s.cols.getD z 0)):=e0
    have e5:w1.frozen? ⟨gc,z,none⟩=false:=e1
    have e6:gc < w1.heap.size:=e2
    have b7:Be < w1.heap.size:=b3
    obtain ⟨m,hm⟩:∃ m,s.cols.length=m:=⟨_,rfl⟩
    obtain ⟨y,hy⟩:∃ y,s.cols.getD z 0=y:=⟨_,rfl⟩
    rw [hm] at b6 hz hn
    rw [hy] at e4
    have n1:Be ≠ gc:=fun e => hS2.other (a:=0) (b:=1) rfl rfl (by omega) Be rfl (by rw [e]; rfl)
    have n2:gc ≠ Be:=fun e => n1 e.symm
    have n3:gc ≠ g:=fun e => by
      have h9:(rowI 3 1 (some ⟨gc,0,none⟩) s.cols.length s.cc (ints s.cols)).fp g:=by rw [← e]; rfl
      exact (HS0.out.below hb1).other (a:=0) (b:=1) rfl rfl (by omega) g ⟨_,List.mem_cons_of_mem _ (List.mem_cons_self ..),by rw [he]; exact h9⟩ rfl
    have n4:g ≠ gc:=fun e => n3 e.symm
    have t1:decide ((z:Int) < 0)=false:=by simp
    have t2:decide ((m:Int) ≤ (z:Int))=false:=by simp; omega
    have t3:(0:Int) ≤ (z:Int):=by omega
    have t4:(z:Int) < (m:Int):=by omega
    clear hb1 HS0 CW b1 b2 b3 b5 x1 e0 e1 e2 e3 hS1 hS2 hS3 he hA hm hy hzl HV HB
    go_wp2_with fail
    go_region_held3 (fun w' => w'.cell? ⟨Be,2,none⟩=some (.slice (some ⟨gc,0,none⟩) m s.cc) ∧ w'.cell? ⟨g,1,none⟩=some (.int .i64 (z:Int))) (go_keep) (fail)
    all_goals
      go_wp2_with fail
      go_end0
      exact ⟨⟨_,rfl⟩,HS3.out⟩
end Go.Proofs.YtjphckfbbiehdaaGreat

namespace Go.Proofs.YtjphckfbbiehdaaGreat
open Go.RowKit
def greyF (l cols:List Int):Int:=match l.find? (fun x => decide (cols.getD x.toNat 0=1)) with | some x => x | none => -1
theorem thereL_nat {α:Type} {l:List (Option α)} {x:Int} (h:x ∈ thereL l):∃ z:Nat,x=(z:Int) ∧ z < l.length:=by
  obtain ⟨i,a,rfl,h1⟩:=(mem_thereL l x).1 h
  exact ⟨i,rfl,(List.getElem?_eq_some_iff.1 h1).1⟩
set_option maxRecDepth 100000 in
set_option maxHeartbeats 4000000 in
theorem grey_any {Be:Nat} {bv:Value} {s:CoS} {w:World} (hP:(coI Be bv s).P w) (hl:s.cols.length=s.oj.ps.length) (hn:s.oj.ps.length ≤ 1000) :
    Calls Tryz.prog 46 #[.pointer (some ⟨Be,0,none⟩)] w fun e w' => e=.returned (.int .i64 (greyF (thereL s.oj.ps) s.cols)) ∧ Below w.heap.size w w':=by
  have hS:=(Sep.start hP).flat
  obtain ⟨b1,b2,b3,_⟩:=hS.rules 0 (g:=Be) (t:=95) rfl
  have b5:=(b1 0).trans (show _=some (.slice s.oj.As s.oj.ps.length s.oj.c) from rfl)
  have CT:=hide (oThere_any w s.oj.As s.oj.ps.length s.oj.c s.oj.ps hn (hS.rd_ 3 rfl))
  have HPB:=hide (fun (X:World) (hb:Below w.heap.size w X) => ((Sep.start hP).below hb).get 0 rfl)
  have HTN:=hide (fun x (h:x ∈ thereL s.oj.ps) => thereL_nat h)
  have HTL:=hide (thereK_len s.oj.ps s.oj.ps.length)
  obtain ⟨L,hL⟩:∃ l,thereL s.oj.ps=l:=⟨_,rfl⟩
  have hTL2 : L.length ≤ 1000 := by have h1 := HTL.out; have h2 : L.length = (thereK s.oj.ps s.oj.ps.length).length := by rw [← hL]; rfl
                                    omega
  rw [hL] at CT HTN ⊢
  obtain ⟨N,hN⟩:∃ n,s.oj.ps.length=n:=⟨_,rfl⟩
  rw [hN] at b5 CT hl HTN hn
  obtain ⟨C,hC⟩:∃ c,s.cols=c:=⟨_,rfl⟩
  have HC:=hide hC
  rw [hC] at hl ⊢
  have HCL:=hide hl
  clear hS b1 hP hL hC HTL hl hN
  go_enter Tryz.func46,Tryz.ntmps46
  go_wp2_with fail
  refine CT.out.mono ?_
  rintro e w1 ⟨A,c1,rfl,hP1⟩
  obtain ⟨m,hm⟩:∃ m,L.length=m:=⟨_,rfl⟩
  rw [hm] at hP1 hTL2 ⊢
  have HM:=hide hm
  have HP1:=hide hP1
  clear hP1 hm b2 b3 b5 CT
  go_wp2_with fail
  go_loopw [11] (fun i wr => ∃ k:Nat,k ≤ m ∧ i=.int .i64 k ∧ Hid (∀ x ∈ L.take k,C.getD x.toNat 0 ≠ 1) ∧ Sep No w wr [rowI 3 1 A m c1 (ints L)]) (fun i _ => m - (intOf i).toNat)
  case atStart => exact ⟨0,by omega,rfl,by simp [Hid],HP1.out⟩
  case round =>
    clear HP1
    obtain ⟨k,hk,rfl,HG,hS⟩:=hrel
    by_cases hlt:k < m
    · have hkl:k < L.length:=by rw [HM.out]; exact hlt
      obtain ⟨ad,hA,_,had,hc⟩:=(hS.rd_ 0 rfl).at_ hlt
      have e0:=hc (.int .i64 L[k]) (by simp [ints,List.getElem?_eq_getElem hkl])
      have hT:=List.take_succ_eq_append_getElem hkl
      have hmem:L[k] ∈ L:=List.getElem_mem hkl
      have hfi:L=L.take k ++ L[k] :: L.drop (k + 1):=by rw [← List.drop_eq_getElem_cons hkl,List.take_append_drop]
      obtain ⟨x,hx⟩:∃ x,L[k]=x:=⟨_,rfl⟩
      rw [hx] at e0 hT hmem hfi
      obtain ⟨z,rfl,hz⟩:=HTN.out x hmem
      have hCo:=(Sep.start (HPB.out wr hS.below_)).flat
      obtain ⟨b1,b2,b3,_⟩:=hCo.rules 0 (g:=Be) (t:=95) rfl
      have b5:=(b1 2).trans (show _=some (.slice s.Ac s.cols.length s.cc) from rfl)
      have hrow:(rowI 3 1 s.Ac s.cols.length s.cc (ints s.cols)).P wr:=hCo.get 1 rfl
      rw [HC.out,HCL.out] at b5 hrow
      obtain ⟨gc,hA2,_,f0,_,f2⟩:=int_at hrow hz
      rw [hA2] at b5
      obtain ⟨y,hy⟩:∃ y,C.getD z 0=y:=⟨_,rfl⟩
      rw [hy] at f0
      have t1:decide ((z:Int) < 0)=false:=by simp
      have t2:decide ((N:Int) ≤ (z:Int))=false:=by simp; omega
      have HT:=hide hT
      have HFI:=hide hfi
      have HS:=hide hS
      have HY:=hide hy
      subst hA
      clear hc hx hmem hfi hT hCo b1 hrow hA2 hS hy
      by_cases hy1:y=1
      · subst hy1
        go_wp2_with fail
        go_ret
        refine ⟨?_,HS.out.below_⟩
        have h1:greyF L C=(z:Int):=by
          unfold greyF
          have h3:(L.take k).find? (fun x => decide (C.getD x.toNat 0=1))=none:=by
            rw [List.find?_eq_none]
            intro x hx h
            exact HG.out x hx (of_decide_eq_true h)
          rw [HFI.out,List.find?_append,h3,Option.none_or,List.find?_cons,show ((z:Int)).toNat=z from by omega,HY.out]
          simp
        rw [h1]
        rfl
      · have y1:(y == 1)=false:=by simp [hy1]
        have HY1:=hide hy1
        clear hy1
        go_wp2_with fail
        go_roundw
        case rel => exact ⟨k + 1,by omega,by go_num,by
          show ∀ x ∈ L.take (k + 1),C.getD x.toNat 0 ≠ 1
          rw [HT.out]
          intro x hx
          rcases List.mem_append.1 hx with h | h
          · exact HG.out x h
          · rw [List.mem_singleton.1 h,show ((z:Int)).toNat=z from by omega,HY.out]; exact HY1.out,HS.out⟩
        case measure => simp [intOf]; omega
    · obtain rfl:k=m:=by omega
      have h:=HG.out
      rw [List.take_of_length_le (by rw [HM.out]; omega)] at h
      have h1:greyF L C=-1:=by
        unfold greyF
        have h3:L.find? (fun x => decide (C.getD x.toNat 0=1))=none:=by
          rw [List.find?_eq_none]
          intro x hx h2
          exact h x hx (of_decide_eq_true h2)
        rw [h3]
      have H1:=hide h1
      have HS:=hide hS
      clear h h1 hS
      go_wp2_with fail
      go_ret
      refine ⟨?_,HS.out.below_⟩
      rw [H1.out]
      rfl
theorem oj_lenabs (s:Oj):s.abs.length=s.ps.length:=by simp [Oj.abs]
theorem thereK_abs (s:Oj) (k:Nat):thereK s.abs k=thereK s.ps k:=by
  unfold thereK
  congr 1
  refine List.filter_congr fun i _ => ?_
  unfold Oj.abs
  rw [List.getD_eq_getElem?_getD,List.getD_eq_getElem?_getD,List.getElem?_map]
  cases s.ps[i]? with
  | none => rfl
  | some p => cases p <;> rfl
theorem thereL_abs (s:Oj):thereL s.abs=thereL s.ps:=by unfold thereL; rw [oj_lenabs,thereK_abs]
theorem sep_gather {F:Nat → Prop} {W w:World} {b c g:Item} {L:List Item} (h:Sep F W w (b :: c :: g :: L)):Sep F W w [allI (b :: L),c,g] :=
  (h.perm (l:=(b :: L) ++ [c,g]) (List.Perm.cons b (List.perm_append_comm (l₁:=[c,g]) (l₂:=L)))).join
theorem sep_ungather {F:Nat → Prop} {W w:World} {b c g:Item} {L:List Item} (h:Sep F W w [allI (b :: L),c,g]):Sep F W w (b :: c :: g :: L) :=
  (Sep.split h).perm (List.Perm.cons b (List.perm_append_comm (l₁:=L) (l₂:=[c,g])))
set_option maxRecDepth 100000 in
set_option maxHeartbeats 8000000 in
theorem cnew_any {Be:Nat} {bv:Value} {s:CoS} {w:World} (hP:(coI Be bv s).P w) (hl:s.cols.length=s.oj.ps.length) (hn:s.oj.ps.length ≤ 900) {n:Nat} (h4:n ≤ 4) :
    Calls Tryz.prog 112 #[.pointer (some ⟨Be,0,none⟩),.int .i64 n] w fun e w' =>
      (24 ≤ (thereL s.oj.ps).length ∧ e=.returned (.tuple #[.int .i64 0,.int .i64 6]) ∧ Below w.heap.size w w') ∨
      ((thereL s.oj.ps).length < 24 ∧ e=.returned (.tuple #[.int .i64 s.oj.ps.length,.int .i64 0]) ∧ ∃ s',s'.oj.abs=s.oj.abs ++ [some (zeroVs n)] ∧ s'.cols=s.cols ++ [2] ∧ s'.gone=s.gone ∧ Sep (coI Be bv s).fp w w' [coI Be bv s']):=by
  obtain ⟨F,hF⟩:∃ F,(coI Be bv s).fp=F:=⟨_,rfl⟩
  have hS:Sep F w w (coR Be bv s):=by rw [← hF]; exact (Sep.start hP).flat
  rw [hF]
  obtain ⟨b1,b2,b3,_⟩:=hS.rules 0 (g:=Be) (t:=95) rfl
  have b5:=(b1 0).trans (show _=some (.slice s.oj.As s.oj.ps.length s.oj.c) from rfl)
  have CT:=hide (oThere_any w s.oj.As s.oj.ps.length s.oj.c s.oj.ps (by omega) (hS.rd_ 3 rfl))
  have HS:=hide hS
  obtain ⟨M,hM⟩:∃ l,(thereL s.oj.ps).length=l:=⟨_,rfl⟩
  rw [hM] at CT ⊢
  have hM2:M ≤ 900:=by have h1:=thereK_len s.oj.ps s.oj.ps.length; have h2:(thereK s.oj.ps s.oj.ps.length).length=M:=hM; omega
  have HL:=hide hl
  clear hS b1 hP hF hM hl
  by_cases h24:24 ≤ M
  · have t1:decide ((24:Int) ≤ (M:Int))=true:=by simp; omega
    have t2:decide (24 ≤ M)=true:=by simp; omega
    go_enter Tryz.func112,Tryz.ntmps112
    go_wp2_with fail
    refine CT.out.mono ?_
    rintro e w1 ⟨A,c1,rfl,hP1⟩
    have HB:=hide hP1.below_
    clear hP1
    go_wp2_with fail
    refine bodyPost_ret (v:=.tuple #[.int .i64 0,.int .i64 6]) (by simp [results,Tryz.results112,go_sem]) rfl (.inl ⟨h24,rfl,HB.out⟩)
  · have t1:decide ((24:Int) ≤ (M:Int))=false:=by simp; omega
    have t2:decide (24 ≤ M)=false:=by simp; omega
    go_enter Tryz.func112,Tryz.ntmps112
    go_wp2_with fail
    refine CT.out.mono ?_
    rintro e w1 ⟨A,c1,rfl,hP1⟩
    have hS1:=HS.out.below hP1.below_
    obtain ⟨b1,b2,b3,_⟩:=hS1.rules 0 (g:=Be) (t:=95) rfl
    have b6:=(b1 2).trans (show _=some (.slice s.Ac s.cols.length s.cc) from rfl)
    have hS1b:Sep F w w1 (blkI Be 95 (coC bv s) :: rowI 3 1 s.Ac s.cols.length s.cc (ints s.cols) :: rowI 3 1 s.Ag s.gone.length s.cg (ints s.gone) :: ojL s.oj):=hS1
    obtain ⟨m,hm⟩:∃ m,s.cols.length=m:=⟨_,rfl⟩
    have HMM:=hide hm
    rw [hm] at b6 hS1b
    have hm9:m ≤ 900:=by have h1:=HL.out; omega
    clear hP1 b1 hS1 b5 HS CT hm
    go_wp2_with (first
      | (at_builtin
         refine wpList_app1 (cs:=#[.int .i64 2]) rfl (.tmp 17) (.tmp 18) 33 rfl (F:=F) (W:=w) sInt (items:=_ :: _ :: _ :: _) hS1b 1 (n:=m) rfl rfl rfl (by simp) rfl rfl (by omega) ?_
         intro A7 c7 w7 hS7 hC7
         obtain ⟨k1,k2,k3,_⟩:=hS7.rules 0 (g:=Be) (t:=95) rfl))
    have hS8:=sep_gather (hS7.set_ 0 (g:=Be) (t:=95) rfl 2 (.slice A7 (m + 1) c7))
    have CN:=onew_any ((Sep.start (hS8.get 0 rfl)).flat) (s:=s.oj) rfl (by omega) h4
    refine CN.mono ?_
    rintro e w9 ⟨rfl,As,cA,B,gB,hP9⟩
    have hS9:=sep_ungather (hS8.call 0 rfl hP9.fold)
    have HFIN:=hide (show Sep F w w9 [coI Be bv ⟨s.oj.new As cA B gB n,A7,c7,s.cols ++ [2],s.Ag,s.cg,s.gone⟩] from by
      have h:Sep F w w9 (coR Be bv ⟨s.oj.new As cA B gB n,A7,c7,s.cols ++ [2],s.Ag,s.cg,s.gone⟩):=by
        unfold coR coC
        dsimp only
        rw [List.length_append,List.length_singleton,HMM.out,show ints (s.cols ++ [2])=ints s.cols ++ [.int .i64 2] from by simp [ints]]
        exact hS9
      exact h.fold)
    clear hS9 hP9 hS8 hS7 hC7 k1 k2 k3 CN
    go_wp2_with fail
    refine bodyPost_ret (v:=.tuple #[.int .i64 s.oj.ps.length,.int .i64 0]) (by simp [results,Tryz.results112,go_sem]) rfl (.inr ⟨by omega,rfl,⟨s.oj.new As cA B gB n,A7,c7,s.cols ++ [2],s.Ag,s.cg,s.gone⟩,Oj.abs_new _ _ _ _ _ _,rfl,rfl,HFIN.out⟩)
end Go.Proofs.YtjphckfbbiehdaaGreat
