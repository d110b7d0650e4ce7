/- Part of a proof. -/
import Derived.Test.YtjphckfbbiehdaaGreatSTopAll17
import Derived.Test.YtjphckfbbiehdaaGreatSTopAll15
set_option linter.unusedSimpArgs false
set_option linter.unusedVariables false
namespace Go.Proofs.YtjphckfbbiehdaaGreat
open Go.RowKit
def gnErr (a:GnA) (v:Val) (at_:Int):Int:=if v.1=false then 5 else if at_ < 0 ∨ (((a.fld v.2.toNat).getD []).length:Int) ≤ at_ then 3 else 0
def gnKst (room:Nat) (d:DoV) (a:GnA):OutV × GnA :=
  if d.k=1 then
    if (gnNew room a d.n.toNat).2.2 ≠ 0 then (⟨(gnNew room a d.n.toNat).2.2,false,0⟩,(gnNew room a d.n.toNat).1)
    else (⟨0,false,0⟩,(gnNew room a d.n.toNat).1.sr d.to.toNat (true,(gnNew room a d.n.toNat).2.1))
  else if d.k=2 then (⟨0,false,0⟩,a.sr d.to.toNat (false,d.n))
  else if d.k=3 then (⟨0,false,0⟩,a.sr d.to.toNat (rgA a.regs d.fr))
  else if d.k=4 then
    if gnErr a (rgA a.regs d.to) d.at_ ≠ 0 then (⟨gnErr a (rgA a.regs d.to) d.at_,false,0⟩,a)
    else (⟨0,false,0⟩,gnPut a (rgA a.regs d.to).2.toNat d.at_.toNat (rgA a.regs d.fr))
  else if d.k=5 then
    if gnErr a (rgA a.regs d.fr) d.at_ ≠ 0 then (⟨gnErr a (rgA a.regs d.fr) d.at_,false,0⟩,a)
    else (⟨0,false,0⟩,a.sr d.to.toNat (((a.fld (rgA a.regs d.fr).2.toNat).getD []).getD d.at_.toNat (false,0)))
  else if d.k=6 then (⟨0,false,if rgA a.regs d.to=rgA a.regs d.fr then 1 else 0⟩,a)
  else (⟨0,(rgA a.regs d.fr).1,if (rgA a.regs d.fr).1=true then (((a.fld (rgA a.regs d.fr).2.toNat).getD []).length:Int) else (rgA a.regs d.fr).2⟩,a)
def gnDo (room:Nat) (d:DoV) (a:GnA):OutV × GnA:=if wrongM d ≠ 0 then (⟨wrongM d,false,0⟩,a) else gnKst room d a
def gnStep (room:Nat) (d:DoV) (a:GnA):OutV × GnA:=if d.k=8 then (⟨0,false,0⟩,a.minor) else if d.k=9 then (⟨0,false,0⟩,a.major) else gnDo room d a
structure GnSim (a:GnA) (σ:MSt):Prop where
  r:a.regs=σ.regs
  n:a.objs.length=σ.objs.length
  f:∀ i fs,a.fld i=some fs → σ.objs[i]?=some fs
theorem GnSim.ob {a:GnA} {σ:MSt} (h:GnSim a σ) {i:Nat} {fs:List Val} (hf:a.fld i=some fs):obA σ.objs (i:Int)=fs:=by
  unfold obA
  rw [Int.toNat_natCast,List.getD_eq_getElem?_getD,h.f i fs hf]; rfl
theorem GnSim.err {a:GnA} {σ:MSt} (h:GnSim a σ) (ok:GnOk a) (r at_:Int):gnErr a (rgA a.regs r) at_=fErr σ.objs (rgA σ.regs r) at_:=by
  rw [← h.r]
  unfold gnErr fErr
  by_cases hb:(rgA a.regs r).1=false
  · rw [if_pos hb,if_pos hb]
  · rw [if_neg hb,if_neg hb]
    obtain ⟨i,fs,e,hf⟩:=ok.rg r (by simpa using hb)
    rw [e,h.ob hf,Int.toNat_natCast,hf]
    rfl
theorem GnSim.drop {a:GnA} {σ:MSt} (h:GnSim a σ) (K:Nat → Bool) (old:List Bool) (mk:List Gp):GnSim ⟨a.regs,dropK K a.objs,old,mk⟩ σ :=
  ⟨h.r,(dropK_len K a.objs).trans h.n,fun i fs hf => h.f i fs (dropK_fld.1 hf).1⟩
theorem GnSim.room {a:GnA} {σ:MSt} (h:GnSim a σ) (room:Nat):GnSim (gnRoom room a) σ:=by
  unfold gnRoom
  split
  · exact h.drop _ _ _
  · exact h
theorem GnSim.push {a:GnA} {σ:MSt} (h:GnSim a σ) (n:Nat):GnSim (a.push n) ⟨σ.regs,σ.objs ++ [zeroVs n]⟩:=by
  refine ⟨h.r,?_,fun i fs hf => ?_⟩
  · show (a.objs ++ [_]).length=(σ.objs ++ [_]).length
    simp [h.n]
  · rcases (a.push_fld n i fs).1 hf with h1 | ⟨rfl,rfl⟩
    · have h2:=h.f i fs h1
      have h3:=(List.getElem?_eq_some_iff.1 h2).1
      show (σ.objs ++ [zeroVs n])[i]?=_
      rw [List.getElem?_append_left h3]; exact h2
    · show (σ.objs ++ [zeroVs n])[_]?=_
      rw [h.n]; simp
theorem GnSim.sr {a:GnA} {σ:MSt} (h:GnSim a σ) (r:Nat) (v:Val):GnSim (a.sr r v) ⟨σ.regs.set r v,σ.objs⟩ :=
  ⟨by show a.regs.set r v=_; rw [h.r],h.n,h.f⟩
theorem GnSim.put {a:GnA} {σ:MSt} (h:GnSim a σ) {i k:Nat} {fs:List Val} {v:Val} (hf:a.fld i=some fs):GnSim (gnPut a i k v) ⟨σ.regs,σ.objs.set i (fs.set k v)⟩:=by
  refine ⟨h.r,?_,fun j gs hg => ?_⟩
  · show (a.objs.set i _).length=(σ.objs.set i _).length
    rw [List.length_set,List.length_set]; exact h.n
  · show (σ.objs.set i (fs.set k v))[j]?=_
    rw [List.getElem?_set]
    rcases (gnPut_fld v hf j gs).1 hg with ⟨rfl,rfl⟩ | ⟨h1,h2⟩
    · rw [if_pos rfl,if_pos (by rw [← h.n]; exact GnA.fld_lt hf)]
    · rw [if_neg (fun e => h1 e.symm)]; exact h.f j gs h2
theorem GnOk.at_field {a:GnA} (ok:GnOk a) {r at_:Int} (h:gnErr a (rgA a.regs r) at_=0):∃ (i:Nat) (fs:List Val),rgA a.regs r=(true,(i:Int)) ∧ a.fld i=some fs ∧ 0 ≤ at_ ∧ at_.toNat < fs.length:=by
  unfold gnErr at h
  split at h
  · omega
  · rename_i hb
    have hb':(rgA a.regs r).1=true:=by simpa using hb
    obtain ⟨i,fs,e,hf⟩:=ok.rg r hb'
    rw [e,Int.toNat_natCast,hf,Option.getD_some] at h
    split at h
    · omega
    · exact ⟨i,fs,Prod.ext hb' e,hf,by omega,by omega⟩
theorem gnNe:(0:Int) ≠ 6:=by decide
theorem wrongM_ne6 (d:DoV):wrongM d ≠ 6:=by
  unfold wrongM
  split
  · decide
  · split
    · decide
    · split
      · decide
      · split <;> decide
theorem gnErr_ne6 (a:GnA) (v:Val) (at_:Int):gnErr a v at_ ≠ 6:=by
  unfold gnErr
  split
  · decide
  · split <;> decide
theorem gnDo_sim {a:GnA} {σ:MSt} (room:Nat) (h:GnSim a σ) (ok:GnOk a) (d:DoV) :
    GnOk (gnDo room d a).2 ∧ (((gnDo room d a).1=⟨6,false,0⟩ ∧ GnSim (gnDo room d a).2 σ) ∨ ((gnDo room d a).1.code ≠ 6 ∧ (gnDo room d a).1=(stepM d σ).1 ∧ GnSim (gnDo room d a).2 (stepM d σ).2)):=by
  unfold gnDo stepM
  by_cases hw:wrongM d ≠ 0
  · rw [if_pos hw,if_pos hw]
    exact ⟨ok,.inr ⟨wrongM_ne6 d,rfl,h⟩⟩
  rw [if_neg hw,if_neg hw]
  have hw0:wrongM d=0:=by omega
  unfold gnKst stepK
  by_cases h1:d.k=1
  · rw [if_pos h1,if_pos h1]
    have h4:=wrongM_n hw0 h1
    have hnew:=ok.new_ room (n:=d.n.toNat) (by omega)
    unfold gnNew at hnew ⊢
    by_cases hc:24 ≤ (gnRoom room a).many true
    · rw [if_pos hc] at hnew ⊢
      rw [if_pos (show ¬ (6:Int)=0 by decide)]
      exact ⟨hnew.1,.inl ⟨rfl,h.room room⟩⟩
    · rw [if_neg hc] at hnew ⊢
      rw [if_neg (show ¬ (0:Int) ≠ 0 by decide)]
      refine ⟨hnew.1.sr _ (hnew.2 rfl),.inr ⟨gnNe,rfl,?_⟩⟩
      dsimp only
      rw [h.n]
      exact ((h.room room).push d.n.toNat).sr _ _
  rw [if_neg h1,if_neg h1]
  by_cases h2:d.k=2
  · rw [if_pos h2,if_pos h2]
    exact ⟨ok.sr _ (fun h => by cases h),.inr ⟨gnNe,rfl,h.sr _ _⟩⟩
  rw [if_neg h2,if_neg h2]
  by_cases h3:d.k=3
  · rw [if_pos h3,if_pos h3]
    refine ⟨ok.sr _ (ok.rg _),.inr ⟨gnNe,rfl,?_⟩⟩
    rw [← h.r]
    have:=h.sr d.to.toNat (rgA a.regs d.fr)
    rwa [← h.r] at this
  rw [if_neg h3,if_neg h3]
  by_cases h5:d.k=4
  · rw [if_pos h5,if_pos h5]
    have he:=h.err ok d.to d.at_
    by_cases hz:gnErr a (rgA a.regs d.to) d.at_ ≠ 0
    · rw [if_pos hz,if_pos (by rw [← he]; exact hz)]
      exact ⟨ok,.inr ⟨gnErr_ne6 _ _ _,by rw [he],h⟩⟩
    · rw [if_neg hz,if_neg (by rw [← he]; exact hz)]
      obtain ⟨i,fs,e,hf,_,hl⟩:=ok.at_field (r:=d.to) (at_:=d.at_) (by omega)
      rw [← h.r,e]
      dsimp only
      rw [Int.toNat_natCast,h.ob hf]
      refine ⟨ok.put hf hl (ok.rg _),.inr ⟨gnNe,rfl,?_⟩⟩
      have:=h.put (k:=d.at_.toNat) (v:=rgA a.regs d.fr) hf
      rwa [← h.r] at this
  rw [if_neg h5,if_neg h5]
  by_cases h6:d.k=5
  · rw [if_pos h6,if_pos h6]
    have he:=h.err ok d.fr d.at_
    by_cases hz:gnErr a (rgA a.regs d.fr) d.at_ ≠ 0
    · rw [if_pos hz,if_pos (by rw [← he]; exact hz)]
      exact ⟨ok,.inr ⟨gnErr_ne6 _ _ _,by rw [he],h⟩⟩
    · rw [if_neg hz,if_neg (by rw [← he]; exact hz)]
      obtain ⟨i,fs,e,hf,_⟩:=ok.at_field (r:=d.fr) (at_:=d.at_) (by omega)
      rw [← h.r,e]
      dsimp only
      rw [Int.toNat_natCast,h.ob hf,hf,Option.getD_some]
      refine ⟨ok.sr _ ?_,.inr ⟨gnNe,rfl,?_⟩⟩
      · rcases getD_mem_or fs d.at_.toNat (false,0) with h7 | h7
        · exact ok.vf i fs _ hf h7
        · rw [h7]; intro h8; cases h8
      · have:=h.sr d.to.toNat (fs.getD d.at_.toNat (false,0))
        rwa [← h.r] at this
  rw [if_neg h6,if_neg h6]
  by_cases h7:d.k=6
  · rw [if_pos h7,if_pos h7]
    exact ⟨ok,.inr ⟨gnNe,by rw [h.r],h⟩⟩
  · rw [if_neg h7,if_neg h7]
    refine ⟨ok,.inr ⟨gnNe,?_,h⟩⟩
    rw [← h.r]
    by_cases hb:(rgA a.regs d.fr).1=true
    · obtain ⟨i,fs,e,hf⟩:=ok.rg d.fr hb
      rw [if_pos hb,if_pos hb,e,h.ob hf,Int.toNat_natCast,hf]
      rfl
    · rw [if_neg hb,if_neg hb]
structure GrA where
  σ:MSt
  old:List Bool
  gone:List Bool
  mks:List Gp
def GrA.od (r:GrA) (i:Nat):Bool:=r.old.getD i false
def GrA.gn (r:GrA) (i:Nat):Bool:=r.gone.getD i false
def GrA.gY (r:GrA):List (List Val):=(List.range r.old.length).map fun i => if r.od i=true then [] else obA r.σ.objs i
def GrA.rt (r:GrA):List Val:=r.σ.regs ++ r.mks.map fun p => (obA r.σ.objs p.1).getD p.2 (false,0)
def GrA.minor (r:GrA):GrA:=⟨r.σ,List.replicate r.old.length true,(List.range r.old.length).map fun i => r.gn i || (!r.od i && !decide ((i:Int) ∈ reachR r.gY r.rt)),[]⟩
def GrA.major (r:GrA):GrA:=⟨r.σ,List.replicate r.old.length true,(List.range r.old.length).map fun i => r.gn i || !decide ((i:Int) ∈ reachR r.σ.objs r.σ.regs),[]⟩
def GrA.many (r:GrA) (b:Bool):Nat:=((List.range r.old.length).filter fun i => !r.gn i && (r.od i == b)).length
def grRoom (room:Nat) (r:GrA):GrA:=if room ≤ r.many false then r.minor else r
def GrA.new_ (d:DoV) (r:GrA):OutV × GrA:=((stepM d r.σ).1,⟨(stepM d r.σ).2,r.old ++ [false],r.gone ++ [false],r.mks⟩)
def GrA.rem (d:DoV) (r:GrA):List Gp :=
  if d.k=4 ∧ fErr r.σ.objs (rgA r.σ.regs d.to) d.at_=0 ∧ (r.od (rgA r.σ.regs d.to).2.toNat && (rgA r.σ.regs d.fr).1 && !r.od (rgA r.σ.regs d.fr).2.toNat)=true then insF ((rgA r.σ.regs d.to).2.toNat,d.at_.toNat) r.mks else r.mks
def grStep (room:Nat) (d:DoV) (r:GrA):OutV × GrA :=
  if d.k=8 then (⟨0,false,0⟩,r.minor) else if d.k=9 then (⟨0,false,0⟩,r.major)
  else if wrongM d ≠ 0 then (⟨wrongM d,false,0⟩,r)
  else if d.k=1 then if 24 ≤ (grRoom room r).many true then (⟨6,false,0⟩,grRoom room r) else (grRoom room r).new_ d
  else ((stepM d r.σ).1,⟨(stepM d r.σ).2,r.old,r.gone,r.rem d⟩)
structure GrSim (a:GnA) (r:GrA):Prop where
  ok:GnOk a
  mok:MOk r.σ
  sim:GnSim a r.σ
  ol:r.old.length=a.objs.length
  gl:r.gone.length=a.objs.length
  gn:∀ i,i < a.objs.length → r.gn i=(a.fld i).isNone
  od:∀ i fs,a.fld i=some fs → r.od i=a.od i
  og:∀ i,i < a.objs.length → a.fld i=none → r.od i=true
  mks:r.mks=a.mks
theorem GrSim.gY {a:GnA} {r:GrA} (h:GrSim a r):r.gY=a.gsY:=by
  unfold GrA.gY GnA.gsY
  rw [h.ol]
  refine List.map_congr_left fun i hi => ?_
  have hi:=List.mem_range.1 hi
  cases hf:a.fld i with
  | none => rw [h.og i hi hf,if_pos rfl]; simp
  | some fs => rw [h.od i fs hf,h.sim.ob hf]; rfl
theorem GrSim.rt {a:GnA} {r:GrA} (h:GrSim a r):r.rt=a.rtY:=by
  unfold GrA.rt GnA.rtY
  rw [h.mks,h.sim.r]
  congr 1
  refine List.map_congr_left fun p hp => ?_
  obtain ⟨_,fs,hf,_⟩:=h.ok.mo p hp
  rw [h.sim.ob hf,hf]
  rfl
theorem range_gd (f:Nat → Bool) {n i:Nat} (h:i < n):((List.range n).map f).getD i false=f i:=GnA.od_range f n i h
theorem rep_gd {n i:Nat} (h:i < n):(List.replicate n true).getD i false=true:=by
  rw [List.getD_eq_getElem?_getD,List.getElem?_replicate,if_pos h]; rfl
theorem GrSim.minor {a:GnA} {r:GrA} (h:GrSim a r):GrSim a.minor r.minor:=by
  have hl:a.minor.objs.length=a.objs.length:=dropK_len _ _
  have hk:∀ i,i < a.objs.length → r.minor.gn i=(r.gn i || (!r.od i && !decide ((i:Int) ∈ reachR a.gsY a.rtY))):=fun i hi => by
    show ((List.range r.old.length).map _).getD i false=_
    rw [range_gd _ (by rw [h.ol]; exact hi),h.gY,h.rt]
  refine ⟨h.ok.minor,h.mok,h.sim.drop _ _ _,?_,?_,fun i hi => ?_,fun i fs hf => ?_,fun i hi _ => ?_,rfl⟩
  · show (List.replicate _ _).length=_; rw [List.length_replicate,hl,h.ol]
  · show ((List.range _).map _).length=_; rw [List.length_map,List.length_range,hl,h.ol]
  · rw [hl] at hi
    rw [hk i hi,h.gn i hi]
    cases hf:a.fld i with
    | none =>
      have:a.minor.fld i=none:=by
        cases h2:a.minor.fld i with
        | none => rfl
        | some gs => have:=(dropK_fld.1 h2).1; rw [hf] at this; cases this
      rw [this]; rfl
    | some fs =>
      rw [h.od i fs hf]
      have e:(!a.od i && !decide ((i:Int) ∈ reachR a.gsY a.rtY))=!a.kept i:=by unfold GnA.kept; rw [Bool.not_or]
      rw [e]
      cases hkp:a.kept i with
      | true =>
        have:a.minor.fld i=some fs:=dropK_fld.2 ⟨hf,hkp⟩
        rw [this]; rfl
      | false =>
        have:a.minor.fld i=none:=by
          cases h2:a.minor.fld i with
          | none => rfl
          | some gs => have:=(dropK_fld.1 h2).2; rw [hkp] at this; cases this
        rw [this]; rfl
  · obtain ⟨hf1,hk1⟩:=dropK_fld.1 hf
    have hi:=GnA.fld_lt hf1
    show (List.replicate _ _).getD i false=((List.range _).map _).getD i false
    rw [rep_gd (by rw [h.ol]; exact hi),range_gd _ hi,hk1]
  · rw [hl] at hi
    exact rep_gd (by rw [h.ol]; exact hi)
theorem GrSim.lives {a:GnA} {r:GrA} (h:GrSim a r) (i:Nat):decide ((i:Int) ∈ reachR r.σ.objs r.σ.regs)=a.lives i:=by
  unfold GnA.lives
  rw [decide_eq_decide,mem_reachR h.mok.vo h.mok.vr,mem_reachR h.ok.gv.1 h.ok.gv.2,← h.sim.r]
  have th:∀ k x,Lev a.gs a.regs k x → ∃ (j:Nat) (fs:List Val),x=(j:Int) ∧ a.fld j=some fs:=by
    intro k x hx
    induction hx with
    | root i hi => exact h.ok.vr _ hi rfl
    | step k i j _ hj ih =>
      obtain ⟨z,fs,rfl,hf⟩:=ih
      rw [a.gs_get,hf] at hj
      exact h.ok.vf z fs _ hf hj rfl
  have fe:∀ (j:Nat) (fs:List Val),a.fld j=some fs → fieldsI r.σ.objs (j:Int)=fieldsI a.gs (j:Int):=fun j fs hf => by
    rw [a.gs_get,hf]
    exact h.sim.ob hf
  constructor
  · rintro ⟨k,hk⟩
    have:∀ k x,Lev r.σ.objs a.regs k x → Lev a.gs a.regs k x:=by
      intro k x hx
      induction hx with
      | root i hi => exact .root i hi
      | step k i j _ hj ih =>
        obtain ⟨z,fs,rfl,hf⟩:=th _ _ ih
        rw [fe z fs hf] at hj
        exact .step k _ j ih hj
    exact ⟨k,this k _ hk⟩
  · rintro ⟨k,hk⟩
    have:∀ k x,Lev a.gs a.regs k x → Lev r.σ.objs a.regs k x:=by
      intro k x hx
      induction hx with
      | root i hi => exact .root i hi
      | step k i j hi hj ih =>
        obtain ⟨z,fs,rfl,hf⟩:=th _ _ hi
        rw [← fe z fs hf] at hj
        exact .step k _ j ih hj
    exact ⟨k,this k _ hk⟩
theorem GrSim.major {a:GnA} {r:GrA} (h:GrSim a r):GrSim a.major r.major:=by
  have hl:a.major.objs.length=a.objs.length:=dropK_len _ _
  have hk:∀ i,i < a.objs.length → r.major.gn i=(r.gn i || !a.lives i):=fun i hi => by
    show ((List.range r.old.length).map _).getD i false=_
    rw [range_gd _ (by rw [h.ol]; exact hi),h.lives]
  refine ⟨h.ok.major,h.mok,h.sim.drop _ _ _,?_,?_,fun i hi => ?_,fun i fs hf => ?_,fun i hi _ => ?_,rfl⟩
  · show (List.replicate _ _).length=_; rw [List.length_replicate,hl,h.ol]
  · show ((List.range _).map _).length=_; rw [List.length_map,List.length_range,hl,h.ol]
  · rw [hl] at hi
    rw [hk i hi,h.gn i hi]
    cases hf:a.fld i with
    | none =>
      have:a.major.fld i=none:=by
        cases h2:a.major.fld i with
        | none => rfl
        | some gs => have:=(dropK_fld.1 h2).1; rw [hf] at this; cases this
      rw [this]; rfl
    | some fs =>
      cases hkp:a.lives i with
      | true =>
        have:a.major.fld i=some fs:=dropK_fld.2 ⟨hf,hkp⟩
        rw [this]; rfl
      | false =>
        have:a.major.fld i=none:=by
          cases h2:a.major.fld i with
          | none => rfl
          | some gs => have:=(dropK_fld.1 h2).2; rw [hkp] at this; cases this
        rw [this]; rfl
  · obtain ⟨hf1,hk1⟩:=dropK_fld.1 hf
    have hi:=GnA.fld_lt hf1
    show (List.replicate _ _).getD i false=((List.range _).map _).getD i false
    rw [rep_gd (by rw [h.ol]; exact hi),range_gd _ hi,hf1]
    simp
  · rw [hl] at hi
    exact rep_gd (by rw [h.ol]; exact hi)
theorem GrSim.many {a:GnA} {r:GrA} (h:GrSim a r) (b:Bool):r.many b=a.many b:=by
  unfold GrA.many GnA.many thereL thereK
  rw [List.filter_map,List.length_map,List.filter_filter,h.ol]
  congr 1
  refine List.filter_congr fun i hi => ?_
  have hi:=List.mem_range.1 hi
  have e:(a.objs.getD i none).isSome=(a.fld i).isSome:=by unfold GnA.fld; rw [List.getD_eq_getElem?_getD]
  rw [h.gn i hi,e]
  cases hf:a.fld i with
  | none => simp
  | some fs => rw [h.od i fs hf]; simp
theorem GrSim.room {a:GnA} {r:GrA} (h:GrSim a r) (room:Nat):GrSim (gnRoom room a) (grRoom room r):=by
  unfold gnRoom grRoom
  rw [h.many]
  split
  · exact h.minor
  · exact h
theorem GrA.room_σ (room:Nat) (r:GrA):(grRoom room r).σ=r.σ:=by unfold grRoom; split <;> rfl
theorem snoc_gd {l:List Bool} {i:Nat} (h:i < l.length) (b:Bool):(l ++ [b]).getD i false=l.getD i false:=by
  rw [List.getD_eq_getElem?_getD,List.getD_eq_getElem?_getD,List.getElem?_append_left h]
theorem snoc_gd_last {l:List Bool} {n:Nat} (h:n=l.length) (b:Bool):(l ++ [b]).getD n false=b:=by
  subst h
  rw [List.getD_eq_getElem?_getD]; simp
theorem GrSim.same {a a':GnA} {r:GrA} {σ':MSt} {mk:List Gp} (h:GrSim a r) (ok:GnOk a') (mok:MOk σ') (sim:GnSim a' σ') (hl:a'.objs.length=a.objs.length) (hf:∀ i,(a'.fld i).isNone=(a.fld i).isNone) (ho:a'.old=a.old) (hm:mk=a'.mks) :
    GrSim a' ⟨σ',r.old,r.gone,mk⟩:=by
  refine ⟨ok,mok,sim,by rw [hl]; exact h.ol,by rw [hl]; exact h.gl,fun i hi => ?_,fun i fs hfs => ?_,fun i hi hfn => ?_,hm⟩
  · rw [hf]; exact h.gn i (by rw [← hl]; exact hi)
  · have h1:=hf i
    rw [hfs] at h1
    cases h2:a.fld i with
    | none => rw [h2] at h1; cases h1
    | some gs =>
      have h3:a'.od i=a.od i:=by unfold GnA.od; rw [ho]
      rw [h3]
      exact h.od i gs h2
  · have h1:=hf i
    rw [hfn] at h1
    cases h2:a.fld i with
    | some gs => rw [h2] at h1; cases h1
    | none => exact h.og i (by rw [← hl]; exact hi) h2
theorem GrSim.step {a:GnA} {r:GrA} (h:GrSim a r) (room:Nat) (d:DoV):(gnStep room d a).1=(grStep room d r).1 ∧ GrSim (gnStep room d a).2 (grStep room d r).2:=by
  unfold gnStep grStep
  by_cases h8:d.k=8
  · rw [if_pos h8,if_pos h8]; exact ⟨rfl,h.minor⟩
  rw [if_neg h8,if_neg h8]
  by_cases h9:d.k=9
  · rw [if_pos h9,if_pos h9]; exact ⟨rfl,h.major⟩
  rw [if_neg h9,if_neg h9]
  by_cases hw:wrongM d ≠ 0
  · unfold gnDo
    rw [if_pos hw,if_pos hw]; exact ⟨rfl,h⟩
  rw [if_neg hw]
  have hw0:wrongM d=0:=by omega
  have hs:=gnDo_sim room h.sim h.ok d
  have hmok:=(h.mok.step d).1
  by_cases h1:d.k=1
  · rw [if_pos h1]
    have h4:=wrongM_n hw0 h1
    have hr:=h.room room
    have hst:stepM d r.σ=(⟨0,false,0⟩,⟨r.σ.regs.set d.to.toNat (true,r.σ.objs.length),r.σ.objs ++ [zeroVs d.n.toNat]⟩):=by
      unfold stepM stepK
      rw [if_neg hw,if_pos h1]
    unfold gnDo at hs ⊢
    rw [if_neg hw] at hs ⊢
    unfold gnKst at hs ⊢
    rw [if_pos h1] at hs ⊢
    rw [hr.many]
    unfold gnNew at hs ⊢
    by_cases hc:24 ≤ (gnRoom room a).many true
    · rw [if_pos hc,if_pos hc,if_pos (show ¬ (6:Int)=0 by decide)]
      exact ⟨rfl,hr⟩
    · rw [if_neg hc,if_neg hc,if_neg (show ¬ (0:Int) ≠ 0 by decide)]
      rw [if_neg hc,if_neg (show ¬ (0:Int) ≠ 0 by decide)] at hs
      unfold GrA.new_
      rw [GrA.room_σ,hst]
      rw [hst] at hmok
      dsimp only at hs hmok ⊢
      refine ⟨rfl,?_⟩
      obtain ⟨k1,k2⟩:=hs
      rcases k2 with ⟨k2,_⟩ | ⟨_,_,k4⟩
      · injection k2 with k2; cases k2
      · rw [hst] at k4
        have hlr:(gnRoom room a).objs.length=a.objs.length:=gnRoom_len room a
        have hl:(((gnRoom room a).push d.n.toNat).sr d.to.toNat (true,(a.objs.length:Int))).objs.length=a.objs.length + 1:=by
          show ((gnRoom room a).objs ++ [_]).length=_; rw [List.length_append,hlr]; rfl
        have hfl:∀ i fs,(((gnRoom room a).push d.n.toNat).sr d.to.toNat (true,(a.objs.length:Int))).fld i=some fs ↔ ((gnRoom room a).push d.n.toNat).fld i=some fs:=fun i fs => Iff.rfl
        have hnone:∀ i,i < a.objs.length → (((gnRoom room a).push d.n.toNat).sr d.to.toNat (true,(a.objs.length:Int))).fld i=(gnRoom room a).fld i:=fun i hi => by
          show ((gnRoom room a).objs ++ [_])[i]?.getD none=(gnRoom room a).objs[i]?.getD none
          rw [List.getElem?_append_left (by rw [hlr]; exact hi)]
        have hod:∀ i,i < a.objs.length → (((gnRoom room a).push d.n.toNat).sr d.to.toNat (true,(a.objs.length:Int))).od i=(gnRoom room a).od i:=fun i hi => hr.ok.push_od d.n.toNat i (by rw [hlr]; exact hi)
        have ho1:(grRoom room r).old.length=a.objs.length:=by rw [hr.ol,hlr]
        have hg1:(grRoom room r).gone.length=a.objs.length:=by rw [hr.gl,hlr]
        refine ⟨k1,hmok,k4,?_,?_,fun i hi => ?_,fun i fs hf => ?_,fun i hi hf => ?_,hr.mks⟩
        · show ((grRoom room r).old ++ [false]).length=_; rw [List.length_append,ho1,hl]; rfl
        · show ((grRoom room r).gone ++ [false]).length=_; rw [List.length_append,hg1,hl]; rfl
        · show ((grRoom room r).gone ++ [false]).getD i false=_
          rw [hl] at hi
          by_cases e:i < a.objs.length
          · rw [snoc_gd (by rw [hg1]; exact e),hnone i e]
            exact hr.gn i (by rw [hlr]; exact e)
          · rw [snoc_gd_last (by rw [hg1]; omega)]
            have:(((gnRoom room a).push d.n.toNat).sr d.to.toNat (true,(a.objs.length:Int))).fld i=some (zeroVs d.n.toNat):=(hfl i _).2 (((gnRoom room a).push_fld d.n.toNat i _).2 (.inr ⟨by rw [hlr]; omega,rfl⟩))
            rw [this]; rfl
        · show ((grRoom room r).old ++ [false]).getD i false=_
          rcases ((gnRoom room a).push_fld d.n.toNat i fs).1 ((hfl i fs).1 hf) with h5 | ⟨h5,_⟩
          · have e:i < a.objs.length:=by rw [← hlr]; exact GnA.fld_lt h5
            rw [snoc_gd (by rw [ho1]; exact e),hod i e]
            exact hr.od i fs h5
          · rw [snoc_gd_last (by rw [ho1]; omega)]
            have:=hr.ok.push_od_new d.n.toNat
            rw [h5]
            exact this.symm
        · show ((grRoom room r).old ++ [false]).getD i false=_
          rw [hl] at hi
          by_cases e:i < a.objs.length
          · rw [snoc_gd (by rw [ho1]; exact e)]
            rw [hnone i e] at hf
            exact hr.og i (by rw [hlr]; exact e) hf
          · have:(((gnRoom room a).push d.n.toNat).sr d.to.toNat (true,(a.objs.length:Int))).fld i=some (zeroVs d.n.toNat):=(hfl i _).2 (((gnRoom room a).push_fld d.n.toNat i _).2 (.inr ⟨by rw [hlr]; omega,rfl⟩))
            rw [this] at hf; cases hf
  · rw [if_neg h1]
    obtain ⟨k1,k2⟩:=hs
    have hdo:gnDo room d a=gnKst room d a:=by unfold gnDo; rw [if_neg hw]
    rcases k2 with ⟨k2,_⟩ | ⟨_,k3,k4⟩
    · exfalso
      rw [hdo] at k2
      unfold gnKst at k2
      rw [if_neg h1] at k2
      have h6:∀ {o:OutV},o.code ≠ 6 → o=⟨6,false,0⟩ → False:=fun h e => h (by rw [e])
      split at k2
      · exact h6 gnNe k2
      · split at k2
        · exact h6 gnNe k2
        · split at k2
          · split at k2
            · exact h6 (gnErr_ne6 _ _ _) k2
            · exact h6 gnNe k2
          · split at k2
            · split at k2
              · exact h6 (gnErr_ne6 _ _ _) k2
              · exact h6 gnNe k2
            · split at k2
              · exact h6 gnNe k2
              · exact h6 gnNe k2
    · refine ⟨k3,?_⟩
      by_cases h4:d.k=4 ∧ gnErr a (rgA a.regs d.to) d.at_=0
      · obtain ⟨h4,he⟩:=h4
        obtain ⟨i,fs,e,hf,h0,hlt⟩:=h.ok.at_field he
        have hst:(gnDo room d a).2=gnPut a i d.at_.toNat (rgA a.regs d.fr):=by
          rw [hdo]
          unfold gnKst
          rw [if_neg h1,if_neg (by omega),if_neg (by omega),if_pos h4,if_neg (by omega),e]
          rfl
        have he2:=h.sim.err h.ok d.to d.at_
        rw [he] at he2
        rw [hst] at k1 k4 ⊢
        refine h.same k1 hmok k4 (by show (a.objs.set _ _).length=_; rw [List.length_set]) (fun j => ?_) rfl ?_
        · by_cases ej:j=i
          · subst ej
            rw [(gnPut_fld (rgA a.regs d.fr) hf j _).2 (.inl ⟨rfl,rfl⟩),hf]
            rfl
          · cases hj:a.fld j with
            | some gs => rw [(gnPut_fld (rgA a.regs d.fr) hf j gs).2 (.inr ⟨ej,hj⟩)]
            | none =>
              cases hj2:(gnPut a i d.at_.toNat (rgA a.regs d.fr)).fld j with
              | none => rfl
              | some gs =>
                rcases (gnPut_fld (rgA a.regs d.fr) hf j gs).1 hj2 with ⟨h7,_⟩ | ⟨_,h7⟩
                · exact absurd h7 ej
                · rw [hj] at h7; cases h7
        · unfold GrA.rem gnPut
          rw [← h.sim.r,e]
          dsimp only
          rw [Int.toNat_natCast,h.od i fs hf,h.mks]
          have e2:fErr r.σ.objs (true,(i:Int)) d.at_=0:=by
            have h8:=he2.symm
            rw [← h.sim.r,e] at h8
            exact h8
          by_cases hv:(rgA a.regs d.fr).1=true
          · obtain ⟨j,gs,ej,hj⟩:=h.ok.rg d.fr hv
            have hoj:r.od (rgA a.regs d.fr).2.toNat=a.od (rgA a.regs d.fr).2.toNat:=by rw [ej,Int.toNat_natCast]; exact h.od j gs hj
            rw [hoj]
            by_cases hc:(a.od i && (rgA a.regs d.fr).1 && !a.od (rgA a.regs d.fr).2.toNat)=true
            · rw [if_pos ⟨h4,e2,hc⟩,if_pos hc]
            · rw [if_neg (fun h => hc h.2.2),if_neg hc]
          · have hv':(rgA a.regs d.fr).1=false:=by simpa using hv
            rw [hv']
            rw [if_neg (by simp),if_neg (by simp)]
      · have hsame:(gnDo room d a).2.objs=a.objs ∧ (gnDo room d a).2.old=a.old ∧ (gnDo room d a).2.mks=a.mks:=by
          rw [hdo]
          unfold gnKst
          rw [if_neg h1]
          split
          · exact ⟨rfl,rfl,rfl⟩
          · split
            · exact ⟨rfl,rfl,rfl⟩
            · split
              · split
                · exact ⟨rfl,rfl,rfl⟩
                · rename_i h5 h6
                  exact absurd ⟨h5,by omega⟩ h4
              · split
                · split <;> exact ⟨rfl,rfl,rfl⟩
                · split <;> exact ⟨rfl,rfl,rfl⟩
        obtain ⟨s1,s2,s3⟩:=hsame
        refine h.same k1 hmok k4 (by rw [s1]) (fun j => by unfold GnA.fld; rw [s1]) s2 ?_
        unfold GrA.rem
        rw [if_neg,s3,h.mks]
        rintro ⟨q1,q2,_⟩
        refine h4 ⟨q1,?_⟩
        rw [h.sim.err h.ok]
        exact q2
end Go.Proofs.YtjphckfbbiehdaaGreat

namespace Go.Proofs.YtjphckfbbiehdaaGreat
open Go.RowKit
def gnStp (room:Nat) (p:List OutV × GnA) (d:DoV):List OutV × GnA:=(p.1 ++ [(gnStep room d p.2).1],(gnStep room d p.2).2)
def gnRun (room:Nat) (ds:List DoV) (a:GnA):List OutV × GnA:=ds.foldl (gnStp room) ([],a)
def gn0 (σ:MSt):GnA:=⟨σ.regs,σ.objs.map some,List.replicate σ.objs.length true,[]⟩
theorem gnRun_snoc (room:Nat) (ds:List DoV) (d:DoV) (a:GnA):gnRun room (ds ++ [d]) a=((gnRun room ds a).1 ++ [(gnStep room d (gnRun room ds a).2).1],(gnStep room d (gnRun room ds a).2).2):=by
  unfold gnRun; rw [List.foldl_append]; rfl
theorem gnRun_at (room:Nat) (ds:List DoV) (a:GnA) (k:Nat) (hk:k < ds.length):gnRun room (ds.take (k + 1)) a=((gnRun room (ds.take k) a).1 ++ [(gnStep room ds[k] (gnRun room (ds.take k) a).2).1],(gnStep room ds[k] (gnRun room (ds.take k) a).2).2):=by
  rw [List.take_succ_eq_append_getElem hk,gnRun_snoc]
def grStp (room:Nat) (p:List OutV × GrA) (d:DoV):List OutV × GrA:=(p.1 ++ [(grStep room d p.2).1],(grStep room d p.2).2)
def grRun (room:Nat) (ds:List DoV) (r:GrA):List OutV × GrA:=ds.foldl (grStp room) ([],r)
def gr0 (σ:MSt):GrA:=⟨σ,List.replicate σ.objs.length true,List.replicate σ.objs.length false,[]⟩
theorem grRun_snoc (room:Nat) (ds:List DoV) (d:DoV) (a:GrA):grRun room (ds ++ [d]) a=((grRun room ds a).1 ++ [(grStep room d (grRun room ds a).2).1],(grStep room d (grRun room ds a).2).2):=by
  unfold grRun; rw [List.foldl_append]; rfl
theorem gn0_fld (σ:MSt) (i:Nat) (fs:List Val):(gn0 σ).fld i=some fs ↔ σ.objs[i]?=some fs:=by
  rw [GnA.fld_iff]
  unfold gn0
  rw [List.getElem?_map]
  cases σ.objs[i]? <;> simp
theorem gn0_od (σ:MSt) (i:Nat) (h:i < σ.objs.length):(gn0 σ).od i=true:=rep_gd h
theorem gn0_sim {σ:MSt} (h:MOk σ):GrSim (gn0 σ) (gr0 σ):=by
  have hl:(gn0 σ).objs.length=σ.objs.length:=List.length_map ..
  have hvk:∀ v:Val,(v.1=true → 0 ≤ v.2 ∧ v.2 < (σ.objs.length:Int)) → (gn0 σ).vok v:=fun v hv h1 => by
    obtain ⟨h2,h3⟩:=hv h1
    obtain ⟨i,hi⟩:=int_nat h2
    have hil:i < σ.objs.length:=by omega
    exact ⟨i,σ.objs[i],hi,(gn0_fld σ i _).2 (List.getElem?_eq_getElem hil)⟩
  have hlt:∀ {i:Nat} {fs:List Val},(gn0 σ).fld i=some fs → i < σ.objs.length:=fun hf => by have:=GnA.fld_lt hf; omega
  have hm:∀ {i:Nat} {fs:List Val},(gn0 σ).fld i=some fs → fs ∈ σ.objs:=fun hf => List.mem_of_getElem? ((gn0_fld σ _ _).1 hf)
  refine ⟨⟨h.r8,?_,fun v hv => hvk v (h.vr v hv),fun i fs v hf hv => hvk v (h.vo fs (hm hf) v hv),fun i fs hf => h.f4 fs (hm hf),fun p hp => absurd hp (by simp [gn0]),by simp [gn0],?_⟩,h,⟨rfl,hl,fun i fs hf => (gn0_fld σ i fs).1 hf⟩,?_,?_,fun i hi => ?_,fun i fs hf => ?_,fun i hi hf => ?_,rfl⟩
  · show (List.replicate _ _).length=_; rw [List.length_replicate,hl]
  · intro i fs k j hf _ hk hj
    exfalso
    obtain ⟨h1,h2⟩:=h.vo fs (hm hf) _ (List.mem_of_getElem? hk) rfl
    dsimp only at h2
    rw [gn0_od σ j (by omega)] at hj
    cases hj
  · show (List.replicate _ _).length=_; rw [List.length_replicate,hl]
  · show (List.replicate _ _).length=_; rw [List.length_replicate,hl]
  · rw [hl] at hi
    rw [(gn0_fld σ i _).2 (List.getElem?_eq_getElem hi)]
    show (List.replicate _ false).getD i false=false
    rw [List.getD_eq_getElem?_getD,List.getElem?_replicate,if_pos hi]; rfl
  · rfl
  · rw [hl] at hi
    rw [(gn0_fld σ i _).2 (List.getElem?_eq_getElem hi)] at hf
    cases hf
theorem gn_run {σ:MSt} (h:MOk σ) (room:Nat) (ds:List DoV):(gnRun room ds (gn0 σ)).1=(grRun room ds (gr0 σ)).1 ∧ GrSim (gnRun room ds (gn0 σ)).2 (grRun room ds (gr0 σ)).2:=by
  have key:∀ r:List DoV,(gnRun room r.reverse (gn0 σ)).1=(grRun room r.reverse (gr0 σ)).1 ∧ GrSim (gnRun room r.reverse (gn0 σ)).2 (grRun room r.reverse (gr0 σ)).2:=by
    intro r
    induction r with
    | nil => exact ⟨rfl,gn0_sim h⟩
    | cons d r ih =>
      rw [List.reverse_cons,gnRun_snoc,grRun_snoc]
      obtain ⟨h1,h2⟩:=ih
      obtain ⟨h3,h4⟩:=h2.step room d
      exact ⟨by rw [h1,h3],h4⟩
  have h:=key ds.reverse
  rwa [List.reverse_reverse] at h
theorem gnStep_len (room:Nat) (d:DoV) (a:GnA):(gnStep room d a).2.objs.length ≤ a.objs.length + 1:=by
  have hd:∀ K:Nat → Bool,(dropK K a.objs).length=a.objs.length:=fun K => dropK_len K a.objs
  unfold gnStep
  split
  · show (dropK _ _).length ≤ _; rw [hd]; omega
  split
  · show (dropK _ _).length ≤ _; rw [hd]; omega
  unfold gnDo
  split
  · exact Nat.le_succ _
  unfold gnKst
  have hr:=gnRoom_len room a
  split
  · have hN:(gnNew room a d.n.toNat).1.objs.length ≤ a.objs.length + 1:=by
      unfold gnNew
      split
      · dsimp only; omega
      · show ((gnRoom room a).objs ++ [_]).length ≤ _; rw [List.length_append,hr]; exact Nat.le_refl _
    split
    · exact hN
    · exact hN
  split
  · exact Nat.le_succ _
  split
  · exact Nat.le_succ _
  split
  · split
    · exact Nat.le_succ _
    · show (a.objs.set _ _).length ≤ _; rw [List.length_set]; exact Nat.le_succ _
  split
  · split
    · exact Nat.le_succ _
    · exact Nat.le_succ _
  split
  · exact Nat.le_succ _
  · exact Nat.le_succ _
theorem gnRun_b (room:Nat) (a:GnA) (ds:List DoV):(gnRun room ds a).2.objs.length ≤ a.objs.length + ds.length:=by
  have key:∀ r:List DoV,(gnRun room r.reverse a).2.objs.length ≤ a.objs.length + r.reverse.length:=by
    intro r
    induction r with
    | nil => exact Nat.le_refl _
    | cons d r ih =>
      rw [List.reverse_cons,gnRun_snoc,List.length_append,List.length_singleton]
      have h:=gnStep_len room d (gnRun room r.reverse a).2
      dsimp only
      omega
  have h:=key ds.reverse
  rwa [List.reverse_reverse] at h
theorem gn_at {σ:MSt} (h:MOk σ) (room:Nat) (ds:List DoV) (hn:σ.objs.length ≤ 24) (hd:ds.length ≤ 100) (k:Nat) (hk:k ≤ ds.length):GnOk (gnRun room (ds.take k) (gn0 σ)).2 ∧ (gnRun room (ds.take k) (gn0 σ)).2.objs.length ≤ 124:=by
  refine ⟨(gn_run h room _).2.ok,?_⟩
  have h1:=gnRun_b room (gn0 σ) (ds.take k)
  have h2:(gn0 σ).objs.length=σ.objs.length:=List.length_map ..
  have h3:(ds.take k).length=k:=by rw [List.length_take]; omega
  omega
def gnThere (a:GnA):List (Int × Int):=(thereL a.objs).map fun x => (x,if a.od x.toNat=true then 1 else 0)
def gnMks (a:GnA):List (Int × Int):=a.mks.map fun p => ((p.1:Int),(p.2:Int))
end Go.Proofs.YtjphckfbbiehdaaGreat
