/- Part of a proof. -/
import Derived.Test.YtjphckfbbiehdaaGreatSTopAll19
import Derived.Test.YtjphckfbbiehdaaGreatSTopAll17
import Derived.Test.YtjphckfbbiehdaaGreatSTopAll18
import Derived.StillTailTactics
import Derived.Laws.CopyOwn
import Derived.Test.YtjphckfbbiehdaaGreatSTopAll5
set_option linter.unusedSimpArgs false
set_option linter.unusedVariables false
namespace Go.Proofs.YtjphckfbbiehdaaGreat
open Go.RowKit
def rpErr (a:RpA) (v:Val) (at_:Int):Int:=if v.1=false then 5 else if at_ < 0 ∨ (((a.fld v.2.toNat).getD []).length:Int) ≤ at_ then 3 else 0
def rpKst (d:DoV) (a:RpA):OutV × RpA :=
  if d.k=1 then
    if (rpNew a d.n.toNat).2.2 ≠ 0 then (⟨(rpNew a d.n.toNat).2.2,false,0⟩,(rpNew a d.n.toNat).1)
    else (⟨0,false,0⟩,(rpNew a d.n.toNat).1.sr d.to.toNat (true,(rpNew a d.n.toNat).2.1))
  else if d.k=2 then (⟨0,false,0⟩,a.sr d.to.toNat (false,d.n))
  else if d.k=3 then (⟨0,false,0⟩,a.sr d.to.toNat (rgA a.regs d.fr))
  else if d.k=4 then
    if rpErr a (rgA a.regs d.to) d.at_ ≠ 0 then (⟨rpErr a (rgA a.regs d.to) d.at_,false,0⟩,a)
    else (⟨0,false,0⟩,rpPut a (rgA a.regs d.to).2.toNat d.at_.toNat (rgA a.regs d.fr))
  else if d.k=5 then
    if rpErr a (rgA a.regs d.fr) d.at_ ≠ 0 then (⟨rpErr a (rgA a.regs d.fr) d.at_,false,0⟩,a)
    else (⟨0,false,0⟩,a.sr d.to.toNat (((a.fld (rgA a.regs d.fr).2.toNat).getD []).getD d.at_.toNat (false,0)))
  else if d.k=6 then (⟨0,false,if rgA a.regs d.to=rgA a.regs d.fr then 1 else 0⟩,a)
  else (⟨0,(rgA a.regs d.fr).1,if (rgA a.regs d.fr).1=true then (((a.fld (rgA a.regs d.fr).2.toNat).getD []).length:Int) else (rgA a.regs d.fr).2⟩,a)
def rpDo (d:DoV) (a:RpA):OutV × RpA:=if wrongM d ≠ 0 then (⟨wrongM d,false,0⟩,a) else rpKst d a
def rpStep (d:DoV) (a:RpA):OutV × RpA:=if d.k=8 then (⟨0,false,0⟩,a.work) else rpDo d a
theorem RpOkE.at_field {E:Nat → Nat → Prop} {a:RpA} (ok:RpOkE E a) {r at_:Int} (h:rpErr a (rgA a.regs r) at_=0):∃ (i k:Nat) (fs:List Val),rgA a.regs r=(true,(i:Int)) ∧ a.fld i=some fs ∧ at_=(k:Int) ∧ k < fs.length:=by
  unfold rpErr at h
  split at h
  · omega
  · rename_i hb
    have hb':(rgA a.regs r).1=true:=by simpa using hb
    obtain ⟨i,fs,e,hf⟩:=ok.rg r hb'
    split at h
    · omega
    · rename_i h2
      rw [e,Int.toNat_natCast,hf,Option.getD_some] at h2
      obtain ⟨k,rfl⟩:=int_nat (show 0 ≤ at_ from by omega)
      exact ⟨i,k,fs,Prod.ext hb' e,hf,rfl,by omega⟩
theorem RpOk.new_ {a:RpA} (ok:RpOk a) {n:Nat} (h4:n ≤ 4):RpOk (rpNew a n).1 ∧ ((rpNew a n).2.2=0 → (rpNew a n).1.vok (true,(rpNew a n).2.1)) ∧ a.objs.length ≤ (rpNew a n).1.objs.length ∧ (rpNew a n).1.objs.length ≤ a.objs.length + 1:=by
  unfold rpNew
  by_cases h:24 ≤ a.row.length
  · rw [if_pos h]
    exact ⟨ok,fun h1 => (by cases h1),Nat.le_refl _,Nat.le_succ _⟩
  · rw [if_neg h]
    obtain ⟨h1,h2⟩:=ok.push h4 (by omega)
    have e:(a.push n).objs.length=a.objs.length + 1:=by show (a.objs ++ [_]).length=_; simp
    exact ⟨h1,fun _ => h2,by dsimp only; omega,by dsimp only; omega⟩
theorem RpOk.do_ {a:RpA} (ok:RpOk a) (d:DoV):RpOk (rpDo d a).2 ∧ a.objs.length ≤ (rpDo d a).2.objs.length ∧ (rpDo d a).2.objs.length ≤ a.objs.length + 1:=by
  unfold rpDo
  by_cases hw:wrongM d ≠ 0
  · rw [if_pos hw]; exact ⟨ok,Nat.le_refl _,Nat.le_succ _⟩
  rw [if_neg hw]
  have hw0:wrongM d=0:=by omega
  unfold rpKst
  split
  · rename_i h1
    have h4:=wrongM_n hw0 h1
    obtain ⟨n1,n2,n3,n4⟩:=ok.new_ (n:=d.n.toNat) (by omega)
    split
    · exact ⟨n1,n3,n4⟩
    · rename_i hz
      exact ⟨n1.sr _ (n2 (by omega)),n3,n4⟩
  split
  · exact ⟨ok.sr _ (fun h => (by cases h)),Nat.le_refl _,Nat.le_succ _⟩
  split
  · exact ⟨ok.sr _ (RpOkE.rg ok d.fr),Nat.le_refl _,Nat.le_succ _⟩
  split
  · split
    · exact ⟨ok,Nat.le_refl _,Nat.le_succ _⟩
    · rename_i hz
      obtain ⟨i,k,fs,e,hf,e2,hk⟩:=RpOkE.at_field ok (r:=d.to) (at_:=d.at_) (by omega)
      rw [e,e2,Int.toNat_natCast,Int.toNat_natCast]
      have p2:(rpPut a i k (rgA a.regs d.fr)).objs.length=a.objs.length:=List.length_set ..
      exact ⟨ok.put hf hk (RpOkE.rg ok d.fr),by rw [p2]; exact Nat.le_refl _,by rw [p2]; exact Nat.le_succ _⟩
  split
  · split
    · exact ⟨ok,Nat.le_refl _,Nat.le_succ _⟩
    · rename_i hz
      obtain ⟨i,k,fs,e,hf,e2,hk⟩:=RpOkE.at_field ok (r:=d.fr) (at_:=d.at_) (by omega)
      rw [e,e2,Int.toNat_natCast,Int.toNat_natCast,hf,Option.getD_some]
      have hv:a.vok (fs.getD k (false,0)):=by
        rw [List.getD_eq_getElem?_getD,List.getElem?_eq_getElem hk]
        exact ok.vf i fs hf _ (List.getElem_mem hk)
      exact ⟨ok.sr _ hv,Nat.le_refl _,Nat.le_succ _⟩
  split
  · exact ⟨ok,Nat.le_refl _,Nat.le_succ _⟩
  · exact ⟨ok,Nat.le_refl _,Nat.le_succ _⟩
theorem work_len {a:RpA} (ok:RpOk a):a.work.objs.length=a.objs.length:=by
  have hb:∀ n (b:RpA) (o:Nat),(b.bringN o n).objs=b.objs:=by
    intro n
    induction n with
    | zero => exact fun _ _ => rfl
    | succ n ih => intro b o; rw [bringN_succ,(bring_keep _ _ _).2.1,ih]
  unfold RpA.work
  split
  · split
    · rw [(bring_keep _ _ _).2.1]; rfl
    · rfl
  · split
    · rw [(cop_keep _ _).2.1]
    · unfold RpA.fill
      split
      · rw [hb]; rfl
      · exact flipO_len ..
theorem RpOk.step {a:RpA} (ok:RpOk a) (d:DoV):RpOk (rpStep d a).2 ∧ (rpStep d a).2.objs.length ≤ a.objs.length + 1:=by
  unfold rpStep
  by_cases h:d.k=8
  · rw [if_pos h]; exact ⟨ok.work,by dsimp only; rw [work_len ok]; exact Nat.le_succ _⟩
  · rw [if_neg h]; exact ⟨(ok.do_ d).1,(ok.do_ d).2.2⟩
structure RqA where
  σ:MSt
  row:List Int
  made:List Int
  filled:Nat
  log:List (Nat × Nat)
  times:Nat
def RqA.cop (r:RqA) (v:Val):RqA:=if v.1=false ∨ v.2 ∈ r.made then r else { r with made:=r.made ++ [v.2] }
def RqA.miss (r:RqA):Option Val:=r.σ.regs.find? fun v => v.1 && !decide (v.2 ∈ r.made)
def RqA.work (r:RqA):RqA :=
  match r.log with
  | p :: l => if (p.1:Int) ∈ r.made then { r.cop ((obA r.σ.objs (p.1:Int)).getD p.2 (false,0)) with log:=l } else { r with log:=l }
  | [] =>
    match r.miss with
    | some v => r.cop v
    | none =>
      match r.made[r.filled]? with
      | some o => { (obA r.σ.objs o).foldl RqA.cop r with filled:=r.filled + 1 }
      | none => { r with row:=r.made,made:=[],filled:=0,times:=r.times + 1 }
def rqErr (d:DoV) (r:RqA):Int:=if rWrong d r.σ=0 ∧ d.k=1 ∧ 24 ≤ r.row.length then 6 else rWrong d r.σ
def RqA.do_ (r:RqA) (d:DoV):RqA:={ r with σ:=(stepK d r.σ).2,log:=(if d.k=4 then r.log ++ [((rgA r.σ.regs d.to).2.toNat,d.at_.toNat)] else r.log),row:=(if d.k=1 then r.row ++ [(r.σ.objs.length:Int)] else r.row) }
def rqStep (d:DoV) (r:RqA):OutV × RqA :=
  if d.k=8 then (⟨0,false,0⟩,r.work) else if rqErr d r ≠ 0 then (⟨rqErr d r,false,0⟩,r) else ((stepK d r.σ).1,r.do_ d)
structure RpSim (a:RpA) (r:RqA):Prop where
  rg:a.regs=r.σ.regs
  n:a.objs.length=r.σ.objs.length
  ob:∀ (i:Nat) (fs:List Val),a.fld i=some fs → obA r.σ.objs (i:Int)=fs
  row:a.row=r.row
  md:a.made=r.made
  fi:a.filled=r.filled
  lg:a.log=r.log
  tm:a.times=r.times
  m:MOk r.σ
theorem made_has {a:RpA} {z:Nat}:(z:Int) ∈ a.made ↔ a.has z:=by
  unfold RpA.made RpA.has
  rw [List.mem_map]
  exact ⟨fun ⟨k,hk,e⟩ => by rw [show z=k by omega]; exact hk,fun h => ⟨z,h,rfl⟩⟩
theorem RpSim.cop {a:RpA} {r:RqA} (h:RpSim a r) {v:Val} (hv:a.vok v):RpSim (a.cop v) (r.cop v):=by
  by_cases hb:v.1=false
  · rw [cop_no (.inl hb)]
    unfold RqA.cop
    rw [if_pos (.inl hb)]; exact h
  · obtain ⟨i,fs,e,hf⟩:=hv (by simpa using hb)
    have hm:v.2 ∈ r.made ↔ a.has v.2.toNat:=by rw [← h.md,e,Int.toNat_natCast]; exact made_has
    unfold RqA.cop
    by_cases hh:a.has v.2.toNat
    · rw [cop_no (.inr hh),if_pos (.inr (hm.2 hh))]; exact h
    · rw [cop_yes (fun h2 => h2.elim hb hh),if_neg (fun h2 => h2.elim hb fun h3 => hh (hm.1 h3))]
      refine ⟨h.rg,h.n,h.ob,h.row,?_,h.fi,h.lg,h.tm,h.m⟩
      show (keysC (a.cps ++ [_])).map _=r.made ++ [v.2]
      unfold keysC
      rw [List.map_append,List.map_append,← h.md]
      unfold RpA.made keysC
      simp [e]
theorem RpSim.cset {a:RpA} {r:RqA} (h:RpSim a r) (o k:Nat) (v:Val):RpSim (a.cset o k v) r :=
  ⟨h.rg,h.n,h.ob,h.row,by show (keysC (cpSet _ _ _ _)).map _=_; rw [cpSet_keys]; exact h.md,h.fi,h.lg,h.tm,h.m⟩
theorem RpSim.at_eq {a:RpA} {r:RqA} (h:RpSim a r) {o:Nat} {fs:List Val} (hf:a.fld o=some fs) (k:Nat):a.at_ o k=(obA r.σ.objs (o:Int)).getD k (false,0):=by
  unfold RpA.at_
  rw [RpA.flds_of hf,h.ob o fs hf]
theorem RpSim.bring {E:Nat → Nat → Prop} {a:RpA} {r:RqA} (h:RpSim a r) (ok:RpOkE E a) {o k:Nat} (ho:a.has o) (hk:k < (a.flds o).length):RpSim (a.bring o k) (r.cop ((obA r.σ.objs (o:Int)).getD k (false,0))):=by
  obtain ⟨fs,hf⟩:=ok.has_fld ho
  rw [← h.at_eq hf]
  exact (h.cop (ok.at_vok ho hk)).cset _ _ _
theorem rcop_keep (r:RqA) (v:Val):(r.cop v).σ=r.σ ∧ (r.cop v).row=r.row ∧ (r.cop v).filled=r.filled ∧ (r.cop v).log=r.log ∧ (r.cop v).times=r.times:=by
  unfold RqA.cop
  split <;> exact ⟨rfl,rfl,rfl,rfl,rfl⟩
theorem RpSim.bringN {E:Nat → Nat → Prop} {a:RpA} {r:RqA} (h:RpSim a r) (ok:RpOkE E a) {o:Nat} (ho:a.has o):∀ n,n ≤ (a.flds o).length → RpSim (a.bringN o n) (((obA r.σ.objs (o:Int)).take n).foldl RqA.cop r) ∧ (((obA r.σ.objs (o:Int)).take n).foldl RqA.cop r).σ=r.σ:=by
  obtain ⟨fs,hf⟩:=ok.has_fld ho
  have hob:=h.ob o fs hf
  intro n
  induction n with
  | zero => exact fun _ => ⟨h,rfl⟩
  | succ n ih =>
    intro hn
    obtain ⟨h1,h2⟩:=ih (by omega)
    obtain ⟨b1,b2,b3,-⟩:=ok.bringN ho n (by omega)
    have e:(a.bringN o n).flds o=a.flds o:=by unfold RpA.flds RpA.fld; rw [b3]
    have h3:=h1.bring b1 b2 (k:=n) (by rw [e]; omega)
    rw [RpA.flds_of hf] at hn
    have hnl:n < (obA r.σ.objs (o:Int)).length:=by rw [hob]; omega
    rw [bringN_succ,List.take_succ_eq_append_getElem hnl,List.foldl_append,List.foldl_cons,List.foldl_nil]
    rw [h2,List.getD_eq_getElem?_getD,List.getElem?_eq_getElem hnl] at h3
    exact ⟨h3,(rcop_keep _ _).1.trans h2⟩
theorem RpSim.miss {a:RpA} {r:RqA} (h:RpSim a r) (ok:RpOk a):r.miss=a.miss:=by
  unfold RqA.miss RpA.miss
  rw [h.rg]
  have gen:∀ l:List Val,(∀ v ∈ l,a.vok v) → l.find? (fun v => v.1 && !decide (v.2 ∈ r.made))=l.find? (fun v => v.1 && !decide (a.has v.2.toNat)):=by
    intro l
    induction l with
    | nil => exact fun _ => rfl
    | cons v l ih =>
      intro hl
      have e:(v.1 && !decide (v.2 ∈ r.made))=(v.1 && !decide (a.has v.2.toNat)):=by
        cases hb:v.1 with
        | false => rfl
        | true =>
          obtain ⟨i,fs,e,hf⟩:=hl v (List.mem_cons_self ..) hb
          have:(v.2 ∈ r.made) ↔ a.has v.2.toNat:=by rw [← h.md,e,Int.toNat_natCast]; exact made_has
          rw [decide_eq_decide.2 this]
      rw [List.find?_cons,List.find?_cons,e,ih fun u hu => hl u (List.mem_cons_of_mem _ hu)]
  exact gen _ fun v hv => ok.vr v (by rw [h.rg]; exact hv)
theorem made_at {a:RpA} (k:Nat):a.made[k]?=(a.cps[k]?).map fun p => (p.1:Int):=by
  unfold RpA.made keysC
  rw [List.getElem?_map,List.getElem?_map,Option.map_map]; rfl
theorem RpSim.work {a:RpA} {r:RqA} (h:RpSim a r) (ok:RpOk a):RpSim a.work r.work:=by
  unfold RpA.work RqA.work
  rw [← h.lg]
  cases hl:a.log with
  | cons p l =>
    obtain ⟨o,k⟩:=p
    dsimp only
    have hm:((o:Int) ∈ r.made) ↔ a.has o:=by rw [← h.md]; exact made_has
    by_cases hh:a.has o
    · rw [if_pos hh,if_pos (hm.2 hh)]
      obtain ⟨fs,hf,hk⟩:=ok.lg (o,k) (by rw [hl]; exact List.mem_cons_self ..)
      have h1:=h.bring ok hh (k:=k) (by rw [RpA.flds_of hf]; exact hk)
      have e:(a.nl l).bring o k=(a.bring o k).nl l:=by
        unfold RpA.bring RpA.cset RpA.nl
        have e2:∀ v,({ a with log:=l }:RpA).cop v={ a.cop v with log:=l }:=fun v => by
          by_cases h2:v.1=false ∨ a.has v.2.toNat
          · rw [cop_no h2,cop_no (a:={ a with log:=l }) h2]
          · rw [cop_yes h2,cop_yes (a:={ a with log:=l }) h2]; rfl
        rw [e2]
        rfl
      rw [e]
      exact ⟨h1.rg,h1.n,h1.ob,h1.row,h1.md,h1.fi,rfl,h1.tm,h1.m⟩
    · rw [if_neg hh,if_neg (fun h2 => hh (hm.1 h2))]
      exact ⟨h.rg,h.n,h.ob,h.row,h.md,h.fi,rfl,h.tm,h.m⟩
  | nil =>
    dsimp only
    rw [h.miss ok]
    cases hms:a.miss with
    | some v => exact h.cop (ok.vr v (miss_some hms).1)
    | none =>
      dsimp only
      unfold RpA.fill
      rw [← h.fi,← h.md,made_at]
      cases hp:a.cps[a.filled]? with
      | some p =>
        dsimp only [Option.map]
        have hh:a.has p.1:=List.mem_map.2 ⟨p,List.mem_of_getElem? hp,rfl⟩
        obtain ⟨h1,h2⟩:=h.bringN ok hh (a.flds p.1).length (Nat.le_refl _)
        obtain ⟨fs,hf⟩:=ok.has_fld hh
        have hob:=h.ob _ fs hf
        rw [RpA.flds_of hf,List.take_of_length_le (by rw [hob]; exact Nat.le_refl _)] at h1
        have e:∀ n,(a.fl (a.filled + 1)).bringN p.1 n=(a.bringN p.1 n).fl (a.filled + 1):=by
          intro n
          induction n with
          | zero => rfl
          | succ n ih =>
            rw [bringN_succ,bringN_succ,ih]
            unfold RpA.bring RpA.cset RpA.fl
            have e2:∀ (b:RpA) v x,({ b with filled:=x }:RpA).cop v={ b.cop v with filled:=x }:=fun b v x => by
              by_cases h2:v.1=false ∨ b.has v.2.toNat
              · rw [cop_no h2,cop_no (a:={ b with filled:=x }) h2]
              · rw [cop_yes h2,cop_yes (a:={ b with filled:=x }) h2]; rfl
            rw [e2]
            rfl
        rw [e,RpA.flds_of hf]
        exact ⟨h1.rg,h1.n,h1.ob,h1.row,h1.md,rfl,h1.lg,h1.tm,h1.m⟩
      | none =>
        dsimp only [Option.map]
        refine ⟨h.rg,(flipO_len ..).trans h.n,fun i fs hf => h.ob i fs ((flip_fld ok hl hp i fs).1 hf).2,rfl,rfl,rfl,rfl,by show a.times + 1=r.times + 1; rw [h.tm],h.m⟩
end Go.Proofs.YtjphckfbbiehdaaGreat

namespace Go.Proofs.YtjphckfbbiehdaaGreat
open Go.RowKit
theorem RpSim.err {a:RpA} {r:RqA} (h:RpSim a r) (ok:RpOk a) (x at_:Int):rpErr a (rgA a.regs x) at_=fErr r.σ.objs (rgA r.σ.regs x) at_:=by
  rw [← h.rg]
  unfold rpErr fErr
  by_cases hb:(rgA a.regs x).1=false
  · rw [if_pos hb,if_pos hb]
  · rw [if_neg hb,if_neg hb]
    obtain ⟨i,fs,e,hf⟩:=RpOkE.rg ok x (by simpa using hb)
    rw [e,h.ob i fs hf,Int.toNat_natCast,hf]
    rfl
theorem RpSim.sr {a:RpA} {r:RqA} (h:RpSim a r) (k:Nat) (v:Val) (hm:MOk ⟨r.σ.regs.set k v,r.σ.objs⟩):RpSim (a.sr k v) { r with σ:=⟨r.σ.regs.set k v,r.σ.objs⟩ } :=
  ⟨by show a.regs.set k v=r.σ.regs.set k v; rw [h.rg],h.n,h.ob,h.row,h.md,h.fi,h.lg,h.tm,hm⟩
theorem RpSim.step {a:RpA} {r:RqA} (h:RpSim a r) (ok:RpOk a) (d:DoV):(rpStep d a).1=(rqStep d r).1 ∧ RpSim (rpStep d a).2 (rqStep d r).2:=by
  unfold rpStep rqStep
  by_cases h8:d.k=8
  · rw [if_pos h8,if_pos h8]; exact ⟨rfl,h.work ok⟩
  rw [if_neg h8,if_neg h8]
  unfold rpDo
  by_cases hw:wrongM d ≠ 0
  · have e1:rWrong d r.σ=wrongM d:=by unfold rWrong; rw [if_pos hw]
    have e2:rqErr d r=wrongM d:=by unfold rqErr; rw [e1,if_neg (fun h => hw h.1)]
    rw [if_pos hw,e2,if_pos hw]
    exact ⟨rfl,h⟩
  rw [if_neg hw]
  have hw0:wrongM d=0:=by omega
  have hto:d.k ≠ 7 → ∃ q:Nat,d.to=(q:Int) ∧ q < 8:=fun h => by
    have h1:=wrongM_to hw0 h
    obtain ⟨q,e⟩:=int_nat h1.1
    exact ⟨q,e,by omega⟩
  unfold rpKst
  by_cases h1:d.k=1
  · rw [if_pos h1]
    obtain ⟨q,er,hr⟩:=hto (by omega)
    have h4:=wrongM_n hw0 h1
    obtain ⟨n,en⟩:=int_nat h4.1
    have e1:rWrong d r.σ=0:=by unfold rWrong; rw [if_neg hw,if_neg (by omega),if_neg (by omega)]
    have hsm:=stepK_m h.m e1
    unfold rqErr rpNew
    rw [e1,h.row,en,Int.toNat_natCast]
    by_cases hR:24 ≤ r.row.length
    · have ec:(if (0:Int)=0 ∧ d.k=1 ∧ 24 ≤ r.row.length then (6:Int) else 0)=6:=if_pos ⟨rfl,h1,hR⟩
      rw [if_pos hR,ec]
      exact ⟨rfl,h⟩
    · have ec:(if (0:Int)=0 ∧ d.k=1 ∧ 24 ≤ r.row.length then (6:Int) else 0)=0:=if_neg (fun h => hR h.2.2)
      rw [if_neg hR,ec,if_neg (fun h => h rfl),if_neg (fun h => h rfl)]
      have hk:stepK d r.σ=(⟨0,false,0⟩,⟨r.σ.regs.set q (true,r.σ.objs.length),r.σ.objs ++ [zeroVs n]⟩):=by unfold stepK; rw [if_pos h1,er,en,Int.toNat_natCast,Int.toNat_natCast]
      rw [hk] at hsm
      unfold RqA.do_
      rw [hk,if_pos h1,if_neg (show ¬ d.k=4 by omega),er,Int.toNat_natCast]
      refine ⟨rfl,⟨?_,?_,fun i fs hf => ?_,?_,h.md,h.fi,h.lg,h.tm,hsm⟩⟩
      · show a.regs.set q _=r.σ.regs.set q _
        rw [h.rg,h.n]
      · show (a.objs ++ [_]).length=(r.σ.objs ++ [_]).length
        rw [List.length_append,List.length_append,h.n]; rfl
      · show obA (r.σ.objs ++ [zeroVs n]) (i:Int)=fs
        rcases (rpush_fld a n i fs).1 hf with h2 | ⟨rfl,rfl⟩
        · have hl:=RpA.fld_lt h2
          rw [← h.ob i fs h2]
          unfold obA
          rw [Int.toNat_natCast,List.getD_eq_getElem?_getD,List.getD_eq_getElem?_getD,List.getElem?_append_left (by rw [← h.n]; exact hl)]
        · unfold obA
          rw [Int.toNat_natCast,h.n,List.getD_eq_getElem?_getD,List.getElem?_append_right (Nat.le_refl _)]; simp
      · show a.row ++ [_]=r.row ++ [_]
        rw [h.row,h.n]
  have e0:rqErr d r=rWrong d r.σ:=by unfold rqErr; rw [if_neg (fun h => h1 h.2.1)]
  rw [if_neg h1,e0]
  by_cases h2:d.k=2
  · rw [if_pos h2]
    obtain ⟨q,er,hr⟩:=hto (by omega)
    have e1:rWrong d r.σ=0:=by unfold rWrong; rw [if_neg hw,if_neg (by omega),if_neg (by omega)]
    have hsm:=stepK_m h.m e1
    have hk:stepK d r.σ=(⟨0,false,0⟩,⟨r.σ.regs.set q (false,d.n),r.σ.objs⟩):=by unfold stepK; rw [if_neg h1,if_pos h2,er,Int.toNat_natCast]
    rw [hk] at hsm
    rw [e1,if_neg (by simp)]
    unfold RqA.do_
    rw [hk,if_neg h1,if_neg (show ¬ d.k=4 by omega),er,Int.toNat_natCast]
    exact ⟨rfl,h.sr q _ hsm⟩
  rw [if_neg h2]
  by_cases h3:d.k=3
  · rw [if_pos h3]
    obtain ⟨q,er,hr⟩:=hto (by omega)
    have e1:rWrong d r.σ=0:=by unfold rWrong; rw [if_neg hw,if_neg (by omega),if_neg (by omega)]
    have hsm:=stepK_m h.m e1
    have hk:stepK d r.σ=(⟨0,false,0⟩,⟨r.σ.regs.set q (rgA r.σ.regs d.fr),r.σ.objs⟩):=by unfold stepK; rw [if_neg h1,if_neg h2,if_pos h3,er,Int.toNat_natCast]
    rw [hk] at hsm
    rw [e1,if_neg (by simp)]
    unfold RqA.do_
    rw [hk,if_neg h1,if_neg (show ¬ d.k=4 by omega),er,Int.toNat_natCast,h.rg]
    exact ⟨rfl,h.sr q _ hsm⟩
  rw [if_neg h3]
  by_cases h5:d.k=4
  · rw [if_pos h5]
    have he:=h.err ok d.to d.at_
    have e1:rWrong d r.σ=fErr r.σ.objs (rgA r.σ.regs d.to) d.at_:=by unfold rWrong; rw [if_neg hw,if_pos h5]
    by_cases hz:rpErr a (rgA a.regs d.to) d.at_ ≠ 0
    · rw [if_pos hz,e1,← he,if_pos hz]
      exact ⟨rfl,h⟩
    · have hz0:rWrong d r.σ=0:=by rw [e1,← he]; omega
      have hsm:=stepK_m h.m hz0
      rw [if_neg hz,e1,← he,if_neg hz]
      obtain ⟨i,k,fs,e,hf,e2,hk⟩:=RpOkE.at_field ok (r:=d.to) (at_:=d.at_) (by omega)
      have hob:=h.ob i fs hf
      have e':rgA r.σ.regs d.to=(true,(i:Int)):=by rw [← h.rg]; exact e
      have hks:stepK d r.σ=(⟨0,false,0⟩,⟨r.σ.regs,r.σ.objs.set i (fs.set k (rgA r.σ.regs d.fr))⟩):=by
        unfold stepK
        rw [if_neg h1,if_neg h2,if_neg h3,if_pos h5,if_neg (by rw [← he]; exact hz),e',e2]
        dsimp only
        rw [hob,Int.toNat_natCast,Int.toNat_natCast]
      rw [hks] at hsm
      unfold RqA.do_
      rw [hks,if_neg h1,if_pos h5,e,e',e2,Int.toNat_natCast]
      dsimp only
      rw [Int.toNat_natCast]
      refine ⟨rfl,⟨h.rg,?_,fun j gs hg => ?_,h.row,h.md,h.fi,?_,h.tm,hsm⟩⟩
      · show (a.objs.set i _).length=(r.σ.objs.set i _).length
        rw [List.length_set,List.length_set]; exact h.n
      · show obA (r.σ.objs.set i (fs.set k (rgA r.σ.regs d.fr))) (j:Int)=gs
        have hil:i < r.σ.objs.length:=by rw [← h.n]; exact RpA.fld_lt hf
        rcases (rput_fld (k:=k) _ hf j gs).1 hg with ⟨rfl,rfl⟩ | ⟨hne,h9⟩
        · unfold obA
          rw [Int.toNat_natCast,List.getD_eq_getElem?_getD,List.getElem?_set,if_pos rfl,if_pos hil,h.rg]; rfl
        · rw [← h.ob j gs h9]
          unfold obA
          rw [Int.toNat_natCast,List.getD_eq_getElem?_getD,List.getD_eq_getElem?_getD,List.getElem?_set,if_neg (fun e => hne e.symm)]
      · show a.log ++ _=r.log ++ _
        rw [h.lg]
  rw [if_neg h5]
  by_cases h6:d.k=5
  · rw [if_pos h6]
    have he:=h.err ok d.fr d.at_
    have e1:rWrong d r.σ=fErr r.σ.objs (rgA r.σ.regs d.fr) d.at_:=by unfold rWrong; rw [if_neg hw,if_neg h5,if_pos h6]
    by_cases hz:rpErr a (rgA a.regs d.fr) d.at_ ≠ 0
    · rw [if_pos hz,e1,← he,if_pos hz]
      exact ⟨rfl,h⟩
    · have hz0:rWrong d r.σ=0:=by rw [e1,← he]; omega
      have hsm:=stepK_m h.m hz0
      rw [if_neg hz,e1,← he,if_neg hz]
      obtain ⟨i,k,fs,e,hf,e2,hk⟩:=RpOkE.at_field ok (r:=d.fr) (at_:=d.at_) (by omega)
      obtain ⟨q,er,hr⟩:=hto (by omega)
      have hob:=h.ob i fs hf
      have e':rgA r.σ.regs d.fr=(true,(i:Int)):=by rw [← h.rg]; exact e
      have hks:stepK d r.σ=(⟨0,false,0⟩,⟨r.σ.regs.set q (fs.getD k (false,0)),r.σ.objs⟩):=by
        unfold stepK
        rw [if_neg h1,if_neg h2,if_neg h3,if_neg h5,if_pos h6,if_neg (by rw [← he]; exact hz),e',e2,er]
        dsimp only
        rw [hob,Int.toNat_natCast,Int.toNat_natCast]
      rw [hks] at hsm
      unfold RqA.do_
      rw [hks,if_neg h1,if_neg h5,e,e2,er,Int.toNat_natCast]
      dsimp only
      rw [Int.toNat_natCast,Int.toNat_natCast,hf,Option.getD_some]
      exact ⟨rfl,h.sr q _ hsm⟩
  rw [if_neg h6]
  have e1:rWrong d r.σ=0:=by unfold rWrong; rw [if_neg hw,if_neg h5,if_neg h6]
  have ee:∀ x y:OutV × RqA,(if (0:Int) ≠ 0 then x else y)=y:=fun x y => if_neg (fun h => h rfl)
  rw [e1,ee]
  unfold RqA.do_
  rw [if_neg h1,if_neg h5]
  by_cases h7:d.k=6
  · have hks:stepK d r.σ=(⟨0,false,if rgA r.σ.regs d.to=rgA r.σ.regs d.fr then 1 else 0⟩,r.σ):=by
      unfold stepK
      rw [if_neg h1,if_neg h2,if_neg h3,if_neg h5,if_neg h6,if_pos h7]
    rw [if_pos h7,hks]
    exact ⟨by rw [h.rg],h⟩
  · have hks:stepK d r.σ=(⟨0,(rgA r.σ.regs d.fr).1,if (rgA r.σ.regs d.fr).1=true then (obA r.σ.objs (rgA r.σ.regs d.fr).2).length else (rgA r.σ.regs d.fr).2⟩,r.σ):=by
      unfold stepK
      rw [if_neg h1,if_neg h2,if_neg h3,if_neg h5,if_neg h6,if_neg h7]
    rw [if_neg h7,hks]
    refine ⟨?_,h⟩
    dsimp only
    rw [← h.rg]
    by_cases hb:(rgA a.regs d.fr).1=true
    · obtain ⟨i,fs,e,hf⟩:=RpOkE.rg ok d.fr hb
      rw [if_pos hb,if_pos hb,e,h.ob i fs hf,Int.toNat_natCast,hf]
      rfl
    · rw [if_neg hb,if_neg hb]
def rpStp (p:List OutV × RpA) (d:DoV):List OutV × RpA:=(p.1 ++ [(rpStep d p.2).1],(rpStep d p.2).2)
def rqStp (p:List OutV × RqA) (d:DoV):List OutV × RqA:=(p.1 ++ [(rqStep d p.2).1],(rqStep d p.2).2)
def rpRun (ds:List DoV) (a:RpA):List OutV × RpA:=ds.foldl rpStp ([],a)
def rqRun (ds:List DoV) (r:RqA):List OutV × RqA:=ds.foldl rqStp ([],r)
theorem rpRun_at (ds:List DoV) (a:RpA) (k:Nat) (hk:k < ds.length):rpRun (ds.take (k + 1)) a=((rpRun (ds.take k) a).1 ++ [(rpStep ds[k] (rpRun (ds.take k) a).2).1],(rpStep ds[k] (rpRun (ds.take k) a).2).2):=by
  unfold rpRun
  rw [List.take_succ_eq_append_getElem hk,List.foldl_append]; rfl
theorem rqRun_at (ds:List DoV) (r:RqA) (k:Nat) (hk:k < ds.length):rqRun (ds.take (k + 1)) r=((rqRun (ds.take k) r).1 ++ [(rqStep ds[k] (rqRun (ds.take k) r).2).1],(rqStep ds[k] (rqRun (ds.take k) r).2).2):=by
  unfold rqRun
  rw [List.take_succ_eq_append_getElem hk,List.foldl_append]; rfl
theorem rp_small {a:RpA} (ok:RpOk a) (d:DoV):(rpStep d a).2.log.length ≤ a.log.length + 1 ∧ (rpStep d a).2.times ≤ a.times + 1:=by
  have hb:∀ n (b:RpA) (o:Nat),(b.bringN o n).log=b.log ∧ (b.bringN o n).times=b.times:=by
    intro n
    induction n with
    | zero => exact fun _ _ => ⟨rfl,rfl⟩
    | succ n ih => intro b o; rw [bringN_succ]; exact ⟨(bring_keep _ _ _).2.2.2.2.1.trans (ih b o).1,(bring_keep _ _ _).2.2.2.2.2.trans (ih b o).2⟩
  unfold rpStep
  split
  · unfold RpA.work
    split
    · rename_i p l hl
      split
      · rw [(bring_keep _ _ _).2.2.2.2.1,(bring_keep _ _ _).2.2.2.2.2]
        exact ⟨by show l.length ≤ _; rw [hl,List.length_cons]; omega,Nat.le_succ _⟩
      · exact ⟨by show l.length ≤ _; rw [hl,List.length_cons]; omega,Nat.le_succ _⟩
    · split
      · rw [(cop_keep _ _).2.2.2.2.1,(cop_keep _ _).2.2.2.2.2]; exact ⟨Nat.le_succ _,Nat.le_succ _⟩
      · unfold RpA.fill
        split
        · rw [(hb _ _ _).1,(hb _ _ _).2]; exact ⟨Nat.le_succ _,Nat.le_succ _⟩
        · exact ⟨Nat.zero_le _,Nat.le_refl _⟩
  · unfold rpDo
    split
    · exact ⟨Nat.le_succ _,Nat.le_succ _⟩
    · unfold rpKst rpNew
      split
      · split <;> split <;> exact ⟨Nat.le_succ _,Nat.le_succ _⟩
      split
      · exact ⟨Nat.le_succ _,Nat.le_succ _⟩
      split
      · exact ⟨Nat.le_succ _,Nat.le_succ _⟩
      split
      · split
        · exact ⟨Nat.le_succ _,Nat.le_succ _⟩
        · exact ⟨by show (a.log ++ [_]).length ≤ _; simp,Nat.le_succ _⟩
      split
      · split <;> exact ⟨Nat.le_succ _,Nat.le_succ _⟩
      split <;> exact ⟨Nat.le_succ _,Nat.le_succ _⟩
theorem rp_run (ds:List DoV) {a:RpA} {r:RqA} (h:RpSim a r) (ok:RpOk a):∀ k,k ≤ ds.length → (rpRun (ds.take k) a).1=(rqRun (ds.take k) r).1 ∧ RpSim (rpRun (ds.take k) a).2 (rqRun (ds.take k) r).2 ∧ RpOk (rpRun (ds.take k) a).2 ∧ (rpRun (ds.take k) a).2.objs.length ≤ a.objs.length + k ∧ (rpRun (ds.take k) a).1.length=k ∧ (rpRun (ds.take k) a).2.log.length ≤ a.log.length + k ∧ (rpRun (ds.take k) a).2.times ≤ a.times + k:=by
  intro k
  induction k with
  | zero => exact fun _ => ⟨rfl,h,ok,Nat.le_refl _,rfl,Nat.le_refl _,Nat.le_refl _⟩
  | succ k ih =>
    intro hk
    obtain ⟨h1,h2,h3,h4,h5,h6,h7⟩:=ih (by omega)
    rw [rpRun_at ds a k (by omega),rqRun_at ds r k (by omega)]
    obtain ⟨s1,s2⟩:=h2.step h3 (ds[k]'(by omega))
    obtain ⟨o1,o2⟩:=h3.step (ds[k]'(by omega))
    obtain ⟨m1,m2⟩:=rp_small h3 (ds[k]'(by omega))
    exact ⟨by dsimp only; rw [h1,s1],s2,o1,by dsimp only; omega,by dsimp only; rw [List.length_append,h5]; rfl,by dsimp only; omega,by dsimp only; omega⟩
def rangeI (n:Nat):List Int:=(List.range n).map fun (k:Nat) => (k:Int)
def rp0 (σ:MSt):RpA:=⟨σ.regs,σ.objs.map some,rangeI σ.objs.length,[],0,[],0⟩
def rq0 (σ:MSt):RqA:=⟨σ,rangeI σ.objs.length,[],0,[],0⟩
theorem thereL_all {α:Type} (l:List α):thereL (l.map some)=rangeI l.length:=by
  unfold thereL thereK rangeI
  rw [List.length_map]
  congr 1
  refine List.filter_eq_self.2 fun k hk => ?_
  rw [List.getD_eq_getElem?_getD,List.getElem?_map,List.getElem?_eq_getElem (List.mem_range.1 hk)]; rfl
theorem rp0_fld (σ:MSt) (i:Nat) (fs:List Val):(rp0 σ).fld i=some fs ↔ σ.objs[i]?=some fs:=by
  rw [RpA.fld_iff]
  show (σ.objs.map some)[i]?=_ ↔ _
  rw [List.getElem?_map]
  cases σ.objs[i]? <;> simp
theorem rp0_ok {σ:MSt} (hM:MOk σ) (hn:σ.objs.length ≤ 24):RpOk (rp0 σ) ∧ RpSim (rp0 σ) (rq0 σ):=by
  have hF:=rp0_fld σ
  have hv:∀ l:List Val,ValsOk σ.objs.length l → ∀ v ∈ l,(rp0 σ).vok v:=fun l hl v hv hb => by
    obtain ⟨h1,h2⟩:=hl v hv hb
    obtain ⟨i,e⟩:=int_nat h1
    have hi:i < σ.objs.length:=by omega
    exact ⟨i,σ.objs[i],e,(hF i _).2 (List.getElem?_eq_getElem hi)⟩
  refine ⟨⟨hM.r8,hv _ hM.vr,fun i fs h v hvm => hv fs (hM.vo fs (List.mem_of_getElem? ((hF i fs).1 h))) v hvm,fun i fs h => hM.f4 fs (List.mem_of_getElem? ((hF i fs).1 h)),fun x => ?_,?_,List.Pairwise.nil,fun p hp => (by cases hp),Nat.le_refl _,fun p hp => (by cases hp),fun k p hk => absurd hk (by show ¬ k < 0; omega)⟩,⟨rfl,List.length_map ..,fun i fs h => ?_,rfl,rfl,rfl,rfl,rfl,hM⟩⟩
  · show x ∈ rangeI _ ↔ _
    unfold rangeI
    rw [List.mem_map]
    constructor
    · rintro ⟨k,hk,rfl⟩
      have hk':=List.mem_range.1 hk
      exact ⟨k,σ.objs[k],rfl,(hF k _).2 (List.getElem?_eq_getElem hk')⟩
    · rintro ⟨k,fs,rfl,h⟩
      exact ⟨k,List.mem_range.2 (List.getElem?_eq_some_iff.1 ((hF k fs).1 h)).1,rfl⟩
  · show (rangeI _).length ≤ 24
    unfold rangeI
    rw [List.length_map,List.length_range]; exact hn
  · have h1:=(hF i fs).1 h
    show obA σ.objs (i:Int)=fs
    unfold obA
    rw [Int.toNat_natCast,List.getD_eq_getElem?_getD,h1]; rfl
end Go.Proofs.YtjphckfbbiehdaaGreat

namespace Go.Proofs.YtjphckfbbiehdaaGreat
open Go.RowKit
def wkB (d:DoV):Bool:=decide (d.k=8) || decide (d.k=9)
def plainV (ds:List DoV):List DoV:=ds.filter fun d => !wkB d
def keptV (ds:List DoV) (os:List OutV):List OutV:=((ds.zip os).filter fun p => !wkB p.1).map Prod.snd
theorem keptV_cons (d:DoV) (o:OutV) (ds:List DoV) (os:List OutV):keptV (d :: ds) (o :: os)=(if wkB d=true then [] else [o]) ++ keptV ds os:=by
  unfold keptV
  rw [List.zip_cons_cons,List.filter_cons]
  cases wkB d <;> simp
theorem keptV_take (ds:List DoV) (os:List OutV) {k:Nat} {d:DoV} {o:OutV} (hd:ds[k]?=some d) (ho:os[k]?=some o) :
    keptV (ds.take (k + 1)) (os.take (k + 1))=keptV (ds.take k) (os.take k) ++ (if wkB d=true then [] else [o]):=by
  obtain ⟨h1,rfl⟩:=List.getElem?_eq_some_iff.1 hd
  obtain ⟨h2,rfl⟩:=List.getElem?_eq_some_iff.1 ho
  unfold keptV
  rw [List.take_succ_eq_append_getElem h1,List.take_succ_eq_append_getElem h2,List.zip_append (by simp; omega),List.filter_append,List.map_append]
  congr 1
  rw [List.zip_cons_cons,List.filter_cons,List.zip_nil_left]
  cases wkB ds[k] <;> rfl
theorem plainV_take (ds:List DoV) {k:Nat} {d:DoV} (hd:ds[k]?=some d):plainV (ds.take (k + 1))=plainV (ds.take k) ++ (if wkB d=true then [] else [d]):=by
  obtain ⟨h1,rfl⟩:=List.getElem?_eq_some_iff.1 hd
  unfold plainV
  rw [List.take_succ_eq_append_getElem h1,List.filter_append,List.filter_cons,List.filter_nil]
  cases wkB ds[k] <;> rfl
theorem plainV_len (ds:List DoV):(plainV ds).length ≤ ds.length:=List.length_filter_le _ _
def outsR {S:Type} (st:DoV → S → OutV × S):List DoV → S → List OutV
  | [],_ => []
  | d :: ds,s => (st d s).1 :: outsR st ds (st d s).2
theorem run_outs {S:Type} (st:DoV → S → OutV × S):∀ (ds:List DoV) (acc:List OutV) (s:S),(ds.foldl (fun p d => (p.1 ++ [(st d p.2).1],(st d p.2).2)) (acc,s)).1=acc ++ outsR st ds s
  | [],acc,s => by simp [outsR]
  | d :: ds,acc,s => by rw [List.foldl_cons,run_outs st ds,outsR,List.append_assoc]; rfl
theorem runM_outs (ds:List DoV) (σ:MSt):(runM ds σ).1=outsR stepM ds σ:=by
  have:=run_outs stepM ds [] σ
  rw [List.nil_append] at this
  exact this
def Alike {S:Type} (st:DoV → S → OutV × S) (P:S → MSt → Prop):Prop :=
  ∀ d s σ,P s σ → (wkB d=true → P (st d s).2 σ) ∧ (wkB d=false → (st d s).1.code=6 ∨ ((st d s).1=(stepM d σ).1 ∧ P (st d s).2 (stepM d σ).2))
theorem alike_outs {S:Type} {st:DoV → S → OutV × S} {P:S → MSt → Prop} (h:Alike st P):∀ (ds:List DoV) (s:S) (σ:MSt),P s σ → (∀ o ∈ outsR st ds s,o.code ≠ 6) → keptV ds (outsR st ds s)=outsR stepM (plainV ds) σ
  | [],_,_,_,_ => rfl
  | d :: ds,s,σ,hp,hno => by
    unfold outsR at hno
    obtain ⟨h1,h2⟩:=h d s σ hp
    have hn2:=fun o ho => hno o (List.mem_cons_of_mem _ ho)
    unfold plainV
    rw [outsR,keptV_cons,List.filter_cons]
    cases hw:wkB d with
    | true =>
      rw [if_pos rfl,if_neg (by simp)]
      exact alike_outs h ds _ σ (h1 hw) hn2
    | false =>
      rw [if_neg (by simp),if_pos (by simp)]
      rcases h2 hw with h3 | ⟨h3,h4⟩
      · exact absurd h3 (hno _ (List.mem_cons_self ..))
      · rw [alike_outs h ds _ _ h4 hn2,h3]
        rfl
theorem wkB_iff (d:DoV):wkB d=true ↔ d.k=8 ∨ d.k=9:=by unfold wkB; simp
theorem wkB_not (d:DoV):wkB d=false ↔ d.k ≠ 8 ∧ d.k ≠ 9:=by unfold wkB; simp
theorem wrongM_wk {d:DoV} (h:wkB d=true):wrongM d ≠ 0:=by
  have:=(wkB_iff d).1 h
  unfold wrongM
  rw [if_pos (by omega)]; decide
theorem rWrong_wk {d:DoV} (h:wkB d=true) (σ:MSt):rWrong d σ ≠ 0:=by
  unfold rWrong
  rw [if_pos (wrongM_wk h)]; exact wrongM_wk h
theorem rt_alike (q:Nat):Alike (rtStep q) (fun t σ => t.σ=σ):=by
  intro d t σ hp
  subst hp
  refine ⟨fun hw => ?_,fun hw => ?_⟩
  · unfold rtStep
    rcases (wkB_iff d).1 hw with h8 | h9
    · rw [if_pos h8]
      split <;> rfl
    · rw [if_neg (by omega),if_pos h9]
      split <;> rfl
  · obtain ⟨h8,h9⟩:=(wkB_not d).1 hw
    unfold rtStep
    rw [if_neg h8,if_neg h9,stepM_rw]
    by_cases hr:rWrong d t.σ ≠ 0
    · rw [if_pos hr,if_pos hr]
      exact .inr ⟨rfl,rfl⟩
    · rw [if_neg hr,if_neg hr]
      split
      · exact .inl rfl
      · exact .inr ⟨rfl,rfl⟩
theorem gr_alike (room:Nat):Alike (grStep room) (fun r σ => r.σ=σ):=by
  intro d r σ hp
  subst hp
  refine ⟨fun hw => ?_,fun hw => ?_⟩
  · unfold grStep
    rcases (wkB_iff d).1 hw with h8 | h9
    · rw [if_pos h8]; rfl
    · rw [if_neg (by omega),if_pos h9]; rfl
  · obtain ⟨h8,h9⟩:=(wkB_not d).1 hw
    unfold grStep
    rw [if_neg h8,if_neg h9]
    by_cases hr:wrongM d ≠ 0
    · rw [if_pos hr]
      unfold stepM
      rw [if_pos hr]
      exact .inr ⟨rfl,rfl⟩
    · rw [if_neg hr]
      split
      · split
        · exact .inl rfl
        · unfold GrA.new_
          rw [GrA.room_σ]
          exact .inr ⟨rfl,rfl⟩
      · exact .inr ⟨rfl,rfl⟩
theorem RqA.cop_σ (r:RqA) (v:Val):(r.cop v).σ=r.σ:=by unfold RqA.cop; split <;> rfl
theorem RqA.cops_σ:∀ (l:List Val) (r:RqA),(l.foldl RqA.cop r).σ=r.σ
  | [],_ => rfl
  | v :: l,r => by rw [List.foldl_cons,RqA.cops_σ l,RqA.cop_σ]
theorem RqA.work_σ (r:RqA):r.work.σ=r.σ:=by
  unfold RqA.work
  split
  · split
    · exact RqA.cop_σ r _
    · rfl
  · split
    · exact RqA.cop_σ r _
    · split
      · exact RqA.cops_σ _ r
      · rfl
theorem rq_alike:Alike rqStep (fun r σ => r.σ=σ):=by
  intro d r σ hp
  subst hp
  refine ⟨fun hw => ?_,fun hw => ?_⟩
  · unfold rqStep
    split
    · exact RqA.work_σ r
    · have h1:=rWrong_wk hw r.σ
      have h2:rqErr d r ≠ 0:=by
        unfold rqErr
        rw [if_neg (fun h => h1 h.1)]; exact h1
      rw [if_pos h2]
  · obtain ⟨h8,h9⟩:=(wkB_not d).1 hw
    unfold rqStep
    rw [if_neg h8,stepM_rw]
    unfold rqErr
    by_cases hr:rWrong d r.σ=0
    · by_cases hf:rWrong d r.σ=0 ∧ d.k=1 ∧ 24 ≤ r.row.length
      · rw [if_pos hf,if_pos (by decide)]
        exact .inl rfl
      · rw [if_neg hf,if_neg (fun h => h hr),if_neg (fun h => h hr)]
        exact .inr ⟨rfl,rfl⟩
    · have e:(if rWrong d r.σ=0 ∧ d.k=1 ∧ 24 ≤ r.row.length then (6:Int) else rWrong d r.σ)=rWrong d r.σ:=if_neg (fun h => hr h.1)
      rw [e,if_pos hr,if_pos hr]
      exact .inr ⟨rfl,rfl⟩
theorem cn_alike (R:Int):Alike (cnDo R) (fun a σ => CnOk a ∧ CnLk a σ):=by
  intro d a σ ⟨ok,h⟩
  refine ⟨fun hw => ?_,fun _ => ?_⟩
  · have h1:=wrongM_wk hw
    unfold cnDo
    rw [if_pos h1]
    exact ⟨ok,h⟩
  · rcases cnDo_lk R h ok d with h1 | ⟨h1,h2⟩
    · exact .inl h1
    · exact .inr ⟨h1,(ok.do_ R d).1,h2⟩
theorem tri_told {q:Nat} (hq:q=1 ∨ q=2 ∨ q=3) {σ:MSt} (hM:MOk σ) (hn:σ.objs.length ≤ 24) (ds:List DoV) (hd:ds.length ≤ 100) (hno:∀ o ∈ (coRun q ds (co0 σ)).1,o.code ≠ 6) :
    keptV ds (coRun q ds (co0 σ)).1=(runM (plainV ds) σ).1:=by
  obtain ⟨-,-,-,h4⟩:=rtRun_ok hq ds (rt0_ok q hM (by omega)) (by show σ.objs.length + _ ≤ _; omega)
  rw [rt0_a] at h4
  have e:(coRun q ds (co0 σ)).1=outsR (rtStep q) ds (rt0 σ):=by
    rw [h4]
    have:=run_outs (rtStep q) ds [] (rt0 σ)
    rw [List.nil_append] at this
    exact this
  rw [e] at hno ⊢
  rw [runM_outs]
  exact alike_outs (rt_alike q) ds _ _ rfl hno
theorem gen_told {σ:MSt} (hM:MOk σ) (R:Nat) (ds:List DoV) (hno:∀ o ∈ (gnRun R ds (gn0 σ)).1,o.code ≠ 6) :
    keptV ds (gnRun R ds (gn0 σ)).1=(runM (plainV ds) σ).1:=by
  have e:(gnRun R ds (gn0 σ)).1=outsR (grStep R) ds (gr0 σ):=by
    rw [(gn_run hM R ds).1]
    have:=run_outs (grStep R) ds [] (gr0 σ)
    rw [List.nil_append] at this
    exact this
  rw [e] at hno ⊢
  rw [runM_outs]
  exact alike_outs (gr_alike R) ds _ _ rfl hno
theorem rep_told {σ:MSt} (hM:MOk σ) (hn:σ.objs.length ≤ 24) (ds:List DoV) (hno:∀ o ∈ (rpRun ds (rp0 σ)).1,o.code ≠ 6) :
    keptV ds (rpRun ds (rp0 σ)).1=(runM (plainV ds) σ).1:=by
  obtain ⟨h0,s0⟩:=rp0_ok hM hn
  have h1:=(rp_run ds s0 h0 ds.length (Nat.le_refl _)).1
  rw [List.take_length] at h1
  have e:(rpRun ds (rp0 σ)).1=outsR rqStep ds (rq0 σ):=by
    rw [h1]
    have:=run_outs rqStep ds [] (rq0 σ)
    rw [List.nil_append] at this
    exact this
  rw [e] at hno ⊢
  rw [runM_outs]
  exact alike_outs rq_alike ds _ _ rfl hno
theorem cnt_told {σ:MSt} (hM:MOk σ) (R:Int) (ds:List DoV) (hno:∀ o ∈ (cnRun R ds (cnBeg σ σ.objs.length)).1,o.code ≠ 6) :
    keptV ds (cnRun R ds (cnBeg σ σ.objs.length)).1=(runM (plainV ds) σ).1:=by
  have e:(cnRun R ds (cnBeg σ σ.objs.length)).1=outsR (cnDo R) ds (cnBeg σ σ.objs.length):=by
    have:=run_outs (cnDo R) ds [] (cnBeg σ σ.objs.length)
    rw [List.nil_append] at this
    exact this
  rw [e] at hno ⊢
  rw [runM_outs]
  exact alike_outs (cn_alike R) ds _ _ ⟨(cnBeg_ok hM _ (Nat.le_refl _)).2.1,cnBeg_lk hM _ (Nat.le_refl _)⟩ hno
end Go.Proofs.YtjphckfbbiehdaaGreat

namespace Go.Proofs.YtjphckfbbiehdaaGreat
open Go.RowKit
theorem run_copy_rowN {P:Program} (w:World) (dT sT ty elem:TypeId) (z n g o dLen dCap:Nat) (a:Addr) (sLen sCap:Nat) (cur:Array Value) (t:TypeId) (cs:List Value)
    (hu:P.underlying dT=some (.slice elem)) (hs:(P.info? elem).map (·.size)=some z)
    (hg:w.heap[g]?=some (.cells cur t (0,0))) (hm:Nat.min sLen dLen=n) (hn:cs.length=n * z)
    (hsrc:∀ j v,cs[j]?=some v → w.cell? (a.add j)=some v) (hfit:o + cs.length ≤ cur.size) (h1:∀ v ∈ cs,v.oneCell'=true) :
    (Builtin.copy_ #[dT,sT] ty #[.slice (some ⟨g,o,none⟩) dLen dCap,.slice (some a) sLen sCap]).run P w =
      .ok (goInt n) (w.setRow g (cur.toList.take o ++ cs ++ cur.toList.drop (o + cs.length)).toArray):=by
  have hl:=run_loadCells_list (P:=P) w a cs hsrc
  have hst:=run_storeCells_at P g o t cs 0 cur w hg (by simpa using hfit) h1
  cases hq:P.info? elem with
  | none => simp [hq] at hs
  | some i =>
    have hi:i.size=z:=by simpa [hq] using hs
    rw [hn] at hl
    simp [Builtin.copy_,run_underlying hu,Builtin.lenOf,Builtin.firstCells,sizeOf,typeInfo,hq,hi,hm,hl,hst]
theorem run_copy_noneN {P:Program} (w:World) (dT sT ty elem:TypeId) (z dLen dCap sCap:Nat) (dp sp:Option Addr)
    (hu:P.underlying dT=some (.slice elem)) (hs:(P.info? elem).map (·.size)=some z) :
    (Builtin.copy_ #[dT,sT] ty #[.slice dp dLen dCap,.slice sp 0 sCap]).run P w=.ok (goInt 0) w:=by
  cases hq:P.info? elem with
  | none => simp [hq] at hs
  | some i =>
    have hi:i.size=z:=by simpa [hq] using hs
    cases dp <;> cases sp <;> simp [Builtin.copy_,run_underlying hu,Builtin.lenOf,Builtin.firstCells,sizeOf,typeInfo,hq,hi,storeCells,loadCells,loadCellsFrom]
theorem vSize:(Tryz.prog.info? 63).map (·.size)=some 2:=by kernel_rfl
theorem vals_rep (n:Nat) (hn:n ≤ 8):(vals (zeroVs 8)).drop (n * 2)=vals (List.replicate (8 - n) (false,0)):=by
  rcases (show n=0 ∨ n=1 ∨ n=2 ∨ n=3 ∨ n=4 ∨ n=5 ∨ n=6 ∨ n=7 ∨ n=8 from by omega) with rfl | rfl | rfl | rfl | rfl | rfl | rfl | rfl | rfl <;> rfl
end Go.Proofs.YtjphckfbbiehdaaGreat
