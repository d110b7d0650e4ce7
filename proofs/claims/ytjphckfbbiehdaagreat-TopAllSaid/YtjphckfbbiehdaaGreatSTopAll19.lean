/- Part of a proof. -/
import Derived.Test.YtjphckfbbiehdaaGreatSTopAll8
import Derived.Test.YtjphckfbbiehdaaGreatSTopAll16
set_option linter.unusedSimpArgs false
set_option linter.unusedVariables false
namespace Go.Proofs.YtjphckfbbiehdaaGreat
open Go.RowKit
structure RpA where
  regs:List Val
  objs:List (Option (List Val))
  row:List Int
  cps:List (Nat × List Val)
  filled:Nat
  log:List (Nat × Nat)
  times:Nat
def RpA.fld (a:RpA) (i:Nat):Option (List Val):=(a.objs[i]?).getD none
def RpA.vok (a:RpA) (v:Val):Prop:=v.1=true → ∃ (i:Nat) (fs:List Val),v.2=(i:Int) ∧ a.fld i=some fs
theorem RpA.fld_iff {a:RpA} {i:Nat} {fs:List Val}:a.fld i=some fs ↔ a.objs[i]?=some (some fs):=by
  unfold RpA.fld
  cases h:a.objs[i]? with
  | none => simp
  | some o => cases o <;> simp
theorem RpA.fld_lt {a:RpA} {i:Nat} {fs:List Val} (h:a.fld i=some fs):i < a.objs.length:=(List.getElem?_eq_some_iff.1 (RpA.fld_iff.1 h)).1
def keysC (l:List (Nat × List Val)):List Nat:=l.map fun p => p.1
def RpA.made (a:RpA):List Int:=(keysC a.cps).map fun (k:Nat) => (k:Int)
def RpA.has (a:RpA) (z:Nat):Prop:=z ∈ keysC a.cps
instance (a:RpA) (z:Nat):Decidable (a.has z):=inferInstanceAs (Decidable (z ∈ _))
def RpA.flds (a:RpA) (o:Nat):List Val:=(a.fld o).getD []
def RpA.at_ (a:RpA) (o k:Nat):Val:=(a.flds o).getD k (false,0)
def RpA.cop (a:RpA) (v:Val):RpA:=if v.1=false ∨ a.has v.2.toNat then a else { a with cps:=a.cps ++ [(v.2.toNat,zeroVs (a.flds v.2.toNat).length)] }
def cpSet (l:List (Nat × List Val)) (o k:Nat) (v:Val):List (Nat × List Val):=l.map fun p => if p.1=o then (p.1,p.2.set k v) else p
def RpA.cset (a:RpA) (o k:Nat) (v:Val):RpA:={ a with cps:=cpSet a.cps o k v }
def RpA.bring (a:RpA) (o k:Nat):RpA:=(a.cop (a.at_ o k)).cset o k (a.at_ o k)
def copyC (l:List (Nat × List Val)) (z:Nat):Option (List Val):=(l.find? fun p => p.1=z).map fun p => p.2
def flipO (cps:List (Nat × List Val)) (row:List Int) (objs:List (Option (List Val))):List (Option (List Val)):=row.foldl (fun l x => l.set x.toNat (copyC cps x.toNat)) objs
def RpA.flip (a:RpA):RpA:={ a with objs:=flipO a.cps a.row a.objs,row:=a.made,times:=a.times + 1,cps:=[],filled:=0,log:=[] }
def RpA.bringN (a:RpA) (o n:Nat):RpA:=(List.range n).foldl (fun b k => b.bring o k) a
def RpA.nl (a:RpA) (l:List (Nat × Nat)):RpA:={ a with log:=l }
def RpA.fl (a:RpA) (n:Nat):RpA:={ a with filled:=n }
def RpA.miss (a:RpA):Option Val:=a.regs.find? fun v => v.1 && !decide (a.has v.2.toNat)
def RpA.fill (a:RpA):RpA :=
  match a.cps[a.filled]? with
  | some p => (a.fl (a.filled + 1)).bringN p.1 (a.flds p.1).length
  | none => a.flip
def RpA.work (a:RpA):RpA :=
  match a.log with
  | p :: l => if a.has p.1 then (a.nl l).bring p.1 p.2 else a.nl l
  | [] =>
    match a.miss with
    | some v => a.cop v
    | none => a.fill
def RpA.sr (a:RpA) (r:Nat) (v:Val):RpA:={ a with regs:=a.regs.set r v }
def rpPut (a:RpA) (i k:Nat) (v:Val):RpA:={ a with objs:=a.objs.set i (some ((a.flds i).set k v)),log:=a.log ++ [(i,k)] }
def RpA.push (a:RpA) (n:Nat):RpA:={ a with objs:=a.objs ++ [some (zeroVs n)],row:=a.row ++ [(a.objs.length:Int)] }
def rpNew (a:RpA) (n:Nat):RpA × Int × Int:=if 24 ≤ a.row.length then (a,0,6) else (a.push n,a.objs.length,0)
def FieldOk (a:RpA) (o j:Nat) (c:List Val):Prop:=(o,j) ∈ a.log ∨ (c[j]?=(a.flds o)[j]? ∧ ∀ v,(a.flds o)[j]?=some v → v.1=true → a.has v.2.toNat)
structure RpOkE (E:Nat → Nat → Prop) (a:RpA):Prop where
  r8:a.regs.length=8
  vr:∀ v ∈ a.regs,a.vok v
  vf:∀ i fs,a.fld i=some fs → ∀ v ∈ fs,a.vok v
  f4:∀ i fs,a.fld i=some fs → fs.length ≤ 4
  row:∀ x:Int,x ∈ a.row ↔ ∃ (i:Nat) (fs:List Val),x=(i:Int) ∧ a.fld i=some fs
  r24:a.row.length ≤ 24
  nd:(keysC a.cps).Nodup
  ck:∀ p ∈ a.cps,∃ fs,a.fld p.1=some fs ∧ p.2.length=fs.length
  fk:a.filled ≤ a.cps.length
  lg:∀ p ∈ a.log,∃ fs,a.fld p.1=some fs ∧ p.2 < fs.length
  ok:∀ k (p:Nat × List Val),k < a.filled → a.cps[k]?=some p → ∀ j,j < p.2.length → E p.1 j ∨ FieldOk a p.1 j p.2
def RpOk (a:RpA):Prop:=RpOkE (fun _ _ => False) a
theorem RpA.flds_of {a:RpA} {i:Nat} {fs:List Val} (h:a.fld i=some fs):a.flds i=fs:=by unfold RpA.flds; rw [h]; rfl
section
variable {E : Nat → Nat → Prop} {a : RpA}
theorem RpOkE.rg (ok:RpOkE E a) (r:Int):a.vok (rgA a.regs r):=by
  unfold rgA
  rcases getD_mem_or a.regs r.toNat (false,0) with h2 | h2
  · exact ok.vr _ h2
  · rw [h2]; intro h1; cases h1
theorem RpOkE.made24 (ok:RpOkE E a):a.cps.length ≤ 24:=by
  have h1:a.made.Nodup:=List.pairwise_map.2 (ok.nd.imp fun h e => h (by omega))
  have h2:∀ x ∈ a.made,x ∈ a.row:=fun x hx => by
    obtain ⟨k,hk,rfl⟩:=List.mem_map.1 hx
    obtain ⟨p,hp,rfl⟩:=List.mem_map.1 hk
    obtain ⟨fs,hf,_⟩:=ok.ck p hp
    exact (ok.row _).2 ⟨p.1,fs,rfl,hf⟩
  have h3:=nodup_sum (fun _ => 1) _ _ h1 h2
  have h4:a.made.length=a.cps.length:=by unfold RpA.made keysC; rw [List.length_map,List.length_map]
  have h5:=ok.r24
  have gen:∀ l:List Int,(l.map fun _ => 1).sum=l.length:=fun l => by induction l with
    | nil => rfl
    | cons x l ih => rw [List.map_cons,List.sum_cons,ih,List.length_cons]; omega
  rw [gen,gen] at h3
  omega
theorem has_key {a:RpA} {z:Nat} (h:a.has z):∃ (k:Nat) (p:Nat × List Val),a.cps[k]?=some p ∧ p.1=z:=by
  obtain ⟨p,hp,e⟩:=List.mem_map.1 h
  obtain ⟨k,hk⟩:=List.getElem?_of_mem hp
  exact ⟨k,p,hk,e⟩
theorem RpOkE.has_fld (ok:RpOkE E a) {z:Nat} (h:a.has z):∃ fs,a.fld z=some fs:=by
  obtain ⟨k,p,hp,rfl⟩:=has_key h
  obtain ⟨fs,hf,_⟩:=ok.ck p (List.mem_of_getElem? hp)
  exact ⟨fs,hf⟩
theorem RpOkE.weaken (ok:RpOkE E a) (h:∀ k (p:Nat × List Val) j,k < a.filled → a.cps[k]?=some p → j < p.2.length → ¬ E p.1 j):RpOk a :=
  ⟨ok.r8,ok.vr,ok.vf,ok.f4,ok.row,ok.r24,ok.nd,ok.ck,ok.fk,ok.lg,fun k p hk hp j hj => .inr ((ok.ok k p hk hp j hj).resolve_left (h k p j hk hp hj))⟩
theorem RpOkE.congr {F:Nat → Nat → Prop} (ok:RpOkE E a) (h:∀ o j,E o j → F o j):RpOkE F a :=
  ⟨ok.r8,ok.vr,ok.vf,ok.f4,ok.row,ok.r24,ok.nd,ok.ck,ok.fk,ok.lg,fun k p hk hp j hj => (ok.ok k p hk hp j hj).imp (h _ _) id⟩
theorem cop_no {a:RpA} {v:Val} (h:v.1=false ∨ a.has v.2.toNat):a.cop v=a:=if_pos h
theorem cop_yes {a:RpA} {v:Val} (h:¬ (v.1=false ∨ a.has v.2.toNat)):a.cop v={ a with cps:=a.cps ++ [(v.2.toNat,zeroVs (a.flds v.2.toNat).length)] }:=if_neg h
theorem cop_has (a:RpA) (v:Val) (z:Nat):(a.cop v).has z ↔ a.has z ∨ (v.1=true ∧ z=v.2.toNat):=by
  by_cases h:v.1=false ∨ a.has v.2.toNat
  · rw [cop_no h]
    refine ⟨.inl,fun h1 => h1.elim id ?_⟩
    rintro ⟨h2,rfl⟩
    rcases h with h3 | h3
    · rw [h2] at h3; cases h3
    · exact h3
  · have h1:v.1=true:=by
      cases hc:v.1
      · exact absurd (.inl hc) h
      · rfl
    rw [cop_yes h]
    show z ∈ keysC (a.cps ++ [_]) ↔ _
    unfold keysC
    rw [List.map_append,List.mem_append]
    simp [h1,RpA.has,keysC]
theorem cop_keep (a:RpA) (v:Val):(a.cop v).regs=a.regs ∧ (a.cop v).objs=a.objs ∧ (a.cop v).row=a.row ∧ (a.cop v).filled=a.filled ∧ (a.cop v).log=a.log ∧ (a.cop v).times=a.times:=by
  by_cases h:v.1=false ∨ a.has v.2.toNat
  · rw [cop_no h]; exact ⟨rfl,rfl,rfl,rfl,rfl,rfl⟩
  · rw [cop_yes h]; exact ⟨rfl,rfl,rfl,rfl,rfl,rfl⟩
theorem FieldOk.mono {a b:RpA} {o j:Nat} {c:List Val} (h:FieldOk a o j c) (hl:∀ p ∈ a.log,p ∈ b.log) (hf:(b.flds o)[j]?=(a.flds o)[j]?) (hh:∀ z,a.has z → b.has z):FieldOk b o j c:=by
  rcases h with h | ⟨h1,h2⟩
  · exact .inl (hl _ h)
  · exact .inr ⟨h1.trans hf.symm,fun v hv hb => hh _ (h2 v (hf.symm.trans hv) hb)⟩
theorem RpOkE.cop (ok:RpOkE E a) {v:Val} (hv:a.vok v):RpOkE E (a.cop v):=by
  by_cases h:v.1=false ∨ a.has v.2.toNat
  · rw [cop_no h]; exact ok
  · have hh:=cop_has a v
    rw [cop_yes h] at hh ⊢
    have h1:v.1=true:=by
      cases hc:v.1
      · exact absurd (.inl hc) h
      · rfl
    obtain ⟨i,fs,e,hf⟩:=hv h1
    refine ⟨ok.r8,ok.vr,ok.vf,ok.f4,ok.row,ok.r24,?_,fun p hp => ?_,?_,ok.lg,fun k p hk hp j hj => ?_⟩
    · show (keysC (a.cps ++ [_])).Nodup
      unfold keysC
      rw [List.map_append]
      refine List.nodup_append.2 ⟨ok.nd,by simp,fun x hx y hy => ?_⟩
      have:y=v.2.toNat:=by simpa using hy
      rintro rfl
      exact h (.inr (this ▸ hx))
    · rcases List.mem_append.1 hp with h2 | h2
      · exact ok.ck p h2
      · rw [List.mem_singleton.1 h2]
        refine ⟨fs,by show a.fld v.2.toNat=_; rw [e,Int.toNat_natCast]; exact hf,?_⟩
        show (zeroVs (a.flds v.2.toNat).length).length=_
        rw [e,Int.toNat_natCast,RpA.flds_of hf]; simp [zeroVs]
    · show a.filled ≤ (a.cps ++ [_]).length
      rw [List.length_append]; have:=ok.fk; omega
    · have hp':(a.cps ++ [(v.2.toNat,zeroVs (a.flds v.2.toNat).length)])[k]?=some p:=hp
      rw [List.getElem?_append_left (by have:=ok.fk; have:k < a.filled:=hk; omega)] at hp'
      exact (ok.ok k p hk hp' j hj).imp id fun h3 => h3.mono (fun _ h4 => h4) rfl fun z hz => (hh z).2 (.inl hz)
theorem cpSet_keys (l:List (Nat × List Val)) (o k:Nat) (v:Val):keysC (cpSet l o k v)=keysC l:=by
  unfold keysC cpSet
  rw [List.map_map]
  refine List.map_congr_left fun p _ => ?_
  show (if p.1=o then (p.1,p.2.set k v) else p).1=p.1
  split <;> rfl
theorem cset_has (a:RpA) (o k:Nat) (v:Val) (z:Nat):(a.cset o k v).has z ↔ a.has z:=by unfold RpA.has; rw [show (a.cset o k v).cps=cpSet a.cps o k v from rfl,cpSet_keys]
theorem RpOkE.cset (ok:RpOkE E a) {o k:Nat} {v:Val} (hv:(a.flds o)[k]?=some v) (hh:v.1=true → a.has v.2.toNat):RpOkE (fun o' j => E o' j ∧ ¬ (o'=o ∧ j=k)) (a.cset o k v):=by
  have hc:=cset_has a o k v
  have hck:∀ (i:Nat) (p:Nat × List Val),(a.cset o k v).cps[i]?=some p → ∃ q:Nat × List Val,a.cps[i]?=some q ∧ p=(if q.1=o then (q.1,q.2.set k v) else q):=fun i p hp => by
    have hp':(cpSet a.cps o k v)[i]?=some p:=hp
    unfold cpSet at hp'
    rw [List.getElem?_map] at hp'
    cases hq:a.cps[i]? with
    | none => rw [hq] at hp'; cases hp'
    | some q => rw [hq] at hp'; exact ⟨q,rfl,(Option.some.inj hp').symm⟩
  refine ⟨ok.r8,ok.vr,ok.vf,ok.f4,ok.row,ok.r24,?_,fun p hp => ?_,?_,ok.lg,fun i p hi hp j hj => ?_⟩
  · show (keysC (cpSet _ _ _ _)).Nodup
    rw [cpSet_keys]; exact ok.nd
  · obtain ⟨i,hi⟩:=List.getElem?_of_mem hp
    obtain ⟨q,hq,rfl⟩:=hck i p hi
    obtain ⟨fs,hf,hl⟩:=ok.ck q (List.mem_of_getElem? hq)
    refine ⟨fs,?_,?_⟩
    · split <;> exact hf
    · split
      · show (q.2.set k v).length=_; rw [List.length_set]; exact hl
      · exact hl
  · show a.filled ≤ (cpSet a.cps o k v).length
    unfold cpSet; rw [List.length_map]; exact ok.fk
  · obtain ⟨q,hq,rfl⟩:=hck i p hp
    by_cases e:q.1=o
    · rw [if_pos e] at hj ⊢
      have hj':j < q.2.length:=by simpa using hj
      dsimp only
      by_cases ej:j=k
      · subst ej
        refine .inr (.inr ⟨?_,fun u hu hb => ?_⟩)
        · rw [List.getElem?_set,if_pos rfl,if_pos hj',e]; exact hv.symm
        · rw [e] at hu
          obtain rfl:u=v:=Option.some.inj (hu.symm.trans hv)
          exact (hc _).2 (hh hb)
      · rcases ok.ok i q hi hq j hj' with h1 | h1
        · exact .inl ⟨h1,fun h => ej h.2⟩
        · refine .inr ?_
          rcases h1 with h2 | ⟨h2,h3⟩
          · exact .inl h2
          · exact .inr ⟨by rw [List.getElem?_set,if_neg (fun h => ej h.symm)]; exact h2,fun u hu hb => (hc _).2 (h3 u hu hb)⟩
    · rw [if_neg e] at hj ⊢
      exact (ok.ok i q hi hq j hj).imp (fun h1 => ⟨h1,fun h => e h.1⟩) fun h1 => h1.mono (fun _ h => h) rfl fun z hz => (hc z).2 hz
theorem at_of {a:RpA} {o k:Nat} (hk:k < (a.flds o).length):(a.flds o)[k]?=some (a.at_ o k):=by
  unfold RpA.at_
  rw [List.getD_eq_getElem?_getD,List.getElem?_eq_getElem hk]; rfl
theorem RpOkE.at_vok (ok:RpOkE E a) {o k:Nat} (ho:a.has o) (hk:k < (a.flds o).length):a.vok (a.at_ o k):=by
  obtain ⟨fs,hf⟩:=ok.has_fld ho
  have h1:=at_of hk
  rw [RpA.flds_of hf] at h1
  exact ok.vf o fs hf _ (List.mem_of_getElem? h1)
theorem bring_keep (a:RpA) (o k:Nat):(a.bring o k).regs=a.regs ∧ (a.bring o k).objs=a.objs ∧ (a.bring o k).row=a.row ∧ (a.bring o k).filled=a.filled ∧ (a.bring o k).log=a.log ∧ (a.bring o k).times=a.times:=cop_keep a (a.at_ o k)
theorem bring_has (a:RpA) (o k z:Nat) (h:a.has z):(a.bring o k).has z:=(cset_has _ _ _ _ _).2 ((cop_has _ _ _).2 (.inl h))
theorem RpOkE.bring (ok:RpOkE E a) {o k:Nat} (ho:a.has o) (hk:k < (a.flds o).length):RpOkE (fun o' j => E o' j ∧ ¬ (o'=o ∧ j=k)) (a.bring o k):=by
  have h1:=ok.cop (ok.at_vok ho hk)
  have e:(a.cop (a.at_ o k)).flds o=a.flds o:=by unfold RpA.flds RpA.fld; rw [(cop_keep a _).2.1]
  refine h1.cset (by rw [e]; exact at_of hk) fun hb => (cop_has _ _ _).2 (.inr ⟨hb,rfl⟩)
theorem bringN_succ (a:RpA) (o n:Nat):a.bringN o (n + 1)=(a.bringN o n).bring o n:=by unfold RpA.bringN; rw [List.range_succ,List.foldl_append]; rfl
theorem RpOkE.bringN (ok:RpOkE E a) {o:Nat} (ho:a.has o):∀ n,n ≤ (a.flds o).length → RpOkE (fun o' j => E o' j ∧ ¬ (o'=o ∧ j < n)) (a.bringN o n) ∧ (a.bringN o n).has o ∧ (a.bringN o n).objs=a.objs ∧ (a.bringN o n).regs=a.regs ∧ (a.bringN o n).row=a.row ∧ (a.bringN o n).filled=a.filled ∧ (a.bringN o n).log=a.log ∧ (a.bringN o n).times=a.times:=by
  intro n
  induction n with
  | zero => exact fun _ => ⟨ok.congr fun o' j h => ⟨h,fun h2 => by omega⟩,ho,rfl,rfl,rfl,rfl,rfl,rfl⟩
  | succ n ih =>
    intro hn
    obtain ⟨h1,h2,h3,h4,h5,h6,h7,h8⟩:=ih (by omega)
    rw [bringN_succ]
    have e:(a.bringN o n).flds o=a.flds o:=by unfold RpA.flds RpA.fld; rw [h3]
    obtain ⟨b1,b2,b3,b4,b5,b6⟩:=bring_keep (a.bringN o n) o n
    refine ⟨(h1.bring h2 (k:=n) (by rw [e]; omega)).congr fun o' j h => ⟨h.1.1,fun h9 => ?_⟩,bring_has _ _ _ _ h2,b2.trans h3,b1.trans h4,b3.trans h5,b4.trans h6,b5.trans h7,b6.trans h8⟩
    by_cases e2:j=n
    · exact h.2 ⟨h9.1,e2⟩
    · exact h.1.2 ⟨h9.1,by have:=h9.2; omega⟩
end
end Go.Proofs.YtjphckfbbiehdaaGreat

namespace Go.Proofs.YtjphckfbbiehdaaGreat
open Go.RowKit
theorem copyC_some {l:List (Nat × List Val)} (hn:(keysC l).Nodup) {p:Nat × List Val} (hp:p ∈ l):copyC l p.1=some p.2:=by
  unfold copyC
  induction l with
  | nil => cases hp
  | cons q l ih =>
    rw [List.find?_cons]
    unfold keysC at hn
    rw [List.map_cons,List.nodup_cons] at hn
    rcases List.mem_cons.1 hp with rfl | h
    · simp
    · have hne:q.1 ≠ p.1:=fun e => hn.1 (List.mem_map.2 ⟨p,h,e.symm⟩)
      rw [show decide (q.1=p.1)=false from by simp [hne]]
      exact ih hn.2 h
theorem copyC_none {l:List (Nat × List Val)} {z:Nat} (h:z ∉ keysC l):copyC l z=none:=by
  unfold copyC
  rw [List.find?_eq_none.2 (fun p hp h2 => h (List.mem_map.2 ⟨p,hp,by simpa using h2⟩))]; rfl
theorem flipO_len (cps:List (Nat × List Val)) (row:List Int) (objs:List (Option (List Val))):(flipO cps row objs).length=objs.length:=by
  unfold flipO
  induction row generalizing objs with
  | nil => rfl
  | cons x row ih => rw [List.foldl_cons,ih,List.length_set]
theorem flipO_get (cps:List (Nat × List Val)) (row:List Int) (hr:∀ x ∈ row,0 ≤ x):∀ (objs:List (Option (List Val))) (i:Nat),(flipO cps row objs)[i]?=if (i:Int) ∈ row ∧ i < objs.length then some (copyC cps i) else objs[i]?:=by
  unfold flipO
  induction row with
  | nil => intro objs i; rw [if_neg (by simp)]; rfl
  | cons x row ih =>
    intro objs i
    have hx:=hr x (List.mem_cons_self ..)
    rw [List.foldl_cons,ih (fun y hy => hr y (List.mem_cons_of_mem _ hy)),List.length_set,List.getElem?_set]
    by_cases h1:(i:Int) ∈ row ∧ i < objs.length
    · rw [if_pos h1,if_pos ⟨List.mem_cons_of_mem _ h1.1,h1.2⟩]
    · rw [if_neg h1]
      by_cases h2:x.toNat=i
      · rw [if_pos h2]
        by_cases h3:i < objs.length
        · rw [if_pos (by omega),if_pos ⟨by rw [show (i:Int)=x by omega]; exact List.mem_cons_self ..,h3⟩,h2]
        · rw [if_neg (by omega),if_neg (fun h => h3 h.2),List.getElem?_eq_none (by omega)]
      · rw [if_neg h2,if_neg]
        rintro ⟨h3,h4⟩
        rcases List.mem_cons.1 h3 with h5 | h5
        · exact h2 (by omega)
        · exact h1 ⟨h5,h4⟩
section
variable {E : Nat → Nat → Prop} {a : RpA}
theorem flip_fld (ok:RpOk a) (hl:a.log=[]) (hf:a.cps[a.filled]?=none) (i:Nat) (fs:List Val):a.flip.fld i=some fs ↔ a.has i ∧ a.fld i=some fs:=by
  have hall:∀ p ∈ a.cps,∃ gs,a.fld p.1=some gs ∧ p.2=gs ∧ ∀ v ∈ gs,v.1=true → a.has v.2.toNat:=fun p hp => by
    obtain ⟨k,hk⟩:=List.getElem?_of_mem hp
    obtain ⟨gs,h1,h2⟩:=ok.ck p hp
    have hkl:=(List.getElem?_eq_some_iff.1 hk).1
    have hfl:=List.getElem?_eq_none_iff.1 hf
    have hj:∀ j,j < p.2.length → p.2[j]?=gs[j]? ∧ ∀ v,gs[j]?=some v → v.1=true → a.has v.2.toNat:=fun j hj => by
      rcases ok.ok k p (by omega) hk j hj with h3 | h3 | ⟨h3,h4⟩
      · exact h3.elim
      · rw [hl] at h3; cases h3
      · rw [RpA.flds_of h1] at h3 h4; exact ⟨h3,h4⟩
    refine ⟨gs,h1,List.ext_getElem? fun j => ?_,fun v hv hb => ?_⟩
    · by_cases hjl:j < p.2.length
      · exact (hj j hjl).1
      · rw [List.getElem?_eq_none (by omega),List.getElem?_eq_none (by omega)]
    · obtain ⟨j,hjv⟩:=List.getElem?_of_mem hv
      exact (hj j (by have:=(List.getElem?_eq_some_iff.1 hjv).1; omega)).2 v hjv hb
  rw [RpA.fld_iff]
  show (flipO a.cps a.row a.objs)[i]?=_ ↔ _
  rw [flipO_get _ _ (fun x hx => by obtain ⟨i,_,rfl,_⟩:=(ok.row x).1 hx; omega)]
  by_cases hr:(i:Int) ∈ a.row ∧ i < a.objs.length
  · rw [if_pos hr]
    by_cases hh:a.has i
    · obtain ⟨p,hp,e⟩:=List.mem_map.1 hh
      have hc:=copyC_some ok.nd hp
      rw [show p.1=i from e] at hc
      obtain ⟨gs,h1,h2,_⟩:=hall p hp
      rw [show p.1=i from e] at h1
      rw [hc,h1,h2]
      exact ⟨fun h => ⟨hh,Option.some.inj h⟩,fun h => congrArg some h.2⟩
    · rw [copyC_none hh]
      exact ⟨fun h => (by cases h),fun h => absurd h.1 hh⟩
  · rw [if_neg hr]
    have hno:a.fld i=none:=by
      cases h:a.fld i with
      | none => rfl
      | some gs => exact absurd ⟨(ok.row _).2 ⟨i,gs,rfl,h⟩,RpA.fld_lt h⟩ hr
    rw [← RpA.fld_iff,hno]
    exact ⟨fun h => (by cases h),fun h => (by cases h.2)⟩
theorem fill_refs (ok:RpOk a) (hl:a.log=[]) (hf:a.cps[a.filled]?=none) {i:Nat} {fs:List Val} (hi:a.has i) (hfs:a.fld i=some fs) {v:Val} (hv:v ∈ fs) (hb:v.1=true):a.has v.2.toNat:=by
  obtain ⟨k,p,hk,rfl⟩:=has_key hi
  obtain ⟨gs,h1,h2⟩:=ok.ck p (List.mem_of_getElem? hk)
  obtain rfl:gs=fs:=Option.some.inj (h1.symm.trans hfs)
  have hkl:=(List.getElem?_eq_some_iff.1 hk).1
  have hfl:=List.getElem?_eq_none_iff.1 hf
  obtain ⟨j,hjv⟩:=List.getElem?_of_mem hv
  have hjl:=(List.getElem?_eq_some_iff.1 hjv).1
  rcases ok.ok k p (by omega) hk j (by omega) with h3 | h3 | ⟨h3,h4⟩
  · exact h3.elim
  · rw [hl] at h3; cases h3
  · rw [RpA.flds_of h1] at h4; exact h4 v hjv hb
theorem miss_none (h:a.miss=none) {v:Val} (hv:v ∈ a.regs) (hb:v.1=true):a.has v.2.toNat:=by
  have:=List.find?_eq_none.1 h v hv
  simpa [hb] using this
theorem miss_some {v:Val} (h:a.miss=some v):v ∈ a.regs ∧ v.1=true ∧ ¬ a.has v.2.toNat:=by
  have h1:=List.find?_some h
  exact ⟨List.mem_of_find?_eq_some h,by simpa using h1⟩
theorem RpOk.flip (ok:RpOk a) (hl:a.log=[]) (hm:a.miss=none) (hf:a.cps[a.filled]?=none):RpOk a.flip:=by
  have hfl:=flip_fld ok hl hf
  have hvk:∀ v:Val,a.vok v → (v.1=true → a.has v.2.toNat) → a.flip.vok v:=fun v h1 h2 hb => by
    obtain ⟨i,fs,e,h3⟩:=h1 hb
    have h4:=h2 hb
    rw [e,Int.toNat_natCast] at h4
    exact ⟨i,fs,e,(hfl i fs).2 ⟨h4,h3⟩⟩
  refine ⟨ok.r8,fun v hv => hvk v (ok.vr v hv) (miss_none hm hv),fun i fs h v hv => ?_,fun i fs h => ok.f4 i fs ((hfl i fs).1 h).2,fun x => ?_,?_,List.Pairwise.nil,fun p hp => (by cases hp),Nat.le_refl _,fun p hp => (by cases hp),fun k p hk => absurd hk (by show ¬ k < 0; omega)⟩
  · obtain ⟨h1,h2⟩:=(hfl i fs).1 h
    exact hvk v (ok.vf i fs h2 v hv) (fill_refs ok hl hf h1 h2 hv)
  · show x ∈ a.made ↔ _
    unfold RpA.made
    rw [List.mem_map]
    constructor
    · rintro ⟨k,hk,rfl⟩
      obtain ⟨fs,hfs⟩:=ok.has_fld (z:=k) hk
      exact ⟨k,fs,rfl,(hfl k fs).2 ⟨hk,hfs⟩⟩
    · rintro ⟨k,fs,rfl,h⟩
      exact ⟨k,((hfl k fs).1 h).1,rfl⟩
  · show a.made.length ≤ 24
    unfold RpA.made keysC
    rw [List.length_map,List.length_map]
    exact ok.made24
theorem RpOk.nl (ok:RpOk a) {o k:Nat} {l:List (Nat × Nat)} (hl:a.log=(o,k) :: l):RpOkE (fun o' j => o'=o ∧ j=k) (a.nl l):=by
  refine ⟨ok.r8,ok.vr,ok.vf,ok.f4,ok.row,ok.r24,ok.nd,ok.ck,ok.fk,fun p hp => ok.lg p (by rw [hl]; exact List.mem_cons_of_mem _ hp),fun i p hi hp j hj => ?_⟩
  rcases ok.ok i p hi hp j hj with h | h | h
  · exact h.elim
  · rw [hl] at h
    rcases List.mem_cons.1 h with h1 | h1
    · injection h1 with h2 h3
      exact .inl ⟨h2,h3⟩
    · exact .inr (.inl h1)
  · exact .inr (.inr h)
theorem RpOk.fill (ok:RpOk a) (hl:a.log=[]) (hm:a.miss=none):RpOk a.fill:=by
  unfold RpA.fill
  cases hp:a.cps[a.filled]? with
  | none => exact ok.flip hl hm hp
  | some p =>
    have hpm:=List.mem_of_getElem? hp
    have hh:a.has p.1:=List.mem_map.2 ⟨p,hpm,rfl⟩
    have h1:RpOkE (fun o' _ => o'=p.1) (a.fl (a.filled + 1)):=by
      refine ⟨ok.r8,ok.vr,ok.vf,ok.f4,ok.row,ok.r24,ok.nd,ok.ck,?_,ok.lg,fun i q hi hq j hj => ?_⟩
      · show a.filled + 1 ≤ a.cps.length
        have:=(List.getElem?_eq_some_iff.1 hp).1
        omega
      · have hi':i < a.filled + 1:=hi
        by_cases e:i=a.filled
        · subst e
          obtain rfl:q=p:=Option.some.inj ((show a.cps[a.filled]?=some q from hq).symm.trans hp)
          exact .inl rfl
        · exact .inr ((ok.ok i q (by omega) hq j hj).resolve_left fun h => h)
    obtain ⟨h2,-,h3,-⟩:=h1.bringN (o:=p.1) hh (a.flds p.1).length (Nat.le_refl _)
    refine h2.weaken fun k q j hk hq hj hE => hE.2 ⟨hE.1,?_⟩
    obtain ⟨fs,hf,hfl⟩:=h2.ck q (List.mem_of_getElem? hq)
    rw [hE.1] at hf
    have e:((a.fl (a.filled + 1)).bringN p.1 (a.flds p.1).length).fld p.1=a.fld p.1:=by unfold RpA.fld; rw [h3]; rfl
    rw [e] at hf
    rw [RpA.flds_of hf]; omega
theorem RpOk.work (ok:RpOk a):RpOk a.work:=by
  unfold RpA.work
  cases hl:a.log with
  | cons p l =>
    obtain ⟨o,k⟩:=p
    have h1:=ok.nl hl
    obtain ⟨fs,hf,hk⟩:=ok.lg (o,k) (by rw [hl]; exact List.mem_cons_self ..)
    dsimp only
    by_cases hh:a.has o
    · rw [if_pos hh]
      exact (h1.bring (o:=o) (k:=k) hh (by show k < (a.flds o).length; rw [RpA.flds_of hf]; exact hk)).weaken fun _ _ _ _ _ _ h => h.2 h.1
    · rw [if_neg hh]
      exact h1.weaken fun i p j hi hp _ h => hh (h.1 ▸ List.mem_map.2 ⟨p,List.mem_of_getElem? hp,rfl⟩)
  | nil =>
    dsimp only
    cases hm:a.miss with
    | some v => exact RpOkE.cop ok (ok.vr v (miss_some hm).1)
    | none => exact RpOk.fill ok hl hm
theorem RpOk.sr (ok:RpOk a) (r:Nat) {v:Val} (hv:a.vok v):RpOk (a.sr r v) :=
  ⟨by show (a.regs.set r v).length=8; rw [List.length_set]; exact ok.r8,fun u hu => by
    rcases mem_set_ (show u ∈ a.regs.set r v from hu) with h | rfl
    · exact ok.vr u h
    · exact hv,ok.vf,ok.f4,ok.row,ok.r24,ok.nd,ok.ck,ok.fk,ok.lg,ok.ok⟩
theorem rput_fld {a:RpA} {i k:Nat} {fs:List Val} (v:Val) (hf:a.fld i=some fs) (j:Nat) (gs:List Val):(rpPut a i k v).fld j=some gs ↔ (j=i ∧ gs=fs.set k v) ∨ (j ≠ i ∧ a.fld j=some gs):=by
  rw [RpA.fld_iff,RpA.fld_iff]
  show (a.objs.set i _)[j]?=_ ↔ _
  rw [List.getElem?_set,RpA.flds_of hf]
  have hl:=RpA.fld_lt hf
  by_cases e:i=j
  · subst e
    rw [if_pos rfl,if_pos hl]
    simp [eq_comm]
  · rw [if_neg e]
    constructor
    · exact fun h => .inr ⟨fun h1 => e h1.symm,h⟩
    · rintro (⟨h1,_⟩ | ⟨_,h⟩)
      · exact absurd h1.symm e
      · exact h
theorem rput_some {a:RpA} {i k:Nat} {fs:List Val} (v:Val) (hf:a.fld i=some fs) {j:Nat} {gs:List Val} (h:a.fld j=some gs):∃ hs,(rpPut a i k v).fld j=some hs ∧ hs.length=gs.length ∧ (∀ m,¬ (j=i ∧ m=k) → hs[m]?=gs[m]?):=by
  by_cases e:j=i
  · subst e
    obtain rfl:fs=gs:=Option.some.inj (hf.symm.trans h)
    refine ⟨fs.set k v,(rput_fld v hf j _).2 (.inl ⟨rfl,rfl⟩),List.length_set ..,fun m hm => ?_⟩
    rw [List.getElem?_set,if_neg (fun h => hm ⟨rfl,h.symm⟩)]
  · exact ⟨gs,(rput_fld v hf j _).2 (.inr ⟨e,h⟩),rfl,fun _ _ => rfl⟩
theorem RpOk.put (ok:RpOk a) {i k:Nat} {fs:List Val} (hf:a.fld i=some fs) (hk:k < fs.length) {v:Val} (hv:a.vok v):RpOk (rpPut a i k v):=by
  have hF:=fun j gs => rput_fld (k:=k) v hf j gs
  have hvk:∀ u:Val,a.vok u → (rpPut a i k v).vok u:=fun u h hb => by
    obtain ⟨z,gs,e,h1⟩:=h hb
    obtain ⟨hs,h2,_⟩:=rput_some (k:=k) v hf h1
    exact ⟨z,hs,e,h2⟩
  refine ⟨ok.r8,fun u hu => hvk u (ok.vr u hu),fun j gs hg u hu => ?_,fun j gs hg => ?_,fun x => ?_,ok.r24,ok.nd,fun p hp => ?_,ok.fk,fun p hp => ?_,fun m p hm hp j hj => .inr ?_⟩
  · rcases (hF j gs).1 hg with ⟨rfl,rfl⟩ | ⟨_,h⟩
    · rcases mem_set_ hu with h1 | rfl
      · exact hvk u (ok.vf j fs hf u h1)
      · exact hvk u hv
    · exact hvk u (ok.vf j gs h u hu)
  · rcases (hF j gs).1 hg with ⟨rfl,rfl⟩ | ⟨_,h⟩
    · rw [List.length_set]; exact ok.f4 j fs hf
    · exact ok.f4 j gs h
  · show x ∈ a.row ↔ _
    rw [ok.row]
    constructor
    · rintro ⟨z,gs,e,h⟩
      obtain ⟨hs,h2,_⟩:=rput_some (k:=k) v hf h
      exact ⟨z,hs,e,h2⟩
    · rintro ⟨z,gs,e,h⟩
      rcases (hF z gs).1 h with ⟨rfl,_⟩ | ⟨_,h2⟩
      · exact ⟨z,fs,e,hf⟩
      · exact ⟨z,gs,e,h2⟩
  · obtain ⟨gs,h1,h2⟩:=ok.ck p hp
    obtain ⟨hs,h3,h4,_⟩:=rput_some (k:=k) v hf h1
    exact ⟨hs,h3,by omega⟩
  · rcases List.mem_append.1 (show p ∈ a.log ++ [(i,k)] from hp) with h | h
    · obtain ⟨gs,h1,h2⟩:=ok.lg p h
      obtain ⟨hs,h3,h4,_⟩:=rput_some (k:=k) v hf h1
      exact ⟨hs,h3,by omega⟩
    · rw [List.mem_singleton.1 h]
      obtain ⟨hs,h3,h4,_⟩:=rput_some (k:=k) v hf hf
      exact ⟨hs,h3,by dsimp only; omega⟩
  · have hp':a.cps[m]?=some p:=hp
    obtain ⟨gs,h1,h2⟩:=ok.ck p (List.mem_of_getElem? hp')
    obtain ⟨hs,h3,h4,h5⟩:=rput_some (k:=k) v hf h1
    by_cases e:p.1=i ∧ j=k
    · exact .inl (List.mem_append.2 (.inr (by rw [← e.1,← e.2]; simp)))
    · refine FieldOk.mono ((ok.ok m p hm hp' j hj).resolve_left fun h => h) (fun q hq => List.mem_append.2 (.inl hq)) ?_ fun z hz => hz
      rw [RpA.flds_of h3,RpA.flds_of h1]
      exact h5 j e
theorem rpush_fld (a:RpA) (n:Nat) (i:Nat) (fs:List Val):(a.push n).fld i=some fs ↔ a.fld i=some fs ∨ (i=a.objs.length ∧ fs=zeroVs n):=by
  rw [RpA.fld_iff,RpA.fld_iff]
  show (a.objs ++ [_])[i]?=_ ↔ _
  by_cases h:i < a.objs.length
  · rw [List.getElem?_append_left h]
    exact ⟨.inl,fun h1 => h1.elim id fun h2 => absurd h2.1 (by omega)⟩
  · rw [List.getElem?_append_right (by omega),List.getElem?_eq_none (l:=a.objs) (by omega)]
    by_cases e:i=a.objs.length
    · subst e
      simp [eq_comm]
    · rw [List.getElem?_eq_none (by simp; omega)]
      simp [e]
theorem RpOk.push (ok:RpOk a) {n:Nat} (h4:n ≤ 4) (hr:a.row.length < 24):RpOk (a.push n) ∧ (a.push n).vok (true,(a.objs.length:Int)):=by
  have hF:=fun i fs => rpush_fld a n i fs
  have hvk:∀ u:Val,a.vok u → (a.push n).vok u:=fun u h hb => by
    obtain ⟨z,gs,e,h1⟩:=h hb
    exact ⟨z,gs,e,(hF z gs).2 (.inl h1)⟩
  refine ⟨⟨ok.r8,fun u hu => hvk u (ok.vr u hu),fun j gs hg u hu => ?_,fun j gs hg => ?_,fun x => ?_,?_,ok.nd,fun p hp => ?_,ok.fk,fun p hp => ?_,fun m p hm hp j hj => .inr ?_⟩,fun _ => ⟨_,_,rfl,(hF _ _).2 (.inr ⟨rfl,rfl⟩)⟩⟩
  · rcases (hF j gs).1 hg with h | ⟨_,rfl⟩
    · exact hvk u (ok.vf j gs h u hu)
    · obtain ⟨_,rfl⟩:=List.mem_replicate.1 (show u ∈ List.replicate n ((false,0):Val) from hu)
      intro hb; cases hb
  · rcases (hF j gs).1 hg with h | ⟨_,rfl⟩
    · exact ok.f4 j gs h
    · simp only [zeroVs,List.length_replicate]; exact h4
  · show x ∈ a.row ++ [_] ↔ _
    rw [List.mem_append,ok.row,List.mem_singleton]
    constructor
    · rintro (⟨z,gs,e,h⟩ | rfl)
      · exact ⟨z,gs,e,(hF z gs).2 (.inl h)⟩
      · exact ⟨_,_,rfl,(hF _ _).2 (.inr ⟨rfl,rfl⟩)⟩
    · rintro ⟨z,gs,e,h⟩
      rcases (hF z gs).1 h with h1 | ⟨h1,_⟩
      · exact .inl ⟨z,gs,e,h1⟩
      · exact .inr (by rw [e,h1])
  · show (a.row ++ [_]).length ≤ 24
    rw [List.length_append,List.length_singleton]; omega
  · obtain ⟨gs,h1,h2⟩:=ok.ck p hp
    exact ⟨gs,(hF _ _).2 (.inl h1),h2⟩
  · obtain ⟨gs,h1,h2⟩:=ok.lg p hp
    exact ⟨gs,(hF _ _).2 (.inl h1),h2⟩
  · have hp':a.cps[m]?=some p:=hp
    obtain ⟨gs,h1,h2⟩:=ok.ck p (List.mem_of_getElem? hp')
    refine FieldOk.mono ((ok.ok m p hm hp' j hj).resolve_left fun h => h) (fun q hq => hq) ?_ fun z hz => hz
    rw [RpA.flds_of ((hF p.1 gs).2 (.inl h1)),RpA.flds_of h1]
end
end Go.Proofs.YtjphckfbbiehdaaGreat
