/- Part of a proof. -/
import Derived.Test.YtjphckfbbiehdaaGreatSTopAll14
import Derived.Test.YtjphckfbbiehdaaGreatSTopAll5
set_option linter.unusedSimpArgs false
set_option linter.unusedVariables false
namespace Go.Proofs.YtjphckfbbiehdaaGreat
open Go.RowKit
theorem CoNG.regs {a:CoA} {j:Nat} (h:CoNG a j) (rs:List Val):CoNG { a with regs:=rs } j :=
  CoNG.keep (a:=a) (a':={ a with regs:=rs }) (fun _ _ _ h0 => .inl h0) (fun _ _ _ h1 => .inl h1) (fun i fs j h1 h2 _ => ⟨fs,h1,h2⟩) (fun _ h => h) h
theorem CoOk.setr {a:CoA} (ok:CoOk a) (r:Nat) {v:Val} (hv:a.vok v):CoOk { a with regs:=a.regs.set r v } :=
  ⟨by simp [ok.r8],ok.cl,ok.n,fun u hu => by
    rcases mem_set_ hu with h | rfl
    · exact ok.vr u h
    · exact hv,ok.vf,ok.f4⟩
theorem CoInv.setr {k:Nat} {a:CoA} (h:CoInv k a) (r:Nat) {v:Val} (hv:k=3 → ∀ j:Nat,v=(true,(j:Int)) → CoNG a j):CoInv k { a with regs:=a.regs.set r v } :=
  ⟨h.rng,h.bs,fun hk j hj => by
    rcases mem_set_ hj with h1 | h1
    · exact (h.rg hk j h1).regs _
    · exact (hv hk j h1.symm).regs _,fun hk i j fs h1 h2 h3 => (h.by_ hk i j fs h1 h2 h3).regs _⟩
theorem CoOk.rg {a:CoA} (ok:CoOk a) (r:Int):a.vok (rgA a.regs r):=by
  unfold rgA
  rcases getD_mem_or a.regs r.toNat (false,0) with h2 | h2
  · exact ok.vr _ h2
  · rw [h2]; intro h1; cases h1
theorem CoInv.rgN {k:Nat} {a:CoA} (h:CoInv k a) (hk:k=3) (r:Int) (j:Nat) (e:rgA a.regs r=(true,(j:Int))):CoNG a j:=by
  unfold rgA at e
  rcases getD_mem_or a.regs r.toNat (false,0) with h2 | h2
  · exact h.rg hk j (e ▸ h2)
  · rw [e] at h2; cases h2
theorem CoOk.getv {a:CoA} (ok:CoOk a) (i k:Nat):a.vok (((a.fld i).getD []).getD k (false,0)):=by
  rcases getD_mem_or ((a.fld i).getD []) k (false,0) with h2 | h2
  · cases hf:a.fld i with
    | none => rw [hf] at h2; simp at h2
    | some fs => rw [hf] at h2; exact ok.vf i fs _ hf h2
  · rw [h2]; intro h1; cases h1
theorem CoInv.getv {k:Nat} {a:CoA} (h:CoInv k a) (hk:k=3) {i at_ j:Nat} (hi:CoNG a i) (e:((a.fld i).getD []).getD at_ (false,0)=(true,(j:Int))):CoNG a j:=by
  rcases getD_mem_or ((a.fld i).getD []) at_ (false,0) with h2 | h2
  · cases hf:a.fld i with
    | none => rw [hf] at h2; simp at h2
    | some fs =>
      rw [e,hf] at h2
      replace h2:(true,(j:Int)) ∈ fs:=h2
      by_cases hj:a.cols.getD j 0=0
      · rcases h.rng i with h1 | h1 | h1
        · rcases hi with h3 | h3
          · exact absurd h1 h3
          · exact .inr (.step h3 hf h2 hj)
        · exact .inr (.grey h1 hf h2 hj)
        · exact h.by_ hk i j fs hf h1 h2
      · exact .inl hj
  · rw [e] at h2; cases h2
theorem CoA.vok_lt {a:CoA} {j:Nat} (h:a.vok (true,(j:Int))):j < a.objs.length:=by
  obtain ⟨i,fs,e,hf⟩:=h rfl
  have:=(CoA.fld_at hf).2
  dsimp only at e
  omega
theorem getD_app (l:List Int) (y:Int) (j:Nat):(l ++ [y]).getD j 0=if j=l.length then y else l.getD j 0:=by
  rw [List.getD_eq_getElem?_getD,List.getD_eq_getElem?_getD]
  rcases Nat.lt_trichotomy j l.length with h | h | h
  · rw [List.getElem?_append_left h,if_neg (by omega)]
  · subst h; simp
  · rw [if_neg (by omega),List.getElem?_eq_none (by simp; omega),List.getElem?_eq_none (by omega)]
theorem coNew_inv {k:Nat} {a:CoA} (ok:CoOk a) (h:CoInv k a) (n:Nat):CoInv k (coNew a n).1 ∧ ((coNew a n).2.2=0 → k=3 → ∀ j:Nat,((true,(coNew a n).2.1):Val)=(true,(j:Int)) → CoNG (coNew a n).1 j) ∧ (coNew a n).1.objs.length ≤ a.objs.length + 1:=by
  unfold coNew
  split
  · exact ⟨h,fun h => (by cases h),Nat.le_succ _⟩
  · dsimp only
    obtain ⟨a',ha'⟩:∃ x,x=(⟨a.regs,a.objs ++ [some (zeroVs n)],a.cols ++ [2],a.gone⟩:CoA):=⟨_,rfl⟩
    have hcl:=ok.cl
    have hcg:∀ j,a'.cols.getD j 0=if j=a.objs.length then 2 else a.cols.getD j 0:=fun j => by rw [ha']; dsimp only; rw [getD_app,hcl]
    have hfo:∀ i fs,a.fld i=some fs → a'.fld i=some fs:=fun i fs h => by
      obtain ⟨h1,h2⟩:=CoA.fld_at h
      rw [ha']
      unfold CoA.fld
      dsimp only
      rw [List.getElem?_append_left h2,h1]; rfl
    have hfn:∀ i fs,a'.fld i=some fs → a.fld i=some fs ∨ (i=a.objs.length ∧ fs=zeroVs n):=fun i fs h => by
      obtain ⟨h1,h2⟩:=CoA.fld_at h
      rw [ha'] at h1 h2
      dsimp only at h1 h2
      rcases Nat.lt_or_ge i a.objs.length with hlt | hge
      · rw [List.getElem?_append_left hlt] at h1
        exact .inl (by unfold CoA.fld; rw [h1]; rfl)
      · have hi:i=a.objs.length:=by rw [List.length_append] at h2; simp at h2; omega
        subst hi
        simp at h1
        exact .inr ⟨rfl,h1.symm⟩
    have hlt:∀ i fs,a.fld i=some fs → a'.cols.getD i 0=a.cols.getD i 0:=fun i fs hf => by
      have:=(CoA.fld_at hf).2
      rw [hcg,if_neg (by omega)]
    have hkeep:∀ j,CoNG a j → CoNG a' j:=fun j hj => CoNG.keep (a:=a) (a':=a')
      (fun i fs hf h0 => .inl ((hlt i fs hf).trans h0))
      (fun i fs hf h1 => .inl ((hlt i fs hf).trans h1))
      (fun i fs j h1 h2 _ => ⟨fs,hfo i fs h1,h2⟩)
      (fun j h1 h2 => by
        rw [hcg] at h2
        split at h2
        · cases h2
        · exact h1 h2) hj
    have hz:∀ j:Nat,(true,(j:Int)) ∉ zeroVs n:=fun j hj => by
      obtain ⟨_,e⟩:=List.mem_replicate.1 hj
      cases e
    rw [← ha']
    refine ⟨⟨fun i => ?_,fun hk i j fs hf h2 hj h0 => ?_,fun hk j hj => hkeep j (h.rg hk j (by rw [ha'] at hj; exact hj)),fun hk i j fs hf h2 hj => ?_⟩,fun _ _ j e => ?_,by simp⟩
    · rw [hcg]
      split
      · exact .inr (.inr rfl)
      · exact h.rng i
    · rcases hfn i fs hf with h1 | ⟨_,rfl⟩
      · rw [hlt i fs h1] at h2
        have hjl:=CoA.vok_lt (ok.vf i fs _ h1 hj)
        rw [hcg,if_neg (by omega)] at h0
        exact h.bs hk i j fs h1 h2 hj h0
      · exact hz j hj
    · rcases hfn i fs hf with h1 | ⟨_,rfl⟩
      · rw [hlt i fs h1] at h2
        exact hkeep j (h.by_ hk i j fs h1 h2 hj)
      · exact absurd hj (hz j)
    · have hj:j=a.objs.length:=by injection e with _ e; omega
      left
      rw [hcg,if_pos hj]; decide
def coPut0 (a:CoA) (i k:Nat) (v:Val) (fs:List Val):CoA:={ a with objs:=a.objs.set i (some (fs.set k v)) }
theorem coPut0_fld {a:CoA} {i k:Nat} {v:Val} {fs:List Val} (hf:a.fld i=some fs) (x:Nat):(coPut0 a i k v fs).fld x=if x=i then some (fs.set k v) else a.fld x:=by
  unfold coPut0 CoA.fld
  dsimp only
  rw [List.getElem?_set]
  by_cases e:i=x
  · subst e; rw [if_pos rfl,if_pos rfl,if_pos (CoA.fld_at hf).2]; rfl
  · rw [if_neg e,if_neg (fun h => e h.symm)]
theorem coPut0_ok {a:CoA} (ok:CoOk a) {i k:Nat} {v:Val} {fs:List Val} (hf:a.fld i=some fs) (hv:a.vok v):CoOk (coPut0 a i k v fs):=by
  have hfl:=coPut0_fld (k:=k) (v:=v) hf
  have hvk:∀ u,a.vok u → (coPut0 a i k v fs).vok u:=fun u hu h1 => by
    obtain ⟨x,fs',e,hx⟩:=hu h1
    by_cases hxi:x=i
    · exact ⟨x,_,e,by rw [hfl,if_pos hxi]⟩
    · exact ⟨x,fs',e,by rw [hfl,if_neg hxi]; exact hx⟩
  refine ⟨ok.r8,by unfold coPut0; dsimp only; rw [List.length_set]; exact ok.cl,by unfold coPut0; dsimp only; rw [List.length_set]; exact ok.n,fun u hu => hvk u (ok.vr u hu),fun x fs' u hx hu => ?_,fun x fs' hx => ?_⟩
  · rw [hfl] at hx
    split at hx
    · have e:=Option.some.inj hx
      subst e
      rcases mem_set_ hu with h | rfl
      · exact hvk u (ok.vf i fs u hf h)
      · exact hvk u hv
    · exact hvk u (ok.vf x fs' u hx hu)
  · rw [hfl] at hx
    split at hx
    · have e:=Option.some.inj hx
      subst e
      rw [List.length_set]; exact ok.f4 i fs hf
    · exact ok.f4 x fs' hx
theorem coPut0_inv {q:Nat} {a:CoA} (h:CoInv q a) {i k:Nat} {v:Val} {fs:List Val} (hf:a.fld i=some fs) (h1:q ≠ 3 → a.cols.getD i 0=2 → ∀ j:Nat,v=(true,(j:Int)) → a.cols.getD j 0 ≠ 0)
    (h2:q=3 → ∀ j:Nat,v=(true,(j:Int)) → CoNG a j) (h3:q=3 → ∀ j:Nat,fs[k]?=some (true,(j:Int)) → a.cols.getD j 0 ≠ 0):CoInv q (coPut0 a i k v fs):=by
  have hfl:=coPut0_fld (k:=k) (v:=v) hf
  have hkeep:q=3 → ∀ j,CoNG a j → CoNG (coPut0 a i k v fs) j:=fun hq j hj => CoNG.keep (a:=a) (a':=coPut0 a i k v fs) (fun _ _ _ h0 => .inl h0) (fun _ _ _ h1 => .inl h1)
    (fun x fs' j hx hj h0 => by
      by_cases hxi:x=i
      · subst hxi
        have e:=Option.some.inj (hf.symm.trans hx)
        subst e
        refine ⟨_,by rw [hfl,if_pos rfl],?_⟩
        obtain ⟨z,hz⟩:=List.mem_iff_getElem?.1 hj
        by_cases hzk:z=k
        · subst hzk; exact absurd h0 (h3 hq j hz)
        · refine List.mem_of_getElem? (i:=z) ?_
          rw [List.getElem?_set,if_neg (fun e => hzk e.symm)]; exact hz
      · exact ⟨fs',by rw [hfl,if_neg hxi]; exact hx,hj⟩)
    (fun _ h => h) hj
  refine ⟨h.rng,fun hq x j fs' hx hc hj => ?_,fun hq j hj => hkeep hq j (h.rg hq j hj),fun hq x j fs' hx hc hj => ?_⟩
  · rw [hfl] at hx
    split at hx
    · rename_i e
      subst e
      have e:=Option.some.inj hx
      subst e
      rcases mem_set_ hj with h4 | h4
      · exact h.bs hq x j fs hf hc h4
      · exact h1 hq hc j h4.symm
    · exact h.bs hq x j fs' hx hc hj
  · rw [hfl] at hx
    split at hx
    · rename_i e
      subst e
      have e:=Option.some.inj hx
      subst e
      rcases mem_set_ hj with h4 | h4
      · exact hkeep hq j (h.by_ hq x j fs hf hc h4)
      · exact hkeep hq j (h2 hq j h4.symm)
    · exact hkeep hq j (h.by_ hq x j fs' hx hc hj)
theorem CoInv.grey_ {q:Nat} {a:CoA} (hq:q ≠ 3) (h:CoInv q a) (i:Nat) (hi:a.cols.getD i 0=2):CoInv q { a with cols:=a.cols.set i 1 }:=by
  refine ⟨fun x => ?_,fun _ x j fs hf h2 hj h0 => ?_,fun hk => absurd hk hq,fun hk => absurd hk hq⟩
  · dsimp only
    rw [getD_set]
    split
    · exact .inr (.inl rfl)
    · exact h.rng x
  · dsimp only at h2 h0
    rw [getD_set] at h2 h0
    split at h2
    · cases h2
    · split at h0
      · cases h0
      · exact h.bs hq x j fs hf h2 hj h0
theorem barOf_f (q:Nat):(barOf q).f=if q=1 then barD else if q=2 then barS else barY:=by
  unfold barOf
  split
  · rfl
  · split <;> rfl
theorem coPut_ok {q:Nat} (hq:q=1 ∨ q=2 ∨ q=3) {a:CoA} (ok:CoOk a) (h:CoInv q a) {i k:Nat} {v:Val} {fs:List Val} (hf:a.fld i=some fs) (hk:k < fs.length) (hv:a.vok v) (hvn:q=3 → ∀ j:Nat,v=(true,(j:Int)) → CoNG a j) :
    CoOk (coPut (barOf q) a i k v) ∧ CoInv q (coPut (barOf q) a i k v) ∧ (coPut (barOf q) a i k v).objs.length=a.objs.length:=by
  have hold:fs.getD k (false,0)=fs[k]:=by rw [List.getD_eq_getElem?_getD,List.getElem?_eq_getElem hk]; rfl
  have hlen:=(barOf_ok q).len a.cols i fs[k] v
  have he:coPut (barOf q) a i k v=coPut0 { a with cols:=(barOf q).f a.cols i fs[k] v } i k v fs:=by
    unfold coPut coPut0
    rw [hf,Option.getD_some,hold]
  rw [he]
  have hf2:∀ c,({ a with cols:=c }:CoA).fld i=some fs:=fun c => hf
  refine ⟨coPut0_ok (ok.cols hlen) (hf2 _) hv,?_,by unfold coPut0; dsimp only; rw [List.length_set]⟩
  rw [barOf_f]
  have hvl:∀ j:Nat,v=(true,(j:Int)) → j < a.cols.length:=fun j e => by rw [ok.cl]; exact CoA.vok_lt (e ▸ hv)
  rcases hq with rfl | rfl | rfl
  · rw [if_pos rfl]
    refine coPut0_inv (h.shade1 v) (hf2 _) (fun _ _ j e => ?_) (fun h => by cases h) (fun h => by cases h)
    have h2:=shadeC_hit (cols:=a.cols) (v:=v) (by rw [e]) (by rw [e]; simpa using hvl j e)
    rw [e] at h2 ⊢
    simpa [barD] using h2
  · rw [if_neg (by decide),if_pos rfl]
    unfold barS
    by_cases hc:a.cols.getD i 0=2 ∧ whiteB a.cols v=true
    · rw [if_pos hc]
      refine coPut0_inv (h.grey_ (by decide) i hc.1) (hf2 _) (fun _ h2 j e => ?_) (fun h => by cases h) (fun h => by cases h)
      dsimp only at h2
      rw [getD_set] at h2
      split at h2
      · cases h2
      · rename_i h3
        exact absurd ⟨rfl,by rw [ok.cl]; exact (CoA.fld_at hf).2⟩ h3
    · rw [if_neg hc]
      refine coPut0_inv h (hf2 _) (fun _ h2 j e h0 => hc ⟨h2,?_⟩) (fun h => by cases h) (fun h => by cases h)
      unfold whiteB
      rw [e]
      simpa using h0
  · rw [if_neg (by decide),if_neg (by decide)]
    refine coPut0_inv (h.shade1 fs[k]) (hf2 _) (fun h => absurd rfl h) (fun _ j e => (hvn rfl j e).shade1 _) (fun _ j e => ?_)
    have e2:fs[k]=(true,(j:Int)):=by rw [List.getElem?_eq_getElem hk] at e; exact Option.some.inj e
    have hvo:a.vok (true,(j:Int)):=ok.vf i fs _ hf (e2 ▸ List.getElem_mem hk)
    have h2:=shadeC_hit (cols:=a.cols) (v:=(true,(j:Int))) rfl (by rw [ok.cl]; simpa using CoA.vok_lt hvo)
    rw [e2]
    simpa [barY] using h2
theorem coErr_zero {a:CoA} (ok:CoOk a) {r at_:Int} (hz:coErr a (rgA a.regs r) at_=0) :
    ∃ (i k:Nat) (fs:List Val),rgA a.regs r=(true,(i:Int)) ∧ at_=(k:Int) ∧ a.fld i=some fs ∧ k < fs.length:=by
  unfold coErr at hz
  split at hz
  · cases hz
  · rename_i h1
    split at hz
    · cases hz
    · rename_i h2
      have hb:(rgA a.regs r).1=true:=by simpa using h1
      obtain ⟨i,fs,e,hf⟩:=ok.rg r hb
      rw [e,Int.toNat_natCast,hf,Option.getD_some] at h2
      exact ⟨i,at_.toNat,fs,Prod.ext hb e,by omega,hf,by omega⟩
theorem not_ne {x:Int} (h:¬ x ≠ 0):x=0:=by
  rcases Int.decEq x 0 with h1 | h1
  · exact absurd h1 h
  · exact h1
theorem coStep_ok {q:Nat} (hq:q=1 ∨ q=2 ∨ q=3) {a:CoA} (ok:CoOk a) (hn:a.objs.length < 500) (h:CoInv q a) (d:DoV):CoOk (coStep q d a).2 ∧ CoInv q (coStep q d a).2 ∧ (coStep q d a).2.objs.length ≤ a.objs.length + 1:=by
  unfold coStep
  by_cases h8:d.k=8
  · rw [if_pos h8]
    obtain ⟨h1,h2⟩:=coWork_ok ok h
    refine ⟨h1,h2,?_⟩
    unfold coWork; split <;> exact Nat.le_succ _
  rw [if_neg h8]
  by_cases h9:d.k=9
  · rw [if_pos h9]
    obtain ⟨h1,h2,h3⟩:=coSweep_ok ok h
    exact ⟨h1,h2,by omega⟩
  rw [if_neg h9]
  unfold coDo
  by_cases hw:wrongM d ≠ 0
  · rw [if_pos hw]; exact ⟨ok,h,Nat.le_succ _⟩
  rw [if_neg hw]
  have hw0:wrongM d=0:=not_ne hw
  unfold coKst
  by_cases h1:d.k=1
  · rw [if_pos h1]
    obtain ⟨n0,n1⟩:=wrongM_n hw0 h1
    obtain ⟨o1,o2⟩:=coNew_ok ok hn d.n.toNat (by omega)
    obtain ⟨i1,i2,i3⟩:=coNew_inv ok h d.n.toNat
    by_cases hz:(coNew a d.n.toNat).2.2 ≠ 0
    · rw [if_pos hz]
      exact ⟨o1,i1,i3⟩
    · rw [if_neg hz]
      have hz0:=not_ne hz
      exact ⟨o1.setr _ (o2 hz0),i1.setr _ (i2 hz0),i3⟩
  rw [if_neg h1]
  by_cases h2:d.k=2
  · rw [if_pos h2]
    exact ⟨ok.setr _ (fun h => by cases h),h.setr _ (fun _ _ e => by cases e),Nat.le_succ _⟩
  rw [if_neg h2]
  by_cases h3:d.k=3
  · rw [if_pos h3]
    exact ⟨ok.setr _ (ok.rg d.fr),h.setr _ (fun hk j e => h.rgN hk d.fr j e),Nat.le_succ _⟩
  rw [if_neg h3]
  by_cases h4:d.k=4
  · rw [if_pos h4]
    by_cases hz:coErr a (rgA a.regs d.to) d.at_ ≠ 0
    · rw [if_pos hz]; exact ⟨ok,h,Nat.le_succ _⟩
    · rw [if_neg hz]
      obtain ⟨i,k,fs,e1,e2,hf,hk⟩:=coErr_zero ok (not_ne hz)
      rw [e1,e2,Int.toNat_natCast,Int.toNat_natCast]
      obtain ⟨p1,p2,p3⟩:=coPut_ok hq ok h hf hk (ok.rg d.fr) (fun hk j e => h.rgN hk d.fr j e)
      exact ⟨p1,p2,by have p4:(coPut (barOf q) a i k (rgA a.regs d.fr)).objs.length=a.objs.length:=p3; dsimp only; omega⟩
  rw [if_neg h4]
  by_cases h5:d.k=5
  · rw [if_pos h5]
    by_cases hz:coErr a (rgA a.regs d.fr) d.at_ ≠ 0
    · rw [if_pos hz]; exact ⟨ok,h,Nat.le_succ _⟩
    · rw [if_neg hz]
      obtain ⟨i,k,fs,e1,e2,hf,hk⟩:=coErr_zero ok (not_ne hz)
      refine ⟨ok.setr _ (ok.getv _ _),h.setr _ (fun hk j e => h.getv hk (h.rgN hk d.fr i e1) (at_:=d.at_.toNat) ?_),Nat.le_succ _⟩
      rw [e1,Int.toNat_natCast] at e
      exact e
  rw [if_neg h5]
  split
  · exact ⟨ok,h,Nat.le_succ _⟩
  · exact ⟨ok,h,Nat.le_succ _⟩
end Go.Proofs.YtjphckfbbiehdaaGreat

namespace Go.Proofs.YtjphckfbbiehdaaGreat
open Go.RowKit
structure RT where
  σ:MSt
  gone:List Bool
  cols:List Int
  gl:List Int
def maskL (objs:List (List Val)) (gone:List Bool):List (Option (List Val)):=List.zipWith (fun fs g => if g=true then none else some fs) objs gone
def goneO (gone:List Bool):List (Option Unit):=gone.map fun g => if g=true then none else some ()
def thereG (gone:List Bool):List Int:=thereL (goneO gone)
def RT.a (t:RT):CoA:=⟨t.σ.regs,maskL t.σ.objs t.gone,t.cols,t.gl⟩
def goneL (gone:List Bool) (xs:List Int):List Bool:=xs.foldl (fun l x => l.set x.toNat true) gone
def rtBars (q:Nat) (d:DoV) (t:RT):List Int:=if d.k=4 then (barOf q).f t.cols (rgA t.σ.regs d.to).2.toNat ((obA t.σ.objs (rgA t.σ.regs d.to).2).getD d.at_.toNat (false,0)) (rgA t.σ.regs d.fr) else t.cols
def rtStep (q:Nat) (d:DoV) (t:RT):OutV × RT :=
  if d.k=8 then
    if greyF (thereG t.gone) t.cols=-1 then (⟨7,false,0⟩,t)
    else (⟨0,false,0⟩,{ t with cols:=(shadeL t.cols (obA t.σ.objs (greyF (thereG t.gone) t.cols))).set (greyF (thereG t.gone) t.cols).toNat 2 })
  else if d.k=9 then
    if greyF (thereG t.gone) (shadeL t.cols t.σ.regs) ≠ -1 then (⟨8,false,0⟩,{ t with cols:=shadeL t.cols t.σ.regs })
    else (⟨0,false,0⟩,⟨t.σ,goneL t.gone (whitesF (thereG t.gone) (shadeL t.cols t.σ.regs)),beginC t.cols.length t.σ.regs,t.gl ++ whitesF (thereG t.gone) (shadeL t.cols t.σ.regs)⟩)
  else if rWrong d t.σ ≠ 0 then (⟨rWrong d t.σ,false,0⟩,t)
  else if d.k=1 ∧ 24 ≤ (thereG t.gone).length then (⟨6,false,0⟩,t)
  else ((stepK d t.σ).1,⟨(stepK d t.σ).2,if d.k=1 then t.gone ++ [false] else t.gone,if d.k=1 then t.cols ++ [2] else rtBars q d t,t.gl⟩)
theorem maskL_get (objs:List (List Val)) (gone:List Bool) (h:gone.length=objs.length) (i:Nat):(maskL objs gone)[i]?=(objs[i]?).map fun fs => if gone.getD i false=true then none else some fs:=by
  unfold maskL
  rw [List.getElem?_zipWith]
  rcases Nat.lt_or_ge i objs.length with hl | hl
  · rw [List.getElem?_eq_getElem hl,List.getElem?_eq_getElem (show i < gone.length by omega),List.getD_eq_getElem?_getD,List.getElem?_eq_getElem (show i < gone.length by omega)]
    rfl
  · rw [List.getElem?_eq_none hl]; rfl
theorem maskL_len (objs:List (List Val)) (gone:List Bool) (h:gone.length=objs.length):(maskL objs gone).length=objs.length:=by
  unfold maskL; rw [List.length_zipWith]; omega
theorem thereL_congr {α β:Type} {l:List (Option α)} {m:List (Option β)} (hl:l.length=m.length) (h:∀ i:Nat,(l.getD i none).isSome=(m.getD i none).isSome):thereL l=thereL m:=by
  unfold thereL thereK
  rw [hl]
  congr 1
  exact List.filter_congr fun i _ => h i
theorem thereL_mask (objs:List (List Val)) (gone:List Bool) (h:gone.length=objs.length):thereL (maskL objs gone)=thereG gone:=by
  unfold thereG
  refine thereL_congr (by rw [maskL_len _ _ h]; unfold goneO; rw [List.length_map,h]) fun i => ?_
  rw [List.getD_eq_getElem?_getD,List.getD_eq_getElem?_getD,maskL_get _ _ h]
  unfold goneO
  rw [List.getElem?_map]
  rcases Nat.lt_or_ge i objs.length with hl | hl
  · rw [List.getElem?_eq_getElem hl,List.getElem?_eq_getElem (show i < gone.length by omega),List.getD_eq_getElem?_getD,List.getElem?_eq_getElem (show i < gone.length by omega)]
    cases gone[i]'(by omega) <;> rfl
  · rw [List.getElem?_eq_none hl,List.getElem?_eq_none (show gone.length ≤ i by omega)]; rfl
theorem maskL_drop (objs:List (List Val)) (gone:List Bool) (h:gone.length=objs.length) (i:Nat):(maskL objs gone).set i none=maskL objs (gone.set i true):=by
  refine List.ext_getElem? fun j => ?_
  rw [maskL_get _ _ (by rw [List.length_set]; exact h),List.getElem?_set,maskL_get _ _ h,maskL_len _ _ h,List.getD_eq_getElem?_getD,List.getD_eq_getElem?_getD,List.getElem?_set]
  by_cases e:i=j
  · subst e
    rw [if_pos rfl,if_pos rfl]
    by_cases hl:i < objs.length
    · rw [if_pos hl,if_pos (by omega),List.getElem?_eq_getElem hl]; rfl
    · rw [if_neg hl,List.getElem?_eq_none (by omega)]; rfl
  · rw [if_neg e,if_neg e]
theorem goneL_len (xs:List Int):∀ gone:List Bool,(goneL gone xs).length=gone.length:=by
  unfold goneL
  induction xs with
  | nil => intro _; rfl
  | cons x xs ih => intro gone; rw [List.foldl_cons,ih,List.length_set]
theorem maskL_drops (objs:List (List Val)) (xs:List Int):∀ gone:List Bool,gone.length=objs.length → dropF (maskL objs gone) xs=maskL objs (goneL gone xs):=by
  unfold dropF goneL
  induction xs with
  | nil => intro _ _; rfl
  | cons x xs ih =>
    intro gone h
    rw [List.foldl_cons,List.foldl_cons,maskL_drop _ _ h]
    exact ih _ (by rw [List.length_set]; exact h)
theorem maskL_set (objs:List (List Val)) (gone:List Bool) (h:gone.length=objs.length) (i:Nat) (hg:gone.getD i false=false) (fs:List Val):(maskL objs gone).set i (some fs)=maskL (objs.set i fs) gone:=by
  refine List.ext_getElem? fun j => ?_
  rw [maskL_get _ _ (by rw [List.length_set]; exact h),List.getElem?_set,maskL_get _ _ h,maskL_len _ _ h,List.getElem?_set]
  by_cases e:i=j
  · subst e
    rw [if_pos rfl,if_pos rfl]
    by_cases hl:i < objs.length
    · rw [if_pos hl,if_pos hl,Option.map_some,hg]; rfl
    · rw [if_neg hl,if_neg hl]; rfl
  · rw [if_neg e,if_neg e]
theorem maskL_app (objs:List (List Val)) (gone:List Bool) (h:gone.length=objs.length) (fs:List Val):maskL objs gone ++ [some fs]=maskL (objs ++ [fs]) (gone ++ [false]):=by
  unfold maskL
  rw [List.zipWith_append (by omega)]
  rfl
theorem rt_fld {t:RT} (hl:t.gone.length=t.σ.objs.length) {i:Nat} {fs:List Val} (h:t.a.fld i=some fs):t.gone.getD i false=false ∧ obA t.σ.objs (i:Int)=fs ∧ i < t.σ.objs.length:=by
  obtain ⟨h1,h2⟩:=CoA.fld_at h
  rw [show t.a.objs=maskL t.σ.objs t.gone from rfl,maskL_get _ _ hl] at h1
  rw [show t.a.objs=maskL t.σ.objs t.gone from rfl,maskL_len _ _ hl] at h2
  rw [List.getElem?_eq_getElem h2,Option.map_some] at h1
  have h3:=Option.some.inj h1
  split at h3
  · cases h3
  · rename_i hg
    refine ⟨by simpa using hg,?_,h2⟩
    unfold obA
    rw [Int.toNat_natCast,List.getD_eq_getElem?_getD,List.getElem?_eq_getElem h2]
    exact Option.some.inj h3
theorem rt_fErr {t:RT} (hl:t.gone.length=t.σ.objs.length) (ok:CoOk t.a) (r at_:Int):coErr t.a (rgA t.σ.regs r) at_=fErr t.σ.objs (rgA t.σ.regs r) at_:=by
  unfold coErr fErr
  by_cases h:(rgA t.σ.regs r).1=false
  · rw [if_pos h,if_pos h]
  · rw [if_neg h,if_neg h]
    have hb:(rgA t.σ.regs r).1=true:=by simpa using h
    obtain ⟨i,fs,e,hf⟩:=ok.rg r hb
    have e2:(rgA t.σ.regs r).2=(i:Int):=e
    rw [e2,(rt_fld hl hf).2.1,Int.toNat_natCast,hf]
    rfl
theorem rt_co (q:Nat) {t:RT} (hl:t.gone.length=t.σ.objs.length) (ok:CoOk t.a) (d:DoV):coStep q d t.a=((rtStep q d t).1,(rtStep q d t).2.a):=by
  have hth:thereL t.a.objs=thereG t.gone:=thereL_mask _ _ hl
  have hc:t.a.cols=t.cols:=rfl
  have hr:t.a.regs=t.σ.regs:=rfl
  unfold coStep rtStep
  by_cases h8:d.k=8
  · rw [if_pos h8,if_pos h8]
    unfold coWork
    by_cases hg:greyF (thereL t.a.objs) t.a.cols=-1
    · rw [if_pos hg,if_pos (by rw [← hth]; exact hg)]
    · obtain ⟨i,fs,e,hf,_⟩:=greyF_some hg
      rw [if_neg hg,if_neg (by rw [← hth]; exact hg)]
      rw [hth,hc] at e
      rw [hth,hc,e,(rt_fld hl hf).2.1,Int.toNat_natCast,hf]
      rfl
  rw [if_neg h8,if_neg h8]
  by_cases h9:d.k=9
  · rw [if_pos h9,if_pos h9]
    unfold coSweep
    rw [hth,hc,hr]
    split
    · rfl
    · rw [show t.a.objs=maskL t.σ.objs t.gone from rfl,maskL_drops _ _ _ hl]
      rfl
  rw [if_neg h9,if_neg h9]
  unfold coDo
  by_cases hw:wrongM d ≠ 0
  · have hw2:rWrong d t.σ=wrongM d:=by unfold rWrong; rw [if_pos hw]
    rw [if_pos hw,hw2,if_pos hw]
  rw [if_neg hw]
  have hw2:rWrong d t.σ=if d.k=4 then fErr t.σ.objs (rgA t.σ.regs d.to) d.at_ else if d.k=5 then fErr t.σ.objs (rgA t.σ.regs d.fr) d.at_ else 0:=by unfold rWrong; rw [if_neg hw]
  rw [hw2]
  unfold coKst stepK rtBars
  rw [hr]
  by_cases h1:d.k=1
  · simp only [if_pos h1,if_neg (show ¬ d.k=4 by omega),if_neg (show ¬ d.k=5 by omega),if_neg (show ¬ ((0:Int) ≠ 0) by simp)]
    unfold coNew
    rw [hth]
    by_cases hf:24 ≤ (thereG t.gone).length
    · rw [if_pos hf,if_pos (show d.k=1 ∧ 24 ≤ (thereG t.gone).length from ⟨h1,hf⟩),if_pos (by simp)]
    · rw [if_neg hf,if_neg (show ¬ (d.k=1 ∧ 24 ≤ (thereG t.gone).length) from fun h => hf h.2)]
      dsimp only
      rw [if_neg (by simp)]
      refine Prod.ext rfl ?_
      show (⟨t.σ.regs.set d.to.toNat (true,((t.a.objs.length:Nat):Int)),t.a.objs ++ [some (zeroVs d.n.toNat)],t.a.cols ++ [2],t.a.gone⟩:CoA)=⟨_,_,_,_⟩
      rw [show t.a.objs=maskL t.σ.objs t.gone from rfl,maskL_app _ _ hl,maskL_len _ _ hl]
      rfl
  have hn1:¬ (d.k=1 ∧ 24 ≤ (thereG t.gone).length):=fun h => h1 h.1
  by_cases h4:d.k=4
  · simp only [if_neg h1,if_neg (show ¬ d.k=2 by omega),if_neg (show ¬ d.k=3 by omega),if_pos h4]
    rw [rt_fErr hl ok]
    by_cases hz:fErr t.σ.objs (rgA t.σ.regs d.to) d.at_ ≠ 0
    · rw [if_pos hz,if_pos hz]
    · rw [if_neg hz,if_neg hz,if_neg hn1,if_neg hz]
      have hz0:coErr t.a (rgA t.a.regs d.to) d.at_=0:=by rw [hr,rt_fErr hl ok]; exact not_ne hz
      obtain ⟨i,k,fs,e1,e2,hf,hk⟩:=coErr_zero ok hz0
      rw [hr] at e1
      obtain ⟨g1,g2,g3⟩:=rt_fld hl hf
      refine Prod.ext rfl ?_
      rw [e1,e2]
      dsimp only
      rw [g2,Int.toNat_natCast,Int.toNat_natCast]
      unfold coPut
      rw [hf,Option.getD_some,show t.a.objs=maskL t.σ.objs t.gone from rfl,maskL_set _ _ hl i g1]
      rfl
  by_cases h5:d.k=5
  · simp only [if_neg h1,if_neg (show ¬ d.k=2 by omega),if_neg (show ¬ d.k=3 by omega),if_neg h4,if_pos h5]
    rw [rt_fErr hl ok]
    by_cases hz:fErr t.σ.objs (rgA t.σ.regs d.fr) d.at_ ≠ 0
    · rw [if_pos hz,if_pos hz]
    · rw [if_neg hz,if_neg hz,if_neg hn1,if_neg hz]
      have hz0:coErr t.a (rgA t.a.regs d.fr) d.at_=0:=by rw [hr,rt_fErr hl ok]; exact not_ne hz
      obtain ⟨i,k,fs,e1,e2,hf,hk⟩:=coErr_zero ok hz0
      rw [hr] at e1
      obtain ⟨g1,g2,g3⟩:=rt_fld hl hf
      refine Prod.ext rfl ?_
      rw [e1,e2]
      dsimp only
      rw [g2,Int.toNat_natCast,hf]
      rfl
  simp only [if_neg h1,if_neg h4,if_neg h5,if_neg (show ¬ ((0:Int) ≠ 0) by simp),if_neg hn1]
  by_cases h2:d.k=2
  · rw [if_pos h2,if_pos h2]; rfl
  rw [if_neg h2,if_neg h2]
  by_cases h3:d.k=3
  · rw [if_pos h3,if_pos h3]; rfl
  rw [if_neg h3,if_neg h3]
  by_cases h6:d.k=6
  · rw [if_pos h6,if_pos h6]
  rw [if_neg h6,if_neg h6]
  refine Prod.ext ?_ rfl
  by_cases hb:(rgA t.σ.regs d.fr).1=true
  · obtain ⟨i,fs,e,hf⟩:=ok.rg d.fr hb
    have e2:(rgA t.σ.regs d.fr).2=(i:Int):=e
    dsimp only
    rw [if_pos hb,e2,(rt_fld hl hf).2.1,Int.toNat_natCast,hf,if_pos hb]
    rfl
  · dsimp only
    rw [if_neg hb,if_neg hb]
end Go.Proofs.YtjphckfbbiehdaaGreat

namespace Go.Proofs.YtjphckfbbiehdaaGreat
open Go.RowKit
structure RtOk (q:Nat) (t:RT):Prop where
  len:t.gone.length=t.σ.objs.length
  ok:CoOk t.a
  inv:CoInv q t.a
  m:MOk t.σ
theorem stepK_len (d:DoV) (σ:MSt):(stepK d σ).2.objs.length=σ.objs.length + if d.k=1 then 1 else 0:=by
  unfold stepK
  by_cases h1:d.k=1
  · rw [if_pos h1,if_pos h1]; simp
  rw [if_neg h1,if_neg h1]
  split
  · rfl
  split
  · rfl
  split
  · split <;> simp
  split
  · split <;> simp
  split <;> rfl
theorem stepK_m {d:DoV} {σ:MSt} (h:MOk σ) (hw:rWrong d σ=0):MOk (stepK d σ).2:=by
  have h1:=(h.step d).1
  rw [stepM_rw,if_neg (by rw [hw]; simp)] at h1
  exact h1
theorem rtStep_len (q:Nat) (d:DoV) {t:RT} (h:t.gone.length=t.σ.objs.length):(rtStep q d t).2.gone.length=(rtStep q d t).2.σ.objs.length:=by
  unfold rtStep
  by_cases h8:d.k=8
  · rw [if_pos h8]; split <;> exact h
  rw [if_neg h8]
  by_cases h9:d.k=9
  · rw [if_pos h9]
    split
    · exact h
    · dsimp only; rw [goneL_len]; exact h
  rw [if_neg h9]
  split
  · exact h
  split
  · exact h
  dsimp only
  rw [stepK_len]
  split
  · rw [List.length_append,h]; rfl
  · rw [h]; rfl
theorem rtStep_m (q:Nat) (d:DoV) {t:RT} (h:MOk t.σ):MOk (rtStep q d t).2.σ:=by
  unfold rtStep
  by_cases h8:d.k=8
  · rw [if_pos h8]; split <;> exact h
  rw [if_neg h8]
  by_cases h9:d.k=9
  · rw [if_pos h9]; split <;> exact h
  rw [if_neg h9]
  by_cases hw:rWrong d t.σ ≠ 0
  · rw [if_pos hw]; exact h
  rw [if_neg hw]
  split
  · exact h
  · refine stepK_m h ?_
    rcases Int.decEq (rWrong d t.σ) 0 with h | h
    · exact absurd h hw
    · exact h
theorem RtOk.n {q:Nat} {t:RT} (h:RtOk q t):t.a.objs.length=t.σ.objs.length:=maskL_len _ _ h.len
theorem RtOk.step {q:Nat} (hq:q=1 ∨ q=2 ∨ q=3) {t:RT} (h:RtOk q t) (hn:t.σ.objs.length < 500) (d:DoV):RtOk q (rtStep q d t).2 ∧ (rtStep q d t).2.σ.objs.length ≤ t.σ.objs.length + 1 ∧ coStep q d t.a=((rtStep q d t).1,(rtStep q d t).2.a):=by
  have h1:=rt_co q h.len h.ok d
  obtain ⟨o1,o2,o3⟩:=coStep_ok hq h.ok (by rw [h.n]; exact hn) h.inv d
  rw [h1] at o1 o2 o3
  have hl:=rtStep_len q d h.len
  refine ⟨⟨hl,o1,o2,rtStep_m q d h.m⟩,?_,h1⟩
  rw [h.n,show ((rtStep q d t).1,(rtStep q d t).2.a).2.objs=maskL (rtStep q d t).2.σ.objs (rtStep q d t).2.gone from rfl,maskL_len _ _ hl] at o3
  exact o3
def rtStp (q:Nat) (p:List OutV × RT) (d:DoV):List OutV × RT:=(p.1 ++ [(rtStep q d p.2).1],(rtStep q d p.2).2)
def coStp (q:Nat) (p:List OutV × CoA) (d:DoV):List OutV × CoA:=(p.1 ++ [(coStep q d p.2).1],(coStep q d p.2).2)
def rtRun (q:Nat) (ds:List DoV) (t:RT):List OutV × RT:=ds.foldl (rtStp q) ([],t)
def coRun (q:Nat) (ds:List DoV) (a:CoA):List OutV × CoA:=ds.foldl (coStp q) ([],a)
theorem coRun_snoc (q:Nat) (ds:List DoV) (d:DoV) (a:CoA):coRun q (ds ++ [d]) a=((coRun q ds a).1 ++ [(coStep q d (coRun q ds a).2).1],(coStep q d (coRun q ds a).2).2):=by
  unfold coRun; rw [List.foldl_append]; rfl
theorem rtRun_ok0 {q:Nat} (hq:q=1 ∨ q=2 ∨ q=3) (ds:List DoV):∀ p:List OutV × RT,RtOk q p.2 → p.2.σ.objs.length + ds.length ≤ 400 →
    RtOk q (ds.foldl (rtStp q) p).2 ∧ (ds.foldl (rtStp q) p).2.σ.objs.length ≤ p.2.σ.objs.length + ds.length ∧ (ds.foldl (rtStp q) p).1.length=p.1.length + ds.length ∧
    ds.foldl (coStp q) (p.1,p.2.a)=((ds.foldl (rtStp q) p).1,(ds.foldl (rtStp q) p).2.a):=by
  induction ds with
  | nil => intro p h _; exact ⟨h,by simp,by simp,rfl⟩
  | cons d ds ih =>
    intro p h hn
    rw [List.length_cons] at hn
    obtain ⟨h1,h2,h3⟩:=h.step hq (by omega) d
    obtain ⟨i1,i2,i3,i4⟩:=ih (rtStp q p d) h1 (by show (rtStep q d p.2).2.σ.objs.length + _ ≤ _; omega)
    rw [List.foldl_cons,List.foldl_cons]
    refine ⟨i1,?_,?_,?_⟩
    · have:(rtStp q p d).2.σ.objs.length ≤ p.2.σ.objs.length + 1:=h2
      rw [List.length_cons]; omega
    · have:(rtStp q p d).1.length=p.1.length + 1:=by simp [rtStp]
      rw [List.length_cons]; omega
    · have e:coStp q (p.1,p.2.a) d=((rtStp q p d).1,(rtStp q p d).2.a):=by unfold coStp rtStp; rw [h3]
      rw [e]
      exact i4
theorem rtRun_ok {q:Nat} (hq:q=1 ∨ q=2 ∨ q=3) (ds:List DoV) {t:RT} (h:RtOk q t) (hn:t.σ.objs.length + ds.length ≤ 400) :
    RtOk q (rtRun q ds t).2 ∧ (rtRun q ds t).2.σ.objs.length ≤ t.σ.objs.length + ds.length ∧ (rtRun q ds t).1.length=ds.length ∧ coRun q ds t.a=((rtRun q ds t).1,(rtRun q ds t).2.a):=by
  have h1:=rtRun_ok0 hq ds ([],t) h hn
  simpa [rtRun,coRun] using h1
def rt0 (σ:MSt):RT:=⟨σ,List.replicate σ.objs.length false,beginC σ.objs.length σ.regs,[]⟩
def co0 (σ:MSt):CoA:=⟨σ.regs,σ.objs.map some,beginC σ.objs.length σ.regs,[]⟩
theorem rt0_a (σ:MSt):(rt0 σ).a=co0 σ:=by
  unfold rt0 co0 RT.a
  dsimp only
  congr 1
  refine List.ext_getElem? fun i => ?_
  rw [maskL_get _ _ (by simp),List.getElem?_map]
  congr 1
  funext fs
  rw [if_neg]
  rw [List.getD_eq_getElem?_getD,List.getElem?_replicate]
  split <;> simp
theorem rt0_ok (q:Nat) {σ:MSt} (h:MOk σ) (hn:σ.objs.length ≤ 400):RtOk q (rt0 σ):=by
  have hl:(rt0 σ).gone.length=(rt0 σ).σ.objs.length:=by unfold rt0; simp
  have hfl:∀ i fs,(co0 σ).fld i=some fs → σ.objs[i]?=some fs:=fun i fs hf => by
    have h1:=(CoA.fld_at hf).1
    unfold co0 at h1
    dsimp only at h1
    rw [List.getElem?_map] at h1
    cases h2:σ.objs[i]? with
    | none => rw [h2] at h1; cases h1
    | some x => rw [h2] at h1; exact congrArg some (Option.some.inj (Option.some.inj h1))
  have hvk:∀ v,(v.1=true → 0 ≤ v.2 ∧ v.2 < (σ.objs.length:Int)) → (co0 σ).vok v:=fun v hv h1 => by
    obtain ⟨h2,h3⟩:=hv h1
    obtain ⟨i,hi⟩:=int_nat h2
    have hil:i < σ.objs.length:=by omega
    exact ⟨i,σ.objs[i],hi,by unfold CoA.fld co0; simp [List.getElem?_eq_getElem hil]⟩
  have hok:CoOk (co0 σ):=⟨h.r8,by unfold co0; dsimp only; rw [beginC_len,List.length_map],by unfold co0; dsimp only; rw [List.length_map]; omega,fun v hv => hvk v (h.vr v hv),
    fun i fs v hf hv => hvk v (h.vo fs (List.mem_of_getElem? (hfl i fs hf)) v hv),fun i fs hf => h.f4 fs (List.mem_of_getElem? (hfl i fs hf))⟩
  refine ⟨hl,by rw [rt0_a]; exact hok,?_,h⟩
  rw [rt0_a]
  exact CoInv.begin_ q hok.vr (by unfold co0; simp)
def coThere (a:CoA):List (Int × Int):=(thereL a.objs).map fun x => (x,a.cols.getD x.toNat 0)
def countsV (l:List (Int × Int)):List Value:=l.flatMap fun p => [.int .i64 p.1,.int .i64 p.2]
theorem countsV_app (a b:List (Int × Int)):countsV (a ++ b)=countsV a ++ countsV b:=by simp [countsV]
end Go.Proofs.YtjphckfbbiehdaaGreat
