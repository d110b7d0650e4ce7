/- Part of a proof. -/
import Derived.Test.YtjphckfbbiehdaaGreatSTopAll5
set_option linter.unusedSimpArgs false
set_option linter.unusedVariables false
namespace Go.Proofs.YtjphckfbbiehdaaGreat
inductive Lev (gs:List (List Val)) (vs:List Val):Nat → Int → Prop
  | root (i:Int):(true,i) ∈ vs → Lev gs vs 0 i
  | step (k:Nat) (i j:Int):Lev gs vs k i → (true,j) ∈ fieldsI gs i → Lev gs vs (k + 1) j
theorem refers_iff (vs:List Val) (i:Int):refers vs i=true ↔ (true,i) ∈ vs:=by
  unfold refers
  rw [List.any_eq_true]
  constructor
  · rintro ⟨⟨b,x⟩,hv,h⟩
    simp only [Bool.and_eq_true,beq_iff_eq] at h
    obtain ⟨rfl,rfl⟩:=h
    exact hv
  · intro h
    exact ⟨_,h,by simp⟩
structure Grw (gs:List (List Val)) (t:Nat) (d d':List Int):Prop where
  len:d'.length=d.length
  keep:∀ j:Nat,0 ≤ d.getD j 0 → d'.getD j 0=d.getD j 0
  new:∀ j:Nat,d.getD j 0 < 0 → d'.getD j 0=d.getD j 0 ∨ (d'.getD j 0=(t:Int) + 1 ∧ ∃ i:Nat,i < gs.length ∧ d.getD i 0=(t:Int) ∧ refers (fieldsI gs (i:Int)) (j:Int)=true)
theorem Grw.refl (gs:List (List Val)) (t:Nat) (d:List Int):Grw gs t d d:=⟨rfl,fun _ _ => rfl,fun _ _ => .inl rfl⟩
theorem Grw.back {gs:List (List Val)} {t:Nat} {d d':List Int} (h:Grw gs t d d') {i:Nat} (hi:d'.getD i 0=(t:Int)):d.getD i 0=(t:Int):=by
  by_cases h0:0 ≤ d.getD i 0
  · rw [← h.keep i h0]; exact hi
  · rcases h.new i (by omega) with h1 | ⟨h1,_⟩ <;> omega
theorem Grw.trans {gs:List (List Val)} {t:Nat} {a b c:List Int} (h:Grw gs t a b) (k:Grw gs t b c):Grw gs t a c:=by
  refine ⟨k.len.trans h.len,fun j hj => ?_,fun j hj => ?_⟩
  · have h1:=h.keep j hj
    rw [k.keep j (by omega),h1]
  · rcases h.new j hj with h1 | ⟨h1,h2⟩
    · rcases k.new j (by omega) with h3 | ⟨h3,i,hi,hit,hr⟩
      · exact .inl (h3.trans h1)
      · exact .inr ⟨h3,i,hi,h.back hit,hr⟩
    · refine .inr ⟨?_,h2⟩
      rw [k.keep j (by omega),h1]
theorem getD_set_ {d:List Int} {j k:Nat} {x:Int} (hk:k < d.length):(d.set k x).getD j 0=if j=k then x else d.getD j 0:=by
  rw [List.getD_eq_getElem?_getD,List.getElem?_set]
  by_cases e:k=j
  · subst e; simp [hk]
  · rw [if_neg e,if_neg (Ne.symm e),← List.getD_eq_getElem?_getD]
theorem neg_lt {d:List Int} {j:Nat} (h:d.getD j 0 < 0):j < d.length:=by
  rcases Nat.lt_or_ge j d.length with h1 | h1
  · exact h1
  · rw [List.getD_eq_getElem?_getD,List.getElem?_eq_none h1] at h; simp at h
theorem Grw.look {gs:List (List Val)} {t i:Nat} {d:List Int} (hi:i < gs.length) (hit:d.getD i 0=(t:Int)) (j:Nat):Grw gs t d (dLook gs t i d j):=by
  unfold dLook
  split
  · rename_i hc
    have hj:=neg_lt hc.1
    refine ⟨by simp,fun x hx => ?_,fun x hx => ?_⟩
    · rw [getD_set_ hj,if_neg (by rintro rfl; omega)]
    · rw [getD_set_ hj]
      by_cases e:x=j
      · subst e; rw [if_pos rfl]; exact .inr ⟨rfl,i,hi,hit,hc.2⟩
      · rw [if_neg e]; exact .inl rfl
  · exact .refl _ _ _
theorem Grw.looks {gs:List (List Val)} {t i:Nat} (hi:i < gs.length) (js:List Nat):∀ d:List Int,d.getD i 0=(t:Int) → Grw gs t d (js.foldl (dLook gs t i) d) ∧ ∀ j ∈ js,refers (fieldsI gs (i:Int)) (j:Int)=true → 0 ≤ (js.foldl (dLook gs t i) d).getD j 0:=by
  induction js with
  | nil => intro d _; exact ⟨.refl _ _ _,by simp⟩
  | cons a js ih =>
    intro d hit
    have h1:=Grw.look hi hit a
    obtain ⟨h2,h3⟩:=ih (dLook gs t i d a) (dLook_keep a hit)
    refine ⟨h1.trans h2,fun j hj hr => ?_⟩
    rcases List.mem_cons.1 hj with rfl | hj
    · have h4:0 ≤ (dLook gs t i d j).getD j 0:=by
        unfold dLook
        by_cases h5:d.getD j 0 < 0
        · rw [if_pos ⟨h5,hr⟩,getD_set_ (neg_lt h5),if_pos rfl]; omega
        · rw [if_neg (fun h => h5 h.1)]; omega
      rw [List.foldl_cons,h2.keep j h4]; exact h4
    · exact h3 j hj hr
theorem Grw.froms {gs:List (List Val)} {t:Nat} (is_:List Nat):∀ d:List Int,(∀ i ∈ is_,i < gs.length) → Grw gs t d (is_.foldl (dFrom gs t) d) ∧ ∀ i ∈ is_,d.getD i 0=(t:Int) → ∀ j:Nat,j < gs.length → refers (fieldsI gs (i:Int)) (j:Int)=true → 0 ≤ (is_.foldl (dFrom gs t) d).getD j 0:=by
  induction is_ with
  | nil => intro d _; exact ⟨.refl _ _ _,by simp⟩
  | cons a js ih =>
    intro d hlt
    have ha:=hlt a (by simp)
    have h1:Grw gs t d (dFrom gs t d a):=by
      unfold dFrom
      split
      · exact (Grw.looks ha _ d (by assumption)).1
      · exact .refl _ _ _
    obtain ⟨h2,h3⟩:=ih (dFrom gs t d a) (fun i hi => hlt i (by simp [hi]))
    refine ⟨h1.trans h2,fun i hi hit j hj hr => ?_⟩
    rcases List.mem_cons.1 hi with rfl | hi
    · have h4:0 ≤ (dFrom gs t d i).getD j 0:=by
        unfold dFrom
        rw [if_pos hit]
        exact (Grw.looks ha _ d hit).2 j (List.mem_range.2 hj) hr
      rw [List.foldl_cons,h2.keep j h4]; exact h4
    · exact h3 i hi (by rw [h1.keep i (by omega)]; exact hit) j hj hr
theorem Grw.turn {gs:List (List Val)} {t:Nat} (d:List Int):Grw gs t d (dTurn gs d t) ∧ ∀ i:Nat,i < gs.length → d.getD i 0=(t:Int) → ∀ j:Nat,j < gs.length → refers (fieldsI gs (i:Int)) (j:Int)=true → 0 ≤ (dTurn gs d t).getD j 0:=by
  obtain ⟨h1,h2⟩:=Grw.froms (gs:=gs) (t:=t) (List.range gs.length) d (fun i hi => List.mem_range.1 hi)
  exact ⟨h1,fun i hi => h2 i (List.mem_range.2 hi)⟩
structure DInv (gs:List (List Val)) (vs:List Val) (t:Nat) (d:List Int):Prop where
  len:d.length=gs.length
  rng:∀ i:Nat,d.getD i 0=-1 ∨ (0 ≤ d.getD i 0 ∧ d.getD i 0 ≤ (t:Int))
  root:∀ i:Nat,i < gs.length → (true,(i:Int)) ∈ vs → d.getD i 0=0
  lev:∀ i:Nat,i < gs.length → 0 ≤ d.getD i 0 → Lev gs vs (d.getD i 0).toNat (i:Int)
  nxt:∀ i:Nat,i < gs.length → 0 ≤ d.getD i 0 → d.getD i 0 < (t:Int) → ∀ j:Nat,j < gs.length → (true,(j:Int)) ∈ fieldsI gs (i:Int) → 0 ≤ d.getD j 0 ∧ d.getD j 0 ≤ d.getD i 0 + 1
  prv:∀ i:Nat,i < gs.length → 0 < d.getD i 0 → ∃ j:Nat,j < gs.length ∧ d.getD j 0=d.getD i 0 - 1
theorem DInv.zero (gs:List (List Val)) (vs:List Val):DInv gs vs 0 (d0 gs vs):=by
  have e:∀ i:Nat,i < gs.length → (d0 gs vs).getD i 0=if refers vs (i:Int)=true then 0 else -1:=fun i hi => by
    rw [getD_get (by rw [d0_len]; exact hi)]; simp [d0]
  refine ⟨d0_len _ _,fun i => ?_,fun i hi h => ?_,fun i hi h => ?_,fun i hi h h2 => ?_,fun i hi h => ?_⟩
  · rcases Nat.lt_or_ge i gs.length with h | h
    · rw [e i h]; split <;> simp
    · rw [List.getD_eq_getElem?_getD,List.getElem?_eq_none (by rw [d0_len]; exact h)]; simp
  · rw [e i hi,if_pos ((refers_iff _ _).2 h)]
  · rw [e i hi] at h ⊢
    split at h
    · rename_i h1
      rw [if_pos h1]
      exact .root _ ((refers_iff _ _).1 h1)
    · omega
  · omega
  · rw [e i hi] at h
    split at h <;> omega
theorem DInv.turn {gs:List (List Val)} {vs:List Val} {t:Nat} {d:List Int} (h:DInv gs vs t d):DInv gs vs (t + 1) (dTurn gs d t):=by
  obtain ⟨hg,hc⟩:=Grw.turn (gs:=gs) (t:=t) d
  generalize dTurn gs d t=d' at *
  refine ⟨hg.len.trans h.len,fun i => ?_,fun i hi hr => ?_,fun i hi h0 => ?_,fun i hi h0 h1 j hj hr => ?_,fun i hi h0 => ?_⟩
  · rcases h.rng i with h1 | ⟨h1,h2⟩
    · rcases hg.new i (by omega) with h3 | ⟨h3,_⟩
      · exact .inl (h3.trans h1)
      · exact .inr (by omega)
    · rw [hg.keep i h1]; exact .inr (by omega)
  · have:=h.root i hi hr
    rw [hg.keep i (by omega)]; exact this
  · by_cases h1:0 ≤ d.getD i 0
    · rw [hg.keep i h1]; exact h.lev i hi h1
    · rcases hg.new i (by omega) with h3 | ⟨h3,x,hx,hxt,hr⟩
      · omega
      · rw [h3]
        have:=h.lev x hx (by omega)
        rw [hxt] at this
        have h9:=Lev.step _ _ _ this ((refers_iff _ _).1 hr)
        rw [show ((t:Int) + 1).toNat=(t:Int).toNat + 1 from by omega]
        exact h9
  · have hi0:0 ≤ d.getD i 0:=by
      by_cases h2:0 ≤ d.getD i 0
      · exact h2
      · rcases hg.new i (by omega) with h3 | ⟨h3,_⟩ <;> omega
    have hik:=hg.keep i hi0
    rw [hik] at h0 h1 ⊢
    by_cases h2:d.getD i 0 < (t:Int)
    · obtain ⟨h3,h4⟩:=h.nxt i hi hi0 h2 j hj hr
      rw [hg.keep j h3]; exact ⟨h3,h4⟩
    · have hit:d.getD i 0=(t:Int):=by omega
      have h5:=hc i hi hit j hj ((refers_iff _ _).2 hr)
      refine ⟨h5,?_⟩
      by_cases h6:0 ≤ d.getD j 0
      · rw [hg.keep j h6]
        rcases h.rng j with h7 | h7 <;> omega
      · rcases hg.new j (by omega) with h7 | ⟨h7,_⟩ <;> omega
  · by_cases h1:0 ≤ d.getD i 0
    · rw [hg.keep i h1] at h0 ⊢
      obtain ⟨j,hj,hj2⟩:=h.prv i hi h0
      exact ⟨j,hj,by rw [hg.keep j (by omega)]; exact hj2⟩
    · rcases hg.new i (by omega) with h3 | ⟨h3,x,hx,hxt,_⟩
      · omega
      · exact ⟨x,hx,by rw [hg.keep x (by omega),hxt,h3]; omega⟩
theorem DInv.turns (gs:List (List Val)) (vs:List Val) (t:Nat):DInv gs vs t ((List.range t).foldl (dTurn gs) (d0 gs vs)):=by
  induction t with
  | zero => exact DInv.zero gs vs
  | succ t ih => rw [range_snoc_fold]; exact ih.turn
theorem DInv.lt {gs:List (List Val)} {vs:List Val} {d:List Int} (h:DInv gs vs gs.length d) (i:Nat) (hi:i < gs.length):d.getD i 0 < (gs.length:Int):=by
  rcases (show d.getD i 0 < (gs.length:Int) ∨ (gs.length:Int) ≤ d.getD i 0 by omega) with h1 | h1
  · exact h1
  exfalso
  have hn:d.getD i 0=(gs.length:Int):=by rcases h.rng i with h2 | h2 <;> omega
  have key:∀ s:Nat,s ≤ gs.length → ∃ j:Nat,j < gs.length ∧ d.getD j 0=((gs.length - s:Nat):Int):=by
    intro s
    induction s with
    | zero => intro _; exact ⟨i,hi,by simpa using hn⟩
    | succ s ih =>
      intro hs
      obtain ⟨j,hj,hjd⟩:=ih (by omega)
      obtain ⟨x,hx,hxd⟩:=h.prv j hj (by omega)
      exact ⟨x,hx,by omega⟩
  have key2:∀ s:Nat,∃ j:Nat,s ≤ gs.length → j < gs.length ∧ d.getD j 0=(s:Int):=fun s => by
    by_cases hs:s ≤ gs.length
    · obtain ⟨j,hj,hjd⟩:=key (gs.length - s) (by omega)
      exact ⟨j,fun _ => ⟨hj,by omega⟩⟩
    · exact ⟨0,fun h => absurd h hs⟩
  have hf:∃ f:Nat → Nat,∀ s,s ≤ gs.length → f s < gs.length ∧ d.getD (f s) 0=(s:Int):=⟨fun s => Classical.choose (key2 s),fun s => Classical.choose_spec (key2 s)⟩
  obtain ⟨f,hf⟩:=hf
  have:=nodup_len ((List.range (gs.length + 1)).map fun s => (f s:Int)) gs.length (by
    rw [List.nodup_iff_pairwise_ne,List.pairwise_map]
    refine List.Pairwise.imp_of_mem ?_ List.nodup_range
    intro a b ha hb hne e
    have h1:=(hf a (by have:=List.mem_range.1 ha; omega)).2
    have h2:=(hf b (by have:=List.mem_range.1 hb; omega)).2
    have e2:f a=f b:=by omega
    rw [e2] at h1
    omega) (fun x hx => by
    obtain ⟨s,hs,rfl⟩:=List.mem_map.1 hx
    have:=(hf s (by have:=List.mem_range.1 hs; omega)).1
    omega)
  simp at this
  omega
structure DistOk (gs:List (List Val)) (vs:List Val) (d:List Int):Prop where
  len:d.length=gs.length
  neg:∀ i:Nat,d.getD i 0=-1 ∨ 0 ≤ d.getD i 0
  lev:∀ i:Nat,i < gs.length → 0 ≤ d.getD i 0 → Lev gs vs (d.getD i 0).toNat (i:Int)
  min_:∀ (k:Nat) (i:Int),Lev gs vs k i → 0 ≤ i ∧ i < gs.length ∧ 0 ≤ d.getD i.toNat 0 ∧ d.getD i.toNat 0 ≤ (k:Int)
theorem distR_ok {gs:List (List Val)} {vs:List Val} (hg:∀ fs ∈ gs,ValsOk gs.length fs) (hv:ValsOk gs.length vs):DistOk gs vs (distR gs vs):=by
  have h:DInv gs vs gs.length (distR gs vs):=DInv.turns gs vs gs.length
  refine ⟨h.len,fun i => (h.rng i).imp id (·.1),h.lev,fun k i hl => ?_⟩
  induction hl with
  | root i hi =>
    obtain ⟨a,b⟩:=hv _ hi rfl
    dsimp only at a b
    refine ⟨a,b,?_⟩
    have:=h.root i.toNat (by omega) (by rw [show ((i.toNat:Nat):Int)=i from by omega]; exact hi)
    omega
  | step k i j _ hj ih =>
    obtain ⟨a,b,c,e⟩:=ih
    obtain ⟨a',b'⟩:=fieldsI_ok hg i _ hj rfl
    dsimp only at a' b'
    refine ⟨a',b',?_⟩
    have h1:=h.lt i.toNat (by omega)
    have:=h.nxt i.toNat (by omega) c h1 j.toNat (by omega) (by
      rw [show ((i.toNat:Nat):Int)=i from by omega,show ((j.toNat:Nat):Int)=j from by omega]; exact hj)
    omega
theorem DistOk.uniq {gs:List (List Val)} {vs:List Val} {d d':List Int} (h:DistOk gs vs d) (h':DistOk gs vs d'):d=d':=by
  refine List.ext_getElem (h.len.trans h'.len.symm) fun i h1 h2 => ?_
  have hi:i < gs.length:=by rw [← h.len]; exact h1
  rw [← getD_get h1,← getD_get h2]
  have key:∀ {a b:List Int},DistOk gs vs a → DistOk gs vs b → 0 ≤ a.getD i 0 → 0 ≤ b.getD i 0 ∧ b.getD i 0 ≤ a.getD i 0:=fun {a b} ha hb h0 => by
    have:=(hb.min_ _ _ (ha.lev i hi h0)).2.2
    rw [show ((i:Int)).toNat=i from by omega] at this
    omega
  rcases h.neg i with h3 | h3 <;> rcases h'.neg i with h4 | h4
  · omega
  · have:=key h' h h4; omega
  · have:=key h h' h3; omega
  · have:=key h h' h3; have:=key h' h h4; omega
theorem mem_reachR {gs:List (List Val)} {vs:List Val} (hg:∀ fs ∈ gs,ValsOk gs.length fs) (hv:ValsOk gs.length vs) (x:Int):x ∈ reachR gs vs ↔ ∃ k,Lev gs vs k x:=by
  have h:=distR_ok hg hv
  unfold reachR
  rw [List.mem_map]
  constructor
  · rintro ⟨i,hi,rfl⟩
    obtain ⟨h1,h2⟩:=List.mem_filter.1 hi
    exact ⟨_,h.lev i (List.mem_range.1 h1) (by simpa using h2)⟩
  · rintro ⟨k,hk⟩
    obtain ⟨a,b,c,_⟩:=h.min_ k x hk
    exact ⟨x.toNat,List.mem_filter.2 ⟨List.mem_range.2 (by omega),by simpa using c⟩,by omega⟩
end Go.Proofs.YtjphckfbbiehdaaGreat

namespace Go.Proofs.YtjphckfbbiehdaaGreat
def tk1 (t:Int) (σ:List Int × List Int) (v:Val):List Int × List Int:=if v.1=true ∧ σ.2.getD v.2.toNat 0 < 0 then (σ.1 ++ [v.2],σ.2.set v.2.toNat t) else σ
def tkAll (t:Int) (vs:List Val) (σ:List Int × List Int):List Int × List Int:=vs.foldl (tk1 t) σ
def fnd (gs:List (List Val)):Nat → Nat → List Int × List Int → List Int × List Int
  | 0,_,σ => σ
  | f + 1,k,σ => if k < σ.1.length then fnd gs f (k + 1) (tkAll (σ.2.getD (σ.1.getD k 0).toNat 0 + 1) (fieldsI gs (σ.1.getD k 0)) σ) else σ
def fndAll (gs:List (List Val)) (vs:List Val):List Int × List Int:=fnd gs gs.length 0 (tkAll 0 vs ([],List.replicate gs.length (-1)))
theorem tkAll_cons (t:Int) (v:Val) (vs:List Val) (σ:List Int × List Int):tkAll t (v :: vs) σ=tkAll t vs (tk1 t σ v):=rfl
theorem tkAll_snoc (t:Int) (v:Val) (vs:List Val) (σ:List Int × List Int):tkAll t (vs ++ [v]) σ=tk1 t (tkAll t vs σ) v:=by unfold tkAll; rw [List.foldl_append]; rfl
structure FOk (n:Nat) (σ:List Int × List Int):Prop where
  ok:OrdOk n σ.1
  len:σ.2.length=n
  neg:∀ i:Nat,σ.2.getD i 0=-1 ∨ 0 ≤ σ.2.getD i 0
  there:∀ i:Nat,i < n → (0 ≤ σ.2.getD i 0 ↔ (i:Int) ∈ σ.1)
  bd:∀ i:Nat,σ.2.getD i 0 < n + 1
theorem FOk.zero (n:Nat):FOk n ([],List.replicate n (-1)):=by
  have e:∀ i:Nat,(List.replicate n (-1:Int)).getD i 0=if i < n then -1 else 0:=fun i => by
    rw [List.getD_eq_getElem?_getD,List.getElem?_replicate]; split <;> simp
  refine ⟨OrdOk.nil n,by simp,fun i => ?_,fun i hi => ?_,fun i => ?_⟩
  · dsimp only; rw [e]; split <;> simp
  · dsimp only; rw [e,if_pos hi]; simp
  · dsimp only; rw [e]; split <;> omega
theorem tk1_yes {t:Int} {σ:List Int × List Int} {x:Int} (h:σ.2.getD x.toNat 0 < 0):tk1 t σ (true,x)=(σ.1 ++ [x],σ.2.set x.toNat t):=by unfold tk1; rw [if_pos ⟨rfl,h⟩]
theorem tk1_no {t:Int} {σ:List Int × List Int} {b:Bool} {x:Int} (h:b=false ∨ 0 ≤ σ.2.getD x.toNat 0):tk1 t σ (b,x)=σ:=by
  unfold tk1
  rw [if_neg]
  rintro ⟨h1,h2⟩
  rcases h with h | h
  · dsimp only at h1; rw [h] at h1; cases h1
  · dsimp only at h2; omega
theorem FOk.seen {n:Nat} {σ:List Int × List Int} (h:FOk n σ) {v:Val} (hv:v.1=true → 0 ≤ v.2 ∧ v.2 < (n:Int)) (t:Int):(tk1 t σ v).1=seen1 σ.1 v:=by
  obtain ⟨b,x⟩:=v
  cases b with
  | false => rw [tk1_no (.inl rfl)]; unfold seen1; rw [if_neg (by simp)]
  | true =>
    obtain ⟨h1,h2⟩:=hv rfl
    dsimp only at h1 h2
    have:=h.there x.toNat (by omega)
    rw [show ((x.toNat:Nat):Int)=x from by omega] at this
    by_cases hx:x ∈ σ.1
    · rw [tk1_no (.inr (this.2 hx))]; unfold seen1; rw [if_neg (fun h => h.2 hx)]
    · rw [tk1_yes (by
        rcases h.neg x.toNat with h3 | h3
        · omega
        · exact absurd (this.1 h3) hx)]
      unfold seen1; rw [if_pos ⟨rfl,hx⟩]
theorem FOk.tk1 {n:Nat} {σ:List Int × List Int} (h:FOk n σ) {v:Val} (hv:v.1=true → 0 ≤ v.2 ∧ v.2 < (n:Int)) {t:Int} (ht:0 ≤ t ∧ t < n + 1):FOk n (tk1 t σ v):=by
  obtain ⟨b,x⟩:=v
  cases b with
  | false => rw [tk1_no (.inl rfl)]; exact h
  | true =>
    obtain ⟨h1,h2⟩:=hv rfl
    dsimp only at h1 h2
    by_cases hx:σ.2.getD x.toNat 0 < 0
    · have hs:=h.seen hv t
      have hxl:=neg_lt hx
      refine ⟨by rw [hs]; exact h.ok.seen1 hv,?_,fun i => ?_,fun i hi => ?_,fun i => ?_⟩
      · rw [tk1_yes hx]; simp; exact h.len
      · rw [tk1_yes hx]; dsimp only; rw [getD_set_ hxl]; split
        · exact .inr ht.1
        · exact h.neg i
      · rw [tk1_yes hx]; dsimp only; rw [getD_set_ hxl]
        by_cases e:i=x.toNat
        · rw [if_pos e]
          constructor
          · intro _; subst e; rw [show ((x.toNat:Nat):Int)=x from by omega]; simp
          · intro _; exact ht.1
        · rw [if_neg e,h.there i hi]
          simp only [List.mem_append,List.mem_singleton]
          constructor
          · exact .inl
          · rintro (h3 | h3)
            · exact h3
            · omega
      · rw [tk1_yes hx]; dsimp only; rw [getD_set_ hxl]; split
        · exact ht.2
        · exact h.bd i
    · rw [tk1_no (.inr (by omega))]; exact h
theorem FOk.tkAll {n:Nat} {t:Int} (ht:0 ≤ t ∧ t < n + 1) (vs:List Val):∀ {σ:List Int × List Int},FOk n σ → ValsOk n vs → FOk n (tkAll t vs σ) ∧ (Go.Proofs.YtjphckfbbiehdaaGreat.tkAll t vs σ).1=seenAll σ.1 vs:=by
  induction vs with
  | nil => intro σ h _; exact ⟨h,rfl⟩
  | cons v vs ih =>
    intro σ h hv
    obtain ⟨h1,h2⟩:=ih (h.tk1 (hv v (by simp)) ht) (fun u hu => hv u (by simp [hu]))
    refine ⟨h1,?_⟩
    rw [tkAll_cons,h2,h.seen (hv v (by simp)) t]
    rfl
structure FI (gs:List (List Val)) (vs:List Val) (k:Nat) (σ:List Int × List Int):Prop where
  f:FOk gs.length σ
  lev:∀ x ∈ σ.1,Lev gs vs (σ.2.getD x.toNat 0).toNat x
  mono:∀ a b,a ≤ b → b < σ.1.length → σ.2.getD (σ.1.getD a 0).toNat 0 ≤ σ.2.getD (σ.1.getD b 0).toNat 0
  bnd:k < σ.1.length → ∀ x ∈ σ.1,σ.2.getD x.toNat 0 ≤ σ.2.getD (σ.1.getD k 0).toNat 0 + 1
  clo:∀ a,a < k → a < σ.1.length → ∀ j,(true,j) ∈ fieldsI gs (σ.1.getD a 0) → j ∈ σ.1 ∧ σ.2.getD j.toNat 0 ≤ σ.2.getD (σ.1.getD a 0).toNat 0 + 1
  root:∀ j,(true,j) ∈ vs → j ∈ σ.1 ∧ σ.2.getD j.toNat 0=0
  idx:∀ a,a < σ.1.length → σ.2.getD (σ.1.getD a 0).toNat 0 ≤ a
structure Tkn (n:Nat) (t:Int) (σ τ:List Int × List Int):Prop where
  pre_:σ.1 <+: τ.1
  keep:∀ x ∈ σ.1,τ.2.getD x.toNat 0=σ.2.getD x.toNat 0
  new:∀ x ∈ τ.1,x ∉ σ.1 → τ.2.getD x.toNat 0=t
theorem Tkn.refl (n:Nat) (t:Int) (σ:List Int × List Int):Tkn n t σ σ:=⟨List.prefix_refl _,fun _ _ => rfl,fun x h h2 => absurd h h2⟩
theorem Tkn.trans {n:Nat} {t:Int} {a b c:List Int × List Int} (h:Tkn n t a b) (k:Tkn n t b c):Tkn n t a c:=by
  refine ⟨h.pre_.trans k.pre_,fun x hx => by rw [k.keep x (h.pre_.subset hx),h.keep x hx],fun x hx hn => ?_⟩
  by_cases hb:x ∈ b.1
  · rw [k.keep x hb]; exact h.new x hb hn
  · exact k.new x hx hb
theorem Tkn.one {n:Nat} {t:Int} {σ:List Int × List Int} (h:FOk n σ) {v:Val} (hv:v.1=true → 0 ≤ v.2 ∧ v.2 < (n:Int)):Tkn n t σ (tk1 t σ v):=by
  obtain ⟨b,x⟩:=v
  cases b with
  | false => rw [tk1_no (.inl rfl)]; exact .refl _ _ _
  | true =>
    obtain ⟨h1,h2⟩:=hv rfl
    dsimp only at h1 h2
    by_cases hx:σ.2.getD x.toNat 0 < 0
    · rw [tk1_yes hx]
      have hxl:=neg_lt hx
      refine ⟨List.prefix_append _ _,fun y hy => ?_,fun y hy hn => ?_⟩
      · dsimp only
        rw [getD_set_ hxl,if_neg]
        intro e
        have h3:=h.ok.rng y hy
        have h4:=(h.there y.toNat (by omega)).2 (by rw [show ((y.toNat:Nat):Int)=y from by omega]; exact hy)
        rw [e] at h4
        omega
      · dsimp only at hy ⊢
        rcases List.mem_append.1 hy with h3 | h3
        · exact absurd h3 hn
        · simp at h3; subst h3
          rw [getD_set_ hxl,if_pos rfl]
    · rw [tk1_no (.inr (by omega))]; exact .refl _ _ _
theorem Tkn.all {n:Nat} {t:Int} (ht:0 ≤ t ∧ t < n + 1) (vs:List Val):∀ {σ:List Int × List Int},FOk n σ → ValsOk n vs → Tkn n t σ (tkAll t vs σ):=by
  induction vs with
  | nil => intro σ _ _; exact .refl _ _ _
  | cons v vs ih =>
    intro σ h hv
    rw [tkAll_cons]
    exact (Tkn.one h (hv v (by simp))).trans (ih (h.tk1 (hv v (by simp)) ht) (fun u hu => hv u (by simp [hu])))
theorem tkn_mem {n:Nat} {t:Int} (ht:0 ≤ t ∧ t < n + 1) (vs:List Val) {σ:List Int × List Int} (h:FOk n σ) (hv:ValsOk n vs):(∀ x,(true,x) ∈ vs → x ∈ (tkAll t vs σ).1) ∧ (∀ x ∈ (tkAll t vs σ).1,x ∈ σ.1 ∨ (true,x) ∈ vs):=by
  have h1:=(FOk.tkAll ht vs h hv).2
  rw [h1]
  refine ⟨fun x hx => seenAll_mem _ _ _ hx rfl,?_⟩
  clear h1 h hv
  generalize σ.1=l
  induction vs generalizing l with
  | nil => intro x hx; exact .inl hx
  | cons v vs ih =>
    intro x hx
    rw [seenAll_cons] at hx
    rcases ih _ x hx with h | h
    · unfold seen1 at h
      split at h
      · rename_i hc
        rcases List.mem_append.1 h with h2 | h2
        · exact .inl h2
        · simp at h2; subst h2
          refine .inr ?_
          obtain ⟨b,y⟩:=v
          dsimp only at hc ⊢
          rw [hc.1]; simp
      · exact .inl h
    · exact .inr (by simp [h])
theorem getD_pre {l m:List Int} (h:l <+: m) {a:Nat} (ha:a < l.length):m.getD a 0=l.getD a 0:=by
  obtain ⟨r,rfl⟩:=h
  rw [List.getD_eq_getElem?_getD,List.getD_eq_getElem?_getD,List.getElem?_append_left ha]
theorem getD_mem {l:List Int} {a:Nat} (ha:a < l.length):l.getD a 0 ∈ l:=by
  rw [List.getD_eq_getElem?_getD,List.getElem?_eq_getElem ha]; exact List.getElem_mem ha
theorem getD_tail {l m:List Int} (h:l <+: m) (hn:m.Nodup) {b:Nat} (hb:l.length ≤ b) (hb2:b < m.length):m.getD b 0 ∉ l:=by
  obtain ⟨r,rfl⟩:=h
  rw [List.getD_eq_getElem?_getD,List.getElem?_append_right hb]
  intro hm
  have hr:b - l.length < r.length:=by simp at hb2; omega
  rw [List.getElem?_eq_getElem hr] at hm
  exact (List.nodup_append.1 hn).2.2 _ hm _ (List.getElem_mem hr) rfl
theorem FI.begin {gs:List (List Val)} {vs:List Val} (hv:ValsOk gs.length vs):FI gs vs 0 (tkAll 0 vs ([],List.replicate gs.length (-1))):=by
  have h0:=FOk.zero gs.length
  have ht:(0:Int) ≤ 0 ∧ (0:Int) < gs.length + 1:=by omega
  obtain ⟨h1,h2⟩:=FOk.tkAll ht vs h0 hv
  have h3:=Tkn.all ht vs h0 hv
  obtain ⟨h4,h5⟩:=tkn_mem ht vs h0 hv
  generalize tkAll 0 vs ([],List.replicate gs.length (-1))=τ at *
  have hz:∀ x ∈ τ.1,τ.2.getD x.toNat 0=0:=fun x hx => h3.new x hx (by simp)
  refine ⟨h1,fun x hx => ?_,fun a b hab hb => ?_,fun hk x hx => ?_,fun a ha => by omega,fun j hj => ⟨h4 j hj,hz j (h4 j hj)⟩,fun a ha => ?_⟩
  · rw [hz x hx]
    rcases h5 x hx with h6 | h6
    · simp at h6
    · exact .root _ h6
  · rw [hz _ (getD_mem (by omega)),hz _ (getD_mem hb)]
    exact Int.le_refl _
  · rw [hz x hx,hz _ (getD_mem hk)]; omega
  · rw [hz _ (getD_mem ha)]; omega
theorem FI.next {gs:List (List Val)} {vs:List Val} {k:Nat} {σ:List Int × List Int} (hg:∀ fs ∈ gs,ValsOk gs.length fs) (h:FI gs vs k σ) (hk:k < σ.1.length) :
    FI gs vs (k + 1) (tkAll (σ.2.getD (σ.1.getD k 0).toNat 0 + 1) (fieldsI gs (σ.1.getD k 0)) σ):=by
  obtain ⟨x,hx⟩:∃ x,σ.1.getD k 0=x:=⟨_,rfl⟩
  obtain ⟨t,ht⟩:∃ t,σ.2.getD x.toNat 0 + 1=t:=⟨_,rfl⟩
  have hxm:x ∈ σ.1:=by rw [← hx]; exact getD_mem hk
  have hfl:=fieldsI_ok hg x
  have hi:=h.idx k hk
  have hll:=h.f.ok.len
  have hnn:0 ≤ σ.2.getD x.toNat 0:=by
    have h3:=h.f.ok.rng x hxm
    exact (h.f.there x.toNat (by omega)).2 (by rw [show ((x.toNat:Nat):Int)=x from by omega]; exact hxm)
  have hmono:=h.mono
  have hbnd:=h.bnd hk
  have hlevx:=h.lev x hxm
  rw [hx] at hi hbnd ⊢
  rw [ht]
  have htt:0 ≤ t ∧ t < gs.length + 1:=by omega
  obtain ⟨h1,h2⟩:=FOk.tkAll htt (fieldsI gs x) h.f hfl
  have h3:=Tkn.all htt (fieldsI gs x) h.f hfl
  obtain ⟨h4,h5⟩:=tkn_mem htt (fieldsI gs x) h.f hfl
  generalize tkAll t (fieldsI gs x) σ=τ at *
  have hle:σ.1.length ≤ τ.1.length:=h3.pre_.length_le
  have hnd:=h1.ok.nodup
  have hall:∀ y ∈ τ.1,τ.2.getD y.toNat 0 ≤ t:=fun y hy => by
    by_cases hy2:y ∈ σ.1
    · rw [h3.keep y hy2]; have:=hbnd y hy2; omega
    · rw [h3.new y hy hy2]; exact Int.le_refl _
  refine ⟨h1,fun y hy => ?_,fun a b hab hb => ?_,fun hk1 y hy => ?_,fun a ha hal j hj => ?_,fun j hj => ?_,fun a ha => ?_⟩
  · by_cases hy2:y ∈ σ.1
    · rw [h3.keep y hy2]; exact h.lev y hy2
    · rw [h3.new y hy hy2]
      rcases h5 y hy with h6 | h6
      · exact absurd h6 hy2
      · rw [show t.toNat=(σ.2.getD x.toNat 0).toNat + 1 from by omega]
        exact .step _ _ _ hlevx h6
  · by_cases hb2:b < σ.1.length
    · rw [getD_pre h3.pre_ hb2,getD_pre h3.pre_ (show a < σ.1.length by omega),h3.keep _ (getD_mem hb2),h3.keep _ (getD_mem (by omega))]
      exact hmono a b hab hb2
    · rw [h3.new _ (getD_mem hb) (getD_tail h3.pre_ hnd (by omega) hb)]
      exact hall _ (getD_mem (by omega))
  · have hy3:=hall y hy
    by_cases hk2:k + 1 < σ.1.length
    · rw [getD_pre h3.pre_ hk2,h3.keep _ (getD_mem hk2)]
      have:=hmono k (k + 1) (by omega) hk2
      rw [hx] at this
      omega
    · rw [h3.new _ (getD_mem hk1) (getD_tail h3.pre_ hnd (by omega) hk1)]
      omega
  · by_cases e:a=k
    · subst e
      rw [getD_pre h3.pre_ hk,hx] at hj ⊢
      refine ⟨h4 j hj,?_⟩
      rw [h3.keep x hxm,ht]
      exact hall _ (h4 j hj)
    · have hak:a < k:=by omega
      have has:a < σ.1.length:=by omega
      rw [getD_pre h3.pre_ has] at hj ⊢
      obtain ⟨h6,h7⟩:=h.clo a hak has j hj
      rw [h3.keep j h6,h3.keep _ (getD_mem has)]
      exact ⟨h3.pre_.subset h6,h7⟩
  · obtain ⟨h6,h7⟩:=h.root j hj
    rw [h3.keep j h6]
    exact ⟨h3.pre_.subset h6,h7⟩
  · by_cases ha2:a < σ.1.length
    · rw [getD_pre h3.pre_ ha2,h3.keep _ (getD_mem ha2)]
      exact h.idx a ha2
    · rw [h3.new _ (getD_mem ha) (getD_tail h3.pre_ hnd (by omega) ha)]
      omega
theorem fnd_end {gs:List (List Val)} {vs:List Val} (hg:∀ fs ∈ gs,ValsOk gs.length fs) (f:Nat):∀ (k:Nat) (σ:List Int × List Int),gs.length ≤ f + k → FI gs vs k σ → (fnd gs f k σ).1=bfs gs f k σ.1 ∧ DistOk gs vs (fnd gs f k σ).2:=by
  have fin:∀ (k:Nat) (σ:List Int × List Int),σ.1.length ≤ k → FI gs vs k σ → DistOk gs vs σ.2:=by
    intro k σ hk h
    refine ⟨h.f.len,h.f.neg,fun i hi h0 => ?_,fun q i hl => ?_⟩
    · have:=h.lev (i:Int) ((h.f.there i hi).1 h0)
      rwa [show ((i:Int)).toNat=i from by omega] at this
    · have hm:i ∈ σ.1 ∧ σ.2.getD i.toNat 0 ≤ (q:Int):=by
        induction hl with
        | root i hi => obtain ⟨h1,h2⟩:=h.root i hi; exact ⟨h1,by omega⟩
        | step q i j _ hj ih =>
          obtain ⟨h1,h2⟩:=ih
          obtain ⟨a,ha,rfl⟩:=List.mem_iff_getElem.1 h1
          have e:σ.1.getD a 0=σ.1[a]:=by rw [List.getD_eq_getElem?_getD,List.getElem?_eq_getElem ha]; rfl
          have h3:=h.clo a (by omega) ha j (by rw [e]; exact hj)
          rw [e] at h3
          exact ⟨h3.1,by omega⟩
      have hr:=h.f.ok.rng i hm.1
      have:=(h.f.there i.toNat (by omega)).2 (by rw [show ((i.toNat:Nat):Int)=i from by omega]; exact hm.1)
      exact ⟨hr.1,hr.2,this,hm.2⟩
  induction f with
  | zero =>
    intro k σ hk h
    have:=h.f.ok.len
    exact ⟨rfl,fin k σ (by omega) h⟩
  | succ f ih =>
    intro k σ hk h
    unfold fnd bfs
    split
    · rename_i hlt
      have hn:=h.next hg hlt
      obtain ⟨h1,h2⟩:=ih (k + 1) _ (by omega) hn
      refine ⟨?_,h2⟩
      rw [h1]
      have hi:=h.idx k hlt
      have hll:=h.f.ok.len
      have hxm:=getD_mem hlt
      have hr:=h.f.ok.rng _ hxm
      have hnn:=(h.f.there (σ.1.getD k 0).toNat (by omega)).2 (by rw [show (((σ.1.getD k 0).toNat:Nat):Int)=σ.1.getD k 0 from by omega]; exact hxm)
      rw [(FOk.tkAll (by omega) _ h.f (fieldsI_ok hg _)).2]
    · rename_i hlt
      exact ⟨rfl,fin k σ (by omega) h⟩
theorem fndAll_eq {gs:List (List Val)} {vs:List Val} (hg:∀ fs ∈ gs,ValsOk gs.length fs) (hv:ValsOk gs.length vs):(fndAll gs vs).1=order gs vs ∧ (fndAll gs vs).2=distR gs vs:=by
  obtain ⟨h1,h2⟩:=fnd_end hg gs.length 0 _ (by omega) (FI.begin hv)
  refine ⟨?_,h2.uniq (distR_ok hg hv)⟩
  unfold fndAll
  rw [h1,(FOk.tkAll (by omega) vs (FOk.zero gs.length) hv).2]
  rfl
end Go.Proofs.YtjphckfbbiehdaaGreat
