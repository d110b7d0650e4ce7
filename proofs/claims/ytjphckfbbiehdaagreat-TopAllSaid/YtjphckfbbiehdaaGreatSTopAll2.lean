/- Part of a proof. -/
import Derived.Test.YtjphckfbbiehdaaGreatSTopAll1
import Derived.Deep.RegionHeld3
import Derived.Deep.OwnRows
set_option linter.unusedSimpArgs false
set_option linter.unusedVariables false
namespace Go.Proofs.YtjphckfbbiehdaaGreat
open Go.RowKit
structure GraphRd (w:World) (D:Nat → Prop) (v:Value) (fss:List (List Val)) (roots:List Val):Prop where
  ex:∃ AO nO cO AR nR cR obs,v=.agg #[.slice AO nO cO,.slice AR nR cR] ∧ ObsRd w D AO nO obs ∧ obs.map Ob.fields=fss ∧ Rd w D 2 AR nR (vals roots)
theorem sObj:SliceT Tryz.prog 22 83 1 24:=SliceT.mk_ Tryz.underlying22 (z:=.agg #[.slice none 0 0]) (by kernel_rfl) rfl (by omega)
def obI (o:Ob):Item:=rowI 63 2 o.A o.n o.c (vals o.fields)
theorem obs_read {W w:World} {items:List Item} {AO:Option Addr} {n c:Nat} {obs:List Ob} (h:Sep No W w items) (hs:∀ o ∈ obs,obI o ∈ items) (k:Nat) (hk:items[k]?=some (rowI 83 1 AO n c (obs.map Ob.val))) :
    ObsRd w (fun g => W.heap.size ≤ g) AO n obs :=
  ⟨h.rd k hk,fun o ho => by
    obtain ⟨j,hj⟩:=List.mem_iff_getElem?.1 (hs o ho)
    exact h.rd j hj⟩
end Go.Proofs.YtjphckfbbiehdaaGreat

namespace Go.Proofs.YtjphckfbbiehdaaGreat
theorem nodup_sum {α:Type} [DecidableEq α] (f:α → Nat) (l m:List α) (hn:l.Nodup) (hs:∀ x ∈ l,x ∈ m):(l.map f).sum ≤ (m.map f).sum:=by
  induction l generalizing m with
  | nil => simp
  | cons a l ih =>
    obtain ⟨h1,h2⟩:=List.nodup_cons.1 hn
    have hp:=((List.perm_cons_erase (hs a (by simp))).map f).sum_nat
    have h3:=ih (m.erase a) h2 (fun x hx => (List.mem_erase_of_ne (by rintro rfl; exact h1 hx)).2 (hs x (by simp [hx])))
    simp only [List.map_cons,List.sum_cons] at hp ⊢
    omega
theorem nodup_len (l:List Int) (n:Nat) (hn:l.Nodup) (hs:∀ x ∈ l,0 ≤ x ∧ x < (n:Int)):l.length ≤ n:=by
  have h:=nodup_sum (fun _ => 1) l ((List.range n).map Int.ofNat) hn (fun x hx => by
    obtain ⟨a,b⟩:=hs x hx
    exact List.mem_map.2 ⟨x.toNat,List.mem_range.2 (by omega),by show ((x.toNat:Nat):Int)=x; omega⟩)
  have e:∀ m:List Int,(m.map (fun _ => 1)).sum=m.length:=fun m => by
    induction m with
    | nil => rfl
    | cons a m ih => simp only [List.map_cons,List.sum_cons,List.length_cons,ih]; omega
  rw [e,e] at h
  simpa using h
def seen1 (l:List Int) (v:Val):List Int:=if v.1=true ∧ v.2 ∉ l then l ++ [v.2] else l
def seenAll (l:List Int) (vs:List Val):List Int:=vs.foldl seen1 l
def fieldsI (gs:List (List Val)) (x:Int):List Val:=gs.getD x.toNat []
def bfs (gs:List (List Val)):Nat → Nat → List Int → List Int
  | 0,_,l => l
  | f + 1,k,l => if k < l.length then bfs gs f (k + 1) (seenAll l (fieldsI gs (l.getD k 0))) else l
def order (gs:List (List Val)) (vs:List Val):List Int:=bfs gs gs.length 0 (seenAll [] vs)
def ValsOk (n:Nat) (vs:List Val):Prop:=∀ v ∈ vs,v.1=true → 0 ≤ v.2 ∧ v.2 < (n:Int)
structure OrdOk (n:Nat) (l:List Int):Prop where
  nodup:l.Nodup
  rng:∀ x ∈ l,0 ≤ x ∧ x < (n:Int)
theorem OrdOk.len {n:Nat} {l:List Int} (h:OrdOk n l):l.length ≤ n:=nodup_len l n h.nodup h.rng
theorem OrdOk.nil (n:Nat):OrdOk n []:=⟨List.nodup_nil,by simp⟩
theorem OrdOk.seen1 {n:Nat} {l:List Int} (h:OrdOk n l) {v:Val} (hv:v.1=true → 0 ≤ v.2 ∧ v.2 < (n:Int)):OrdOk n (seen1 l v):=by
  unfold Go.Proofs.YtjphckfbbiehdaaGreat.seen1
  split
  · rename_i hc
    refine ⟨List.nodup_append.2 ⟨h.nodup,by simp,fun a ha b hb => by simp at hb; subst hb; rintro rfl; exact hc.2 ha⟩,fun x hx => ?_⟩
    rcases List.mem_append.1 hx with h1 | h1
    · exact h.rng x h1
    · simp at h1; subst h1; exact hv hc.1
  · exact h
theorem OrdOk.seenAll {n:Nat} {l:List Int} (h:OrdOk n l) {vs:List Val} (hv:ValsOk n vs):OrdOk n (seenAll l vs):=by
  unfold Go.Proofs.YtjphckfbbiehdaaGreat.seenAll
  induction vs generalizing l with
  | nil => exact h
  | cons a vs ih => exact ih (h.seen1 (hv a (by simp))) (fun v hv' => hv v (by simp [hv']))
theorem fieldsI_ok {gs:List (List Val)} {n:Nat} (hg:∀ fs ∈ gs,ValsOk n fs) (x:Int):ValsOk n (fieldsI gs x):=by
  unfold fieldsI
  rw [List.getD_eq_getElem?_getD]
  cases h:gs[x.toNat]? with
  | none => intro v hv; simp at hv
  | some fs => exact hg fs (List.mem_of_getElem? h)
theorem OrdOk.bfs {gs:List (List Val)} {n:Nat} (hg:∀ fs ∈ gs,ValsOk n fs) (f:Nat) {k:Nat} {l:List Int} (h:OrdOk n l):OrdOk n (bfs gs f k l):=by
  induction f generalizing k l with
  | zero => exact h
  | succ f ih =>
    unfold Go.Proofs.YtjphckfbbiehdaaGreat.bfs
    split
    · exact ih (h.seenAll (fieldsI_ok hg _))
    · exact h
theorem seen1_pre (l:List Int) (v:Val):l <+: seen1 l v:=by
  unfold seen1
  split
  · exact List.prefix_append _ _
  · exact List.prefix_refl _
theorem seenAll_pre (l:List Int) (vs:List Val):l <+: seenAll l vs:=by
  unfold seenAll
  induction vs generalizing l with
  | nil => exact List.prefix_refl _
  | cons a vs ih => exact (seen1_pre l a).trans (ih _)
theorem order_ok {gs:List (List Val)} {vs:List Val} (hg:∀ fs ∈ gs,ValsOk gs.length fs) (hv:ValsOk gs.length vs):OrdOk gs.length (order gs vs):=((OrdOk.nil _).seenAll hv).bfs hg _
end Go.Proofs.YtjphckfbbiehdaaGreat

namespace Go.Proofs.YtjphckfbbiehdaaGreat
open Go.RowKit
def placeN (l:List Int) (x:Int):Nat:=if x ∈ l then l.idxOf x else 0
def turnL (l:List Int) (v:Val):Val:=if v.1=true then (true,(placeN l v.2:Int)) else v
end Go.Proofs.YtjphckfbbiehdaaGreat

namespace Go.Proofs.YtjphckfbbiehdaaGreat
open Go.RowKit
theorem ints_snoc_ (l:List Int) (x:Int):ints (l ++ [x])=ints l ++ [.int .i64 x]:=by simp [ints]
theorem seenAll_cons (l:List Int) (v:Val) (vs:List Val):seenAll l (v :: vs)=seenAll (seen1 l v) vs:=rfl
theorem int_nat {x:Int} (h:0 ≤ x):∃ j:Nat,x=(j:Int):=⟨x.toNat,by omega⟩
end Go.Proofs.YtjphckfbbiehdaaGreat

namespace Go.Proofs.YtjphckfbbiehdaaGreat
open Go.RowKit
def renumF (fss:List (List Val)) (l:List Int):List (List Val):=l.map fun x => (fieldsI fss x).map (turnL l)
theorem renumF_take (fss:List (List Val)) (l:List Int) (k:Nat) (h:k < l.length):(renumF fss l).take (k + 1)=(renumF fss l).take k ++ [(fieldsI fss l[k]).map (turnL l)]:=by
  have h2:k < (renumF fss l).length:=by unfold renumF; rw [List.length_map]; exact h
  rw [List.take_succ_eq_append_getElem h2]
  simp [renumF]
theorem obs_snoc_ (l:List Ob) (o:Ob):(l ++ [o]).map Ob.val=l.map Ob.val ++ [Value.slice o.A o.n o.c]:=by simp [Ob.val]
end Go.Proofs.YtjphckfbbiehdaaGreat

namespace Go.Proofs.YtjphckfbbiehdaaGreat
open Go.RowKit
structure Po where
  B:Nat
  o:Ob
def poI (p:Po):Item:=allI [blkI p.B 83 #[.slice p.o.A p.o.n p.o.c],obI p.o]
def mcCells (regs:List Val) (f:Value):Array Value:=(vals regs ++ [f]).toArray
structure Idl where
  As:Option Addr
  c:Nat
  ps:List Po
  regs:List Val
abbrev idF (Be:Nat):Value:=.iface 55 (.pointer (some ⟨Be,0,none⟩))
def idL (Bm Be:Nat) (s:Idl):List Item :=
  blkI Bm 70 (mcCells s.regs (idF Be)) :: blkI Be 60 #[.slice s.As s.ps.length s.c] :: rowI 84 1 s.As s.ps.length s.c (s.ps.map fun p => .pointer (some ⟨p.B,0,none⟩)) :: s.ps.map poI
def idI (Bm Be:Nat) (s:Idl):Item:=allI (idL Bm Be s)
theorem vals_app (a b:List Val):vals (a ++ b)=vals a ++ vals b:=by simp [vals]
theorem vals_set2 (l:List Val) (j:Nat) (b:Bool) (m:Int):((vals l).set (j * 2) (.bool b)).set (j * 2 + 1) (.int .i64 m)=vals (l.set j (b,m)):=by
  unfold vals
  induction l generalizing j with
  | nil => rfl
  | cons a l ih =>
    cases j with
    | zero => rfl
    | succ j =>
      rw [List.flatMap_cons,show (j + 1) * 2=j * 2 + 1 + 1 from by omega,show j * 2 + 1 + 1 + 1=(j * 2 + 1) + 1 + 1 from by omega]
      simp only [List.cons_append,List.nil_append,List.set_cons_succ,List.flatMap_cons]
      rw [ih]
theorem mc_reg {regs:List Val} {f:Value} {r:Nat} (h:r < regs.length):(mcCells regs f)[r * 2]?=some (.bool regs[r].1) ∧ (mcCells regs f)[r * 2 + 1]?=some (.int .i64 regs[r].2):=by
  obtain ⟨v0,v1⟩:=vals_at regs r h
  have hl:=vals_length regs
  unfold mcCells
  simp only [List.getElem?_toArray]
  refine ⟨(List.getElem?_append_left (by omega)).trans v0,(List.getElem?_append_left (by omega)).trans v1⟩
theorem mc_if {regs:List Val} {f:Value} (h:regs.length=8):(mcCells regs f)[16]?=some f:=by
  have hl:=vals_length regs
  unfold mcCells
  simp only [List.getElem?_toArray]
  rw [List.getElem?_append_right (by omega)]
  simp [hl,h]
theorem mc_set {regs:List Val} {f:Value} {r:Nat} (h:r < regs.length) (v:Val):((mcCells regs f).setIfInBounds (r * 2) (.bool v.1)).setIfInBounds (r * 2 + 1) (.int .i64 v.2)=mcCells (regs.set r v) f:=by
  have hl:=vals_length regs
  unfold mcCells
  rw [List.setIfInBounds_toArray,List.setIfInBounds_toArray,List.set_append_left _ _ (by omega),List.set_append_left _ _ (by rw [List.length_set]; omega),vals_set2]
set_option maxHeartbeats 400000 in
theorem hold_any (w:World) (p:Value) (r:Int) (v:Val):Calls Tryz.prog 104 #[p,.int .i64 r,.agg #[.bool v.1,.int .i64 v.2]] w fun e w' => (∃ u,e=.returned u) ∧ Below w.heap.size w w':=by
  go_enter Tryz.func104,Tryz.ntmps104
  go_wp2_with fail
  go_end0
  exact ⟨⟨_,rfl⟩,(Below.refl _ w).alloc (Nat.le_refl _) _⟩
theorem meth_hold (x:Value) (w:World):(method 303 55 x "Hold").run Tryz.prog w=.ok (104,x) w:=by kernel_rfl
theorem meth_new (Be:Nat) (w:World):(method 303 55 (.pointer (some ⟨Be,0,none⟩)) "New").run Tryz.prog w=.ok (106,.pointer (some ⟨Be,0,none⟩)) w:=by kernel_rfl
theorem recv_run (Be:Nat) (w:World):(receiverAt 57 (.var ⟨Be,0,none⟩) false none).run Tryz.prog w=((loadVar 57 ⟨Be,0,none⟩).run Tryz.prog w):=by kernel_rfl
theorem recv_load (Be:Nat) (w:World):(loadVar 57 ⟨Be,0,none⟩).run Tryz.prog w=((load ⟨Be,0,none⟩).run Tryz.prog w):=by kernel_rfl
theorem recv_cell (Be:Nat) (w:World) (v:Value) (h:w.cell? ⟨Be,0,none⟩=some v):(receiverAt 57 (.var ⟨Be,0,none⟩) false none).run Tryz.prog w=.ok v w:=by
  rw [recv_run,recv_load]
  simp [go_sem,h]
theorem meth_len0 (Be:Nat) (w:World):(method 303 55 (.pointer (some ⟨Be,0,none⟩)) "Len").run Tryz.prog w=(Sem.run Tryz.prog (do let v ← receiverAt 57 (.var ⟨Be,0,none⟩) false none; pure (105,v)) w):=by kernel_rfl
theorem meth_get0 (Be:Nat) (w:World):(method 303 55 (.pointer (some ⟨Be,0,none⟩)) "Get").run Tryz.prog w=(Sem.run Tryz.prog (do let v ← receiverAt 57 (.var ⟨Be,0,none⟩) false none; pure (103,v)) w):=by kernel_rfl
theorem meth_put0 (Be:Nat) (w:World):(method 303 55 (.pointer (some ⟨Be,0,none⟩)) "Put").run Tryz.prog w=(Sem.run Tryz.prog (do let v ← receiverAt 57 (.var ⟨Be,0,none⟩) false none; pure (107,v)) w):=by kernel_rfl
theorem meth_len (Be:Nat) (v:Value) (w:World) (h:w.cell? ⟨Be,0,none⟩=some v):(method 303 55 (.pointer (some ⟨Be,0,none⟩)) "Len").run Tryz.prog w=.ok (105,v) w:=by
  rw [meth_len0,Sem.run_bind,recv_cell Be w v h]; rfl
theorem meth_get (Be:Nat) (v:Value) (w:World) (h:w.cell? ⟨Be,0,none⟩=some v):(method 303 55 (.pointer (some ⟨Be,0,none⟩)) "Get").run Tryz.prog w=.ok (103,v) w:=by
  rw [meth_get0,Sem.run_bind,recv_cell Be w v h]; rfl
theorem meth_put (Be:Nat) (v:Value) (w:World) (h:w.cell? ⟨Be,0,none⟩=some v):(method 303 55 (.pointer (some ⟨Be,0,none⟩)) "Put").run Tryz.prog w=.ok (107,v) w:=by
  rw [meth_put0,Sem.run_bind,recv_cell Be w v h]; rfl
theorem mem_poI {Bm Be:Nat} {s:Idl} {p:Po} (hp:p ∈ s.ps):poI p ∈ idL Bm Be s:=by
  unfold idL
  simp only [List.mem_cons,List.mem_map]
  exact .inr (.inr (.inr ⟨p,hp,rfl⟩))
theorem Idl.fields_len {Bm Be:Nat} {s:Idl} {F:Nat → Prop} {W w:World} (h:Sep F W w (idL Bm Be s)) {p:Po} (hp:p ∈ s.ps):p.o.fields.length=p.o.n:=by
  have h1:=(h.all (poI p) (mem_poI hp)).1 (obI p.o) (by simp)
  have h2:(vals p.o.fields).length=p.o.n * 2:=(show w.ownsRow 0 63 2 (.slice p.o.A p.o.n p.o.c) p.o.n (vals p.o.fields) from h1).1
  rw [vals_length] at h2; omega
theorem po_at {Bm Be:Nat} {s:Idl} {F:Nat → Prop} {W w:World} {pre:List Item} (h:Sep F W w (pre ++ idL Bm Be s)) {i:Nat} (hi:i < s.ps.length) :
    ∃ (ad:Addr),s.As=some ad ∧ ad.block < w.heap.size ∧ w.cell? (ad.add i)=some (.pointer (some ⟨s.ps[i].B,0,none⟩)) ∧ w.cell? ⟨s.ps[i].B,0,none⟩=some (.slice s.ps[i].o.A s.ps[i].o.n s.ps[i].o.c) ∧ (obI s.ps[i].o).P w:=by
  have hrow:(rowI 84 1 s.As s.ps.length s.c (s.ps.map fun p => .pointer (some ⟨p.B,0,none⟩))).P w:=h.all _ (by unfold idL; simp)
  have hp:=h.all (poI s.ps[i]) (List.mem_append_right _ (mem_poI (List.getElem_mem hi)))
  obtain ⟨ad,hA,_,had,hc⟩:=(Rd.of_own (D:=fun _ => True) (show w.ownsRow 0 84 1 (.slice s.As s.ps.length s.c) s.ps.length _ from hrow) (fun _ _ => trivial)).at_ hi
  have hb:(blkI s.ps[i].B 83 #[.slice s.ps[i].o.A s.ps[i].o.n s.ps[i].o.c]).P w:=hp.1 _ (by simp)
  refine ⟨ad,hA,had,hc _ (by simp [List.getElem?_eq_getElem hi]),((show Blk w _ _ _ from hb).rules.1 0).trans rfl,hp.1 _ (by simp)⟩
set_option maxRecDepth 100000 in
set_option maxHeartbeats 4000000 in
theorem len_any {Bm Be:Nat} {s:Idl} {F:Nat → Prop} {W w:World} {pre:List Item} (h:Sep F W w (pre ++ idL Bm Be s)) (hn:s.ps.length ≤ 1000) {i:Nat} (hi:i < s.ps.length) :
    Calls Tryz.prog 105 #[.slice s.As s.ps.length s.c,.int .i64 i] w fun e w' => e=.returned (.int .i64 s.ps[i].o.n) ∧ w'=w:=by
  obtain ⟨ad,hA,had,e0,e1,_⟩:=po_at h hi
  obtain ⟨p,hp⟩:∃ p,s.ps[i]=p:=⟨_,rfl⟩
  obtain ⟨n,hn2⟩:∃ n,s.ps.length=n:=⟨_,rfl⟩
  rw [hp] at e0 e1 ⊢
  rw [hn2] at hi hn ⊢
  rw [hA]
  clear hp hn2 h
  go_enter Tryz.func105,Tryz.ntmps105
  go_wp2_with fail
  go_ret
  exact ⟨rfl,rfl⟩
theorem hraddr0 (g j:Nat):(⟨g,0,none⟩:Addr).add j=⟨g,j,none⟩:=by
  unfold Addr.add; split <;> simp_all
theorem hown_addr {w:World} {b e size n c:Nat} {A:Option Addr} {xs:List Value} (h:w.ownsRow b e size (.slice A n c) n xs) (hn:0 < n):∃ g,A=some ⟨g,0,none⟩:=by
  rcases h.2 with ⟨hv,rfl⟩ | ⟨g,cap,cur,hv,_⟩
  · injection hv with _ h2 _; omega
  · exact ⟨g,by injection hv⟩
theorem hrow_val {w:World} {n c g:Nat} {l:List Val} (h:(rowI 63 2 (some ⟨g,0,none⟩) n c (vals l)).P w) (j:Nat) (hj:j < n) (hjl:j < l.length) :
    w.cell? ⟨g,j * 2,none⟩=some (.bool l[j].1) ∧ w.cell? ⟨g,j * 2 + 1,none⟩=some (.int .i64 l[j].2) ∧ w.frozen? ⟨g,j * 2,none⟩=false ∧ w.frozen? ⟨g,j * 2 + 1,none⟩=false:=by
  have ho:w.ownsRow 0 63 2 (.slice (some ⟨g,0,none⟩) n c) n (vals l):=h
  obtain ⟨fd,hA,_,_,hc3,hd3⟩:=(Rd.of_own (D:=fun _ => True) ho (fun _ _ => trivial)).atN hj
  obtain rfl:(⟨g,0,none⟩:Addr)=fd:=by injection hA
  obtain ⟨v0,v1⟩:=vals_at l j hjl
  have e2:=hc3 _ v0
  have e3:=hd3 0 _ v1
  rw [hraddr0] at e2 e3
  exact ⟨e2,e3,ho.frozenAt _,ho.frozenAt _⟩
set_option maxRecDepth 100000 in
set_option maxHeartbeats 4000000 in
theorem get_any {Bm Be:Nat} {s:Idl} {F:Nat → Prop} {W w:World} {pre:List Item} (h:Sep F W w (pre ++ idL Bm Be s)) (hn:s.ps.length ≤ 1000) {i k:Nat} (hi:i < s.ps.length) (hk:k < s.ps[i].o.fields.length) (hkn:k < s.ps[i].o.n) (h4:s.ps[i].o.n ≤ 4) :
    Calls Tryz.prog 103 #[.slice s.As s.ps.length s.c,.int .i64 i,.int .i64 k] w fun e w' => e=.returned (.agg #[.bool s.ps[i].o.fields[k].1,.int .i64 s.ps[i].o.fields[k].2]) ∧ Below w.heap.size w w':=by
  have hS1:=h.alloc (.cells #[.bool false,.int .i64 0] 63)
  have hB0:Below w.heap.size w (w.alloc (.cells #[.bool false,.int .i64 0] 63)):=(Below.refl _ w).alloc (Nat.le_refl _) _
  obtain ⟨ad,hA,had,e0,e1,hob⟩:=po_at hS1 hi
  obtain ⟨g,hA2⟩:=hown_addr (show (w.alloc (.cells #[.bool false,.int .i64 0] 63)).ownsRow 0 63 2 (.slice s.ps[i].o.A s.ps[i].o.n s.ps[i].o.c) s.ps[i].o.n (vals s.ps[i].o.fields) from hob) (by omega)
  have hob2:(rowI 63 2 (some ⟨g,0,none⟩) s.ps[i].o.n s.ps[i].o.c (vals s.ps[i].o.fields)).P (w.alloc (.cells #[.bool false,.int .i64 0] 63)):=by rw [← hA2]; exact hob
  obtain ⟨e2,e3,_,_⟩:=hrow_val hob2 k hkn hk
  obtain ⟨v,hv⟩:∃ v,s.ps[i].o.fields[k]=v:=⟨_,rfl⟩
  rw [hv] at e2 e3 ⊢
  rw [hA2] at e1
  obtain ⟨B,hB⟩:∃ p,s.ps[i].B=p:=⟨_,rfl⟩
  obtain ⟨m,hm⟩:∃ p,s.ps[i].o.n=p:=⟨_,rfl⟩
  obtain ⟨c,hc⟩:∃ p,s.ps[i].o.c=p:=⟨_,rfl⟩
  obtain ⟨n,hn2⟩:∃ n,s.ps.length=n:=⟨_,rfl⟩
  rw [hB] at e0 e1
  rw [hm] at e1 hkn h4
  rw [hc] at e1
  rw [hn2] at hi hn ⊢
  rw [hA]
  have HB0:=hide hB0
  clear hv hB hm hc hn2 hob hob2 hk h hS1 hB0
  obtain ⟨bv,mv⟩:=v
  dsimp only at e2 e3 ⊢
  go_enter Tryz.func103,Tryz.ntmps103
  go_wp2_with fail
  refine bodyPost_ret (v:=.agg #[.bool bv,.int .i64 mv]) (by simp [results,Tryz.results103,go_sem]) rfl ⟨rfl,(Below.refl _ w).alloc (Nat.le_refl _) _⟩
end Go.Proofs.YtjphckfbbiehdaaGreat

namespace Go.Proofs.YtjphckfbbiehdaaGreat
open Go.RowKit
def Po.put (p:Po) (k:Nat) (v:Val):Po:=⟨p.B,⟨p.o.A,p.o.n,p.o.c,p.o.fields.set k v⟩⟩
def Idl.put (s:Idl) (i k:Nat) (v:Val) (h:i < s.ps.length):Idl:={ s with ps:=s.ps.set i (s.ps[i].put k v) }
theorem ptrs_put (l:List Po) (i k:Nat) (v:Val) (h:i < l.length):((l.set i (l[i].put k v)).map fun p => Value.pointer (some ⟨p.B,0,none⟩))=l.map fun p => Value.pointer (some ⟨p.B,0,none⟩):=by
  rw [List.map_set]
  refine List.ext_getElem (by simp) fun j h1 h2 => ?_
  rw [List.getElem_set]
  split
  · rename_i e; subst e; simp [Po.put]
  · rfl
set_option maxRecDepth 100000 in
set_option maxHeartbeats 8000000 in
theorem put_any {Bm Be:Nat} {s:Idl} {w:World} (hP:(idI Bm Be s).P w) (hn:s.ps.length ≤ 1000) {i k:Nat} (v:Val) (hi:i < s.ps.length) (hk:k < s.ps[i].o.fields.length) (hkn:k < s.ps[i].o.n) (h4:s.ps[i].o.n ≤ 4) :
    Calls Tryz.prog 107 #[.slice s.As s.ps.length s.c,.int .i64 i,.int .i64 k,.agg #[.bool v.1,.int .i64 v.2]] w fun e w' => (∃ u,e=.returned u) ∧ Sep (idI Bm Be s).fp w w' [idI Bm Be (s.put i k v hi)]:=by
  obtain ⟨F,hF⟩:∃ F,(idI Bm Be s).fp=F:=⟨_,rfl⟩
  have hS0:Sep (idI Bm Be s).fp w (w.alloc (.cells #[.bool v.1,.int .i64 v.2] 63)) ([blkI w.heap.size 63 #[.bool v.1,.int .i64 v.2]] ++ idL Bm Be s):=((Sep.start hP).flat.blkAt 63 #[.bool v.1,.int .i64 v.2] (g:=w.heap.size) rfl).perm List.perm_append_comm
  rw [hF] at hS0 ⊢
  obtain ⟨ad,hA,had,e0,e1,hob⟩:=po_at hS0 hi
  have hS00:Sep F w (w.alloc (.cells #[.bool v.1,.int .i64 v.2] 63)) ([blkI w.heap.size 63 #[.bool v.1,.int .i64 v.2],blkI Bm 70 (mcCells s.regs (idF Be)),blkI Be 60 #[.slice s.As s.ps.length s.c],rowI 84 1 s.As s.ps.length s.c (s.ps.map fun p => .pointer (some ⟨p.B,0,none⟩))] ++ s.ps.map poI):=hS0
  have hS1:=hS00.focus (j:=i) (t:=s.ps[i]) (List.getElem?_eq_getElem hi)
  have hS2:=hS1.split (l:=[blkI s.ps[i].B 83 #[.slice s.ps[i].o.A s.ps[i].o.n s.ps[i].o.c],obI s.ps[i].o])
  obtain ⟨ga,hga⟩:=hown_addr (show (w.alloc (.cells #[.bool v.1,.int .i64 v.2] 63)).ownsRow 0 84 1 (.slice s.As s.ps.length s.c) s.ps.length _ from hS2.get 5 rfl) (by omega)
  obtain ⟨g2,hg2⟩:=hown_addr (show (w.alloc (.cells #[.bool v.1,.int .i64 v.2] 63)).ownsRow 0 63 2 (.slice s.ps[i].o.A s.ps[i].o.n s.ps[i].o.c) s.ps[i].o.n (vals s.ps[i].o.fields) from hob) (by omega)
  have hob2:(rowI 63 2 (some ⟨g2,0,none⟩) s.ps[i].o.n s.ps[i].o.c (vals s.ps[i].o.fields)).P (w.alloc (.cells #[.bool v.1,.int .i64 v.2] 63)):=by rw [← hg2]; exact hob
  obtain ⟨f1,f2,f3,f4⟩:=hrow_val hob2 k hkn hk
  have hfp2:(obI s.ps[i].o).fp g2:=by show (Value.slice s.ps[i].o.A s.ps[i].o.n s.ps[i].o.c).ownBlock=some g2; rw [hg2]; rfl
  have hne1:g2 ≠ s.ps[i].B:=fun e => hS2.other (a:=1) (b:=0) rfl rfl (by omega) g2 hfp2 e
  have hne2:g2 ≠ w.heap.size:=fun e => hS2.other (a:=1) (b:=2) rfl rfl (by omega) g2 hfp2 e
  have hne3:g2 ≠ ga:=fun e => hS2.other (a:=1) (b:=5) rfl rfl (by omega) g2 hfp2 (by show (Value.slice s.As s.ps.length s.c).ownBlock=some g2; rw [hga,e]; rfl)
  have hsz:g2 < (w.alloc (.cells #[.bool v.1,.int .i64 v.2] 63)).heap.size:=hS2.hi 1 rfl g2 hfp2
  obtain ⟨x1,x2,_,_⟩:=hS2.rules 2 (g:=w.heap.size) (t:=63) rfl
  have x5:=(x1 0).trans (show _=some (.bool v.1) from rfl)
  have x6:=(x1 1).trans (show _=some (.int .i64 v.2) from rfl)
  have HS2:=hide hS2
  have HPT:=hide (ptrs_put s.ps i k v hi)
  have HFIN:=hide (fun (X:World) (h:Sep F w X (poI (s.ps[i].put k v) :: ([blkI w.heap.size 63 #[.bool v.1,.int .i64 v.2],blkI Bm 70 (mcCells s.regs (idF Be)),blkI Be 60 #[.slice s.As s.ps.length s.c],rowI 84 1 s.As s.ps.length s.c (s.ps.map fun p => .pointer (some ⟨p.B,0,none⟩))] ++ (s.ps.eraseIdx i).map poI))) =>
    (show Sep F w X [idI Bm Be (s.put i k v hi)] from by
      have h1:=(h.unfocus (l:=s.ps) (j:=i) hi).sub (l:=blkI Bm 70 (mcCells s.regs (idF Be)) :: blkI Be 60 #[.slice s.As s.ps.length s.c] :: rowI 84 1 s.As s.ps.length s.c (s.ps.map fun p => .pointer (some ⟨p.B,0,none⟩)) :: (s.ps.set i (s.ps[i].put k v)).map poI) (.cons _ (List.Sublist.refl _))
      refine Sep.fold (l:=idL Bm Be (s.put i k v hi)) ?_
      unfold idL Idl.put
      dsimp only
      rw [ptrs_put s.ps i k v hi,List.length_set]
      exact h1))
  have HST:=hide (fun (X:World) (h:Sep F w X (blkI s.ps[i].B 83 #[.slice s.ps[i].o.A s.ps[i].o.n s.ps[i].o.c] :: obI s.ps[i].o :: ([blkI w.heap.size 63 #[.bool v.1,.int .i64 v.2],blkI Bm 70 (mcCells s.regs (idF Be)),blkI Be 60 #[.slice s.As s.ps.length s.c],rowI 84 1 s.As s.ps.length s.c (s.ps.map fun p => .pointer (some ⟨p.B,0,none⟩))] ++ (s.ps.eraseIdx i).map poI))) =>
    (show Sep F w ((X.setCell ⟨g2,k * 2,none⟩ (.bool v.1)).setCell ⟨g2,k * 2 + 1,none⟩ (.int .i64 v.2)) (poI (s.ps[i].put k v) :: ([blkI w.heap.size 63 #[.bool v.1,.int .i64 v.2],blkI Bm 70 (mcCells s.regs (idF Be)),blkI Be 60 #[.slice s.As s.ps.length s.c],rowI 84 1 s.As s.ps.length s.c (s.ps.map fun p => .pointer (some ⟨p.B,0,none⟩))] ++ (s.ps.eraseIdx i).map poI)) from by
      have he:obI s.ps[i].o=rowI 63 2 (some ⟨g2,0,none⟩) s.ps[i].o.n s.ps[i].o.c (vals s.ps[i].o.fields):=by unfold obI; rw [hg2]
      rw [he] at h
      have h2:=(h.store 1 (g:=g2) rfl (k * 2) (.bool v.1)).store 1 (g:=g2) rfl (k * 2 + 1) (.int .i64 v.2)
      simp only [List.set_cons_succ,List.set_cons_zero,vals_set2] at h2
      refine Sep.join (l:=[blkI s.ps[i].B 83 #[.slice s.ps[i].o.A s.ps[i].o.n s.ps[i].o.c],obI (s.ps[i].put k v).o]) ?_
      have he2:obI (s.ps[i].put k v).o=rowI 63 2 (some ⟨g2,0,none⟩) s.ps[i].o.n s.ps[i].o.c (vals (s.ps[i].o.fields.set k (v.1,v.2))):=by unfold obI Po.put; dsimp only; rw [hg2]
      rw [he2]
      exact h2))
  obtain ⟨B,hB⟩:∃ p,s.ps[i].B=p:=⟨_,rfl⟩
  obtain ⟨m,hm⟩:∃ p,s.ps[i].o.n=p:=⟨_,rfl⟩
  obtain ⟨c,hc⟩:∃ p,s.ps[i].o.c=p:=⟨_,rfl⟩
  obtain ⟨n,hn2⟩:∃ n,s.ps.length=n:=⟨_,rfl⟩
  obtain ⟨bv,mv⟩:=v
  obtain rfl:ad=⟨ga,0,none⟩:=by rw [hga] at hA; injection hA with hA; exact hA.symm
  rw [hraddr0] at e0
  rw [hB] at e0 e1 hne1
  rw [hg2,hm,hc] at e1
  rw [hm] at hkn h4
  rw [hA]
  have hin:i < n:=by rw [← hn2]; exact hi
  rw [hn2] at hn ⊢
  dsimp only at x5 x6 HS2 HFIN HST f1 f2 ⊢
  obtain ⟨W,hW⟩:∃ W,w.alloc (.cells #[.bool bv,.int .i64 mv] 63)=W:=⟨_,rfl⟩
  rw [hW] at e0 e1 f1 f2 f3 f4 hsz x2 x5 x6 HS2
  obtain ⟨gb,hgb⟩:∃ g,w.heap.size=g:=⟨_,rfl⟩
  have HGB:=hide hgb
  have HW:=hide hW
  rw [hgb] at hne2 x2 x5 x6
  clear hS0 hS00 hS1 hS2 hob hob2 hP hB hm hc hn2 x1 hF hfp2 hgb hW hA hg2 hga
  go_enter Tryz.func107,Tryz.ntmps107
  go_wp2_with fail
  rw [HW.out]
  rw [HGB.out]
  have hne4:ga ≠ g2:=fun e => hne3 e.symm
  have hne5:B ≠ g2:=fun e => hne1 e.symm
  have hne6:gb ≠ g2:=fun e => hne2 e.symm
  go_region_held3 (fun w' => w'.cell? ⟨ga,i,none⟩=some (.pointer (some ⟨B,0,none⟩)) ∧ w'.cell? ⟨B,0,none⟩=some (.slice (some ⟨g2,0,none⟩) m c) ∧ w'.cell? ⟨gb,0,none⟩=some (.bool bv) ∧ w'.cell? ⟨gb,1,none⟩=some (.int .i64 mv)) (go_keep) (fail)
  all_goals
    go_end0
    exact ⟨⟨_,rfl⟩,HFIN.out _ (HST.out _ HS2.out.drew)⟩
end Go.Proofs.YtjphckfbbiehdaaGreat

namespace Go.Proofs.YtjphckfbbiehdaaGreat
open Go.RowKit
theorem hrow_of_blk {w:World} {g t size n:Nat} {cs:Array Value} (h:Blk w g t cs) (hs:cs.size=n * size) (hm:n ≤ maxLen):(rowI t size (some ⟨g,0,none⟩) n n cs.toList).P w :=
  ⟨by rw [Array.length_toList,hs],.inr ⟨g,n,cs,rfl,Nat.zero_le _,h,Nat.le_refl _,hm,hs,by rw [List.take_of_length_le (by rw [Array.length_toList]; omega)]⟩⟩
def zeroVs (n:Nat):List Val:=List.replicate n (false,0)
theorem hval_info:(Tryz.prog.info? 63).map (fun i => (i.zero,i.size,i.bytes))=some (some (.agg #[.bool false,.int .i64 0]),2,16):=by kernel_rfl
theorem hmade (n:Nat) (hn:n ≤ 4):madeCells #[.bool false,.int .i64 0] (n * 2)=(vals (zeroVs n)).toArray:=by
  rcases (show n=0 ∨ n=1 ∨ n=2 ∨ n=3 ∨ n=4 from by omega) with rfl | rfl | rfl | rfl | rfl <;> (apply Array.toList_inj.1; simp [madeCells,vals,zeroVs,List.range_succ,List.replicate])
theorem hval_make (n:Nat) (hn:n ≤ 4):∀ w:World,(Instr.makeSlice 23 (.int .i64 (n:Int)) (.int .i64 (n:Int))).run Tryz.prog w=.ok (.slice (some ⟨w.heap.size,0,none⟩) n n) (w.alloc (.cells (vals (zeroVs n)).toArray 63)):=by
  intro w
  obtain ⟨i,hi,hz,hs,hb⟩:=info_parts hval_info
  have h:=run_make w 23 63 i _ Tryz.underlying23 hi hz .i64 .i64 n n (by omega) (Int.le_refl _) (by rw [hb]; omega) (by omega)
  simp only [Int.toNat_natCast,hs] at h
  rw [show (Value.agg #[.bool false,.int .i64 0]).cells=#[.bool false,.int .i64 0] from rfl,hmade n hn] at h
  exact h
theorem sPtr:SliceT Tryz.prog 57 84 1 8:=SliceT.mk_ Tryz.underlying57 (z:=.pointer none) (by kernel_rfl) rfl (by omega)
def Idl.new (s:Idl) (As:Option Addr) (c B g n:Nat):Idl:={ s with As:=As,c:=c,ps:=s.ps ++ [⟨B,⟨some ⟨g,0,none⟩,n,n,zeroVs n⟩⟩] }
set_option maxRecDepth 100000 in
set_option maxHeartbeats 8000000 in
theorem new_any {Bm Be:Nat} {s:Idl} {w:World} (hP:(idI Bm Be s).P w) (hn:s.ps.length ≤ 1000) {n:Nat} (h4:n ≤ 4) :
    Calls Tryz.prog 106 #[.pointer (some ⟨Be,0,none⟩),.int .i64 n] w fun e w' => ∃ As' c' B g,e=.returned (.tuple #[.int .i64 s.ps.length,.int .i64 0]) ∧ Sep (idI Bm Be s).fp w w' [idI Bm Be (s.new As' c' B g n)]:=by
  obtain ⟨F,hF⟩:∃ F,(idI Bm Be s).fp=F:=⟨_,rfl⟩
  have hS0:Sep F w w (idL Bm Be s):=by rw [← hF]; exact (Sep.start hP).flat
  obtain ⟨g,hg⟩:∃ g,w.heap.size=g:=⟨_,rfl⟩
  have hS1:=hS0.blkAt 63 (vals (zeroVs n)).toArray (g:=g) hg
  have hS2:Sep F w ((w.alloc (.cells (vals (zeroVs n)).toArray 63)).alloc (.cells #[.slice (some ⟨g,0,none⟩) n n] 83)) (blkI (g + 1) 83 #[.slice (some ⟨g,0,none⟩) n n] :: rowI 63 2 (some ⟨g,0,none⟩) n n (vals (zeroVs n)) :: idL Bm Be s):=by
    have h1:=hS1.perm (l:=blkI g 63 (vals (zeroVs n)).toArray :: idL Bm Be s) List.perm_append_comm
    have hb:Blk (w.alloc (.cells (vals (zeroVs n)).toArray 63)) g 63 (vals (zeroVs n)).toArray:=h1.get 0 rfl
    have hr:=hrow_of_blk (n:=n) (size:=2) hb (by have:=vals_length (zeroVs n); simp [zeroVs] at this ⊢; omega) (by unfold maxLen; omega)
    have h2:=h1.step 0 rfl (Chg.refl _ _) (rowI 63 2 (some ⟨g,0,none⟩) n n (vals (zeroVs n)).toArray.toList) hr (fun g' hg' => .inl (by
      have:g=g':=by simpa [rowI,Value.ownBlock] using hg'
      exact this.symm))
    exact (h2.blkAt 83 #[.slice (some ⟨g,0,none⟩) n n] (g:=g + 1) (by simp [hg])).perm List.perm_append_comm
  obtain ⟨c1,c2,c3,_⟩:=hS0.rules 1 (g:=Be) (t:=60) rfl
  have c5:=(c1 0).trans (show _=some (.slice s.As s.ps.length s.c) from rfl)
  have hmk:=hval_make n h4
  rw [hF]
  obtain ⟨m,hm⟩:∃ m,s.ps.length=m:=⟨_,rfl⟩
  have HM:=hide hm
  have hS3:Sep F w ((w.alloc (.cells (vals (zeroVs n)).toArray 63)).alloc (.cells #[.slice (some ⟨g,0,none⟩) n n] 83)) (blkI (g + 1) 83 #[.slice (some ⟨g,0,none⟩) n n] :: rowI 63 2 (some ⟨g,0,none⟩) n n (vals (zeroVs n)) :: blkI Bm 70 (mcCells s.regs (idF Be)) :: blkI Be 60 #[.slice s.As m s.c] :: rowI 84 1 s.As m s.c (s.ps.map fun p => .pointer (some ⟨p.B,0,none⟩)) :: s.ps.map poI):=by rw [← hm]; exact hS2
  have HS3:=hide hS3
  rw [hm] at c5 hn ⊢
  have HFIN:=hide (fun (X:World) (A':Option Addr) (c':Nat) (h:Sep F w X (blkI (g + 1) 83 #[.slice (some ⟨g,0,none⟩) n n] :: rowI 63 2 (some ⟨g,0,none⟩) n n (vals (zeroVs n)) :: blkI Bm 70 (mcCells s.regs (idF Be)) :: blkI Be 60 #[.slice A' (m + 1) c'] :: rowI 84 1 A' (m + 1) c' ((s.ps.map fun p => .pointer (some ⟨p.B,0,none⟩)) ++ [.pointer (some ⟨g + 1,0,none⟩)]) :: s.ps.map poI)) =>
    (show Sep F w X [idI Bm Be (s.new A' c' (g + 1) g n)] from by
      have h1:=(h.join (l:=[_,_])).perm (l:=blkI Bm 70 (mcCells s.regs (idF Be)) :: blkI Be 60 #[.slice A' (m + 1) c'] :: rowI 84 1 A' (m + 1) c' ((s.ps.map fun p => .pointer (some ⟨p.B,0,none⟩)) ++ [.pointer (some ⟨g + 1,0,none⟩)]) :: (s.ps.map poI ++ [poI ⟨g + 1,⟨some ⟨g,0,none⟩,n,n,zeroVs n⟩⟩])) (List.perm_append_singleton _ _).symm
      refine Sep.fold (l:=idL Bm Be (s.new A' c' (g + 1) g n)) ?_
      unfold idL Idl.new
      dsimp only
      rw [List.length_append,List.length_singleton,HM.out,List.map_append,List.map_append]
      exact h1))
  have d1:(w.alloc (.cells (vals (zeroVs n)).toArray 63)).cell? ⟨Be,0,none⟩=some (.slice s.As m s.c):=(World.cell?_alloc_lt w _ _ c3).trans c5
  have d2:((w.alloc (.cells (vals (zeroVs n)).toArray 63)).alloc (.cells #[.slice (some ⟨g,0,none⟩) n n] 83)).cell? ⟨Be,0,none⟩=some (.slice s.As m s.c):=(World.cell?_alloc_lt _ _ _ (by simp; omega)).trans d1
  have d3:(((w.alloc (.cells (vals (zeroVs n)).toArray 63)).alloc (.cells #[.slice (some ⟨g,0,none⟩) n n] 83)).alloc (.cells #[.pointer (some ⟨g + 1,0,none⟩)] 84)).cell? ⟨Be,0,none⟩=some (.slice s.As m s.c):=(World.cell?_alloc_lt _ _ _ (by simp; omega)).trans d2
  clear hS0 hS1 hS2 hS3 hP hm hF c1
  go_enter Tryz.func106,Tryz.ntmps106
  go_wp2_with fail
  go_region_law (first
    | (refine step_app1d (cs:=#[.pointer (some ⟨g + 1,0,none⟩)]) rfl (.tmp 9) (.tmp 14) 57 rfl (F:=F) (W:=w) sPtr (items:=_ :: _ :: _ :: _ :: _ :: _) HS3.out 4 (n:=m) rfl rfl rfl (by simp [hg]) rfl rfl (by omega) ?_
       intro A7 c7 w7 hS7 hC7
       obtain ⟨z1,z2,z3,z4⟩:=hS7.rules 3 (g:=Be) (t:=60) rfl
       (have z5:=(z1 0).trans (show _=some (.slice s.As m s.c) from rfl))
       clear z1 z4))
  all_goals
    have HX:=hide (HFIN.out _ _ _ (hS7.set_ 3 (g:=Be) (t:=60) rfl 0 (.slice A7 (m + 1) c7)))
    have q1:(w7.setCell ⟨Be,0,none⟩ (.slice A7 (m + 1) c7)).cell? ⟨Be,0,none⟩=some (.slice A7 (m + 1) c7):=((hS7.set_ 3 (g:=Be) (t:=60) rfl 0 (.slice A7 (m + 1) c7)).rules 3 (g:=Be) (t:=60) rfl).1 0
    clear hS7 hC7
    go_wp2_with fail
    refine bodyPost_ret (v:=.tuple #[.int .i64 m,.int .i64 0]) (by simp [results,Tryz.results106,go_sem]) rfl ⟨A7,c7,g + 1,g,rfl,HX.out⟩
end Go.Proofs.YtjphckfbbiehdaaGreat

namespace Go.Proofs.YtjphckfbbiehdaaGreat
open Go.RowKit
def Idl.set (s:Idl) (r:Nat) (v:Val):Idl:={ s with regs:=s.regs.set r v }
set_option maxRecDepth 100000 in
set_option maxHeartbeats 8000000 in
theorem mset_any {Bm Be:Nat} {s:Idl} {w:World} (hP:(idI Bm Be s).P w) (hl:s.regs.length=8) {r:Nat} (v:Val) (hr:r < 8) :
    Calls Tryz.prog 39 #[.pointer (some ⟨Bm,0,none⟩),.int .i64 r,.agg #[.bool v.1,.int .i64 v.2]] w fun e w' => (∃ u,e=.returned u) ∧ Sep (idI Bm Be s).fp w w' [idI Bm Be (s.set r v)]:=by
  obtain ⟨F,hF⟩:∃ F,(idI Bm Be s).fp=F:=⟨_,rfl⟩
  obtain ⟨g,hg⟩:∃ g,w.heap.size=g:=⟨_,rfl⟩
  have hS0:Sep F w (w.alloc (.cells #[.bool v.1,.int .i64 v.2] 63)) (blkI g 63 #[.bool v.1,.int .i64 v.2] :: idL Bm Be s):=by
    rw [← hF]
    exact ((Sep.start hP).flat.blkAt 63 #[.bool v.1,.int .i64 v.2] (g:=g) hg).perm List.perm_append_comm
  rw [hF]
  have hrl:r < s.regs.length:=by omega
  obtain ⟨m1,m2⟩:=mc_reg (f:=idF Be) hrl
  obtain ⟨y0,hy0⟩:∃ y,s.regs[r].1=y:=⟨_,rfl⟩
  obtain ⟨y1,hy1⟩:∃ y,s.regs[r].2=y:=⟨_,rfl⟩
  rw [hy0] at m1
  rw [hy1] at m2
  obtain ⟨c1,c2,c3,_⟩:=hS0.rules 1 (g:=Bm) (t:=70) rfl
  have c5:=(c1 16).trans (mc_if hl)
  obtain ⟨x1,x2,x3,_⟩:=hS0.rules 0 (g:=g) (t:=63) rfl
  have x5:=(x1 0).trans (show _=some (.bool v.1) from rfl)
  have x6:=(x1 1).trans (show _=some (.int .i64 v.2) from rfl)
  have hne1:g ≠ Bm:=fun e => hS0.other (a:=0) (b:=1) rfl rfl (by omega) g rfl (show g=Bm from e)
  have hne2:Bm ≠ g:=fun e => hne1 e.symm
  have HST:=hide (fun (X:World) (h:Sep F w X (blkI g 63 #[.bool v.1,.int .i64 v.2] :: idL Bm Be s)) =>
    (show Sep F w ((X.setCell ⟨Bm,r * 2,none⟩ (.bool v.1)).setCell ⟨Bm,r * 2 + 1,none⟩ (.int .i64 v.2)) [idI Bm Be (s.set r v)] from by
      have h2:=((h.set_ 1 (g:=Bm) (t:=70) rfl (r * 2) (.bool v.1)).set_ 1 (g:=Bm) (t:=70) rfl (r * 2 + 1) (.int .i64 v.2))
      rw [mc_set hrl v] at h2
      exact (h2.sub (l:=idL Bm Be (s.set r v)) (.cons _ (List.Sublist.refl _))).fold))
  have HRU:=hide (fun (X:World) (h:Sep F w X (blkI g 63 #[.bool v.1,.int .i64 v.2] :: idL Bm Be s)) =>
    (⟨((h.rules 0 (g:=g) (t:=63) rfl).1 0).trans rfl,((h.rules 0 (g:=g) (t:=63) rfl).1 1).trans rfl,((h.rules 1 (g:=Bm) (t:=70) rfl).1 _).trans m1,((h.rules 1 (g:=Bm) (t:=70) rfl).1 _).trans m2,(h.rules 1 (g:=Bm) (t:=70) rfl).2.1 (r * 2),(h.rules 1 (g:=Bm) (t:=70) rfl).2.1 (r * 2 + 1),(h.rules 1 (g:=Bm) (t:=70) rfl).2.2.1,((h.rules 1 (g:=Bm) (t:=70) rfl).1 16).trans (mc_if hl)⟩ :
      X.cell? ⟨g,0,none⟩=some (.bool v.1) ∧ X.cell? ⟨g,1,none⟩=some (.int .i64 v.2) ∧ X.cell? ⟨Bm,r * 2,none⟩=some (.bool y0) ∧ X.cell? ⟨Bm,r * 2 + 1,none⟩=some (.int .i64 y1) ∧ X.frozen? ⟨Bm,r * 2,none⟩=false ∧ X.frozen? ⟨Bm,r * 2 + 1,none⟩=false ∧ Bm < X.heap.size ∧ X.cell? ⟨Bm,16,none⟩=some (idF Be)))
  have HS0:=hide hS0
  have hinv:=meth_hold
  obtain ⟨W,hW⟩:∃ W,w.alloc (.cells #[.bool v.1,.int .i64 v.2] 63)=W:=⟨_,rfl⟩
  rw [hW] at HS0 c5 x5 x6
  have HW:=hide hW
  have HGG:=hide hg
  have hr2:r < 8:=hr
  have hr5:(0:Int) ≤ (r:Int):=by omega
  have hr6:(r:Int) < 8:=by omega
  have hr7:decide ((r:Int) < 0)=false:=by simp
  have hr8:decide ((8:Int) ≤ (r:Int))=false:=by simp; omega
  obtain ⟨bv,mv⟩:=v
  dsimp only at x5 x6 HST HRU HW HS0 ⊢
  clear hS0 hP hF hW hg c1 c2 c3 x1 x2 x3 m1 m2 hy0 hy1 hrl
  go_enter Tryz.func39,Tryz.ntmps39
  go_wp2_with fail
  rw [HW.out,HGG.out]
  have CH:=hide (hold_any W.drew (.pointer (some ⟨Be,0,none⟩)) r (bv,mv))
  dsimp only at CH
  go_region_held3 (fun w' => w'.cell? ⟨Bm,16,none⟩=some (idF Be) ∧ w'.cell? ⟨g,0,none⟩=some (.bool bv) ∧ w'.cell? ⟨g,1,none⟩=some (.int .i64 mv)) (go_keep)
    ((go_at_call 104; (with_reducible refine CH.out.mono ?_); rintro e w5 ⟨⟨u,rfl⟩,hb5⟩; have hS5:=HS0.out.drew.below hb5; obtain ⟨k1,k2,k3,k4,k5,k6,k7,k8⟩:=HRU.out _ hS5; have HS5:=hide hS5; clear hb5 hS5))
  all_goals
    go_wp2_with fail
    go_region_held3 (fun w' => w'.cell? ⟨g,0,none⟩=some (.bool bv) ∧ w'.cell? ⟨g,1,none⟩=some (.int .i64 mv)) (go_keep) (fail)
    all_goals
      go_end0
      exact ⟨⟨_,rfl⟩,HST.out _ HS5.out.drew⟩
set_option maxRecDepth 100000 in
set_option maxHeartbeats 8000000 in
theorem mfield_any {Bm Be:Nat} {s:Idl} {F:Nat → Prop} {W w:World} {pre:List Item} (h:Sep F W w (pre ++ idL Bm Be s)) (hl:s.regs.length=8) (hn:s.ps.length ≤ 1000) (v:Val) (at_:Int) (hv:v.1=true → 0 ≤ v.2 ∧ v.2 < (s.ps.length:Int)) :
    Calls Tryz.prog 40 #[.pointer (some ⟨Bm,0,none⟩),.agg #[.bool v.1,.int .i64 v.2],.int .i64 at_] w fun e w' => e=.returned (.int .i64 (if v.1=false then 5 else if at_ < 0 ∨ ((s.ps.map fun p => (p.o.n:Int)).getD v.2.toNat 0) ≤ at_ then 3 else 0)) ∧ Below w.heap.size w w':=by
  have hB0:Below w.heap.size w (w.alloc (.cells #[.bool v.1,.int .i64 v.2] 63)):=(Below.refl _ w).alloc (Nat.le_refl _) _
  have hS1:=h.below hB0
  have hb1:(blkI Bm 70 (mcCells s.regs (idF Be))).P (w.alloc (.cells #[.bool v.1,.int .i64 v.2] 63)):=hS1.all _ (by unfold idL; simp)
  have hb2:(blkI Be 60 #[.slice s.As s.ps.length s.c]).P (w.alloc (.cells #[.bool v.1,.int .i64 v.2] 63)):=hS1.all _ (by unfold idL; simp)
  have c5:=((show Blk _ _ _ _ from hb1).rules.1 16).trans (mc_if hl)
  have c6:=((show Blk _ _ _ _ from hb2).rules.1 0).trans (show _=some (.slice s.As s.ps.length s.c) from rfl)
  obtain ⟨bv,m⟩:=v
  dsimp only at hv ⊢
  have HB0:=hide hB0
  cases bv with
  | false =>
    rw [if_pos rfl]
    clear hB0 hS1 hb1 hb2 h
    go_enter Tryz.func40,Tryz.ntmps40
    go_wp2_with fail
    go_ret
    exact ⟨rfl,HB0.out⟩
  | true =>
    rw [if_neg (by simp)]
    obtain ⟨m0,m1⟩:=hv rfl
    obtain ⟨z,rfl⟩:=int_nat m0
    have hz:z < s.ps.length:=by omega
    have hgd:((s.ps.map fun p => (p.o.n:Int)).getD ((z:Int)).toNat 0)=(s.ps[z].o.n:Int):=by
      rw [show ((z:Int)).toNat=z from by omega,List.getD_eq_getElem?_getD]
      simp [List.getElem?_eq_getElem hz]
    rw [hgd]
    have CL:=fun k => len_any (hS1.drewN k) hn hz
    have hme:∀ k,(method 303 55 (.pointer (some ⟨Be,0,none⟩)) "Len").run Tryz.prog ((w.alloc (.cells #[.bool true,.int .i64 z] 63)).drewN k)=.ok (105,.slice s.As s.ps.length s.c) ((w.alloc (.cells #[.bool true,.int .i64 z] 63)).drewN k):=fun k => meth_len Be _ _ c6
    obtain ⟨q,hq⟩:∃ q,s.ps[z].o.n=q:=⟨_,rfl⟩
    simp only [hq] at CL
    rw [hq]
    replace CL:=hide (fun k => Calls.quiet_of_same (v:=.int .i64 q) (CL k))
    clear hgd hB0 hS1 hb1 hb2 h m0 m1 hq hv
    by_cases h0:at_ < 0
    · have t1:decide (at_ < 0)=true:=by simp [h0]
      rw [if_pos (.inl h0)]
      go_enter Tryz.func40,Tryz.ntmps40
      go_wp2_with fail
      go_quiet (fail)
      go_wp2_with fail
      go_ret
      exact ⟨rfl,below_drewN HB0.out _⟩
    · have t1:decide (at_ < 0)=false:=by simp only [h0,decide_false]
      by_cases h1:(q:Int) ≤ at_
      · have t2:decide ((q:Int) ≤ at_)=true:=by simp [h1]
        rw [if_pos (.inr h1)]
        go_enter Tryz.func40,Tryz.ntmps40
        go_wp2_with fail
        go_quiet ((go_at_call 105; with_reducible exact CL.out _))
        go_wp2_with fail
        go_ret
        exact ⟨rfl,below_drewN HB0.out _⟩
      · have t2:decide ((q:Int) ≤ at_)=false:=by simp only [h1,decide_false]
        rw [if_neg (fun h => h.elim h0 h1)]
        go_enter Tryz.func40,Tryz.ntmps40
        go_wp2_with fail
        go_quiet ((go_at_call 105; with_reducible exact CL.out _))
        go_wp2_with fail
        go_ret
        exact ⟨rfl,below_drewN HB0.out _⟩
end Go.Proofs.YtjphckfbbiehdaaGreat
