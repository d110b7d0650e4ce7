/- Part of a proof. -/
import Derived.Maps.OwnOps
import Derived.Maps.OwnSet
import Derived.Test.YtjphckfbbiehdaaGreatSTopAll20
import Derived.Test.YtjphckfbbiehdaaGreatSTopAll27
import Derived.Deep.AppendSrc
import Derived.Test.YtjphckfbbiehdaaGreatSTopAll0
import Derived.StillTailTactics
import Derived.Test.YtjphckfbbiehdaaGreatSTopAll9
import Derived.Test.YtjphckfbbiehdaaGreatSTopAll23
import Derived.Test.YtjphckfbbiehdaaGreatSTopAll25
import Derived.Deep.RegionHeld3
set_option linter.unusedSimpArgs false
set_option linter.unusedVariables false
namespace Go.Proofs.YtjphckfbbiehdaaGreat
open Go.RowKit Go.Maps
def slV (g n:Nat):Value:=.slice (some ⟨g,0,none⟩) n n
def slD (g n:Nat):DataW Unit:=.agg [.lit (.int .i64 (g:Int)),.lit (.int .i64 (n:Int))]
def slZ:DataW Unit:=.agg []
def slE:Value → Option (DataW Unit × List MemPlace)
  | .slice none 0 0 => some (slZ,[])
  | .slice (some a) n c => if a=⟨a.block,0,none⟩ ∧ n=c then some (slD a.block n,[]) else none
  | _ => none
theorem slE_mk (g n:Nat):slE (slV g n)=some (slD g n,[]):=by
  show (if (⟨g,0,none⟩:Addr)=⟨g,0,none⟩ ∧ n=n then _ else _)=_
  rw [if_pos ⟨rfl,rfl⟩]
theorem slE_nil:slE (.slice none 0 0)=some (slZ,[]):=rfl
theorem slE_inv {v:Value} {g n:Nat} {ps:List MemPlace} (h:slE v=some (slD g n,ps)):v=slV g n:=by
  unfold slE at h
  split at h
  · injection h with h; injection h with h1 _; cases h1
  · rename_i a n' c
    split at h
    · rename_i hc
      injection h with h
      injection h with h1 _
      unfold slD at h1
      injection h1 with h1
      injection h1 with h2 h3
      injection h3 with h3 _
      injection h2 with h2; injection h2 with _ h2
      injection h3 with h3; injection h3 with _ h3
      have e1:a.block=g:=by omega
      have e2:n'=n:=by omega
      unfold slV
      rw [hc.1,e1,← hc.2,e2]
    · cases h
  · cases h
theorem slE_inv0 {v:Value} {ps:List MemPlace} (h:slE v=some (slZ,ps)):v=.slice none 0 0:=by
  unfold slE at h
  split at h
  · rfl
  · split at h
    · injection h with h; injection h with h1 _; cases h1
    · cases h
  · cases h
theorem zeroSl (w:World):(zeroValue 23).run Tryz.prog w=.ok (.slice none 0 0) w:=by kernel_rfl
structure Cp where
  i:Nat
  g:Nat
  fs:List Val
def mkC (l:List Cp):DataW Unit:=l.foldl (fun D c => D.put (.int .i64 (c.i:Int)) (slD c.g c.fs.length)) (.map [])
theorem mkC_snoc (l:List Cp) (c:Cp):mkC (l ++ [c])=(mkC l).put (.int .i64 (c.i:Int)) (slD c.g c.fs.length):=by simp [mkC]
theorem mkC_tidy (l:List Cp):Maps.Tidy (mkC l):=by
  have key:∀ (l:List Cp) (D:DataW Unit),Maps.Tidy D → Maps.Tidy (l.foldl (fun D c => D.put (.int .i64 (c.i:Int)) (slD c.g c.fs.length)) D):=by
    intro l
    induction l with
    | nil => exact fun _ h => h
    | cons a l ih => exact fun D h => ih _ (h.put (k:=Lit.int .i64 (a.i:Int)) trivial _)
  exact key l _ Maps.tidy_empty
theorem snocI {α:Type} {P:List α → Prop} (h0:P []) (h1:∀ l x,P l → P (l ++ [x])) (l:List α):P l:=by
  have key:∀ r:List α,P r.reverse:=by
    intro r
    induction r with
    | nil => exact h0
    | cons a r ih => rw [List.reverse_cons]; exact h1 _ _ ih
  have:=key l.reverse
  rwa [List.reverse_reverse] at this
theorem mkC_at:∀ (l:List Cp),(l.map fun c => c.i).Nodup → ∀ c ∈ l,∀ z,(mkC l).atKey (.int .i64 (c.i:Int)) z=slD c.g c.fs.length:=by
  intro l
  induction l using snocI with
  | h0 => intro _ c hc; cases hc
  | h1 l x ih =>
    intro hn c hc z
    rw [List.map_append] at hn
    obtain ⟨n1,_,n3⟩:=List.nodup_append.1 hn
    rw [mkC_snoc]
    rcases List.mem_append.1 hc with h | h
    · have hne:(c.i:Int) ≠ (x.i:Int):=fun e => n3 c.i (List.mem_map.2 ⟨c,h,rfl⟩) x.i (by simp) (by omega)
      rw [atKey_put_other (lit_ne hne)]
      exact ih n1 c h z
    · rw [List.mem_singleton.1 h]
      exact atKey_put_same (k:=Lit.int .i64 (x.i:Int)) (mkC_tidy l).isMap trivial _ _
theorem mkC_not:∀ (l:List Cp) (y:Nat),y ∉ (l.map fun c => c.i) → ∀ z,(mkC l).atKey (.int .i64 (y:Int)) z=z:=by
  intro l
  induction l using snocI with
  | h0 => intro y _ z; rfl
  | h1 l x ih =>
    intro y hy z
    rw [List.map_append,List.mem_append] at hy
    have hne:(y:Int) ≠ (x.i:Int):=fun e => hy (.inr (by simp; omega))
    rw [mkC_snoc,atKey_put_other (lit_ne hne)]
    exact ih y (fun h => hy (.inl h)) z
theorem mkC_has:∀ (l:List Cp) (y:Nat),Maps.has (mkC l) (.int .i64 (y:Int))=decide (y ∈ (l.map fun c => c.i)):=by
  intro l
  induction l using snocI with
  | h0 => intro y; rfl
  | h1 l x ih =>
    intro y
    rw [mkC_snoc]
    by_cases e:y=x.i
    · subst e
      rw [has_put_same (k:=Lit.int .i64 (x.i:Int)) (mkC_tidy l).isMap trivial]; simp
    · have hne:(y:Int) ≠ (x.i:Int):=fun h => e (by omega)
      rw [has_put_other (lit_ne hne),ih,List.map_append]
      refine decide_eq_decide.2 ?_
      simp [e]
def cpD (b N:Nat) (D:DataW Unit):Item where
  fp k:=k=b
  P w:=w.ownsMap Tryz.prog 3 slE b N D
  dom w h k hk:=by subst hk; exact World.ownsMap.lt h
  loc w w' _ hk h:=by obtain ⟨es,clock,hb,r⟩:=h; exact ⟨es,clock,(hk b rfl).trans hb,r⟩
def cpI (b N:Nat) (l:List Cp):Item:=cpD b N (mkC l)
set_option maxRecDepth 100000 in
theorem cp_look {w:World} {b N:Nat} {l:List Cp} (h:(cpI b N l).P w) (hn:(l.map fun c => c.i).Nodup) (y:Nat) (hy:wfI (y:Int)) :
    (∀ c ∈ l,c.i=y → (Instr.lookup 100 (.map (some b)) (.int .i64 (y:Int)) true).run Tryz.prog w=.ok (.tuple #[slV c.g c.fs.length,.bool true]) w) ∧
    (y ∉ (l.map fun c => c.i) → (Instr.lookup 100 (.map (some b)) (.int .i64 (y:Int)) true).run Tryz.prog w=.ok (.tuple #[.slice none 0 0,.bool false]) w) ∧
    (∀ c ∈ l,c.i=y → (Instr.lookup 100 (.map (some b)) (.int .i64 (y:Int)) false).run Tryz.prog w=.ok (slV c.g c.fs.length) w):=by
  have hown:w.ownsMap Tryz.prog 3 slE b N (mkC l):=h
  obtain ⟨v,ps,hrun,hv⟩:=hown.look_ok (int_keyed Tryz.underlying3) Tryz.underlying100 (zeroSl w) slE_nil (keyOf_int_mk Tryz.underlying3 hy)
  obtain ⟨v2,ps2,hrun2,hv2⟩:=hown.lookup (int_keyed Tryz.underlying3) Tryz.underlying100 (zeroSl w) slE_nil (keyOf_int_mk Tryz.underlying3 hy)
  rw [mkC_has] at hrun
  refine ⟨fun c hc e => ?_,fun hno => ?_,fun c hc e => ?_⟩
  · subst e
    rw [mkC_at l hn c hc] at hv
    rw [slE_inv hv,decide_eq_true (List.mem_map.2 ⟨c,hc,rfl⟩)] at hrun
    exact hrun
  · rw [mkC_not l y hno] at hv
    rw [slE_inv0 hv,decide_eq_false hno] at hrun
    exact hrun
  · subst e
    rw [mkC_at l hn c hc] at hv2
    rw [slE_inv hv2] at hrun2
    exact hrun2
set_option maxRecDepth 100000 in
theorem Sep.cpPut {F:Nat → Prop} {W w:World} {items:List Item} (hS:Sep F W w items) (k:Nat) {b N:Nat} {l:List Cp} (hk:items[k]?=some (cpI b N l)) (hn:N + 1 < maxLen) (c:Cp) (hy:wfI (c.i:Int)) :
    ∃ w',(Instr.mapUpdate 100 (.map (some b)) (.int .i64 (c.i:Int)) (slV c.g c.fs.length)).run Tryz.prog w=.ok () w' ∧ Sep F W w' (items.set k (cpI b (N + 1) (l ++ [c]))) ∧ Chg (fun g => g=b) w w':=by
  have hown:w.ownsMap Tryz.prog 3 slE b N (mkC l):=hS.get k hk
  obtain ⟨w',hrun,r1,r2⟩:=hown.update (int_keyed Tryz.underlying3) Tryz.underlying100 (by omega) (keyOf_int_mk Tryz.underlying3 hy) (slE_mk c.g c.fs.length)
  have hc:Chg (fun g => g=b) w w':=(Chg.of_grown r2).mono (fun g hx => .inl (by injection hx with hx; exact hx.symm))
  rw [← mkC_snoc] at r1
  exact ⟨w',hrun,hS.step k hk hc (cpI b (N + 1) (l ++ [c])) r1 (fun g hg => .inl hg),hc⟩
theorem cp_setlen (l:List Cp) (j:Nat) (c:Cp) (h:∀ d,l[j]?=some d → d.i=c.i ∧ d.g=c.g ∧ d.fs.length=c.fs.length):mkC (l.set j c)=mkC l:=by
  unfold mkC
  have gen:∀ (l:List Cp) (j:Nat) (D:DataW Unit),(∀ d,l[j]?=some d → d.i=c.i ∧ d.g=c.g ∧ d.fs.length=c.fs.length) → (l.set j c).foldl (fun D c => D.put (.int .i64 (c.i:Int)) (slD c.g c.fs.length)) D=l.foldl (fun D c => D.put (.int .i64 (c.i:Int)) (slD c.g c.fs.length)) D:=by
    intro l
    induction l with
    | nil => intro j D _; rfl
    | cons d l ih =>
      intro j D hd
      cases j with
      | zero =>
        obtain ⟨e1,e2,e3⟩:=hd d rfl
        rw [List.set_cons_zero,List.foldl_cons,List.foldl_cons,e1,e2,e3]
      | succ j =>
        rw [List.set_cons_succ,List.foldl_cons,List.foldl_cons]
        exact ih j _ (fun x hx => hd x hx)
  exact gen l j _ h
theorem Sep.cpNew {F:Nat → Prop} {W w:World} {items:List Item} (hS:Sep F W w items) {g:Nat} (hg:w.heap.size=g):Sep F W (w.alloc (.map #[] 0)) (items ++ [cpI g 0 []]):=by
  subst hg
  exact hS.snocNew ((Below.refl _ w).alloc (Nat.le_refl _) _) (cpI w.heap.size 0 []) (World.ownsMap_made _ _ _ _) (fun g hg => by rw [show g=w.heap.size from hg]; exact Nat.le_refl _)
end Go.Proofs.YtjphckfbbiehdaaGreat

namespace Go.Proofs.YtjphckfbbiehdaaGreat
open Go.RowKit
theorem suf_addr (g off j:Nat):(⟨g,off,none⟩:Addr).add j=⟨g,off + j,none⟩:=by unfold Addr.add; split <;> simp_all
def sufI (e size:Nat) (A:Option Addr) (n c:Nat) (xs:List Value):Item where
  fp g:=(Value.slice A n c).ownBlock=some g
  P w:=xs.length=n * size ∧ ((A=none ∧ n=0 ∧ c=0) ∨ ∃ g off cur,A=some ⟨g,off,none⟩ ∧ w.heap[g]?=some (.cells cur e (0,0)) ∧ n ≤ c ∧ c ≤ maxLen ∧ off + c * size ≤ cur.size ∧ (cur.toList.drop off).take (n * size)=xs)
  dom w h k hk:=by
    rcases h.2 with ⟨rfl,_⟩ | ⟨g,off,cur,rfl,hg,_⟩
    · cases hk
    · have:g=k:=by simpa [Value.ownBlock] using hk
      subst this
      exact (Array.getElem?_eq_some_iff.1 hg).1
  loc w w' _ hk h:=by
    refine ⟨h.1,?_⟩
    rcases h.2 with h1 | ⟨g,off,cur,rfl,hg,h2⟩
    · exact .inl h1
    · exact .inr ⟨g,off,cur,rfl,(hk g rfl).trans hg,h2⟩
theorem suf_nil (w:World) (e size:Nat):(sufI e size none 0 0 []).P w:=⟨by simp,.inl ⟨rfl,rfl,rfl⟩⟩
theorem suf_rd {w:World} {e size n c:Nat} {A:Option Addr} {xs:List Value} (h:(sufI e size A n c xs).P w):Rd w (fun _ => True) size A n xs:=by
  refine ⟨h.1,fun hn => ?_⟩
  rcases h.2 with ⟨_,h0,_⟩ | ⟨g,off,cur,rfl,hg,h2,h3,h4,h5⟩
  · omega
  · refine ⟨⟨g,off,none⟩,rfl,trivial,(Array.getElem?_eq_some_iff.1 hg).1,fun j u hu => ?_⟩
    rw [suf_addr,cell_of_row w g (off + j) cur e (0,0) hg]
    rw [← h5,List.getElem?_take] at hu
    split at hu
    · rw [List.getElem?_drop] at hu
      simpa using hu
    · cases hu
theorem suf_le {w:World} {e size n c:Nat} {A:Option Addr} {xs:List Value} (h:(sufI e size A n c xs).P w):n ≤ c:=by
  rcases h.2 with ⟨_,h0,h1⟩ | ⟨g,off,cur,rfl,hg,h2,_⟩
  · omega
  · exact h2
theorem suf_tail {w:World} {e size n c:Nat} {A:Option Addr} {xs:List Value} (h:(sufI e size A (n + 1) c xs).P w) (hs:0 < size):(sufI e size (if c=1 then A else A.map (·.add (1 * size))) n (c - 1) (xs.drop size)).P w:=by
  have hl:=h.1
  have hc:=suf_le h
  rcases h.2 with ⟨_,h0,_⟩ | ⟨g,off,cur,rfl,hg,h2,h3,h4,h5⟩
  · omega
  · have e1:(n + 1) * size=n * size + size:=by rw [Nat.add_mul]; omega
    have e2:c * size=(c - 1) * size + size:=by
      have:c=(c - 1) + 1:=by omega
      rw [this,Nat.add_mul]; simp
    refine ⟨by rw [List.length_drop,hl]; omega,.inr ?_⟩
    by_cases h1:c=1
    · rw [if_pos h1]
      have hn:n=0:=by omega
      subst hn
      refine ⟨g,off,cur,rfl,hg,by omega,by omega,by omega,?_⟩
      have:(xs.drop size).length=0:=by rw [List.length_drop,hl]; simp
      rw [List.eq_nil_of_length_eq_zero this]; simp
    · rw [if_neg h1]
      refine ⟨g,off + size,cur,by rw [Option.map_some,suf_addr,Nat.one_mul],hg,by omega,by omega,by omega,?_⟩
      rw [← h5,← List.drop_drop,List.drop_take,e1,Nat.add_sub_cancel]
theorem Sep.sufTail {F:Nat → Prop} {W w:World} {items:List Item} {e size n c:Nat} {A:Option Addr} {xs:List Value} (hS:Sep F W w items) (k:Nat) (hk:items[k]?=some (sufI e size A (n + 1) c xs)) (hs:0 < size):Sep F W w (items.set k (sufI e size (if c=1 then A else A.map (·.add (1 * size))) n (c - 1) (xs.drop size))) :=
  hS.step k hk (Chg.refl _ _) _ (suf_tail (hS.get k hk) hs) (fun g hg => .inl (by
    have h1:(Value.slice (if c=1 then A else A.map (·.add (1 * size))) n (c - 1)).ownBlock=some g:=hg
    show (Value.slice A (n + 1) c).ownBlock=some g
    rcases (hS.get k hk).2 with ⟨rfl,h0,_⟩ | ⟨g',off,cur,rfl,_⟩
    · omega
    · split at h1
      · exact h1
      · rw [Option.map_some,suf_addr] at h1; exact h1))
section
variable {P : Program}
theorem run_append_room_off (w:World) (t ty e:TypeId) (i:TypeInfo) (ht:P.underlying t=some (.slice e)) (hi:P.info? e=some i)
    (g off sLen sCap:Nat) (cur:Array Value) (hg:w.heap[g]?=some (.cells cur e (0,0)))
    (a:Addr) (m c:Nat) (news:List Value) (hl:news.length=m * i.size) (hnews:∀ j u,news[j]?=some u → w.cell? (a.add j)=some u) (h1:∀ u ∈ news,u.oneCell'=true)
    (hroom:sLen + m ≤ sCap) (hfit:off + sLen * i.size + news.length ≤ cur.size) :
    (Builtin.append_ #[t,t] ty #[.slice (some ⟨g,off,none⟩) sLen sCap,.slice (some a) m c]).run P w =
      .ok (.slice (some ⟨g,off,none⟩) (sLen + m) sCap) (w.setRow g (cur.toList.take (off + sLen * i.size) ++ news ++ cur.toList.drop (off + sLen * i.size + news.length)).toArray):=by
  have hf:=run_firstCells_some (P:=P) w i.size m a m c news hl hnews
  have hst:=run_storeCells_at P g (off + sLen * i.size) e news 0 cur w hg (by simpa using hfit) h1
  simp only [Nat.add_zero] at hst
  simp [Builtin.append_,run_underlying ht,sizeOf,typeInfo,hi,Builtin.lenOf,hroom,hf,Addr.add_lit,hst]
theorem Sep.sufApp {F:Nat → Prop} {W w:World} {items:List Item} {e size n c bytes:Nat} {A:Option Addr} {xs:List Value} {t:Nat} (ty:TypeId) (T:SliceT P t e size bytes) (hS:Sep F W w items) (k:Nat) (hk:items[k]?=some (sufI e size A n c xs))
    {ad:Addr} {m c2:Nat} {news:List Value} (hm:0 < m) (hl:news.length=m * size) (hnews:∀ j u,news[j]?=some u → w.cell? (ad.add j)=some u) (h1:∀ u ∈ news,u.oneCell'=true) (hb:(n + m) * bytes ≤ 140737488355328) :
    ∃ A' c' w',(Builtin.append_ #[t,t] ty #[.slice A n c,.slice (some ad) m c2]).run P w=.ok (.slice A' (n + m) c') w' ∧ Sep F W w' (items.set k (sufI e size A' (n + m) c' (xs ++ news))) ∧ Chg (sufI e size A n c xs).fp w w':=by
  obtain ⟨i,z,hi,hz,hs,hby,hzs⟩:=T.info
  subst hs
  subst hby
  have h63:n + m ≤ maxLen:=by
    have h2:n + m ≤ (n + m) * i.bytes:=Nat.le_mul_of_pos_right _ T.pos.2
    simp only [maxLen]; omega
  have hsmall:n + m ≤ 9223372036854775807:=by simp only [maxLen] at h63; omega
  have hP:=hS.get k hk
  have hlen:(xs ++ news).length=(n + m) * i.size:=by rw [List.length_append,hP.1,hl,Nat.add_mul]
  have grown:∀ (old:Nat),(sufI e i.size (some ⟨w.heap.size,0,none⟩) (n + m) (grownCap w (n + m) old e) (xs ++ news)).P (w.drew.alloc (.cells (xs.toArray ++ news.toArray ++ Builtin.zeroCells z.cells (grownCap w (n + m) old e - (n + m))) e)):=by
    intro old
    have hge:=grownCap_ge w (n + m) old e
    have hcm:grownCap w (n + m) old e ≤ maxLen:=grownCap_le_maxLen w (n + m) old e h63
    refine ⟨hlen,.inr ⟨w.heap.size,0,_,rfl,heap_alloc_new w.drew _,hge,hcm,?_,?_⟩⟩
    · simp only [Array.size_append,List.size_toArray,size_zeroCells,hzs,hP.1,hl,← Nat.add_mul]
      rw [show n + m + (grownCap w (n + m) old e - (n + m))=grownCap w (n + m) old e by omega]; omega
    · simp only [Array.toList_append,List.append_assoc,List.drop_zero]
      rw [← List.append_assoc,← hlen]
      exact List.take_left
  have hnew:∀ (o:Obj) (A':Option Addr) (c':Nat),(sufI e i.size (some ⟨w.heap.size,0,none⟩) (n + m) c' (xs ++ news)).P (w.drew.alloc o) → Sep F W (w.drew.alloc o) (items.set k (sufI e i.size (some ⟨w.heap.size,0,none⟩) (n + m) c' (xs ++ news))) ∧ Chg (sufI e i.size A n c xs).fp w (w.drew.alloc o):=by
    intro o A' c' hp
    have hc:Chg (sufI e i.size A n c xs).fp w (w.drew.alloc o):=(Chg.refl _ w).drew.alloc o
    exact ⟨hS.step k hk hc _ hp (fun g hg => .inr (by
      have:w.heap.size=g:=by simpa [sufI,Value.ownBlock] using hg
      omega)),hc⟩
  rcases hP.2 with ⟨rfl,rfl,rfl⟩ | ⟨g,off,cur,rfl,hg,h2,h3,h4,h5⟩
  · have hx:xs=[]:=List.eq_nil_of_length_eq_zero (by simpa using hP.1)
    subst hx
    have hr:=run_append_nil (P:=P) w t ty e i z T.und hi hz ad m c2 news hl hnews (by omega) (by omega) (by have hb:=hb; simp only [Nat.zero_add] at hb; omega)
    have hgr:=grown 0
    simp only [Nat.zero_add,List.nil_append,Array.empty_append] at hgr hr hnew ⊢
    obtain ⟨n1,n2⟩:=hnew _ none _ hgr
    exact ⟨_,_,_,hr,n1,n2⟩
  · by_cases hroom:n + m ≤ c
    · have hmul:(n + m) * i.size ≤ c * i.size:=Nat.mul_le_mul_right _ hroom
      rw [Nat.add_mul] at hmul
      have hfit:off + n * i.size + news.length ≤ cur.size:=by rw [hl]; omega
      have hr:=run_append_room_off (P:=P) w t ty e i T.und hi g off n c cur hg ad m c2 news hl hnews h1 hroom hfit
      have hheap:=setRow_heap w g cur (cur.toList.take (off + n * i.size) ++ news ++ cur.toList.drop (off + n * i.size + news.length)).toArray e (0,0) hg
      have hgrb:w.grownBy (w.setRow g (cur.toList.take (off + n * i.size) ++ news ++ cur.toList.drop (off + n * i.size + news.length)).toArray) (some g):=⟨rfl,rfl,rfl,by simp,fun k _ hk => setRow_other w g k _ (fun e => hk (by rw [e]))⟩
      have hc:Chg (sufI e i.size (some ⟨g,off,none⟩) n c xs).fp w (w.setRow g (cur.toList.take (off + n * i.size) ++ news ++ cur.toList.drop (off + n * i.size + news.length)).toArray):=(Chg.of_grown hgrb).mono (fun g' hx => .inl hx)
      refine ⟨_,_,_,hr,hS.step k hk hc _ ⟨hlen,.inr ⟨g,off,_,rfl,hheap,hroom,h3,?_,?_⟩⟩ (fun g' hg' => .inl hg'),hc⟩
      · simp only [List.size_toArray,List.length_append,List.length_take,List.length_drop,Array.length_toList]
        omega
      · have e1:(cur.toList.take (off + n * i.size)).drop off=xs:=by
          rw [List.drop_take,← h5]
          congr 1
          omega
        have e2:(cur.toList.take (off + n * i.size)).length=off + n * i.size:=by rw [List.length_take,Array.length_toList]; omega
        show ((cur.toList.take (off + n * i.size) ++ news ++ cur.toList.drop (off + n * i.size + news.length)).drop off).take ((n + m) * i.size)=xs ++ news
        rw [List.append_assoc,List.drop_append_of_le_length (by omega),e1,← hlen,← List.append_assoc]
        exact List.take_left
    · have holds:∀ j u,xs[j]?=some u → w.cell? ((⟨g,off,none⟩:Addr).add j)=some u:=fun j u hu => by
        obtain ⟨ad',e1,_,_,h6⟩:=(suf_rd hP).2 (by
          rcases Nat.eq_zero_or_pos n with h0 | h0
          · have:xs=[]:=List.eq_nil_of_length_eq_zero (by rw [hP.1,h0]; simp)
            rw [this] at hu; cases hu
          · exact h0)
        obtain rfl:(⟨g,off,none⟩:Addr)=ad':=by injection e1
        exact h6 j u hu
      have hr:=run_append_grow (P:=P) w t ty e i z T.und hi hz ⟨g,off,none⟩ n c xs hP.1 holds ad m c2 news hl hnews (by omega) (by omega) (growslice_fits (by omega) hb)
      obtain ⟨n1,n2⟩:=hnew _ none _ (grown c)
      exact ⟨_,_,_,hr,n1,n2⟩
theorem new_cells (w:World) (e:TypeId) (cs:Array Value):∀ j u,cs.toList[j]?=some u → (w.alloc (.cells cs e)).cell? ((⟨w.heap.size,0,none⟩:Addr).add j)=some u:=fun j u hu => by
  rw [suf_addr,Nat.zero_add,(Blk.new w e cs).cell j]; simpa using hu
theorem wpList_suf1 {w:World} {ops:Array Oper} {rest:List Oper} {o:Oper} {a:Act} {Q:Exit → Act → World → Prop} (hgd:o.guard=none) (s x:Operand) (t:TypeId)
    (ho:o.op=.call { callee:=.builtin .append,args:=#[s,x],argTypes:=#[t,t] })
    {F:Nat → Prop} {W:World} {items:List Item} {e size n c bytes:Nat} {A:Option Addr} {xs:List Value} (T:SliceT P t e size bytes) (hS:Sep F W w items) (k:Nat) (hk:items[k]?=some (sufI e size A n c xs)) (hs:a.eval s=.slice A n c)
    {cs:Array Value} {g:Nat} (hx:a.eval x=.slice (some ⟨g,0,none⟩) 1 1) (hgz:w.heap.size=g) (hcs:cs.size=size) (h1:cs.toList.all Value.oneCell'=true) (hb:(n + 1) * bytes ≤ 140737488355328)
    (h:∀ A' c' w',Sep F W w' (items.set k (sufI e size A' (n + 1) c' (xs ++ cs.toList))) → wpList P ops Q rest (a.put o.dst (.slice A' (n + 1) c')) w'):wpList P ops Q (o :: rest) a (w.alloc (.cells cs e)) :=
  wpList_plain hgd fun K hK => by
    subst hgz
    obtain ⟨A',c',w',hrun,hS',_⟩:=(hS.alloc (.cells cs e)).sufApp (P:=P) o.type T k hk (m:=1) (c2:=1) (by omega) (by simp [hcs]) (new_cells w e cs) (fun u hu => List.all_eq_true.1 h1 u hu) hb
    unfold Oper.wp execOp
    simp only [ho,resolve,invoke,builtin,Sem.run_bind,Sem.run_pure,Result.andThen_ok,List.map_toArray,List.map_cons,List.map_nil,hs,hx,hrun]
    exact hK _ _ (h A' c' w' hS')
end
end Go.Proofs.YtjphckfbbiehdaaGreat

namespace Go.Proofs.YtjphckfbbiehdaaGreat
open Go.RowKit Go.Maps
structure RpT where
  regs:List Val
  oj:Oj
  Ar:Option Addr
  cr:Nat
  row:List Int
  b:Nat
  cps:List Cp
  Am:Option Addr
  cm:Nat
  filled:Nat
  Al:Option Addr
  cl:Nat
  log:List (Nat × Nat)
  times:Nat
def cpP (l:List Cp):List (Nat × List Val):=l.map fun c => (c.i,c.fs)
def RpT.a (t:RpT):RpA:=⟨t.regs,t.oj.abs,t.row,cpP t.cps,t.filled,t.log,t.times⟩
def logV (l:List (Nat × Nat)):List Value:=l.flatMap fun p => [.int .i64 (p.1:Int),.int .i64 (p.2:Int)]
def madeV (l:List Cp):List Value:=ints (l.map fun c => (c.i:Int))
def cpRow (c:Cp):Item:=rowI 63 2 (some ⟨c.g,0,none⟩) c.fs.length c.fs.length (vals c.fs)
def rpC (t:RpT):Array Value:=#[t.oj.v,.slice t.Ar t.row.length t.cr,.map (some t.b),.slice t.Am t.cps.length t.cm,.int .i64 (t.filled:Int),.slice t.Al t.log.length t.cl,.int .i64 (t.times:Int)]
def rpR (Be:Nat) (t:RpT):List Item:=allI (t.cps.map cpRow) :: blkI Be 103 (rpC t) :: rowI 3 1 t.Ar t.row.length t.cr (ints t.row) :: cpI t.b t.cps.length t.cps :: rowI 3 1 t.Am t.cps.length t.cm (madeV t.cps) :: sufI 143 2 t.Al t.log.length t.cl (logV t.log) :: ojL t.oj
theorem cpP_keys (l:List Cp):keysC (cpP l)=l.map fun c => c.i:=by unfold keysC cpP; rw [List.map_map]; rfl
theorem RpT.n (t:RpT):t.a.objs.length=t.oj.ps.length:=oj_lenabs t.oj
theorem RpT.fld {t:RpT} {i:Nat} {fs:List Val} (h:t.a.fld i=some fs):∃ p,t.oj.ps[i]?=some (some p) ∧ p.o.fields=fs:=oj_abs_at (RpA.fld_iff.1 h)
theorem RpT.has {t:RpT} {z:Nat}:t.a.has z ↔ z ∈ t.cps.map fun c => c.i:=by show z ∈ keysC (cpP t.cps) ↔ _; rw [cpP_keys]
section
variable {F : Nat → Prop} {W0 w : World} {Be : Nat} {t : RpT} {pre : List Item}
theorem rp_cells (hS:Sep F W0 w (pre ++ rpR Be t)) :
    w.cell? ⟨Be,0,none⟩=some (.slice t.oj.As t.oj.ps.length t.oj.c) ∧ w.cell? ⟨Be,1,none⟩=some (.slice t.Ar t.row.length t.cr) ∧ w.cell? ⟨Be,2,none⟩=some (.map (some t.b)) ∧ w.cell? ⟨Be,3,none⟩=some (.slice t.Am t.cps.length t.cm) ∧ w.cell? ⟨Be,4,none⟩=some (.int .i64 (t.filled:Int)) ∧ w.cell? ⟨Be,5,none⟩=some (.slice t.Al t.log.length t.cl) ∧ w.cell? ⟨Be,6,none⟩=some (.int .i64 (t.times:Int)) ∧ (∀ i,w.frozen? ⟨Be,i,none⟩=false) ∧ Be < w.heap.size:=by
  obtain ⟨c1,c2,c3,_⟩:=hS.rules (pre.length + 1) (g:=Be) (t:=103) (cs:=rpC t) (by rw [List.getElem?_append_right (by omega)]; simp [rpR])
  exact ⟨(c1 0).trans rfl,(c1 1).trans rfl,(c1 2).trans rfl,(c1 3).trans rfl,(c1 4).trans rfl,(c1 5).trans rfl,(c1 6).trans rfl,c2,c3⟩
theorem rp_map (hS:Sep F W0 w (pre ++ rpR Be t)):(cpI t.b t.cps.length t.cps).P w:=hS.get (pre.length + 3) (by rw [List.getElem?_append_right (by omega)]; simp [rpR])
end
theorem allI_push {F:Nat → Prop} {W w:World} {i:Item} {l L:List Item} (h:Sep F W w (i :: allI l :: L)):Sep F W w (allI (l ++ [i]) :: L):=by
  have h1:=Sep.split (l:=l) (h.perm (List.Perm.swap (allI l) i L))
  refine Sep.join (l:=l ++ [i]) ?_
  rw [List.append_assoc]
  exact h1
theorem numW {x:Int} (h0:-4611686018427387904 ≤ x) (h1:x ≤ 4611686018427387903):wfI x:=by
  show (decide (IntKind.i64.min ≤ x) && decide (x ≤ IntKind.i64.max))=true
  have e1:IntKind.i64.min=-9223372036854775808:=by decide
  have e2:IntKind.i64.max=9223372036854775807:=by decide
  rw [e1,e2,Bool.and_eq_true,decide_eq_true_eq,decide_eq_true_eq]
  omega
set_option maxRecDepth 100000 in
theorem cp_look_any {w:World} {b N:Nat} {l:List Cp} (h:(cpI b N l).P w) (y:Int) (hy:wfI y):∃ v x,(Instr.lookup 100 (.map (some b)) (.int .i64 y) true).run Tryz.prog w=.ok (.tuple #[v,.bool x]) w:=by
  have hown:w.ownsMap Tryz.prog 3 slE b N (mkC l):=h
  obtain ⟨v,ps,hrun,hv⟩:=hown.look_ok (int_keyed Tryz.underlying3) Tryz.underlying100 (zeroSl w) slE_nil (keyOf_int_mk Tryz.underlying3 hy)
  exact ⟨v,_,hrun⟩
def numOk (v:Val):Prop:=-4611686018427387904 ≤ v.2 ∧ v.2 ≤ 4611686018427387903
end Go.Proofs.YtjphckfbbiehdaaGreat

namespace Go.Proofs.YtjphckfbbiehdaaGreat
open Go.RowKit Go.Maps
theorem rp_more {F:Nat → Prop} {W0 w:World} {Be:Nat} {t:RpT} {x:Item} {c:Cp} {A:Option Addr} {cm:Nat}
    (h:Sep F W0 w (cpRow c :: x :: allI (t.cps.map cpRow) :: blkI Be 103 ((rpC t).setIfInBounds 3 (.slice A (t.cps.length + 1) cm)) :: rowI 3 1 t.Ar t.row.length t.cr (ints t.row) :: cpI t.b (t.cps.length + 1) (t.cps ++ [c]) :: rowI 3 1 A (t.cps.length + 1) cm (madeV t.cps ++ [.int .i64 (c.i:Int)]) :: sufI 143 2 t.Al t.log.length t.cl (logV t.log) :: ojL t.oj)) :
    Sep F W0 w (x :: rpR Be { t with cps:=t.cps ++ [c],Am:=A,cm:=cm }):=by
  have h1:=h.perm (l:=cpRow c :: allI (t.cps.map cpRow) :: x :: _) (List.Perm.cons _ (List.Perm.swap _ _ _))
  have h2:=allI_push h1
  have h3:=h2.perm (l:=x :: allI (t.cps.map cpRow ++ [cpRow c]) :: _) (List.Perm.swap _ _ _)
  have e:rpR Be { t with cps:=t.cps ++ [c],Am:=A,cm:=cm }=allI (t.cps.map cpRow ++ [cpRow c]) :: blkI Be 103 ((rpC t).setIfInBounds 3 (.slice A (t.cps.length + 1) cm)) :: rowI 3 1 t.Ar t.row.length t.cr (ints t.row) :: cpI t.b (t.cps.length + 1) (t.cps ++ [c]) :: rowI 3 1 A (t.cps.length + 1) cm (madeV t.cps ++ [.int .i64 (c.i:Int)]) :: sufI 143 2 t.Al t.log.length t.cl (logV t.log) :: ojL t.oj:=by
    unfold rpR rpC madeV
    dsimp only
    rw [List.map_append,List.length_append,List.length_singleton,List.map_append]
    simp [ints]
  rw [e]
  exact h3
set_option maxRecDepth 100000 in
set_option maxHeartbeats 8000000 in
theorem rcopied_no {F:Nat → Prop} {W0 w:World} {Be:Nat} {t:RpT} {x:Item} (h:Sep F W0 w (x :: rpR Be t)) (v:Val) (hw:wfI v.2) (hnd:(t.cps.map fun c => c.i).Nodup) (hno:v.1=false ∨ ∃ z:Nat,v.2=(z:Int) ∧ z ∈ t.cps.map fun c => c.i) :
    Calls Tryz.prog 50 #[.pointer (some ⟨Be,0,none⟩),.agg #[.bool v.1,.int .i64 v.2]] w fun e w' => e=.returned (.bool false) ∧ Sep F W0 w' (x :: rpR Be t):=by
  obtain ⟨g,hg⟩:∃ g,w.heap.size=g:=⟨_,rfl⟩
  have hS0:=h.blkAtF 63 #[.bool v.1,.int .i64 v.2] hg
  obtain ⟨W,hW⟩:∃ W,w.alloc (.cells #[.bool v.1,.int .i64 v.2] 63)=W:=⟨_,rfl⟩
  rw [hW] at hS0
  obtain ⟨x1,x2,x3,x4⟩:=hS0.rules 0 (g:=g) (t:=63) rfl
  have x5:=(x1 0).trans (show _=some (.bool v.1) from rfl)
  have x6:=(x1 1).trans (show _=some (.int .i64 v.2) from rfl)
  obtain ⟨-,-,k2,-,-,-,-,-,k8⟩:=rp_cells (pre:=[_,x]) hS0
  have hm:=rp_map (pre:=[_,x]) hS0
  have HS:=hide (show Sep F W0 W (x :: rpR Be t) from hS0.sub (List.sublist_cons_self _ _))
  obtain ⟨lv,lx,hl⟩:=cp_look_any hm v.2 hw
  obtain ⟨bv,mv⟩:=v
  dsimp only at hno x5 x6 hW hl hw ⊢
  have hlx:bv=true → lx=true:=fun hb => by
    rcases hno with h1 | ⟨z,e,hz⟩
    · rw [hb] at h1; cases h1
    · obtain ⟨c,hc,e2⟩:=List.mem_map.1 hz
      have h2:=(cp_look hm hnd z (by rw [← e]; exact hw)).1 c hc e2
      rw [← e,hl] at h2
      injection h2 with h2; injection h2 with h2; injection h2 with h2; injection h2 with _ h2; injection h2 with h2; injection h2
  clear h hS0 x1 hno hnd hm hw
  cases bv with
  | false =>
    clear hlx
    go_enter Tryz.func50,Tryz.ntmps50
    go_wp2_with fail
    go_ret
    exact ⟨rfl,HS.out⟩
  | true =>
    obtain rfl:=hlx rfl
    clear hlx
    go_enter Tryz.func50,Tryz.ntmps50
    go_wp2_with fail
    go_ret
    exact ⟨rfl,HS.out⟩
set_option maxRecDepth 100000 in
set_option maxHeartbeats 16000000 in
theorem rcopied_yes {F:Nat → Prop} {W0 w:World} {Be:Nat} {t:RpT} {x:Item} (h:Sep F W0 w (x :: rpR Be t)) {z:Nat} {p:Po} (hp:t.oj.ps[z]?=some (some p)) (hz:z ∉ t.cps.map fun c => c.i) (hnd:(t.cps.map fun c => c.i).Nodup) (hn:t.oj.ps.length ≤ 600) (hc:t.cps.length ≤ 1000) (h4:p.o.fields.length ≤ 4) :
    Calls Tryz.prog 50 #[.pointer (some ⟨Be,0,none⟩),.agg #[.bool true,.int .i64 (z:Int)]] w fun e w' => e=.returned (.bool true) ∧ ∃ (g:Nat) (A:Option Addr) (cm:Nat),Sep F W0 w' (x :: rpR Be { t with cps:=t.cps ++ [⟨z,g,zeroVs p.o.fields.length⟩],Am:=A,cm:=cm }):=by
  obtain ⟨g,hg⟩:∃ g,w.heap.size=g:=⟨_,rfl⟩
  have hS0:=h.blkAtF 63 #[.bool true,.int .i64 (z:Int)] hg
  obtain ⟨W,hW⟩:∃ W,w.alloc (.cells #[.bool true,.int .i64 (z:Int)] 63)=W:=⟨_,rfl⟩
  rw [hW] at hS0
  obtain ⟨x1,x2,x3,x4⟩:=hS0.rules 0 (g:=g) (t:=63) rfl
  have x5:=(x1 0).trans (show _=some (.bool true) from rfl)
  have x6:=(x1 1).trans (show _=some (.int .i64 (z:Int)) from rfl)
  obtain ⟨k1,-,k2,-,-,-,-,-,k8⟩:=rp_cells (pre:=[_,x]) hS0
  have hzl:=(List.getElem?_eq_some_iff.1 hp).1
  have hw:wfI (z:Int):=numW (by omega) (by omega)
  have hl:=(cp_look (rp_map (pre:=[_,x]) hS0) hnd z hw).2.1 hz
  obtain ⟨ad,hA,had,f0,f1,hob⟩:=oj_at (pre:=[_,x,_,_,_,_,_,_]) hS0 hp
  have hfl:=oj_len (pre:=[x,_,_,_,_,_,_]) h hp
  rw [hA] at k1
  obtain ⟨m,hm⟩:∃ m,p.o.n=m:=⟨_,rfl⟩
  obtain ⟨oA,hoA⟩:∃ m,p.o.A=m:=⟨_,rfl⟩
  obtain ⟨oC,hoC⟩:∃ m,p.o.c=m:=⟨_,rfl⟩
  obtain ⟨pB,hpB⟩:∃ m,p.B=m:=⟨_,rfl⟩
  rw [hm] at f1 hfl
  rw [hoA,hoC] at f1
  rw [hpB] at f0 f1
  rw [hfl] at h4 ⊢
  obtain ⟨nO,hnO⟩:∃ q,t.oj.ps.length=q:=⟨_,rfl⟩
  rw [hnO] at k1 hzl hn
  obtain ⟨cO,hcO⟩:∃ q,t.oj.c=q:=⟨_,rfl⟩
  rw [hcO] at k1
  obtain ⟨mb,hmb⟩:∃ q,t.b=q:=⟨_,rfl⟩
  rw [hmb] at k2 hl
  have hmk:=hval_make m h4
  have hmx:Tryz.prog.follows .mixedOrders=true:=by kernel_rfl
  obtain ⟨gN,hgN⟩:∃ q,W.heap.size=q:=⟨_,rfl⟩
  have hS1:=(hS0.blkAtF 63 (vals (zeroVs m)).toArray hgN).drew
  have hr:=hrow_of_blk (n:=m) (size:=2) (show Blk _ gN 63 (vals (zeroVs m)).toArray from hS1.get 0 rfl) (by simp [vals_length,zeroVs]) (by unfold maxLen; omega)
  have hS2:=hS1.step 0 rfl (Chg.refl _ _) (cpRow ⟨z,gN,zeroVs m⟩) (by
    show (rowI 63 2 (some ⟨gN,0,none⟩) (zeroVs m).length (zeroVs m).length (vals (zeroVs m))).P _
    rw [show (zeroVs m).length=m from by simp [zeroVs]]
    exact hr) (fun g' hg' => .inl (by
      have:gN=g':=by simpa [cpRow,rowI,Value.ownBlock] using hg'
      exact this.symm))
  obtain ⟨w7,hrun,hS7,-⟩:=hS2.cpPut 6 rfl (show t.cps.length + 1 < maxLen by unfold maxLen; omega) ⟨z,gN,zeroVs m⟩ hw
  replace hrun:(Instr.mapUpdate 100 (.map (some mb)) (.int .i64 (z:Int)) (.slice (some ⟨gN,0,none⟩) m m)).run Tryz.prog (W.alloc (.cells (vals (zeroVs m)).toArray 63)).drew=.ok () w7:=by
    rw [← hmb]
    have h1:=hrun
    unfold slV at h1
    dsimp only at h1
    rw [show (zeroVs m).length=m from by simp [zeroVs]] at h1
    exact h1
  have HS7:=hide (show Sep F W0 w7 (cpRow ⟨z,gN,zeroVs m⟩ :: blkI g 63 #[.bool true,.int .i64 (z:Int)] :: x :: allI (t.cps.map cpRow) :: blkI Be 103 (rpC t) :: rowI 3 1 t.Ar t.row.length t.cr (ints t.row) :: cpI t.b (t.cps.length + 1) (t.cps ++ [⟨z,gN,zeroVs m⟩]) :: rowI 3 1 t.Am t.cps.length t.cm (madeV t.cps) :: sufI 143 2 t.Al t.log.length t.cl (logV t.log) :: ojL t.oj) from hS7)
  obtain ⟨c1,c2,c3,-⟩:=HS7.out.rules 4 (g:=Be) (t:=103) rfl
  have y2:=(c1 2).trans (show _=some (.map (some t.b)) from rfl)
  have y0:=(c1 0).trans (show _=some (.slice t.oj.As t.oj.ps.length t.oj.c) from rfl)
  have y3:=(c1 3).trans (show _=some (.slice t.Am t.cps.length t.cm) from rfl)
  obtain ⟨ad',hA',-,q0,q1,-⟩:=oj_at (pre:=[_,_,_,_,_,_,_,_,_]) HS7.out hp
  obtain rfl:ad=ad':=by rw [hA] at hA'; injection hA'
  rw [hA,hnO,hcO] at y0
  rw [hmb] at y2
  rw [hpB] at q0 q1
  rw [hm,hoA,hoC] at q1
  have t1:decide ((z:Int) < 0)=false:=by simp
  have t2:decide ((nO:Int) ≤ (z:Int))=false:=by simp; omega
  have HCL:=hide hc
  have n1:gN ≠ Be:=by omega
  clear h x1 c1 hA' hS0 hp hnd hA had hob hfl hm hoA hoC hpB hnO hcO hmb hS1 hr hS2 hw hz hc hS7
  go_enter Tryz.func50,Tryz.ntmps50
  go_wp2_with fail
  go_region_held3 (fun w' => w'.cell? ⟨Be,2,none⟩=some (.map (some mb)) ∧ w'.cell? ⟨Be,0,none⟩=some (.slice (some ad) nO cO) ∧ w'.cell? (ad.add z)=some (.pointer (some ⟨pB,0,none⟩)) ∧ w'.cell? ⟨pB,0,none⟩=some (.slice oA m oC)) (first | go_keep | (simp (config:={ maxDischargeDepth:=8 }) [*,World.cell?_alloc_some]; done))
    (fail)
  all_goals
    go_wp2_with (first
      | (at_builtin
         refine wpList_app1 (cs:=#[.int .i64 (z:Int)]) rfl (.tmp 46) (.tmp 48) 33 rfl (F:=F) (W:=W0) sInt (items:=_ :: _ :: _ :: _ :: _ :: _ :: _ :: _) HS7.out 7 (n:=t.cps.length) rfl rfl rfl (by simp) rfl rfl (by have:=HCL.out; omega) ?_
         intro A9 c9 w9 hS9 hC9
         obtain ⟨u1,u2,u3,-⟩:=hS9.rules 4 (g:=Be) (t:=103) rfl))
    have hS10:=hS9.set_ 4 (g:=Be) (t:=103) rfl 3 (.slice A9 (t.cps.length + 1) c9)
    have HF:=hide (rp_more (c:=⟨z,gN,zeroVs m⟩) (hS10.sub (l:=cpRow ⟨z,gN,zeroVs m⟩ :: x :: allI (t.cps.map cpRow) :: _) (List.Sublist.cons_cons _ (List.sublist_cons_self _ _))))
    clear hS9 hC9 hS10 u1
    go_wp2_with fail
    go_ret
    exact ⟨rfl,gN,A9,c9,HF.out⟩
theorem RpT.put_a (t:RpT) (z g:Nat) (fs:List Val) (A:Option Addr) (cm:Nat):({ t with cps:=t.cps ++ [⟨z,g,fs⟩],Am:=A,cm:=cm }:RpT).a={ t.a with cps:=t.a.cps ++ [(z,fs)] }:=by
  unfold RpT.a cpP
  simp
theorem rcopied_any {E:Nat → Nat → Prop} {F:Nat → Prop} {W0 w:World} {Be:Nat} {t:RpT} {x:Item} (h:Sep F W0 w (x :: rpR Be t)) (ok:RpOkE E t.a) (hn:t.oj.ps.length ≤ 600) (v:Val) (hv:t.a.vok v) (hw:numOk v) :
    Calls Tryz.prog 50 #[.pointer (some ⟨Be,0,none⟩),.agg #[.bool v.1,.int .i64 v.2]] w fun e w' => e=.returned (.bool (v.1 && !decide (t.a.has v.2.toNat))) ∧ ∃ t':RpT,t'.a=t.a.cop v ∧ Sep F W0 w' (x :: rpR Be t'):=by
  have hnd:(t.cps.map fun c => c.i).Nodup:=by have h1:=ok.nd; rw [show keysC t.a.cps=_ from cpP_keys t.cps] at h1; exact h1
  by_cases hc:v.1=false ∨ t.a.has v.2.toNat
  · have hno:v.1=false ∨ ∃ z:Nat,v.2=(z:Int) ∧ z ∈ t.cps.map fun c => c.i:=by
      rcases hc with h1 | h1
      · exact .inl h1
      · cases hb:v.1 with
        | false => exact .inl rfl
        | true =>
          obtain ⟨i,fs,e,hf⟩:=hv hb
          rw [e,Int.toNat_natCast] at h1
          exact .inr ⟨i,e,RpT.has.1 h1⟩
    refine (rcopied_no h v (numW hw.1 hw.2) hnd hno).mono ?_
    rintro e w' ⟨rfl,hS⟩
    refine ⟨?_,t,(cop_no hc).symm,hS⟩
    rcases hc with h1 | h1
    · rw [h1]; rfl
    · rw [decide_eq_true h1]; simp
  · have hb:v.1=true:=by
      cases hb:v.1
      · exact absurd (.inl hb) hc
      · rfl
    obtain ⟨z,fs,e,hf⟩:=hv hb
    obtain ⟨p,hp,hpf⟩:=RpT.fld hf
    have hz:z ∉ t.cps.map fun c => c.i:=fun h1 => hc (.inr (by rw [e,Int.toNat_natCast]; exact RpT.has.2 h1))
    have h24:t.cps.length ≤ 24:=by have h1:=ok.made24; have h2:t.a.cps.length=t.cps.length:=List.length_map ..; omega
    have h4:=ok.f4 z fs hf
    rw [hb,e]
    refine (rcopied_yes h hp hz hnd hn (by omega) (by rw [hpf]; exact h4)).mono ?_
    rintro e' w' ⟨rfl,g,A,cm,hS⟩
    refine ⟨?_,_,?_,hS⟩
    · rw [Int.toNat_natCast,decide_eq_false (fun h1 => hz (RpT.has.1 h1))]; rfl
    · rw [cop_yes hc,RpT.put_a,e,Int.toNat_natCast,RpA.flds_of hf,hpf]
end Go.Proofs.YtjphckfbbiehdaaGreat
