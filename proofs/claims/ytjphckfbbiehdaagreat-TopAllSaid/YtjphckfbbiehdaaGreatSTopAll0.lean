/- Part of a proof. -/
import Derived.WalkKit
import Derived.Test.YtjphckfbbiehdaaGreatProg
import Derived.Deep.AppendLies
import Derived.Deep.Draws
import Derived.Deep.QuietTactic
import Derived.BigQuiet
import Derived.Deep.RegionWith
import Derived.Deep.RegionLaw
import Derived.Maps.AppendAt
import Derived.WalkLawsBesides
import Derived.WalkSpells
import Derived.Laws.OwnMore
import Derived.Test.YtjphckfbbiehdaaGreatRows
import Derived.ProofKit
import Derived.OpenShut
import Derived.Lib.SmallJoins
import Derived.Deep.Slices
import Derived.Deep.Fields
import Derived.ChangeSame
set_option linter.unusedSimpArgs false
set_option linter.unusedVariables false
namespace Go.Proofs.YtjphckfbbiehdaaGreat
open Go.RowKit
theorem hide {p:Prop} (h:p):Hid p:=h
theorem block_of_add (a:Addr) (n:Nat):(a.add n).block=a.block:=by unfold Addr.add; split <;> rfl
theorem add_of_add (a:Addr) (i j:Nat):(a.add i).add j=a.add (i + j):=by
  unfold Addr.add
  by_cases hi:i=0 <;> by_cases hj:j=0 <;> simp [hi,hj,Nat.add_assoc]
structure Chg (S:Nat → Prop) (w w':World):Prop where
  os:w'.os=w.os
  tape:w'.tape=w.tape
  output:w'.output=w.output
  size:w.heap.size ≤ w'.heap.size
  block:∀ k,k < w.heap.size → ¬ S k → w'.heap[k]?=w.heap[k]?
section
variable {w w' a b c : World} {S S' : Nat → Prop}
theorem Chg.refl (S:Nat → Prop) (w:World):Chg S w w:=⟨rfl,rfl,rfl,Nat.le_refl _,fun _ _ _ => rfl⟩
theorem Chg.trans (h:Chg S a b) (k:Chg S' b c) (hM:∀ g,S' g → S g ∨ a.heap.size ≤ g):Chg S a c :=
  ⟨k.os.trans h.os,k.tape.trans h.tape,k.output.trans h.output,Nat.le_trans h.size k.size,fun i hi hm =>
    (k.block i (Nat.lt_of_lt_of_le hi h.size) (fun hm' => by rcases hM i hm' with h1 | h1; exact hm h1; omega)).trans (h.block i hi hm)⟩
theorem Chg.mono (h:Chg S a b) (hM:∀ g,S g → S' g ∨ a.heap.size ≤ g):Chg S' a b :=
  ⟨h.os,h.tape,h.output,h.size,fun i hi hm => h.block i hi (fun h1 => by rcases hM i h1 with h2 | h2; exact hm h2; omega)⟩
theorem Chg.of_below (h:Below w.heap.size w w') (S:Nat → Prop):Chg S w w':=⟨h.os,h.tape,h.output,h.size,fun i hi _ => h.block i hi⟩
theorem Chg.below (h:Chg S w w') (hM:∀ g,S g → w.heap.size ≤ g):Below w.heap.size w w' :=
  ⟨h.os,h.tape,h.output,h.size,fun i hi => h.block i hi (fun h1 => by have:=hM i h1; omega)⟩
theorem Chg.of_grown {row:Option Nat} (h:w.grownBy w' row):Chg (fun k => row=some k) w w' :=
  ⟨h.os,h.tape,h.output,h.size,fun i hi hm => h.block i hi (fun e => hm e.symm)⟩
theorem Chg.drew (h:Chg S a w):Chg S a w.drew:=⟨h.os,h.tape,h.output,h.size,h.block⟩
theorem Chg.drewN (h:Chg S a w) (n:Nat):Chg S a (w.drewN n):=⟨h.os,h.tape,h.output,h.size,h.block⟩
theorem Chg.alloc (h:Chg S a w) (o:Obj):Chg S a (w.alloc o) :=
  ⟨h.os,h.tape,h.output,Nat.le_trans h.size (by simp),fun i hi hm => (Below.heap_alloc w o i (Nat.lt_of_lt_of_le hi h.size)).trans (h.block i hi hm)⟩
theorem Chg.setCell (h:Chg S a w) {p:Addr} (hp:S p.block ∨ a.heap.size ≤ p.block) (u:Value):Chg S a (w.setCell p u) :=
  ⟨h.os,h.tape,h.output,by simpa [World.setCell] using h.size,fun i hi hm => (Below.heap_setCell w p u i (by
    rintro rfl
    rcases hp with hp | hp
    · exact hm hp
    · omega)).trans (h.block i hi hm)⟩
end
theorem below_drewN {B:Nat} {a w:World} (h:Below B a w) (n:Nat):Below B a (w.drewN n):=⟨h.os,h.tape,h.output,h.size,h.block⟩
def Blk (w:World) (g:Nat) (t:TypeId) (cs:Array Value):Prop:=w.heap[g]?=some (.cells cs t (0,0))
section
variable {w w' : World} {g : Nat} {t : TypeId} {cs : Array Value} {S : Nat → Prop}
theorem Blk.lt (h:Blk w g t cs):g < w.heap.size:=by
  rcases Nat.lt_or_ge g w.heap.size with hlt | hge
  · exact hlt
  · unfold Blk at h; rw [Array.getElem?_eq_none hge] at h; cases h
theorem Blk.cell (h:Blk w g t cs) (i:Nat):w.cell? ⟨g,i,none⟩=cs[i]?:=cell_of_row w g i cs t (0,0) h
theorem Blk.frozen (h:Blk w g t cs) (i:Nat):w.frozen? ⟨g,i,none⟩=false:=by
  unfold Blk at h
  simp [World.frozen?,h]
theorem Blk.rules (h:Blk w g t cs):(∀ i,w.cell? ⟨g,i,none⟩=cs[i]?) ∧ (∀ i,w.frozen? ⟨g,i,none⟩=false) ∧ g < w.heap.size:=⟨h.cell,h.frozen,h.lt⟩
theorem Blk.new (w:World) (t:TypeId) (cs:Array Value):Blk (w.alloc (.cells cs t)) w.heap.size t cs:=heap_alloc_new w _
theorem Blk.drew (h:Blk w g t cs):Blk w.drew g t cs:=h
theorem Blk.alloc (h:Blk w g t cs) (o:Obj):Blk (w.alloc o) g t cs:=(Below.heap_alloc w o g h.lt).trans h
theorem Blk.set_ (h:Blk w g t cs) (i:Nat) (u:Value):Blk (w.setCell ⟨g,i,none⟩ u) g t (cs.setIfInBounds i u):=by
  unfold Blk at h ⊢
  simp [World.setCell,Array.getElem?_modify,h]
theorem Blk.below_ (h:Blk w g t cs) (hb:Below w.heap.size w w'):Blk w' g t cs:=(hb.block g h.lt).trans h
theorem Blk.grown {row:Option Nat} (h:Blk w g t cs) (hb:w.grownBy w' row) (hg:some g ≠ row):Blk w' g t cs:=(hb.block g h.lt hg).trans h
end
def Rd (w:World) (D:Nat → Prop) (size:Nat) (A:Option Addr) (n:Nat) (xs:List Value):Prop :=
  xs.length=n * size ∧ (0 < n → ∃ ad,A=some ad ∧ D ad.block ∧ ad.block < w.heap.size ∧ ∀ j u,xs[j]?=some u → w.cell? (ad.add j)=some u)
section
variable {w w' : World} {D D' : Nat → Prop} {size n : Nat} {A : Option Addr} {xs : List Value}
theorem Rd.nil:Rd w D size A 0 []:=⟨by simp,fun h => absurd h (by omega)⟩
theorem Rd.keep (h:Rd w D size A n xs) (hs:w.heap.size ≤ w'.heap.size) (hk:∀ k,k < w.heap.size → D k → w'.heap[k]?=w.heap[k]?):Rd w' D size A n xs :=
  ⟨h.1,fun hn => by
    obtain ⟨ad,e,hb,hlt,hc⟩:=h.2 hn
    exact ⟨ad,e,hb,Nat.lt_of_lt_of_le hlt hs,fun j u hu => (World.cell?_of_block (a:=ad.add j) (by rw [block_of_add]; exact hk _ hlt hb)).trans (hc j u hu)⟩⟩
theorem Rd.more (h:Rd w D size A n xs) (hD:∀ k,k < w.heap.size → D k → D' k):Rd w D' size A n xs :=
  ⟨h.1,fun hn => by
    obtain ⟨ad,e,hb,hlt,hc⟩:=h.2 hn
    exact ⟨ad,e,hD _ hlt hb,hlt,hc⟩⟩
theorem Rd.chg {S:Nat → Prop} (h:Rd w D size A n xs) (hc:Chg S w w') (hM:∀ g,S g → ¬ D g):Rd w' D size A n xs :=
  h.keep hc.size fun k hk hd => hc.block k hk (fun hm => hM k hm hd)
theorem Rd.below (h:Rd w D size A n xs) (hb:Below w.heap.size w w'):Rd w' D size A n xs:=h.keep hb.size fun k hk _ => hb.block k hk
theorem Rd.of_own {base:Nat} {e:TypeId} {c:Nat} (h:w.ownsRow base e size (.slice A n c) n xs) (hD:∀ g,A=some ⟨g,0,none⟩ → D g):Rd w D size A n xs:=by
  refine ⟨h.1,fun hn => ?_⟩
  obtain ⟨g,cap,hv,_,hlt⟩:=h.form hn
  have hA:A=some ⟨g,0,none⟩:=by injection hv
  subst hA
  exact ⟨_,rfl,hD g rfl,hlt,h.cells (g:=g) rfl⟩
theorem Rd.at_ {k:Nat} (h:Rd w D 1 A n xs) (hk:k < n):∃ ad,A=some ad ∧ D ad.block ∧ ad.block < w.heap.size ∧ ∀ u,xs[k]?=some u → w.cell? (ad.add k)=some u:=by
  obtain ⟨ad,e,hb,hlt,hc⟩:=h.2 (by omega)
  exact ⟨ad,e,hb,hlt,fun u hu => hc k u hu⟩
end
theorem Rd.atN {w:World} {D:Nat → Prop} {size n:Nat} {A:Option Addr} {xs:List Value} {k:Nat} (h:Rd w D size A n xs) (hk:k < n):∃ ad,A=some ad ∧ D ad.block ∧ ad.block < w.heap.size ∧ (∀ u,xs[k * size]?=some u → w.cell? (ad.add (k * size))=some u) ∧
    (∀ j u,xs[k * size + (j + 1)]?=some u → w.cell? ⟨(ad.add (k * size)).block,(ad.add (k * size)).off + (j + 1),none⟩=some u):=by
  obtain ⟨ad,e,hb,hlt,hc⟩:=h.2 (by omega)
  refine ⟨ad,e,hb,hlt,fun u hu => hc _ u hu,fun j u hu => ?_⟩
  have:=hc _ u hu
  rw [← add_of_add] at this
  exact this
end Go.Proofs.YtjphckfbbiehdaaGreat

namespace Go.Proofs.YtjphckfbbiehdaaGreat
open Go.ChangeShapes Go.WideShapes Go.ChangeAt Go.RowKit
theorem own:ownKnob Tryz.prog.godebug=none:=by kernel_rfl
theorem laidOut:laidOutB Tryz.prog=true:=by kernel_rfl
section
variable {H : Type} {enc : TypeId × Value → H} {P : Program}
theorem trodAll_below (hl:laidOutB P=true) {W W':World} (hb:Below W.heap.size W W') :
    ∀ (ts:List TypeId) (vs:List Value) (ds:List (DataW H)) (ps:List MemPlace),(∀ t ∈ ts,P.readableRec t=true ∧ t < P.types.size) →
      DataW.TrodAll enc P W 0 (fun _ => true) true ts vs ds ps → (∀ x ∈ ps,x.block < W.heap.size) → DataW.TrodAll enc P W' 0 (fun b => decide (b < W.heap.size)) true ts vs ds ps:=by
  intro ts
  induction ts with
  | nil =>
    intro vs ds ps _ h _
    obtain ⟨rfl,rfl,rfl⟩:=trodAll_nil h
    exact trodAll_mk0
  | cons t ts ih =>
    intro vs ds ps hr h hlt
    obtain ⟨v,vs',d,ds',p,q,rfl,rfl,rfl,h0,h1⟩:=trodAll_cons h
    obtain ⟨r1,r2⟩:=hr t (by simp)
    exact trodAll_cons_mk (Below.trod hl r1 r2 h0 hb (fun x hx => hlt x (by simp [hx])))
      (ih _ _ _ (fun t' ht => hr t' (by simp [ht])) h1 (fun x hx => hlt x (by simp [hx])))
theorem law_post {f:Func} {s:ChangeSpec} {W W':World} {args:Array Value} {ds gs:List (DataW H)} {before:List MemPlace} {T:TypeId}
    (hl:laidOutB P=true) (hr:∀ t ∈ f.params.toList,P.readableRec t=true ∧ t < P.types.size)
    (hT:f.resultTypes=#[T]) (hB:P.underlying T=some .bool) (hv:s.vars=[])
    (hW:DataW.Whole enc P f.params.toList s.vars false W args.toList ds gs before)
    (h1:(s.fn H (ds ++ gs)).results=[.lit (.bool true)]) (h2:(s.fn H (ds ++ gs)).args=ds) (h3:(s.fn H (ds ++ gs)).vars=[])
    (hb:Below W.heap.size W W'):s.post enc P f false true false false W args (.bool true) W':=by
  have hlt:∀ x ∈ before,x.block < W.heap.size:=fun x hx => by simpa using hW.lt x hx
  have hW':=hW
  obtain ⟨p,q,hA,hV,rfl,hfz,hnd⟩:=hW
  refine ⟨ds,gs,p ++ q,[],p,[],hW',?_,?_,?_,hb.frame _,fun h => by cases h⟩
  · rw [h1,hT]
    exact trodAll_mk1 (shut_bool hB true)
  · rw [h2]
    exact trodAll_below hl hb _ _ _ _ hr hA (fun x hx => hlt x (by simp [hx]))
  · rw [h3,hv]
    rfl
end
end Go.Proofs.YtjphckfbbiehdaaGreat

namespace Go.Proofs.YtjphckfbbiehdaaGreat
open Go.ChangeShapes Go.WideShapes Go.Deep Go.RowKit
theorem block_lt_ {w:World} {a:Addr} {v:Value} (h:w.cell? a=some v):a.block < w.heap.size:=by
  unfold World.cell? at h
  split at h
  · rename_i hb; exact (Array.getElem?_eq_some_iff.1 hb).1
  · cases h
end Go.Proofs.YtjphckfbbiehdaaGreat

namespace Go.Proofs.YtjphckfbbiehdaaGreat
open Go.RowKit
abbrev No:Nat → Prop:=fun _ => False
structure Item where
  fp:Nat → Prop
  P:World → Prop
  dom:∀ w,P w → ∀ k,fp k → k < w.heap.size
  loc:∀ w w':World,w.heap.size ≤ w'.heap.size → (∀ k,fp k → w'.heap[k]?=w.heap[k]?) → P w → P w'
theorem ownsRow_loc {w w':World} {base e size n:Nat} {v:Value} {xs:List Value} (h:w.ownsRow base e size v n xs) (hk:∀ k,v.ownBlock=some k → w'.heap[k]?=w.heap[k]?):w'.ownsRow base e size v n xs:=by
  obtain ⟨h1,h2⟩:=h
  refine ⟨h1,?_⟩
  rcases h2 with h2 | ⟨g,cap,cur,hv,hg,hh,r⟩
  · exact .inl h2
  · exact .inr ⟨g,cap,cur,hv,hg,by rw [hk g (by rw [hv]; rfl)]; exact hh,r⟩
def rowI (e size:Nat) (A:Option Addr) (n c:Nat) (xs:List Value):Item where
  fp k:=(Value.slice A n c).ownBlock=some k
  P w:=w.ownsRow 0 e size (.slice A n c) n xs
  dom _ h k hk:=(h.lt k hk).2
  loc _ _ _ hk h:=ownsRow_loc h hk
def blkI (g t:Nat) (cs:Array Value):Item where
  fp k:=k=g
  P w:=Blk w g t cs
  dom w h k hk:=by subst hk; exact Blk.lt h
  loc _ _ _ hk h:=(hk g rfl).trans h
def allI (l:List Item):Item where
  fp k:=∃ i ∈ l,i.fp k
  P w:=(∀ i ∈ l,i.P w) ∧ List.Pairwise (fun i j:Item => ∀ k:Nat,i.fp k → ¬ j.fp k) l
  dom w h k hk:=by obtain ⟨i,hi,hik⟩:=hk; exact i.dom w (h.1 i hi) k hik
  loc w w' hs hk h:=⟨fun i hi => i.loc w w' hs (fun k hik => hk k ⟨i,hi,hik⟩) (h.1 i hi),h.2⟩
structure Sep (F:Nat → Prop) (W w:World) (items:List Item):Prop where
  bel:Chg F W w
  all:∀ i ∈ items,i.P w
  own:∀ i ∈ items,∀ k,i.fp k → F k ∨ W.heap.size ≤ k
  apart:List.Pairwise (fun i j:Item => ∀ k:Nat,i.fp k → ¬ j.fp k) items
section
variable {F : Nat → Prop} {W w w' : World} {items : List Item} {i i' : Item} {k : Nat}
theorem Sep.nil (F:Nat → Prop) (W:World):Sep F W W []:=⟨Chg.refl _ _,by simp,by simp,.nil⟩
theorem Sep.start {i:Item} (h:i.P w):Sep i.fp w w [i]:=⟨Chg.refl _ _,by simpa using h,by simp; exact fun k hk => .inl hk,by simp⟩
theorem Sep.below_ (h:Sep (fun _ => False) W w items):Below W.heap.size W w:=h.bel.below (fun _ h => h.elim)
theorem Sep.get (h:Sep F W w items) (k:Nat) (hk:items[k]?=some i):i.P w:=h.all i (List.mem_of_getElem? hk)
theorem Sep.lo (h:Sep F W w items) (k:Nat) (hk:items[k]?=some i):∀ g,i.fp g → F g ∨ W.heap.size ≤ g:=h.own i (List.mem_of_getElem? hk)
theorem Sep.hi (h:Sep F W w items) (k:Nat) (hk:items[k]?=some i):∀ g,i.fp g → g < w.heap.size:=i.dom w (h.get k hk)
theorem pairwise_ne {α:Type} {R:α → α → Prop} (hs:∀ a b,R a b → R b a) {l:List α} (h:l.Pairwise R) {a b:Nat} {x y:α} (ha:l[a]?=some x) (hb:l[b]?=some y) (hne:a ≠ b):R x y:=by
  obtain ⟨ha1,ha2⟩:=List.getElem?_eq_some_iff.1 ha
  obtain ⟨hb1,hb2⟩:=List.getElem?_eq_some_iff.1 hb
  rw [List.pairwise_iff_getElem] at h
  rcases Nat.lt_or_gt_of_ne hne with hlt | hlt
  · have:=h a b ha1 hb1 hlt; rw [ha2,hb2] at this; exact this
  · have:=h b a hb1 ha1 hlt; rw [ha2,hb2] at this; exact hs _ _ this
theorem Sep.other (h:Sep F W w items) {a b:Nat} {x y:Item} (ha:items[a]?=some x) (hb:items[b]?=some y) (hne:a ≠ b):∀ g,x.fp g → ¬ y.fp g :=
  pairwise_ne (R:=fun i j:Item => ∀ k,i.fp k → ¬ j.fp k) (fun _ _ h1 k hk hk' => h1 k hk' hk) h.apart ha hb hne
theorem Sep.step (h:Sep F W w items) (k:Nat) (hk:items[k]?=some i) (hc:Chg i.fp w w') (i':Item) (hi':i'.P w') (hfp:∀ g,i'.fp g → i.fp g ∨ w.heap.size ≤ g):Sep F W w' (items.set k i'):=by
  have hkl:k < items.length:=(List.getElem?_eq_some_iff.1 hk).1
  have hkeep:∀ (b:Nat) (y:Item),items[b]?=some y → b ≠ k → y.P w':=fun b y hb hne =>
    y.loc w w' hc.size (fun g hg => hc.block g (y.dom w (h.get b hb) g hg) (fun hx => h.other hk hb (Ne.symm hne) g hx hg)) (h.get b hb)
  have hmem:∀ y ∈ items.set k i',y=i' ∨ ∃ b,b ≠ k ∧ items[b]?=some y:=by
    intro y hy
    obtain ⟨b,hb⟩:=List.mem_iff_getElem?.1 hy
    rw [List.getElem?_set] at hb
    split at hb
    · rename_i hkb
      subst hkb
      exact .inl (by injection hb with hb; exact hb.symm)
    · rename_i hkb
      exact .inr ⟨b,fun e => hkb e.symm,hb⟩
  refine ⟨?_,?_,?_,?_⟩
  · exact h.bel.trans hc (h.lo k hk)
  · intro y hy
    rcases hmem y hy with rfl | ⟨b,hne,hb⟩
    · exact hi'
    · exact hkeep b y hb hne
  · intro y hy g hg
    rcases hmem y hy with rfl | ⟨b,hne,hb⟩
    · rcases hfp g hg with h1 | h1
      · exact h.lo k hk g h1
      · exact .inr (by have:=h.bel.size; omega)
    · exact h.lo b hb g hg
  · rw [List.pairwise_iff_getElem]
    intro a b ha hb hab g hga hgb
    rw [List.getElem_set] at hga hgb
    rw [List.length_set] at ha hb
    split at hga <;> split at hgb
    · omega
    · rename_i e1 e2
      have hb':items[b]?=some items[b]:=List.getElem?_eq_getElem hb
      rcases hfp g hga with h1 | h1
      · exact h.other hk hb' e2 g h1 hgb
      · have:=h.hi b hb' g hgb; omega
    · rename_i e1 e2
      have ha':items[a]?=some items[a]:=List.getElem?_eq_getElem ha
      rcases hfp g hgb with h1 | h1
      · exact h.other hk ha' e1 g h1 hga
      · have:=h.hi a ha' g hga; omega
    · exact h.other (List.getElem?_eq_getElem ha) (List.getElem?_eq_getElem hb) (by omega) g hga hgb
theorem Sep.chg (h:Sep F W w items) {S:Nat → Prop} (hc:Chg S w w') (hS:∀ i ∈ items,∀ g,S g → ¬ i.fp g) (hW:∀ g,S g → F g ∨ W.heap.size ≤ g):Sep F W w' items :=
  ⟨h.bel.trans hc hW,
   fun i hi => i.loc w w' hc.size (fun g hg => hc.block g (i.dom w (h.all i hi) g hg) (fun hx => hS i hi g hx hg)) (h.all i hi),h.own,h.apart⟩
theorem Sep.below (h:Sep F W w items) (hb:Below w.heap.size w w'):Sep F W w' items :=
  h.chg (S:=fun _ => False) (Chg.of_below hb _) (fun _ _ _ h => h.elim) (fun _ h => h.elim)
theorem Sep.drew (h:Sep F W w items):Sep F W w.drew items:=h.below (Below.refl _ w).drew
theorem Sep.drewN (h:Sep F W w items) (n:Nat):Sep F W (w.drewN n) items:=h.chg (S:=fun _ => False) ((Chg.refl _ w).drewN n) (fun _ _ _ h => h.elim) (fun _ h => h.elim)
theorem Sep.alloc (h:Sep F W w items) (o:Obj):Sep F W (w.alloc o) items:=h.below ((Below.refl _ w).alloc (Nat.le_refl _) o)
theorem Sep.cons (h:Sep F W w items) (i:Item) (hi:i.P w) (hlo:∀ g,i.fp g → F g ∨ W.heap.size ≤ g) (hap:∀ j ∈ items,∀ g,i.fp g → ¬ j.fp g):Sep F W w (i :: items) :=
  ⟨h.bel,by simpa using ⟨hi,h.all⟩,by simpa using ⟨hlo,h.own⟩,List.pairwise_cons.2 ⟨hap,h.apart⟩⟩
theorem Sep.consNew (h:Sep F W w items) (hb:Below w.heap.size w w') (i:Item) (hi:i.P w') (hlo:∀ g,i.fp g → w.heap.size ≤ g):Sep F W w' (i :: items) :=
  (h.below hb).cons i hi (fun g hg => .inr (Nat.le_trans h.bel.size (hlo g hg))) (fun j hj g hg hg' => by have:=j.dom w (h.all j hj) g hg'; have:=hlo g hg; omega)
theorem Sep.snoc (h:Sep F W w items) (i:Item) (hi:i.P w) (hlo:∀ g,i.fp g → F g ∨ W.heap.size ≤ g) (hap:∀ j ∈ items,∀ g,i.fp g → ¬ j.fp g):Sep F W w (items ++ [i]) :=
  ⟨h.bel,by intro j hj; rcases List.mem_append.1 hj with h1 | h1; exact h.all j h1; simp at h1; subst h1; exact hi,
   by intro j hj; rcases List.mem_append.1 hj with h1 | h1; exact h.own j h1; simp at h1; subst h1; exact hlo,
   List.pairwise_append.2 ⟨h.apart,by simp,fun a ha b hb g h1 h2 => by simp at hb; subst hb; exact hap a ha g h2 h1⟩⟩
theorem Sep.snocNew (h:Sep F W w items) (hb:Below w.heap.size w w') (i:Item) (hi:i.P w') (hlo:∀ g,i.fp g → w.heap.size ≤ g):Sep F W w' (items ++ [i]) :=
  (h.below hb).snoc i hi (fun g hg => .inr (Nat.le_trans h.bel.size (hlo g hg))) (fun j hj g hg hg' => by have:=j.dom w (h.all j hj) g hg'; have:=hlo g hg; omega)
theorem Sep.call (h:Sep F W w items) (k:Nat) (hk:items[k]?=some i) (h2:Sep i.fp w w' [i']):Sep F W w' (items.set k i') :=
  h.step k hk h2.bel i' (h2.all i' (by simp)) (fun g hg => h2.own i' (by simp) g hg)
theorem Sep.flat {l:List Item} (h:Sep F W w [allI l]):Sep F W w l:=by
  have hp:=h.all (allI l) (by simp)
  exact ⟨h.bel,hp.1,fun i hi k hik => h.own (allI l) (by simp) k ⟨i,hi,hik⟩,hp.2⟩
theorem Sep.fold {l:List Item} (h:Sep F W w l):Sep F W w [allI l] :=
  ⟨h.bel,by simp only [List.mem_singleton,forall_eq]; exact ⟨h.all,h.apart⟩,by simp only [List.mem_singleton,forall_eq]; rintro k ⟨i,hi,hik⟩; exact h.own i hi k hik,by simp⟩
theorem Sep.perm (h:Sep F W w items) {l:List Item} (hl:items.Perm l):Sep F W w l :=
  ⟨h.bel,fun i hi => h.all i (hl.mem_iff.2 hi),fun i hi => h.own i (hl.mem_iff.2 hi),h.apart.perm hl (fun {_ _} h1 k hk hk' => h1 k hk' hk)⟩
theorem Sep.split {l l':List Item} (h:Sep F W w (allI l :: l')):Sep F W w (l ++ l'):=by
  have hp:=h.all (allI l) (by simp)
  have ha:=List.pairwise_cons.1 h.apart
  refine ⟨h.bel,fun i hi => ?_,fun i hi k hk => ?_,List.pairwise_append.2 ⟨hp.2,ha.2,fun a hal b hb k hk => ha.1 b hb k ⟨a,hal,hk⟩⟩⟩
  · rcases List.mem_append.1 hi with h1 | h1
    · exact hp.1 i h1
    · exact h.all i (by simp [h1])
  · rcases List.mem_append.1 hi with h1 | h1
    · exact h.own (allI l) (by simp) k ⟨i,h1,hk⟩
    · exact h.own i (by simp [h1]) k hk
theorem Sep.join {l l':List Item} (h:Sep F W w (l ++ l')):Sep F W w (allI l :: l'):=by
  have ha:=List.pairwise_append.1 h.apart
  refine ⟨h.bel,fun i hi => ?_,fun i hi k hk => ?_,List.pairwise_cons.2 ⟨fun b hb k hk => ?_,ha.2.1⟩⟩
  · rcases List.mem_cons.1 hi with rfl | h1
    · exact ⟨fun i hi => h.all i (by simp [hi]),ha.1⟩
    · exact h.all i (by simp [h1])
  · rcases List.mem_cons.1 hi with rfl | h1
    · obtain ⟨a,hal,hk⟩:=hk
      exact h.own a (by simp [hal]) k hk
    · exact h.own i (by simp [h1]) k hk
  · obtain ⟨a,hal,hk⟩:=hk
    exact ha.2.2 a hal b hb k hk
theorem perm_eraseIdx {α:Type}:∀ (l:List α) (j:Nat) (h:j < l.length),l.Perm (l[j] :: l.eraseIdx j)
  | [],_,h => by simp at h
  | _ :: _,0,_ => by simp
  | a :: l,j + 1,h => by
    have:=perm_eraseIdx l j (by simpa using h)
    simp only [List.getElem_cons_succ,List.eraseIdx_cons_succ]
    exact (this.cons a).trans (.swap _ _ _)
theorem Sep.focus {α:Type} {f:α → Item} {pre:List Item} {l:List α} {j:Nat} {t:α} (h:Sep F W w (pre ++ l.map f)) (hj:l[j]?=some t):Sep F W w (f t :: (pre ++ (l.eraseIdx j).map f)):=by
  obtain ⟨hlt,rfl⟩:=List.getElem?_eq_some_iff.1 hj
  refine h.perm ?_
  have h1:(l.map f).Perm (f l[j] :: (l.eraseIdx j).map f):=(perm_eraseIdx _ _ hlt).map f
  exact (h1.append_left pre).trans List.perm_middle
theorem Sep.unfocus {α:Type} {f:α → Item} {pre:List Item} {l:List α} {j:Nat} {t:α} (h:Sep F W w (f t :: (pre ++ (l.eraseIdx j).map f))) (hj:j < l.length):Sep F W w (pre ++ (l.set j t).map f):=by
  refine h.perm ?_
  have hlt:j < (l.set j t).length:=by simpa using hj
  have h1:((l.set j t).map f).Perm (f t :: (l.eraseIdx j).map f):=by
    have:=(perm_eraseIdx _ _ hlt).map f
    simpa [List.eraseIdx_set_eq] using this
  exact (List.perm_middle.symm.trans (h1.append_left pre).symm)
theorem Sep.sub (h:Sep F W w items) {l:List Item} (hl:l.Sublist items):Sep F W w l :=
  ⟨h.bel,fun i hi => h.all i (hl.subset hi),fun i hi => h.own i (hl.subset hi),h.apart.sublist hl⟩
theorem Sep.blk (h:Sep F W w items) (t:TypeId) (cs:Array Value):Sep F W (w.alloc (.cells cs t)) (items ++ [blkI w.heap.size t cs]) :=
  h.snocNew ((Below.refl _ w).alloc (Nat.le_refl _) _) _ (Blk.new w t cs) (fun g hg => by rw [show g=w.heap.size from hg]; exact Nat.le_refl _)
theorem Sep.blkAt (h:Sep F W w items) (t:TypeId) (cs:Array Value) {g:Nat} (hg:w.heap.size=g):Sep F W (w.alloc (.cells cs t)) (items ++ [blkI g t cs]):=by subst hg; exact h.blk t cs
theorem Sep.rules (h:Sep F W w items) (k:Nat) {g t:Nat} {cs:Array Value} (hk:items[k]?=some (blkI g t cs)):(∀ i,w.cell? ⟨g,i,none⟩=cs[i]?) ∧ (∀ i,w.frozen? ⟨g,i,none⟩=false) ∧ g < w.heap.size ∧ (F g ∨ W.heap.size ≤ g) :=
  ⟨Blk.cell (h.get k hk),Blk.frozen (h.get k hk),Blk.lt (h.get k hk),h.lo k hk g rfl⟩
theorem rowI_nil_P (w:World) (e size:Nat):(rowI e size none 0 0 []).P w:=World.ownsRow_nil w 0 e size
theorem Sep.nilRow (h:Sep F W w items) (e size:Nat):Sep F W w (items ++ [rowI e size none 0 0 []]) :=
  h.snoc _ (rowI_nil_P w e size) (fun g hg => by simp [rowI,Value.ownBlock] at hg) (fun j _ g hg => by simp [rowI,Value.ownBlock] at hg)
theorem Sep.nilRow0 (h:Sep F W w items) (e size:Nat):Sep F W w (rowI e size none 0 0 [] :: items) :=
  h.cons _ (rowI_nil_P w e size) (fun g hg => by simp [rowI,Value.ownBlock] at hg) (fun j _ g hg => by simp [rowI,Value.ownBlock] at hg)
theorem Sep.rd (h:Sep No W w items) (k:Nat) {e size n c:Nat} {A:Option Addr} {xs:List Value} (hk:items[k]?=some (rowI e size A n c xs)):Rd w (fun g => W.heap.size ≤ g) size A n xs :=
  Rd.of_own (show w.ownsRow 0 e size (.slice A n c) n xs from h.get k hk) (fun g hg => (h.lo k hk g (by subst hg; rfl)).resolve_left (fun h => h))
theorem Sep.rd_ (h:Sep F W w items) (k:Nat) {e size n c:Nat} {A:Option Addr} {xs:List Value} (hk:items[k]?=some (rowI e size A n c xs)):Rd w (fun _ => True) size A n xs :=
  Rd.of_own (show w.ownsRow 0 e size (.slice A n c) n xs from h.get k hk) (fun _ _ => trivial)
theorem Sep.set_ (h:Sep F W w items) (k:Nat) {g t:Nat} {cs:Array Value} (hk:items[k]?=some (blkI g t cs)) (j:Nat) (u:Value):Sep F W (w.setCell ⟨g,j,none⟩ u) (items.set k (blkI g t (cs.setIfInBounds j u))) :=
  h.step k hk ((Chg.refl (blkI g t cs).fp w).setCell (p:=⟨g,j,none⟩) (.inl rfl) u) _ (Blk.set_ (h.get k hk) j u) (fun _ hg => .inl hg)
theorem Sep.store (h:Sep F W w items) (k:Nat) {e size n c g:Nat} {xs:List Value} (hk:items[k]?=some (rowI e size (some ⟨g,0,none⟩) n c xs)) (j:Nat) (u:Value) :
    Sep F W (w.setCell ⟨g,j,none⟩ u) (items.set k (rowI e size (some ⟨g,0,none⟩) n c (xs.set j u))) :=
  h.step k hk ((Chg.refl (rowI e size (some ⟨g,0,none⟩) n c xs).fp w).setCell (p:=⟨g,j,none⟩) (.inl rfl) u) _ (World.ownsRow.stored (h.get k hk) j u).1 (fun _ hg => .inl hg)
end
structure SliceT (P:Program) (t e size bytes:Nat):Prop where
  und:P.underlying t=some (.slice e)
  info:∃ i z,P.info? e=some i ∧ i.zero=some z ∧ i.size=size ∧ i.bytes=bytes ∧ z.cells.size=size
  pos:0 < size ∧ 0 < bytes
theorem SliceT.mk_ {P:Program} {t e size bytes:Nat} {z:Value} (h1:P.underlying t=some (.slice e)) (h2:(P.info? e).map (fun i => (i.zero,i.size,i.bytes))=some (some z,size,bytes)) (h3:z.cells.size=size) (h4:0 < size ∧ 0 < bytes):SliceT P t e size bytes:=by
  obtain ⟨i,hi,hz,hs,hb⟩:=info_parts h2
  exact ⟨h1,⟨i,z,hi,hz,hs,hb,h3⟩,h4⟩
section
variable {P : Program}
theorem ownsRow_slice {w:World} {base e size n:Nat} {v:Value} {xs:List Value} (h:w.ownsRow base e size v n xs):∃ A c,v=.slice A n c ∧ n ≤ c:=by
  rcases h.2 with ⟨rfl,rfl⟩ | ⟨g,cap,cur,rfl,_,_,hnc,_⟩
  · exact ⟨none,0,rfl,Nat.le_refl _⟩
  · exact ⟨some ⟨g,0,none⟩,cap,rfl,hnc⟩
theorem Sep.app {F:Nat → Prop} {W w:World} {items:List Item} {e size n c bytes:Nat} {A:Option Addr} {xs:List Value} {t:Nat} (ty:TypeId) (T:SliceT P t e size bytes) (hS:Sep F W w items) (k:Nat) (hk:items[k]?=some (rowI e size A n c xs))
    {A2:Option Addr} {m c2:Nat} {news:List Value} (hr:Rd w (fun _ => True) size A2 m news) (h1:∀ u ∈ news,u.oneCell'=true) (hb:(n + m) * bytes ≤ 140737488355328) :
    ∃ A' c' w',(Builtin.append_ #[t,t] ty #[.slice A n c,.slice A2 m c2]).run P w=.ok (.slice A' (n + m) c') w' ∧ Sep F W w' (items.set k (rowI e size A' (n + m) c' (xs ++ news))) ∧ Chg (rowI e size A n c xs).fp w w':=by
  obtain ⟨i,z,hi,hz,hs,hby,hzs⟩:=T.info
  have h63:n + m ≤ maxLen:=by
    have h2:n + m ≤ (n + m) * bytes:=Nat.le_mul_of_pos_right _ T.pos.2
    simp only [maxLen]; omega
  have hrow:w.ownsRow 0 e size (.slice A n c) n xs:=hS.get k hk
  have key:∃ v' w',(Builtin.append_ #[t,t] ty #[.slice A n c,.slice A2 m c2]).run P w=.ok v' w' ∧ w'.ownsRow 0 e size v' (n + m) (xs ++ news) ∧ w.grownBy w' (Value.slice A n c).ownBlock ∧
      (v'.ownBlock=(Value.slice A n c).ownBlock ∨ v'.ownBlock=some w.heap.size):=by
    rcases A2 with _ | ad
    · have hm:m=0:=by
        rcases Nat.eq_zero_or_pos m with h0 | h0
        · exact h0
        · obtain ⟨ad,h,_⟩:=hr.2 h0
          cases h
      subst hm
      have hn:news=[]:=List.eq_nil_of_length_eq_zero (by simpa using hr.1)
      subst hn
      refine ⟨.slice A n c,w,?_,by simpa using hrow,World.grownBy.refl w _,.inl rfl⟩
      rcases hrow.2 with ⟨hv,rfl⟩ | ⟨g,cap,cur,hv,_,_,hnc,_⟩
      · rw [hv]
        simp [Builtin.append_,run_underlying T.und,sizeOf,typeInfo,hi,Builtin.lenOf,Builtin.firstCells]
      · rw [hv]
        simp [Builtin.append_,run_underlying T.und,sizeOf,typeInfo,hi,Builtin.lenOf,Builtin.firstCells,hnc,storeCells]
    · have hcells:∀ j u,news[j]?=some u → w.cell? (ad.add j)=some u:=by
        intro j u hu
        rcases Nat.eq_zero_or_pos m with h0 | h0
        · subst h0
          have hn:news=[]:=List.eq_nil_of_length_eq_zero (by simpa using hr.1)
          subst hn
          simp at hu
        · obtain ⟨ad',h,_,_,hc⟩:=hr.2 h0
          injection h with h
          subst h
          exact hc j u hu
      obtain ⟨v',w',hrun,h2,h3,_,h5⟩:=run_append_own_at (P:=P) w 0 t ty e i z size bytes T.und hi hz hs hby hzs T.pos.1 (.slice A n c) n xs hrow ad m c2 news hr.1 hcells h1 h63 hb (Nat.zero_le _)
      exact ⟨v',w',hrun,h2,h3,h5⟩
  obtain ⟨v',w',hrun,hown,hg,hat⟩:=key
  obtain ⟨A',c',rfl,_⟩:=ownsRow_slice hown
  refine ⟨A',c',w',hrun,hS.step k hk ((Chg.of_grown hg).mono (fun g hx => .inl hx)) (rowI e size A' (n + m) c' (xs ++ news)) hown (fun g hx => ?_),(Chg.of_grown hg).mono (fun g hx => .inl hx)⟩
  have hx':(Value.slice A' (n + m) c').ownBlock=some g:=hx
  rcases hat with h | h
  · exact .inl (by show (Value.slice A n c).ownBlock=some g; rw [← h]; exact hx')
  · rw [h] at hx'
    injection hx' with hx'
    exact .inr (by omega)
theorem wpList_app {w:World} {ops:Array Oper} {rest:List Oper} {o:Oper} {a:Act} {Q:Exit → Act → World → Prop} (hgd:o.guard=none) (s x:Operand) (t:TypeId)
    (ho:o.op=.call { callee:=.builtin .append,args:=#[s,x],argTypes:=#[t,t] })
    {F:Nat → Prop} {W:World} {items:List Item} {e size n c bytes:Nat} {A:Option Addr} {xs:List Value} (T:SliceT P t e size bytes) (hS:Sep F W w items) (k:Nat) (hk:items[k]?=some (rowI e size A n c xs)) (hs:a.eval s=.slice A n c)
    {A2:Option Addr} {m c2:Nat} {news:List Value} (hx:a.eval x=.slice A2 m c2) (hr:Rd w (fun _ => True) size A2 m news) (h1:∀ u ∈ news,u.oneCell'=true) (hb:(n + m) * bytes ≤ 140737488355328)
    (h:∀ A' c' w',Sep F W w' (items.set k (rowI e size A' (n + m) c' (xs ++ news))) → Chg (rowI e size A n c xs).fp w w' → wpList P ops Q rest (a.put o.dst (.slice A' (n + m) c')) w'):wpList P ops Q (o :: rest) a w :=
  wpList_plain hgd fun K hK => by
    obtain ⟨A',c',w',hrun,hS',hC'⟩:=hS.app (ty:=o.type) T k hk (c2:=c2) hr h1 hb
    unfold Oper.wp execOp
    simp only [ho,resolve,invoke,builtin,Sem.run_bind,Sem.run_pure,Result.andThen_ok,List.map_toArray,List.map_cons,List.map_nil,hs,hx,hrun]
    exact hK _ _ (h A' c' w' hS' hC')
theorem rd_new (w:World) (e:TypeId) (cs:Array Value) (size:Nat) (hs:cs.size=size):Rd (w.alloc (.cells cs e)) (fun _ => True) size (some ⟨w.heap.size,0,none⟩) 1 cs.toList :=
  ⟨by simp [hs],fun _ => ⟨_,rfl,trivial,by simp,fun j u hu => by
    have h:=(Blk.new w e cs).cell j
    unfold Addr.add
    split
    · rename_i hj
      subst hj
      rw [h]; simpa using hu
    · rw [show (⟨w.heap.size,0 + j,none⟩:Addr)=⟨w.heap.size,j,none⟩ from by simp,h]; simpa using hu⟩⟩
theorem wpList_app1 {w:World} {ops:Array Oper} {rest:List Oper} {o:Oper} {a:Act} {Q:Exit → Act → World → Prop} (hgd:o.guard=none) (s x:Operand) (t:TypeId)
    (ho:o.op=.call { callee:=.builtin .append,args:=#[s,x],argTypes:=#[t,t] })
    {F:Nat → Prop} {W:World} {items:List Item} {e size n c bytes:Nat} {A:Option Addr} {xs:List Value} (T:SliceT P t e size bytes) (hS:Sep F W w items) (k:Nat) (hk:items[k]?=some (rowI e size A n c xs)) (hs:a.eval s=.slice A n c)
    {cs:Array Value} {g:Nat} (hx:a.eval x=.slice (some ⟨g,0,none⟩) 1 1) (hgz:w.heap.size=g) (hcs:cs.size=size) (h1:cs.toList.all Value.oneCell'=true) (hb:(n + 1) * bytes ≤ 140737488355328)
    (h:∀ A' c' w',Sep F W w' (items.set k (rowI e size A' (n + 1) c' (xs ++ cs.toList))) → Chg (rowI e size A n c xs).fp w w' → wpList P ops Q rest (a.put o.dst (.slice A' (n + 1) c')) w'):wpList P ops Q (o :: rest) a (w.alloc (.cells cs e)) :=
  by subst hgz; exact wpList_app hgd s x t ho T (hS.alloc _) k hk hs hx (rd_new w e cs size hcs) (fun u hu => List.all_eq_true.1 h1 u hu) hb fun A' c' w' h2 h3 => h A' c' w' h2 (((Chg.refl _ w).alloc _).trans h3 (fun _ hg => .inl hg))
theorem step_app {w:World} {ops:Array Oper} {o:Oper} {a:Act} {K:Act → World → Prop} {Q:Exit → Act → World → Prop} {E:Prop} (hgd:o.guard=none) (s x:Operand) (t:TypeId)
    (ho:o.op=.call { callee:=.builtin .append,args:=#[s,x],argTypes:=#[t,t] })
    {F:Nat → Prop} {W:World} {items:List Item} {e size n c bytes:Nat} {A:Option Addr} {xs:List Value} (T:SliceT P t e size bytes) (hS:Sep F W w items) (k:Nat) (hk:items[k]?=some (rowI e size A n c xs)) (hs:a.eval s=.slice A n c)
    {A2:Option Addr} {m c2:Nat} {news:List Value} (hx:a.eval x=.slice A2 m c2) (hr:Rd w (fun _ => True) size A2 m news) (h1:∀ u ∈ news,u.oneCell'=true) (hb:(n + m) * bytes ≤ 140737488355328)
    (h:∀ A' c' w',Sep F W w' (items.set k (rowI e size A' (n + m) c' (xs ++ news))) → Chg (rowI e size A n c xs).fp w w' → K (a.put o.dst (.slice A' (n + m) c')) w') :
    if Region.wanted o (yielded ops a.tmps)=true then Oper.wp P o a w K Q else E:=by
  have hw:Region.wanted o (yielded ops a.tmps)=true:=by simp [Region.wanted,hgd]
  rw [if_pos hw]
  obtain ⟨A',c',w',hrun,hS',hC'⟩:=hS.app (ty:=o.type) T k hk (c2:=c2) hr h1 hb
  unfold Oper.wp execOp
  simp only [ho,resolve,invoke,builtin,Sem.run_bind,Sem.run_pure,Result.andThen_ok,List.map_toArray,List.map_cons,List.map_nil,hs,hx,hrun]
  exact h A' c' w' hS' hC'
theorem step_app1 {w:World} {ops:Array Oper} {o:Oper} {a:Act} {K:Act → World → Prop} {Q:Exit → Act → World → Prop} {E:Prop} (hgd:o.guard=none) (s x:Operand) (t:TypeId)
    (ho:o.op=.call { callee:=.builtin .append,args:=#[s,x],argTypes:=#[t,t] })
    {F:Nat → Prop} {W:World} {items:List Item} {e size n c bytes:Nat} {A:Option Addr} {xs:List Value} (T:SliceT P t e size bytes) (hS:Sep F W w items) (k:Nat) (hk:items[k]?=some (rowI e size A n c xs)) (hs:a.eval s=.slice A n c)
    {cs:Array Value} {g:Nat} (hx:a.eval x=.slice (some ⟨g,0,none⟩) 1 1) (hgz:w.heap.size=g) (hcs:cs.size=size) (h1:cs.toList.all Value.oneCell'=true) (hb:(n + 1) * bytes ≤ 140737488355328)
    (h:∀ A' c' w',Sep F W w' (items.set k (rowI e size A' (n + 1) c' (xs ++ cs.toList))) → Chg (rowI e size A n c xs).fp w w' → K (a.put o.dst (.slice A' (n + 1) c')) w') :
    if Region.wanted o (yielded ops a.tmps)=true then Oper.wp P o a (w.alloc (.cells cs e)) K Q else E :=
  by subst hgz; exact step_app hgd s x t ho T (hS.alloc _) k hk hs hx (rd_new w e cs size hcs) (fun u hu => List.all_eq_true.1 h1 u hu) hb fun A' c' w' h2 h3 => h A' c' w' h2 (((Chg.refl _ w).alloc _).trans h3 (fun _ hg => .inl hg))
theorem step_app1d {w:World} {ops:Array Oper} {o:Oper} {a:Act} {K:Act → World → Prop} {Q:Exit → Act → World → Prop} {E:Prop} (hgd:o.guard=none) (s x:Operand) (t:TypeId)
    (ho:o.op=.call { callee:=.builtin .append,args:=#[s,x],argTypes:=#[t,t] })
    {F:Nat → Prop} {W:World} {items:List Item} {e size n c bytes:Nat} {A:Option Addr} {xs:List Value} (T:SliceT P t e size bytes) (hS:Sep F W w items) (k:Nat) (hk:items[k]?=some (rowI e size A n c xs)) (hs:a.eval s=.slice A n c)
    {cs:Array Value} {g:Nat} (hx:a.eval x=.slice (some ⟨g,0,none⟩) 1 1) (hgz:w.heap.size=g) (hcs:cs.size=size) (h1:cs.toList.all Value.oneCell'=true) (hb:(n + 1) * bytes ≤ 140737488355328)
    (h:∀ A' c' w',Sep F W w' (items.set k (rowI e size A' (n + 1) c' (xs ++ cs.toList))) → Chg (rowI e size A n c xs).fp w w' → K (a.put o.dst (.slice A' (n + 1) c')) w') :
    if Region.wanted o (yielded ops a.tmps)=true then Oper.wp P o a (w.alloc (.cells cs e)).drew K Q else E :=
  by subst hgz; exact step_app hgd s x t ho T (hS.alloc _).drew k hk hs hx ((rd_new w e cs size hcs).keep (Nat.le_refl _) (fun _ _ _ => rfl)) (fun u hu => List.all_eq_true.1 h1 u hu) hb fun A' c' w' h2 h3 => h A' c' w' h2 (((Chg.refl _ w).alloc _).drew.trans h3 (fun _ hg => .inl hg))
theorem wpList_make {w:World} {ops:Array Oper} {rest:List Oper} {o:Oper} {a:Act} {Q:Exit → Act → World → Prop}
    (hg:o.guard=none) (l c:Operand) (t:TypeId) (hop:o.op=Op.makeSlice t l c)
    {F:Nat → Prop} {W:World} {items:List Item} (hS:Sep F W w items) {e size bytes:Nat} (h1:P.underlying t=some (.slice e)) {z:Value} (h2:(P.info? e).map (fun i => (i.zero,i.size,i.bytes))=some (some z,size,bytes)) (h0:0 < bytes)
    (kl kc:IntKind) (n:Nat) (hl:a.eval l=.int kl (n:Int)) (hc:a.eval c=.int kc (n:Int)) (hb:bytes * n ≤ 140737488355328)
    (hK:∀ w',Sep F W w' (items ++ [rowI e size (some ⟨w.heap.size,0,none⟩) n n (madeCells z.cells (n * size)).toList]) → Below w.heap.size w w' → wpList P ops Q rest (a.put o.dst (.slice (some ⟨w.heap.size,0,none⟩) n n)) w') :
    wpList P ops Q (o :: rest) a w:=by
  obtain ⟨i,hi,hz,hs,hby⟩:=info_parts h2
  have hn:n ≤ bytes * n:=Nat.le_mul_of_pos_left _ h0
  refine wpList_make_full w hg l c t hop 0 e i z size h1 hi hz hs kl kc n n n hl hc rfl rfl (by rw [hby]; omega) (by simp only [maxLen]; omega) (Nat.zero_le _) fun w' h3 h4 => ?_
  have hbw:Below w.heap.size w w':=(Chg.of_grown h4).below (fun g hg => by cases hg)
  exact hK w' (hS.snocNew hbw (rowI e size (some ⟨w.heap.size,0,none⟩) n n (madeCells z.cells (n * size)).toList) h3 (fun g hg => by
    have:w.heap.size=g:=by simpa [rowI,Value.ownBlock] using hg
    omega)) hbw
end
end Go.Proofs.YtjphckfbbiehdaaGreat

namespace Go.Proofs.YtjphckfbbiehdaaGreat
open Go.RowKit
theorem sInt:SliceT Tryz.prog 33 3 1 8:=SliceT.mk_ Tryz.underlying33 (z:=.int .i64 0) (by kernel_rfl) rfl (by omega)
abbrev ints (l:List Int):List Value:=l.map (Value.int .i64)
theorem ret_bool {a b:Bool} (h:a=b):Ending.returned (.bool a)=.returned (.bool b):=by rw [h]
end Go.Proofs.YtjphckfbbiehdaaGreat
