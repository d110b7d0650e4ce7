/- A memory with colours as a machine's memory. A memory with colours: a barrier by its number; one grey object's work. graph.Targets(l), an iterator: its contract; the law of a range over it, where a call has things of its own that lie apart. A memory with colours: a round begins. -/
import Derived.Test.YtjphckfbbiehdaaSBuddyPlays12
import Derived.RangeFuncNested
import Derived.RangeFuncBox
import Derived.RangeFuncBound
import Derived.RangeFuncCalls
import Derived.RangeFuncLeaves
import Derived.Shelf.Abstract
import Derived.Shelf.RegionOpen
import Derived.OwnWalkIn
import Derived.TacticsInMore
import Derived.LoopNIn
import Derived.LoopIn
import Derived.Test.YtjphckfbbiehdaaSBuddyPlays2
set_option linter.unusedSimpArgs false
set_option linter.unusedVariables false
namespace Go.Proofs.Ytjphckfbbiehdaa
open Go.RowKit
structure CoA where
  regs : List Val
  objs : List (Option (List Val))
  cols : List Int
  gone : List Int
def CoA.fld (a : CoA) (i : Nat) : Option (List Val) := (a.objs[i]?).getD none
def CoA.vok (a : CoA) (v : Val) : Prop := v.1 = true → ∃ (i : Nat) (fs : List Val), v.2 = (i : Int) ∧ a.fld i = some fs
structure CoOk (a : CoA) : Prop where
  r8 : a.regs.length = 8
  cl : a.cols.length = a.objs.length
  n : a.objs.length ≤ 500
  vr : ∀ v ∈ a.regs, a.vok v
  vf : ∀ i fs v, a.fld i = some fs → v ∈ fs → a.vok v
  f4 : ∀ i fs, a.fld i = some fs → fs.length ≤ 4
theorem CoA.fld_at {a : CoA} {i : Nat} {fs : List Val} (h : a.fld i = some fs) : a.objs[i]? = some (some fs) ∧ i < a.objs.length := by
  unfold CoA.fld at h
  cases h2 : a.objs[i]? with
  | none => rw [h2] at h; cases h
  | some o =>
    rw [h2] at h
    have h3 : o = some fs := h
    subst h3
    exact ⟨rfl, (List.getElem?_eq_some_iff.1 h2).1⟩
def coNew (a : CoA) (n : Nat) : CoA × Int × Int :=
  if 24 ≤ (thereL a.objs).length then (a, 0, 6) else ({ a with objs := a.objs ++ [some (zeroVs n)], cols := a.cols ++ [2] }, a.objs.length, 0)
def coPut (b : BarK) (a : CoA) (i k : Nat) (v : Val) : CoA :=
  { a with objs := a.objs.set i (some (((a.fld i).getD []).set k v)), cols := b.f a.cols i (((a.fld i).getD []).getD k (false, 0)) v }
theorem coNew_ok {a : CoA} (ok : CoOk a) (hn : a.objs.length < 500) (n : Nat) (h4 : n ≤ 4) : CoOk (coNew a n).1 ∧ ((coNew a n).2.2 = 0 → (coNew a n).1.vok (true, (coNew a n).2.1)) := by
  unfold coNew
  split
  · exact ⟨ok, fun h => by cases h⟩
  · dsimp only
    have hfo : ∀ i fs, a.fld i = some fs → (⟨a.regs, a.objs ++ [some (zeroVs n)], a.cols ++ [2], a.gone⟩ : CoA).fld i = some fs := fun i fs h => by
      obtain ⟨h1, h2⟩ := CoA.fld_at h
      unfold CoA.fld
      dsimp only
      rw [List.getElem?_append_left h2, h1]; rfl
    have hvo : ∀ v, a.vok v → (⟨a.regs, a.objs ++ [some (zeroVs n)], a.cols ++ [2], a.gone⟩ : CoA).vok v := fun v h h1 => by
      obtain ⟨i, fs, e, hf⟩ := h h1
      exact ⟨i, fs, e, hfo i fs hf⟩
    have hfn : ∀ i fs, (⟨a.regs, a.objs ++ [some (zeroVs n)], a.cols ++ [2], a.gone⟩ : CoA).fld i = some fs → a.fld i = some fs ∨ (i = a.objs.length ∧ fs = zeroVs n) := fun i fs h => by
      obtain ⟨h1, h2⟩ := CoA.fld_at h
      dsimp only at h1 h2
      rcases Nat.lt_or_ge i a.objs.length with hlt | hge
      · rw [List.getElem?_append_left hlt] at h1
        exact .inl (by unfold CoA.fld; rw [h1]; rfl)
      · have hi : i = a.objs.length := by rw [List.length_append] at h2; simp at h2; omega
        subst hi
        simp at h1
        exact .inr ⟨rfl, h1.symm⟩
    refine ⟨⟨ok.r8, by simp [ok.cl], by simp; omega, fun v hv => hvo v (ok.vr v hv), ?_, ?_⟩, fun _ => ?_⟩
    · intro i fs v hf hv
      rcases hfn i fs hf with h | ⟨_, rfl⟩
      · exact hvo v (ok.vf i fs v h hv)
      · intro h1
        obtain ⟨_, rfl⟩ := List.mem_replicate.1 hv
        cases h1
    · intro i fs hf
      rcases hfn i fs hf with h | ⟨_, rfl⟩
      · exact ok.f4 i fs h
      · simp [zeroVs]; exact h4
    · intro _
      exact ⟨a.objs.length, zeroVs n, rfl, by unfold CoA.fld; simp⟩
end Go.Proofs.Ytjphckfbbiehdaa

namespace Go.Proofs.Ytjphckfbbiehdaa
open Go.RowKit
def shadeL (cols : List Int) (vs : List Val) : List Int := vs.foldl shadeC cols
theorem shadeL_len (cols : List Int) (vs : List Val) : (shadeL cols vs).length = cols.length := by
  unfold shadeL
  induction vs generalizing cols with
  | nil => rfl
  | cons v vs ih => rw [List.foldl_cons, ih, shadeC_len]
end Go.Proofs.Ytjphckfbbiehdaa

namespace Go.Proofs.Ytjphckfbbiehdaa
open Go.RowKit Go.Shelf
attribute [local go_sem] Oper.semAt_some
/-- The objects to which references of some values go, in order. -/
def tgts (vs : List Val) : List Int := vs.filterMap fun v => if v.1 = true then some v.2 else none
theorem tgts_mem {vs : List Val} {x : Int} : x ∈ tgts vs ↔ (true, x) ∈ vs := by
  unfold tgts
  rw [List.mem_filterMap]
  constructor
  · rintro ⟨⟨b, y⟩, hv, h⟩
    split at h
    · rename_i hb
      dsimp only at hb h
      injection h with h
      subst h; subst hb; exact hv
    · cases h
  · intro h
    exact ⟨(true, x), h, by simp⟩
/-! ### What a round keeps: the blocks of a set D. -/
def KpD (D : Nat → Prop) (W W' : World) : Prop := W.heap.size ≤ W'.heap.size ∧ ∀ k, k < W.heap.size → D k → W'.heap[k]? = W.heap[k]?
theorem KpD.refl (D : Nat → Prop) (W : World) : KpD D W W := ⟨Nat.le_refl _, fun _ _ _ => rfl⟩
theorem KpD.trans {D : Nat → Prop} {A B C : World} (h : KpD D A B) (k : KpD D B C) : KpD D A C := ⟨Nat.le_trans h.1 k.1, fun i hi hd => (k.2 i (Nat.lt_of_lt_of_le hi h.1) hd).trans (h.2 i hi hd)⟩
theorem KpD.alloc {D : Nat → Prop} (A : World) (o : Obj) : KpD D A (A.alloc o) := ⟨by simp, fun k hk _ => Below.heap_alloc A o k hk⟩
theorem KpD.rd {D : Nat → Prop} {A B : World} (h : KpD D A B) {size n : Nat} {ad : Option Addr} {xs : List Value} (hr : Rd A D size ad n xs) : Rd B D size ad n xs := hr.keep h.1 h.2
theorem KpD.blk {D : Nat → Prop} {A B : World} (h : KpD D A B) {g : Nat} {t : TypeId} {cs : Array Value} (hb : Blk A g t cs) (hd : D g) : Blk B g t cs := (h.2 g hb.lt hd).trans hb
theorem KpD.obs {D : Nat → Prop} {A B : World} (h : KpD D A B) {ad : Option Addr} {n : Nat} {obs : List Ob} (ho : ObsRd A D ad n obs) : ObsRd B D ad n obs := ho.keep h.1 h.2
theorem KpD.less {D D' : Nat → Prop} {A B : World} (h : KpD D A B) (hd : ∀ k, D' k → D k) : KpD D' A B := ⟨h.1, fun k hk hk2 => h.2 k hk (hd k hk2)⟩
/-! ### Things whose blocks are cells, or older than a loop. -/
def Tame (B : Nat) (i : Item) : Prop := ∀ w, i.P w → ∀ k, i.fp k → k < B ∨ ∃ o : Obj, w.heap[k]? = some o ∧ o.isCells = true
theorem Tame.row (B e size : Nat) (A : Option Addr) (n c : Nat) (xs : List Value) : Tame B (rowI e size A n c xs) := by
  intro w h k hk
  have h1 : (Value.slice A n c).ownBlock = some k := hk
  rcases h.2 with ⟨hv, _⟩ | ⟨g, cap, cur, hv, _, hh, _⟩
  · rw [hv] at h1; cases h1
  · rw [hv] at h1
    have : g = k := by simpa [Value.ownBlock] using h1
    subst this
    exact .inr ⟨_, hh, rfl⟩
theorem Tame.blk (B g t : Nat) (cs : Array Value) : Tame B (blkI g t cs) := by
  intro w h k hk
  have : k = g := hk
  subst this
  exact .inr ⟨_, h, rfl⟩
theorem Tame.all {B : Nat} {l : List Item} (h : ∀ i ∈ l, Tame B i) : Tame B (allI l) := by
  intro w hw k hk
  obtain ⟨i, hi, hik⟩ := hk
  exact h i hi w (hw.1 i hi) k hik
theorem Tame.up {B B' : Nat} {i : Item} (h : Tame B i) (hb : B ≤ B') : Tame B' i := fun w hw k hk => (h w hw k hk).imp (fun h1 => Nat.lt_of_lt_of_le h1 hb) id
theorem Tame.far {B k : Nat} {i : Item} {w : World} {o : Obj} (h : Tame B i) (hw : i.P w) (hk : B ≤ k) (ho : w.heap[k]? = some o) (hc : o.isCells = false) : ¬ i.fp k := fun hf => by
  rcases h w hw k hf with h1 | ⟨o', h1, h2⟩
  · omega
  · rw [ho] at h1; injection h1 with h1; subst h1; rw [hc] at h2; cases h2
/-- A step that turns no cells, from a loop's beginning on: things stay. -/
theorem Sep.grown {F : Nat → Prop} {W w w' : World} {i : Item} {B : Nat} {row : Option Nat} (h : Sep F W w [i]) (ht : Tame B i) (hB : W.heap.size ≤ B) (hg : w.grownBy w' row) (hr : ∀ r, row = some r → B ≤ r ∧ ∃ o : Obj, w.heap[r]? = some o ∧ o.isCells = false) : Sep F W w' [i] := by
  have hP : i.P w := h.all i (by simp)
  have hne : ∀ k, i.fp k → some k ≠ row := fun k hk e => by
    obtain ⟨h1, o, h2, h3⟩ := hr k e.symm
    exact ht.far hP h1 h2 h3 hk
  refine ⟨h.bel.trans (Chg.of_grown hg) (fun g hgr => ?_), fun j hj => ?_, h.own, h.apart⟩
  · obtain ⟨h1, _⟩ := hr g hgr
    exact .inr (by have := h.bel.size; have h2 := (hr g hgr).2; omega)
  · have : j = i := by simpa using hj
    subst this
    exact j.loc w w' hg.size (fun k hk => hg.block k (j.dom w hP k hk) (fun e => hne k hk e)) hP
/-! ### The mark of a loop among the deferred calls. -/
def Colls (B : Nat) (w : World) : List Deferred → Prop
  | [] => True
  | d :: ds => ∃ D : Nat, d = { target := .collected D, args := #[] } ∧ B ≤ D ∧ w.heap[D]? = some (.deferred (some [])) ∧ (∀ d' ∈ ds, ∃ D' : Nat, d' = { target := .collected D', args := #[] } ∧ D' < D) ∧ Colls B w ds
theorem Colls.keep {B : Nat} {w w' : World} : ∀ {ds : List Deferred}, Colls B w ds → (∀ (k : Nat) (o : Obj), B ≤ k → w.heap[k]? = some o → o.isCells = false → w'.heap[k]? = some o) → Colls B w' ds
  | [], _, _ => trivial
  | d :: ds, ⟨D, h1, h2, h3, h4, h5⟩, hk => ⟨D, h1, h2, hk D _ h2 h3 rfl, h4, h5.keep hk⟩
theorem Colls.keeps {B : Nat} {w w' : World} {ds : List Deferred} (h : Colls B w ds) (hk : KeepsFrom B w w') : Colls B w' ds := h.keep hk.same
theorem Colls.lt {B : Nat} {w : World} : ∀ {ds : List Deferred}, Colls B w ds → ∀ d ∈ ds, ∃ D : Nat, d = { target := .collected D, args := #[] } ∧ D < w.heap.size
  | [], _, _, hd => by simp at hd
  | _ :: _, ⟨D, h1, _, h3, _, h5⟩, d, hd => by
    rcases List.mem_cons.1 hd with rfl | hd
    · exact ⟨D, h1, (Array.getElem?_eq_some_iff.1 h3).1⟩
    · exact h5.lt d hd
/-! ### The iterator. -/
/-! ### The law of the loop. -/
/-! ### Appends and makes inside a fence. -/
end Go.Proofs.Ytjphckfbbiehdaa

namespace Go.Proofs.Ytjphckfbbiehdaa
open Go.RowKit Go.Shelf
attribute [local go_sem] Oper.semAt_some
def greyL (l xs : List Int) : List Int := xs.foldl (fun l x => l.set x.toNat 1) l
theorem greyL_len (l xs : List Int) : (greyL l xs).length = l.length := by
  unfold greyL
  induction xs generalizing l with
  | nil => rfl
  | cons x xs ih => rw [List.foldl_cons, ih, List.length_set]
def beginC (n : Nat) (regs : List Val) : List Int := greyL (List.replicate n 0) (tgts regs)
end Go.Proofs.Ytjphckfbbiehdaa
