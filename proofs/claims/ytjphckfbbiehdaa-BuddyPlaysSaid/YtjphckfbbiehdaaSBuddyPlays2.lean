/- graph: what a graph's memory holds; the test of an object; slices.ContainsFunc over objects. graph: values(g), an iterator: its contract. graph: a graph that a call hands back. The order in which objects are found: plain. The reference's place, turned, Order. The reference's Order. A machine over a memory without end: what it has in memory; its registers; a value's place in a row. A machine over a memory without end: a field becomes a value; a new object; a register becomes a value. A machine over a memory without end: a new object; a register becomes a value; what is wrong with a field. A machine over a memory without end: a register becomes a value; what is wrong with a field. A machine: what is wrong with what is to be done. A machine, plain: what is done. The reference's memory: what it has; a register's place, an object's, a field's; what a store turns. -/
import Derived.Test.YtjphckfbbiehdaaSBuddyPlays1
import Derived.RangeFuncNested
import Derived.RangeFuncBox
import Derived.RangeFuncBound
import Derived.RangeFuncCalls
import Derived.RangeFuncLeaves
import Derived.Shelf.Abstract
import Derived.Shelf.RegionOpen
import Derived.OwnWalkIn
import Derived.TacticsInMore
import Derived.LoopNIn
import Derived.LoopIn
import Derived.Deep.RegionHeld3
import Derived.Deep.OwnRows
import Derived.StillTailTactics
set_option linter.unusedSimpArgs false
set_option linter.unusedVariables false
namespace Go.Proofs.Ytjphckfbbiehdaa
open Go.RowKit
/-- A value: is it a reference, and its number. -/
abbrev Val := Bool × Int
def vals (l : List Val) : List Value := l.flatMap fun v => [.bool v.1, .int .i64 v.2]
theorem vals_length (l : List Val) : (vals l).length = l.length * 2 := by
  unfold vals; induction l with
  | nil => rfl
  | cons a l ih => simp [List.flatMap_cons] at ih ⊢; omega
theorem vals_at (l : List Val) (k : Nat) (h : k < l.length) : (vals l)[k * 2]? = some (.bool l[k].1) ∧ (vals l)[k * 2 + (0 + 1)]? = some (.int .i64 l[k].2) := by
  unfold vals
  induction l generalizing k with
  | nil => simp at h
  | cons a l ih =>
    cases k with
    | zero => exact ⟨rfl, rfl⟩
    | succ k =>
      have h' : k < l.length := by simpa using h
      have := ih k h'
      simp only [List.flatMap_cons]
      rw [show (k + 1) * 2 = k * 2 + 2 from by omega]
      simpa [Nat.add_right_comm _ 2] using this
/-- An object: where its fields lie, and what they are. -/
structure Ob where
  A : Option Addr
  n : Nat
  c : Nat
  fields : List Val
def Ob.val (o : Ob) : Value := .slice o.A o.n o.c
/-- Objects that read, in blocks of a set D. -/
structure ObsRd (w : World) (D : Nat → Prop) (A : Option Addr) (n : Nat) (obs : List Ob) : Prop where
  row : Rd w D 1 A n (obs.map Ob.val)
  each : ∀ o ∈ obs, Rd w D 2 o.A o.n (vals o.fields)
theorem ObsRd.len {w : World} {D : Nat → Prop} {A : Option Addr} {n : Nat} {obs : List Ob} (h : ObsRd w D A n obs) : obs.length = n := by
  have := h.row.1; simpa using this
theorem ObsRd.keep {w w' : World} {D : Nat → Prop} {A : Option Addr} {n : Nat} {obs : List Ob} (h : ObsRd w D A n obs) (hs : w.heap.size ≤ w'.heap.size) (hk : ∀ k, k < w.heap.size → D k → w'.heap[k]? = w.heap[k]?) : ObsRd w' D A n obs :=
  ⟨h.row.keep hs hk, fun o ho => (h.each o ho).keep hs hk⟩
theorem ObsRd.below {w w' : World} {D : Nat → Prop} {A : Option Addr} {n : Nat} {obs : List Ob} (h : ObsRd w D A n obs) (hb : Below w.heap.size w w') : ObsRd w' D A n obs := h.keep hb.size fun k hk _ => hb.block k hk
theorem ObsRd.chg {w w' : World} {D S : Nat → Prop} {A : Option Addr} {n : Nat} {obs : List Ob} (h : ObsRd w D A n obs) (hc : Chg S w w') (hM : ∀ g, S g → ¬ D g) : ObsRd w' D A n obs := h.keep hc.size fun k hk hd => hc.block k hk (fun hm => hM k hm hd)
theorem ObsRd.more {w : World} {D D' : Nat → Prop} {A : Option Addr} {n : Nat} {obs : List Ob} (h : ObsRd w D A n obs) (hD : ∀ k, k < w.heap.size → D k → D' k) : ObsRd w D' A n obs :=
  ⟨h.row.more hD, fun o ho => (h.each o ho).more hD⟩
def large (o : Ob) : Bool := decide (4 < o.n)
end Go.Proofs.Ytjphckfbbiehdaa

namespace Go.Proofs.Ytjphckfbbiehdaa
open Go.RowKit Go.Shelf
attribute [local go_sem] Oper.semAt_some
/-- What a round keeps: whatever lay below n₀, and the graph's own block. -/
def KpG (n₀ Bg : Nat) (W W' : World) : Prop := Below n₀ W W' ∧ W'.heap[Bg]? = W.heap[Bg]?
theorem KpG.alloc {n₀ Bg : Nat} {A : World} (h1 : n₀ ≤ A.heap.size) (h2 : Bg < A.heap.size) (o : Obj) : KpG n₀ Bg A (A.alloc o) := ⟨(Below.refl _ _).alloc h1 _, Below.heap_alloc A o Bg h2⟩
end Go.Proofs.Ytjphckfbbiehdaa

namespace Go.Proofs.Ytjphckfbbiehdaa
open Go.RowKit
structure GraphRd (w : World) (D : Nat → Prop) (v : Value) (fss : List (List Val)) (roots : List Val) : Prop where
  ex : ∃ AO nO cO AR nR cR obs, v = .agg #[.slice AO nO cO, .slice AR nR cR] ∧ ObsRd w D AO nO obs ∧ obs.map Ob.fields = fss ∧ Rd w D 2 AR nR (vals roots)
theorem GraphRd.below {w w' : World} {D : Nat → Prop} {v : Value} {fss : List (List Val)} {roots : List Val} (h : GraphRd w D v fss roots) (hb : Below w.heap.size w w') : GraphRd w' D v fss roots := by
  obtain ⟨AO, nO, cO, AR, nR, cR, obs, h1, h2, h3, h4⟩ := h.ex
  exact ⟨AO, nO, cO, AR, nR, cR, obs, h1, h2.below hb, h3, h4.below hb⟩
theorem GraphRd.more {w : World} {D D' : Nat → Prop} {v : Value} {fss : List (List Val)} {roots : List Val} (h : GraphRd w D v fss roots) (hD : ∀ k, k < w.heap.size → D k → D' k) : GraphRd w D' v fss roots := by
  obtain ⟨AO, nO, cO, AR, nR, cR, obs, h1, h2, h3, h4⟩ := h.ex
  exact ⟨AO, nO, cO, AR, nR, cR, obs, h1, h2.more hD, h3, h4.more hD⟩
theorem GraphRd.nil (w : World) (D : Nat → Prop) : GraphRd w D (.agg #[.slice none 0 0, .slice none 0 0]) [] [] := ⟨none, 0, 0, none, 0, 0, [], rfl, ⟨Rd.nil, by simp⟩, rfl, Rd.nil⟩
/-- An object's fields as an item. -/
def obI (o : Ob) : Item := rowI 107 2 o.A o.n o.c (vals o.fields)
end Go.Proofs.Ytjphckfbbiehdaa

namespace Go.Proofs.Ytjphckfbbiehdaa
theorem nodup_sum {α : Type} [DecidableEq α] (f : α → Nat) (l m : List α) (hn : l.Nodup) (hs : ∀ x ∈ l, x ∈ m) : (l.map f).sum ≤ (m.map f).sum := by
  induction l generalizing m with
  | nil => simp
  | cons a l ih =>
    obtain ⟨h1, h2⟩ := List.nodup_cons.1 hn
    have hp := ((List.perm_cons_erase (hs a (by simp))).map f).sum_nat
    have h3 := ih (m.erase a) h2 (fun x hx => (List.mem_erase_of_ne (by rintro rfl; exact h1 hx)).2 (hs x (by simp [hx])))
    simp only [List.map_cons, List.sum_cons] at hp ⊢
    omega
theorem nodup_len (l : List Int) (n : Nat) (hn : l.Nodup) (hs : ∀ x ∈ l, 0 ≤ x ∧ x < (n : Int)) : l.length ≤ n := by
  have h := nodup_sum (fun _ => 1) l ((List.range n).map Int.ofNat) hn (fun x hx => by
    obtain ⟨a, b⟩ := hs x hx
    exact List.mem_map.2 ⟨x.toNat, List.mem_range.2 (by omega), by show ((x.toNat : Nat) : Int) = x; omega⟩)
  have e : ∀ m : List Int, (m.map (fun _ => 1)).sum = m.length := fun m => by
    induction m with
    | nil => rfl
    | cons a m ih => simp only [List.map_cons, List.sum_cons, List.length_cons, ih]; omega
  rw [e, e] at h
  simpa using h
def seen1 (l : List Int) (v : Val) : List Int := if v.1 = true ∧ v.2 ∉ l then l ++ [v.2] else l
def seenAll (l : List Int) (vs : List Val) : List Int := vs.foldl seen1 l
def fieldsI (gs : List (List Val)) (x : Int) : List Val := gs.getD x.toNat []
def bfs (gs : List (List Val)) : Nat → Nat → List Int → List Int
  | 0, _, l => l
  | f + 1, k, l => if k < l.length then bfs gs f (k + 1) (seenAll l (fieldsI gs (l.getD k 0))) else l
def order (gs : List (List Val)) (vs : List Val) : List Int := bfs gs gs.length 0 (seenAll [] vs)
def ValsOk (n : Nat) (vs : List Val) : Prop := ∀ v ∈ vs, v.1 = true → 0 ≤ v.2 ∧ v.2 < (n : Int)
structure OrdOk (n : Nat) (l : List Int) : Prop where
  nodup : l.Nodup
  rng : ∀ x ∈ l, 0 ≤ x ∧ x < (n : Int)
theorem OrdOk.len {n : Nat} {l : List Int} (h : OrdOk n l) : l.length ≤ n := nodup_len l n h.nodup h.rng
theorem OrdOk.nil (n : Nat) : OrdOk n [] := ⟨List.nodup_nil, by simp⟩
theorem OrdOk.seen1 {n : Nat} {l : List Int} (h : OrdOk n l) {v : Val} (hv : v.1 = true → 0 ≤ v.2 ∧ v.2 < (n : Int)) : OrdOk n (seen1 l v) := by
  unfold Go.Proofs.Ytjphckfbbiehdaa.seen1
  split
  · rename_i hc
    refine ⟨List.nodup_append.2 ⟨h.nodup, by simp, fun a ha b hb => by simp at hb; subst hb; rintro rfl; exact hc.2 ha⟩, fun x hx => ?_⟩
    rcases List.mem_append.1 hx with h1 | h1
    · exact h.rng x h1
    · simp at h1; subst h1; exact hv hc.1
  · exact h
theorem OrdOk.seenAll {n : Nat} {l : List Int} (h : OrdOk n l) {vs : List Val} (hv : ValsOk n vs) : OrdOk n (seenAll l vs) := by
  unfold Go.Proofs.Ytjphckfbbiehdaa.seenAll
  induction vs generalizing l with
  | nil => exact h
  | cons a vs ih => exact ih (h.seen1 (hv a (by simp))) (fun v hv' => hv v (by simp [hv']))
theorem fieldsI_ok {gs : List (List Val)} {n : Nat} (hg : ∀ fs ∈ gs, ValsOk n fs) (x : Int) : ValsOk n (fieldsI gs x) := by
  unfold fieldsI
  rw [List.getD_eq_getElem?_getD]
  cases h : gs[x.toNat]? with
  | none => intro v hv; simp at hv
  | some fs => exact hg fs (List.mem_of_getElem? h)
theorem OrdOk.bfs {gs : List (List Val)} {n : Nat} (hg : ∀ fs ∈ gs, ValsOk n fs) (f : Nat) {k : Nat} {l : List Int} (h : OrdOk n l) : OrdOk n (bfs gs f k l) := by
  induction f generalizing k l with
  | zero => exact h
  | succ f ih =>
    unfold Go.Proofs.Ytjphckfbbiehdaa.bfs
    split
    · exact ih (h.seenAll (fieldsI_ok hg _))
    · exact h
end Go.Proofs.Ytjphckfbbiehdaa

namespace Go.Proofs.Ytjphckfbbiehdaa
open Go.RowKit
theorem ValsOk.take {n : Nat} {vs : List Val} (h : ValsOk n vs) (k : Nat) : ValsOk n (vs.take k) := fun v hv => h v (List.mem_of_mem_take hv)
end Go.Proofs.Ytjphckfbbiehdaa

namespace Go.Proofs.Ytjphckfbbiehdaa
open Go.RowKit
theorem int_nat {x : Int} (h : 0 ≤ x) : ∃ j : Nat, x = (j : Int) := ⟨x.toNat, by omega⟩
end Go.Proofs.Ytjphckfbbiehdaa

namespace Go.Proofs.Ytjphckfbbiehdaa
open Go.RowKit
/-- An object behind a pointer. -/
structure Po where
  B : Nat
  o : Ob
def poI (p : Po) : Item := allI [blkI p.B 119 #[.slice p.o.A p.o.n p.o.c], obI p.o]
def mcCells (regs : List Val) (f : Value) : Array Value := (vals regs ++ [f]).toArray
/-- What a machine with a memory without end has in hand. -/
structure Idl where
  As : Option Addr
  c : Nat
  ps : List Po
  regs : List Val
theorem mc_reg {regs : List Val} {f : Value} {r : Nat} (h : r < regs.length) : (mcCells regs f)[r * 2]? = some (.bool regs[r].1) ∧ (mcCells regs f)[r * 2 + 1]? = some (.int .i64 regs[r].2) := by
  obtain ⟨v0, v1⟩ := vals_at regs r h
  have hl := vals_length regs
  unfold mcCells
  simp only [List.getElem?_toArray]
  refine ⟨(List.getElem?_append_left (by omega)).trans v0, (List.getElem?_append_left (by omega)).trans v1⟩
theorem mc_if {regs : List Val} {f : Value} (h : regs.length = 8) : (mcCells regs f)[16]? = some f := by
  have hl := vals_length regs
  unfold mcCells
  simp only [List.getElem?_toArray]
  rw [List.getElem?_append_right (by omega)]
  simp [hl, h]
theorem hraddr0 (g j : Nat) : (⟨g, 0, none⟩ : Addr).add j = ⟨g, j, none⟩ := by
  unfold Addr.add; split <;> simp_all
theorem hown_addr {w : World} {b e size n c : Nat} {A : Option Addr} {xs : List Value} (h : w.ownsRow b e size (.slice A n c) n xs) (hn : 0 < n) : ∃ g, A = some ⟨g, 0, none⟩ := by
  rcases h.2 with ⟨hv, rfl⟩ | ⟨g, cap, cur, hv, _⟩
  · injection hv with _ h2 _; omega
  · exact ⟨g, by injection hv⟩
end Go.Proofs.Ytjphckfbbiehdaa

namespace Go.Proofs.Ytjphckfbbiehdaa
open Go.RowKit
def Po.put (p : Po) (k : Nat) (v : Val) : Po := ⟨p.B, ⟨p.o.A, p.o.n, p.o.c, p.o.fields.set k v⟩⟩
def Idl.put (s : Idl) (i k : Nat) (v : Val) (h : i < s.ps.length) : Idl := { s with ps := s.ps.set i (s.ps[i].put k v) }
end Go.Proofs.Ytjphckfbbiehdaa

namespace Go.Proofs.Ytjphckfbbiehdaa
open Go.RowKit
def zeroVs (n : Nat) : List Val := List.replicate n (false, 0)
def Idl.new (s : Idl) (As : Option Addr) (c B g n : Nat) : Idl := { s with As := As, c := c, ps := s.ps ++ [⟨B, ⟨some ⟨g, 0, none⟩, n, n, zeroVs n⟩⟩] }
end Go.Proofs.Ytjphckfbbiehdaa

namespace Go.Proofs.Ytjphckfbbiehdaa
open Go.RowKit
def Idl.set (s : Idl) (r : Nat) (v : Val) : Idl := { s with regs := s.regs.set r v }
end Go.Proofs.Ytjphckfbbiehdaa

namespace Go.Proofs.Ytjphckfbbiehdaa
open Go.RowKit
structure DoV where
  k : Int
  to : Int
  fr : Int
  at_ : Int
  n : Int
def DoV.cells (d : DoV) : Array Value := #[.int .i64 d.k, .int .i64 d.to, .int .i64 d.fr, .int .i64 d.at_, .int .i64 d.n]
def badR (x : Int) : Bool := decide (x < 0) || decide (8 ≤ x)
def wrongM (d : DoV) : Int := if d.k < 1 ∨ 7 < d.k then 5 else if (d.k ≠ 7 ∧ badR d.to = true) ∨ (d.k ≠ 1 ∧ d.k ≠ 2 ∧ badR d.fr = true) then 2 else if d.k = 1 ∧ (d.n < 0 ∨ 4 < d.n) then 3 else if d.k = 2 ∧ (d.n < -4611686018427387904 ∨ 4611686018427387903 < d.n) then 3 else 0
end Go.Proofs.Ytjphckfbbiehdaa

namespace Go.Proofs.Ytjphckfbbiehdaa
structure MSt where
  regs : List Val
  objs : List (List Val)
structure OutV where
  code : Int
  rf : Bool
  n : Int
def OutV.val (o : OutV) : Value := .agg #[.int .i64 o.code, .bool o.rf, .int .i64 o.n]
def rgA (l : List Val) (r : Int) : Val := l.getD r.toNat (false, 0)
def obA (l : List (List Val)) (x : Int) : List Val := l.getD x.toNat []
def fErr (objs : List (List Val)) (v : Val) (at_ : Int) : Int := if v.1 = false then 5 else if at_ < 0 ∨ ((obA objs v.2).length : Int) ≤ at_ then 3 else 0
def stepK (d : DoV) (σ : MSt) : OutV × MSt :=
  if d.k = 1 then (⟨0, false, 0⟩, ⟨σ.regs.set d.to.toNat (true, σ.objs.length), σ.objs ++ [zeroVs d.n.toNat]⟩)
  else if d.k = 2 then (⟨0, false, 0⟩, ⟨σ.regs.set d.to.toNat (false, d.n), σ.objs⟩)
  else if d.k = 3 then (⟨0, false, 0⟩, ⟨σ.regs.set d.to.toNat (rgA σ.regs d.fr), σ.objs⟩)
  else if d.k = 4 then
    if fErr σ.objs (rgA σ.regs d.to) d.at_ ≠ 0 then (⟨fErr σ.objs (rgA σ.regs d.to) d.at_, false, 0⟩, σ)
    else (⟨0, false, 0⟩, ⟨σ.regs, σ.objs.set (rgA σ.regs d.to).2.toNat ((obA σ.objs (rgA σ.regs d.to).2).set d.at_.toNat (rgA σ.regs d.fr))⟩)
  else if d.k = 5 then
    if fErr σ.objs (rgA σ.regs d.fr) d.at_ ≠ 0 then (⟨fErr σ.objs (rgA σ.regs d.fr) d.at_, false, 0⟩, σ)
    else (⟨0, false, 0⟩, ⟨σ.regs.set d.to.toNat ((obA σ.objs (rgA σ.regs d.fr).2).getD d.at_.toNat (false, 0)), σ.objs⟩)
  else if d.k = 6 then (⟨0, false, if rgA σ.regs d.to = rgA σ.regs d.fr then 1 else 0⟩, σ)
  else (⟨0, (rgA σ.regs d.fr).1, if (rgA σ.regs d.fr).1 = true then (obA σ.objs (rgA σ.regs d.fr).2).length else (rgA σ.regs d.fr).2⟩, σ)
def stepM (d : DoV) (σ : MSt) : OutV × MSt := if wrongM d ≠ 0 then (⟨wrongM d, false, 0⟩, σ) else stepK d σ
/-- What a machine's state may be. -/
structure MOk (σ : MSt) : Prop where
  r8 : σ.regs.length = 8
  vr : ValsOk σ.objs.length σ.regs
  vo : ∀ fs ∈ σ.objs, ValsOk σ.objs.length fs
  f4 : ∀ fs ∈ σ.objs, fs.length ≤ 4
theorem valsOk_mono {n m : Nat} {l : List Val} (h : ValsOk n l) (hm : n ≤ m) : ValsOk m l := fun v hv h1 => by have h2 := h v hv h1; exact ⟨h2.1, by have := h2.2; omega⟩
theorem zeroVs_ok (n m : Nat) : ValsOk n (zeroVs m) := fun v hv h1 => by
  obtain ⟨_, rfl⟩ := List.mem_replicate.1 hv
  cases h1
theorem mem_set_ {α : Type} {l : List α} {i : Nat} {a b : α} (h : b ∈ l.set i a) : b ∈ l ∨ b = a := by
  rcases List.mem_or_eq_of_mem_set h with h | h
  · exact .inl h
  · exact .inr h
theorem valsOk_set {n : Nat} {l : List Val} (h : ValsOk n l) (i : Nat) {v : Val} (hv : v.1 = true → 0 ≤ v.2 ∧ v.2 < (n : Int)) : ValsOk n (l.set i v) := fun u hu h1 => by
  rcases mem_set_ hu with h2 | rfl
  · exact h u h2 h1
  · exact hv h1
theorem getD_mem_or {α : Type} (l : List α) (i : Nat) (d : α) : l.getD i d ∈ l ∨ l.getD i d = d := by
  rw [List.getD_eq_getElem?_getD]
  cases h : l[i]? with
  | none => right; rfl
  | some a => left; exact List.mem_of_getElem? h
theorem valsOk_getD {n : Nat} {l : List Val} (h : ValsOk n l) (i : Nat) : (l.getD i (false, 0)).1 = true → 0 ≤ (l.getD i (false, 0)).2 ∧ (l.getD i (false, 0)).2 < (n : Int) := fun h1 => by
  rcases getD_mem_or l i (false, 0) with h2 | h2
  · exact h _ h2 h1
  · rw [h2] at h1; cases h1
theorem MOk.ob {σ : MSt} (h : MOk σ) (x : Int) : ValsOk σ.objs.length (obA σ.objs x) ∧ (obA σ.objs x).length ≤ 4 := by
  unfold obA
  rcases getD_mem_or σ.objs x.toNat [] with h2 | h2
  · exact ⟨h.vo _ h2, h.f4 _ h2⟩
  · rw [h2]; exact ⟨fun v hv => (by cases hv), by simp⟩
theorem MOk.step {σ : MSt} (h : MOk σ) (d : DoV) : MOk (stepM d σ).2 ∧ σ.objs.length ≤ (stepM d σ).2.objs.length ∧ (stepM d σ).2.objs.length ≤ σ.objs.length + 1 := by
  unfold stepM
  by_cases hw : wrongM d ≠ 0
  · rw [if_pos hw]; exact ⟨h, Nat.le_refl _, Nat.le_succ _⟩
  rw [if_neg hw]
  unfold stepK
  have hr := fun r => valsOk_getD h.vr r
  have hwn : d.k = 1 → d.n ≤ 4 := fun hk => by
    have hw2 : wrongM d = 0 := by omega
    unfold wrongM at hw2
    rw [if_neg (by omega)] at hw2
    split at hw2
    · omega
    · split at hw2
      · omega
      · rename_i h3
        omega
  split
  · rename_i hk
    refine ⟨⟨by simp [h.r8], ?_, ?_, ?_⟩, by simp, by simp⟩
    · dsimp only
      rw [List.length_append, List.length_singleton]
      exact valsOk_set (valsOk_mono h.vr (by omega)) _ (fun _ => by dsimp only; omega)
    · dsimp only
      rw [List.length_append, List.length_singleton]
      intro fs hfs
      rcases List.mem_append.1 hfs with h1 | h1
      · exact valsOk_mono (h.vo fs h1) (by omega)
      · rw [List.mem_singleton.1 h1]; exact zeroVs_ok _ _
    · intro fs hfs
      rcases List.mem_append.1 hfs with h1 | h1
      · exact h.f4 fs h1
      · rw [List.mem_singleton.1 h1]
        have := hwn hk
        simp [zeroVs]; omega
  split
  · exact ⟨⟨by simp [h.r8], valsOk_set h.vr _ (fun h => by cases h), h.vo, h.f4⟩, Nat.le_refl _, Nat.le_succ _⟩
  split
  · exact ⟨⟨by simp [h.r8], valsOk_set h.vr _ (hr _), h.vo, h.f4⟩, Nat.le_refl _, Nat.le_succ _⟩
  split
  · split
    · exact ⟨h, Nat.le_refl _, Nat.le_succ _⟩
    · refine ⟨⟨h.r8, by simpa using h.vr, ?_, ?_⟩, by simp, by simp⟩
      · intro fs hfs
        rw [List.length_set]
        rcases mem_set_ hfs with h1 | rfl
        · exact h.vo fs h1
        · exact valsOk_set (h.ob _).1 _ (hr _)
      · intro fs hfs
        rcases mem_set_ hfs with h1 | rfl
        · exact h.f4 fs h1
        · rw [List.length_set]; exact (h.ob _).2
  split
  · split
    · exact ⟨h, Nat.le_refl _, Nat.le_succ _⟩
    · exact ⟨⟨by simp [h.r8], valsOk_set h.vr _ (valsOk_getD (h.ob _).1 _), h.vo, h.f4⟩, Nat.le_refl _, Nat.le_succ _⟩
  split
  · exact ⟨h, Nat.le_refl _, Nat.le_succ _⟩
  · exact ⟨h, Nat.le_refl _, Nat.le_succ _⟩
theorem wrongM_n {d : DoV} (h : wrongM d = 0) (hk : d.k = 1) : 0 ≤ d.n ∧ d.n ≤ 4 := by
  unfold wrongM at h
  split at h
  · omega
  · split at h
    · omega
    · split at h
      · omega
      · rename_i h3; omega
end Go.Proofs.Ytjphckfbbiehdaa

namespace Go.Proofs.Ytjphckfbbiehdaa
open Go.RowKit
def bools (l : List Bool) : List Value := l.map Value.bool
def Ob.put (o : Ob) (k : Nat) (v : Val) : Ob := ⟨o.A, o.n, o.c, o.fields.set k v⟩
end Go.Proofs.Ytjphckfbbiehdaa
