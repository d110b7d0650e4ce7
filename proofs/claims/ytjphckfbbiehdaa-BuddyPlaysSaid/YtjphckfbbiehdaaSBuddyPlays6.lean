/- slices.SortFunc over blocks, by place. slices.SortFunc of no blocks. Objects by number, some of them gone: what they have in memory; a field's value; a field becomes a value. Objects by number, some of them gone: a new one; which are there. A memory with so many words: where objects stand, as a map in memory. A map from numbers to numbers, told by a function. An entry of a map from numbers, looked for and then laid. -/
import Derived.Test.YtjphckfbbiehdaaSBuddyPlays0
import Derived.Test.YtjphckfbbiehdaaSBuddyPlays5
import Derived.Test.YtjphckfbbiehdaaSBuddyPlays2
import Derived.Maps.OwnOps
import Derived.Maps.OwnSet
import Derived.BigQuiet
import Derived.WideKeyEntry
set_option linter.unusedSimpArgs false
set_option linter.unusedVariables false
namespace Go.Proofs.Ytjphckfbbiehdaa
open Go.RowKit Go.Sort Go.Lib Go.Shelf
def encB (b : Bk) : List Value := [.int .i64 (b.1 : Int), .int .i64 (b.2 : Int)]
theorem encB_one (b : Bk) : ∀ v ∈ encB b, v.oneCell' = true := by
  intro v hv
  rcases List.mem_cons.1 hv with rfl | hv
  · rfl
  · rw [List.mem_singleton.1 hv]; rfl
def cfB (x y : Bk) : Int := cmpZ (x.1 : Int) (y.1 : Int)
theorem ltOf_cfB (x y : Bk) : ltOf cfB x y = decide (x.1 < y.1) := by
  unfold ltOf cfB
  rw [cmp_lt]
  by_cases h : x.1 < y.1
  · simp [h]
  · simp [h]
theorem swo_cfB : SWO (ltOf cfB) where
  irrefl x := by rw [ltOf_cfB]; simp
  trans x y z h1 h2 := by rw [ltOf_cfB] at *; simp at *; omega
  ntrans x y z h1 h2 := by rw [ltOf_cfB] at *; simp at *; omega
theorem flatK_bk (d : Array Bk) : (flatK encB 2 d).toList = bkV d.toList := by
  apply List.ext_getElem?
  intro t
  rcases Nat.lt_or_ge t (d.size * 2) with h | h
  · have hd : t / 2 < d.size := by omega
    have hl : t / 2 < d.toList.length := by simpa using hd
    obtain ⟨v0, v1⟩ := bkV_at d.toList (t / 2) hl
    have h1 := get_flatK encB 2 d t h
    rw [getElem!_pos _ t (by rw [size_flatK]; exact h), getElem!_pos d _ hd] at h1
    rw [Array.getElem?_toList, Array.getElem?_eq_getElem (by rw [size_flatK]; exact h), h1]
    rcases (show t % 2 = 0 ∨ t % 2 = 1 by omega) with h2 | h2
    · rw [show t / 2 * 2 = t by omega] at v0
      rw [h2, v0]
      simp [encB]
    · rw [show t / 2 * 2 + 1 = t by omega] at v1
      rw [h2, v1]
      simp [encB]
  · rw [List.getElem?_eq_none (by rw [Array.length_toList, size_flatK]; exact h), List.getElem?_eq_none (by rw [bkV_length]; simpa using h)]
theorem sortW_eq (w : World) (g m : Nat) (dk : Array Bk) (os : Array Obj) : sortWorldK encB 2 w g 0 m dk os = sortWorld id w g 0 m (flatK encB 2 dk) os := rfl
theorem size_sortV (w : World) (g k : Nat) (d : Array Value) (os : Array Obj) : (sortWorld id w g 0 k d os).heap.size = w.heap.size + os.size := by simp [sortWorld, grow, putRow, mapBlock, Sort.ahead]
theorem block_sortV (w : World) (g k : Nat) (d : Array Value) (os : Array Obj) (j : Nat) (hj : j < w.heap.size) (hne : j ≠ g) : (sortWorld id w g 0 k d os).heap[j]? = w.heap[j]? := by
  show ((w.heap.modify g _) ++ os)[j]? = _
  rw [Array.getElem?_append_left (by simpa using hj), Array.getElem?_modify, if_neg (fun h => hne h.symm)]
theorem chg_sortV (w : World) (g k : Nat) (d : Array Value) (os : Array Obj) : Chg (fun j => j = g) w (sortWorld id w g 0 k d os) :=
  ⟨rfl, rfl, rfl, by rw [size_sortV]; omega, fun j hj hn => block_sortV w g k d os j hj hn⟩
theorem row_sortV {w : World} {e g n c k : Nat} {l : List Value} {d : Array Value} {os : Array Obj} (hs : (rowI e 2 (some ⟨g, 0, none⟩) n c l).P w) (hd : d.size = l.length) :
    (rowI e 2 (some ⟨g, 0, none⟩) n c d.toList).P (sortWorld id w g 0 k d os) := by
  have hrow : w.ownsRow 0 e 2 (.slice (some ⟨g, 0, none⟩) n c) n l := hs
  have hlt : g < w.heap.size := (hrow.lt g rfl).2
  have hln : l.length = n * 2 := hrow.1
  obtain ⟨h1, h2⟩ := hrow
  rcases h2 with ⟨hv, _⟩ | ⟨g', cap, cur, hv, _, hh, hnc, hcm, hcs, htk⟩
  · cases hv
  · injection hv with e1 e2 e3
    injection e1 with e1
    injection e1 with e1
    subst e1; subst e3
    have hg : (sortWorld id w g 0 k d os).heap[g]? = some (.cells (putCells id 0 d cur) e (0, 0)) := by
      show ((w.heap.modify g _) ++ os)[g]? = _
      rw [Array.getElem?_append_left (by simpa using hlt), Array.getElem?_modify, if_pos rfl, hh]
      rfl
    refine ⟨by rw [Array.length_toList]; omega, .inr ⟨g, c, _, rfl, Nat.zero_le _, hg, hnc, hcm, by simp [putCells]; omega, ?_⟩⟩
    refine List.ext_getElem? fun j => ?_
    rw [List.getElem?_take]
    by_cases hj : j < n * 2
    · rw [if_pos (by omega)]
      have hjc : j < cur.size := by omega
      simp only [putCells, Array.getElem?_toList, Array.getElem?_mapIdx, Array.getElem?_eq_getElem hjc, Option.map_some]
      rw [if_pos (by simp; omega)]
      have hjd : j < d.size := by omega
      simp [Array.getElem?_eq_getElem hjd, getElem!_pos d j hjd]
    · rw [if_neg (by omega)]
      rw [List.getElem?_eq_none (by rw [Array.length_toList]; omega)]
set_option maxHeartbeats 1000000 in
theorem bkcmp_any (w : World) (x y : Bk) : Calls Try.prog 126 #[.agg (encB x).toArray, .agg (encB y).toArray] w fun e w' => e = .returned (.int .i64 (cfB x y)) ∧ ∃ os, w' = grow w os := by
  have C := frcmp_any (x.1 : Int) (y.1 : Int)
  show Calls Try.prog 126 #[.agg #[.int .i64 (x.1 : Int), .int .i64 (x.2 : Int)], .agg #[.int .i64 (y.1 : Int), .int .i64 (y.2 : Int)]] w _
  go_enter Try.func126, Try.ntmps126
  go_wp2_with (go_at_call 92; refine (C _).mono ?_; rintro e w' ⟨rfl, rfl⟩)
  go_ret
  refine ⟨rfl, #[.cells #[.int .i64 (x.1 : Int), .int .i64 (x.2 : Int)] 231, .cells #[.int .i64 (y.1 : Int), .int .i64 (y.2 : Int)] 231], ?_⟩
  rw [alloc_eq_grow, alloc_eq_grow, grow_grow]
  rfl
theorem cmpB_lays (w : World) (g size : Nat) : CmpLays Try.prog 126 #[] encB 2 cfB g 0 size w := fun m os dk _ x y => by
  refine (bkcmp_any _ x y).mono ?_
  rintro e w' ⟨he, os', rfl⟩
  exact ⟨he, 0, os', rfl⟩
theorem enterB (args : Array Value) (w : World) : (callFunc 126 args).run Try.prog w = .ok (.enter 126 args) w := enter_of Try.func126 (by kernel_rfl) rfl args w
/-- Blocks are put in order by place. -/
theorem bksort_any {F : Nat → Prop} {W0 w : World} {items : List Item} (h : Sep F W0 w items) (q : Nat) {g n c : Nat} {l : List Bk} (hq : items[q]? = some (rowI 231 2 (some ⟨g, 0, none⟩) n c (bkV l))) (hn : n ≤ 1000000) :
    Calls Try.prog 125 #[.slice (some ⟨g, 0, none⟩) n c, .func (.func 126) #[] #[]] w fun e w' => e = .returned (.tuple #[]) ∧ ∃ l' : List Bk, l'.Perm l ∧ l'.Pairwise (fun a b => a.1 ≤ b.1) ∧ Sep F W0 w' (items.set q (rowI 231 2 (some ⟨g, 0, none⟩) n c (bkV l'))) := by
  have hP := h.get q hq
  have hrow : w.ownsRow 0 231 2 (.slice (some ⟨g, 0, none⟩) n c) n (bkV l) := hP
  have hln : l.length = n := by have := hrow.1; rw [bkV_length] at this; omega
  have hsz : l.toArray.size = n := by simpa using hln
  have hH : HoldsK encB 2 w g 0 l.toArray := by
    intro j hj
    rw [size_flatK, hsz] at hj
    refine ⟨?_, hrow.frozenAt _⟩
    have hf := flatK_bk l.toArray
    rw [Nat.zero_add, hrow.cellAt j (by omega)]
    have e : (bkV l)[j]? = (flatK encB 2 l.toArray).toList[j]? := by rw [hf]
    rw [e, Array.getElem?_toList, getElem!_pos _ j (by rw [size_flatK, hsz]; exact hj)]
    exact Array.getElem?_eq_getElem (by rw [size_flatK, hsz]; exact hj)
  have hc := AnyQ.slices_SortFunc shelf_laysBk 2 bk_isAgg bk_sizeOf encB (fun _ => rfl) encB_one cfB swo_cfB 126 #[] g 0 c l.toArray w enterB (cmpB_lays w g _) hH (hrow.lt g rfl).2 (by rw [hsz]; omega)
  rw [hsz] at hc
  refine Calls.mono hc ?_
  rintro e w' ⟨he, d', m, os, hp, hs, rfl⟩
  obtain ⟨p1, _, p3⟩ := hp
  rw [hsz] at p1
  have e1 : d'.extract 0 n = d' := by rw [← p1]; simp
  have e2 : l.toArray.extract 0 n = l.toArray := by rw [← hsz]; simp
  rw [e1, e2] at p3
  refine ⟨he, d'.toList, by simpa using p3, ?_, ?_⟩
  · rw [List.pairwise_iff_getElem]
    intro i j hi hj hij
    rw [Array.length_toList] at hi hj
    have h4 := hs i j (Nat.zero_le _) hij (by omega)
    rw [ltOf_cfB, getElem!_pos d' i hi, getElem!_pos d' j hj] at h4
    simp only [Array.getElem_toList]
    simpa using h4
  · rw [sortW_eq]
    have h5 := row_sortV (k := m) (d := flatK encB 2 d') (os := os) hP (by rw [size_flatK, p1, bkV_length, hln])
    rw [flatK_bk] at h5
    exact h.step q hq ((chg_sortV w g m _ os).mono (fun j hj => .inl (by rw [hj]; rfl))) _ h5 (fun g' hg' => .inl hg')
end Go.Proofs.Ytjphckfbbiehdaa

namespace Go.Proofs.Ytjphckfbbiehdaa
open Go.RowKit Go.Shelf
set_option maxHeartbeats 2000000 in
theorem bkinsNil_any (p : Option Addr) (cap : Nat) (fv : Value) (w : World) : Calls Try.prog 197 #[.slice p 0 cap, .int .i64 0, .int .i64 0, fv] w fun e w' => e = .returned (.tuple #[]) ∧ w' = w := by
  go_enter Try.func197, Try.ntmps197
  go_wp2_with fail
  refine wp_loop_rounds 1 ?_
  rw [rounds_succ]
  go_wp2_with fail
  go_end0
  exact ⟨rfl, rfl⟩
set_option maxHeartbeats 2000000 in
theorem bkpdqNil_any (p : Option Addr) (cap : Nat) (lim : Int) (fv : Value) (w : World) : Calls Try.prog 168 #[.slice p 0 cap, .int .i64 0, .int .i64 0, .int .i64 lim, fv] w fun e w' => e = .returned (.tuple #[]) ∧ w' = w := by
  go_enter Try.func168, Try.ntmps168
  go_wp2_with fail
  refine wp_loop_rounds 1 ?_
  rw [rounds_succ]
  go_wp2_with (go_at_call 197; refine (bkinsNil_any _ _ _ _).mono ?_; rintro e w' ⟨rfl, rfl⟩)
  (try simp only [Exit.inBlock, Exit.then]); refine bodyPost_ret (results_none rfl _ _ _) rfl ?_
  exact ⟨rfl, rfl⟩
theorem bkbitsLen0_any (w : World) : Calls Try.prog 149 #[.int .u64 0] w fun e w' => e = .returned (.int .i64 (Lib.bitLen 0 : Nat)) ∧ w' = w := by
  have h := Any.bits_Len (SlLaysF0.n15.bits (P := Try.prog) (ρ := shelf_laysBk_ren) { shelf_laysBk with }) 0 w (by omega) (by omega)
  exact h
set_option maxHeartbeats 2000000 in
theorem bksortNil_any (p : Option Addr) (cap : Nat) (fv : Value) (w : World) : Calls Try.prog 125 #[.slice p 0 cap, fv] w fun e w' => e = .returned (.tuple #[]) ∧ w' = w := by
  have hl := hide bkbitsLen0_any
  go_enter Try.func125, Try.ntmps125
  go_wp2_with (first | (go_at_call 149; refine (hl.out _).mono ?_; rintro e w' ⟨rfl, rfl⟩) | (go_at_call 168; refine (bkpdqNil_any _ _ _ _ _).mono ?_; rintro e w' ⟨rfl, rfl⟩))
  go_end0
  exact ⟨rfl, rfl⟩
end Go.Proofs.Ytjphckfbbiehdaa

namespace Go.Proofs.Ytjphckfbbiehdaa
open Go.RowKit
def opI : Option Po → Item
  | some p => poI p
  | none => allI []
def ptrV (p : Option Po) : Value := .pointer (p.map fun p => ⟨p.B, 0, none⟩)
/-- Objects: where the row of pointers lies, and the objects. -/
structure Oj where
  As : Option Addr
  c : Nat
  ps : List (Option Po)
def ojL (s : Oj) : List Item := rowI 170 1 s.As s.ps.length s.c (s.ps.map ptrV) :: s.ps.map opI
def Oj.v (s : Oj) : Value := .slice s.As s.ps.length s.c
def Oj.abs (s : Oj) : List (Option (List Val)) := s.ps.map fun p => p.map fun p => p.o.fields
def Oj.put (s : Oj) (i k : Nat) (v : Val) (p : Po) : Oj := { s with ps := s.ps.set i (some (p.put k v)) }
end Go.Proofs.Ytjphckfbbiehdaa

namespace Go.Proofs.Ytjphckfbbiehdaa
open Go.RowKit
/-- The numbers of those that are there. -/
def thereK {α : Type} (l : List (Option α)) (k : Nat) : List Int := ((List.range k).filter fun i => (l.getD i none).isSome).map fun i : Nat => (i : Int)
def thereL {α : Type} (l : List (Option α)) : List Int := thereK l l.length
theorem mem_thereL {α : Type} (l : List (Option α)) (x : Int) : x ∈ thereL l ↔ ∃ (i : Nat) (a : α), x = (i : Int) ∧ l[i]? = some (some a) := by
  unfold thereL thereK
  simp only [List.mem_map, List.mem_filter, List.mem_range, List.getD_eq_getElem?_getD]
  constructor
  · rintro ⟨i, ⟨h1, h2⟩, rfl⟩
    rw [List.getElem?_eq_getElem h1] at h2
    simp only [Option.getD_some, Option.isSome_iff_exists] at h2
    obtain ⟨a, ha⟩ := h2
    exact ⟨i, a, rfl, by rw [List.getElem?_eq_getElem h1, ha]⟩
  · rintro ⟨i, a, rfl, h⟩
    obtain ⟨h1, h2⟩ := List.getElem?_eq_some_iff.1 h
    exact ⟨i, ⟨h1, by rw [h]; rfl⟩, rfl⟩
def Oj.new (s : Oj) (As : Option Addr) (c B g n : Nat) : Oj := { As := As, c := c, ps := s.ps ++ [some ⟨B, ⟨some ⟨g, 0, none⟩, n, n, zeroVs n⟩⟩] }
end Go.Proofs.Ytjphckfbbiehdaa

namespace Go.Proofs.Ytjphckfbbiehdaa
open Go.RowKit Go.Maps
theorem owns_tight {w : World} {b n m : Nat} {D : DataW Unit} (h : w.ownsMap Try.prog 3 (plainElem Try.prog 3) b n D) (hm : Maps.size D ≤ m) : w.ownsMap Try.prog 3 (plainElem Try.prog 3) b m D := by
  obtain ⟨es, clock, hb, F, hs, rfl⟩ := h
  refine ⟨es, clock, hb, F, ?_, rfl⟩
  simpa [Maps.size, length_sorted] using hm
theorem lit_ne {x y : Int} (h : x ≠ y) : (Lit.int .i64 x) ≠ .int .i64 y := fun e => by injection e with _ e; exact h e
theorem zeroI_ (w : World) : (zeroValue 3).run Try.prog w = .ok (.int .i64 0) w := by kernel_rfl
def wfI (x : Int) : Prop := (Lit.int .i64 x).wf = true
theorem wfI_of {x : Int} (h0 : 0 ≤ x) (h1 : x ≤ 1000000) : wfI x := by
  show (decide (IntKind.i64.min ≤ x) && decide (x ≤ IntKind.i64.max)) = true
  have e1 : IntKind.i64.min = -9223372036854775808 := by decide
  have e2 : IntKind.i64.max = 9223372036854775807 := by decide
  rw [e1, e2, Bool.and_eq_true, decide_eq_true_eq, decide_eq_true_eq]
  omega
set_option maxRecDepth 100000 in
theorem at_look {w : World} {b N : Nat} {D : DataW Unit} (h : w.ownsMap Try.prog 3 (plainElem Try.prog 3) b N D) (x : Int) (hx : wfI x) : ∃ c, D.atKey (.int .i64 x) (.lit (.int .i64 0)) = .lit (.int .i64 c) ∧ wfI c ∧ (Instr.lookup 99 (.map (some b)) (.int .i64 x) false).run Try.prog w = .ok (.int .i64 c) w := by
  obtain ⟨c, hrun, hat, hwc⟩ := h.lookup_int (int_keyed Try.underlying3) Try.underlying99 Try.underlying3 (zeroI_ w) (keyOf_int_mk Try.underlying3 hx)
  exact ⟨c, hat, hwc, hrun⟩
end Go.Proofs.Ytjphckfbbiehdaa

namespace Go.Proofs.Ytjphckfbbiehdaa
open Go.RowKit Go.Maps
/-- A map of at most N entries that says what f says. -/
def fmI (b N : Nat) (f : Int → Option Nat) : Item where
  fp k := k = b
  P w := ∃ D : DataW Unit, w.ownsMap Try.prog 3 (plainElem Try.prog 3) b N D ∧ ∀ x, wfI x → ∀ z, D.atKey (.int .i64 x) z = match f x with | none => z | some m => .lit (.int .i64 (m : Int))
  dom w h k hk := by subst hk; obtain ⟨D, h, _⟩ := h; exact World.ownsMap.lt h
  loc w w' _ hk h := by obtain ⟨D, ⟨es, clock, hb, r⟩, h2⟩ := h; exact ⟨D, ⟨es, clock, (hk b rfl).trans hb, r⟩, h2⟩
set_option maxRecDepth 100000 in
theorem fm_look {w : World} {b N : Nat} {f : Int → Option Nat} (h : (fmI b N f).P w) (x : Int) (hx : wfI x) :
    (Instr.lookup 99 (.map (some b)) (.int .i64 x) true).run Try.prog w = .ok (.tuple #[.int .i64 (match f x with | none => 0 | some m => (m : Int)), .bool (f x).isSome]) w := by
  obtain ⟨D, h1, h2⟩ := h
  have hw0 : (Lit.int .i64 0).wf = true := by decide
  obtain ⟨v, ps, hrun, hv⟩ := h1.look_ok (int_keyed Try.underlying3) Try.underlying99 (zeroI_ w) (plainElem_int Try.underlying3 hw0) (keyOf_int_mk Try.underlying3 hx)
  obtain ⟨c, rfl, hc, _⟩ := plainElem_int_inv Try.underlying3 hv
  simp only [Prod.mk.injEq] at hc
  have h3 := h2 x hx
  have hc1 := (h3 _).symm.trans hc.1
  rw [hrun]
  cases hf : f x with
  | none =>
    simp only [hf] at h3 hc1
    rw [has_false_of_atKey h3]
    injection hc1 with hc1; injection hc1 with _ hc1
    rw [← hc1]; rfl
  | some m =>
    simp only [hf] at h3 hc1
    rw [has_true_of_atKey h3]
    injection hc1 with hc1; injection hc1 with _ hc1
    rw [← hc1]; rfl
theorem Sep.fmNew {F : Nat → Prop} {W w : World} {items : List Item} (hS : Sep F W w items) {g : Nat} (hg : w.heap.size = g) : Sep F W (w.alloc (.map #[] 0)) (items ++ [fmI g 0 (fun _ => none)]) := by
  subst hg
  exact hS.snocNew ((Below.refl _ w).alloc (Nat.le_refl _) _) (fmI w.heap.size 0 (fun _ => none)) ⟨_, World.ownsMap_made _ _ _ _, fun x _ z => rfl⟩ (fun g hg => by rw [show g = w.heap.size from hg]; exact Nat.le_refl _)
end Go.Proofs.Ytjphckfbbiehdaa

namespace Go.Proofs.Ytjphckfbbiehdaa
open Go.RowKit Go.Maps Go.WideElems Go.ChangeMaps Go.MapKept
set_option maxRecDepth 100000 in
/-- An entry is struck. -/
theorem wpList_fmDel {w : World} {ops : Array Oper} {rest : List Oper} {o : Oper} {a : Act} {Q : Exit → Act → World → Prop} (hgd : o.guard = none) (m x : Operand) (hop : o.op = Op.call { callee := Callee.builtin Builtin.delete, args := #[m, x], argTypes := #[99, 3] })
    {F : Nat → Prop} {W : World} {items : List Item} (hS : Sep F W w items) (k : Nat) {b N : Nat} {f : Int → Option Nat} (hk : items[k]? = some (fmI b N f)) (y : Int) (hm : a.eval m = .map (some b)) (hx : a.eval x = .int .i64 y)
    (hy : wfI y) (h : ∀ w', Sep F W w' (items.set k (fmI b N (delO f y))) → wpList Try.prog ops Q rest (a.put o.dst (.tuple #[])) w') : wpList Try.prog ops Q (o :: rest) a w := by
  obtain ⟨D, hown, hD⟩ : (fmI b N f).P w := hS.get k hk
  refine wpList_delete_own w hgd m x 99 3 hop 3 (int_keyed Try.underlying3) Try.underlying99 _ b N D hm hown (.int .i64 y) (.int .i64 y) hx (keyOf_int_mk Try.underlying3 hy) ?_
  intro w' h1 h2
  refine h w' (hS.step k hk ((Chg.of_grown h2.grown).mono (fun g hx => .inl (by injection hx with hx; exact hx.symm))) (fmI b N (delO f y)) ⟨_, h1, fun x hx z => ?_⟩ (fun g hg => .inl hg))
  unfold delO
  by_cases hxy : x = y
  · subst hxy
    rw [if_pos rfl, atKey_del_same]
  · rw [if_neg hxy, atKey_del_other (lit_ne hxy), hD x hx]
end Go.Proofs.Ytjphckfbbiehdaa
