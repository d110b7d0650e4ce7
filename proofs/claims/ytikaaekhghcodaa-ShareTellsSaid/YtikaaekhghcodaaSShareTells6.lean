/- graph.Targets(l), an iterator: its contract; the law of a range over it, where a call has things of its own that lie apart. A map from pairs of numbers to numbers, told by a function. A graph that may be: what its check says; an object of it. -/
import Derived.RangeFuncNested
import Derived.RangeFuncBox
import Derived.RangeFuncBound
import Derived.RangeFuncCalls
import Derived.RangeFuncLeaves
import Derived.Shelf.Abstract
import Derived.Shelf.RegionOpen
import Derived.OwnWalkIn
import Derived.TacticsInMore
import Derived.LoopNIn
import Derived.LoopIn
import Derived.Test.YtikaaekhghcodaaSShareTells2
import Derived.Test.YtikaaekhghcodaaSShareTells1
import Derived.Test.YtikaaekhghcodaaSShareTells5
import Derived.Maps.Own
import Derived.Maps.RangeWalk
import Derived.DeepKeys4
import Derived.WideKeyPair
import Derived.Test.YtikaaekhghcodaaSShareTells4
set_option linter.unusedSimpArgs false
set_option linter.unusedVariables false
namespace Go.Proofs.Ytikaaekhghcodaa
open Go.RowKit Go.Shelf
attribute [local go_sem] Oper.semAt_some
/-! ### What a round keeps: the blocks of a set D. -/
def KpD (D : Nat → Prop) (W W' : World) : Prop := W.heap.size ≤ W'.heap.size ∧ ∀ k, k < W.heap.size → D k → W'.heap[k]? = W.heap[k]?
theorem KpD.refl (D : Nat → Prop) (W : World) : KpD D W W := ⟨Nat.le_refl _, fun _ _ _ => rfl⟩
theorem KpD.trans {D : Nat → Prop} {A B C : World} (h : KpD D A B) (k : KpD D B C) : KpD D A C := ⟨Nat.le_trans h.1 k.1, fun i hi hd => (k.2 i (Nat.lt_of_lt_of_le hi h.1) hd).trans (h.2 i hi hd)⟩
theorem KpD.alloc {D : Nat → Prop} (A : World) (o : Obj) : KpD D A (A.alloc o) := ⟨by simp, fun k hk _ => Below.heap_alloc A o k hk⟩
theorem KpD.of_chg {D S : Nat → Prop} {A B : World} (h : Chg S A B) (hd : ∀ k, S k → ¬ D k) : KpD D A B := ⟨h.size, fun k hk hk2 => h.block k hk (fun hs => hd k hs hk2)⟩
theorem KpD.rd {D : Nat → Prop} {A B : World} (h : KpD D A B) {size n : Nat} {ad : Option Addr} {xs : List Value} (hr : Rd A D size ad n xs) : Rd B D size ad n xs := hr.keep h.1 h.2
theorem KpD.blk {D : Nat → Prop} {A B : World} (h : KpD D A B) {g : Nat} {t : TypeId} {cs : Array Value} (hb : Blk A g t cs) (hd : D g) : Blk B g t cs := (h.2 g hb.lt hd).trans hb
theorem KpD.obs {D : Nat → Prop} {A B : World} (h : KpD D A B) {ad : Option Addr} {n : Nat} {obs : List Ob} (ho : ObsRd A D ad n obs) : ObsRd B D ad n obs := ho.keep h.1 h.2
/-! ### Things whose blocks are cells, or older than a loop. -/
def Tame (B : Nat) (i : Item) : Prop := ∀ w, i.P w → ∀ k, i.fp k → k < B ∨ ∃ o : Obj, w.heap[k]? = some o ∧ o.isCells = true
theorem Tame.row (B e size : Nat) (A : Option Addr) (n c : Nat) (xs : List Value) : Tame B (rowI e size A n c xs) := by
  intro w h k hk
  have h1 : (Value.slice A n c).ownBlock = some k := hk
  rcases h.2 with ⟨hv, _⟩ | ⟨g, cap, cur, hv, _, hh, _⟩
  · rw [hv] at h1; cases h1
  · rw [hv] at h1
    have : g = k := by simpa [Value.ownBlock] using h1
    subst this
    exact .inr ⟨_, hh, rfl⟩
theorem Tame.blk (B g t : Nat) (cs : Array Value) : Tame B (blkI g t cs) := by
  intro w h k hk
  have : k = g := hk
  subst this
  exact .inr ⟨_, h, rfl⟩
theorem Tame.all {B : Nat} {l : List Item} (h : ∀ i ∈ l, Tame B i) : Tame B (allI l) := by
  intro w hw k hk
  obtain ⟨i, hi, hik⟩ := hk
  exact h i hi w (hw.1 i hi) k hik
theorem Tame.of_lt {B : Nat} {i : Item} (h : ∀ k, i.fp k → k < B) : Tame B i := fun _ _ k hk => .inl (h k hk)
theorem Tame.up {B B' : Nat} {i : Item} (h : Tame B i) (hb : B ≤ B') : Tame B' i := fun w hw k hk => (h w hw k hk).imp (fun h1 => Nat.lt_of_lt_of_le h1 hb) id
theorem Tame.far {B k : Nat} {i : Item} {w : World} {o : Obj} (h : Tame B i) (hw : i.P w) (hk : B ≤ k) (ho : w.heap[k]? = some o) (hc : o.isCells = false) : ¬ i.fp k := fun hf => by
  rcases h w hw k hf with h1 | ⟨o', h1, h2⟩
  · omega
  · rw [ho] at h1; injection h1 with h1; subst h1; rw [hc] at h2; cases h2
/-- A call hands back new things. -/
theorem Sep.call0 {F : Nat → Prop} {W w w' : World} {items l : List Item} (h : Sep F W w items) (h2 : Sep No w w' l) : Sep F W w' (l ++ items) := by
  have hb := h2.below_
  have h3 := h.below hb
  have hnew : ∀ i ∈ l, ∀ k, i.fp k → w.heap.size ≤ k := fun i hi k hk => (h2.own i hi k hk).resolve_left (fun h => h)
  refine ⟨h3.bel, fun i hi => ?_, fun i hi k hk => ?_, List.pairwise_append.2 ⟨h2.apart, h.apart, fun i hi j hj k hk hk2 => ?_⟩⟩
  · rcases List.mem_append.1 hi with h4 | h4
    · exact h2.all i h4
    · exact h3.all i h4
  · rcases List.mem_append.1 hi with h4 | h4
    · exact .inr (Nat.le_trans h.bel.size (hnew i h4 k hk))
    · exact h.own i h4 k hk
  · have h5 := hnew i hi k hk
    have h6 := j.dom w (h.all j hj) k hk2
    omega
/-- A step that turns no cells, from a loop's beginning on: things stay. -/
theorem Sep.grown {F : Nat → Prop} {W w w' : World} {i : Item} {B : Nat} {row : Option Nat} (h : Sep F W w [i]) (ht : Tame B i) (hB : W.heap.size ≤ B) (hg : w.grownBy w' row) (hr : ∀ r, row = some r → B ≤ r ∧ ∃ o : Obj, w.heap[r]? = some o ∧ o.isCells = false) : Sep F W w' [i] := by
  have hP : i.P w := h.all i (by simp)
  have hne : ∀ k, i.fp k → some k ≠ row := fun k hk e => by
    obtain ⟨h1, o, h2, h3⟩ := hr k e.symm
    exact ht.far hP h1 h2 h3 hk
  refine ⟨h.bel.trans (Chg.of_grown hg) (fun g hgr => ?_), fun j hj => ?_, h.own, h.apart⟩
  · obtain ⟨h1, _⟩ := hr g hgr
    exact .inr (by have := h.bel.size; have h2 := (hr g hgr).2; omega)
  · have : j = i := by simpa using hj
    subst this
    exact j.loc w w' hg.size (fun k hk => hg.block k (j.dom w hP k hk) (fun e => hne k hk e)) hP
theorem Chg.keepsFrom {S : Nat → Prop} {B : Nat} {W W' : World} (h : Chg S W W') (hs : ∀ (k : Nat) (o : Obj), B ≤ k → W.heap[k]? = some o → o.isCells = false → ¬ S k) : KeepsFrom B W W' :=
  ⟨h.size, fun k o hk ho hc => (h.block k (Array.getElem?_eq_some_iff.1 ho).1 (hs k o hk ho hc)).trans ho⟩
/-! ### The mark of a loop among the deferred calls. -/
def Colls (B : Nat) (w : World) : List Deferred → Prop
  | [] => True
  | d :: ds => ∃ D : Nat, d = { target := .collected D, args := #[] } ∧ B ≤ D ∧ w.heap[D]? = some (.deferred (some [])) ∧ (∀ d' ∈ ds, ∃ D' : Nat, d' = { target := .collected D', args := #[] } ∧ D' < D) ∧ Colls B w ds
theorem Colls.keep {B : Nat} {w w' : World} : ∀ {ds : List Deferred}, Colls B w ds → (∀ (k : Nat) (o : Obj), B ≤ k → w.heap[k]? = some o → o.isCells = false → w'.heap[k]? = some o) → Colls B w' ds
  | [], _, _ => trivial
  | d :: ds, ⟨D, h1, h2, h3, h4, h5⟩, hk => ⟨D, h1, h2, hk D _ h2 h3 rfl, h4, h5.keep hk⟩
theorem Colls.keeps {B : Nat} {w w' : World} {ds : List Deferred} (h : Colls B w ds) (hk : KeepsFrom B w w') : Colls B w' ds := h.keep hk.same
theorem Colls.lt {B : Nat} {w : World} : ∀ {ds : List Deferred}, Colls B w ds → ∀ d ∈ ds, ∃ D : Nat, d = { target := .collected D, args := #[] } ∧ D < w.heap.size
  | [], _, _, hd => by simp at hd
  | _ :: _, ⟨D, h1, _, h3, _, h5⟩, d, hd => by
    rcases List.mem_cons.1 hd with rfl | hd
    · exact ⟨D, h1, (Array.getElem?_eq_some_iff.1 h3).1⟩
    · exact h5.lt d hd
theorem Colls.push {B : Nat} {w w' : World} {ds : List Deferred} {D : Nat} (h : Colls B w ds) (hk : ∀ (k : Nat) (o : Obj), B ≤ k → w.heap[k]? = some o → o.isCells = false → w'.heap[k]? = some o) (hB : B ≤ w.heap.size) (hD : w.heap.size ≤ D) (hd : w'.heap[D]? = some (.deferred (some []))) :
    Colls B w' ({ target := .collected D, args := #[] } :: ds) :=
  ⟨D, rfl, by omega, hd, fun d' hd' => by obtain ⟨D', e, hl⟩ := h.lt d' hd'; exact ⟨D', e, by omega⟩, h.keep hk⟩
theorem collsOff {F : Fence} {n : Nat} {P : Program} {fn : Func} {tmps : Array Value} {R : Ending → World → Prop} {B : Nat} {u : FrameMode} (hu : u ≠ .run) : ∀ (ds : List Deferred) (w : World), Colls B w ds →
    (∀ w', w.heap.size = w'.heap.size → w'.os = w.os → w'.tape = w.tape → w'.output = w.output → (∀ (k : Nat), k < B → w'.heap[k]? = w.heap[k]?) → (∀ (k : Nat) (o : Obj), w.heap[k]? = some o → o.isCells = true → w'.heap[k]? = some o) → LeavesInM F n P fn tmps R [] u w') → LeavesInM F n P fn tmps R ds u w := by
  intro ds
  induction ds with
  | nil => intro w _ h; exact h w rfl rfl rfl rfl (fun _ _ => rfl) (fun _ _ h _ => h)
  | cons d ds ih =>
    rintro w ⟨D, rfl, h2, h3, h4, h5⟩ h
    refine ⟨hu, .inl ⟨D, _, rfl, run_takeDeferred h3, ?_⟩⟩
    have hg := grownBy_putObj' w D (.deferred none)
    have hlt := (Array.getElem?_eq_some_iff.1 h3).1
    refine ih _ ?_ fun w' g1 g2 g3 g4 g5 g6 => ?_
    · clear ih h
      have key : ∀ (l : List Deferred), (∀ d' ∈ l, ∃ D' : Nat, d' = { target := .collected D', args := #[] } ∧ D' < D) → Colls B w l → Colls B (w.putObj D (.deferred none)) l := by
        intro l
        induction l with
        | nil => intro _ _; trivial
        | cons e l ihl =>
          rintro hl ⟨E, e1, e2, e3, e4, e5⟩
          obtain ⟨E', e6, e7⟩ := hl e (by simp)
          have : E = E' := by
            rw [e1] at e6
            injection e6 with e6
            injection e6
          subst this
          exact ⟨E, e1, e2, (World.putObj_heap_other (by omega)).trans e3, e4, ihl (fun d' hd' => hl d' (by simp [hd'])) e5⟩
      exact key ds h4 h5
    · have hs : (w.putObj D (.deferred none)).heap.size = w.heap.size := by simp [World.putObj]
      refine h w' (hs.symm.trans g1) (g2.trans hg.os) (g3.trans hg.tape) (g4.trans hg.output) (fun k hk => (g5 k hk).trans (World.putObj_heap_other (by omega))) (fun k o hk hc => g6 k o ?_ hc)
      refine (World.putObj_heap_other ?_).trans hk
      rintro rfl
      rw [h3] at hk
      injection hk with hk
      subst hk
      cases hc
/-- Things stay where marks alone are shut. -/
theorem Sep.closed {F : Nat → Prop} {W w w' : World} {items : List Item} {B : Nat} (h : Sep F W w items) (ht : ∀ i ∈ items, Tame B i) (hB : W.heap.size ≤ B) (h1 : w.heap.size = w'.heap.size) (h2 : w'.os = w.os) (h3 : w'.tape = w.tape) (h4 : w'.output = w.output)
    (h5 : ∀ (k : Nat), k < B → w'.heap[k]? = w.heap[k]?) (h6 : ∀ (k : Nat) (o : Obj), w.heap[k]? = some o → o.isCells = true → w'.heap[k]? = some o) : Sep F W w' items := by
  refine ⟨⟨h2.trans h.bel.os, h3.trans h.bel.tape, h4.trans h.bel.output, by have := h.bel.size; omega, fun k hk hn => (h5 k (by omega)).trans (h.bel.block k hk hn)⟩, fun i hi => i.loc w w' (by omega) (fun k hk => ?_) (h.all i hi), h.own, h.apart⟩
  rcases ht i hi w (h.all i hi) k hk with h7 | ⟨o, h7, h8⟩
  · exact h5 k h7
  · rw [h6 k o h7 h8, h7]
/-- A post that no panic meets: it doesn't hang on the frame there. -/
def calm (Q : Exit → Act → World → Prop) : Exit → Act → World → Prop
  | .panic _, _, _ => False
  | .outgrown, _, _ => False
  | .normal, a, w => Q .normal a w
  | .ret, a, w => Q .ret a w
  | .exit id, a, w => Q (.exit id) a w
  | .goto t, a, w => Q (.goto t) a w
theorem callsIn_of_wp_calm {F : Fence} {n : Nat} {P : Program} {f : FuncId} {fn : Func} {c : Code} {args : Array Value} {w : World} {R : Ending → World → Prop} (hf : P.funcs[f]? = some fn) (hb : fn.body = some c) (hF : F.fn f)
    (h : c.wpIn F n P (calm (bodyPostM F n P fn R)) { tmps := args ++ Array.replicate (fn.ntmps - args.size) undef, defers := [] } w) (hro : F.round = none) : CallsIn F n P f args w R :=
  callsIn_of_wp_marks hf hb hF (wpIn_mono h fun e a w h => by
    cases e with
    | panic ch => exact h.elim
    | outgrown => exact h.elim
    | normal => exact h
    | ret => exact h
    | exit id => exact h
    | goto t => exact h) hro

--IF f:graph.Targets$1
/-! ### The iterator. -/
/-! ### The law of the loop. -/
/-! ### Appends and makes inside a fence. -/
section
variable {P : Program} {F : Fence} {N : Nat}
theorem wpListIn_app {w : World} {ops : Array Oper} {rest : List Oper} {o : Oper} {a : Act} {Q : Exit → Act → World → Prop} (hgd : o.guard = none) (s x : Operand) (t : TypeId)
    (ho : o.op = .call { callee := .builtin .append, args := #[s, x], argTypes := #[t, t] })
    {F0 : Nat → Prop} {W : World} {items : List Item} {e size n c bytes : Nat} {A : Option Addr} {xs : List Value} (T : SliceT P t e size bytes) (hS : Sep F0 W w items) (k : Nat) (hk : items[k]? = some (rowI e size A n c xs)) (hs : a.eval s = .slice A n c)
    {A2 : Option Addr} {m c2 : Nat} {news : List Value} (hx : a.eval x = .slice A2 m c2) (hr : Rd w (fun _ => True) size A2 m news) (h1 : ∀ u ∈ news, u.oneCell' = true) (hb : (n + m) * bytes ≤ 140737488355328)
    (h : ∀ A' c' w', Sep F0 W w' (items.set k (rowI e size A' (n + m) c' (xs ++ news))) → Chg (rowI e size A n c xs).fp w w' → wpListIn F N P ops Q rest (a.put o.dst (.slice A' (n + m) c')) w') : wpListIn F N P ops Q (o :: rest) a w :=
  wpListIn_plain hgd fun K hK => by
    obtain ⟨A', c', w', hrun, hS', hC'⟩ := hS.app (ty := o.type) T k hk (c2 := c2) hr h1 hb
    unfold Oper.wpIn
    refine ⟨?_, ?_⟩
    · simp [Oper.about, ho, resolve, Target.leads, Sem.run_pure]
    · rw [Oper.semAt_plain F _ _ (by rw [ho]; intro c hc'; cases hc')]
      simp [execOp, ho, resolve, invoke, builtin, hs, hx, hrun, Result.andThen]
      exact hK _ _ (h A' c' w' hS' hC')
theorem wpListIn_app1 {w : World} {ops : Array Oper} {rest : List Oper} {o : Oper} {a : Act} {Q : Exit → Act → World → Prop} (hgd : o.guard = none) (s x : Operand) (t : TypeId)
    (ho : o.op = .call { callee := .builtin .append, args := #[s, x], argTypes := #[t, t] })
    {F0 : Nat → Prop} {W : World} {items : List Item} {e size n c bytes : Nat} {A : Option Addr} {xs : List Value} (T : SliceT P t e size bytes) (hS : Sep F0 W w items) (k : Nat) (hk : items[k]? = some (rowI e size A n c xs)) (hs : a.eval s = .slice A n c)
    {cs : Array Value} {g : Nat} (hx : a.eval x = .slice (some ⟨g, 0, none⟩) 1 1) (hgz : w.heap.size = g) (hcs : cs.size = size) (h1 : cs.toList.all Value.oneCell' = true) (hb : (n + 1) * bytes ≤ 140737488355328)
    (h : ∀ A' c' w', Sep F0 W w' (items.set k (rowI e size A' (n + 1) c' (xs ++ cs.toList))) → Chg (rowI e size A n c xs).fp w w' → wpListIn F N P ops Q rest (a.put o.dst (.slice A' (n + 1) c')) w') : wpListIn F N P ops Q (o :: rest) a (w.alloc (.cells cs e)) :=
  by subst hgz; exact wpListIn_app hgd s x t ho T (hS.alloc _) k hk hs hx (rd_new w e cs size hcs) (fun u hu => List.all_eq_true.1 h1 u hu) hb fun A' c' w' h2 h3 => h A' c' w' h2 (((Chg.refl _ w).alloc _).trans h3 (fun _ hg => .inl hg))
end
end Go.Proofs.Ytikaaekhghcodaa

namespace Go.Proofs.Ytikaaekhghcodaa
open Go.RowKit Go.Maps Go.WideMaps
theorem shLaid : laidOutB Try.prog = true := by kernel_rfl
theorem shRow : (44 : TypeId) < Try.prog.types.size := of_decide_eq_true (by kernel_rfl)
theorem shSize : ∃ m, Try.prog.types.size = m + 1 := ⟨Try.prog.types.size - 1, (Nat.succ_pred_eq_of_pos (Nat.lt_of_le_of_lt (Nat.zero_le _) shRow)).symm⟩
theorem shWide : (match Try.prog.underlying 44 with | some (.array _ _) | some (.struct _) => true | _ => false) = true := by rw [Try.underlying44]
theorem shLaw : KeyLaw Try.prog 44 := deep_law_laid shLaid (m := 2) (by omega) shRow (by kernel_rfl) shWide
theorem shKeyed : Keyed Try.prog 44 := Keyed.of_law shLaw
theorem shKeyT : Try.prog.keyType 44 = true := by kernel_rfl
theorem shCells : Try.prog.cellsOf 44 = 2 := by kernel_rfl
theorem shCellsI : Try.prog.cellsOf 3 = 1 := by kernel_rfl
/-- What a pair is as a key. -/
def pk (p : Pr) : Lit := .string (keyBytes [.int .i64 (p.1 : Int), .int .i64 (p.2 : Int)])
def PrOk (p : Pr) : Prop := p.1 < 1000 ∧ p.2 < 1000
def prV (p : Pr) : Value := .agg #[.int .i64 (p.1 : Int), .int .i64 (p.2 : Int)]
theorem wfN {n : Nat} (h : n < 1000) : (Lit.int .i64 (n : Int)).wf = true := by
  simp [Lit.wf, IntKind.min, IntKind.max, IntKind.signed, IntKind.bits]; omega
theorem pk_inj {p q : Pr} (hp : PrOk p) (hq : PrOk q) (h : pk p = pk q) : p = q := by
  unfold pk at h
  injection h with h
  have := keyBytes_inj (l := [.int .i64 (p.1 : Int), .int .i64 (p.2 : Int)]) (l' := [.int .i64 (q.1 : Int), .int .i64 (q.2 : Int)]) (by simp [Alike, Lit.sameKind]) (by simp [Lit.keyWf, wfN hp.1, wfN hp.2]) (by simp [Lit.keyWf, wfN hq.1, wfN hq.2]) h
  simp at this
  exact Prod.ext (by omega) (by omega)
theorem keyOf_pr {p : Pr} (hp : PrOk p) : keyOf Try.prog 44 (prV p) = some (pk p) := by
  obtain ⟨m, hm⟩ := shSize
  unfold keyOf prV
  simp only [Try.underlying44]
  rw [if_pos (by simp [shKeyT, Value.formed, Try.underlying44, shCells]), hm]
  unfold Program.keyLits
  simp only [Try.underlying44, Value.cells]
  rw [if_pos (by rw [shCells]; simp)]
  simp [shCellsI, Program.keyLits, Try.underlying3, wfN hp.1, wfN hp.2, pk]
/-- A map of at most N entries that says what f says. -/
def pmI (b N : Nat) (f : Pr → Option Nat) : Item where
  fp k := k = b
  P w := ∃ D : DataW Unit, w.ownsMap Try.prog 44 (plainElem Try.prog 3) b N D ∧ ∀ p, PrOk p → ∀ z, D.atKey (pk p) z = match f p with | none => z | some m => .lit (.int .i64 (m : Int))
  dom w h k hk := by subst hk; obtain ⟨D, h, _⟩ := h; exact World.ownsMap.lt h
  loc w w' _ hk h := by obtain ⟨D, ⟨es, clock, hb, r⟩, h2⟩ := h; exact ⟨D, ⟨es, clock, (hk b rfl).trans hb, r⟩, h2⟩
def putP (f : Pr → Option Nat) (k : Pr) (v : Nat) : Pr → Option Nat := fun p => if p = k then some v else f p
def numO (o : Option Nat) : Int := match o with | none => 0 | some m => (m : Int)
theorem zeroP_ (w : World) : (zeroValue 3).run Try.prog w = .ok (.int .i64 0) w := by kernel_rfl
theorem pm_tight {w : World} {b n m : Nat} {D : DataW Unit} (h : w.ownsMap Try.prog 44 (plainElem Try.prog 3) b n D) (hm : Maps.size D ≤ m) : w.ownsMap Try.prog 44 (plainElem Try.prog 3) b m D := by
  obtain ⟨es, clock, hb, F, hs, rfl⟩ := h
  refine ⟨es, clock, hb, F, ?_, rfl⟩
  simpa [Maps.size, length_sorted] using hm
set_option maxRecDepth 100000 in
theorem pm_look {w : World} {b N : Nat} {f : Pr → Option Nat} (h : (pmI b N f).P w) (p : Pr) (hp : PrOk p) :
    (Instr.lookup 41 (.map (some b)) (prV p) true).run Try.prog w = .ok (.tuple #[.int .i64 (numO (f p)), .bool (f p).isSome]) w := by
  obtain ⟨D, h1, h2⟩ := h
  have hw0 : (Lit.int .i64 0).wf = true := by decide
  obtain ⟨v, ps, hrun, hv⟩ := h1.look_ok shKeyed Try.underlying41 (zeroP_ w) (plainElem_int Try.underlying3 hw0) (keyOf_pr hp)
  obtain ⟨c, rfl, hc, _⟩ := plainElem_int_inv Try.underlying3 hv
  simp only [Prod.mk.injEq] at hc
  have h3 := h2 p hp
  have hc1 := (h3 _).symm.trans hc.1
  rw [hrun]
  cases hf : f p with
  | none =>
    simp only [hf] at h3 hc1
    rw [has_false_of_atKey h3]
    injection hc1 with hc1; injection hc1 with _ hc1
    rw [← hc1]; rfl
  | some m =>
    simp only [hf] at h3 hc1
    rw [has_true_of_atKey h3]
    injection hc1 with hc1; injection hc1 with _ hc1
    rw [← hc1]; rfl
set_option maxRecDepth 100000 in
theorem pm_look0 {w : World} {b N : Nat} {f : Pr → Option Nat} (h : (pmI b N f).P w) (p : Pr) (hp : PrOk p) :
    (Instr.lookup 41 (.map (some b)) (prV p) false).run Try.prog w = .ok (.int .i64 (numO (f p))) w := by
  obtain ⟨D, h1, h2⟩ := h
  have hw0 : (Lit.int .i64 0).wf = true := by decide
  obtain ⟨v, ps, hrun, hv⟩ := h1.lookup shKeyed Try.underlying41 (zeroP_ w) (plainElem_int Try.underlying3 hw0) (keyOf_pr hp)
  obtain ⟨c, rfl, hc, _⟩ := plainElem_int_inv Try.underlying3 hv
  simp only [Prod.mk.injEq] at hc
  have h3 := h2 p hp
  have hc1 := (h3 _).symm.trans hc.1
  rw [hrun]
  cases hf : f p with
  | none =>
    simp only [hf] at h3 hc1
    injection hc1 with hc1; injection hc1 with _ hc1
    rw [← hc1]; rfl
  | some m =>
    simp only [hf] at h3 hc1
    injection hc1 with hc1; injection hc1 with _ hc1
    rw [← hc1]; rfl
theorem Sep.pmNew {F : Nat → Prop} {W w : World} {items : List Item} (hS : Sep F W w items) {g : Nat} (hg : w.heap.size = g) : Sep F W (w.alloc (.map #[] 0)) (items ++ [pmI g 0 (fun _ => none)]) := by
  subst hg
  exact hS.snocNew ((Below.refl _ w).alloc (Nat.le_refl _) _) (pmI w.heap.size 0 (fun _ => none)) ⟨_, World.ownsMap_made _ _ _ _, fun p _ z => rfl⟩ (fun g hg => by rw [show g = w.heap.size from hg]; exact Nat.le_refl _)
set_option maxRecDepth 100000 in
theorem Sep.pmPut {F : Nat → Prop} {W w : World} {items : List Item} (hS : Sep F W w items) (k : Nat) {b N : Nat} {f : Pr → Option Nat} (hk : items[k]? = some (pmI b N f)) (hn : N + 1 < maxLen) (p : Pr) (hp : PrOk p) (m : Nat) (hm : m < 1000) :
    ∃ w', (Instr.mapUpdate 41 (.map (some b)) (prV p) (.int .i64 (m : Int))).run Try.prog w = .ok () w' ∧ Sep F W w' (items.set k (pmI b (N + 1) (putP f p m))) ∧ Chg (fun g => g = b) w w' := by
  obtain ⟨D, hown, hD⟩ : (pmI b N f).P w := hS.get k hk
  have ht := hown.tidy shKeyed
  have hs := hown.size_le
  obtain ⟨w', hrun, r1, r2⟩ := hown.update shKeyed Try.underlying41 (by omega) (keyOf_pr hp) (plainElem_int Try.underlying3 (wfN hm))
  have hsz : Maps.size (D.put (pk p) (.lit (.int .i64 (m : Int)))) ≤ N + 1 := by
    rw [Maps.size_put ht]
    split <;> omega
  have hc : Chg (fun g => g = b) w w' := (Chg.of_grown r2).mono (fun g hx => .inl (by injection hx with hx; exact hx.symm))
  refine ⟨w', hrun, hS.step k hk hc (pmI b (N + 1) (putP f p m)) ⟨_, pm_tight r1 hsz, fun q hq z => ?_⟩ (fun g hg => .inl hg), hc⟩
  unfold putP
  by_cases hyx : q = p
  · subst hyx
    rw [if_pos rfl, atKey_put_same (k := pk q) ht.isMap trivial]
  · rw [if_neg hyx, atKey_put_other (fun h => hyx (pk_inj hq hp h)), hD q hq]
set_option maxRecDepth 100000 in
theorem wpListIn_pmPut {Fe : Fence} {n : Nat} {w : World} {ops : Array Oper} {rest : List Oper} {o : Oper} {a : Act} {Q : Exit → Act → World → Prop} (hgd : o.guard = none) (m x v : Operand) (hop : o.op = Op.mapUpdate 41 m x v)
    {F : Nat → Prop} {W : World} {items : List Item} (hS : Sep F W w items) (k : Nat) {b N : Nat} {f : Pr → Option Nat} (hk : items[k]? = some (pmI b N f)) (hn : N + 1 < maxLen) (p : Pr) (z : Nat) (hm : a.eval m = .map (some b)) (hx : a.eval x = prV p) (hv : a.eval v = .int .i64 (z : Int))
    (hp : PrOk p) (hz : z < 1000) (h : ∀ w', Sep F W w' (items.set k (pmI b (N + 1) (putP f p z))) → Chg (fun g => g = b) w w' → wpListIn Fe n Try.prog ops Q rest (a.put o.dst undef) w') : wpListIn Fe n Try.prog ops Q (o :: rest) a w :=
  wpListIn_plain hgd fun K hK => by
    obtain ⟨w', hrun, hS', hC⟩ := hS.pmPut k hk hn p hp z hz
    unfold Oper.wpIn
    refine ⟨?_, ?_⟩
    · simp [Oper.about, hop]
    · rw [Oper.semAt_plain Fe _ _ (by rw [hop]; intro c hc'; cases hc')]
      simp [execOp, hop, hm, hx, hv, hrun, Result.andThen]
      exact hK _ _ (h w' hS' hC)
end Go.Proofs.Ytikaaekhghcodaa

namespace Go.Proofs.Ytikaaekhghcodaa
open Go.RowKit
structure GOk (nO nR : Nat) (obs : List Ob) (roots : List Val) : Prop where
  nO_ : nO ≤ 24
  nR_ : nR ≤ 8
  fl : ∀ o ∈ obs, o.n ≤ 4
  len : (obs.map Ob.fields).length = nO
  vg : ∀ fs ∈ obs.map Ob.fields, ∀ v ∈ fs, v.1 = true → 0 ≤ v.2 ∧ v.2 < (nO : Int)
  vr : ∀ v ∈ roots, v.1 = true → 0 ≤ v.2 ∧ v.2 < (nO : Int)
  fs : ∀ fs ∈ obs.map Ob.fields, fs.length ≤ 4
theorem gok_of {w : World} {D : Nat → Prop} {AO : Option Addr} {nO nR : Nat} {obs : List Ob} {roots : List Val} (hO : ObsRd w D AO nO obs) (h : gcheck nO nR obs roots = 0) : GOk nO nR obs roots := by
  unfold gcheck at h
  split at h
  · omega
  rename_i h1
  split at h
  · omega
  rename_i h2
  have h3 : obs.any large = false := by
    cases h4 : obs.any large with
    | false => rfl
    | true => exact absurd (Or.inr (Or.inr h4)) h1
  have hfl : ∀ o ∈ obs, o.n ≤ 4 := fun o ho => by
    have h5 := List.any_eq_false.1 h3 o ho
    unfold large at h5
    simp at h5
    omega
  have hlen : (obs.map Ob.fields).length = nO := by rw [List.length_map]; exact hO.len
  have h4 : ∀ v ∈ allVals obs roots, v.1 = true → 0 ≤ v.2 ∧ v.2 < (nO : Int) := fun v hv hv1 => by
    have h5 : (allVals obs roots).any (badArg nO) = false := by
      cases h6 : (allVals obs roots).any (badArg nO) with
      | false => rfl
      | true => exact absurd h6 h2
    have h6 := List.any_eq_false.1 h5 v hv
    unfold badArg at h6
    rw [hv1] at h6
    simp at h6
    omega
  refine ⟨by omega, by omega, hfl, hlen, fun fs hfs v hv => ?_, fun v hv => h4 v (List.mem_append_left _ hv), fun fs hfs => ?_⟩
  · obtain ⟨o, ho, rfl⟩ := List.mem_map.1 hfs
    exact h4 v (List.mem_append_right _ (List.mem_flatMap.2 ⟨o, ho, hv⟩))
  · obtain ⟨o, ho, rfl⟩ := List.mem_map.1 hfs
    have := hO.flen ho
    have := hfl o ho
    omega
theorem ob_at {w : World} {D : Nat → Prop} {AO : Option Addr} {nO : Nat} {obs : List Ob} (hO : ObsRd w D AO nO obs) (hfl : ∀ o ∈ obs, o.n ≤ 4) {i : Nat} (hi : i < nO) :
    ∃ (ad : Addr) (o : Ob), o ∈ obs ∧ AO = some ad ∧ D ad.block ∧ ad.block < w.heap.size ∧ w.cell? (ad.add i) = some (.slice o.A o.n o.c) ∧ Rd w D 2 o.A o.n (vals o.fields) ∧ (obs.map Ob.fields).getD i [] = o.fields ∧ o.n ≤ 4 ∧ o.fields.length = o.n := by
  have hil : i < obs.length := by rw [hO.len]; exact hi
  obtain ⟨ad, hA, hd, had, hc⟩ := hO.row.at_ hi
  refine ⟨ad, obs[i], List.getElem_mem hil, hA, hd, had, hc _ (by simp [List.getElem?_eq_getElem hil, Ob.val]), hO.each _ (List.getElem_mem hil), ?_, hfl _ (List.getElem_mem hil), hO.flen (List.getElem_mem hil)⟩
  rw [List.getD_eq_getElem?_getD]
  simp [List.getElem?_eq_getElem hil]
theorem val_ne {x y : Val} (h : x ≠ y) : (x.1 = true ∧ y.1 = false) ∨ (x.1 = false ∧ y.1 = true) ∨ (x.1 = y.1 ∧ (x.2 == y.2) = false) := by
  obtain ⟨a, n⟩ := x
  obtain ⟨b, m⟩ := y
  cases a <;> cases b <;> simp at h ⊢
  · exact h
  · exact h
/-- A field's value, or none. -/
def fldV (o : Option Val) : Value := match o with | some v => .agg #[.bool v.1, .int .i64 v.2] | none => .agg #[.bool false, .int .i64 0]
set_option maxHeartbeats 400000 in
theorem field_any (w : World) (o : Ob) (k : Nat) (h : Rd w (fun _ => True) 2 o.A o.n (vals o.fields)) (hn : o.n ≤ 4) (hl : o.fields.length = o.n) :
    Calls Try.prog 28 #[.agg #[.slice o.A o.n o.c], .int .i64 (k : Int)] w fun e w' => e = .returned (.tuple #[fldV o.fields[k]?, .bool (o.fields[k]?).isSome]) ∧ Below w.heap.size w w' := by
  by_cases hk : k < o.n
  · have hkl : k < o.fields.length := by omega
    have hB : Below w.heap.size w ((w.alloc (.cells #[.slice o.A o.n o.c] 50)).alloc (.cells #[.bool false, .int .i64 0] 48)) := ((Below.refl _ w).alloc (Nat.le_refl _) _).alloc (by simp) _
    obtain ⟨ad, hA, _, had, hc, hd⟩ := (h.below hB).atN hk
    obtain ⟨v0, v1⟩ := vals_at o.fields k hkl
    have e0 := hc _ v0
    have e1 := hd 0 _ v1
    have HG := hide (show o.fields[k]? = some o.fields[k] from List.getElem?_eq_getElem hkl)
    obtain ⟨x, hx⟩ : ∃ x, o.fields[k] = x := ⟨_, rfl⟩
    rw [hx] at e0 e1 HG
    rw [HG.out]
    obtain ⟨b, q⟩ := x
    obtain ⟨A, n, c, fs⟩ := o
    dsimp only at hA hk hn e0 e1
    subst hA
    clear hc hd v0 v1 h hl hx hkl HG hB had
    unfold fldV
    dsimp only [Option.isSome]
    go_enter Try.func28, Try.ntmps28
    go_wp2_with fail
    refine bodyPost_ret (v := .tuple #[.agg #[.bool b, .int .i64 q], .bool true]) (by simp [results, Try.results28, go_sem]) rfl ⟨rfl, ?_⟩
    exact (by repeat (first | with_reducible exact Below.refl _ _ | with_reducible (refine Below.setCell ?_ (by first | omega | (simp; done) | (simp; omega)) _) | with_reducible (refine Below.alloc ?_ (by first | omega | (simp; done) | (simp; omega)) _) | with_reducible refine Below.drew ?_ | with_reducible refine below_drewN ?_ _))
  · have HG : o.fields[k]? = none := List.getElem?_eq_none (by omega)
    rw [HG]
    obtain ⟨A, n, c, fs⟩ := o
    dsimp only at hk hn
    clear h hl HG
    unfold fldV
    dsimp only [Option.isSome]
    go_enter Try.func28, Try.ntmps28
    go_wp2_with fail
    refine bodyPost_ret (v := .tuple #[.agg #[.bool false, .int .i64 0], .bool false]) (by simp [results, Try.results28, go_sem]) rfl ⟨rfl, ?_⟩
    exact (by repeat (first | with_reducible exact Below.refl _ _ | with_reducible (refine Below.setCell ?_ (by first | omega | (simp; done) | (simp; omega)) _) | with_reducible (refine Below.alloc ?_ (by first | omega | (simp; done) | (simp; omega)) _) | with_reducible refine Below.drew ?_ | with_reducible refine below_drewN ?_ _))
end Go.Proofs.Ytikaaekhghcodaa
