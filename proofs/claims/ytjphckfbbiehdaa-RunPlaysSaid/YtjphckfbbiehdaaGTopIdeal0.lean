/- A memory with so many words: where objects stand, as a map in memory. The order in which objects are found: what is found lies in any closed set; it speaks of the fields of what is found alone. A memory with so many words, plain: where each object stands; room; clearing up. -/
import Derived.Maps.OwnOps
import Derived.Maps.OwnSet
import Derived.Test.YtjphckfbbiehdaaGTriPlays0
import Derived.Test.YtjphckfbbiehdaaGIdealPlays4
import Derived.Test.YtjphckfbbiehdaaGTriPlays4
import Derived.Test.YtjphckfbbiehdaaGIdealPlays12
set_option linter.unusedSimpArgs false
set_option linter.unusedVariables false
namespace Go.Proofs.Ytjphckfbbiehdaa
open Go.RowKit Go.Maps

/-- A map from numbers to numbers, of at most N entries: for these numbers it says f. -/
def atI (b N : Nat) (l : List Int) (f : Int → Int) : Item where
  fp k := k = b
  P w := ∃ D : DataW Unit, w.ownsMap Try.prog 3 (plainElem Try.prog 3) b N D ∧ ∀ x ∈ l, ∀ z, D.atKey (.int .i64 x) z = .lit (.int .i64 (f x))
  dom w h k hk := by subst hk; obtain ⟨D, h, _⟩ := h; exact World.ownsMap.lt h
  loc w w' _ hk h := by obtain ⟨D, ⟨es, clock, hb, r⟩, h2⟩ := h; exact ⟨D, ⟨es, clock, (hk b rfl).trans hb, r⟩, h2⟩
theorem owns_tight {w : World} {b n m : Nat} {D : DataW Unit} (h : w.ownsMap Try.prog 3 (plainElem Try.prog 3) b n D) (hm : Maps.size D ≤ m) : w.ownsMap Try.prog 3 (plainElem Try.prog 3) b m D := by
  obtain ⟨es, clock, hb, F, hs, rfl⟩ := h
  refine ⟨es, clock, hb, F, ?_, rfl⟩
  simpa [Maps.size, length_sorted] using hm
theorem atI_congr {b N : Nat} {l : List Int} {f g : Int → Int} {w : World} (h : (atI b N l f).P w) (hf : ∀ x ∈ l, f x = g x) : (atI b N l g).P w := by
  obtain ⟨D, h1, h2⟩ := h
  exact ⟨D, h1, fun x hx z => by rw [h2 x hx z, hf x hx]⟩
theorem lit_ne {x y : Int} (h : x ≠ y) : (Lit.int .i64 x) ≠ .int .i64 y := fun e => by injection e with _ e; exact h e
theorem zeroI_ (w : World) : (zeroValue 3).run Try.prog w = .ok (.int .i64 0) w := by kernel_rfl
def wfI (x : Int) : Prop := (Lit.int .i64 x).wf = true
theorem wfI_of {x : Int} (h0 : 0 ≤ x) (h1 : x ≤ 1000000) : wfI x := by
  show (decide (IntKind.i64.min ≤ x) && decide (x ≤ IntKind.i64.max)) = true
  have e1 : IntKind.i64.min = -9223372036854775808 := by decide
  have e2 : IntKind.i64.max = 9223372036854775807 := by decide
  rw [e1, e2, Bool.and_eq_true, decide_eq_true_eq, decide_eq_true_eq]
  omega
set_option maxRecDepth 100000 in
theorem at_look {w : World} {b N : Nat} {D : DataW Unit} (h : w.ownsMap Try.prog 3 (plainElem Try.prog 3) b N D) (x : Int) (hx : wfI x) : ∃ c, D.atKey (.int .i64 x) (.lit (.int .i64 0)) = .lit (.int .i64 c) ∧ wfI c ∧ (Instr.lookup 99 (.map (some b)) (.int .i64 x) false).run Try.prog w = .ok (.int .i64 c) w := by
  obtain ⟨c, hrun, hat, hwc⟩ := h.lookup_int (int_keyed Try.underlying3) Try.underlying99 Try.underlying3 (zeroI_ w) (keyOf_int_mk Try.underlying3 hx)
  exact ⟨c, hat, hwc, hrun⟩
set_option maxRecDepth 100000 in
theorem at_look1 {w : World} {b N : Nat} {l : List Int} {f : Int → Int} (h : (atI b N l f).P w) (x : Int) (hx : wfI x) (hl : x ∈ l) : (Instr.lookup 99 (.map (some b)) (.int .i64 x) false).run Try.prog w = .ok (.int .i64 (f x)) w := by
  obtain ⟨D, h1, h2⟩ := h
  obtain ⟨c, h3, _, h4⟩ := at_look h1 x hx
  rw [h2 x hl] at h3
  injection h3 with h3; injection h3 with _ h3
  rw [h3]; exact h4
set_option maxRecDepth 100000 in
/-- An entry is laid: of a number that is there, or of a new one. -/
theorem Sep.atPut {F : Nat → Prop} {W w : World} {items : List Item} (hS : Sep F W w items) (k : Nat) {b N : Nat} {l : List Int} {f : Int → Int} (hk : items[k]? = some (atI b N l f)) (hn : N + 1 < maxLen) (y z : Int) (hy : wfI y) (hz : wfI z)
    (N' : Nat) (l' : List Int) (f' : Int → Int) (hN : (y ∈ l ∧ N ≤ N') ∨ N + 1 ≤ N') (hl : ∀ x ∈ l', (x = y ∧ f' x = z) ∨ (x ≠ y ∧ x ∈ l ∧ f' x = f x)) :
    ∃ w', (Instr.mapUpdate 99 (.map (some b)) (.int .i64 y) (.int .i64 z)).run Try.prog w = .ok () w' ∧ Sep F W w' (items.set k (atI b N' l' f')) ∧ Chg (fun g => g = b) w w' := by
  obtain ⟨D, hown, hD⟩ : (atI b N l f).P w := hS.get k hk
  obtain ⟨w', hrun, r1, r2⟩ := hown.update (int_keyed Try.underlying3) Try.underlying99 (by omega) (keyOf_int_mk Try.underlying3 hy) (plainElem_int Try.underlying3 hz)
  have ht := hown.tidy (int_keyed Try.underlying3)
  have hs := hown.size_le
  have hsz : Maps.size (D.put (.int .i64 y) (.lit (.int .i64 z))) ≤ N' := by
    rw [Maps.size_put ht]
    rcases hN with ⟨h1, h2⟩ | h1
    · rw [if_pos (Maps.has_true_of_atKey (hD y h1))]; omega
    · split <;> omega
  have hc : Chg (fun g => g = b) w w' := (Chg.of_grown r2).mono (fun g hx => .inl (by injection hx with hx; exact hx.symm))
  refine ⟨w', hrun, hS.step k hk hc (atI b N' l' f') ⟨_, owns_tight r1 hsz, fun x hx zz => ?_⟩ (fun g hg => .inl hg), hc⟩
  rcases hl x hx with ⟨rfl, e⟩ | ⟨hne, hxl, e⟩
  · rw [atKey_put_same (k := Lit.int .i64 x) ht.isMap trivial, e]
  · rw [atKey_put_other (lit_ne hne), hD x hxl, e]
set_option maxRecDepth 100000 in
theorem wpList_atPut {w : World} {ops : Array Oper} {rest : List Oper} {o : Oper} {a : Act} {Q : Exit → Act → World → Prop} (hgd : o.guard = none) (m x v : Operand) (hop : o.op = Op.mapUpdate 99 m x v)
    {F : Nat → Prop} {W : World} {items : List Item} (hS : Sep F W w items) (k : Nat) {b N : Nat} {l : List Int} {f : Int → Int} (hk : items[k]? = some (atI b N l f)) (hn : N + 1 < maxLen) (y z : Int) (hm : a.eval m = .map (some b)) (hx : a.eval x = .int .i64 y) (hv : a.eval v = .int .i64 z)
    (hy : wfI y) (hz : wfI z) (N' : Nat) (l' : List Int) (f' : Int → Int) (hN : (y ∈ l ∧ N ≤ N') ∨ N + 1 ≤ N') (hl : ∀ x ∈ l', (x = y ∧ f' x = z) ∨ (x ≠ y ∧ x ∈ l ∧ f' x = f x))
    (h : ∀ w', Sep F W w' (items.set k (atI b N' l' f')) → wpList Try.prog ops Q rest (a.put o.dst undef) w') : wpList Try.prog ops Q (o :: rest) a w :=
  wpList_plain hgd fun K hK => by
    obtain ⟨w', hrun, hS', _⟩ := hS.atPut k hk hn y z hy hz N' l' f' hN hl
    unfold Oper.wp
    simp [execOp, hop, hm, hx, hv, hrun, Result.andThen]
    exact hK _ _ (h w' hS')
set_option maxRecDepth 100000 in
/-- An entry is struck. -/
theorem wpList_atDel {w : World} {ops : Array Oper} {rest : List Oper} {o : Oper} {a : Act} {Q : Exit → Act → World → Prop} (hgd : o.guard = none) (m x : Operand) (hop : o.op = Op.call { callee := Callee.builtin Builtin.delete, args := #[m, x], argTypes := #[99, 3] })
    {F : Nat → Prop} {W : World} {items : List Item} (hS : Sep F W w items) (k : Nat) {b N : Nat} {l : List Int} {f : Int → Int} (hk : items[k]? = some (atI b N l f)) (y : Int) (hm : a.eval m = .map (some b)) (hx : a.eval x = .int .i64 y)
    (hy : wfI y) (l' : List Int) (hl : ∀ x ∈ l', x ≠ y ∧ x ∈ l)
    (h : ∀ w', Sep F W w' (items.set k (atI b N l' f)) → wpList Try.prog ops Q rest (a.put o.dst (.tuple #[])) w') : wpList Try.prog ops Q (o :: rest) a w := by
  obtain ⟨D, hown, hD⟩ : (atI b N l f).P w := hS.get k hk
  refine wpList_delete_own w hgd m x 99 3 hop 3 (int_keyed Try.underlying3) Try.underlying99 _ b N D hm hown (.int .i64 y) (.int .i64 y) hx (keyOf_int_mk Try.underlying3 hy) ?_
  intro w' h1 h2
  refine h w' (hS.step k hk ((Chg.of_grown h2.grown).mono (fun g hx => .inl (by injection hx with hx; exact hx.symm))) (atI b N l' f) ⟨_, h1, fun x hx z => ?_⟩ (fun g hg => .inl hg))
  obtain ⟨hne, hxl⟩ := hl x hx
  rw [atKey_del_other (lit_ne hne), hD x hxl]
/-- A new map. -/
theorem Sep.atNew {F : Nat → Prop} {W w : World} {items : List Item} (hS : Sep F W w items) (f : Int → Int) {g : Nat} (hg : w.heap.size = g) : Sep F W (w.alloc (.map #[] 0)) (items ++ [atI g 0 [] f]) := by
  subst hg
  exact hS.snocNew ((Below.refl _ w).alloc (Nat.le_refl _) _) (atI w.heap.size 0 [] f) ⟨_, World.ownsMap_made _ _ _ _, fun x hx => by cases hx⟩ (fun g hg => by rw [show g = w.heap.size from hg]; exact Nat.le_refl _)
end Go.Proofs.Ytjphckfbbiehdaa

namespace Go.Proofs.Ytjphckfbbiehdaa

theorem mem_seen1' {l : List Int} {v : Val} {x : Int} (h : x ∈ seen1 l v) : x ∈ l ∨ (v.1 = true ∧ v.2 = x) := by
  unfold seen1 at h
  split at h
  · rename_i hc
    rcases List.mem_append.1 h with h1 | h1
    · exact .inl h1
    · exact .inr ⟨hc.1, (List.mem_singleton.1 h1).symm⟩
  · exact .inl h
theorem mem_seenAll' (vs : List Val) : ∀ {l : List Int} {x : Int}, x ∈ seenAll l vs → x ∈ l ∨ (true, x) ∈ vs := by
  induction vs with
  | nil => exact fun h => .inl h
  | cons a vs ih =>
    intro l x h
    have h1 : x ∈ seenAll (seen1 l a) vs := h
    rcases ih h1 with h2 | h2
    · rcases mem_seen1' h2 with h3 | ⟨h3, h4⟩
      · exact .inl h3
      · exact .inr (by rw [show a = (true, x) from Prod.ext h3 h4]; exact List.mem_cons_self ..)
    · exact .inr (List.mem_cons_of_mem _ h2)
theorem bfs_sub {gs : List (List Val)} {S : Int → Prop} (hc : ∀ x, S x → ∀ y, (true, y) ∈ fieldsI gs x → S y) (f : Nat) : ∀ {k : Nat} {l : List Int}, (∀ x ∈ l, S x) → ∀ x ∈ bfs gs f k l, S x := by
  induction f with
  | zero => exact fun h x hx => h x hx
  | succ f ih =>
    intro k l h x hx
    unfold bfs at hx
    split at hx
    · rename_i hk
      refine ih (fun y hy => ?_) x hx
      rcases mem_seenAll' _ hy with h1 | h1
      · exact h y h1
      · refine hc _ (h (l.getD k 0) ?_) y h1
        rw [List.getD_eq_getElem?_getD, List.getElem?_eq_getElem hk]
        exact List.getElem_mem hk
    · exact h x hx
theorem order_sub {gs : List (List Val)} {vs : List Val} {S : Int → Prop} (hv : ∀ y, (true, y) ∈ vs → S y) (hc : ∀ x, S x → ∀ y, (true, y) ∈ fieldsI gs x → S y) : ∀ x ∈ order gs vs, S x := by
  refine bfs_sub hc _ (fun x hx => ?_)
  rcases mem_seenAll' _ hx with h | h
  · cases h
  · exact hv x h
theorem bfs_pre' (gs : List (List Val)) (f : Nat) : ∀ (k : Nat) (l : List Int), l <+: bfs gs f k l := by
  induction f with
  | zero => exact fun _ l => List.prefix_refl _
  | succ f ih =>
    intro k l
    unfold bfs
    split
    · exact (seenAll_pre l _).trans (ih _ _)
    · exact List.prefix_refl _
theorem bfs_congr {gs hs : List (List Val)} (f : Nat) : ∀ (k : Nat) (l : List Int), (∀ x ∈ bfs gs f k l, fieldsI gs x = fieldsI hs x) → bfs gs f k l = bfs hs f k l := by
  induction f with
  | zero => exact fun _ _ _ => rfl
  | succ f ih =>
    intro k l h
    unfold bfs at h ⊢
    by_cases hk : k < l.length
    · simp only [if_pos hk] at h ⊢
      have hm : l.getD k 0 ∈ l := by
        rw [List.getD_eq_getElem?_getD, List.getElem?_eq_getElem hk]
        exact List.getElem_mem hk
      have h1 : fieldsI gs (l.getD k 0) = fieldsI hs (l.getD k 0) := h _ (((seenAll_pre l _).trans (bfs_pre' gs f _ _)).subset hm)
      rw [← h1]
      exact ih _ _ h
    · simp only [if_neg hk]
theorem order_congr {gs hs : List (List Val)} {vs : List Val} (hl : gs.length = hs.length) (h : ∀ x ∈ order gs vs, fieldsI gs x = fieldsI hs x) : order gs vs = order hs vs := by
  unfold order at h ⊢
  rw [← hl]
  exact bfs_congr _ _ _ h
theorem renumF_congr {gs hs : List (List Val)} {l : List Int} (h : ∀ x ∈ l, fieldsI gs x = fieldsI hs x) : renumF gs l = renumF hs l := by
  unfold renumF
  exact List.map_congr_left fun x hx => by rw [h x hx]
end Go.Proofs.Ytjphckfbbiehdaa

namespace Go.Proofs.Ytjphckfbbiehdaa

structure RnA where
  regs : List Val
  objs : List (Option (List Val))
  ats : List Int
  times : Int
def RnA.fld (a : RnA) (i : Nat) : Option (List Val) := (a.objs[i]?).getD none
def RnA.gs (a : RnA) : List (List Val) := a.objs.map fun o => o.getD []
def RnA.vok (a : RnA) (v : Val) : Prop := v.1 = true → ∃ (i : Nat) (fs : List Val), v.2 = (i : Int) ∧ a.fld i = some fs
def RnA.at_ (a : RnA) (x : Int) : Int := a.ats.getD x.toNat 0
def RnA.sz (a : RnA) (x : Int) : Int := 1 + (((a.fld x.toNat).getD []).length : Int)
def RnA.row (a : RnA) : List Int := (thereL a.objs).mergeSort fun x y => decide (a.at_ x ≤ a.at_ y)
def roomG (sw : Bool) (W n : Int) (f s : Int → Int) : List Int → Int → Int
  | [], next => if n ≤ W - next then next else -1
  | x :: l, next => if sw = true ∧ n ≤ f x - next then next else roomG sw W n f s l (f x + s x)
def RnA.room (a : RnA) (c W n : Int) : Int := roomG (decide (c = 1)) W n a.at_ a.sz a.row 0
def downG (s : Int → Int) : List Int → Int → List Int → List Int
  | [], _, ats => ats
  | x :: l, next, ats => downG s l (next + s x) (ats.set x.toNat next)
def RnA.lives (a : RnA) : List Int := order a.gs a.regs
def RnA.gone (a : RnA) : List Int := (thereL a.objs).filter fun x => !decide (x ∈ a.lives)
def RnA.drop (a : RnA) : RnA := { a with objs := dropF a.objs a.gone, times := a.times + 1 }
def RnA.clear (a : RnA) (c : Int) : RnA :=
  if c = 2 then { a.drop with ats := downG a.drop.sz a.lives 0 a.ats }
  else if c = 3 then { a.drop with ats := downG a.drop.sz a.drop.row 0 a.ats } else a.drop
def RnA.push (a : RnA) (n : Nat) (p : Int) : RnA := { a with objs := a.objs ++ [some (zeroVs n)], ats := a.ats ++ [p] }
def rnNew (c W : Int) (a : RnA) (n : Nat) : RnA × Int × Int :=
  if 0 ≤ a.room c W (1 + n) then (a.push n (a.room c W (1 + n)), a.objs.length, 0)
  else if 0 ≤ (a.clear c).room c W (1 + n) then ((a.clear c).push n ((a.clear c).room c W (1 + n)), a.objs.length, 0)
  else (a.clear c, 0, 6)

/-- Places: apart, and within the words. -/
structure Apart (W : Int) (f s : Int → Int) (l : List Int) : Prop where
  lo : ∀ x ∈ l, 0 ≤ f x
  hi : ∀ x ∈ l, f x + s x ≤ W
  ap : ∀ x ∈ l, ∀ y ∈ l, x ≠ y → f x + s x ≤ f y ∨ f y + s y ≤ f x
/-- In order: each ends before the next begins. -/
inductive Lad (W : Int) (f s : Int → Int) : Int → List Int → Prop
  | nil {b : Int} : b ≤ W → Lad W f s b []
  | cons {b x : Int} {l : List Int} : b ≤ f x → Lad W f s (f x + s x) l → Lad W f s b (x :: l)
theorem Lad.start {W b : Int} {f s : Int → Int} {l : List Int} (hs : ∀ x ∈ l, 0 < s x) (h : Lad W f s b l) : b ≤ W ∧ ∀ x ∈ l, b ≤ f x ∧ f x + s x ≤ W := by
  induction h with
  | nil h => exact ⟨h, fun x hx => by cases hx⟩
  | cons h1 h2 ih =>
    rename_i b x l
    obtain ⟨i1, i2⟩ := ih fun y hy => hs y (List.mem_cons_of_mem _ hy)
    have h3 := hs x (List.mem_cons_self ..)
    refine ⟨by omega, fun y hy => ?_⟩
    rcases List.mem_cons.1 hy with rfl | hy
    · exact ⟨h1, i1⟩
    · have := i2 y hy; omega
theorem Lad.sum {W b : Int} {f s : Int → Int} {l : List Int} (h : Lad W f s b l) : b + (l.map s).sum ≤ W := by
  induction h with
  | nil h => simpa using h
  | cons h1 h2 ih => simp only [List.map_cons, List.sum_cons]; omega
theorem lad_of {W : Int} {f s : Int → Int} : ∀ {l : List Int} {b : Int}, (∀ x ∈ l, 0 < s x) → l.Nodup → Apart W f s l → l.Pairwise (fun x y => f x ≤ f y) → b ≤ W → (∀ x ∈ l, b ≤ f x) → Lad W f s b l := by
  intro l
  induction l with
  | nil => exact fun _ _ _ _ hb _ => .nil hb
  | cons x l ih =>
    intro b hs hn ha hp hb hl
    obtain ⟨n1, n2⟩ := List.nodup_cons.1 hn
    obtain ⟨p1, p2⟩ := List.pairwise_cons.1 hp
    refine .cons (hl x (List.mem_cons_self ..)) (ih (fun y hy => hs y (List.mem_cons_of_mem _ hy)) n2 ⟨fun y hy => ha.lo y (List.mem_cons_of_mem _ hy), fun y hy => ha.hi y (List.mem_cons_of_mem _ hy), fun y hy z hz => ha.ap y (List.mem_cons_of_mem _ hy) z (List.mem_cons_of_mem _ hz)⟩ p2 (ha.hi x (List.mem_cons_self ..)) fun y hy => ?_)
    have h1 := ha.ap x (List.mem_cons_self ..) y (List.mem_cons_of_mem _ hy) (by rintro rfl; exact n1 hy)
    have h2 := p1 y hy
    have h3 := hs y (List.mem_cons_of_mem _ hy)
    omega
/-- What room finds is free. -/
theorem roomG_ok {sw : Bool} {W n : Int} {f s : Int → Int} (hn : 0 < n) : ∀ {l : List Int} {b : Int}, (∀ x ∈ l, 0 < s x) → Lad W f s b l → 0 ≤ b → 0 ≤ roomG sw W n f s l b →
    b ≤ roomG sw W n f s l b ∧ roomG sw W n f s l b + n ≤ W ∧ ∀ x ∈ l, roomG sw W n f s l b + n ≤ f x ∨ f x + s x ≤ roomG sw W n f s l b := by
  intro l
  induction l with
  | nil =>
    intro b _ _ hb h
    unfold roomG at h ⊢
    split at h
    · rename_i h1
      rw [if_pos h1]
      exact ⟨Int.le_refl _, by omega, fun x hx => by cases hx⟩
    · omega
  | cons x l ih =>
    intro b hs hl hb h
    cases hl with
    | cons h1 h2 =>
      have hs' : ∀ y ∈ l, 0 < s y := fun y hy => hs y (List.mem_cons_of_mem _ hy)
      have h3 := hs x (List.mem_cons_self ..)
      obtain ⟨g1, g2⟩ := h2.start hs'
      unfold roomG at h ⊢
      split at h
      · rename_i hc
        rw [if_pos hc]
        refine ⟨Int.le_refl _, by omega, fun y hy => .inl ?_⟩
        rcases List.mem_cons.1 hy with rfl | hy
        · omega
        · have := g2 y hy; omega
      · rename_i hc
        rw [if_neg hc]
        obtain ⟨i1, i2, i3⟩ := ih hs' h2 (by omega) h
        refine ⟨by omega, i2, fun y hy => ?_⟩
        rcases List.mem_cons.1 hy with rfl | hy
        · exact .inr (by omega)
        · exact i3 y hy

/-- One behind the other. -/
inductive Pk (f s : Int → Int) : Int → List Int → Prop
  | nil {b : Int} : Pk f s b []
  | cons {b x : Int} {l : List Int} : f x = b → Pk f s (b + s x) l → Pk f s b (x :: l)
theorem Pk.lad {W : Int} {f s : Int → Int} {b : Int} {l : List Int} (h : Pk f s b l) (hw : b + (l.map s).sum ≤ W) : Lad W f s b l := by
  induction h with
  | nil => exact .nil (by simpa using hw)
  | cons h1 h2 ih =>
    subst h1
    simp only [List.map_cons, List.sum_cons] at hw
    exact .cons (Int.le_refl _) (ih (by omega))
theorem Pk.room {W n : Int} {f s : Int → Int} {b : Int} {l : List Int} (h : Pk f s b l) : roomG false W n f s l b = if n ≤ W - (b + (l.map s).sum) then b + (l.map s).sum else -1 := by
  induction h with
  | nil => simp [roomG]
  | cons h1 h2 ih =>
    subst h1
    unfold roomG
    rw [if_neg (by simp), ih]
    simp only [List.map_cons, List.sum_cons, Int.add_assoc]
theorem downG_len (s : Int → Int) : ∀ (l : List Int) (b : Int) (ats : List Int), (downG s l b ats).length = ats.length := by
  intro l
  induction l with
  | nil => exact fun _ _ => rfl
  | cons x l ih => intro b ats; unfold downG; rw [ih, List.length_set]
theorem downG_other (s : Int → Int) : ∀ (l : List Int) (b : Int) (ats : List Int) (y : Int), 0 ≤ y → (∀ x ∈ l, 0 ≤ x) → y ∉ l → (downG s l b ats).getD y.toNat 0 = ats.getD y.toNat 0 := by
  intro l
  induction l with
  | nil => exact fun _ _ _ _ _ _ => rfl
  | cons x l ih =>
    intro b ats y hy hl hn
    unfold downG
    rw [ih _ _ y hy (fun z hz => hl z (List.mem_cons_of_mem _ hz)) (fun h => hn (List.mem_cons_of_mem _ h)), List.getD_eq_getElem?_getD, List.getElem?_set, if_neg, ← List.getD_eq_getElem?_getD]
    intro e
    have h1 := hl x (List.mem_cons_self ..)
    exact hn (by rw [show y = x by omega]; exact List.mem_cons_self ..)
theorem downG_pk (s : Int → Int) : ∀ (l : List Int) (b : Int) (ats : List Int), l.Nodup → (∀ x ∈ l, 0 ≤ x ∧ x < (ats.length : Int)) → Pk (fun x => (downG s l b ats).getD x.toNat 0) s b l := by
  have gen : ∀ (l : List Int) (f g : Int → Int) (b : Int), (∀ x ∈ l, f x = g x) → Pk f s b l → Pk g s b l := by
    intro l f g b h hp
    induction hp with
    | nil => exact .nil
    | cons h1 h2 ih => exact .cons ((h _ (List.mem_cons_self ..)).symm.trans h1) (ih fun x hx => h x (List.mem_cons_of_mem _ hx))
  intro l
  induction l with
  | nil => exact fun _ _ _ _ => .nil
  | cons x l ih =>
    intro b ats hn hl
    obtain ⟨n1, n2⟩ := List.nodup_cons.1 hn
    have hx := hl x (List.mem_cons_self ..)
    have h1 := ih (b + s x) (ats.set x.toNat b) n2 (fun y hy => by rw [List.length_set]; exact hl y (List.mem_cons_of_mem _ hy))
    refine .cons ?_ h1
    show (downG s l (b + s x) (ats.set x.toNat b)).getD x.toNat 0 = b
    rw [downG_other _ _ _ _ _ hx.1 (fun y hy => (hl y (List.mem_cons_of_mem _ hy)).1) n1, List.getD_eq_getElem?_getD, List.getElem?_set, if_pos rfl, if_pos (by omega)]
    rfl
/-- Apart in a row. -/
theorem Lad.apart {W b : Int} {f s : Int → Int} {l : List Int} (hs : ∀ x ∈ l, 0 < s x) (h : Lad W f s b l) (hb : 0 ≤ b) : Apart W f s l := by
  refine ⟨fun x hx => by have := (h.start hs).2 x hx; omega, fun x hx => ((h.start hs).2 x hx).2, ?_⟩
  induction h with
  | nil h => exact fun x hx => by cases hx
  | cons h1 h2 ih =>
    rename_i b x l
    have hs' : ∀ y ∈ l, 0 < s y := fun y hy => hs y (List.mem_cons_of_mem _ hy)
    have h3 := hs x (List.mem_cons_self ..)
    have i2 := (h2.start hs').2
    intro y hy z hz hne
    rcases List.mem_cons.1 hy with e1 | hy1
    · rcases List.mem_cons.1 hz with e2 | hz1
      · exact absurd (e1.trans e2.symm) hne
      · subst e1; exact .inl (i2 z hz1).1
    · rcases List.mem_cons.1 hz with e2 | hz1
      · subst e2; exact .inr (i2 y hy1).1
      · exact ih hs' (by omega) y hy1 z hz1 hne
theorem sum_perm {l m : List Int} (s : Int → Int) (h : l.Perm m) : (l.map s).sum = (m.map s).sum := by
  induction h with
  | nil => rfl
  | cons x _ ih => simp only [List.map_cons, List.sum_cons, ih]
  | swap x y l => simp only [List.map_cons, List.sum_cons]; omega
  | trans _ _ h1 h2 => exact h1.trans h2
end Go.Proofs.Ytjphckfbbiehdaa
