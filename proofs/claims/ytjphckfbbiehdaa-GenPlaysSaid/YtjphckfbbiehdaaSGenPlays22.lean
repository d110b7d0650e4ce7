/- A memory with young and old objects, plain: what it is; what is done; what keeps it whole. A map whose keys are fields (an object, a place): what is in it; one put; all cleared; a loop over it. A map whose keys are fields: laid, one put, all cleared, a loop over it. -/
import Derived.Test.YtjphckfbbiehdaaSGenPlays13
import Derived.Test.YtjphckfbbiehdaaSGenPlays15
import Derived.Test.YtjphckfbbiehdaaSGenPlays21
import Derived.Test.YtjphckfbbiehdaaSGenPlays1
import Derived.Test.YtjphckfbbiehdaaSGenPlays2
import Derived.Maps.Own
import Derived.Maps.RangeWalk
import Derived.MapKept
import Derived.DeepKeys4
import Derived.WideKeyPair
set_option linter.unusedSimpArgs false
set_option linter.unusedVariables false
namespace Go.Proofs.Ytjphckfbbiehdaa
open Go.RowKit
abbrev Gp := Nat × Nat
structure GnA where
  regs : List Val
  objs : List (Option (List Val))
  old : List Bool
  mks : List Gp
def GnA.fld (a : GnA) (i : Nat) : Option (List Val) := (a.objs[i]?).getD none
def GnA.od (a : GnA) (i : Nat) : Bool := a.old.getD i false
def GnA.vok (a : GnA) (v : Val) : Prop := v.1 = true → ∃ (i : Nat) (fs : List Val), v.2 = (i : Int) ∧ a.fld i = some fs
theorem GnA.fld_iff {a : GnA} {i : Nat} {fs : List Val} : a.fld i = some fs ↔ a.objs[i]? = some (some fs) := by
  unfold GnA.fld
  cases a.objs[i]? with
  | none => simp
  | some o => simp
theorem GnA.fld_lt {a : GnA} {i : Nat} {fs : List Val} (h : a.fld i = some fs) : i < a.objs.length := (List.getElem?_eq_some_iff.1 (GnA.fld_iff.1 h)).1
/-! ### Remembered fields, in order. -/
def ltP (p q : Gp) : Prop := p.1 < q.1 ∨ (p.1 = q.1 ∧ p.2 < q.2)
instance (p q : Gp) : Decidable (ltP p q) := by unfold ltP; infer_instance
theorem ltP_tri (p q : Gp) : ltP p q ∨ p = q ∨ ltP q p := by
  unfold ltP
  obtain ⟨a, b⟩ := p
  obtain ⟨c, d⟩ := q
  simp only [Prod.mk.injEq]
  omega
theorem ltP_trans {p q r : Gp} (h1 : ltP p q) (h2 : ltP q r) : ltP p r := by unfold ltP at *; omega
theorem ltP_irr {p : Gp} : ¬ ltP p p := by unfold ltP; omega
def insF (f : Gp) : List Gp → List Gp
  | [] => [f]
  | x :: l => if ltP x f then x :: insF f l else if x = f then x :: l else f :: x :: l
theorem mem_insF {f p : Gp} : ∀ {l : List Gp}, p ∈ insF f l ↔ p = f ∨ p ∈ l
  | [] => by simp [insF]
  | x :: l => by
    unfold insF
    split
    · rw [List.mem_cons, mem_insF, List.mem_cons]
      constructor
      · rintro (h | h | h)
        · exact .inr (.inl h)
        · exact .inl h
        · exact .inr (.inr h)
      · rintro (h | h | h)
        · exact .inr (.inl h)
        · exact .inl h
        · exact .inr (.inr h)
    · split
      · rename_i h
        subst h
        rw [List.mem_cons]
        exact ⟨.inr, fun h => h.elim (fun h => .inl h) id⟩
      · rw [List.mem_cons]
theorem insF_sorted {f : Gp} : ∀ {l : List Gp}, l.Pairwise ltP → (insF f l).Pairwise ltP
  | [], _ => by simp [insF]
  | x :: l, h => by
    obtain ⟨h1, h2⟩ := List.pairwise_cons.1 h
    unfold insF
    split
    · rename_i hx
      refine List.pairwise_cons.2 ⟨fun y hy => ?_, insF_sorted h2⟩
      rcases mem_insF.1 hy with rfl | hy
      · exact hx
      · exact h1 y hy
    · split
      · exact h
      · rename_i hx hn
        have hfx : ltP f x := by
          rcases ltP_tri x f with h3 | h3 | h3
          · exact absurd h3 hx
          · exact absurd h3 hn
          · exact h3
        refine List.pairwise_cons.2 ⟨fun y hy => ?_, h⟩
        rcases List.mem_cons.1 hy with rfl | hy
        · exact hfx
        · exact ltP_trans hfx (h1 y hy)
theorem insF_len {f : Gp} : ∀ {l : List Gp}, (insF f l).length ≤ l.length + 1
  | [] => by simp [insF]
  | x :: l => by
    unfold insF
    split
    · have := insF_len (f := f) (l := l); simp only [List.length_cons]; omega
    · split <;> simp
/-- Two rows in order with the same in them are the same. -/
theorem sorted_uniq {l m : List Gp} (h1 : l.Pairwise ltP) (h2 : m.Pairwise ltP) (h : ∀ p, p ∈ l ↔ p ∈ m) : l = m := by
  have n1 : l.Nodup := h1.imp fun h e => by subst e; exact ltP_irr h
  have n2 : m.Nodup := h2.imp fun h e => by subst e; exact ltP_irr h
  exact List.Perm.eq_of_pairwise (le := ltP) (fun x y _ _ h1 h2 => absurd (ltP_trans h1 h2) ltP_irr) h1 h2 ((List.perm_ext_iff_of_nodup n1 n2).2 h)
/-! ### What is cleared up. -/
def GnA.gsY (a : GnA) : List (List Val) := (List.range a.objs.length).map fun i => if a.od i = true then [] else (a.fld i).getD []
def GnA.rtY (a : GnA) : List Val := a.regs ++ a.mks.map fun p => ((a.fld p.1).getD []).getD p.2 (false, 0)
def GnA.kept (a : GnA) (i : Nat) : Bool := a.od i || decide ((i : Int) ∈ reachR a.gsY a.rtY)
def GnA.gs (a : GnA) : List (List Val) := a.objs.map fun o => o.getD []
def GnA.lives (a : GnA) (i : Nat) : Bool := decide ((i : Int) ∈ reachR a.gs a.regs)
def goneB (K : Nat → Bool) (T : List Int) : List Int := T.filter fun x => !K x.toNat
theorem goneB_snoc (K : Nat → Bool) (T : List Int) (x : Int) : goneB K (T ++ [x]) = goneB K T ++ if K x.toNat = true then [] else [x] := by
  unfold goneB
  rw [List.filter_append, List.filter_cons, List.filter_nil]
  cases K x.toNat <;> simp
def dropK (K : Nat → Bool) (objs : List (Option (List Val))) : List (Option (List Val)) := dropF objs (goneB K (thereL objs))
theorem dropK_len (K : Nat → Bool) (objs : List (Option (List Val))) : (dropK K objs).length = objs.length := dropF_len _ _
theorem dropK_get (K : Nat → Bool) (objs : List (Option (List Val))) (i : Nat) (fs : List Val) : (dropK K objs)[i]? = some (some fs) ↔ objs[i]? = some (some fs) ∧ K i = true := by
  unfold dropK
  have h0 : ∀ x ∈ goneB K (thereL objs), 0 ≤ x := fun x hx => by
    obtain ⟨j, _, rfl, _⟩ := (mem_thereL _ _).1 (List.mem_filter.1 hx).1
    omega
  rw [dropF_get _ _ _ h0]
  have hm : (i : Int) ∈ goneB K (thereL objs) ↔ (∃ gs, objs[i]? = some (some gs)) ∧ K i = false := by
    unfold goneB
    rw [List.mem_filter, mem_thereL]
    simp only [Int.toNat_natCast, Bool.not_eq_true']
    constructor
    · rintro ⟨⟨j, gs, e, h⟩, hk⟩
      obtain rfl : i = j := by omega
      exact ⟨⟨gs, h⟩, hk⟩
    · rintro ⟨⟨gs, h⟩, hk⟩
      exact ⟨⟨i, gs, rfl, h⟩, hk⟩
  constructor
  · split
    · intro h; injection h with h; cases h
    · rename_i hc
      intro h
      refine ⟨h, ?_⟩
      cases hk : K i with
      | true => rfl
      | false => exact absurd ⟨hm.2 ⟨⟨fs, h⟩, hk⟩, (List.getElem?_eq_some_iff.1 h).1⟩ hc
  · rintro ⟨h1, h2⟩
    rw [if_neg (fun h => by have := (hm.1 h.1).2; rw [h2] at this; cases this)]
    exact h1
def GnA.minor (a : GnA) : GnA := ⟨a.regs, dropK a.kept a.objs, (List.range a.objs.length).map a.kept, []⟩
def GnA.major (a : GnA) : GnA := ⟨a.regs, dropK a.lives a.objs, (List.range a.objs.length).map fun i => a.od i || (a.fld i).isSome, []⟩
def GnA.many (a : GnA) (b : Bool) : Nat := ((thereL a.objs).filter fun x => a.od x.toNat == b).length
def GnA.push (a : GnA) (n : Nat) : GnA := ⟨a.regs, a.objs ++ [some (zeroVs n)], a.old ++ [false], a.mks⟩
def gnRoom (room : Nat) (a : GnA) : GnA := if room ≤ a.many false then a.minor else a
def gnNew (room : Nat) (a : GnA) (n : Nat) : GnA × Int × Int :=
  if 24 ≤ (gnRoom room a).many true then (gnRoom room a, 0, 6) else ((gnRoom room a).push n, (a.objs.length : Int), 0)
def gnPut (a : GnA) (i k : Nat) (v : Val) : GnA :=
  ⟨a.regs, a.objs.set i (some (((a.fld i).getD []).set k v)), a.old, if a.od i && v.1 && !a.od v.2.toNat then insF (i, k) a.mks else a.mks⟩
def GnA.sr (a : GnA) (r : Nat) (v : Val) : GnA := { a with regs := a.regs.set r v }
/-- What holds of it. -/
structure GnOk (a : GnA) : Prop where
  r8 : a.regs.length = 8
  ol : a.old.length = a.objs.length
  vr : ∀ v ∈ a.regs, a.vok v
  vf : ∀ i fs v, a.fld i = some fs → v ∈ fs → a.vok v
  f4 : ∀ i fs, a.fld i = some fs → fs.length ≤ 4
  mo : ∀ p ∈ a.mks, a.od p.1 = true ∧ ∃ fs, a.fld p.1 = some fs ∧ p.2 < fs.length
  ms : a.mks.Pairwise ltP
  rm : ∀ i fs k (j : Nat), a.fld i = some fs → a.od i = true → fs[k]? = some (true, (j : Int)) → a.od j = false → (i, k) ∈ a.mks
end Go.Proofs.Ytjphckfbbiehdaa

namespace Go.Proofs.Ytjphckfbbiehdaa
open Go.RowKit Go.Maps Go.WideMaps
theorem gnLaid : laidOutB Try.prog = true := by kernel_rfl
set_option maxRecDepth 100000 in
theorem gnRow : (174 : TypeId) < Try.prog.types.size := of_decide_eq_true (by kernel_rfl)
theorem gnPos {n k : Nat} (h : k < n) : ∃ m, n = m + 1 := ⟨n - 1, by omega⟩
set_option maxRecDepth 100000 in
theorem gnSize : ∃ m, Try.prog.types.size = m + 1 := gnPos gnRow
theorem gnWide : (match Try.prog.underlying 174 with | some (.array _ _) | some (.struct _) => true | _ => false) = true := by rw [Try.underlying174]
set_option maxRecDepth 100000 in
theorem gnLaw : KeyLaw Try.prog 174 := deep_law_laid gnLaid (m := 2) (by omega) gnRow (by kernel_rfl) gnWide
theorem gnKeyed : Keyed Try.prog 174 := Keyed.of_law gnLaw
theorem gnKeyT : Try.prog.keyType 174 = true := by kernel_rfl
theorem gnCells : Try.prog.cellsOf 174 = 2 := by kernel_rfl
theorem gnCellsI : Try.prog.cellsOf 3 = 1 := by kernel_rfl
abbrev Zp := Int × Int
def gz (p : Gp) : Zp := ((p.1 : Int), (p.2 : Int))
theorem gz_inj {p q : Gp} (h : gz p = gz q) : p = q := by
  unfold gz at h
  injection h with h1 h2
  exact Prod.ext (by omega) (by omega)
/-- What a pair is as a key. -/
def gk (p : Zp) : Lit := .string (keyBytes [.int .i64 p.1, .int .i64 p.2])
def ZOk (p : Zp) : Prop := (Lit.int .i64 p.1).wf = true ∧ (Lit.int .i64 p.2).wf = true
def gpV (p : Zp) : Value := .agg #[.int .i64 p.1, .int .i64 p.2]
theorem gk_inj {p q : Zp} (hp : ZOk p) (hq : ZOk q) (h : gk p = gk q) : p = q := by
  unfold gk at h
  injection h with h
  have := keyBytes_inj (l := [.int .i64 p.1, .int .i64 p.2]) (l' := [.int .i64 q.1, .int .i64 q.2]) (by simp [Alike, Lit.sameKind]) (by simp [Lit.keyWf, hp.1, hp.2]) (by simp [Lit.keyWf, hq.1, hq.2]) h
  simp at this
  exact Prod.ext this.1 this.2
theorem keyOf_gp {p : Zp} (hp : ZOk p) : keyOf Try.prog 174 (gpV p) = some (gk p) := by
  obtain ⟨m, hm⟩ := gnSize
  unfold keyOf gpV
  simp only [Try.underlying174]
  rw [if_pos (by simp [gnKeyT, Value.formed, Try.underlying174, gnCells]), hm]
  unfold Program.keyLits
  simp only [Try.underlying174, Value.cells]
  rw [if_pos (by rw [gnCells]; simp)]
  simp [gnCellsI, Program.keyLits, Try.underlying3, hp.1, hp.2, gk]
theorem keyLits_int {m : Nat} {x : Value} {ls : List Lit} (h : Try.prog.keyLits (m + 1) 3 [x] = some ls) : ∃ a, x = .int .i64 a ∧ (Lit.int .i64 a).wf = true ∧ ls = [.int .i64 a] := by
  unfold Program.keyLits at h
  simp only [Try.underlying3] at h
  cases x with
  | int q a =>
    dsimp only at h
    split at h
    · rename_i hq
      obtain ⟨rfl, hw⟩ := hq
      injection h with h
      exact ⟨a, rfl, hw, h.symm⟩
    · cases h
  | _ => simp at h
set_option maxRecDepth 100000 in
theorem keyOf_gp_inv {v : Value} {kl : Lit} (h : keyOf Try.prog 174 v = some kl) : ∃ p : Zp, v = gpV p ∧ kl = gk p ∧ ZOk p := by
  obtain ⟨m, hm⟩ := gnSize
  unfold keyOf at h
  simp only [Try.underlying174] at h
  rw [hm] at h
  split at h
  · rename_i hf
    rw [Bool.and_eq_true] at hf
    have hf2 := hf.2
    unfold Value.formed at hf2
    simp only [Try.underlying174] at hf2
    cases v with
    | agg cs =>
      obtain ⟨l⟩ := cs
      simp only [gnCells] at hf2
      match l, hf2 with
      | [], hf2 => simp at hf2
      | [_], hf2 => simp at hf2
      | _ :: _ :: _ :: _, hf2 => simp at hf2
      | [x, y], _ =>
        unfold Program.keyLits at h
        simp only [Try.underlying174, Value.cells] at h
        rw [if_pos (by rw [gnCells]; simp)] at h
        simp only [gnCellsI, List.mapM_cons, List.mapM_nil, List.drop_zero, List.drop_succ_cons, List.take_succ_cons, List.take_zero] at h
        cases hx : Try.prog.keyLits (m + 1) 3 [x] with
        | none => rw [hx] at h; simp at h
        | some lx =>
          cases hy : Try.prog.keyLits (m + 1) 3 [y] with
          | none => rw [hx, hy] at h; simp at h
          | some ly =>
            obtain ⟨a, rfl, wa, rfl⟩ := keyLits_int hx
            obtain ⟨b, rfl, wb, rfl⟩ := keyLits_int hy
            rw [hx, hy] at h
            simp at h
            exact ⟨(a, b), rfl, h.symm, wa, wb⟩
    | _ => simp at hf2
  · cases h
end Go.Proofs.Ytjphckfbbiehdaa

namespace Go.Proofs.Ytjphckfbbiehdaa
open Go.RowKit Go.Maps Go.WideMaps Go.MapKept
/-- A map of at most N entries, that has these keys. -/
def gmT (D : DataW Unit) (l : List Gp) : Prop := ∀ p, ZOk p → ∀ z, D.atKey (gk p) z = if p ∈ l.map gz then .lit (.int .i64 1) else z
def gmI (b N : Nat) (l : List Gp) : Item where
  fp k := k = b
  P w := ∃ D : DataW Unit, w.ownsMap Try.prog 174 (plainElem Try.prog 3) b N D ∧ gmT D l
  dom w h k hk := by subst hk; obtain ⟨D, h, _⟩ := h; exact World.ownsMap.lt h
  loc w w' _ hk h := by obtain ⟨D, ⟨es, clock, hb, r⟩, h2⟩ := h; exact ⟨D, ⟨es, clock, (hk b rfl).trans hb, r⟩, h2⟩
theorem mem_gz {p : Gp} {l : List Gp} : gz p ∈ l.map gz ↔ p ∈ l := by
  rw [List.mem_map]
  exact ⟨fun ⟨q, h1, h2⟩ => gz_inj h2 ▸ h1, fun h => ⟨p, h, rfl⟩⟩
theorem gm_tight {w : World} {b n m : Nat} {D : DataW Unit} (h : w.ownsMap Try.prog 174 (plainElem Try.prog 3) b n D) (hm : Maps.size D ≤ m) : w.ownsMap Try.prog 174 (plainElem Try.prog 3) b m D := by
  obtain ⟨es, clock, hb, F, hs, rfl⟩ := h
  refine ⟨es, clock, hb, F, ?_, rfl⟩
  simpa [Maps.size, length_sorted] using hm
theorem gmT_nil : gmT (.map []) [] := fun p _ z => by simp [DataW.atKey]
theorem Sep.gmNew {F : Nat → Prop} {W w : World} {items : List Item} (hS : Sep F W w items) {g : Nat} (hg : w.heap.size = g) : Sep F W (w.alloc (.map #[] 0)) (items ++ [gmI g 0 []]) := by
  subst hg
  exact hS.snocNew ((Below.refl _ w).alloc (Nat.le_refl _) _) (gmI w.heap.size 0 []) ⟨_, World.ownsMap_made _ _ _ _, gmT_nil⟩ (fun g hg => by rw [show g = w.heap.size from hg]; exact Nat.le_refl _)
theorem wf1 : (Lit.int .i64 1).wf = true := by decide
set_option maxRecDepth 100000 in
theorem Sep.gmPut {F : Nat → Prop} {W w : World} {items : List Item} (hS : Sep F W w items) (k : Nat) {b N : Nat} {l : List Gp} (hk : items[k]? = some (gmI b N l)) (hn : N + 1 < maxLen) (p : Gp) (hp : ZOk (gz p)) (l' : List Gp) (hl : ∀ q, q ∈ l' ↔ q = p ∨ q ∈ l) :
    ∃ w', (Instr.mapUpdate 197 (.map (some b)) (gpV (gz p)) (.int .i64 1)).run Try.prog w = .ok () w' ∧ Sep F W w' (items.set k (gmI b (N + 1) l')) := by
  obtain ⟨D, hown, hD⟩ : (gmI b N l).P w := hS.get k hk
  have ht := hown.tidy gnKeyed
  have hs := hown.size_le
  obtain ⟨w', hrun, r1, r2⟩ := hown.update gnKeyed Try.underlying197 (by omega) (keyOf_gp hp) (plainElem_int Try.underlying3 wf1)
  have hsz : Maps.size (D.put (gk (gz p)) (.lit (.int .i64 1))) ≤ N + 1 := by
    rw [Maps.size_put ht]
    split <;> omega
  have hc : Chg (fun g => g = b) w w' := (Chg.of_grown r2).mono (fun g hx => .inl (by injection hx with hx; exact hx.symm))
  refine ⟨w', hrun, hS.step k hk hc (gmI b (N + 1) l') ⟨_, gm_tight r1 hsz, fun q hq z => ?_⟩ (fun g hg => .inl hg)⟩
  by_cases hyx : q = gz p
  · subst hyx
    rw [if_pos (mem_gz.2 ((hl p).2 (.inl rfl))), atKey_put_same (k := gk (gz p)) ht.isMap trivial]
  · rw [atKey_put_other (fun h => hyx (gk_inj hq hp h)), hD q hq]
    have : q ∈ l.map gz ↔ q ∈ l'.map gz := by
      rw [List.mem_map, List.mem_map]
      constructor
      · rintro ⟨r, h1, rfl⟩
        exact ⟨r, (hl r).2 (.inr h1), rfl⟩
      · rintro ⟨r, h1, rfl⟩
        rcases (hl r).1 h1 with rfl | h
        · exact absurd rfl hyx
        · exact ⟨r, h, rfl⟩
    by_cases h1 : q ∈ l.map gz
    · rw [if_pos h1, if_pos (this.1 h1)]
    · rw [if_neg h1, if_neg (fun h => h1 (this.2 h))]
set_option maxRecDepth 100000 in
theorem wpList_gmPut {w : World} {ops : Array Oper} {rest : List Oper} {o : Oper} {a : Act} {Q : Exit → Act → World → Prop} (hgd : o.guard = none) (m x v : Operand) (hop : o.op = Op.mapUpdate 197 m x v)
    {F : Nat → Prop} {W : World} {items : List Item} (hS : Sep F W w items) (k : Nat) {b N : Nat} {l : List Gp} (hk : items[k]? = some (gmI b N l)) (hn : N + 1 < maxLen) (p : Gp) (hm : a.eval m = .map (some b)) (hx : a.eval x = gpV (gz p)) (hv : a.eval v = .int .i64 1)
    (hp : ZOk (gz p)) (l' : List Gp) (hl : ∀ q, q ∈ l' ↔ q = p ∨ q ∈ l) (h : ∀ w', Sep F W w' (items.set k (gmI b (N + 1) l')) → wpList Try.prog ops Q rest (a.put o.dst undef) w') : wpList Try.prog ops Q (o :: rest) a w :=
  wpList_plain hgd fun K hK => by
    obtain ⟨w', hrun, hS'⟩ := hS.gmPut k hk hn p hp l' hl
    unfold Oper.wp
    simp [execOp, hop, hm, hx, hv, hrun, Result.andThen]
    exact hK _ _ (h w' hS')
set_option maxRecDepth 100000 in
theorem Sep.gmClear {F : Nat → Prop} {W w : World} {items : List Item} (hS : Sep F W w items) (k : Nat) {b N : Nat} {l : List Gp} (hk : items[k]? = some (gmI b N l)) (ty : TypeId) :
    ∃ w', (Builtin.clear_ #[197] ty #[.map (some b)]).run Try.prog w = .ok (.tuple #[]) w' ∧ Sep F W w' (items.set k (gmI b 0 [])) := by
  obtain ⟨D, ⟨es, clock, hb, _⟩, _⟩ : (gmI b N l).P w := hS.get k hk
  obtain ⟨h1, h2⟩ := MapKept.heap_set (w := w) (o' := .map #[] clock) hb
  obtain ⟨w2, hw2⟩ : ∃ w2 : World, w2 = { w with heap := w.heap.setIfInBounds b (.map #[] clock) } := ⟨_, rfl⟩
  have hc : Chg (fun g => g = b) w w2 := by
    subst hw2
    exact ⟨rfl, rfl, rfl, by simp, fun i hi hn => h2 i (fun e => hn e)⟩
  have hh : w2.heap[b]? = some (.map #[] clock) := by subst hw2; exact h1
  refine ⟨w2, ?_, hS.step k hk hc (gmI b 0 []) ⟨.map [], ⟨#[], clock, hh, ⟨by simp, stamped_empty _, by simp⟩, Nat.le_refl _, rfl⟩, gmT_nil⟩ (fun g hg => .inl hg)⟩
  subst hw2
  simp [Builtin.clear_, run_underlying Try.underlying197, MapKept.run_getObj_map hb, MapKept.run_setObj_map _ hb, Result.andThen]
set_option maxRecDepth 100000 in
theorem wpList_gmClear {w : World} {ops : Array Oper} {rest : List Oper} {o : Oper} {a : Act} {Q : Exit → Act → World → Prop} (hgd : o.guard = none) (m : Operand) (hop : o.op = Op.call { callee := Callee.builtin Builtin.clear, args := #[m], argTypes := #[197] })
    {F : Nat → Prop} {W : World} {items : List Item} (hS : Sep F W w items) (k : Nat) {b N : Nat} {l : List Gp} (hk : items[k]? = some (gmI b N l)) (hm : a.eval m = .map (some b))
    (h : ∀ w', Sep F W w' (items.set k (gmI b 0 [])) → wpList Try.prog ops Q rest (a.put o.dst (.tuple #[])) w') : wpList Try.prog ops Q (o :: rest) a w :=
  wpList_plain hgd fun K hK => by
    obtain ⟨w', hrun, hS'⟩ := hS.gmClear k hk o.type
    unfold Oper.wp
    simp [execOp, hop, resolve, invoke, builtin, hm, hrun, Result.andThen]
    exact hK _ _ (h w' hS')
/-! ### A loop over such a map. -/
def gmR (b r N : Nat) (l : List Gp) (left : Gp → Bool) (cnt : Nat) : Item where
  fp k := k = b ∨ k = r
  P w := ∃ (D : DataW Unit) (lf : Lit → Bool), w.ranges Try.prog 174 (plainElem Try.prog 3) b r N D lf cnt ∧ gmT D l ∧ ∀ p ∈ l, lf (gk (gz p)) = left p
  dom w h k hk := by
    obtain ⟨D, lf, h, _, _⟩ := h
    rcases hk with rfl | rfl
    · exact World.ownsMap.lt (World.ranges.owns h)
    · exact World.ranges.lt h
  loc w w' _ hk h := by
    have h1 := hk b (.inl rfl)
    have h2 := hk r (.inr rfl)
    obtain ⟨D, lf, h, h3, h4⟩ := h
    refine ⟨D, lf, ?_, h3, h4⟩
    unfold World.ranges at h ⊢
    rw [h1, h2]
    exact h
theorem gmR_owns {w : World} {b r N cnt : Nat} {l : List Gp} {left : Gp → Bool} (h : (gmR b r N l left cnt).P w) : (gmI b N l).P w := by
  obtain ⟨D, lf, h1, h2, _⟩ := h
  exact ⟨D, World.ranges.owns h1, h2⟩
/-- Behind the loop it is the map again. -/
theorem Sep.gmEnd {F : Nat → Prop} {W w : World} {items : List Item} (hS : Sep F W w items) (k : Nat) {b r N cnt : Nat} {l : List Gp} {left : Gp → Bool} (hk : items[k]? = some (gmR b r N l left cnt)) : Sep F W w (items.set k (gmI b N l)) :=
  hS.step k hk (Chg.refl _ w) (gmI b N l) (gmR_owns (hS.get k hk)) (fun g hg => .inl (.inl hg))
set_option maxRecDepth 100000 in
theorem wpList_gmBegin {w : World} {ops : Array Oper} {rest : List Oper} {o : Oper} {a : Act} {Q : Exit → Act → World → Prop} (hgd : o.guard = none) (m : Operand) (hop : o.op = Op.range 197 m)
    {F : Nat → Prop} {W : World} {items : List Item} (hS : Sep F W w items) (k : Nat) {b N : Nat} {l : List Gp} (hk : items[k]? = some (gmI b N l)) (hz : ∀ p ∈ l, ZOk (gz p)) (hm : a.eval m = .map (some b))
    (h : ∀ w' cnt, cnt ≤ N → Sep F W w' (items.set k (gmR b w.heap.size N l (fun _ => true) cnt)) → w'.heap.size = w.heap.size + 1 → wpList Try.prog ops Q rest (a.put o.dst (.pointer (some ⟨w.heap.size, 0, none⟩))) w') : wpList Try.prog ops Q (o :: rest) a w := by
  obtain ⟨D, hown, hD⟩ : (gmI b N l).P w := hS.get k hk
  refine wpList_range_own w hgd m 197 hop 174 3 gnKeyed Try.underlying197 _ b N D hm hown ?_
  intro w' h1 h2 h3
  refine h w' (Maps.size D) hown.size_le (hS.step k hk ((Chg.of_grown h2).mono (fun g hx => by cases hx)) (gmR b w.heap.size N l (fun _ => true) (Maps.size D)) ⟨D, _, h1, hD, fun p hp => ?_⟩ (fun g hg => by
    rcases hg with hg | hg
    · exact .inl hg
    · exact .inr (by omega))) h3
  have h4 := hD (gz p) (hz p hp)
  exact has_true_of_atKey (y := .lit (.int .i64 1)) fun z => by rw [h4, if_pos (mem_gz.2 hp)]
set_option maxRecDepth 100000 in
theorem wpList_gmNext {w : World} {ops : Array Oper} {rest : List Oper} {o : Oper} {a : Act} {Q : Exit → Act → World → Prop} (hgd : o.guard = none) (it : Operand) (hop : o.op = Op.next it false)
    {F : Nat → Prop} {W : World} {items : List Item} (hS : Sep F W w items) (k : Nat) {b r N cnt : Nat} {l : List Gp} {left : Gp → Bool} (hz : ∀ p ∈ l, ZOk (gz p)) (hk : items[k]? = some (gmR b r N l left cnt)) (hit : a.eval it = .pointer (some ⟨r, 0, none⟩))
    (hDone : cnt = 0 → (∀ p ∈ l, left p = false) → wpList Try.prog ops Q rest (a.put o.dst (.tuple #[.bool false])) w)
    (hMore : ∀ (p : Gp) (w' : World) (cnt' : Nat), p ∈ l → left p = true → cnt' < cnt →
      Sep F W w' (items.set k (gmR b r N l (fun q => left q && !decide (q = p)) cnt')) → w'.heap.size = w.heap.size → (Instr.entry (.pointer (some ⟨r, 0, none⟩))).run Try.prog w' = .ok (.tuple #[gpV (gz p), .int .i64 1]) w' → wpList Try.prog ops Q rest (a.put o.dst (.tuple #[.bool true, gpV (gz p), .int .i64 1])) w') :
    wpList Try.prog ops Q (o :: rest) a w := by
  obtain ⟨D, lf, hr, hD, hL⟩ : (gmR b r N l left cnt).P w := hS.get k hk
  refine wpList_next_ranges w hgd it hop 174 gnKeyed (plainElem Try.prog 3) gpV (Value.int .i64) (fun key kl hkey => by obtain ⟨p, h1, _⟩ := keyOf_gp_inv hkey; exact ⟨p, h1⟩) (fun v y hv => by obtain ⟨c, h1, _⟩ := plainElem_int_inv Try.underlying3 hv; exact ⟨c, h1⟩)
    b r N D lf cnt hit hr (fun h1 h2 => hDone h1 (fun p hp => by rw [← hL p hp]; exact h2 _)) ?_
  intro x c kl y w' cnt' hkey hlk hv hat hrg hlt hgr hsz hen
  obtain ⟨x', ex, rfl, hx⟩ := keyOf_gp_inv hkey
  have hxx : x = x' := by
    unfold gpV at ex
    obtain ⟨x1, x2⟩ := x
    obtain ⟨y1, y2⟩ := x'
    simp at ex
    exact Prod.ext ex.1 ex.2
  subst hxx
  obtain ⟨c', ec, rfl, hwc⟩ := plainElem_int_inv Try.underlying3 hv
  cases ec
  have h10 := hD x hx
  by_cases hm : x ∈ l.map gz
  · obtain ⟨p, hp, rfl⟩ := List.mem_map.1 hm
    obtain rfl : c = 1 := by
      have h11 := (hat (.map [])).symm.trans (h10 (.map []))
      rw [if_pos hm] at h11
      injection h11 with h11; injection h11
    refine hMore p w' cnt' hp ((hL p hp).symm.trans hlk) hlt (hS.step k hk ((Chg.of_grown hgr).mono (fun g hx => .inl (.inr (by injection hx with hx; exact hx.symm)))) (gmR b r N l _ cnt') ⟨D, _, hrg, hD, fun q hq => ?_⟩ (fun g hg => .inl hg)) hsz hen
    rw [hL q hq]
    by_cases hqp : q = p
    · subst hqp
      simp [Lit.sameKey, gk]
    · rw [Maps.sameKey_ne (fun h => hqp (gz_inj (gk_inj (hz q hq) hx h)))]
      simp [hqp]
  · exfalso
    have := (has_true_of_atKey hat).symm.trans (has_false_of_atKey (fun z => by rw [h10 z, if_neg hm]))
    cases this
end Go.Proofs.Ytjphckfbbiehdaa
