/- A memory with colours, plain: what it is behind each deed; what keeps it from losing what can be come to. The reference's Refers, Dist, Reach. -/
import Derived.Test.YtjphckfbbiehdaaSGenPlays11
import Derived.Test.YtjphckfbbiehdaaSGenPlays12
import Derived.Test.YtjphckfbbiehdaaSGenPlays4
set_option linter.unusedSimpArgs false
set_option linter.unusedVariables false
namespace Go.Proofs.Ytjphckfbbiehdaa
open Go.RowKit
def coWork (a : CoA) : OutV × CoA :=
  if greyF (thereL a.objs) a.cols = -1 then (⟨7, false, 0⟩, a)
  else (⟨0, false, 0⟩, { a with cols := (shadeL a.cols ((a.fld (greyF (thereL a.objs) a.cols).toNat).getD [])).set (greyF (thereL a.objs) a.cols).toNat 2 })
def whitesF (l cols : List Int) : List Int := l.filter fun x => decide (cols.getD x.toNat 0 = 0)
def dropF (objs : List (Option (List Val))) (xs : List Int) : List (Option (List Val)) := xs.foldl (fun l x => l.set x.toNat none) objs
def coSweep (a : CoA) : OutV × CoA :=
  if greyF (thereL a.objs) (shadeL a.cols a.regs) ≠ -1 then (⟨8, false, 0⟩, { a with cols := shadeL a.cols a.regs })
  else (⟨0, false, 0⟩, ⟨a.regs, dropF a.objs (whitesF (thereL a.objs) (shadeL a.cols a.regs)), beginC a.cols.length a.regs, a.gone ++ whitesF (thereL a.objs) (shadeL a.cols a.regs)⟩)
/-- A machine's deed. -/
def coErr (a : CoA) (v : Val) (at_ : Int) : Int := if v.1 = false then 5 else if at_ < 0 ∨ (((a.fld v.2.toNat).getD []).length : Int) ≤ at_ then 3 else 0
def CoA.sr (a : CoA) (r : Nat) (v : Val) : CoA := { a with regs := a.regs.set r v }
def coKst (b : BarK) (d : DoV) (a : CoA) : OutV × CoA :=
  if d.k = 1 then
    if (coNew a d.n.toNat).2.2 ≠ 0 then (⟨(coNew a d.n.toNat).2.2, false, 0⟩, (coNew a d.n.toNat).1)
    else (⟨0, false, 0⟩, (coNew a d.n.toNat).1.sr d.to.toNat (true, (coNew a d.n.toNat).2.1))
  else if d.k = 2 then (⟨0, false, 0⟩, a.sr d.to.toNat (false, d.n))
  else if d.k = 3 then (⟨0, false, 0⟩, a.sr d.to.toNat (rgA a.regs d.fr))
  else if d.k = 4 then
    if coErr a (rgA a.regs d.to) d.at_ ≠ 0 then (⟨coErr a (rgA a.regs d.to) d.at_, false, 0⟩, a)
    else (⟨0, false, 0⟩, coPut b a (rgA a.regs d.to).2.toNat d.at_.toNat (rgA a.regs d.fr))
  else if d.k = 5 then
    if coErr a (rgA a.regs d.fr) d.at_ ≠ 0 then (⟨coErr a (rgA a.regs d.fr) d.at_, false, 0⟩, a)
    else (⟨0, false, 0⟩, a.sr d.to.toNat (((a.fld (rgA a.regs d.fr).2.toNat).getD []).getD d.at_.toNat (false, 0)))
  else if d.k = 6 then (⟨0, false, if rgA a.regs d.to = rgA a.regs d.fr then 1 else 0⟩, a)
  else (⟨0, (rgA a.regs d.fr).1, if (rgA a.regs d.fr).1 = true then (((a.fld (rgA a.regs d.fr).2.toNat).getD []).length : Int) else (rgA a.regs d.fr).2⟩, a)
def coDo (b : BarK) (d : DoV) (a : CoA) : OutV × CoA := if wrongM d ≠ 0 then (⟨wrongM d, false, 0⟩, a) else coKst b d a
def coStep (k : Nat) (d : DoV) (a : CoA) : OutV × CoA :=
  if d.k = 8 then coWork a else if d.k = 9 then coSweep a else coDo (barOf k) d a
/-! ### Shading. -/
theorem shadeC_get (cols : List Int) (v : Val) (j : Nat) : (shadeC cols v).getD j 0 = cols.getD j 0 ∨ ((shadeC cols v).getD j 0 = 1 ∧ cols.getD j 0 = 0) := by
  unfold shadeC
  split
  · rename_i h
    rw [List.getD_eq_getElem?_getD, List.getElem?_set]
    by_cases e : v.2.toNat = j
    · subst e
      rw [if_pos rfl]
      by_cases hl : v.2.toNat < cols.length
      · rw [if_pos hl]
        right
        unfold whiteB at h
        simp at h
        exact ⟨rfl, by rw [List.getD_eq_getElem?_getD]; simpa using h.2⟩
      · rw [if_neg hl]
        left
        rw [List.getD_eq_getElem?_getD, List.getElem?_eq_none (by omega)]
    · rw [if_neg e, ← List.getD_eq_getElem?_getD]
      exact .inl rfl
  · exact .inl rfl
theorem shadeC_hit {cols : List Int} {v : Val} (h1 : v.1 = true) (h2 : v.2.toNat < cols.length) : (shadeC cols v).getD v.2.toNat 0 ≠ 0 := by
  unfold shadeC
  split
  · rw [List.getD_eq_getElem?_getD, List.getElem?_set, if_pos rfl, if_pos h2]; decide
  · rename_i h
    unfold whiteB at h
    rw [h1, Bool.true_and] at h
    exact fun e => h (decide_eq_true e)
theorem shadeL_get (vs : List Val) : ∀ (cols : List Int) (j : Nat), (shadeL cols vs).getD j 0 = cols.getD j 0 ∨ ((shadeL cols vs).getD j 0 = 1 ∧ cols.getD j 0 = 0) := by
  induction vs with
  | nil => exact fun _ _ => .inl rfl
  | cons v vs ih =>
    intro cols j
    have h1 : shadeL cols (v :: vs) = shadeL (shadeC cols v) vs := rfl
    rw [h1]
    rcases ih (shadeC cols v) j with h | ⟨h, h0⟩
    · rw [h]; exact shadeC_get cols v j
    · rcases shadeC_get cols v j with h2 | ⟨h2, h3⟩
      · exact .inr ⟨h, by rw [← h2]; exact h0⟩
      · rw [h2] at h0; cases h0
theorem shadeL_hit (vs : List Val) : ∀ (cols : List Int) (v : Val), v ∈ vs → v.1 = true → v.2.toNat < cols.length → (shadeL cols vs).getD v.2.toNat 0 ≠ 0 := by
  induction vs with
  | nil => intro _ _ h; cases h
  | cons u vs ih =>
    intro cols v hv h1 h2
    have h3 : shadeL cols (u :: vs) = shadeL (shadeC cols u) vs := rfl
    rw [h3]
    rcases List.mem_cons.1 hv with rfl | hv
    · have h4 := shadeC_hit h1 h2
      rcases shadeL_get vs (shadeC cols v) v.2.toNat with h | ⟨h, _⟩
      · rw [h]; exact h4
      · rw [h]; decide
    · exact ih _ v hv h1 (by rw [shadeC_len]; exact h2)
/-! ### What the colours say. -/
inductive CoGP (a : CoA) : Nat → Prop
  | grey {i j : Nat} {fs : List Val} : a.cols.getD i 0 = 1 → a.fld i = some fs → (true, (j : Int)) ∈ fs → a.cols.getD j 0 = 0 → CoGP a j
  | step {i j : Nat} {fs : List Val} : CoGP a i → a.fld i = some fs → (true, (j : Int)) ∈ fs → a.cols.getD j 0 = 0 → CoGP a j
def CoNG (a : CoA) (j : Nat) : Prop := a.cols.getD j 0 ≠ 0 ∨ CoGP a j
theorem CoGP.white {a : CoA} {j : Nat} (h : CoGP a j) : a.cols.getD j 0 = 0 := by cases h <;> assumption
structure CoInv (k : Nat) (a : CoA) : Prop where
  rng : ∀ i, a.cols.getD i 0 = 0 ∨ a.cols.getD i 0 = 1 ∨ a.cols.getD i 0 = 2
  bs : k ≠ 3 → ∀ (i j : Nat) fs, a.fld i = some fs → a.cols.getD i 0 = 2 → (true, (j : Int)) ∈ fs → a.cols.getD j 0 ≠ 0
  rg : k = 3 → ∀ j : Nat, (true, (j : Int)) ∈ a.regs → CoNG a j
  by_ : k = 3 → ∀ (i j : Nat) fs, a.fld i = some fs → a.cols.getD i 0 = 2 → (true, (j : Int)) ∈ fs → CoNG a j
/-- What is guarded stays guarded. -/
theorem CoNG.keep {a a' : CoA} (c1 : ∀ i fs, a.fld i = some fs → a.cols.getD i 0 = 0 → a'.cols.getD i 0 = 0 ∨ a'.cols.getD i 0 = 1)
    (c2 : ∀ i fs, a.fld i = some fs → a.cols.getD i 0 = 1 → a'.cols.getD i 0 = 1 ∨ ∀ fs' (j : Nat), a'.fld i = some fs' → (true, (j : Int)) ∈ fs' → a'.cols.getD j 0 ≠ 0)
    (c3 : ∀ i fs (j : Nat), a.fld i = some fs → (true, (j : Int)) ∈ fs → a'.cols.getD j 0 = 0 → ∃ fs', a'.fld i = some fs' ∧ (true, (j : Int)) ∈ fs')
    (c4 : ∀ j, a.cols.getD j 0 ≠ 0 → a'.cols.getD j 0 ≠ 0) {j : Nat} (h : CoNG a j) : CoNG a' j := by
  rcases h with h | h
  · exact .inl (c4 j h)
  · induction h with
    | grey h1 h2 h3 h4 =>
      rename_i i j fs
      by_cases hj : a'.cols.getD j 0 = 0
      · obtain ⟨fs', e1, e2⟩ := c3 _ _ _ h2 h3 hj
        rcases c2 _ _ h2 h1 with h5 | h5
        · exact .inr (.grey h5 e1 e2 hj)
        · exact absurd hj (h5 _ _ e1 e2)
      · exact .inl hj
    | step h1 h2 h3 h4 ih =>
      rename_i i j fs
      by_cases hj : a'.cols.getD j 0 = 0
      · obtain ⟨fs', e1, e2⟩ := c3 _ _ _ h2 h3 hj
        rcases c1 _ _ h2 h1.white with h5 | h5
        · rcases ih with h6 | h6
          · exact absurd h5 h6
          · exact .inr (.step h6 e1 e2 hj)
        · exact .inr (.grey h5 e1 e2 hj)
      · exact .inl hj
theorem CoNG.shade1 {a : CoA} (v : Val) {j : Nat} (h : CoNG a j) : CoNG { a with cols := shadeC a.cols v } j := by
  refine CoNG.keep (a := a) (a' := { a with cols := shadeC a.cols v }) (fun i _ _ h0 => ?_) (fun i _ _ h1 => ?_) (fun i fs j h1 h2 _ => ⟨fs, h1, h2⟩) (fun j h0 h1 => ?_) h
  · rcases shadeC_get a.cols v i with h | h
    · exact .inl (h.trans h0)
    · exact .inr h.1
  · rcases shadeC_get a.cols v i with h | h
    · exact .inl (h.trans h1)
    · exact .inl h.1
  · dsimp only at h1
    rcases shadeC_get a.cols v j with h | h
    · exact h0 (h.symm.trans h1)
    · rw [h.1] at h1; cases h1
theorem CoInv.shade1 {k : Nat} {a : CoA} (h : CoInv k a) (v : Val) : CoInv k { a with cols := shadeC a.cols v } where
  rng i := by
    dsimp only
    rcases shadeC_get a.cols v i with h1 | h1
    · rw [h1]; exact h.rng i
    · exact .inr (.inl h1.1)
  bs hk i j fs hf h2 hj h0 := by
    dsimp only at h2 h0
    rcases shadeC_get a.cols v i with h1 | h1
    · rcases shadeC_get a.cols v j with h3 | h3
      · exact h.bs hk i j fs hf (h1.symm.trans h2) hj (h3.symm.trans h0)
      · rw [h3.1] at h0; cases h0
    · rw [h1.1] at h2; cases h2
  rg hk j hj := (h.rg hk j hj).shade1 v
  by_ hk i j fs hf h2 hj := by
    dsimp only at h2
    rcases shadeC_get a.cols v i with h1 | h1
    · exact (h.by_ hk i j fs hf (h1.symm.trans h2) hj).shade1 v
    · rw [h1.1] at h2; cases h2
theorem CoInv.shadeAll {k : Nat} (vs : List Val) : ∀ {a : CoA}, CoInv k a → CoInv k { a with cols := shadeL a.cols vs } := by
  induction vs with
  | nil => intro a h; exact h
  | cons v vs ih => intro a h; exact ih (h.shade1 v)
theorem getD_set (l : List Int) (i j : Nat) (y : Int) : (l.set i y).getD j 0 = if i = j ∧ i < l.length then y else l.getD j 0 := by
  rw [List.getD_eq_getElem?_getD, List.getElem?_set]
  by_cases e : i = j
  · subst e
    by_cases hl : i < l.length
    · simp [hl]
    · rw [if_pos rfl, if_neg hl, if_neg (fun h => hl h.2), List.getD_eq_getElem?_getD, List.getElem?_eq_none (by omega)]
  · rw [if_neg e, if_neg (fun h => e h.1), ← List.getD_eq_getElem?_getD]
/-- A grey one becomes black when all that it leads to is not white. -/
theorem CoInv.black {k : Nat} {a : CoA} (h : CoInv k a) {i : Nat} {fs : List Val} (hf : a.fld i = some fs) (hg : a.cols.getD i 0 ≠ 0) (hn : ∀ j : Nat, (true, (j : Int)) ∈ fs → a.cols.getD j 0 ≠ 0) : CoInv k { a with cols := a.cols.set i 2 } := by
  have hk0 : ∀ j, (a.cols.set i 2).getD j 0 = 0 → a.cols.getD j 0 = 0 := fun j h0 => by
    rw [getD_set] at h0
    split at h0
    · cases h0
    · exact h0
  have hk1 : ∀ j, a.cols.getD j 0 = 0 → (a.cols.set i 2).getD j 0 = 0 := fun j h0 => by
    rw [getD_set]
    split
    · rename_i e; rw [← e.1] at h0; exact absurd h0 hg
    · exact h0
  have hkeep : ∀ j, CoNG a j → CoNG { a with cols := a.cols.set i 2 } j := fun j hj => CoNG.keep (a := a) (a' := { a with cols := a.cols.set i 2 })
    (fun x _ _ h0 => .inl (hk1 x h0))
    (fun x fs' hx h1 => by
      dsimp only
      rw [getD_set]
      split
      · rename_i e
        right
        intro fs2 j h2 h3 h4
        have : fs2 = fs := by rw [← e.1] at h2; exact Option.some.inj ((show a.fld i = some fs2 from h2).symm.trans hf)
        subst this
        exact hn j h3 (hk0 j h4)
      · exact .inl h1)
    (fun x fs' j h1 h2 _ => ⟨fs', h1, h2⟩) (fun j h1 h2 => h1 (hk0 j h2)) hj
  refine ⟨fun x => ?_, fun hk x j fs2 hf2 h2 hj h0 => ?_, fun hk j hj => hkeep j (h.rg hk j hj), fun hk x j fs2 hf2 h2 hj => ?_⟩
  · dsimp only
    rw [getD_set]
    split
    · exact .inr (.inr rfl)
    · exact h.rng x
  · dsimp only at h2 h0
    rw [getD_set] at h2
    split at h2
    · rename_i e
      have : fs2 = fs := by rw [← e.1] at hf2; exact Option.some.inj ((show a.fld i = some fs2 from hf2).symm.trans hf)
      subst this
      exact hn j hj (hk0 j h0)
    · exact h.bs hk x j fs2 hf2 h2 hj (hk0 j h0)
  · dsimp only at h2
    rw [getD_set] at h2
    split at h2
    · rename_i e
      have : fs2 = fs := by rw [← e.1] at hf2; exact Option.some.inj ((show a.fld i = some fs2 from hf2).symm.trans hf)
      subst this
      exact .inl (fun h0 => hn j hj (hk0 j h0))
    · exact hkeep j (h.by_ hk x j fs2 hf2 h2 hj)
theorem CoGP.has {a : CoA} {j : Nat} (h : CoGP a j) : ∃ i fs, a.fld i = some fs ∧ a.cols.getD i 0 = 1 := by
  induction h with
  | grey h1 h2 _ _ => exact ⟨_, _, h2, h1⟩
  | step _ _ _ _ ih => exact ih
theorem CoOk.cols {a : CoA} (ok : CoOk a) {c : List Int} (hc : c.length = a.cols.length) : CoOk { a with cols := c } :=
  ⟨ok.r8, hc.trans ok.cl, ok.n, ok.vr, ok.vf, ok.f4⟩
theorem CoOk.vin {a : CoA} (ok : CoOk a) {v : Val} (h : a.vok v) (h1 : v.1 = true) : v.2.toNat < a.cols.length := by
  obtain ⟨i, fs, e, hf⟩ := h h1
  rw [e, ok.cl]
  exact (CoA.fld_at hf).2
theorem thereL_fld {a : CoA} {x : Int} : x ∈ thereL a.objs ↔ ∃ (i : Nat) (fs : List Val), x = (i : Int) ∧ a.fld i = some fs := by
  rw [mem_thereL]
  constructor
  · rintro ⟨i, fs, e, h⟩; exact ⟨i, fs, e, by unfold CoA.fld; rw [h]; rfl⟩
  · rintro ⟨i, fs, e, h⟩; exact ⟨i, fs, e, (CoA.fld_at h).1⟩
theorem greyF_some {a : CoA} {c : List Int} (h : greyF (thereL a.objs) c ≠ -1) : ∃ (i : Nat) (fs : List Val), greyF (thereL a.objs) c = (i : Int) ∧ a.fld i = some fs ∧ c.getD i 0 = 1 := by
  unfold greyF at h ⊢
  split at h
  · rename_i x hx
    obtain ⟨i, fs, e, hf⟩ := thereL_fld.1 (List.mem_of_find?_eq_some hx)
    have h3 := List.find?_some hx
    subst e
    refine ⟨i, fs, rfl, hf, ?_⟩
    simpa using h3
  · exact absurd rfl h
theorem greyF_none {a : CoA} {c : List Int} (h : greyF (thereL a.objs) c = -1) {i : Nat} {fs : List Val} (hf : a.fld i = some fs) : c.getD i 0 ≠ 1 := by
  intro h1
  unfold greyF at h
  split at h
  · rename_i x hx
    obtain ⟨j, _, e, _⟩ := thereL_fld.1 (List.mem_of_find?_eq_some hx)
    omega
  · rename_i hx
    rw [List.find?_eq_none] at hx
    exact hx _ (thereL_fld.2 ⟨i, fs, rfl, hf⟩) (by simp only [Int.toNat_natCast]; exact decide_eq_true h1)
theorem coWork_ok {k : Nat} {a : CoA} (ok : CoOk a) (h : CoInv k a) : CoOk (coWork a).2 ∧ CoInv k (coWork a).2 := by
  unfold coWork
  split
  · exact ⟨ok, h⟩
  · rename_i hg
    obtain ⟨i, fs, e, hf, h1⟩ := greyF_some hg
    rw [e, Int.toNat_natCast, hf, Option.getD_some]
    refine ⟨ok.cols (by rw [List.length_set, shadeL_len]), ?_⟩
    refine (h.shadeAll fs).black (i := i) (fs := fs) hf ?_ ?_
    · dsimp only
      rcases shadeL_get fs a.cols i with h2 | h2
      · rw [h2, h1]; decide
      · rw [h2.1]; decide
    · intro j hj
      have h2 := shadeL_hit fs a.cols (true, (j : Int)) hj rfl (ok.vin (ok.vf i fs _ hf hj) rfl)
      simpa using h2
/-! ### The sweep. -/
theorem dropF_len (xs : List Int) : ∀ objs : List (Option (List Val)), (dropF objs xs).length = objs.length := by
  unfold dropF
  induction xs with
  | nil => intro _; rfl
  | cons x xs ih => intro objs; rw [List.foldl_cons, ih, List.length_set]
theorem dropF_get (xs : List Int) : ∀ (objs : List (Option (List Val))) (i : Nat), (∀ x ∈ xs, 0 ≤ x) → (dropF objs xs)[i]? = if (i : Int) ∈ xs ∧ i < objs.length then some none else objs[i]? := by
  unfold dropF
  induction xs with
  | nil => intro objs i _; simp
  | cons x xs ih =>
    intro objs i hx
    rw [List.foldl_cons, ih _ _ (fun y hy => hx y (List.mem_cons_of_mem _ hy)), List.length_set, List.getElem?_set]
    have h0 := hx x (List.mem_cons_self ..)
    by_cases h1 : (i : Int) ∈ xs
    · by_cases h2 : i < objs.length
      · rw [if_pos ⟨h1, h2⟩, if_pos ⟨List.mem_cons_of_mem _ h1, h2⟩]
      · rw [if_neg (fun h => h2 h.2)]
        by_cases e : x.toNat = i
        · subst e; rw [if_pos rfl, if_neg h2, if_neg (fun h => h2 h.2), List.getElem?_eq_none (by omega)]
        · rw [if_neg e, if_neg (fun h => h2 h.2)]
    · rw [if_neg (fun h => h1 h.1)]
      by_cases h3 : x.toNat = i
      · rw [if_pos h3]
        have hm : (i : Int) ∈ x :: xs := by rw [← h3, Int.toNat_of_nonneg h0]; exact List.mem_cons_self ..
        by_cases h2 : i < objs.length
        · rw [if_pos (by omega), if_pos ⟨hm, h2⟩]
        · rw [if_neg (by omega), if_neg (fun h => h2 h.2), List.getElem?_eq_none (by omega)]
      · rw [if_neg h3, if_neg]
        rintro ⟨h4, _⟩
        rcases List.mem_cons.1 h4 with h5 | h5
        · exact h3 (by omega)
        · exact h1 h5
theorem greyL_get (xs : List Int) : ∀ (l : List Int) (j : Nat), (∀ x ∈ xs, 0 ≤ x) → (greyL l xs).getD j 0 = if (j : Int) ∈ xs ∧ j < l.length then 1 else l.getD j 0 := by
  unfold greyL
  induction xs with
  | nil => intro l j _; simp
  | cons x xs ih =>
    intro l j hx
    have h0 := hx x (List.mem_cons_self ..)
    rw [List.foldl_cons, ih _ _ (fun y hy => hx y (List.mem_cons_of_mem _ hy)), List.length_set, getD_set]
    by_cases h2 : j < l.length
    · by_cases h1 : (j : Int) ∈ xs
      · rw [if_pos ⟨h1, h2⟩, if_pos ⟨List.mem_cons_of_mem _ h1, h2⟩]
      · rw [if_neg (fun h => h1 h.1)]
        by_cases h3 : x.toNat = j
        · rw [if_pos ⟨h3, by omega⟩, if_pos ⟨by rw [← h3, Int.toNat_of_nonneg h0]; exact List.mem_cons_self .., h2⟩]
        · rw [if_neg (fun h => h3 h.1), if_neg]
          rintro ⟨h4, _⟩
          rcases List.mem_cons.1 h4 with h5 | h5
          · exact h3 (by omega)
          · exact h1 h5
    · rw [if_neg (fun h => h2 h.2), if_neg (fun h => h2 (by have := h.2; omega)), if_neg (fun h => h2 h.2)]
theorem beginC_get {n : Nat} {regs : List Val} (h0 : ∀ v ∈ regs, v.1 = true → 0 ≤ v.2) (j : Nat) : (beginC n regs).getD j 0 = if (true, (j : Int)) ∈ regs ∧ j < n then 1 else 0 := by
  unfold beginC
  rw [greyL_get _ _ _ (fun x hx => h0 _ (tgts_mem.1 hx) rfl), List.length_replicate]
  have h1 : (List.replicate n (0 : Int)).getD j 0 = 0 := by
    rw [List.getD_eq_getElem?_getD, List.getElem?_replicate]; split <;> rfl
  rw [h1]
  by_cases h : (true, (j : Int)) ∈ regs ∧ j < n
  · rw [if_pos h, if_pos ⟨tgts_mem.2 h.1, h.2⟩]
  · rw [if_neg h, if_neg (fun h2 => h ⟨tgts_mem.1 h2.1, h2.2⟩)]
theorem beginC_len (n : Nat) (regs : List Val) : (beginC n regs).length = n := by unfold beginC; rw [greyL_len, List.length_replicate]
/-- A round begins: nothing is black. -/
theorem CoInv.begin_ (k : Nat) {a : CoA} (h0 : ∀ v ∈ a.regs, a.vok v) (hc : a.cols = beginC a.objs.length a.regs) : CoInv k a := by
  have hg : ∀ j, a.cols.getD j 0 = if (true, (j : Int)) ∈ a.regs ∧ j < a.objs.length then 1 else 0 := fun j => by
    rw [hc]
    exact beginC_get (fun v hv h1 => by obtain ⟨i, _, e, _⟩ := h0 v hv h1; omega) j
  have h2 : ∀ i, a.cols.getD i 0 ≠ 2 := fun i => by rw [hg]; split <;> decide
  refine ⟨fun i => ?_, fun _ i j fs _ h _ => absurd h (h2 i), fun _ j hj => ?_, fun _ i j fs _ h _ => absurd h (h2 i)⟩
  · rw [hg]; split
    · exact .inr (.inl rfl)
    · exact .inl rfl
  · left
    obtain ⟨i, fs, e, hf⟩ := h0 _ hj rfl
    have hij : i = j := by dsimp only at e; omega
    subst hij
    rw [hg, if_pos ⟨hj, (CoA.fld_at hf).2⟩]; decide
theorem coSweep_ok {k : Nat} {a : CoA} (ok : CoOk a) (h : CoInv k a) : CoOk (coSweep a).2 ∧ CoInv k (coSweep a).2 ∧ (coSweep a).2.objs.length = a.objs.length := by
  unfold coSweep
  split
  · exact ⟨ok.cols (shadeL_len _ _), h.shadeAll _, rfl⟩
  · rename_i hg
    have hg1 : greyF (thereL a.objs) (shadeL a.cols a.regs) = -1 := by
      rcases Int.decEq (greyF (thereL a.objs) (shadeL a.cols a.regs)) (-1) with h | h
      · exact absurd h hg
      · exact h
    have hi := h.shadeAll a.regs
    obtain ⟨c, hc⟩ : ∃ c, shadeL a.cols a.regs = c := ⟨_, rfl⟩
    have hcl : c.length = a.cols.length := by rw [← hc, shadeL_len]
    have hhit : ∀ j : Nat, (true, (j : Int)) ∈ a.regs → c.getD j 0 ≠ 0 := fun j hj => by
      have h2 := shadeL_hit a.regs a.cols (true, (j : Int)) hj rfl (ok.vin (ok.vr _ hj) rfl)
      rw [hc] at h2
      simpa using h2
    rw [hc] at hg1 hi ⊢
    have hws : ∀ x ∈ whitesF (thereL a.objs) c, 0 ≤ x := fun x hx => by
      obtain ⟨i, _, e, _⟩ := thereL_fld.1 ((List.mem_filter.1 hx).1)
      omega
    have hfl : ∀ i fs, (dropF a.objs (whitesF (thereL a.objs) c))[i]? = some (some fs) ↔ (a.fld i = some fs ∧ c.getD i 0 ≠ 0) := fun i fs => by
      rw [dropF_get _ _ _ hws]
      constructor
      · intro h1
        split at h1
        · cases h1
        · rename_i h2
          have hf : a.fld i = some fs := by unfold CoA.fld; rw [h1]; rfl
          refine ⟨hf, fun h3 => h2 ⟨List.mem_filter.2 ⟨thereL_fld.2 ⟨i, fs, rfl, hf⟩, ?_⟩, (CoA.fld_at hf).2⟩⟩
          simp only [Int.toNat_natCast]
          exact decide_eq_true h3
      · rintro ⟨hf, h1⟩
        rw [if_neg, (CoA.fld_at hf).1]
        rintro ⟨h2, _⟩
        have h3 := (List.mem_filter.1 h2).2
        simp only [Int.toNat_natCast] at h3
        exact h1 (of_decide_eq_true h3)
    obtain ⟨O, hO⟩ : ∃ o, dropF a.objs (whitesF (thereL a.objs) c) = o := ⟨_, rfl⟩
    have hOl : O.length = a.objs.length := by rw [← hO, dropF_len]
    rw [hO] at hfl ⊢
    have hf2 : ∀ (X : CoA) i fs, X.objs = O → (X.fld i = some fs ↔ (a.fld i = some fs ∧ c.getD i 0 ≠ 0)) := fun X i fs hX => by
      rw [← hfl]
      constructor
      · intro h1; have := (CoA.fld_at h1).1; rw [hX] at this; exact this
      · intro h1; unfold CoA.fld; rw [hX, h1]; rfl
    have hvo : ∀ (X : CoA) v, X.objs = O → a.vok v → (∀ j : Nat, v = (true, (j : Int)) → c.getD j 0 ≠ 0) → X.vok v := fun X v hX hv hj h1 => by
      obtain ⟨i, fs, e, hf⟩ := hv h1
      exact ⟨i, fs, e, (hf2 X i fs hX).2 ⟨hf, hj i (Prod.ext h1 e)⟩⟩
    have hvr : ∀ (X : CoA), X.objs = O → ∀ v ∈ a.regs, X.vok v := fun X hX v hv => hvo X v hX (ok.vr v hv) fun j e => hhit j (e ▸ hv)
    have hvf : ∀ (X : CoA), X.objs = O → ∀ i fs v, X.fld i = some fs → v ∈ fs → X.vok v := fun X hX i fs v hf hv => by
      obtain ⟨hf1, h0⟩ := (hf2 X i fs hX).1 hf
      refine hvo X v hX (ok.vf i fs v hf1 hv) fun j e => ?_
      have h1 : c.getD i 0 ≠ 1 := greyF_none hg1 hf1
      have h2 : c.getD i 0 = 2 := by
        rcases hi.rng i with h | h | h
        · exact absurd h h0
        · exact absurd h h1
        · exact h
      by_cases hk : k = 3
      · rcases hi.by_ hk i j fs hf1 h2 (e ▸ hv) with h3 | h3
        · exact h3
        · obtain ⟨x, fs', hx, hx1⟩ := h3.has
          exact absurd hx1 (greyF_none hg1 (a := a) hx)
      · exact hi.bs hk i j fs hf1 h2 (e ▸ hv)
    refine ⟨⟨ok.r8, by dsimp only; rw [beginC_len, hOl, ok.cl], by dsimp only; rw [hOl]; exact ok.n, hvr _ rfl, hvf _ rfl, fun i fs hf => ok.f4 i fs ((hf2 _ i fs rfl).1 hf).1⟩, ?_, by dsimp only; exact hOl⟩
    exact CoInv.begin_ k (hvr _ rfl) (by dsimp only; rw [hOl, ok.cl])
end Go.Proofs.Ytjphckfbbiehdaa

namespace Go.Proofs.Ytjphckfbbiehdaa
open Go.RowKit
def refers (vs : List Val) (i : Int) : Bool := vs.any fun v => v.1 && v.2 == i
def d0 (gs : List (List Val)) (vs : List Val) : List Int := (List.range gs.length).map fun (i : Nat) => if refers vs (i : Int) = true then 0 else -1
/-- One look from i to j, at a turn. -/
def dLook (gs : List (List Val)) (t i : Nat) (d : List Int) (j : Nat) : List Int := if d.getD j 0 < 0 ∧ refers (fieldsI gs (i : Int)) (j : Int) = true then d.set j ((t : Int) + 1) else d
def dFrom (gs : List (List Val)) (t : Nat) (d : List Int) (i : Nat) : List Int := if d.getD i 0 = (t : Int) then (List.range gs.length).foldl (dLook gs t i) d else d
def dTurn (gs : List (List Val)) (d : List Int) (t : Nat) : List Int := (List.range gs.length).foldl (dFrom gs t) d
def distR (gs : List (List Val)) (vs : List Val) : List Int := (List.range gs.length).foldl (dTurn gs) (d0 gs vs)
def reachR (gs : List (List Val)) (vs : List Val) : List Int := ((List.range gs.length).filter fun (i : Nat) => decide (0 ≤ (distR gs vs).getD i 0)).map fun (i : Nat) => (i : Int)
theorem range_snoc_fold {α : Type} (f : α → Nat → α) (a : α) (k : Nat) : (List.range (k + 1)).foldl f a = f ((List.range k).foldl f a) k := by rw [List.range_succ, List.foldl_append]; rfl
theorem dLook_len (gs : List (List Val)) (t i : Nat) (d : List Int) (j : Nat) : (dLook gs t i d j).length = d.length := by unfold dLook; split <;> simp
theorem dLookAll_len (gs : List (List Val)) (t i : Nat) (js : List Nat) (d : List Int) : (js.foldl (dLook gs t i) d).length = d.length := by
  induction js generalizing d with
  | nil => rfl
  | cons a js ih => rw [List.foldl_cons, ih, dLook_len]
theorem dFrom_len (gs : List (List Val)) (t : Nat) (d : List Int) (i : Nat) : (dFrom gs t d i).length = d.length := by unfold dFrom; split; exact dLookAll_len _ _ _ _ _; rfl
theorem dTurn_len (gs : List (List Val)) (d : List Int) (t : Nat) : (dTurn gs d t).length = d.length := by
  unfold dTurn
  generalize List.range gs.length = js
  induction js generalizing d with
  | nil => rfl
  | cons a js ih => rw [List.foldl_cons, ih, dFrom_len]
theorem dFroms_len (gs : List (List Val)) (t : Nat) (js : List Nat) (d : List Int) : (js.foldl (dFrom gs t) d).length = d.length := by
  induction js generalizing d with
  | nil => rfl
  | cons a js ih => rw [List.foldl_cons, ih, dFrom_len]
theorem dTurns_len (gs : List (List Val)) (js : List Nat) (d : List Int) : (js.foldl (dTurn gs) d).length = d.length := by
  induction js generalizing d with
  | nil => rfl
  | cons a js ih => rw [List.foldl_cons, ih, dTurn_len]
theorem d0_len (gs : List (List Val)) (vs : List Val) : (d0 gs vs).length = gs.length := by simp [d0]
/-- All numbers of a list in bounds. -/
def DBd (n : Nat) (d : List Int) : Prop := ∀ x ∈ d, -1 ≤ x ∧ x ≤ (n : Int)
theorem DBd.set {n : Nat} {d : List Int} (h : DBd n d) (j : Nat) {x : Int} (hx : -1 ≤ x ∧ x ≤ (n : Int)) : DBd n (d.set j x) := fun y hy => by
  rcases List.mem_or_eq_of_mem_set hy with h1 | h1
  · exact h y h1
  · subst h1; exact hx
theorem DBd.look {gs : List (List Val)} {n t i : Nat} {d : List Int} (h : DBd n d) (ht : t < n) (j : Nat) : DBd n (dLook gs t i d j) := by
  unfold dLook; split
  · exact h.set j (by omega)
  · exact h
theorem DBd.looks {gs : List (List Val)} {n t i : Nat} (js : List Nat) {d : List Int} (h : DBd n d) (ht : t < n) : DBd n (js.foldl (dLook gs t i) d) := by
  induction js generalizing d with
  | nil => exact h
  | cons a js ih => exact ih (h.look ht a)
theorem DBd.from_ {gs : List (List Val)} {n t : Nat} {d : List Int} (h : DBd n d) (ht : t < n) (i : Nat) : DBd n (dFrom gs t d i) := by
  unfold dFrom; split
  · exact h.looks _ ht
  · exact h
theorem DBd.froms {gs : List (List Val)} {n t : Nat} (js : List Nat) {d : List Int} (h : DBd n d) (ht : t < n) : DBd n (js.foldl (dFrom gs t) d) := by
  induction js generalizing d with
  | nil => exact h
  | cons a js ih => exact ih (h.from_ ht a)
theorem DBd.zero (gs : List (List Val)) (vs : List Val) (n : Nat) : DBd n (d0 gs vs) := fun x hx => by
  obtain ⟨i, _, rfl⟩ := List.mem_map.1 hx
  split <;> omega
theorem dMadeInts (n : Nat) : (madeCells (Value.cells (.int .i64 0)) (n * 1)).toList = ints (List.replicate n 0) := by
  rcases Nat.eq_zero_or_pos n with rfl | h
  · simp [madeCells, ints]
  · apply List.ext_getElem (by simp [madeCells, Value.cells, ints])
    intro i h1 h2
    simp [madeCells, Value.cells, ints, Nat.mod_one]
theorem dInt : (Try.prog.info? 3).map (fun i => (i.zero, i.size, i.bytes)) = some (some (.int .i64 0), 1, 8) := by kernel_rfl
theorem ints_set_ (l : List Int) (k : Nat) (x : Int) : (ints l).set k (.int .i64 x) = ints (l.set k x) := by unfold ints; rw [List.map_set]
theorem refers_snoc (vs : List Val) (v : Val) (i : Int) : refers (vs ++ [v]) i = (refers vs i || (v.1 && v.2 == i)) := by simp [refers]
set_option maxHeartbeats 1600000 in
theorem refers_any (w : World) (A : Option Addr) (n c : Nat) (vs : List Val) (i : Int) (hn : n ≤ 1000) (h : Rd w (fun _ => True) 2 A n (vals vs)) :
    Calls Try.prog 67 #[.slice A n c, .int .i64 i] w fun e w' => e = .returned (.bool (refers vs i)) ∧ Below w.heap.size w w' := by
  have HL := hide (show vs.length = n by have := h.1; rw [vals_length] at this; omega)
  go_enter Try.func67, Try.ntmps67
  go_wp2_with fail
  go_loopw [9] (fun s wr => ∃ k : Nat, k ≤ n ∧ s = .int .i64 k ∧ Hid (refers (vs.take k) i = false) ∧ Below w.heap.size w wr) (fun s _ => n - (intOf s).toNat)
  case atStart => exact ⟨0, by omega, rfl, by simp [Hid, refers], Below.refl _ _⟩
  case round =>
    obtain ⟨k, hk, rfl, HN, hB⟩ := hrel
    have hz := hB.size
    by_cases hlt : k < n
    · have hkl : k < vs.length := by rw [HL.out]; exact hlt
      obtain ⟨ad, hA, _, had, hc, hd⟩ := (h.below hB).atN hlt
      obtain ⟨v0, v1⟩ := vals_at vs k hkl
      have e0 := hc _ v0
      have e1 := hd 0 _ v1
      have HT := hide (List.take_succ_eq_append_getElem hkl)
      have HM := hide (List.getElem_mem hkl)
      obtain ⟨x, hx⟩ : ∃ x, vs[k] = x := ⟨_, rfl⟩
      rw [hx] at e0 e1 HT HM
      subst hA
      clear hc hd v0 v1 hx
      obtain ⟨b, m⟩ := x
      dsimp only at e0 e1
      cases b with
      | false =>
        have HX := hide (show refers (vs.take (k + 1)) i = false from by rw [HT.out, refers_snoc, HN.out]; rfl)
        go_wp2_with fail
        go_roundw
        case rel => exact ⟨k + 1, by omega, by go_num, HX, hB.alloc hz _⟩
        case measure => simp [intOf]; omega
      | true =>
        cases hq : (m == i) with
        | true =>
          have HR := hide (show refers vs i = true from List.any_eq_true.2 ⟨_, HM.out, hq⟩)
          go_wp2_with fail
          go_ret
          exact ⟨by rw [HR.out] <;> rfl, hB.alloc hz _⟩
        | false =>
          have HX := hide (show refers (vs.take (k + 1)) i = false from by rw [HT.out, refers_snoc, HN.out, hq]; rfl)
          go_wp2_with fail
          go_roundw
          case rel => exact ⟨k + 1, by omega, by go_num, HX, hB.alloc hz _⟩
          case measure => simp [intOf]; omega
    · have HR := hide (show refers vs i = false from by
        have h1 := HN.out
        rw [List.take_of_length_le (by rw [HL.out]; omega)] at h1
        exact h1)
      go_wp2_with fail
      go_ret
      exact ⟨by rw [HR.out] <;> rfl, hB⟩
end Go.Proofs.Ytjphckfbbiehdaa
