/- A memory that is copied, plain: what it has; a copy, a value into a copy, a step, the exchange. -/
import Derived.Test.YtjphckfbbiehdaaSReplicaPlays13
import Derived.Test.YtjphckfbbiehdaaSReplicaPlays23
set_option linter.unusedSimpArgs false
set_option linter.unusedVariables false
namespace Go.Proofs.Ytjphckfbbiehdaa
open Go.RowKit
structure RpA where
  regs : List Val
  objs : List (Option (List Val))
  row : List Int
  cps : List (Nat × List Val)
  filled : Nat
  log : List (Nat × Nat)
  times : Nat
def RpA.fld (a : RpA) (i : Nat) : Option (List Val) := (a.objs[i]?).getD none
def RpA.vok (a : RpA) (v : Val) : Prop := v.1 = true → ∃ (i : Nat) (fs : List Val), v.2 = (i : Int) ∧ a.fld i = some fs
theorem RpA.fld_iff {a : RpA} {i : Nat} {fs : List Val} : a.fld i = some fs ↔ a.objs[i]? = some (some fs) := by
  unfold RpA.fld
  cases h : a.objs[i]? with
  | none => simp
  | some o => cases o <;> simp
theorem RpA.fld_lt {a : RpA} {i : Nat} {fs : List Val} (h : a.fld i = some fs) : i < a.objs.length := (List.getElem?_eq_some_iff.1 (RpA.fld_iff.1 h)).1
def keysC (l : List (Nat × List Val)) : List Nat := l.map fun p => p.1
def RpA.made (a : RpA) : List Int := (keysC a.cps).map fun (k : Nat) => (k : Int)
def RpA.has (a : RpA) (z : Nat) : Prop := z ∈ keysC a.cps
instance (a : RpA) (z : Nat) : Decidable (a.has z) := inferInstanceAs (Decidable (z ∈ _))
def RpA.flds (a : RpA) (o : Nat) : List Val := (a.fld o).getD []
def RpA.at_ (a : RpA) (o k : Nat) : Val := (a.flds o).getD k (false, 0)
def RpA.cop (a : RpA) (v : Val) : RpA := if v.1 = false ∨ a.has v.2.toNat then a else { a with cps := a.cps ++ [(v.2.toNat, zeroVs (a.flds v.2.toNat).length)] }
def cpSet (l : List (Nat × List Val)) (o k : Nat) (v : Val) : List (Nat × List Val) := l.map fun p => if p.1 = o then (p.1, p.2.set k v) else p
def RpA.cset (a : RpA) (o k : Nat) (v : Val) : RpA := { a with cps := cpSet a.cps o k v }
def RpA.bring (a : RpA) (o k : Nat) : RpA := (a.cop (a.at_ o k)).cset o k (a.at_ o k)
def copyC (l : List (Nat × List Val)) (z : Nat) : Option (List Val) := (l.find? fun p => p.1 = z).map fun p => p.2
def flipO (cps : List (Nat × List Val)) (row : List Int) (objs : List (Option (List Val))) : List (Option (List Val)) := row.foldl (fun l x => l.set x.toNat (copyC cps x.toNat)) objs
def RpA.flip (a : RpA) : RpA := { a with objs := flipO a.cps a.row a.objs, row := a.made, times := a.times + 1, cps := [], filled := 0, log := [] }
def RpA.bringN (a : RpA) (o n : Nat) : RpA := (List.range n).foldl (fun b k => b.bring o k) a
def RpA.nl (a : RpA) (l : List (Nat × Nat)) : RpA := { a with log := l }
def RpA.fl (a : RpA) (n : Nat) : RpA := { a with filled := n }
def RpA.miss (a : RpA) : Option Val := a.regs.find? fun v => v.1 && !decide (a.has v.2.toNat)
def RpA.fill (a : RpA) : RpA :=
  match a.cps[a.filled]? with
  | some p => (a.fl (a.filled + 1)).bringN p.1 (a.flds p.1).length
  | none => a.flip
def RpA.work (a : RpA) : RpA :=
  match a.log with
  | p :: l => if a.has p.1 then (a.nl l).bring p.1 p.2 else a.nl l
  | [] =>
    match a.miss with
    | some v => a.cop v
    | none => a.fill
def RpA.sr (a : RpA) (r : Nat) (v : Val) : RpA := { a with regs := a.regs.set r v }
def rpPut (a : RpA) (i k : Nat) (v : Val) : RpA := { a with objs := a.objs.set i (some ((a.flds i).set k v)), log := a.log ++ [(i, k)] }
def RpA.push (a : RpA) (n : Nat) : RpA := { a with objs := a.objs ++ [some (zeroVs n)], row := a.row ++ [(a.objs.length : Int)] }
def rpNew (a : RpA) (n : Nat) : RpA × Int × Int := if 24 ≤ a.row.length then (a, 0, 6) else (a.push n, a.objs.length, 0)
/-! ### What may be. -/
/-- A copy's field is right: it is the object's, and what it refers to has a copy; or the change waits. -/
def FieldOk (a : RpA) (o j : Nat) (c : List Val) : Prop := (o, j) ∈ a.log ∨ (c[j]? = (a.flds o)[j]? ∧ ∀ v, (a.flds o)[j]? = some v → v.1 = true → a.has v.2.toNat)
structure RpOkE (E : Nat → Nat → Prop) (a : RpA) : Prop where
  r8 : a.regs.length = 8
  vr : ∀ v ∈ a.regs, a.vok v
  vf : ∀ i fs, a.fld i = some fs → ∀ v ∈ fs, a.vok v
  f4 : ∀ i fs, a.fld i = some fs → fs.length ≤ 4
  row : ∀ x : Int, x ∈ a.row ↔ ∃ (i : Nat) (fs : List Val), x = (i : Int) ∧ a.fld i = some fs
  r24 : a.row.length ≤ 24
  nd : (keysC a.cps).Nodup
  ck : ∀ p ∈ a.cps, ∃ fs, a.fld p.1 = some fs ∧ p.2.length = fs.length
  fk : a.filled ≤ a.cps.length
  lg : ∀ p ∈ a.log, ∃ fs, a.fld p.1 = some fs ∧ p.2 < fs.length
  ok : ∀ k (p : Nat × List Val), k < a.filled → a.cps[k]? = some p → ∀ j, j < p.2.length → E p.1 j ∨ FieldOk a p.1 j p.2
def RpOk (a : RpA) : Prop := RpOkE (fun _ _ => False) a
theorem RpA.flds_of {a : RpA} {i : Nat} {fs : List Val} (h : a.fld i = some fs) : a.flds i = fs := by unfold RpA.flds; rw [h]; rfl
section
variable {E : Nat → Nat → Prop} {a : RpA}
theorem RpOkE.rg (ok : RpOkE E a) (r : Int) : a.vok (rgA a.regs r) := by
  unfold rgA
  rcases getD_mem_or a.regs r.toNat (false, 0) with h2 | h2
  · exact ok.vr _ h2
  · rw [h2]; intro h1; cases h1
theorem RpOkE.made24 (ok : RpOkE E a) : a.cps.length ≤ 24 := by
  have h1 : a.made.Nodup := List.pairwise_map.2 (ok.nd.imp fun h e => h (by omega))
  have h2 : ∀ x ∈ a.made, x ∈ a.row := fun x hx => by
    obtain ⟨k, hk, rfl⟩ := List.mem_map.1 hx
    obtain ⟨p, hp, rfl⟩ := List.mem_map.1 hk
    obtain ⟨fs, hf, _⟩ := ok.ck p hp
    exact (ok.row _).2 ⟨p.1, fs, rfl, hf⟩
  have h3 := nodup_sum (fun _ => 1) _ _ h1 h2
  have h4 : a.made.length = a.cps.length := by unfold RpA.made keysC; rw [List.length_map, List.length_map]
  have h5 := ok.r24
  have gen : ∀ l : List Int, (l.map fun _ => 1).sum = l.length := fun l => by induction l with
    | nil => rfl
    | cons x l ih => rw [List.map_cons, List.sum_cons, ih, List.length_cons]; omega
  rw [gen, gen] at h3
  omega
theorem has_key {a : RpA} {z : Nat} (h : a.has z) : ∃ (k : Nat) (p : Nat × List Val), a.cps[k]? = some p ∧ p.1 = z := by
  obtain ⟨p, hp, e⟩ := List.mem_map.1 h
  obtain ⟨k, hk⟩ := List.getElem?_of_mem hp
  exact ⟨k, p, hk, e⟩
theorem RpOkE.has_fld (ok : RpOkE E a) {z : Nat} (h : a.has z) : ∃ fs, a.fld z = some fs := by
  obtain ⟨k, p, hp, rfl⟩ := has_key h
  obtain ⟨fs, hf, _⟩ := ok.ck p (List.mem_of_getElem? hp)
  exact ⟨fs, hf⟩
theorem RpOkE.weaken (ok : RpOkE E a) (h : ∀ k (p : Nat × List Val) j, k < a.filled → a.cps[k]? = some p → j < p.2.length → ¬ E p.1 j) : RpOk a :=
  ⟨ok.r8, ok.vr, ok.vf, ok.f4, ok.row, ok.r24, ok.nd, ok.ck, ok.fk, ok.lg, fun k p hk hp j hj => .inr ((ok.ok k p hk hp j hj).resolve_left (h k p j hk hp hj))⟩
theorem RpOkE.congr {F : Nat → Nat → Prop} (ok : RpOkE E a) (h : ∀ o j, E o j → F o j) : RpOkE F a :=
  ⟨ok.r8, ok.vr, ok.vf, ok.f4, ok.row, ok.r24, ok.nd, ok.ck, ok.fk, ok.lg, fun k p hk hp j hj => (ok.ok k p hk hp j hj).imp (h _ _) id⟩
/-! A copy. -/
theorem cop_no {a : RpA} {v : Val} (h : v.1 = false ∨ a.has v.2.toNat) : a.cop v = a := if_pos h
theorem cop_yes {a : RpA} {v : Val} (h : ¬ (v.1 = false ∨ a.has v.2.toNat)) : a.cop v = { a with cps := a.cps ++ [(v.2.toNat, zeroVs (a.flds v.2.toNat).length)] } := if_neg h
theorem cop_has (a : RpA) (v : Val) (z : Nat) : (a.cop v).has z ↔ a.has z ∨ (v.1 = true ∧ z = v.2.toNat) := by
  by_cases h : v.1 = false ∨ a.has v.2.toNat
  · rw [cop_no h]
    refine ⟨.inl, fun h1 => h1.elim id ?_⟩
    rintro ⟨h2, rfl⟩
    rcases h with h3 | h3
    · rw [h2] at h3; cases h3
    · exact h3
  · have h1 : v.1 = true := by
      cases hc : v.1
      · exact absurd (.inl hc) h
      · rfl
    rw [cop_yes h]
    show z ∈ keysC (a.cps ++ [_]) ↔ _
    unfold keysC
    rw [List.map_append, List.mem_append]
    simp [h1, RpA.has, keysC]
theorem cop_keep (a : RpA) (v : Val) : (a.cop v).regs = a.regs ∧ (a.cop v).objs = a.objs ∧ (a.cop v).row = a.row ∧ (a.cop v).filled = a.filled ∧ (a.cop v).log = a.log ∧ (a.cop v).times = a.times := by
  by_cases h : v.1 = false ∨ a.has v.2.toNat
  · rw [cop_no h]; exact ⟨rfl, rfl, rfl, rfl, rfl, rfl⟩
  · rw [cop_yes h]; exact ⟨rfl, rfl, rfl, rfl, rfl, rfl⟩
theorem FieldOk.mono {a b : RpA} {o j : Nat} {c : List Val} (h : FieldOk a o j c) (hl : ∀ p ∈ a.log, p ∈ b.log) (hf : (b.flds o)[j]? = (a.flds o)[j]?) (hh : ∀ z, a.has z → b.has z) : FieldOk b o j c := by
  rcases h with h | ⟨h1, h2⟩
  · exact .inl (hl _ h)
  · exact .inr ⟨h1.trans hf.symm, fun v hv hb => hh _ (h2 v (hf.symm.trans hv) hb)⟩
theorem RpOkE.cop (ok : RpOkE E a) {v : Val} (hv : a.vok v) : RpOkE E (a.cop v) := by
  by_cases h : v.1 = false ∨ a.has v.2.toNat
  · rw [cop_no h]; exact ok
  · have hh := cop_has a v
    rw [cop_yes h] at hh ⊢
    have h1 : v.1 = true := by
      cases hc : v.1
      · exact absurd (.inl hc) h
      · rfl
    obtain ⟨i, fs, e, hf⟩ := hv h1
    refine ⟨ok.r8, ok.vr, ok.vf, ok.f4, ok.row, ok.r24, ?_, fun p hp => ?_, ?_, ok.lg, fun k p hk hp j hj => ?_⟩
    · show (keysC (a.cps ++ [_])).Nodup
      unfold keysC
      rw [List.map_append]
      refine List.nodup_append.2 ⟨ok.nd, by simp, fun x hx y hy => ?_⟩
      have : y = v.2.toNat := by simpa using hy
      rintro rfl
      exact h (.inr (this ▸ hx))
    · rcases List.mem_append.1 hp with h2 | h2
      · exact ok.ck p h2
      · rw [List.mem_singleton.1 h2]
        refine ⟨fs, by show a.fld v.2.toNat = _; rw [e, Int.toNat_natCast]; exact hf, ?_⟩
        show (zeroVs (a.flds v.2.toNat).length).length = _
        rw [e, Int.toNat_natCast, RpA.flds_of hf]; simp [zeroVs]
    · show a.filled ≤ (a.cps ++ [_]).length
      rw [List.length_append]; have := ok.fk; omega
    · have hp' : (a.cps ++ [(v.2.toNat, zeroVs (a.flds v.2.toNat).length)])[k]? = some p := hp
      rw [List.getElem?_append_left (by have := ok.fk; have : k < a.filled := hk; omega)] at hp'
      exact (ok.ok k p hk hp' j hj).imp id fun h3 => h3.mono (fun _ h4 => h4) rfl fun z hz => (hh z).2 (.inl hz)
/-! A value into a copy. -/
theorem cpSet_keys (l : List (Nat × List Val)) (o k : Nat) (v : Val) : keysC (cpSet l o k v) = keysC l := by
  unfold keysC cpSet
  rw [List.map_map]
  refine List.map_congr_left fun p _ => ?_
  show (if p.1 = o then (p.1, p.2.set k v) else p).1 = p.1
  split <;> rfl
theorem cset_has (a : RpA) (o k : Nat) (v : Val) (z : Nat) : (a.cset o k v).has z ↔ a.has z := by unfold RpA.has; rw [show (a.cset o k v).cps = cpSet a.cps o k v from rfl, cpSet_keys]
theorem RpOkE.cset (ok : RpOkE E a) {o k : Nat} {v : Val} (hv : (a.flds o)[k]? = some v) (hh : v.1 = true → a.has v.2.toNat) : RpOkE (fun o' j => E o' j ∧ ¬ (o' = o ∧ j = k)) (a.cset o k v) := by
  have hc := cset_has a o k v
  have hck : ∀ (i : Nat) (p : Nat × List Val), (a.cset o k v).cps[i]? = some p → ∃ q : Nat × List Val, a.cps[i]? = some q ∧ p = (if q.1 = o then (q.1, q.2.set k v) else q) := fun i p hp => by
    have hp' : (cpSet a.cps o k v)[i]? = some p := hp
    unfold cpSet at hp'
    rw [List.getElem?_map] at hp'
    cases hq : a.cps[i]? with
    | none => rw [hq] at hp'; cases hp'
    | some q => rw [hq] at hp'; exact ⟨q, rfl, (Option.some.inj hp').symm⟩
  refine ⟨ok.r8, ok.vr, ok.vf, ok.f4, ok.row, ok.r24, ?_, fun p hp => ?_, ?_, ok.lg, fun i p hi hp j hj => ?_⟩
  · show (keysC (cpSet _ _ _ _)).Nodup
    rw [cpSet_keys]; exact ok.nd
  · obtain ⟨i, hi⟩ := List.getElem?_of_mem hp
    obtain ⟨q, hq, rfl⟩ := hck i p hi
    obtain ⟨fs, hf, hl⟩ := ok.ck q (List.mem_of_getElem? hq)
    refine ⟨fs, ?_, ?_⟩
    · split <;> exact hf
    · split
      · show (q.2.set k v).length = _; rw [List.length_set]; exact hl
      · exact hl
  · show a.filled ≤ (cpSet a.cps o k v).length
    unfold cpSet; rw [List.length_map]; exact ok.fk
  · obtain ⟨q, hq, rfl⟩ := hck i p hp
    by_cases e : q.1 = o
    · rw [if_pos e] at hj ⊢
      have hj' : j < q.2.length := by simpa using hj
      dsimp only
      by_cases ej : j = k
      · subst ej
        refine .inr (.inr ⟨?_, fun u hu hb => ?_⟩)
        · rw [List.getElem?_set, if_pos rfl, if_pos hj', e]; exact hv.symm
        · rw [e] at hu
          obtain rfl : u = v := Option.some.inj (hu.symm.trans hv)
          exact (hc _).2 (hh hb)
      · rcases ok.ok i q hi hq j hj' with h1 | h1
        · exact .inl ⟨h1, fun h => ej h.2⟩
        · refine .inr ?_
          rcases h1 with h2 | ⟨h2, h3⟩
          · exact .inl h2
          · exact .inr ⟨by rw [List.getElem?_set, if_neg (fun h => ej h.symm)]; exact h2, fun u hu hb => (hc _).2 (h3 u hu hb)⟩
    · rw [if_neg e] at hj ⊢
      exact (ok.ok i q hi hq j hj).imp (fun h1 => ⟨h1, fun h => e h.1⟩) fun h1 => h1.mono (fun _ h => h) rfl fun z hz => (hc z).2 hz
theorem at_of {a : RpA} {o k : Nat} (hk : k < (a.flds o).length) : (a.flds o)[k]? = some (a.at_ o k) := by
  unfold RpA.at_
  rw [List.getD_eq_getElem?_getD, List.getElem?_eq_getElem hk]; rfl
theorem RpOkE.at_vok (ok : RpOkE E a) {o k : Nat} (ho : a.has o) (hk : k < (a.flds o).length) : a.vok (a.at_ o k) := by
  obtain ⟨fs, hf⟩ := ok.has_fld ho
  have h1 := at_of hk
  rw [RpA.flds_of hf] at h1
  exact ok.vf o fs hf _ (List.mem_of_getElem? h1)
theorem bring_keep (a : RpA) (o k : Nat) : (a.bring o k).regs = a.regs ∧ (a.bring o k).objs = a.objs ∧ (a.bring o k).row = a.row ∧ (a.bring o k).filled = a.filled ∧ (a.bring o k).log = a.log ∧ (a.bring o k).times = a.times := cop_keep a (a.at_ o k)
theorem bring_has (a : RpA) (o k z : Nat) (h : a.has z) : (a.bring o k).has z := (cset_has _ _ _ _ _).2 ((cop_has _ _ _).2 (.inl h))
theorem RpOkE.bring (ok : RpOkE E a) {o k : Nat} (ho : a.has o) (hk : k < (a.flds o).length) : RpOkE (fun o' j => E o' j ∧ ¬ (o' = o ∧ j = k)) (a.bring o k) := by
  have h1 := ok.cop (ok.at_vok ho hk)
  have e : (a.cop (a.at_ o k)).flds o = a.flds o := by unfold RpA.flds RpA.fld; rw [(cop_keep a _).2.1]
  refine h1.cset (by rw [e]; exact at_of hk) fun hb => (cop_has _ _ _).2 (.inr ⟨hb, rfl⟩)
theorem bringN_succ (a : RpA) (o n : Nat) : a.bringN o (n + 1) = (a.bringN o n).bring o n := by unfold RpA.bringN; rw [List.range_succ, List.foldl_append]; rfl
theorem RpOkE.bringN (ok : RpOkE E a) {o : Nat} (ho : a.has o) : ∀ n, n ≤ (a.flds o).length → RpOkE (fun o' j => E o' j ∧ ¬ (o' = o ∧ j < n)) (a.bringN o n) ∧ (a.bringN o n).has o ∧ (a.bringN o n).objs = a.objs ∧ (a.bringN o n).regs = a.regs ∧ (a.bringN o n).row = a.row ∧ (a.bringN o n).filled = a.filled ∧ (a.bringN o n).log = a.log ∧ (a.bringN o n).times = a.times := by
  intro n
  induction n with
  | zero => exact fun _ => ⟨ok.congr fun o' j h => ⟨h, fun h2 => by omega⟩, ho, rfl, rfl, rfl, rfl, rfl, rfl⟩
  | succ n ih =>
    intro hn
    obtain ⟨h1, h2, h3, h4, h5, h6, h7, h8⟩ := ih (by omega)
    rw [bringN_succ]
    have e : (a.bringN o n).flds o = a.flds o := by unfold RpA.flds RpA.fld; rw [h3]
    obtain ⟨b1, b2, b3, b4, b5, b6⟩ := bring_keep (a.bringN o n) o n
    refine ⟨(h1.bring h2 (k := n) (by rw [e]; omega)).congr fun o' j h => ⟨h.1.1, fun h9 => ?_⟩, bring_has _ _ _ _ h2, b2.trans h3, b1.trans h4, b3.trans h5, b4.trans h6, b5.trans h7, b6.trans h8⟩
    by_cases e2 : j = n
    · exact h.2 ⟨h9.1, e2⟩
    · exact h.1.2 ⟨h9.1, by have := h9.2; omega⟩
end
end Go.Proofs.Ytjphckfbbiehdaa
