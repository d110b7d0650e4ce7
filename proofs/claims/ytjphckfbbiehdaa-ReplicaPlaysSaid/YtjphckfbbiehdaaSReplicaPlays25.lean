/- A memory that is copied, plain: a step, the exchange, a deed: all stays right. -/
import Derived.Test.YtjphckfbbiehdaaSReplicaPlays24
set_option linter.unusedSimpArgs false
set_option linter.unusedVariables false
namespace Go.Proofs.Ytjphckfbbiehdaa
open Go.RowKit
theorem copyC_some {l : List (Nat × List Val)} (hn : (keysC l).Nodup) {p : Nat × List Val} (hp : p ∈ l) : copyC l p.1 = some p.2 := by
  unfold copyC
  induction l with
  | nil => cases hp
  | cons q l ih =>
    rw [List.find?_cons]
    unfold keysC at hn
    rw [List.map_cons, List.nodup_cons] at hn
    rcases List.mem_cons.1 hp with rfl | h
    · simp
    · have hne : q.1 ≠ p.1 := fun e => hn.1 (List.mem_map.2 ⟨p, h, e.symm⟩)
      rw [show decide (q.1 = p.1) = false from by simp [hne]]
      exact ih hn.2 h
theorem copyC_none {l : List (Nat × List Val)} {z : Nat} (h : z ∉ keysC l) : copyC l z = none := by
  unfold copyC
  rw [List.find?_eq_none.2 (fun p hp h2 => h (List.mem_map.2 ⟨p, hp, by simpa using h2⟩))]; rfl
theorem flipO_len (cps : List (Nat × List Val)) (row : List Int) (objs : List (Option (List Val))) : (flipO cps row objs).length = objs.length := by
  unfold flipO
  induction row generalizing objs with
  | nil => rfl
  | cons x row ih => rw [List.foldl_cons, ih, List.length_set]
theorem flipO_get (cps : List (Nat × List Val)) (row : List Int) (hr : ∀ x ∈ row, 0 ≤ x) : ∀ (objs : List (Option (List Val))) (i : Nat), (flipO cps row objs)[i]? = if (i : Int) ∈ row ∧ i < objs.length then some (copyC cps i) else objs[i]? := by
  unfold flipO
  induction row with
  | nil => intro objs i; rw [if_neg (by simp)]; rfl
  | cons x row ih =>
    intro objs i
    have hx := hr x (List.mem_cons_self ..)
    rw [List.foldl_cons, ih (fun y hy => hr y (List.mem_cons_of_mem _ hy)), List.length_set, List.getElem?_set]
    by_cases h1 : (i : Int) ∈ row ∧ i < objs.length
    · rw [if_pos h1, if_pos ⟨List.mem_cons_of_mem _ h1.1, h1.2⟩]
    · rw [if_neg h1]
      by_cases h2 : x.toNat = i
      · rw [if_pos h2]
        by_cases h3 : i < objs.length
        · rw [if_pos (by omega), if_pos ⟨by rw [show (i : Int) = x by omega]; exact List.mem_cons_self .., h3⟩, h2]
        · rw [if_neg (by omega), if_neg (fun h => h3 h.2), List.getElem?_eq_none (by omega)]
      · rw [if_neg h2, if_neg]
        rintro ⟨h3, h4⟩
        rcases List.mem_cons.1 h3 with h5 | h5
        · exact h2 (by omega)
        · exact h1 ⟨h5, h4⟩
section
variable {E : Nat → Nat → Prop} {a : RpA}
theorem flip_fld (ok : RpOk a) (hl : a.log = []) (hf : a.cps[a.filled]? = none) (i : Nat) (fs : List Val) : a.flip.fld i = some fs ↔ a.has i ∧ a.fld i = some fs := by
  have hall : ∀ p ∈ a.cps, ∃ gs, a.fld p.1 = some gs ∧ p.2 = gs ∧ ∀ v ∈ gs, v.1 = true → a.has v.2.toNat := fun p hp => by
    obtain ⟨k, hk⟩ := List.getElem?_of_mem hp
    obtain ⟨gs, h1, h2⟩ := ok.ck p hp
    have hkl := (List.getElem?_eq_some_iff.1 hk).1
    have hfl := List.getElem?_eq_none_iff.1 hf
    have hj : ∀ j, j < p.2.length → p.2[j]? = gs[j]? ∧ ∀ v, gs[j]? = some v → v.1 = true → a.has v.2.toNat := fun j hj => by
      rcases ok.ok k p (by omega) hk j hj with h3 | h3 | ⟨h3, h4⟩
      · exact h3.elim
      · rw [hl] at h3; cases h3
      · rw [RpA.flds_of h1] at h3 h4; exact ⟨h3, h4⟩
    refine ⟨gs, h1, List.ext_getElem? fun j => ?_, fun v hv hb => ?_⟩
    · by_cases hjl : j < p.2.length
      · exact (hj j hjl).1
      · rw [List.getElem?_eq_none (by omega), List.getElem?_eq_none (by omega)]
    · obtain ⟨j, hjv⟩ := List.getElem?_of_mem hv
      exact (hj j (by have := (List.getElem?_eq_some_iff.1 hjv).1; omega)).2 v hjv hb
  rw [RpA.fld_iff]
  show (flipO a.cps a.row a.objs)[i]? = _ ↔ _
  rw [flipO_get _ _ (fun x hx => by obtain ⟨i, _, rfl, _⟩ := (ok.row x).1 hx; omega)]
  by_cases hr : (i : Int) ∈ a.row ∧ i < a.objs.length
  · rw [if_pos hr]
    by_cases hh : a.has i
    · obtain ⟨p, hp, e⟩ := List.mem_map.1 hh
      have hc := copyC_some ok.nd hp
      rw [show p.1 = i from e] at hc
      obtain ⟨gs, h1, h2, _⟩ := hall p hp
      rw [show p.1 = i from e] at h1
      rw [hc, h1, h2]
      exact ⟨fun h => ⟨hh, Option.some.inj h⟩, fun h => congrArg some h.2⟩
    · rw [copyC_none hh]
      exact ⟨fun h => (by cases h), fun h => absurd h.1 hh⟩
  · rw [if_neg hr]
    have hno : a.fld i = none := by
      cases h : a.fld i with
      | none => rfl
      | some gs => exact absurd ⟨(ok.row _).2 ⟨i, gs, rfl, h⟩, RpA.fld_lt h⟩ hr
    rw [← RpA.fld_iff, hno]
    exact ⟨fun h => (by cases h), fun h => (by cases h.2)⟩
theorem fill_refs (ok : RpOk a) (hl : a.log = []) (hf : a.cps[a.filled]? = none) {i : Nat} {fs : List Val} (hi : a.has i) (hfs : a.fld i = some fs) {v : Val} (hv : v ∈ fs) (hb : v.1 = true) : a.has v.2.toNat := by
  obtain ⟨k, p, hk, rfl⟩ := has_key hi
  obtain ⟨gs, h1, h2⟩ := ok.ck p (List.mem_of_getElem? hk)
  obtain rfl : gs = fs := Option.some.inj (h1.symm.trans hfs)
  have hkl := (List.getElem?_eq_some_iff.1 hk).1
  have hfl := List.getElem?_eq_none_iff.1 hf
  obtain ⟨j, hjv⟩ := List.getElem?_of_mem hv
  have hjl := (List.getElem?_eq_some_iff.1 hjv).1
  rcases ok.ok k p (by omega) hk j (by omega) with h3 | h3 | ⟨h3, h4⟩
  · exact h3.elim
  · rw [hl] at h3; cases h3
  · rw [RpA.flds_of h1] at h4; exact h4 v hjv hb
theorem miss_none (h : a.miss = none) {v : Val} (hv : v ∈ a.regs) (hb : v.1 = true) : a.has v.2.toNat := by
  have := List.find?_eq_none.1 h v hv
  simpa [hb] using this
theorem miss_some {v : Val} (h : a.miss = some v) : v ∈ a.regs ∧ v.1 = true ∧ ¬ a.has v.2.toNat := by
  have h1 := List.find?_some h
  exact ⟨List.mem_of_find?_eq_some h, by simpa using h1⟩
theorem RpOk.flip (ok : RpOk a) (hl : a.log = []) (hm : a.miss = none) (hf : a.cps[a.filled]? = none) : RpOk a.flip := by
  have hfl := flip_fld ok hl hf
  have hvk : ∀ v : Val, a.vok v → (v.1 = true → a.has v.2.toNat) → a.flip.vok v := fun v h1 h2 hb => by
    obtain ⟨i, fs, e, h3⟩ := h1 hb
    have h4 := h2 hb
    rw [e, Int.toNat_natCast] at h4
    exact ⟨i, fs, e, (hfl i fs).2 ⟨h4, h3⟩⟩
  refine ⟨ok.r8, fun v hv => hvk v (ok.vr v hv) (miss_none hm hv), fun i fs h v hv => ?_, fun i fs h => ok.f4 i fs ((hfl i fs).1 h).2, fun x => ?_, ?_, List.Pairwise.nil, fun p hp => (by cases hp), Nat.le_refl _, fun p hp => (by cases hp), fun k p hk => absurd hk (by show ¬ k < 0; omega)⟩
  · obtain ⟨h1, h2⟩ := (hfl i fs).1 h
    exact hvk v (ok.vf i fs h2 v hv) (fill_refs ok hl hf h1 h2 hv)
  · show x ∈ a.made ↔ _
    unfold RpA.made
    rw [List.mem_map]
    constructor
    · rintro ⟨k, hk, rfl⟩
      obtain ⟨fs, hfs⟩ := ok.has_fld (z := k) hk
      exact ⟨k, fs, rfl, (hfl k fs).2 ⟨hk, hfs⟩⟩
    · rintro ⟨k, fs, rfl, h⟩
      exact ⟨k, ((hfl k fs).1 h).1, rfl⟩
  · show a.made.length ≤ 24
    unfold RpA.made keysC
    rw [List.length_map, List.length_map]
    exact ok.made24
theorem RpOk.nl (ok : RpOk a) {o k : Nat} {l : List (Nat × Nat)} (hl : a.log = (o, k) :: l) : RpOkE (fun o' j => o' = o ∧ j = k) (a.nl l) := by
  refine ⟨ok.r8, ok.vr, ok.vf, ok.f4, ok.row, ok.r24, ok.nd, ok.ck, ok.fk, fun p hp => ok.lg p (by rw [hl]; exact List.mem_cons_of_mem _ hp), fun i p hi hp j hj => ?_⟩
  rcases ok.ok i p hi hp j hj with h | h | h
  · exact h.elim
  · rw [hl] at h
    rcases List.mem_cons.1 h with h1 | h1
    · injection h1 with h2 h3
      exact .inl ⟨h2, h3⟩
    · exact .inr (.inl h1)
  · exact .inr (.inr h)
theorem RpOk.fill (ok : RpOk a) (hl : a.log = []) (hm : a.miss = none) : RpOk a.fill := by
  unfold RpA.fill
  cases hp : a.cps[a.filled]? with
  | none => exact ok.flip hl hm hp
  | some p =>
    have hpm := List.mem_of_getElem? hp
    have hh : a.has p.1 := List.mem_map.2 ⟨p, hpm, rfl⟩
    have h1 : RpOkE (fun o' _ => o' = p.1) (a.fl (a.filled + 1)) := by
      refine ⟨ok.r8, ok.vr, ok.vf, ok.f4, ok.row, ok.r24, ok.nd, ok.ck, ?_, ok.lg, fun i q hi hq j hj => ?_⟩
      · show a.filled + 1 ≤ a.cps.length
        have := (List.getElem?_eq_some_iff.1 hp).1
        omega
      · have hi' : i < a.filled + 1 := hi
        by_cases e : i = a.filled
        · subst e
          obtain rfl : q = p := Option.some.inj ((show a.cps[a.filled]? = some q from hq).symm.trans hp)
          exact .inl rfl
        · exact .inr ((ok.ok i q (by omega) hq j hj).resolve_left fun h => h)
    obtain ⟨h2, -, h3, -⟩ := h1.bringN (o := p.1) hh (a.flds p.1).length (Nat.le_refl _)
    refine h2.weaken fun k q j hk hq hj hE => hE.2 ⟨hE.1, ?_⟩
    obtain ⟨fs, hf, hfl⟩ := h2.ck q (List.mem_of_getElem? hq)
    rw [hE.1] at hf
    have e : ((a.fl (a.filled + 1)).bringN p.1 (a.flds p.1).length).fld p.1 = a.fld p.1 := by unfold RpA.fld; rw [h3]; rfl
    rw [e] at hf
    rw [RpA.flds_of hf]; omega
theorem RpOk.work (ok : RpOk a) : RpOk a.work := by
  unfold RpA.work
  cases hl : a.log with
  | cons p l =>
    obtain ⟨o, k⟩ := p
    have h1 := ok.nl hl
    obtain ⟨fs, hf, hk⟩ := ok.lg (o, k) (by rw [hl]; exact List.mem_cons_self ..)
    dsimp only
    by_cases hh : a.has o
    · rw [if_pos hh]
      exact (h1.bring (o := o) (k := k) hh (by show k < (a.flds o).length; rw [RpA.flds_of hf]; exact hk)).weaken fun _ _ _ _ _ _ h => h.2 h.1
    · rw [if_neg hh]
      exact h1.weaken fun i p j hi hp _ h => hh (h.1 ▸ List.mem_map.2 ⟨p, List.mem_of_getElem? hp, rfl⟩)
  | nil =>
    dsimp only
    cases hm : a.miss with
    | some v => exact RpOkE.cop ok (ok.vr v (miss_some hm).1)
    | none => exact RpOk.fill ok hl hm
theorem RpOk.sr (ok : RpOk a) (r : Nat) {v : Val} (hv : a.vok v) : RpOk (a.sr r v) :=
  ⟨by show (a.regs.set r v).length = 8; rw [List.length_set]; exact ok.r8, fun u hu => by
    rcases mem_set_ (show u ∈ a.regs.set r v from hu) with h | rfl
    · exact ok.vr u h
    · exact hv, ok.vf, ok.f4, ok.row, ok.r24, ok.nd, ok.ck, ok.fk, ok.lg, ok.ok⟩
theorem rput_fld {a : RpA} {i k : Nat} {fs : List Val} (v : Val) (hf : a.fld i = some fs) (j : Nat) (gs : List Val) : (rpPut a i k v).fld j = some gs ↔ (j = i ∧ gs = fs.set k v) ∨ (j ≠ i ∧ a.fld j = some gs) := by
  rw [RpA.fld_iff, RpA.fld_iff]
  show (a.objs.set i _)[j]? = _ ↔ _
  rw [List.getElem?_set, RpA.flds_of hf]
  have hl := RpA.fld_lt hf
  by_cases e : i = j
  · subst e
    rw [if_pos rfl, if_pos hl]
    simp [eq_comm]
  · rw [if_neg e]
    constructor
    · exact fun h => .inr ⟨fun h1 => e h1.symm, h⟩
    · rintro (⟨h1, _⟩ | ⟨_, h⟩)
      · exact absurd h1.symm e
      · exact h
theorem rput_some {a : RpA} {i k : Nat} {fs : List Val} (v : Val) (hf : a.fld i = some fs) {j : Nat} {gs : List Val} (h : a.fld j = some gs) : ∃ hs, (rpPut a i k v).fld j = some hs ∧ hs.length = gs.length ∧ (∀ m, ¬ (j = i ∧ m = k) → hs[m]? = gs[m]?) := by
  by_cases e : j = i
  · subst e
    obtain rfl : fs = gs := Option.some.inj (hf.symm.trans h)
    refine ⟨fs.set k v, (rput_fld v hf j _).2 (.inl ⟨rfl, rfl⟩), List.length_set .., fun m hm => ?_⟩
    rw [List.getElem?_set, if_neg (fun h => hm ⟨rfl, h.symm⟩)]
  · exact ⟨gs, (rput_fld v hf j _).2 (.inr ⟨e, h⟩), rfl, fun _ _ => rfl⟩
theorem RpOk.put (ok : RpOk a) {i k : Nat} {fs : List Val} (hf : a.fld i = some fs) (hk : k < fs.length) {v : Val} (hv : a.vok v) : RpOk (rpPut a i k v) := by
  have hF := fun j gs => rput_fld (k := k) v hf j gs
  have hvk : ∀ u : Val, a.vok u → (rpPut a i k v).vok u := fun u h hb => by
    obtain ⟨z, gs, e, h1⟩ := h hb
    obtain ⟨hs, h2, _⟩ := rput_some (k := k) v hf h1
    exact ⟨z, hs, e, h2⟩
  refine ⟨ok.r8, fun u hu => hvk u (ok.vr u hu), fun j gs hg u hu => ?_, fun j gs hg => ?_, fun x => ?_, ok.r24, ok.nd, fun p hp => ?_, ok.fk, fun p hp => ?_, fun m p hm hp j hj => .inr ?_⟩
  · rcases (hF j gs).1 hg with ⟨rfl, rfl⟩ | ⟨_, h⟩
    · rcases mem_set_ hu with h1 | rfl
      · exact hvk u (ok.vf j fs hf u h1)
      · exact hvk u hv
    · exact hvk u (ok.vf j gs h u hu)
  · rcases (hF j gs).1 hg with ⟨rfl, rfl⟩ | ⟨_, h⟩
    · rw [List.length_set]; exact ok.f4 j fs hf
    · exact ok.f4 j gs h
  · show x ∈ a.row ↔ _
    rw [ok.row]
    constructor
    · rintro ⟨z, gs, e, h⟩
      obtain ⟨hs, h2, _⟩ := rput_some (k := k) v hf h
      exact ⟨z, hs, e, h2⟩
    · rintro ⟨z, gs, e, h⟩
      rcases (hF z gs).1 h with ⟨rfl, _⟩ | ⟨_, h2⟩
      · exact ⟨z, fs, e, hf⟩
      · exact ⟨z, gs, e, h2⟩
  · obtain ⟨gs, h1, h2⟩ := ok.ck p hp
    obtain ⟨hs, h3, h4, _⟩ := rput_some (k := k) v hf h1
    exact ⟨hs, h3, by omega⟩
  · rcases List.mem_append.1 (show p ∈ a.log ++ [(i, k)] from hp) with h | h
    · obtain ⟨gs, h1, h2⟩ := ok.lg p h
      obtain ⟨hs, h3, h4, _⟩ := rput_some (k := k) v hf h1
      exact ⟨hs, h3, by omega⟩
    · rw [List.mem_singleton.1 h]
      obtain ⟨hs, h3, h4, _⟩ := rput_some (k := k) v hf hf
      exact ⟨hs, h3, by dsimp only; omega⟩
  · have hp' : a.cps[m]? = some p := hp
    obtain ⟨gs, h1, h2⟩ := ok.ck p (List.mem_of_getElem? hp')
    obtain ⟨hs, h3, h4, h5⟩ := rput_some (k := k) v hf h1
    by_cases e : p.1 = i ∧ j = k
    · exact .inl (List.mem_append.2 (.inr (by rw [← e.1, ← e.2]; simp)))
    · refine FieldOk.mono ((ok.ok m p hm hp' j hj).resolve_left fun h => h) (fun q hq => List.mem_append.2 (.inl hq)) ?_ fun z hz => hz
      rw [RpA.flds_of h3, RpA.flds_of h1]
      exact h5 j e
theorem rpush_fld (a : RpA) (n : Nat) (i : Nat) (fs : List Val) : (a.push n).fld i = some fs ↔ a.fld i = some fs ∨ (i = a.objs.length ∧ fs = zeroVs n) := by
  rw [RpA.fld_iff, RpA.fld_iff]
  show (a.objs ++ [_])[i]? = _ ↔ _
  by_cases h : i < a.objs.length
  · rw [List.getElem?_append_left h]
    exact ⟨.inl, fun h1 => h1.elim id fun h2 => absurd h2.1 (by omega)⟩
  · rw [List.getElem?_append_right (by omega), List.getElem?_eq_none (l := a.objs) (by omega)]
    by_cases e : i = a.objs.length
    · subst e
      simp [eq_comm]
    · rw [List.getElem?_eq_none (by simp; omega)]
      simp [e]
theorem RpOk.push (ok : RpOk a) {n : Nat} (h4 : n ≤ 4) (hr : a.row.length < 24) : RpOk (a.push n) ∧ (a.push n).vok (true, (a.objs.length : Int)) := by
  have hF := fun i fs => rpush_fld a n i fs
  have hvk : ∀ u : Val, a.vok u → (a.push n).vok u := fun u h hb => by
    obtain ⟨z, gs, e, h1⟩ := h hb
    exact ⟨z, gs, e, (hF z gs).2 (.inl h1)⟩
  refine ⟨⟨ok.r8, fun u hu => hvk u (ok.vr u hu), fun j gs hg u hu => ?_, fun j gs hg => ?_, fun x => ?_, ?_, ok.nd, fun p hp => ?_, ok.fk, fun p hp => ?_, fun m p hm hp j hj => .inr ?_⟩, fun _ => ⟨_, _, rfl, (hF _ _).2 (.inr ⟨rfl, rfl⟩)⟩⟩
  · rcases (hF j gs).1 hg with h | ⟨_, rfl⟩
    · exact hvk u (ok.vf j gs h u hu)
    · obtain ⟨_, rfl⟩ := List.mem_replicate.1 (show u ∈ List.replicate n ((false, 0) : Val) from hu)
      intro hb; cases hb
  · rcases (hF j gs).1 hg with h | ⟨_, rfl⟩
    · exact ok.f4 j gs h
    · simp only [zeroVs, List.length_replicate]; exact h4
  · show x ∈ a.row ++ [_] ↔ _
    rw [List.mem_append, ok.row, List.mem_singleton]
    constructor
    · rintro (⟨z, gs, e, h⟩ | rfl)
      · exact ⟨z, gs, e, (hF z gs).2 (.inl h)⟩
      · exact ⟨_, _, rfl, (hF _ _).2 (.inr ⟨rfl, rfl⟩)⟩
    · rintro ⟨z, gs, e, h⟩
      rcases (hF z gs).1 h with h1 | ⟨h1, _⟩
      · exact .inl ⟨z, gs, e, h1⟩
      · exact .inr (by rw [e, h1])
  · show (a.row ++ [_]).length ≤ 24
    rw [List.length_append, List.length_singleton]; omega
  · obtain ⟨gs, h1, h2⟩ := ok.ck p hp
    exact ⟨gs, (hF _ _).2 (.inl h1), h2⟩
  · obtain ⟨gs, h1, h2⟩ := ok.lg p hp
    exact ⟨gs, (hF _ _).2 (.inl h1), h2⟩
  · have hp' : a.cps[m]? = some p := hp
    obtain ⟨gs, h1, h2⟩ := ok.ck p (List.mem_of_getElem? hp')
    refine FieldOk.mono ((ok.ok m p hm hp' j hj).resolve_left fun h => h) (fun q hq => hq) ?_ fun z hz => hz
    rw [RpA.flds_of ((hF p.1 gs).2 (.inl h1)), RpA.flds_of h1]
end
end Go.Proofs.Ytjphckfbbiehdaa
