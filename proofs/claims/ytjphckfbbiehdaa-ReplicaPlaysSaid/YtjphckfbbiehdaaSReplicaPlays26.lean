/- A memory that is copied, plain: a deed; what the reference does; both go alike. -/
import Derived.Test.YtjphckfbbiehdaaSReplicaPlays25
set_option linter.unusedSimpArgs false
set_option linter.unusedVariables false
namespace Go.Proofs.Ytjphckfbbiehdaa
open Go.RowKit
def rpErr (a : RpA) (v : Val) (at_ : Int) : Int := if v.1 = false then 5 else if at_ < 0 ∨ (((a.fld v.2.toNat).getD []).length : Int) ≤ at_ then 3 else 0
def rpKst (d : DoV) (a : RpA) : OutV × RpA :=
  if d.k = 1 then
    if (rpNew a d.n.toNat).2.2 ≠ 0 then (⟨(rpNew a d.n.toNat).2.2, false, 0⟩, (rpNew a d.n.toNat).1)
    else (⟨0, false, 0⟩, (rpNew a d.n.toNat).1.sr d.to.toNat (true, (rpNew a d.n.toNat).2.1))
  else if d.k = 2 then (⟨0, false, 0⟩, a.sr d.to.toNat (false, d.n))
  else if d.k = 3 then (⟨0, false, 0⟩, a.sr d.to.toNat (rgA a.regs d.fr))
  else if d.k = 4 then
    if rpErr a (rgA a.regs d.to) d.at_ ≠ 0 then (⟨rpErr a (rgA a.regs d.to) d.at_, false, 0⟩, a)
    else (⟨0, false, 0⟩, rpPut a (rgA a.regs d.to).2.toNat d.at_.toNat (rgA a.regs d.fr))
  else if d.k = 5 then
    if rpErr a (rgA a.regs d.fr) d.at_ ≠ 0 then (⟨rpErr a (rgA a.regs d.fr) d.at_, false, 0⟩, a)
    else (⟨0, false, 0⟩, a.sr d.to.toNat (((a.fld (rgA a.regs d.fr).2.toNat).getD []).getD d.at_.toNat (false, 0)))
  else if d.k = 6 then (⟨0, false, if rgA a.regs d.to = rgA a.regs d.fr then 1 else 0⟩, a)
  else (⟨0, (rgA a.regs d.fr).1, if (rgA a.regs d.fr).1 = true then (((a.fld (rgA a.regs d.fr).2.toNat).getD []).length : Int) else (rgA a.regs d.fr).2⟩, a)
def rpDo (d : DoV) (a : RpA) : OutV × RpA := if wrongM d ≠ 0 then (⟨wrongM d, false, 0⟩, a) else rpKst d a
def rpStep (d : DoV) (a : RpA) : OutV × RpA := if d.k = 8 then (⟨0, false, 0⟩, a.work) else rpDo d a
theorem RpOkE.at_field {E : Nat → Nat → Prop} {a : RpA} (ok : RpOkE E a) {r at_ : Int} (h : rpErr a (rgA a.regs r) at_ = 0) : ∃ (i k : Nat) (fs : List Val), rgA a.regs r = (true, (i : Int)) ∧ a.fld i = some fs ∧ at_ = (k : Int) ∧ k < fs.length := by
  unfold rpErr at h
  split at h
  · omega
  · rename_i hb
    have hb' : (rgA a.regs r).1 = true := by simpa using hb
    obtain ⟨i, fs, e, hf⟩ := ok.rg r hb'
    split at h
    · omega
    · rename_i h2
      rw [e, Int.toNat_natCast, hf, Option.getD_some] at h2
      obtain ⟨k, rfl⟩ := int_nat (show 0 ≤ at_ from by omega)
      exact ⟨i, k, fs, Prod.ext hb' e, hf, rfl, by omega⟩
theorem RpOk.new_ {a : RpA} (ok : RpOk a) {n : Nat} (h4 : n ≤ 4) : RpOk (rpNew a n).1 ∧ ((rpNew a n).2.2 = 0 → (rpNew a n).1.vok (true, (rpNew a n).2.1)) ∧ a.objs.length ≤ (rpNew a n).1.objs.length ∧ (rpNew a n).1.objs.length ≤ a.objs.length + 1 := by
  unfold rpNew
  by_cases h : 24 ≤ a.row.length
  · rw [if_pos h]
    exact ⟨ok, fun h1 => (by cases h1), Nat.le_refl _, Nat.le_succ _⟩
  · rw [if_neg h]
    obtain ⟨h1, h2⟩ := ok.push h4 (by omega)
    have e : (a.push n).objs.length = a.objs.length + 1 := by show (a.objs ++ [_]).length = _; simp
    exact ⟨h1, fun _ => h2, by dsimp only; omega, by dsimp only; omega⟩
theorem RpOk.do_ {a : RpA} (ok : RpOk a) (d : DoV) : RpOk (rpDo d a).2 ∧ a.objs.length ≤ (rpDo d a).2.objs.length ∧ (rpDo d a).2.objs.length ≤ a.objs.length + 1 := by
  unfold rpDo
  by_cases hw : wrongM d ≠ 0
  · rw [if_pos hw]; exact ⟨ok, Nat.le_refl _, Nat.le_succ _⟩
  rw [if_neg hw]
  have hw0 : wrongM d = 0 := by omega
  unfold rpKst
  split
  · rename_i h1
    have h4 := wrongM_n hw0 h1
    obtain ⟨n1, n2, n3, n4⟩ := ok.new_ (n := d.n.toNat) (by omega)
    split
    · exact ⟨n1, n3, n4⟩
    · rename_i hz
      exact ⟨n1.sr _ (n2 (by omega)), n3, n4⟩
  split
  · exact ⟨ok.sr _ (fun h => (by cases h)), Nat.le_refl _, Nat.le_succ _⟩
  split
  · exact ⟨ok.sr _ (RpOkE.rg ok d.fr), Nat.le_refl _, Nat.le_succ _⟩
  split
  · split
    · exact ⟨ok, Nat.le_refl _, Nat.le_succ _⟩
    · rename_i hz
      obtain ⟨i, k, fs, e, hf, e2, hk⟩ := RpOkE.at_field ok (r := d.to) (at_ := d.at_) (by omega)
      rw [e, e2, Int.toNat_natCast, Int.toNat_natCast]
      have p2 : (rpPut a i k (rgA a.regs d.fr)).objs.length = a.objs.length := List.length_set ..
      exact ⟨ok.put hf hk (RpOkE.rg ok d.fr), by rw [p2]; exact Nat.le_refl _, by rw [p2]; exact Nat.le_succ _⟩
  split
  · split
    · exact ⟨ok, Nat.le_refl _, Nat.le_succ _⟩
    · rename_i hz
      obtain ⟨i, k, fs, e, hf, e2, hk⟩ := RpOkE.at_field ok (r := d.fr) (at_ := d.at_) (by omega)
      rw [e, e2, Int.toNat_natCast, Int.toNat_natCast, hf, Option.getD_some]
      have hv : a.vok (fs.getD k (false, 0)) := by
        rw [List.getD_eq_getElem?_getD, List.getElem?_eq_getElem hk]
        exact ok.vf i fs hf _ (List.getElem_mem hk)
      exact ⟨ok.sr _ hv, Nat.le_refl _, Nat.le_succ _⟩
  split
  · exact ⟨ok, Nat.le_refl _, Nat.le_succ _⟩
  · exact ⟨ok, Nat.le_refl _, Nat.le_succ _⟩
theorem work_len {a : RpA} (ok : RpOk a) : a.work.objs.length = a.objs.length := by
  have hb : ∀ n (b : RpA) (o : Nat), (b.bringN o n).objs = b.objs := by
    intro n
    induction n with
    | zero => exact fun _ _ => rfl
    | succ n ih => intro b o; rw [bringN_succ, (bring_keep _ _ _).2.1, ih]
  unfold RpA.work
  split
  · split
    · rw [(bring_keep _ _ _).2.1]; rfl
    · rfl
  · split
    · rw [(cop_keep _ _).2.1]
    · unfold RpA.fill
      split
      · rw [hb]; rfl
      · exact flipO_len ..
theorem RpOk.step {a : RpA} (ok : RpOk a) (d : DoV) : RpOk (rpStep d a).2 ∧ (rpStep d a).2.objs.length ≤ a.objs.length + 1 := by
  unfold rpStep
  by_cases h : d.k = 8
  · rw [if_pos h]; exact ⟨ok.work, by dsimp only; rw [work_len ok]; exact Nat.le_succ _⟩
  · rw [if_neg h]; exact ⟨(ok.do_ d).1, (ok.do_ d).2.2⟩
/-! ### The reference. -/
structure RqA where
  σ : MSt
  row : List Int
  made : List Int
  filled : Nat
  log : List (Nat × Nat)
  times : Nat
def RqA.cop (r : RqA) (v : Val) : RqA := if v.1 = false ∨ v.2 ∈ r.made then r else { r with made := r.made ++ [v.2] }
def RqA.miss (r : RqA) : Option Val := r.σ.regs.find? fun v => v.1 && !decide (v.2 ∈ r.made)
def RqA.work (r : RqA) : RqA :=
  match r.log with
  | p :: l => if (p.1 : Int) ∈ r.made then { r.cop ((obA r.σ.objs (p.1 : Int)).getD p.2 (false, 0)) with log := l } else { r with log := l }
  | [] =>
    match r.miss with
    | some v => r.cop v
    | none =>
      match r.made[r.filled]? with
      | some o => { (obA r.σ.objs o).foldl RqA.cop r with filled := r.filled + 1 }
      | none => { r with row := r.made, made := [], filled := 0, times := r.times + 1 }
def rqErr (d : DoV) (r : RqA) : Int := if rWrong d r.σ = 0 ∧ d.k = 1 ∧ 24 ≤ r.row.length then 6 else rWrong d r.σ
def RqA.do_ (r : RqA) (d : DoV) : RqA := { r with σ := (stepK d r.σ).2, log := (if d.k = 4 then r.log ++ [((rgA r.σ.regs d.to).2.toNat, d.at_.toNat)] else r.log), row := (if d.k = 1 then r.row ++ [(r.σ.objs.length : Int)] else r.row) }
def rqStep (d : DoV) (r : RqA) : OutV × RqA :=
  if d.k = 8 then (⟨0, false, 0⟩, r.work) else if rqErr d r ≠ 0 then (⟨rqErr d r, false, 0⟩, r) else ((stepK d r.σ).1, r.do_ d)
structure RpSim (a : RpA) (r : RqA) : Prop where
  rg : a.regs = r.σ.regs
  n : a.objs.length = r.σ.objs.length
  ob : ∀ (i : Nat) (fs : List Val), a.fld i = some fs → obA r.σ.objs (i : Int) = fs
  row : a.row = r.row
  md : a.made = r.made
  fi : a.filled = r.filled
  lg : a.log = r.log
  tm : a.times = r.times
  m : MOk r.σ
theorem made_has {a : RpA} {z : Nat} : (z : Int) ∈ a.made ↔ a.has z := by
  unfold RpA.made RpA.has
  rw [List.mem_map]
  exact ⟨fun ⟨k, hk, e⟩ => by rw [show z = k by omega]; exact hk, fun h => ⟨z, h, rfl⟩⟩
theorem RpSim.cop {a : RpA} {r : RqA} (h : RpSim a r) {v : Val} (hv : a.vok v) : RpSim (a.cop v) (r.cop v) := by
  by_cases hb : v.1 = false
  · rw [cop_no (.inl hb)]
    unfold RqA.cop
    rw [if_pos (.inl hb)]; exact h
  · obtain ⟨i, fs, e, hf⟩ := hv (by simpa using hb)
    have hm : v.2 ∈ r.made ↔ a.has v.2.toNat := by rw [← h.md, e, Int.toNat_natCast]; exact made_has
    unfold RqA.cop
    by_cases hh : a.has v.2.toNat
    · rw [cop_no (.inr hh), if_pos (.inr (hm.2 hh))]; exact h
    · rw [cop_yes (fun h2 => h2.elim hb hh), if_neg (fun h2 => h2.elim hb fun h3 => hh (hm.1 h3))]
      refine ⟨h.rg, h.n, h.ob, h.row, ?_, h.fi, h.lg, h.tm, h.m⟩
      show (keysC (a.cps ++ [_])).map _ = r.made ++ [v.2]
      unfold keysC
      rw [List.map_append, List.map_append, ← h.md]
      unfold RpA.made keysC
      simp [e]
theorem RpSim.cset {a : RpA} {r : RqA} (h : RpSim a r) (o k : Nat) (v : Val) : RpSim (a.cset o k v) r :=
  ⟨h.rg, h.n, h.ob, h.row, by show (keysC (cpSet _ _ _ _)).map _ = _; rw [cpSet_keys]; exact h.md, h.fi, h.lg, h.tm, h.m⟩
theorem RpSim.at_eq {a : RpA} {r : RqA} (h : RpSim a r) {o : Nat} {fs : List Val} (hf : a.fld o = some fs) (k : Nat) : a.at_ o k = (obA r.σ.objs (o : Int)).getD k (false, 0) := by
  unfold RpA.at_
  rw [RpA.flds_of hf, h.ob o fs hf]
theorem RpSim.bring {E : Nat → Nat → Prop} {a : RpA} {r : RqA} (h : RpSim a r) (ok : RpOkE E a) {o k : Nat} (ho : a.has o) (hk : k < (a.flds o).length) : RpSim (a.bring o k) (r.cop ((obA r.σ.objs (o : Int)).getD k (false, 0))) := by
  obtain ⟨fs, hf⟩ := ok.has_fld ho
  rw [← h.at_eq hf]
  exact (h.cop (ok.at_vok ho hk)).cset _ _ _
theorem rcop_keep (r : RqA) (v : Val) : (r.cop v).σ = r.σ ∧ (r.cop v).row = r.row ∧ (r.cop v).filled = r.filled ∧ (r.cop v).log = r.log ∧ (r.cop v).times = r.times := by
  unfold RqA.cop
  split <;> exact ⟨rfl, rfl, rfl, rfl, rfl⟩
theorem RpSim.bringN {E : Nat → Nat → Prop} {a : RpA} {r : RqA} (h : RpSim a r) (ok : RpOkE E a) {o : Nat} (ho : a.has o) : ∀ n, n ≤ (a.flds o).length → RpSim (a.bringN o n) (((obA r.σ.objs (o : Int)).take n).foldl RqA.cop r) ∧ (((obA r.σ.objs (o : Int)).take n).foldl RqA.cop r).σ = r.σ := by
  obtain ⟨fs, hf⟩ := ok.has_fld ho
  have hob := h.ob o fs hf
  intro n
  induction n with
  | zero => exact fun _ => ⟨h, rfl⟩
  | succ n ih =>
    intro hn
    obtain ⟨h1, h2⟩ := ih (by omega)
    obtain ⟨b1, b2, b3, -⟩ := ok.bringN ho n (by omega)
    have e : (a.bringN o n).flds o = a.flds o := by unfold RpA.flds RpA.fld; rw [b3]
    have h3 := h1.bring b1 b2 (k := n) (by rw [e]; omega)
    rw [RpA.flds_of hf] at hn
    have hnl : n < (obA r.σ.objs (o : Int)).length := by rw [hob]; omega
    rw [bringN_succ, List.take_succ_eq_append_getElem hnl, List.foldl_append, List.foldl_cons, List.foldl_nil]
    rw [h2, List.getD_eq_getElem?_getD, List.getElem?_eq_getElem hnl] at h3
    exact ⟨h3, (rcop_keep _ _).1.trans h2⟩
theorem RpSim.miss {a : RpA} {r : RqA} (h : RpSim a r) (ok : RpOk a) : r.miss = a.miss := by
  unfold RqA.miss RpA.miss
  rw [h.rg]
  have gen : ∀ l : List Val, (∀ v ∈ l, a.vok v) → l.find? (fun v => v.1 && !decide (v.2 ∈ r.made)) = l.find? (fun v => v.1 && !decide (a.has v.2.toNat)) := by
    intro l
    induction l with
    | nil => exact fun _ => rfl
    | cons v l ih =>
      intro hl
      have e : (v.1 && !decide (v.2 ∈ r.made)) = (v.1 && !decide (a.has v.2.toNat)) := by
        cases hb : v.1 with
        | false => rfl
        | true =>
          obtain ⟨i, fs, e, hf⟩ := hl v (List.mem_cons_self ..) hb
          have : (v.2 ∈ r.made) ↔ a.has v.2.toNat := by rw [← h.md, e, Int.toNat_natCast]; exact made_has
          rw [decide_eq_decide.2 this]
      rw [List.find?_cons, List.find?_cons, e, ih fun u hu => hl u (List.mem_cons_of_mem _ hu)]
  exact gen _ fun v hv => ok.vr v (by rw [h.rg]; exact hv)
theorem made_at {a : RpA} (k : Nat) : a.made[k]? = (a.cps[k]?).map fun p => (p.1 : Int) := by
  unfold RpA.made keysC
  rw [List.getElem?_map, List.getElem?_map, Option.map_map]; rfl
theorem RpSim.work {a : RpA} {r : RqA} (h : RpSim a r) (ok : RpOk a) : RpSim a.work r.work := by
  unfold RpA.work RqA.work
  rw [← h.lg]
  cases hl : a.log with
  | cons p l =>
    obtain ⟨o, k⟩ := p
    dsimp only
    have hm : ((o : Int) ∈ r.made) ↔ a.has o := by rw [← h.md]; exact made_has
    by_cases hh : a.has o
    · rw [if_pos hh, if_pos (hm.2 hh)]
      obtain ⟨fs, hf, hk⟩ := ok.lg (o, k) (by rw [hl]; exact List.mem_cons_self ..)
      have h1 := h.bring ok hh (k := k) (by rw [RpA.flds_of hf]; exact hk)
      have e : (a.nl l).bring o k = (a.bring o k).nl l := by
        unfold RpA.bring RpA.cset RpA.nl
        have e2 : ∀ v, ({ a with log := l } : RpA).cop v = { a.cop v with log := l } := fun v => by
          by_cases h2 : v.1 = false ∨ a.has v.2.toNat
          · rw [cop_no h2, cop_no (a := { a with log := l }) h2]
          · rw [cop_yes h2, cop_yes (a := { a with log := l }) h2]; rfl
        rw [e2]
        rfl
      rw [e]
      exact ⟨h1.rg, h1.n, h1.ob, h1.row, h1.md, h1.fi, rfl, h1.tm, h1.m⟩
    · rw [if_neg hh, if_neg (fun h2 => hh (hm.1 h2))]
      exact ⟨h.rg, h.n, h.ob, h.row, h.md, h.fi, rfl, h.tm, h.m⟩
  | nil =>
    dsimp only
    rw [h.miss ok]
    cases hms : a.miss with
    | some v => exact h.cop (ok.vr v (miss_some hms).1)
    | none =>
      dsimp only
      unfold RpA.fill
      rw [← h.fi, ← h.md, made_at]
      cases hp : a.cps[a.filled]? with
      | some p =>
        dsimp only [Option.map]
        have hh : a.has p.1 := List.mem_map.2 ⟨p, List.mem_of_getElem? hp, rfl⟩
        obtain ⟨h1, h2⟩ := h.bringN ok hh (a.flds p.1).length (Nat.le_refl _)
        obtain ⟨fs, hf⟩ := ok.has_fld hh
        have hob := h.ob _ fs hf
        rw [RpA.flds_of hf, List.take_of_length_le (by rw [hob]; exact Nat.le_refl _)] at h1
        have e : ∀ n, (a.fl (a.filled + 1)).bringN p.1 n = (a.bringN p.1 n).fl (a.filled + 1) := by
          intro n
          induction n with
          | zero => rfl
          | succ n ih =>
            rw [bringN_succ, bringN_succ, ih]
            unfold RpA.bring RpA.cset RpA.fl
            have e2 : ∀ (b : RpA) v x, ({ b with filled := x } : RpA).cop v = { b.cop v with filled := x } := fun b v x => by
              by_cases h2 : v.1 = false ∨ b.has v.2.toNat
              · rw [cop_no h2, cop_no (a := { b with filled := x }) h2]
              · rw [cop_yes h2, cop_yes (a := { b with filled := x }) h2]; rfl
            rw [e2]
            rfl
        rw [e, RpA.flds_of hf]
        exact ⟨h1.rg, h1.n, h1.ob, h1.row, h1.md, rfl, h1.lg, h1.tm, h1.m⟩
      | none =>
        dsimp only [Option.map]
        refine ⟨h.rg, (flipO_len ..).trans h.n, fun i fs hf => h.ob i fs ((flip_fld ok hl hp i fs).1 hf).2, rfl, rfl, rfl, rfl, by show a.times + 1 = r.times + 1; rw [h.tm], h.m⟩
end Go.Proofs.Ytjphckfbbiehdaa
