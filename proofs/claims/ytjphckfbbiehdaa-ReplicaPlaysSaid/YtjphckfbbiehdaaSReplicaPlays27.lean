/- A memory that is copied, plain: a deed, a script: both tell the same; how it begins. A memory with so many words: where objects stand, as a map in memory. A memory that is copied: a map from objects to their copies' fields, as slices. -/
import Derived.Test.YtjphckfbbiehdaaSReplicaPlays26
import Derived.Maps.OwnOps
import Derived.Maps.OwnSet
import Derived.Test.YtjphckfbbiehdaaSReplicaPlays14
set_option linter.unusedSimpArgs false
set_option linter.unusedVariables false
namespace Go.Proofs.Ytjphckfbbiehdaa
open Go.RowKit
theorem RpSim.err {a : RpA} {r : RqA} (h : RpSim a r) (ok : RpOk a) (x at_ : Int) : rpErr a (rgA a.regs x) at_ = fErr r.σ.objs (rgA r.σ.regs x) at_ := by
  rw [← h.rg]
  unfold rpErr fErr
  by_cases hb : (rgA a.regs x).1 = false
  · rw [if_pos hb, if_pos hb]
  · rw [if_neg hb, if_neg hb]
    obtain ⟨i, fs, e, hf⟩ := RpOkE.rg ok x (by simpa using hb)
    rw [e, h.ob i fs hf, Int.toNat_natCast, hf]
    rfl
theorem RpSim.sr {a : RpA} {r : RqA} (h : RpSim a r) (k : Nat) (v : Val) (hm : MOk ⟨r.σ.regs.set k v, r.σ.objs⟩) : RpSim (a.sr k v) { r with σ := ⟨r.σ.regs.set k v, r.σ.objs⟩ } :=
  ⟨by show a.regs.set k v = r.σ.regs.set k v; rw [h.rg], h.n, h.ob, h.row, h.md, h.fi, h.lg, h.tm, hm⟩
theorem RpSim.step {a : RpA} {r : RqA} (h : RpSim a r) (ok : RpOk a) (d : DoV) : (rpStep d a).1 = (rqStep d r).1 ∧ RpSim (rpStep d a).2 (rqStep d r).2 := by
  unfold rpStep rqStep
  by_cases h8 : d.k = 8
  · rw [if_pos h8, if_pos h8]; exact ⟨rfl, h.work ok⟩
  rw [if_neg h8, if_neg h8]
  unfold rpDo
  by_cases hw : wrongM d ≠ 0
  · have e1 : rWrong d r.σ = wrongM d := by unfold rWrong; rw [if_pos hw]
    have e2 : rqErr d r = wrongM d := by unfold rqErr; rw [e1, if_neg (fun h => hw h.1)]
    rw [if_pos hw, e2, if_pos hw]
    exact ⟨rfl, h⟩
  rw [if_neg hw]
  have hw0 : wrongM d = 0 := by omega
  have hto : d.k ≠ 7 → ∃ q : Nat, d.to = (q : Int) ∧ q < 8 := fun h => by
    have h1 := wrongM_to hw0 h
    obtain ⟨q, e⟩ := int_nat h1.1
    exact ⟨q, e, by omega⟩
  unfold rpKst
  by_cases h1 : d.k = 1
  · rw [if_pos h1]
    obtain ⟨q, er, hr⟩ := hto (by omega)
    have h4 := wrongM_n hw0 h1
    obtain ⟨n, en⟩ := int_nat h4.1
    have e1 : rWrong d r.σ = 0 := by unfold rWrong; rw [if_neg hw, if_neg (by omega), if_neg (by omega)]
    have hsm := stepK_m h.m e1
    unfold rqErr rpNew
    rw [e1, h.row, en, Int.toNat_natCast]
    by_cases hR : 24 ≤ r.row.length
    · have ec : (if (0 : Int) = 0 ∧ d.k = 1 ∧ 24 ≤ r.row.length then (6 : Int) else 0) = 6 := if_pos ⟨rfl, h1, hR⟩
      rw [if_pos hR, ec]
      exact ⟨rfl, h⟩
    · have ec : (if (0 : Int) = 0 ∧ d.k = 1 ∧ 24 ≤ r.row.length then (6 : Int) else 0) = 0 := if_neg (fun h => hR h.2.2)
      rw [if_neg hR, ec, if_neg (fun h => h rfl), if_neg (fun h => h rfl)]
      have hk : stepK d r.σ = (⟨0, false, 0⟩, ⟨r.σ.regs.set q (true, r.σ.objs.length), r.σ.objs ++ [zeroVs n]⟩) := by unfold stepK; rw [if_pos h1, er, en, Int.toNat_natCast, Int.toNat_natCast]
      rw [hk] at hsm
      unfold RqA.do_
      rw [hk, if_pos h1, if_neg (show ¬ d.k = 4 by omega), er, Int.toNat_natCast]
      refine ⟨rfl, ⟨?_, ?_, fun i fs hf => ?_, ?_, h.md, h.fi, h.lg, h.tm, hsm⟩⟩
      · show a.regs.set q _ = r.σ.regs.set q _
        rw [h.rg, h.n]
      · show (a.objs ++ [_]).length = (r.σ.objs ++ [_]).length
        rw [List.length_append, List.length_append, h.n]; rfl
      · show obA (r.σ.objs ++ [zeroVs n]) (i : Int) = fs
        rcases (rpush_fld a n i fs).1 hf with h2 | ⟨rfl, rfl⟩
        · have hl := RpA.fld_lt h2
          rw [← h.ob i fs h2]
          unfold obA
          rw [Int.toNat_natCast, List.getD_eq_getElem?_getD, List.getD_eq_getElem?_getD, List.getElem?_append_left (by rw [← h.n]; exact hl)]
        · unfold obA
          rw [Int.toNat_natCast, h.n, List.getD_eq_getElem?_getD, List.getElem?_append_right (Nat.le_refl _)]; simp
      · show a.row ++ [_] = r.row ++ [_]
        rw [h.row, h.n]
  have e0 : rqErr d r = rWrong d r.σ := by unfold rqErr; rw [if_neg (fun h => h1 h.2.1)]
  rw [if_neg h1, e0]
  by_cases h2 : d.k = 2
  · rw [if_pos h2]
    obtain ⟨q, er, hr⟩ := hto (by omega)
    have e1 : rWrong d r.σ = 0 := by unfold rWrong; rw [if_neg hw, if_neg (by omega), if_neg (by omega)]
    have hsm := stepK_m h.m e1
    have hk : stepK d r.σ = (⟨0, false, 0⟩, ⟨r.σ.regs.set q (false, d.n), r.σ.objs⟩) := by unfold stepK; rw [if_neg h1, if_pos h2, er, Int.toNat_natCast]
    rw [hk] at hsm
    rw [e1, if_neg (by simp)]
    unfold RqA.do_
    rw [hk, if_neg h1, if_neg (show ¬ d.k = 4 by omega), er, Int.toNat_natCast]
    exact ⟨rfl, h.sr q _ hsm⟩
  rw [if_neg h2]
  by_cases h3 : d.k = 3
  · rw [if_pos h3]
    obtain ⟨q, er, hr⟩ := hto (by omega)
    have e1 : rWrong d r.σ = 0 := by unfold rWrong; rw [if_neg hw, if_neg (by omega), if_neg (by omega)]
    have hsm := stepK_m h.m e1
    have hk : stepK d r.σ = (⟨0, false, 0⟩, ⟨r.σ.regs.set q (rgA r.σ.regs d.fr), r.σ.objs⟩) := by unfold stepK; rw [if_neg h1, if_neg h2, if_pos h3, er, Int.toNat_natCast]
    rw [hk] at hsm
    rw [e1, if_neg (by simp)]
    unfold RqA.do_
    rw [hk, if_neg h1, if_neg (show ¬ d.k = 4 by omega), er, Int.toNat_natCast, h.rg]
    exact ⟨rfl, h.sr q _ hsm⟩
  rw [if_neg h3]
  by_cases h5 : d.k = 4
  · rw [if_pos h5]
    have he := h.err ok d.to d.at_
    have e1 : rWrong d r.σ = fErr r.σ.objs (rgA r.σ.regs d.to) d.at_ := by unfold rWrong; rw [if_neg hw, if_pos h5]
    by_cases hz : rpErr a (rgA a.regs d.to) d.at_ ≠ 0
    · rw [if_pos hz, e1, ← he, if_pos hz]
      exact ⟨rfl, h⟩
    · have hz0 : rWrong d r.σ = 0 := by rw [e1, ← he]; omega
      have hsm := stepK_m h.m hz0
      rw [if_neg hz, e1, ← he, if_neg hz]
      obtain ⟨i, k, fs, e, hf, e2, hk⟩ := RpOkE.at_field ok (r := d.to) (at_ := d.at_) (by omega)
      have hob := h.ob i fs hf
      have e' : rgA r.σ.regs d.to = (true, (i : Int)) := by rw [← h.rg]; exact e
      have hks : stepK d r.σ = (⟨0, false, 0⟩, ⟨r.σ.regs, r.σ.objs.set i (fs.set k (rgA r.σ.regs d.fr))⟩) := by
        unfold stepK
        rw [if_neg h1, if_neg h2, if_neg h3, if_pos h5, if_neg (by rw [← he]; exact hz), e', e2]
        dsimp only
        rw [hob, Int.toNat_natCast, Int.toNat_natCast]
      rw [hks] at hsm
      unfold RqA.do_
      rw [hks, if_neg h1, if_pos h5, e, e', e2, Int.toNat_natCast]
      dsimp only
      rw [Int.toNat_natCast]
      refine ⟨rfl, ⟨h.rg, ?_, fun j gs hg => ?_, h.row, h.md, h.fi, ?_, h.tm, hsm⟩⟩
      · show (a.objs.set i _).length = (r.σ.objs.set i _).length
        rw [List.length_set, List.length_set]; exact h.n
      · show obA (r.σ.objs.set i (fs.set k (rgA r.σ.regs d.fr))) (j : Int) = gs
        have hil : i < r.σ.objs.length := by rw [← h.n]; exact RpA.fld_lt hf
        rcases (rput_fld (k := k) _ hf j gs).1 hg with ⟨rfl, rfl⟩ | ⟨hne, h9⟩
        · unfold obA
          rw [Int.toNat_natCast, List.getD_eq_getElem?_getD, List.getElem?_set, if_pos rfl, if_pos hil, h.rg]; rfl
        · rw [← h.ob j gs h9]
          unfold obA
          rw [Int.toNat_natCast, List.getD_eq_getElem?_getD, List.getD_eq_getElem?_getD, List.getElem?_set, if_neg (fun e => hne e.symm)]
      · show a.log ++ _ = r.log ++ _
        rw [h.lg]
  rw [if_neg h5]
  by_cases h6 : d.k = 5
  · rw [if_pos h6]
    have he := h.err ok d.fr d.at_
    have e1 : rWrong d r.σ = fErr r.σ.objs (rgA r.σ.regs d.fr) d.at_ := by unfold rWrong; rw [if_neg hw, if_neg h5, if_pos h6]
    by_cases hz : rpErr a (rgA a.regs d.fr) d.at_ ≠ 0
    · rw [if_pos hz, e1, ← he, if_pos hz]
      exact ⟨rfl, h⟩
    · have hz0 : rWrong d r.σ = 0 := by rw [e1, ← he]; omega
      have hsm := stepK_m h.m hz0
      rw [if_neg hz, e1, ← he, if_neg hz]
      obtain ⟨i, k, fs, e, hf, e2, hk⟩ := RpOkE.at_field ok (r := d.fr) (at_ := d.at_) (by omega)
      obtain ⟨q, er, hr⟩ := hto (by omega)
      have hob := h.ob i fs hf
      have e' : rgA r.σ.regs d.fr = (true, (i : Int)) := by rw [← h.rg]; exact e
      have hks : stepK d r.σ = (⟨0, false, 0⟩, ⟨r.σ.regs.set q (fs.getD k (false, 0)), r.σ.objs⟩) := by
        unfold stepK
        rw [if_neg h1, if_neg h2, if_neg h3, if_neg h5, if_pos h6, if_neg (by rw [← he]; exact hz), e', e2, er]
        dsimp only
        rw [hob, Int.toNat_natCast, Int.toNat_natCast]
      rw [hks] at hsm
      unfold RqA.do_
      rw [hks, if_neg h1, if_neg h5, e, e2, er, Int.toNat_natCast]
      dsimp only
      rw [Int.toNat_natCast, Int.toNat_natCast, hf, Option.getD_some]
      exact ⟨rfl, h.sr q _ hsm⟩
  rw [if_neg h6]
  have e1 : rWrong d r.σ = 0 := by unfold rWrong; rw [if_neg hw, if_neg h5, if_neg h6]
  have ee : ∀ x y : OutV × RqA, (if (0 : Int) ≠ 0 then x else y) = y := fun x y => if_neg (fun h => h rfl)
  rw [e1, ee]
  unfold RqA.do_
  rw [if_neg h1, if_neg h5]
  by_cases h7 : d.k = 6
  · have hks : stepK d r.σ = (⟨0, false, if rgA r.σ.regs d.to = rgA r.σ.regs d.fr then 1 else 0⟩, r.σ) := by
      unfold stepK
      rw [if_neg h1, if_neg h2, if_neg h3, if_neg h5, if_neg h6, if_pos h7]
    rw [if_pos h7, hks]
    exact ⟨by rw [h.rg], h⟩
  · have hks : stepK d r.σ = (⟨0, (rgA r.σ.regs d.fr).1, if (rgA r.σ.regs d.fr).1 = true then (obA r.σ.objs (rgA r.σ.regs d.fr).2).length else (rgA r.σ.regs d.fr).2⟩, r.σ) := by
      unfold stepK
      rw [if_neg h1, if_neg h2, if_neg h3, if_neg h5, if_neg h6, if_neg h7]
    rw [if_neg h7, hks]
    refine ⟨?_, h⟩
    dsimp only
    rw [← h.rg]
    by_cases hb : (rgA a.regs d.fr).1 = true
    · obtain ⟨i, fs, e, hf⟩ := RpOkE.rg ok d.fr hb
      rw [if_pos hb, if_pos hb, e, h.ob i fs hf, Int.toNat_natCast, hf]
      rfl
    · rw [if_neg hb, if_neg hb]
/-! ### Scripts. -/
def rpStp (p : List OutV × RpA) (d : DoV) : List OutV × RpA := (p.1 ++ [(rpStep d p.2).1], (rpStep d p.2).2)
def rqStp (p : List OutV × RqA) (d : DoV) : List OutV × RqA := (p.1 ++ [(rqStep d p.2).1], (rqStep d p.2).2)
def rpRun (ds : List DoV) (a : RpA) : List OutV × RpA := ds.foldl rpStp ([], a)
def rqRun (ds : List DoV) (r : RqA) : List OutV × RqA := ds.foldl rqStp ([], r)
theorem rpRun_at (ds : List DoV) (a : RpA) (k : Nat) (hk : k < ds.length) : rpRun (ds.take (k + 1)) a = ((rpRun (ds.take k) a).1 ++ [(rpStep ds[k] (rpRun (ds.take k) a).2).1], (rpStep ds[k] (rpRun (ds.take k) a).2).2) := by
  unfold rpRun
  rw [List.take_succ_eq_append_getElem hk, List.foldl_append]; rfl
theorem rqRun_at (ds : List DoV) (r : RqA) (k : Nat) (hk : k < ds.length) : rqRun (ds.take (k + 1)) r = ((rqRun (ds.take k) r).1 ++ [(rqStep ds[k] (rqRun (ds.take k) r).2).1], (rqStep ds[k] (rqRun (ds.take k) r).2).2) := by
  unfold rqRun
  rw [List.take_succ_eq_append_getElem hk, List.foldl_append]; rfl
/-- What a script keeps small. -/
theorem rp_small {a : RpA} (ok : RpOk a) (d : DoV) : (rpStep d a).2.log.length ≤ a.log.length + 1 ∧ (rpStep d a).2.times ≤ a.times + 1 := by
  have hb : ∀ n (b : RpA) (o : Nat), (b.bringN o n).log = b.log ∧ (b.bringN o n).times = b.times := by
    intro n
    induction n with
    | zero => exact fun _ _ => ⟨rfl, rfl⟩
    | succ n ih => intro b o; rw [bringN_succ]; exact ⟨(bring_keep _ _ _).2.2.2.2.1.trans (ih b o).1, (bring_keep _ _ _).2.2.2.2.2.trans (ih b o).2⟩
  unfold rpStep
  split
  · unfold RpA.work
    split
    · rename_i p l hl
      split
      · rw [(bring_keep _ _ _).2.2.2.2.1, (bring_keep _ _ _).2.2.2.2.2]
        exact ⟨by show l.length ≤ _; rw [hl, List.length_cons]; omega, Nat.le_succ _⟩
      · exact ⟨by show l.length ≤ _; rw [hl, List.length_cons]; omega, Nat.le_succ _⟩
    · split
      · rw [(cop_keep _ _).2.2.2.2.1, (cop_keep _ _).2.2.2.2.2]; exact ⟨Nat.le_succ _, Nat.le_succ _⟩
      · unfold RpA.fill
        split
        · rw [(hb _ _ _).1, (hb _ _ _).2]; exact ⟨Nat.le_succ _, Nat.le_succ _⟩
        · exact ⟨Nat.zero_le _, Nat.le_refl _⟩
  · unfold rpDo
    split
    · exact ⟨Nat.le_succ _, Nat.le_succ _⟩
    · unfold rpKst rpNew
      split
      · split <;> split <;> exact ⟨Nat.le_succ _, Nat.le_succ _⟩
      split
      · exact ⟨Nat.le_succ _, Nat.le_succ _⟩
      split
      · exact ⟨Nat.le_succ _, Nat.le_succ _⟩
      split
      · split
        · exact ⟨Nat.le_succ _, Nat.le_succ _⟩
        · exact ⟨by show (a.log ++ [_]).length ≤ _; simp, Nat.le_succ _⟩
      split
      · split <;> exact ⟨Nat.le_succ _, Nat.le_succ _⟩
      split <;> exact ⟨Nat.le_succ _, Nat.le_succ _⟩
theorem rp_run (ds : List DoV) {a : RpA} {r : RqA} (h : RpSim a r) (ok : RpOk a) : ∀ k, k ≤ ds.length → (rpRun (ds.take k) a).1 = (rqRun (ds.take k) r).1 ∧ RpSim (rpRun (ds.take k) a).2 (rqRun (ds.take k) r).2 ∧ RpOk (rpRun (ds.take k) a).2 ∧ (rpRun (ds.take k) a).2.objs.length ≤ a.objs.length + k ∧ (rpRun (ds.take k) a).1.length = k ∧ (rpRun (ds.take k) a).2.log.length ≤ a.log.length + k ∧ (rpRun (ds.take k) a).2.times ≤ a.times + k := by
  intro k
  induction k with
  | zero => exact fun _ => ⟨rfl, h, ok, Nat.le_refl _, rfl, Nat.le_refl _, Nat.le_refl _⟩
  | succ k ih =>
    intro hk
    obtain ⟨h1, h2, h3, h4, h5, h6, h7⟩ := ih (by omega)
    rw [rpRun_at ds a k (by omega), rqRun_at ds r k (by omega)]
    obtain ⟨s1, s2⟩ := h2.step h3 (ds[k]'(by omega))
    obtain ⟨o1, o2⟩ := h3.step (ds[k]'(by omega))
    obtain ⟨m1, m2⟩ := rp_small h3 (ds[k]'(by omega))
    exact ⟨by dsimp only; rw [h1, s1], s2, o1, by dsimp only; omega, by dsimp only; rw [List.length_append, h5]; rfl, by dsimp only; omega, by dsimp only; omega⟩
/-! ### How it begins. -/
def rangeI (n : Nat) : List Int := (List.range n).map fun (k : Nat) => (k : Int)
def rp0 (σ : MSt) : RpA := ⟨σ.regs, σ.objs.map some, rangeI σ.objs.length, [], 0, [], 0⟩
def rq0 (σ : MSt) : RqA := ⟨σ, rangeI σ.objs.length, [], 0, [], 0⟩
theorem thereL_all {α : Type} (l : List α) : thereL (l.map some) = rangeI l.length := by
  unfold thereL thereK rangeI
  rw [List.length_map]
  congr 1
  refine List.filter_eq_self.2 fun k hk => ?_
  rw [List.getD_eq_getElem?_getD, List.getElem?_map, List.getElem?_eq_getElem (List.mem_range.1 hk)]; rfl
theorem rp0_fld (σ : MSt) (i : Nat) (fs : List Val) : (rp0 σ).fld i = some fs ↔ σ.objs[i]? = some fs := by
  rw [RpA.fld_iff]
  show (σ.objs.map some)[i]? = _ ↔ _
  rw [List.getElem?_map]
  cases σ.objs[i]? <;> simp
theorem rp0_ok {σ : MSt} (hM : MOk σ) (hn : σ.objs.length ≤ 24) : RpOk (rp0 σ) ∧ RpSim (rp0 σ) (rq0 σ) := by
  have hF := rp0_fld σ
  have hv : ∀ l : List Val, ValsOk σ.objs.length l → ∀ v ∈ l, (rp0 σ).vok v := fun l hl v hv hb => by
    obtain ⟨h1, h2⟩ := hl v hv hb
    obtain ⟨i, e⟩ := int_nat h1
    have hi : i < σ.objs.length := by omega
    exact ⟨i, σ.objs[i], e, (hF i _).2 (List.getElem?_eq_getElem hi)⟩
  refine ⟨⟨hM.r8, hv _ hM.vr, fun i fs h v hvm => hv fs (hM.vo fs (List.mem_of_getElem? ((hF i fs).1 h))) v hvm, fun i fs h => hM.f4 fs (List.mem_of_getElem? ((hF i fs).1 h)), fun x => ?_, ?_, List.Pairwise.nil, fun p hp => (by cases hp), Nat.le_refl _, fun p hp => (by cases hp), fun k p hk => absurd hk (by show ¬ k < 0; omega)⟩, ⟨rfl, List.length_map .., fun i fs h => ?_, rfl, rfl, rfl, rfl, rfl, hM⟩⟩
  · show x ∈ rangeI _ ↔ _
    unfold rangeI
    rw [List.mem_map]
    constructor
    · rintro ⟨k, hk, rfl⟩
      have hk' := List.mem_range.1 hk
      exact ⟨k, σ.objs[k], rfl, (hF k _).2 (List.getElem?_eq_getElem hk')⟩
    · rintro ⟨k, fs, rfl, h⟩
      exact ⟨k, List.mem_range.2 (List.getElem?_eq_some_iff.1 ((hF k fs).1 h)).1, rfl⟩
  · show (rangeI _).length ≤ 24
    unfold rangeI
    rw [List.length_map, List.length_range]; exact hn
  · have h1 := (hF i fs).1 h
    show obA σ.objs (i : Int) = fs
    unfold obA
    rw [Int.toNat_natCast, List.getD_eq_getElem?_getD, h1]; rfl
end Go.Proofs.Ytjphckfbbiehdaa

namespace Go.Proofs.Ytjphckfbbiehdaa
open Go.RowKit Go.Maps
theorem lit_ne {x y : Int} (h : x ≠ y) : (Lit.int .i64 x) ≠ .int .i64 y := fun e => by injection e with _ e; exact h e
def wfI (x : Int) : Prop := (Lit.int .i64 x).wf = true
end Go.Proofs.Ytjphckfbbiehdaa

namespace Go.Proofs.Ytjphckfbbiehdaa
open Go.RowKit Go.Maps
def slV (g n : Nat) : Value := .slice (some ⟨g, 0, none⟩) n n
def slD (g n : Nat) : DataW Unit := .agg [.lit (.int .i64 (g : Int)), .lit (.int .i64 (n : Int))]
def slZ : DataW Unit := .agg []
def slE : Value → Option (DataW Unit × List MemPlace)
  | .slice none 0 0 => some (slZ, [])
  | .slice (some a) n c => if a = ⟨a.block, 0, none⟩ ∧ n = c then some (slD a.block n, []) else none
  | _ => none
theorem slE_mk (g n : Nat) : slE (slV g n) = some (slD g n, []) := by
  show (if (⟨g, 0, none⟩ : Addr) = ⟨g, 0, none⟩ ∧ n = n then _ else _) = _
  rw [if_pos ⟨rfl, rfl⟩]
theorem slE_nil : slE (.slice none 0 0) = some (slZ, []) := rfl
theorem slE_inv {v : Value} {g n : Nat} {ps : List MemPlace} (h : slE v = some (slD g n, ps)) : v = slV g n := by
  unfold slE at h
  split at h
  · injection h with h; injection h with h1 _; cases h1
  · rename_i a n' c
    split at h
    · rename_i hc
      injection h with h
      injection h with h1 _
      unfold slD at h1
      injection h1 with h1
      injection h1 with h2 h3
      injection h3 with h3 _
      injection h2 with h2; injection h2 with _ h2
      injection h3 with h3; injection h3 with _ h3
      have e1 : a.block = g := by omega
      have e2 : n' = n := by omega
      unfold slV
      rw [hc.1, e1, ← hc.2, e2]
    · cases h
  · cases h
theorem slE_inv0 {v : Value} {ps : List MemPlace} (h : slE v = some (slZ, ps)) : v = .slice none 0 0 := by
  unfold slE at h
  split at h
  · rfl
  · split at h
    · injection h with h; injection h with h1 _; cases h1
    · cases h
  · cases h
theorem zeroSl (w : World) : (zeroValue 25).run Try.prog w = .ok (.slice none 0 0) w := by kernel_rfl
structure Cp where
  i : Nat
  g : Nat
  fs : List Val
def mkC (l : List Cp) : DataW Unit := l.foldl (fun D c => D.put (.int .i64 (c.i : Int)) (slD c.g c.fs.length)) (.map [])
theorem mkC_snoc (l : List Cp) (c : Cp) : mkC (l ++ [c]) = (mkC l).put (.int .i64 (c.i : Int)) (slD c.g c.fs.length) := by simp [mkC]
theorem mkC_tidy (l : List Cp) : Maps.Tidy (mkC l) := by
  have key : ∀ (l : List Cp) (D : DataW Unit), Maps.Tidy D → Maps.Tidy (l.foldl (fun D c => D.put (.int .i64 (c.i : Int)) (slD c.g c.fs.length)) D) := by
    intro l
    induction l with
    | nil => exact fun _ h => h
    | cons a l ih => exact fun D h => ih _ (h.put (k := Lit.int .i64 (a.i : Int)) trivial _)
  exact key l _ Maps.tidy_empty
theorem snocI {α : Type} {P : List α → Prop} (h0 : P []) (h1 : ∀ l x, P l → P (l ++ [x])) (l : List α) : P l := by
  have key : ∀ r : List α, P r.reverse := by
    intro r
    induction r with
    | nil => exact h0
    | cons a r ih => rw [List.reverse_cons]; exact h1 _ _ ih
  have := key l.reverse
  rwa [List.reverse_reverse] at this
theorem mkC_at : ∀ (l : List Cp), (l.map fun c => c.i).Nodup → ∀ c ∈ l, ∀ z, (mkC l).atKey (.int .i64 (c.i : Int)) z = slD c.g c.fs.length := by
  intro l
  induction l using snocI with
  | h0 => intro _ c hc; cases hc
  | h1 l x ih =>
    intro hn c hc z
    rw [List.map_append] at hn
    obtain ⟨n1, _, n3⟩ := List.nodup_append.1 hn
    rw [mkC_snoc]
    rcases List.mem_append.1 hc with h | h
    · have hne : (c.i : Int) ≠ (x.i : Int) := fun e => n3 c.i (List.mem_map.2 ⟨c, h, rfl⟩) x.i (by simp) (by omega)
      rw [atKey_put_other (lit_ne hne)]
      exact ih n1 c h z
    · rw [List.mem_singleton.1 h]
      exact atKey_put_same (k := Lit.int .i64 (x.i : Int)) (mkC_tidy l).isMap trivial _ _
theorem mkC_not : ∀ (l : List Cp) (y : Nat), y ∉ (l.map fun c => c.i) → ∀ z, (mkC l).atKey (.int .i64 (y : Int)) z = z := by
  intro l
  induction l using snocI with
  | h0 => intro y _ z; rfl
  | h1 l x ih =>
    intro y hy z
    rw [List.map_append, List.mem_append] at hy
    have hne : (y : Int) ≠ (x.i : Int) := fun e => hy (.inr (by simp; omega))
    rw [mkC_snoc, atKey_put_other (lit_ne hne)]
    exact ih y (fun h => hy (.inl h)) z
theorem mkC_has : ∀ (l : List Cp) (y : Nat), Maps.has (mkC l) (.int .i64 (y : Int)) = decide (y ∈ (l.map fun c => c.i)) := by
  intro l
  induction l using snocI with
  | h0 => intro y; rfl
  | h1 l x ih =>
    intro y
    rw [mkC_snoc]
    by_cases e : y = x.i
    · subst e
      rw [has_put_same (k := Lit.int .i64 (x.i : Int)) (mkC_tidy l).isMap trivial]; simp
    · have hne : (y : Int) ≠ (x.i : Int) := fun h => e (by omega)
      rw [has_put_other (lit_ne hne), ih, List.map_append]
      refine decide_eq_decide.2 ?_
      simp [e]
/-- Such a map, of the call's own. -/
def cpD (b N : Nat) (D : DataW Unit) : Item where
  fp k := k = b
  P w := w.ownsMap Try.prog 3 slE b N D
  dom w h k hk := by subst hk; exact World.ownsMap.lt h
  loc w w' _ hk h := by obtain ⟨es, clock, hb, r⟩ := h; exact ⟨es, clock, (hk b rfl).trans hb, r⟩
def cpI (b N : Nat) (l : List Cp) : Item := cpD b N (mkC l)
set_option maxRecDepth 100000 in
theorem cp_look {w : World} {b N : Nat} {l : List Cp} (h : (cpI b N l).P w) (hn : (l.map fun c => c.i).Nodup) (y : Nat) (hy : wfI (y : Int)) :
    (∀ c ∈ l, c.i = y → (Instr.lookup 187 (.map (some b)) (.int .i64 (y : Int)) true).run Try.prog w = .ok (.tuple #[slV c.g c.fs.length, .bool true]) w) ∧
    (y ∉ (l.map fun c => c.i) → (Instr.lookup 187 (.map (some b)) (.int .i64 (y : Int)) true).run Try.prog w = .ok (.tuple #[.slice none 0 0, .bool false]) w) ∧
    (∀ c ∈ l, c.i = y → (Instr.lookup 187 (.map (some b)) (.int .i64 (y : Int)) false).run Try.prog w = .ok (slV c.g c.fs.length) w) := by
  have hown : w.ownsMap Try.prog 3 slE b N (mkC l) := h
  obtain ⟨v, ps, hrun, hv⟩ := hown.look_ok (int_keyed Try.underlying3) Try.underlying187 (zeroSl w) slE_nil (keyOf_int_mk Try.underlying3 hy)
  obtain ⟨v2, ps2, hrun2, hv2⟩ := hown.lookup (int_keyed Try.underlying3) Try.underlying187 (zeroSl w) slE_nil (keyOf_int_mk Try.underlying3 hy)
  rw [mkC_has] at hrun
  refine ⟨fun c hc e => ?_, fun hno => ?_, fun c hc e => ?_⟩
  · subst e
    rw [mkC_at l hn c hc] at hv
    rw [slE_inv hv, decide_eq_true (List.mem_map.2 ⟨c, hc, rfl⟩)] at hrun
    exact hrun
  · rw [mkC_not l y hno] at hv
    rw [slE_inv0 hv, decide_eq_false hno] at hrun
    exact hrun
  · subst e
    rw [mkC_at l hn c hc] at hv2
    rw [slE_inv hv2] at hrun2
    exact hrun2
set_option maxRecDepth 100000 in
theorem Sep.cpPut {F : Nat → Prop} {W w : World} {items : List Item} (hS : Sep F W w items) (k : Nat) {b N : Nat} {l : List Cp} (hk : items[k]? = some (cpI b N l)) (hn : N + 1 < maxLen) (c : Cp) (hy : wfI (c.i : Int)) :
    ∃ w', (Instr.mapUpdate 187 (.map (some b)) (.int .i64 (c.i : Int)) (slV c.g c.fs.length)).run Try.prog w = .ok () w' ∧ Sep F W w' (items.set k (cpI b (N + 1) (l ++ [c]))) ∧ Chg (fun g => g = b) w w' := by
  have hown : w.ownsMap Try.prog 3 slE b N (mkC l) := hS.get k hk
  obtain ⟨w', hrun, r1, r2⟩ := hown.update (int_keyed Try.underlying3) Try.underlying187 (by omega) (keyOf_int_mk Try.underlying3 hy) (slE_mk c.g c.fs.length)
  have hc : Chg (fun g => g = b) w w' := (Chg.of_grown r2).mono (fun g hx => .inl (by injection hx with hx; exact hx.symm))
  rw [← mkC_snoc] at r1
  exact ⟨w', hrun, hS.step k hk hc (cpI b (N + 1) (l ++ [c])) r1 (fun g hg => .inl hg), hc⟩
theorem cp_setlen (l : List Cp) (j : Nat) (c : Cp) (h : ∀ d, l[j]? = some d → d.i = c.i ∧ d.g = c.g ∧ d.fs.length = c.fs.length) : mkC (l.set j c) = mkC l := by
  unfold mkC
  have gen : ∀ (l : List Cp) (j : Nat) (D : DataW Unit), (∀ d, l[j]? = some d → d.i = c.i ∧ d.g = c.g ∧ d.fs.length = c.fs.length) → (l.set j c).foldl (fun D c => D.put (.int .i64 (c.i : Int)) (slD c.g c.fs.length)) D = l.foldl (fun D c => D.put (.int .i64 (c.i : Int)) (slD c.g c.fs.length)) D := by
    intro l
    induction l with
    | nil => intro j D _; rfl
    | cons d l ih =>
      intro j D hd
      cases j with
      | zero =>
        obtain ⟨e1, e2, e3⟩ := hd d rfl
        rw [List.set_cons_zero, List.foldl_cons, List.foldl_cons, e1, e2, e3]
      | succ j =>
        rw [List.set_cons_succ, List.foldl_cons, List.foldl_cons]
        exact ih j _ (fun x hx => hd x hx)
  exact gen l j _ h
/-- A new map. -/
theorem Sep.cpNew {F : Nat → Prop} {W w : World} {items : List Item} (hS : Sep F W w items) {g : Nat} (hg : w.heap.size = g) : Sep F W (w.alloc (.map #[] 0)) (items ++ [cpI g 0 []]) := by
  subst hg
  exact hS.snocNew ((Below.refl _ w).alloc (Nat.le_refl _) _) (cpI w.heap.size 0 []) (World.ownsMap_made _ _ _ _) (fun g hg => by rw [show g = w.heap.size from hg]; exact Nat.le_refl _)
end Go.Proofs.Ytjphckfbbiehdaa
