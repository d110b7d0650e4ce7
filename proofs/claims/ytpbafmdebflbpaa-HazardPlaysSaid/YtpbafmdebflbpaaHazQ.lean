/- hazard: the plain law: the program's model and the reference's tell the same. No Go here. -/
import Derived.Test.YtpbafmdebflbpaaHazR
namespace Go.Proofs.Ytpbafmdebflbpaa

def thOf (r : RM) (j : Nat) (g : Int) : Int × List Int := (g - 1, (r.waits.filter fun x => x.2 == Int.ofNat j).map Prod.fst)
structure Sim (h : HM) (r : RM) : Prop where
  ths : ∀ j : Nat, h.ths[j]? = r.guards[j]?.map (thOf r j)
  len : h.gone.length = 100
  gone : ∀ i : Nat, i < 100 → h.gone[i]?.getD false = decide ((i : Int) ∈ r.gone)
  freed : h.freed = r.freed

theorem Sim.lens {h : HM} {r : RM} (s : Sim h r) : h.ths.length = r.guards.length := by
  have h1 := s.ths h.ths.length
  have h2 := s.ths r.guards.length
  rw [List.getElem?_eq_none (Nat.le_refl _)] at h1 h2
  rcases Nat.lt_trichotomy h.ths.length r.guards.length with h3 | h3 | h3
  · rw [List.getElem?_eq_getElem h3] at h1; cases h1
  · exact h3
  · rw [List.getElem?_eq_getElem h3] at h2; cases h2

theorem Sim.guarded {h : HM} {r : RM} (s : Sim h r) (x : Int) : h.guarded x = decide (x + 1 ∈ r.guards) := by
  rw [Bool.eq_iff_iff]
  simp only [HM.guarded, List.any_eq_true, beq_iff_eq, decide_eq_true_eq]
  constructor
  · rintro ⟨t, ht, rfl⟩
    obtain ⟨j, hj⟩ := List.mem_iff_getElem?.1 ht
    rw [s.ths j] at hj
    cases hg : r.guards[j]? with
    | none => rw [hg] at hj; cases hj
    | some g =>
      rw [hg] at hj
      simp only [Option.map_some, Option.some.injEq, thOf] at hj
      subst hj
      rw [show g - 1 + 1 = g from by omega]
      exact List.mem_of_getElem? hg
  · intro hx
    obtain ⟨j, hj⟩ := List.mem_iff_getElem?.1 hx
    have := s.ths j
    rw [hj] at this
    exact ⟨_, List.mem_of_getElem? this, by simp [thOf]⟩

theorem map_filter_fst (l : List (Int × Int)) (j : Int) (p : Int → Bool) : ((l.filter fun x => x.2 == j).map Prod.fst).filter p = (l.filter fun x => x.2 == j && p x.1).map Prod.fst := by
  rw [List.filter_map, List.filter_filter]
  congr 1
  apply List.filter_congr
  intro x _
  simp only [Function.comp_def]
  rw [Bool.and_comm]

theorem Sim.step {h : HM} {r : RM} (s : Sim h r) (k who it b : Int) : (h.does k who it b).1 = (r.does k who it b).1 ∧ Sim (h.does k who it b).2 (r.does k who it b).2 := by
  have hl := s.lens
  unfold HM.does RM.does
  by_cases h1 : k < 1 ∨ 4 < k
  · rw [if_pos h1, if_pos h1]; exact ⟨rfl, s⟩
  rw [if_neg h1, if_neg h1, hl]
  by_cases h2 : who < 0 ∨ (r.guards.length : Int) ≤ who ∨ ((k = 1 ∨ k = 3) ∧ (it < 0 ∨ 100 ≤ it))
  · rw [if_pos h2, if_pos h2]; exact ⟨rfl, s⟩
  rw [if_neg h2, if_neg h2]
  obtain ⟨j, rfl⟩ := Int.eq_ofNat_of_zero_le (show 0 ≤ who by omega)
  have hj : j < r.guards.length := by omega
  have hc : ((k = 1 ∨ k = 3) ∧ h.gone[it.toNat]?.getD false = true) ↔ ((k = 1 ∨ k = 3) ∧ it ∈ r.gone) := by
    constructor
    · rintro ⟨ha, hb⟩
      have h0 : 0 ≤ it ∧ it < 100 := by omega
      rw [s.gone it.toNat (by omega)] at hb
      exact ⟨ha, by have := of_decide_eq_true hb; rwa [show ((it.toNat : Nat) : Int) = it from by omega] at this⟩
    · rintro ⟨ha, hb⟩
      have h0 : 0 ≤ it ∧ it < 100 := by omega
      refine ⟨ha, ?_⟩
      rw [s.gone it.toNat (by omega)]
      exact decide_eq_true (by rwa [show ((it.toNat : Nat) : Int) = it from by omega])
  by_cases h3 : (k = 1 ∨ k = 3) ∧ it ∈ r.gone
  · rw [if_pos (hc.2 h3), if_pos h3]; exact ⟨rfl, s⟩
  rw [if_neg (fun hx => h3 (hc.1 hx)), if_neg h3]
  simp only [Int.toNat_natCast]
  by_cases k1 : k = 1
  · rw [if_pos k1, if_pos k1]
    refine ⟨rfl, ⟨fun i => ?_, s.len, s.gone, s.freed⟩⟩
    simp only [HM.upd]
    rw [List.getElem?_modify, s.ths i, List.getElem?_set]
    by_cases hij : j = i
    · subst hij
      simp [hj, thOf]
    · cases hg : r.guards[i]? <;> simp [hij, thOf]
  rw [if_neg k1, if_neg k1]
  by_cases k2 : k = 2
  · rw [if_pos k2, if_pos k2]
    refine ⟨rfl, ⟨fun i => ?_, s.len, s.gone, s.freed⟩⟩
    simp only [HM.upd]
    rw [List.getElem?_modify, s.ths i, List.getElem?_set]
    by_cases hij : j = i
    · subst hij
      simp [hj, thOf]
    · cases hg : r.guards[i]? <;> simp [hij, thOf]
  rw [if_neg k2, if_neg k2]
  by_cases k3 : k = 3
  · rw [if_pos k3, if_pos k3]
    refine ⟨rfl, ⟨fun i => ?_, by simp [s.len], fun i hi => ?_, s.freed⟩⟩
    · simp only [HM.upd]
      rw [List.getElem?_modify, s.ths i]
      by_cases hij : j = i
      · subst hij
        simp [hj, thOf, List.filter_append]
      · have : ((j : Int) == (i : Int)) = false := by simp; omega
        cases hg : r.guards[i]? <;> simp [hij, thOf, List.filter_append, this]
    · simp only []
      rw [List.getElem?_set]
      have hlen := s.len
      by_cases hii : it.toNat = i
      · subst hii
        rw [if_pos rfl, if_pos (by omega)]
        simp only [Option.getD_some]
        exact (decide_eq_true (by rw [show ((it.toNat : Nat) : Int) = it from by omega]; simp)).symm
      · rw [if_neg hii, s.gone i hi]
        have : (i : Int) ≠ it := by omega
        simp [this]
  rw [if_neg k3, if_neg k3]
  refine ⟨rfl, ⟨fun i => ?_, s.len, s.gone, ?_⟩⟩
  · simp only [HM.upd]
    rw [List.getElem?_modify, s.ths i]
    by_cases hij : j = i
    · subst hij
      rw [List.getElem?_eq_getElem hj]
      simp only [Option.map_some, thOf, Option.some.injEq, Prod.mk.injEq, true_and, RM.scanLeft, Option.map_eq_map, if_true]
      rw [map_filter_fst, List.filter_filter]
      congr 1
      apply List.filter_congr
      intro x _
      rw [s.guarded]
      cases h5 : (x.2 == Int.ofNat j) <;> simp
    · cases r.guards[i]? with
      | none => rfl
      | some g =>
        simp only [Option.map_some, Option.map_eq_map, hij, if_false, thOf, Option.some.injEq, Prod.mk.injEq, true_and, RM.scanLeft]
        rw [List.filter_filter]
        congr 1
        apply List.filter_congr
        intro x _
        cases h5 : (x.2 == Int.ofNat i)
        · simp
        · have h6 : (x.2 == (j : Int)) = false := by simp at h5 ⊢; omega
          simp [h6]
  · rw [s.freed, s.ths j, List.getElem?_eq_getElem hj]
    simp only [Option.map_some, Option.getD_some, thOf, RM.scanFreed]
    congr 1
    rw [map_filter_fst, List.map_map]
    congr 1
    apply List.filter_congr
    intro x _
    rw [s.guarded]
    rfl

theorem Sim.at (N : Nat) (l : List Deed) (k : Nat) : (HM.at (HM.start N) l k).1 = (RM.at (RM.start N) l k).1 ∧ Sim (HM.at (HM.start N) l k).2 (RM.at (RM.start N) l k).2 := by
  induction k with
  | zero =>
    refine ⟨rfl, ⟨fun j => ?_, by simp [HM.at, HM.start], fun i hi => ?_, rfl⟩⟩
    · simp only [HM.at, HM.start, RM.at, RM.start, List.getElem?_replicate]
      by_cases h : j < N <;> simp [h, thOf]
    · have h9 : ∀ n : Nat, i < n → (List.replicate n false)[i]?.getD false = false := fun n hn => by rw [List.getElem?_replicate, if_pos hn]; rfl
      simp only [HM.at, HM.start, RM.at, RM.start]
      rw [h9 100 hi]; rfl
  | succ k ih =>
    obtain ⟨h1, h2⟩ := ih
    have h3 := h2.step (l.getD k (0, 0, 0)).1 (l.getD k (0, 0, 0)).2.1 (l.getD k (0, 0, 0)).2.2 k
    exact ⟨by simp only [HM.at, RM.at, h1, h3.1], h3.2⟩

theorem Sim.waits {h : HM} {r : RM} (s : Sim h r) : h.ths.flatMap Prod.snd = (List.range r.guards.length).flatMap fun t => (r.waits.filter fun x => x.2 == Int.ofNat t).map Prod.fst := by
  have e : h.ths = (List.range r.guards.length).map fun j => thOf r j (r.guards.getD j 0) := by
    apply List.ext_getElem?
    intro i
    rw [s.ths i, List.getElem?_map]
    by_cases hi : i < r.guards.length
    · rw [List.getElem?_eq_getElem hi, List.getElem?_eq_getElem (by simpa using hi)]
      simp [hi]
    · rw [List.getElem?_eq_none (by omega), List.getElem?_eq_none (by simp; omega)]
      rfl
  rw [e, List.flatMap_map]
  rfl
end Go.Proofs.Ytpbafmdebflbpaa
