/- hazard: the model by itself: what stays as it is, and how much there can be. -/
import Derived.Test.YtpbafmdebflbpaaHazE
namespace Go.Proofs.Ytpbafmdebflbpaa

abbrev Deed := Int × Int × Int
def HM.start (n : Nat) : HM := { gone := List.replicate 100 false, freed := [], ths := List.replicate n (-1, []) }
def HM.at (m : HM) (l : List Deed) : Nat → List Int × HM
  | 0 => ([], m)
  | k + 1 => ((HM.at m l k).1 ++ [((HM.at m l k).2.does (l.getD k (0, 0, 0)).1 (l.getD k (0, 0, 0)).2.1 (l.getD k (0, 0, 0)).2.2 k).1],
      ((HM.at m l k).2.does (l.getD k (0, 0, 0)).1 (l.getD k (0, 0, 0)).2.1 (l.getD k (0, 0, 0)).2.2 k).2)

def wsum (l : List (Int × List Int)) : Nat := (l.map fun t => t.2.length).sum
def HM.size (m : HM) : Nat := m.freed.length + wsum m.ths

theorem wsum_modify (l : List (Int × List Int)) (j : Nat) (f : Int × List Int → Int × List Int) (t : Int × List Int) (hj : l[j]? = some t) : wsum (l.modify j f) + t.2.length = wsum l + (f t).2.length := by
  unfold wsum
  induction l generalizing j with
  | nil => simp at hj
  | cons a l ih =>
    cases j with
    | zero => simp at hj; subst hj; simp; omega
    | succ j =>
      have := ih j (by simpa using hj)
      simp at this ⊢
      omega
theorem wsum_modify_none (l : List (Int × List Int)) (j : Nat) (f : Int × List Int → Int × List Int) (hj : l[j]? = none) : l.modify j f = l := by
  apply List.ext_getElem?
  intro i
  rw [List.getElem?_modify]
  by_cases h : j = i
  · subst h; simp [hj]
  · simp [h]
theorem filter_two (l : List Int) (p : Int → Bool) : (l.filter p).length + (l.filter fun x => !p x).length = l.length := by
  induction l with
  | nil => rfl
  | cons a l ih => by_cases h : p a = true <;> simp [h] <;> omega

theorem HM.does_keeps (m : HM) (k who it b : Int) : (m.does k who it b).2.gone.length = m.gone.length ∧ (m.does k who it b).2.ths.length = m.ths.length := by
  unfold HM.does HM.upd
  repeat' split
  all_goals simp
theorem HM.does_size (m : HM) (k who it b : Int) : (m.does k who it b).2.size ≤ m.size + 1 := by
  unfold HM.does HM.upd HM.size
  repeat' split
  all_goals dsimp only
  · omega
  · omega
  · omega
  all_goals
    cases hj : m.ths[who.toNat]? with
    | none => rw [wsum_modify_none _ _ _ hj]; simp
    | some t => first
      | (have := wsum_modify m.ths who.toNat (fun t => (it, t.2)) t hj; simp at this ⊢; omega)
      | (have := wsum_modify m.ths who.toNat (fun t => (-1, t.2)) t hj; simp at this ⊢; omega)
      | (have := wsum_modify m.ths who.toNat (fun t => (t.1, t.2 ++ [it])) t hj; simp at this ⊢; omega)
      | (have := wsum_modify m.ths who.toNat (fun t => (t.1, t.2.filter m.guarded)) t hj; have h2 := filter_two t.2 m.guarded; simp at this ⊢; omega)

theorem HM.at_ok (N : Nat) (l : List Deed) (k : Nat) : (HM.at (HM.start N) l k).2.gone.length = 100 ∧ (HM.at (HM.start N) l k).2.ths.length = N ∧ (HM.at (HM.start N) l k).2.size ≤ k ∧ (HM.at (HM.start N) l k).1.length = k := by
  induction k with
  | zero =>
    refine ⟨by simp [HM.at, HM.start], by simp [HM.at, HM.start], ?_, rfl⟩
    have h : ∀ n : Nat, wsum (List.replicate n (-1, [])) = 0 := fun n => by simp [wsum]
    simp [HM.at, HM.start, HM.size, h]
  | succ k ih =>
    obtain ⟨h1, h2, h3, h4⟩ := ih
    have h5 := HM.does_keeps (HM.at (HM.start N) l k).2 (l.getD k (0, 0, 0)).1 (l.getD k (0, 0, 0)).2.1 (l.getD k (0, 0, 0)).2.2 k
    have h6 := HM.does_size (HM.at (HM.start N) l k).2 (l.getD k (0, 0, 0)).1 (l.getD k (0, 0, 0)).2.1 (l.getD k (0, 0, 0)).2.2 k
    exact ⟨h5.1.trans h1, h5.2.trans h2, by show (HM.does _ _ _ _ _).2.size ≤ k + 1; omega, by simp [HM.at, h4]⟩
theorem mem_wsum (l : List (Int × List Int)) (t : Int × List Int) (h : t ∈ l) : t.2.length ≤ wsum l := by
  unfold wsum
  induction l with
  | nil => simp at h
  | cons a l ih =>
    rcases List.mem_cons.1 h with rfl | h1
    · simp
    · have := ih h1; simp at this ⊢; omega
end Go.Proofs.Ytpbafmdebflbpaa
