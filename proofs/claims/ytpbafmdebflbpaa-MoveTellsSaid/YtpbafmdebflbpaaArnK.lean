/- arena: what an arena that may be has: places that rise, references that go to places. -/
import Derived.Test.YtpbafmdebflbpaaArnJ
import Derived.Test.YtpbafmdebflbpaaGrE
namespace Go.Proofs.Ytpbafmdebflbpaa
open Go.RowKit

theorem parse_low (f : Nat) : ∀ (ws : List Int) (a : Nat) (p : Nat × Nat), p ∈ (parse f ws a).1 → a ≤ p.1 := by
  induction f with
  | zero => intro ws a p h; simp [parse] at h
  | succ f ih =>
    intro ws a p h
    unfold parse at h
    split at h
    · split at h
      · rcases List.mem_cons.1 h with rfl | h3
        · exact Nat.le_refl _
        · have := ih ws _ p h3
          omega
      · simp at h
    · simp at h
theorem parse_rise (f : Nat) : ∀ (ws : List Int) (a : Nat), (parse f ws a).1.Pairwise fun p q => p.1 < q.1 := by
  induction f with
  | zero => intro ws a; simp [parse]
  | succ f ih =>
    intro ws a
    unfold parse
    split
    · split
      · refine List.Pairwise.cons (fun q hq => ?_) (ih ws _)
        have := parse_low _ _ _ _ hq
        dsimp only
        omega
      · simp
    · simp
theorem places_rise (nW : Nat) (ws : List Int) (i j : Nat) (x y : Int) (hij : i < j) (hi : (placesOf (parse nW ws 0).1)[i]? = some x) (hj : (placesOf (parse nW ws 0).1)[j]? = some y) : x < y := by
  have h : (placesOf (parse nW ws 0).1).Pairwise (· < ·) := by
    unfold placesOf
    rw [List.pairwise_map]
    exact (parse_rise nW ws 0).imp (fun h => by omega)
  obtain ⟨hi1, rfl⟩ := List.getElem?_eq_some_iff.1 hi
  obtain ⟨hj1, rfl⟩ := List.getElem?_eq_some_iff.1 hj
  exact List.pairwise_iff_getElem.1 h i j hi1 hj1 hij

/-- The number of the object that begins at a place. -/
def ixOf (l : List (Nat × Nat)) (x : Int) : Nat := l.findIdx fun p => (p.1 : Int) == x
theorem ixOf_of_any {l : List (Nat × Nat)} {x : Int} (h : l.any (fun p => (p.1 : Int) == x) = true) : ixOf l x < l.length ∧ (placesOf l)[ixOf l x]? = some x := by
  obtain ⟨p, hp, hpx⟩ := List.any_eq_true.1 h
  have hlt : ixOf l x < l.length := List.findIdx_lt_length_of_exists ⟨p, hp, hpx⟩
  refine ⟨hlt, ?_⟩
  have h2 : ((l[ixOf l x].1 : Int) == x) = true := List.findIdx_getElem (w := hlt)
  unfold placesOf
  rw [List.getElem?_map, List.getElem?_eq_getElem hlt]
  simpa using h2
/-- Words that may be. -/
structure GoodWs (l : List (Nat × Nat)) (xs : List Int) : Prop where
  e : ∀ x ∈ xs, unE x = 0
  ix : ∀ x ∈ xs, unR x = true → ixOf l (unA x) < l.length ∧ (placesOf l)[ixOf l (unA x)]? = some (unA x)
theorem GoodWs.sub {l : List (Nat × Nat)} {xs ys : List Int} (h : GoodWs l xs) (hs : ∀ x ∈ ys, x ∈ xs) : GoodWs l ys := ⟨fun x hx => h.e x (hs x hx), fun x hx => h.ix x (hs x hx)⟩
theorem good_of_check {l : List (Nat × Nat)} {xs : List Int} (h : xs.any (badWord l) = false) : GoodWs l xs := by
  have key : ∀ x ∈ xs, badWord l x = false := fun x hx => by
    cases hb : badWord l x with
    | false => rfl
    | true => rw [List.any_eq_true.2 ⟨x, hx, hb⟩] at h; cases h
  refine ⟨fun x hx => ?_, fun x hx hr => ?_⟩
  · have := key x hx
    unfold badWord at this
    simp at this
    exact this.1
  · have := key x hx
    unfold badWord at this
    rw [hr] at this
    simp only [Bool.true_and, Bool.or_eq_false_iff, Bool.not_eq_false'] at this
    exact ixOf_of_any this.2

def fieldsAt (ws : List Int) (p : Nat × Nat) : List Int := (ws.drop (p.1 + 1)).take p.2
def graphOf (ws : List Int) (l : List (Nat × Nat)) : List (List Val) := l.map fun p => (fieldsAt ws p).map (turnW (ixOf l))
end Go.Proofs.Ytpbafmdebflbpaa
