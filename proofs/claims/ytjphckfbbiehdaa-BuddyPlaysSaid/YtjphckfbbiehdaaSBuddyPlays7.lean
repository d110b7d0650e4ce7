/- Halves of halves, plain: pieces by level and number; which are as large as can be. Halves of halves, plain: the pieces in order; what is chosen. -/
import Derived.Test.YtjphckfbbiehdaaSBuddyPlays3
import Derived.Test.YtjphckfbbiehdaaSBuddyPlays4
set_option linter.unusedSimpArgs false
set_option linter.unusedVariables false
namespace Go.Proofs.Ytjphckfbbiehdaa
/-- A word is free. -/
def wF (tk : List Bool) (x : Nat) : Prop := tk.getD x true = false
def AF (tk : List Bool) (k q : Nat) : Prop := ∀ x, x / 2 ^ k = q → wF tk x
/-- A free piece, as large as can be. -/
structure Mx (tk : List Bool) (L k q : Nat) : Prop where
  le : k ≤ L
  af : AF tk k q
  top : k < L → ¬ AF tk (k + 1) (q / 2)
theorem div_succ (x k : Nat) : x / 2 ^ (k + 1) = x / 2 ^ k / 2 := by rw [Nat.pow_succ, Nat.div_div_eq_div_mul]
theorem AF.up {tk : List Bool} {k p : Nat} : AF tk (k + 1) p ↔ AF tk k (2 * p) ∧ AF tk k (2 * p + 1) := by
  unfold AF
  constructor
  · intro h
    refine ⟨fun x hx => h x ?_, fun x hx => h x ?_⟩ <;> rw [div_succ] <;> omega
  · rintro ⟨h1, h2⟩ x hx
    rw [div_succ] at hx
    rcases Nat.mod_two_eq_zero_or_one (x / 2 ^ k) with h | h
    · exact h1 x (by omega)
    · exact h2 x (by omega)
theorem AF.down {tk : List Bool} {k p q : Nat} (h : AF tk (k + 1) p) (hq : q / 2 = p) : AF tk k q := fun x hx => h x (by rw [div_succ, hx]; exact hq)
/-- A piece within another one. -/
theorem div_le {x j k : Nat} (h : j ≤ k) : x / 2 ^ k = x / 2 ^ j / 2 ^ (k - j) := by rw [Nat.div_div_eq_div_mul, ← Nat.pow_add, show j + (k - j) = k by omega]
theorem AF.within {tk : List Bool} {j k p q : Nat} (h : AF tk k p) (hj : j ≤ k) (hq : q / 2 ^ (k - j) = p) : AF tk j q := fun x hx => h x (by rw [div_le hj, hx]; exact hq)
theorem piece_has (k q : Nat) : q * 2 ^ k / 2 ^ k = q := Nat.mul_div_cancel _ (Nat.two_pow_pos k)
/-- A piece's words are taken, or are free. -/
structure SetP (tk tk' : List Bool) (k q : Nat) (b : Bool) : Prop where
  yes : ∀ x, x / 2 ^ k = q → tk'.getD x true = b
  no : ∀ x, x / 2 ^ k ≠ q → tk'.getD x true = tk.getD x true
/-- Two pieces: one is within the other, or they have nothing in common. -/
theorem Mx.other {tk : List Bool} {L j k p q : Nat} (h : Mx tk L k p) (h2 : Mx tk L j q) (hj : j ≤ k) (hq : q / 2 ^ (k - j) = p) : j = k ∧ q = p := by
  rcases Nat.lt_or_ge j k with hlt | hge
  · exfalso
    refine h2.top (by have := h.le; omega) (h.af.within (by omega) ?_)
    rw [← hq, show k - j = (k - (j + 1)) + 1 by omega, Nat.pow_succ', Nat.div_div_eq_div_mul]
  · obtain rfl : j = k := by omega
    rw [Nat.sub_self, Nat.pow_zero, Nat.div_one] at hq
    exact ⟨rfl, hq⟩
/-- A piece that is as large as can be is taken, whole. -/
theorem Mx.taken {tk tk' : List Bool} {L k p : Nat} (h : Mx tk L k p) (hs : SetP tk tk' k p true) (j q : Nat) : Mx tk' L j q ↔ Mx tk L j q ∧ ¬ (j = k ∧ q = p) := by
  have hfr : ∀ x, wF tk' x ↔ wF tk x ∧ x / 2 ^ k ≠ p := fun x => by
    unfold wF
    by_cases hx : x / 2 ^ k = p
    · rw [hs.yes x hx]; simp [hx]
    · rw [hs.no x hx]; simp [hx]
  constructor
  · intro h2
    have haf : AF tk j q := fun x hx => ((hfr x).1 (h2.af x hx)).1
    have hne : ¬ (j = k ∧ q = p) := by
      rintro ⟨rfl, rfl⟩
      exact ((hfr _).1 (h2.af _ (piece_has j q))).2 (piece_has j q)
    refine ⟨⟨h2.le, haf, fun hL haf2 => ?_⟩, hne⟩
    -- the piece above was free: it is not within p, p not within it
    refine h2.top hL fun x hx => (hfr x).2 ⟨haf2 x hx, fun hxp => ?_⟩
    rcases Nat.lt_or_ge j k with hlt | hge
    · -- the piece above is within p
      have e : ∀ y, y / 2 ^ j = q → y / 2 ^ k = p := fun y hy => by
        rw [← hxp, div_le (show j + 1 ≤ k by omega), div_le (x := x) (show j + 1 ≤ k by omega), hx, div_succ, hy]
      exact ((hfr _).1 (h2.af _ (piece_has j q))).2 (e _ (piece_has j q))
    · -- p is within the piece above
      have e : (p : Nat) / 2 ^ (j + 1 - k) = q / 2 := by rw [← hxp, ← div_le (show k ≤ j + 1 by omega)]; exact hx
      refine h.top (by omega) (haf2.within (by omega) ?_)
      rw [← e, show j + 1 - k = (j + 1 - (k + 1)) + 1 by omega, Nat.pow_succ', Nat.div_div_eq_div_mul]
  · rintro ⟨h2, hne⟩
    refine ⟨h2.le, fun x hx => (hfr x).2 ⟨h2.af x hx, fun hxp => ?_⟩, fun hL haf2 => h2.top hL fun x hx => ((hfr x).1 (haf2 x hx)).1⟩
    rcases Nat.le_total j k with hle | hle
    · have e : q / 2 ^ (k - j) = p := by rw [← hxp, ← hx, ← div_le hle]
      exact hne (h.other h2 hle e)
    · have e : p / 2 ^ (j - k) = q := by rw [← hxp, ← hx, ← div_le hle]
      obtain ⟨e1, e2⟩ := h2.other h hle e
      exact hne ⟨e1.symm, e2.symm⟩
/-- A piece that is free again, and whose twin is not free. -/
theorem Mx.freed {tk tk' : List Bool} {L k p : Nat} (hL : k ≤ L) (hs : SetP tk' tk k p true) (hf : AF tk' k p) (ht : k < L → ¬ AF tk' (k + 1) (p / 2)) (j q : Nat) : Mx tk' L j q ↔ Mx tk L j q ∨ (j = k ∧ q = p) := by
  have h : Mx tk' L k p := ⟨hL, hf, ht⟩
  rw [h.taken hs j q]
  constructor
  · intro h2
    by_cases h3 : j = k ∧ q = p
    · exact .inr h3
    · exact .inl ⟨h2, h3⟩
  · rintro (h2 | ⟨rfl, rfl⟩)
    · exact h2.1
    · exact h
/-! ### A piece is halved again and again: the left halves stay taken. -/
theorem setTk_piece {tk : List Bool} {k q : Nat} {b : Bool} (hx : ∀ x, x / 2 ^ k = q → x < tk.length) : SetP tk (setTk tk (q * 2 ^ k) (2 ^ k) b) k q b := by
  have e : ∀ x, x / 2 ^ k = q ↔ q * 2 ^ k ≤ x ∧ x < q * 2 ^ k + 2 ^ k := fun x => by
    have hp := Nat.two_pow_pos k
    rw [Nat.div_eq_iff hp]
    constructor
    · rintro ⟨h1, h2⟩
      exact ⟨h1, by omega⟩
    · rintro ⟨h1, h2⟩
      exact ⟨h1, by omega⟩
  refine ⟨fun x h => ?_, fun x h => ?_⟩
  · rw [setTk_at _ _ _ _ _ (hx x h), if_pos ((e x).1 h)]
  · by_cases hl : x < tk.length
    · rw [setTk_at _ _ _ _ _ hl, if_neg (fun h2 => h ((e x).2 h2))]
    · rw [List.getD_eq_getElem?_getD, List.getD_eq_getElem?_getD, List.getElem?_eq_none (by rw [setTk_len]; omega), List.getElem?_eq_none (by omega)]
theorem SetP.wF {tk tk' : List Bool} {k q : Nat} (hs : SetP tk tk' k q true) (x : Nat) : wF tk' x ↔ wF tk x ∧ x / 2 ^ k ≠ q := by
  unfold Go.Proofs.Ytjphckfbbiehdaa.wF
  by_cases hx : x / 2 ^ k = q
  · rw [hs.yes x hx]; simp [hx]
  · rw [hs.no x hx]; simp [hx]
theorem AF.lt {tk : List Bool} {k q : Nat} (h : AF tk k q) : ∀ x, x / 2 ^ k = q → x < tk.length := fun x hx => by
  rcases Nat.lt_or_ge x tk.length with h1 | h1
  · exact h1
  · have := h x hx
    unfold Go.Proofs.Ytjphckfbbiehdaa.wF at this
    rw [List.getD_eq_getElem?_getD, List.getElem?_eq_none h1] at this
    cases this
/-- Piece p of level k is as large as can be; of it the piece of level i stays taken, at its left end. -/
theorem Mx.split {tk : List Bool} {L k p : Nat} (h : Mx tk L k p) : ∀ (n i : Nat), i + n = k → ∀ (tk' : List Bool), SetP tk tk' i (p * 2 ^ n) true → ∀ j q, Mx tk' L j q ↔ (Mx tk L j q ∧ ¬ (j = k ∧ q = p)) ∨ (i ≤ j ∧ j < k ∧ q = p * 2 ^ (k - j) + 1)
  | 0, i, hi, tk', hs, j, q => by
    obtain rfl : i = k := by omega
    rw [Nat.pow_zero, Nat.mul_one] at hs
    rw [h.taken hs j q]
    constructor
    · exact .inl
    · rintro (h1 | ⟨h1, h2, _⟩)
      · exact h1
      · omega
  | n + 1, i, hi, tk', hs, j, q => by
    have hkl : ∀ x, x / 2 ^ k = p → x < tk.length := h.af.lt
    have hup : ∀ x, x / 2 ^ (i + 1) = p * 2 ^ n → x / 2 ^ k = p := fun x hx => by
      rw [div_le (show i + 1 ≤ k by omega), hx, show k - (i + 1) = n by omega]; exact piece_has n p
    obtain ⟨tk1, ht1⟩ : ∃ t, t = setTk tk ((p * 2 ^ n) * 2 ^ (i + 1)) (2 ^ (i + 1)) true := ⟨_, rfl⟩
    have hs1 : SetP tk tk1 (i + 1) (p * 2 ^ n) true := by rw [ht1]; exact setTk_piece fun x hx => hkl x (hup x hx)
    have ih := Mx.split h n (i + 1) (by omega) tk1 hs1 j q
    have eq1 : p * 2 ^ (n + 1) = 2 * (p * 2 ^ n) := by rw [Nat.pow_succ, ← Nat.mul_assoc, Nat.mul_comm]
    rw [eq1] at hs
    have hs2 : SetP tk' tk1 i (2 * (p * 2 ^ n) + 1) true := by
      refine ⟨fun x hx => hs1.yes x (by rw [div_succ]; omega), fun x hx => ?_⟩
      by_cases hx2 : x / 2 ^ i = 2 * (p * 2 ^ n)
      · rw [hs1.yes x (by rw [div_succ]; omega), hs.yes x hx2]
      · rw [hs1.no x (by rw [div_succ]; omega), hs.no x hx2]
    have haf : AF tk' i (2 * (p * 2 ^ n) + 1) := fun x hx => (hs.wF x).2 ⟨h.af x (hup x (by rw [div_succ]; omega)), by omega⟩
    have htop : i < L → ¬ AF tk' (i + 1) ((2 * (p * 2 ^ n) + 1) / 2) := fun _ h2 => by
      have h3 := (AF.up.1 (show AF tk' (i + 1) (p * 2 ^ n) from by have e : (2 * (p * 2 ^ n) + 1) / 2 = p * 2 ^ n := by omega
                                                                   rw [e] at h2; exact h2)).1
      exact ((hs.wF _).1 (h3 _ (piece_has i _))).2 (piece_has i _)
    have hk := h.le
    rw [Mx.freed (by omega) hs2 haf htop j q, ih]
    have eki : k - i = n + 1 := by omega
    have eq1' : p * 2 ^ (n + 1) = 2 * (p * 2 ^ n) := eq1
    constructor
    · rintro ((h1 | ⟨h1, h2, h3⟩) | ⟨rfl, h2⟩)
      · exact .inl h1
      · exact .inr ⟨by omega, h2, h3⟩
      · refine .inr ⟨Nat.le_refl _, (by omega), ?_⟩
        rw [show k - j = n + 1 by omega, eq1]; exact h2
    · rintro (h1 | ⟨h1, h2, h3⟩)
      · exact .inl (.inl h1)
      · rcases Nat.lt_or_ge i j with h4 | h4
        · exact .inl (.inr ⟨by omega, h2, h3⟩)
        · obtain rfl : j = i := by omega
          rw [eki, eq1] at h3
          exact .inr ⟨rfl, h3⟩
/-! ### A piece is given back. -/
/-- The other half. -/
def tw (q : Nat) : Nat := if q % 2 = 0 then q + 1 else q - 1
theorem tw_half (q : Nat) : tw q / 2 = q / 2 ∧ tw q ≠ q ∧ tw (tw q) = q := by unfold tw; split <;> (refine ⟨by omega, by omega, ?_⟩; split <;> omega)
/-- Pieces in a state: of which levels which numbers. -/
def upS (L : Nat) : Nat → Nat → Nat → (Nat → Nat → Bool) → Nat → Nat → Bool
  | 0, k, q, S => fun j x => if j = k ∧ x = q then true else S j x
  | n + 1, k, q, S => if k < L ∧ S k (tw q) = true then upS L n (k + 1) (q / 2) (fun j x => if j = k ∧ x = tw q then false else S j x) else fun j x => if j = k ∧ x = q then true else S j x
theorem upS_ok {L : Nat} : ∀ (n k q : Nat) (S : Nat → Nat → Bool) (tk tk' : List Bool), k + n = L → (∀ j x, S j x = true ↔ Mx tk L j x) → SetP tk' tk k q true → AF tk' k q → ∀ j x, upS L n k q S j x = true ↔ Mx tk' L j x
  | 0, k, q, S, tk, tk', hk, hS, hs, hf, j, x => by
    unfold upS
    rw [Mx.freed (show k ≤ L by omega) hs hf (by omega) j x, ← hS j x]
    by_cases h : j = k ∧ x = q
    · rw [if_pos h]; simp [h]
    · rw [if_neg h]; simp [h]
  | n + 1, k, q, S, tk, tk', hk, hS, hs, hf, j, x => by
    obtain ⟨t1, t2, t3⟩ := tw_half q
    have hnf : ¬ AF tk k q := fun h => by
      have h1 := h _ (piece_has k q)
      exact ((hs.wF _).1 h1).2 (piece_has k q)
    have hup : AF tk' (k + 1) (q / 2) ↔ AF tk' k (tw q) := by
      rw [AF.up]
      by_cases h2 : q % 2 = 0
      · have e : tw q = q + 1 := if_pos h2
        rw [show 2 * (q / 2) = q by omega, e]
        exact ⟨fun h => h.2, fun h => ⟨hf, h⟩⟩
      · have e : tw q = q - 1 := if_neg h2
        rw [show 2 * (q / 2) + 1 = q by omega, show 2 * (q / 2) = q - 1 by omega, e]
        exact ⟨fun h => h.1, fun h => ⟨h, hf⟩⟩
    have htw : AF tk' k (tw q) ↔ S k (tw q) = true := by
      have e : AF tk k (tw q) ↔ AF tk' k (tw q) := by
        constructor
        · exact fun h x hx => ((hs.wF x).1 (h x hx)).1
        · exact fun h x hx => (hs.wF x).2 ⟨h x hx, by rw [hx]; exact t2⟩
      rw [← e, hS]
      constructor
      · intro h
        refine ⟨by omega, h, fun _ h2 => hnf (h2.down t1.symm)⟩
      · exact fun h => h.af
    unfold upS
    by_cases hc : S k (tw q) = true
    · rw [if_pos ⟨by omega, hc⟩]
      obtain ⟨tk1, ht1⟩ : ∃ t, t = setTk tk (tw q * 2 ^ k) (2 ^ k) true := ⟨_, rfl⟩
      have hm := (hS _ _).1 hc
      have hs1 : SetP tk tk1 k (tw q) true := by rw [ht1]; exact setTk_piece hm.af.lt
      refine upS_ok n (k + 1) (q / 2) _ tk1 tk' (by omega) (fun j x => ?_) ⟨fun x hx => ?_, fun x hx => ?_⟩ (hup.2 (htw.2 hc)) j x
      · rw [hm.taken hs1 j x, ← hS j x]
        by_cases h : j = k ∧ x = tw q
        · rw [if_pos h]; simp [h]
        · rw [if_neg h]; simp [h]
      · rw [div_succ] at hx
        by_cases h2 : x / 2 ^ k = tw q
        · exact hs1.yes x h2
        · rw [hs1.no x h2]
          refine hs.yes x ?_
          unfold tw at h2 t1
          split at h2 <;> omega
      · rw [div_succ] at hx
        rw [hs1.no x (by intro h; rw [h, t1] at hx; exact hx rfl)]
        exact hs.no x (by intro h; rw [h] at hx; exact hx rfl)
    · rw [if_neg (fun h => hc h.2)]
      have htop : k < L → ¬ AF tk' (k + 1) (q / 2) := fun _ h => hc (htw.1 (hup.1 h))
      rw [Mx.freed (show k ≤ L by omega) hs hf htop j x, ← hS j x]
      by_cases h : j = k ∧ x = q
      · rw [if_pos h]; simp [h]
      · rw [if_neg h]; simp [h]
end Go.Proofs.Ytjphckfbbiehdaa

namespace Go.Proofs.Ytjphckfbbiehdaa
def AFb (tk : List Bool) (k q : Nat) : Bool := (List.range (2 ^ k)).all fun i => !tk.getD (q * 2 ^ k + i) true
theorem AFb_iff {tk : List Bool} {k q : Nat} : AFb tk k q = true ↔ AF tk k q := by
  unfold AFb AF wF
  rw [List.all_eq_true]
  have hp := Nat.two_pow_pos k
  constructor
  · intro h x hx
    rw [Nat.div_eq_iff hp] at hx
    have := h (x - q * 2 ^ k) (List.mem_range.2 (by omega))
    rw [show q * 2 ^ k + (x - q * 2 ^ k) = x by omega] at this
    simpa using this
  · intro h i hi
    have hi := List.mem_range.1 hi
    have := h (q * 2 ^ k + i) (by rw [Nat.div_eq_iff hp]; omega)
    rw [this]; rfl
def pcs (tk : List Bool) : Nat → Nat → List Bk
  | 0, q => if AFb tk 0 q = true then [(q, 1)] else []
  | k + 1, q => if AFb tk (k + 1) q = true then [(q * 2 ^ (k + 1), 2 ^ (k + 1))] else pcs tk k (2 * q) ++ pcs tk k (2 * q + 1)
theorem div_one_up {r j k : Nat} (h : j ≤ k) : r / 2 ^ (k + 1 - j) = r / 2 ^ (k - j) / 2 := by rw [show k + 1 - j = k - j + 1 by omega, div_succ]
theorem pcs_mem {tk : List Bool} : ∀ (k q : Nat) (b : Bk), b ∈ pcs tk k q ↔ ∃ j r, b = (r * 2 ^ j, 2 ^ j) ∧ j ≤ k ∧ r / 2 ^ (k - j) = q ∧ AF tk j r ∧ (j < k → ¬ AF tk (j + 1) (r / 2))
  | 0, q, b => by
    unfold pcs
    constructor
    · intro h
      split at h
      · rename_i h1
        exact ⟨0, q, by rw [List.mem_singleton.1 h, Nat.pow_zero, Nat.mul_one], Nat.le_refl _, by simp, AFb_iff.1 h1, fun h => by omega⟩
      · cases h
    · rintro ⟨j, r, rfl, hj, hr, hf, _⟩
      obtain rfl : j = 0 := by omega
      rw [Nat.sub_self, Nat.pow_zero, Nat.div_one] at hr
      subst hr
      rw [if_pos (AFb_iff.2 hf), Nat.pow_zero, Nat.mul_one]
      exact List.mem_singleton_self _
  | k + 1, q, b => by
    unfold pcs
    by_cases hf : AFb tk (k + 1) q = true
    · rw [if_pos hf]
      constructor
      · intro h
        exact ⟨k + 1, q, List.mem_singleton.1 h, Nat.le_refl _, by simp, AFb_iff.1 hf, fun h => by omega⟩
      · rintro ⟨j, r, rfl, hj, hr, ha, ht⟩
        rcases Nat.lt_or_ge j (k + 1) with h1 | h1
        · exfalso
          refine ht h1 ((AFb_iff.1 hf).within (by omega) ?_)
          rw [← hr, show k + 1 - j = (k + 1 - (j + 1)) + 1 by omega, Nat.pow_succ', Nat.div_div_eq_div_mul]
        · obtain rfl : j = k + 1 := by omega
          rw [Nat.sub_self, Nat.pow_zero, Nat.div_one] at hr
          subst hr
          exact List.mem_singleton_self _
    · rw [if_neg hf, List.mem_append, pcs_mem k, pcs_mem k]
      have hnf : ¬ AF tk (k + 1) q := fun h => hf (AFb_iff.2 h)
      constructor
      · intro h
        obtain ⟨j, r, e, hj, hr, ha, ht⟩ : ∃ j r, b = (r * 2 ^ j, 2 ^ j) ∧ j ≤ k ∧ r / 2 ^ (k - j) / 2 = q ∧ AF tk j r ∧ (j < k → ¬ AF tk (j + 1) (r / 2)) := by
          rcases h with ⟨j, r, e, hj, hr, ha, ht⟩ | ⟨j, r, e, hj, hr, ha, ht⟩
          · exact ⟨j, r, e, hj, by omega, ha, ht⟩
          · exact ⟨j, r, e, hj, by omega, ha, ht⟩
        refine ⟨j, r, e, by omega, by rw [div_one_up hj]; exact hr, ha, fun _ => ?_⟩
        rcases Nat.lt_or_ge j k with h1 | h1
        · exact ht h1
        · obtain rfl : j = k := by omega
          rw [Nat.sub_self, Nat.pow_zero, Nat.div_one] at hr
          rw [hr]; exact hnf
      · rintro ⟨j, r, e, hj, hr, ha, ht⟩
        have hj' : j ≤ k := by
          rcases Nat.lt_or_ge k j with h1 | h1
          · exfalso
            obtain rfl : j = k + 1 := by omega
            rw [Nat.sub_self, Nat.pow_zero, Nat.div_one] at hr
            rw [hr] at ha
            exact hnf ha
          · exact h1
        rw [div_one_up hj'] at hr
        rcases Nat.mod_two_eq_zero_or_one (r / 2 ^ (k - j)) with h1 | h1
        · exact .inl ⟨j, r, e, hj', by omega, ha, fun h => ht (by omega)⟩
        · exact .inr ⟨j, r, e, hj', by omega, ha, fun h => ht (by omega)⟩
theorem pcs_sorted {tk : List Bool} : ∀ (k q : Nat), (pcs tk k q).Pairwise (fun a b => a.1 + a.2 ≤ b.1) ∧ ∀ b ∈ pcs tk k q, q * 2 ^ k ≤ b.1 ∧ b.1 + b.2 ≤ (q + 1) * 2 ^ k ∧ 0 < b.2
  | 0, q => by
    unfold pcs
    split
    · exact ⟨List.pairwise_singleton .., fun b hb => by rw [List.mem_singleton.1 hb]; dsimp only; omega⟩
    · exact ⟨List.Pairwise.nil, fun b hb => by cases hb⟩
  | k + 1, q => by
    have hp := Nat.two_pow_pos (k + 1)
    unfold pcs
    split
    · refine ⟨List.pairwise_singleton .., fun b hb => ?_⟩
      rw [List.mem_singleton.1 hb, Nat.add_mul, Nat.one_mul]
      exact ⟨Nat.le_refl _, Nat.le_refl _, hp⟩
    · obtain ⟨a1, a2⟩ := pcs_sorted (tk := tk) k (2 * q)
      obtain ⟨b1, b2⟩ := pcs_sorted (tk := tk) k (2 * q + 1)
      have e1 : 2 * q * 2 ^ k = q * 2 ^ (k + 1) := by rw [Nat.pow_succ', ← Nat.mul_assoc, Nat.mul_comm 2 q]
      have e2 : (2 * q + 1 + 1) * 2 ^ k = (q + 1) * 2 ^ (k + 1) := by rw [show 2 * q + 1 + 1 = (q + 1) * 2 by omega, Nat.mul_assoc, ← Nat.pow_succ']
      rw [e1] at a2
      rw [e2] at b2
      have e3 : (2 * q + 1) * 2 ^ k ≤ (q + 1) * 2 ^ (k + 1) := by rw [← e2]; exact Nat.mul_le_mul_right _ (by omega)
      have e4 : q * 2 ^ (k + 1) ≤ (2 * q + 1) * 2 ^ k := by rw [← e1]; exact Nat.mul_le_mul_right _ (by omega)
      refine ⟨List.pairwise_append.2 ⟨a1, b1, fun a ha b hb => ?_⟩, fun b hb => ?_⟩
      · exact Nat.le_trans (a2 a ha).2.1 (b2 b hb).1
      · rcases List.mem_append.1 hb with h | h
        · have := a2 b h; exact ⟨this.1, Nat.le_trans this.2.1 e3, this.2.2⟩
        · have := b2 b h; exact ⟨Nat.le_trans e4 this.1, this.2.1, this.2.2⟩
theorem AF.num {tk : List Bool} {L j r : Nat} (hl : tk.length = 2 ^ L) (hj : j ≤ L) (h : AF tk j r) : r < 2 ^ (L - j) ∧ r / 2 ^ (L - j) = 0 := by
  have h1 := h.lt _ (piece_has j r)
  rw [hl] at h1
  have h2 : r < 2 ^ (L - j) := by
    rcases Nat.lt_or_ge r (2 ^ (L - j)) with h3 | h3
    · exact h3
    · have h4 := Nat.mul_le_mul_right (2 ^ j) h3
      rw [← Nat.pow_add, show L - j + j = L by omega] at h4
      omega
  exact ⟨h2, Nat.div_eq_of_lt h2⟩
theorem pcs_mx {tk : List Bool} {L : Nat} (hl : tk.length = 2 ^ L) (b : Bk) : b ∈ pcs tk L 0 ↔ ∃ j r, b = (r * 2 ^ j, 2 ^ j) ∧ Mx tk L j r := by
  rw [pcs_mem]
  constructor
  · rintro ⟨j, r, e, hj, _, ha, ht⟩
    exact ⟨j, r, e, hj, ha, ht⟩
  · rintro ⟨j, r, e, hm⟩
    exact ⟨j, r, e, hm.le, (hm.af.num hl hm.le).2, hm.af, hm.top⟩
/-! ### What is chosen. -/
theorem pick_none {F : List Bk} {n last : Nat} {p : Int} : ∀ {k : Nat}, pickK F n p last k = none → ∀ j, j < k → ¬ n ≤ (F.getD j (0, 0)).2
  | 0, _, j, hj => by omega
  | k + 1, h, j, hj => by
    unfold pickK at h
    split at h
    · cases h
    · rename_i hc
      rcases Nat.lt_or_ge j k with h1 | h1
      · exact pick_none h j h1
      · obtain rfl : j = k := by omega
        rw [h] at hc
        exact fun h3 => hc (by unfold fitB; rw [decide_eq_true h3]; rfl)
theorem pick2_some {F : List Bk} {n last : Nat} : ∀ {k i : Nat}, pickK F n 2 last k = some i → i < k ∧ n ≤ (F.getD i (0, 0)).2 ∧ ∀ j, j < k → n ≤ (F.getD j (0, 0)).2 → (F.getD i (0, 0)).2 < (F.getD j (0, 0)).2 ∨ ((F.getD i (0, 0)).2 = (F.getD j (0, 0)).2 ∧ i ≤ j)
  | 0, i, h => by cases h
  | k + 1, i, h => by
    unfold pickK at h
    cases hp : pickK F n 2 last k with
    | none =>
      rw [hp] at h
      split at h
      · rename_i hc
        injection h with h
        subst h
        refine ⟨Nat.lt_succ_self _, fitB_le hc, fun j hj h1 => ?_⟩
        rcases Nat.lt_or_ge j k with h2 | h2
        · exact absurd h1 (pick_none hp j h2)
        · obtain rfl : j = k := by omega
          exact .inr ⟨rfl, Nat.le_refl _⟩
      · cases h
    | some i0 =>
      obtain ⟨p1, p2, p3⟩ := pick2_some hp
      rw [hp] at h
      have hb : fitB F n 2 last (some i0) k = (decide (n ≤ (F.getD k (0, 0)).2) && decide ((F.getD k (0, 0)).2 < (F.getD i0 (0, 0)).2)) := rfl
      rw [hb] at h
      split at h
      · rename_i hc
        rw [Bool.and_eq_true] at hc
        injection h with h
        subst h
        have hc2 := of_decide_eq_true hc.2
        refine ⟨Nat.lt_succ_self _, of_decide_eq_true hc.1, fun j hj h1 => ?_⟩
        rcases Nat.lt_or_ge j k with h2 | h2
        · rcases p3 j h2 h1 with h3 | h3
          · exact .inl (by omega)
          · exact .inl (by omega)
        · obtain rfl : j = k := by omega
          exact .inr ⟨rfl, Nat.le_refl _⟩
      · rename_i hc
        injection h with h
        subst h
        refine ⟨by omega, p2, fun j hj h1 => ?_⟩
        rcases Nat.lt_or_ge j k with h2 | h2
        · exact p3 j h2 h1
        · obtain rfl : j = k := by omega
          have : ¬ (F.getD j (0, 0)).2 < (F.getD i0 (0, 0)).2 := fun h3 => hc (by rw [decide_eq_true h1, decide_eq_true h3]; rfl)
          rcases Nat.lt_or_ge (F.getD i0 (0, 0)).2 (F.getD j (0, 0)).2 with h3 | h3
          · exact .inl h3
          · exact .inr ⟨by omega, by omega⟩
/-- So many levels are wanted. -/
structure NeedOk (n need : Nat) : Prop where
  le : n ≤ 2 ^ need
  lt : ∀ j, j < need → 2 ^ j < n
theorem NeedOk.min {n need j : Nat} (h : NeedOk n need) (hj : n ≤ 2 ^ j) : need ≤ j := by
  rcases Nat.lt_or_ge j need with h1 | h1
  · have := h.lt j h1; omega
  · exact h1
theorem pairwise_le {F : List Bk} (h : F.Pairwise fun a b => a.1 + a.2 ≤ b.1) {i j : Nat} (hij : i ≤ j) (hj : j < F.length) : (F.getD i (0, 0)).1 ≤ (F.getD j (0, 0)).1 := by
  rcases Nat.lt_or_ge i j with h1 | h1
  · have h2 := List.pairwise_iff_getElem.1 h i j (by omega) hj h1
    rw [List.getD_eq_getElem?_getD, List.getD_eq_getElem?_getD, List.getElem?_eq_getElem (by omega), List.getElem?_eq_getElem hj]
    exact Nat.le_trans (Nat.le_add_right _ _) h2
  · obtain rfl : i = j := by omega
    exact Nat.le_refl _
theorem piece_some {tk : List Bool} {L n need K q : Nat} (hl : tk.length = 2 ^ L) (hn : NeedOk n need) (hK : need ≤ K) (hm : Mx tk L K q) (hmin : ∀ r, Mx tk L K r → q ≤ r) (hlow : ∀ j, need ≤ j → j < K → ∀ r, ¬ Mx tk L j r) (last : Nat) :
    ∃ i, pickK (pcs tk L 0) n 2 last (pcs tk L 0).length = some i ∧ (pcs tk L 0).getD i (0, 0) = (q * 2 ^ K, 2 ^ K) := by
  have hb := (pcs_mx hl (q * 2 ^ K, 2 ^ K)).2 ⟨K, q, rfl, hm⟩
  obtain ⟨j0, hj0, e0⟩ := List.getElem_of_mem hb
  have g0 : (pcs tk L 0).getD j0 (0, 0) = (q * 2 ^ K, 2 ^ K) := by rw [List.getD_eq_getElem?_getD, List.getElem?_eq_getElem hj0]; exact e0
  have hnK : n ≤ 2 ^ K := Nat.le_trans hn.le (Nat.pow_le_pow_right (by omega) hK)
  cases hp : pickK (pcs tk L 0) n 2 last (pcs tk L 0).length with
  | none => exact absurd (by rw [g0]; exact hnK) (pick_none hp j0 hj0)
  | some i =>
    refine ⟨i, rfl, ?_⟩
    obtain ⟨p1, p2, p3⟩ := pick2_some hp
    have hmem : (pcs tk L 0).getD i (0, 0) ∈ pcs tk L 0 := by
      rw [List.getD_eq_getElem?_getD, List.getElem?_eq_getElem p1]; exact List.getElem_mem p1
    obtain ⟨j, r, e, hr⟩ := (pcs_mx hl _).1 hmem
    rw [e] at p2
    have h1 := hn.min p2
    have h2 : K ≤ j := by
      rcases Nat.lt_or_ge j K with h3 | h3
      · exact absurd hr (hlow j h1 h3 r)
      · exact h3
    have h3 := p3 j0 hj0 (by rw [g0]; exact hnK)
    rw [e, g0] at h3
    dsimp only at h3
    have h4 : j = K := by
      rcases Nat.lt_or_ge K j with h5 | h5
      · have := Nat.pow_lt_pow_right (a := 2) (by omega) h5
        omega
      · omega
    subst h4
    have h5 : i ≤ j0 := by rcases h3 with h6 | h6 <;> omega
    have h6 := pairwise_le (pcs_sorted (tk := tk) L 0).1 h5 hj0
    rw [e, g0] at h6
    dsimp only at h6
    have h7 := Nat.le_of_mul_le_mul_right h6 (Nat.two_pow_pos j)
    have h8 := hmin r hr
    rw [e, show r = q by omega]
theorem piece_none {tk : List Bool} {L n need : Nat} (hl : tk.length = 2 ^ L) (hn : NeedOk n need) (hlow : ∀ j, need ≤ j → j ≤ L → ∀ r, ¬ Mx tk L j r) (last : Nat) : pickK (pcs tk L 0) n 2 last (pcs tk L 0).length = none := by
  cases hp : pickK (pcs tk L 0) n 2 last (pcs tk L 0).length with
  | none => rfl
  | some i =>
    exfalso
    obtain ⟨p1, p2, _⟩ := pick2_some hp
    have hmem : (pcs tk L 0).getD i (0, 0) ∈ pcs tk L 0 := by
      rw [List.getD_eq_getElem?_getD, List.getElem?_eq_getElem p1]; exact List.getElem_mem p1
    obtain ⟨j, r, e, hr⟩ := (pcs_mx hl _).1 hmem
    rw [e] at p2
    exact hlow j (hn.min p2) hr.le r hr
end Go.Proofs.Ytjphckfbbiehdaa
