/- Ways: does one object lead to another; plain. Trials, plain: what is tried, what is left of the counts, what is kept. Ways: the reference's. -/
import Derived.Test.YtaajkldhnjoicaaGGraphTells5
import Derived.Test.YtaajkldhnjoicaaGGraphTells6
import Derived.Test.YtaajkldhnjoicaaGPathTells2
set_option linter.unusedSimpArgs false
set_option linter.unusedVariables false
namespace Go.Proofs.Ytaajkldhnjoicaa

/-- A way by at least one reference; all between are below k. -/
inductive Via (gs : List (List Val)) (k : Int) : Int → Int → Prop
  | edge (i j : Int) : (true, j) ∈ fieldsI gs i → Via gs k i j
  | step (i m j : Int) : (true, m) ∈ fieldsI gs i → m < k → Via gs k m j → Via gs k i j
theorem Via.split {gs : List (List Val)} {k : Int} {i j : Int} (h : Via gs (k + 1) i j) : Via gs k i j ∨ (Via gs k i k ∧ Via gs k k j) := by
  induction h with
  | edge i j h => exact .inl (.edge i j h)
  | step i m j h hm _ ih =>
    by_cases e : m = k
    · subst e
      rcases ih with h1 | ⟨_, h2⟩
      · exact .inr ⟨.edge i m h, h1⟩
      · exact .inr ⟨.edge i m h, h2⟩
    · rcases ih with h1 | ⟨h1, h2⟩
      · exact .inl (.step i m j h (by omega) h1)
      · exact .inr ⟨.step i m k h (by omega) h1, h2⟩
theorem Via.trans {gs : List (List Val)} {k : Int} {i m j : Int} (h : Via gs k i m) (hm : m < k) (h2 : Via gs k m j) : Via gs k i j := by
  induction h with
  | edge i m h => exact .step i m j h hm h2
  | step i x m h hx _ ih => exact .step i x j h hx (ih hm h2)
theorem Via.mono {gs : List (List Val)} {k k' : Int} {i j : Int} (h : Via gs k i j) (hk : k ≤ k') : Via gs k' i j := by
  induction h with
  | edge i j h => exact .edge i j h
  | step i m j h hm _ ih => exact .step i m j h (by omega) ih

/-- The marks of ways, a row for each object. -/
def wyAt (n : Nat) (ws : List Bool) (i j : Nat) : Bool := ws.getD (i * n + j) false
/-- What holds as the marks grow: k objects may be between; of those at the places below q one more. -/
structure WyI (gs : List (List Val)) (n k q : Nat) (ws : List Bool) : Prop where
  len : ws.length = n * n
  sound : ∀ i j : Nat, i < n → j < n → wyAt n ws i j = true → Via gs n i j
  cov : ∀ i j : Nat, i < n → j < n → Via gs k i j → wyAt n ws i j = true
  more : ∀ i j : Nat, i < n → j < n → i * n + j < q → Via gs ((k : Int) + 1) i j → wyAt n ws i j = true
theorem WyI.next {gs : List (List Val)} {n k : Nat} {ws : List Bool} (h : WyI gs n k (n * n) ws) : WyI gs n (k + 1) 0 ws :=
  ⟨h.len, h.sound, fun i j hi hj hv => h.more i j hi hj (by
    have : i * n + j < (i + 1) * n := by rw [Nat.add_mul]; omega
    exact Nat.lt_of_lt_of_le this (Nat.mul_le_mul_right n hi)) (by simpa using hv), fun i j _ _ hq => by omega⟩
theorem wy_inj {n i j i' j' : Nat} (hj : j < n) (hj' : j' < n) (h : i * n + j = i' * n + j') : i = i' ∧ j = j' := by
  have h1 : (i * n + j) / n = i := by rw [Nat.mul_comm, Nat.mul_add_div (by omega), Nat.div_eq_of_lt hj, Nat.add_zero]
  have h2 : (i' * n + j') / n = i' := by rw [Nat.mul_comm, Nat.mul_add_div (by omega), Nat.div_eq_of_lt hj', Nat.add_zero]
  rw [h] at h1
  have : i = i' := h1.symm.trans h2
  subst this
  exact ⟨rfl, by omega⟩
theorem wy_lt {n i j : Nat} (hi : i < n) (hj : j < n) : i * n + j < n * n := by
  have : i * n + j < (i + 1) * n := by rw [Nat.add_mul]; omega
  exact Nat.lt_of_lt_of_le this (Nat.mul_le_mul_right n hi)
theorem wy_set {n i j i' j' : Nat} {ws : List Bool} (hl : ws.length = n * n) (hi : i < n) (hj : j < n) (hj' : j' < n) : wyAt n (ws.set (i * n + j) true) i' j' = if i' = i ∧ j' = j then true else wyAt n ws i' j' := by
  unfold wyAt
  rw [List.getD_eq_getElem?_getD, List.getElem?_set]
  by_cases e : i * n + j = i' * n + j'
  · obtain ⟨rfl, rfl⟩ := wy_inj hj hj' e
    simp [hl, wy_lt hi hj]
  · rw [if_neg e, if_neg (fun h => e (by rw [h.1, h.2])), ← List.getD_eq_getElem?_getD]
theorem wy_setb {n i j i' j' : Nat} {b : Bool} {ws : List Bool} (hl : ws.length = n * n) (hi : i < n) (hj : j < n) (hj' : j' < n) : wyAt n (ws.set (i * n + j) b) i' j' = if i' = i ∧ j' = j then b else wyAt n ws i' j' := by
  unfold wyAt
  rw [List.getD_eq_getElem?_getD, List.getElem?_set]
  by_cases e : i * n + j = i' * n + j'
  · obtain ⟨rfl, rfl⟩ := wy_inj hj hj' e
    simp [hl, wy_lt hi hj]
  · rw [if_neg e, if_neg (fun h => e (by rw [h.1, h.2])), ← List.getD_eq_getElem?_getD]
/-- What holds while the references are marked. -/
structure WyF (gs : List (List Val)) (n q : Nat) (ws : List Bool) : Prop where
  len : ws.length = n * n
  at_ : ∀ i j : Nat, i < n → j < n → i * n + j < q → wyAt n ws i j = refers (fieldsI gs i) j
theorem WyF.step {gs : List (List Val)} {n i j : Nat} {ws : List Bool} (h : WyF gs n (i * n + j) ws) (hi : i < n) (hj : j < n) : WyF gs n (i * n + j + 1) (ws.set (i * n + j) (refers (fieldsI gs i) j)) := by
  refine ⟨by rw [List.length_set]; exact h.len, fun i' j' hi' hj' hq => ?_⟩
  rw [wy_setb h.len hi hj hj']
  split
  · rename_i e; rw [e.1, e.2]
  · rename_i e
    refine h.at_ _ _ hi' hj' ?_
    have : i' * n + j' ≠ i * n + j := fun e2 => e (wy_inj hj' hj e2)
    omega
theorem WyF.fin {gs : List (List Val)} {n : Nat} {ws : List Bool} (h : WyF gs n (n * n) ws) (hv : ∀ x : Int, ValsOk n (fieldsI gs x)) : WyI gs n 0 0 ws := by
  refine ⟨h.len, fun i j hi hj hw => ?_, fun i j hi hj hw => ?_, fun i j _ _ hq => by omega⟩
  · rw [h.at_ i j hi hj (wy_lt hi hj)] at hw
    exact .edge _ _ ((refers_iff _ _).1 hw)
  · rw [h.at_ i j hi hj (wy_lt hi hj)]
    cases hw with
    | edge _ _ h1 => exact (refers_iff _ _).2 h1
    | step _ m _ h1 h2 _ =>
      have h3 := (hv _ _ h1 rfl).1
      dsimp only at h3
      have h4 : m < 0 := by simpa using h2
      omega
theorem WyI.step {gs : List (List Val)} {n k i j : Nat} {ws : List Bool} (h : WyI gs n k (i * n + j) ws) (hk : k < n) (hi : i < n) (hj : j < n) :
    WyI gs n k (i * n + j + 1) (if wyAt n ws i k = true ∧ wyAt n ws k j = true then ws.set (i * n + j) true else ws) := by
  by_cases hc : wyAt n ws i k = true ∧ wyAt n ws k j = true
  · rw [if_pos hc]
    refine ⟨by rw [List.length_set]; exact h.len, fun i' j' hi' hj' hw => ?_, fun i' j' hi' hj' hv => ?_, fun i' j' hi' hj' hq hv => ?_⟩
    · rw [wy_set h.len hi hj hj'] at hw
      split at hw
      · rename_i e
        obtain ⟨rfl, rfl⟩ := e
        exact (h.sound _ _ hi hk hc.1).trans (by omega) (h.sound _ _ hk hj hc.2)
      · exact h.sound _ _ hi' hj' hw
    · rw [wy_set h.len hi hj hj']
      split
      · rfl
      · exact h.cov _ _ hi' hj' hv
    · rw [wy_set h.len hi hj hj']
      split
      · rfl
      · rename_i e
        refine h.more _ _ hi' hj' ?_ hv
        have : i' * n + j' ≠ i * n + j := fun e2 => e (wy_inj hj' hj e2)
        omega
  · rw [if_neg hc]
    refine ⟨h.len, h.sound, h.cov, fun i' j' hi' hj' hq hv => ?_⟩
    by_cases e : i' * n + j' = i * n + j
    · obtain ⟨rfl, rfl⟩ := wy_inj hj' hj e
      rcases hv.split with h1 | ⟨h1, h2⟩
      · exact h.cov _ _ hi hj h1
      · exact (hc ⟨h.cov _ _ hi hk h1, h.cov _ _ hk hj h2⟩).elim
    · exact h.more _ _ hi' hj' (by omega) hv
end Go.Proofs.Ytaajkldhnjoicaa

namespace Go.Proofs.Ytaajkldhnjoicaa

/-! ### Sums. -/
def sumN (f : Nat → Int) : Nat → Int
  | 0 => 0
  | n + 1 => sumN f n + f n
theorem sumN_congr {f g : Nat → Int} {n : Nat} (h : ∀ x, x < n → f x = g x) : sumN f n = sumN g n := by
  induction n with
  | zero => rfl
  | succ n ih => unfold sumN; rw [ih (fun x hx => h x (by omega)), h n (by omega)]
theorem sumN_mono {f g : Nat → Int} {n : Nat} (h : ∀ x, x < n → f x ≤ g x) : sumN f n ≤ sumN g n := by
  induction n with
  | zero => exact Int.le_refl _
  | succ n ih => have h1 := ih (fun x hx => h x (by omega)); have h2 := h n (by omega); unfold sumN; omega
theorem sumN_upd {f g : Nat → Int} {n i : Nat} (hi : i < n) (h : ∀ x, x < n → x ≠ i → f x = g x) : sumN f n = sumN g n + (f i - g i) := by
  induction n with
  | zero => omega
  | succ n ih =>
    unfold sumN
    by_cases e : i = n
    · subst e
      rw [sumN_congr (fun x hx => h x (by omega) (by omega))]; omega
    · rw [ih (by omega) (fun x hx => h x (by omega)), h n (by omega) (fun e2 => e e2.symm)]; omega
theorem sumN_nonneg {f : Nat → Int} {n : Nat} (h : ∀ x, x < n → 0 ≤ f x) : 0 ≤ sumN f n := by
  induction n with
  | zero => exact Int.le_refl _
  | succ n ih => have h1 := ih (fun x hx => h x (by omega)); have h2 := h n (by omega); unfold sumN; omega
theorem sumN_le {f : Nat → Int} {n : Nat} (c : Int) (h : ∀ x, x < n → f x ≤ c) : sumN f n ≤ c * (n : Int) := by
  induction n with
  | zero => simp [sumN]
  | succ n ih =>
    have h1 := ih (fun x hx => h x (by omega))
    have h2 := h n (by omega)
    unfold sumN
    rw [show ((n + 1 : Nat) : Int) = (n : Int) + 1 from by omega, Int.mul_add]
    omega
theorem sumN_pos {f : Nat → Int} {n : Nat} (h : ∀ x, x < n → 0 ≤ f x) : 0 < sumN f n ↔ ∃ x, x < n ∧ 0 < f x := by
  induction n with
  | zero => simp [sumN]
  | succ n ih =>
    have h1 := sumN_nonneg (fun x (hx : x < n) => h x (by omega))
    have h2 := h n (by omega)
    have h3 := ih (fun x hx => h x (by omega))
    unfold sumN
    constructor
    · intro hp
      by_cases e : 0 < f n
      · exact ⟨n, by omega, e⟩
      · obtain ⟨x, hx, hf⟩ := h3.1 (by omega)
        exact ⟨x, by omega, hf⟩
    · rintro ⟨x, hx, hf⟩
      by_cases e : x = n
      · subst e; omega
      · have := h3.2 ⟨x, by omega, hf⟩; omega
theorem sumN_sub {f g : Nat → Int} {n : Nat} : sumN (fun x => f x - g x) n = sumN f n - sumN g n := by
  induction n with
  | zero => rfl
  | succ n ih => unfold sumN; rw [ih]; omega

def cnt (xs : List Int) (j : Int) : Int := (xs.count j : Nat)
theorem cnt_nonneg (xs : List Int) (j : Int) : 0 ≤ cnt xs j := by unfold cnt; omega
theorem cnt_le (xs : List Int) (j : Int) : cnt xs j ≤ xs.length := by unfold cnt; have := List.count_le_length (l := xs) (a := j); omega
theorem cnt_pos (xs : List Int) (j : Int) : 0 < cnt xs j ↔ j ∈ xs := by unfold cnt; rw [← List.count_pos_iff]; omega
theorem cnt_snoc (xs : List Int) (x j : Int) : cnt (xs ++ [x]) j = cnt xs j + if x = j then 1 else 0 := by
  unfold cnt
  rw [List.count_append, List.count_singleton]
  by_cases e : x = j
  · subst e; simp
  · simp [e]
/-! ### Ways of no reference, too. -/
def Star (gs : List (List Val)) (n : Nat) (i x : Int) : Prop := x = i ∨ Via gs n i x
theorem Star.self {gs : List (List Val)} {n : Nat} (i : Int) : Star gs n i i := .inl rfl
theorem Star.head {gs : List (List Val)} {n : Nat} {i y x : Int} (h : (true, y) ∈ fieldsI gs i) (hy : y < (n : Int)) (h2 : Star gs n y x) : Star gs n i x := by
  rcases h2 with rfl | h2
  · exact .inr (.edge _ _ h)
  · exact .inr (.step _ _ _ h hy h2)
/-- What holds of a beginning, and goes on along references, holds of all that it leads to. -/
theorem Via.clos {gs : List (List Val)} {k : Int} {i x : Int} {Q : Int → Prop} (h : Via gs k i x) (hc : ∀ a b : Int, Q a → (true, b) ∈ fieldsI gs a → Q b) (hi : Q i) : Q x := by
  induction h with
  | edge i j h => exact hc _ _ hi h
  | step i m j h _ _ ih => exact ih (hc _ _ hi h)
theorem Star.clos {gs : List (List Val)} {n : Nat} {i x : Int} {Q : Int → Prop} (h : Star gs n i x) (hc : ∀ a b : Int, Q a → (true, b) ∈ fieldsI gs a → Q b) (hi : Q i) : Q x := by
  rcases h with rfl | h
  · exact hi
  · exact h.clos hc hi

/-! ### What is tried. -/
def SumT (gs : List (List Val)) (n : Nat) (h : List Int) (j : Int) : Int := sumN (fun x => if h.getD x 0 = 1 then cnt (tgts (fieldsI gs (x : Int))) j else 0) n
def Unt (n : Nat) (h : List Int) : Int := sumN (fun x => if h.getD x 0 = 1 then 0 else 1) n
structure Tk (gs : List (List Val)) (n : Nat) (P : Int → Prop) (h0 l0 h1 l1 : List Int) : Prop where
  lh : h1.length = n
  ll : l1.length = n
  mono : ∀ x : Nat, x < n → h0.getD x 0 = 1 → h1.getD x 0 = 1
  only : ∀ x : Nat, x < n → h1.getD x 0 = 1 → h0.getD x 0 = 1 ∨ P x
  clos : ∀ x : Nat, x < n → h1.getD x 0 = 1 → h0.getD x 0 ≠ 1 → ∀ y ∈ tgts (fieldsI gs (x : Int)), h1.getD y.toNat 0 = 1
  phi : ∀ j : Nat, j < n → l1.getD j 0 + SumT gs n h1 j = l0.getD j 0 + SumT gs n h0 j
  dec : ∀ j : Nat, j < n → l1.getD j 0 ≤ l0.getD j 0
structure TkL (gs : List (List Val)) (n : Nat) (i : Nat) (pre : List Int) (h0 l0 h1 l1 : List Int) : Prop where
  lh : h1.length = n
  ll : l1.length = n
  mono : ∀ x : Nat, x < n → h0.getD x 0 = 1 → h1.getD x 0 = 1
  only : ∀ x : Nat, x < n → h1.getD x 0 = 1 → h0.getD x 0 = 1 ∨ Star gs n i x
  self : h1.getD i 0 = 1
  clos : ∀ x : Nat, x < n → x ≠ i → h1.getD x 0 = 1 → h0.getD x 0 ≠ 1 → ∀ y ∈ tgts (fieldsI gs (x : Int)), h1.getD y.toNat 0 = 1
  seen : ∀ y ∈ pre, h1.getD y.toNat 0 = 1
  phi : ∀ j : Nat, j < n → l1.getD j 0 + SumT gs n h1 j = l0.getD j 0 + SumT gs n h0 j + cnt (tgts (fieldsI gs (i : Int))) j - cnt pre j
  dec : ∀ j : Nat, j < n → l1.getD j 0 ≤ l0.getD j 0
section
variable {gs : List (List Val)} {n : Nat}
theorem Tk.refl {P : Int → Prop} {h l : List Int} (hh : h.length = n) (hl : l.length = n) : Tk gs n P h l h l :=
  ⟨hh, hl, fun _ _ h => h, fun _ _ h => .inl h, fun _ _ h1 h2 => absurd h1 h2, fun _ _ => rfl, fun _ _ => Int.le_refl _⟩
theorem Tk.trans {P Q R : Int → Prop} {h0 l0 h1 l1 h2 l2 : List Int} (a : Tk gs n P h0 l0 h1 l1) (b : Tk gs n Q h1 l1 h2 l2) (hv : ∀ x : Int, ValsOk n (fieldsI gs x)) (hP : ∀ x, P x → R x) (hQ : ∀ x, Q x → R x) : Tk gs n R h0 l0 h2 l2 := by
  refine ⟨b.lh, b.ll, fun x hx h => b.mono x hx (a.mono x hx h), fun x hx h => ?_, fun x hx h h' y hy => ?_, fun j hj => (b.phi j hj).trans (a.phi j hj), fun j hj => Int.le_trans (b.dec j hj) (a.dec j hj)⟩
  · rcases b.only x hx h with h1 | h1
    · exact (a.only x hx h1).imp id (hP _)
    · exact .inr (hQ _ h1)
  · by_cases e : h1.getD x 0 = 1
    · have hr := hv _ _ (tgts_mem.1 hy) rfl
      dsimp only at hr
      exact b.mono _ (by omega) (a.clos x hx e h' y hy)
    · exact b.clos x hx h e y hy
theorem SumT_set {h : List Int} (hh : h.length = n) {i : Nat} (hi : i < n) (h0 : h.getD i 0 ≠ 1) (j : Int) : SumT gs n (h.set i 1) j = SumT gs n h j + cnt (tgts (fieldsI gs (i : Int))) j := by
  unfold SumT
  rw [sumN_upd (g := fun x => if h.getD x 0 = 1 then cnt (tgts (fieldsI gs (x : Int))) j else 0) hi (fun x _ hne => by rw [getD_set_ (by omega), if_neg hne])]
  simp only [getD_set_ (show i < h.length by omega), if_neg h0, if_true]
  omega
theorem Unt_set {h : List Int} (hh : h.length = n) {i : Nat} (hi : i < n) (h0 : h.getD i 0 ≠ 1) : Unt n (h.set i 1) = Unt n h - 1 := by
  unfold Unt
  rw [sumN_upd (g := fun x => if h.getD x 0 = 1 then 0 else 1) hi (fun x _ hne => by rw [getD_set_ (by omega), if_neg hne])]
  simp only [getD_set_ (show i < h.length by omega), if_neg h0, if_true]
  omega
theorem Unt_mono {h h' : List Int} (hm : ∀ x : Nat, x < n → h.getD x 0 = 1 → h'.getD x 0 = 1) : Unt n h' ≤ Unt n h := by
  unfold Unt
  refine sumN_mono fun x hx => ?_
  by_cases e : h.getD x 0 = 1
  · rw [if_pos e, if_pos (hm x hx e)]; omega
  · rw [if_neg e]; split <;> omega
theorem TkL.start {h l : List Int} (hh : h.length = n) (hl : l.length = n) {i : Nat} (hi : i < n) (h0 : h.getD i 0 ≠ 1) : TkL gs n i [] h l (h.set i 1) l := by
  have key : ∀ x : Nat, (h.set i 1).getD x 0 = if x = i then 1 else h.getD x 0 := fun x => getD_set_ (by omega)
  refine ⟨by rw [List.length_set]; exact hh, hl, fun x _ h1 => ?_, fun x _ h1 => ?_, by rw [key, if_pos rfl], fun x _ hne h1 h2 => ?_, by simp, fun j _ => ?_, fun _ _ => Int.le_refl _⟩
  · rw [key]; split <;> first | rfl | exact h1
  · rw [key] at h1
    by_cases e : x = i
    · subst e; exact .inr (Star.self _)
    · rw [if_neg e] at h1; exact .inl h1
  · rw [key, if_neg hne] at h1; exact absurd h1 h2
  · rw [SumT_set hh hi h0]; simp [cnt]; omega
theorem TkL.step {h0 l0 h l h2 l2 : List Int} {i z : Nat} {pre : List Int} (a : TkL gs n i pre h0 l0 h l) (hv : ∀ x : Int, ValsOk n (fieldsI gs x)) (hx : (z : Int) ∈ tgts (fieldsI gs (i : Int))) (hz : z < n)
    (b : Tk gs n (Star gs n z) h (l.set z (l.getD z 0 - 1)) h2 l2) (hs : h2.getD z 0 = 1) : TkL gs n i (pre ++ [(z : Int)]) h0 l0 h2 l2 := by
  have hst : ∀ x, Star gs n z x → Star gs n i x := fun x h => Star.head (tgts_mem.1 hx) (by omega) h
  have key : ∀ x : Nat, (l.set z (l.getD z 0 - 1)).getD x 0 = if x = z then l.getD z 0 - 1 else l.getD x 0 := fun x => getD_set_ (by have := a.ll; omega)
  have hi : i < n ∨ n ≤ i := Nat.lt_or_ge _ _
  refine ⟨b.lh, b.ll, fun x hx h => b.mono x hx (a.mono x hx h), fun x hx h => ?_, ?_, fun x hx hne q1 q2 y hy => ?_, fun y hy => ?_, fun j hj => ?_, fun j hj => ?_⟩
  · rcases b.only x hx h with h1 | h1
    · exact a.only x hx h1
    · exact .inr (hst _ h1)
  · rcases hi with hi | hi
    · exact b.mono i hi a.self
    · have h1 := a.self
      rw [List.getD_eq_getElem?_getD, List.getElem?_eq_none (by have := a.lh; omega)] at h1
      cases h1
  · by_cases e : h.getD x 0 = 1
    · have hr := hv _ _ (tgts_mem.1 hy) rfl
      dsimp only at hr
      exact b.mono _ (by omega) (a.clos x hx hne e q2 y hy)
    · exact b.clos x hx q1 e y hy
  · rcases List.mem_append.1 hy with h1 | h1
    · by_cases hyn : y.toNat < n
      · exact b.mono _ hyn (a.seen y h1)
      · have h2 := a.seen y h1
        rw [List.getD_eq_getElem?_getD, List.getElem?_eq_none (by have := a.lh; omega)] at h2
        cases h2
    · have : y = (z : Int) := by simpa using h1
      subst this
      exact hs
  · rw [b.phi j hj, key, cnt_snoc]
    have h1 := a.phi j hj
    by_cases e : j = z
    · subst e; rw [if_pos rfl, if_pos rfl]; omega
    · rw [if_neg e, if_neg (by omega)]; omega
  · refine Int.le_trans (b.dec j hj) ?_
    rw [key]
    have h1 := a.dec j hj
    split
    · rename_i e; subst e; omega
    · exact h1
theorem TkL.done {h0 l0 h l : List Int} {i : Nat} (a : TkL gs n i (tgts (fieldsI gs (i : Int))) h0 l0 h l) : Tk gs n (Star gs n i) h0 l0 h l ∧ h.getD i 0 = 1 := by
  refine ⟨⟨a.lh, a.ll, a.mono, a.only, fun x hx h1 h2 y hy => ?_, fun j hj => ?_, a.dec⟩, a.self⟩
  · by_cases e : x = i
    · subst e; exact a.seen y hy
    · exact a.clos x hx e h1 h2 y hy
  · rw [a.phi j hj]; omega
/-- Bounds: so many are not tried yet. -/
structure TkB (gs : List (List Val)) (n m : Nat) (h l : List Int) : Prop where
  unt : Unt n h ≤ m
  lo : ∀ j : Nat, j < n → 4 * (m : Int) - 1000 ≤ l.getD j 0 + SumT gs n h j
  hi : ∀ j : Nat, j < n → l.getD j 0 ≤ 1000
theorem SumT_le (h : List Int) (j : Int) (hf : ∀ x : Int, (fieldsI gs x).length ≤ 4) : SumT gs n h j ≤ 4 * (n : Int) := sumN_le 4 fun x _ => by
  split
  · have h1 := cnt_le (tgts (fieldsI gs (x : Int))) j
    have h2 := tgts_len (fieldsI gs (x : Int))
    have h3 := hf x
    omega
  · omega
theorem SumT_nonneg (h : List Int) (j : Int) : 0 ≤ SumT gs n h j := sumN_nonneg fun x _ => by
  split
  · exact cnt_nonneg _ _
  · omega
theorem TkB.pos {m : Nat} {h l : List Int} (a : TkB gs n m h l) {i : Nat} (hi : i < n) (h0 : h.getD i 0 ≠ 1) : 1 ≤ m := by
  have h1 : 0 < Unt n h := (sumN_pos (fun x _ => by split <;> omega)).2 ⟨i, hi, by rw [if_neg h0]; omega⟩
  have := a.unt
  omega
theorem TkB.next {m : Nat} {h0 l0 h l : List Int} {i z : Nat} {pre : List Int} (a : TkB gs n (m + 1) h0 l0) (hl0 : h0.length = n) (b : TkL gs n i pre h0 l0 h l) (hi : i < n) (hni : h0.getD i 0 ≠ 1) (hz : z < n) (hp : pre.length ≤ 3) : TkB gs n m h (l.set z (l.getD z 0 - 1)) := by
  have key : ∀ x : Nat, (l.set z (l.getD z 0 - 1)).getD x 0 = if x = z then l.getD z 0 - 1 else l.getD x 0 := fun x => getD_set_ (by have := b.ll; omega)
  refine ⟨?_, fun j hj => ?_, fun j hj => ?_⟩
  · have h1 := Unt_set hl0 hi hni
    have h2 : Unt n h ≤ Unt n (h0.set i 1) := Unt_mono fun x hx hx1 => by
      rw [getD_set_ (by omega)] at hx1
      by_cases e : x = i
      · subst e; exact b.self
      · rw [if_neg e] at hx1; exact b.mono x hx hx1
    have h3 := a.unt
    omega
  · rw [key]
    have h1 := b.phi j hj
    have h2 := a.lo j hj
    have h3 := cnt_nonneg (tgts (fieldsI gs (i : Int))) j
    have h4 := cnt_le pre j
    split
    · rename_i e; subst e; omega
    · omega
  · rw [key]
    have h1 := b.dec j hj
    have h2 := a.hi j hj
    split
    · rename_i e; subst e; omega
    · omega
theorem TkB.bnd {m : Nat} {h0 l0 h l : List Int} {i z : Nat} {pre : List Int} (a : TkB gs n m h0 l0) (b : TkL gs n i pre h0 l0 h l) (hz : z < n) (hp : pre.length ≤ 4) (hn : n ≤ 24) (hf : ∀ x : Int, (fieldsI gs x).length ≤ 4) : -2000 ≤ l.getD z 0 ∧ l.getD z 0 ≤ 1000 := by
  have h1 := b.phi z hz
  have h2 := a.lo z hz
  have h3 := cnt_nonneg (tgts (fieldsI gs (i : Int))) z
  have h4 := cnt_le pre z
  have h5 := SumT_le (n := n) h (z : Int) hf
  have h6 := b.dec z hz
  have h7 := a.hi z hz
  omega
theorem TkB.after {m : Nat} {P : Int → Prop} {h0 l0 h l : List Int} (a : TkB gs n m h0 l0) (b : Tk gs n P h0 l0 h l) : TkB gs n m h l :=
  ⟨Int.le_trans (Unt_mono b.mono) a.unt, fun j hj => by rw [b.phi j hj]; exact a.lo j hj, fun j hj => Int.le_trans (b.dec j hj) (a.hi j hj)⟩

/-! ### What is kept. -/
def Trn (n : Nat) (h : List Int) : Int := sumN (fun x => if h.getD x 0 = 1 then 1 else 0) n
structure Kp (gs : List (List Val)) (n : Nat) (P : Int → Prop) (h0 h1 : List Int) : Prop where
  lh : h1.length = n
  same : ∀ x : Nat, x < n → h1.getD x 0 = h0.getD x 0 ∨ (h0.getD x 0 = 1 ∧ h1.getD x 0 = 2 ∧ P x)
  clos : ∀ x : Nat, x < n → h0.getD x 0 = 1 → h1.getD x 0 = 2 → ∀ y ∈ tgts (fieldsI gs (x : Int)), h1.getD y.toNat 0 ≠ 1
structure KpL (gs : List (List Val)) (n : Nat) (i : Nat) (pre : List Int) (h0 h1 : List Int) : Prop where
  lh : h1.length = n
  same : ∀ x : Nat, x < n → h1.getD x 0 = h0.getD x 0 ∨ (h0.getD x 0 = 1 ∧ h1.getD x 0 = 2 ∧ Star gs n i x)
  self : h1.getD i 0 ≠ 1
  clos : ∀ x : Nat, x < n → x ≠ i → h0.getD x 0 = 1 → h1.getD x 0 = 2 → ∀ y ∈ tgts (fieldsI gs (x : Int)), h1.getD y.toNat 0 ≠ 1
  seen : ∀ y ∈ pre, h1.getD y.toNat 0 ≠ 1
theorem Kp.refl {P : Int → Prop} {h : List Int} (hh : h.length = n) : Kp gs n P h h := ⟨hh, fun _ _ => .inl rfl, fun _ _ h1 h2 => by omega⟩
theorem Kp.imp {P Q : Int → Prop} {h0 h1 : List Int} (a : Kp gs n P h0 h1) (hPQ : ∀ x, P x → Q x) : Kp gs n Q h0 h1 :=
  ⟨a.lh, fun x hx => (a.same x hx).imp id (fun h => ⟨h.1, h.2.1, hPQ _ h.2.2⟩), a.clos⟩
theorem Kp.off {P : Int → Prop} {h0 h1 : List Int} (a : Kp gs n P h0 h1) {x : Nat} (hx : x < n) (h : h0.getD x 0 ≠ 1) : h1.getD x 0 ≠ 1 := by
  rcases a.same x hx with h2 | ⟨h2, h3, _⟩
  · rw [h2]; exact h
  · omega
theorem Kp.trans {P Q R : Int → Prop} {h0 h1 h2 : List Int} (a : Kp gs n P h0 h1) (b : Kp gs n Q h1 h2) (hv : ∀ x : Int, ValsOk n (fieldsI gs x)) (hP : ∀ x, P x → R x) (hQ : ∀ x, Q x → R x) : Kp gs n R h0 h2 := by
  refine ⟨b.lh, fun x hx => ?_, fun x hx h h' y hy => ?_⟩
  · rcases a.same x hx with h3 | ⟨h3, h4, h5⟩
    · rcases b.same x hx with h6 | ⟨h6, h7, h8⟩
      · exact .inl (h6.trans h3)
      · exact .inr ⟨by rw [← h3]; exact h6, h7, hQ _ h8⟩
    · rcases b.same x hx with h6 | ⟨h6, h7, h8⟩
      · exact .inr ⟨h3, by rw [h6]; exact h4, hP _ h5⟩
      · omega
  · have hr := hv _ _ (tgts_mem.1 hy) rfl
    dsimp only at hr
    rcases a.same x hx with h3 | ⟨h3, h4, h5⟩
    · exact b.clos x hx (by omega) h' y hy
    · exact b.off (by omega) (a.clos x hx h h4 y hy)
theorem KpL.start {h : List Int} (hh : h.length = n) {i : Nat} (hi : i < n) (h0 : h.getD i 0 = 1) : KpL gs n i [] h (h.set i 2) := by
  have key : ∀ x : Nat, (h.set i 2).getD x 0 = if x = i then 2 else h.getD x 0 := fun x => getD_set_ (by omega)
  refine ⟨by rw [List.length_set]; exact hh, fun x _ => ?_, by rw [key, if_pos rfl]; omega, fun x _ hne h1 h2 => ?_, by simp⟩
  · rw [key]
    by_cases e : x = i
    · subst e; rw [if_pos rfl]; exact .inr ⟨h0, rfl, Star.self _⟩
    · rw [if_neg e]; exact .inl rfl
  · rw [key, if_neg hne] at h2; omega
theorem KpL.step {h0 h h2 : List Int} {i z : Nat} {pre : List Int} (a : KpL gs n i pre h0 h) (hv : ∀ x : Int, ValsOk n (fieldsI gs x)) (hi : i < n) (hx : (z : Int) ∈ tgts (fieldsI gs (i : Int))) (hz : z < n) (hp : ∀ y ∈ pre, y ∈ tgts (fieldsI gs (i : Int)))
    (b : Kp gs n (Star gs n z) h h2) (hs : h2.getD z 0 ≠ 1) : KpL gs n i (pre ++ [(z : Int)]) h0 h2 := by
  have hst : ∀ x, Star gs n z x → Star gs n i x := fun x h => Star.head (tgts_mem.1 hx) (by omega) h
  refine ⟨b.lh, fun x hx => ?_, b.off hi a.self, fun x hx hne h h' y hy => ?_, fun y hy => ?_⟩
  · rcases a.same x hx with h3 | ⟨h3, h4, h5⟩
    · rcases b.same x hx with h6 | ⟨h6, h7, h8⟩
      · exact .inl (h6.trans h3)
      · exact .inr ⟨by rw [← h3]; exact h6, h7, hst _ h8⟩
    · rcases b.same x hx with h6 | ⟨h6, h7, h8⟩
      · exact .inr ⟨h3, by rw [h6]; exact h4, h5⟩
      · omega
  · have hr := hv _ _ (tgts_mem.1 hy) rfl
    dsimp only at hr
    rcases a.same x hx with h3 | ⟨h3, h4, h5⟩
    · exact b.clos x hx (by omega) h' y hy
    · exact b.off (by omega) (a.clos x hx hne h h4 y hy)
  · rcases List.mem_append.1 hy with h1 | h1
    · have hr := hv _ _ (tgts_mem.1 (hp y h1)) rfl
      dsimp only at hr
      exact b.off (by omega) (a.seen y h1)
    · have : y = (z : Int) := by simpa using h1
      subst this
      exact hs
theorem KpL.done {h0 h : List Int} {i : Nat} (a : KpL gs n i (tgts (fieldsI gs (i : Int))) h0 h) : Kp gs n (Star gs n i) h0 h ∧ h.getD i 0 ≠ 1 := by
  refine ⟨⟨a.lh, a.same, fun x hx h1 h2 y hy => ?_⟩, a.self⟩
  by_cases e : x = i
  · subst e; exact a.seen y hy
  · exact a.clos x hx e h1 h2 y hy
theorem Trn_mono {h h' : List Int} (hm : ∀ x : Nat, x < n → h'.getD x 0 = 1 → h.getD x 0 = 1) : Trn n h' ≤ Trn n h := by
  unfold Trn
  refine sumN_mono fun x hx => ?_
  by_cases e : h'.getD x 0 = 1
  · rw [if_pos e, if_pos (hm x hx e)]; omega
  · rw [if_neg e]; split <;> omega
theorem Trn_set {h : List Int} (hh : h.length = n) {i : Nat} (hi : i < n) (h0 : h.getD i 0 = 1) : Trn n (h.set i 2) = Trn n h - 1 := by
  unfold Trn
  rw [sumN_upd (g := fun x => if h.getD x 0 = 1 then 1 else 0) hi (fun x _ hne => by rw [getD_set_ (by omega), if_neg hne])]
  simp only [getD_set_ (show i < h.length by omega), if_pos h0, if_true]
  simp
  omega
theorem Trn_pos {h : List Int} {i : Nat} (hi : i < n) (h0 : h.getD i 0 = 1) : 1 ≤ Trn n h := by
  have h1 : 0 < Trn n h := (sumN_pos (fun x _ => by split <;> omega)).2 ⟨i, hi, by rw [if_pos h0]; omega⟩
  omega
theorem KpL.trn {m : Nat} {h0 h : List Int} {i : Nat} {pre : List Int} (a : KpL gs n i pre h0 h) (hl0 : h0.length = n) (hi : i < n) (h1 : h0.getD i 0 = 1) (hm : Trn n h0 ≤ (m + 1 : Nat)) : Trn n h ≤ m := by
  have h2 := Trn_set hl0 hi h1
  have h3 : Trn n h ≤ Trn n (h0.set i 2) := Trn_mono fun x hx hx1 => by
    rw [getD_set_ (by omega)]
    by_cases e : x = i
    · subst e; exact absurd hx1 a.self
    · rw [if_neg e]
      rcases a.same x hx with h4 | ⟨_, h4, _⟩
      · rw [← h4]; exact hx1
      · omega
  omega
theorem Kp.trn {P : Int → Prop} {h0 h : List Int} (a : Kp gs n P h0 h) : Trn n h ≤ Trn n h0 := Trn_mono fun x hx hx1 => by
  rcases a.same x hx with h4 | ⟨_, h4, _⟩
  · rw [← h4]; exact hx1
  · omega
end
end Go.Proofs.Ytaajkldhnjoicaa

namespace Go.Proofs.Ytaajkldhnjoicaa
open Go.RowKit

theorem bls_cellAt {w : World} {n c g : Nat} {l : List Bool} (h : (rowI 4 1 (some ⟨g, 0, none⟩) n c (bls l)).P w) (k : Nat) (hk : k < n) : w.cell? ⟨g, k, none⟩ = some (.bool (l.getD k false)) ∧ w.frozen? ⟨g, k, none⟩ = false := by
  obtain ⟨g', hg, h1, h2⟩ := bls_cell h k hk
  obtain rfl : g = g' := by injection hg with hg; injection hg
  exact ⟨h1, h2⟩

set_option maxRecDepth 100000 in
set_option maxHeartbeats 8000000 in
theorem ways_any (w : World) (AO AR : Option Addr) (nO cO nR cR : Nat) (obs : List Ob) (hO : ObsRd w (fun _ => True) AO nO obs) (hn : nO ≤ 24) (hfl : ∀ o ∈ obs, o.n ≤ 4) (hvg : ∀ x : Int, ValsOk nO (fieldsI (obs.map Ob.fields) x)) :
    Calls Try.prog 72 #[.agg #[.slice AO nO cO, .slice AR nR cR]] w fun e w' => ∃ A c ws, e = .returned (.slice A (nO * nO) c) ∧ (∀ i j : Nat, i < nO → j < nO → (wyAt nO ws i j = true ↔ Via (obs.map Ob.fields) nO i j)) ∧ Sep No w w' [rowI 4 1 A (nO * nO) c (bls ws)] := by
  have hS0 := (Sep.nil No w).blkAt 25 #[.slice AO nO cO, .slice AR nR cR] rfl
  have HOL := hide hO.len
  have HFL := hide hfl
  have HVG := hide hvg
  obtain ⟨gs, hgs⟩ : ∃ gs, obs.map Ob.fields = gs := ⟨_, rfl⟩
  have HGS := hide hgs
  rw [hgs] at HVG ⊢
  have hm1 : nO * nO ≤ 576 := Nat.mul_le_mul hn hn
  obtain ⟨N, hN⟩ : ∃ N, nO * nO = N := ⟨_, rfl⟩
  have HN := hide hN
  have hNi : ((nO : Int) * (nO : Int)) = (N : Int) := by rw [← hN]; simp
  rw [hN] at hm1 ⊢
  have HS0 := hide hS0
  obtain ⟨a1, a2, a3, a4⟩ := hS0.rules 0 (g := w.heap.size) (t := 25) rfl
  clear hS0 a4 hgs hN hfl hvg
  go_enter Try.func72, Try.ntmps72
  go_wp2_with (first
    | (at_make
       refine wpList_make rfl (.tmp 15) (.tmp 15) 75 rfl HS0.out Try.underlying75 bInfo (by omega) .i64 .i64 N rfl rfl (by omega) ?_
       intro w2 hS2 hb2
       rw [bMade, World.size_alloc] at hS2
       (have HS2 := hide hS2)
       clear hS2 hb2 HS0 a1 a2 a3))
  have HW0 := hide (show WyF gs nO (0 * nO) (List.replicate N false) from ⟨by rw [HN.out]; simp, fun i j _ _ h => by omega⟩)
  go_loopw [5] (fun s wr => ∃ (i : Nat) (ws : List Bool), i ≤ nO ∧ s = .int .i64 i ∧ Hid (WyF gs nO (i * nO) ws) ∧ Sep No w wr [blkI w.heap.size 25 #[.slice AO nO cO, .slice AR nR cR], rowI 4 1 (some ⟨w.heap.size + 1, 0, none⟩) N N (bls ws)]) (fun s _ => nO - (intOf s).toNat)
  case atStart => exact ⟨0, _, by omega, rfl, HW0, HS2.out⟩
  case round =>
    clear HS2 HW0
    obtain ⟨i, ws, hi, rfl, HW, hS⟩ := hrel
    by_cases hlt : i < nO
    · have hil : i < obs.length := by rw [HOL.out]; exact hlt
      obtain ⟨q, hq⟩ : ∃ q, i * nO = q := ⟨_, rfl⟩
      have HQ := hide hq
      have hqi : ((i : Int) * (nO : Int)) = (q : Int) := by rw [← hq]; simp
      have hqN : q + nO ≤ N := by rw [← hq, ← HN.out, ← Nat.succ_mul]; exact Nat.mul_le_mul_right _ hlt
      have hEach := hO.each _ (List.getElem_mem hil)
      have hFl := hO.flen (List.getElem_mem hil)
      obtain ⟨adO, hAO, _, _, hcO⟩ := hO.row.at_ hlt
      have hfi : fieldsI gs (i : Int) = obs[i].fields := by
        unfold fieldsI
        rw [← HGS.out, List.getD_eq_getElem?_getD]
        simp [List.getElem?_eq_getElem hil]
      have hfb := HFL.out _ (List.getElem_mem hil)
      have hRow := hO.row
      have hval : (obs.map Ob.val)[i]? = some obs[i].val := by simp [List.getElem?_eq_getElem hil]
      obtain ⟨o, ho⟩ : ∃ o, obs[i] = o := ⟨_, rfl⟩
      rw [ho] at hEach hFl hfi hfb hval
      unfold Ob.val at hval
      have HFI := hide hfi
      have HVAL := hide hval
      have HROW := hide hRow
      have HEACH := hide hEach
      rw [hq] at HW
      subst hAO
      clear hFl hfi hval hRow hEach ho hcO hq
      have HS := hide hS
      clear hS
      go_wp2_with fail
      go_loopw [6] (fun s w4 => ∃ (j : Nat) (ws : List Bool), j ≤ nO ∧ s = .int .i64 j ∧ Hid (WyF gs nO (q + j) ws) ∧ Sep No w w4 [blkI w.heap.size 25 #[.slice (some adO) nO cO, .slice AR nR cR], rowI 4 1 (some ⟨w.heap.size + 1, 0, none⟩) N N (bls ws)]) (fun s _ => nO - (intOf s).toNat)
      case atStart => exact ⟨0, ws, by omega, rfl, HW, HS.out⟩
      case round =>
        clear HS HW
        obtain ⟨j, wt, hj, rfl, HW, hS⟩ := hrel
        by_cases hlj : j < nO
        · obtain ⟨g1, g2, g3, g4⟩ := hS.rules 0 (g := w.heap.size) (t := 25) rfl
          obtain ⟨adO', hAO', _, had, hcO'⟩ := (HROW.out.below hS.below_).at_ hlt
          obtain rfl : adO = adO' := Option.some.inj hAO'
          have e0 := hcO' _ HVAL.out
          have C := refers_any wr o.A o.n o.c o.fields (j : Int) (by omega) (HEACH.out.below hS.below_)
          rw [← HFI.out] at C
          have HST := hide (HQ.out ▸ (HQ.out.symm ▸ HW.out : WyF gs nO (i * nO + j) wt).step hlt hlj : WyF gs nO (q + j + 1) (wt.set (q + j) (refers (fieldsI gs i) j)))
          obtain ⟨b, hb⟩ : ∃ b, refers (fieldsI gs (i : Int)) (j : Int) = b := ⟨_, rfl⟩
          rw [hb] at C HST
          have HC := hide C
          have HS := hide hS
          clear hS C hb hAO' hcO'
          go_wp2_with fail
          refine HC.out.mono ?_
          rintro e w5 ⟨rfl, hb5⟩
          have hS5 := HS.out.below hb5
          obtain ⟨f1, f2⟩ := bls_cellAt (hS5.get 1 rfl) (q + j) (by omega)
          have hS6 := hS5.store 1 (g := w.heap.size + 1) rfl (q + j) (.bool b)
          rw [bls_set] at hS6
          have HS6 := hide hS6
          obtain ⟨y, hy⟩ : ∃ y, wt.getD (q + j) false = y := ⟨_, rfl⟩
          rw [hy] at f1
          have hSg5 := hS5.hi 1 rfl (w.heap.size + 1) rfl
          clear hS5 hS6 HC HS hb5 hy g1 g2 g3 g4 e0 had
          go_wp2_with fail
          go_roundw
          case rel => exact ⟨j + 1, _, by omega, by go_num, HST, HS6.out⟩
          case measure => simp [intOf]; omega
        · obtain rfl : j = nO := by omega
          have HW2 := hide (show WyF gs j ((i + 1) * j) wt from by rw [Nat.succ_mul, HQ.out]; exact HW.out)
          have HS := hide hS
          clear hS HW
          go_wp2_with fail
          go_roundw
          case rel => exact ⟨i + 1, wt, by omega, by go_num, HW2, HS.out⟩
          case measure => simp [intOf]; omega
    · obtain rfl : i = nO := by omega
      have HW1 := hide (show WyI gs i 0 0 ws from WyF.fin HW.out HVG.out)
      have HS := hide hS
      clear hS HW
      go_wp2_with fail
      go_loopw [7] (fun s wr => ∃ (k : Nat) (ws : List Bool), k ≤ i ∧ s = .int .i64 k ∧ Hid (WyI gs i k 0 ws) ∧ Sep No w wr [blkI w.heap.size 25 #[.slice AO i cO, .slice AR nR cR], rowI 4 1 (some ⟨w.heap.size + 1, 0, none⟩) N N (bls ws)]) (fun s _ => i - (intOf s).toNat)
      case atStart => exact ⟨0, ws, by omega, rfl, HW1, HS.out⟩
      case round =>
        clear HS HW1
        obtain ⟨k, wt, hk, rfl, HW, hS⟩ := hrel
        by_cases hlk : k < i
        · obtain ⟨r, hr⟩ : ∃ r, k * i = r := ⟨_, rfl⟩
          have HR := hide hr
          have hri : ((k : Int) * (i : Int)) = (r : Int) := by rw [← hr]; simp
          have hrN : r + i ≤ N := by rw [← hr, ← HN.out, ← Nat.succ_mul]; exact Nat.mul_le_mul_right _ hlk
          have HS := hide hS
          have HW0 := hide (show WyI gs i k (0 * i) wt from by rw [Nat.zero_mul]; exact HW.out)
          clear hS hr HW
          go_wp2_with fail
          go_loopw [8] (fun s wr => ∃ (m : Nat) (ws : List Bool), m ≤ i ∧ s = .int .i64 m ∧ Hid (WyI gs i k (m * i) ws) ∧ Sep No w wr [blkI w.heap.size 25 #[.slice AO i cO, .slice AR nR cR], rowI 4 1 (some ⟨w.heap.size + 1, 0, none⟩) N N (bls ws)]) (fun s _ => i - (intOf s).toNat)
          case atStart => exact ⟨0, wt, by omega, rfl, HW0, HS.out⟩
          case round =>
            clear HS HW0
            obtain ⟨m, wu, hm, rfl, HW, hS⟩ := hrel
            by_cases hlm : m < i
            · obtain ⟨q, hq⟩ : ∃ q, m * i = q := ⟨_, rfl⟩
              have HQ := hide hq
              have hqi : ((m : Int) * (i : Int)) = (q : Int) := by rw [← hq]; simp
              have hqN : q + i ≤ N := by rw [← hq, ← HN.out, ← Nat.succ_mul]; exact Nat.mul_le_mul_right _ hlm
              rw [hq] at HW
              have HS := hide hS
              clear hS hq
              go_wp2_with fail
              go_loopw [9] (fun s wr => ∃ (j : Nat) (ws : List Bool), j ≤ i ∧ s = .int .i64 j ∧ Hid (WyI gs i k (q + j) ws) ∧ Sep No w wr [blkI w.heap.size 25 #[.slice AO i cO, .slice AR nR cR], rowI 4 1 (some ⟨w.heap.size + 1, 0, none⟩) N N (bls ws)]) (fun s _ => i - (intOf s).toNat)
              case atStart => exact ⟨0, wu, by omega, rfl, HW, HS.out⟩
              case round =>
                clear HS HW
                obtain ⟨j, wv, hj, rfl, HW, hS⟩ := hrel
                by_cases hlj : j < i
                · obtain ⟨f1, f2⟩ := bls_cellAt (hS.get 1 rfl) (q + k) (by omega)
                  obtain ⟨f3, f4⟩ := bls_cellAt (hS.get 1 rfl) (r + j) (by omega)
                  obtain ⟨f5, f6⟩ := bls_cellAt (hS.get 1 rfl) (q + j) (by omega)
                  have hst := (HQ.out.symm ▸ HW.out : WyI gs i k (m * i + j) wv).step hlk hlm hlj
                  have e1 : wyAt i wv m k = wv.getD (q + k) false := by unfold wyAt; rw [HQ.out]
                  have e2 : wyAt i wv k j = wv.getD (r + j) false := by unfold wyAt; rw [HR.out]
                  rw [e1, e2, HQ.out] at hst
                  have hS6 := hS.store 1 (g := w.heap.size + 1) rfl (q + j) (.bool true)
                  rw [bls_set] at hS6
                  have HS6 := hide hS6
                  have HS := hide hS
                  have hSg := hS.hi 1 rfl (w.heap.size + 1) rfl
                  obtain ⟨y1, hy1⟩ : ∃ y, wv.getD (q + k) false = y := ⟨_, rfl⟩
                  obtain ⟨y2, hy2⟩ : ∃ y, wv.getD (r + j) false = y := ⟨_, rfl⟩
                  obtain ⟨y3, hy3⟩ : ∃ y, wv.getD (q + j) false = y := ⟨_, rfl⟩
                  rw [hy1] at f1 hst
                  rw [hy2] at f3 hst
                  rw [hy3] at f5
                  clear hS hS6 e1 e2 hy1 hy2 hy3 HW
                  cases y1 with
                  | true =>
                    cases y2 with
                    | true =>
                      have HST := hide (show WyI gs i k (q + j + 1) (wv.set (q + j) true) from by rw [if_pos ⟨rfl, rfl⟩] at hst; exact hst)
                      clear hst
                      go_wp2_with fail
                      go_roundw
                      case rel => exact ⟨j + 1, _, by omega, by go_num, HST, HS6.out⟩
                      case measure => simp [intOf]; omega
                    | false =>
                      have HST := hide (show WyI gs i k (q + j + 1) wv from by rw [if_neg (by simp)] at hst; exact hst)
                      clear hst
                      go_wp2_with fail
                      go_roundw
                      case rel => exact ⟨j + 1, _, by omega, by go_num, HST, HS.out⟩
                      case measure => simp [intOf]; omega
                  | false =>
                    have HST := hide (show WyI gs i k (q + j + 1) wv from by rw [if_neg (by simp)] at hst; exact hst)
                    clear hst
                    go_wp2_with fail
                    go_roundw
                    case rel => exact ⟨j + 1, _, by omega, by go_num, HST, HS.out⟩
                    case measure => simp [intOf]; omega
                · obtain rfl : j = i := by omega
                  have HW2 := hide (show WyI gs j k ((m + 1) * j) wv from by rw [Nat.succ_mul, HQ.out]; exact HW.out)
                  have HS := hide hS
                  clear hS HW
                  go_wp2_with fail
                  go_roundw
                  case rel => exact ⟨m + 1, wv, by omega, by go_num, HW2, HS.out⟩
                  case measure => simp [intOf]; omega
            · obtain rfl : m = i := by omega
              have HW2 := hide (show WyI gs m (k + 1) 0 wu from WyI.next HW.out)
              have HS := hide hS
              clear hS HW
              go_wp2_with fail
              go_roundw
              case rel => exact ⟨k + 1, wu, by omega, by go_num, HW2, HS.out⟩
              case measure => simp [intOf]; omega
        · obtain rfl : k = i := by omega
          have HFI := hide (show ∀ a b : Nat, a < k → b < k → (wyAt k wt a b = true ↔ Via gs k a b) from fun a b ha hb => ⟨HW.out.sound a b ha hb, HW.out.cov a b ha hb⟩)
          have HS := hide hS
          clear hS HW
          go_wp2_with fail
          go_ret
          exact ⟨_, N, wt, rfl, HFI.out, HS.out.sub (by simp)⟩
end Go.Proofs.Ytaajkldhnjoicaa
