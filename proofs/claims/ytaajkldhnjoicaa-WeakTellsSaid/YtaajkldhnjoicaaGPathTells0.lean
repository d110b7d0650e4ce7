/- Paths: how each object is come to first; plain. Paths: the first of the shortest ones; plain. Paths: first's closure. -/
import Derived.Test.YtaajkldhnjoicaaGGraphTells6
import Derived.Maps.OwnOps
import Derived.Maps.OwnSet
import Derived.Maps.Views
set_option linter.unusedSimpArgs false
set_option linter.unusedVariables false
namespace Go.Proofs.Ytaajkldhnjoicaa

/-- An object as it is found: its number, from where it was come to (-1: a root), and the place of the way: 8 times (0: a root; 1 + the place of where it came from), and the root's place, or the field. -/
abbrev Stp := Int × Int × Nat
def pTake (fr : Int) (q : Nat) (S : List Stp) (v : Val) : List Stp := if v.1 = true ∧ v.2 ∉ S.map (·.1) then S ++ [(v.2, fr, q)] else S
def pTks (fr : Int) (base : Nat) (vs : List Val) (S : List Stp) (k : Nat) : List Stp := (List.range k).foldl (fun S f => pTake fr (base + f) S (vs.getD f (false, 0))) S
def pX (S : List Stp) (i : Nat) : Int := (S.getD i (0, 0, 0)).1
def pF (S : List Stp) (i : Nat) : Int := (S.getD i (0, 0, 0)).2.1
def pQ (S : List Stp) (i : Nat) : Nat := (S.getD i (0, 0, 0)).2.2
def pBfs (gs : List (List Val)) : Nat → Nat → List Stp → List Stp
  | 0, _, S => S
  | f + 1, k, S => if k < S.length then pBfs gs f (k + 1) (pTks (pX S k) ((k + 1) * 8) (fieldsI gs (pX S k)) S (fieldsI gs (pX S k)).length) else S
def pAll (gs : List (List Val)) (vs : List Val) : List Stp := pBfs gs gs.length 0 (pTks (-1) 0 vs [] vs.length)

theorem pTks_zero (fr : Int) (base : Nat) (vs : List Val) (S : List Stp) : pTks fr base vs S 0 = S := rfl
theorem pTks_succ (fr : Int) (base : Nat) (vs : List Val) (S : List Stp) (k : Nat) : pTks fr base vs S (k + 1) = pTake fr (base + k) (pTks fr base vs S k) (vs.getD k (false, 0)) := by unfold pTks; rw [range_snoc_fold]
theorem pTake_fst (fr : Int) (q : Nat) (S : List Stp) (v : Val) : (pTake fr q S v).map (·.1) = seen1 (S.map (·.1)) v := by
  unfold pTake seen1
  split <;> simp
theorem pTks_fst (fr : Int) (base : Nat) (vs : List Val) (S : List Stp) (k : Nat) (hk : k ≤ vs.length) : (pTks fr base vs S k).map (·.1) = seenAll (S.map (·.1)) (vs.take k) := by
  induction k with
  | zero => rfl
  | succ k ih =>
    rw [pTks_succ, pTake_fst, ih (by omega), List.take_succ_eq_append_getElem (by omega)]
    unfold seenAll
    rw [List.foldl_append, List.getD_eq_getElem?_getD, List.getElem?_eq_getElem (by omega)]
    rfl
theorem pX_fst (S : List Stp) (k : Nat) : pX S k = (S.map (·.1)).getD k 0 := by
  unfold pX
  rw [List.getD_eq_getElem?_getD, List.getD_eq_getElem?_getD, List.getElem?_map]
  cases S[k]? <;> rfl
theorem pBfs_fst (gs : List (List Val)) (f k : Nat) (S : List Stp) : (pBfs gs f k S).map (·.1) = bfs gs f k (S.map (·.1)) := by
  induction f generalizing k S with
  | zero => rfl
  | succ f ih =>
    unfold pBfs bfs
    rw [List.length_map]
    split
    · rw [ih, pTks_fst _ _ _ _ _ (Nat.le_refl _), List.take_length, pX_fst]
    · rfl
theorem pAll_fst (gs : List (List Val)) (vs : List Val) : (pAll gs vs).map (·.1) = order gs vs := by
  unfold pAll order
  rw [pBfs_fst, pTks_fst _ _ _ _ _ (Nat.le_refl _), List.take_length]
  rfl
theorem pBfs_step (gs : List (List Val)) (n k : Nat) (S : List Stp) (h : k < S.length) (hn : S.length ≤ n) : pBfs gs (n - k) k S = pBfs gs (n - (k + 1)) (k + 1) (pTks (pX S k) ((k + 1) * 8) (fieldsI gs (pX S k)) S (fieldsI gs (pX S k)).length) := by
  rw [show n - k = (n - (k + 1)) + 1 by omega]
  conv => lhs; unfold pBfs
  rw [if_pos h]
theorem pBfs_end (gs : List (List Val)) (f k : Nat) (S : List Stp) (h : S.length ≤ k) : pBfs gs f k S = S := by
  cases f with
  | zero => rfl
  | succ f => unfold pBfs; rw [if_neg (by omega)]
theorem pTake_pre (fr : Int) (q : Nat) (S : List Stp) (v : Val) : S <+: pTake fr q S v := by
  unfold pTake; split
  · exact List.prefix_append _ _
  · exact List.prefix_refl _
theorem pTks_pre (fr : Int) (base : Nat) (vs : List Val) (S : List Stp) (k : Nat) : S <+: pTks fr base vs S k := by
  induction k with
  | zero => exact List.prefix_refl _
  | succ k ih => rw [pTks_succ]; exact ih.trans (pTake_pre _ _ _ _)
theorem p_at {S : List Stp} {i : Nat} (h : i < S.length) : S[i] = (pX S i, pF S i, pQ S i) := by
  unfold pX pF pQ
  rw [List.getD_eq_getElem?_getD, List.getElem?_eq_getElem h]
  rfl
theorem p_pre {S T : List Stp} (h : S <+: T) {i : Nat} (hi : i < S.length) : pX T i = pX S i ∧ pF T i = pF S i ∧ pQ T i = pQ S i := by
  obtain ⟨u, rfl⟩ := h
  unfold pX pF pQ
  rw [List.getD_eq_getElem?_getD, List.getD_eq_getElem?_getD, List.getElem?_append_left hi]
  exact ⟨rfl, rfl, rfl⟩

/-- All ways below Q are looked at. -/
structure PInv (gs : List (List Val)) (vs : List Val) (S : List Stp) (Q : Nat) : Prop where
  ok : OrdOk gs.length (S.map (·.1))
  lt : ∀ i, i < S.length → pQ S i < Q ∧ pQ S i / 8 ≤ i
  rt : ∀ i, i < S.length → pQ S i / 8 = 0 → pF S i = -1 ∧ vs[pQ S i]? = some (true, pX S i)
  fd : ∀ i, i < S.length → ∀ p, pQ S i / 8 = p + 1 → pF S i = pX S p ∧ (fieldsI gs (pX S p))[pQ S i % 8]? = some (true, pX S i)
  up : ∀ i j, i < j → j < S.length → pQ S i < pQ S j
  croot : ∀ r x, r < 8 → r < Q → vs[r]? = some (true, x) → ∃ i, i < S.length ∧ pX S i = x ∧ pQ S i ≤ r
  cfield : ∀ p f x, p < S.length → f < 8 → (p + 1) * 8 + f < Q → (fieldsI gs (pX S p))[f]? = some (true, x) → ∃ i, i < S.length ∧ pX S i = x ∧ pQ S i ≤ (p + 1) * 8 + f
theorem PInv.start (gs : List (List Val)) (vs : List Val) : PInv gs vs [] 0 :=
  ⟨OrdOk.nil _, by simp, by simp, by simp, by simp, by omega, by simp⟩
/-- A way at Q: src is where it begins. -/
theorem PInv.take {gs : List (List Val)} {vs : List Val} {S : List Stp} {Q : Nat} (h : PInv gs vs S Q) (fr : Int) (v : Val)
    (hv : v.1 = true → 0 ≤ v.2 ∧ v.2 < (gs.length : Int))
    (hsrc : (Q / 8 = 0 ∧ fr = -1 ∧ vs[Q]? = some v) ∨ ∃ p, Q / 8 = p + 1 ∧ p < S.length ∧ fr = pX S p ∧ (fieldsI gs (pX S p))[Q % 8]? = some v) : PInv gs vs (pTake fr Q S v) (Q + 1) := by
  have hpre := pTake_pre fr Q S v
  have hlen : Q / 8 ≤ S.length := by rcases hsrc with ⟨h1, _⟩ | ⟨p, h1, h2, _⟩ <;> omega
  have hcase : (v.1 = true ∧ v.2 ∉ S.map (·.1) ∧ pTake fr Q S v = S ++ [(v.2, fr, Q)]) ∨ ((v.1 = true → v.2 ∈ S.map (·.1)) ∧ pTake fr Q S v = S) := by
    unfold pTake
    by_cases hc : v.1 = true ∧ v.2 ∉ S.map (·.1)
    · rw [if_pos hc]; exact .inl ⟨hc.1, hc.2, rfl⟩
    · rw [if_neg hc]; exact .inr ⟨fun h1 => Decidable.byContradiction fun h2 => hc ⟨h1, h2⟩, rfl⟩
  have hok : OrdOk gs.length ((pTake fr Q S v).map (·.1)) := by rw [pTake_fst]; exact h.ok.seen1 hv
  rcases hcase with ⟨hv1, hv2, he⟩ | ⟨hv2, he⟩
  · rw [he] at hok hpre ⊢
    have hnew : pX (S ++ [(v.2, fr, Q)]) S.length = v.2 ∧ pF (S ++ [(v.2, fr, Q)]) S.length = fr ∧ pQ (S ++ [(v.2, fr, Q)]) S.length = Q := by
      unfold pX pF pQ
      rw [List.getD_eq_getElem?_getD, List.getElem?_append_right (Nat.le_refl _)]
      simp
    have hv0 : v = (true, v.2) := by rw [← hv1]
    have hl : (S ++ [(v.2, fr, Q)]).length = S.length + 1 := by simp
    refine ⟨hok, fun i hi => ?_, fun i hi h0 => ?_, fun i hi p hp => ?_, fun i j hij hj => ?_, fun r x hr8 hr hx => ?_, fun p f x hp hf hq hx => ?_⟩
    · rw [hl] at hi
      rcases Nat.lt_or_ge i S.length with h1 | h1
      · obtain ⟨e1, e2, e3⟩ := p_pre hpre h1
        have := h.lt i h1
        rw [e3]; omega
      · obtain rfl : i = S.length := by omega
        rw [hnew.2.2]; omega
    · rw [hl] at hi
      rcases Nat.lt_or_ge i S.length with h1 | h1
      · obtain ⟨e1, e2, e3⟩ := p_pre hpre h1
        rw [e1, e2, e3]
        rw [e3] at h0
        exact h.rt i h1 h0
      · obtain rfl : i = S.length := by omega
        rw [hnew.2.2] at h0 ⊢
        rw [hnew.1, hnew.2.1]
        rcases hsrc with ⟨_, h2, h3⟩ | ⟨p, h2, _⟩
        · exact ⟨h2, by rw [h3, ← hv0]⟩
        · omega
    · rw [hl] at hi
      rcases Nat.lt_or_ge i S.length with h1 | h1
      · obtain ⟨e1, e2, e3⟩ := p_pre hpre h1
        rw [e3] at hp
        have hpl : p < S.length := by have := (h.lt i h1).2; omega
        rw [e1, e2, e3, (p_pre hpre hpl).1]
        exact h.fd i h1 p hp
      · obtain rfl : i = S.length := by omega
        rw [hnew.2.2] at hp ⊢
        rw [hnew.1, hnew.2.1]
        rcases hsrc with ⟨h2, _⟩ | ⟨p', h2, h3, h4, h5⟩
        · omega
        · obtain rfl : p = p' := by omega
          rw [(p_pre hpre h3).1]
          exact ⟨h4, by rw [h5, ← hv0]⟩
    · rw [hl] at hj
      rcases Nat.lt_or_ge j S.length with h1 | h1
      · rw [(p_pre hpre h1).2.2, (p_pre hpre (by omega : i < S.length)).2.2]
        exact h.up i j hij h1
      · obtain rfl : j = S.length := by omega
        rw [hnew.2.2, (p_pre hpre (by omega : i < S.length)).2.2]
        exact (h.lt i (by omega)).1
    · rcases Nat.lt_or_ge r Q with h1 | h1
      · obtain ⟨i, hi, e1, e2⟩ := h.croot r x hr8 h1 hx
        exact ⟨i, by rw [hl]; omega, by rw [(p_pre hpre hi).1]; exact e1, by rw [(p_pre hpre hi).2.2]; exact e2⟩
      · obtain rfl : r = Q := by omega
        refine ⟨S.length, by rw [hl]; omega, ?_, by rw [hnew.2.2]; omega⟩
        rcases hsrc with ⟨_, _, h3⟩ | ⟨p, h2, _⟩
        · rw [h3] at hx
          injection hx with hx
          rw [hnew.1, hx]
        · omega
    · rw [hl] at hp
      rcases Nat.lt_or_ge ((p + 1) * 8 + f) Q with h1 | h1
      · rcases Nat.lt_or_ge p S.length with h2 | h2
        · rw [(p_pre hpre h2).1] at hx
          obtain ⟨i, hi, e1, e2⟩ := h.cfield p f x h2 hf h1 hx
          exact ⟨i, by rw [hl]; omega, by rw [(p_pre hpre hi).1]; exact e1, by rw [(p_pre hpre hi).2.2]; exact e2⟩
        · omega
      · have hq : (p + 1) * 8 + f = Q := by omega
        refine ⟨S.length, by rw [hl]; omega, ?_, by rw [hnew.2.2]; omega⟩
        rcases hsrc with ⟨h2, _⟩ | ⟨p', h2, h3, h4, h5⟩
        · omega
        · obtain rfl : p = p' := by omega
          rw [(p_pre hpre h3).1] at hx
          obtain rfl : f = Q % 8 := by omega
          rw [h5] at hx
          injection hx with hx
          rw [hnew.1, hx]
  · rw [he]
    have hthere : ∀ x, v = (true, x) → ∃ i, i < S.length ∧ pX S i = x ∧ pQ S i ≤ Q := by
      intro x hx
      subst hx
      obtain ⟨y, hy, hyx⟩ := List.mem_map.1 (hv2 rfl)
      obtain ⟨i, hi, rfl⟩ := List.mem_iff_getElem.1 hy
      rw [p_at hi] at hyx
      exact ⟨i, hi, hyx, by have := (h.lt i hi).1; omega⟩
    refine ⟨h.ok, fun i hi => by have := h.lt i hi; omega, h.rt, h.fd, h.up, fun r x hr8 hr hx => ?_, fun p f x hp hf hq hx => ?_⟩
    · rcases Nat.lt_or_ge r Q with h1 | h1
      · exact h.croot r x hr8 h1 hx
      · obtain rfl : r = Q := by omega
        rcases hsrc with ⟨_, _, h3⟩ | ⟨p, h2, _⟩
        · rw [h3] at hx
          injection hx with hx
          exact hthere x hx
        · omega
    · rcases Nat.lt_or_ge ((p + 1) * 8 + f) Q with h1 | h1
      · exact h.cfield p f x hp hf h1 hx
      · have hq : (p + 1) * 8 + f = Q := by omega
        rw [hq]
        rcases hsrc with ⟨h2, _⟩ | ⟨p', h2, h3, h4, h5⟩
        · omega
        · obtain rfl : p = p' := by omega
          obtain rfl : f = Q % 8 := by omega
          rw [h5] at hx
          injection hx with hx
          exact hthere x hx
/-- Where there is no way nothing turns. -/
theorem PInv.skip {gs : List (List Val)} {vs : List Val} {S : List Stp} {Q Q' : Nat} (h : PInv gs vs S Q) (hq : Q ≤ Q') (h1 : ∀ r, r < 8 → Q ≤ r → vs[r]? = none) (h2 : ∀ p f, p < S.length → f < 8 → Q ≤ (p + 1) * 8 + f → (p + 1) * 8 + f < Q' → (fieldsI gs (pX S p))[f]? = none) : PInv gs vs S Q' := by
  refine ⟨h.ok, fun i hi => by have := h.lt i hi; omega, h.rt, h.fd, h.up, fun r x hr8 hr hx => ?_, fun p f x hp hf hq hx => ?_⟩
  · rcases Nat.lt_or_ge r Q with h3 | h3
    · exact h.croot r x hr8 h3 hx
    · rw [h1 r hr8 h3] at hx; cases hx
  · rcases Nat.lt_or_ge ((p + 1) * 8 + f) Q with h3 | h3
    · exact h.cfield p f x hp hf h3 hx
    · rw [h2 p f hp hf h3 hq] at hx; cases hx
theorem PInv.roots {gs : List (List Val)} {vs : List Val} (hv : ValsOk gs.length vs) (hl : vs.length ≤ 8) (k : Nat) (hk : k ≤ vs.length) : PInv gs vs (pTks (-1) 0 vs [] k) k := by
  induction k with
  | zero => exact .start gs vs
  | succ k ih =>
    rw [pTks_succ, Nat.zero_add]
    have e : vs[k]? = some (vs.getD k (false, 0)) := by rw [List.getD_eq_getElem?_getD, List.getElem?_eq_getElem (by omega)]; rfl
    exact (ih (by omega)).take (-1) _ (hv _ (List.mem_of_getElem? e)) (.inl ⟨by omega, rfl, e⟩)
theorem PInv.fields {gs : List (List Val)} {vs : List Val} (hg : ∀ fs ∈ gs, ValsOk gs.length fs) {S : List Stp} {p : Nat} (h : PInv gs vs S ((p + 1) * 8)) (hp : p < S.length) (hl : (fieldsI gs (pX S p)).length ≤ 8) (k : Nat) (hk : k ≤ (fieldsI gs (pX S p)).length) :
    PInv gs vs (pTks (pX S p) ((p + 1) * 8) (fieldsI gs (pX S p)) S k) ((p + 1) * 8 + k) := by
  induction k with
  | zero => exact h
  | succ k ih =>
    rw [pTks_succ]
    have e : (fieldsI gs (pX S p))[k]? = some ((fieldsI gs (pX S p)).getD k (false, 0)) := by rw [List.getD_eq_getElem?_getD, List.getElem?_eq_getElem (by omega)]; rfl
    have hpre := pTks_pre (pX S p) ((p + 1) * 8) (fieldsI gs (pX S p)) S k
    have hp' : p < (pTks (pX S p) ((p + 1) * 8) (fieldsI gs (pX S p)) S k).length := Nat.lt_of_lt_of_le hp hpre.length_le
    exact (ih (by omega)).take (pX S p) _ (fieldsI_ok hg _ _ (List.mem_of_getElem? e)) (.inr ⟨p, by omega, hp', by rw [(p_pre hpre hp).1], by rw [(p_pre hpre hp).1, show ((p + 1) * 8 + k) % 8 = k by omega]; exact e⟩)
theorem PInv.bfs {gs : List (List Val)} {vs : List Val} (hg : ∀ fs ∈ gs, ValsOk gs.length fs) (hl : ∀ fs ∈ gs, fs.length ≤ 4) (f : Nat) : ∀ (k : Nat) (S : List Stp), gs.length ≤ f + k → PInv gs vs S ((k + 1) * 8) → ∃ Q, PInv gs vs (pBfs gs f k S) Q ∧ ((pBfs gs f k S).length + 1) * 8 ≤ Q := by
  have hfl : ∀ x, (fieldsI gs x).length ≤ 4 := fun x => by
    unfold fieldsI
    rw [List.getD_eq_getElem?_getD]
    rcases Nat.lt_or_ge x.toNat gs.length with h | h
    · rw [List.getElem?_eq_getElem h]; exact hl _ (List.getElem_mem h)
    · rw [List.getElem?_eq_none h]; simp
  induction f with
  | zero =>
    intro k S hk h
    have := h.ok.len
    rw [List.length_map] at this
    exact ⟨_, h, by unfold pBfs; omega⟩
  | succ f ih =>
    intro k S hk h
    unfold pBfs
    split
    · rename_i hlt
      refine ih (k + 1) _ (by omega) ?_
      have h1 := h.fields hg hlt (by have := hfl (pX S k); omega) _ (Nat.le_refl _)
      refine h1.skip (by have := hfl (pX S k); omega) (fun r h2 h3 => by omega) (fun p f' hp hf h2 h3 => ?_)
      obtain rfl : p = k := by omega
      rw [(p_pre (pTks_pre (pX S p) ((p + 1) * 8) (fieldsI gs (pX S p)) S (fieldsI gs (pX S p)).length) hlt).1]
      exact List.getElem?_eq_none (by omega)
    · rename_i hlt
      exact ⟨_, h, by omega⟩
theorem PInv.all {gs : List (List Val)} {vs : List Val} (hg : ∀ fs ∈ gs, ValsOk gs.length fs) (hv : ValsOk gs.length vs) (hl : ∀ fs ∈ gs, fs.length ≤ 4) (hr : vs.length ≤ 8) : ∃ Q, PInv gs vs (pAll gs vs) Q ∧ ((pAll gs vs).length + 1) * 8 ≤ Q := by
  unfold pAll
  refine PInv.bfs hg hl gs.length 0 _ (by omega) ?_
  exact (PInv.roots hv hr vs.length (Nat.le_refl _)).skip (by omega) (fun r h1 h2 => List.getElem?_eq_none h2) (fun p f _ hf h1 h2 => by omega)
end Go.Proofs.Ytaajkldhnjoicaa

namespace Go.Proofs.Ytaajkldhnjoicaa

theorem fnd_fi {gs : List (List Val)} {vs : List Val} (hg : ∀ fs ∈ gs, ValsOk gs.length fs) (f : Nat) : ∀ (k : Nat) (σ : List Int × List Int), FI gs vs k σ → ∃ k', FI gs vs k' (fnd gs f k σ) := by
  induction f with
  | zero => intro k σ h; exact ⟨k, h⟩
  | succ f ih =>
    intro k σ h
    unfold fnd
    split
    · rename_i hlt
      exact ih (k + 1) _ (h.next hg hlt)
    · exact ⟨k, h⟩
/-- Who is found later isn't nearer. -/
theorem order_mono {gs : List (List Val)} {vs : List Val} (hg : ∀ fs ∈ gs, ValsOk gs.length fs) (hv : ValsOk gs.length vs) (a b : Nat) (hab : a ≤ b) (hb : b < (order gs vs).length) :
    (distR gs vs).getD ((order gs vs).getD a 0).toNat 0 ≤ (distR gs vs).getD ((order gs vs).getD b 0).toNat 0 := by
  obtain ⟨e1, e2⟩ := fndAll_eq hg hv
  obtain ⟨k, h⟩ := fnd_fi hg gs.length 0 _ (FI.begin hv)
  have h1 : FI gs vs k (fndAll gs vs) := h
  rw [← e1, ← e2]
  exact h1.mono a b hab (by rw [e1]; exact hb)

/-- How far an object is. -/
def dI (gs : List (List Val)) (vs : List Val) (x : Int) : Int := (distR gs vs).getD x.toNat 0
/-- All that the rest wants of who is found how. -/
structure PFin (gs : List (List Val)) (vs : List Val) (S : List Stp) : Prop where
  ok : OrdOk gs.length (S.map (·.1))
  par : ∀ i, i < S.length → pQ S i / 8 ≤ i
  rt : ∀ i, i < S.length → pQ S i / 8 = 0 → pF S i = -1 ∧ vs[pQ S i]? = some (true, pX S i) ∧ dI gs vs (pX S i) = 0
  fd : ∀ i, i < S.length → ∀ p, pQ S i / 8 = p + 1 → pF S i = pX S p ∧ (fieldsI gs (pX S p))[pQ S i % 8]? = some (true, pX S i) ∧ dI gs vs (pX S i) = dI gs vs (pX S p) + 1
  up : ∀ i j, i < j → j < S.length → pQ S i < pQ S j
  croot : ∀ r x, r < 8 → vs[r]? = some (true, x) → ∃ i, i < S.length ∧ pX S i = x ∧ pQ S i ≤ r
  cfield : ∀ p f x, p < S.length → f < 8 → (fieldsI gs (pX S p))[f]? = some (true, x) → ∃ i, i < S.length ∧ pX S i = x ∧ pQ S i ≤ (p + 1) * 8 + f
  there : ∀ x : Int, 0 ≤ x → x < gs.length → (0 ≤ dI gs vs x ↔ ∃ i, i < S.length ∧ pX S i = x)
theorem PFin.all {gs : List (List Val)} {vs : List Val} (hg : ∀ fs ∈ gs, ValsOk gs.length fs) (hv : ValsOk gs.length vs) (hl : ∀ fs ∈ gs, fs.length ≤ 4) (hr : vs.length ≤ 8) : PFin gs vs (pAll gs vs) := by
  obtain ⟨Q, h, hQ⟩ := PInv.all hg hv hl hr
  have hd := distR_ok hg hv
  have hS := pAll_fst gs vs
  generalize pAll gs vs = S at *
  have hx : ∀ i, i < S.length → pX S i ∈ order gs vs := fun i hi => by
    rw [← hS]; exact List.mem_map.2 ⟨_, List.getElem_mem hi, by rw [p_at hi]⟩
  have hmono : ∀ a b, a ≤ b → b < S.length → dI gs vs (pX S a) ≤ dI gs vs (pX S b) := fun a b hab hb => by
    rw [pX_fst, pX_fst, hS]
    exact order_mono hg hv a b hab (by rw [← hS, List.length_map]; exact hb)
  have hdx : ∀ x, x ∈ order gs vs → 0 ≤ x ∧ x < gs.length ∧ 0 ≤ dI gs vs x ∧ Lev gs vs (dI gs vs x).toNat x := fun x hx => by
    obtain ⟨k, hk⟩ := (mem_order hg hv x).1 hx
    obtain ⟨a, b, c, _⟩ := hd.min_ k x hk
    have h3 := hd.lev x.toNat (by omega) c
    rw [show ((x.toNat : Nat) : Int) = x by omega] at h3
    exact ⟨a, b, c, h3⟩
  have hmin : ∀ k x, Lev gs vs k x → dI gs vs x ≤ k := fun k x hk => (hd.min_ k x hk).2.2.2
  have hsome : ∀ {us : List Val} {r : Nat} {x : Val}, us[r]? = some x → r < us.length := fun {us r x} h => by
    rcases Nat.lt_or_ge r us.length with h1 | h1
    · exact h1
    · rw [List.getElem?_eq_none h1] at h; cases h
  have hfl : ∀ x, (fieldsI gs x).length ≤ 4 := fun x => by
    unfold fieldsI
    rw [List.getD_eq_getElem?_getD]
    rcases Nat.lt_or_ge x.toNat gs.length with h | h
    · rw [List.getElem?_eq_getElem h]; exact hl _ (List.getElem_mem h)
    · rw [List.getElem?_eq_none h]; simp
  have cr : ∀ r x, r < 8 → vs[r]? = some (true, x) → ∃ i, i < S.length ∧ pX S i = x ∧ pQ S i ≤ r := fun r x hr8 hx => h.croot r x hr8 (by omega) hx
  have cf : ∀ p f x, p < S.length → f < 8 → (fieldsI gs (pX S p))[f]? = some (true, x) → ∃ i, i < S.length ∧ pX S i = x ∧ pQ S i ≤ (p + 1) * 8 + f := fun p f x hp hf hx => h.cfield p f x hp hf (by omega) hx
  have hinj : ∀ i j, i < S.length → j < S.length → pX S i = pX S j → i = j := fun i j hi hj he => by
    have hn := h.ok.nodup
    rw [List.nodup_iff_pairwise_ne, List.pairwise_iff_getElem] at hn
    rcases Nat.lt_trichotomy i j with h1 | h1 | h1
    · have := hn i j (by simpa using hi) (by simpa using hj) h1
      simp only [List.getElem_map, p_at hi, p_at hj] at this
      exact absurd he this
    · exact h1
    · have := hn j i (by simpa using hj) (by simpa using hi) h1
      simp only [List.getElem_map, p_at hi, p_at hj] at this
      exact absurd he.symm this
  refine ⟨h.ok, fun i hi => (h.lt i hi).2, fun i hi h0 => ?_, fun i hi p hp => ?_, h.up, cr, cf, fun x h0 h1 => ?_⟩
  · obtain ⟨a, b⟩ := h.rt i hi h0
    refine ⟨a, b, ?_⟩
    have h2 := hmin 0 (pX S i) (.root _ (List.mem_of_getElem? b))
    have := (hdx _ (hx i hi)).2.2.1
    omega
  · obtain ⟨a, b⟩ := h.fd i hi p hp
    refine ⟨a, b, ?_⟩
    have hpl : p < S.length := by have := (h.lt i hi).2; omega
    obtain ⟨x1, x2, x3, x4⟩ := hdx _ (hx i hi)
    obtain ⟨y1, y2, y3, y4⟩ := hdx _ (hx p hpl)
    have hle := hmin _ _ (Lev.step _ _ _ y4 (List.mem_of_getElem? b))
    have hge : dI gs vs (pX S p) + 1 ≤ dI gs vs (pX S i) := by
      generalize hk : (dI gs vs (pX S i)).toNat = k at x4
      cases x4 with
      | root _ hm =>
        obtain ⟨r, hr'⟩ := List.mem_iff_getElem?.1 hm
        obtain ⟨j, hj, e1, e2⟩ := cr r _ (by have := hsome hr'; omega) hr'
        have := hinj j i hj hi e1
        subst this
        have := hsome hr'
        omega
      | step k' y _ hy hm =>
        obtain ⟨f, hf⟩ := List.mem_iff_getElem?.1 hm
        have hyo : y ∈ order gs vs := (mem_order hg hv y).2 ⟨_, hy⟩
        rw [← hS] at hyo
        obtain ⟨s, hs, rfl⟩ := List.mem_map.1 hyo
        obtain ⟨q, hq, rfl⟩ := List.mem_iff_getElem.1 hs
        rw [p_at hq] at hf hy
        dsimp only at hf hy
        obtain ⟨j, hj, e1, e2⟩ := cf q f _ hq (by have := hsome hf; have := hfl (pX S q); omega) hf
        have := hinj j i hj hi e1
        subst this
        have h4 := hsome hf
        have h5 := hfl (pX S q)
        have h6 : p ≤ q := by omega
        have h7 := hmono p q h6 hq
        have h8 := hmin _ _ hy
        omega
    omega
  · constructor
    · intro h2
      have h3 := hd.lev x.toNat (by omega) h2
      rw [show ((x.toNat : Nat) : Int) = x by omega] at h3
      have h4 := (mem_order hg hv x).2 ⟨_, h3⟩
      rw [← hS] at h4
      obtain ⟨s, hs, rfl⟩ := List.mem_map.1 h4
      obtain ⟨q, hq, rfl⟩ := List.mem_iff_getElem.1 hs
      exact ⟨q, hq, by rw [p_at hq]⟩
    · rintro ⟨i, hi, rfl⟩
      exact (hdx _ (hx i hi)).2.2.1

/-- The way back: its root's place and the fields. -/
inductive PWay (S : List Stp) : Nat → Nat → List Int → Prop
  | root (i : Nat) : i < S.length → pQ S i / 8 = 0 → PWay S i (pQ S i) []
  | step (i p r : Nat) (l : List Int) : i < S.length → pQ S i / 8 = p + 1 → PWay S p r l → PWay S i r (l ++ [((pQ S i % 8 : Nat) : Int)])
theorem PFin.way {gs : List (List Val)} {vs : List Val} {S : List Stp} (h : PFin gs vs S) : ∀ i, i < S.length → ∃ r l, PWay S i r l := by
  intro i
  induction i using Nat.strongRecOn with
  | ind i ih =>
    intro hi
    rcases Nat.eq_zero_or_pos (pQ S i / 8) with h0 | h0
    · exact ⟨_, _, .root i hi h0⟩
    · obtain ⟨p, hp⟩ : ∃ p, pQ S i / 8 = p + 1 := ⟨pQ S i / 8 - 1, by omega⟩
      have := h.par i hi
      obtain ⟨r, l, hw⟩ := ih p (by omega) (by omega)
      exact ⟨r, _, .step i p r l hi hp hw⟩
theorem PWay.lt {S : List Stp} {i r : Nat} {l : List Int} (h : PWay S i r l) : i < S.length := by cases h <;> assumption
theorem PWay.len {gs : List (List Val)} {vs : List Val} {S : List Stp} (hF : PFin gs vs S) {i r : Nat} {l : List Int} (h : PWay S i r l) : dI gs vs (pX S i) = l.length := by
  induction h with
  | root i hi h0 => exact (hF.rt i hi h0).2.2
  | step i p r l hi hp _ ih => rw [(hF.fd i hi p hp).2.2, ih]; simp

/-- Is on a shortest path to v. -/
inductive On (gs : List (List Val)) (vs : List Val) (v : Int) : Int → Prop
  | here : On gs vs v v
  | step (i x : Int) : (true, x) ∈ fieldsI gs i → On gs vs v x → dI gs vs x = dI gs vs i + 1 → On gs vs v i
theorem On.le {gs : List (List Val)} {vs : List Val} {v i : Int} (h : On gs vs v i) : dI gs vs i ≤ dI gs vs v := by
  induction h with
  | here => exact Int.le_refl _
  | step i x _ _ hd ih => omega
/-- The way's objects, one by one: the place of each. -/
theorem PWay.at_ {gs : List (List Val)} {vs : List Val} {S : List Stp} (hF : PFin gs vs S) {i r : Nat} {l : List Int} (h : PWay S i r l) :
    ∃ Y : Nat → Nat, Y l.length = i ∧ (∀ t, t ≤ l.length → Y t < S.length ∧ dI gs vs (pX S (Y t)) = t ∧ On gs vs (pX S i) (pX S (Y t))) ∧ pQ S (Y 0) = r ∧ r < 8 ∧ vs[r]? = some (true, pX S (Y 0)) ∧
      ∀ t, t < l.length → ∃ f : Nat, l.getD t 0 = (f : Int) ∧ f < 8 ∧ pQ S (Y (t + 1)) = (Y t + 1) * 8 + f ∧ (fieldsI gs (pX S (Y t)))[f]? = some (true, pX S (Y (t + 1))) := by
  induction h with
  | root i hi h0 =>
    refine ⟨fun _ => i, rfl, fun t ht => ⟨hi, ?_, .here⟩, rfl, by omega, (hF.rt i hi h0).2.1, fun t ht => by simp at ht⟩
    obtain rfl : t = 0 := by simpa using ht
    exact (hF.rt i hi h0).2.2
  | step i p r l hi hp hw ih =>
    obtain ⟨Y, y1, y2, y3, y4, y5, y6⟩ := ih
    obtain ⟨f1, f2, f3⟩ := hF.fd i hi p hp
    have hon : ∀ x, On gs vs (pX S p) x → On gs vs (pX S i) x := fun x hx => by
      induction hx with
      | here => exact .step _ _ (List.mem_of_getElem? f2) .here f3
      | step a b h1 _ h2 ih => exact .step a b h1 ih h2
    refine ⟨fun t => if t ≤ l.length then Y t else i, by simp only [List.length_append, List.length_singleton]; rw [if_neg (by omega)], fun t ht => ?_, by simpa using y3, y4, by simpa using y5, fun t ht => ?_⟩
    · dsimp only
      by_cases h1 : t ≤ l.length
      · rw [if_pos h1]
        obtain ⟨a, b, c⟩ := y2 t h1
        exact ⟨a, b, hon _ c⟩
      · rw [if_neg h1]
        simp at ht
        refine ⟨hi, ?_, .here⟩
        rw [f3, ← y1, (y2 _ (Nat.le_refl _)).2.1]
        omega
    · dsimp only
      simp at ht
      rw [show (if t ≤ l.length then Y t else i) = Y t from if_pos (by omega)]
      by_cases h1 : t < l.length
      · rw [if_pos (by omega)]
        obtain ⟨f, a, b, c, d⟩ := y6 t h1
        exact ⟨f, by rw [List.getD_eq_getElem?_getD, List.getElem?_append_left h1, ← List.getD_eq_getElem?_getD]; exact a, b, c, d⟩
      · rw [if_neg (by omega)]
        obtain rfl : t = l.length := by omega
        rw [y1]
        refine ⟨pQ S i % 8, ?_, by omega, by omega, f2⟩
        rw [List.getD_eq_getElem?_getD, List.getElem?_append_right (Nat.le_refl _)]
        simp
/-- Who is on a shortest path wasn't found ahead of the way's object that is as far. -/
theorem way_first {gs : List (List Val)} {vs : List Val} {S : List Stp} (hF : PFin gs vs S) (hfl : ∀ x, (fieldsI gs x).length ≤ 8) {n : Nat} {Y : Nat → Nat} (hY : ∀ t, t ≤ n → Y t < S.length)
    (hst : ∀ t, t < n → (Y t + 1) * 8 ≤ pQ S (Y (t + 1))) (hend : dI gs vs (pX S (Y n)) = n) (x : Int) (hon : On gs vs (pX S (Y n)) x) : ∀ (t j : Nat), t ≤ n → dI gs vs x = t → j < S.length → pX S j = x → Y t ≤ j := by
  have hinj : ∀ i j, i < S.length → j < S.length → pX S i = pX S j → i = j := fun i j hi hj he => by
    have hn := hF.ok.nodup
    rw [List.nodup_iff_pairwise_ne, List.pairwise_iff_getElem] at hn
    rcases Nat.lt_trichotomy i j with h1 | h1 | h1
    · have := hn i j (by simpa using hi) (by simpa using hj) h1
      simp only [List.getElem_map, p_at hi, p_at hj] at this
      exact absurd he this
    · exact h1
    · have := hn j i (by simpa using hj) (by simpa using hi) h1
      simp only [List.getElem_map, p_at hi, p_at hj] at this
      exact absurd he.symm this
  induction hon with
  | here =>
    intro t j ht hd hj hx
    have : t = n := by omega
    subst this
    have := hinj j (Y t) hj (hY t ht) hx
    omega
  | step i y hm hy hd ih =>
    intro t j ht hdt hj hx
    have hle := hy.le
    have htn : t < n := by omega
    subst hx
    obtain ⟨f, hf⟩ := List.mem_iff_getElem?.1 hm
    have hf8 : f < 8 := by
      rcases Nat.lt_or_ge f (fieldsI gs (pX S j)).length with h1 | h1
      · have := hfl (pX S j); omega
      · rw [List.getElem?_eq_none h1] at hf; cases hf
    obtain ⟨j', hj', e1, e2⟩ := hF.cfield j f y hj hf8 hf
    have h2 := ih (t + 1) j' (by omega) (by omega) hj' e1
    have h3 := hst t htn
    have h4 : pQ S (Y (t + 1)) ≤ pQ S j' := by
      rcases Nat.lt_or_ge (Y (t + 1)) j' with h5 | h5
      · exact Nat.le_of_lt (hF.up _ _ h5 hj')
      · have : j' = Y (t + 1) := by omega
        subst this; exact Nat.le_refl _
    omega
end Go.Proofs.Ytaajkldhnjoicaa

namespace Go.Proofs.Ytaajkldhnjoicaa
open Go.RowKit Go.Maps

/-- How a step in a map reads. -/
def stepE (v : Value) : Option (DataW Unit × List MemPlace) :=
  match v with
  | .agg cs => match cs.toList with
    | [.int .i64 a, .int .i64 b] => some (.agg [.lit (.int .i64 a), .lit (.int .i64 b)], [])
    | _ => none
  | _ => none
def stepD (a b : Int) : DataW Unit := .agg [.lit (.int .i64 a), .lit (.int .i64 b)]
theorem stepE_mk (a b : Int) : stepE (.agg #[.int .i64 a, .int .i64 b]) = some (stepD a b, []) := rfl
theorem stepE_inv {v : Value} {a b : Int} {ps : List MemPlace} (h : stepE v = some (stepD a b, ps)) : v = .agg #[.int .i64 a, .int .i64 b] := by
  unfold stepE at h
  split at h
  · rename_i cs
    split at h
    · rename_i x y e
      injection h with h
      injection h with h1 h2
      unfold stepD at h1
      injection h1 with h1
      injection h1 with h3 h4
      injection h4 with h4 _
      injection h3 with h3
      injection h3 with _ h3
      injection h4 with h4
      injection h4 with _ h4
      subst h3 h4
      rw [show cs = cs.toList.toArray from (Array.toArray_toList).symm, e]
    · cases h
  · cases h
theorem stepE_shape {v : Value} {z : DataW Unit × List MemPlace} (h : stepE v = some z) : ∃ a b, v = .agg #[.int .i64 a, .int .i64 b] := by
  unfold stepE at h
  split at h
  · rename_i cs
    split at h
    · rename_i x y e
      exact ⟨x, y, by rw [show cs = cs.toList.toArray from (Array.toArray_toList).symm, e]⟩
    · cases h
  · cases h
theorem zeroStep (w : World) : (zeroValue 92).run Try.prog w = .ok (.agg #[.int .i64 0, .int .i64 0]) w := Try.zeroValue92 w

/-- A map of steps, of the call's own. -/
def mapP (b n : Nat) (D : DataW Unit) : Item where
  fp k := k = b
  P w := w.ownsMap Try.prog 3 stepE b n D
  dom w h k hk := by subst hk; exact World.ownsMap.lt h
  loc w w' _ hk h := by obtain ⟨es, clock, hb, r⟩ := h; exact ⟨es, clock, (hk b rfl).trans hb, r⟩
/-- What the map of steps says. -/
structure PD (S : List Stp) (D : DataW Unit) : Prop where
  map : IsMap D
  has : ∀ x : Int, Maps.has D (.int .i64 x) = decide (x ∈ S.map (·.1))
  at_ : ∀ i, i < S.length → ∀ z, D.atKey (.int .i64 (pX S i)) z = stepD (pF S i) ((pQ S i % 8 : Nat) : Int)
theorem PD.nil : PD [] (.map []) := ⟨isMap_empty, fun _ => rfl, fun i hi => by simp at hi⟩
theorem PD.put {S : List Stp} {D : DataW Unit} (h : PD S D) (x fr : Int) (q : Nat) (hx : x ∉ S.map (·.1)) : PD (S ++ [(x, fr, q)]) (D.put (.int .i64 x) (stepD fr ((q % 8 : Nat) : Int))) := by
  refine ⟨h.map.put _ _, fun y => ?_, fun i hi z => ?_⟩
  · by_cases e : y = x
    · subst e
      rw [has_put_same (k := Lit.int .i64 y) h.map trivial]
      symm
      simp
    · rw [has_put_other (by intro e2; injection e2 with _ e2; exact e e2), h.has y]
      rw [decide_eq_decide]
      simp [e]
  · have hpre : S <+: S ++ [(x, fr, q)] := List.prefix_append _ _
    rw [List.length_append, List.length_singleton] at hi
    rcases Nat.lt_or_ge i S.length with h1 | h1
    · obtain ⟨e1, e2, e3⟩ := p_pre hpre h1
      rw [e1, e2, e3, atKey_put_other, h.at_ i h1]
      intro e
      injection e with _ e
      refine hx ?_
      rw [← e]
      exact List.mem_map.2 ⟨_, List.getElem_mem h1, by rw [p_at h1]⟩
    · obtain rfl : i = S.length := by omega
      have e : pX (S ++ [(x, fr, q)]) S.length = x ∧ pF (S ++ [(x, fr, q)]) S.length = fr ∧ pQ (S ++ [(x, fr, q)]) S.length = q := by
        unfold pX pF pQ
        rw [List.getD_eq_getElem?_getD, List.getElem?_append_right (Nat.le_refl _)]
        simp
      rw [e.1, e.2.1, e.2.2, atKey_put_same (k := Lit.int .i64 x) h.map trivial]

def PaI (bm bl b nn : Nat) (D : DataW Unit) (A : Option Addr) (nl cl : Nat) (S : List Stp) : List Item :=
  [rowI 3 1 A nl cl (ints (S.map (·.1))), mapP b nn D, blkI bm 89 #[.map (some b)], blkI bl 35 #[.slice A nl cl]]

/-- What the closure leaves. -/
def PaRet (bm bl b nn nl : Nat) (S : List Stp) (F : Nat → Prop) (w : World) : Ending → World → Prop := fun e w' => (∃ u, e = .returned u) ∧ ∃ nn' D A nl' cl, nn' ≤ nn + 1 ∧ nl' ≤ nl + 1 ∧ PD S D ∧ Sep F w w' [allI (PaI bm bl b nn' D A nl' cl S)]

set_option maxRecDepth 100000 in
set_option maxHeartbeats 4000000 in
theorem ptake_any (w : World) (bm bl b nn : Nat) (D : DataW Unit) (A : Option Addr) (nl cl : Nat) (S : List Stp) (v : Val) (fr : Int) (q f : Nat) (hf : q % 8 = f) (hs : (allI (PaI bm bl b nn D A nl cl S)).P w) (hD : PD S D) (hnl : nl ≤ 1000) (hnn : nn ≤ 1000) (hx : (Lit.int .i64 v.2).wf = true) :
    Calls Try.prog 118 #[.agg #[.bool v.1, .int .i64 v.2], .agg #[.int .i64 fr, .int .i64 f], .pointer (some ⟨bm, 0, none⟩), .pointer (some ⟨bl, 0, none⟩)] w (PaRet bm bl b nn nl (pTake fr q S v) (allI (PaI bm bl b nn D A nl cl S)).fp w) := by
  obtain ⟨F, hF⟩ : ∃ F, (allI (PaI bm bl b nn D A nl cl S)).fp = F := ⟨_, rfl⟩
  have hS := (Sep.start hs).flat
  rw [hF] at hS ⊢
  clear hF hs
  obtain ⟨y, x⟩ := v
  dsimp only at hx
  obtain ⟨b1, b2, b3, b4⟩ := hS.rules 2 (g := bm) (t := 89) rfl
  have b5 : w.cell? ⟨bm, 0, none⟩ = some (.map (some b)) := by rw [b1]; rfl
  obtain ⟨c1, c2, c3, c4⟩ := hS.rules 3 (g := bl) (t := 35) rfl
  have c5 : w.cell? ⟨bl, 0, none⟩ = some (.slice A nl cl) := by rw [c1]; rfl
  have hS1 := (hS.blkAt 86 #[.bool y, .int .i64 x] rfl).blkAt 92 #[.int .i64 fr, .int .i64 f] (g := w.heap.size + 1) (by simp)
  have HS1 := hide hS1
  have n1 : ∀ o1 o2 o3, (((w.alloc o1).alloc o2).alloc o3).cell? ⟨bm, 0, none⟩ = some (.map (some b)) := fun o1 o2 o3 => by
    have hB : Blk w bm 89 #[.map (some b)] := hS.get 2 rfl
    rw [(((hB.alloc o1).alloc o2).alloc o3).cell]; rfl
  have hown : ((w.alloc (.cells #[.bool y, .int .i64 x] 86)).alloc (.cells #[.int .i64 fr, .int .i64 f] 92)).ownsMap Try.prog 3 stepE b nn D := hS1.get 1 rfl
  have hhas := hD.has x
  have HD := hide hD
  clear hS hS1 b1 c1 b4 c4 hD
  by_cases hc : y = true ∧ x ∉ S.map (·.1)
  · have HT := hide (show pTake fr q S (y, x) = S ++ [(x, fr, q)] by unfold pTake; rw [if_pos hc])
    have HX := hide hc.2
    have HF := hide hf
    rw [decide_eq_false hc.2] at hhas
    obtain ⟨rfl, _⟩ := hc
    clear hf
    go_enter Try.func118, Try.ntmps118
    go_wp2_with (first
      | (at_lookup
         refine wpList_lookup_own_ok _ rfl _ _ 89 rfl 3 92 (int_keyed Try.underlying3) Try.underlying89 stepE (zeroStep _) (stepD 0 0) [] (stepE_mk 0 0) b nn D rfl hown _ _ rfl (keyOf_int_mk Try.underlying3 hx) ?_
         intro v ps hv
         rw [hhas]
         rw [atKey_of_not_has hhas] at hv
         obtain rfl := stepE_inv hv
         clear hv)
      | (at_mapUpdate
         refine wpList_mapUpdate_own _ rfl _ _ _ 89 rfl 3 92 (int_keyed Try.underlying3) Try.underlying89 stepE b nn D rfl (hown.alloc _) (by unfold maxLen; omega) _ _ _ rfl rfl (keyOf_int_mk Try.underlying3 hx) _ [] (stepE_mk fr f) ?_
         intro w3 hown3 hgrow3
         have hS3 := (HS1.out.alloc _).step 1 rfl ((Chg.of_grown hgrow3).mono (fun g hx => .inl (by injection hx with hx; exact hx.symm))) (mapP b (nn + 1) (D.put (.int .i64 x) (stepD fr f))) hown3 (fun g hg => .inl hg)
         obtain ⟨y1, y2, y3, y4⟩ := hS3.rules 3 (g := bl) (t := 35) rfl
         (have y5 : w3.cell? ⟨bl, 0, none⟩ = some (.slice A nl cl) := by rw [y1]; rfl)
         obtain ⟨z1, z2, z3, z4⟩ := hS3.rules 4 (g := w.heap.size) (t := 86) rfl
         (have z5 : w3.cell? ⟨w.heap.size, 1, none⟩ = some (.int .i64 x) := by rw [z1]; rfl)
         clear y1 z1 hown3 hgrow3)
      | (at_builtin
         refine wpList_app1 (cs := #[.int .i64 x]) rfl (.tmp 25) (.tmp 28) 35 rfl sInt hS3 0 (n := nl) rfl rfl rfl (by simp) rfl rfl (by omega) ?_
         intro A4 c4 w4 hS4 hC4
         obtain ⟨x1, x2, x3, x4⟩ := hS4.rules 3 (g := bl) (t := 35) rfl
         (have x5 : w4.cell? ⟨bl, 0, none⟩ = some (.slice A nl cl) := by rw [x1]; rfl)
         clear x1 x4))
    go_end0
    have hS5 := (hS4.set_ 3 (g := bl) (t := 35) rfl 0 (.slice A4 (nl + 1) c4)).sub (List.take_sublist 4 _)
    refine ⟨⟨_, rfl⟩, nn + 1, D.put (.int .i64 x) (stepD fr f), A4, nl + 1, c4, by omega, by omega, ?_, ?_⟩
    · rw [HT.out]
      have := HD.out.put x fr q HX.out
      rw [HF.out] at this
      exact this
    · rw [HT.out]
      refine Sep.fold ?_
      unfold PaI
      rw [show ints ((S ++ [(x, fr, q)]).map (·.1)) = ints (S.map (·.1)) ++ [.int .i64 x] from by simp]
      exact hS5
  · have HT := hide (show pTake fr q S (y, x) = S by unfold pTake; rw [if_neg hc])
    have hcase : y = false ∨ (y = true ∧ x ∈ S.map (·.1)) := by
      cases y with
      | false => exact .inl rfl
      | true => exact .inr ⟨rfl, Decidable.byContradiction fun h => hc ⟨rfl, h⟩⟩
    clear hc
    have hhb : Maps.has D (.int .i64 x) = true ∨ Maps.has D (.int .i64 x) = false := by cases Maps.has D (.int .i64 x) <;> simp
    rcases hcase with rfl | ⟨rfl, hin⟩
    · clear hhas
      go_enter Try.func118, Try.ntmps118
      go_wp2_with (first
        | (at_lookup
           refine wpList_lookup_own_ok _ rfl _ _ 89 rfl 3 92 (int_keyed Try.underlying3) Try.underlying89 stepE (zeroStep _) (stepD 0 0) [] (stepE_mk 0 0) b nn D rfl hown _ _ rfl (keyOf_int_mk Try.underlying3 hx) ?_
           intro v ps hv
           obtain ⟨va, vb, rfl⟩ := stepE_shape hv
           clear hv))
      go_end0
      have hS5 := ((HS1.out.alloc (.cells #[.int .i64 va, .int .i64 vb] 92)).sub (List.take_sublist 4 _)).fold
      exact ⟨⟨_, rfl⟩, nn, D, A, nl, cl, by omega, by omega, by rw [HT.out]; exact HD.out, by rw [HT.out]; exact hS5⟩
    · have HIN := hide hin
      rw [decide_eq_true hin] at hhas
      clear hin
      go_enter Try.func118, Try.ntmps118
      go_wp2_with (first
        | (at_lookup
           refine wpList_lookup_own_ok _ rfl _ _ 89 rfl 3 92 (int_keyed Try.underlying3) Try.underlying89 stepE (zeroStep _) (stepD 0 0) [] (stepE_mk 0 0) b nn D rfl hown _ _ rfl (keyOf_int_mk Try.underlying3 hx) ?_
           intro v ps hv
           rw [hhas]
           obtain ⟨va, vb, rfl⟩ := stepE_shape hv
           clear hv))
      go_end0
      have hS5 := ((HS1.out.alloc (.cells #[.int .i64 va, .int .i64 vb] 92)).sub (List.take_sublist 4 _)).fold
      exact ⟨⟨_, rfl⟩, nn, D, A, nl, cl, by omega, by omega, by rw [HT.out]; exact HD.out, by rw [HT.out]; exact hS5⟩
end Go.Proofs.Ytaajkldhnjoicaa
