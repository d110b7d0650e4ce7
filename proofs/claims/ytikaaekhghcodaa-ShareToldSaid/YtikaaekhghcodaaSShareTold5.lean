/- Objects that can't be told apart, plain: how far two are from being told apart; the first of the shortest ways. -/
set_option linter.unusedSimpArgs false
set_option linter.unusedVariables false
namespace Go.Proofs.Ytikaaekhghcodaa
abbrev ShV := Bool × Int
abbrev Pr := Nat × Nat
def fldO (gs : List (List ShV)) (a k : Nat) : Option ShV := (gs.getD a [])[k]?
/-- A field tells both apart at once. -/
def difB (gs : List (List ShV)) (p : Pr) (k : Nat) : Bool :=
  match fldO gs p.1 k, fldO gs p.2 k with
  | none, none => false
  | some x, some y => !(x.1 && y.1) && decide (x ≠ y)
  | _, _ => true
/-- Both have a reference at a field. -/
def onwO (gs : List (List ShV)) (p : Pr) (k : Nat) : Option Pr :=
  match fldO gs p.1 k, fldO gs p.2 k with
  | some x, some y => if x.1 && y.1 then some (x.2.toNat, y.2.toNat) else none
  | _, _ => none
def tlB (gs : List (List ShV)) (m : Pr → Option Nat) (p : Pr) (k n : Nat) : Bool :=
  if n = 1 then difB gs p k else match onwO gs p k with | some q => m q == some (n - 1) | none => false
def anyT (gs : List (List ShV)) (m : Pr → Option Nat) (p : Pr) (n : Nat) : Bool := (List.range 4).any fun k => tlB gs m p k n
/-- What is known behind so many rounds. -/
def kn (gs : List (List ShV)) : Nat → Pr → Option Nat
  | 0, _ => none
  | n + 1, p => match kn gs n p with
    | some j => some j
    | none => if anyT gs (kn gs n) p (n + 1) = true then some (n + 1) else none
theorem kn_mono {gs : List (List ShV)} {p : Pr} {j : Nat} : ∀ {n n' : Nat}, n ≤ n' → kn gs n p = some j → kn gs n' p = some j := by
  intro n n' h
  induction h with
  | refl => exact id
  | step _ ih => intro h1; have h2 := ih h1; show (match kn gs _ p with | some j => some j | none => _) = _; rw [h2]
theorem kn_pos {gs : List (List ShV)} {p : Pr} {j : Nat} : ∀ {n : Nat}, kn gs n p = some j → 1 ≤ j ∧ j ≤ n ∧ kn gs j p = some j ∧ anyT gs (kn gs (j - 1)) p j = true
  | 0, h => by cases h
  | n + 1, h => by
    have h0 : kn gs (n + 1) p = match kn gs n p with | some j => some j | none => if anyT gs (kn gs n) p (n + 1) = true then some (n + 1) else none := rfl
    rw [h0] at h
    cases h1 : kn gs n p with
    | some i =>
      rw [h1] at h
      injection h with h
      subst h
      obtain ⟨g1, g2, g3, g4⟩ := kn_pos h1
      exact ⟨g1, by omega, g3, g4⟩
    | none =>
      rw [h1] at h
      dsimp only at h
      split at h
      · rename_i h2
        injection h with h
        subst h
        refine ⟨by omega, Nat.le_refl _, ?_, h2⟩
        rw [h0, h1]
        dsimp only
        rw [if_pos h2]
      · cases h
/-- How far two are from being told apart; a map that says so. -/
structure AprtOk (gs : List (List ShV)) (D : Pr → Prop) (m : Pr → Option Nat) : Prop where
  d1 : ∀ p d, m p = some d → 1 ≤ d ∧ ∃ k, k < 4 ∧ tlB gs m p k d = true
  d2 : ∀ p k, D p → k < 4 → difB gs p k = true → m p = some 1
  d3 : ∀ p k q e, D p → k < 4 → onwO gs p k = some q → m q = some e → ∃ d, d ≤ e + 1 ∧ m p = some d
theorem anyT_iff {gs : List (List ShV)} {m : Pr → Option Nat} {p : Pr} {n : Nat} : anyT gs m p n = true ↔ ∃ k, k < 4 ∧ tlB gs m p k n = true := by
  unfold anyT
  rw [List.any_eq_true]
  simp [List.mem_range]
theorem kn_ok {gs : List (List ShV)} {D : Pr → Prop} {N : Nat} (h : ∀ p, D p → kn gs (N + 1) p = kn gs N p) : AprtOk gs D (kn gs N) := by
  refine ⟨fun p d hd => ?_, fun p k hp hk hdf => ?_, fun p k q e hp hk ho he => ?_⟩
  · obtain ⟨h1, h2, _, h4⟩ := kn_pos hd
    refine ⟨h1, ?_⟩
    obtain ⟨k, hk, ht⟩ := anyT_iff.1 h4
    refine ⟨k, hk, ?_⟩
    unfold tlB at ht ⊢
    split
    · rename_i h5; rw [if_pos h5] at ht; exact ht
    · rename_i h5
      rw [if_neg h5] at ht
      cases ho : onwO gs p k with
      | none => rw [ho] at ht; cases ht
      | some q =>
        rw [ho] at ht
        dsimp only at ht ⊢
        have h6 : kn gs (d - 1) q = some (d - 1) := by simpa using ht
        rw [kn_mono (show d - 1 ≤ N by omega) h6]
        simp
  · have h1 : kn gs 1 p = some 1 := by
      show (if anyT gs (kn gs 0) p 1 = true then some 1 else none) = _
      rw [if_pos (anyT_iff.2 ⟨k, hk, by unfold tlB; rw [if_pos rfl]; exact hdf⟩)]
    rcases Nat.eq_zero_or_pos N with rfl | hN
    · rw [h p hp] at h1; exact h1
    · exact kn_mono hN h1
  · obtain ⟨h1, h2, h3, _⟩ := kn_pos he
    have h4 : ∃ d, d ≤ e + 1 ∧ kn gs (e + 1) p = some d := by
      cases h5 : kn gs e p with
      | some j =>
        exact ⟨j, by have := (kn_pos h5).2.1; omega, kn_mono (Nat.le_succ e) h5⟩
      | none =>
        refine ⟨e + 1, Nat.le_refl _, ?_⟩
        show (match kn gs e p with | some j => some j | none => if anyT gs (kn gs e) p (e + 1) = true then some (e + 1) else none) = _
        rw [h5]
        dsimp only
        rw [if_pos (anyT_iff.2 ⟨k, hk, by
          unfold tlB
          rw [if_neg (by omega), ho]
          dsimp only
          rw [Nat.add_sub_cancel, h3]
          simp⟩)]
    obtain ⟨d, hd, h5⟩ := h4
    refine ⟨d, hd, ?_⟩
    rcases Nat.lt_or_ge e N with h6 | h6
    · exact kn_mono h6 h5
    · obtain rfl : e = N := by omega
      rw [h p hp] at h5; exact h5
/-! ### The program's way. -/
def toldW (gs : List (List ShV)) (m : Pr → Option Nat) : Nat → Pr → List Nat
  | 0, _ => []
  | n + 1, p => match (List.range 4).find? fun k => tlB gs m p k (n + 1) with
    | none => []
    | some k => k :: toldW gs m n ((onwO gs p k).getD p)
/-! ### The reference's search. -/
def exK (gs : List (List ShV)) (x : (Pr × List Nat) × Nat) (s : List Pr × List (Pr × List Nat)) : List Pr × List (Pr × List Nat) :=
  match onwO gs x.1.1 x.2 with
  | none => s
  | some q => if q ∈ s.1 then s else (s.1 ++ [q], s.2 ++ [(q, x.1.2 ++ [x.2])])
def wrk (l : List (Pr × List Nat)) : List ((Pr × List Nat) × Nat) := l.flatMap fun x => (List.range 4).map fun k => (x, k)
def expd (gs : List (List ShV)) (l : List (Pr × List Nat)) (seen : List Pr) : List Pr × List (Pr × List Nat) := (wrk l).foldl (fun s x => exK gs x s) (seen, [])
def dif1 (gs : List (List ShV)) (l : List (Pr × List Nat)) : Option (List Nat) := (wrk l).findSome? fun x => if difB gs x.1.1 x.2 = true then some (x.1.2 ++ [x.2]) else none
/-- So many rounds. -/
def bfs (gs : List (List ShV)) : Nat → List (Pr × List Nat) → List Pr → Option (List Nat)
  | 0, _, _ => none
  | f + 1, l, seen => if l = [] then none else match dif1 gs l with
    | some w => some w
    | none => bfs gs f (expd gs l seen).2 (expd gs l seen).1
theorem fold_all {gs : List (List ShV)} (P : Pr → Prop) : ∀ (W : List ((Pr × List Nat) × Nat)) (s : List Pr × List (Pr × List Nat)), (∀ x ∈ W, ∀ q, onwO gs x.1.1 x.2 = some q → P q) →
    ∃ N, (W.foldl (fun s x => exK gs x s) s).2 = s.2 ++ N ∧ (W.foldl (fun s x => exK gs x s) s).1 = s.1 ++ N.map (fun y => y.1) ∧ ∀ y ∈ N, P y.1
  | [], s, _ => ⟨[], by simp, by simp, fun y hy => by cases hy⟩
  | x :: W, s, h => by
    rw [List.foldl_cons]
    obtain ⟨N, h1, h2, h3⟩ := fold_all P W (exK gs x s) (fun z hz => h z (List.mem_cons_of_mem _ hz))
    have hx := h x (List.mem_cons_self ..)
    unfold exK at h1 h2 ⊢
    cases ho : onwO gs x.1.1 x.2 with
    | none =>
      rw [ho] at h1 h2
      exact ⟨N, h1, h2, h3⟩
    | some q =>
      rw [ho] at h1 h2
      dsimp only at h1 h2 ⊢
      by_cases hq : q ∈ s.1
      · rw [if_pos hq] at h1 h2 ⊢
        exact ⟨N, h1, h2, h3⟩
      · rw [if_neg hq] at h1 h2 ⊢
        refine ⟨(q, x.1.2 ++ [x.2]) :: N, by rw [h1]; simp, by rw [h2]; simp, fun y hy => ?_⟩
        rcases List.mem_cons.1 hy with rfl | hy
        · exact hx q ho
        · exact h3 y hy
theorem wrk_app (a b : List (Pr × List Nat)) : wrk (a ++ b) = wrk a ++ wrk b := by unfold wrk; rw [List.flatMap_append]
theorem wrk_mem {l : List (Pr × List Nat)} {x : (Pr × List Nat) × Nat} : x ∈ wrk l ↔ x.1 ∈ l ∧ x.2 < 4 := by
  unfold wrk
  rw [List.mem_flatMap]
  constructor
  · rintro ⟨y, hy, hx⟩
    obtain ⟨k, hk, rfl⟩ := List.mem_map.1 hx
    exact ⟨hy, List.mem_range.1 hk⟩
  · rintro ⟨h1, h2⟩
    exact ⟨x.1, h1, List.mem_map.2 ⟨x.2, List.mem_range.2 h2, rfl⟩⟩
theorem find_split {P : Nat → Bool} {k : Nat} (h : (List.range 4).find? P = some k) : ∃ a b, List.range 4 = a ++ k :: b ∧ P k = true ∧ ∀ j ∈ a, P j = false := by
  obtain ⟨h1, a, b, h2, h3⟩ := List.find?_eq_some_iff_append.1 h
  exact ⟨a, b, h2, h1, fun j hj => by simpa using h3 j hj⟩
/-- The search finds the program's way. -/
theorem bfs_some {gs : List (List ShV)} {D : Pr → Prop} {m : Pr → Option Nat} (ok : AprtOk gs D m) (hD : ∀ p k q, D p → onwO gs p k = some q → D q) :
    ∀ (n f : Nat) (L1 L2 : List (Pr × List Nat)) (p : Pr) (u : List Nat) (seen : List Pr), n < f → 1 ≤ n → m p = some n → (∀ x ∈ L1, D x.1 ∧ ∀ e, m x.1 = some e → n < e) → D p → (∀ x ∈ L2, D x.1 ∧ ∀ e, m x.1 = some e → n ≤ e) → (∀ q ∈ seen, ∀ e, m q = some e → n ≤ e) →
      bfs gs f (L1 ++ (p, u) :: L2) seen = some (u ++ toldW gs m n p) := by
  intro n
  induction n with
  | zero => intro f L1 L2 p u seen _ h; omega
  | succ n ih =>
    intro f L1 L2 p u seen hf _ hm h1 hp h2 h3
    obtain ⟨f, rfl⟩ : ∃ f', f = f' + 1 := ⟨f - 1, by omega⟩
    have hne : L1 ++ (p, u) :: L2 ≠ [] := by simp
    have hall : ∀ x ∈ L1 ++ (p, u) :: L2, D x.1 ∧ ∀ e, m x.1 = some e → n + 1 ≤ e := by
      intro x hx
      rcases List.mem_append.1 hx with hx | hx
      · exact ⟨(h1 x hx).1, fun e he => Nat.le_of_lt ((h1 x hx).2 e he)⟩
      · rcases List.mem_cons.1 hx with rfl | hx
        · exact ⟨hp, fun e he => by rw [hm] at he; injection he with he; omega⟩
        · exact h2 x hx
    obtain ⟨k, hfk⟩ : ∃ k, (List.range 4).find? (fun k => tlB gs m p k (n + 1)) = some k := by
      obtain ⟨_, k, hk, ht⟩ := ok.d1 p _ hm
      cases hf9 : (List.range 4).find? (fun k => tlB gs m p k (n + 1)) with
      | some k => exact ⟨k, rfl⟩
      | none =>
        rw [List.find?_eq_none] at hf9
        exact absurd ht (hf9 k (List.mem_range.2 hk))
    have htw : toldW gs m (n + 1) p = k :: toldW gs m n ((onwO gs p k).getD p) := by
      show (match (List.range 4).find? (fun k => tlB gs m p k (n + 1)) with | none => [] | some k => k :: toldW gs m n ((onwO gs p k).getD p)) = _
      rw [hfk]
    obtain ⟨ka, kb, hr, hkt, hka⟩ := find_split hfk
    have hwr : wrk (L1 ++ (p, u) :: L2) = wrk L1 ++ (ka.map (fun j => ((p, u), j)) ++ ((p, u), k) :: (kb.map (fun j => ((p, u), j)) ++ wrk L2)) := by
      rw [wrk_app]
      congr 1
      show ((List.range 4).map fun k => ((p, u), k)) ++ wrk L2 = _
      rw [hr]
      simp
    rw [htw]
    show (if L1 ++ (p, u) :: L2 = [] then none else match dif1 gs (L1 ++ (p, u) :: L2) with | some w => some w | none => bfs gs f (expd gs (L1 ++ (p, u) :: L2) seen).2 (expd gs (L1 ++ (p, u) :: L2) seen).1) = _
    rw [if_neg hne]
    have hk4 : k < 4 := by
      have : k ∈ List.range 4 := by rw [hr]; simp
      exact List.mem_range.1 this
    rcases Nat.eq_zero_or_pos n with rfl | hn
    · -- one field tells them apart
      have hd : dif1 gs (L1 ++ (p, u) :: L2) = some (u ++ [k]) := by
        unfold dif1
        rw [hwr, List.findSome?_append]
        have e1 : (wrk L1).findSome? (fun x => if difB gs x.1.1 x.2 = true then some (x.1.2 ++ [x.2]) else none) = none := by
          rw [List.findSome?_eq_none_iff]
          intro x hx
          obtain ⟨hx1, hx2⟩ := wrk_mem.1 hx
          rw [if_neg]
          intro hdf
          have := (h1 _ hx1).2 1 (ok.d2 _ _ (h1 _ hx1).1 hx2 hdf)
          omega
        have e2 : (ka.map (fun j => ((p, u), j))).findSome? (fun x => if difB gs x.1.1 x.2 = true then some (x.1.2 ++ [x.2]) else none) = none := by
          rw [List.findSome?_eq_none_iff]
          intro x hx
          obtain ⟨j, hj, rfl⟩ := List.mem_map.1 hx
          have h5 := hka j hj
          unfold tlB at h5
          rw [if_pos rfl] at h5
          rw [if_neg (by rw [h5]; simp)]
        rw [e1, Option.none_or, List.findSome?_append, e2, Option.none_or, List.findSome?_cons]
        have h5 := hkt
        unfold tlB at h5
        rw [if_pos rfl] at h5
        rw [if_pos h5]
      rw [hd]
      rfl
    · have hd : dif1 gs (L1 ++ (p, u) :: L2) = none := by
        unfold dif1
        rw [List.findSome?_eq_none_iff]
        intro x hx
        obtain ⟨hx1, hx2⟩ := wrk_mem.1 hx
        rw [if_neg]
        intro hdf
        have := (hall _ hx1).2 1 (ok.d2 _ _ (hall _ hx1).1 hx2 hdf)
        omega
      rw [hd]
      dsimp only
      -- the next
      have hq : ∃ q, onwO gs p k = some q ∧ m q = some n := by
        have h5 := hkt
        unfold tlB at h5
        rw [if_neg (by omega)] at h5
        cases ho : onwO gs p k with
        | none => rw [ho] at h5; cases h5
        | some q => rw [ho] at h5; exact ⟨q, rfl, by simpa using h5⟩
      obtain ⟨q, ho, hmq⟩ := hq
      have far1 : ∀ x ∈ wrk L1 ++ ka.map (fun j => ((p, u), j)), ∀ q', onwO gs x.1.1 x.2 = some q' → (D q' ∧ ∀ e, m q' = some e → n < e) := by
        intro x hx q' hq'
        rcases List.mem_append.1 hx with hx | hx
        · obtain ⟨hx1, hx2⟩ := wrk_mem.1 hx
          refine ⟨hD _ _ _ (h1 _ hx1).1 hq', fun e he => ?_⟩
          obtain ⟨d, hd1, hd2⟩ := ok.d3 _ _ _ _ (h1 _ hx1).1 hx2 hq' he
          have := (h1 _ hx1).2 d hd2
          omega
        · obtain ⟨j, hj, rfl⟩ := List.mem_map.1 hx
          have hj4 : j < 4 := by
            have : j ∈ List.range 4 := by rw [hr]; simp [hj]
            exact List.mem_range.1 this
          refine ⟨hD _ _ _ hp hq', fun e he => ?_⟩
          obtain ⟨d, hd1, hd2⟩ := ok.d3 _ _ _ _ hp hj4 hq' he
          rw [hm] at hd2
          injection hd2 with hd2
          have h5 := hka j hj
          unfold tlB at h5
          rw [if_neg (by omega), hq'] at h5
          dsimp only at h5
          rw [he] at h5
          have : ¬ e = n := by simpa using h5
          omega
      have far2 : ∀ x ∈ kb.map (fun j => ((p, u), j)) ++ wrk L2, ∀ q', onwO gs x.1.1 x.2 = some q' → (D q' ∧ ∀ e, m q' = some e → n ≤ e) := by
        intro x hx q' hq'
        have hx' : x.1 ∈ L1 ++ (p, u) :: L2 ∧ x.2 < 4 := by
          rw [← wrk_mem, hwr]
          simp only [List.mem_append, List.mem_cons] at hx ⊢
          rcases hx with hx | hx
          · exact .inr (.inr (.inr (.inl hx)))
          · exact .inr (.inr (.inr (.inr hx)))
        have h5 := hall _ hx'.1
        refine ⟨hD _ _ _ h5.1 hq', fun e he => ?_⟩
        obtain ⟨d, hd1, hd2⟩ := ok.d3 _ _ _ _ h5.1 hx'.2 hq' he
        have := h5.2 d hd2
        omega
      obtain ⟨N1, n1, n2, n3⟩ := fold_all (fun q' => D q' ∧ ∀ e, m q' = some e → n < e) (wrk L1 ++ ka.map (fun j => ((p, u), j))) (seen, []) far1
      have hns : q ∉ (seen ++ N1.map fun y => y.1) := by
        intro hin
        rcases List.mem_append.1 hin with hin | hin
        · have := h3 q hin n hmq; omega
        · obtain ⟨y, hy, rfl⟩ := List.mem_map.1 hin
          have := (n3 y hy).2 n hmq; omega
      have hmid : exK gs ((p, u), k) (seen ++ N1.map (fun y => y.1), [] ++ N1) = (seen ++ N1.map (fun y => y.1) ++ [q], [] ++ N1 ++ [(q, u ++ [k])]) := by
        unfold exK
        dsimp only
        rw [ho]
        dsimp only
        rw [if_neg hns]
      obtain ⟨N2, g1, g2, g3⟩ := fold_all (fun q' => D q' ∧ ∀ e, m q' = some e → n ≤ e) (kb.map (fun j => ((p, u), j)) ++ wrk L2) (seen ++ N1.map (fun y => y.1) ++ [q], [] ++ N1 ++ [(q, u ++ [k])]) far2
      have he : expd gs (L1 ++ (p, u) :: L2) seen = ((seen ++ N1.map (fun y => y.1) ++ [q]) ++ N2.map (fun y => y.1), N1 ++ (q, u ++ [k]) :: N2) := by
        unfold expd
        rw [hwr, ← List.append_assoc, List.foldl_append, List.foldl_cons]
        have e1 : (wrk L1 ++ ka.map (fun j => ((p, u), j))).foldl (fun s x => exK gs x s) (seen, []) = (seen ++ N1.map (fun y => y.1), [] ++ N1) := Prod.ext n2 n1
        rw [e1, hmid]
        refine Prod.ext g2 ?_
        rw [g1]
        simp
      rw [he]
      dsimp only
      rw [ho, Option.getD_some, ih f N1 N2 q (u ++ [k]) _ (by omega) hn hmq (fun x hx => n3 x hx) (hD _ _ _ hp ho) (fun x hx => g3 x hx) (fun q' hq' e he' => ?_)]
      · simp
      · rcases List.mem_append.1 hq' with hq' | hq'
        · rcases List.mem_append.1 hq' with hq' | hq'
          · rcases List.mem_append.1 hq' with hq' | hq'
            · have := h3 q' hq' e he'; omega
            · obtain ⟨y, hy, rfl⟩ := List.mem_map.1 hq'
              have := (n3 y hy).2 e he'; omega
          · rw [List.mem_singleton.1 hq', hmq] at he'
            injection he' with he'
            omega
        · obtain ⟨y, hy, rfl⟩ := List.mem_map.1 hq'
          exact (g3 y hy).2 e he'
/-- What nothing tells apart, the search doesn't tell apart either. -/
theorem bfs_none {gs : List (List ShV)} {D : Pr → Prop} {m : Pr → Option Nat} (ok : AprtOk gs D m) (hD : ∀ p k q, D p → onwO gs p k = some q → D q) :
    ∀ (f : Nat) (L : List (Pr × List Nat)) (seen : List Pr), (∀ x ∈ L, D x.1 ∧ m x.1 = none) → bfs gs f L seen = none
  | 0, _, _, _ => rfl
  | f + 1, L, seen, h => by
    show (if L = [] then none else match dif1 gs L with | some w => some w | none => bfs gs f (expd gs L seen).2 (expd gs L seen).1) = _
    split
    · rfl
    · have hd : dif1 gs L = none := by
        unfold dif1
        rw [List.findSome?_eq_none_iff]
        intro x hx
        obtain ⟨hx1, hx2⟩ := wrk_mem.1 hx
        rw [if_neg]
        intro hdf
        have := ok.d2 _ _ (h _ hx1).1 hx2 hdf
        rw [(h _ hx1).2] at this
        cases this
      rw [hd]
      dsimp only
      obtain ⟨N, n1, n2, n3⟩ := fold_all (gs := gs) (fun q' => D q' ∧ m q' = none) (wrk L) (seen, []) (fun x hx q' hq' => by
        obtain ⟨hx1, hx2⟩ := wrk_mem.1 hx
        refine ⟨hD _ _ _ (h _ hx1).1 hq', ?_⟩
        cases hm : m q' with
        | none => rfl
        | some e =>
          obtain ⟨d, _, hd2⟩ := ok.d3 _ _ _ _ (h _ hx1).1 hx2 hq' hm
          rw [(h _ hx1).2] at hd2
          cases hd2)
      refine bfs_none ok hD f _ _ fun x hx => ?_
      have hx2 : x ∈ [] ++ N := by rw [← n1]; exact hx
      exact n3 x (by simpa using hx2)
end Go.Proofs.Ytikaaekhghcodaa
