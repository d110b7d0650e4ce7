/- Words that are taken and given back, plain: free blocks in a row. -/
set_option linter.unusedSimpArgs false
set_option linter.unusedVariables false
namespace Go.Proofs.Ytjphckfbbiehdaa
abbrev Bk := Nat × Nat
def Fre (F : List Bk) (i : Nat) : Prop := ∃ b ∈ F, b.1 ≤ i ∧ i < b.1 + b.2
structure FOk (F : List Bk) : Prop where
  pos : ∀ b ∈ F, 0 < b.2
  gap : F.Pairwise fun a b => a.1 + a.2 < b.1
theorem fre_cons {b : Bk} {F : List Bk} {i : Nat} : Fre (b :: F) i ↔ (b.1 ≤ i ∧ i < b.1 + b.2) ∨ Fre F i := by
  unfold Fre
  constructor
  · rintro ⟨c, hc, h⟩
    rcases List.mem_cons.1 hc with rfl | hc
    · exact .inl h
    · exact .inr ⟨c, hc, h⟩
  · rintro (h | ⟨c, hc, h⟩)
    · exact ⟨b, List.mem_cons_self .., h⟩
    · exact ⟨c, List.mem_cons_of_mem _ hc, h⟩
theorem fre_nil {i : Nat} : ¬ Fre [] i := fun ⟨_, h, _⟩ => by cases h
theorem fre_app {F G : List Bk} {i : Nat} : Fre (F ++ G) i ↔ Fre F i ∨ Fre G i := by
  induction F with
  | nil => simp [fre_nil]
  | cons b F ih => rw [List.cons_append, fre_cons, fre_cons, ih, or_assoc]
theorem FOk.tail {b : Bk} {F : List Bk} (h : FOk (b :: F)) : FOk F := ⟨fun c hc => h.pos c (List.mem_cons_of_mem _ hc), (List.pairwise_cons.1 h.gap).2⟩
theorem FOk.above {b : Bk} {F : List Bk} (h : FOk (b :: F)) {i : Nat} (hi : Fre F i) : b.1 + b.2 < i := by
  obtain ⟨c, hc, h1, _⟩ := hi
  have := (List.pairwise_cons.1 h.gap).1 c hc
  omega
/-- A row of blocks is told by which words it has. -/
theorem FOk.uniq : ∀ {F G : List Bk}, FOk F → FOk G → (∀ i, Fre F i ↔ Fre G i) → F = G
  | [], [], _, _, _ => rfl
  | [], b :: G, _, hg, h => absurd ((h b.1).2 (fre_cons.2 (.inl ⟨Nat.le_refl _, by have := hg.pos b (List.mem_cons_self ..); omega⟩))) fre_nil
  | b :: F, [], hf, _, h => absurd ((h b.1).1 (fre_cons.2 (.inl ⟨Nat.le_refl _, by have := hf.pos b (List.mem_cons_self ..); omega⟩))) fre_nil
  | b :: F, c :: G, hf, hg, h => by
    have pb := hf.pos b (List.mem_cons_self ..)
    have pc := hg.pos c (List.mem_cons_self ..)
    have lo : ∀ {x : Bk} {L : List Bk}, FOk (x :: L) → ∀ {i}, Fre (x :: L) i → x.1 ≤ i := fun hx i hi => by
      rcases fre_cons.1 hi with h1 | h1
      · exact h1.1
      · have := hx.above h1; omega
    have e1 : b.1 = c.1 := by
      have h1 := lo hg ((h b.1).1 (fre_cons.2 (.inl ⟨Nat.le_refl _, by omega⟩)))
      have h2 := lo hf ((h c.1).2 (fre_cons.2 (.inl ⟨Nat.le_refl _, by omega⟩)))
      omega
    have en : ∀ {x : Bk} {L : List Bk}, FOk (x :: L) → ¬ Fre (x :: L) (x.1 + x.2) := fun hx hi => by
      rcases fre_cons.1 hi with h1 | h1
      · omega
      · have := hx.above h1; omega
    have e2 : b.2 = c.2 := by
      rcases Nat.lt_trichotomy b.2 c.2 with h1 | h1 | h1
      · exact absurd ((h (b.1 + b.2)).2 (fre_cons.2 (.inl ⟨by omega, by omega⟩))) (en hf)
      · exact h1
      · exact absurd ((h (c.1 + c.2)).1 (fre_cons.2 (.inl ⟨by omega, by omega⟩))) (en hg)
    obtain rfl : b = c := Prod.ext e1 e2
    have h3 := FOk.uniq hf.tail hg.tail fun i => by
      constructor
      · intro hi
        have ha := hf.above hi
        rcases fre_cons.1 ((h i).1 (fre_cons.2 (.inr hi))) with h1 | h1
        · omega
        · exact h1
      · intro hi
        have ha := hg.above hi
        rcases fre_cons.1 ((h i).2 (fre_cons.2 (.inr hi))) with h1 | h1
        · omega
        · exact h1
    rw [h3]
/-! ### What is free, gone through in order. -/
def blkStep (l : List Bk) (i : Nat) : List Bk :=
  match l.getLast? with
  | some b => if b.1 + b.2 = i then l.dropLast ++ [(b.1, b.2 + 1)] else l ++ [(i, 1)]
  | none => l ++ [(i, 1)]
def blkK (tk : List Bool) : Nat → List Bk
  | 0 => []
  | k + 1 => if tk.getD k true = true then blkK tk k else blkStep (blkK tk k) k
theorem blkStep_ok {l : List Bk} {i : Nat} (ok : FOk l) (hb : ∀ b ∈ l, b.1 + b.2 ≤ i) : FOk (blkStep l i) ∧ (∀ b ∈ blkStep l i, b.1 + b.2 ≤ i + 1) ∧ ∀ x, Fre (blkStep l i) x ↔ Fre l x ∨ x = i := by
  have one : (∀ b ∈ l, b.1 + b.2 < i) → FOk (l ++ [(i, 1)]) ∧ (∀ b ∈ l ++ [(i, 1)], b.1 + b.2 ≤ i + 1) ∧ ∀ x, Fre (l ++ [(i, 1)]) x ↔ Fre l x ∨ x = i := fun h => by
    refine ⟨⟨fun b hb => ?_, ?_⟩, fun b hb => ?_, fun x => ?_⟩
    · rcases List.mem_append.1 hb with h1 | h1
      · exact ok.pos b h1
      · rw [List.mem_singleton.1 h1]; exact Nat.one_pos
    · rw [List.pairwise_append]
      exact ⟨ok.gap, List.pairwise_singleton .., fun a ha b hb => by rw [List.mem_singleton.1 hb]; exact h a ha⟩
    · rcases List.mem_append.1 hb with h1 | h1
      · have := h b h1; omega
      · rw [List.mem_singleton.1 h1]; exact Nat.le_refl _
    · rw [fre_app, fre_cons]
      have : ¬ Fre [] x := fre_nil
      have e : ((i, 1) : Bk).1 ≤ x ∧ x < ((i, 1) : Bk).1 + ((i, 1) : Bk).2 ↔ x = i := by dsimp only; omega
      rw [e]
      simp [this]
  unfold blkStep
  cases hl : l.getLast? with
  | none =>
    have : l = [] := List.getLast?_eq_none_iff.1 hl
    subst this
    exact one fun b hb => by cases hb
  | some b =>
    dsimp only
    obtain ⟨L, rfl⟩ : ∃ L, l = L ++ [b] := by
      refine ⟨l.dropLast, ?_⟩
      have hne : l ≠ [] := by intro h; rw [h] at hl; cases hl
      rw [List.getLast?_eq_some_getLast hne] at hl
      injection hl with hl
      rw [← hl]
      exact (List.dropLast_concat_getLast hne).symm
    have hg := List.pairwise_append.1 ok.gap
    by_cases he : b.1 + b.2 = i
    · rw [if_pos he, List.dropLast_concat]
      refine ⟨⟨fun c hc => ?_, ?_⟩, fun c hc => ?_, fun x => ?_⟩
      · rcases List.mem_append.1 hc with h1 | h1
        · exact ok.pos c (List.mem_append_left _ h1)
        · rw [List.mem_singleton.1 h1]; exact Nat.succ_pos _
      · rw [List.pairwise_append]
        exact ⟨hg.1, List.pairwise_singleton .., fun a ha c hc => by rw [List.mem_singleton.1 hc]; exact hg.2.2 a ha b (List.mem_singleton_self _)⟩
      · rcases List.mem_append.1 hc with h1 | h1
        · have := hg.2.2 c h1 b (List.mem_singleton_self _); omega
        · rw [List.mem_singleton.1 h1]; dsimp only; omega
      · rw [fre_app, fre_app, fre_cons, fre_cons]
        have : ¬ Fre [] x := fre_nil
        simp only [this, or_false]
        rw [or_assoc]
        refine or_congr Iff.rfl ?_
        constructor
        · intro h
          by_cases h2 : x = i
          · exact .inr h2
          · exact .inl ⟨h.1, by omega⟩
        · rintro (h | rfl)
          · exact ⟨h.1, by omega⟩
          · exact ⟨by omega, by omega⟩
    · rw [if_neg he]
      refine one fun c hc => ?_
      rcases List.mem_append.1 hc with h1 | h1
      · have := hg.2.2 c h1 b (List.mem_singleton_self _)
        have := hb b (List.mem_append_right _ (List.mem_singleton_self _))
        omega
      · have := hb c hc
        have e := List.mem_singleton.1 h1
        subst e
        omega
theorem blkK_ok (tk : List Bool) : ∀ k, FOk (blkK tk k) ∧ (∀ b ∈ blkK tk k, b.1 + b.2 ≤ k) ∧ ∀ x, Fre (blkK tk k) x ↔ x < k ∧ tk.getD x true = false
  | 0 => ⟨⟨fun b hb => (by cases hb), List.Pairwise.nil⟩, fun b hb => (by cases hb), fun x => ⟨fun h => absurd h fre_nil, fun h => (by omega)⟩⟩
  | k + 1 => by
    obtain ⟨h1, h2, h3⟩ := blkK_ok tk k
    unfold blkK
    by_cases ht : tk.getD k true = true
    · rw [if_pos ht]
      refine ⟨h1, fun b hb => Nat.le_succ_of_le (h2 b hb), fun x => ?_⟩
      rw [h3 x]
      constructor
      · exact fun h => ⟨by omega, h.2⟩
      · intro h
        refine ⟨?_, h.2⟩
        rcases Nat.lt_or_ge x k with h4 | h4
        · exact h4
        · obtain rfl : x = k := by omega
          rw [ht] at h; exact absurd h.2 (by simp)
    · rw [if_neg ht]
      obtain ⟨s1, s2, s3⟩ := blkStep_ok h1 h2
      refine ⟨s1, s2, fun x => ?_⟩
      rw [s3 x, h3 x]
      constructor
      · rintro (h | rfl)
        · exact ⟨by omega, h.2⟩
        · exact ⟨by omega, by simpa using ht⟩
      · intro h
        rcases Nat.lt_or_ge x k with h4 | h4
        · exact .inl ⟨h4, h.2⟩
        · exact .inr (by omega)
def blksF (tk : List Bool) : List Bk := blkK tk tk.length
theorem blksF_eq {tk : List Bool} {F : List Bk} (ok : FOk F) (h : ∀ x, Fre F x ↔ x < tk.length ∧ tk.getD x true = false) : blksF tk = F := by
  obtain ⟨h1, _, h3⟩ := blkK_ok tk tk.length
  exact h1.uniq ok fun i => (h3 i).trans (h i).symm
/-! ### Words are taken. -/
def setTk (tk : List Bool) (at_ n : Nat) (b : Bool) : List Bool := (List.range tk.length).map fun i => if at_ ≤ i ∧ i < at_ + n then b else tk.getD i true
theorem setTk_len (tk : List Bool) (at_ n : Nat) (b : Bool) : (setTk tk at_ n b).length = tk.length := by unfold setTk; rw [List.length_map, List.length_range]
theorem setTk_at (tk : List Bool) (at_ n : Nat) (b : Bool) (x : Nat) (hx : x < tk.length) : (setTk tk at_ n b).getD x true = if at_ ≤ x ∧ x < at_ + n then b else tk.getD x true := by
  unfold setTk
  rw [List.getD_eq_getElem?_getD, List.getElem?_map, List.getElem?_range hx]
  rfl
def takeF (F : List Bk) (i n : Nat) : List Bk :=
  match F[i]? with
  | some b => if b.2 = n then F.eraseIdx i else F.set i (b.1 + n, b.2 - n)
  | none => F
theorem split_at {F : List Bk} {i : Nat} {b : Bk} (h : F[i]? = some b) : F = F.take i ++ b :: F.drop (i + 1) := by
  obtain ⟨hi, rfl⟩ := List.getElem?_eq_some_iff.1 h
  rw [← List.drop_eq_getElem_cons hi, List.take_append_drop]
theorem takeF_eq {F : List Bk} {i n : Nat} {b : Bk} (h : F[i]? = some b) : takeF F i n = F.take i ++ (if b.2 = n then [] else [(b.1 + n, b.2 - n)]) ++ F.drop (i + 1) := by
  obtain ⟨hi, hb⟩ := List.getElem?_eq_some_iff.1 h
  unfold takeF
  rw [h]
  dsimp only
  split
  · rw [List.eraseIdx_eq_take_drop_succ, List.append_nil]
  · rw [List.set_eq_take_append_cons_drop, if_pos hi]
    simp
theorem takeF_ok {F : List Bk} {i n : Nat} {b : Bk} (ok : FOk F) (h : F[i]? = some b) (hn : n ≤ b.2) : FOk (takeF F i n) ∧ ∀ x, Fre (takeF F i n) x ↔ Fre F x ∧ ¬ (b.1 ≤ x ∧ x < b.1 + n) := by
  have e := split_at h
  rw [takeF_eq h]
  obtain ⟨A, hA⟩ : ∃ A, F.take i = A := ⟨_, rfl⟩
  obtain ⟨C, hC⟩ : ∃ C, F.drop (i + 1) = C := ⟨_, rfl⟩
  rw [hA, hC] at e ⊢
  clear hA hC h
  subst e
  have hg := List.pairwise_append.1 ok.gap
  have hg2 := List.pairwise_cons.1 hg.2.1
  have pA : ∀ c ∈ A, 0 < c.2 := fun c hc => ok.pos c (List.mem_append_left _ hc)
  have pC : ∀ c ∈ C, 0 < c.2 := fun c hc => ok.pos c (List.mem_append_right _ (List.mem_cons_of_mem _ hc))
  have gAb : ∀ c ∈ A, c.1 + c.2 < b.1 := fun c hc => hg.2.2 c hc b (List.mem_cons_self ..)
  have gAC : ∀ a ∈ A, ∀ c ∈ C, a.1 + a.2 < c.1 := fun a ha c hc => hg.2.2 a ha c (List.mem_cons_of_mem _ hc)
  have fA : ∀ x, Fre A x → x < b.1 := fun x ⟨c, hc, _, h2⟩ => by have := gAb c hc; omega
  have fC : ∀ x, Fre C x → b.1 + b.2 < x := fun x ⟨c, hc, h1, _⟩ => by have := hg2.1 c hc; omega
  by_cases hbn : b.2 = n
  · rw [if_pos hbn, List.append_nil]
    refine ⟨⟨fun c hc => ?_, List.pairwise_append.2 ⟨hg.1, hg2.2, gAC⟩⟩, fun x => ?_⟩
    · rcases List.mem_append.1 hc with h1 | h1
      · exact pA c h1
      · exact pC c h1
    · rw [fre_app, fre_app, fre_cons]
      constructor
      · rintro (h1 | h1)
        · have := fA x h1
          exact ⟨.inl h1, by omega⟩
        · have := fC x h1
          exact ⟨.inr (.inr h1), by omega⟩
      · rintro ⟨h1 | h1 | h1, h2⟩
        · exact .inl h1
        · omega
        · exact .inr h1
  · rw [if_neg hbn, List.append_assoc]
    refine ⟨⟨fun c hc => ?_, ?_⟩, fun x => ?_⟩
    · rcases List.mem_append.1 hc with h1 | h1
      · exact pA c h1
      · rcases List.mem_append.1 h1 with h2 | h2
        · rw [List.mem_singleton.1 h2]; dsimp only; omega
        · exact pC c h2
    · rw [List.pairwise_append]
      refine ⟨hg.1, ?_, fun a ha c hc => ?_⟩
      · rw [List.singleton_append, List.pairwise_cons]
        refine ⟨fun c hc => ?_, hg2.2⟩
        have := hg2.1 c hc
        dsimp only; omega
      · rcases List.mem_append.1 hc with h2 | h2
        · rw [List.mem_singleton.1 h2]
          have := gAb a ha
          dsimp only; omega
        · exact gAC a ha c h2
    · rw [fre_app, fre_app, fre_app, fre_cons, fre_cons]
      have hn0 : ¬ Fre [] x := fre_nil
      dsimp only
      constructor
      · rintro (h1 | (h1 | h1) | h1)
        · have := fA x h1
          exact ⟨.inl h1, by omega⟩
        · exact ⟨.inr (.inl ⟨by omega, by omega⟩), by omega⟩
        · exact absurd h1 hn0
        · have := fC x h1
          exact ⟨.inr (.inr h1), by omega⟩
      · rintro ⟨h1 | h1 | h1, h2⟩
        · exact .inl h1
        · exact .inr (.inl (.inl ⟨by omega, by omega⟩))
        · exact .inr (.inr h1)
/-! ### Words are given back. -/
def joinAt (L : List Bk) (k : Nat) : List Bk :=
  match L[k]?, L[k + 1]? with
  | some a, some b => if a.1 + a.2 = b.1 then (L.set k (a.1, a.2 + b.2)).eraseIdx (k + 1) else L
  | _, _ => L
def giveF (F : List Bk) (i at_ n : Nat) : List Bk :=
  let L := joinAt (F.insertIdx i (at_, n)) i
  if i = 0 then L else joinAt L (i - 1)
theorem joinAt_app {A C : List Bk} {a b : Bk} {k : Nat} (hk : A.length = k) : joinAt (A ++ a :: b :: C) k = if a.1 + a.2 = b.1 then A ++ (a.1, a.2 + b.2) :: C else A ++ a :: b :: C := by
  subst hk
  unfold joinAt
  have e1 : (A ++ a :: b :: C)[A.length]? = some a := by simp
  have e2 : (A ++ a :: b :: C)[A.length + 1]? = some b := by
    rw [List.getElem?_append_right (by omega), show A.length + 1 - A.length = 1 by omega]; rfl
  rw [e1, e2]
  dsimp only
  split
  · rw [List.set_append_right _ _ (Nat.le_refl _), Nat.sub_self, List.set_cons_zero, List.eraseIdx_append_of_length_le (by omega), show A.length + 1 - A.length = 1 by omega]
    rfl
  · rfl
theorem joinAt_end {A : List Bk} {a : Bk} {k : Nat} (hk : A.length = k) : joinAt (A ++ [a]) k = A ++ [a] := by
  unfold joinAt
  have e2 : (A ++ [a])[k + 1]? = none := by rw [List.getElem?_eq_none]; simp; omega
  rw [e2]
  cases (A ++ [a])[k]? <;> rfl
theorem insertIdx_app (A C : List Bk) (x : Bk) : (A ++ C).insertIdx A.length x = A ++ x :: C := by
  induction A with
  | nil => rfl
  | cons a A ih => rw [List.cons_append, List.length_cons, List.insertIdx_succ_cons, ih]; rfl
theorem giveF_ok {F : List Bk} {A C : List Bk} {at_ n : Nat} (ok : FOk F) (hn : 0 < n) (e : F = A ++ C) (hA : ∀ b ∈ A, b.1 + b.2 ≤ at_) (hC : ∀ b ∈ C, at_ + n ≤ b.1) :
    FOk (giveF F A.length at_ n) ∧ ∀ x, Fre (giveF F A.length at_ n) x ↔ Fre F x ∨ (at_ ≤ x ∧ x < at_ + n) := by
  subst e
  have hg := List.pairwise_append.1 ok.gap
  have pA : ∀ c ∈ A, 0 < c.2 := fun c hc => ok.pos c (List.mem_append_left _ hc)
  have pC : ∀ c ∈ C, 0 < c.2 := fun c hc => ok.pos c (List.mem_append_right _ hc)
  have ei := insertIdx_app A C (at_, n)
  -- behind
  obtain ⟨m, D, h1, hm, hD1, hD2, hD3, hF⟩ : ∃ (m : Nat) (D : List Bk), joinAt (A ++ (at_, n) :: C) A.length = A ++ (at_, m) :: D ∧ 0 < m ∧ D.Pairwise (fun a b => a.1 + a.2 < b.1) ∧ (∀ c ∈ D, c ∈ C) ∧ (∀ c ∈ D, at_ + m < c.1) ∧ ∀ x, Fre ((at_, m) :: D) x ↔ Fre C x ∨ (at_ ≤ x ∧ x < at_ + n) := by
    cases C with
    | nil =>
      refine ⟨n, [], joinAt_end rfl, hn, List.Pairwise.nil, (fun c hc => by cases hc), (fun c hc => by cases hc), fun x => ?_⟩
      rw [fre_cons]
      have : ¬ Fre [] x := fre_nil
      simp [this]
    | cons c C =>
      have hc := List.pairwise_cons.1 hg.2.1
      rw [joinAt_app rfl]
      dsimp only
      by_cases hj : at_ + n = c.1
      · rw [if_pos hj]
        refine ⟨n + c.2, C, rfl, by omega, hc.2, fun d hd => List.mem_cons_of_mem _ hd, fun d hd => by have := hc.1 d hd; omega, fun x => ?_⟩
        rw [fre_cons, fre_cons]
        dsimp only
        constructor
        · rintro (h | h)
          · by_cases h2 : x < at_ + n
            · exact .inr ⟨h.1, h2⟩
            · exact .inl (.inl ⟨by omega, by omega⟩)
          · exact .inl (.inr h)
        · rintro ((h | h) | h)
          · exact .inl ⟨by omega, by omega⟩
          · exact .inr h
          · exact .inl ⟨by omega, by omega⟩
      · rw [if_neg hj]
        have hcl := hC c (List.mem_cons_self ..)
        refine ⟨n, c :: C, rfl, hn, hg.2.1, fun d hd => hd, fun d hd => ?_, fun x => ?_⟩
        · rcases List.mem_cons.1 hd with rfl | hd
          · omega
          · have := hc.1 d hd
            have := pC c (List.mem_cons_self ..)
            omega
        · rw [fre_cons]
          dsimp only
          exact or_comm
  have eg : giveF (A ++ C) A.length at_ n = if A.length = 0 then A ++ (at_, m) :: D else joinAt (A ++ (at_, m) :: D) (A.length - 1) := by
    unfold giveF
    rw [ei, h1]
  rw [eg]
  rcases List.eq_nil_or_concat A with rfl | ⟨B, a, rfl⟩
  · rw [if_pos List.length_nil, List.nil_append, List.nil_append]
    refine ⟨⟨fun b hb => ?_, List.pairwise_cons.2 ⟨fun b hb => hD3 b hb, hD1⟩⟩, fun x => hF x⟩
    rcases List.mem_cons.1 hb with rfl | hb
    · exact hm
    · exact pC b (hD2 b hb)
  · rw [List.concat_eq_append] at *
    rw [if_neg (by simp), List.append_assoc, List.length_append, List.length_singleton, Nat.add_sub_cancel, List.singleton_append, joinAt_app rfl]
    have hB := List.pairwise_append.1 hg.1
    have hBa : ∀ b ∈ B, b.1 + b.2 < a.1 := fun b hb => hB.2.2 b hb a (List.mem_singleton_self _)
    have haA := hA a (List.mem_append_right _ (List.mem_singleton_self _))
    have pa := pA a (List.mem_append_right _ (List.mem_singleton_self _))
    have hBD : ∀ b ∈ B, ∀ d ∈ D, b.1 + b.2 < d.1 := fun b hb d hd => hg.2.2 b (List.mem_append_left _ hb) d (hD2 d hd)
    dsimp only
    have hFx : ∀ x, Fre (B ++ [a] ++ C) x ∨ (at_ ≤ x ∧ x < at_ + n) ↔ Fre B x ∨ (a.1 ≤ x ∧ x < a.1 + a.2) ∨ Fre ((at_, m) :: D) x := fun x => by
      rw [hF x, fre_app, fre_app, fre_cons]
      have : ¬ Fre [] x := fre_nil
      simp only [this, or_false]
      rw [or_assoc, or_assoc]
    by_cases hj : a.1 + a.2 = at_
    · rw [if_pos hj]
      refine ⟨⟨fun b hb => ?_, ?_⟩, fun x => ?_⟩
      · rcases List.mem_append.1 hb with h2 | h2
        · exact pA b (List.mem_append_left _ h2)
        · rcases List.mem_cons.1 h2 with rfl | h2
          · dsimp only; omega
          · exact pC b (hD2 b h2)
      · rw [List.pairwise_append, List.pairwise_cons]
        refine ⟨hB.1, ⟨fun d hd => by have := hD3 d hd; dsimp only; omega, hD1⟩, fun b hb d hd => ?_⟩
        rcases List.mem_cons.1 hd with rfl | hd
        · exact hBa b hb
        · exact hBD b hb d hd
      · rw [hFx x, fre_app, fre_cons, fre_cons]
        dsimp only
        refine or_congr Iff.rfl ?_
        rw [← or_assoc]
        refine or_congr ?_ Iff.rfl
        omega
    · rw [if_neg hj]
      refine ⟨⟨fun b hb => ?_, ?_⟩, fun x => ?_⟩
      · rcases List.mem_append.1 hb with h2 | h2
        · exact pA b (List.mem_append_left _ h2)
        · rcases List.mem_cons.1 h2 with rfl | h2
          · exact pa
          · rcases List.mem_cons.1 h2 with rfl | h2
            · exact hm
            · exact pC b (hD2 b h2)
      · rw [List.pairwise_append, List.pairwise_cons, List.pairwise_cons]
        refine ⟨hB.1, ⟨fun d hd => ?_, fun d hd => hD3 d hd, hD1⟩, fun b hb d hd => ?_⟩
        · rcases List.mem_cons.1 hd with rfl | hd
          · dsimp only; omega
          · have := hD3 d hd; omega
        · rcases List.mem_cons.1 hd with rfl | hd
          · exact hBa b hb
          · rcases List.mem_cons.1 hd with rfl | hd
            · have := hBa b hb; dsimp only; omega
            · exact hBD b hb d hd
      · rw [hFx x, fre_app, fre_cons]
end Go.Proofs.Ytjphckfbbiehdaa
