/- Canons, plain: pairs that stand at the same place. Canons: slices.Equal of values, slices.EqualFunc of objects. Canons: the program's Canon and Same, the reference's Canon. -/
import Derived.Test.YtaajkldhnjoicaaGGraphCanons0
import Derived.Deep.RegionHeld3
import Derived.Test.YtaajkldhnjoicaaGGraphTells9
import Derived.Test.YtaajkldhnjoicaaGTrialTells1
set_option linter.unusedSimpArgs false
set_option linter.unusedVariables false
namespace Go.Proofs.Ytaajkldhnjoicaa

theorem placeN_append {l m : List Int} {x : Int} (hx : x ∈ l) : placeN (l ++ m) x = placeN l x := by
  unfold placeN
  rw [if_pos hx, if_pos (by simp [hx]), List.idxOf_append, if_pos hx]
theorem placeN_pre {l m : List Int} {x : Int} (h : l <+: m) (hx : x ∈ l) : placeN m x = placeN l x := by
  obtain ⟨r, rfl⟩ := h
  exact placeN_append hx
theorem placeN_lt {l : List Int} {x : Int} (hx : x ∈ l) : placeN l x < l.length := by unfold placeN; rw [if_pos hx]; exact List.idxOf_lt_length_of_mem hx
theorem placeN_get {l : List Int} {x : Int} (hx : x ∈ l) : l.getD (placeN l x) 0 = x := by
  have h := placeN_lt hx
  rw [List.getD_eq_getElem?_getD, List.getElem?_eq_getElem h]
  unfold placeN at h ⊢
  simp only [if_pos hx] at h ⊢
  simp
theorem placeN_last {l : List Int} {x : Int} (hx : x ∉ l) : placeN (l ++ [x]) x = l.length := by rw [placeN_snoc hx, if_pos rfl]
theorem turnL_pre {l m : List Int} {v : Val} (h : l <+: m) (hv : v.1 = true → v.2 ∈ l) : turnL m v = turnL l v := by
  unfold turnL
  split
  · rename_i h1; rw [placeN_pre h (hv h1)]
  · rfl

theorem nodup_inj {l : List Int} (hn : l.Nodup) {i j : Nat} (hi : i < l.length) (hj : j < l.length) (h : l[i] = l[j]) : i = j := by
  have h1 := List.nodup_iff_pairwise_ne.1 hn
  rw [List.pairwise_iff_getElem] at h1
  rcases Nat.lt_trichotomy i j with h2 | h2 | h2
  · exact absurd h (h1 i j hi hj h2)
  · exact h2
  · exact absurd h.symm (h1 j i hj hi h2)
abbrev Prs := List Int × List Int
/-- Do two values stand for each other? A new pair is noted. -/
def pr1 (σ : Prs) (p q : Val) : Option Prs :=
  if p.1 = true ∧ q.1 = true then
    if (p.2 ∈ σ.1 ↔ q.2 ∈ σ.2) then
      if (if p.2 ∈ σ.1 then σ else (σ.1 ++ [p.2], σ.2 ++ [q.2])).2.getD (placeN (if p.2 ∈ σ.1 then σ else (σ.1 ++ [p.2], σ.2 ++ [q.2])).1 p.2) 0 = q.2 then some (if p.2 ∈ σ.1 then σ else (σ.1 ++ [p.2], σ.2 ++ [q.2])) else none
    else none
  else if p = q then some σ else none
def prF (σ : Prs) (l : List (Val × Val)) : Option Prs := l.foldlM (fun σ pq => pr1 σ pq.1 pq.2) σ
theorem prF_nil (σ : Prs) : prF σ [] = some σ := rfl
theorem prF_snoc (σ : Prs) (l : List (Val × Val)) (x : Val × Val) : prF σ (l ++ [x]) = (prF σ l).bind fun σ => pr1 σ x.1 x.2 := by
  unfold prF
  rw [List.foldlM_append]
  cases h : List.foldlM (fun σ (pq : Val × Val) => pr1 σ pq.1 pq.2) σ l <;> simp
theorem prF_cons (σ : Prs) (l : List (Val × Val)) (x : Val × Val) : prF σ (x :: l) = (pr1 σ x.1 x.2).bind fun σ => prF σ l := by
  unfold prF
  rw [List.foldlM_cons]; rfl

theorem seen1_not {l : List Int} {v : Val} (h : ¬ (v.1 = true ∧ v.2 ∉ l)) : seen1 l v = l := by unfold seen1; rw [if_neg h]
theorem seen1_has {l : List Int} {v : Val} (h : v.1 = true) : v.2 ∈ seen1 l v := by
  unfold seen1; split
  · simp
  · rename_i h1
    exact Classical.byContradiction fun h2 => h1 ⟨h, h2⟩
theorem seenAll_has {l : List Int} {vs : List Val} {v : Val} (hv : v ∈ vs) (h : v.1 = true) : v.2 ∈ seenAll l vs := by
  unfold seenAll
  induction vs generalizing l with
  | nil => simp at hv
  | cons a vs ih =>
    rcases List.mem_cons.1 hv with rfl | h1
    · exact (seenAll_pre (seen1 l v) vs).subset (seen1_has h)
    · exact ih h1

theorem pr1_some {σ τ : Prs} {p q : Val} (hl : σ.1.length = σ.2.length) (hn : σ.2.Nodup) (h : pr1 σ p q = some τ) : τ = (seen1 σ.1 p, seen1 σ.2 q) ∧ τ.1.length = τ.2.length ∧ turnL τ.1 p = turnL τ.2 q := by
  unfold pr1 at h
  by_cases hr : p.1 = true ∧ q.1 = true
  · rw [if_pos hr] at h
    by_cases hi : p.2 ∈ σ.1 ↔ q.2 ∈ σ.2
    · rw [if_pos hi] at h
      by_cases hp : p.2 ∈ σ.1
      · have hq := hi.1 hp
        simp only [if_pos hp] at h
        by_cases hg : σ.2.getD (placeN σ.1 p.2) 0 = q.2
        · rw [if_pos hg] at h
          injection h with h
          subst h
          rw [seen1_not (fun e => e.2 hp), seen1_not (fun e => e.2 hq)]
          refine ⟨rfl, hl, ?_⟩
          unfold turnL
          rw [if_pos hr.1, if_pos hr.2]
          have h1 := placeN_lt hp
          have h2 : placeN σ.2 q.2 = placeN σ.1 p.2 := by
            have h3 := placeN_get hq
            have h4 := placeN_lt hq
            rw [List.getD_eq_getElem?_getD, List.getElem?_eq_getElem h4] at h3
            rw [List.getD_eq_getElem?_getD, List.getElem?_eq_getElem (by omega)] at hg
            simp only [Option.getD_some] at hg h3
            exact nodup_inj hn h4 (by omega) (h3.trans hg.symm)
          rw [h2]
        · rw [if_neg hg] at h; cases h
      · have hq : q.2 ∉ σ.2 := fun h2 => hp (hi.2 h2)
        simp only [if_neg hp] at h
        by_cases hg : (σ.2 ++ [q.2]).getD (placeN (σ.1 ++ [p.2]) p.2) 0 = q.2
        · rw [if_pos hg] at h
          injection h with h
          subst h
          have e1 : seen1 σ.1 p = σ.1 ++ [p.2] := by unfold seen1; rw [if_pos ⟨hr.1, hp⟩]
          have e2 : seen1 σ.2 q = σ.2 ++ [q.2] := by unfold seen1; rw [if_pos ⟨hr.2, hq⟩]
          rw [e1, e2]
          refine ⟨rfl, by simp [hl], ?_⟩
          unfold turnL
          rw [if_pos hr.1, if_pos hr.2, placeN_last hp, placeN_last hq, hl]
        · rw [if_neg hg] at h; cases h
    · rw [if_neg hi] at h; cases h
  · rw [if_neg hr] at h
    by_cases he : p = q
    · rw [if_pos he] at h
      injection h with h
      subst h; subst he
      have h1 : p.1 ≠ true := fun e => hr ⟨e, e⟩
      rw [seen1_not (fun e => h1 e.1), seen1_not (fun e => h1 e.1)]
      refine ⟨rfl, hl, ?_⟩
      unfold turnL
      rw [if_neg h1, if_neg h1]
    · rw [if_neg he] at h; cases h
theorem pr1_like {σ : Prs} {p q : Val} {la lb : List Int} (hl : σ.1.length = σ.2.length) (ha : seen1 σ.1 p <+: la) (hb : seen1 σ.2 q <+: lb) (hna : la.Nodup) (hnb : lb.Nodup) (h : turnL la p = turnL lb q) : pr1 σ p q ≠ none := by
  unfold pr1
  have ha0 := (seen1_pre σ.1 p).trans ha
  have hb0 := (seen1_pre σ.2 q).trans hb
  by_cases hr : p.1 = true ∧ q.1 = true
  · rw [if_pos hr]
    have hpm := ha.subset (seen1_has (l := σ.1) hr.1)
    have hqm := hb.subset (seen1_has (l := σ.2) hr.2)
    have hpl : placeN la p.2 = placeN lb q.2 := by
      unfold turnL at h
      rw [if_pos hr.1, if_pos hr.2] at h
      injection h with _ h
      omega
    have key : p.2 ∈ σ.1 ↔ q.2 ∈ σ.2 := by
      constructor
      · intro h1
        have h2 := placeN_lt h1
        rw [placeN_pre ha0 h1] at hpl
        have h3 := placeN_get hqm
        rw [← hpl] at h3
        obtain ⟨r, rfl⟩ := hb0
        rw [List.getD_eq_getElem?_getD, List.getElem?_append_left (by omega), List.getElem?_eq_getElem (by omega)] at h3
        rw [← show σ.2[placeN σ.1 p.2]'(by omega) = q.2 from h3]
        exact List.getElem_mem _
      · intro h1
        have h2 := placeN_lt h1
        rw [placeN_pre hb0 h1] at hpl
        have h3 := placeN_get hpm
        rw [hpl] at h3
        obtain ⟨r, rfl⟩ := ha0
        rw [List.getD_eq_getElem?_getD, List.getElem?_append_left (by omega), List.getElem?_eq_getElem (by omega)] at h3
        rw [← show σ.1[placeN σ.2 q.2]'(by omega) = p.2 from h3]
        exact List.getElem_mem _
    rw [if_pos key]
    by_cases hp : p.2 ∈ σ.1
    · have hq := key.1 hp
      simp only [if_pos hp]
      rw [placeN_pre ha0 hp, placeN_pre hb0 hq] at hpl
      rw [if_pos (by rw [hpl]; exact placeN_get hq)]
      simp
    · simp only [if_neg hp]
      rw [placeN_last hp, hl, if_pos (by simp [List.getD_eq_getElem?_getD])]
      simp
  · rw [if_neg hr]
    have he : p = q := by
      obtain ⟨a, x⟩ := p
      obtain ⟨b, y⟩ := q
      unfold turnL at h
      dsimp only at h hr
      cases a <;> cases b <;> simp at h hr ⊢
      exact h
    rw [if_pos he]
    simp
theorem prF_some {xs ys : List Val} {σ τ : Prs} {n m : Nat} (hlen : xs.length = ys.length) (hl : σ.1.length = σ.2.length) (ha : OrdOk n σ.1) (hb : OrdOk m σ.2) (hva : ValsOk n xs) (hvb : ValsOk m ys) (h : prF σ (xs.zip ys) = some τ) :
    τ = (seenAll σ.1 xs, seenAll σ.2 ys) ∧ τ.1.length = τ.2.length ∧ xs.map (turnL τ.1) = ys.map (turnL τ.2) := by
  induction xs generalizing ys σ with
  | nil =>
    cases ys with
    | cons b ys => simp at hlen
    | nil =>
      injection h with h
      subst h
      exact ⟨rfl, hl, rfl⟩
  | cons p xs ih =>
    cases ys with
    | nil => simp at hlen
    | cons q ys =>
      rw [List.zip_cons_cons, prF_cons] at h
      cases h1 : pr1 σ p q with
      | none => rw [h1] at h; cases h
      | some ρ =>
        rw [h1] at h
        obtain ⟨rfl, h3, h4⟩ := pr1_some hl hb.nodup h1
        obtain ⟨h5, h6, h7⟩ := ih (by simpa using hlen) h3 (ha.seen1 (hva p (by simp))) (hb.seen1 (hvb q (by simp))) (fun v hv => hva v (by simp [hv])) (fun v hv => hvb v (by simp [hv])) h
        refine ⟨h5, h6, ?_⟩
        rw [List.map_cons, List.map_cons, h7]
        congr 1
        rw [h5]
        rw [turnL_pre (seenAll_pre (seen1 σ.1 p) xs) (fun e => seen1_has e), turnL_pre (seenAll_pre (seen1 σ.2 q) ys) (fun e => seen1_has e)]
        exact h4
theorem prF_like {xs ys : List Val} {σ : Prs} {n m : Nat} {la lb : List Int} (hlen : xs.length = ys.length) (hl : σ.1.length = σ.2.length) (ho : OrdOk n σ.1) (hp : OrdOk m σ.2) (hva : ValsOk n xs) (hvb : ValsOk m ys)
    (ha : seenAll σ.1 xs <+: la) (hb : seenAll σ.2 ys <+: lb) (hna : la.Nodup) (hnb : lb.Nodup) (h : xs.map (turnL la) = ys.map (turnL lb)) : prF σ (xs.zip ys) ≠ none := by
  induction xs generalizing ys σ with
  | nil => cases ys <;> simp [prF_nil, List.zip_nil_left]
  | cons p xs ih =>
    cases ys with
    | nil => simp at hlen
    | cons q ys =>
      rw [List.zip_cons_cons, prF_cons]
      rw [List.map_cons, List.map_cons] at h
      injection h with h0 h1
      have h2 := pr1_like (σ := σ) (p := p) (q := q) hl ((seenAll_pre (seen1 σ.1 p) xs).trans ha) ((seenAll_pre (seen1 σ.2 q) ys).trans hb) hna hnb h0
      cases h3 : pr1 σ p q with
      | none => exact absurd h3 h2
      | some ρ =>
        obtain ⟨rfl, h4, h5⟩ := pr1_some hl hp.nodup h3
        exact ih (by simpa using hlen) h4 (ho.seen1 (hva p (by simp))) (hp.seen1 (hvb q (by simp))) (fun v hv => hva v (by simp [hv])) (fun v hv => hvb v (by simp [hv])) ha hb h1

/-! ### The whole. -/
theorem bfs_up {gs : List (List Val)} {f k : Nat} {l : List Int} (h : k < l.length) : bfs gs (f + 1) k l = bfs gs f (k + 1) (seenAll l (fieldsI gs (l.getD k 0))) := by conv => lhs; unfold bfs; rw [if_pos h]
theorem bfs_done {gs : List (List Val)} {f k : Nat} {l : List Int} (h : ¬ k < l.length) : bfs gs f k l = l := by
  cases f with
  | zero => rfl
  | succ f => unfold bfs; rw [if_neg h]
/-- The same, but for numbers. -/
def Canons (ga gb : List (List Val)) (ra rb : List Val) : Prop := ra.map (turnL (order ga ra)) = rb.map (turnL (order gb rb)) ∧ renumF ga (order ga ra) = renumF gb (order gb rb)
/-- After so many that have been compared. -/
structure SmI (ga gb : List (List Val)) (ra rb : List Val) (k : Nat) (σ : Prs) : Prop where
  oa : OrdOk ga.length σ.1
  ob : OrdOk gb.length σ.2
  len : σ.1.length = σ.2.length
  ka : k ≤ σ.1.length
  fa : bfs ga (ga.length - k) k σ.1 = order ga ra
  fb : bfs gb (gb.length - k) k σ.2 = order gb rb
  roots : ra.map (turnL σ.1) = rb.map (turnL σ.2)
  ina : ∀ v ∈ ra, v.1 = true → v.2 ∈ σ.1
  inb : ∀ v ∈ rb, v.1 = true → v.2 ∈ σ.2
  each : ∀ j, j < k → (fieldsI ga (σ.1.getD j 0)).map (turnL σ.1) = (fieldsI gb (σ.2.getD j 0)).map (turnL σ.2)
  clsa : ∀ j, j < k → ∀ v ∈ fieldsI ga (σ.1.getD j 0), v.1 = true → v.2 ∈ σ.1
  clsb : ∀ j, j < k → ∀ v ∈ fieldsI gb (σ.2.getD j 0), v.1 = true → v.2 ∈ σ.2
section
variable {ga gb : List (List Val)} {ra rb : List Val}
theorem map_turn_pre {l m : List Int} {vs : List Val} (h : l <+: m) (hv : ∀ v ∈ vs, v.1 = true → v.2 ∈ l) : vs.map (turnL m) = vs.map (turnL l) := List.map_congr_left fun v hv' => turnL_pre h (hv v hv')
theorem getD_pre' {l m : List Int} (h : l <+: m) {j : Nat} (hj : j < l.length) : m.getD j 0 = l.getD j 0 := by
  obtain ⟨r, rfl⟩ := h
  rw [List.getD_eq_getElem?_getD, List.getElem?_append_left hj, ← List.getD_eq_getElem?_getD]
theorem SmI.start {τ : Prs} (hva : ValsOk ga.length ra) (hvb : ValsOk gb.length rb) (hlen : ra.length = rb.length) (h : prF ([], []) (ra.zip rb) = some τ) : SmI ga gb ra rb 0 τ := by
  obtain ⟨rfl, h2, h3⟩ := prF_some (n := ga.length) (m := gb.length) hlen rfl (OrdOk.nil _) (OrdOk.nil _) hva hvb h
  exact ⟨(OrdOk.nil _).seenAll hva, (OrdOk.nil _).seenAll hvb, h2, Nat.zero_le _, rfl, rfl, h3, fun v hv h => seenAll_has hv h, fun v hv h => seenAll_has hv h, fun j hj => by omega, fun j hj => by omega, fun j hj => by omega⟩
theorem Canons.no_start (hva : ValsOk ga.length ra) (hvb : ValsOk gb.length rb) (h : ra.length ≠ rb.length ∨ prF ([], []) (ra.zip rb) = none) (hga : ∀ fs ∈ ga, ValsOk ga.length fs) (hgb : ∀ fs ∈ gb, ValsOk gb.length fs) : ¬ Canons ga gb ra rb := fun ⟨h1, _⟩ => by
  have hlen : ra.length = rb.length := by simpa using congrArg List.length h1
  rcases h with h | h
  · exact h hlen
  · exact prF_like (σ := ([], [])) (la := order ga ra) (lb := order gb rb) (n := ga.length) (m := gb.length) hlen rfl (OrdOk.nil _) (OrdOk.nil _) hva hvb (bfs_pre ga ga.length 0 _) (bfs_pre gb gb.length 0 _) (order_ok hga hva).nodup (order_ok hgb hvb).nodup h1 h
theorem SmI.next {k : Nat} {σ τ : Prs} (a : SmI ga gb ra rb k σ) (hga : ∀ fs ∈ ga, ValsOk ga.length fs) (hgb : ∀ fs ∈ gb, ValsOk gb.length fs) (hk : k < σ.1.length)
    (hlen : (fieldsI ga (σ.1.getD k 0)).length = (fieldsI gb (σ.2.getD k 0)).length) (h : prF σ ((fieldsI ga (σ.1.getD k 0)).zip (fieldsI gb (σ.2.getD k 0))) = some τ) : SmI ga gb ra rb (k + 1) τ := by
  have hva := fieldsI_ok (n := ga.length) hga (σ.1.getD k 0)
  have hvb := fieldsI_ok (n := gb.length) hgb (σ.2.getD k 0)
  obtain ⟨rfl, h2, h3⟩ := prF_some hlen a.len a.oa a.ob hva hvb h
  have p1 := seenAll_pre σ.1 (fieldsI ga (σ.1.getD k 0))
  have p2 := seenAll_pre σ.2 (fieldsI gb (σ.2.getD k 0))
  have l1 := a.oa.len
  have l2 := a.ob.len
  have l3 := a.len
  have g1 : ∀ j, j < k + 1 → (seenAll σ.1 (fieldsI ga (σ.1.getD k 0))).getD j 0 = σ.1.getD j 0 := fun j hj => getD_pre' p1 (by omega)
  have g2 : ∀ j, j < k + 1 → (seenAll σ.2 (fieldsI gb (σ.2.getD k 0))).getD j 0 = σ.2.getD j 0 := fun j hj => getD_pre' p2 (by omega)
  refine ⟨a.oa.seenAll hva, a.ob.seenAll hvb, h2, ?_, ?_, ?_, ?_, fun v hv h => p1.subset (a.ina v hv h), fun v hv h => p2.subset (a.inb v hv h), fun j hj => ?_, fun j hj v hv hv1 => ?_, fun j hj v hv hv1 => ?_⟩
  · have := p1.length_le; dsimp only; omega
  · rw [← a.fa, show ga.length - k = (ga.length - (k + 1)) + 1 from by omega, bfs_up hk]
  · rw [← a.fb, show gb.length - k = (gb.length - (k + 1)) + 1 from by omega, bfs_up (by omega)]
  · dsimp only; rw [map_turn_pre p1 a.ina, map_turn_pre p2 a.inb]; exact a.roots
  · dsimp only
    rw [g1 j hj, g2 j hj]
    by_cases e : j = k
    · subst e; exact h3
    · rw [map_turn_pre p1 (a.clsa j (by omega)), map_turn_pre p2 (a.clsb j (by omega))]; exact a.each j (by omega)
  · dsimp only at hv ⊢
    rw [g1 j hj] at hv
    by_cases e : j = k
    · subst e; exact seenAll_has hv hv1
    · exact p1.subset (a.clsa j (by omega) v hv hv1)
  · dsimp only at hv ⊢
    rw [g2 j hj] at hv
    by_cases e : j = k
    · subst e; exact seenAll_has hv hv1
    · exact p2.subset (a.clsb j (by omega) v hv hv1)
theorem SmI.no_next {k : Nat} {σ : Prs} (a : SmI ga gb ra rb k σ) (hva : ValsOk ga.length ra) (hvb : ValsOk gb.length rb) (hga : ∀ fs ∈ ga, ValsOk ga.length fs) (hgb : ∀ fs ∈ gb, ValsOk gb.length fs) (hk : k < σ.1.length)
    (h : (fieldsI ga (σ.1.getD k 0)).length ≠ (fieldsI gb (σ.2.getD k 0)).length ∨ prF σ ((fieldsI ga (σ.1.getD k 0)).zip (fieldsI gb (σ.2.getD k 0))) = none) : ¬ Canons ga gb ra rb := fun ⟨_, h1⟩ => by
  have l1 := a.oa.len
  have l2 := a.ob.len
  have l3 := a.len
  have e1 := a.fa
  have e2 := a.fb
  rw [show ga.length - k = (ga.length - (k + 1)) + 1 from by omega, bfs_up hk] at e1
  rw [show gb.length - k = (gb.length - (k + 1)) + 1 from by omega, bfs_up (by omega)] at e2
  have p1 := bfs_pre ga (ga.length - (k + 1)) (k + 1) (seenAll σ.1 (fieldsI ga (σ.1.getD k 0)))
  have p2 := bfs_pre gb (gb.length - (k + 1)) (k + 1) (seenAll σ.2 (fieldsI gb (σ.2.getD k 0)))
  rw [e1] at p1
  rw [e2] at p2
  have q1 := (seenAll_pre σ.1 (fieldsI ga (σ.1.getD k 0))).trans p1
  have q2 := (seenAll_pre σ.2 (fieldsI gb (σ.2.getD k 0))).trans p2
  have h2 := congrArg (fun l => l[k]?) h1
  dsimp only [renumF] at h2
  rw [List.getElem?_map, List.getElem?_map, List.getElem?_eq_getElem (Nat.lt_of_lt_of_le hk q1.length_le), List.getElem?_eq_getElem (Nat.lt_of_lt_of_le (show k < σ.2.length by omega) q2.length_le)] at h2
  simp only [Option.map_some, Option.some.injEq] at h2
  have g1 := getD_pre' q1 hk
  have g2 := getD_pre' q2 (show k < σ.2.length by omega)
  rw [List.getD_eq_getElem?_getD, List.getElem?_eq_getElem (Nat.lt_of_lt_of_le hk q1.length_le)] at g1
  rw [List.getD_eq_getElem?_getD, List.getElem?_eq_getElem (Nat.lt_of_lt_of_le (show k < σ.2.length by omega) q2.length_le)] at g2
  simp only [Option.getD_some] at g1 g2
  rw [g1, g2] at h2
  have hlen : (fieldsI ga (σ.1.getD k 0)).length = (fieldsI gb (σ.2.getD k 0)).length := by simpa using congrArg List.length h2
  rcases h with h | h
  · exact h hlen
  · exact prF_like hlen a.len a.oa a.ob (fieldsI_ok hga _) (fieldsI_ok hgb _) p1 p2 (order_ok hga hva).nodup (order_ok hgb hvb).nodup h2 h
theorem SmI.end_ {k : Nat} {σ : Prs} (a : SmI ga gb ra rb k σ) (hk : ¬ k < σ.1.length) : Canons ga gb ra rb := by
  have h1 := a.fa
  have h2 := a.fb
  rw [bfs_done hk] at h1
  rw [bfs_done (by rw [← a.len]; exact hk)] at h2
  have hke : k = σ.1.length := by have := a.ka; omega
  refine ⟨by rw [← h1, ← h2]; exact a.roots, ?_⟩
  rw [← h1, ← h2]
  unfold renumF
  apply List.ext_getElem (by simp [a.len])
  intro j j1 j2
  rw [List.length_map] at j1 j2
  rw [List.getElem_map, List.getElem_map]
  have h3 := a.each j (by omega)
  rw [List.getD_eq_getElem?_getD, List.getElem?_eq_getElem j1, List.getD_eq_getElem?_getD, List.getElem?_eq_getElem j2] at h3
  exact h3
end
end Go.Proofs.Ytaajkldhnjoicaa

namespace Go.Proofs.Ytaajkldhnjoicaa
open Go.RowKit

theorem val_ne {x y : Val} (h : x ≠ y) : (x.1 = true ∧ y.1 = false) ∨ (x.1 = false ∧ y.1 = true) ∨ (x.1 = y.1 ∧ (x.2 == y.2) = false) := by
  obtain ⟨a, n⟩ := x
  obtain ⟨b, m⟩ := y
  cases a <;> cases b <;> simp at h ⊢
  · exact h
  · exact h
set_option maxHeartbeats 1600000 in
theorem eqVals_any (w : World) (D D' : Nat → Prop) (A A' : Option Addr) (n n' c c' : Nat) (xs ys : List Val) (hn : n ≤ 1000) (hn' : n' ≤ 1000)
    (h : Rd w D 2 A n (vals xs)) (h' : Rd w D' 2 A' n' (vals ys)) :
    Calls Try.prog 89 #[.slice A n c, .slice A' n' c'] w fun e w' => e = .returned (.bool (decide (xs = ys))) ∧ Below w.heap.size w w' := by
  have hl : xs.length = n := by have := h.1; rw [vals_length] at this; omega
  have hl' : ys.length = n' := by have := h'.1; rw [vals_length] at this; omega
  have HL := hide hl
  have HL' := hide hl'
  by_cases hnn : n = n'
  · subst hnn
    clear hl hl'
    go_enter Try.func89, Try.ntmps89
    go_wp2_with fail
    go_loopw [5, 13] (fun _ i wr => ∃ k : Nat, k ≤ n ∧ i = .int .i64 k ∧ Hid (xs.take k = ys.take k) ∧ Below w.heap.size w wr) (fun _ i _ => n - (intOf i).toNat)
    case atStart => exact ⟨0, by omega, rfl, by simp [Hid], Below.refl _ _⟩
    case round =>
      obtain ⟨k, hk, rfl, HE, hB⟩ := hrel
      by_cases hlt : k < n
      · have hkl : k < xs.length := by rw [HL.out]; exact hlt
        have hkl' : k < ys.length := by rw [HL'.out]; exact hlt
        obtain ⟨v1, v2⟩ := vals_at xs k hkl
        obtain ⟨u1, u2⟩ := vals_at ys k hkl'
        obtain ⟨ad, hA, _, had, hc, hd⟩ := (h.below hB).atN hlt
        obtain ⟨ad', hA', _, had', hc', hd'⟩ := (h'.below hB).atN hlt
        have e0 := hc _ v1
        have e1 := hc' _ u1
        have d0 := hd 0 _ v2
        have d1 := hd' 0 _ u2
        have HT := hide (List.take_succ_eq_append_getElem hkl)
        have HT' := hide (List.take_succ_eq_append_getElem hkl')
        have HG := hide (List.getElem?_eq_getElem hkl)
        have HG' := hide (List.getElem?_eq_getElem hkl')
        obtain ⟨x, hx⟩ : ∃ x, xs[k] = x := ⟨_, rfl⟩
        obtain ⟨y, hy⟩ : ∃ x, ys[k] = x := ⟨_, rfl⟩
        rw [hx] at e0 d0 HT HG
        rw [hy] at e1 d1 HT' HG'
        subst hA hA'
        clear hc hc' hd hd' hx hy v1 v2 u1 u2
        by_cases hxy : x = y
        · subst hxy
          have HE2 := hide (show xs.take (k + 1) = ys.take (k + 1) from by rw [HT.out, HT'.out, HE.out])
          obtain ⟨b, m⟩ := x
          clear HT HT' HE HG HG'
          go_wp2_with fail
          go_quiet (fail)
          go_wp2_with fail
          go_roundw
          case rel => exact ⟨k + 1, by omega, by go_num, HE2, below_drewN hB _⟩
          case measure => simp [intOf]; omega
        · have HD := hide (show decide (xs = ys) = false from by
            rw [decide_eq_false_iff_not]
            rintro rfl
            have h1 := HG.out.symm.trans HG'.out
            injection h1 with h1
            exact hxy h1)
          rcases val_ne hxy with ⟨h1, h2⟩ | ⟨h1, h2⟩ | ⟨h1, h2⟩
          all_goals
            obtain ⟨b, m⟩ := x
            obtain ⟨b', m'⟩ := y
            dsimp only at h1 h2
            subst h1
            try subst h2
            clear HT HT' HE HG HG' hxy
            go_wp2_with fail
            go_quiet (fail)
            go_wp2_with fail
            go_ret
            exact ⟨by rw [HD.out] <;> rfl, below_drewN hB _⟩
      · have HD := hide (show decide (xs = ys) = true from by
          have h1 := HE.out
          rw [List.take_of_length_le (by rw [HL.out]; omega), List.take_of_length_le (by rw [HL'.out]; omega)] at h1
          simp [h1])
        go_wp2_with fail
        go_ret
        exact ⟨by rw [HD.out] <;> rfl, hB⟩
  · have HD := hide (show decide (xs = ys) = false from by
      rw [decide_eq_false_iff_not]
      rintro rfl
      omega)
    have k1 : ((n : Int) != (n' : Int)) = true := by rw [bne_iff_ne]; omega
    have k2 : (n != n') = true := by simp [hnn]
    clear hl hl'
    go_enter Try.func89, Try.ntmps89
    go_wp2_with fail
    go_ret
    exact ⟨by rw [HD.out] <;> rfl, Below.refl _ _⟩

set_option maxRecDepth 100000 in
set_option maxHeartbeats 1600000 in
theorem like_any (w : World) (o o' : Ob) (hn : o.n ≤ 1000) (hn' : o'.n ≤ 1000) (h : Rd w (fun _ => True) 2 o.A o.n (vals o.fields)) (h' : Rd w (fun _ => True) 2 o'.A o'.n (vals o'.fields)) :
    Calls Try.prog 88 #[.agg #[.slice o.A o.n o.c], .agg #[.slice o'.A o'.n o'.c]] w fun e w' => e = .returned (.bool (decide (o.fields = o'.fields))) ∧ Below w.heap.size w w' := by
  have hB : Below w.heap.size w ((w.alloc (.cells #[.slice o.A o.n o.c] 83)).alloc (.cells #[.slice o'.A o'.n o'.c] 83)) := ((Below.refl _ w).alloc (Nat.le_refl _) _).alloc (by simp) _
  have C := hide (eqVals_any _ _ _ o.A o'.A o.n o'.n o.c o'.c o.fields o'.fields hn hn' (h.below hB) (h'.below hB))
  obtain ⟨b, hb⟩ : ∃ b, decide (o.fields = o'.fields) = b := ⟨_, rfl⟩
  rw [hb] at C ⊢
  have HB := hide hB
  clear hb hB
  go_enter Try.func88, Try.ntmps88
  go_wp2_with fail
  refine C.out.mono ?_
  rintro e w1 ⟨rfl, hb1⟩
  go_wp2_with fail
  go_ret
  exact ⟨rfl, HB.out.trans (hb1.mono HB.out.size)⟩

set_option maxRecDepth 100000 in
set_option maxHeartbeats 1600000 in
theorem eqObs_any (w : World) (A A' : Option Addr) (n n' c c' : Nat) (os os' : List Ob) (hn : n ≤ 1000) (hn' : n' ≤ 1000) (hf : ∀ o ∈ os, o.n ≤ 1000) (hf' : ∀ o ∈ os', o.n ≤ 1000)
    (h : ObsRd w (fun _ => True) A n os) (h' : ObsRd w (fun _ => True) A' n' os') :
    Calls Try.prog 90 #[.slice A n c, .slice A' n' c', .func (.func 88) #[] #[]] w fun e w' => e = .returned (.bool (decide (os.map Ob.fields = os'.map Ob.fields))) ∧ Below w.heap.size w w' := by
  have HL := hide h.len
  have HL' := hide h'.len
  have HF := hide hf
  have HF' := hide hf'
  clear hf hf'
  by_cases hnn : n = n'
  · subst hnn
    go_enter Try.func90, Try.ntmps90
    go_wp2_with fail
    go_loopw [17] (fun i wr => ∃ k : Nat, k ≤ n ∧ i = .int .i64 k ∧ Hid ((os.take k).map Ob.fields = (os'.take k).map Ob.fields) ∧ Below w.heap.size w wr) (fun i _ => n - (intOf i).toNat)
    case atStart => exact ⟨0, by omega, rfl, by simp [Hid], Below.refl _ _⟩
    case round =>
      obtain ⟨k, hk, rfl, HE, hB⟩ := hrel
      by_cases hlt : k < n
      · have hkl : k < os.length := by rw [HL.out]; exact hlt
        have hkl' : k < os'.length := by rw [HL'.out]; exact hlt
        obtain ⟨ad, hA, _, had, hc⟩ := (h.below hB).row.at_ hlt
        obtain ⟨ad', hA', _, had', hc'⟩ := (h'.below hB).row.at_ hlt
        have e0 := hc os[k].val (by simp [List.getElem?_eq_getElem hkl])
        have e1 := hc' os'[k].val (by simp [List.getElem?_eq_getElem hkl'])
        have g0 := (h.below hB).each _ (List.getElem_mem hkl)
        have g1 := (h'.below hB).each _ (List.getElem_mem hkl')
        have f0 := HF.out _ (List.getElem_mem hkl)
        have f1 := HF'.out _ (List.getElem_mem hkl')
        have HT := hide (List.take_succ_eq_append_getElem hkl)
        have HT' := hide (List.take_succ_eq_append_getElem hkl')
        have HG := hide (List.getElem?_eq_getElem hkl)
        have HG' := hide (List.getElem?_eq_getElem hkl')
        obtain ⟨x, hx⟩ : ∃ x, os[k] = x := ⟨_, rfl⟩
        obtain ⟨y, hy⟩ : ∃ x, os'[k] = x := ⟨_, rfl⟩
        rw [hx] at e0 HT HG g0 f0
        rw [hy] at e1 HT' HG' g1 f1
        unfold Ob.val at e0 e1
        have hB2 : Below wr.heap.size wr ((wr.alloc (.cells #[.slice x.A x.n x.c] 83)).alloc (.cells #[.slice y.A y.n y.c] 83)) := ((Below.refl _ wr).alloc (Nat.le_refl _) _).alloc (by simp) _
        have C := like_any _ x y f0 f1 (g0.below hB2) (g1.below hB2)
        have HB2 := hide (hB.trans (hB2.mono hB.size))
        have e2 := (World.cell?_of_block (w := wr) (w' := wr.alloc (.cells #[.slice x.A x.n x.c] 83)) (a := ad'.add k) (by rw [block_of_add]; exact Below.heap_alloc wr _ _ had')).trans e1
        subst hA hA'
        clear hc hc' hx hy g0 g1
        by_cases hxy : x.fields = y.fields
        · rw [show decide (x.fields = y.fields) = true from by simp [hxy]] at C
          have HC := hide C
          have HE2 := hide (show (os.take (k + 1)).map Ob.fields = (os'.take (k + 1)).map Ob.fields from by rw [HT.out, HT'.out, List.map_append, List.map_append, HE.out]; simp [hxy])
          clear HT HT' HE HG HG' C hxy
          go_wp2_with fail
          refine HC.out.mono ?_
          rintro e w5 ⟨rfl, hb5⟩
          have HB5 := hide (HB2.out.trans (hb5.mono HB2.out.size))
          clear hb5 HC e0 e1 e2 had had'
          go_wp2_with fail
          go_roundw
          case rel => exact ⟨k + 1, by omega, by go_num, HE2, HB5.out⟩
          case measure => simp [intOf]; omega
        · rw [show decide (x.fields = y.fields) = false from by simp [hxy]] at C
          have HC := hide C
          have HD := hide (show decide (os.map Ob.fields = os'.map Ob.fields) = false from by
            rw [decide_eq_false_iff_not]
            intro h1
            have h2 := congrArg (fun l => l[k]?) h1
            rw [List.getElem?_map, List.getElem?_map, HG.out, HG'.out] at h2
            simp at h2
            exact hxy h2)
          clear HT HT' HE HG HG' C hxy
          go_wp2_with fail
          refine HC.out.mono ?_
          rintro e w5 ⟨rfl, hb5⟩
          have HB5 := hide (HB2.out.trans (hb5.mono HB2.out.size))
          clear hb5 HC e0 e1 e2 had had'
          go_wp2_with fail
          go_ret
          exact ⟨by rw [HD.out] <;> rfl, HB5.out⟩
      · have HD := hide (show decide (os.map Ob.fields = os'.map Ob.fields) = true from by
          have h1 := HE.out
          rw [List.take_of_length_le (by rw [HL.out]; omega), List.take_of_length_le (by rw [HL'.out]; omega)] at h1
          simp [h1])
        go_wp2_with fail
        go_ret
        exact ⟨by rw [HD.out] <;> rfl, hB⟩
  · have HD := hide (show decide (os.map Ob.fields = os'.map Ob.fields) = false from by
      rw [decide_eq_false_iff_not]
      intro h1
      have h2 := congrArg List.length h1
      rw [List.length_map, List.length_map, HL.out, HL'.out] at h2
      omega)
    have k1 : ((n : Int) != (n' : Int)) = true := by rw [bne_iff_ne]; omega
    have k2 : (n != n') = true := by simp [hnn]
    go_enter Try.func90, Try.ntmps90
    go_wp2_with fail
    go_ret
    exact ⟨by rw [HD.out] <;> rfl, Below.refl _ _⟩
end Go.Proofs.Ytaajkldhnjoicaa

namespace Go.Proofs.Ytaajkldhnjoicaa
open Go.RowKit

theorem perm4_ {α : Type} (a b c d : α) : [a, b, c, d].Perm [c, d, a, b] := by
  classical
  rw [List.perm_iff_count]
  intro x
  simp only [List.count_cons, List.count_nil]
  omega

/-- A mark that tells. -/
def Tel (b : Bool) (P : Prop) : Prop := b = true ↔ P
theorem renumF_fs {gs : List (List Val)} {l : List Int} {m : Nat} (h : ∀ fs ∈ gs, fs.length ≤ m) : ∀ fs ∈ renumF gs l, fs.length ≤ m := fun fs hfs => by
  obtain ⟨x, _, rfl⟩ := List.mem_map.1 hfs
  rw [List.length_map]
  exact fields_le h x
set_option maxRecDepth 100000 in
set_option maxHeartbeats 4000000 in
theorem canon_bad (w : World) (AO AR : Option Addr) (nO cO nR cR : Nat) (obs : List Ob) (roots : List Val) (hO : ObsRd w (fun _ => True) AO nO obs) (hR : Rd w (fun _ => True) 2 AR nR (vals roots)) (hz : gcheck nO nR obs roots ≠ 0) :
    Calls Try.prog 33 #[.agg #[.slice AO nO cO, .slice AR nR cR]] w fun e w' => e = .returned (.tuple #[.agg #[.slice none 0 0, .slice none 0 0], .int .i64 (gcheck nO nR obs roots)]) ∧ Below w.heap.size w w' := by
  have hS0 := ((Sep.nil No w).blkAt 25 #[.slice AO nO cO, .slice AR nR cR] rfl).blkAt 25 #[.slice none 0 0, .slice none 0 0] (g := w.heap.size + 1) (by simp)
  obtain ⟨a1, a2, a3, a4⟩ := hS0.rules 0 (g := w.heap.size) (t := 25) rfl
  have C1 := hide (graphCheck_any _ AO AR nO cO nR cR obs roots (hO.below hS0.below_) (hR.below hS0.below_))
  obtain ⟨x, hx⟩ : ∃ x, gcheck nO nR obs roots = x := ⟨_, rfl⟩
  rw [hx] at C1 hz ⊢
  have y1 : (x != 0) = true := by rw [bne_iff_ne]; exact hz
  have HS0 := hide hS0
  clear hz hx hS0 a4
  go_enter Try.func33, Try.ntmps33
  go_wp2_with fail
  refine C1.out.mono ?_
  rintro e w1 ⟨rfl, hb1⟩
  have hS1 := HS0.out.below hb1
  obtain ⟨b1, b2, b3, b4⟩ := hS1.rules 1 (g := w.heap.size + 1) (t := 25) rfl
  have HS1 := hide hS1
  clear hb1 hS1 HS0 C1 a1 a2 a3 b4
  go_wp2_with fail
  have hF := (HS1.out.set_ 1 (g := w.heap.size + 1) (t := 25) rfl 0 (.slice none 0 0)).set_ 1 (g := w.heap.size + 1) (t := 25) rfl 1 (.slice none 0 0)
  refine bodyPost_ret (v := .tuple #[.agg #[.slice none 0 0, .slice none 0 0], .int .i64 x]) (by simp [results, Try.results33, go_sem, b1]) rfl ⟨rfl, ?_⟩
  exact hF.below_

set_option maxRecDepth 100000 in
set_option maxHeartbeats 4000000 in
theorem canon_ok (w : World) (AO AR : Option Addr) (nO cO nR cR : Nat) (obs : List Ob) (roots : List Val) (hO : ObsRd w (fun _ => True) AO nO obs) (hR : Rd w (fun _ => True) 2 AR nR (vals roots)) (hz : gcheck nO nR obs roots = 0) :
    Calls Try.prog 33 #[.agg #[.slice AO nO cO, .slice AR nR cR]] w fun e w' => ∃ A1 n1 c1 A2 n2 c2, e = .returned (.tuple #[.agg #[.slice A1 n1 c1, .slice A2 n2 c2], .int .i64 0]) ∧ Below w.heap.size w w' ∧ GraphRd w' (fun g => w.heap.size ≤ g) (.agg #[.slice A1 n1 c1, .slice A2 n2 c2]) (renumF (obs.map Ob.fields) (order (obs.map Ob.fields) roots)) (roots.map (turnL (order (obs.map Ob.fields) roots))) := by
  have hG := gok_of hO hz
  have hS0 := ((Sep.nil No w).blkAt 25 #[.slice AO nO cO, .slice AR nR cR] rfl).blkAt 25 #[.slice none 0 0, .slice none 0 0] (g := w.heap.size + 1) (by simp)
  obtain ⟨a1, a2, a3, a4⟩ := hS0.rules 0 (g := w.heap.size) (t := 25) rfl
  have HS0 := hide hS0
  have C1 := hide (graphCheck_any _ AO AR nO cO nR cR obs roots (hO.below hS0.below_) (hR.below hS0.below_))
  rw [hz] at C1
  have C2 := hide (fun w' (hb : Below w.heap.size w w') => found_ok w' AO AR nO cO nR cR obs roots (hO.below hb) (hR.below hb) hG)
  have hOK := order_ok hG.vg hG.vr
  have hGR := graphRd_of hO (cO := cO) hR (cR := cR)
  have hln : (order (obs.map Ob.fields) roots).length ≤ 24 := by have := hOK.len; have := hG.len; have := hG.nO_; omega
  have C3 := hide (fun (w' : World) (hb : Below w.heap.size w w') (A : Option Addr) (n c : Nat) (hl : Rd w' (fun _ => True) 1 A n (ints (order (obs.map Ob.fields) roots))) =>
    renumP_any w' _ A n c _ _ _ (hGR.below hb) hl hOK.rng hOK.nodup (by have := hG.len; have := hG.nO_; omega) (by have h1 : (order (obs.map Ob.fields) roots).length = n := (by have := hl.1; simpa using this); omega) (by have := roots_len hR; have := hG.nR_; omega) (fun fs hfs => by have := hG.fs fs hfs; omega) hG.vr hG.vg)
  obtain ⟨L, hL⟩ : ∃ L, order (obs.map Ob.fields) roots = L := ⟨_, rfl⟩
  rw [hL] at hln
  simp only [hL] at C2 C3 ⊢
  generalize renumF (obs.map Ob.fields) L = FF at C3 ⊢
  generalize roots.map (turnL L) = RR at C3 ⊢
  generalize distR (obs.map Ob.fields) roots = DD at C2
  clear hS0 hz a4 hG hOK hGR hL hln
  go_enter Try.func33, Try.ntmps33
  go_wp2_with fail
  refine C1.out.mono ?_
  rintro e w1 ⟨rfl, hb1⟩
  have hS1 := HS0.out.below hb1
  obtain ⟨b1, b2, b3, b4⟩ := hS1.rules 0 (g := w.heap.size) (t := 25) rfl
  have b5 := b1 0
  have b6 := b1 1
  have HS1 := hide hS1
  clear hb1 hS1 HS0 C1 a1 a2 a3 b1 b4
  go_wp2_with fail
  refine (C2.out _ HS1.out.below_).mono ?_
  rintro e w2 ⟨A, n, c, A2, c2, rfl, hP⟩
  have hS2 := (Sep.call0 HS1.out hP).perm (l := [blkI w.heap.size 25 #[.slice AO nO cO, .slice AR nR cR], blkI (w.heap.size + 1) 25 #[.slice none 0 0, .slice none 0 0], rowI 3 1 A n c (ints L), rowI 3 1 A2 nO c2 (ints DD)]) (perm4_ _ _ _ _)
  obtain ⟨b1, b2, b3, b4⟩ := hS2.rules 0 (g := w.heap.size) (t := 25) rfl
  have b5 := b1 0
  have b6 := b1 1
  have C4 := hide (C3.out w2 hS2.below_ A n c (hS2.rd_ 2 rfl))
  have HS2 := hide hS2
  clear hP hS2 HS1 C2 C3 b1 b4
  go_wp2_with fail
  refine C4.out.mono ?_
  rintro e w3 ⟨v', rfl, hb3, hg3⟩
  obtain ⟨A5, n5, c5, A6, n6, c6, obs', rfl, hO5, hF5, hR6⟩ := hg3.ex
  have hS3 := HS2.out.below hb3
  obtain ⟨x1, x2, x3, x4⟩ := hS3.rules 1 (g := w.heap.size + 1) (t := 25) rfl
  have hsz2 : w.heap.size + 1 < w2.heap.size := HS2.out.hi 1 rfl _ rfl
  have HG3 := hide hg3
  have HS3 := hide hS3
  clear hS3 hg3 hb3 C4 HS2 b2 b3 b5 b6 hO5 hF5 hR6 x4
  go_wp2_with fail
  have hF := (HS3.out.set_ 1 (g := w.heap.size + 1) (t := 25) rfl 0 (.slice A5 n5 c5)).set_ 1 (g := w.heap.size + 1) (t := 25) rfl 1 (.slice A6 n6 c6)
  refine bodyPost_ret (v := .tuple #[.agg #[.slice A5 n5 c5, .slice A6 n6 c6], .int .i64 0]) (by simp [results, Try.results33, go_sem, x1]) rfl ⟨_, _, _, _, _, _, rfl, hF.below_, ?_⟩
  have hc : Chg (fun g => g = w.heap.size + 1) w3 ((w3.setCell ⟨w.heap.size + 1, 0, none⟩ (.slice A5 n5 c5)).setCell ⟨w.heap.size + 1, 1, none⟩ (.slice A6 n6 c6)) := ((Chg.refl (fun g => g = w.heap.size + 1) w3).setCell (p := ⟨w.heap.size + 1, 0, none⟩) (.inl rfl) _).setCell (p := ⟨w.heap.size + 1, 1, none⟩) (.inl rfl) _
  obtain ⟨B5, m5, d5, B6, m6, d6, obs2, he, hO5, hF5, hR6⟩ := HG3.out.ex
  have hw2 : w.heap.size ≤ w2.heap.size := by omega
  refine ⟨B5, m5, d5, B6, m6, d6, obs2, he, (hO5.chg hc (fun g hg hd => by subst hg; omega)).more (fun k _ hk => by omega), hF5, (hR6.chg hc (fun g hg hd => by subst hg; omega)).more (fun k _ hk => by omega)⟩

set_option maxRecDepth 100000 in
set_option maxHeartbeats 4000000 in
theorem refCanon_any (w : World) (AO AR : Option Addr) (nO cO nR cR : Nat) (obs : List Ob) (roots : List Val) (hO : ObsRd w (fun _ => True) AO nO obs) (hR : Rd w (fun _ => True) 2 AR nR (vals roots)) (hG : GOk nO nR obs roots) :
    Calls Try.prog 35 #[.agg #[.slice AO nO cO, .slice AR nR cR]] w fun e w' => ∃ v', e = .returned v' ∧ Below w.heap.size w w' ∧ GraphRd w' (fun g => w.heap.size ≤ g) v' (renumF (obs.map Ob.fields) (order (obs.map Ob.fields) roots)) (roots.map (turnL (order (obs.map Ob.fields) roots))) := by
  have hS0 := ((Sep.nil No w).blkAt 25 #[.slice AO nO cO, .slice AR nR cR] rfl).blkAt 25 #[.slice none 0 0, .slice none 0 0] (g := w.heap.size + 1) (by simp)
  obtain ⟨a1, a2, a3, a4⟩ := hS0.rules 0 (g := w.heap.size) (t := 25) rfl
  have a5 := (a1 0).trans (show _ = some (.slice AO nO cO) from rfl)
  have a6 := (a1 1).trans (show _ = some (.slice AR nR cR) from rfl)
  have hOK := order_ok hG.vg hG.vr
  have hGR := graphRd_of hO (cO := cO) hR (cR := cR)
  have C1 := hide (fun w' (hb : Below w.heap.size w w') => order_any w' _ _ _ (hGR.below hb) (by have := hG.len; have := hG.nO_; omega) (by have := roots_len hR; have := hG.nR_; omega) (fun fs hfs => by have := hG.fs fs hfs; omega) hG.vr hG.vg)
  have C3 := hide (fun (w' : World) (hb : Below w.heap.size w w') (A : Option Addr) (n c : Nat) (hl : Rd w' (fun _ => True) 1 A n (ints (order (obs.map Ob.fields) roots))) =>
    renumber_any w' _ A n c _ _ _ (hGR.below hb) hl hOK.rng (by have := hG.len; have := hG.nO_; omega) (by have h1 : (order (obs.map Ob.fields) roots).length = n := (by have := hl.1; simpa using this); have := hOK.len; have := hG.len; have := hG.nO_; omega) (by have := roots_len hR; have := hG.nR_; omega) (fun fs hfs => by have := hG.fs fs hfs; omega))
  obtain ⟨L, hL⟩ : ∃ L, order (obs.map Ob.fields) roots = L := ⟨_, rfl⟩
  simp only [hL] at C1 C3 ⊢
  generalize renumF (obs.map Ob.fields) L = FF at C3 ⊢
  generalize roots.map (turnL L) = RR at C3 ⊢
  have HS0 := hide hS0
  clear hS0 a1 a4 hG hOK hGR hL
  go_enter Try.func35, Try.ntmps35
  go_wp2_with fail
  obtain ⟨w0, hw0⟩ : ∃ x, (w.alloc (.cells #[.slice AO nO cO, .slice AR nR cR] 25)).alloc (.cells #[.slice none 0 0, .slice none 0 0] 25) = x := ⟨_, rfl⟩
  rw [hw0] at a2 a3 a5 a6 HS0 ⊢
  clear hw0
  have C2 := hide (C1.out w0.drew HS0.out.drew.below_)
  go_region_held3 (fun w' => w'.cell? ⟨w.heap.size, 0, none⟩ = some (.slice AO nO cO) ∧ w'.cell? ⟨w.heap.size, 1, none⟩ = some (.slice AR nR cR)) (go_keep)
    (first
      | (go_at_call 92; (with_reducible refine C2.out.mono ?_); rintro e w5 ⟨A, n, c, rfl, hP⟩; have hS5 := HS0.out.drew.below hP.below_; have k1 : w5.cell? ⟨w.heap.size, 0, none⟩ = some (.slice AO nO cO) := ((hS5.rules 0 (g := w.heap.size) (t := 25) rfl).1 0).trans rfl; have k2 : w5.cell? ⟨w.heap.size, 1, none⟩ = some (.slice AR nR cR) := ((hS5.rules 0 (g := w.heap.size) (t := 25) rfl).1 1).trans rfl; have C4 := hide (C3.out w5 hS5.below_ A n c (hP.rd_ 0 rfl)); have HS5 := hide hS5; clear hS5 hP)
      | (go_at_call 91; (with_reducible refine C4.out.mono ?_); rintro e w6 ⟨v', rfl, hb6, hg6⟩; obtain ⟨A5, n5, c5, A6, n6, c6, obs', rfl, hO5, hF5, hR6⟩ := hg6.ex; have hS6 := HS5.out.below hb6; have k3 : w6.cell? ⟨w.heap.size, 0, none⟩ = some (.slice AO nO cO) := ((hS6.rules 0 (g := w.heap.size) (t := 25) rfl).1 0).trans rfl; have k4 : w6.cell? ⟨w.heap.size, 1, none⟩ = some (.slice AR nR cR) := ((hS6.rules 0 (g := w.heap.size) (t := 25) rfl).1 1).trans rfl; obtain ⟨x1, x2, x3, x4⟩ := hS6.rules 1 (g := w.heap.size + 1) (t := 25) rfl; have hsz5 : w.heap.size + 1 < w5.heap.size := HS5.out.hi 1 rfl _ rfl; have HG6 := hide hg6; have HS6 := hide hS6; clear hS6 hg6 hb6 hO5 hF5 hR6 x4))
  all_goals
    go_wp2_with fail
    have hF := (HS6.out.set_ 1 (g := w.heap.size + 1) (t := 25) rfl 0 (.slice A5 n5 c5)).set_ 1 (g := w.heap.size + 1) (t := 25) rfl 1 (.slice A6 n6 c6)
    refine bodyPost_ret (v := .agg #[.slice A5 n5 c5, .slice A6 n6 c6]) (by simp [results, Try.results35, go_sem, x1]) rfl ⟨_, rfl, hF.below_, ?_⟩
    have hc : Chg (fun g => g = w.heap.size + 1) w6 ((w6.setCell ⟨w.heap.size + 1, 0, none⟩ (.slice A5 n5 c5)).setCell ⟨w.heap.size + 1, 1, none⟩ (.slice A6 n6 c6)) := ((Chg.refl (fun g => g = w.heap.size + 1) w6).setCell (p := ⟨w.heap.size + 1, 0, none⟩) (.inl rfl) _).setCell (p := ⟨w.heap.size + 1, 1, none⟩) (.inl rfl) _
    obtain ⟨B5, m5, d5, B6, m6, d6, obs2, he, hO5, hF5, hR6⟩ := HG6.out.ex
    exact ⟨B5, m5, d5, B6, m6, d6, obs2, he, (hO5.chg hc (fun g hg hd => by subst hg; omega)).more (fun k _ hk => by omega), hF5, (hR6.chg hc (fun g hg hd => by subst hg; omega)).more (fun k _ hk => by omega)⟩

set_option maxRecDepth 100000 in
set_option maxHeartbeats 4000000 in
theorem same_bad (w : World) (AO AR BO BR : Option Addr) (nO cO nR cR mO dO mR dR : Nat) (oa : List Ob) (ra : List Val) (hO : ObsRd w (fun _ => True) AO nO oa) (hR : Rd w (fun _ => True) 2 AR nR (vals ra)) (hz : gcheck nO nR oa ra ≠ 0) :
    Calls Try.prog 34 #[.agg #[.slice AO nO cO, .slice AR nR cR], .agg #[.slice BO mO dO, .slice BR mR dR]] w fun e w' => e = .returned (.tuple #[.bool false, .int .i64 (gcheck nO nR oa ra)]) ∧ Below w.heap.size w w' := by
  have hS0 := ((Sep.nil No w).blkAt 25 #[.slice AO nO cO, .slice AR nR cR] rfl).blkAt 25 #[.slice BO mO dO, .slice BR mR dR] (g := w.heap.size + 1) (by simp)
  obtain ⟨a1, a2, a3, a4⟩ := hS0.rules 0 (g := w.heap.size) (t := 25) rfl
  have C1 := hide (canon_bad _ AO AR nO cO nR cR oa ra (hO.below hS0.below_) (hR.below hS0.below_) hz)
  obtain ⟨x, hx⟩ : ∃ x, gcheck nO nR oa ra = x := ⟨_, rfl⟩
  rw [hx] at C1 hz ⊢
  have y1 : (x != 0) = true := by rw [bne_iff_ne]; exact hz
  have HS0 := hide hS0
  clear hz hx hS0 a4
  go_enter Try.func34, Try.ntmps34
  go_wp2_with fail
  refine C1.out.mono ?_
  rintro e w1 ⟨rfl, hb1⟩
  have HS1 := hide (HS0.out.below hb1)
  clear hb1 HS0 C1 a1 a2 a3
  go_wp2_with fail
  go_ret2
  exact ⟨rfl, (HS1.out.alloc _).below_⟩
set_option maxRecDepth 100000 in
set_option maxHeartbeats 4000000 in
theorem same_bad2 (w : World) (AO AR BO BR : Option Addr) (nO cO nR cR mO dO mR dR : Nat) (oa ob : List Ob) (ra rb : List Val) (hO : ObsRd w (fun _ => True) AO nO oa) (hR : Rd w (fun _ => True) 2 AR nR (vals ra)) (hO' : ObsRd w (fun _ => True) BO mO ob) (hR' : Rd w (fun _ => True) 2 BR mR (vals rb)) (hz : gcheck nO nR oa ra = 0) (hz' : gcheck mO mR ob rb ≠ 0) :
    Calls Try.prog 34 #[.agg #[.slice AO nO cO, .slice AR nR cR], .agg #[.slice BO mO dO, .slice BR mR dR]] w fun e w' => e = .returned (.tuple #[.bool false, .int .i64 (gcheck mO mR ob rb)]) ∧ Below w.heap.size w w' := by
  have hS0 := ((Sep.nil No w).blkAt 25 #[.slice AO nO cO, .slice AR nR cR] rfl).blkAt 25 #[.slice BO mO dO, .slice BR mR dR] (g := w.heap.size + 1) (by simp)
  obtain ⟨a1, a2, a3, a4⟩ := hS0.rules 0 (g := w.heap.size) (t := 25) rfl
  have C1 := hide (canon_ok _ AO AR nO cO nR cR oa ra (hO.below hS0.below_) (hR.below hS0.below_) hz)
  have C2 := hide (fun w' (hb : Below w.heap.size w w') => canon_bad w' BO BR mO dO mR dR ob rb (hO'.below hb) (hR'.below hb) hz')
  obtain ⟨x, hx⟩ : ∃ x, gcheck mO mR ob rb = x := ⟨_, rfl⟩
  simp only [hx] at C2 hz' ⊢
  have y1 : (x != 0) = true := by rw [bne_iff_ne]; exact hz'
  have HS0 := hide hS0
  clear hz hz' hx hS0 a4
  go_enter Try.func34, Try.ntmps34
  go_wp2_with fail
  refine C1.out.mono ?_
  rintro e w1 ⟨A1, n1, c1, A2, n2, c2, rfl, hb1, hg1⟩
  have hS1 := (HS0.out.below hb1).alloc (.cells #[.slice A1 n1 c1, .slice A2 n2 c2] 25)
  obtain ⟨b1, b2, b3, b4⟩ := (HS0.out.below hb1).rules 1 (g := w.heap.size + 1) (t := 25) rfl
  have C3 := hide (C2.out _ hS1.below_)
  have HS1 := hide hS1
  clear hb1 HS0 C1 C2 a1 a2 a3 b4 hg1 hS1
  go_wp2_with fail
  refine C3.out.mono ?_
  rintro e w2 ⟨rfl, hb2⟩
  have HS2 := hide (HS1.out.below hb2)
  clear hb2 HS1 C3 b1 b2 b3
  go_wp2_with fail
  go_ret2
  exact ⟨rfl, (HS2.out.alloc _).below_⟩
set_option maxRecDepth 100000 in
set_option maxHeartbeats 4000000 in
theorem same_ok (w : World) (AO AR BO BR : Option Addr) (nO cO nR cR mO dO mR dR : Nat) (oa ob : List Ob) (ra rb : List Val) (hO : ObsRd w (fun _ => True) AO nO oa) (hR : Rd w (fun _ => True) 2 AR nR (vals ra)) (hO' : ObsRd w (fun _ => True) BO mO ob) (hR' : Rd w (fun _ => True) 2 BR mR (vals rb)) (hz : gcheck nO nR oa ra = 0) (hz' : gcheck mO mR ob rb = 0) :
    Calls Try.prog 34 #[.agg #[.slice AO nO cO, .slice AR nR cR], .agg #[.slice BO mO dO, .slice BR mR dR]] w fun e w' => ∃ b, e = .returned (.tuple #[.bool b, .int .i64 0]) ∧ Tel b (Canons (oa.map Ob.fields) (ob.map Ob.fields) ra rb) ∧ Below w.heap.size w w' := by
  have hG := gok_of hO hz
  have hG' := gok_of hO' hz'
  have hS0 := ((Sep.nil No w).blkAt 25 #[.slice AO nO cO, .slice AR nR cR] rfl).blkAt 25 #[.slice BO mO dO, .slice BR mR dR] (g := w.heap.size + 1) (by simp)
  obtain ⟨a1, a2, a3, a4⟩ := hS0.rules 0 (g := w.heap.size) (t := 25) rfl
  have C1 := hide (canon_ok _ AO AR nO cO nR cR oa ra (hO.below hS0.below_) (hR.below hS0.below_) hz)
  have C2 := hide (fun w' (hb : Below w.heap.size w w') => canon_ok w' BO BR mO dO mR dR ob rb (hO'.below hb) (hR'.below hb) hz')
  unfold Canons
  have hla : (order (oa.map Ob.fields) ra).length ≤ 24 := by have := (order_ok hG.vg hG.vr).len; have := hG.len; have := hG.nO_; omega
  have hlb : (order (ob.map Ob.fields) rb).length ≤ 24 := by have := (order_ok hG'.vg hG'.vr).len; have := hG'.len; have := hG'.nO_; omega
  have hfa : ∀ fs ∈ renumF (oa.map Ob.fields) (order (oa.map Ob.fields) ra), fs.length ≤ 4 := renumF_fs hG.fs
  have hfb : ∀ fs ∈ renumF (ob.map Ob.fields) (order (ob.map Ob.fields) rb), fs.length ≤ 4 := renumF_fs hG'.fs
  have hra : (ra.map (turnL (order (oa.map Ob.fields) ra))).length ≤ 8 := by rw [List.length_map, roots_len hR]; exact hG.nR_
  have hrb : (rb.map (turnL (order (ob.map Ob.fields) rb))).length ≤ 8 := by rw [List.length_map, roots_len hR']; exact hG'.nR_
  have hna : (renumF (oa.map Ob.fields) (order (oa.map Ob.fields) ra)).length ≤ 24 := by unfold renumF; rw [List.length_map]; exact hla
  have hnb : (renumF (ob.map Ob.fields) (order (ob.map Ob.fields) rb)).length ≤ 24 := by unfold renumF; rw [List.length_map]; exact hlb
  generalize renumF (oa.map Ob.fields) (order (oa.map Ob.fields) ra) = FA at *
  generalize renumF (ob.map Ob.fields) (order (ob.map Ob.fields) rb) = FB at *
  generalize ra.map (turnL (order (oa.map Ob.fields) ra)) = RA at *
  generalize rb.map (turnL (order (ob.map Ob.fields) rb)) = RB at *
  have HFA := hide hfa
  have HFB := hide hfb
  have HRA := hide hra
  have HRB := hide hrb
  have HNA := hide hna
  have HNB := hide hnb
  have HS0 := hide hS0
  clear hz hz' hS0 a4 hG hG' hla hlb hfa hfb hra hrb hna hnb
  go_enter Try.func34, Try.ntmps34
  go_wp2_with fail
  refine C1.out.mono ?_
  rintro e w1 ⟨A1, n1, c1, A2, n2, c2, rfl, hb1, hg1⟩
  have hS1 := (HS0.out.below hb1).blkAt 25 #[.slice A1 n1 c1, .slice A2 n2 c2] (g := w1.heap.size) rfl
  obtain ⟨b1, b2, b3, b4⟩ := (HS0.out.below hb1).rules 1 (g := w.heap.size + 1) (t := 25) rfl
  have C3 := hide (C2.out _ hS1.below_)
  have HG1 := hide (hg1.below (w' := w1.alloc (.cells #[.slice A1 n1 c1, .slice A2 n2 c2] 25)) ((Below.refl _ w1).alloc (Nat.le_refl _) _))
  have HS1 := hide hS1
  clear hb1 HS0 C1 C2 a1 a2 a3 b4 hg1 hS1
  go_wp2_with fail
  refine C3.out.mono ?_
  rintro e w2 ⟨B1, m1, d1, B2, m2, d2, rfl, hb2, hg2⟩
  have hbx : Below w2.heap.size w2 (w2.alloc (.cells #[.slice B1 m1 d1, .slice B2 m2 d2] 25)) := (Below.refl _ w2).alloc (Nat.le_refl _) _
  have hgb := hg2.below hbx
  have hga := (HG1.out.below hb2).below hbx
  have hS2 := (HS1.out.below hb2).blkAt 25 #[.slice B1 m1 d1, .slice B2 m2 d2] (g := w2.heap.size) rfl
  obtain ⟨P1, p1, q1, P2, p2, q2, obA, he, hOA, hFA, hRA⟩ := hga.ex
  injection he with he
  simp at he
  obtain ⟨⟨rfl, rfl, rfl⟩, rfl, rfl, rfl⟩ := he
  obtain ⟨P1, p1, q1, P2, p2, q2, obB, he, hOB, hFB, hRB⟩ := hgb.ex
  injection he with he
  simp at he
  obtain ⟨⟨rfl, rfl, rfl⟩, rfl, rfl, rfl⟩ := he
  obtain ⟨x1, x2, x3, x4⟩ := hS2.rules 2 (g := w1.heap.size) (t := 25) rfl
  have x5 := x1 0
  have x6 := x1 1
  have hRA1 := roots_len hRA
  have hRB1 := roots_len hRB
  have hn1 : n1 = FA.length := by rw [← hFA, List.length_map]; exact hOA.len.symm
  have hm1 : m1 = FB.length := by rw [← hFB, List.length_map]; exact hOB.len.symm
  have C4 := hide (eqVals_any _ (fun _ => True) (fun _ => True) A2 B2 n2 m2 c2 d2 RA RB (by have := HRA.out; omega) (by have := HRB.out; omega) (hRA.more (fun _ _ _ => trivial)) (hRB.more (fun _ _ _ => trivial)))
  have C5 := hide (fun w' (hb : Below (w2.alloc (.cells #[.slice B1 m1 d1, .slice B2 m2 d2] 25)).heap.size (w2.alloc (.cells #[.slice B1 m1 d1, .slice B2 m2 d2] 25)) w') => eqObs_any w' A1 B1 n1 m1 c1 d1 obA obB (by have := HNA.out; omega) (by have := HNB.out; omega)
    (fun o ho => by have h := HFA.out o.fields (by rw [← hFA]; exact List.mem_map.2 ⟨o, ho, rfl⟩); have := hOA.flen ho; omega) (fun o ho => by have h := HFB.out o.fields (by rw [← hFB]; exact List.mem_map.2 ⟨o, ho, rfl⟩); have := hOB.flen ho; omega)
    ((hOA.below hb).more (fun _ _ _ => trivial)) ((hOB.below hb).more (fun _ _ _ => trivial)))
  rw [hFA, hFB] at C5
  have HS2 := hide hS2
  clear hb2 HS1 C3 b1 b2 b3 hg2 hbx hgb hga hS2 hOA hFA hRA hOB hFB hRB x1 x4 hRA1 hRB1 hn1 hm1 HG1
  by_cases hr : RA = RB
  · rw [show decide (RA = RB) = true from by simp [hr]] at C4
    have HR := hide hr
    clear hr
    go_wp2_with fail
    refine C4.out.mono ?_
    rintro e w3 ⟨rfl, hb3⟩
    have hS3 := HS2.out.below hb3
    obtain ⟨x1, x2, x3, x4⟩ := hS3.rules 2 (g := w1.heap.size) (t := 25) rfl
    have x5 := x1 0
    obtain ⟨z1, z2, z3, z4⟩ := hS3.rules 3 (g := w2.heap.size) (t := 25) rfl
    have z5 := z1 0
    have C6 := hide (C5.out w3 hb3)
    have HS3 := hide hS3
    clear hb3 C4 C5 HS2 hS3 x1 x4 z1 z4
    go_wp2_with fail
    refine C6.out.mono ?_
    rintro e w4 ⟨rfl, hb4⟩
    have HB4 := hide (HS3.out.below hb4).below_
    have HD := hide (show decide (FA = FB) = true ↔ RA = RB ∧ FA = FB from by rw [decide_eq_true_iff]; exact ⟨fun h => ⟨HR.out, h⟩, fun h => h.2⟩)
    obtain ⟨b, hb⟩ : ∃ b, decide (FA = FB) = b := ⟨_, rfl⟩
    rw [hb] at HD ⊢
    clear hb hb4 C6 HS3
    go_wp2_with fail
    go_ret2
    exact ⟨b, rfl, HD.out, HB4.out⟩
  · rw [show decide (RA = RB) = false from by simp [hr]] at C4
    have HR := hide hr
    clear hr
    go_wp2_with fail
    refine C4.out.mono ?_
    rintro e w3 ⟨rfl, hb3⟩
    have HB3 := hide (HS2.out.below hb3).below_
    clear hb3 C4 C5 HS2
    go_wp2_with fail
    go_ret2
    exact ⟨false, rfl, ⟨(fun h => by cases h), fun h => (HR.out h.1).elim⟩, HB3.out⟩
end Go.Proofs.Ytaajkldhnjoicaa
