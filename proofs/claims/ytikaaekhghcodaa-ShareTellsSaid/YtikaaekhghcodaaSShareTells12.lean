/- Share's reference, plain: the search's rounds in parts; what is seen as a row; the ways as rows of their own. Share's reference: does a field tell two apart; do both have a reference; a list with one more. -/
import Derived.Test.YtikaaekhghcodaaSShareTells9
import Derived.BigQuiet
import Derived.Test.YtikaaekhghcodaaSShareTells7
import Derived.Test.YtikaaekhghcodaaSShareTells8
set_option linter.unusedSimpArgs false
set_option linter.unusedVariables false
namespace Go.Proofs.Ytikaaekhghcodaa
open Go.RowKit
/-! ### What is seen. -/
def bls (l : List Bool) : List Value := l.map Value.bool
theorem bls_get (l : List Bool) (k : Nat) (h : k < l.length) : (bls l)[k]? = some (.bool (l.getD k false)) := by simp [bls, List.getElem?_eq_getElem h, List.getD_eq_getElem?_getD]
theorem bls_set (l : List Bool) (k : Nat) (b : Bool) : (bls l).set k (.bool b) = bls (l.set k b) := by unfold bls; rw [List.map_set]
theorem bInfo : (Try.prog.info? 4).map (fun i => (i.zero, i.size, i.bytes)) = some (some (.bool false), 1, 1) := by kernel_rfl
theorem bMade (n : Nat) : (madeCells (Value.cells (.bool false)) (n * 1)).toList = bls (List.replicate n false) := by
  rcases Nat.eq_zero_or_pos n with rfl | h
  · simp [madeCells, bls]
  · apply List.ext_getElem (by simp [madeCells, Value.cells, bls])
    intro i h1 h2
    simp [madeCells, Value.cells, bls, Nat.mod_one]
theorem bls_cellAt {w : World} {n c g : Nat} {l : List Bool} (h : (rowI 4 1 (some ⟨g, 0, none⟩) n c (bls l)).P w) (k : Nat) (hk : k < n) : w.cell? ⟨g, k, none⟩ = some (.bool (l.getD k false)) ∧ w.frozen? ⟨g, k, none⟩ = false := by
  have hrow : w.ownsRow 0 4 1 (.slice (some ⟨g, 0, none⟩) n c) n (bls l) := h
  have hl : l.length = n := by have := hrow.1; simpa [bls] using this
  rcases hrow.2 with ⟨h1, _⟩ | ⟨g', cap, cur, hv, _, hh, hnc, _, _, htk⟩
  · cases h1
  · injection hv with e1 e2 e3
    injection e1 with e1
    injection e1 with e1
    subst e1
    have hb : Blk w g 4 cur := hh
    refine ⟨?_, hb.frozen k⟩
    rw [hb.cell k]
    have h1 : (bls l)[k]? = some (.bool (l.getD k false)) := bls_get l k (by omega)
    rw [← htk, List.getElem?_take] at h1
    rw [if_pos (by omega)] at h1
    simpa using h1
def seenB (nO : Nat) (s : List Pr) : List Bool := (List.range (nO * nO)).map fun j => decide ((j / nO, j % nO) ∈ s)
theorem seenB_nil (nO : Nat) : seenB nO [] = List.replicate (nO * nO) false := by
  apply List.ext_getElem (by simp [seenB])
  intro i h1 h2
  simp [seenB]
theorem pr_div {nO x y : Nat} (hy : y < nO) : (x * nO + y) / nO = x ∧ (x * nO + y) % nO = y := by
  rw [Nat.mul_comm x nO]
  exact ⟨by rw [Nat.mul_add_div (by omega), Nat.div_eq_of_lt hy, Nat.add_zero], by rw [Nat.mul_add_mod, Nat.mod_eq_of_lt hy]⟩
theorem pr_lt {nO x y : Nat} (hx : x < nO) (hy : y < nO) : x * nO + y < nO * nO :=
  Nat.lt_of_lt_of_le (show x * nO + y < (x + 1) * nO by rw [Nat.succ_mul]; omega) (Nat.mul_le_mul_right _ hx)
theorem seenB_get {nO : Nat} (s : List Pr) {x y : Nat} (hx : x < nO) (hy : y < nO) : (seenB nO s).getD (x * nO + y) false = decide ((x, y) ∈ s) := by
  have h := pr_lt hx hy
  obtain ⟨h1, h2⟩ := pr_div (x := x) hy
  rw [List.getD_eq_getElem?_getD]
  simp [seenB, List.getElem?_eq_getElem, h, h1, h2]
theorem seenB_set {nO : Nat} (s : List Pr) {x y : Nat} (hx : x < nO) (hy : y < nO) : (seenB nO s).set (x * nO + y) true = seenB nO (s ++ [(x, y)]) := by
  obtain ⟨h1, h2⟩ := pr_div (x := x) hy
  apply List.ext_getElem (by simp [seenB])
  intro j hj hj2
  rw [List.getElem_set]
  by_cases he : x * nO + y = j
  · rw [if_pos he]
    subst he
    simp [seenB, h1, h2]
  · rw [if_neg he]
    have hne : ¬ (j / nO, j % nO) = (x, y) := fun h => by
      injection h with e1 e2
      have := Nat.div_add_mod j nO
      rw [e1, e2, Nat.mul_comm] at this
      exact he this
    have hiff : (j / nO, j % nO) ∈ s ++ [(x, y)] ↔ (j / nO, j % nO) ∈ s := by
      rw [List.mem_append, List.mem_singleton]
      exact ⟨fun h => h.resolve_right hne, .inl⟩
    have key : ∀ (s : List Pr) (h : j < (seenB nO s).length), (seenB nO s)[j] = decide ((j / nO, j % nO) ∈ s) := fun s h => by simp [seenB]
    rw [key, key, decide_eq_decide]
    exact hiff.symm
theorem pr_nodup {nO : Nat} {s : List Pr} (hn : s.Nodup) (h : ∀ q ∈ s, q.1 < nO ∧ q.2 < nO) : s.length ≤ nO * nO := by
  have : ∀ (N : Nat) (l : List Nat), l.Nodup → (∀ x ∈ l, x < N) → l.length ≤ N := by
    intro N
    induction N with
    | zero => intro l _ h; cases l with
      | nil => simp
      | cons a l => exact absurd (h a (List.mem_cons_self ..)) (by omega)
    | succ N ih =>
      intro l hl h
      have h1 := ih (l.filter fun x => decide (x < N)) (hl.filter _) (fun x hx => by simpa using (List.mem_filter.1 hx).2)
      have h2 : l.length ≤ (l.filter fun x => decide (x < N)).length + 1 := by
        have key : ∀ l : List Nat, l.Nodup → (∀ x ∈ l, x < N + 1) → l.length ≤ (l.filter fun x => decide (x < N)).length + (if N ∈ l then 1 else 0) := by
          intro l
          induction l with
          | nil => intro _ _; simp
          | cons a l ih2 =>
            intro hl h
            obtain ⟨ha, hl⟩ := List.nodup_cons.1 hl
            have h3 := ih2 hl (fun x hx => h x (List.mem_cons_of_mem _ hx))
            have h4 := h a (List.mem_cons_self ..)
            rw [List.filter_cons]
            by_cases e : a < N
            · rw [if_pos (by simpa using e)]
              have : (N ∈ a :: l) ↔ N ∈ l := by simp; omega
              simp only [this, List.length_cons]
              omega
            · obtain rfl : a = N := by omega
              rw [if_neg (by simp), if_pos (List.mem_cons_self ..)]
              rw [if_neg ha] at h3
              simp only [List.length_cons]
              omega
        have := key l hl h
        split at this <;> omega
      omega
  have h1 : (s.map fun q => q.1 * nO + q.2).Nodup := by
    clear this
    induction s with
    | nil => simp
    | cons p s ih =>
      obtain ⟨ha, hs⟩ := List.nodup_cons.1 hn
      rw [List.map_cons, List.nodup_cons]
      refine ⟨fun hm => ?_, ih hs (fun q hq => h q (List.mem_cons_of_mem _ hq))⟩
      obtain ⟨q, hq, he⟩ := List.mem_map.1 hm
      obtain ⟨e1, e2⟩ := pr_div (x := q.1) (h q (List.mem_cons_of_mem _ hq)).2
      obtain ⟨e3, e4⟩ := pr_div (x := p.1) (h p (List.mem_cons_self ..)).2
      rw [he, e3] at e1
      rw [he, e4] at e2
      exact ha (by rw [show p = q from Prod.ext e1 e2]; exact hq)
  have h2 := this (nO * nO) _ h1 (fun x hx => by
    obtain ⟨q, hq, rfl⟩ := List.mem_map.1 hx
    exact pr_lt (h q hq).1 (h q hq).2)
  simpa using h2
/-! ### The rounds in parts. -/
abbrev PW := Pr × List Nat
def pw0 : PW := ((0, 0), [])
def wk (L : List PW) (i k : Nat) : List (PW × Nat) := wrk (L.take i) ++ (List.range k).map fun j => (L.getD i pw0, j)
theorem wk_zero (L : List PW) (i : Nat) : wk L i 0 = wrk (L.take i) := by simp [wk]
theorem wk_nil (L : List PW) : wk L 0 0 = [] := by simp [wk, wrk]
theorem wk_succ (L : List PW) (i k : Nat) : wk L i (k + 1) = wk L i k ++ [(L.getD i pw0, k)] := by unfold wk; rw [List.range_succ, List.map_append, List.append_assoc]; rfl
theorem getD_at {L : List PW} {i : Nat} (h : i < L.length) : L.getD i pw0 = L[i] := by rw [List.getD_eq_getElem?_getD, List.getElem?_eq_getElem h]; rfl
theorem wk_four {L : List PW} {i : Nat} (h : i < L.length) : wk L i 4 = wk L (i + 1) 0 := by
  rw [wk_zero, List.take_succ_eq_append_getElem h, wrk_app]
  unfold wk
  rw [getD_at h]
  simp [wrk]
theorem wk_all (L : List PW) : wk L L.length 0 = wrk L := by rw [wk_zero, List.take_length]
theorem wk_split {L : List PW} {i k : Nat} (h : i < L.length) (hk : k < 4) : ∃ r, wrk L = wk L i k ++ (L.getD i pw0, k) :: r := by
  have h1 : wrk L = wk L (i + 1) 0 ++ wrk (L.drop (i + 1)) := by rw [wk_zero, ← wrk_app, List.take_append_drop]
  have h2 : ∃ r, wk L i 4 = wk L i k ++ (L.getD i pw0, k) :: r := by
    have h3 : ∀ n, k < n → ∃ r, wk L i n = wk L i k ++ (L.getD i pw0, k) :: r := by
      intro n hn
      induction n with
      | zero => omega
      | succ n ih =>
        rw [wk_succ]
        by_cases e : k = n
        · subst e; exact ⟨[], rfl⟩
        · obtain ⟨r, hr⟩ := ih (by omega)
          exact ⟨r ++ [(L.getD i pw0, n)], by rw [hr]; simp⟩
    exact h3 4 hk
  obtain ⟨r, hr⟩ := h2
  exact ⟨r ++ wrk (L.drop (i + 1)), by rw [h1, ← wk_four h, hr]; simp⟩
def NoD (gs : List (List Val)) (L : List PW) (i k : Nat) : Prop := ∀ x ∈ wk L i k, difB gs x.1.1 x.2 = false
theorem NoD.nil (gs : List (List Val)) (L : List PW) : NoD gs L 0 0 := fun x hx => by rw [wk_nil] at hx; cases hx
theorem NoD.succ {gs : List (List Val)} {L : List PW} {i k : Nat} (h : NoD gs L i k) (h1 : difB gs (L.getD i pw0).1 k = false) : NoD gs L i (k + 1) := fun x hx => by
  rw [wk_succ] at hx
  rcases List.mem_append.1 hx with hx | hx
  · exact h x hx
  · rw [List.mem_singleton.1 hx]; exact h1
theorem NoD.four {gs : List (List Val)} {L : List PW} {i : Nat} (h : NoD gs L i 4) (hi : i < L.length) : NoD gs L (i + 1) 0 := by unfold NoD; rw [← wk_four hi]; exact h
theorem NoD.all {gs : List (List Val)} {L : List PW} (h : NoD gs L L.length 0) : dif1 gs L = none := by
  unfold dif1
  rw [List.findSome?_eq_none_iff]
  intro x hx
  rw [← wk_all] at hx
  rw [if_neg (by rw [h x hx]; simp)]
theorem NoD.found {gs : List (List Val)} {L : List PW} {i k : Nat} (h : NoD gs L i k) (hi : i < L.length) (hk : k < 4) (h1 : difB gs (L.getD i pw0).1 k = true) : dif1 gs L = some ((L.getD i pw0).2 ++ [k]) := by
  obtain ⟨r, hr⟩ := wk_split hi hk
  unfold dif1
  rw [hr, List.findSome?_append]
  have e1 : (wk L i k).findSome? (fun x => if difB gs x.1.1 x.2 = true then some (x.1.2 ++ [x.2]) else none) = none := by
    rw [List.findSome?_eq_none_iff]
    intro x hx
    rw [if_neg (by rw [h x hx]; simp)]
  rw [e1, Option.none_or, List.findSome?_cons]
  dsimp only
  rw [if_pos h1]
def expK (gs : List (List Val)) (L : List PW) (seen : List Pr) (i k : Nat) : List Pr × List PW := (wk L i k).foldl (fun s x => exK gs x s) (seen, [])
theorem expK_nil (gs : List (List Val)) (L : List PW) (seen : List Pr) : expK gs L seen 0 0 = (seen, []) := by unfold expK; rw [wk_nil]; rfl
theorem expK_succ (gs : List (List Val)) (L : List PW) (seen : List Pr) (i k : Nat) : expK gs L seen i (k + 1) = exK gs (L.getD i pw0, k) (expK gs L seen i k) := by unfold expK; rw [wk_succ, List.foldl_append]; rfl
theorem expK_four {gs : List (List Val)} {L : List PW} {seen : List Pr} {i : Nat} (h : i < L.length) : expK gs L seen i 4 = expK gs L seen (i + 1) 0 := by unfold expK; rw [wk_four h]
theorem expK_all (gs : List (List Val)) (L : List PW) (seen : List Pr) : expK gs L seen L.length 0 = expd gs L seen := by unfold expK expd; rw [wk_all]
/-- A state within a round. -/
structure ExOk (nO n0 m : Nat) (s : List Pr × List PW) : Prop where
  nd : s.1.Nodup
  rg : ∀ q ∈ s.1, q.1 < nO ∧ q.2 < nO
  sb : ∀ x ∈ s.2, (x.1.1 < nO ∧ x.1.2 < nO) ∧ x.2.length ≤ m
  ln : n0 + s.2.length ≤ s.1.length
theorem ExOk.step {gs : List (List Val)} {nO n0 m : Nat} (hr : RefOk gs nO) {s : List Pr × List PW} (h : ExOk nO n0 m s) {x : PW × Nat} (hx : x.1.2.length + 1 ≤ m) : ExOk nO n0 m (exK gs x s) := by
  unfold exK
  cases ho : onwO gs x.1.1 x.2 with
  | none => exact h
  | some q =>
    dsimp only
    have hq := onwO_rng hr ho
    by_cases hm : q ∈ s.1
    · rw [if_pos hm]; exact h
    · rw [if_neg hm]
      refine ⟨?_, fun p hp => ?_, fun y hy => ?_, ?_⟩
      · show (s.1 ++ [q]).Nodup
        rw [List.nodup_append]
        exact ⟨h.nd, by simp, fun a ha b hb => by rw [List.mem_singleton.1 hb]; intro e; subst e; exact hm ha⟩
      · rcases List.mem_append.1 hp with hp | hp
        · exact h.rg p hp
        · rw [List.mem_singleton.1 hp]; exact hq
      · rcases List.mem_append.1 hy with hy | hy
        · exact h.sb y hy
        · rw [List.mem_singleton.1 hy]
          exact ⟨hq, by simpa using hx⟩
      · have := h.ln
        simp only [List.length_append, List.length_cons, List.length_nil]
        omega
theorem ExOk.len {nO n0 m : Nat} {s : List Pr × List PW} (h : ExOk nO n0 m s) (hn : nO ≤ 24) : s.1.length ≤ 576 ∧ s.2.length ≤ 576 := by
  have h1 := pr_nodup h.nd h.rg
  have h2 : nO * nO ≤ 576 := Nat.mul_le_mul hn hn
  have h3 := h.ln
  omega
theorem ExOk.fold {gs : List (List Val)} {nO n0 m : Nat} (hr : RefOk gs nO) : ∀ (W : List (PW × Nat)) (s : List Pr × List PW), (∀ x ∈ W, x.1.2.length + 1 ≤ m) → ExOk nO n0 m s → ExOk nO n0 m (W.foldl (fun s x => exK gs x s) s)
  | [], _, _, h => h
  | x :: W, s, hw, h => ExOk.fold hr W _ (fun y hy => hw y (List.mem_cons_of_mem _ hy)) (h.step hr (hw x (List.mem_cons_self ..)))
/-- The search at the head of a round. -/
structure Bi (gs : List (List Val)) (nO : Nat) (p : Pr) (f : Nat) (L : List PW) (seen : List Pr) : Prop where
  eq : bfs gs f L seen = bfs gs 600 [(p, [])] []
  small : L = [] ∨ 577 ≤ f + seen.length
  nd : seen.Nodup
  rg : ∀ q ∈ seen, q.1 < nO ∧ q.2 < nO
  sb : ∀ x ∈ L, (x.1.1 < nO ∧ x.1.2 < nO) ∧ x.2.length + f ≤ 600
  len : L.length ≤ 577
theorem Bi.start (gs : List (List Val)) {nO : Nat} {p : Pr} (h : p.1 < nO ∧ p.2 < nO) : Bi gs nO p 600 [(p, [])] [] :=
  ⟨rfl, .inr (by simp), by simp, by simp, fun x hx => by rw [List.mem_singleton.1 hx]; exact ⟨h, by simp⟩, by simp⟩
theorem Bi.pos {gs : List (List Val)} {nO : Nat} {p : Pr} {f : Nat} {L : List PW} {seen : List Pr} (h : Bi gs nO p f L seen) (hn : nO ≤ 24) (hL : L ≠ []) : ∃ f', f = f' + 1 := by
  have h1 := pr_nodup h.nd h.rg
  have h2 : nO * nO ≤ 576 := Nat.mul_le_mul hn hn
  have h3 := h.small.resolve_left hL
  exact ⟨f - 1, by omega⟩
theorem Bi.exok {gs : List (List Val)} {nO : Nat} {p : Pr} {f : Nat} {L : List PW} {seen : List Pr} (h : Bi gs nO p (f + 1) L seen) (hr : RefOk gs nO) (i k : Nat) (hi : i < L.length ∨ k = 0) : ExOk nO seen.length (600 - f) (expK gs L seen i k) := by
  refine ExOk.fold hr _ _ (fun x hx => ?_) ⟨h.nd, h.rg, fun x hx => by (cases hx), by simp⟩
  have hm : x.1 ∈ L := by
    unfold wk at hx
    rcases List.mem_append.1 hx with hx | hx
    · exact List.mem_of_mem_take (wrk_mem.1 hx).1
    · obtain ⟨j, hj, rfl⟩ := List.mem_map.1 hx
      rcases hi with hi | hi
      · dsimp only; rw [getD_at hi]; exact List.getElem_mem hi
      · subst hi; cases hj
  have := (h.sb _ hm).2
  omega
theorem Bi.next {gs : List (List Val)} {nO : Nat} {p : Pr} {f : Nat} {L : List PW} {seen : List Pr} (h : Bi gs nO p (f + 1) L seen) (hr : RefOk gs nO) (hn : nO ≤ 24) (hL : L ≠ []) (hd : dif1 gs L = none) : Bi gs nO p f (expK gs L seen L.length 0).2 (expK gs L seen L.length 0).1 := by
  have hx := h.exok hr L.length 0 (.inr rfl)
  refine ⟨?_, ?_, hx.nd, hx.rg, fun x hx2 => ?_, ?_⟩
  · rw [← h.eq]
    show _ = (if L = [] then none else match dif1 gs L with | some w => some w | none => bfs gs f (expd gs L seen).2 (expd gs L seen).1)
    rw [if_neg hL, hd, expK_all]
  · cases hE : (expK gs L seen L.length 0).2 with
    | nil => exact .inl rfl
    | cons a l =>
      right
      have h1 := hx.ln
      rw [hE] at h1
      simp only [List.length_cons] at h1
      have h2 := h.small.resolve_left hL
      omega
  · have h1 := hx.sb x hx2
    have h2 : f ≤ 600 := by
      cases L with
      | nil => exact absurd rfl hL
      | cons a l => have := (h.sb a (List.mem_cons_self ..)).2; omega
    exact ⟨h1.1, by omega⟩
  · have := (hx.len hn).2
    omega
theorem Bi.told {gs : List (List Val)} {nO : Nat} {p : Pr} {f : Nat} {L : List PW} {seen : List Pr} (h : Bi gs nO p (f + 1) L seen) (hL : L ≠ []) {u : List Nat} (hd : dif1 gs L = some u) : toldR gs p = (u, true) := by
  have h1 : bfs gs (f + 1) L seen = some u := by
    show (if L = [] then none else match dif1 gs L with | some w => some w | none => bfs gs f (expd gs L seen).2 (expd gs L seen).1) = _
    rw [if_neg hL, hd]
  unfold toldR
  rw [← h.eq, h1]
theorem Bi.none_ {gs : List (List Val)} {nO : Nat} {p : Pr} {f : Nat} {seen : List Pr} (h : Bi gs nO p f [] seen) : toldR gs p = ([], false) := by
  have h1 : bfs gs f [] seen = none := by
    cases f with
    | zero => rfl
    | succ f =>
      show (if ([] : List PW) = [] then none else _) = _
      rw [if_pos rfl]
  unfold toldR
  rw [← h.eq, h1]
/-! ### The rows of a round. -/
abbrev Wy := PW × (Option Addr × Nat)
def asI (A : Option Addr) (n c : Nat) (T : List Wy) : Item := rowI 3 1 A n c (ints (T.map fun t => (t.1.1.1 : Int)))
def bsI (A : Option Addr) (n c : Nat) (T : List Wy) : Item := rowI 3 1 A n c (ints (T.map fun t => (t.1.1.2 : Int)))
def wyV (t : Wy) : Value := .slice t.2.1 t.1.2.length t.2.2
def wyO (A : Option Addr) (n c : Nat) (T : List Wy) : Item := rowI 26 1 A n c (T.map wyV)
def wyW (t : Wy) : Item := rowI 3 1 t.2.1 t.1.2.length t.2.2 (nts t.1.2)
def wyI (T : List Wy) : Item := allI (T.map wyW)
theorem sWy : SliceT Try.prog 54 26 1 24 := SliceT.mk_ Try.underlying54 (z := .slice none 0 0) (by kernel_rfl) rfl (by omega)
theorem wy_nil {F : Nat → Prop} {W w : World} {l : List Item} (h : Sep F W w l) : Sep F W w (wyI [] :: l) := Sep.join (l := []) h
theorem wy_join {F : Nat → Prop} {W w : World} {l : List Item} {T : List Wy} {q : Pr} {u : List Nat} {A : Option Addr} {n c : Nat} (hn : n = u.length) (h : Sep F W w (rowI 3 1 A n c (nts u) :: wyI T :: l)) : Sep F W w (wyI (T ++ [((q, u), (A, c))]) :: l) := by
  subst hn
  have h1 : Sep F W w (T.map wyW ++ (rowI 3 1 A u.length c (nts u) :: l)) := Sep.split (h.perm (List.Perm.swap _ _ _))
  have h2 : Sep F W w ((T ++ [((q, u), (A, c))]).map wyW ++ l) := by
    rw [List.map_append, List.append_assoc]
    exact h1
  exact Sep.join h2
theorem wy_rd {w : World} {T : List Wy} (h : (wyI T).P w) {t : Wy} (ht : t ∈ T) : Rd w (fun _ => True) 1 t.2.1 t.1.2.length (nts t.1.2) :=
  Rd.of_own (show w.ownsRow 0 3 1 (.slice t.2.1 t.1.2.length t.2.2) t.1.2.length (nts t.1.2) from h.1 (wyW t) (List.mem_map.2 ⟨t, ht, rfl⟩)) (fun _ _ => trivial)
theorem row_some {w : World} {e n c : Nat} {A : Option Addr} {xs : List Value} (h : (rowI e 1 A n c xs).P w) (hn : 0 < n) : ∃ ad, A = some ad := by
  obtain ⟨ad, h1, _⟩ := (Rd.of_own (D := fun _ => True) (show w.ownsRow 0 e 1 (.slice A n c) n xs from h) (fun _ _ => trivial)).at_ hn
  exact ⟨ad, h1⟩
theorem row_cell {w : World} {e n c : Nat} {ad : Addr} {xs : List Value} (h : (rowI e 1 (some ad) n c xs).P w) {i : Nat} (hi : i < n) {v : Value} (hv : xs[i]? = some v) : w.cell? (ad.add i) = some v ∧ ad.block < w.heap.size := by
  obtain ⟨ad', h1, _, h2, h3⟩ := (Rd.of_own (D := fun _ => True) (show w.ownsRow 0 e 1 (.slice (some ad) n c) n xs from h) (fun _ _ => trivial)).at_ hi
  obtain rfl : ad = ad' := by injection h1
  exact ⟨h3 v hv, h2⟩
theorem as_cell {w : World} {n c : Nat} {ad : Addr} {T : List Wy} (h : (asI (some ad) n c T).P w) {i : Nat} (hi : i < n) {t : Wy} (ht : T[i]? = some t) : w.cell? (ad.add i) = some (.int .i64 (t.1.1.1 : Int)) ∧ ad.block < w.heap.size :=
  row_cell h hi (by simp [ints, ht])
theorem bs_cell {w : World} {n c : Nat} {ad : Addr} {T : List Wy} (h : (bsI (some ad) n c T).P w) {i : Nat} (hi : i < n) {t : Wy} (ht : T[i]? = some t) : w.cell? (ad.add i) = some (.int .i64 (t.1.1.2 : Int)) ∧ ad.block < w.heap.size :=
  row_cell h hi (by simp [ints, ht])
theorem wo_cell {w : World} {n c : Nat} {ad : Addr} {T : List Wy} (h : (wyO (some ad) n c T).P w) {i : Nat} (hi : i < n) {t : Wy} (ht : T[i]? = some t) : w.cell? (ad.add i) = some (.slice t.2.1 t.1.2.length t.2.2) ∧ ad.block < w.heap.size :=
  row_cell h hi (by simp [wyV, ht])
theorem Sep.rowNew {F : Nat → Prop} {W w : World} {items : List Item} (h : Sep F W w items) (cs : Array Value) (t n : Nat) (hn : cs.size = n) (hm : n ≤ 1000) {g : Nat} (hg : w.heap.size = g) : Sep F W (w.alloc (.cells cs t)) (rowI t 1 (some ⟨g, 0, none⟩) n n cs.toList :: items) := by
  subst hg
  have hb := (Below.refl w.heap.size w).alloc (Nat.le_refl _) (.cells cs t)
  refine h.consNew hb _ ⟨by rw [Array.length_toList, hn, Nat.mul_one], .inr ⟨w.heap.size, n, cs, rfl, Nat.zero_le _, Blk.new w t cs, Nat.le_refl _, by unfold maxLen; omega, by omega, by rw [List.take_of_length_le (by rw [Array.length_toList]; omega)]⟩⟩ (fun g hg => ?_)
  have : w.heap.size = g := by simpa [rowI, Value.ownBlock] using hg
  omega
abbrev shL (gB gS N : Nat) (cB : Array Value) (nO n : Nat) (A1 : Option Addr) (c1 : Nat) (A2 : Option Addr) (c2 : Nat) (A3 : Option Addr) (c3 : Nat) (T : List Wy) (seen : List Pr) : List Item :=
  [wyI T, wyO A3 n c3 T, asI A1 n c1 T, bsI A2 n c2 T, blkI gB 25 cB, rowI 4 1 (some ⟨gS, 0, none⟩) N N (bls (seenB nO seen))]
theorem as_snoc (A : Option Addr) (n c : Nat) (T : List Wy) (t : Wy) : asI A n c (T ++ [t]) = rowI 3 1 A n c (ints (T.map fun t => (t.1.1.1 : Int)) ++ (#[.int .i64 (t.1.1.1 : Int)] : Array Value).toList) := by unfold asI; simp [ints]
theorem bs_snoc (A : Option Addr) (n c : Nat) (T : List Wy) (t : Wy) : bsI A n c (T ++ [t]) = rowI 3 1 A n c (ints (T.map fun t => (t.1.1.2 : Int)) ++ (#[.int .i64 (t.1.1.2 : Int)] : Array Value).toList) := by unfold bsI; simp [ints]
theorem wo_snoc (A : Option Addr) (n c : Nat) (T : List Wy) (t : Wy) : wyO A n c (T ++ [t]) = rowI 26 1 A n c (T.map wyV ++ (#[.slice t.2.1 t.1.2.length t.2.2] : Array Value).toList) := by unfold wyO; simp [wyV]
def t0 (p : Pr) : Wy := ((p, []), (none, 0))
theorem sh_start {F : Nat → Prop} {W w : World} {l : List Item} {g : Nat} (hg : w.heap.size = g) (h : Sep F W w l) (a b : Nat) :
    Sep F W (((w.alloc (.cells #[.int .i64 (a : Int)] 3)).alloc (.cells #[.int .i64 (b : Int)] 3)).alloc (.cells #[.slice none 0 0] 26))
      (wyI [t0 (a, b)] :: wyO (some ⟨g + 2, 0, none⟩) 1 1 [t0 (a, b)] :: asI (some ⟨g, 0, none⟩) 1 1 [t0 (a, b)] :: bsI (some ⟨g + 1, 0, none⟩) 1 1 [t0 (a, b)] :: l) := by
  subst hg
  have h1 := ((h.rowNew #[.int .i64 (a : Int)] 3 1 rfl (by omega) rfl).rowNew #[.int .i64 (b : Int)] 3 1 rfl (by omega) (g := w.heap.size + 1) (by simp)).rowNew #[.slice none 0 0] 26 1 rfl (by omega) (g := w.heap.size + 2) (by simp)
  have h2 := wy_join (T := []) (q := (a, b)) (u := []) rfl ((wy_nil h1).nilRow0 3 1)
  exact h2.perm (List.Perm.cons _ (List.Perm.cons _ (List.Perm.swap _ _ _)))
end Go.Proofs.Ytikaaekhghcodaa

namespace Go.Proofs.Ytikaaekhghcodaa
open Go.RowKit
set_option maxRecDepth 100000 in
set_option maxHeartbeats 1600000 in
theorem rdiffers_any (w : World) (AO AR : Option Addr) (nO cO nR cR : Nat) (obs : List Ob) (hO : ObsRd w (fun _ => True) AO nO obs) (hfl : ∀ o ∈ obs, o.n ≤ 4) (a b : Nat) (h1 : a < nO) (h2 : b < nO) (hn : nO ≤ 24) (k : Nat) :
    Calls Try.prog 17 #[.agg #[.slice AO nO cO, .slice AR nR cR], .int .i64 (a : Int), .int .i64 (b : Int), .int .i64 (k : Int)] w fun e w' => e = .returned (.bool (difB (obs.map Ob.fields) (a, b) k)) ∧ Below w.heap.size w w' := by
  have hS0 := (Sep.nil No w).blkAt 25 #[.slice AO nO cO, .slice AR nR cR] rfl
  have hO0 := hO.below hS0.below_
  obtain ⟨ad, o1, _, hA, _, had, hc1, hr1, hg1, hn1, hl1⟩ := ob_at hO0 hfl h1
  obtain ⟨ad', o2, _, hA', _, _, hc2, hr2, hg2, hn2, hl2⟩ := ob_at hO0 hfl h2
  obtain rfl : ad = ad' := by rw [hA] at hA'; injection hA'
  have HD := hide (show difB (obs.map Ob.fields) (a, b) k = dif2 o1.fields[k]? o2.fields[k]? from by unfold difB fldO; dsimp only; rw [hg1, hg2]; rfl)
  rw [HD.out]
  have HB := hide hS0.below_
  obtain ⟨A1, n1, cc1, fs1⟩ := o1
  obtain ⟨A2, n2, cc2, fs2⟩ := o2
  dsimp only at hc1 hc2 hr1 hr2 hn1 hn2 hl1 hl2
  dsimp only
  subst hA
  have t1 : decide ((a : Int) < (nO : Int)) = true := by simp; omega
  have t2 : decide ((b : Int) < (nO : Int)) = true := by simp; omega
  by_cases hk1 : k < n1
  · by_cases hk2 : k < n2
    · obtain ⟨af, hAf, _, _, e1, d1⟩ := hr1.atN hk1
      obtain ⟨ag, hAg, _, _, e2, d2⟩ := hr2.atN hk2
      obtain ⟨x0, x1⟩ := vals_at fs1 k (by omega)
      obtain ⟨y0, y1⟩ := vals_at fs2 k (by omega)
      have e3 := e1 _ x0
      have e4 := d1 0 _ x1
      have e5 := e2 _ y0
      have e6 := d2 0 _ y1
      have hx : fs1[k]? = some (fs1[k]'(by omega)) := List.getElem?_eq_getElem _
      have hy : fs2[k]? = some (fs2[k]'(by omega)) := List.getElem?_eq_getElem _
      obtain ⟨x, hx2⟩ : ∃ x, fs1[k]'(by omega) = x := ⟨_, rfl⟩
      obtain ⟨y, hy2⟩ : ∃ y, fs2[k]'(by omega) = y := ⟨_, rfl⟩
      rw [hx2] at e3 e4 hx
      rw [hy2] at e5 e6 hy
      rw [hx, hy]
      obtain ⟨bx, nx⟩ := x
      obtain ⟨by_, ny⟩ := y
      dsimp only at e3 e4 e5 e6
      subst hAf hAg
      obtain ⟨r, hr⟩ : ∃ r, dif2 (some (bx, nx)) (some (by_, ny)) = r := ⟨_, rfl⟩
      rw [hr]
      have HR := hide (show (!(bx && by_) && decide ((bx, nx) ≠ (by_, ny))) = r from hr)
      have k1 : decide ((n1 : Int) ≤ (k : Int)) = false := by simp; omega
      have k2 : decide ((n2 : Int) ≤ (k : Int)) = false := by simp; omega
      have k3 : decide (n1 ≤ k) = false := by simp; omega
      have k4 : decide (n2 ≤ k) = false := by simp; omega
      have k5 : decide ((k : Int) < (n1 : Int)) = true := by simp; omega
      have k6 : decide ((k : Int) < (n2 : Int)) = true := by simp; omega
      clear hO hO0 hS0 hfl hr1 hr2 hg1 hg2 hl1 hl2 hA' HD e1 e2 d1 d2 x0 x1 y0 y1 hx hy hx2 hy2 hr had
      rcases Decidable.em ((bx, nx) = (by_, ny)) with he | he
      · injection he with h1 h2
        subst h1 h2
        cases bx
        all_goals
          go_enter Try.func17, Try.ntmps17
          go_wp2_with fail
          go_quiet (fail)
          go_wp2_with fail
          go_ret
          exact ⟨by rw [← HR.out]; simp, below_drewN HB.out _⟩
      · rcases val_ne he with ⟨h1, h2⟩ | ⟨h1, h2⟩ | ⟨h1, h2⟩
        · dsimp only at h1 h2
          subst h1 h2
          go_enter Try.func17, Try.ntmps17
          go_wp2_with fail
          go_quiet (fail)
          go_wp2_with fail
          go_ret
          exact ⟨by rw [← HR.out]; simp, below_drewN HB.out _⟩
        · dsimp only at h1 h2
          subst h1 h2
          go_enter Try.func17, Try.ntmps17
          go_wp2_with fail
          go_quiet (fail)
          go_wp2_with fail
          go_ret
          exact ⟨by rw [← HR.out]; simp, below_drewN HB.out _⟩
        · dsimp only at h1 h2
          subst h1
          have h3 : nx ≠ ny := fun h => by rw [h] at h2; simp at h2
          cases bx
          all_goals
            go_enter Try.func17, Try.ntmps17
            go_wp2_with fail
            go_quiet (fail)
            go_wp2_with fail
            go_ret
            exact ⟨by rw [← HR.out]; simp [h3], below_drewN HB.out _⟩
    · have hx : fs1[k]? = some (fs1[k]'(by omega)) := List.getElem?_eq_getElem _
      have hy : fs2[k]? = none := List.getElem?_eq_none (by omega)
      rw [hx, hy, show ∀ v, dif2 (some v) none = true from fun _ => rfl]
      have k1 : decide ((n1 : Int) ≤ (k : Int)) = false := by simp; omega
      have k2 : decide ((n2 : Int) ≤ (k : Int)) = true := by simp; omega
      have k3 : decide (n1 ≤ k) = false := by simp; omega
      have k4 : decide (n2 ≤ k) = true := by simp; omega
      have k5 : decide ((k : Int) < (n1 : Int)) = true := by simp; omega
      have k6 : decide (k < n1) = true := by simp; omega
      clear hO hO0 hS0 hfl hr1 hr2 hg1 hg2 hl1 hl2 hA' HD hx hy had
      go_enter Try.func17, Try.ntmps17
      go_wp2_with fail
      go_ret
      exact ⟨rfl, HB.out⟩
  · have hx : fs1[k]? = none := List.getElem?_eq_none (by omega)
    have k1 : decide ((n1 : Int) ≤ (k : Int)) = true := by simp; omega
    have k3 : decide (n1 ≤ k) = true := by simp; omega
    have k5 : decide ((k : Int) < (n1 : Int)) = false := by simp; omega
    have k6 : decide (k < n1) = false := by simp; omega
    by_cases hk2 : k < n2
    · have hy : fs2[k]? = some (fs2[k]'(by omega)) := List.getElem?_eq_getElem _
      rw [hx, hy, show ∀ v, dif2 none (some v) = true from fun _ => rfl]
      have k7 : decide ((k : Int) < (n2 : Int)) = true := by simp; omega
      have k8 : decide (k < n2) = true := by simp; omega
      clear hO hO0 hS0 hfl hr1 hr2 hg1 hg2 hl1 hl2 hA' HD hx hy had
      go_enter Try.func17, Try.ntmps17
      go_wp2_with fail
      go_ret
      exact ⟨rfl, HB.out⟩
    · have hy : fs2[k]? = none := List.getElem?_eq_none (by omega)
      rw [hx, hy]
      have k7 : decide ((k : Int) < (n2 : Int)) = false := by simp; omega
      have k8 : decide (k < n2) = false := by simp; omega
      clear hO hO0 hS0 hfl hr1 hr2 hg1 hg2 hl1 hl2 hA' HD hx hy had
      go_enter Try.func17, Try.ntmps17
      go_wp2_with fail
      go_ret
      exact ⟨rfl, HB.out⟩
end Go.Proofs.Ytikaaekhghcodaa
