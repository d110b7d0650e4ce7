/- How far objects are: what the reference's Dist has; plain. What graph.Found tells: objects as found, and how far each is; the plain part. graph.Targets(l), an iterator: its contract; the law of a range over it, where a call has things of its own that lie apart. A graph that may be: what its check says. A script, plain: what a machine answers to it, and what it is behind it. -/
import Derived.Test.YtjphckfbbiehdaaSReplicaPlays12
import Derived.Test.YtjphckfbbiehdaaSReplicaPlays4
import Derived.RangeFuncNested
import Derived.RangeFuncBox
import Derived.RangeFuncBound
import Derived.RangeFuncCalls
import Derived.RangeFuncLeaves
import Derived.Shelf.Abstract
import Derived.Shelf.RegionOpen
import Derived.OwnWalkIn
import Derived.TacticsInMore
import Derived.LoopNIn
import Derived.LoopIn
import Derived.Test.YtjphckfbbiehdaaSReplicaPlays2
import Derived.Laws.EntriesVeiled
import Derived.Sort.LoopGhostIn
import Derived.StillTailTactics
import Derived.OrdersIn
import Derived.Deep.RegionLaw
import Derived.Deep.RegionHeld3
set_option linter.unusedSimpArgs false
set_option linter.unusedVariables false
namespace Go.Proofs.Ytjphckfbbiehdaa
inductive Lev (gs : List (List Val)) (vs : List Val) : Nat → Int → Prop
  | root (i : Int) : (true, i) ∈ vs → Lev gs vs 0 i
  | step (k : Nat) (i j : Int) : Lev gs vs k i → (true, j) ∈ fieldsI gs i → Lev gs vs (k + 1) j
theorem refers_iff (vs : List Val) (i : Int) : refers vs i = true ↔ (true, i) ∈ vs := by
  unfold refers
  rw [List.any_eq_true]
  constructor
  · rintro ⟨⟨b, x⟩, hv, h⟩
    simp only [Bool.and_eq_true, beq_iff_eq] at h
    obtain ⟨rfl, rfl⟩ := h
    exact hv
  · intro h
    exact ⟨_, h, by simp⟩
/-- What a turn does. -/
structure Grw (gs : List (List Val)) (t : Nat) (d d' : List Int) : Prop where
  len : d'.length = d.length
  keep : ∀ j : Nat, 0 ≤ d.getD j 0 → d'.getD j 0 = d.getD j 0
  new : ∀ j : Nat, d.getD j 0 < 0 → d'.getD j 0 = d.getD j 0 ∨ (d'.getD j 0 = (t : Int) + 1 ∧ ∃ i : Nat, i < gs.length ∧ d.getD i 0 = (t : Int) ∧ refers (fieldsI gs (i : Int)) (j : Int) = true)
theorem Grw.refl (gs : List (List Val)) (t : Nat) (d : List Int) : Grw gs t d d := ⟨rfl, fun _ _ => rfl, fun _ _ => .inl rfl⟩
theorem Grw.back {gs : List (List Val)} {t : Nat} {d d' : List Int} (h : Grw gs t d d') {i : Nat} (hi : d'.getD i 0 = (t : Int)) : d.getD i 0 = (t : Int) := by
  by_cases h0 : 0 ≤ d.getD i 0
  · rw [← h.keep i h0]; exact hi
  · rcases h.new i (by omega) with h1 | ⟨h1, _⟩ <;> omega
theorem Grw.trans {gs : List (List Val)} {t : Nat} {a b c : List Int} (h : Grw gs t a b) (k : Grw gs t b c) : Grw gs t a c := by
  refine ⟨k.len.trans h.len, fun j hj => ?_, fun j hj => ?_⟩
  · have h1 := h.keep j hj
    rw [k.keep j (by omega), h1]
  · rcases h.new j hj with h1 | ⟨h1, h2⟩
    · rcases k.new j (by omega) with h3 | ⟨h3, i, hi, hit, hr⟩
      · exact .inl (h3.trans h1)
      · exact .inr ⟨h3, i, hi, h.back hit, hr⟩
    · refine .inr ⟨?_, h2⟩
      rw [k.keep j (by omega), h1]
theorem getD_set_ {d : List Int} {j k : Nat} {x : Int} (hk : k < d.length) : (d.set k x).getD j 0 = if j = k then x else d.getD j 0 := by
  rw [List.getD_eq_getElem?_getD, List.getElem?_set]
  by_cases e : k = j
  · subst e; simp [hk]
  · rw [if_neg e, if_neg (Ne.symm e), ← List.getD_eq_getElem?_getD]
theorem neg_lt {d : List Int} {j : Nat} (h : d.getD j 0 < 0) : j < d.length := by
  rcases Nat.lt_or_ge j d.length with h1 | h1
  · exact h1
  · rw [List.getD_eq_getElem?_getD, List.getElem?_eq_none h1] at h; simp at h
theorem Grw.look {gs : List (List Val)} {t i : Nat} {d : List Int} (hi : i < gs.length) (hit : d.getD i 0 = (t : Int)) (j : Nat) : Grw gs t d (dLook gs t i d j) := by
  unfold dLook
  split
  · rename_i hc
    have hj := neg_lt hc.1
    refine ⟨by simp, fun x hx => ?_, fun x hx => ?_⟩
    · rw [getD_set_ hj, if_neg (by rintro rfl; omega)]
    · rw [getD_set_ hj]
      by_cases e : x = j
      · subst e; rw [if_pos rfl]; exact .inr ⟨rfl, i, hi, hit, hc.2⟩
      · rw [if_neg e]; exact .inl rfl
  · exact .refl _ _ _
theorem Grw.looks {gs : List (List Val)} {t i : Nat} (hi : i < gs.length) (js : List Nat) : ∀ d : List Int, d.getD i 0 = (t : Int) → Grw gs t d (js.foldl (dLook gs t i) d) ∧ ∀ j ∈ js, refers (fieldsI gs (i : Int)) (j : Int) = true → 0 ≤ (js.foldl (dLook gs t i) d).getD j 0 := by
  induction js with
  | nil => intro d _; exact ⟨.refl _ _ _, by simp⟩
  | cons a js ih =>
    intro d hit
    have h1 := Grw.look hi hit a
    obtain ⟨h2, h3⟩ := ih (dLook gs t i d a) (dLook_keep a hit)
    refine ⟨h1.trans h2, fun j hj hr => ?_⟩
    rcases List.mem_cons.1 hj with rfl | hj
    · have h4 : 0 ≤ (dLook gs t i d j).getD j 0 := by
        unfold dLook
        by_cases h5 : d.getD j 0 < 0
        · rw [if_pos ⟨h5, hr⟩, getD_set_ (neg_lt h5), if_pos rfl]; omega
        · rw [if_neg (fun h => h5 h.1)]; omega
      rw [List.foldl_cons, h2.keep j h4]; exact h4
    · exact h3 j hj hr
theorem Grw.froms {gs : List (List Val)} {t : Nat} (is_ : List Nat) : ∀ d : List Int, (∀ i ∈ is_, i < gs.length) → Grw gs t d (is_.foldl (dFrom gs t) d) ∧ ∀ i ∈ is_, d.getD i 0 = (t : Int) → ∀ j : Nat, j < gs.length → refers (fieldsI gs (i : Int)) (j : Int) = true → 0 ≤ (is_.foldl (dFrom gs t) d).getD j 0 := by
  induction is_ with
  | nil => intro d _; exact ⟨.refl _ _ _, by simp⟩
  | cons a js ih =>
    intro d hlt
    have ha := hlt a (by simp)
    have h1 : Grw gs t d (dFrom gs t d a) := by
      unfold dFrom
      split
      · exact (Grw.looks ha _ d (by assumption)).1
      · exact .refl _ _ _
    obtain ⟨h2, h3⟩ := ih (dFrom gs t d a) (fun i hi => hlt i (by simp [hi]))
    refine ⟨h1.trans h2, fun i hi hit j hj hr => ?_⟩
    rcases List.mem_cons.1 hi with rfl | hi
    · have h4 : 0 ≤ (dFrom gs t d i).getD j 0 := by
        unfold dFrom
        rw [if_pos hit]
        exact (Grw.looks ha _ d hit).2 j (List.mem_range.2 hj) hr
      rw [List.foldl_cons, h2.keep j h4]; exact h4
    · exact h3 i hi (by rw [h1.keep i (by omega)]; exact hit) j hj hr
theorem Grw.turn {gs : List (List Val)} {t : Nat} (d : List Int) : Grw gs t d (dTurn gs d t) ∧ ∀ i : Nat, i < gs.length → d.getD i 0 = (t : Int) → ∀ j : Nat, j < gs.length → refers (fieldsI gs (i : Int)) (j : Int) = true → 0 ≤ (dTurn gs d t).getD j 0 := by
  obtain ⟨h1, h2⟩ := Grw.froms (gs := gs) (t := t) (List.range gs.length) d (fun i hi => List.mem_range.1 hi)
  exact ⟨h1, fun i hi => h2 i (List.mem_range.2 hi)⟩
/-- What holds behind t turns. -/
structure DInv (gs : List (List Val)) (vs : List Val) (t : Nat) (d : List Int) : Prop where
  len : d.length = gs.length
  rng : ∀ i : Nat, d.getD i 0 = -1 ∨ (0 ≤ d.getD i 0 ∧ d.getD i 0 ≤ (t : Int))
  root : ∀ i : Nat, i < gs.length → (true, (i : Int)) ∈ vs → d.getD i 0 = 0
  lev : ∀ i : Nat, i < gs.length → 0 ≤ d.getD i 0 → Lev gs vs (d.getD i 0).toNat (i : Int)
  nxt : ∀ i : Nat, i < gs.length → 0 ≤ d.getD i 0 → d.getD i 0 < (t : Int) → ∀ j : Nat, j < gs.length → (true, (j : Int)) ∈ fieldsI gs (i : Int) → 0 ≤ d.getD j 0 ∧ d.getD j 0 ≤ d.getD i 0 + 1
  prv : ∀ i : Nat, i < gs.length → 0 < d.getD i 0 → ∃ j : Nat, j < gs.length ∧ d.getD j 0 = d.getD i 0 - 1
theorem DInv.zero (gs : List (List Val)) (vs : List Val) : DInv gs vs 0 (d0 gs vs) := by
  have e : ∀ i : Nat, i < gs.length → (d0 gs vs).getD i 0 = if refers vs (i : Int) = true then 0 else -1 := fun i hi => by
    rw [getD_get (by rw [d0_len]; exact hi)]; simp [d0]
  refine ⟨d0_len _ _, fun i => ?_, fun i hi h => ?_, fun i hi h => ?_, fun i hi h h2 => ?_, fun i hi h => ?_⟩
  · rcases Nat.lt_or_ge i gs.length with h | h
    · rw [e i h]; split <;> simp
    · rw [List.getD_eq_getElem?_getD, List.getElem?_eq_none (by rw [d0_len]; exact h)]; simp
  · rw [e i hi, if_pos ((refers_iff _ _).2 h)]
  · rw [e i hi] at h ⊢
    split at h
    · rename_i h1
      rw [if_pos h1]
      exact .root _ ((refers_iff _ _).1 h1)
    · omega
  · omega
  · rw [e i hi] at h
    split at h <;> omega
theorem DInv.turn {gs : List (List Val)} {vs : List Val} {t : Nat} {d : List Int} (h : DInv gs vs t d) : DInv gs vs (t + 1) (dTurn gs d t) := by
  obtain ⟨hg, hc⟩ := Grw.turn (gs := gs) (t := t) d
  generalize dTurn gs d t = d' at *
  refine ⟨hg.len.trans h.len, fun i => ?_, fun i hi hr => ?_, fun i hi h0 => ?_, fun i hi h0 h1 j hj hr => ?_, fun i hi h0 => ?_⟩
  · rcases h.rng i with h1 | ⟨h1, h2⟩
    · rcases hg.new i (by omega) with h3 | ⟨h3, _⟩
      · exact .inl (h3.trans h1)
      · exact .inr (by omega)
    · rw [hg.keep i h1]; exact .inr (by omega)
  · have := h.root i hi hr
    rw [hg.keep i (by omega)]; exact this
  · by_cases h1 : 0 ≤ d.getD i 0
    · rw [hg.keep i h1]; exact h.lev i hi h1
    · rcases hg.new i (by omega) with h3 | ⟨h3, x, hx, hxt, hr⟩
      · omega
      · rw [h3]
        have := h.lev x hx (by omega)
        rw [hxt] at this
        have h9 := Lev.step _ _ _ this ((refers_iff _ _).1 hr)
        rw [show ((t : Int) + 1).toNat = (t : Int).toNat + 1 from by omega]
        exact h9
  · have hi0 : 0 ≤ d.getD i 0 := by
      by_cases h2 : 0 ≤ d.getD i 0
      · exact h2
      · rcases hg.new i (by omega) with h3 | ⟨h3, _⟩ <;> omega
    have hik := hg.keep i hi0
    rw [hik] at h0 h1 ⊢
    by_cases h2 : d.getD i 0 < (t : Int)
    · obtain ⟨h3, h4⟩ := h.nxt i hi hi0 h2 j hj hr
      rw [hg.keep j h3]; exact ⟨h3, h4⟩
    · have hit : d.getD i 0 = (t : Int) := by omega
      have h5 := hc i hi hit j hj ((refers_iff _ _).2 hr)
      refine ⟨h5, ?_⟩
      by_cases h6 : 0 ≤ d.getD j 0
      · rw [hg.keep j h6]
        rcases h.rng j with h7 | h7 <;> omega
      · rcases hg.new j (by omega) with h7 | ⟨h7, _⟩ <;> omega
  · by_cases h1 : 0 ≤ d.getD i 0
    · rw [hg.keep i h1] at h0 ⊢
      obtain ⟨j, hj, hj2⟩ := h.prv i hi h0
      exact ⟨j, hj, by rw [hg.keep j (by omega)]; exact hj2⟩
    · rcases hg.new i (by omega) with h3 | ⟨h3, x, hx, hxt, _⟩
      · omega
      · exact ⟨x, hx, by rw [hg.keep x (by omega), hxt, h3]; omega⟩
theorem DInv.turns (gs : List (List Val)) (vs : List Val) (t : Nat) : DInv gs vs t ((List.range t).foldl (dTurn gs) (d0 gs vs)) := by
  induction t with
  | zero => exact DInv.zero gs vs
  | succ t ih => rw [range_snoc_fold]; exact ih.turn
theorem DInv.lt {gs : List (List Val)} {vs : List Val} {d : List Int} (h : DInv gs vs gs.length d) (i : Nat) (hi : i < gs.length) : d.getD i 0 < (gs.length : Int) := by
  rcases (show d.getD i 0 < (gs.length : Int) ∨ (gs.length : Int) ≤ d.getD i 0 by omega) with h1 | h1
  · exact h1
  exfalso
  have hn : d.getD i 0 = (gs.length : Int) := by rcases h.rng i with h2 | h2 <;> omega
  have key : ∀ s : Nat, s ≤ gs.length → ∃ j : Nat, j < gs.length ∧ d.getD j 0 = ((gs.length - s : Nat) : Int) := by
    intro s
    induction s with
    | zero => intro _; exact ⟨i, hi, by simpa using hn⟩
    | succ s ih =>
      intro hs
      obtain ⟨j, hj, hjd⟩ := ih (by omega)
      obtain ⟨x, hx, hxd⟩ := h.prv j hj (by omega)
      exact ⟨x, hx, by omega⟩
  have key2 : ∀ s : Nat, ∃ j : Nat, s ≤ gs.length → j < gs.length ∧ d.getD j 0 = (s : Int) := fun s => by
    by_cases hs : s ≤ gs.length
    · obtain ⟨j, hj, hjd⟩ := key (gs.length - s) (by omega)
      exact ⟨j, fun _ => ⟨hj, by omega⟩⟩
    · exact ⟨0, fun h => absurd h hs⟩
  have hf : ∃ f : Nat → Nat, ∀ s, s ≤ gs.length → f s < gs.length ∧ d.getD (f s) 0 = (s : Int) := ⟨fun s => Classical.choose (key2 s), fun s => Classical.choose_spec (key2 s)⟩
  obtain ⟨f, hf⟩ := hf
  have := nodup_len ((List.range (gs.length + 1)).map fun s => (f s : Int)) gs.length (by
    rw [List.nodup_iff_pairwise_ne, List.pairwise_map]
    refine List.Pairwise.imp_of_mem ?_ List.nodup_range
    intro a b ha hb hne e
    have h1 := (hf a (by have := List.mem_range.1 ha; omega)).2
    have h2 := (hf b (by have := List.mem_range.1 hb; omega)).2
    have e2 : f a = f b := by omega
    rw [e2] at h1
    omega) (fun x hx => by
    obtain ⟨s, hs, rfl⟩ := List.mem_map.1 hx
    have := (hf s (by have := List.mem_range.1 hs; omega)).1
    omega)
  simp at this
  omega
end Go.Proofs.Ytjphckfbbiehdaa

namespace Go.Proofs.Ytjphckfbbiehdaa
def tk1 (t : Int) (σ : List Int × List Int) (v : Val) : List Int × List Int := if v.1 = true ∧ σ.2.getD v.2.toNat 0 < 0 then (σ.1 ++ [v.2], σ.2.set v.2.toNat t) else σ
def tkAll (t : Int) (vs : List Val) (σ : List Int × List Int) : List Int × List Int := vs.foldl (tk1 t) σ
theorem tkAll_cons (t : Int) (v : Val) (vs : List Val) (σ : List Int × List Int) : tkAll t (v :: vs) σ = tkAll t vs (tk1 t σ v) := rfl
/-- The row of distances goes with the list. -/
structure FOk (n : Nat) (σ : List Int × List Int) : Prop where
  ok : OrdOk n σ.1
  len : σ.2.length = n
  neg : ∀ i : Nat, σ.2.getD i 0 = -1 ∨ 0 ≤ σ.2.getD i 0
  there : ∀ i : Nat, i < n → (0 ≤ σ.2.getD i 0 ↔ (i : Int) ∈ σ.1)
  bd : ∀ i : Nat, σ.2.getD i 0 < n + 1
theorem FOk.zero (n : Nat) : FOk n ([], List.replicate n (-1)) := by
  have e : ∀ i : Nat, (List.replicate n (-1 : Int)).getD i 0 = if i < n then -1 else 0 := fun i => by
    rw [List.getD_eq_getElem?_getD, List.getElem?_replicate]; split <;> simp
  refine ⟨OrdOk.nil n, by simp, fun i => ?_, fun i hi => ?_, fun i => ?_⟩
  · dsimp only; rw [e]; split <;> simp
  · dsimp only; rw [e, if_pos hi]; simp
  · dsimp only; rw [e]; split <;> omega
theorem tk1_yes {t : Int} {σ : List Int × List Int} {x : Int} (h : σ.2.getD x.toNat 0 < 0) : tk1 t σ (true, x) = (σ.1 ++ [x], σ.2.set x.toNat t) := by unfold tk1; rw [if_pos ⟨rfl, h⟩]
theorem tk1_no {t : Int} {σ : List Int × List Int} {b : Bool} {x : Int} (h : b = false ∨ 0 ≤ σ.2.getD x.toNat 0) : tk1 t σ (b, x) = σ := by
  unfold tk1
  rw [if_neg]
  rintro ⟨h1, h2⟩
  rcases h with h | h
  · dsimp only at h1; rw [h] at h1; cases h1
  · dsimp only at h2; omega
theorem FOk.seen {n : Nat} {σ : List Int × List Int} (h : FOk n σ) {v : Val} (hv : v.1 = true → 0 ≤ v.2 ∧ v.2 < (n : Int)) (t : Int) : (tk1 t σ v).1 = seen1 σ.1 v := by
  obtain ⟨b, x⟩ := v
  cases b with
  | false => rw [tk1_no (.inl rfl)]; unfold seen1; rw [if_neg (by simp)]
  | true =>
    obtain ⟨h1, h2⟩ := hv rfl
    dsimp only at h1 h2
    have := h.there x.toNat (by omega)
    rw [show ((x.toNat : Nat) : Int) = x from by omega] at this
    by_cases hx : x ∈ σ.1
    · rw [tk1_no (.inr (this.2 hx))]; unfold seen1; rw [if_neg (fun h => h.2 hx)]
    · rw [tk1_yes (by
        rcases h.neg x.toNat with h3 | h3
        · omega
        · exact absurd (this.1 h3) hx)]
      unfold seen1; rw [if_pos ⟨rfl, hx⟩]
theorem FOk.tk1 {n : Nat} {σ : List Int × List Int} (h : FOk n σ) {v : Val} (hv : v.1 = true → 0 ≤ v.2 ∧ v.2 < (n : Int)) {t : Int} (ht : 0 ≤ t ∧ t < n + 1) : FOk n (tk1 t σ v) := by
  obtain ⟨b, x⟩ := v
  cases b with
  | false => rw [tk1_no (.inl rfl)]; exact h
  | true =>
    obtain ⟨h1, h2⟩ := hv rfl
    dsimp only at h1 h2
    by_cases hx : σ.2.getD x.toNat 0 < 0
    · have hs := h.seen hv t
      have hxl := neg_lt hx
      refine ⟨by rw [hs]; exact h.ok.seen1 hv, ?_, fun i => ?_, fun i hi => ?_, fun i => ?_⟩
      · rw [tk1_yes hx]; simp; exact h.len
      · rw [tk1_yes hx]; dsimp only; rw [getD_set_ hxl]; split
        · exact .inr ht.1
        · exact h.neg i
      · rw [tk1_yes hx]; dsimp only; rw [getD_set_ hxl]
        by_cases e : i = x.toNat
        · rw [if_pos e]
          constructor
          · intro _; subst e; rw [show ((x.toNat : Nat) : Int) = x from by omega]; simp
          · intro _; exact ht.1
        · rw [if_neg e, h.there i hi]
          simp only [List.mem_append, List.mem_singleton]
          constructor
          · exact .inl
          · rintro (h3 | h3)
            · exact h3
            · omega
      · rw [tk1_yes hx]; dsimp only; rw [getD_set_ hxl]; split
        · exact ht.2
        · exact h.bd i
    · rw [tk1_no (.inr (by omega))]; exact h
theorem FOk.tkAll {n : Nat} {t : Int} (ht : 0 ≤ t ∧ t < n + 1) (vs : List Val) : ∀ {σ : List Int × List Int}, FOk n σ → ValsOk n vs → FOk n (tkAll t vs σ) ∧ (Go.Proofs.Ytjphckfbbiehdaa.tkAll t vs σ).1 = seenAll σ.1 vs := by
  induction vs with
  | nil => intro σ h _; exact ⟨h, rfl⟩
  | cons v vs ih =>
    intro σ h hv
    obtain ⟨h1, h2⟩ := ih (h.tk1 (hv v (by simp)) ht) (fun u hu => hv u (by simp [hu]))
    refine ⟨h1, ?_⟩
    rw [tkAll_cons, h2, h.seen (hv v (by simp)) t]
    rfl
/-- What a list of values adds at a distance t. -/
structure Tkn (n : Nat) (t : Int) (σ τ : List Int × List Int) : Prop where
  pre_ : σ.1 <+: τ.1
  keep : ∀ x ∈ σ.1, τ.2.getD x.toNat 0 = σ.2.getD x.toNat 0
  new : ∀ x ∈ τ.1, x ∉ σ.1 → τ.2.getD x.toNat 0 = t
theorem Tkn.refl (n : Nat) (t : Int) (σ : List Int × List Int) : Tkn n t σ σ := ⟨List.prefix_refl _, fun _ _ => rfl, fun x h h2 => absurd h h2⟩
theorem Tkn.trans {n : Nat} {t : Int} {a b c : List Int × List Int} (h : Tkn n t a b) (k : Tkn n t b c) : Tkn n t a c := by
  refine ⟨h.pre_.trans k.pre_, fun x hx => by rw [k.keep x (h.pre_.subset hx), h.keep x hx], fun x hx hn => ?_⟩
  by_cases hb : x ∈ b.1
  · rw [k.keep x hb]; exact h.new x hb hn
  · exact k.new x hx hb
theorem Tkn.one {n : Nat} {t : Int} {σ : List Int × List Int} (h : FOk n σ) {v : Val} (hv : v.1 = true → 0 ≤ v.2 ∧ v.2 < (n : Int)) : Tkn n t σ (tk1 t σ v) := by
  obtain ⟨b, x⟩ := v
  cases b with
  | false => rw [tk1_no (.inl rfl)]; exact .refl _ _ _
  | true =>
    obtain ⟨h1, h2⟩ := hv rfl
    dsimp only at h1 h2
    by_cases hx : σ.2.getD x.toNat 0 < 0
    · rw [tk1_yes hx]
      have hxl := neg_lt hx
      refine ⟨List.prefix_append _ _, fun y hy => ?_, fun y hy hn => ?_⟩
      · dsimp only
        rw [getD_set_ hxl, if_neg]
        intro e
        have h3 := h.ok.rng y hy
        have h4 := (h.there y.toNat (by omega)).2 (by rw [show ((y.toNat : Nat) : Int) = y from by omega]; exact hy)
        rw [e] at h4
        omega
      · dsimp only at hy ⊢
        rcases List.mem_append.1 hy with h3 | h3
        · exact absurd h3 hn
        · simp at h3; subst h3
          rw [getD_set_ hxl, if_pos rfl]
    · rw [tk1_no (.inr (by omega))]; exact .refl _ _ _
theorem Tkn.all {n : Nat} {t : Int} (ht : 0 ≤ t ∧ t < n + 1) (vs : List Val) : ∀ {σ : List Int × List Int}, FOk n σ → ValsOk n vs → Tkn n t σ (tkAll t vs σ) := by
  induction vs with
  | nil => intro σ _ _; exact .refl _ _ _
  | cons v vs ih =>
    intro σ h hv
    rw [tkAll_cons]
    exact (Tkn.one h (hv v (by simp))).trans (ih (h.tk1 (hv v (by simp)) ht) (fun u hu => hv u (by simp [hu])))
end Go.Proofs.Ytjphckfbbiehdaa

namespace Go.Proofs.Ytjphckfbbiehdaa
open Go.RowKit Go.Shelf
attribute [local go_sem] Oper.semAt_some
/-- The objects to which references of some values go, in order. -/
def tgts (vs : List Val) : List Int := vs.filterMap fun v => if v.1 = true then some v.2 else none
theorem tgts_mem {vs : List Val} {x : Int} : x ∈ tgts vs ↔ (true, x) ∈ vs := by
  unfold tgts
  rw [List.mem_filterMap]
  constructor
  · rintro ⟨⟨b, y⟩, hv, h⟩
    split at h
    · rename_i hb
      dsimp only at hb h
      injection h with h
      subst h; subst hb; exact hv
    · cases h
  · intro h
    exact ⟨(true, x), h, by simp⟩
/-! ### What a round keeps: the blocks of a set D. -/
def KpD (D : Nat → Prop) (W W' : World) : Prop := W.heap.size ≤ W'.heap.size ∧ ∀ k, k < W.heap.size → D k → W'.heap[k]? = W.heap[k]?
theorem KpD.refl (D : Nat → Prop) (W : World) : KpD D W W := ⟨Nat.le_refl _, fun _ _ _ => rfl⟩
theorem KpD.trans {D : Nat → Prop} {A B C : World} (h : KpD D A B) (k : KpD D B C) : KpD D A C := ⟨Nat.le_trans h.1 k.1, fun i hi hd => (k.2 i (Nat.lt_of_lt_of_le hi h.1) hd).trans (h.2 i hi hd)⟩
theorem KpD.alloc {D : Nat → Prop} (A : World) (o : Obj) : KpD D A (A.alloc o) := ⟨by simp, fun k hk _ => Below.heap_alloc A o k hk⟩
theorem KpD.rd {D : Nat → Prop} {A B : World} (h : KpD D A B) {size n : Nat} {ad : Option Addr} {xs : List Value} (hr : Rd A D size ad n xs) : Rd B D size ad n xs := hr.keep h.1 h.2
theorem KpD.blk {D : Nat → Prop} {A B : World} (h : KpD D A B) {g : Nat} {t : TypeId} {cs : Array Value} (hb : Blk A g t cs) (hd : D g) : Blk B g t cs := (h.2 g hb.lt hd).trans hb
theorem KpD.obs {D : Nat → Prop} {A B : World} (h : KpD D A B) {ad : Option Addr} {n : Nat} {obs : List Ob} (ho : ObsRd A D ad n obs) : ObsRd B D ad n obs := ho.keep h.1 h.2
/-! ### Things whose blocks are cells, or older than a loop. -/
def Tame (B : Nat) (i : Item) : Prop := ∀ w, i.P w → ∀ k, i.fp k → k < B ∨ ∃ o : Obj, w.heap[k]? = some o ∧ o.isCells = true
theorem Tame.row (B e size : Nat) (A : Option Addr) (n c : Nat) (xs : List Value) : Tame B (rowI e size A n c xs) := by
  intro w h k hk
  have h1 : (Value.slice A n c).ownBlock = some k := hk
  rcases h.2 with ⟨hv, _⟩ | ⟨g, cap, cur, hv, _, hh, _⟩
  · rw [hv] at h1; cases h1
  · rw [hv] at h1
    have : g = k := by simpa [Value.ownBlock] using h1
    subst this
    exact .inr ⟨_, hh, rfl⟩
theorem Tame.blk (B g t : Nat) (cs : Array Value) : Tame B (blkI g t cs) := by
  intro w h k hk
  have : k = g := hk
  subst this
  exact .inr ⟨_, h, rfl⟩
theorem Tame.all {B : Nat} {l : List Item} (h : ∀ i ∈ l, Tame B i) : Tame B (allI l) := by
  intro w hw k hk
  obtain ⟨i, hi, hik⟩ := hk
  exact h i hi w (hw.1 i hi) k hik
theorem Tame.up {B B' : Nat} {i : Item} (h : Tame B i) (hb : B ≤ B') : Tame B' i := fun w hw k hk => (h w hw k hk).imp (fun h1 => Nat.lt_of_lt_of_le h1 hb) id
theorem Tame.far {B k : Nat} {i : Item} {w : World} {o : Obj} (h : Tame B i) (hw : i.P w) (hk : B ≤ k) (ho : w.heap[k]? = some o) (hc : o.isCells = false) : ¬ i.fp k := fun hf => by
  rcases h w hw k hf with h1 | ⟨o', h1, h2⟩
  · omega
  · rw [ho] at h1; injection h1 with h1; subst h1; rw [hc] at h2; cases h2
/-- A step that turns no cells, from a loop's beginning on: things stay. -/
theorem Sep.grown {F : Nat → Prop} {W w w' : World} {i : Item} {B : Nat} {row : Option Nat} (h : Sep F W w [i]) (ht : Tame B i) (hB : W.heap.size ≤ B) (hg : w.grownBy w' row) (hr : ∀ r, row = some r → B ≤ r ∧ ∃ o : Obj, w.heap[r]? = some o ∧ o.isCells = false) : Sep F W w' [i] := by
  have hP : i.P w := h.all i (by simp)
  have hne : ∀ k, i.fp k → some k ≠ row := fun k hk e => by
    obtain ⟨h1, o, h2, h3⟩ := hr k e.symm
    exact ht.far hP h1 h2 h3 hk
  refine ⟨h.bel.trans (Chg.of_grown hg) (fun g hgr => ?_), fun j hj => ?_, h.own, h.apart⟩
  · obtain ⟨h1, _⟩ := hr g hgr
    exact .inr (by have := h.bel.size; have h2 := (hr g hgr).2; omega)
  · have : j = i := by simpa using hj
    subst this
    exact j.loc w w' hg.size (fun k hk => hg.block k (j.dom w hP k hk) (fun e => hne k hk e)) hP
/-! ### The mark of a loop among the deferred calls. -/
def Colls (B : Nat) (w : World) : List Deferred → Prop
  | [] => True
  | d :: ds => ∃ D : Nat, d = { target := .collected D, args := #[] } ∧ B ≤ D ∧ w.heap[D]? = some (.deferred (some [])) ∧ (∀ d' ∈ ds, ∃ D' : Nat, d' = { target := .collected D', args := #[] } ∧ D' < D) ∧ Colls B w ds
theorem Colls.keep {B : Nat} {w w' : World} : ∀ {ds : List Deferred}, Colls B w ds → (∀ (k : Nat) (o : Obj), B ≤ k → w.heap[k]? = some o → o.isCells = false → w'.heap[k]? = some o) → Colls B w' ds
  | [], _, _ => trivial
  | d :: ds, ⟨D, h1, h2, h3, h4, h5⟩, hk => ⟨D, h1, h2, hk D _ h2 h3 rfl, h4, h5.keep hk⟩
theorem Colls.keeps {B : Nat} {w w' : World} {ds : List Deferred} (h : Colls B w ds) (hk : KeepsFrom B w w') : Colls B w' ds := h.keep hk.same
theorem Colls.lt {B : Nat} {w : World} : ∀ {ds : List Deferred}, Colls B w ds → ∀ d ∈ ds, ∃ D : Nat, d = { target := .collected D, args := #[] } ∧ D < w.heap.size
  | [], _, _, hd => by simp at hd
  | _ :: _, ⟨D, h1, _, h3, _, h5⟩, d, hd => by
    rcases List.mem_cons.1 hd with rfl | hd
    · exact ⟨D, h1, (Array.getElem?_eq_some_iff.1 h3).1⟩
    · exact h5.lt d hd
theorem Colls.push {B : Nat} {w w' : World} {ds : List Deferred} {D : Nat} (h : Colls B w ds) (hk : ∀ (k : Nat) (o : Obj), B ≤ k → w.heap[k]? = some o → o.isCells = false → w'.heap[k]? = some o) (hB : B ≤ w.heap.size) (hD : w.heap.size ≤ D) (hd : w'.heap[D]? = some (.deferred (some []))) :
    Colls B w' ({ target := .collected D, args := #[] } :: ds) :=
  ⟨D, rfl, by omega, hd, fun d' hd' => by obtain ⟨D', e, hl⟩ := h.lt d' hd'; exact ⟨D', e, by omega⟩, h.keep hk⟩
/-! ### The iterator. -/
/-! ### The law of the loop. -/
/-! ### Appends and makes inside a fence. -/
section
variable {P : Program} {F : Fence} {N : Nat}
end
end Go.Proofs.Ytjphckfbbiehdaa

namespace Go.Proofs.Ytjphckfbbiehdaa
open Go.RowKit
structure GOk (nO nR : Nat) (obs : List Ob) (roots : List Val) : Prop where
  nO_ : nO ≤ 24
  nR_ : nR ≤ 8
  fl : ∀ o ∈ obs, o.n ≤ 4
  len : (obs.map Ob.fields).length = nO
  vg : ∀ fs ∈ obs.map Ob.fields, ValsOk (obs.map Ob.fields).length fs
  vr : ValsOk (obs.map Ob.fields).length roots
  fs : ∀ fs ∈ obs.map Ob.fields, fs.length ≤ 4
theorem gok_of {w : World} {D : Nat → Prop} {AO : Option Addr} {nO nR : Nat} {obs : List Ob} {roots : List Val} (hO : ObsRd w D AO nO obs) (h : gcheck nO nR obs roots = 0) : GOk nO nR obs roots := by
  unfold gcheck at h
  split at h
  · omega
  rename_i h1
  split at h
  · omega
  rename_i h2
  have h3 : obs.any large = false := by
    cases h4 : obs.any large with
    | false => rfl
    | true => exact absurd (Or.inr (Or.inr h4)) h1
  have hfl : ∀ o ∈ obs, o.n ≤ 4 := fun o ho => by
    have h5 := List.any_eq_false.1 h3 o ho
    unfold large at h5
    simp at h5
    omega
  have hlen : (obs.map Ob.fields).length = nO := by rw [List.length_map]; exact hO.len
  have h4 : ∀ v ∈ allVals obs roots, v.1 = true → 0 ≤ v.2 ∧ v.2 < ((obs.map Ob.fields).length : Int) := fun v hv hv1 => by
    have h5 : (allVals obs roots).any (badArg nO) = false := by
      cases h6 : (allVals obs roots).any (badArg nO) with
      | false => rfl
      | true => exact absurd h6 h2
    have h6 := List.any_eq_false.1 h5 v hv
    unfold badArg at h6
    rw [hv1] at h6
    rw [hlen]
    simp at h6
    omega
  refine ⟨by omega, by omega, hfl, hlen, fun fs hfs v hv => ?_, fun v hv => h4 v (List.mem_append_left _ hv), fun fs hfs => ?_⟩
  · obtain ⟨o, ho, rfl⟩ := List.mem_map.1 hfs
    exact h4 v (List.mem_append_right _ (List.mem_flatMap.2 ⟨o, ho, hv⟩))
  · obtain ⟨o, ho, rfl⟩ := List.mem_map.1 hfs
    have := hO.flen ho
    have := hfl o ho
    omega
theorem roots_len {w : World} {D : Nat → Prop} {AR : Option Addr} {nR : Nat} {roots : List Val} (hR : Rd w D 2 AR nR (vals roots)) : roots.length = nR := by have := hR.1; rw [vals_length] at this; omega
/-! ### Sorting what is found. -/
end Go.Proofs.Ytjphckfbbiehdaa

namespace Go.Proofs.Ytjphckfbbiehdaa
open Go.RowKit
def dosV (l : List DoV) : List Value := l.flatMap fun d => [.int .i64 d.k, .int .i64 d.to, .int .i64 d.fr, .int .i64 d.at_, .int .i64 d.n]
theorem dosV_length (l : List DoV) : (dosV l).length = l.length * 5 := by
  unfold dosV; induction l with
  | nil => rfl
  | cons a l ih => simp [List.flatMap_cons] at ih ⊢; omega
theorem dosV_at (l : List DoV) (k : Nat) (h : k < l.length) : (dosV l)[k * 5]? = some (.int .i64 l[k].k) ∧ (dosV l)[k * 5 + (0 + 1)]? = some (.int .i64 l[k].to) ∧ (dosV l)[k * 5 + (1 + 1)]? = some (.int .i64 l[k].fr) ∧ (dosV l)[k * 5 + (2 + 1)]? = some (.int .i64 l[k].at_) ∧ (dosV l)[k * 5 + (3 + 1)]? = some (.int .i64 l[k].n) := by
  unfold dosV
  induction l generalizing k with
  | nil => simp at h
  | cons a l ih =>
    cases k with
    | zero => exact ⟨rfl, rfl, rfl, rfl, rfl⟩
    | succ k =>
      have h2 := ih k (by simpa using h)
      rw [List.flatMap_cons, show (k + 1) * 5 = k * 5 + 1 + 1 + 1 + 1 + 1 from by omega]
      exact h2
theorem outsV_app (a b : List OutV) : outsV (a ++ b) = outsV a ++ outsV b := by simp [outsV]
theorem sOut : SliceT Try.prog 23 41 3 24 := SliceT.mk_ Try.underlying23 (z := .agg #[.int .i64 0, .bool false, .int .i64 0]) (by kernel_rfl) rfl (by omega)
end Go.Proofs.Ytjphckfbbiehdaa
