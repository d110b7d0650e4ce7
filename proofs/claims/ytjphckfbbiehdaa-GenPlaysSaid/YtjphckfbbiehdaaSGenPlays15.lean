/- How far objects are: what the reference's Dist has; plain. What a call has of its own: a slice cut, cleared; two cells stored at once. The reference's memory: what it has; a register's place, an object's, a field's; what a store turns. A machine over a memory without end: what it does. -/
import Derived.Test.YtjphckfbbiehdaaSGenPlays14
import Derived.Test.YtjphckfbbiehdaaSGenPlays1
import Derived.StillTailTactics
import Derived.Test.YtjphckfbbiehdaaSGenPlays8
set_option linter.unusedSimpArgs false
set_option linter.unusedVariables false
namespace Go.Proofs.Ytjphckfbbiehdaa
inductive Lev (gs : List (List Val)) (vs : List Val) : Nat → Int → Prop
  | root (i : Int) : (true, i) ∈ vs → Lev gs vs 0 i
  | step (k : Nat) (i j : Int) : Lev gs vs k i → (true, j) ∈ fieldsI gs i → Lev gs vs (k + 1) j
theorem refers_iff (vs : List Val) (i : Int) : refers vs i = true ↔ (true, i) ∈ vs := by
  unfold refers
  rw [List.any_eq_true]
  constructor
  · rintro ⟨⟨b, x⟩, hv, h⟩
    simp only [Bool.and_eq_true, beq_iff_eq] at h
    obtain ⟨rfl, rfl⟩ := h
    exact hv
  · intro h
    exact ⟨_, h, by simp⟩
/-- What a turn does. -/
structure Grw (gs : List (List Val)) (t : Nat) (d d' : List Int) : Prop where
  len : d'.length = d.length
  keep : ∀ j : Nat, 0 ≤ d.getD j 0 → d'.getD j 0 = d.getD j 0
  new : ∀ j : Nat, d.getD j 0 < 0 → d'.getD j 0 = d.getD j 0 ∨ (d'.getD j 0 = (t : Int) + 1 ∧ ∃ i : Nat, i < gs.length ∧ d.getD i 0 = (t : Int) ∧ refers (fieldsI gs (i : Int)) (j : Int) = true)
theorem Grw.refl (gs : List (List Val)) (t : Nat) (d : List Int) : Grw gs t d d := ⟨rfl, fun _ _ => rfl, fun _ _ => .inl rfl⟩
theorem Grw.back {gs : List (List Val)} {t : Nat} {d d' : List Int} (h : Grw gs t d d') {i : Nat} (hi : d'.getD i 0 = (t : Int)) : d.getD i 0 = (t : Int) := by
  by_cases h0 : 0 ≤ d.getD i 0
  · rw [← h.keep i h0]; exact hi
  · rcases h.new i (by omega) with h1 | ⟨h1, _⟩ <;> omega
theorem Grw.trans {gs : List (List Val)} {t : Nat} {a b c : List Int} (h : Grw gs t a b) (k : Grw gs t b c) : Grw gs t a c := by
  refine ⟨k.len.trans h.len, fun j hj => ?_, fun j hj => ?_⟩
  · have h1 := h.keep j hj
    rw [k.keep j (by omega), h1]
  · rcases h.new j hj with h1 | ⟨h1, h2⟩
    · rcases k.new j (by omega) with h3 | ⟨h3, i, hi, hit, hr⟩
      · exact .inl (h3.trans h1)
      · exact .inr ⟨h3, i, hi, h.back hit, hr⟩
    · refine .inr ⟨?_, h2⟩
      rw [k.keep j (by omega), h1]
theorem getD_set_ {d : List Int} {j k : Nat} {x : Int} (hk : k < d.length) : (d.set k x).getD j 0 = if j = k then x else d.getD j 0 := by
  rw [List.getD_eq_getElem?_getD, List.getElem?_set]
  by_cases e : k = j
  · subst e; simp [hk]
  · rw [if_neg e, if_neg (Ne.symm e), ← List.getD_eq_getElem?_getD]
theorem neg_lt {d : List Int} {j : Nat} (h : d.getD j 0 < 0) : j < d.length := by
  rcases Nat.lt_or_ge j d.length with h1 | h1
  · exact h1
  · rw [List.getD_eq_getElem?_getD, List.getElem?_eq_none h1] at h; simp at h
theorem Grw.look {gs : List (List Val)} {t i : Nat} {d : List Int} (hi : i < gs.length) (hit : d.getD i 0 = (t : Int)) (j : Nat) : Grw gs t d (dLook gs t i d j) := by
  unfold dLook
  split
  · rename_i hc
    have hj := neg_lt hc.1
    refine ⟨by simp, fun x hx => ?_, fun x hx => ?_⟩
    · rw [getD_set_ hj, if_neg (by rintro rfl; omega)]
    · rw [getD_set_ hj]
      by_cases e : x = j
      · subst e; rw [if_pos rfl]; exact .inr ⟨rfl, i, hi, hit, hc.2⟩
      · rw [if_neg e]; exact .inl rfl
  · exact .refl _ _ _
theorem Grw.looks {gs : List (List Val)} {t i : Nat} (hi : i < gs.length) (js : List Nat) : ∀ d : List Int, d.getD i 0 = (t : Int) → Grw gs t d (js.foldl (dLook gs t i) d) ∧ ∀ j ∈ js, refers (fieldsI gs (i : Int)) (j : Int) = true → 0 ≤ (js.foldl (dLook gs t i) d).getD j 0 := by
  induction js with
  | nil => intro d _; exact ⟨.refl _ _ _, by simp⟩
  | cons a js ih =>
    intro d hit
    have h1 := Grw.look hi hit a
    obtain ⟨h2, h3⟩ := ih (dLook gs t i d a) (dLook_keep a hit)
    refine ⟨h1.trans h2, fun j hj hr => ?_⟩
    rcases List.mem_cons.1 hj with rfl | hj
    · have h4 : 0 ≤ (dLook gs t i d j).getD j 0 := by
        unfold dLook
        by_cases h5 : d.getD j 0 < 0
        · rw [if_pos ⟨h5, hr⟩, getD_set_ (neg_lt h5), if_pos rfl]; omega
        · rw [if_neg (fun h => h5 h.1)]; omega
      rw [List.foldl_cons, h2.keep j h4]; exact h4
    · exact h3 j hj hr
theorem Grw.froms {gs : List (List Val)} {t : Nat} (is_ : List Nat) : ∀ d : List Int, (∀ i ∈ is_, i < gs.length) → Grw gs t d (is_.foldl (dFrom gs t) d) ∧ ∀ i ∈ is_, d.getD i 0 = (t : Int) → ∀ j : Nat, j < gs.length → refers (fieldsI gs (i : Int)) (j : Int) = true → 0 ≤ (is_.foldl (dFrom gs t) d).getD j 0 := by
  induction is_ with
  | nil => intro d _; exact ⟨.refl _ _ _, by simp⟩
  | cons a js ih =>
    intro d hlt
    have ha := hlt a (by simp)
    have h1 : Grw gs t d (dFrom gs t d a) := by
      unfold dFrom
      split
      · exact (Grw.looks ha _ d (by assumption)).1
      · exact .refl _ _ _
    obtain ⟨h2, h3⟩ := ih (dFrom gs t d a) (fun i hi => hlt i (by simp [hi]))
    refine ⟨h1.trans h2, fun i hi hit j hj hr => ?_⟩
    rcases List.mem_cons.1 hi with rfl | hi
    · have h4 : 0 ≤ (dFrom gs t d i).getD j 0 := by
        unfold dFrom
        rw [if_pos hit]
        exact (Grw.looks ha _ d hit).2 j (List.mem_range.2 hj) hr
      rw [List.foldl_cons, h2.keep j h4]; exact h4
    · exact h3 i hi (by rw [h1.keep i (by omega)]; exact hit) j hj hr
theorem Grw.turn {gs : List (List Val)} {t : Nat} (d : List Int) : Grw gs t d (dTurn gs d t) ∧ ∀ i : Nat, i < gs.length → d.getD i 0 = (t : Int) → ∀ j : Nat, j < gs.length → refers (fieldsI gs (i : Int)) (j : Int) = true → 0 ≤ (dTurn gs d t).getD j 0 := by
  obtain ⟨h1, h2⟩ := Grw.froms (gs := gs) (t := t) (List.range gs.length) d (fun i hi => List.mem_range.1 hi)
  exact ⟨h1, fun i hi => h2 i (List.mem_range.2 hi)⟩
/-- What holds behind t turns. -/
structure DInv (gs : List (List Val)) (vs : List Val) (t : Nat) (d : List Int) : Prop where
  len : d.length = gs.length
  rng : ∀ i : Nat, d.getD i 0 = -1 ∨ (0 ≤ d.getD i 0 ∧ d.getD i 0 ≤ (t : Int))
  root : ∀ i : Nat, i < gs.length → (true, (i : Int)) ∈ vs → d.getD i 0 = 0
  lev : ∀ i : Nat, i < gs.length → 0 ≤ d.getD i 0 → Lev gs vs (d.getD i 0).toNat (i : Int)
  nxt : ∀ i : Nat, i < gs.length → 0 ≤ d.getD i 0 → d.getD i 0 < (t : Int) → ∀ j : Nat, j < gs.length → (true, (j : Int)) ∈ fieldsI gs (i : Int) → 0 ≤ d.getD j 0 ∧ d.getD j 0 ≤ d.getD i 0 + 1
  prv : ∀ i : Nat, i < gs.length → 0 < d.getD i 0 → ∃ j : Nat, j < gs.length ∧ d.getD j 0 = d.getD i 0 - 1
theorem DInv.zero (gs : List (List Val)) (vs : List Val) : DInv gs vs 0 (d0 gs vs) := by
  have e : ∀ i : Nat, i < gs.length → (d0 gs vs).getD i 0 = if refers vs (i : Int) = true then 0 else -1 := fun i hi => by
    rw [getD_get (by rw [d0_len]; exact hi)]; simp [d0]
  refine ⟨d0_len _ _, fun i => ?_, fun i hi h => ?_, fun i hi h => ?_, fun i hi h h2 => ?_, fun i hi h => ?_⟩
  · rcases Nat.lt_or_ge i gs.length with h | h
    · rw [e i h]; split <;> simp
    · rw [List.getD_eq_getElem?_getD, List.getElem?_eq_none (by rw [d0_len]; exact h)]; simp
  · rw [e i hi, if_pos ((refers_iff _ _).2 h)]
  · rw [e i hi] at h ⊢
    split at h
    · rename_i h1
      rw [if_pos h1]
      exact .root _ ((refers_iff _ _).1 h1)
    · omega
  · omega
  · rw [e i hi] at h
    split at h <;> omega
theorem DInv.turn {gs : List (List Val)} {vs : List Val} {t : Nat} {d : List Int} (h : DInv gs vs t d) : DInv gs vs (t + 1) (dTurn gs d t) := by
  obtain ⟨hg, hc⟩ := Grw.turn (gs := gs) (t := t) d
  generalize dTurn gs d t = d' at *
  refine ⟨hg.len.trans h.len, fun i => ?_, fun i hi hr => ?_, fun i hi h0 => ?_, fun i hi h0 h1 j hj hr => ?_, fun i hi h0 => ?_⟩
  · rcases h.rng i with h1 | ⟨h1, h2⟩
    · rcases hg.new i (by omega) with h3 | ⟨h3, _⟩
      · exact .inl (h3.trans h1)
      · exact .inr (by omega)
    · rw [hg.keep i h1]; exact .inr (by omega)
  · have := h.root i hi hr
    rw [hg.keep i (by omega)]; exact this
  · by_cases h1 : 0 ≤ d.getD i 0
    · rw [hg.keep i h1]; exact h.lev i hi h1
    · rcases hg.new i (by omega) with h3 | ⟨h3, x, hx, hxt, hr⟩
      · omega
      · rw [h3]
        have := h.lev x hx (by omega)
        rw [hxt] at this
        have h9 := Lev.step _ _ _ this ((refers_iff _ _).1 hr)
        rw [show ((t : Int) + 1).toNat = (t : Int).toNat + 1 from by omega]
        exact h9
  · have hi0 : 0 ≤ d.getD i 0 := by
      by_cases h2 : 0 ≤ d.getD i 0
      · exact h2
      · rcases hg.new i (by omega) with h3 | ⟨h3, _⟩ <;> omega
    have hik := hg.keep i hi0
    rw [hik] at h0 h1 ⊢
    by_cases h2 : d.getD i 0 < (t : Int)
    · obtain ⟨h3, h4⟩ := h.nxt i hi hi0 h2 j hj hr
      rw [hg.keep j h3]; exact ⟨h3, h4⟩
    · have hit : d.getD i 0 = (t : Int) := by omega
      have h5 := hc i hi hit j hj ((refers_iff _ _).2 hr)
      refine ⟨h5, ?_⟩
      by_cases h6 : 0 ≤ d.getD j 0
      · rw [hg.keep j h6]
        rcases h.rng j with h7 | h7 <;> omega
      · rcases hg.new j (by omega) with h7 | ⟨h7, _⟩ <;> omega
  · by_cases h1 : 0 ≤ d.getD i 0
    · rw [hg.keep i h1] at h0 ⊢
      obtain ⟨j, hj, hj2⟩ := h.prv i hi h0
      exact ⟨j, hj, by rw [hg.keep j (by omega)]; exact hj2⟩
    · rcases hg.new i (by omega) with h3 | ⟨h3, x, hx, hxt, _⟩
      · omega
      · exact ⟨x, hx, by rw [hg.keep x (by omega), hxt, h3]; omega⟩
theorem DInv.turns (gs : List (List Val)) (vs : List Val) (t : Nat) : DInv gs vs t ((List.range t).foldl (dTurn gs) (d0 gs vs)) := by
  induction t with
  | zero => exact DInv.zero gs vs
  | succ t ih => rw [range_snoc_fold]; exact ih.turn
theorem DInv.lt {gs : List (List Val)} {vs : List Val} {d : List Int} (h : DInv gs vs gs.length d) (i : Nat) (hi : i < gs.length) : d.getD i 0 < (gs.length : Int) := by
  rcases (show d.getD i 0 < (gs.length : Int) ∨ (gs.length : Int) ≤ d.getD i 0 by omega) with h1 | h1
  · exact h1
  exfalso
  have hn : d.getD i 0 = (gs.length : Int) := by rcases h.rng i with h2 | h2 <;> omega
  have key : ∀ s : Nat, s ≤ gs.length → ∃ j : Nat, j < gs.length ∧ d.getD j 0 = ((gs.length - s : Nat) : Int) := by
    intro s
    induction s with
    | zero => intro _; exact ⟨i, hi, by simpa using hn⟩
    | succ s ih =>
      intro hs
      obtain ⟨j, hj, hjd⟩ := ih (by omega)
      obtain ⟨x, hx, hxd⟩ := h.prv j hj (by omega)
      exact ⟨x, hx, by omega⟩
  have key2 : ∀ s : Nat, ∃ j : Nat, s ≤ gs.length → j < gs.length ∧ d.getD j 0 = (s : Int) := fun s => by
    by_cases hs : s ≤ gs.length
    · obtain ⟨j, hj, hjd⟩ := key (gs.length - s) (by omega)
      exact ⟨j, fun _ => ⟨hj, by omega⟩⟩
    · exact ⟨0, fun h => absurd h hs⟩
  have hf : ∃ f : Nat → Nat, ∀ s, s ≤ gs.length → f s < gs.length ∧ d.getD (f s) 0 = (s : Int) := ⟨fun s => Classical.choose (key2 s), fun s => Classical.choose_spec (key2 s)⟩
  obtain ⟨f, hf⟩ := hf
  have := nodup_len ((List.range (gs.length + 1)).map fun s => (f s : Int)) gs.length (by
    rw [List.nodup_iff_pairwise_ne, List.pairwise_map]
    refine List.Pairwise.imp_of_mem ?_ List.nodup_range
    intro a b ha hb hne e
    have h1 := (hf a (by have := List.mem_range.1 ha; omega)).2
    have h2 := (hf b (by have := List.mem_range.1 hb; omega)).2
    have e2 : f a = f b := by omega
    rw [e2] at h1
    omega) (fun x hx => by
    obtain ⟨s, hs, rfl⟩ := List.mem_map.1 hx
    have := (hf s (by have := List.mem_range.1 hs; omega)).1
    omega)
  simp at this
  omega
/-- What makes out a row of distances. -/
structure DistOk (gs : List (List Val)) (vs : List Val) (d : List Int) : Prop where
  len : d.length = gs.length
  neg : ∀ i : Nat, d.getD i 0 = -1 ∨ 0 ≤ d.getD i 0
  lev : ∀ i : Nat, i < gs.length → 0 ≤ d.getD i 0 → Lev gs vs (d.getD i 0).toNat (i : Int)
  min_ : ∀ (k : Nat) (i : Int), Lev gs vs k i → 0 ≤ i ∧ i < gs.length ∧ 0 ≤ d.getD i.toNat 0 ∧ d.getD i.toNat 0 ≤ (k : Int)
theorem distR_ok {gs : List (List Val)} {vs : List Val} (hg : ∀ fs ∈ gs, ValsOk gs.length fs) (hv : ValsOk gs.length vs) : DistOk gs vs (distR gs vs) := by
  have h : DInv gs vs gs.length (distR gs vs) := DInv.turns gs vs gs.length
  refine ⟨h.len, fun i => (h.rng i).imp id (·.1), h.lev, fun k i hl => ?_⟩
  induction hl with
  | root i hi =>
    obtain ⟨a, b⟩ := hv _ hi rfl
    dsimp only at a b
    refine ⟨a, b, ?_⟩
    have := h.root i.toNat (by omega) (by rw [show ((i.toNat : Nat) : Int) = i from by omega]; exact hi)
    omega
  | step k i j _ hj ih =>
    obtain ⟨a, b, c, e⟩ := ih
    obtain ⟨a', b'⟩ := fieldsI_ok hg i _ hj rfl
    dsimp only at a' b'
    refine ⟨a', b', ?_⟩
    have h1 := h.lt i.toNat (by omega)
    have := h.nxt i.toNat (by omega) c h1 j.toNat (by omega) (by
      rw [show ((i.toNat : Nat) : Int) = i from by omega, show ((j.toNat : Nat) : Int) = j from by omega]; exact hj)
    omega
theorem mem_reachR {gs : List (List Val)} {vs : List Val} (hg : ∀ fs ∈ gs, ValsOk gs.length fs) (hv : ValsOk gs.length vs) (x : Int) : x ∈ reachR gs vs ↔ ∃ k, Lev gs vs k x := by
  have h := distR_ok hg hv
  unfold reachR
  rw [List.mem_map]
  constructor
  · rintro ⟨i, hi, rfl⟩
    obtain ⟨h1, h2⟩ := List.mem_filter.1 hi
    exact ⟨_, h.lev i (List.mem_range.1 h1) (by simpa using h2)⟩
  · rintro ⟨k, hk⟩
    obtain ⟨a, b, c, _⟩ := h.min_ k x hk
    exact ⟨x.toNat, List.mem_filter.2 ⟨List.mem_range.2 (by omega), by simpa using c⟩, by omega⟩
end Go.Proofs.Ytjphckfbbiehdaa

namespace Go.Proofs.Ytjphckfbbiehdaa
open Go.RowKit
section
variable {F : Nat → Prop} {W w : World} {items : List Item}
/-- A store of a struct of two cells into a slice of the call's own. -/
theorem Sep.store2 (h : Sep F W w items) (k : Nat) {e size n c g : Nat} {xs : List Value} (hk : items[k]? = some (rowI e size (some ⟨g, 0, none⟩) n c xs)) (j : Nat) (u v : Value) :
    Sep F W ((w.setCell ⟨g, j, none⟩ u).setCell ⟨g, j + 1, none⟩ v) (items.set k (rowI e size (some ⟨g, 0, none⟩) n c ((xs.set j u).set (j + 1) v))) := by
  have hkl := (List.getElem?_eq_some_iff.1 hk).1
  have h1 := (h.store k hk j u).store k (xs := xs.set j u) (by simp [hkl]; rfl) (j + 1) v
  simpa using h1
end
end Go.Proofs.Ytjphckfbbiehdaa

namespace Go.Proofs.Ytjphckfbbiehdaa
open Go.RowKit
structure RMem where
  gr : Nat
  cR : Nat
  regs : List Val
  Ao : Option Addr
  co : Nat
  obs : List Ob
  Ag : Option Addr
  cg : Nat
  gone : List Bool
def bools (l : List Bool) : List Value := l.map Value.bool
def rmL (Bm : Nat) (s : RMem) : List Item :=
  blkI Bm 176 #[.slice (some ⟨s.gr, 0, none⟩) s.regs.length s.cR, .slice s.Ao s.obs.length s.co, .slice s.Ag s.gone.length s.cg] :: rowI 107 2 (some ⟨s.gr, 0, none⟩) s.regs.length s.cR (vals s.regs) :: rowI 119 1 s.Ao s.obs.length s.co (s.obs.map Ob.val) :: rowI 4 1 s.Ag s.gone.length s.cg (bools s.gone) :: s.obs.map obI
def rmI (Bm : Nat) (s : RMem) : Item := allI (rmL Bm s)
def absR (s : RMem) : MSt := ⟨s.regs, s.obs.map Ob.fields⟩
def RMem.setR (s : RMem) (r : Nat) (v : Val) : RMem := { s with regs := s.regs.set r v }
def Ob.put (o : Ob) (k : Nat) (v : Val) : Ob := ⟨o.A, o.n, o.c, o.fields.set k v⟩
def RMem.setO (s : RMem) (i k : Nat) (v : Val) (h : i < s.obs.length) : RMem := { s with obs := s.obs.set i (s.obs[i].put k v) }
def RMem.newO (s : RMem) (Ao : Option Addr) (co : Nat) (Ag : Option Addr) (cg gn R N : Nat) : RMem := ⟨s.gr, s.cR, s.regs.set R (true, s.obs.length), Ao, co, s.obs ++ [⟨some ⟨gn, 0, none⟩, N, N, zeroVs N⟩], Ag, cg, s.gone ++ [false]⟩
theorem absR_put (s : RMem) (i k : Nat) (v : Val) (hi : i < s.obs.length) : absR (s.setO i k v hi) = ⟨s.regs, (absR s).objs.set i (s.obs[i].fields.set k v)⟩ := by
  unfold absR RMem.setO
  simp [List.map_set, Ob.put]
section
variable {Bm : Nat} {s : RMem} {w : World}
theorem rm_mem (hP : (rmI Bm s).P w) : w.cell? ⟨Bm, 0, none⟩ = some (.slice (some ⟨s.gr, 0, none⟩) s.regs.length s.cR) ∧ w.cell? ⟨Bm, 1, none⟩ = some (.slice s.Ao s.obs.length s.co) ∧ w.cell? ⟨Bm, 2, none⟩ = some (.slice s.Ag s.gone.length s.cg) ∧ Bm < w.heap.size ∧ (∀ i, w.frozen? ⟨Bm, i, none⟩ = false) := by
  obtain ⟨c1, c2, c3, _⟩ := ((Sep.start hP).flat).rules 0 (g := Bm) (t := 176) rfl
  exact ⟨(c1 0).trans rfl, (c1 1).trans rfl, (c1 2).trans rfl, c3, c2⟩
theorem rm_reg (hP : (rmI Bm s).P w) (h8 : s.regs.length = 8) (r : Nat) (hr : r < 8) : w.cell? ⟨s.gr, r * 2, none⟩ = some (.bool (rgA s.regs r).1) ∧ w.cell? ⟨s.gr, r * 2 + 1, none⟩ = some (.int .i64 (rgA s.regs r).2) ∧ w.frozen? ⟨s.gr, r * 2, none⟩ = false ∧ w.frozen? ⟨s.gr, r * 2 + 1, none⟩ = false ∧ s.gr < w.heap.size := by
  have h1 : (rowI 107 2 (some ⟨s.gr, 0, none⟩) s.regs.length s.cR (vals s.regs)).P w := ((Sep.start hP).flat).get 1 rfl
  obtain ⟨a, b, c, d⟩ := hrow_val h1 r (by omega) (by omega)
  have hg : rgA s.regs (r : Int) = s.regs[r] := by unfold rgA; rw [show ((r : Int)).toNat = r from by omega, List.getD_eq_getElem?_getD, List.getElem?_eq_getElem (by omega)]; rfl
  rw [hg]
  exact ⟨a, b, c, d, ((Sep.start hP).flat).hi 1 rfl _ rfl⟩
theorem rm_len (hP : (rmI Bm s).P w) {o : Ob} (ho : o ∈ s.obs) : o.fields.length = o.n := by
  have h1 := ((Sep.start hP).flat).all (obI o) (by unfold rmL; simp only [List.mem_cons, List.mem_map]; exact .inr (.inr (.inr (.inr ⟨o, ho, rfl⟩))))
  have h2 : (vals o.fields).length = o.n * 2 := (show w.ownsRow 0 107 2 (.slice o.A o.n o.c) o.n (vals o.fields) from h1).1
  rw [vals_length] at h2; omega
theorem rm_ob (hP : (rmI Bm s).P w) {i : Nat} (hi : i < s.obs.length) : ∃ ga, s.Ao = some ⟨ga, 0, none⟩ ∧ w.cell? ⟨ga, i, none⟩ = some (.slice s.obs[i].A s.obs[i].n s.obs[i].c) ∧ ga < w.heap.size := by
  have h1 : (rowI 119 1 s.Ao s.obs.length s.co (s.obs.map Ob.val)).P w := ((Sep.start hP).flat).get 2 rfl
  obtain ⟨ga, hga⟩ := hown_addr (show w.ownsRow 0 119 1 (.slice s.Ao s.obs.length s.co) s.obs.length _ from h1) (by omega)
  obtain ⟨ad, hA, _, had, hc⟩ := (Rd.of_own (D := fun _ => True) (show w.ownsRow 0 119 1 (.slice s.Ao s.obs.length s.co) s.obs.length _ from h1) (fun _ _ => trivial)).at_ hi
  have h2 := hc _ (show (s.obs.map Ob.val)[i]? = some (.slice s.obs[i].A s.obs[i].n s.obs[i].c) from by simp [List.getElem?_eq_getElem hi, Ob.val])
  obtain rfl : (⟨ga, 0, none⟩ : Addr) = ad := by rw [hga] at hA; injection hA
  rw [hraddr0] at h2
  exact ⟨ga, hga, h2, had⟩
theorem rm_field (hP : (rmI Bm s).P w) {i k : Nat} (hi : i < s.obs.length) (hk : k < s.obs[i].fields.length) : ∃ g2, s.obs[i].A = some ⟨g2, 0, none⟩ ∧ w.cell? ⟨g2, k * 2, none⟩ = some (.bool s.obs[i].fields[k].1) ∧ w.cell? ⟨g2, k * 2 + 1, none⟩ = some (.int .i64 s.obs[i].fields[k].2) ∧ w.frozen? ⟨g2, k * 2, none⟩ = false ∧ w.frozen? ⟨g2, k * 2 + 1, none⟩ = false ∧ g2 < w.heap.size := by
  have hn := rm_len hP (List.getElem_mem hi)
  have h1 : (obI s.obs[i]).P w := ((Sep.start hP).flat).all _ (by unfold rmL; simp only [List.mem_cons, List.mem_map]; exact .inr (.inr (.inr (.inr ⟨_, List.getElem_mem hi, rfl⟩))))
  obtain ⟨g2, hg2⟩ := hown_addr (show w.ownsRow 0 107 2 (.slice s.obs[i].A s.obs[i].n s.obs[i].c) s.obs[i].n _ from h1) (by omega)
  have h2 : (rowI 107 2 (some ⟨g2, 0, none⟩) s.obs[i].n s.obs[i].c (vals s.obs[i].fields)).P w := by rw [← hg2]; exact h1
  obtain ⟨a, b, c, d⟩ := hrow_val h2 k (by omega) hk
  exact ⟨g2, hg2, a, b, c, d, (obI s.obs[i]).dom w h1 g2 (by show (Value.slice s.obs[i].A s.obs[i].n s.obs[i].c).ownBlock = some g2; rw [hg2]; rfl)⟩
theorem rm_setR (hP : (rmI Bm s).P w) (r : Nat) (v : Val) : Sep (rmI Bm s).fp w ((w.setCell ⟨s.gr, r * 2, none⟩ (.bool v.1)).setCell ⟨s.gr, r * 2 + 1, none⟩ (.int .i64 v.2)) [rmI Bm (s.setR r v)] := by
  have h := ((Sep.start hP).flat).store2 1 rfl (r * 2) (.bool v.1) (.int .i64 v.2)
  unfold rmL at h
  simp only [List.set_cons_succ, List.set_cons_zero, vals_set2] at h
  refine Sep.fold (l := rmL Bm (s.setR r v)) ?_
  unfold rmL RMem.setR
  dsimp only
  rw [List.length_set]
  exact h
theorem obs_put (l : List Ob) (i k : Nat) (v : Val) (h : i < l.length) : (l.set i (l[i].put k v)).map Ob.val = l.map Ob.val := by
  rw [List.map_set]
  refine List.ext_getElem (by simp) fun j h1 h2 => ?_
  rw [List.getElem_set]
  split
  · rename_i e; subst e; simp [Ob.put, Ob.val]
  · rfl
theorem rm_setO (hP : (rmI Bm s).P w) {i k g2 : Nat} (hi : i < s.obs.length) (hA : s.obs[i].A = some ⟨g2, 0, none⟩) (v : Val) : Sep (rmI Bm s).fp w ((w.setCell ⟨g2, k * 2, none⟩ (.bool v.1)).setCell ⟨g2, k * 2 + 1, none⟩ (.int .i64 v.2)) [rmI Bm (s.setO i k v hi)] := by
  obtain ⟨pre, hpre⟩ : ∃ pre, pre = [blkI Bm 176 #[.slice (some ⟨s.gr, 0, none⟩) s.regs.length s.cR, .slice s.Ao s.obs.length s.co, .slice s.Ag s.gone.length s.cg], rowI 107 2 (some ⟨s.gr, 0, none⟩) s.regs.length s.cR (vals s.regs), rowI 119 1 s.Ao s.obs.length s.co (s.obs.map Ob.val), rowI 4 1 s.Ag s.gone.length s.cg (bools s.gone)] := ⟨_, rfl⟩
  have h0 : Sep (rmI Bm s).fp w w (pre ++ s.obs.map obI) := by rw [hpre]; exact (Sep.start hP).flat
  have h1 := h0.focus (j := i) (t := s.obs[i]) (List.getElem?_eq_getElem hi)
  have he : obI s.obs[i] = rowI 107 2 (some ⟨g2, 0, none⟩) s.obs[i].n s.obs[i].c (vals s.obs[i].fields) := by unfold obI; rw [hA]
  rw [he] at h1
  have h2 := h1.store2 0 rfl (k * 2) (.bool v.1) (.int .i64 v.2)
  rw [List.set_cons_zero, vals_set2] at h2
  have he2 : obI (s.obs[i].put k v) = rowI 107 2 (some ⟨g2, 0, none⟩) s.obs[i].n s.obs[i].c (vals (s.obs[i].fields.set k (v.1, v.2))) := by unfold obI Ob.put; dsimp only; rw [hA]
  rw [← he2] at h2
  have h3 := h2.unfocus (l := s.obs) (j := i) hi
  refine Sep.fold (l := rmL Bm (s.setO i k v hi)) ?_
  unfold rmL RMem.setO
  dsimp only
  rw [obs_put s.obs i k v hi, List.length_set]
  rw [hpre] at h3
  exact h3
end
end Go.Proofs.Ytjphckfbbiehdaa

namespace Go.Proofs.Ytjphckfbbiehdaa
open Go.RowKit
def absI (s : Idl) : MSt := ⟨s.regs, s.ps.map fun p => p.o.fields⟩
def DoOk (Bm Be : Nat) (s : Idl) (w : World) (d : DoV) : Prop :=
  Calls Try.prog 43 #[.pointer (some ⟨Bm, 0, none⟩), .agg d.cells] w fun e w' => ∃ s', e = .returned (stepM d (absI s)).1.val ∧ absI s' = (stepM d (absI s)).2 ∧ Sep (idI Bm Be s).fp w w' [idI Bm Be s']
theorem ferr_zero {objs : List (List Val)} {v : Val} {at_ : Int} (h : fErr objs v at_ = 0) : v.1 = true ∧ 0 ≤ at_ ∧ at_ < ((obA objs v.2).length : Int) := by
  unfold fErr at h
  split at h
  · omega
  · rename_i h1
    split at h
    · omega
    · exact ⟨by simpa using h1, by omega, by omega⟩
end Go.Proofs.Ytjphckfbbiehdaa
